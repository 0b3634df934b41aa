/-
  The walk of Of.
-/
import Derived.Test.YtgodinapdahocaaClassAsk
namespace Go.Proofs.Ytgodinapdahocaa.Cls
open Go.RowKit Base MapG
set_option linter.unusedVariables false

def ofN (d : Cf) (s : St) (p : Int) : Option Nat :=
  match chunkN d s p with
  | some (i, x) => if s.tkn i x = true then some (hnd p.toNat (s.gens i x)) else none
  | none => none
def ofV : Option Nat → Value
  | some h => .tuple #[.int .u64 (h : Int), .bool true]
  | none => .tuple #[.int .u64 0, .bool false]
theorem chunkN_some {d : Cf} {s : St} (g : Good d s) {p : Int} {i x : Nat} (h : chunkN d s p = some (i, x)) : i < d.np ∧ s.own i = true ∧ x < d.n (s.cls i) ∧ 0 ≤ p ∧ p < ((d.ps * d.np : Nat) : Int) := by
  unfold chunkN at h
  split at h
  · rename_i hp
    split at h
    · rename_i hh
      injection h with h
      injection h with e1 e2
      rw [e1] at hh e2
      rw [e2] at hh
      exact ⟨g.top i hh.1, hh.1, hh.2.2, hp.1, hp.2⟩
    · cases h
  · cases h
set_option maxRecDepth 100000 in
theorem ofC (w : World) (L : Lay) (c : Conf) (s : St) (bs : List UInt8) (h : SetAt w L c s bs) (g : Good c.cf s) (p : Int) :
    Calls Try.prog 56 #[.pointer (some ⟨L.g, 0, none⟩), .int .i64 p] w fun e w' => e = .returned (ofV (ofN c.cf s p)) ∧ ∃ m, w.drewN m = w' := by
  have CC := chunkC w L c s bs h g p
  unfold ofN
  cases hc : chunkN c.cf s p with
  | none =>
    rw [hc] at CC
    unfold chunkV at CC
    unfold ofV
    simp only at CC ⊢
    replace CC := Lib.hid CC
    clear h g hc
    go_enter Try.func56, Try.ntmps56
    go_wp2_with fail
    refine CC.out.mono ?_
    rintro e w' ⟨rfl, m, rfl⟩
    go_wp2
    go_ret2
    exact ⟨rfl, _, rfl⟩
  | some r =>
    obtain ⟨i, x⟩ := r
    obtain ⟨h1, h2, h3, h4, h5⟩ := chunkN_some g hc
    rw [hc] at CC
    unfold chunkV at CC
    simp only at CC ⊢
    have x0 : (0 : Int) ≤ (x : Int) := by omega
    have x1 : (x : Int) < (c.cf.n (s.cls i) : Int) := by omega
    have p4 := fun m => (h.drewN m).p4 h1 h2
    have tk := fun m => (h.drewN m).tk h1 h2 h3
    cases ht : s.tkn i x with
    | false =>
      rw [if_neg (by simp)]
      unfold ofV
      simp only [ht] at tk
      replace CC := Lib.hid CC
      clear h g hc
      go_enter Try.func56, Try.ntmps56
      go_wp2_with fail
      refine CC.out.mono ?_
      rintro e w' ⟨rfl, m, rfl⟩
      have p4 := p4 m
      have tk := tk m
      go_wp2
      go_ret2
      exact ⟨rfl, _, rfl⟩
    | true =>
      rw [if_pos rfl]
      unfold ofV
      simp only [ht] at tk
      have p3 := fun m => (h.drewN m).p3 h1 h2
      have gn := fun m => (h.drewN m).gen h1 h2 h3
      have hgb := g.gen i x
      have ok := h.okc
      have hpb : c.cf.ps * c.cf.np ≤ 1048576 * 1024 := Nat.mul_le_mul ok.psb ok.npb
      obtain ⟨P, rfl⟩ := Int.eq_ofNat_of_zero_le h4
      have HC := Lib.hid fun W => handleC W P (s.gens i x) (by omega) hgb
      rw [Int.toNat_natCast]
      replace CC := Lib.hid CC
      clear h g hc ok hpb h5
      go_enter Try.func56, Try.ntmps56
      go_wp2_with fail
      refine CC.out.mono ?_
      rintro e w' ⟨rfl, m, rfl⟩
      have p4 := p4 m
      have tk := tk m
      have p3 := p3 m
      have gn := gn m
      go_wp2_with fail
      refine (HC.out _).mono ?_
      rintro e w' ⟨rfl, rfl⟩
      go_wp2
      go_ret2
      exact ⟨rfl, _, rfl⟩
end Go.Proofs.Ytgodinapdahocaa.Cls
