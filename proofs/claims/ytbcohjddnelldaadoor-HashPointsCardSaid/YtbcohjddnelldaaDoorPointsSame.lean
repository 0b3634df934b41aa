/-
  The walk of the law's 'same' of two rows that hold the same numbers.
-/
import Derived.Test.YtbcohjddnelldaaDoorPoints
namespace Go.Proofs.YtbcohjddnelldaaDoor.Pts
open Go.RowKit Base Tail Digits HashPlain HashW
set_option linter.unusedVariables false

/-- The slice holds those numbers. -/
def Nums (w : World) (B : Nat) (A : Option Addr) (L : List Nat) : Prop := Row w B A (L.map u32v)
theorem Nums.at_ {w : World} {B : Nat} {A : Option Addr} {L : List Nat} (h : Nums w B A L) (k : Nat) (hk : k < L.length) : ∃ b off, A = some ⟨b, off, none⟩ ∧ b < B ∧ w.cell? ⟨b, off + k, none⟩ = some (.int .u32 (L[k] : Int)) := by
  obtain ⟨b, off, e, hb, hc⟩ := h (by simp; omega)
  exact ⟨b, off, e, hb, hc k _ (by simp [u32v, hk])⟩
theorem Nums.drewN {w : World} {B : Nat} {A : Option Addr} {L : List Nat} (h : Nums w B A L) (n : Nat) : Nums (w.drewN n) B A L := h
theorem NumRow.nums {w : World} {g : Nat} {L : List Nat} (h : NumRow w g L) (B : Nat) (hB : g < B) : Nums w B (some ⟨g, 0, none⟩) L := fun _ => ⟨g, 0, rfl, hB, fun j v hv => by
  rw [Nat.zero_add, cell_of_row w g j _ _ _ h]
  simpa using hv⟩
theorem NumRow.numsTake {w : World} {g : Nat} {L : List Nat} (h : NumRow w g L) (B n : Nat) (hB : g < B) : Nums w B (some ⟨g, 0, none⟩) (L.take n) := fun _ => ⟨g, 0, rfl, hB, fun j v hv => by
  rw [Nat.zero_add, cell_of_row w g j _ _ _ h]
  rw [List.map_take, List.getElem?_take] at hv
  split at hv
  · simpa using hv
  · cases hv⟩

set_option maxRecDepth 100000 in
set_option maxHeartbeats 800000 in
theorem sameC (A A' : Option Addr) (c c' B B' : Nat) (L : List Nat) (n : Nat) (hn : L.length = n) (w : World) (ha : Nums w B A L) (hb : Nums w B' A' L) (hl : n ≤ maxLen) :
    Calls Tryd.prog 9 #[.slice A n c, .slice A' n c'] w fun e w' => e = .returned (.bool true) ∧ ∃ m, w.drewN m = w' := by
  unfold maxLen at hl
  replace hn := Lib.hid hn
  go_enter Tryd.func9, Tryd.ntmps9
  go_wp2_with fail
  go_loopw [5] (fun i wr => ∃ k m : Nat, k ≤ n ∧ i = .int .i64 (k : Int) ∧ w.drewN m = wr) (fun i _ => n - (intOf i).toNat)
  case atStart => exact ⟨0, 0, Nat.zero_le _, rfl, rfl⟩
  case round =>
    obtain ⟨k, m, hk, rfl, hm⟩ := hrel
    by_cases hlt : k < n
    · obtain ⟨b1, o1, rfl, h1, c1⟩ := ha.at_ k (by rw [hn.out]; exact hlt)
      obtain ⟨b2, o2, rfl, h2, c2⟩ := hb.at_ k (by rw [hn.out]; exact hlt)
      have d1 : wr.cell? ⟨b1, o1 + k, none⟩ = some (.int .u32 ((L[k]'(by rw [hn.out]; exact hlt) : Nat) : Int)) := by rw [← hm]; exact c1
      have d2 : wr.cell? ⟨b2, o2 + k, none⟩ = some (.int .u32 ((L[k]'(by rw [hn.out]; exact hlt) : Nat) : Int)) := by rw [← hm]; exact c2
      clear c1 c2
      generalize (L[k]'(by rw [hn.out]; exact hlt)) = x at *
      go_wp2_with fail
      go_quiet (fail)
      have hm2 : w.drewN (m + nq) = wr.drewN nq := by rw [← hm]; exact (World.drewN_drewN _ _ _).symm
      go_wp2
      go_roundw
      case rel => exact ⟨k + 1, _, by omega, by go_num, hm2⟩
      case measure => simp [intOf]; omega
    · obtain rfl : k = n := by omega
      go_wp2
      go_ret
      exact ⟨rfl, m, hm⟩
end Go.Proofs.YtbcohjddnelldaaDoor.Pts
