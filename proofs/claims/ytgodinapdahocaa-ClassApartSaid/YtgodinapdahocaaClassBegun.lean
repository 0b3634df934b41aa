/-
  The walk of begun: a Set of the program's and one of the document's.
-/
import Derived.Test.YtgodinapdahocaaClassRefNew
namespace Go.Proofs.Ytgodinapdahocaa.Cls
open Go.RowKit Base MapG
set_option linter.unusedVariables false

theorem numC (w : World) (n : Int) : Calls Try.prog 11 #[.int .i64 n] w fun e w' => e = .returned (.int .i64 n) ∧ w = w' := by
  go_enter Try.func11, Try.ntmps11
  go_wp2
  go_ret
  exact ⟨rfl, rfl⟩
theorem arenaC (w : World) (L : Lay) (c : Conf) (s : St) (bs : List UInt8) (h : SetAt w L c s bs) : Calls Try.prog 48 #[.pointer (some ⟨L.g, 0, none⟩)] w fun e w' => e = .returned (.pointer (some ⟨L.ga, 0, none⟩)) ∧ w = w' := by
  have c7 := h.cArena
  clear h
  go_enter Try.func48, Try.ntmps48
  go_wp2
  go_ret
  exact ⟨rfl, rfl⟩
def pairV (L : Lay) (r : Nat) : Array Value := #[.pointer (some ⟨L.g, 0, none⟩), .pointer (some ⟨L.ga, 0, none⟩), .pointer (some ⟨r, 0, none⟩), .slice none 0 0, .slice none 0 0, .slice none 0 0]
theorem RAt.kept {w w' : World} {N b i j : Nat} {c : Conf} (h : RAt w N b c i j) (k : Below w.heap.size w w') : RAt w' N b c i j := by
  obtain ⟨vS, A, cp, A', cp', A2, cp2, B, oS, hS, oO, oG, oR⟩ := h.parts
  exact ⟨h.lt, vS, A, cp, A', cp', A2, cp2, B.below k B.lt, own_kept oS (fun b e => k.block b (own_block oS e)), hS, own_kept oO (fun b e => k.block b (own_block oO e)), own_kept oG (fun b e => k.block b (own_block oG e)), own_kept oR (fun b e => k.block b (own_block oR e))⟩
theorem RAt.weak {w : World} {N M b i j : Nat} {c : Conf} (h : RAt w N b c i j) (k : M ≤ N) : RAt w M b c i j := by
  obtain ⟨vS, A, cp, A', cp', A2, cp2, B, oS, hS, oO, oG, oR⟩ := h.parts
  exact ⟨Nat.le_trans k h.lt, vS, A, cp, A', cp', A2, cp2, B, own_weak oS k, hS, oO, oG, oR⟩
set_option maxRecDepth 100000 in
set_option maxHeartbeats 1600000 in
theorem begunC (w : World) (c : Conf) (hr : refN c = 0) :
    Calls Try.prog 40 #[.agg c.cells] w fun e w' => Below w.heap.size w w' ∧ ∃ b L r, e = .returned (.pointer (some ⟨b, 0, none⟩)) ∧ Blk w' b 88 (pairV L r) ∧
      SetAt w' L c (new0 c.cf) (List.replicate (c.cf.ps * c.cf.np) 0) ∧ (∀ k, Foot L c (new0 c.cf) k → w.heap.size ≤ k ∧ k < b) ∧ w.heap.size ≤ b ∧ RAt w' w.heap.size r c c.cf.np c.nc := by
  obtain ⟨w1, hw1⟩ : ∃ w1, w1 = w.alloc (.cells c.cells 27) := ⟨_, rfl⟩
  have B1 : Blk w1 w.heap.size 27 c.cells := by rw [hw1]; exact Blk.new w _ _
  have b1 : Below w.heap.size w w1 := by rw [hw1]; exact (Below.refl _ _).alloc (Nat.le_refl _) _
  have s1 : w1.heap.size = w.heap.size + 1 := by rw [hw1]; exact World.size_alloc _ _
  obtain ⟨x0, x1, x2, x3, x4, x5, x6⟩ := conf_cells B1
  have CC := Lib.hid (configC c w1)
  have RC := Lib.hid (fun w => refNewC w c)
  have NC := Lib.hid (fun w => newC w c)
  have n1 := fun w => numC w 0
  unfold Conf.cells at CC NC hw1 ⊢
  unfold Conf.rcells at CC RC
  replace hw1 := Lib.hid hw1
  replace B1 := Lib.hid B1
  generalize hN : w.heap.size = N at *
  replace hN := Lib.hid hN
  go_enter Try.func40, Try.ntmps40
  go_upto_region 1 with fail
  rw [hN.out, ← hw1.out]
  go_wp2_with fail
  refine CC.out.mono ?_
  rintro e w2 ⟨rfl, b2⟩
  have B2 := B1.out.below b2 (by omega)
  have b12 := Lib.hid (b1.trans (b2.mono (B' := N) (by omega)))
  have s2 := b2.size
  have RC2 := Lib.hid (RC.out w2)
  clear x0 x1 x2 x3 x4 x5 x6 CC RC b1 b2 hw1 B1
  go_wp2_with fail
  refine RC2.out.mono ?_
  rintro e w3 ⟨b3, ⟨h0, -⟩ | ⟨-, r, rfl, R⟩⟩
  · exact absurd hr h0
  have B3 := B2.below b3 (by omega)
  have b13 := Lib.hid (b12.out.trans (b3.mono (B' := N) (by omega)))
  have s3 := b3.size
  have NC3 := Lib.hid (NC.out w3)
  obtain ⟨x0, x1, x2, x3, x4, x5, x6⟩ := conf_cells B3
  replace R := Lib.hid R
  clear RC2 NC b3 b12 B2 B3
  go_wp2_with fail
  refine NC3.out.mono ?_
  rintro e w4 ⟨b4, ⟨h0, -⟩ | ⟨-, L, rfl, M, F⟩⟩
  · exact absurd hr h0
  have R4 := Lib.hid (RAt.kept R.out b4)
  have b14 := Lib.hid (b13.out.trans (b4.mono (B' := N) (by omega)))
  have s4 := b4.size
  have AC := Lib.hid (arenaC w4 L c _ _ M)
  replace M := Lib.hid M
  replace F := Lib.hid F
  clear x0 x1 x2 x3 x4 x5 x6 NC3 b4 R b13
  go_wp2_with (first | (go_at_call 11; refine (n1 _).mono ?_; rintro e w' ⟨rfl, rfl⟩) | (go_at_call 48; refine AC.out.mono ?_; rintro e w' ⟨rfl, rfl⟩) | fail)
  go_ret
  exact ⟨b14.out.alloc (by omega) _, _, L, r, rfl, Blk.new w4 _ _, M.out.alloc _, fun k hk => ⟨by have := F.out k hk; omega, M.out.lt hk⟩, by omega, (R4.out.weak (by omega)).kept ((Below.refl _ w4).alloc (Nat.le_refl _) _)⟩
/-- A block that is none of the Set's. -/
theorem Went.away {w w' : World} {L L' : Lay} {c : Conf} {s s' : St} (h : Went w w' L L' c s s') {b : Nat} {t : TypeId} {cs : Array Value} (B : Blk w b t cs) (ha : ¬ Foot L c s b) : Blk w' b t cs ∧ ¬ Foot L' c s' b :=
  ⟨(h.only.block b B.lt ha).trans B, fun hf => (h.foot b hf).elim ha fun h1 => by have := B.lt; omega⟩
theorem Went.below {w w' : World} {L L' : Lay} {c : Conf} {s s' : St} (h : Went w w' L L' c s s') {N : Nat} (F : ∀ b, Foot L c s b → N ≤ b) (hN : N ≤ w.heap.size) : Below N w w' ∧ (∀ b, Foot L' c s' b → N ≤ b) ∧ N ≤ w'.heap.size :=
  ⟨⟨h.only.os, h.only.tape, h.only.output, h.only.size, fun k hk => h.only.block k (by omega) fun hf => by have := F k hf; omega⟩, fun b hf => (h.foot b hf).elim (F b) fun h1 => by omega, Nat.le_trans hN h.only.size⟩
def cw : Conf := ⟨4096, 3, 200, 64, 256, 0, 0⟩
theorem cw_ref : refN cw = 0 := by kernel_rfl
theorem cw_nc : cw.nc = 3 := by kernel_rfl
end Go.Proofs.Ytgodinapdahocaa.Cls
