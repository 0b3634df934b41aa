/-
  The walks of good (a Set of a config that is right) and of For.
-/
import Derived.Test.YtgodinapdahocaaClassTold
namespace Go.Proofs.Ytgodinapdahocaa.Cls
open Go.RowKit Base MapG
set_option linter.unusedVariables false

set_option maxRecDepth 100000 in
set_option maxHeartbeats 1600000 in
theorem goodC (w : World) (c : Conf) :
    Calls Try.prog 23 #[.agg c.cells] w fun e w' => Below w.heap.size w w' ∧
      ((heavyB c = true ∨ refN c ≠ 0) ∧ e = .returned (.tuple #[.pointer none, .bool true]) ∨
        heavyB c = false ∧ refN c = 0 ∧ ∃ L, e = .returned (.tuple #[.pointer (some ⟨L.g, 0, none⟩), .bool false]) ∧ SetAt w' L c (new0 c.cf) (List.replicate (c.cf.ps * c.cf.np) 0) ∧ ∀ b, Foot L c (new0 c.cf) b → w.heap.size ≤ b) := by
  obtain ⟨w1, hw1⟩ : ∃ w1, w1 = w.alloc (.cells c.cells 27) := ⟨_, rfl⟩
  have B1 : Blk w1 w.heap.size 27 c.cells := by rw [hw1]; exact Blk.new w _ _
  have b1 : Below w.heap.size w w1 := by rw [hw1]; exact (Below.refl _ _).alloc (Nat.le_refl _) _
  have s1 : w1.heap.size = w.heap.size + 1 := by rw [hw1]; exact World.size_alloc _ _
  obtain ⟨x0, x1, x2, x3, x4, x5, x6⟩ := conf_cells B1
  have H1 := heavyC w1 c
  have CC := Lib.hid (configC c)
  have RC := fun w => refusedC c w
  have NC := Lib.hid (fun w => newC w c)
  have n1 := Lib.hid numC
  unfold Conf.cells at H1 CC NC hw1 ⊢
  unfold Conf.rcells at CC RC
  replace H1 := Lib.hid H1
  replace hw1 := Lib.hid hw1
  replace B1 := Lib.hid B1
  generalize hN : w.heap.size = N at *
  replace hN := Lib.hid hN
  go_enter Try.func23, Try.ntmps23
  go_upto_region 1 with fail
  rw [hN.out, ← hw1.out]
  go_wp2_with fail
  refine H1.out.mono ?_
  rintro e w2 ⟨rfl, b2⟩
  have s2 := b2.size
  have B2 := B1.out.below b2 (by omega)
  have bb2 := Lib.hid (b1.trans (b2.mono (show N ≤ w1.heap.size by omega)))
  clear H1 B1 b1 b2 hw1 x0 x1 x2 x3 x4 x5 x6
  by_cases hh : heavyB c = true
  · rw [hh]
    replace hh := Lib.hid hh
    replace RC := Lib.hid RC
    clear B2
    go_wp2
    go_ret2
    exact ⟨bb2.out, .inl ⟨.inl hh.out, rfl⟩⟩
  have hh' : heavyB c = false := by simpa using hh
  rw [hh']
  replace hh' := Lib.hid hh'
  clear hh
  obtain ⟨y0, y1, y2, y3, y4, y5, y6⟩ := conf_cells B2
  replace B2 := Lib.hid B2
  have C2 := Lib.hid (CC.out w2)
  by_cases hr : refN c = 0
  rotate_left
  · have hrh := Lib.hid hr
    rcases refN_three hr with e | e | e
    all_goals
      rw [e] at RC
      replace RC := Lib.hid RC
      clear e hr
      go_wp2_with fail
      refine C2.out.mono ?_
      rintro e w3 ⟨rfl, b3⟩
      have s3 := b3.size
      have bb3 := Lib.hid (bb2.out.trans (b3.mono (show N ≤ w2.heap.size by omega)))
      clear C2 B2 bb2 b3 y0 y1 y2 y3 y4 y5 y6
      go_wp2_with fail
      refine (RC.out _).mono ?_
      rintro e w4 ⟨rfl, b4⟩
      have bb4 := Lib.hid (bb3.out.trans (b4.mono (show N ≤ w3.heap.size by omega)))
      clear RC bb3 b4
      go_wp2
      go_ret2
      exact ⟨bb4.out, .inl ⟨.inr hrh.out, rfl⟩⟩
  rw [hr] at RC
  replace RC := Lib.hid RC
  replace hr := Lib.hid hr
  go_wp2_with fail
  refine C2.out.mono ?_
  rintro e w3 ⟨rfl, b3⟩
  have s3 := b3.size
  have B3 := B2.out.below b3 (by omega)
  have bb3 := Lib.hid (bb2.out.trans (b3.mono (show N ≤ w2.heap.size by omega)))
  clear C2 B2 bb2 b3 y0 y1 y2 y3 y4 y5 y6
  replace B3 := Lib.hid B3
  go_wp2_with fail
  refine (RC.out _).mono ?_
  rintro e w4 ⟨rfl, b4⟩
  have s4 := b4.size
  have B4 := B3.out.below b4 (by omega)
  have bb4 := Lib.hid (bb3.out.trans (b4.mono (show N ≤ w3.heap.size by omega)))
  obtain ⟨y0, y1, y2, y3, y4, y5, y6⟩ := conf_cells B4
  have N4 := Lib.hid (NC.out w4)
  clear RC NC bb3 b4 B3 B4
  go_wp2_with fail
  refine N4.out.mono ?_
  rintro e w5 ⟨b5, ⟨h0, -⟩ | ⟨-, L, rfl, M, F⟩⟩
  · exact absurd hr.out h0
  have bb5 := Lib.hid (bb4.out.trans (b5.mono (show N ≤ w4.heap.size by omega)))
  have AC := Lib.hid (arenaC w5 L c _ _ M)
  replace M := Lib.hid M
  replace F := Lib.hid F
  clear N4 bb4 b5 y0 y1 y2 y3 y4 y5 y6
  go_wp2_with (first | (go_at_call 11; refine (n1.out _ _).mono ?_; rintro e w' ⟨rfl, rfl⟩) | (go_at_call 48; refine AC.out.mono ?_; rintro e w' ⟨rfl, rfl⟩) | fail)
  go_ret2
  exact ⟨bb5.out, .inr ⟨hh'.out, hr.out, L, rfl, M.out, fun b hb => by have := F.out b hb; omega⟩⟩
/-- What For answers: the first class whose chunks are long enough. -/
def ForIs (c : Conf) (n : Int) (a b : Int) : Prop := n < 1 ∧ a = 0 ∧ b = 1 ∨ 1 ≤ n ∧ b = 0 ∧ (∃ k : Nat, a = k ∧ k < c.nc ∧ n ≤ c.sz k ∧ ∀ j, j < k → (c.sz j : Int) < n) ∨ 1 ≤ n ∧ a = 0 ∧ b = 6 ∧ ∀ j, j < c.nc → (c.sz j : Int) < n
set_option maxRecDepth 100000 in
theorem forC (w : World) (L : Lay) (c : Conf) (s : St) (bs : List UInt8) (h : SetAt w L c s bs) (n : Int) :
    Calls Try.prog 24 #[.pointer (some ⟨L.g, 0, none⟩), .int .i64 n] w fun e w' => ∃ a b, e = .returned (.tuple #[.int .i64 a, .int .i64 b]) ∧ ForIs c n a b ∧ w = w' := by
  have c8 := h.cSizes
  have CZ := Lib.hid (fun k hk => h.sz (k := k) hk)
  have hnc : c.nc ≤ 62 := h.okc.ncb
  clear h
  by_cases h1 : n < 1
  · have d1 : decide (n < 1) = true := by simp; omega
    have hf := Lib.hid (show ForIs c n 0 1 from .inl ⟨h1, rfl, rfl⟩)
    clear h1
    go_enter Try.func24, Try.ntmps24
    go_wp2
    go_ret2
    exact ⟨0, 1, rfl, hf.out, rfl⟩
  have d1 : decide (n < 1) = false := by simp; omega
  go_enter Try.func24, Try.ntmps24
  go_wp2
  go_loopw [15] (fun v wr => ∃ k : Nat, v = .int .i64 (k : Int) ∧ k ≤ c.nc ∧ Hid (∀ j, j < k → (c.sz j : Int) < n) ∧ w = wr) (fun v _ => c.nc - (intOf v).toNat)
  case atStart => exact ⟨0, rfl, Nat.zero_le _, Lib.hid (fun j hj => by omega), rfl⟩
  case round =>
    obtain ⟨k, rfl, hk, hlow, rfl⟩ := hrel
    by_cases hkn : k < c.nc
    · have e1 : decide ((k : Int) < (c.nc : Int)) = true := by simp; omega
      have k0 : (0 : Int) ≤ (k : Int) := by omega
      have k1 : (k : Int) < (c.nc : Int) := by omega
      have cz := CZ.out k hkn
      have q1 : IntKind.i64.wrap ((k : Int) + 1) = (k : Int) + 1 := IntWalk.i64_in _ (by omega)
      by_cases hz : n ≤ (c.sz k : Int)
      · have e2 : decide (n ≤ (c.sz k : Int)) = true := by simp; omega
        have hf := Lib.hid (show ForIs c n k 0 from .inr (.inl ⟨by omega, rfl, k, rfl, hkn, hz, hlow.out⟩))
        clear h1 hz
        go_wp2
        go_ret2
        exact ⟨k, 0, rfl, hf.out, rfl⟩
      · have e2 : decide (n ≤ (c.sz k : Int)) = false := by simp; omega
        have hlow2 := Lib.hid (show ∀ j, j < k + 1 → (c.sz j : Int) < n from fun j hj => by
          rcases Nat.lt_or_ge j k with h2 | h2
          · exact hlow.out j h2
          · obtain rfl : j = k := by omega
            omega)
        clear h1 hz
        go_wp2
        go_roundw
        case rel => exact ⟨k + 1, by simp, by omega, hlow2, trivial⟩
        case measure => simp [intOf] <;> omega
    · obtain rfl : k = c.nc := by omega
      have e1 : decide ((c.nc : Int) < (c.nc : Int)) = false := by simp
      have hf := Lib.hid (show ForIs c n 0 6 from .inr (.inr ⟨by omega, rfl, rfl, hlow.out⟩))
      clear h1
      go_wp2
      go_ret2
      exact ⟨0, 6, rfl, hf.out, rfl⟩
end Go.Proofs.Ytgodinapdahocaa.Cls
