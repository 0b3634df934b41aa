/-
  The walks of the document's right, and of the config as the document has it.
-/
import Derived.Test.YtgodinapdahocaaClassConf
namespace Go.Proofs.Ytgodinapdahocaa.Cls
open Go.RowKit Base
set_option linter.unusedVariables false

/-- The pages asked, in turn. -/
def kq (j : Nat) : Nat := 4096 * 2 ^ j
theorem kq_low {j : Nat} (h : j < 9) : kq j ≤ 1048576 := by
  have : 2 ^ j ≤ 2 ^ 8 := Nat.pow_le_pow_right (by omega) (by omega)
  unfold kq
  omega
theorem kq_pos (j : Nat) : 1 ≤ kq j := by
  have : 1 ≤ 2 ^ j := Nat.one_le_two_pow
  unfold kq
  omega
theorem kq_step (j : Nat) : kq (j + 1) = 2 * kq j := by unfold kq; rw [Nat.pow_succ]; omega
theorem page9_kq {j : Nat} (h : j < 9) : Page9 (kq j : Int) := by
  unfold Page9
  match j, h with
  | 0, _ => exact .inl rfl
  | 1, _ => exact .inr (.inl rfl)
  | 2, _ => exact .inr (.inr (.inl rfl))
  | 3, _ => exact .inr (.inr (.inr (.inl rfl)))
  | 4, _ => exact .inr (.inr (.inr (.inr (.inl rfl))))
  | 5, _ => exact .inr (.inr (.inr (.inr (.inr (.inl rfl)))))
  | 6, _ => exact .inr (.inr (.inr (.inr (.inr (.inr (.inl rfl))))))
  | 7, _ => exact .inr (.inr (.inr (.inr (.inr (.inr (.inr (.inl rfl)))))))
  | 8, _ => exact .inr (.inr (.inr (.inr (.inr (.inr (.inr (.inr rfl)))))))
theorem page9_not {p : Int} (h : ∀ i, i < 9 → p ≠ (kq i : Int)) : ¬ Page9 p := by
  have h0 := h 0 (by omega)
  have h1 := h 1 (by omega)
  have h2 := h 2 (by omega)
  have h3 := h 3 (by omega)
  have h4 := h 4 (by omega)
  have h5 := h 5 (by omega)
  have h6 := h 6 (by omega)
  have h7 := h 7 (by omega)
  have h8 := h 8 (by omega)
  unfold kq at h0 h1 h2 h3 h4 h5 h6 h7 h8
  unfold Page9
  omega
theorem kq_end : kq 9 = 2097152 := by decide

set_option maxRecDepth 100000 in
theorem refRightC (p n : Int) (w : World) : Calls Try.prog 46 #[.int .i64 p, .int .i64 n] w fun e w' => e = .returned (.bool (decide (Page9 p ∧ 1 ≤ n ∧ n ≤ 1024))) ∧ w = w' := by
  obtain ⟨B, hB⟩ : ∃ B, B = decide (Page9 p ∧ 1 ≤ n ∧ n ≤ 1024) := ⟨_, rfl⟩
  rw [← hB]
  replace hB := Lib.hid hB
  go_enter Try.func46, Try.ntmps46
  go_wp2_with fail
  go_loop [5] (fun s => ∃ j : Nat, j ≤ 9 ∧ s = .int .i64 (kq j : Int) ∧ ∀ i, i < j → p ≠ (kq i : Int)) (fun s => 2097152 - (intOf s).toNat)
  case atStart => exact ⟨0, by omega, rfl, fun i hi => by omega⟩
  case round =>
    obtain ⟨j, hj, rfl, hne⟩ := hrel
    by_cases h9 : j < 9
    · have k1 := kq_low h9
      have k2 := kq_pos j
      have k3 := kq_step j
      have k4 := page9_kq h9
      have k5 : p ≠ (kq j : Int) → ∀ i, i < j + 1 → p ≠ (kq i : Int) := fun h i hi => by
        rcases Nat.lt_or_ge i j with h1 | h1
        · exact hne i h1
        · obtain rfl : i = j := by omega
          exact h
      replace k5 := Lib.hid k5
      replace k3 := Lib.hid k3
      replace hne := Lib.hid hne
      generalize hkj : kq j = q at *
      replace hkj := Lib.hid hkj
      have d0 : decide ((q : Int) ≤ 1048576) = true := by simp; omega
      by_cases e1 : p = (q : Int)
      · subst e1
        by_cases e2 : 1 ≤ n
        · have b2 : decide (1 ≤ n) = true := decide_eq_true e2
          by_cases e3 : n ≤ 1024
          · have b3 : decide (n ≤ 1024) = true := decide_eq_true e3
            have hr : Hid (B = true) := Lib.hid (hB.out.trans <| decide_eq_true ⟨k4, e2, e3⟩)
            clear k4
            go_wp2
            go_ret
            exact ⟨by rw [hr.out]; rfl, rfl⟩
          · have b3 : decide (n ≤ 1024) = false := decide_eq_false e3
            have hr : Hid (B = false) := Lib.hid (hB.out.trans <| decide_eq_false fun h => e3 h.2.2)
            clear k4
            go_wp2
            go_ret
            exact ⟨by rw [hr.out]; rfl, rfl⟩
        · have b2 : decide (1 ≤ n) = false := decide_eq_false e2
          have hr : Hid (B = false) := Lib.hid (hB.out.trans <| decide_eq_false fun h => e2 h.2.1)
          clear k4
          go_wp2
          go_ret
          exact ⟨by rw [hr.out]; rfl, rfl⟩
      · have b1 : ((q : Int) == p) = false := by simp; omega
        have b1' : decide ((q : Int) = p) = false := by simp; omega
        have b1'' : ¬ (q : Int) = p := fun h => e1 h.symm
        replace k5 := Lib.hid (k5.out e1)
        clear k4
        go_wp2
        go_round
        case rel => exact ⟨j + 1, by omega, by rw [k3.out]; go_num, k5.out⟩
        case measure => simp [intOf]; omega
    · obtain rfl : j = 9 := by omega
      have hr : Hid (B = false) := Lib.hid (hB.out.trans <| decide_eq_false fun h => page9_not hne h.1)
      clear hne
      rw [kq_end]
      go_wp2
      go_ret
      exact ⟨by rw [hr.out]; rfl, rfl⟩

theorem configC (c : Conf) (w : World) : Calls Try.prog 16 #[.agg c.cells] w fun e w' => e = .returned (.agg c.rcells) ∧ Below w.heap.size w w' := by
  obtain ⟨ps, np, fa, mc, il, hot, warm⟩ := c
  obtain ⟨w1, hw1, b, hs, x0, x1, x2, x3, x4, -, -⟩ := boxedConf w ⟨ps, np, fa, mc, il, hot, warm⟩
  unfold Conf.cells at hw1
  unfold Conf.cells Conf.rcells
  simp only at hw1 x0 x1 x2 x3 x4 ⊢
  replace hw1 := Lib.hid hw1
  go_enter Try.func16, Try.ntmps16
  go_wp2
  exact bodyPost_ret (results_cell_row (P := Try.prog) rfl _ _ (w.heap.size + 1) 34 _ (0, 0) _ rfl (heap_alloc2_new w _ _) Try.underlying34 rfl (by kernel_rfl)) rfl ⟨rfl, ((Below.refl _ _).alloc (Nat.le_refl _) _).alloc (by rw [World.size_alloc]; omega) _⟩
end Go.Proofs.Ytgodinapdahocaa.Cls
