/-
  The walk of the document's Refused: New's error.
-/
import Derived.Test.YtgodinapdahocaaClassConf2
import Derived.Test.YtgodinapdahocaaClassRefSizes
namespace Go.Proofs.Ytgodinapdahocaa.Cls
open Go.RowKit Base
set_option linter.unusedVariables false

set_option maxRecDepth 100000 in
set_option maxHeartbeats 1600000 in
theorem refusedC (c : Conf) (w : World) : Calls Try.prog 15 #[.agg c.rcells] w fun e w' => e = .returned (.int .i64 (refN c)) ∧ Below w.heap.size w w' := by
  have SC := fun h w => refSizesC c h w
  obtain ⟨ps, np, fa, mc, il, hot, warm⟩ := c
  obtain ⟨w1, hw1, b, hs1, x0, x1, x2, x3, x4⟩ := boxedRef w ⟨ps, np, fa, mc, il, hot, warm⟩
  have RC := Lib.hid (refRightC ps np)
  unfold Conf.rcells at hw1 SC ⊢
  simp only at hw1 x0 x1 x2 x3 x4 SC ⊢
  replace hw1 := Lib.hid hw1
  have no : ¬ Right ⟨ps, np, fa, mc, il, hot, warm⟩ → Hid (refN ⟨ps, np, fa, mc, il, hot, warm⟩ = 1) := fun h => Lib.hid (if_neg h)
  go_enter Try.func15, Try.ntmps15
  go_upto_region 1 with fail
  rw [← hw1.out]
  go_wp2_with fail
  refine (RC.out _).mono ?_
  rintro e w' ⟨rfl, rfl⟩
  by_cases p1 : Page9 ps ∧ 1 ≤ np ∧ np ≤ 1024
  rotate_left
  · have hr := no (fun h => p1 ⟨h.ps, h.np1, h.np2⟩)
    rw [decide_eq_false p1]
    clear p1
    go_wp2
    go_ret
    exact ⟨by rw [hr.out]; rfl, b⟩
  rw [decide_eq_true p1]
  obtain ⟨p1, p2, p3⟩ := p1
  replace p1 := Lib.hid p1
  by_cases a6 : fa < 105
  · have hr := no (fun h => by have h1 := h.fa1; simp only at h1; omega)
    have b6 : decide (fa < 105) = true := by simp; omega
    go_wp2
    go_ret
    exact ⟨by rw [hr.out]; rfl, b⟩
  have b6 : decide (fa < 105) = false := by simp; omega
  by_cases a7 : 400 < fa
  · have hr := no (fun h => by have h1 := h.fa2; simp only at h1; omega)
    have b7 : decide (400 < fa) = true := by simp; omega
    go_wp2
    go_ret
    exact ⟨by rw [hr.out]; rfl, b⟩
  have b7 : decide (400 < fa) = false := by simp; omega
  by_cases a8 : mc < 64
  · have hr := no (fun h => by have h1 := h.mc1; simp only at h1; omega)
    have b8 : decide (mc < 64) = true := by simp; omega
    go_wp2
    go_ret
    exact ⟨by rw [hr.out]; rfl, b⟩
  have b8 : decide (mc < 64) = false := by simp; omega
  by_cases a9 : 512 < mc
  · have hr := no (fun h => by have h1 := h.mc2; simp only at h1; omega)
    have b9 : decide (512 < mc) = true := by simp; omega
    go_wp2
    go_ret
    exact ⟨by rw [hr.out]; rfl, b⟩
  have b9 : decide (512 < mc) = false := by simp; omega
  have t8 : mc.tmod 8 = mc % 8 := Int.tmod_eq_emod_of_nonneg (by omega)
  by_cases a10 : ¬ mc % 8 = 0
  · have hr := no (fun h => a10 h.mc8)
    generalize mc % 8 = z at *
    have b10 : decide (z = 0) = false := decide_eq_false a10
    have b10' : (z == 0) = false := beq_eq_false_iff_ne.2 a10
    have b10'' : (z != 0) = true := by simp [a10]
    go_wp2
    go_ret
    exact ⟨by rw [hr.out]; rfl, b⟩
  have a10' : mc % 8 = 0 := by simpa using a10
  have t80 : mc.tmod 8 = 0 := by rw [t8, a10']
  clear t8
  by_cases a11 : il < mc
  · have hr := no (fun h => by have h1 := h.il1; simp only at h1; omega)
    have b11 : decide (il < mc) = true := by simp; omega
    go_wp2
    go_ret
    exact ⟨by rw [hr.out]; rfl, b⟩
  have b11 : decide (il < mc) = false := by simp; omega
  by_cases a12 : ps < il
  · have hr := no (fun h => by have h1 := h.il2; simp only at h1; omega)
    have b12 : decide (ps < il) = true := by simp; omega
    go_wp2
    go_ret
    exact ⟨by rw [hr.out]; rfl, b⟩
  have b12 : decide (ps < il) = false := by simp; omega
  have hR : Right ⟨ps, np, fa, mc, il, hot, warm⟩ := ⟨p1.out, p2, p3, by simp only; omega, by simp only; omega, by simp only; omega, by simp only; omega, a10', by simp only; omega, by simp only; omega⟩
  have hf : Hid (refN ⟨ps, np, fa, mc, il, hot, warm⟩ = if 62 < (Conf.nc ⟨ps, np, fa, mc, il, hot, warm⟩) then 2 else if np < ((Conf.nc ⟨ps, np, fa, mc, il, hot, warm⟩ : Nat) : Int) then 3 else 0) := Lib.hid (if_pos hR)
  have S1 := SC hR w1
  clear SC no RC
  generalize Conf.nc ⟨ps, np, fa, mc, il, hot, warm⟩ = k at *
  replace S1 := Lib.hid S1
  go_wp2_with fail
  refine S1.out.mono ?_
  rintro e w2 ⟨v, rfl, own, b2⟩
  obtain ⟨A, cp, rfl⟩ := own_is own
  have b3 := Lib.hid (b.trans (b2.mono b.size))
  have y1 := (b2.cell (p := ⟨w.heap.size, 1, none⟩) (by show w.heap.size < _; omega)).trans x1
  clear own b2 x0 x1 x2 x3 x4 S1
  by_cases h62 : 62 < k
  · have d1 : decide (62 < (k : Int)) = true := by simp; omega
    have hr : Hid (refN ⟨ps, np, fa, mc, il, hot, warm⟩ = 2) := Lib.hid (hf.out.trans (if_pos h62))
    go_wp2
    go_ret
    exact ⟨by rw [hr.out]; rfl, b3.out⟩
  · have d1 : decide (62 < (k : Int)) = false := by simp; omega
    by_cases hnp : np < (k : Int)
    · have d2 : decide (np < (k : Int)) = true := decide_eq_true hnp
      have hr : Hid (refN ⟨ps, np, fa, mc, il, hot, warm⟩ = 3) := Lib.hid ((hf.out.trans (if_neg h62)).trans (if_pos hnp))
      go_wp2
      go_ret
      exact ⟨by rw [hr.out]; rfl, b3.out⟩
    · have d2 : decide (np < (k : Int)) = false := decide_eq_false hnp
      have hr : Hid (refN ⟨ps, np, fa, mc, il, hot, warm⟩ = 0) := Lib.hid ((hf.out.trans (if_neg h62)).trans (if_neg hnp))
      go_wp2
      go_ret
      exact ⟨by rw [hr.out]; rfl, b3.out⟩
end Go.Proofs.Ytgodinapdahocaa.Cls
