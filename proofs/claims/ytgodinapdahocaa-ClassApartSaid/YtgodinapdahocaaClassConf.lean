/-
  The walks of what a config is asked: class.right, the document's right; the config as the document has it.
-/
import Derived.Test.YtgodinapdahocaaProg
import Derived.Test.YtgodinapdahocaaBase
import Derived.Test.YtgodinapdahocaaClassPlain
import Derived.Deep.DeepCutAuto
import Derived.Lib.MinMax
namespace Go.Proofs.Ytgodinapdahocaa.Cls
open Go.RowKit Base
set_option linter.unusedVariables false

def Conf.cells (c : Conf) : Array Value := #[.int .i64 c.ps, .int .i64 c.np, .int .i64 c.fa, .int .i64 c.mc, .int .i64 c.il, .int .i64 c.hot, .int .i64 c.warm]
def Conf.rcells (c : Conf) : Array Value := #[.int .i64 c.ps, .int .i64 c.np, .int .i64 c.fa, .int .i64 c.mc, .int .i64 c.il]
def In (n : Int) : Prop := -9223372036854775808 ≤ n ∧ n < 9223372036854775808
structure Conf.In (c : Conf) : Prop where
  ps : Cls.In c.ps
  np : Cls.In c.np
  fa : Cls.In c.fa
  mc : Cls.In c.mc
  il : Cls.In c.il
  hot : Cls.In c.hot
  warm : Cls.In c.warm
theorem boxedConf (w : World) (c : Conf) : ∃ w1, w1 = w.alloc (.cells c.cells 27) ∧ Below w.heap.size w w1 ∧ w1.heap.size = w.heap.size + 1 ∧ w1.cell? ⟨w.heap.size, 0, none⟩ = some (.int .i64 c.ps) ∧ w1.cell? ⟨w.heap.size, 1, none⟩ = some (.int .i64 c.np) ∧
    w1.cell? ⟨w.heap.size, 2, none⟩ = some (.int .i64 c.fa) ∧ w1.cell? ⟨w.heap.size, 3, none⟩ = some (.int .i64 c.mc) ∧ w1.cell? ⟨w.heap.size, 4, none⟩ = some (.int .i64 c.il) ∧ w1.cell? ⟨w.heap.size, 5, none⟩ = some (.int .i64 c.hot) ∧ w1.cell? ⟨w.heap.size, 6, none⟩ = some (.int .i64 c.warm) := by
  have hc : ∀ i, (w.alloc (.cells c.cells 27)).cell? ⟨w.heap.size, i, none⟩ = c.cells[i]? := fun i => cell_of_row _ _ i _ 27 (0, 0) (heap_alloc_new w _)
  exact ⟨_, rfl, (Below.refl _ _).alloc (Nat.le_refl _) _, World.size_alloc _ _, hc 0, hc 1, hc 2, hc 3, hc 4, hc 5, hc 6⟩
theorem boxedRef (w : World) (c : Conf) : ∃ w1, w1 = w.alloc (.cells c.rcells 34) ∧ Below w.heap.size w w1 ∧ w1.heap.size = w.heap.size + 1 ∧ w1.cell? ⟨w.heap.size, 0, none⟩ = some (.int .i64 c.ps) ∧ w1.cell? ⟨w.heap.size, 1, none⟩ = some (.int .i64 c.np) ∧
    w1.cell? ⟨w.heap.size, 2, none⟩ = some (.int .i64 c.fa) ∧ w1.cell? ⟨w.heap.size, 3, none⟩ = some (.int .i64 c.mc) ∧ w1.cell? ⟨w.heap.size, 4, none⟩ = some (.int .i64 c.il) := by
  have hc : ∀ i, (w.alloc (.cells c.rcells 34)).cell? ⟨w.heap.size, i, none⟩ = c.rcells[i]? := fun i => cell_of_row _ _ i _ 34 (0, 0) (heap_alloc_new w _)
  exact ⟨_, rfl, (Below.refl _ _).alloc (Nat.le_refl _) _, World.size_alloc _ _, hc 0, hc 1, hc 2, hc 3, hc 4⟩
theorem bits_and_pred (n : Nat) (h1 : 4096 ≤ n) (h2 : n ≤ 1048576) : bits .and .i64 (n : Int) ((n : Int) - 1) = ((n &&& (n - 1) : Nat) : Int) := by
  have e1 : (BitVec.ofInt 64 (n : Int)).toNat = n := by rw [BitVec.toNat_ofInt]; omega
  have e2 : (BitVec.ofInt 64 ((n : Int) - 1)).toNat = n - 1 := by rw [BitVec.toNat_ofInt]; omega
  have h3 : n &&& (n - 1) ≤ n := Nat.and_le_left
  show IntKind.i64.wrap ((BitVec.ofInt 64 (n : Int) &&& BitVec.ofInt 64 ((n : Int) - 1)).toNat : Int) = _
  rw [BitVec.toNat_and, e1, e2]
  exact IntWalk.i64_in _ (by omega)

set_option maxRecDepth 100000 in
set_option maxHeartbeats 1600000 in
theorem rightC (c : Conf) (w : World) : Calls Try.prog 43 #[.agg c.cells] w fun e w' => e = .returned (.bool (decide (Right c))) ∧ Below w.heap.size w w' := by
  obtain ⟨ps, np, fa, mc, il, hot, warm⟩ := c
  obtain ⟨w1, hw1, b, -, x0, x1, x2, x3, x4, -, -⟩ := boxedConf w ⟨ps, np, fa, mc, il, hot, warm⟩
  unfold Conf.cells at hw1 ⊢
  simp only at hw1 x0 x1 x2 x3 x4 ⊢
  replace hw1 := Lib.hid hw1
  have no : ¬ Right ⟨ps, np, fa, mc, il, hot, warm⟩ → Hid (decide (Right ⟨ps, np, fa, mc, il, hot, warm⟩) = false) := fun h => Lib.hid (decide_eq_false h)
  go_enter Try.func43, Try.ntmps43
  go_upto_region 1 with fail
  rw [← hw1.out]
  by_cases a1 : ps < 4096
  · have hr := no (fun h => by have h1 := h.ps; unfold Page9 at h1; simp only at h1; omega)
    have b1 : decide (ps < 4096) = true := by simp; omega
    go_wp2
    go_ret
    exact ⟨by rw [hr.out]; rfl, b⟩
  have b1 : decide (ps < 4096) = false := by simp; omega
  by_cases a2 : 1048576 < ps
  · have hr := no (fun h => by have h1 := h.ps; unfold Page9 at h1; simp only at h1; omega)
    have b2 : decide (1048576 < ps) = true := by simp; omega
    go_wp2
    go_ret
    exact ⟨by rw [hr.out]; rfl, b⟩
  have b2 : decide (1048576 < ps) = false := by simp; omega
  obtain ⟨n, rfl⟩ : ∃ n : Nat, ps = (n : Int) := ⟨ps.toNat, by omega⟩
  have wp : IntKind.i64.wrap ((n : Int) - 1) = (n : Int) - 1 := IntWalk.i64_in _ (by omega)
  have ba := bits_and_pred n (by omega) (by omega)
  have bp := and_pred n (by omega) (by omega)
  by_cases a3 : ¬ Page9 (n : Int)
  · have hr := no (fun h => a3 h.ps)
    have z0 : ¬ ((n &&& (n - 1) : Nat) : Int) = 0 := fun h => a3 (bp.1 (by omega))
    clear bp a3
    generalize ((n &&& (n - 1) : Nat) : Int) = z at *
    have b3 : decide (z = 0) = false := decide_eq_false z0
    have b3' : (z == 0) = false := beq_eq_false_iff_ne.2 z0
    have b3'' : (z != 0) = true := by simp [z0]
    go_wp2
    go_ret
    exact ⟨by rw [hr.out]; rfl, b⟩
  have ba0 : bits .and .i64 (n : Int) ((n : Int) - 1) = 0 := by rw [ba, bp.2 (by simpa using a3)]; rfl
  clear ba bp
  by_cases a4 : np < 1
  · have hr := no (fun h => by have h1 := h.np1; simp only at h1; omega)
    have b4 : decide (np < 1) = true := by simp; omega
    go_wp2
    go_ret
    exact ⟨by rw [hr.out]; rfl, b⟩
  have b4 : decide (np < 1) = false := by simp; omega
  by_cases a5 : 1024 < np
  · have hr := no (fun h => by have h1 := h.np2; simp only at h1; omega)
    have b5 : decide (1024 < np) = true := by simp; omega
    go_wp2
    go_ret
    exact ⟨by rw [hr.out]; rfl, b⟩
  have b5 : decide (1024 < np) = false := by simp; omega
  by_cases a6 : fa < 105
  · have hr := no (fun h => by have h1 := h.fa1; simp only at h1; omega)
    have b6 : decide (fa < 105) = true := by simp; omega
    go_wp2
    go_ret
    exact ⟨by rw [hr.out]; rfl, b⟩
  have b6 : decide (fa < 105) = false := by simp; omega
  by_cases a7 : 400 < fa
  · have hr := no (fun h => by have h1 := h.fa2; simp only at h1; omega)
    have b7 : decide (400 < fa) = true := by simp; omega
    go_wp2
    go_ret
    exact ⟨by rw [hr.out]; rfl, b⟩
  have b7 : decide (400 < fa) = false := by simp; omega
  by_cases a8 : mc < 64
  · have hr := no (fun h => by have h1 := h.mc1; simp only at h1; omega)
    have b8 : decide (mc < 64) = true := by simp; omega
    go_wp2
    go_ret
    exact ⟨by rw [hr.out]; rfl, b⟩
  have b8 : decide (mc < 64) = false := by simp; omega
  by_cases a9 : 512 < mc
  · have hr := no (fun h => by have h1 := h.mc2; simp only at h1; omega)
    have b9 : decide (512 < mc) = true := by simp; omega
    go_wp2
    go_ret
    exact ⟨by rw [hr.out]; rfl, b⟩
  have b9 : decide (512 < mc) = false := by simp; omega
  have t8 : mc.tmod 8 = mc % 8 := Int.tmod_eq_emod_of_nonneg (by omega)
  by_cases a10 : ¬ mc % 8 = 0
  · have hr := no (fun h => a10 h.mc8)
    generalize mc % 8 = z at *
    have b10 : decide (z = 0) = false := decide_eq_false a10
    have b10' : (z == 0) = false := beq_eq_false_iff_ne.2 a10
    have b10'' : (z != 0) = true := by simp [a10]
    go_wp2
    go_ret
    exact ⟨by rw [hr.out]; rfl, b⟩
  have a10' : mc % 8 = 0 := by simpa using a10
  have t80 : mc.tmod 8 = 0 := by rw [t8, a10']
  clear t8
  by_cases a11 : ¬ mc ≤ il
  · have hr := no (fun h => by have h1 := h.il1; simp only at h1; omega)
    have b11 : decide (mc ≤ il) = false := by simp; omega
    go_wp2
    go_ret
    exact ⟨by rw [hr.out]; rfl, b⟩
  have b11 : decide (mc ≤ il) = true := by simp; omega
  by_cases a12 : ¬ il ≤ (n : Int)
  · have hr := no (fun h => by have h1 := h.il2; simp only at h1; omega)
    have b12 : decide (il ≤ (n : Int)) = false := by simp; omega
    go_wp2
    go_ret
    exact ⟨by rw [hr.out]; rfl, b⟩
  have b12 : decide (il ≤ (n : Int)) = true := by simp; omega
  have hr : Hid (decide (Right ⟨(n : Int), np, fa, mc, il, hot, warm⟩) = true) := Lib.hid (decide_eq_true ⟨by simpa using a3, by simp only; omega, by simp only; omega, by simp only; omega, by simp only; omega, by simp only; omega, by simp only; omega, a10', by simp only; omega, by simp only; omega⟩)
  go_wp2
  go_ret
  exact ⟨by rw [hr.out]; rfl, b⟩
end Go.Proofs.Ytgodinapdahocaa.Cls
