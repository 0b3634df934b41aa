/-
  Contracts and lemmas, joined: LruMove, QueueSeq, QueueSeq2, RangeLaw, QueueSeq3, LruRow, QueueAllLaw0.
-/
import Derived.RangeFuncNested
import Derived.RangeFuncBound
import Derived.RangeFuncCalls
import Derived.RangeFuncLeaves
import Derived.RangeFuncBox
import Derived.Shelf.Abstract
import Derived.WalkKit
import Derived.OwnWalkIn
import Derived.TacticsInMore
import Derived.LoopNIn
import Derived.LoopIn
import Derived.Maps.AppendAt
import Derived.Sort.QuietTacIn
import Derived.Sort.CutIn
import Derived.Test.YtngehaiigbbknaaGreatJ7
import Derived.Test.YtngehaiigbbknaaGreatJ8
import Derived.Test.YtngehaiigbbknaaGreatJ10
set_option linter.unusedSimpArgs false
set_option linter.unusedVariables false
/-
  The program's Lru: a step, Balance.
-/
namespace Go.Proofs.YtngehaiigbbknaaGreat.Que
open Go.RowKit Base Arena Cls Itm
set_option linter.unusedVariables false
set_option linter.unusedSectionVars false

theorem coldB_congr {s : St} {Z Z' : Nat → Option Zd} (h : ∀ H, (Z' H).isSome = (Z H).isSome) (Ls : Nat → Nat → List Nat) (mk : Nat → Nat) (x : Int) : coldB s Z' Ls mk x = coldB s Z Ls mk x := by
  unfold coldB
  rw [actB_congr h]
theorem dueK_congr {s : St} {Z Z' : Nat → Option Zd} (h : ∀ H, (Z' H).isSome = (Z H).isSome) (Ls : Nat → Nat → List Nat) (mk : Nat → Nat) (hot warm x : Int) : dueK s Z' Ls mk hot warm x = dueK s Z Ls mk hot warm x := by
  unfold dueK
  rw [coldB_congr h]
/-- Whom a step moves; the lists and the marks behind it. -/
def stepH (s : St) (Z : Nat → Option Zd) (Ls : Nat → Nat → List Nat) (mk : Nat → Nat) (hot warm x : Int) : Nat := tailX Ls x (dueK s Z Ls mk hot warm x : Int)
def toK (s : St) (Z : Nat → Option Zd) (mk : Nat → Nat) (H : Nat) : Int := if actB s Z mk H then 2 else 3
def stepL (s : St) (Z : Nat → Option Zd) (Ls : Nat → Nat → List Nat) (mk : Nat → Nat) (hot warm x : Int) : Nat → Nat → List Nat := (shiftN qc s Ls (stepH s Z Ls mk hot warm x) (toK s Z mk (stepH s Z Ls mk hot warm x))).2
def stepM (s : St) (Z : Nat → Option Zd) (Ls : Nat → Nat → List Nat) (mk : Nat → Nat) (hot warm x : Int) : Nat → Nat := mkOn mk (stepH s Z Ls mk hot warm x) false
theorem stepH_congr {s : St} {Z Z' : Nat → Option Zd} (h : ∀ H, (Z' H).isSome = (Z H).isSome) (Ls : Nat → Nat → List Nat) (mk : Nat → Nat) (hot warm x : Int) : stepH s Z' Ls mk hot warm x = stepH s Z Ls mk hot warm x := by
  unfold stepH
  rw [dueK_congr h]
theorem toK_congr {s : St} {Z Z' : Nat → Option Zd} (h : ∀ H, (Z' H).isSome = (Z H).isSome) (mk : Nat → Nat) (H : Nat) : toK s Z' mk H = toK s Z mk H := by
  unfold toK
  rw [actB_congr h]
theorem stepL_congr {s : St} {Z Z' : Nat → Option Zd} (h : ∀ H, (Z' H).isSome = (Z H).isSome) (Ls : Nat → Nat → List Nat) (mk : Nat → Nat) (hot warm x : Int) : stepL s Z' Ls mk hot warm x = stepL s Z Ls mk hot warm x := by
  unfold stepL
  rw [stepH_congr h, toK_congr h]
theorem stepM_congr {s : St} {Z Z' : Nat → Option Zd} (h : ∀ H, (Z' H).isSome = (Z H).isSome) (Ls : Nat → Nat → List Nat) (mk : Nat → Nat) (hot warm x : Int) : stepM s Z' Ls mk hot warm x = stepM s Z Ls mk hot warm x := by
  unfold stepM
  rw [stepH_congr h]
/-- Steps, at most n: whom they move, the lists and the marks behind them. -/
def balN (s : St) (Z : Nat → Option Zd) (hot warm x : Int) : Nat → (Nat → Nat → List Nat) → (Nat → Nat) → List Nat × (Nat → Nat → List Nat) × (Nat → Nat)
  | 0, Ls, mk => ([], Ls, mk)
  | n + 1, Ls, mk => if dueK s Z Ls mk hot warm x = 0 then ([], Ls, mk) else
      (stepH s Z Ls mk hot warm x :: (balN s Z hot warm x n (stepL s Z Ls mk hot warm x) (stepM s Z Ls mk hot warm x)).1, (balN s Z hot warm x n (stepL s Z Ls mk hot warm x) (stepM s Z Ls mk hot warm x)).2)
theorem balN_no {s : St} {Z : Nat → Option Zd} {hot warm x : Int} {n : Nat} {Ls : Nat → Nat → List Nat} {mk : Nat → Nat} (h : dueK s Z Ls mk hot warm x = 0) : balN s Z hot warm x n Ls mk = ([], Ls, mk) := by
  cases n with
  | zero => rfl
  | succ n => unfold balN; rw [if_pos h]
theorem balN_yes {s : St} {Z : Nat → Option Zd} {hot warm x : Int} {n : Nat} {Ls : Nat → Nat → List Nat} {mk : Nat → Nat} (h : dueK s Z Ls mk hot warm x ≠ 0) : balN s Z hot warm x (n + 1) Ls mk = (stepH s Z Ls mk hot warm x :: (balN s Z hot warm x n (stepL s Z Ls mk hot warm x) (stepM s Z Ls mk hot warm x)).1, (balN s Z hot warm x n (stepL s Z Ls mk hot warm x) (stepM s Z Ls mk hot warm x)).2) := by
  conv => lhs; unfold balN
  rw [if_neg h]
theorem balN_len (s : St) (Z : Nat → Option Zd) (hot warm x : Int) : ∀ (n : Nat) (Ls : Nat → Nat → List Nat) (mk : Nat → Nat), (balN s Z hot warm x n Ls mk).1.length ≤ n
  | 0, Ls, mk => Nat.le_refl _
  | n + 1, Ls, mk => by
    by_cases h : dueK s Z Ls mk hot warm x = 0
    · rw [balN_no h]; simp
    · rw [balN_yes h]
      have := balN_len s Z hot warm x n (stepL s Z Ls mk hot warm x) (stepM s Z Ls mk hot warm x)
      simp only [List.length_cons]
      omega
section
variable {w : World} {L : Lay} {s : St} {bs : List UInt8} {Z : Nat → Option Zd} {gq gl : Nat} {Ls : Nat → Nat → List Nat} {mk : Nat → Nat} {g : Nat} {hot warm : Int} (h : LS w L s bs Z gq gl Ls mk g hot warm)
include h
/-- Where one is due there is a tail. -/
theorem LS.due (sh : Shr hot warm) (x : Int) : (dueK s Z Ls mk hot warm x = 1 → 0 < lenX Ls x 1) ∧ (dueK s Z Ls mk hot warm x = 2 → 0 < lenX Ls x 2) ∧ (dueK s Z Ls mk hot warm x = 3 → 0 < lenX Ls x 3) ∧ dueK s Z Ls mk hot warm x ≤ 3 := by
  obtain ⟨h1, -, h2, -⟩ := sh
  have n1 : 0 ≤ (totX Ls x : Int) * hot := Int.mul_nonneg (by omega) (by omega)
  have n2 : 0 ≤ (totX Ls x : Int) * warm := Int.mul_nonneg (by omega) (by omega)
  unfold dueK
  split
  · rename_i e
    unfold hotB at e
    have := of_decide_eq_true e
    exact ⟨(fun _ => by omega), (fun e => absurd e (by decide)), (fun e => absurd e (by decide)), by omega⟩
  split
  · rename_i e
    unfold warmB at e
    have := of_decide_eq_true e
    exact ⟨(fun e => absurd e (by decide)), (fun _ => by omega), (fun e => absurd e (by decide)), by omega⟩
  split
  · rename_i e
    unfold coldB at e
    have := of_decide_eq_true (Bool.and_eq_true_iff.1 e).1
    exact ⟨(fun e => absurd e (by decide)), (fun e => absurd e (by decide)), (fun _ => by omega), by omega⟩
  · exact ⟨(fun e => absurd e (by decide)), (fun e => absurd e (by decide)), (fun e => absurd e (by decide)), by omega⟩
end
-- PRINTED
theorem nil_func (w : World) : Sem.run Tryz.prog (binOp BinOp.neq 67 .nilFunc .nilFunc) w = .ok (.bool false) w := by kernel_rfl
theorem store_func (w : World) (g i : Nat) (f : Fn) (xs ys : Array Value) {t : TypeId} {cs : Array Value} (B : Blk w g t cs) (hi : i < cs.size) : Sem.run Tryz.prog (store ⟨g, i, none⟩ (.func f xs ys)) w = .ok () (w.setCell ⟨g, i, none⟩ (.func f xs ys)) := by
  have h := B.cell i
  have hf := B.frozen i
  rw [Array.getElem?_eq_getElem hi] at h
  rw [run_store _ _ _ _ _ rfl]
  simp [stored, h, hf]
set_option maxRecDepth 100000 in
theorem rulesC (w : World) : Calls Tryz.prog 86 #[] w fun e w' => e = .returned (.agg #[.int .i64 1, .func (.func 130) #[] #[], .int .i64 2, .func (.func 131) #[] #[], .int .i64 3, .func (.func 132) #[] #[]]) ∧ Below w.heap.size w w' := by
  obtain ⟨w1, hw1⟩ : ∃ w1, w1 = w.alloc (.cells #[.int .i64 0, .nilFunc, .int .i64 0, .nilFunc, .int .i64 0, .nilFunc] 157) := ⟨_, rfl⟩
  have B1 : Blk w1 w.heap.size 157 #[.int .i64 0, .nilFunc, .int .i64 0, .nilFunc, .int .i64 0, .nilFunc] := by rw [hw1]; exact Blk.new w _ _
  have b1 : Below w.heap.size w w1 := by rw [hw1]; exact (Below.refl _ _).alloc (Nat.le_refl _) _
  have c0 := B1.cell 0
  have f0 := B1.frozen 0
  have c1 := B1.cell 1
  have f1 := B1.frozen 1
  have c2 := B1.cell 2
  have f2 := B1.frozen 2
  have c3 := B1.cell 3
  have f3 := B1.frozen 3
  have c4 := B1.cell 4
  have f4 := B1.frozen 4
  have c5 := B1.cell 5
  have f5 := B1.frozen 5
  replace hw1 := Lib.hid hw1
  replace b1 := Lib.hid b1
  generalize hN : w.heap.size = N at *
  replace hN := Lib.hid hN
  have s1 := store_func (w1.setCell ⟨N, 0, none⟩ (.int .i64 1)) N 1 (.func 130) #[] #[] (B1.set_ 0 _) (by decide)
  have s3 := store_func (((w1.setCell ⟨N, 0, none⟩ (.int .i64 1)).setCell ⟨N, 1, none⟩ (.func (.func 130) #[] #[])).setCell ⟨N, 2, none⟩ (.int .i64 2)) N 3 (.func 131) #[] #[] (((B1.set_ 0 _).set_ 1 _).set_ 2 _) (by decide)
  have s5 := store_func (((((w1.setCell ⟨N, 0, none⟩ (.int .i64 1)).setCell ⟨N, 1, none⟩ (.func (.func 130) #[] #[])).setCell ⟨N, 2, none⟩ (.int .i64 2)).setCell ⟨N, 3, none⟩ (.func (.func 131) #[] #[])).setCell ⟨N, 4, none⟩ (.int .i64 3)) N 5 (.func 132) #[] #[] (((((B1.set_ 0 _).set_ 1 _).set_ 2 _).set_ 3 _).set_ 4 _) (by decide)
  go_enter Tryz.func86, Tryz.ntmps86
  go_upto_region 1 with fail
  rw [hN.out, ← hw1.out]
  go_wp2
  have C2 : Blk ((((((w1.setCell ⟨N, 0, none⟩ (.int .i64 1)).setCell ⟨N, 1, none⟩ (.func (.func 130) #[] #[])).setCell ⟨N, 2, none⟩ (.int .i64 2)).setCell ⟨N, 3, none⟩ (.func (.func 131) #[] #[])).setCell ⟨N, 4, none⟩ (.int .i64 3)).setCell ⟨N, 5, none⟩ (.func (.func 132) #[] #[])) N 157 #[.int .i64 1, .func (.func 130) #[] #[], .int .i64 2, .func (.func 131) #[] #[], .int .i64 3, .func (.func 132) #[] #[]] := (((((B1.set_ 0 _).set_ 1 _).set_ 2 _).set_ 3 _).set_ 4 _).set_ 5 _
  have b2 := (((((b1.out.setCell (p := ⟨N, 0, none⟩) (Nat.le_refl _) (.int .i64 1)).setCell (p := ⟨N, 1, none⟩) (Nat.le_refl _) (.func (.func 130) #[] #[])).setCell (p := ⟨N, 2, none⟩) (Nat.le_refl _) (.int .i64 2)).setCell (p := ⟨N, 3, none⟩) (Nat.le_refl _) (.func (.func 131) #[] #[])).setCell (p := ⟨N, 4, none⟩) (Nat.le_refl _) (.int .i64 3)).setCell (p := ⟨N, 5, none⟩) (Nat.le_refl _) (.func (.func 132) #[] #[])
  exact bodyPost_ret (results_cell_row (P := Tryz.prog) rfl _ _ N 157 _ (0, 0) _ rfl C2 Tryz.underlying157 rfl (by kernel_rfl)) rfl ⟨rfl, b2⟩
theorem rule_at0 (w : World) : Sem.run Tryz.prog (Instr.index 157 (.agg #[.int .i64 1, .func (.func 130) #[] #[], .int .i64 2, .func (.func 131) #[] #[], .int .i64 3, .func (.func 132) #[] #[]]) (.int .i64 0)) w = .ok (.agg #[.int .i64 1, .func (.func 130) #[] #[]]) w := by kernel_rfl
theorem rule_at1 (w : World) : Sem.run Tryz.prog (Instr.index 157 (.agg #[.int .i64 1, .func (.func 130) #[] #[], .int .i64 2, .func (.func 131) #[] #[], .int .i64 3, .func (.func 132) #[] #[]]) (.int .i64 1)) w = .ok (.agg #[.int .i64 2, .func (.func 131) #[] #[]]) w := by kernel_rfl
theorem rule_at2 (w : World) : Sem.run Tryz.prog (Instr.index 157 (.agg #[.int .i64 1, .func (.func 130) #[] #[], .int .i64 2, .func (.func 131) #[] #[], .int .i64 3, .func (.func 132) #[] #[]]) (.int .i64 2)) w = .ok (.agg #[.int .i64 3, .func (.func 132) #[] #[]]) w := by kernel_rfl
/-- The lists and the marks behind a step. -/
def nxtL (s : St) (Z : Nat → Option Zd) (Ls : Nat → Nat → List Nat) (mk : Nat → Nat) (hot warm x : Int) : Nat → Nat → List Nat := if dueK s Z Ls mk hot warm x = 0 then Ls else stepL s Z Ls mk hot warm x
def nxtM (s : St) (Z : Nat → Option Zd) (Ls : Nat → Nat → List Nat) (mk : Nat → Nat) (hot warm x : Int) : Nat → Nat := if dueK s Z Ls mk hot warm x = 0 then mk else stepM s Z Ls mk hot warm x
section
variable {w : World} {L : Lay} {s : St} {bs : List UInt8} {Z : Nat → Option Zd} {gq gl : Nat} {Ls : Nat → Nat → List Nat} {mk : Nat → Nat} {g : Nat} {hot warm : Int} (h : LS w L s bs Z gq gl Ls mk g hot warm)
include h
/-- All that the arm of a rule reads. -/
theorem LS.ruleA (x : Int) (k : Nat) (hk : 0 < lenX Ls x (k : Int)) (ed : dueK s Z Ls mk hot warm x = k) (k0 : k ≠ 0) : ∃ (H : Nat) (B : Bool) (K : Int), H < 18446744073709551616 ∧ (if B then (2 : Int) else 3) = K ∧
    (∀ v, Below w.heap.size w v → Calls Tryz.prog 20 #[.pointer (some ⟨gq, 0, none⟩), .int .i64 x, .int .i64 (k : Int)] v fun e v' => e = .returned (.tuple #[.int .u64 (H : Int), .bool true]) ∧ v = v') ∧
    (∀ v, Below w.heap.size w v → Calls Tryz.prog 70 #[.pointer (some ⟨g, 0, none⟩), .int .u64 (H : Int)] v fun e v' => e = .returned (.bool B) ∧ Below v.heap.size v v') ∧
    (∀ v, Below w.heap.size w v → Calls Tryz.prog 58 #[.pointer (some ⟨gq, 0, none⟩), .int .u64 (H : Int), .int .i64 K] v fun e v' => ∃ E : Nat, e = .returned (.int .i64 (E : Int)) ∧
      Calls Tryz.prog 73 #[.pointer (some ⟨g, 0, none⟩), .int .u64 (H : Int), .bool false] v' fun e v2 => e = .returned (.tuple #[]) ∧ DL w v2 L s bs Z gq gl (nxtL s Z Ls mk hot warm x) (nxtM s Z Ls mk hot warm x) g hot warm) := by
  obtain ⟨hI, hH, hx, hm⟩ := h.tail hk
  have eH : stepH s Z Ls mk hot warm x = tailX Ls x (k : Int) := by unfold stepH; rw [ed]
  refine ⟨tailX Ls x (k : Int), actB s Z mk (tailX Ls x (k : Int)), toK s Z mk (tailX Ls x (k : Int)), hH, rfl, fun v b => ?_, fun v b => activeC (h.below b) _ hH, fun v b => ?_⟩
  · have := tailC (h.below b).q x (k : Int)
    rw [show decide (0 < (lsN qc Ls x (k : Int)).length) = true from decide_eq_true hk] at this
    exact this
  · have hv := h.below b
    refine (shiftP hv.q _ hH (toK s Z mk (tailX Ls x (k : Int)))).mono ?_
    rintro e v' ⟨rfl, D⟩
    refine ⟨_, rfl, ?_⟩
    have D1 := hv.did D
    obtain ⟨o1, bs1, Z1, e1, z1, S1⟩ := D1
    refine (lmarkC S1 _ hH (by rw [isN_congr z1]; exact isN_it hI) false).mono ?_
    rintro e v2 ⟨rfl, o2, bs2, Z2, e2, z2, S2⟩
    refine ⟨rfl, two_trans (below_two b) (two_trans o1 o2), bs2, Z2, e2.trans e1, fun H => (z2 H).trans (z1 H), ?_⟩
    unfold nxtL nxtM
    rw [if_neg (by rw [ed]; exact k0), if_neg (by rw [ed]; exact k0)]
    unfold stepL stepM
    rw [eH]
    exact S2
theorem LS.stay (x : Int) (ed : dueK s Z Ls mk hot warm x = 0) {v : World} (b : Below w.heap.size w v) : DL w v L s bs Z gq gl (nxtL s Z Ls mk hot warm x) (nxtM s Z Ls mk hot warm x) g hot warm := by
  unfold nxtL nxtM
  rw [if_pos ed, if_pos ed]
  exact h.same b
set_option maxRecDepth 100000 in
set_option maxHeartbeats 1600000 in
theorem stepC (sh : Shr hot warm) (x : Int) : Calls Tryz.prog 44 #[.pointer (some ⟨g, 0, none⟩), .int .i64 x, .nilFunc] w fun e w' => e = .returned (.bool (decide (dueK s Z Ls mk hot warm x ≠ 0))) ∧ DL w w' L s bs Z gq gl (nxtL s Z Ls mk hot warm x) (nxtM s Z Ls mk hot warm x) g hot warm := by
  obtain ⟨u1, u2, u3, u4⟩ := h.due sh x
  have CE := fun v (b : Below w.heap.size w v) => (h.below b).cells.2.1
  have HL := fun v (b : Below w.heap.size w v) => hotLongC (h.below b) sh x
  have WL := fun v (b : Below w.heap.size w v) => warmLongC (h.below b) sh x
  have CL := fun v (b : Below w.heap.size w v) => coldActiveC (h.below b) x
  have A1 := fun e => h.ruleA x 1 (u1 e) e (by decide)
  have A2 := fun e => h.ruleA x 2 (u2 e) e (by decide)
  have A3 := fun e => h.ruleA x 3 (u3 e) e (by decide)
  have A0 := fun e v (b : Below w.heap.size w v) => h.stay x e b
  have hdu : dueK s Z Ls mk hot warm x = if hotB Ls hot x then 1 else if warmB Ls warm x then 2 else if coldB s Z Ls mk x then 3 else 0 := rfl
  have RC := Lib.hid (rulesC w)
  generalize dueK s Z Ls mk hot warm x = D at *
  generalize hotB Ls hot x = bh at *
  generalize warmB Ls warm x = bw at *
  generalize coldB s Z Ls mk x = bc at *
  replace CE := Lib.hid CE
  replace HL := Lib.hid HL
  replace WL := Lib.hid WL
  replace CL := Lib.hid CL
  replace A0 := Lib.hid A0
  replace A1 := Lib.hid A1
  replace A2 := Lib.hid A2
  replace A3 := Lib.hid A3
  replace hdu := Lib.hid hdu
  clear h u1 u2 u3 u4 sh
  go_enter Tryz.func44, Tryz.ntmps44
  go_wp2_with fail
  refine RC.out.mono ?_
  rintro e w1 ⟨rfl, b1⟩
  replace b1 := Lib.hid b1
  go_wp2_with fail
  go_loopw [13] (fun vi wr => Hid (Below w.heap.size w wr) ∧ (vi = .int .i64 0 ∨ (vi = .int .i64 1 ∧ Hid (bh = false)) ∨ (vi = .int .i64 2 ∧ Hid (bh = false) ∧ Hid (bw = false)) ∨ (vi = .int .i64 3 ∧ Hid (bh = false) ∧ Hid (bw = false) ∧ Hid (bc = false)))) (fun vi _ => 3 - (intOf vi).toNat)
  case atStart => exact ⟨b1, .inl rfl⟩
  case round =>
    obtain ⟨br, rfl | ⟨rfl, f1⟩ | ⟨rfl, f1, f2⟩ | ⟨rfl, f1, f2, f3⟩⟩ := hrel
    · obtain ⟨N, hN⟩ : ∃ N, N = wr.heap.size := ⟨_, rfl⟩
      have ea := Blk.new wr 156 #[.int .i64 1, .nilFunc]
      have sx := store_func (wr.alloc (.cells #[.int .i64 1, .nilFunc] 156)) wr.heap.size 1 (.func 130) #[] #[] ea (by decide)
      obtain ⟨w2, hw2⟩ : ∃ w2, w2 = wr.alloc (.cells #[.int .i64 1, .func (.func 130) #[] #[]] 156) := ⟨_, rfl⟩
      have B2 : Blk w2 N 156 #[.int .i64 1, .func (.func 130) #[] #[]] := by rw [hw2, hN]; exact Blk.new wr _ _
      have b2 : Below w.heap.size w w2 := by rw [hw2]; exact br.out.alloc br.out.size _
      replace ea := Lib.hid ea
      have x1 := B2.cell 1
      have DC := Lib.hid (HL.out w2 b2)
      have q1 : IntKind.i64.wrap (0 + 1) = 1 := rfl
      have ix := rule_at0 wr
      replace hw2 := Lib.hid hw2
      replace hN := Lib.hid hN
      replace B2 := Lib.hid B2
      replace b2 := Lib.hid b2
      clear br
      go_upto_region 4 with fail
      rw [← hw2.out, ← hN.out]
      go_wp2_with fail
      refine DC.out.mono ?_
      rintro e w3 ⟨rfl, c3⟩
      have b3 := b2.out.trans (c3.mono b2.out.size)
      have B3 := B2.out.below c3 B2.out.lt
      have x0 := B3.cell 0
      cases hb : bh with
      | true =>
        have ed : D = 1 := by rw [hdu.out, hb]; rfl
        obtain ⟨H, B, K, hH, hK, TC, AC, SC⟩ := A1.out ed
        have y1 := CE.out w3 b3
        have e1 : decide (D ≠ 0) = true := by rw [ed]; rfl
        have TC3 := Lib.hid (fun nq => TC (w3.drewN nq) (below_drewN b3 nq))
        replace AC := Lib.hid AC
        replace SC := Lib.hid SC
        replace ed := Lib.hid ed
        replace b3 := Lib.hid b3
        replace e1 := Lib.hid e1
        replace B3 := Lib.hid B3
        clear hb hH c3 DC TC
        cases B with
        | false =>
          obtain rfl : (3 : Int) = K := hK
          go_upto_region 5 with fail
          go_quiet (first | (go_at_call 20; with_reducible exact quiet_left (TC3.out _)) | fail)
          rename Nat => nq1
          obtain ⟨w4, hw4⟩ : ∃ w4, w4 = w3.drewN nq1 := ⟨_, rfl⟩
          rw [← hw4]
          have b4 : Below w.heap.size w w4 := by rw [hw4]; exact below_drewN b3.out nq1
          have AC4 := Lib.hid (AC.out w4 b4)
          replace b4 := Lib.hid b4
          replace hw4 := Lib.hid hw4
          clear AC TC3 b3
          go_wp2_with fail
          refine AC4.out.mono ?_
          rintro e w5 ⟨rfl, c5⟩
          have b5 := b4.out.trans (c5.mono b4.out.size)
          have y5 := CE.out w5 b5
          have nf := nil_func w5
          have SC5 := Lib.hid (SC.out w5 b5)
          clear c5 b5 b4 AC4 SC
          go_wp2_with fail
          refine SC5.out.mono ?_
          rintro e w6 ⟨E, rfl, MK⟩
          replace MK := Lib.hid MK
          clear SC5
          go_wp2_with fail
          refine MK.out.mono ?_
          rintro e w7 ⟨rfl, T⟩
          replace T := Lib.hid T
          clear MK
          go_wp2
          go_ret
          exact ⟨by rw [e1.out]; rfl, T.out⟩
        | true =>
          obtain rfl : (2 : Int) = K := hK
          go_upto_region 5 with fail
          go_quiet (first | (go_at_call 20; with_reducible exact quiet_left (TC3.out _)) | fail)
          rename Nat => nq1
          obtain ⟨w4, hw4⟩ : ∃ w4, w4 = w3.drewN nq1 := ⟨_, rfl⟩
          rw [← hw4]
          have b4 : Below w.heap.size w w4 := by rw [hw4]; exact below_drewN b3.out nq1
          have AC4 := Lib.hid (AC.out w4 b4)
          replace b4 := Lib.hid b4
          replace hw4 := Lib.hid hw4
          clear AC TC3 b3
          go_wp2_with fail
          refine AC4.out.mono ?_
          rintro e w5 ⟨rfl, c5⟩
          have b5 := b4.out.trans (c5.mono b4.out.size)
          have y5 := CE.out w5 b5
          have nf := nil_func w5
          have SC5 := Lib.hid (SC.out w5 b5)
          clear c5 b5 b4 AC4 SC
          go_wp2_with fail
          refine SC5.out.mono ?_
          rintro e w6 ⟨E, rfl, MK⟩
          replace MK := Lib.hid MK
          clear SC5
          go_wp2_with fail
          refine MK.out.mono ?_
          rintro e w7 ⟨rfl, T⟩
          replace T := Lib.hid T
          clear MK
          go_wp2
          go_ret
          exact ⟨by rw [e1.out]; rfl, T.out⟩
      | false =>
        have fx := Lib.hid hb
        replace b3 := Lib.hid b3
        clear c3 DC B3 hb
        go_wp2
        go_roundw
        case rel => exact ⟨b3, .inr (.inl ⟨rfl, fx⟩)⟩
        case measure => simp [intOf]
    · obtain ⟨N, hN⟩ : ∃ N, N = wr.heap.size := ⟨_, rfl⟩
      have ea := Blk.new wr 156 #[.int .i64 2, .nilFunc]
      have sx := store_func (wr.alloc (.cells #[.int .i64 2, .nilFunc] 156)) wr.heap.size 1 (.func 131) #[] #[] ea (by decide)
      obtain ⟨w2, hw2⟩ : ∃ w2, w2 = wr.alloc (.cells #[.int .i64 2, .func (.func 131) #[] #[]] 156) := ⟨_, rfl⟩
      have B2 : Blk w2 N 156 #[.int .i64 2, .func (.func 131) #[] #[]] := by rw [hw2, hN]; exact Blk.new wr _ _
      have b2 : Below w.heap.size w w2 := by rw [hw2]; exact br.out.alloc br.out.size _
      replace ea := Lib.hid ea
      have x1 := B2.cell 1
      have DC := Lib.hid (WL.out w2 b2)
      have q1 : IntKind.i64.wrap (1 + 1) = 2 := rfl
      have ix := rule_at1 wr
      replace hw2 := Lib.hid hw2
      replace hN := Lib.hid hN
      replace B2 := Lib.hid B2
      replace b2 := Lib.hid b2
      clear br
      go_upto_region 4 with fail
      rw [← hw2.out, ← hN.out]
      go_wp2_with fail
      refine DC.out.mono ?_
      rintro e w3 ⟨rfl, c3⟩
      have b3 := b2.out.trans (c3.mono b2.out.size)
      have B3 := B2.out.below c3 B2.out.lt
      have x0 := B3.cell 0
      cases hb : bw with
      | true =>
        have ed : D = 2 := by rw [hdu.out, f1.out, hb]; rfl
        obtain ⟨H, B, K, hH, hK, TC, AC, SC⟩ := A2.out ed
        have y1 := CE.out w3 b3
        have e1 : decide (D ≠ 0) = true := by rw [ed]; rfl
        have TC3 := Lib.hid (fun nq => TC (w3.drewN nq) (below_drewN b3 nq))
        replace AC := Lib.hid AC
        replace SC := Lib.hid SC
        replace ed := Lib.hid ed
        replace b3 := Lib.hid b3
        replace e1 := Lib.hid e1
        replace B3 := Lib.hid B3
        clear hb hH c3 DC TC
        cases B with
        | false =>
          obtain rfl : (3 : Int) = K := hK
          go_upto_region 5 with fail
          go_quiet (first | (go_at_call 20; with_reducible exact quiet_left (TC3.out _)) | fail)
          rename Nat => nq1
          obtain ⟨w4, hw4⟩ : ∃ w4, w4 = w3.drewN nq1 := ⟨_, rfl⟩
          rw [← hw4]
          have b4 : Below w.heap.size w w4 := by rw [hw4]; exact below_drewN b3.out nq1
          have AC4 := Lib.hid (AC.out w4 b4)
          replace b4 := Lib.hid b4
          replace hw4 := Lib.hid hw4
          clear AC TC3 b3
          go_wp2_with fail
          refine AC4.out.mono ?_
          rintro e w5 ⟨rfl, c5⟩
          have b5 := b4.out.trans (c5.mono b4.out.size)
          have y5 := CE.out w5 b5
          have nf := nil_func w5
          have SC5 := Lib.hid (SC.out w5 b5)
          clear c5 b5 b4 AC4 SC
          go_wp2_with fail
          refine SC5.out.mono ?_
          rintro e w6 ⟨E, rfl, MK⟩
          replace MK := Lib.hid MK
          clear SC5
          go_wp2_with fail
          refine MK.out.mono ?_
          rintro e w7 ⟨rfl, T⟩
          replace T := Lib.hid T
          clear MK
          go_wp2
          go_ret
          exact ⟨by rw [e1.out]; rfl, T.out⟩
        | true =>
          obtain rfl : (2 : Int) = K := hK
          go_upto_region 5 with fail
          go_quiet (first | (go_at_call 20; with_reducible exact quiet_left (TC3.out _)) | fail)
          rename Nat => nq1
          obtain ⟨w4, hw4⟩ : ∃ w4, w4 = w3.drewN nq1 := ⟨_, rfl⟩
          rw [← hw4]
          have b4 : Below w.heap.size w w4 := by rw [hw4]; exact below_drewN b3.out nq1
          have AC4 := Lib.hid (AC.out w4 b4)
          replace b4 := Lib.hid b4
          replace hw4 := Lib.hid hw4
          clear AC TC3 b3
          go_wp2_with fail
          refine AC4.out.mono ?_
          rintro e w5 ⟨rfl, c5⟩
          have b5 := b4.out.trans (c5.mono b4.out.size)
          have y5 := CE.out w5 b5
          have nf := nil_func w5
          have SC5 := Lib.hid (SC.out w5 b5)
          clear c5 b5 b4 AC4 SC
          go_wp2_with fail
          refine SC5.out.mono ?_
          rintro e w6 ⟨E, rfl, MK⟩
          replace MK := Lib.hid MK
          clear SC5
          go_wp2_with fail
          refine MK.out.mono ?_
          rintro e w7 ⟨rfl, T⟩
          replace T := Lib.hid T
          clear MK
          go_wp2
          go_ret
          exact ⟨by rw [e1.out]; rfl, T.out⟩
      | false =>
        have fx := Lib.hid hb
        replace b3 := Lib.hid b3
        clear c3 DC B3 hb
        go_wp2
        go_roundw
        case rel => exact ⟨b3, .inr (.inr (.inl ⟨rfl, f1, fx⟩))⟩
        case measure => simp [intOf]
    · obtain ⟨N, hN⟩ : ∃ N, N = wr.heap.size := ⟨_, rfl⟩
      have ea := Blk.new wr 156 #[.int .i64 3, .nilFunc]
      have sx := store_func (wr.alloc (.cells #[.int .i64 3, .nilFunc] 156)) wr.heap.size 1 (.func 132) #[] #[] ea (by decide)
      obtain ⟨w2, hw2⟩ : ∃ w2, w2 = wr.alloc (.cells #[.int .i64 3, .func (.func 132) #[] #[]] 156) := ⟨_, rfl⟩
      have B2 : Blk w2 N 156 #[.int .i64 3, .func (.func 132) #[] #[]] := by rw [hw2, hN]; exact Blk.new wr _ _
      have b2 : Below w.heap.size w w2 := by rw [hw2]; exact br.out.alloc br.out.size _
      replace ea := Lib.hid ea
      have x1 := B2.cell 1
      have DC := Lib.hid (CL.out w2 b2)
      have q1 : IntKind.i64.wrap (2 + 1) = 3 := rfl
      have ix := rule_at2 wr
      replace hw2 := Lib.hid hw2
      replace hN := Lib.hid hN
      replace B2 := Lib.hid B2
      replace b2 := Lib.hid b2
      clear br
      go_upto_region 4 with fail
      rw [← hw2.out, ← hN.out]
      go_wp2_with fail
      refine DC.out.mono ?_
      rintro e w3 ⟨rfl, c3⟩
      have b3 := b2.out.trans (c3.mono b2.out.size)
      have B3 := B2.out.below c3 B2.out.lt
      have x0 := B3.cell 0
      cases hb : bc with
      | true =>
        have ed : D = 3 := by rw [hdu.out, f1.out, f2.out, hb]; rfl
        obtain ⟨H, B, K, hH, hK, TC, AC, SC⟩ := A3.out ed
        have y1 := CE.out w3 b3
        have e1 : decide (D ≠ 0) = true := by rw [ed]; rfl
        have TC3 := Lib.hid (fun nq => TC (w3.drewN nq) (below_drewN b3 nq))
        replace AC := Lib.hid AC
        replace SC := Lib.hid SC
        replace ed := Lib.hid ed
        replace b3 := Lib.hid b3
        replace e1 := Lib.hid e1
        replace B3 := Lib.hid B3
        clear hb hH c3 DC TC
        cases B with
        | false =>
          obtain rfl : (3 : Int) = K := hK
          go_upto_region 5 with fail
          go_quiet (first | (go_at_call 20; with_reducible exact quiet_left (TC3.out _)) | fail)
          rename Nat => nq1
          obtain ⟨w4, hw4⟩ : ∃ w4, w4 = w3.drewN nq1 := ⟨_, rfl⟩
          rw [← hw4]
          have b4 : Below w.heap.size w w4 := by rw [hw4]; exact below_drewN b3.out nq1
          have AC4 := Lib.hid (AC.out w4 b4)
          replace b4 := Lib.hid b4
          replace hw4 := Lib.hid hw4
          clear AC TC3 b3
          go_wp2_with fail
          refine AC4.out.mono ?_
          rintro e w5 ⟨rfl, c5⟩
          have b5 := b4.out.trans (c5.mono b4.out.size)
          have y5 := CE.out w5 b5
          have nf := nil_func w5
          have SC5 := Lib.hid (SC.out w5 b5)
          clear c5 b5 b4 AC4 SC
          go_wp2_with fail
          refine SC5.out.mono ?_
          rintro e w6 ⟨E, rfl, MK⟩
          replace MK := Lib.hid MK
          clear SC5
          go_wp2_with fail
          refine MK.out.mono ?_
          rintro e w7 ⟨rfl, T⟩
          replace T := Lib.hid T
          clear MK
          go_wp2
          go_ret
          exact ⟨by rw [e1.out]; rfl, T.out⟩
        | true =>
          obtain rfl : (2 : Int) = K := hK
          go_upto_region 5 with fail
          go_quiet (first | (go_at_call 20; with_reducible exact quiet_left (TC3.out _)) | fail)
          rename Nat => nq1
          obtain ⟨w4, hw4⟩ : ∃ w4, w4 = w3.drewN nq1 := ⟨_, rfl⟩
          rw [← hw4]
          have b4 : Below w.heap.size w w4 := by rw [hw4]; exact below_drewN b3.out nq1
          have AC4 := Lib.hid (AC.out w4 b4)
          replace b4 := Lib.hid b4
          replace hw4 := Lib.hid hw4
          clear AC TC3 b3
          go_wp2_with fail
          refine AC4.out.mono ?_
          rintro e w5 ⟨rfl, c5⟩
          have b5 := b4.out.trans (c5.mono b4.out.size)
          have y5 := CE.out w5 b5
          have nf := nil_func w5
          have SC5 := Lib.hid (SC.out w5 b5)
          clear c5 b5 b4 AC4 SC
          go_wp2_with fail
          refine SC5.out.mono ?_
          rintro e w6 ⟨E, rfl, MK⟩
          replace MK := Lib.hid MK
          clear SC5
          go_wp2_with fail
          refine MK.out.mono ?_
          rintro e w7 ⟨rfl, T⟩
          replace T := Lib.hid T
          clear MK
          go_wp2
          go_ret
          exact ⟨by rw [e1.out]; rfl, T.out⟩
      | false =>
        have fx := Lib.hid hb
        replace b3 := Lib.hid b3
        clear c3 DC B3 hb
        go_wp2
        go_roundw
        case rel => exact ⟨b3, .inr (.inr (.inr ⟨rfl, f1, f2, fx⟩))⟩
        case measure => simp [intOf]
    · have ed : D = 0 := by rw [hdu.out, f1.out, f2.out, f3.out]; rfl
      have e1 : decide (D ≠ 0) = false := by rw [ed]; rfl
      have T := Lib.hid (A0.out ed wr br.out)
      replace e1 := Lib.hid e1
      clear br
      go_wp2
      go_ret
      exact ⟨by rw [e1.out]; rfl, T.out⟩
end
section
variable {w : World} {L : Lay} {s : St} {bs : List UInt8} {Z : Nat → Option Zd} {gq gl : Nat} {Ls : Nat → Nat → List Nat} {mk : Nat → Nat} {g : Nat} {hot warm : Int} (h : LS w L s bs Z gq gl Ls mk g hot warm)
include h
set_option maxRecDepth 100000 in
theorem balanceC (sh : Shr hot warm) (x : Int) (links : Int) (hl : Cls.In links) : Calls Tryz.prog 19 #[.pointer (some ⟨g, 0, none⟩), .int .i64 x, .int .i64 links, .nilFunc] w fun e w' => e = .returned (.int .i64 ((balN s Z hot warm x links.toNat Ls mk).1.length : Int)) ∧ DL w w' L s bs Z gq gl (balN s Z hot warm x links.toNat Ls mk).2.1 (balN s Z hot warm x links.toNat Ls mk).2.2 g hot warm := by
  obtain ⟨hl1, hl2⟩ := hl
  have D0 := h.same (Below.refl w.heap.size w)
  obtain ⟨n, hn⟩ : ∃ n, n = links.toNat := ⟨_, rfl⟩
  rw [← hn]
  obtain ⟨P, hP⟩ : ∃ P, P = balN s Z hot warm x n Ls mk := ⟨_, rfl⟩
  have hPl : P.1.length ≤ n := by rw [hP]; exact balN_len ..
  rw [← hP]
  have hn1 : (n : Int) = links ∨ n = 0 ∧ links ≤ 0 := by omega
  have hl3 : n ≤ 9223372036854775807 := by omega
  replace hn := Lib.hid hn
  replace hP := Lib.hid hP
  replace D0 := Lib.hid D0
  replace sh := Lib.hid sh
  clear h hl1
  go_enter Tryz.func19, Tryz.ntmps19
  go_wp2_with fail
  go_loopw [9] (fun vi wr => ∃ (i : Nat) (L1 : Nat → Nat → List Nat) (m1 : Nat → Nat), vi = .int .i64 (i : Int) ∧ i ≤ n ∧ Hid (P.1.length = i + (balN s Z hot warm x (n - i) L1 m1).1.length) ∧ Hid (P.2 = (balN s Z hot warm x (n - i) L1 m1).2) ∧ Hid (DL w wr L s bs Z gq gl L1 m1 g hot warm)) (fun vi _ => n - (intOf vi).toNat)
  case atStart => exact ⟨0, Ls, mk, rfl, Nat.zero_le _, Lib.hid (by rw [hP.out]; simp), Lib.hid (by rw [hP.out]; rfl), D0⟩
  case round =>
    obtain ⟨i, L1, m1, rfl, hi, h1, h2, D⟩ := hrel
    obtain ⟨o1, bs1, Z1, e1, z1, S1⟩ := D.out
    have SC := stepC S1 sh.out x
    rw [dueK_congr z1] at SC
    have tr := fun w2 (k : DL wr w2 L s bs1 Z1 gq gl (nxtL s Z1 L1 m1 hot warm x) (nxtM s Z1 L1 m1 hot warm x) g hot warm) => show DL w w2 L s bs Z gq gl (nxtL s Z1 L1 m1 hot warm x) (nxtM s Z1 L1 m1 hot warm x) g hot warm from by
      obtain ⟨o2, bs2, Z2, e2, z2, S2⟩ := k
      exact ⟨two_trans o1 o2, bs2, Z2, e2.trans e1, fun H => (z2 H).trans (z1 H), S2⟩
    have dl : ∀ e : dueK s Z L1 m1 hot warm x = 0, nxtL s Z1 L1 m1 hot warm x = L1 ∧ nxtM s Z1 L1 m1 hot warm x = m1 := fun e => by
      unfold nxtL nxtM
      rw [dueK_congr z1, if_pos e, if_pos e]
      exact ⟨rfl, rfl⟩
    have dn : ∀ e : dueK s Z L1 m1 hot warm x ≠ 0, nxtL s Z1 L1 m1 hot warm x = stepL s Z L1 m1 hot warm x ∧ nxtM s Z1 L1 m1 hot warm x = stepM s Z L1 m1 hot warm x := fun e => by
      unfold nxtL nxtM
      rw [dueK_congr z1, if_neg e, if_neg e, stepL_congr z1, stepM_congr z1]
      exact ⟨rfl, rfl⟩
    generalize nxtL s Z1 L1 m1 hot warm x = NL at *
    generalize nxtM s Z1 L1 m1 hot warm x = NM at *
    replace tr := Lib.hid tr
    clear o1 e1 S1 z1
    by_cases hin : i < n
    · have d1 : decide ((i : Int) < links) = true := decide_eq_true (by omega)
      obtain ⟨m, hm⟩ : ∃ m, n - i = m + 1 := ⟨n - i - 1, by omega⟩
      have hm2 : n - (i + 1) = m := by omega
      have q1 : IntKind.i64.wrap ((i : Int) + 1) = (i : Int) + 1 := IntWalk.i64_in _ (by omega)
      by_cases hd : dueK s Z L1 m1 hot warm x = 0
      · have ed : decide (dueK s Z L1 m1 hot warm x ≠ 0) = false := decide_eq_false (by simpa using hd)
        rw [ed] at SC
        obtain ⟨rfl, rfl⟩ := dl hd
        rw [balN_no hd] at h1 h2
        replace SC := Lib.hid SC
        replace hd := Lib.hid hd
        clear dl dn ed hm hm2
        go_wp2_with fail
        refine SC.out.mono ?_
        rintro e w2 ⟨rfl, k⟩
        have T := Lib.hid (tr.out w2 k)
        clear k
        have e3 : P.1.length = i := by have := h1.out; simpa using this
        have e4 : P.2 = (NL, NM) := h2.out
        replace e3 := Lib.hid e3
        replace e4 := Lib.hid e4
        go_wp2
        go_ret
        refine ⟨by rw [e3.out]; rfl, ?_⟩
        rw [e4.out]
        exact T.out
      · have ed : decide (dueK s Z L1 m1 hot warm x ≠ 0) = true := decide_eq_true hd
        rw [ed] at SC
        obtain ⟨rfl, rfl⟩ := dn hd
        rw [hm, balN_yes hd] at h1 h2
        replace SC := Lib.hid SC
        replace hd := Lib.hid hd
        replace hm := Lib.hid hm
        replace hm2 := Lib.hid hm2
        clear dl dn ed
        go_wp2_with fail
        refine SC.out.mono ?_
        rintro e w2 ⟨rfl, k⟩
        have T := Lib.hid (tr.out w2 k)
        clear k
        go_wp2
        go_roundw
        case rel => exact ⟨i + 1, _, _, by simp, by omega, Lib.hid (by rw [h1.out, hm2.out]; simp only [List.length_cons]; omega), Lib.hid (by rw [h2.out, hm2.out]), T⟩
        case measure => simp [intOf] <;> omega
    · obtain rfl : i = n := by omega
      have d1 : decide ((i : Int) < links) = false := decide_eq_false (by omega)
      have e3 : P.1.length = i := by have := h1.out; rw [Nat.sub_self] at this; simpa [balN] using this
      have e4 : P.2 = (L1, m1) := by have := h2.out; rw [Nat.sub_self] at this; simpa [balN] using this
      replace e3 := Lib.hid e3
      replace e4 := Lib.hid e4
      clear SC tr dl dn
      go_wp2
      go_ret
      refine ⟨by rw [e3.out]; rfl, ?_⟩
      rw [e4.out]
      exact D.out
end
end Go.Proofs.YtngehaiigbbknaaGreat.Que
/-
  The queue's iterators: along.
-/
namespace Go.Proofs.YtngehaiigbbknaaGreat.Que
open Go.RowKit Base Arena Cls Itm Go.Shelf
set_option linter.unusedVariables false
set_option linter.unusedSectionVars false
attribute [local go_sem] Oper.semAt_some

/-- A handle's number. -/
abbrev HU := { H : Nat // H < 18446744073709551616 }
def hu (x : HU) : Array Value := #[.int .u64 (x.1 : Int)]
theorem grown_of_below {w w' : World} (h : Below w.heap.size w w') : w.grownBy w' none := ⟨h.os, h.tape, h.output, h.size, fun k hk _ => h.block k hk⟩
theorem QW.below {w w' : World} {L : Lay} {c : Conf} {s : St} {bs : List UInt8} {Z : Nat → Option Zd} {gq gl : Nat} {Ls : Nat → Nat → List Nat} (h : QW w L c s bs Z gq gl Ls) (b : Below w.heap.size w w') : QW w' L c s bs Z gq gl Ls := by
  obtain ⟨F, S, q⟩ := h
  exact ⟨F, S.below b, q⟩
end Go.Proofs.YtngehaiigbbknaaGreat.Que
/-
  The queue's iterators: along's closure.
-/
namespace Go.Proofs.YtngehaiigbbknaaGreat.Que
open Go.RowKit Base Arena Cls Itm Go.Shelf
set_option linter.unusedVariables false
set_option linter.unusedSectionVars false
attribute [local go_sem] Oper.semAt_some

end Go.Proofs.YtngehaiigbbknaaGreat.Que
/-
  A range over a function whose iterator holds a range of its own: what a round keeps is told of all blocks but loops' records and rows of uint64. Nothing here names a function of the program.
-/
namespace Go.Proofs.YtngehaiigbbknaaGreat.Que
open Go.RowKit Base Arena Cls Itm Go.Shelf
set_option linter.unusedVariables false
set_option linter.unusedSectionVars false

/-- A block that a round leaves alone: no loop's record, no row of uint64. -/
def prot : Obj → Bool
  | .loop _ => false
  | .cells _ t _ => decide (t ≠ 50)
  | _ => true
structure KeepP (D : Nat) (A B : World) : Prop where
  size : A.heap.size ≤ B.heap.size
  same : ∀ (b : Nat) (o : Obj), D ≤ b → A.heap[b]? = some o → prot o = true → B.heap[b]? = some o
theorem KeepP.refl (D : Nat) (A : World) : KeepP D A A := ⟨Nat.le_refl _, fun _ _ _ h _ => h⟩
theorem KeepP.trans {D : Nat} {A B C : World} (h : KeepP D A B) (k : KeepP D B C) : KeepP D A C := ⟨Nat.le_trans h.size k.size, fun b o hb ho hp => k.same b o hb (h.same b o hb ho hp) hp⟩
theorem KeepP.below {D : Nat} {A B : World} (h : Below A.heap.size A B) : KeepP D A B := ⟨h.size, fun b o _ ho _ => (h.block b (heap_lt ho)).trans ho⟩
theorem KeepP.only {D : Nat} {S : Nat → Prop} {A B : World} (h : Only S A B) (hs : ∀ b o, D ≤ b → A.heap[b]? = some o → prot o = true → ¬ S b) : KeepP D A B := ⟨h.size, fun b o hb ho hp => (h.block b (heap_lt ho) (hs b o hb ho hp)).trans ho⟩
section
variable {P : Program} {n : Nat} {w : World}
end
end Go.Proofs.YtngehaiigbbknaaGreat.Que
/-
  The queue's iterators: All's closure.
-/
namespace Go.Proofs.YtngehaiigbbknaaGreat.Que
open Go.RowKit Base Arena Cls Itm Go.Shelf
set_option linter.unusedVariables false
set_option linter.unusedSectionVars false
attribute [local go_sem] Oper.semAt_some

def hv (x : HU) : Value := .int .u64 (x.1 : Int)
end Go.Proofs.YtngehaiigbbknaaGreat.Que
/-
  The program's Lru: the row of a class, ranged over.
-/
namespace Go.Proofs.YtngehaiigbbknaaGreat.Que
open Go.RowKit Base Arena Cls Itm Go.Shelf
set_option linter.unusedVariables false
set_option linter.unusedSectionVars false
attribute [local go_sem] Oper.semAt_some

/-- What lies ahead of H in its list. -/
theorem QI.prev_in {c : Conf} {s : St} {Z : Nat → Option Zd} {F : QN} {Ls : Nat → Nat → List Nat} (q : QI c s Z F Ls) (ok : c.cf.Ok) (g : Cls.Good c.cf s) {x k H : Nat} (hx : x < c.nc) (hk : k < 3) {l1 l2 : List Nat} (hl : Ls x k = l1 ++ H :: l2) :
    prevN c s Ls H = l1.getLast?.getD 0 ∧ (decide (prevN c s Ls H ≠ 0)) = decide (0 < l1.length) ∧ H < 18446744073709551616 := by
  have hm : H ∈ Ls x k := by rw [hl]; simp
  obtain ⟨i, y, p, hf, hc⟩ := q.it x k H hx hk hm
  have ec : clsN c s H = x := by unfold clsN; rw [hf]; exact hc
  have h0 : stK (clsN c s H) Ls H ≠ 0 := fun e => stK_zero e k hk (by rw [ec]; exact hm)
  obtain ⟨k', i', y', p', hk', e, hf', ec', hx', hm'⟩ := q.of_stK ok g h0
  rw [← ec', ec] at hm'
  obtain ⟨-, rfl⟩ := q.dj x k' x k H hx hk' hx hk hm' hm
  have hnd := q.nd x k' hx hk
  rw [hl] at hnd
  have n1 : H ∉ l1 := fun e => (List.nodup_append.1 hnd).2.2 H e H (List.mem_cons_self ..) rfl
  have en : prevN c s Ls H = l1.getLast?.getD 0 := by
    unfold prevN
    rw [if_neg h0, e, ec, Nat.add_sub_cancel, hl]
    unfold aheadN
    rw [idx_split n1, List.take_left]
  refine ⟨en, ?_, good_lt ok g hf⟩
  rw [en]
  cases hl1 : l1.getLast? with
  | none =>
    have : l1 = [] := List.getLast?_eq_none_iff.1 hl1
    subst this
    rfl
  | some a =>
    have ha0 : a ∈ l1 := List.mem_of_getLast? hl1
    have ha : a ≠ 0 := q.ne0 hx hk (show a ∈ Ls x k' by rw [hl]; exact List.mem_append_left _ ha0)
    have hp : 0 < l1.length := List.length_pos_of_mem ha0
    show decide (a ≠ 0) = decide (0 < l1.length)
    rw [decide_eq_true ha, decide_eq_true hp]
/-- The row of a kind: from its tail to its head. -/
def revX (Ls : Nat → Nat → List Nat) (x k : Int) : List Nat := (lsN qc Ls x k).reverse
/-- The row of a class. -/
def rowX (Ls : Nat → Nat → List Nat) (x : Int) : List Nat := revX Ls x 3 ++ revX Ls x 2 ++ revX Ls x 1
/-- What the queue tells of a kind, wherever P holds. -/
structure KF (P : World → Prop) (gq : Nat) (x k : Int) (R : List Nat) : Prop where
  small : R.length ≤ 134217729
  tc : ∀ w, P w → Calls Tryz.prog 20 #[.pointer (some ⟨gq, 0, none⟩), .int .i64 x, .int .i64 k] w fun e w' => e = .returned (.tuple #[.int .u64 (R.head?.getD 0 : Int), .bool (decide (0 < R.length))]) ∧ w = w'
  lc : ∀ w, P w → Calls Tryz.prog 43 #[.pointer (some ⟨gq, 0, none⟩), .int .i64 x, .int .i64 k] w fun e w' => e = .returned (.int .i64 (R.length : Int)) ∧ w = w'
  ac : ∀ w, P w → ∀ (l1 : List Nat) (y : Nat) (l2 : List Nat), R = l1 ++ y :: l2 → y < 18446744073709551616 ∧ Calls Tryz.prog 47 #[.pointer (some ⟨gq, 0, none⟩), .int .u64 (y : Int)] w fun e w' => e = .returned (.tuple #[.int .u64 (l2.head?.getD 0 : Int), .bool (decide (0 < l2.length))]) ∧ Below w.heap.size w w'
theorem KF.of {P : World → Prop} {L : Lay} {s : St} {bs : List UInt8} {Z : Nat → Option Zd} {gq gl : Nat} {Ls : Nat → Nat → List Nat} {w0 : World} (h : QW w0 L qc s bs Z gq gl Ls) (hP : ∀ w, P w → QW w L qc s bs Z gq gl Ls) (x k : Int) : KF P gq x k (revX Ls x k) := by
  refine ⟨?_, fun w p => ?_, fun w p => ?_, fun w p l1 y l2 hl => ?_⟩
  · unfold revX
    rw [List.length_reverse]
    unfold lsN
    split
    · rename_i hv
      obtain ⟨F, S1, q⟩ := h
      rw [← q.n _ _ (by omega) (by omega)]
      exact q.nB S1.okc S1.zs.good (by omega) (by omega)
    · simp
  · have := tailC (hP w p) x k
    unfold revX
    rw [List.head?_reverse, List.length_reverse]
    exact this
  · have := lenC (hP w p) x k
    unfold revX
    rw [List.length_reverse]
    exact this
  · have Q := hP w p
    have Q' := Q
    obtain ⟨F, S1, q⟩ := Q'
    unfold revX lsN at hl
    split at hl
    · rename_i hv
      have hl' : Ls x.toNat (k.toNat - 1) = l2.reverse ++ y :: l1.reverse := by
        have := congrArg List.reverse hl
        rw [List.reverse_reverse] at this
        rw [this]
        simp
      obtain ⟨e1, e2, e3⟩ := q.prev_in S1.okc S1.zs.good (by omega) (by omega) hl'
      have := aheadC Q y e3
      rw [e2, e1, List.getLast?_reverse, List.length_reverse] at this
      exact ⟨e3, this⟩
    · simp at hl
theorem only_drew {S : Nat → Prop} {w w' : World} (o : Only S w w') (n : Nat) : Only S w (w'.drewN n) := o.below (below_drewN (Below.refl _ _) n) o.size
theorem kind_at0 (w : World) : Sem.run Tryz.prog (Instr.index 183 (.agg #[.int .i64 3, .int .i64 2, .int .i64 1]) (.int .i64 0)) w = .ok (.int .i64 3) w := by kernel_rfl
theorem kind_at1 (w : World) : Sem.run Tryz.prog (Instr.index 183 (.agg #[.int .i64 3, .int .i64 2, .int .i64 1]) (.int .i64 1)) w = .ok (.int .i64 2) w := by kernel_rfl
theorem kind_at2 (w : World) : Sem.run Tryz.prog (Instr.index 183 (.agg #[.int .i64 3, .int .i64 2, .int .i64 1]) (.int .i64 2)) w = .ok (.int .i64 1) w := by kernel_rfl
set_option maxRecDepth 100000 in
set_option maxHeartbeats 3200000 in
theorem row1_in {w : World} {L : Lay} {s : St} {bs : List UInt8} {Z : Nat → Option Zd} {gq gl : Nat} {Ls : Nat → Nat → List Nat} {mk : Nat → Nat} {g : Nat} {hot warm : Int} (h : LS w L s bs Z gq gl Ls mk g hot warm) (x : Int) (n : Nat) (hn : 2 ≤ n) (l Bl Bc : Nat)
    (S : Nat → Prop) (hS : ∀ b, b < w.heap.size → ¬ S b) (hB : ¬ S Bl ∧ ¬ S Bc) (J Jx : List HU → World → Prop) (W : World) (hw : Below w.heap.size w W) (hJ : AbidesFrom W.heap.size J)
    (hY : ∀ pre (y : HU) W1, J pre W1 → pre.length < (rowX Ls x).length → YieldAt Fence.wide (n - 1) Tryz.prog l #[.int .u64 (y.1 : Int)] W1 fun e W' =>
      (e = .returned (.bool true) ∧ J (pre ++ [y]) W' ∧ Only S W1 W') ∨ (e = .returned (.bool false) ∧ Jx (pre ++ [y]) W'))
    (cl : W.cell? ⟨Bl, 0, none⟩ = some (.pointer (some ⟨g, 0, none⟩))) (cc : W.cell? ⟨Bc, 0, none⟩ = some (.int .i64 x)) (h0 : J [] W) :
    CallsIn Fence.wide n Tryz.prog 105 #[.func (.yield l) #[] #[], .pointer (some ⟨Bl, 0, none⟩), .pointer (some ⟨Bc, 0, none⟩)] W fun e W' => (∃ v, e = .returned v) ∧
      ((∃ ys : List HU, ys.map (·.1) = rowX Ls x ∧ J ys W') ∨ (∃ pre : List HU, pre.map (·.1) <+: rowX Ls x ∧ Jx pre W')) := by
  have LSw : ∀ wr, Only S W wr → LS wr L s bs Z gq gl Ls mk g hot warm := fun wr o => h.below (hw.trans (o.toBelow fun k hk => ⟨by have := hw.size; omega, hS k hk⟩))
  have cells : ∀ wr, Only S W wr → wr.cell? ⟨Bl, 0, none⟩ = some (.pointer (some ⟨g, 0, none⟩)) ∧ wr.cell? ⟨Bc, 0, none⟩ = some (.int .i64 x) ∧ wr.cell? ⟨g, 1, none⟩ = some (.pointer (some ⟨gq, 0, none⟩)) := fun wr o =>
    ⟨(World.cell?_of_block (a := ⟨Bl, 0, none⟩) (o.block Bl (World.block_lt_of_cell? W _ cl) hB.1)).trans cl, (World.cell?_of_block (a := ⟨Bc, 0, none⟩) (o.block Bc (World.block_lt_of_cell? W _ cc) hB.2)).trans cc, (LSw wr o).cells.2.1⟩
  have K3 := KF.of h.q (fun wr (o : Only S W wr) => (LSw wr o).q) x 3
  have K2 := KF.of h.q (fun wr (o : Only S W wr) => (LSw wr o).q) x 2
  have K1 := KF.of h.q (fun wr (o : Only S W wr) => (LSw wr o).q) x 1
  unfold rowX at hY ⊢
  generalize revX Ls x 3 = R3 at *
  generalize revX Ls x 2 = R2 at *
  generalize revX Ls x 1 = R1 at *
  have sm3 := K3.small
  have sm2 := K2.small
  have sm1 := K1.small
  replace K3 := Lib.hid K3
  replace K2 := Lib.hid K2
  replace K1 := Lib.hid K1
  replace cells := Lib.hid cells
  replace hY := Lib.hid hY
  replace hJ := Lib.hid hJ
  replace h0 := Lib.hid h0
  clear hS hB hw cl cc LSw h
  refine callsIn_of_wp Tryz.func105 rfl trivial ?_ rfl
  simp only [Tryz.ntmps105, List.size_toArray, List.length_cons, List.length_nil, Nat.reduceAdd, Nat.reduceSub, Array.replicate_succ, Array.replicate_zero, List.push_toArray, List.append_toArray, List.nil_append, List.cons_append]
  gi_wp2_with fail
  gi_loopw [10] (fun vi wr => ∃ pre : List HU, Hid (J pre wr) ∧ Hid (Only S W wr) ∧ ((vi = .int .i64 0 ∧ Hid (pre.map (·.1) = [])) ∨ (vi = .int .i64 1 ∧ Hid (pre.map (·.1) = R3)) ∨ (vi = .int .i64 2 ∧ Hid (pre.map (·.1) = R3 ++ R2)) ∨ (vi = .int .i64 3 ∧ Hid (pre.map (·.1) = R3 ++ R2 ++ R1)))) (fun vi _ => 3 - (intOf vi).toNat)
  case atStart => exact ⟨[], h0, Lib.hid (Only.refl _ _), .inl ⟨rfl, Lib.hid rfl⟩⟩
  case round =>
    obtain ⟨pre0, hJ0, ho, ⟨rfl, hp0⟩ | ⟨rfl, hp0⟩ | ⟨rfl, hp0⟩ | ⟨rfl, hp0⟩⟩ := hrel
    · have ix := kind_at0 wr
      have q9 : IntKind.i64.wrap (0 + 1) = 1 := rfl
      obtain ⟨cl1, cc1, cg1⟩ := cells.out wr ho.out
      have TC := Lib.hid (fun nq => K3.out.tc (wr.drewN nq) (only_drew ho.out nq))
      gi_upto_region 3 with fail
      refine wpIn_region_quiet_lit rfl (by kernel_rfl) (by kernel_rfl) ?_
      iterate 6 (quiet_step_in (fail))
      refine wpQuietIn_step (by intro _ _ _ _; trivial) (fun K hK => ?_)
      go_simp
      apply Exists.intro
      refine ⟨fun _ => ⟨fun _ => by omega, CallsIn.quiet_of_same ((callsIn_wide.2 (TC.out _)).mono fun _ _ ⟨a, b⟩ => ⟨a, b.symm⟩)⟩, hK _ ?_⟩
      clear hK K
      repeat (quiet_step_in (fail))
      refine wpQuietIn_nil ?_
      intro _ hw'
      obtain ⟨nq, hw''⟩ := hw'
      subst hw''
      obtain ⟨w2, hw2⟩ : ∃ w2, w2 = wr.drewN nq := ⟨_, rfl⟩
      rw [← hw2]
      have o2 : Only S W w2 := by rw [hw2]; exact only_drew ho.out nq
      have J2 : J pre0 w2 := by rw [hw2]; exact hJ.out _ _ _ none hJ0.out (grown_of_below (below_drewN (Below.refl _ _) nq)) (fun r e => by cases e)
      obtain ⟨cl1, cc1, cg1⟩ := cells.out w2 o2
      have LC := Lib.hid (fun nq => K3.out.lc (w2.drewN nq) (only_drew o2 nq))
      replace o2 := Lib.hid o2
      replace J2 := Lib.hid J2
      replace hw2 := Lib.hid hw2
      clear TC hJ0 ho
      gi_upto_region 4 with fail
      refine wpIn_region_quiet_lit rfl (by kernel_rfl) (by kernel_rfl) ?_
      iterate 6 (quiet_step_in (fail))
      refine wpQuietIn_step (by intro _ _ _ _; trivial) (fun K hK => ?_)
      go_simp
      apply Exists.intro
      refine ⟨fun _ => ⟨fun _ => by omega, CallsIn.quiet_of_same ((callsIn_wide.2 (LC.out _)).mono fun _ _ ⟨a, b⟩ => ⟨a, b.symm⟩)⟩, hK _ ?_⟩
      clear hK K
      repeat (quiet_step_in (fail))
      refine wpQuietIn_nil ?_
      intro _ hw'
      obtain ⟨nq2, hw''⟩ := hw'
      subst hw''
      obtain ⟨w3, hw3⟩ : ∃ w3, w3 = w2.drewN nq2 := ⟨_, rfl⟩
      rw [← hw3]
      have o3 := Lib.hid (show Only S W w3 by rw [hw3]; exact only_drew o2.out nq2)
      have J3 := Lib.hid (show J pre0 w3 by rw [hw3]; exact hJ.out _ _ _ none J2.out (grown_of_below (below_drewN (Below.refl _ _) nq2)) (fun r e => by cases e))
      replace hw3 := Lib.hid hw3
      clear LC J2 o2
      gi_wp2_with fail
      gi_loopw [6, 7, 8] (fun th tk tn wr => ∃ (pre : List HU) (done rest : List Nat), th = .int .u64 (rest.head?.getD 0 : Int) ∧ tk = .bool (decide (0 < rest.length)) ∧ tn = .int .i64 (rest.length : Int) ∧ Hid (R3 = done ++ rest) ∧ Hid (pre.map (·.1) = [] ++ done) ∧ Hid (J pre wr) ∧ Hid (Only S W wr)) (fun _ _ tn _ => (intOf tn).toNat)
      case atStart => exact ⟨pre0, [], R3, rfl, rfl, rfl, Lib.hid rfl, Lib.hid (by rw [hp0.out]; simp), J3, o3⟩
      case round =>
        obtain ⟨pre, done, rest, rfl, rfl, rfl, hx, hp, hJs, ho⟩ := hrel
        obtain ⟨cl1, cc1, cg1⟩ := cells.out wr ho.out
        cases rest with
        | nil =>
          have e1 : (([] : List Nat).head?.getD 0) = 0 := rfl
          have e2 : decide (0 < ([] : List Nat).length) = false := rfl
          have hpe := Lib.hid (show pre.map (·.1) = R3 by rw [hp.out, hx.out]; simp)
          rw [e1, e2]
          gi_wp2
          go_roundw
          case rel => exact ⟨pre, hJs, ho, .inr (.inl ⟨rfl, hpe⟩)⟩
          case measure => simp [intOf]
        | cons y rest =>
          obtain ⟨hy64, -⟩ := K3.out.ac wr ho.out _ _ _ hx.out
          have hfull : R3 ++ R2 ++ R1 = pre.map (·.1) ++ y :: (rest ++ (R2 ++ R1)) := by rw [hp.out, hx.out]; simp
          obtain ⟨fn, tmps, assign, body, hy, hR⟩ := hY.out pre ⟨y, hy64⟩ wr hJs.out (by rw [hfull, List.length_append, List.length_map, List.length_cons]; omega)
          dsimp only at hy
          have e1 : ((y :: rest).head?.getD 0) = y := rfl
          have e2 : decide (0 < (y :: rest).length) = true := by simp
          obtain ⟨m, hm⟩ : ∃ m, m = (y :: rest).length := ⟨_, rfl⟩
          have hm1 : m = rest.length + 1 := by rw [hm]; rfl
          rw [e1, e2, ← hm]
          have d1 : decide ((0 : Int) < (m : Int)) = true := decide_eq_true (by omega)
          have d2 : (0 : Int) < (m : Int) := by omega
          have q1 : IntKind.i64.wrap ((m : Int) - 1) = (rest.length : Int) := by
            have hl : R3.length = done.length + m := by rw [hx.out, List.length_append, ← hm]
            rw [IntWalk.i64_in _ (by omega)]; omega
          replace hm := Lib.hid hm
          replace hm1 := Lib.hid hm1
          replace hfull := Lib.hid hfull
          clear e1 e2
          gi_wp2
          refine ⟨fun _ => by omega, ?_⟩
          refine hR.mono ?_
          rintro e W3 (⟨rfl, hJ3, hk3⟩ | ⟨rfl, hJx3⟩)
          · have o5 := ho.out.trans hk3 fun _ _ h => h
            obtain ⟨cl3, cc3, cg3⟩ := cells.out W3 o5
            have BB := Lib.hid (K3.out.ac W3 o5 _ _ _ hx.out).2
            replace hJ3 := Lib.hid hJ3
            replace o5 := Lib.hid o5
            clear hk3 hJs ho
            gi_wp2_with (first | (refine ⟨trivial, fun _ => by omega, ?_⟩; gi_at_call 47; refine (callsIn_wide.2 BB.out).mono ?_; rintro e w4 ⟨rfl, b4⟩) | (refine ⟨trivial, ?_⟩; gi_at_call 47; refine (callsIn_wide.2 BB.out).mono ?_; rintro e w4 ⟨rfl, b4⟩) | fail)
            go_roundw
            case rel => exact ⟨pre ++ [⟨y, hy64⟩], done ++ [y], rest, rfl, rfl, rfl, Lib.hid (by rw [hx.out]; simp), Lib.hid (by rw [List.map_append, hp.out]; simp), Lib.hid (hJ.out _ _ _ none hJ3.out (grown_of_below b4) (fun r e => by cases e)), Lib.hid (o5.out.below b4 o5.out.size)⟩
            case measure => simp [intOf]; have := hm1.out; omega
          · gi_wp2
            refine bodyPost_ret (results_none rfl _ _ _) rfl ?_
            exact ⟨⟨_, rfl⟩, .inr ⟨pre ++ [⟨y, hy64⟩], ⟨rest ++ (R2 ++ R1), by rw [hfull.out, List.map_append]; simp⟩, hJx3⟩⟩
    · have ix := kind_at1 wr
      have q9 : IntKind.i64.wrap (1 + 1) = 2 := rfl
      obtain ⟨cl1, cc1, cg1⟩ := cells.out wr ho.out
      have TC := Lib.hid (fun nq => K2.out.tc (wr.drewN nq) (only_drew ho.out nq))
      gi_upto_region 3 with fail
      refine wpIn_region_quiet_lit rfl (by kernel_rfl) (by kernel_rfl) ?_
      iterate 6 (quiet_step_in (fail))
      refine wpQuietIn_step (by intro _ _ _ _; trivial) (fun K hK => ?_)
      go_simp
      apply Exists.intro
      refine ⟨fun _ => ⟨fun _ => by omega, CallsIn.quiet_of_same ((callsIn_wide.2 (TC.out _)).mono fun _ _ ⟨a, b⟩ => ⟨a, b.symm⟩)⟩, hK _ ?_⟩
      clear hK K
      repeat (quiet_step_in (fail))
      refine wpQuietIn_nil ?_
      intro _ hw'
      obtain ⟨nq, hw''⟩ := hw'
      subst hw''
      obtain ⟨w2, hw2⟩ : ∃ w2, w2 = wr.drewN nq := ⟨_, rfl⟩
      rw [← hw2]
      have o2 : Only S W w2 := by rw [hw2]; exact only_drew ho.out nq
      have J2 : J pre0 w2 := by rw [hw2]; exact hJ.out _ _ _ none hJ0.out (grown_of_below (below_drewN (Below.refl _ _) nq)) (fun r e => by cases e)
      obtain ⟨cl1, cc1, cg1⟩ := cells.out w2 o2
      have LC := Lib.hid (fun nq => K2.out.lc (w2.drewN nq) (only_drew o2 nq))
      replace o2 := Lib.hid o2
      replace J2 := Lib.hid J2
      replace hw2 := Lib.hid hw2
      clear TC hJ0 ho
      gi_upto_region 4 with fail
      refine wpIn_region_quiet_lit rfl (by kernel_rfl) (by kernel_rfl) ?_
      iterate 6 (quiet_step_in (fail))
      refine wpQuietIn_step (by intro _ _ _ _; trivial) (fun K hK => ?_)
      go_simp
      apply Exists.intro
      refine ⟨fun _ => ⟨fun _ => by omega, CallsIn.quiet_of_same ((callsIn_wide.2 (LC.out _)).mono fun _ _ ⟨a, b⟩ => ⟨a, b.symm⟩)⟩, hK _ ?_⟩
      clear hK K
      repeat (quiet_step_in (fail))
      refine wpQuietIn_nil ?_
      intro _ hw'
      obtain ⟨nq2, hw''⟩ := hw'
      subst hw''
      obtain ⟨w3, hw3⟩ : ∃ w3, w3 = w2.drewN nq2 := ⟨_, rfl⟩
      rw [← hw3]
      have o3 := Lib.hid (show Only S W w3 by rw [hw3]; exact only_drew o2.out nq2)
      have J3 := Lib.hid (show J pre0 w3 by rw [hw3]; exact hJ.out _ _ _ none J2.out (grown_of_below (below_drewN (Below.refl _ _) nq2)) (fun r e => by cases e))
      replace hw3 := Lib.hid hw3
      clear LC J2 o2
      gi_wp2_with fail
      gi_loopw [6, 7, 8] (fun th tk tn wr => ∃ (pre : List HU) (done rest : List Nat), th = .int .u64 (rest.head?.getD 0 : Int) ∧ tk = .bool (decide (0 < rest.length)) ∧ tn = .int .i64 (rest.length : Int) ∧ Hid (R2 = done ++ rest) ∧ Hid (pre.map (·.1) = R3 ++ done) ∧ Hid (J pre wr) ∧ Hid (Only S W wr)) (fun _ _ tn _ => (intOf tn).toNat)
      case atStart => exact ⟨pre0, [], R2, rfl, rfl, rfl, Lib.hid rfl, Lib.hid (by rw [hp0.out]; simp), J3, o3⟩
      case round =>
        obtain ⟨pre, done, rest, rfl, rfl, rfl, hx, hp, hJs, ho⟩ := hrel
        obtain ⟨cl1, cc1, cg1⟩ := cells.out wr ho.out
        cases rest with
        | nil =>
          have e1 : (([] : List Nat).head?.getD 0) = 0 := rfl
          have e2 : decide (0 < ([] : List Nat).length) = false := rfl
          have hpe := Lib.hid (show pre.map (·.1) = R3 ++ R2 by rw [hp.out, hx.out]; simp)
          rw [e1, e2]
          gi_wp2
          go_roundw
          case rel => exact ⟨pre, hJs, ho, .inr (.inr (.inl ⟨rfl, hpe⟩))⟩
          case measure => simp [intOf]
        | cons y rest =>
          obtain ⟨hy64, -⟩ := K2.out.ac wr ho.out _ _ _ hx.out
          have hfull : R3 ++ R2 ++ R1 = pre.map (·.1) ++ y :: (rest ++ (R1)) := by rw [hp.out, hx.out]; simp
          obtain ⟨fn, tmps, assign, body, hy, hR⟩ := hY.out pre ⟨y, hy64⟩ wr hJs.out (by rw [hfull, List.length_append, List.length_map, List.length_cons]; omega)
          dsimp only at hy
          have e1 : ((y :: rest).head?.getD 0) = y := rfl
          have e2 : decide (0 < (y :: rest).length) = true := by simp
          obtain ⟨m, hm⟩ : ∃ m, m = (y :: rest).length := ⟨_, rfl⟩
          have hm1 : m = rest.length + 1 := by rw [hm]; rfl
          rw [e1, e2, ← hm]
          have d1 : decide ((0 : Int) < (m : Int)) = true := decide_eq_true (by omega)
          have d2 : (0 : Int) < (m : Int) := by omega
          have q1 : IntKind.i64.wrap ((m : Int) - 1) = (rest.length : Int) := by
            have hl : R2.length = done.length + m := by rw [hx.out, List.length_append, ← hm]
            rw [IntWalk.i64_in _ (by omega)]; omega
          replace hm := Lib.hid hm
          replace hm1 := Lib.hid hm1
          replace hfull := Lib.hid hfull
          clear e1 e2
          gi_wp2
          refine ⟨fun _ => by omega, ?_⟩
          refine hR.mono ?_
          rintro e W3 (⟨rfl, hJ3, hk3⟩ | ⟨rfl, hJx3⟩)
          · have o5 := ho.out.trans hk3 fun _ _ h => h
            obtain ⟨cl3, cc3, cg3⟩ := cells.out W3 o5
            have BB := Lib.hid (K2.out.ac W3 o5 _ _ _ hx.out).2
            replace hJ3 := Lib.hid hJ3
            replace o5 := Lib.hid o5
            clear hk3 hJs ho
            gi_wp2_with (first | (refine ⟨trivial, fun _ => by omega, ?_⟩; gi_at_call 47; refine (callsIn_wide.2 BB.out).mono ?_; rintro e w4 ⟨rfl, b4⟩) | (refine ⟨trivial, ?_⟩; gi_at_call 47; refine (callsIn_wide.2 BB.out).mono ?_; rintro e w4 ⟨rfl, b4⟩) | fail)
            go_roundw
            case rel => exact ⟨pre ++ [⟨y, hy64⟩], done ++ [y], rest, rfl, rfl, rfl, Lib.hid (by rw [hx.out]; simp), Lib.hid (by rw [List.map_append, hp.out]; simp), Lib.hid (hJ.out _ _ _ none hJ3.out (grown_of_below b4) (fun r e => by cases e)), Lib.hid (o5.out.below b4 o5.out.size)⟩
            case measure => simp [intOf]; have := hm1.out; omega
          · gi_wp2
            refine bodyPost_ret (results_none rfl _ _ _) rfl ?_
            exact ⟨⟨_, rfl⟩, .inr ⟨pre ++ [⟨y, hy64⟩], ⟨rest ++ (R1), by rw [hfull.out, List.map_append]; simp⟩, hJx3⟩⟩
    · have ix := kind_at2 wr
      have q9 : IntKind.i64.wrap (2 + 1) = 3 := rfl
      obtain ⟨cl1, cc1, cg1⟩ := cells.out wr ho.out
      have TC := Lib.hid (fun nq => K1.out.tc (wr.drewN nq) (only_drew ho.out nq))
      gi_upto_region 3 with fail
      refine wpIn_region_quiet_lit rfl (by kernel_rfl) (by kernel_rfl) ?_
      iterate 6 (quiet_step_in (fail))
      refine wpQuietIn_step (by intro _ _ _ _; trivial) (fun K hK => ?_)
      go_simp
      apply Exists.intro
      refine ⟨fun _ => ⟨fun _ => by omega, CallsIn.quiet_of_same ((callsIn_wide.2 (TC.out _)).mono fun _ _ ⟨a, b⟩ => ⟨a, b.symm⟩)⟩, hK _ ?_⟩
      clear hK K
      repeat (quiet_step_in (fail))
      refine wpQuietIn_nil ?_
      intro _ hw'
      obtain ⟨nq, hw''⟩ := hw'
      subst hw''
      obtain ⟨w2, hw2⟩ : ∃ w2, w2 = wr.drewN nq := ⟨_, rfl⟩
      rw [← hw2]
      have o2 : Only S W w2 := by rw [hw2]; exact only_drew ho.out nq
      have J2 : J pre0 w2 := by rw [hw2]; exact hJ.out _ _ _ none hJ0.out (grown_of_below (below_drewN (Below.refl _ _) nq)) (fun r e => by cases e)
      obtain ⟨cl1, cc1, cg1⟩ := cells.out w2 o2
      have LC := Lib.hid (fun nq => K1.out.lc (w2.drewN nq) (only_drew o2 nq))
      replace o2 := Lib.hid o2
      replace J2 := Lib.hid J2
      replace hw2 := Lib.hid hw2
      clear TC hJ0 ho
      gi_upto_region 4 with fail
      refine wpIn_region_quiet_lit rfl (by kernel_rfl) (by kernel_rfl) ?_
      iterate 6 (quiet_step_in (fail))
      refine wpQuietIn_step (by intro _ _ _ _; trivial) (fun K hK => ?_)
      go_simp
      apply Exists.intro
      refine ⟨fun _ => ⟨fun _ => by omega, CallsIn.quiet_of_same ((callsIn_wide.2 (LC.out _)).mono fun _ _ ⟨a, b⟩ => ⟨a, b.symm⟩)⟩, hK _ ?_⟩
      clear hK K
      repeat (quiet_step_in (fail))
      refine wpQuietIn_nil ?_
      intro _ hw'
      obtain ⟨nq2, hw''⟩ := hw'
      subst hw''
      obtain ⟨w3, hw3⟩ : ∃ w3, w3 = w2.drewN nq2 := ⟨_, rfl⟩
      rw [← hw3]
      have o3 := Lib.hid (show Only S W w3 by rw [hw3]; exact only_drew o2.out nq2)
      have J3 := Lib.hid (show J pre0 w3 by rw [hw3]; exact hJ.out _ _ _ none J2.out (grown_of_below (below_drewN (Below.refl _ _) nq2)) (fun r e => by cases e))
      replace hw3 := Lib.hid hw3
      clear LC J2 o2
      gi_wp2_with fail
      gi_loopw [6, 7, 8] (fun th tk tn wr => ∃ (pre : List HU) (done rest : List Nat), th = .int .u64 (rest.head?.getD 0 : Int) ∧ tk = .bool (decide (0 < rest.length)) ∧ tn = .int .i64 (rest.length : Int) ∧ Hid (R1 = done ++ rest) ∧ Hid (pre.map (·.1) = (R3 ++ R2) ++ done) ∧ Hid (J pre wr) ∧ Hid (Only S W wr)) (fun _ _ tn _ => (intOf tn).toNat)
      case atStart => exact ⟨pre0, [], R1, rfl, rfl, rfl, Lib.hid rfl, Lib.hid (by rw [hp0.out]; simp), J3, o3⟩
      case round =>
        obtain ⟨pre, done, rest, rfl, rfl, rfl, hx, hp, hJs, ho⟩ := hrel
        obtain ⟨cl1, cc1, cg1⟩ := cells.out wr ho.out
        cases rest with
        | nil =>
          have e1 : (([] : List Nat).head?.getD 0) = 0 := rfl
          have e2 : decide (0 < ([] : List Nat).length) = false := rfl
          have hpe := Lib.hid (show pre.map (·.1) = R3 ++ R2 ++ R1 by rw [hp.out, hx.out]; simp)
          rw [e1, e2]
          gi_wp2
          go_roundw
          case rel => exact ⟨pre, hJs, ho, .inr (.inr (.inr ⟨rfl, hpe⟩))⟩
          case measure => simp [intOf]
        | cons y rest =>
          obtain ⟨hy64, -⟩ := K1.out.ac wr ho.out _ _ _ hx.out
          have hfull : R3 ++ R2 ++ R1 = pre.map (·.1) ++ y :: (rest ++ ([])) := by rw [hp.out, hx.out]; simp
          obtain ⟨fn, tmps, assign, body, hy, hR⟩ := hY.out pre ⟨y, hy64⟩ wr hJs.out (by rw [hfull, List.length_append, List.length_map, List.length_cons]; omega)
          dsimp only at hy
          have e1 : ((y :: rest).head?.getD 0) = y := rfl
          have e2 : decide (0 < (y :: rest).length) = true := by simp
          obtain ⟨m, hm⟩ : ∃ m, m = (y :: rest).length := ⟨_, rfl⟩
          have hm1 : m = rest.length + 1 := by rw [hm]; rfl
          rw [e1, e2, ← hm]
          have d1 : decide ((0 : Int) < (m : Int)) = true := decide_eq_true (by omega)
          have d2 : (0 : Int) < (m : Int) := by omega
          have q1 : IntKind.i64.wrap ((m : Int) - 1) = (rest.length : Int) := by
            have hl : R1.length = done.length + m := by rw [hx.out, List.length_append, ← hm]
            rw [IntWalk.i64_in _ (by omega)]; omega
          replace hm := Lib.hid hm
          replace hm1 := Lib.hid hm1
          replace hfull := Lib.hid hfull
          clear e1 e2
          gi_wp2
          refine ⟨fun _ => by omega, ?_⟩
          refine hR.mono ?_
          rintro e W3 (⟨rfl, hJ3, hk3⟩ | ⟨rfl, hJx3⟩)
          · have o5 := ho.out.trans hk3 fun _ _ h => h
            obtain ⟨cl3, cc3, cg3⟩ := cells.out W3 o5
            have BB := Lib.hid (K1.out.ac W3 o5 _ _ _ hx.out).2
            replace hJ3 := Lib.hid hJ3
            replace o5 := Lib.hid o5
            clear hk3 hJs ho
            gi_wp2_with (first | (refine ⟨trivial, fun _ => by omega, ?_⟩; gi_at_call 47; refine (callsIn_wide.2 BB.out).mono ?_; rintro e w4 ⟨rfl, b4⟩) | (refine ⟨trivial, ?_⟩; gi_at_call 47; refine (callsIn_wide.2 BB.out).mono ?_; rintro e w4 ⟨rfl, b4⟩) | fail)
            go_roundw
            case rel => exact ⟨pre ++ [⟨y, hy64⟩], done ++ [y], rest, rfl, rfl, rfl, Lib.hid (by rw [hx.out]; simp), Lib.hid (by rw [List.map_append, hp.out]; simp), Lib.hid (hJ.out _ _ _ none hJ3.out (grown_of_below b4) (fun r e => by cases e)), Lib.hid (o5.out.below b4 o5.out.size)⟩
            case measure => simp [intOf]; have := hm1.out; omega
          · gi_wp2
            refine bodyPost_ret (results_none rfl _ _ _) rfl ?_
            exact ⟨⟨_, rfl⟩, .inr ⟨pre ++ [⟨y, hy64⟩], ⟨rest ++ ([]), by rw [hfull.out, List.map_append]; simp⟩, hJx3⟩⟩
    · gi_wp2
      go_end0
      exact ⟨⟨_, rfl⟩, .inl ⟨pre0, hp0.out, hJ0.out⟩⟩
end Go.Proofs.YtngehaiigbbknaaGreat.Que
/-
  What ranges over All need, that names no statement.
-/
namespace Go.Proofs.YtngehaiigbbknaaGreat.Que
open Go.RowKit Base Arena Cls Itm Go.Shelf
set_option linter.unusedVariables false
set_option linter.unusedSectionVars false
attribute [local go_sem] Oper.semAt_some

theorem ownFrom_only {β : Type} {B : Nat} {S : Nat → Prop} {w : World} (hB : w.heap.size ≤ B) : OwnFrom B (fun (_ : β) W => Only S w W) := fun _ X Y row hs hg hr => hs.grown hg fun k e hk => by have := (hr k e).1; omega
end Go.Proofs.YtngehaiigbbknaaGreat.Que
