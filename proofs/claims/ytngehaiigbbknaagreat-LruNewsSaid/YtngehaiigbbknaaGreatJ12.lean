/-
  Contracts and lemmas, joined: LruPick, LruThree, LruWake0.
-/
import Derived.Test.YtngehaiigbbknaaGreatJ10
import Derived.Test.YtngehaiigbbknaaGreatJ11
set_option linter.unusedSimpArgs false
set_option linter.unusedVariables false
/-
  The program's Lru: Pick, where nobody is asked.
-/
namespace Go.Proofs.YtngehaiigbbknaaGreat.Que
open Go.RowKit Base Arena Cls Itm Go.Shelf
set_option linter.unusedVariables false
set_option linter.unusedSectionVars false
attribute [local go_sem] Oper.semAt_some

theorem rowC0 (w : World) (g : Nat) (x : Int) : Calls Tryz.prog 69 #[.pointer (some ⟨g, 0, none⟩), .int .i64 x] w fun e w' =>
    e = .returned (.func (.func 105) #[] #[.pointer (some ⟨w.heap.size, 0, none⟩), .pointer (some ⟨w.heap.size + 1, 0, none⟩)]) ∧
    w' = (w.alloc (.cells #[.pointer (some ⟨g, 0, none⟩)] 25)).alloc (.cells #[.int .i64 x] 3) := by
  go_enter Tryz.func69, Tryz.ntmps69
  go_wp2
  go_ret
  exact ⟨rfl, rfl⟩
/-- What Pick keeps: how many were looked at, the first one, the first that is not active. -/
structure PS where
  n : Nat
  f : Nat
  c : Nat
def pickS (A : Nat → Bool) (y : Nat) (st : PS) : PS := ⟨st.n + 1, if st.f = 0 then y else st.f, if st.c = 0 ∧ A y = false then y else st.c⟩
def pickF (A : Nat → Bool) (own : Nat) (looks : Int) : PS → List Nat → PS
  | st, [] => st
  | st, y :: l => if y = own then pickF A own looks st l else if ((pickS A y st).n : Int) = looks then pickS A y st else pickF A own looks (pickS A y st) l
def pickH (st : PS) : Nat := if st.c ≠ 0 then st.c else st.f
def pickN (A : Nat → Bool) (own : Nat) (looks : Int) (row : List Nat) : Nat × Nat := if looks < 1 then (0, 0) else (pickH (pickF A own looks ⟨0, 0, 0⟩ row), (pickF A own looks ⟨0, 0, 0⟩ row).n)
theorem nil_funcB (w : World) : Sem.run Tryz.prog (binOp BinOp.neq 54 .nilFunc .nilFunc) w = .ok (.bool false) w := by kernel_rfl
/-- The fold, as far as nothing ended it. -/
def pickG (A : Nat → Bool) (own : Nat) : PS → List Nat → PS
  | st, [] => st
  | st, y :: l => pickG A own (if y = own then st else pickS A y st) l
theorem pickG_app (A : Nat → Bool) (own : Nat) : ∀ (l m : List Nat) (st : PS), pickG A own st (l ++ m) = pickG A own (pickG A own st l) m
  | [], _, _ => rfl
  | y :: l, m, st => pickG_app A own l m _
def qG (A : Nat → Bool) (own : Nat) (pre : List HU) : PS := pickG A own ⟨0, 0, 0⟩ (pre.map (·.1))
theorem qG_snoc (A : Nat → Bool) (own : Nat) (pre : List HU) (y : HU) : qG A own (pre ++ [y]) = if y.1 = own then qG A own pre else pickS A y.1 (qG A own pre) := by
  unfold qG
  rw [List.map_append, pickG_app]
  rfl
/-- Nothing ended it so far. -/
def Goes1 (A : Nat → Bool) (own : Nat) (looks : Int) (pre : List HU) : Prop := ∀ l, pickF A own looks ⟨0, 0, 0⟩ (pre.map (·.1) ++ l) = pickF A own looks (qG A own pre) l
/-- The last one ended it. -/
def Ends1 (A : Nat → Bool) (own : Nat) (looks : Int) (pre : List HU) : Prop := ∀ l, pickF A own looks ⟨0, 0, 0⟩ (pre.map (·.1) ++ l) = qG A own pre
theorem Goes1.skip {A : Nat → Bool} {own : Nat} {looks : Int} {pre : List HU} {y : HU} (h : Goes1 A own looks pre) (e : y.1 = own) : Goes1 A own looks (pre ++ [y]) := by
  intro l
  rw [qG_snoc, if_pos e, List.map_append, List.append_assoc, h]
  show pickF A own looks _ (y.1 :: l) = _
  conv => lhs; unfold pickF
  rw [if_pos e]
theorem Goes1.more {A : Nat → Bool} {own : Nat} {looks : Int} {pre : List HU} {y : HU} (h : Goes1 A own looks pre) (e : ¬ y.1 = own) (hn : ¬ (((qG A own pre).n + 1 : Nat) : Int) = looks) : Goes1 A own looks (pre ++ [y]) := by
  intro l
  rw [qG_snoc, if_neg e, List.map_append, List.append_assoc, h]
  show pickF A own looks _ (y.1 :: l) = _
  conv => lhs; unfold pickF
  rw [if_neg e, if_neg (show ¬ ((pickS A y.1 (qG A own pre)).n : Int) = looks from hn)]
theorem Goes1.ends {A : Nat → Bool} {own : Nat} {looks : Int} {pre : List HU} {y : HU} (h : Goes1 A own looks pre) (e : ¬ y.1 = own) (hn : (((qG A own pre).n + 1 : Nat) : Int) = looks) : Ends1 A own looks (pre ++ [y]) := by
  intro l
  rw [qG_snoc, if_neg e, List.map_append, List.append_assoc, h]
  show pickF A own looks _ (y.1 :: l) = _
  conv => lhs; unfold pickF
  rw [if_neg e, if_pos (show ((pickS A y.1 (qG A own pre)).n : Int) = looks from hn)]
theorem results_cells3 {P : Program} {fn : Func} {p q r : Tmp} {t1 t2 t3 : TypeId} (h : fn.results = #[.cell p t1, .cell q t2, .cell r t3]) (tmps : Array Value) (w : World) (g1 g2 g3 : Nat) (v1 v2 v3 : Value) (d1 d2 d3 : TypeDesc)
    (hp : tmps.getD p undef = .pointer (some ⟨g1, 0, none⟩)) (hq : tmps.getD q undef = .pointer (some ⟨g2, 0, none⟩)) (hr : tmps.getD r undef = .pointer (some ⟨g3, 0, none⟩))
    (c1 : w.cell? ⟨g1, 0, none⟩ = some v1) (c2 : w.cell? ⟨g2, 0, none⟩ = some v2) (c3 : w.cell? ⟨g3, 0, none⟩ = some v3)
    (u1 : P.underlying t1 = some d1) (u2 : P.underlying t2 = some d2) (u3 : P.underlying t3 = some d3)
    (n1 : (match d1 with | .struct _ | .array _ _ => true | _ => false) = false) (n2 : (match d2 with | .struct _ | .array _ _ => true | _ => false) = false) (n3 : (match d3 with | .struct _ | .array _ _ => true | _ => false) = false) :
    (results fn tmps).run P w = .ok (.tuple #[v1, v2, v3]) w := by
  have hp' : tmps[p]?.getD undef = .pointer (some ⟨g1, 0, none⟩) := by simpa using hp
  have hq' : tmps[q]?.getD undef = .pointer (some ⟨g2, 0, none⟩) := by simpa using hq
  have hr' : tmps[r]?.getD undef = .pointer (some ⟨g3, 0, none⟩) := by simpa using hr
  have a1 : (isAgg t1).run P w = .ok false w := by
    unfold isAgg
    rw [Sem.run_bind, run_underlying u1 w]
    cases d1 <;> simp_all
  have a2 : (isAgg t2).run P w = .ok false w := by
    unfold isAgg
    rw [Sem.run_bind, run_underlying u2 w]
    cases d2 <;> simp_all
  have a3 : (isAgg t3).run P w = .ok false w := by
    unfold isAgg
    rw [Sem.run_bind, run_underlying u3 w]
    cases d3 <;> simp_all
  simp [results, h, hp', hq', hr', asAddr, loadVar, Sem.run_bind, a1, a2, a3, c1, c2, c3, go_sem]
/-- The row, ranged over. -/
theorem row_seq {w : World} {L : Lay} {s : St} {bs : List UInt8} {Z : Nat → Option Zd} {gq gl : Nat} {Ls : Nat → Nat → List Nat} {mk : Nat → Nat} {g : Nat} {hot warm : Int} (h : LS w L s bs Z gq gl Ls mk g hot warm) (x : Int) (n : Nat) (hn : 2 ≤ n) (Bl Bc : Nat) (S : Nat → Prop) (w0 : World) (hw : Below w.heap.size w w0) (hS : ∀ b, b < w.heap.size → ¬ S b) (hB : ¬ S Bl ∧ ¬ S Bc)
    (cl : w0.cell? ⟨Bl, 0, none⟩ = some (.pointer (some ⟨g, 0, none⟩))) (cc : w0.cell? ⟨Bc, 0, none⟩ = some (.int .i64 x)) :
    SeqStopsK Fence.wide n Tryz.prog 105 #[.pointer (some ⟨Bl, 0, none⟩), .pointer (some ⟨Bc, 0, none⟩)] (fun y : HU => #[Value.int .u64 (y.1 : Int)]) (Only S)
      (fun ys : List HU => ys.map (·.1) = rowX Ls x) (fun pre : List HU => pre.map (·.1) <+: rowX Ls x) (rowX Ls x).length w0 := fun l' J' Jx' W' hb' hJ' hJx' hY' h0' =>
  row1_in h x n hn l' Bl Bc S hS hB J' Jx' W' (hw.trans (hb'.mono hw.size)) hJ' hY' ((hb'.cell (p := ⟨Bl, 0, none⟩) (World.block_lt_of_cell? w0 _ cl)).trans cl) ((hb'.cell (p := ⟨Bc, 0, none⟩) (World.block_lt_of_cell? w0 _ cc)).trans cc) h0'
section
variable {w : World} {L : Lay} {s : St} {bs : List UInt8} {Z : Nat → Option Zd} {gq gl : Nat} {Ls : Nat → Nat → List Nat} {mk : Nat → Nat} {g : Nat} {hot warm : Int} (h : LS w L s bs Z gq gl Ls mk g hot warm)
include h
theorem LS.rowB (x : Int) : (rowX Ls x).length ≤ 402653187 := by
  have h1 := h.lenB x 1
  have h2 := h.lenB x 2
  have h3 := h.lenB x 3
  unfold rowX revX
  rw [List.length_append, List.length_append, List.length_reverse, List.length_reverse, List.length_reverse]
  unfold lenX at h1 h2 h3
  omega
set_option maxRecDepth 100000 in
set_option maxHeartbeats 3200000 in
theorem pickC (x : Int) (own : Nat) (looks : Int) (hk : Cls.In looks) : Calls Tryz.prog 33 #[.pointer (some ⟨g, 0, none⟩), .int .i64 x, .int .u64 (own : Int), .int .i64 looks, .nilFunc] w fun e w' =>
    e = .returned (.tuple #[.int .u64 ((pickN (actB s Z mk) own looks (rowX Ls x)).1 : Int), .bool false, .int .i64 ((pickN (actB s Z mk) own looks (rowX Ls x)).2 : Int)]) ∧ Below w.heap.size w w' := by
  refine (callsIn_wide (n := 20)).1 ?_
  obtain ⟨M, hM⟩ : ∃ M, M = w.heap.size := ⟨_, rfl⟩
  obtain ⟨w1, hw1⟩ : ∃ w1, w1 = ((((((w.alloc (.cells #[.pointer (some ⟨g, 0, none⟩)] 25)).alloc (.cells #[.int .u64 (own : Int)] 51)).alloc (.cells #[.int .i64 looks] 3)).alloc (.cells #[.nilFunc] 54)).alloc (.cells #[.int .u64 0] 51)).alloc (.cells #[.bool false] 4)).alloc (.cells #[.int .i64 0] 3) := ⟨_, rfl⟩
  have z1 : w1.heap.size = M + 7 := by rw [hw1, hM]; simp only [World.size_alloc]
  have b1 : Below w.heap.size w w1 := by
    rw [hw1]
    refine ((((((((Below.refl _ w).alloc ?_ _).alloc ?_ _).alloc ?_ _).alloc ?_ _).alloc ?_ _).alloc ?_ _).alloc ?_ _) <;> first | exact Nat.le_refl _ | (simp only [World.size_alloc]; omega)
  have a0 : w1.heap[M]? = some (.cells #[.pointer (some ⟨g, 0, none⟩)] 25 (0, 0)) := by rw [hw1, hM]; exact ((((((Blk.new w _ _).alloc _).alloc _).alloc _).alloc _).alloc _).alloc _
  have a1 : w1.heap[M + 1]? = some (.cells #[.int .u64 (own : Int)] 51 (0, 0)) := by rw [hw1, hM]; exact (((((blk_new' (by first | exact World.size_alloc _ _ | (repeat rw [World.size_alloc]))).alloc _).alloc _).alloc _).alloc _).alloc _
  have a2 : w1.heap[M + 2]? = some (.cells #[.int .i64 looks] 3 (0, 0)) := by rw [hw1, hM]; exact ((((blk_new' (by first | exact World.size_alloc _ _ | (repeat rw [World.size_alloc]))).alloc _).alloc _).alloc _).alloc _
  have a3 : w1.heap[M + 3]? = some (.cells #[.nilFunc] 54 (0, 0)) := by rw [hw1, hM]; exact (((blk_new' (by first | exact World.size_alloc _ _ | (repeat rw [World.size_alloc]))).alloc _).alloc _).alloc _
  have a4 : w1.heap[M + 4]? = some (.cells #[.int .u64 0] 51 (0, 0)) := by rw [hw1, hM]; exact ((blk_new' (by first | exact World.size_alloc _ _ | (repeat rw [World.size_alloc]))).alloc _).alloc _
  have a5 : w1.heap[M + 5]? = some (.cells #[.bool false] 4 (0, 0)) := by rw [hw1, hM]; exact (blk_new' (by first | exact World.size_alloc _ _ | (repeat rw [World.size_alloc]))).alloc _
  have a6 : w1.heap[M + 6]? = some (.cells #[.int .i64 0] 3 (0, 0)) := by rw [hw1, hM]; exact blk_new' (by repeat rw [World.size_alloc])
  have LR := h.rowB x
  obtain ⟨A, hA⟩ : ∃ A, A = actB s Z mk := ⟨_, rfl⟩
  have AC := fun v (b : Below w.heap.size w v) H hH => activeC (h.below b) H hH
  obtain ⟨row, hrow⟩ : ∃ row, row = rowX Ls x := ⟨_, rfl⟩
  rw [← hA] at AC ⊢
  rw [← hrow] at LR ⊢
  have x2 : w1.cell? ⟨M + 2, 0, none⟩ = some (.int .i64 looks) := Blk.cell (g := M + 2) a2 0
  replace hM := Lib.hid hM
  replace hw1 := Lib.hid hw1
  replace hA := Lib.hid hA
  replace hrow := Lib.hid hrow
  replace AC := Lib.hid AC
  refine callsIn_of_wp_marks Tryz.func33 rfl trivial ?_ rfl
  simp only [Tryz.ntmps33, List.size_toArray, List.length_cons, List.length_nil, Nat.reduceAdd, Nat.reduceSub, Array.replicate_succ, Array.replicate_zero, List.push_toArray, List.append_toArray, List.nil_append, List.cons_append]
  gi_upto_region 1 with fail
  rw [← hw1.out, ← hM.out]
  by_cases hl1 : looks < 1
  · have d1 : decide (looks < 1) = true := decide_eq_true hl1
    have c4 := Blk.cell (g := M + 4) a4 0
    have c5 := Blk.cell (g := M + 5) a5 0
    have c6 := Blk.cell (g := M + 6) a6 0
    have f4 := Blk.frozen (g := M + 4) a4 0
    have f5 := Blk.frozen (g := M + 5) a5 0
    have f6 := Blk.frozen (g := M + 6) a6 0
    have ep : pickN A own looks row = (0, 0) := if_pos hl1
    replace ep := Lib.hid ep
    replace b1 := Lib.hid b1
    gi_wp2
    simp only [Nat.add_assoc, Nat.reduceAdd]
    have B4 : Blk (((w1.setCell ⟨M + 4, 0, none⟩ (.int .u64 0)).setCell ⟨M + 5, 0, none⟩ (.bool false)).setCell ⟨M + 6, 0, none⟩ (.int .i64 0)) (M + 4) 51 #[.int .u64 0] := ((Blk.set_ (g := M + 4) a4 0 _).far (by show M + 4 ≠ M + 5; omega) _).far (by show M + 4 ≠ M + 6; omega) _
    have B5 : Blk (((w1.setCell ⟨M + 4, 0, none⟩ (.int .u64 0)).setCell ⟨M + 5, 0, none⟩ (.bool false)).setCell ⟨M + 6, 0, none⟩ (.int .i64 0)) (M + 5) 4 #[.bool false] := (Blk.set_ (Blk.far (g := M + 5) a5 (by show M + 5 ≠ M + 4; omega) _) 0 _).far (by show M + 5 ≠ M + 6; omega) _
    have B6 : Blk (((w1.setCell ⟨M + 4, 0, none⟩ (.int .u64 0)).setCell ⟨M + 5, 0, none⟩ (.bool false)).setCell ⟨M + 6, 0, none⟩ (.int .i64 0)) (M + 6) 3 #[.int .i64 0] := Blk.set_ (Blk.far (Blk.far (g := M + 6) a6 (by show M + 6 ≠ M + 4; omega) _) (by show M + 6 ≠ M + 5; omega) _) 0 _
    have bF : Below w.heap.size w (((w1.setCell ⟨M + 4, 0, none⟩ (.int .u64 0)).setCell ⟨M + 5, 0, none⟩ (.bool false)).setCell ⟨M + 6, 0, none⟩ (.int .i64 0)) := ((b1.out.setCell (p := ⟨M + 4, 0, none⟩) (by show _ ≤ M + 4; have := hM.out; omega) _).setCell (p := ⟨M + 5, 0, none⟩) (by show _ ≤ M + 5; have := hM.out; omega) _).setCell (p := ⟨M + 6, 0, none⟩) (by show _ ≤ M + 6; have := hM.out; omega) _
    exact ⟨_, results_cells3 (P := Tryz.prog) rfl _ _ (M + 4) (M + 5) (M + 6) _ _ _ _ _ _ rfl rfl rfl (B4.cell 0) (B5.cell 0) (B6.cell 0) Tryz.underlying51 Tryz.underlying4 Tryz.underlying3 rfl rfl rfl, by rw [ep.out]; rfl, bF⟩
  · have d1 : decide (looks < 1) = false := decide_eq_false hl1
    gi_upto_region 4 with fail
    simp only [Nat.add_assoc, Nat.reduceAdd]
    obtain ⟨w2, hw2⟩ : ∃ w2, w2 = (w1.alloc (.cells #[.int .u64 0] 51)).alloc (.cells #[.int .u64 0] 51) := ⟨_, rfl⟩
    have z2 : w2.heap.size = M + 9 := by rw [hw2]; simp only [World.size_alloc]; omega
    have b2 : Below w1.heap.size w1 w2 := by rw [hw2]; exact ((Below.refl _ w1).alloc (Nat.le_refl _) _).alloc (by simp) _
    have a7 : w2.heap[M + 7]? = some (.cells #[.int .u64 0] 51 (0, 0)) := by rw [hw2]; exact (blk_new' z1).alloc _
    have a8 : w2.heap[M + 8]? = some (.cells #[.int .u64 0] 51 (0, 0)) := by rw [hw2]; exact blk_new' (by rw [World.size_alloc, z1])
    have x0 : w2.cell? ⟨M, 0, none⟩ = some (.pointer (some ⟨g, 0, none⟩)) := (b2.cell (p := ⟨M, 0, none⟩) (by show M < w1.heap.size; omega)).trans (Blk.cell (g := M) a0 0)
    have RC := Lib.hid (rowC0 w2 g x)
    rw [← hw2]
    replace z1 := Lib.hid z1
    replace hw2 := Lib.hid hw2
    clear x2
    gi_wp2_with (first | (refine ⟨trivial, fun _ => by omega, ?_⟩; gi_at_call 69; refine (callsIn_wide.2 RC.out).mono ?_; rintro e w' ⟨rfl, rfl⟩) | (refine ⟨trivial, ?_⟩; gi_at_call 69; refine (callsIn_wide.2 RC.out).mono ?_; rintro e w' ⟨rfl, rfl⟩) | fail)
    obtain ⟨w4, hw4⟩ : ∃ w4, w4 = (w2.alloc (.cells #[.pointer (some ⟨g, 0, none⟩)] 25)).alloc (.cells #[.int .i64 x] 3) := ⟨_, rfl⟩
    rw [← hw4]
    have z4 : w4.heap.size = M + 11 := by rw [hw4, World.size_alloc, World.size_alloc, z2]
    have b4 : Below w2.heap.size w2 w4 := by rw [hw4]; exact ((Below.refl _ w2).alloc (Nat.le_refl _) _).alloc (by rw [World.size_alloc]; omega) _
    have a9 : w4.cell? ⟨M + 9, 0, none⟩ = some (.pointer (some ⟨g, 0, none⟩)) := by rw [hw4, ← z2]; exact ((Blk.new w2 _ _).alloc _).cell 0
    have a10 : w4.cell? ⟨M + 10, 0, none⟩ = some (.int .i64 x) := by rw [hw4, show M + 10 = w2.heap.size + 1 by omega]; exact (blk_new' (World.size_alloc _ _)).cell 0
    have b24 : Below w1.heap.size w1 w4 := b2.trans (b4.mono b2.size)
    have s1 := z1.out
    have k0 : w4.heap[M]? = some (.cells #[.pointer (some ⟨g, 0, none⟩)] 25 (0, 0)) := (b24.block M (by omega)).trans a0
    have k1 : w4.heap[M + 1]? = some (.cells #[.int .u64 (own : Int)] 51 (0, 0)) := (b24.block (M + 1) (by omega)).trans a1
    have k2 : w4.heap[M + 2]? = some (.cells #[.int .i64 looks] 3 (0, 0)) := (b24.block (M + 2) (by omega)).trans a2
    have k3 : w4.heap[M + 3]? = some (.cells #[.nilFunc] 54 (0, 0)) := (b24.block (M + 3) (by omega)).trans a3
    have k4 : w4.heap[M + 4]? = some (.cells #[.int .u64 0] 51 (0, 0)) := (b24.block (M + 4) (by omega)).trans a4
    have k5 : w4.heap[M + 5]? = some (.cells #[.bool false] 4 (0, 0)) := (b24.block (M + 5) (by omega)).trans a5
    have k6 : Boxed w4 (M + 6) 3 (.int .i64 0) := (b24.block (M + 6) (by omega)).trans a6
    have k7 : Boxed w4 (M + 7) 51 (.int .u64 0) := (b4.block (M + 7) (by omega)).trans a7
    have k8 : Boxed w4 (M + 8) 51 (.int .u64 0) := (b4.block (M + 8) (by omega)).trans a8
    have hM2 := hM.out
    have bw4 : Below w.heap.size w w4 := b1.trans (b24.mono (by omega))
    have hseq := row_seq h x (20 - 1) (by omega) (M + 9) (M + 10) (fun b => b = M + 6 ∨ b = M + 7 ∨ b = M + 8 ∨ M + 11 ≤ b) w4 bw4 (fun b hb hS => by omega) ⟨fun hS => by omega, fun hS => by omega⟩ a9 a10
    rw [← hrow.out] at hseq
    replace k0 := Lib.hid k0
    replace k1 := Lib.hid k1
    replace k2 := Lib.hid k2
    replace k3 := Lib.hid k3
    replace k4 := Lib.hid k4
    replace k5 := Lib.hid k5
    replace bw4 := Lib.hid bw4
    replace hw4 := Lib.hid hw4
    replace hM2 := Lib.hid hM2
    replace h := Lib.hid h
    clear a0 a1 a2 a3 a4 a5 a6 a7 a8 a9 a10 b1 b2 b4 b24 s1 RC x0 z2
    simp only [Nat.add_assoc, Nat.reduceAdd]
    refine wpIn_rangeFunc_ownG rfl (by omega) (gf := 105) (lb := #[.pointer (some ⟨M + 9, 0, none⟩), .pointer (some ⟨M + 10, 0, none⟩)]) rfl trivial (enters_of Tryz.func105 (by kernel_rfl) rfl)
      hseq (fun h k => h.trans k fun _ _ h => h) (fun W' l' o o' hl ho h1 h2 => ⟨rfl, rfl, rfl, (grownBy_putObj' W' l' o').size, fun b hb hS => World.putObj_heap_other (fun e => hS (by right; right; right; rw [e]; omega))⟩) (Below.refl _ _) (fun _ => rfl)
      (fun pre Wx => Boxed Wx (M + 6) 3 (.int .i64 ((qG A own pre).n : Int)) ∧ (Boxed Wx (M + 7) 51 (.int .u64 ((qG A own pre).f : Int)) ∧ (Boxed Wx (M + 8) 51 (.int .u64 ((qG A own pre).c : Int)) ∧ (Only (fun b => b = M + 6 ∨ b = M + 7 ∨ b = M + 8 ∨ M + 11 ≤ b) w4 Wx ∧ (Goes1 A own looks pre ∧ (qG A own pre).n ≤ pre.length)))))
      (fun c pre Wx => c = .exit 0 ∧ (Boxed Wx (M + 6) 3 (.int .i64 ((qG A own pre).n : Int)) ∧ (Boxed Wx (M + 7) 51 (.int .u64 ((qG A own pre).f : Int)) ∧ (Boxed Wx (M + 8) 51 (.int .u64 ((qG A own pre).c : Int)) ∧ (Only (fun b => b = M + 6 ∨ b = M + 7 ∨ b = M + 8 ∨ M + 11 ≤ b) w4 Wx ∧ Ends1 A own looks pre)))))
      (OwnFrom.and (Own.from (boxed_own (M + 6) 3 fun pre : List HU => .int .i64 ((qG A own pre).n : Int)) _) (OwnFrom.and (Own.from (boxed_own (M + 7) 51 fun pre : List HU => .int .u64 ((qG A own pre).f : Int)) _) (OwnFrom.and (Own.from (boxed_own (M + 8) 51 fun pre : List HU => .int .u64 ((qG A own pre).c : Int)) _) (OwnFrom.and (ownFrom_only (Nat.le_refl _)) (ownFrom_pure _ _)))))
      (fun c => OwnFrom.and (ownFrom_pure _ _) (OwnFrom.and (Own.from (boxed_own (M + 6) 3 fun pre : List HU => .int .i64 ((qG A own pre).n : Int)) _) (OwnFrom.and (Own.from (boxed_own (M + 7) 51 fun pre : List HU => .int .u64 ((qG A own pre).f : Int)) _) (OwnFrom.and (Own.from (boxed_own (M + 8) 51 fun pre : List HU => .int .u64 ((qG A own pre).c : Int)) _) (OwnFrom.and (ownFrom_only (Nat.le_refl _)) (ownFrom_pure _ _))))))
      ⟨k6, k7, k8, Only.refl _ _, fun l => rfl, Nat.le_refl _⟩
      (fun y => { tmps := #[.pointer (some ⟨g, 0, none⟩), .int .i64 x, .int .u64 (own : Int), .int .i64 looks, .nilFunc, .pointer (some ⟨M, 0, none⟩), undef, .pointer (some ⟨M + 1, 0, none⟩), .pointer (some ⟨M + 2, 0, none⟩), .pointer (some ⟨M + 3, 0, none⟩), .pointer (some ⟨M + 4, 0, none⟩), .pointer (some ⟨M + 5, 0, none⟩), .pointer (some ⟨M + 6, 0, none⟩), .pointer (some ⟨M + 7, 0, none⟩), .pointer (some ⟨M + 8, 0, none⟩), .int .u64 (y.1 : Int), .int .i64 looks, .bool false, .pointer (some ⟨g, 0, none⟩), .int .i64 x, .func (.func 105) #[] #[.pointer (some ⟨M + 9, 0, none⟩), .pointer (some ⟨M + 10, 0, none⟩)], .int .u64 (y.1 : Int), undef, undef, undef, undef, undef, undef, undef, undef, undef, undef, undef, undef, undef, undef, undef, undef, undef, undef, undef, undef, undef, undef, undef, undef, undef, undef, undef, undef, undef, undef, undef, undef, undef, undef, undef], defers := [] }) ?assign ?body ?done ?stop
    case assign =>
      intro l' y W' K' hK'
      gi_wp2
      exact hK'
    case body =>
      rintro l' pre y Wx ⟨b6, b7, b8, oW, hg, hnp⟩ hlt
      have e0 : Wx.cell? ⟨M, 0, none⟩ = some (.pointer (some ⟨g, 0, none⟩)) := Blk.cell (g := M) ((oW.block M (by omega) (by omega)).trans k0.out) 0
      have e1 : Wx.cell? ⟨M + 1, 0, none⟩ = some (.int .u64 (own : Int)) := Blk.cell (g := M + 1) ((oW.block (M + 1) (by omega) (by omega)).trans k1.out) 0
      have e2 : Wx.cell? ⟨M + 2, 0, none⟩ = some (.int .i64 looks) := Blk.cell (g := M + 2) ((oW.block (M + 2) (by omega) (by omega)).trans k2.out) 0
      have e3 : Wx.cell? ⟨M + 3, 0, none⟩ = some .nilFunc := Blk.cell (g := M + 3) ((oW.block (M + 3) (by omega) (by omega)).trans k3.out) 0
      have hsn := qG_snoc A own pre y
      have bx : Below w.heap.size w Wx := bw4.out.trans (oW.toBelow fun k hk => ⟨by have := hM2.out; omega, fun e => by have := hM2.out; omega⟩)
      have sx := oW.size
      by_cases hy : y.1 = own
      · have d2 : ((y.1 : Int) == (own : Int)) = true := by rw [beq_iff_eq]; omega
        have d3 : decide ((y.1 : Int) = (own : Int)) = true := decide_eq_true (by omega)
        rw [if_pos hy] at hsn
        have T := Lib.hid (show KeepsFrom (M + 11) Wx Wx ∧ Only (fun b => b = M + 6 ∨ b = M + 7 ∨ b = M + 8 ∨ M + 11 ≤ b) Wx Wx ∧ (Boxed Wx (M + 6) 3 (.int .i64 ((qG A own (pre ++ [y])).n : Int)) ∧ (Boxed Wx (M + 7) 51 (.int .u64 ((qG A own (pre ++ [y])).f : Int)) ∧ (Boxed Wx (M + 8) 51 (.int .u64 ((qG A own (pre ++ [y])).c : Int)) ∧ (Only (fun b => b = M + 6 ∨ b = M + 7 ∨ b = M + 8 ∨ M + 11 ≤ b) w4 Wx ∧ (Goes1 A own looks (pre ++ [y]) ∧ (qG A own (pre ++ [y])).n ≤ (pre ++ [y]).length))))) from by
          rw [hsn]
          exact ⟨KeepsFrom.refl _ _, Only.refl _ _, b6, b7, b8, oW, hg.skip hy, by rw [List.length_append]; omega⟩)
        replace hy := Lib.hid hy
        clear b6 b7 b8 oW hg hsn bx
        gi_wp2
        exact T.out
      · have d2 : ((y.1 : Int) == (own : Int)) = false := by rw [beq_eq_false_iff_ne]; omega
        have d3 : decide ((y.1 : Int) = (own : Int)) = false := decide_eq_false (by omega)
        rw [if_neg hy] at hsn
        obtain ⟨n0, hn0⟩ : ∃ n0, n0 = (qG A own pre).n := ⟨_, rfl⟩
        obtain ⟨f0, hf0⟩ : ∃ f0, f0 = (qG A own pre).f := ⟨_, rfl⟩
        obtain ⟨c0, hc0⟩ : ∃ c0, c0 = (qG A own pre).c := ⟨_, rfl⟩
        have hnl : n0 ≤ 402653187 := by omega
        have sn : (qG A own (pre ++ [y])).n = n0 + 1 := by rw [hsn, hn0]; rfl
        have sf : (qG A own (pre ++ [y])).f = if f0 = 0 then y.1 else f0 := by rw [hsn, hf0]; rfl
        have sc : (qG A own (pre ++ [y])).c = if c0 = 0 ∧ A y.1 = false then y.1 else c0 := by rw [hsn, hc0]; rfl
        rw [← hn0] at b6 hnp
        rw [← hf0] at b7
        rw [← hc0] at b8
        have kf : ∀ W', Only (fun b => b = M + 6 ∨ b = M + 7 ∨ b = M + 8) Wx W' → KeepsFrom (M + 11) Wx W' ∧ Only (fun b => b = M + 6 ∨ b = M + 7 ∨ b = M + 8 ∨ M + 11 ≤ b) Wx W' := fun W' o => ⟨⟨o.size, fun k o' hB hk hc => (o.block k (heap_lt hk) (by omega)).trans hk⟩, o.mono fun b _ e => by rcases e with e | e | e <;> simp [e]⟩
        have fin : ¬ ((n0 + 1 : Nat) : Int) = looks → ∀ W' f' c', f' = (qG A own (pre ++ [y])).f → c' = (qG A own (pre ++ [y])).c → Boxed W' (M + 6) 3 (.int .i64 ((n0 + 1 : Nat) : Int)) → Boxed W' (M + 7) 51 (.int .u64 (f' : Int)) → Boxed W' (M + 8) 51 (.int .u64 (c' : Int)) → Only (fun b => b = M + 6 ∨ b = M + 7 ∨ b = M + 8) Wx W' →
            KeepsFrom (M + 11) Wx W' ∧ Only (fun b => b = M + 6 ∨ b = M + 7 ∨ b = M + 8 ∨ M + 11 ≤ b) Wx W' ∧ (Boxed W' (M + 6) 3 (.int .i64 ((qG A own (pre ++ [y])).n : Int)) ∧ (Boxed W' (M + 7) 51 (.int .u64 ((qG A own (pre ++ [y])).f : Int)) ∧ (Boxed W' (M + 8) 51 (.int .u64 ((qG A own (pre ++ [y])).c : Int)) ∧ (Only (fun b => b = M + 6 ∨ b = M + 7 ∨ b = M + 8 ∨ M + 11 ≤ b) w4 W' ∧ (Goes1 A own looks (pre ++ [y]) ∧ (qG A own (pre ++ [y])).n ≤ (pre ++ [y]).length))))) := by
          rintro hn W' f' c' rfl rfl c6 c7 c8 o
          obtain ⟨kp, oS⟩ := kf W' o
          exact ⟨kp, oS, by rw [sn]; exact c6, c7, c8, oW.trans oS fun _ _ h => h, hg.more hy (by rw [← hn0]; exact hn), by rw [sn, List.length_append, List.length_singleton]; omega⟩
        have finX : ((n0 + 1 : Nat) : Int) = looks → ∀ W' f' c', f' = (qG A own (pre ++ [y])).f → c' = (qG A own (pre ++ [y])).c → Boxed W' (M + 6) 3 (.int .i64 ((n0 + 1 : Nat) : Int)) → Boxed W' (M + 7) 51 (.int .u64 (f' : Int)) → Boxed W' (M + 8) 51 (.int .u64 (c' : Int)) → Only (fun b => b = M + 6 ∨ b = M + 7 ∨ b = M + 8) Wx W' →
            KeepsFrom (M + 11) Wx W' ∧ (Code.exit 0 = Code.exit 0 ∧ (Boxed W' (M + 6) 3 (.int .i64 ((qG A own (pre ++ [y])).n : Int)) ∧ (Boxed W' (M + 7) 51 (.int .u64 ((qG A own (pre ++ [y])).f : Int)) ∧ (Boxed W' (M + 8) 51 (.int .u64 ((qG A own (pre ++ [y])).c : Int)) ∧ (Only (fun b => b = M + 6 ∨ b = M + 7 ∨ b = M + 8 ∨ M + 11 ≤ b) w4 W' ∧ Ends1 A own looks (pre ++ [y])))))) := by
          rintro hn W' f' c' rfl rfl c6 c7 c8 o
          obtain ⟨kp, oS⟩ := kf W' o
          exact ⟨kp, rfl, by rw [sn]; exact c6, c7, c8, oW.trans oS fun _ _ h => h, hg.ends hy (by rw [← hn0]; exact hn)⟩
        have ACx := fun v (o : Only (fun b => b = M + 6 ∨ b = M + 7 ∨ b = M + 8) Wx v) => AC.out v (bx.trans (o.toBelow fun k hk => ⟨by have := hM2.out; omega, fun e => by have := hM2.out; omega⟩)) y.1 y.2
        generalize hY : y.1 = Y at *
        generalize hAY : A Y = a at *
        have q1 : IntKind.i64.wrap ((n0 : Int) + 1) = ((n0 + 1 : Nat) : Int) := by rw [IntWalk.i64_in _ (by omega)]; omega
        obtain ⟨n1, hn1⟩ : ∃ n1, n1 = n0 + 1 := ⟨_, rfl⟩
        rw [← hn1] at q1 fin finX
        have c6 := b6.cell
        have v6 := b6.frozen
        have c7 := b7.cell
        have v7 := b7.frozen
        have c8 := b8.cell
        have v8 := b8.frozen
        have nf := nil_funcB
        replace fin := Lib.hid fin
        replace finX := Lib.hid finX
        replace ACx := Lib.hid ACx
        replace b6 := Lib.hid b6
        replace b7 := Lib.hid b7
        replace b8 := Lib.hid b8
        replace hn1 := Lib.hid hn1
        replace hn0 := Lib.hid hn0
        replace hf0 := Lib.hid hf0
        replace hc0 := Lib.hid hc0
        replace sf := Lib.hid sf
        replace sc := Lib.hid sc
        replace hY := Lib.hid hY
        replace hAY := Lib.hid hAY
        clear hsn sn kf hg oW bx hy
        have B61 := b6.out.set (.int .i64 (n1 : Int))
        have B71 := b7.out.other (B' := M + 6) (by omega) (.int .i64 (n1 : Int))
        have B81 := b8.out.other (B' := M + 6) (by omega) (.int .i64 (n1 : Int))
        have O1 : Only (fun b => b = M + 6 ∨ b = M + 7 ∨ b = M + 8) Wx (Wx.setCell ⟨M + 6, 0, none⟩ (.int .i64 (n1 : Int))) := (Only.refl _ Wx).setCell (p := ⟨M + 6, 0, none⟩) (fun _ => .inl rfl) _
        obtain ⟨W1, hW1⟩ : ∃ W1, W1 = Wx.setCell ⟨M + 6, 0, none⟩ (.int .i64 (n1 : Int)) := ⟨_, rfl⟩
        rw [← hW1] at B61 B71 B81 O1
        have E0 : W1.cell? ⟨M, 0, none⟩ = some (.pointer (some ⟨g, 0, none⟩)) := by rw [hW1]; exact (World.cell?_setCell_other Wx _ _ _ (by simp)).trans e0
        have E2 : W1.cell? ⟨M + 2, 0, none⟩ = some (.int .i64 looks) := by rw [hW1]; exact (World.cell?_setCell_other Wx _ _ _ (by simp)).trans e2
        have E3 : W1.cell? ⟨M + 3, 0, none⟩ = some .nilFunc := by rw [hW1]; exact (World.cell?_setCell_other Wx _ _ _ (by simp)).trans e3
        replace hW1 := Lib.hid hW1
        replace B61 := Lib.hid B61
        replace B81 := Lib.hid B81
        replace O1 := Lib.hid O1
        have c7 := B71.cell
        have v7 := B71.frozen
        replace B71 := Lib.hid B71
        gi_upto_region 8 with fail
        rw [← hW1.out]
        replace hW1 := Lib.hid hW1.out
        clear e0 e1 e2 e3 c6 v6 c8 v8
        by_cases hf : f0 = 0
        · skip
          have z1f0 : ((f0 : Int) == 0) = true := by rw [beq_iff_eq]; omega
          have z2f0 : decide ((f0 : Int) = 0) = true := decide_eq_true (by omega)
          have z3f0 : decide (f0 = 0) = true := decide_eq_true (by omega)
          by_cases hc : c0 = 0
          · skip
            have z1c0 : ((c0 : Int) == 0) = true := by rw [beq_iff_eq]; omega
            have z2c0 : decide ((c0 : Int) = 0) = true := decide_eq_true (by omega)
            have z3c0 : decide (c0 = 0) = true := decide_eq_true (by omega)
            by_cases hn : (n1 : Int) = looks
            · skip
              have w1n : ((n1 : Int) == looks) = true := by rw [beq_iff_eq]; exact hn
              have w2n : decide ((n1 : Int) = looks) = true := decide_eq_true hn
              cases a with
              | true =>
                clear b6 b7 b8
                obtain ⟨W2, hW2⟩ : ∃ W2, W2 = W1.setCell ⟨M + 7, 0, none⟩ (.int .u64 (Y : Int)) := ⟨_, rfl⟩
                have B62 := B61.out.other (B' := M + 7) (by omega) (.int .u64 (Y : Int))
                have B72 := B71.out.set (.int .u64 (Y : Int))
                have B82 := B81.out.other (B' := M + 7) (by omega) (.int .u64 (Y : Int))
                have O2 : Only (fun b => b = M + 6 ∨ b = M + 7 ∨ b = M + 8) Wx (W1.setCell ⟨M + 7, 0, none⟩ (.int .u64 (Y : Int))) := O1.out.setCell (p := ⟨M + 7, 0, none⟩) (fun _ => .inr (.inl rfl)) _
                rw [← hW2] at B62 B72 B82 O2
                have F0 : W2.cell? ⟨M, 0, none⟩ = some (.pointer (some ⟨g, 0, none⟩)) := by rw [hW2]; exact (World.cell?_setCell_other W1 _ _ _ (by simp)).trans E0
                have F2 : W2.cell? ⟨M + 2, 0, none⟩ = some (.int .i64 looks) := by rw [hW2]; exact (World.cell?_setCell_other W1 _ _ _ (by simp)).trans E2
                have F3 : W2.cell? ⟨M + 3, 0, none⟩ = some .nilFunc := by rw [hW2]; exact (World.cell?_setCell_other W1 _ _ _ (by simp)).trans E3
                have ef := Lib.hid (show Y = (qG A own (pre ++ [y])).f by rw [sf.out, if_pos hf])
                replace hW2 := Lib.hid hW2
                replace hf := Lib.hid hf
                gi_upto_region 10 with fail
                rw [← hW2.out]
                clear c7 v7 E0 E2 E3
                have c8 := B82.cell
                have v8 := B82.frozen
                have c6 := B62.cell
                replace B62 := Lib.hid B62
                replace B72 := Lib.hid B72
                replace B82 := Lib.hid B82
                clear B61 B71 B81 O1
                have AC2 := Lib.hid (ACx.out W2 O2)
                have ec : c0 = (qG A own (pre ++ [y])).c := by rw [sc.out, if_neg (fun h => by cases h.2)]
                replace O2 := Lib.hid O2
                replace ec := Lib.hid ec
                replace hc := Lib.hid hc
                gi_wp2_with fail
                refine ⟨fun _ h => (by cases h), ?_⟩
                gi_wp2_with fail
                first
                  | refine ⟨trivial, fun _ => by omega, ?_⟩
                  | refine ⟨trivial, ?_⟩
                gi_at_call 70
                refine (CallsIn.inRound l' (callsIn_wide.2 AC2.out)).mono ?_
                rintro e v3 ⟨rfl, b3⟩
                have G2 := (b3.cell (p := ⟨M + 2, 0, none⟩) (World.block_lt_of_cell? _ _ F2)).trans F2
                have B63 : Boxed v3 (M + 6) 3 (.int .i64 (n1 : Int)) := (b3.block (M + 6) (heap_lt B62.out)).trans B62.out
                have B73 : Boxed v3 (M + 7) 51 (.int .u64 (Y : Int)) := (b3.block (M + 7) (heap_lt B72.out)).trans B72.out
                have B83 : Boxed v3 (M + 8) 51 (.int .u64 (c0 : Int)) := (b3.block (M + 8) (heap_lt B82.out)).trans B82.out
                have O3 : Only (fun b => b = M + 6 ∨ b = M + 7 ∨ b = M + 8) Wx v3 := O2.out.below b3 O2.out.size
                have c6 := B63.cell
                have c8 := B83.cell
                have v8 := B83.frozen
                have T := Lib.hid (finX.out hn v3 _ _ ef.out ec.out B63 B73 B83 O3)
                clear B63 B73 B83 O3 b3 fin finX
                gi_wp2
                first | exact ⟨T.out.1, rfl, T.out.2.2⟩ | exact ⟨by rw [z4]; exact T.out.1, rfl, T.out.2.2⟩
              | false =>
                clear b6 b7 b8
                obtain ⟨W2, hW2⟩ : ∃ W2, W2 = W1.setCell ⟨M + 7, 0, none⟩ (.int .u64 (Y : Int)) := ⟨_, rfl⟩
                have B62 := B61.out.other (B' := M + 7) (by omega) (.int .u64 (Y : Int))
                have B72 := B71.out.set (.int .u64 (Y : Int))
                have B82 := B81.out.other (B' := M + 7) (by omega) (.int .u64 (Y : Int))
                have O2 : Only (fun b => b = M + 6 ∨ b = M + 7 ∨ b = M + 8) Wx (W1.setCell ⟨M + 7, 0, none⟩ (.int .u64 (Y : Int))) := O1.out.setCell (p := ⟨M + 7, 0, none⟩) (fun _ => .inr (.inl rfl)) _
                rw [← hW2] at B62 B72 B82 O2
                have F0 : W2.cell? ⟨M, 0, none⟩ = some (.pointer (some ⟨g, 0, none⟩)) := by rw [hW2]; exact (World.cell?_setCell_other W1 _ _ _ (by simp)).trans E0
                have F2 : W2.cell? ⟨M + 2, 0, none⟩ = some (.int .i64 looks) := by rw [hW2]; exact (World.cell?_setCell_other W1 _ _ _ (by simp)).trans E2
                have F3 : W2.cell? ⟨M + 3, 0, none⟩ = some .nilFunc := by rw [hW2]; exact (World.cell?_setCell_other W1 _ _ _ (by simp)).trans E3
                have ef := Lib.hid (show Y = (qG A own (pre ++ [y])).f by rw [sf.out, if_pos hf])
                replace hW2 := Lib.hid hW2
                replace hf := Lib.hid hf
                gi_upto_region 10 with fail
                rw [← hW2.out]
                clear c7 v7 E0 E2 E3
                have c8 := B82.cell
                have v8 := B82.frozen
                have c6 := B62.cell
                replace B62 := Lib.hid B62
                replace B72 := Lib.hid B72
                replace B82 := Lib.hid B82
                clear B61 B71 B81 O1
                have AC2 := Lib.hid (ACx.out W2 O2)
                have ec : Y = (qG A own (pre ++ [y])).c := by rw [sc.out, if_pos ⟨hc, rfl⟩]
                replace O2 := Lib.hid O2
                replace ec := Lib.hid ec
                replace hc := Lib.hid hc
                gi_wp2_with fail
                refine ⟨fun _ h => (by cases h), ?_⟩
                gi_wp2_with fail
                first
                  | refine ⟨trivial, fun _ => by omega, ?_⟩
                  | refine ⟨trivial, ?_⟩
                gi_at_call 70
                refine (CallsIn.inRound l' (callsIn_wide.2 AC2.out)).mono ?_
                rintro e v3 ⟨rfl, b3⟩
                have G2 := (b3.cell (p := ⟨M + 2, 0, none⟩) (World.block_lt_of_cell? _ _ F2)).trans F2
                have B63 : Boxed v3 (M + 6) 3 (.int .i64 (n1 : Int)) := (b3.block (M + 6) (heap_lt B62.out)).trans B62.out
                have B73 : Boxed v3 (M + 7) 51 (.int .u64 (Y : Int)) := (b3.block (M + 7) (heap_lt B72.out)).trans B72.out
                have B83 : Boxed v3 (M + 8) 51 (.int .u64 (c0 : Int)) := (b3.block (M + 8) (heap_lt B82.out)).trans B82.out
                have O3 : Only (fun b => b = M + 6 ∨ b = M + 7 ∨ b = M + 8) Wx v3 := O2.out.below b3 O2.out.size
                have c6 := B63.cell
                have c8 := B83.cell
                have v8 := B83.frozen
                have T := Lib.hid (finX.out hn (v3.setCell ⟨M + 8, 0, none⟩ (.int .u64 (Y : Int))) _ _ ef.out ec.out (B63.other (B' := M + 8) (by omega) _) (B73.other (B' := M + 8) (by omega) _) (B83.set _) (O3.setCell (p := ⟨M + 8, 0, none⟩) (fun _ => .inr (.inr rfl)) _))
                clear B63 B73 B83 O3 b3 fin finX
                gi_wp2
                first | exact ⟨T.out.1, rfl, T.out.2.2⟩ | exact ⟨by rw [z4]; exact T.out.1, rfl, T.out.2.2⟩
            · skip
              have w1n : ((n1 : Int) == looks) = false := by rw [beq_eq_false_iff_ne]; exact hn
              have w2n : decide ((n1 : Int) = looks) = false := decide_eq_false hn
              cases a with
              | true =>
                clear b6 b7 b8
                obtain ⟨W2, hW2⟩ : ∃ W2, W2 = W1.setCell ⟨M + 7, 0, none⟩ (.int .u64 (Y : Int)) := ⟨_, rfl⟩
                have B62 := B61.out.other (B' := M + 7) (by omega) (.int .u64 (Y : Int))
                have B72 := B71.out.set (.int .u64 (Y : Int))
                have B82 := B81.out.other (B' := M + 7) (by omega) (.int .u64 (Y : Int))
                have O2 : Only (fun b => b = M + 6 ∨ b = M + 7 ∨ b = M + 8) Wx (W1.setCell ⟨M + 7, 0, none⟩ (.int .u64 (Y : Int))) := O1.out.setCell (p := ⟨M + 7, 0, none⟩) (fun _ => .inr (.inl rfl)) _
                rw [← hW2] at B62 B72 B82 O2
                have F0 : W2.cell? ⟨M, 0, none⟩ = some (.pointer (some ⟨g, 0, none⟩)) := by rw [hW2]; exact (World.cell?_setCell_other W1 _ _ _ (by simp)).trans E0
                have F2 : W2.cell? ⟨M + 2, 0, none⟩ = some (.int .i64 looks) := by rw [hW2]; exact (World.cell?_setCell_other W1 _ _ _ (by simp)).trans E2
                have F3 : W2.cell? ⟨M + 3, 0, none⟩ = some .nilFunc := by rw [hW2]; exact (World.cell?_setCell_other W1 _ _ _ (by simp)).trans E3
                have ef := Lib.hid (show Y = (qG A own (pre ++ [y])).f by rw [sf.out, if_pos hf])
                replace hW2 := Lib.hid hW2
                replace hf := Lib.hid hf
                gi_upto_region 10 with fail
                rw [← hW2.out]
                clear c7 v7 E0 E2 E3
                have c8 := B82.cell
                have v8 := B82.frozen
                have c6 := B62.cell
                replace B62 := Lib.hid B62
                replace B72 := Lib.hid B72
                replace B82 := Lib.hid B82
                clear B61 B71 B81 O1
                have AC2 := Lib.hid (ACx.out W2 O2)
                have ec : c0 = (qG A own (pre ++ [y])).c := by rw [sc.out, if_neg (fun h => by cases h.2)]
                replace O2 := Lib.hid O2
                replace ec := Lib.hid ec
                replace hc := Lib.hid hc
                gi_wp2_with fail
                refine ⟨fun _ h => (by cases h), ?_⟩
                gi_wp2_with fail
                first
                  | refine ⟨trivial, fun _ => by omega, ?_⟩
                  | refine ⟨trivial, ?_⟩
                gi_at_call 70
                refine (CallsIn.inRound l' (callsIn_wide.2 AC2.out)).mono ?_
                rintro e v3 ⟨rfl, b3⟩
                have G2 := (b3.cell (p := ⟨M + 2, 0, none⟩) (World.block_lt_of_cell? _ _ F2)).trans F2
                have B63 : Boxed v3 (M + 6) 3 (.int .i64 (n1 : Int)) := (b3.block (M + 6) (heap_lt B62.out)).trans B62.out
                have B73 : Boxed v3 (M + 7) 51 (.int .u64 (Y : Int)) := (b3.block (M + 7) (heap_lt B72.out)).trans B72.out
                have B83 : Boxed v3 (M + 8) 51 (.int .u64 (c0 : Int)) := (b3.block (M + 8) (heap_lt B82.out)).trans B82.out
                have O3 : Only (fun b => b = M + 6 ∨ b = M + 7 ∨ b = M + 8) Wx v3 := O2.out.below b3 O2.out.size
                have c6 := B63.cell
                have c8 := B83.cell
                have v8 := B83.frozen
                have T := Lib.hid (fin.out hn v3 _ _ ef.out ec.out B63 B73 B83 O3)
                clear B63 B73 B83 O3 b3 fin finX
                gi_wp2
                first | exact T.out | exact ⟨by rw [z4]; exact T.out.1, T.out.2⟩
              | false =>
                clear b6 b7 b8
                obtain ⟨W2, hW2⟩ : ∃ W2, W2 = W1.setCell ⟨M + 7, 0, none⟩ (.int .u64 (Y : Int)) := ⟨_, rfl⟩
                have B62 := B61.out.other (B' := M + 7) (by omega) (.int .u64 (Y : Int))
                have B72 := B71.out.set (.int .u64 (Y : Int))
                have B82 := B81.out.other (B' := M + 7) (by omega) (.int .u64 (Y : Int))
                have O2 : Only (fun b => b = M + 6 ∨ b = M + 7 ∨ b = M + 8) Wx (W1.setCell ⟨M + 7, 0, none⟩ (.int .u64 (Y : Int))) := O1.out.setCell (p := ⟨M + 7, 0, none⟩) (fun _ => .inr (.inl rfl)) _
                rw [← hW2] at B62 B72 B82 O2
                have F0 : W2.cell? ⟨M, 0, none⟩ = some (.pointer (some ⟨g, 0, none⟩)) := by rw [hW2]; exact (World.cell?_setCell_other W1 _ _ _ (by simp)).trans E0
                have F2 : W2.cell? ⟨M + 2, 0, none⟩ = some (.int .i64 looks) := by rw [hW2]; exact (World.cell?_setCell_other W1 _ _ _ (by simp)).trans E2
                have F3 : W2.cell? ⟨M + 3, 0, none⟩ = some .nilFunc := by rw [hW2]; exact (World.cell?_setCell_other W1 _ _ _ (by simp)).trans E3
                have ef := Lib.hid (show Y = (qG A own (pre ++ [y])).f by rw [sf.out, if_pos hf])
                replace hW2 := Lib.hid hW2
                replace hf := Lib.hid hf
                gi_upto_region 10 with fail
                rw [← hW2.out]
                clear c7 v7 E0 E2 E3
                have c8 := B82.cell
                have v8 := B82.frozen
                have c6 := B62.cell
                replace B62 := Lib.hid B62
                replace B72 := Lib.hid B72
                replace B82 := Lib.hid B82
                clear B61 B71 B81 O1
                have AC2 := Lib.hid (ACx.out W2 O2)
                have ec : Y = (qG A own (pre ++ [y])).c := by rw [sc.out, if_pos ⟨hc, rfl⟩]
                replace O2 := Lib.hid O2
                replace ec := Lib.hid ec
                replace hc := Lib.hid hc
                gi_wp2_with fail
                refine ⟨fun _ h => (by cases h), ?_⟩
                gi_wp2_with fail
                first
                  | refine ⟨trivial, fun _ => by omega, ?_⟩
                  | refine ⟨trivial, ?_⟩
                gi_at_call 70
                refine (CallsIn.inRound l' (callsIn_wide.2 AC2.out)).mono ?_
                rintro e v3 ⟨rfl, b3⟩
                have G2 := (b3.cell (p := ⟨M + 2, 0, none⟩) (World.block_lt_of_cell? _ _ F2)).trans F2
                have B63 : Boxed v3 (M + 6) 3 (.int .i64 (n1 : Int)) := (b3.block (M + 6) (heap_lt B62.out)).trans B62.out
                have B73 : Boxed v3 (M + 7) 51 (.int .u64 (Y : Int)) := (b3.block (M + 7) (heap_lt B72.out)).trans B72.out
                have B83 : Boxed v3 (M + 8) 51 (.int .u64 (c0 : Int)) := (b3.block (M + 8) (heap_lt B82.out)).trans B82.out
                have O3 : Only (fun b => b = M + 6 ∨ b = M + 7 ∨ b = M + 8) Wx v3 := O2.out.below b3 O2.out.size
                have c6 := B63.cell
                have c8 := B83.cell
                have v8 := B83.frozen
                have T := Lib.hid (fin.out hn (v3.setCell ⟨M + 8, 0, none⟩ (.int .u64 (Y : Int))) _ _ ef.out ec.out (B63.other (B' := M + 8) (by omega) _) (B73.other (B' := M + 8) (by omega) _) (B83.set _) (O3.setCell (p := ⟨M + 8, 0, none⟩) (fun _ => .inr (.inr rfl)) _))
                clear B63 B73 B83 O3 b3 fin finX
                gi_wp2
                first | exact T.out | exact ⟨by rw [z4]; exact T.out.1, T.out.2⟩
          · skip
            have z1c0 : ((c0 : Int) == 0) = false := by rw [beq_eq_false_iff_ne]; omega
            have z2c0 : decide ((c0 : Int) = 0) = false := decide_eq_false (by omega)
            have z3c0 : decide (c0 = 0) = false := decide_eq_false (by omega)
            by_cases hn : (n1 : Int) = looks
            · skip
              have w1n : ((n1 : Int) == looks) = true := by rw [beq_iff_eq]; exact hn
              have w2n : decide ((n1 : Int) = looks) = true := decide_eq_true hn
              clear b6 b7 b8
              obtain ⟨W2, hW2⟩ : ∃ W2, W2 = W1.setCell ⟨M + 7, 0, none⟩ (.int .u64 (Y : Int)) := ⟨_, rfl⟩
              have B62 := B61.out.other (B' := M + 7) (by omega) (.int .u64 (Y : Int))
              have B72 := B71.out.set (.int .u64 (Y : Int))
              have B82 := B81.out.other (B' := M + 7) (by omega) (.int .u64 (Y : Int))
              have O2 : Only (fun b => b = M + 6 ∨ b = M + 7 ∨ b = M + 8) Wx (W1.setCell ⟨M + 7, 0, none⟩ (.int .u64 (Y : Int))) := O1.out.setCell (p := ⟨M + 7, 0, none⟩) (fun _ => .inr (.inl rfl)) _
              rw [← hW2] at B62 B72 B82 O2
              have F0 : W2.cell? ⟨M, 0, none⟩ = some (.pointer (some ⟨g, 0, none⟩)) := by rw [hW2]; exact (World.cell?_setCell_other W1 _ _ _ (by simp)).trans E0
              have F2 : W2.cell? ⟨M + 2, 0, none⟩ = some (.int .i64 looks) := by rw [hW2]; exact (World.cell?_setCell_other W1 _ _ _ (by simp)).trans E2
              have F3 : W2.cell? ⟨M + 3, 0, none⟩ = some .nilFunc := by rw [hW2]; exact (World.cell?_setCell_other W1 _ _ _ (by simp)).trans E3
              have ef := Lib.hid (show Y = (qG A own (pre ++ [y])).f by rw [sf.out, if_pos hf])
              replace hW2 := Lib.hid hW2
              replace hf := Lib.hid hf
              gi_upto_region 10 with fail
              rw [← hW2.out]
              clear c7 v7 E0 E2 E3
              have c8 := B82.cell
              have v8 := B82.frozen
              have c6 := B62.cell
              replace B62 := Lib.hid B62
              replace B72 := Lib.hid B72
              replace B82 := Lib.hid B82
              clear B61 B71 B81 O1
              have ec : c0 = (qG A own (pre ++ [y])).c := by rw [sc.out, if_neg (fun h => hc h.1)]
              have T := Lib.hid (finX.out hn W2 _ _ ef.out ec B62.out B72.out B82.out O2)
              clear O2 ef ec fin finX
              replace hc := Lib.hid hc
              gi_wp2_with fail
              refine ⟨fun _ h => (by cases h), ?_⟩
              gi_wp2_with fail
              first
                | refine ⟨trivial, ?_⟩
                | refine ⟨fun _ h => (by cases h), ?_⟩
              gi_wp2
              first | exact ⟨T.out.1, rfl, T.out.2.2⟩ | exact ⟨by rw [z4]; exact T.out.1, rfl, T.out.2.2⟩
            · skip
              have w1n : ((n1 : Int) == looks) = false := by rw [beq_eq_false_iff_ne]; exact hn
              have w2n : decide ((n1 : Int) = looks) = false := decide_eq_false hn
              clear b6 b7 b8
              obtain ⟨W2, hW2⟩ : ∃ W2, W2 = W1.setCell ⟨M + 7, 0, none⟩ (.int .u64 (Y : Int)) := ⟨_, rfl⟩
              have B62 := B61.out.other (B' := M + 7) (by omega) (.int .u64 (Y : Int))
              have B72 := B71.out.set (.int .u64 (Y : Int))
              have B82 := B81.out.other (B' := M + 7) (by omega) (.int .u64 (Y : Int))
              have O2 : Only (fun b => b = M + 6 ∨ b = M + 7 ∨ b = M + 8) Wx (W1.setCell ⟨M + 7, 0, none⟩ (.int .u64 (Y : Int))) := O1.out.setCell (p := ⟨M + 7, 0, none⟩) (fun _ => .inr (.inl rfl)) _
              rw [← hW2] at B62 B72 B82 O2
              have F0 : W2.cell? ⟨M, 0, none⟩ = some (.pointer (some ⟨g, 0, none⟩)) := by rw [hW2]; exact (World.cell?_setCell_other W1 _ _ _ (by simp)).trans E0
              have F2 : W2.cell? ⟨M + 2, 0, none⟩ = some (.int .i64 looks) := by rw [hW2]; exact (World.cell?_setCell_other W1 _ _ _ (by simp)).trans E2
              have F3 : W2.cell? ⟨M + 3, 0, none⟩ = some .nilFunc := by rw [hW2]; exact (World.cell?_setCell_other W1 _ _ _ (by simp)).trans E3
              have ef := Lib.hid (show Y = (qG A own (pre ++ [y])).f by rw [sf.out, if_pos hf])
              replace hW2 := Lib.hid hW2
              replace hf := Lib.hid hf
              gi_upto_region 10 with fail
              rw [← hW2.out]
              clear c7 v7 E0 E2 E3
              have c8 := B82.cell
              have v8 := B82.frozen
              have c6 := B62.cell
              replace B62 := Lib.hid B62
              replace B72 := Lib.hid B72
              replace B82 := Lib.hid B82
              clear B61 B71 B81 O1
              have ec : c0 = (qG A own (pre ++ [y])).c := by rw [sc.out, if_neg (fun h => hc h.1)]
              have T := Lib.hid (fin.out hn W2 _ _ ef.out ec B62.out B72.out B82.out O2)
              clear O2 ef ec fin finX
              replace hc := Lib.hid hc
              gi_wp2_with fail
              refine ⟨fun _ h => (by cases h), ?_⟩
              gi_wp2_with fail
              first
                | refine ⟨trivial, ?_⟩
                | refine ⟨fun _ h => (by cases h), ?_⟩
              gi_wp2
              first | exact T.out | exact ⟨by rw [z4]; exact T.out.1, T.out.2⟩
        · skip
          have z1f0 : ((f0 : Int) == 0) = false := by rw [beq_eq_false_iff_ne]; omega
          have z2f0 : decide ((f0 : Int) = 0) = false := decide_eq_false (by omega)
          have z3f0 : decide (f0 = 0) = false := decide_eq_false (by omega)
          by_cases hc : c0 = 0
          · skip
            have z1c0 : ((c0 : Int) == 0) = true := by rw [beq_iff_eq]; omega
            have z2c0 : decide ((c0 : Int) = 0) = true := decide_eq_true (by omega)
            have z3c0 : decide (c0 = 0) = true := decide_eq_true (by omega)
            by_cases hn : (n1 : Int) = looks
            · skip
              have w1n : ((n1 : Int) == looks) = true := by rw [beq_iff_eq]; exact hn
              have w2n : decide ((n1 : Int) = looks) = true := decide_eq_true hn
              cases a with
              | true =>
                clear b6 b7 b8
                obtain ⟨W2, hW2⟩ : ∃ W2, W2 = W1 := ⟨_, rfl⟩
                have B62 := B61.out
                have B72 := B71.out
                have B82 := B81.out
                have O2 := O1.out
                have ef := Lib.hid (show f0 = (qG A own (pre ++ [y])).f by rw [sf.out, if_neg hf])
                replace hf := Lib.hid hf
                gi_upto_region 10 with fail
                rw [← hW2] at B62 B72 B82 O2 E0 E2 E3 ⊢
                have F0 := E0
                have F2 := E2
                have F3 := E3
                clear c7 v7 E0 E2 E3 hW2
                have c8 := B82.cell
                have v8 := B82.frozen
                have c6 := B62.cell
                replace B62 := Lib.hid B62
                replace B72 := Lib.hid B72
                replace B82 := Lib.hid B82
                clear B61 B71 B81 O1
                have AC2 := Lib.hid (ACx.out W2 O2)
                have ec : c0 = (qG A own (pre ++ [y])).c := by rw [sc.out, if_neg (fun h => by cases h.2)]
                replace O2 := Lib.hid O2
                replace ec := Lib.hid ec
                replace hc := Lib.hid hc
                gi_wp2_with fail
                refine ⟨fun _ h => (by cases h), ?_⟩
                gi_wp2_with fail
                first
                  | refine ⟨trivial, fun _ => by omega, ?_⟩
                  | refine ⟨trivial, ?_⟩
                gi_at_call 70
                refine (CallsIn.inRound l' (callsIn_wide.2 AC2.out)).mono ?_
                rintro e v3 ⟨rfl, b3⟩
                have G2 := (b3.cell (p := ⟨M + 2, 0, none⟩) (World.block_lt_of_cell? _ _ F2)).trans F2
                have B63 : Boxed v3 (M + 6) 3 (.int .i64 (n1 : Int)) := (b3.block (M + 6) (heap_lt B62.out)).trans B62.out
                have B73 : Boxed v3 (M + 7) 51 (.int .u64 (f0 : Int)) := (b3.block (M + 7) (heap_lt B72.out)).trans B72.out
                have B83 : Boxed v3 (M + 8) 51 (.int .u64 (c0 : Int)) := (b3.block (M + 8) (heap_lt B82.out)).trans B82.out
                have O3 : Only (fun b => b = M + 6 ∨ b = M + 7 ∨ b = M + 8) Wx v3 := O2.out.below b3 O2.out.size
                have c6 := B63.cell
                have c8 := B83.cell
                have v8 := B83.frozen
                have T := Lib.hid (finX.out hn v3 _ _ ef.out ec.out B63 B73 B83 O3)
                clear B63 B73 B83 O3 b3 fin finX
                gi_wp2
                first | exact ⟨T.out.1, rfl, T.out.2.2⟩ | exact ⟨by rw [z4]; exact T.out.1, rfl, T.out.2.2⟩
              | false =>
                clear b6 b7 b8
                obtain ⟨W2, hW2⟩ : ∃ W2, W2 = W1 := ⟨_, rfl⟩
                have B62 := B61.out
                have B72 := B71.out
                have B82 := B81.out
                have O2 := O1.out
                have ef := Lib.hid (show f0 = (qG A own (pre ++ [y])).f by rw [sf.out, if_neg hf])
                replace hf := Lib.hid hf
                gi_upto_region 10 with fail
                rw [← hW2] at B62 B72 B82 O2 E0 E2 E3 ⊢
                have F0 := E0
                have F2 := E2
                have F3 := E3
                clear c7 v7 E0 E2 E3 hW2
                have c8 := B82.cell
                have v8 := B82.frozen
                have c6 := B62.cell
                replace B62 := Lib.hid B62
                replace B72 := Lib.hid B72
                replace B82 := Lib.hid B82
                clear B61 B71 B81 O1
                have AC2 := Lib.hid (ACx.out W2 O2)
                have ec : Y = (qG A own (pre ++ [y])).c := by rw [sc.out, if_pos ⟨hc, rfl⟩]
                replace O2 := Lib.hid O2
                replace ec := Lib.hid ec
                replace hc := Lib.hid hc
                gi_wp2_with fail
                refine ⟨fun _ h => (by cases h), ?_⟩
                gi_wp2_with fail
                first
                  | refine ⟨trivial, fun _ => by omega, ?_⟩
                  | refine ⟨trivial, ?_⟩
                gi_at_call 70
                refine (CallsIn.inRound l' (callsIn_wide.2 AC2.out)).mono ?_
                rintro e v3 ⟨rfl, b3⟩
                have G2 := (b3.cell (p := ⟨M + 2, 0, none⟩) (World.block_lt_of_cell? _ _ F2)).trans F2
                have B63 : Boxed v3 (M + 6) 3 (.int .i64 (n1 : Int)) := (b3.block (M + 6) (heap_lt B62.out)).trans B62.out
                have B73 : Boxed v3 (M + 7) 51 (.int .u64 (f0 : Int)) := (b3.block (M + 7) (heap_lt B72.out)).trans B72.out
                have B83 : Boxed v3 (M + 8) 51 (.int .u64 (c0 : Int)) := (b3.block (M + 8) (heap_lt B82.out)).trans B82.out
                have O3 : Only (fun b => b = M + 6 ∨ b = M + 7 ∨ b = M + 8) Wx v3 := O2.out.below b3 O2.out.size
                have c6 := B63.cell
                have c8 := B83.cell
                have v8 := B83.frozen
                have T := Lib.hid (finX.out hn (v3.setCell ⟨M + 8, 0, none⟩ (.int .u64 (Y : Int))) _ _ ef.out ec.out (B63.other (B' := M + 8) (by omega) _) (B73.other (B' := M + 8) (by omega) _) (B83.set _) (O3.setCell (p := ⟨M + 8, 0, none⟩) (fun _ => .inr (.inr rfl)) _))
                clear B63 B73 B83 O3 b3 fin finX
                gi_wp2
                first | exact ⟨T.out.1, rfl, T.out.2.2⟩ | exact ⟨by rw [z4]; exact T.out.1, rfl, T.out.2.2⟩
            · skip
              have w1n : ((n1 : Int) == looks) = false := by rw [beq_eq_false_iff_ne]; exact hn
              have w2n : decide ((n1 : Int) = looks) = false := decide_eq_false hn
              cases a with
              | true =>
                clear b6 b7 b8
                obtain ⟨W2, hW2⟩ : ∃ W2, W2 = W1 := ⟨_, rfl⟩
                have B62 := B61.out
                have B72 := B71.out
                have B82 := B81.out
                have O2 := O1.out
                have ef := Lib.hid (show f0 = (qG A own (pre ++ [y])).f by rw [sf.out, if_neg hf])
                replace hf := Lib.hid hf
                gi_upto_region 10 with fail
                rw [← hW2] at B62 B72 B82 O2 E0 E2 E3 ⊢
                have F0 := E0
                have F2 := E2
                have F3 := E3
                clear c7 v7 E0 E2 E3 hW2
                have c8 := B82.cell
                have v8 := B82.frozen
                have c6 := B62.cell
                replace B62 := Lib.hid B62
                replace B72 := Lib.hid B72
                replace B82 := Lib.hid B82
                clear B61 B71 B81 O1
                have AC2 := Lib.hid (ACx.out W2 O2)
                have ec : c0 = (qG A own (pre ++ [y])).c := by rw [sc.out, if_neg (fun h => by cases h.2)]
                replace O2 := Lib.hid O2
                replace ec := Lib.hid ec
                replace hc := Lib.hid hc
                gi_wp2_with fail
                refine ⟨fun _ h => (by cases h), ?_⟩
                gi_wp2_with fail
                first
                  | refine ⟨trivial, fun _ => by omega, ?_⟩
                  | refine ⟨trivial, ?_⟩
                gi_at_call 70
                refine (CallsIn.inRound l' (callsIn_wide.2 AC2.out)).mono ?_
                rintro e v3 ⟨rfl, b3⟩
                have G2 := (b3.cell (p := ⟨M + 2, 0, none⟩) (World.block_lt_of_cell? _ _ F2)).trans F2
                have B63 : Boxed v3 (M + 6) 3 (.int .i64 (n1 : Int)) := (b3.block (M + 6) (heap_lt B62.out)).trans B62.out
                have B73 : Boxed v3 (M + 7) 51 (.int .u64 (f0 : Int)) := (b3.block (M + 7) (heap_lt B72.out)).trans B72.out
                have B83 : Boxed v3 (M + 8) 51 (.int .u64 (c0 : Int)) := (b3.block (M + 8) (heap_lt B82.out)).trans B82.out
                have O3 : Only (fun b => b = M + 6 ∨ b = M + 7 ∨ b = M + 8) Wx v3 := O2.out.below b3 O2.out.size
                have c6 := B63.cell
                have c8 := B83.cell
                have v8 := B83.frozen
                have T := Lib.hid (fin.out hn v3 _ _ ef.out ec.out B63 B73 B83 O3)
                clear B63 B73 B83 O3 b3 fin finX
                gi_wp2
                first | exact T.out | exact ⟨by rw [z4]; exact T.out.1, T.out.2⟩
              | false =>
                clear b6 b7 b8
                obtain ⟨W2, hW2⟩ : ∃ W2, W2 = W1 := ⟨_, rfl⟩
                have B62 := B61.out
                have B72 := B71.out
                have B82 := B81.out
                have O2 := O1.out
                have ef := Lib.hid (show f0 = (qG A own (pre ++ [y])).f by rw [sf.out, if_neg hf])
                replace hf := Lib.hid hf
                gi_upto_region 10 with fail
                rw [← hW2] at B62 B72 B82 O2 E0 E2 E3 ⊢
                have F0 := E0
                have F2 := E2
                have F3 := E3
                clear c7 v7 E0 E2 E3 hW2
                have c8 := B82.cell
                have v8 := B82.frozen
                have c6 := B62.cell
                replace B62 := Lib.hid B62
                replace B72 := Lib.hid B72
                replace B82 := Lib.hid B82
                clear B61 B71 B81 O1
                have AC2 := Lib.hid (ACx.out W2 O2)
                have ec : Y = (qG A own (pre ++ [y])).c := by rw [sc.out, if_pos ⟨hc, rfl⟩]
                replace O2 := Lib.hid O2
                replace ec := Lib.hid ec
                replace hc := Lib.hid hc
                gi_wp2_with fail
                refine ⟨fun _ h => (by cases h), ?_⟩
                gi_wp2_with fail
                first
                  | refine ⟨trivial, fun _ => by omega, ?_⟩
                  | refine ⟨trivial, ?_⟩
                gi_at_call 70
                refine (CallsIn.inRound l' (callsIn_wide.2 AC2.out)).mono ?_
                rintro e v3 ⟨rfl, b3⟩
                have G2 := (b3.cell (p := ⟨M + 2, 0, none⟩) (World.block_lt_of_cell? _ _ F2)).trans F2
                have B63 : Boxed v3 (M + 6) 3 (.int .i64 (n1 : Int)) := (b3.block (M + 6) (heap_lt B62.out)).trans B62.out
                have B73 : Boxed v3 (M + 7) 51 (.int .u64 (f0 : Int)) := (b3.block (M + 7) (heap_lt B72.out)).trans B72.out
                have B83 : Boxed v3 (M + 8) 51 (.int .u64 (c0 : Int)) := (b3.block (M + 8) (heap_lt B82.out)).trans B82.out
                have O3 : Only (fun b => b = M + 6 ∨ b = M + 7 ∨ b = M + 8) Wx v3 := O2.out.below b3 O2.out.size
                have c6 := B63.cell
                have c8 := B83.cell
                have v8 := B83.frozen
                have T := Lib.hid (fin.out hn (v3.setCell ⟨M + 8, 0, none⟩ (.int .u64 (Y : Int))) _ _ ef.out ec.out (B63.other (B' := M + 8) (by omega) _) (B73.other (B' := M + 8) (by omega) _) (B83.set _) (O3.setCell (p := ⟨M + 8, 0, none⟩) (fun _ => .inr (.inr rfl)) _))
                clear B63 B73 B83 O3 b3 fin finX
                gi_wp2
                first | exact T.out | exact ⟨by rw [z4]; exact T.out.1, T.out.2⟩
          · skip
            have z1c0 : ((c0 : Int) == 0) = false := by rw [beq_eq_false_iff_ne]; omega
            have z2c0 : decide ((c0 : Int) = 0) = false := decide_eq_false (by omega)
            have z3c0 : decide (c0 = 0) = false := decide_eq_false (by omega)
            by_cases hn : (n1 : Int) = looks
            · skip
              have w1n : ((n1 : Int) == looks) = true := by rw [beq_iff_eq]; exact hn
              have w2n : decide ((n1 : Int) = looks) = true := decide_eq_true hn
              clear b6 b7 b8
              obtain ⟨W2, hW2⟩ : ∃ W2, W2 = W1 := ⟨_, rfl⟩
              have B62 := B61.out
              have B72 := B71.out
              have B82 := B81.out
              have O2 := O1.out
              have ef := Lib.hid (show f0 = (qG A own (pre ++ [y])).f by rw [sf.out, if_neg hf])
              replace hf := Lib.hid hf
              gi_upto_region 10 with fail
              rw [← hW2] at B62 B72 B82 O2 E0 E2 E3 ⊢
              have F0 := E0
              have F2 := E2
              have F3 := E3
              clear c7 v7 E0 E2 E3 hW2
              have c8 := B82.cell
              have v8 := B82.frozen
              have c6 := B62.cell
              replace B62 := Lib.hid B62
              replace B72 := Lib.hid B72
              replace B82 := Lib.hid B82
              clear B61 B71 B81 O1
              have ec : c0 = (qG A own (pre ++ [y])).c := by rw [sc.out, if_neg (fun h => hc h.1)]
              have T := Lib.hid (finX.out hn W2 _ _ ef.out ec B62.out B72.out B82.out O2)
              clear O2 ef ec fin finX
              replace hc := Lib.hid hc
              gi_wp2_with fail
              refine ⟨fun _ h => (by cases h), ?_⟩
              gi_wp2_with fail
              first
                | refine ⟨trivial, ?_⟩
                | refine ⟨fun _ h => (by cases h), ?_⟩
              gi_wp2
              first | exact ⟨T.out.1, rfl, T.out.2.2⟩ | exact ⟨by rw [z4]; exact T.out.1, rfl, T.out.2.2⟩
            · skip
              have w1n : ((n1 : Int) == looks) = false := by rw [beq_eq_false_iff_ne]; exact hn
              have w2n : decide ((n1 : Int) = looks) = false := decide_eq_false hn
              clear b6 b7 b8
              obtain ⟨W2, hW2⟩ : ∃ W2, W2 = W1 := ⟨_, rfl⟩
              have B62 := B61.out
              have B72 := B71.out
              have B82 := B81.out
              have O2 := O1.out
              have ef := Lib.hid (show f0 = (qG A own (pre ++ [y])).f by rw [sf.out, if_neg hf])
              replace hf := Lib.hid hf
              gi_upto_region 10 with fail
              rw [← hW2] at B62 B72 B82 O2 E0 E2 E3 ⊢
              have F0 := E0
              have F2 := E2
              have F3 := E3
              clear c7 v7 E0 E2 E3 hW2
              have c8 := B82.cell
              have v8 := B82.frozen
              have c6 := B62.cell
              replace B62 := Lib.hid B62
              replace B72 := Lib.hid B72
              replace B82 := Lib.hid B82
              clear B61 B71 B81 O1
              have ec : c0 = (qG A own (pre ++ [y])).c := by rw [sc.out, if_neg (fun h => hc h.1)]
              have T := Lib.hid (fin.out hn W2 _ _ ef.out ec B62.out B72.out B82.out O2)
              clear O2 ef ec fin finX
              replace hc := Lib.hid hc
              gi_wp2_with fail
              refine ⟨fun _ h => (by cases h), ?_⟩
              gi_wp2_with fail
              first
                | refine ⟨trivial, ?_⟩
                | refine ⟨fun _ h => (by cases h), ?_⟩
              gi_wp2
              first | exact T.out | exact ⟨by rw [z4]; exact T.out.1, T.out.2⟩
    case done =>
      rintro D' ys Wx hD' hys ⟨b6, b7, b8, oW, hg, hnp⟩ hK
      have est : pickF A own looks ⟨0, 0, 0⟩ row = qG A own ys := by
        have := hg []
        rw [List.append_nil, hys] at this
        exact this
      have ep : pickN A own looks row = (pickH (qG A own ys), (qG A own ys).n) := by
        unfold pickN
        rw [if_neg (by omega), est]
      obtain ⟨st, hst⟩ : ∃ st, st = qG A own ys := ⟨_, rfl⟩
      rw [← hst] at ep b6 b7 b8
      obtain ⟨n0, f0, c0⟩ := st
      simp only at b6 b7 b8
      have c4 : Wx.cell? ⟨M + 4, 0, none⟩ = some (.int .u64 0) := Blk.cell (g := M + 4) ((oW.block (M + 4) (by omega) (by omega)).trans k4.out) 0
      have f4 : Wx.frozen? ⟨M + 4, 0, none⟩ = false := Blk.frozen (g := M + 4) ((oW.block (M + 4) (by omega) (by omega)).trans k4.out) 0
      have c5 : Wx.cell? ⟨M + 5, 0, none⟩ = some (.bool false) := Blk.cell (g := M + 5) ((oW.block (M + 5) (by omega) (by omega)).trans k5.out) 0
      have f5 : Wx.frozen? ⟨M + 5, 0, none⟩ = false := Blk.frozen (g := M + 5) ((oW.block (M + 5) (by omega) (by omega)).trans k5.out) 0
      have B4 : Blk Wx (M + 4) 51 #[.int .u64 0] := (oW.block (M + 4) (by omega) (by omega)).trans k4.out
      have B5 : Blk Wx (M + 5) 4 #[.bool false] := (oW.block (M + 5) (by omega) (by omega)).trans k5.out
      have c6 := b6.cell
      have v6 := b6.frozen
      have c7 := b7.cell
      have c8 := b8.cell
      have bF : Below w.heap.size w Wx := bw4.out.trans (oW.toBelow fun k hk => ⟨by have := hM2.out; omega, fun e => by have := hM2.out; omega⟩)
      replace ep := Lib.hid ep
      replace hst := Lib.hid hst
      replace bF := Lib.hid bF
      replace B4 := Lib.hid B4
      replace B5 := Lib.hid B5
      replace b6 := Lib.hid b6
      replace hK := Lib.hid hK
      clear est oW b7 b8 hg hnp hys
      by_cases hc : c0 = 0
      · have z1 : ((c0 : Int) == 0) = true := by rw [beq_iff_eq]; omega
        have z2 : ((c0 : Int) != 0) = false := by rw [bne_eq_false_iff_eq]; omega
        have z3 : decide ((c0 : Int) = 0) = true := decide_eq_true (by omega)
        have z5 : decide (c0 = 0) = true := decide_eq_true hc
        have eh : pickH ⟨n0, f0, c0⟩ = f0 := if_neg (by simpa using hc)
        replace eh := Lib.hid eh
        replace hc := Lib.hid hc
        gi_upto_region 17 with fail
        gi_region
        obtain ⟨W5, hW5⟩ : ∃ W5, W5 = ((Wx.setCell ⟨M + 4, 0, none⟩ (.int .u64 (f0 : Int))).setCell ⟨M + 5, 0, none⟩ (.bool false)).setCell ⟨M + 6, 0, none⟩ (.int .i64 (n0 : Int)) := ⟨_, rfl⟩
        rw [← hW5]
        have D4 : Blk W5 (M + 4) 51 #[.int .u64 (f0 : Int)] := by rw [hW5]; exact ((B4.out.set_ 0 _).far (by show M + 4 ≠ M + 5; omega) _).far (by show M + 4 ≠ M + 6; omega) _
        have D5 : Blk W5 (M + 5) 4 #[.bool false] := by rw [hW5]; exact ((B5.out.far (by show M + 5 ≠ M + 4; omega) _).set_ 0 _).far (by show M + 5 ≠ M + 6; omega) _
        have D6 : Blk W5 (M + 6) 3 #[.int .i64 (n0 : Int)] := by rw [hW5]; exact Blk.set_ (Blk.far (Blk.far (g := M + 6) b6.out (by show M + 6 ≠ M + 4; omega) _) (by show M + 6 ≠ M + 5; omega) _) 0 _
        have hD2 : W5.heap[D']? = some (.deferred (some [])) := by
          rw [hW5, Below.heap_setCell _ _ _ _ (by show D' ≠ M + 6; omega), Below.heap_setCell _ _ _ _ (by show D' ≠ M + 5; omega), Below.heap_setCell _ _ _ _ (by show D' ≠ M + 4; omega)]
          exact hK.out
        have bG : Below w.heap.size w W5.drew := by
          rw [hW5]
          exact below_drewN (((bF.out.setCell (p := ⟨M + 4, 0, none⟩) (by show _ ≤ M + 4; have := hM2.out; omega) _).setCell (p := ⟨M + 5, 0, none⟩) (by show _ ≤ M + 5; have := hM2.out; omega) _).setCell (p := ⟨M + 6, 0, none⟩) (by show _ ≤ M + 6; have := hM2.out; omega) _) 1
        replace hW5 := Lib.hid hW5
        replace bG := Lib.hid bG
        replace D4 := Lib.hid D4
        replace D5 := Lib.hid D5
        replace D6 := Lib.hid D6
        clear c4 f4 c5 f5 c6 v6 c7 c8
        gi_wp2
        refine ⟨by simp, .inl ⟨_, _, rfl, run_takeDeferred (show W5.drew.heap[D']? = _ from hD2), ?_⟩⟩
        have e4 : (W5.drew.putObj D' (.deferred none)).cell? ⟨M + 4, 0, none⟩ = some (.int .u64 (f0 : Int)) := Blk.cell (g := M + 4) ((World.putObj_heap_other (by omega)).trans D4.out) 0
        have e5 : (W5.drew.putObj D' (.deferred none)).cell? ⟨M + 5, 0, none⟩ = some (.bool false) := Blk.cell (g := M + 5) ((World.putObj_heap_other (by omega)).trans D5.out) 0
        have e6 : (W5.drew.putObj D' (.deferred none)).cell? ⟨M + 6, 0, none⟩ = some (.int .i64 (n0 : Int)) := Blk.cell (g := M + 6) ((World.putObj_heap_other (by omega)).trans D6.out) 0
        exact ⟨_, results_cells3 (P := Tryz.prog) rfl _ _ (M + 4) (M + 5) (M + 6) _ _ _ _ _ _ rfl rfl rfl e4 e5 e6 Tryz.underlying51 Tryz.underlying4 Tryz.underlying3 rfl rfl rfl, by rw [ep.out, eh.out], bG.out.grown (grownBy_putObj' _ D' _) bG.out.size (fun k e => by cases e; have := hM2.out; omega)⟩
      · have z1 : ((c0 : Int) == 0) = false := by rw [beq_eq_false_iff_ne]; omega
        have z2 : ((c0 : Int) != 0) = true := by rw [bne_iff_ne]; omega
        have z3 : decide ((c0 : Int) = 0) = false := decide_eq_false (by omega)
        have z5 : decide (c0 = 0) = false := decide_eq_false hc
        have eh : pickH ⟨n0, f0, c0⟩ = c0 := if_pos hc
        replace eh := Lib.hid eh
        replace hc := Lib.hid hc
        gi_upto_region 16 with fail
        gi_region
        obtain ⟨W5, hW5⟩ : ∃ W5, W5 = ((Wx.setCell ⟨M + 4, 0, none⟩ (.int .u64 (c0 : Int))).setCell ⟨M + 5, 0, none⟩ (.bool false)).setCell ⟨M + 6, 0, none⟩ (.int .i64 (n0 : Int)) := ⟨_, rfl⟩
        rw [← hW5]
        have D4 : Blk W5 (M + 4) 51 #[.int .u64 (c0 : Int)] := by rw [hW5]; exact ((B4.out.set_ 0 _).far (by show M + 4 ≠ M + 5; omega) _).far (by show M + 4 ≠ M + 6; omega) _
        have D5 : Blk W5 (M + 5) 4 #[.bool false] := by rw [hW5]; exact ((B5.out.far (by show M + 5 ≠ M + 4; omega) _).set_ 0 _).far (by show M + 5 ≠ M + 6; omega) _
        have D6 : Blk W5 (M + 6) 3 #[.int .i64 (n0 : Int)] := by rw [hW5]; exact Blk.set_ (Blk.far (Blk.far (g := M + 6) b6.out (by show M + 6 ≠ M + 4; omega) _) (by show M + 6 ≠ M + 5; omega) _) 0 _
        have hD2 : W5.heap[D']? = some (.deferred (some [])) := by
          rw [hW5, Below.heap_setCell _ _ _ _ (by show D' ≠ M + 6; omega), Below.heap_setCell _ _ _ _ (by show D' ≠ M + 5; omega), Below.heap_setCell _ _ _ _ (by show D' ≠ M + 4; omega)]
          exact hK.out
        have bG : Below w.heap.size w W5.drew := by
          rw [hW5]
          exact below_drewN (((bF.out.setCell (p := ⟨M + 4, 0, none⟩) (by show _ ≤ M + 4; have := hM2.out; omega) _).setCell (p := ⟨M + 5, 0, none⟩) (by show _ ≤ M + 5; have := hM2.out; omega) _).setCell (p := ⟨M + 6, 0, none⟩) (by show _ ≤ M + 6; have := hM2.out; omega) _) 1
        replace hW5 := Lib.hid hW5
        replace bG := Lib.hid bG
        replace D4 := Lib.hid D4
        replace D5 := Lib.hid D5
        replace D6 := Lib.hid D6
        clear c4 f4 c5 f5 c6 v6 c7 c8
        gi_wp2
        refine ⟨by simp, .inl ⟨_, _, rfl, run_takeDeferred (show W5.drew.heap[D']? = _ from hD2), ?_⟩⟩
        have e4 : (W5.drew.putObj D' (.deferred none)).cell? ⟨M + 4, 0, none⟩ = some (.int .u64 (c0 : Int)) := Blk.cell (g := M + 4) ((World.putObj_heap_other (by omega)).trans D4.out) 0
        have e5 : (W5.drew.putObj D' (.deferred none)).cell? ⟨M + 5, 0, none⟩ = some (.bool false) := Blk.cell (g := M + 5) ((World.putObj_heap_other (by omega)).trans D5.out) 0
        have e6 : (W5.drew.putObj D' (.deferred none)).cell? ⟨M + 6, 0, none⟩ = some (.int .i64 (n0 : Int)) := Blk.cell (g := M + 6) ((World.putObj_heap_other (by omega)).trans D6.out) 0
        exact ⟨_, results_cells3 (P := Tryz.prog) rfl _ _ (M + 4) (M + 5) (M + 6) _ _ _ _ _ _ rfl rfl rfl e4 e5 e6 Tryz.underlying51 Tryz.underlying4 Tryz.underlying3 rfl rfl rfl, by rw [ep.out, eh.out], bG.out.grown (grownBy_putObj' _ D' _) bG.out.size (fun k e => by cases e; have := hM2.out; omega)⟩
    case stop =>
      rintro D' c' pre Wx hD' hSp ⟨rfl, b6, b7, b8, oW, he⟩ hK
      have est : pickF A own looks ⟨0, 0, 0⟩ row = qG A own pre := by
        obtain ⟨t, ht⟩ := hSp
        rw [← ht]
        exact he t
      have ep : pickN A own looks row = (pickH (qG A own pre), (qG A own pre).n) := by
        unfold pickN
        rw [if_neg (by omega), est]
      obtain ⟨st, hst⟩ : ∃ st, st = qG A own pre := ⟨_, rfl⟩
      rw [← hst] at ep b6 b7 b8
      obtain ⟨n0, f0, c0⟩ := st
      simp only at b6 b7 b8
      have c4 : Wx.cell? ⟨M + 4, 0, none⟩ = some (.int .u64 0) := Blk.cell (g := M + 4) ((oW.block (M + 4) (by omega) (by omega)).trans k4.out) 0
      have f4 : Wx.frozen? ⟨M + 4, 0, none⟩ = false := Blk.frozen (g := M + 4) ((oW.block (M + 4) (by omega) (by omega)).trans k4.out) 0
      have c5 : Wx.cell? ⟨M + 5, 0, none⟩ = some (.bool false) := Blk.cell (g := M + 5) ((oW.block (M + 5) (by omega) (by omega)).trans k5.out) 0
      have f5 : Wx.frozen? ⟨M + 5, 0, none⟩ = false := Blk.frozen (g := M + 5) ((oW.block (M + 5) (by omega) (by omega)).trans k5.out) 0
      have B4 : Blk Wx (M + 4) 51 #[.int .u64 0] := (oW.block (M + 4) (by omega) (by omega)).trans k4.out
      have B5 : Blk Wx (M + 5) 4 #[.bool false] := (oW.block (M + 5) (by omega) (by omega)).trans k5.out
      have c6 := b6.cell
      have v6 := b6.frozen
      have c7 := b7.cell
      have c8 := b8.cell
      have bF : Below w.heap.size w Wx := bw4.out.trans (oW.toBelow fun k hk => ⟨by have := hM2.out; omega, fun e => by have := hM2.out; omega⟩)
      replace ep := Lib.hid ep
      replace hst := Lib.hid hst
      replace bF := Lib.hid bF
      replace B4 := Lib.hid B4
      replace B5 := Lib.hid B5
      replace b6 := Lib.hid b6
      replace hK := Lib.hid hK
      clear est oW b7 b8 he hSp
      by_cases hc : c0 = 0
      · have z1 : ((c0 : Int) == 0) = true := by rw [beq_iff_eq]; omega
        have z2 : ((c0 : Int) != 0) = false := by rw [bne_eq_false_iff_eq]; omega
        have z3 : decide ((c0 : Int) = 0) = true := decide_eq_true (by omega)
        have z5 : decide (c0 = 0) = true := decide_eq_true hc
        have eh : pickH ⟨n0, f0, c0⟩ = f0 := if_neg (by simpa using hc)
        replace eh := Lib.hid eh
        replace hc := Lib.hid hc
        gi_upto_region 17 with fail
        gi_region
        obtain ⟨W5, hW5⟩ : ∃ W5, W5 = ((Wx.setCell ⟨M + 4, 0, none⟩ (.int .u64 (f0 : Int))).setCell ⟨M + 5, 0, none⟩ (.bool false)).setCell ⟨M + 6, 0, none⟩ (.int .i64 (n0 : Int)) := ⟨_, rfl⟩
        rw [← hW5]
        have D4 : Blk W5 (M + 4) 51 #[.int .u64 (f0 : Int)] := by rw [hW5]; exact ((B4.out.set_ 0 _).far (by show M + 4 ≠ M + 5; omega) _).far (by show M + 4 ≠ M + 6; omega) _
        have D5 : Blk W5 (M + 5) 4 #[.bool false] := by rw [hW5]; exact ((B5.out.far (by show M + 5 ≠ M + 4; omega) _).set_ 0 _).far (by show M + 5 ≠ M + 6; omega) _
        have D6 : Blk W5 (M + 6) 3 #[.int .i64 (n0 : Int)] := by rw [hW5]; exact Blk.set_ (Blk.far (Blk.far (g := M + 6) b6.out (by show M + 6 ≠ M + 4; omega) _) (by show M + 6 ≠ M + 5; omega) _) 0 _
        have hD2 : W5.heap[D']? = some (.deferred (some [])) := by
          rw [hW5, Below.heap_setCell _ _ _ _ (by show D' ≠ M + 6; omega), Below.heap_setCell _ _ _ _ (by show D' ≠ M + 5; omega), Below.heap_setCell _ _ _ _ (by show D' ≠ M + 4; omega)]
          exact hK.out
        have bG : Below w.heap.size w W5.drew := by
          rw [hW5]
          exact below_drewN (((bF.out.setCell (p := ⟨M + 4, 0, none⟩) (by show _ ≤ M + 4; have := hM2.out; omega) _).setCell (p := ⟨M + 5, 0, none⟩) (by show _ ≤ M + 5; have := hM2.out; omega) _).setCell (p := ⟨M + 6, 0, none⟩) (by show _ ≤ M + 6; have := hM2.out; omega) _) 1
        replace hW5 := Lib.hid hW5
        replace bG := Lib.hid bG
        replace D4 := Lib.hid D4
        replace D5 := Lib.hid D5
        replace D6 := Lib.hid D6
        clear c4 f4 c5 f5 c6 v6 c7 c8
        gi_wp2
        refine ⟨by simp, .inl ⟨_, _, rfl, run_takeDeferred (show W5.drew.heap[D']? = _ from hD2), ?_⟩⟩
        have e4 : (W5.drew.putObj D' (.deferred none)).cell? ⟨M + 4, 0, none⟩ = some (.int .u64 (f0 : Int)) := Blk.cell (g := M + 4) ((World.putObj_heap_other (by omega)).trans D4.out) 0
        have e5 : (W5.drew.putObj D' (.deferred none)).cell? ⟨M + 5, 0, none⟩ = some (.bool false) := Blk.cell (g := M + 5) ((World.putObj_heap_other (by omega)).trans D5.out) 0
        have e6 : (W5.drew.putObj D' (.deferred none)).cell? ⟨M + 6, 0, none⟩ = some (.int .i64 (n0 : Int)) := Blk.cell (g := M + 6) ((World.putObj_heap_other (by omega)).trans D6.out) 0
        exact ⟨_, results_cells3 (P := Tryz.prog) rfl _ _ (M + 4) (M + 5) (M + 6) _ _ _ _ _ _ rfl rfl rfl e4 e5 e6 Tryz.underlying51 Tryz.underlying4 Tryz.underlying3 rfl rfl rfl, by rw [ep.out, eh.out], bG.out.grown (grownBy_putObj' _ D' _) bG.out.size (fun k e => by cases e; have := hM2.out; omega)⟩
      · have z1 : ((c0 : Int) == 0) = false := by rw [beq_eq_false_iff_ne]; omega
        have z2 : ((c0 : Int) != 0) = true := by rw [bne_iff_ne]; omega
        have z3 : decide ((c0 : Int) = 0) = false := decide_eq_false (by omega)
        have z5 : decide (c0 = 0) = false := decide_eq_false hc
        have eh : pickH ⟨n0, f0, c0⟩ = c0 := if_pos hc
        replace eh := Lib.hid eh
        replace hc := Lib.hid hc
        gi_upto_region 16 with fail
        gi_region
        obtain ⟨W5, hW5⟩ : ∃ W5, W5 = ((Wx.setCell ⟨M + 4, 0, none⟩ (.int .u64 (c0 : Int))).setCell ⟨M + 5, 0, none⟩ (.bool false)).setCell ⟨M + 6, 0, none⟩ (.int .i64 (n0 : Int)) := ⟨_, rfl⟩
        rw [← hW5]
        have D4 : Blk W5 (M + 4) 51 #[.int .u64 (c0 : Int)] := by rw [hW5]; exact ((B4.out.set_ 0 _).far (by show M + 4 ≠ M + 5; omega) _).far (by show M + 4 ≠ M + 6; omega) _
        have D5 : Blk W5 (M + 5) 4 #[.bool false] := by rw [hW5]; exact ((B5.out.far (by show M + 5 ≠ M + 4; omega) _).set_ 0 _).far (by show M + 5 ≠ M + 6; omega) _
        have D6 : Blk W5 (M + 6) 3 #[.int .i64 (n0 : Int)] := by rw [hW5]; exact Blk.set_ (Blk.far (Blk.far (g := M + 6) b6.out (by show M + 6 ≠ M + 4; omega) _) (by show M + 6 ≠ M + 5; omega) _) 0 _
        have hD2 : W5.heap[D']? = some (.deferred (some [])) := by
          rw [hW5, Below.heap_setCell _ _ _ _ (by show D' ≠ M + 6; omega), Below.heap_setCell _ _ _ _ (by show D' ≠ M + 5; omega), Below.heap_setCell _ _ _ _ (by show D' ≠ M + 4; omega)]
          exact hK.out
        have bG : Below w.heap.size w W5.drew := by
          rw [hW5]
          exact below_drewN (((bF.out.setCell (p := ⟨M + 4, 0, none⟩) (by show _ ≤ M + 4; have := hM2.out; omega) _).setCell (p := ⟨M + 5, 0, none⟩) (by show _ ≤ M + 5; have := hM2.out; omega) _).setCell (p := ⟨M + 6, 0, none⟩) (by show _ ≤ M + 6; have := hM2.out; omega) _) 1
        replace hW5 := Lib.hid hW5
        replace bG := Lib.hid bG
        replace D4 := Lib.hid D4
        replace D5 := Lib.hid D5
        replace D6 := Lib.hid D6
        clear c4 f4 c5 f5 c6 v6 c7 c8
        gi_wp2
        refine ⟨by simp, .inl ⟨_, _, rfl, run_takeDeferred (show W5.drew.heap[D']? = _ from hD2), ?_⟩⟩
        have e4 : (W5.drew.putObj D' (.deferred none)).cell? ⟨M + 4, 0, none⟩ = some (.int .u64 (c0 : Int)) := Blk.cell (g := M + 4) ((World.putObj_heap_other (by omega)).trans D4.out) 0
        have e5 : (W5.drew.putObj D' (.deferred none)).cell? ⟨M + 5, 0, none⟩ = some (.bool false) := Blk.cell (g := M + 5) ((World.putObj_heap_other (by omega)).trans D5.out) 0
        have e6 : (W5.drew.putObj D' (.deferred none)).cell? ⟨M + 6, 0, none⟩ = some (.int .i64 (n0 : Int)) := Blk.cell (g := M + 6) ((World.putObj_heap_other (by omega)).trans D6.out) 0
        exact ⟨_, results_cells3 (P := Tryz.prog) rfl _ _ (M + 4) (M + 5) (M + 6) _ _ _ _ _ _ rfl rfl rfl e4 e5 e6 Tryz.underlying51 Tryz.underlying4 Tryz.underlying3 rfl rfl rfl, by rw [ep.out, eh.out], bG.out.grown (grownBy_putObj' _ D' _) bG.out.size (fun k e => by cases e; have := hM2.out; omega)⟩
end
end Go.Proofs.YtngehaiigbbknaaGreat.Que
/-
  Three items in the queues of class 0: what Balance makes of them, in plain numbers.
-/
namespace Go.Proofs.YtngehaiigbbknaaGreat.Que
open Go.RowKit Base Arena Cls Itm
set_option linter.unusedVariables false
set_option linter.unusedSectionVars false

/-- The three lists of class 0; the others are empty. -/
def triL (h m c : List Nat) : Nat → Nat → List Nat := fun x k => if x = 0 then (if k = 0 then h else if k = 1 then m else if k = 2 then c else []) else []
theorem tri_one (l : List Nat) : oneL 0 l = triL l [] [] := by
  funext x k
  unfold oneL triL
  by_cases hx : x = 0
  · subst hx
    by_cases hk : k = 0
    · subst hk; rfl
    · rw [if_neg (fun e => hk e.2), if_pos rfl, if_neg hk]
      split
      · rfl
      split <;> rfl
  · rw [if_neg (fun e => hx e.1), if_neg hx]
theorem tri_len (h m c : List Nat) : lenX (triL h m c) 0 1 = h.length ∧ lenX (triL h m c) 0 2 = m.length ∧ lenX (triL h m c) 0 3 = c.length := by
  unfold lenX lsN
  rw [if_pos ⟨by decide, by rw [qc_nc]; decide, by decide, by decide⟩, if_pos ⟨by decide, by rw [qc_nc]; decide, by decide, by decide⟩, if_pos ⟨by decide, by rw [qc_nc]; decide, by decide, by decide⟩]
  exact ⟨rfl, rfl, rfl⟩
theorem tri_tail (h m c : List Nat) : tailX (triL h m c) 0 1 = h.getLast?.getD 0 ∧ tailX (triL h m c) 0 2 = m.getLast?.getD 0 ∧ tailX (triL h m c) 0 3 = c.getLast?.getD 0 := by
  unfold tailX lsN
  rw [if_pos ⟨by decide, by rw [qc_nc]; decide, by decide, by decide⟩, if_pos ⟨by decide, by rw [qc_nc]; decide, by decide, by decide⟩, if_pos ⟨by decide, by rw [qc_nc]; decide, by decide, by decide⟩]
  exact ⟨rfl, rfl, rfl⟩
theorem tri_row (h m c : List Nat) : rowX (triL h m c) 0 = c.reverse ++ m.reverse ++ h.reverse := by
  unfold rowX revX lsN
  rw [if_pos ⟨by decide, by rw [qc_nc]; decide, by decide, by decide⟩, if_pos ⟨by decide, by rw [qc_nc]; decide, by decide, by decide⟩, if_pos ⟨by decide, by rw [qc_nc]; decide, by decide, by decide⟩]
  rfl
theorem tri_shift {s : St} {H : Nat} (hc : clsN qc s H = 0) {h m c : List Nat} (hm : H ∈ h) : shiftN qc s (triL h m c) H 3 = (0, triL (h.erase H) m (H :: c)) := by
  have e0 : triL h m c 0 0 = h := rfl
  have es : stK 0 (triL h m c) H = 1 := by unfold stK; rw [e0, if_pos hm]
  unfold shiftN
  rw [if_neg (by decide), hc, es, if_neg (by decide)]
  unfold putN outN
  rw [es]
  refine Prod.ext rfl ?_
  funext x k
  unfold updL triL
  by_cases hx : x = 0
  · subst hx
    by_cases h0 : k = 0
    · subst h0; rfl
    by_cases h1 : k = 1
    · subst h1; rfl
    by_cases h2 : k = 2
    · subst h2; rfl
    · simp [h0, h1, h2]
  · simp [hx]
theorem mkOn_even {mk : Nat → Nat} (H : Nat) {K : Nat} (h : mk K % 2 = 0) : mkOn mk H false K % 2 = 0 := by
  unfold mkOn
  by_cases e : K = H
  · subst e
    rw [upd_at]
    show 2 * (mk K / 2) % 2 = 0
    omega
  · rw [upd_ne _ _ e]; exact h
theorem actB_even {s : St} {Z : Nat → Option Zd} {mk : Nat → Nat} {H : Nat} (h : mk H % 2 = 0) : actB s Z mk H = false := by
  unfold actB
  rw [h]
  simp
theorem due_hot {s : St} {Z : Nat → Option Zd} {mk : Nat → Nat} {h m c : List Nat} (hh : ((h.length + m.length + c.length : Nat) : Int) * 34 < 100 * (h.length : Int)) : dueK s Z (triL h m c) mk 34 34 0 = 1 := by
  obtain ⟨l1, l2, l3⟩ := tri_len h m c
  unfold dueK hotB totX
  rw [l1, l2, l3, decide_eq_true hh]
  rfl
theorem due_none {s : St} {Z : Nat → Option Zd} {mk : Nat → Nat} {h m c : List Nat} (hh : ¬ ((h.length + m.length + c.length : Nat) : Int) * 34 < 100 * (h.length : Int)) (hw : ¬ ((h.length + m.length + c.length : Nat) : Int) * 34 < 100 * (m.length : Int)) (hc : mk (c.getLast?.getD 0) % 2 = 0) : dueK s Z (triL h m c) mk 34 34 0 = 0 := by
  obtain ⟨l1, l2, l3⟩ := tri_len h m c
  obtain ⟨t1, t2, t3⟩ := tri_tail h m c
  unfold dueK hotB warmB coldB totX
  rw [l1, l2, l3, t3, decide_eq_false hh, decide_eq_false hw, actB_even hc, Bool.and_false]
  rfl
/-- Balance of three in hot. -/
theorem bal_three {s : St} {Z : Nat → Option Zd} {mk : Nat → Nat} {a b c : Nat} (ca : clsN qc s a = 0) (cb : clsN qc s b = 0) (ab : a ≠ b) (ac : a ≠ c) (bc : b ≠ c) (ha : mk a % 2 = 0) (hb : mk b % 2 = 0) (hc : mk c % 2 = 0) :
    (balN s Z 34 34 0 9 (triL [c, b, a] [] []) mk).1.length = 2 ∧ (balN s Z 34 34 0 9 (triL [c, b, a] [] []) mk).2.1 = triL [c] [] [b, a] ∧ ∀ K, mk K % 2 = 0 → (balN s Z 34 34 0 9 (triL [c, b, a] [] []) mk).2.2 K % 2 = 0 := by
  have d1 : dueK s Z (triL [c, b, a] [] []) mk 34 34 0 = 1 := due_hot (by show ((3 : Nat) : Int) * 34 < 100 * ((3 : Nat) : Int); decide)
  have h1 : stepH s Z (triL [c, b, a] [] []) mk 34 34 0 = a := by
    unfold stepH
    rw [d1]
    exact (tri_tail [c, b, a] [] []).1
  have L1 : stepL s Z (triL [c, b, a] [] []) mk 34 34 0 = triL [c, b] [] [a] := by
    unfold stepL toK
    rw [h1, actB_even ha, if_neg (by decide), tri_shift ca (by simp)]
    have : [c, b, a].erase a = [c, b] := by simp [List.erase_cons, ac.symm, ab.symm]
    rw [this]
  have M1 : stepM s Z (triL [c, b, a] [] []) mk 34 34 0 = mkOn mk a false := by unfold stepM; rw [h1]
  have d2 : dueK s Z (triL [c, b] [] [a]) (mkOn mk a false) 34 34 0 = 1 := due_hot (by show ((3 : Nat) : Int) * 34 < 100 * ((2 : Nat) : Int); decide)
  have h2 : stepH s Z (triL [c, b] [] [a]) (mkOn mk a false) 34 34 0 = b := by
    unfold stepH
    rw [d2]
    exact (tri_tail [c, b] [] [a]).1
  have L2 : stepL s Z (triL [c, b] [] [a]) (mkOn mk a false) 34 34 0 = triL [c] [] [b, a] := by
    unfold stepL toK
    rw [h2, actB_even (mkOn_even a hb), if_neg (by decide), tri_shift cb (by simp)]
    have : [c, b].erase b = [c] := by simp [List.erase_cons, bc.symm]
    rw [this]
  have M2 : stepM s Z (triL [c, b] [] [a]) (mkOn mk a false) 34 34 0 = mkOn (mkOn mk a false) b false := by unfold stepM; rw [h2]
  have d3 : dueK s Z (triL [c] [] [b, a]) (mkOn (mkOn mk a false) b false) 34 34 0 = 0 := due_none (by show ¬ ((3 : Nat) : Int) * 34 < 100 * ((1 : Nat) : Int); decide) (by show ¬ ((3 : Nat) : Int) * 34 < 100 * ((0 : Nat) : Int); decide) (mkOn_even b (mkOn_even a ha))
  rw [show (9 : Nat) = 7 + 1 + 1 from rfl, balN_yes (by rw [d1]; decide), L1, M1, balN_yes (by rw [d2]; decide), L2, M2, balN_no d3]
  exact ⟨rfl, rfl, fun K hK => mkOn_even b (mkOn_even a hK)⟩
/-- Pick of them. -/
theorem pick_three {A : Nat → Bool} {a b c : Nat} (a0 : a ≠ 0) (b0 : b ≠ 0) (c0 : c ≠ 0) (ha : A a = false) : pickN A 0 5 [a, b, c] = (a, 3) := by
  unfold pickN
  rw [if_neg (by decide)]
  simp [pickF, pickS, pickH, a0, b0, c0, ha]
end Go.Proofs.YtngehaiigbbknaaGreat.Que
/-
  The statements' world while some items enter the queue of class 0.
-/
namespace Go.Proofs.YtngehaiigbbknaaGreat.Que
open Go.RowKit Base Arena Cls Itm
set_option linter.unusedVariables false
set_option linter.unusedSectionVars false

section
variable {N : Nat} {w : World} {W : W6} {s : St} {bs : List UInt8} {Z : Nat → Option Zd} {Ls Ld : Nat → Nat → List Nat} {r : RS} {laid told act : List Nat} {mk : Nat → Nat} (h : WAt N w W qc s bs Z Ls Ld r laid told act mk) {g : Nat} (hg : W.gm = some g)
include h hg
/-- The Lru in it. -/
theorem WAt.ls : LS w W.L s bs Z W.gq W.gl Ls mk g W.hot W.warm :=
  ⟨h.q, h.mks, h.lru g hg, (fun e => absurd (h.sep .lru .set g hg (by rw [e]; exact ⟨.bytes, rfl⟩)) (by decide)), (fun e => absurd (h.sep .lru .queue g hg (.inr e)) (by decide))⟩
theorem WAt.dl {w' : World} {Ls' : Nat → Nat → List Nat} {mk' : Nat → Nat} (D : DL w w' W.L s bs Z W.gq W.gl Ls' mk' g W.hot W.warm) : ∃ bs' Z', bs'.length = bs.length ∧ (∀ H, (Z' H).isSome = (Z H).isSome) ∧ Grew qc w w' W W s s ∧ WAt N w' W qc s bs' Z' Ls' Ld r laid told act mk' := by
  obtain ⟨o, bs', Z', e1, z1, S1⟩ := D
  exact ⟨bs', Z', e1, z1, grew_turn o, h.turn o S1.q S1.m⟩
end
structure WL (N : Nat) (w0 w : World) (W : W6) (g d : Nat) (s : St) (bs : List UInt8) (Z : Nat → Option Zd) (r : RS) (laid told act : List Nat) (mk : Nat → Nat) (l : List Nat) : Prop where
  bel : Below N w0 w
  wat : WAt N w W qc s bs Z (triL l [] []) (fun _ _ => []) r laid told act mk
  row : RowI s Z told l
  rel : Rel qc.cf s r
  rm : Rm s told.length
  bs : bs.length = qc.cf.ps * qc.cf.np
  ch : r.ch.length ≤ 16384 * told.length
  la : laid.length ≤ told.length
  al : act.length ≤ told.length
  gm : W.gm = some g
  dm : W.dm = some d
  hot : W.hot = 34
  warm : W.warm = 34
  ev : ∀ H ∈ l, mk H % 2 = 0
def WLx (N : Nat) (w0 w : World) (W : W6) (g d : Nat) (told l : List Nat) : Prop := ∃ s bs Z r laid act mk, WL N w0 w W g d s bs Z r laid told act mk l
def oz : Op6 := ⟨0, 0, 0, 0, 0, false⟩
theorem oz_ok : oz.Ok := ⟨by unfold Cls.In; decide, by unfold Cls.In; decide, by unfold Cls.In; decide, by unfold Cls.In; decide, by decide⟩
section
variable {N : Nat} {w0 w : World} {W : W6} {g d : Nat} {told l : List Nat} (h : WLx N w0 w W g d told l)
include h
theorem WLx.below {w' : World} (b : Below w.heap.size w w') : WLx N w0 w' W g d told l := by
  obtain ⟨s, bs, Z, r, laid, act, mk, h⟩ := h
  exact ⟨s, bs, Z, r, laid, act, mk, h.bel.trans (b.mono h.wat.hN0), h.wat.below b, h.row, h.rel, h.rm, h.bs, h.ch, h.la, h.al, h.gm, h.dm, h.hot, h.warm, h.ev⟩
theorem WLx.cW : w.cell? ⟨W.b, 2, none⟩ = some (.pointer (some ⟨g, 0, none⟩)) ∧ w.cell? ⟨W.b, 6, none⟩ = some W.vT ∧ w.ownsRow 0 50 1 W.vT told.length (told.map uv) ∧ Below N w0 w ∧ N ≤ w.heap.size := by
  obtain ⟨s, bs, Z, r, laid, act, mk, h⟩ := h
  obtain ⟨c2, -⟩ := h.wat.cL
  rw [h.gm] at c2
  exact ⟨c2, h.wat.own.cell 6, h.wat.told, h.bel, h.wat.hN0⟩
theorem WLx.lt {H : Nat} (hH : H ∈ told) : H < 18446744073709551616 ∧ H ≠ 0 := by
  obtain ⟨s, bs, Z, r, laid, act, mk, h⟩ := h
  obtain ⟨i, x, p, hf, -⟩ := h.row.it H hH
  exact ⟨h.row.lt hH h.wat.okc h.wat.good, good_ne hf⟩
theorem WLx.nd : l.Nodup ∧ ∀ H ∈ l, H ∈ told := by
  obtain ⟨s, bs, Z, r, laid, act, mk, h⟩ := h
  exact ⟨h.row.nd, h.row.sub⟩
theorem WLx.make (ht : told.length < 60) :
    Calls Tryz.prog 42 #[.pointer (some ⟨W.b, 0, none⟩), .agg #[.int .i64 0, .int .i64 0, .int .i64 0, .int .i64 0, .int .u64 0, .bool false]] w fun e w' => e = .returned (.bool true) ∧ ∃ W' H, W'.b = W.b ∧ H ∉ told ∧ WLx N w0 w' W' g d (told ++ [H]) l := by
  obtain ⟨s, bs, Z, r, laid, act, mk, h⟩ := h
  have ok := h.wat.okc
  obtain ⟨s1, hr, hf⟩ := h.rm.room ok (by omega)
  obtain ⟨l0, p, hp⟩ := (room_good ok h.wat.good (by decide) hr).2
  obtain ⟨H0, h0⟩ : ∃ H0, H0 = hnd p (s1.gens (p / qc.cf.ps) (p % qc.cf.ps / qc.cf.sz 0)) := ⟨_, rfl⟩
  obtain ⟨hn, rw'⟩ := h.row.make ok h.wat.good hr hp h0
  have hch := h.ch
  have hla := h.la
  have hal := h.al
  refine (makesItem h.wat oz oz_ok h.rel h.bs (by omega) (by have := free_short h.wat.good ok (k := 0) (by decide); exact Nat.le_trans (Nat.add_le_add_right this _) (by decide)) (by omega) (by omega) (by omega) h.dm hr hp h0 (by decide)).mono ?_
  rintro e w' ⟨rfl, b, W', r', ⟨eb, eg, ed, eh, ew⟩, G, R', hc', bs', hb', A'⟩
  refine ⟨rfl, W', H0, eb, hn, _, _, _, _, _, _, _, h.bel.trans b, A', rw', R', ?_, hb'.trans h.bs, ?_, ?_, ?_, eg.trans h.gm, ed.trans h.dm, eh.trans h.hot, ew.trans h.warm, fun H hH => ?_⟩
  · rw [List.length_append]
    exact Rm.take hf (by omega)
  · rw [List.length_append, List.length_singleton]
    omega
  · rw [List.length_append, List.length_singleton]
    unfold laidN
    split
    · omega
    · rw [List.length_append, List.length_singleton]; omega
  · rw [List.length_append, List.length_singleton]
    unfold actN
    have := dropA_len H0 act
    rw [List.length_append]
    split
    · rw [List.length_singleton]; omega
    · simp; omega
  · rw [upd_ne _ _ (fun e => hn (by rw [← e]; exact h.row.sub H hH))]
    exact h.ev H hH
theorem WLx.enter {H : Nat} (hH : H ∈ told) (hn : H ∉ l) : Calls Tryz.prog 36 #[.pointer (some ⟨g, 0, none⟩), .int .u64 (H : Int)] w fun e w' => e = .returned (.int .i64 0) ∧ WLx N w0 w' W g d told (H :: l) := by
  obtain ⟨s, bs, Z, r, laid, act, mk, h⟩ := h
  have hP := h.row.push hH (show 0 < 3 by decide) hn false
  rw [tri_one] at hP
  have hP' : pushN qc s Z (triL l [] []) H 1 false = (0, triL (H :: l) [] []) := by
    rw [← tri_one (H :: l)]
    exact hP
  have EC := enterC (h.wat.ls h.gm) H (h.row.lt hH h.wat.okc h.wat.good)
  rw [hP'] at EC
  refine EC.mono ?_
  rintro e w' ⟨rfl, D⟩
  obtain ⟨bs', Z', e1, z1, G, A⟩ := h.wat.dl h.gm D
  refine ⟨rfl, s, bs', Z', r, laid, act, _, h.bel.trans (G.below h.wat.base h.wat.hN0), A, (h.row.add hH hn).1.z z1, h.rel, h.rm, e1.trans h.bs, h.ch, h.la, h.al, h.gm, h.dm, h.hot, h.warm, fun K hK => ?_⟩
  have em : entM mk H 0 = mkOn mk H false := rfl
  show entM mk H 0 K % 2 = 0
  rw [em]
  rcases List.mem_cons.1 hK with rfl | hK
  · unfold mkOn
    rw [upd_at]
    show 2 * (mk K / 2) % 2 = 0
    omega
  · exact mkOn_even H (h.ev K hK)
end
/-- Behind Balance. -/
theorem WLx.balance {N : Nat} {w0 w : World} {W : W6} {g d a b c : Nat} {told : List Nat} (h : WLx N w0 w W g d told [c, b, a]) :
    Calls Tryz.prog 19 #[.pointer (some ⟨g, 0, none⟩), .int .i64 0, .int .i64 9, .nilFunc] w fun e w' => e = .returned (.int .i64 2) ∧ Below N w0 w' ∧ ∃ s bs Z mk L gq gl, LS w' L s bs Z gq gl (triL [c] [] [b, a]) mk g 34 34 ∧ mk a % 2 = 0 ∧ N ≤ w'.heap.size ∧ w'.cell? ⟨W.b, 2, none⟩ = some (.pointer (some ⟨g, 0, none⟩)) ∧ w'.cell? ⟨W.b, 6, none⟩ = some W.vT ∧ w'.ownsRow 0 50 1 W.vT told.length (told.map uv) ∧ W.b < w'.heap.size := by
  obtain ⟨s, bs, Z, r, laid, act, mk, h⟩ := h
  have nd := h.row.nd
  have bc : c ≠ b := fun e => by rw [e] at nd; simp at nd
  have ac : c ≠ a := fun e => by rw [e] at nd; simp at nd
  have ab : b ≠ a := fun e => by rw [e] at nd; simp at nd
  have B := balanceC (h.wat.ls h.gm) ⟨by rw [h.hot]; decide, by rw [h.hot]; decide, by rw [h.warm]; decide, by rw [h.warm]; decide⟩ 0 9 (by unfold Cls.In; decide)
  rw [h.hot, h.warm, show ((9 : Int)).toNat = 9 from rfl] at B
  obtain ⟨b1, b2, b3⟩ := bal_three (s := s) (Z := Z) (mk := mk) (a := a) (b := b) (c := c) (h.row.cl (h.row.sub a (by simp))) (h.row.cl (h.row.sub b (by simp))) ab.symm ac.symm bc.symm (h.ev a (by simp)) (h.ev b (by simp)) (h.ev c (by simp))
  rw [b1, b2] at B
  refine B.mono ?_
  rintro e w' ⟨rfl, D⟩
  have D' := D
  rw [← h.hot, show (W.hot : Int) = W.hot from rfl] at D'
  obtain ⟨o, bs', Z', e1, z1, S1⟩ := D
  have A := h.wat.turn o S1.q S1.m
  obtain ⟨c2, -⟩ := A.cL
  rw [h.gm] at c2
  exact ⟨rfl, h.bel.trans ((grew_turn o).below h.wat.base h.wat.hN0), s, bs', Z', _, _, _, _, S1, b3 a (h.ev a (by simp)), A.hN0, c2, A.own.cell 6, A.told, A.own.lt⟩
end Go.Proofs.YtngehaiigbbknaaGreat.Que
