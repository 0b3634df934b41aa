/-
  The walk of New.
-/
import Derived.Test.YtgodinapdahocaaClassNew0
namespace Go.Proofs.Ytgodinapdahocaa.Cls
open Go.RowKit Base MapG
set_option linter.unusedVariables false

def zPage : Value := .agg #[.bool false, .bool false, .int .i64 0, .slice none 0 0, .slice none 0 0, .int .i64 0, .map none]
def zRow : Value := .agg #[.slice none 0 0, .int .i64 0, .int .i64 0, .int .i64 0]
theorem eiP : EI Try.prog 92 104 zPage 7 80 := EI.mk' Try.underlying92 (by kernel_rfl) rfl (by decide)
theorem eiR : EI Try.prog 93 97 zRow 4 48 := EI.mk' Try.underlying93 (by kernel_rfl) rfl (by decide)
theorem conf_cells {w : World} {b : Nat} {t : TypeId} {c : Conf} (h : Blk w b t c.cells) : w.cell? ⟨b, 0, none⟩ = some (.int .i64 c.ps) ∧ w.cell? ⟨b, 1, none⟩ = some (.int .i64 c.np) ∧ w.cell? ⟨b, 2, none⟩ = some (.int .i64 c.fa) ∧ w.cell? ⟨b, 3, none⟩ = some (.int .i64 c.mc) ∧
    w.cell? ⟨b, 4, none⟩ = some (.int .i64 c.il) ∧ w.cell? ⟨b, 5, none⟩ = some (.int .i64 c.hot) ∧ w.cell? ⟨b, 6, none⟩ = some (.int .i64 c.warm) := ⟨h.cell 0, h.cell 1, h.cell 2, h.cell 3, h.cell 4, h.cell 5, h.cell 6⟩
theorem Blk.below {w w' : World} {b B : Nat} {t : TypeId} {cs : Array Value} (h : Blk w b t cs) (k : Below B w w') (hb : b < B) : Blk w' b t cs := (k.block b hb).trans h
theorem refN_zero {c : Conf} (h : refN c = 0) : Right c ∧ ¬ 62 < c.nc ∧ ¬ c.np < c.nc := by
  unfold refN at h
  by_cases h1 : Right c
  · rw [if_pos h1] at h
    by_cases h2 : 62 < c.nc
    · rw [if_pos h2] at h; cases h
    · rw [if_neg h2] at h
      by_cases h3 : c.np < c.nc
      · rw [if_pos h3] at h; cases h
      · exact ⟨h1, h2, h3⟩
  · rw [if_neg h1] at h; cases h
/-- The pages, the rows and the head are made. -/
theorem made_set {w4 : World} {c : Conf} (hr : refN c = 0) {ga ha gs sc : Nat} (hA : Arena.At w4 ga ha c.cf.ps (List.replicate (c.cf.ps * c.cf.np) 0))
    (hS : Grid w4 gs 3 c.nc 1 (fun i _ => iv (c.sz i))) {w5 : World} {gp gr g : Nat} (o : Only (fun _ => False) w4 w5) (L : Lay)
    (hL : L = { g := g, ga := ga, ha := ha, gs := gs, sc := sc, gp := gp, gr := gr, G := fun _ => 0, T := fun _ => 0, F := fun _ => .slice none 0 0, O := fun _ => none })
    (h0 : Blk w5 g 95 (hv L c (new0 c.cf))) (h3 : Grid w5 gp 104 c.cf.np 7 (fun _ j => (zPage.cells[j]?).getD (.int .i64 0))) (h4 : Grid w5 gr 97 c.nc 4 (fun _ j => (zRow.cells[j]?).getD (.int .i64 0))) :
    SetAt w5 L c (new0 c.cf) (List.replicate (c.cf.ps * c.cf.np) 0) := by
  subst hL
  refine SetAt.new hr h0 ?_ (hS.only o (fun e => e)) (h3.congr fun i j _ hj => ?_) (h4.congr fun i j _ hj => ?_) (fun _ => rfl) (fun _ => rfl)
  · exact ⟨(o.block ga (heap_lt hA.head) (fun e => e)).trans hA.head, (o.block ha hA.bytes.lt (fun e => e)).trans hA.bytes, hA.pos, hA.small, hA.psmall⟩
  · obtain rfl | rfl | rfl | rfl | rfl | rfl | rfl : j = 0 ∨ j = 1 ∨ j = 2 ∨ j = 3 ∨ j = 4 ∨ j = 5 ∨ j = 6 := by omega
    all_goals rfl
  · obtain rfl | rfl | rfl | rfl : j = 0 ∨ j = 1 ∨ j = 2 ∨ j = 3 := by omega
    all_goals rfl
theorem own_grid {w : World} {N n cap g : Nat} {f : Nat → Nat} (hn : 1 ≤ n) (h : w.ownsRow N 3 1 (.slice (some ⟨g, 0, none⟩) n cap) n (((List.range n).map f).map iv)) : Grid w g 3 n 1 (fun i _ => iv (f i)) := by
  refine ⟨?_, fun i j hi hj => ?_⟩
  · rcases h.2 with ⟨hv, -⟩ | ⟨g', cap', cur, hv, -, hg, -⟩
    · cases hv
    · injection hv with e1
      injection e1 with e1
      injection e1 with e1
      subst e1
      exact ⟨cur, hg⟩
  · obtain rfl : j = 0 := by omega
    obtain ⟨g', c', hv, hc, -⟩ := own_iv (i := i) (x := f i) h (by rw [List.getElem?_map, List.getElem?_range hi]; rfl)
    injection hv with e1
    injection e1 with e1
    injection e1 with e1
    subst e1
    rw [Nat.mul_one]
    exact hc
theorem new_foot {L : Lay} {c : Conf} {B : Nat} (h0 : B ≤ L.g) (h1 : B ≤ L.ga) (h2 : B ≤ L.ha) (h3 : B ≤ L.gs) (h4 : B ≤ L.gp) (h5 : B ≤ L.gr) (hF : ∀ k, L.F k = .slice none 0 0) (hO : ∀ i, L.O i = none) : ∀ b, Foot L c (new0 c.cf) b → B ≤ b := by
  rintro b ⟨p, e⟩
  cases p with
  | head => injection e with e; subst e; exact h0
  | arena => injection e with e; subst e; exact h1
  | bytes => injection e with e; subst e; exact h2
  | sizes => injection e with e; subst e; exact h3
  | pages => injection e with e; subst e; exact h4
  | rows => injection e with e; subst e; exact h5
  | gens i => rw [Lay.blk, if_neg (fun e => by cases e.2)] at e; cases e
  | tkn i => rw [Lay.blk, if_neg (fun e => by cases e.2)] at e; cases e
  | free k =>
    by_cases hk : k < c.cf.nc
    · rw [Lay.blk, if_pos hk, hF] at e; cases e
    · rw [Lay.blk, if_neg hk] at e; cases e
  | old i =>
    by_cases hk : i < c.cf.np
    · rw [Lay.blk, if_pos hk, hO] at e; cases e
    · rw [Lay.blk, if_neg hk] at e; cases e
theorem grid_page (w : World) (n : Nat) : Grid (w.alloc (.cells (madeCells zPage.cells (n * 7)) 104)) w.heap.size 104 n 7 (fun _ j => (zPage.cells[j]?).getD (.int .i64 0)) :=
  Grid.made w 104 zPage.cells n _ fun j hj => by
    have hj : j < 7 := hj
    obtain rfl | rfl | rfl | rfl | rfl | rfl | rfl : j = 0 ∨ j = 1 ∨ j = 2 ∨ j = 3 ∨ j = 4 ∨ j = 5 ∨ j = 6 := by omega
    all_goals rfl
theorem grid_row (w : World) (n : Nat) : Grid (w.alloc (.cells (madeCells zRow.cells (n * 4)) 97)) w.heap.size 97 n 4 (fun _ j => (zRow.cells[j]?).getD (.int .i64 0)) :=
  Grid.made w 97 zRow.cells n _ fun j hj => by
    have hj : j < 4 := hj
    obtain rfl | rfl | rfl | rfl : j = 0 ∨ j = 1 ∨ j = 2 ∨ j = 3 := by omega
    all_goals rfl
theorem only_allocs (w : World) (a b c : Obj) : Only (fun _ => False) w (((w.alloc a).alloc b).alloc c).drew := ((((Only.refl _ w).alloc a).alloc b).alloc c).drew
set_option maxRecDepth 100000 in
set_option maxHeartbeats 1600000 in
theorem newC (w : World) (c : Conf) :
    Calls Try.prog 14 #[.agg c.cells] w fun e w' => Below w.heap.size w w' ∧
      ((refN c ≠ 0 ∧ e = .returned (.tuple #[.pointer none, .int .i64 (refN c)])) ∨ (refN c = 0 ∧ ∃ L, e = .returned (.tuple #[.pointer (some ⟨L.g, 0, none⟩), .int .i64 0]) ∧ SetAt w' L c (new0 c.cf) (List.replicate (c.cf.ps * c.cf.np) 0) ∧ ∀ b, Foot L c (new0 c.cf) b → w.heap.size ≤ b)) := by
  obtain ⟨w1, hw1⟩ : ∃ w1, w1 = w.alloc (.cells c.cells 27) := ⟨_, rfl⟩
  have B1 : Blk w1 w.heap.size 27 c.cells := by rw [hw1]; exact Blk.new w _ _
  have b1 : Below w.heap.size w w1 := by rw [hw1]; exact (Below.refl _ _).alloc (Nat.le_refl _) _
  have s1 : w1.heap.size = w.heap.size + 1 := by rw [hw1]; exact World.size_alloc _ _
  obtain ⟨x0, x1, x2, x3, x4, x5, x6⟩ := conf_cells B1
  have RC := Lib.hid (rightC c w1)
  have SC := Lib.hid (fun h => sizesC c h)
  unfold Conf.cells at RC SC hw1 ⊢
  replace hw1 := Lib.hid hw1
  replace B1 := Lib.hid B1
  generalize hN : w.heap.size = N at *
  replace hN := Lib.hid hN
  go_enter Try.func14, Try.ntmps14
  go_upto_region 1 with fail
  rw [hN.out, ← hw1.out]
  go_wp2_with fail
  refine RC.out.mono ?_
  rintro e w2 ⟨rfl, b2⟩
  by_cases hR : Right c
  rotate_left
  · have e1 : refN c = 1 := if_neg hR
    rw [decide_eq_false hR]
    clear hR
    replace e1 := Lib.hid e1
    replace b2 := Lib.hid b2
    replace b1 := Lib.hid b1
    go_wp2
    go_ret2
    exact ⟨b1.out.trans (b2.out.mono (by omega)), .inl ⟨by rw [e1.out]; decide, by rw [e1.out]; rfl⟩⟩
  rw [decide_eq_true hR]
  have B2 := B1.out.below b2 (by omega)
  obtain ⟨y0, y1, y2, y3, y4, y5, y6⟩ := conf_cells B2
  have S2 := Lib.hid (SC.out hR w2)
  have b12 := Lib.hid (b1.trans (b2.mono (B' := N) (by omega)))
  have s2 := b2.size
  replace B2 := Lib.hid B2
  replace hR := Lib.hid hR
  clear x0 x1 x2 x3 x4 x5 x6 RC SC b2 b1 hw1 B1
  go_wp2_with fail
  refine S2.out.mono ?_
  rintro e w3 ⟨v, rfl, own, b3⟩
  have B3 := B2.out.below b3 (by omega)
  have b13 := Lib.hid (b12.out.trans (b3.mono (B' := N) (by omega)))
  have s3 := b3.size
  obtain ⟨A, cp, rfl⟩ := own_is own
  obtain ⟨z0, z1, z2, z3, z4, z5, z6⟩ := conf_cells B3
  replace own := Lib.hid own
  replace B3 := Lib.hid B3
  clear y0 y1 y2 y3 y4 y5 y6 b12 b3 B2 S2
  by_cases h62 : 62 < c.nc
  · have d1 : decide (62 < (c.nc : Int)) = true := by simp; omega
    have d1' : decide (62 < c.nc) = true := by simp; omega
    have e2 : refN c = 2 := by unfold refN; rw [if_pos hR.out, if_pos h62]
    replace e2 := Lib.hid e2
    go_wp2
    go_ret2
    exact ⟨b13.out, .inl ⟨by rw [e2.out]; decide, by rw [e2.out]; rfl⟩⟩
  have d1 : decide (62 < (c.nc : Int)) = false := by simp; omega
  have d1' : decide (62 < c.nc) = false := by simp; omega
  by_cases hnp : c.np < c.nc
  · have d2 : decide (c.np < (c.nc : Int)) = true := by simp; omega
    have e2 : refN c = 3 := by unfold refN; rw [if_pos hR.out, if_neg h62, if_pos hnp]
    replace e2 := Lib.hid e2
    go_wp2
    go_ret2
    exact ⟨b13.out, .inl ⟨by rw [e2.out]; decide, by rw [e2.out]; rfl⟩⟩
  have d2 : decide (c.np < (c.nc : Int)) = false := by simp; omega
  have e0 : refN c = 0 := by unfold refN; rw [if_pos hR.out, if_neg h62, if_neg hnp]
  have hrp : Arena.RightPage c.cf.ps := by
    have := hR.out.ps
    rw [hR.out.psE] at this
    unfold Page9 at this
    unfold Arena.RightPage
    omega
  have n1 := hR.out.np1
  have n2 := hR.out.np2
  have npE := hR.out.npE
  have AC := Arena.newYes w3 c.cf.ps c.cf.np hrp (by omega) (by omega)
  rw [← hR.out.psE, ← hR.out.npE] at AC
  replace AC := Lib.hid AC
  replace npE := Lib.hid npE
  clear hrp
  go_wp2_with fail
  refine AC.out.mono ?_
  rintro e w4 ⟨rfl, A4, b4, s4⟩
  have B4 := B3.out.below b4 (by omega)
  obtain ⟨x0, x1, x2, x3, x4, x5, x6⟩ := conf_cells B4
  have hnc1 : 1 ≤ c.nc := (okOf e0).1.nc
  obtain ⟨gs, cp', hsl, -, hgs1, hgs2⟩ := own_iv (i := 0) own.out (by rw [List.getElem?_map, List.getElem?_range hnc1]; rfl)
  injection hsl with hA1 hA2 hA3
  subst hA1 hA3
  have mP : ∀ W : World, (Instr.makeSlice 92 (.int .i64 c.np) (.int .i64 c.np)).run Try.prog W = .ok (.slice (some ⟨W.heap.size, 0, none⟩) c.cf.np c.cf.np) (W.alloc (.cells (madeCells zPage.cells (c.cf.np * 7)) 104)) := by
    rw [npE.out]
    exact fun W => eiP.make .i64 .i64 c.cf.np c.cf.np (Nat.le_refl _) (by have := npE.out; omega) (by have := npE.out; omega) W
  have mR : ∀ W : World, (Instr.makeSlice 93 (.int .i64 (c.nc : Int)) (.int .i64 (c.nc : Int))).run Try.prog W = .ok (.slice (some ⟨W.heap.size, 0, none⟩) c.nc c.nc) (W.alloc (.cells (madeCells zRow.cells (c.nc * 4)) 97)) :=
    fun W => eiR.make .i64 .i64 c.nc c.nc (Nat.le_refl _) (by omega) (by omega) W
  generalize hP : Obj.cells (madeCells zPage.cells (c.cf.np * 7)) 104 = P at *
  generalize hQ : Obj.cells (madeCells zRow.cells (c.nc * 4)) 97 = Q at *
  replace hP := Lib.hid hP
  replace hQ := Lib.hid hQ
  replace A4 := Lib.hid A4
  have b14 := Lib.hid (b13.out.trans (b4.mono (B' := N) (by omega)))
  have y1 : ∀ o, (w4.alloc o).cell? ⟨N, 1, none⟩ = some (.int .i64 c.np) := fun o => (World.cell?_alloc_lt w4 o ⟨N, 1, none⟩ (by show N < _; omega)).trans x1
  have y0 : ∀ o, (w4.alloc o).cell? ⟨N, 0, none⟩ = some (.int .i64 c.ps) := fun o => (World.cell?_alloc_lt w4 o ⟨N, 0, none⟩ (by show N < _; omega)).trans x0
  have y2 : ∀ o, (w4.alloc o).cell? ⟨N, 2, none⟩ = some (.int .i64 c.fa) := fun o => (World.cell?_alloc_lt w4 o ⟨N, 2, none⟩ (by show N < _; omega)).trans x2
  have y3 : ∀ o, (w4.alloc o).cell? ⟨N, 3, none⟩ = some (.int .i64 c.mc) := fun o => (World.cell?_alloc_lt w4 o ⟨N, 3, none⟩ (by show N < _; omega)).trans x3
  have y4 : ∀ o, (w4.alloc o).cell? ⟨N, 4, none⟩ = some (.int .i64 c.il) := fun o => (World.cell?_alloc_lt w4 o ⟨N, 4, none⟩ (by show N < _; omega)).trans x4
  have y5 : ∀ o, (w4.alloc o).cell? ⟨N, 5, none⟩ = some (.int .i64 c.hot) := fun o => (World.cell?_alloc_lt w4 o ⟨N, 5, none⟩ (by show N < _; omega)).trans x5
  have y6 : ∀ o, (w4.alloc o).cell? ⟨N, 6, none⟩ = some (.int .i64 c.warm) := fun o => (World.cell?_alloc_lt w4 o ⟨N, 6, none⟩ (by show N < _; omega)).trans x6
  have far : ∀ (o o' : Obj) (i : Nat), ((w4.alloc o).alloc o').cell? ⟨N, i, none⟩ = (w4.alloc o).cell? ⟨N, i, none⟩ := fun o o' i => World.cell?_alloc_lt (w4.alloc o) o' ⟨N, i, none⟩ (by show N < _; rw [World.size_alloc]; omega)
  have b4' := b4.block
  clear z0 z1 z2 z3 z4 z5 z6 b13 AC b4 B3 B4
  go_upto_region 11 with fail
  have hS4 := (own_grid hnc1 own.out).kept (b4' gs hgs2)
  replace hS4 := Lib.hid hS4
  have s4' := Lib.hid s4
  have hgN : N ≤ gs := by omega
  have e0' := Lib.hid e0
  clear b4' own e0 h62 hnp
  go_region
  · obtain ⟨H, hH⟩ : ∃ H, H = Obj.cells #[.int .i64 c.ps, .int .i64 c.np, .int .i64 c.fa, .int .i64 c.mc, .int .i64 c.il, .int .i64 c.hot, .int .i64 c.warm, .pointer (some ⟨w3.heap.size + 1, 0, none⟩),
      .slice (some ⟨gs, 0, none⟩) c.nc cp, .slice (some ⟨w3.heap.size + 2, 0, none⟩) c.cf.np c.cf.np, .slice (some ⟨w3.heap.size + 2 + 1, 0, none⟩) c.nc c.nc, .int .i64 c.np] 95 := ⟨_, rfl⟩
    rw [← hH]
    obtain ⟨w5, hw5⟩ : ∃ w5, w5 = (((w4.alloc P).alloc Q).alloc H).drew := ⟨_, rfl⟩
    rw [← hw5]
    have gP := grid_page w4 c.cf.np
    rw [hP.out, s4'.out] at gP
    have gQ := grid_row (w4.alloc P) c.nc
    rw [hQ.out, World.size_alloc, s4'.out] at gQ
    have o5 : Only (fun _ => False) w4 w5 := by rw [hw5]; exact only_allocs w4 P Q H
    obtain ⟨L, hL⟩ : ∃ L, L = ({ g := w3.heap.size + 2 + 1 + 1, ga := w3.heap.size + 1, ha := w3.heap.size, gs := gs, sc := cp, gp := w3.heap.size + 2, gr := w3.heap.size + 2 + 1, G := fun _ => 0, T := fun _ => 0, F := fun _ => .slice none 0 0, O := fun _ => none } : Lay) := ⟨_, rfl⟩
    have h0 : Blk w5 (w3.heap.size + 2 + 1 + 1) 95 (hv L c (new0 c.cf)) := by
      have := Blk.new ((w4.alloc P).alloc Q) 95 (hv L c (new0 c.cf))
      rw [World.size_alloc, World.size_alloc, s4'.out] at this
      rw [hw5, hH, hL]
      rw [hL] at this
      unfold hv new0 at this
      simp only at this
      rw [← npE.out] at this
      unfold hv new0
      simp only
      rw [← npE.out]
      exact this
    have gP5 : Grid w5 (w3.heap.size + 2) 104 c.cf.np 7 _ := gP.only (w' := w5) (S := fun _ => False) (by rw [hw5]; exact (((Only.refl _ _).alloc Q).alloc H).drew) (fun e => e)
    have gQ5 : Grid w5 (w3.heap.size + 2 + 1) 97 c.nc 4 _ := gQ.only (w' := w5) (S := fun _ => False) (by rw [hw5]; exact ((Only.refl _ _).alloc H).drew) (fun e => e)
    have M := made_set e0'.out A4.out hS4.out o5 L hL h0 gP5 gQ5
    have b5 : Below N w w5 := by rw [hw5]; exact (((b14.out.alloc (by omega) P).alloc (by rw [World.size_alloc]; omega) Q).alloc (by rw [World.size_alloc, World.size_alloc]; omega) H).drew
    have fo := new_foot (L := L) (c := c) (B := N) (by rw [hL]; show N ≤ w3.heap.size + 2 + 1 + 1; omega) (by rw [hL]; show N ≤ w3.heap.size + 1; omega) (by rw [hL]; show N ≤ w3.heap.size; omega) (by rw [hL]; exact hgN) (by rw [hL]; show N ≤ w3.heap.size + 2; omega) (by rw [hL]; show N ≤ w3.heap.size + 2 + 1; omega) (by rw [hL]; exact fun _ => rfl) (by rw [hL]; exact fun _ => rfl)
    have hg : L.g = w3.heap.size + 2 + 1 + 1 := by rw [hL]
    replace hg := Lib.hid hg
    replace M := Lib.hid M
    replace b5 := Lib.hid b5
    replace fo := Lib.hid fo
    clear h0 gP5 gQ5 gP gQ o5 hw5 hH hL
    go_wp2
    go_ret2
    exact ⟨b5.out, .inr ⟨e0'.out, L, by rw [hg.out]; rfl, M.out, fo.out⟩⟩
  · obtain ⟨H, hH⟩ : ∃ H, H = Obj.cells #[.int .i64 c.ps, .int .i64 c.np, .int .i64 c.fa, .int .i64 c.mc, .int .i64 c.il, .int .i64 c.hot, .int .i64 c.warm, .pointer (some ⟨w3.heap.size + 1, 0, none⟩),
      .slice (some ⟨gs, 0, none⟩) c.nc cp, .slice (some ⟨w3.heap.size + 2 + 1, 0, none⟩) c.cf.np c.cf.np, .slice (some ⟨w3.heap.size + 2, 0, none⟩) c.nc c.nc, .int .i64 c.np] 95 := ⟨_, rfl⟩
    rw [← hH]
    obtain ⟨w5, hw5⟩ : ∃ w5, w5 = (((w4.alloc Q).alloc P).alloc H).drew := ⟨_, rfl⟩
    rw [← hw5]
    have gQ := grid_row w4 c.nc
    rw [hQ.out, s4'.out] at gQ
    have gP := grid_page (w4.alloc Q) c.cf.np
    rw [hP.out, World.size_alloc, s4'.out] at gP
    have o5 : Only (fun _ => False) w4 w5 := by rw [hw5]; exact only_allocs w4 Q P H
    obtain ⟨L, hL⟩ : ∃ L, L = ({ g := w3.heap.size + 2 + 1 + 1, ga := w3.heap.size + 1, ha := w3.heap.size, gs := gs, sc := cp, gp := w3.heap.size + 2 + 1, gr := w3.heap.size + 2, G := fun _ => 0, T := fun _ => 0, F := fun _ => .slice none 0 0, O := fun _ => none } : Lay) := ⟨_, rfl⟩
    have h0 : Blk w5 (w3.heap.size + 2 + 1 + 1) 95 (hv L c (new0 c.cf)) := by
      have := Blk.new ((w4.alloc Q).alloc P) 95 (hv L c (new0 c.cf))
      rw [World.size_alloc, World.size_alloc, s4'.out] at this
      rw [hw5, hH, hL]
      rw [hL] at this
      unfold hv new0 at this
      simp only at this
      rw [← npE.out] at this
      unfold hv new0
      simp only
      rw [← npE.out]
      exact this
    have gP5 : Grid w5 (w3.heap.size + 2 + 1) 104 c.cf.np 7 _ := gP.only (w' := w5) (S := fun _ => False) (by rw [hw5]; exact ((Only.refl _ _).alloc H).drew) (fun e => e)
    have gQ5 : Grid w5 (w3.heap.size + 2) 97 c.nc 4 _ := gQ.only (w' := w5) (S := fun _ => False) (by rw [hw5]; exact (((Only.refl _ _).alloc P).alloc H).drew) (fun e => e)
    have M := made_set e0'.out A4.out hS4.out o5 L hL h0 gP5 gQ5
    have b5 : Below N w w5 := by rw [hw5]; exact (((b14.out.alloc (by omega) Q).alloc (by rw [World.size_alloc]; omega) P).alloc (by rw [World.size_alloc, World.size_alloc]; omega) H).drew
    have fo := new_foot (L := L) (c := c) (B := N) (by rw [hL]; show N ≤ w3.heap.size + 2 + 1 + 1; omega) (by rw [hL]; show N ≤ w3.heap.size + 1; omega) (by rw [hL]; show N ≤ w3.heap.size; omega) (by rw [hL]; exact hgN) (by rw [hL]; show N ≤ w3.heap.size + 2 + 1; omega) (by rw [hL]; show N ≤ w3.heap.size + 2; omega) (by rw [hL]; exact fun _ => rfl) (by rw [hL]; exact fun _ => rfl)
    have hg : L.g = w3.heap.size + 2 + 1 + 1 := by rw [hL]
    replace hg := Lib.hid hg
    replace M := Lib.hid M
    replace b5 := Lib.hid b5
    replace fo := Lib.hid fo
    clear h0 gP5 gQ5 gP gQ o5 hw5 hH hL
    go_wp2
    go_ret2
    exact ⟨b5.out, .inr ⟨e0'.out, L, by rw [hg.out]; rfl, M.out, fo.out⟩⟩
end Go.Proofs.Ytgodinapdahocaa.Cls
