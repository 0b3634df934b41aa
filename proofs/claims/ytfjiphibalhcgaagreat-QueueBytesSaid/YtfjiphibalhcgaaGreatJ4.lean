/-
  Contracts and lemmas, joined: ClassNew, ClassRefNew, ClassBegun, ClassFind, ClassTold, ClassWiden2, ClassTake, ClassGive.
-/
import Derived.Deep.QuietTactic
import Derived.Test.YtfjiphibalhcgaaGreatJ2
import Derived.Test.YtfjiphibalhcgaaGreatJ3
set_option linter.unusedSimpArgs false
set_option linter.unusedVariables false
/-
  The walk of New.
-/
namespace Go.Proofs.YtfjiphibalhcgaaGreat.Cls
open Go.RowKit Base MapG
set_option linter.unusedVariables false

def zPage : Value := .agg #[.bool false, .bool false, .int .i64 0, .slice none 0 0, .slice none 0 0, .int .i64 0, .map none]
def zRow : Value := .agg #[.slice none 0 0, .int .i64 0, .int .i64 0, .int .i64 0]
theorem eiP : EI Tryz.prog 145 162 zPage 7 80 := EI.mk' Tryz.underlying145 (by kernel_rfl) rfl (by decide)
theorem eiR : EI Tryz.prog 146 157 zRow 4 48 := EI.mk' Tryz.underlying146 (by kernel_rfl) rfl (by decide)
theorem conf_cells {w : World} {b : Nat} {t : TypeId} {c : Conf} (h : Blk w b t c.cells) : w.cell? ⟨b, 0, none⟩ = some (.int .i64 c.ps) ∧ w.cell? ⟨b, 1, none⟩ = some (.int .i64 c.np) ∧ w.cell? ⟨b, 2, none⟩ = some (.int .i64 c.fa) ∧ w.cell? ⟨b, 3, none⟩ = some (.int .i64 c.mc) ∧
    w.cell? ⟨b, 4, none⟩ = some (.int .i64 c.il) ∧ w.cell? ⟨b, 5, none⟩ = some (.int .i64 c.hot) ∧ w.cell? ⟨b, 6, none⟩ = some (.int .i64 c.warm) := ⟨h.cell 0, h.cell 1, h.cell 2, h.cell 3, h.cell 4, h.cell 5, h.cell 6⟩
theorem Blk.below {w w' : World} {b B : Nat} {t : TypeId} {cs : Array Value} (h : Blk w b t cs) (k : Below B w w') (hb : b < B) : Blk w' b t cs := (k.block b hb).trans h
theorem refN_zero {c : Conf} (h : refN c = 0) : Right c ∧ ¬ 62 < c.nc ∧ ¬ c.np < c.nc := by
  unfold refN at h
  by_cases h1 : Right c
  · rw [if_pos h1] at h
    by_cases h2 : 62 < c.nc
    · rw [if_pos h2] at h; cases h
    · rw [if_neg h2] at h
      by_cases h3 : c.np < c.nc
      · rw [if_pos h3] at h; cases h
      · exact ⟨h1, h2, h3⟩
  · rw [if_neg h1] at h; cases h
/-- The pages, the rows and the head are made. -/
theorem made_set {w4 : World} {c : Conf} (hr : refN c = 0) {ga ha gs sc : Nat} (hA : Arena.At w4 ga ha c.cf.ps (List.replicate (c.cf.ps * c.cf.np) 0))
    (hS : Grid w4 gs 3 c.nc 1 (fun i _ => iv (c.sz i))) {w5 : World} {gp gr g : Nat} (o : Only (fun _ => False) w4 w5) (L : Lay)
    (hL : L = { g := g, ga := ga, ha := ha, gs := gs, sc := sc, gp := gp, gr := gr, G := fun _ => 0, T := fun _ => 0, F := fun _ => .slice none 0 0, O := fun _ => none })
    (h0 : Blk w5 g 148 (hv L c (new0 c.cf))) (h3 : Grid w5 gp 162 c.cf.np 7 (fun _ j => (zPage.cells[j]?).getD (.int .i64 0))) (h4 : Grid w5 gr 157 c.nc 4 (fun _ j => (zRow.cells[j]?).getD (.int .i64 0))) :
    SetAt w5 L c (new0 c.cf) (List.replicate (c.cf.ps * c.cf.np) 0) := by
  subst hL
  refine SetAt.new hr h0 ?_ (hS.only o (fun e => e)) (h3.congr fun i j _ hj => ?_) (h4.congr fun i j _ hj => ?_) (fun _ => rfl) (fun _ => rfl)
  · exact ⟨(o.block ga (heap_lt hA.head) (fun e => e)).trans hA.head, (o.block ha hA.bytes.lt (fun e => e)).trans hA.bytes, hA.pos, hA.small, hA.psmall⟩
  · obtain rfl | rfl | rfl | rfl | rfl | rfl | rfl : j = 0 ∨ j = 1 ∨ j = 2 ∨ j = 3 ∨ j = 4 ∨ j = 5 ∨ j = 6 := by omega
    all_goals rfl
  · obtain rfl | rfl | rfl | rfl : j = 0 ∨ j = 1 ∨ j = 2 ∨ j = 3 := by omega
    all_goals rfl
theorem own_grid {w : World} {N n cap g : Nat} {f : Nat → Nat} (hn : 1 ≤ n) (h : w.ownsRow N 3 1 (.slice (some ⟨g, 0, none⟩) n cap) n (((List.range n).map f).map iv)) : Grid w g 3 n 1 (fun i _ => iv (f i)) := by
  refine ⟨?_, fun i j hi hj => ?_⟩
  · rcases h.2 with ⟨hv, -⟩ | ⟨g', cap', cur, hv, -, hg, -⟩
    · cases hv
    · injection hv with e1
      injection e1 with e1
      injection e1 with e1
      subst e1
      exact ⟨cur, hg⟩
  · obtain rfl : j = 0 := by omega
    obtain ⟨g', c', hv, hc, -⟩ := own_iv (i := i) (x := f i) h (by rw [List.getElem?_map, List.getElem?_range hi]; rfl)
    injection hv with e1
    injection e1 with e1
    injection e1 with e1
    subst e1
    rw [Nat.mul_one]
    exact hc
theorem new_foot {L : Lay} {c : Conf} {B : Nat} (h0 : B ≤ L.g) (h1 : B ≤ L.ga) (h2 : B ≤ L.ha) (h3 : B ≤ L.gs) (h4 : B ≤ L.gp) (h5 : B ≤ L.gr) (hF : ∀ k, L.F k = .slice none 0 0) (hO : ∀ i, L.O i = none) : ∀ b, Foot L c (new0 c.cf) b → B ≤ b := by
  rintro b ⟨p, e⟩
  cases p with
  | head => injection e with e; subst e; exact h0
  | arena => injection e with e; subst e; exact h1
  | bytes => injection e with e; subst e; exact h2
  | sizes => injection e with e; subst e; exact h3
  | pages => injection e with e; subst e; exact h4
  | rows => injection e with e; subst e; exact h5
  | gens i => rw [Lay.blk, if_neg (fun e => by cases e.2)] at e; cases e
  | tkn i => rw [Lay.blk, if_neg (fun e => by cases e.2)] at e; cases e
  | free k =>
    by_cases hk : k < c.cf.nc
    · rw [Lay.blk, if_pos hk, hF] at e; cases e
    · rw [Lay.blk, if_neg hk] at e; cases e
  | old i =>
    by_cases hk : i < c.cf.np
    · rw [Lay.blk, if_pos hk, hO] at e; cases e
    · rw [Lay.blk, if_neg hk] at e; cases e
theorem grid_page (w : World) (n : Nat) : Grid (w.alloc (.cells (madeCells zPage.cells (n * 7)) 162)) w.heap.size 162 n 7 (fun _ j => (zPage.cells[j]?).getD (.int .i64 0)) :=
  Grid.made w 162 zPage.cells n _ fun j hj => by
    have hj : j < 7 := hj
    obtain rfl | rfl | rfl | rfl | rfl | rfl | rfl : j = 0 ∨ j = 1 ∨ j = 2 ∨ j = 3 ∨ j = 4 ∨ j = 5 ∨ j = 6 := by omega
    all_goals rfl
theorem grid_row (w : World) (n : Nat) : Grid (w.alloc (.cells (madeCells zRow.cells (n * 4)) 157)) w.heap.size 157 n 4 (fun _ j => (zRow.cells[j]?).getD (.int .i64 0)) :=
  Grid.made w 157 zRow.cells n _ fun j hj => by
    have hj : j < 4 := hj
    obtain rfl | rfl | rfl | rfl : j = 0 ∨ j = 1 ∨ j = 2 ∨ j = 3 := by omega
    all_goals rfl
theorem only_allocs (w : World) (a b c : Obj) : Only (fun _ => False) w (((w.alloc a).alloc b).alloc c).drew := ((((Only.refl _ w).alloc a).alloc b).alloc c).drew
set_option maxRecDepth 100000 in
set_option maxHeartbeats 1600000 in
theorem newC (w : World) (c : Conf) :
    Calls Tryz.prog 44 #[.agg c.cells] w fun e w' => Below w.heap.size w w' ∧
      ((refN c ≠ 0 ∧ e = .returned (.tuple #[.pointer none, .int .i64 (refN c)])) ∨ (refN c = 0 ∧ ∃ L, e = .returned (.tuple #[.pointer (some ⟨L.g, 0, none⟩), .int .i64 0]) ∧ SetAt w' L c (new0 c.cf) (List.replicate (c.cf.ps * c.cf.np) 0) ∧ ∀ b, Foot L c (new0 c.cf) b → w.heap.size ≤ b)) := by
  obtain ⟨w1, hw1⟩ : ∃ w1, w1 = w.alloc (.cells c.cells 79) := ⟨_, rfl⟩
  have B1 : Blk w1 w.heap.size 79 c.cells := by rw [hw1]; exact Blk.new w _ _
  have b1 : Below w.heap.size w w1 := by rw [hw1]; exact (Below.refl _ _).alloc (Nat.le_refl _) _
  have s1 : w1.heap.size = w.heap.size + 1 := by rw [hw1]; exact World.size_alloc _ _
  obtain ⟨x0, x1, x2, x3, x4, x5, x6⟩ := conf_cells B1
  have RC := Lib.hid (rightC c w1)
  have SC := Lib.hid (fun h => sizesC c h)
  unfold Conf.cells at RC SC hw1 ⊢
  replace hw1 := Lib.hid hw1
  replace B1 := Lib.hid B1
  generalize hN : w.heap.size = N at *
  replace hN := Lib.hid hN
  go_enter Tryz.func44, Tryz.ntmps44
  go_upto_region 1 with fail
  rw [hN.out, ← hw1.out]
  go_wp2_with fail
  refine RC.out.mono ?_
  rintro e w2 ⟨rfl, b2⟩
  by_cases hR : Right c
  rotate_left
  · have e1 : refN c = 1 := if_neg hR
    rw [decide_eq_false hR]
    clear hR
    replace e1 := Lib.hid e1
    replace b2 := Lib.hid b2
    replace b1 := Lib.hid b1
    go_wp2
    go_ret2
    exact ⟨b1.out.trans (b2.out.mono (by omega)), .inl ⟨by rw [e1.out]; decide, by rw [e1.out]; rfl⟩⟩
  rw [decide_eq_true hR]
  have B2 := B1.out.below b2 (by omega)
  obtain ⟨y0, y1, y2, y3, y4, y5, y6⟩ := conf_cells B2
  have S2 := Lib.hid (SC.out hR w2)
  have b12 := Lib.hid (b1.trans (b2.mono (B' := N) (by omega)))
  have s2 := b2.size
  replace B2 := Lib.hid B2
  replace hR := Lib.hid hR
  clear x0 x1 x2 x3 x4 x5 x6 RC SC b2 b1 hw1 B1
  go_wp2_with fail
  refine S2.out.mono ?_
  rintro e w3 ⟨v, rfl, own, b3⟩
  have B3 := B2.out.below b3 (by omega)
  have b13 := Lib.hid (b12.out.trans (b3.mono (B' := N) (by omega)))
  have s3 := b3.size
  obtain ⟨A, cp, rfl⟩ := own_is own
  obtain ⟨z0, z1, z2, z3, z4, z5, z6⟩ := conf_cells B3
  replace own := Lib.hid own
  replace B3 := Lib.hid B3
  clear y0 y1 y2 y3 y4 y5 y6 b12 b3 B2 S2
  by_cases h62 : 62 < c.nc
  · have d1 : decide (62 < (c.nc : Int)) = true := by simp; omega
    have d1' : decide (62 < c.nc) = true := by simp; omega
    have e2 : refN c = 2 := by unfold refN; rw [if_pos hR.out, if_pos h62]
    replace e2 := Lib.hid e2
    go_wp2
    go_ret2
    exact ⟨b13.out, .inl ⟨by rw [e2.out]; decide, by rw [e2.out]; rfl⟩⟩
  have d1 : decide (62 < (c.nc : Int)) = false := by simp; omega
  have d1' : decide (62 < c.nc) = false := by simp; omega
  by_cases hnp : c.np < c.nc
  · have d2 : decide (c.np < (c.nc : Int)) = true := by simp; omega
    have e2 : refN c = 3 := by unfold refN; rw [if_pos hR.out, if_neg h62, if_pos hnp]
    replace e2 := Lib.hid e2
    go_wp2
    go_ret2
    exact ⟨b13.out, .inl ⟨by rw [e2.out]; decide, by rw [e2.out]; rfl⟩⟩
  have d2 : decide (c.np < (c.nc : Int)) = false := by simp; omega
  have e0 : refN c = 0 := by unfold refN; rw [if_pos hR.out, if_neg h62, if_neg hnp]
  have hrp : Arena.RightPage c.cf.ps := by
    have := hR.out.ps
    rw [hR.out.psE] at this
    unfold Page9 at this
    unfold Arena.RightPage
    omega
  have n1 := hR.out.np1
  have n2 := hR.out.np2
  have npE := hR.out.npE
  have AC := Arena.newYes w3 c.cf.ps c.cf.np hrp (by omega) (by omega)
  rw [← hR.out.psE, ← hR.out.npE] at AC
  replace AC := Lib.hid AC
  replace npE := Lib.hid npE
  clear hrp
  go_wp2_with fail
  refine AC.out.mono ?_
  rintro e w4 ⟨rfl, A4, b4, s4⟩
  have B4 := B3.out.below b4 (by omega)
  obtain ⟨x0, x1, x2, x3, x4, x5, x6⟩ := conf_cells B4
  have hnc1 : 1 ≤ c.nc := (okOf e0).1.nc
  obtain ⟨gs, cp', hsl, -, hgs1, hgs2⟩ := own_iv (i := 0) own.out (by rw [List.getElem?_map, List.getElem?_range hnc1]; rfl)
  injection hsl with hA1 hA2 hA3
  subst hA1 hA3
  have mP : ∀ W : World, (Instr.makeSlice 145 (.int .i64 c.np) (.int .i64 c.np)).run Tryz.prog W = .ok (.slice (some ⟨W.heap.size, 0, none⟩) c.cf.np c.cf.np) (W.alloc (.cells (madeCells zPage.cells (c.cf.np * 7)) 162)) := by
    rw [npE.out]
    exact fun W => eiP.make .i64 .i64 c.cf.np c.cf.np (Nat.le_refl _) (by have := npE.out; omega) (by have := npE.out; omega) W
  have mR : ∀ W : World, (Instr.makeSlice 146 (.int .i64 (c.nc : Int)) (.int .i64 (c.nc : Int))).run Tryz.prog W = .ok (.slice (some ⟨W.heap.size, 0, none⟩) c.nc c.nc) (W.alloc (.cells (madeCells zRow.cells (c.nc * 4)) 157)) :=
    fun W => eiR.make .i64 .i64 c.nc c.nc (Nat.le_refl _) (by omega) (by omega) W
  generalize hP : Obj.cells (madeCells zPage.cells (c.cf.np * 7)) 162 = P at *
  generalize hQ : Obj.cells (madeCells zRow.cells (c.nc * 4)) 157 = Q at *
  replace hP := Lib.hid hP
  replace hQ := Lib.hid hQ
  replace A4 := Lib.hid A4
  have b14 := Lib.hid (b13.out.trans (b4.mono (B' := N) (by omega)))
  have y1 : ∀ o, (w4.alloc o).cell? ⟨N, 1, none⟩ = some (.int .i64 c.np) := fun o => (World.cell?_alloc_lt w4 o ⟨N, 1, none⟩ (by show N < _; omega)).trans x1
  have y0 : ∀ o, (w4.alloc o).cell? ⟨N, 0, none⟩ = some (.int .i64 c.ps) := fun o => (World.cell?_alloc_lt w4 o ⟨N, 0, none⟩ (by show N < _; omega)).trans x0
  have y2 : ∀ o, (w4.alloc o).cell? ⟨N, 2, none⟩ = some (.int .i64 c.fa) := fun o => (World.cell?_alloc_lt w4 o ⟨N, 2, none⟩ (by show N < _; omega)).trans x2
  have y3 : ∀ o, (w4.alloc o).cell? ⟨N, 3, none⟩ = some (.int .i64 c.mc) := fun o => (World.cell?_alloc_lt w4 o ⟨N, 3, none⟩ (by show N < _; omega)).trans x3
  have y4 : ∀ o, (w4.alloc o).cell? ⟨N, 4, none⟩ = some (.int .i64 c.il) := fun o => (World.cell?_alloc_lt w4 o ⟨N, 4, none⟩ (by show N < _; omega)).trans x4
  have y5 : ∀ o, (w4.alloc o).cell? ⟨N, 5, none⟩ = some (.int .i64 c.hot) := fun o => (World.cell?_alloc_lt w4 o ⟨N, 5, none⟩ (by show N < _; omega)).trans x5
  have y6 : ∀ o, (w4.alloc o).cell? ⟨N, 6, none⟩ = some (.int .i64 c.warm) := fun o => (World.cell?_alloc_lt w4 o ⟨N, 6, none⟩ (by show N < _; omega)).trans x6
  have far : ∀ (o o' : Obj) (i : Nat), ((w4.alloc o).alloc o').cell? ⟨N, i, none⟩ = (w4.alloc o).cell? ⟨N, i, none⟩ := fun o o' i => World.cell?_alloc_lt (w4.alloc o) o' ⟨N, i, none⟩ (by show N < _; rw [World.size_alloc]; omega)
  have b4' := b4.block
  clear z0 z1 z2 z3 z4 z5 z6 b13 AC b4 B3 B4
  go_upto_region 11 with fail
  have hS4 := (own_grid hnc1 own.out).kept (b4' gs hgs2)
  replace hS4 := Lib.hid hS4
  have s4' := Lib.hid s4
  have hgN : N ≤ gs := by omega
  have e0' := Lib.hid e0
  clear b4' own e0 h62 hnp
  go_region
  · obtain ⟨H, hH⟩ : ∃ H, H = Obj.cells #[.int .i64 c.ps, .int .i64 c.np, .int .i64 c.fa, .int .i64 c.mc, .int .i64 c.il, .int .i64 c.hot, .int .i64 c.warm, .pointer (some ⟨w3.heap.size + 1, 0, none⟩),
      .slice (some ⟨gs, 0, none⟩) c.nc cp, .slice (some ⟨w3.heap.size + 2, 0, none⟩) c.cf.np c.cf.np, .slice (some ⟨w3.heap.size + 2 + 1, 0, none⟩) c.nc c.nc, .int .i64 c.np] 148 := ⟨_, rfl⟩
    rw [← hH]
    obtain ⟨w5, hw5⟩ : ∃ w5, w5 = (((w4.alloc P).alloc Q).alloc H).drew := ⟨_, rfl⟩
    rw [← hw5]
    have gP := grid_page w4 c.cf.np
    rw [hP.out, s4'.out] at gP
    have gQ := grid_row (w4.alloc P) c.nc
    rw [hQ.out, World.size_alloc, s4'.out] at gQ
    have o5 : Only (fun _ => False) w4 w5 := by rw [hw5]; exact only_allocs w4 P Q H
    obtain ⟨L, hL⟩ : ∃ L, L = ({ g := w3.heap.size + 2 + 1 + 1, ga := w3.heap.size + 1, ha := w3.heap.size, gs := gs, sc := cp, gp := w3.heap.size + 2, gr := w3.heap.size + 2 + 1, G := fun _ => 0, T := fun _ => 0, F := fun _ => .slice none 0 0, O := fun _ => none } : Lay) := ⟨_, rfl⟩
    have h0 : Blk w5 (w3.heap.size + 2 + 1 + 1) 148 (hv L c (new0 c.cf)) := by
      have := Blk.new ((w4.alloc P).alloc Q) 148 (hv L c (new0 c.cf))
      rw [World.size_alloc, World.size_alloc, s4'.out] at this
      rw [hw5, hH, hL]
      rw [hL] at this
      unfold hv new0 at this
      simp only at this
      rw [← npE.out] at this
      unfold hv new0
      simp only
      rw [← npE.out]
      exact this
    have gP5 : Grid w5 (w3.heap.size + 2) 162 c.cf.np 7 _ := gP.only (w' := w5) (S := fun _ => False) (by rw [hw5]; exact (((Only.refl _ _).alloc Q).alloc H).drew) (fun e => e)
    have gQ5 : Grid w5 (w3.heap.size + 2 + 1) 157 c.nc 4 _ := gQ.only (w' := w5) (S := fun _ => False) (by rw [hw5]; exact ((Only.refl _ _).alloc H).drew) (fun e => e)
    have M := made_set e0'.out A4.out hS4.out o5 L hL h0 gP5 gQ5
    have b5 : Below N w w5 := by rw [hw5]; exact (((b14.out.alloc (by omega) P).alloc (by rw [World.size_alloc]; omega) Q).alloc (by rw [World.size_alloc, World.size_alloc]; omega) H).drew
    have fo := new_foot (L := L) (c := c) (B := N) (by rw [hL]; show N ≤ w3.heap.size + 2 + 1 + 1; omega) (by rw [hL]; show N ≤ w3.heap.size + 1; omega) (by rw [hL]; show N ≤ w3.heap.size; omega) (by rw [hL]; exact hgN) (by rw [hL]; show N ≤ w3.heap.size + 2; omega) (by rw [hL]; show N ≤ w3.heap.size + 2 + 1; omega) (by rw [hL]; exact fun _ => rfl) (by rw [hL]; exact fun _ => rfl)
    have hg : L.g = w3.heap.size + 2 + 1 + 1 := by rw [hL]
    replace hg := Lib.hid hg
    replace M := Lib.hid M
    replace b5 := Lib.hid b5
    replace fo := Lib.hid fo
    clear h0 gP5 gQ5 gP gQ o5 hw5 hH hL
    go_wp2
    go_ret2
    exact ⟨b5.out, .inr ⟨e0'.out, L, by rw [hg.out]; rfl, M.out, fo.out⟩⟩
  · obtain ⟨H, hH⟩ : ∃ H, H = Obj.cells #[.int .i64 c.ps, .int .i64 c.np, .int .i64 c.fa, .int .i64 c.mc, .int .i64 c.il, .int .i64 c.hot, .int .i64 c.warm, .pointer (some ⟨w3.heap.size + 1, 0, none⟩),
      .slice (some ⟨gs, 0, none⟩) c.nc cp, .slice (some ⟨w3.heap.size + 2 + 1, 0, none⟩) c.cf.np c.cf.np, .slice (some ⟨w3.heap.size + 2, 0, none⟩) c.nc c.nc, .int .i64 c.np] 148 := ⟨_, rfl⟩
    rw [← hH]
    obtain ⟨w5, hw5⟩ : ∃ w5, w5 = (((w4.alloc Q).alloc P).alloc H).drew := ⟨_, rfl⟩
    rw [← hw5]
    have gQ := grid_row w4 c.nc
    rw [hQ.out, s4'.out] at gQ
    have gP := grid_page (w4.alloc Q) c.cf.np
    rw [hP.out, World.size_alloc, s4'.out] at gP
    have o5 : Only (fun _ => False) w4 w5 := by rw [hw5]; exact only_allocs w4 Q P H
    obtain ⟨L, hL⟩ : ∃ L, L = ({ g := w3.heap.size + 2 + 1 + 1, ga := w3.heap.size + 1, ha := w3.heap.size, gs := gs, sc := cp, gp := w3.heap.size + 2 + 1, gr := w3.heap.size + 2, G := fun _ => 0, T := fun _ => 0, F := fun _ => .slice none 0 0, O := fun _ => none } : Lay) := ⟨_, rfl⟩
    have h0 : Blk w5 (w3.heap.size + 2 + 1 + 1) 148 (hv L c (new0 c.cf)) := by
      have := Blk.new ((w4.alloc Q).alloc P) 148 (hv L c (new0 c.cf))
      rw [World.size_alloc, World.size_alloc, s4'.out] at this
      rw [hw5, hH, hL]
      rw [hL] at this
      unfold hv new0 at this
      simp only at this
      rw [← npE.out] at this
      unfold hv new0
      simp only
      rw [← npE.out]
      exact this
    have gP5 : Grid w5 (w3.heap.size + 2 + 1) 162 c.cf.np 7 _ := gP.only (w' := w5) (S := fun _ => False) (by rw [hw5]; exact ((Only.refl _ _).alloc H).drew) (fun e => e)
    have gQ5 : Grid w5 (w3.heap.size + 2) 157 c.nc 4 _ := gQ.only (w' := w5) (S := fun _ => False) (by rw [hw5]; exact (((Only.refl _ _).alloc P).alloc H).drew) (fun e => e)
    have M := made_set e0'.out A4.out hS4.out o5 L hL h0 gP5 gQ5
    have b5 : Below N w w5 := by rw [hw5]; exact (((b14.out.alloc (by omega) Q).alloc (by rw [World.size_alloc]; omega) P).alloc (by rw [World.size_alloc, World.size_alloc]; omega) H).drew
    have fo := new_foot (L := L) (c := c) (B := N) (by rw [hL]; show N ≤ w3.heap.size + 2 + 1 + 1; omega) (by rw [hL]; show N ≤ w3.heap.size + 1; omega) (by rw [hL]; show N ≤ w3.heap.size; omega) (by rw [hL]; exact hgN) (by rw [hL]; show N ≤ w3.heap.size + 2 + 1; omega) (by rw [hL]; show N ≤ w3.heap.size + 2; omega) (by rw [hL]; exact fun _ => rfl) (by rw [hL]; exact fun _ => rfl)
    have hg : L.g = w3.heap.size + 2 + 1 + 1 := by rw [hL]
    replace hg := Lib.hid hg
    replace M := Lib.hid M
    replace b5 := Lib.hid b5
    replace fo := Lib.hid fo
    clear h0 gP5 gQ5 gP gQ o5 hw5 hH hL
    go_wp2
    go_ret2
    exact ⟨b5.out, .inr ⟨e0'.out, L, by rw [hg.out]; rfl, M.out, fo.out⟩⟩
end Go.Proofs.YtfjiphibalhcgaaGreat.Cls
/-
  The walk of the document's New.
-/
namespace Go.Proofs.YtfjiphibalhcgaaGreat.Cls
open Go.RowKit Base MapG
set_option linter.unusedVariables false

theorem eiII : EI Tryz.prog 152 55 (.slice none 0 0) 1 24 := EI.mk' Tryz.underlying152 (by kernel_rfl) rfl (by decide)
def rset (c : Conf) (vS vO vG vC vR : Value) : Array Value := #[.int .i64 c.ps, .int .i64 c.np, .int .i64 c.fa, .int .i64 c.mc, .int .i64 c.il, vS, vO, vG, vC, vR]
theorem rconf_cells {w : World} {b : Nat} {t : TypeId} {c : Conf} (h : Blk w b t c.rcells) : w.cell? ⟨b, 0, none⟩ = some (.int .i64 c.ps) ∧ w.cell? ⟨b, 1, none⟩ = some (.int .i64 c.np) ∧ w.cell? ⟨b, 2, none⟩ = some (.int .i64 c.fa) ∧ w.cell? ⟨b, 3, none⟩ = some (.int .i64 c.mc) ∧
    w.cell? ⟨b, 4, none⟩ = some (.int .i64 c.il) := ⟨h.cell 0, h.cell 1, h.cell 2, h.cell 3, h.cell 4⟩
theorem reads_v (w : World) (v : Value) (e : TypeId) : Reads (w.alloc (.cells #[v] e)) (w.heap.size + 1) 1 (some ⟨w.heap.size, 0, none⟩) 1 [v] :=
  ⟨rfl, fun _ => ⟨_, rfl, Nat.lt_succ_self _, fun j u hj => by
    rw [add_explicit, Nat.zero_add, cell_of_row (w.alloc _) w.heap.size j _ e (0, 0) (heap_alloc_new w _)]
    simpa using hj⟩⟩
/-- The document's Set, its pages and rows at work. -/
structure RAt (w : World) (N b : Nat) (c : Conf) (i j : Nat) : Prop where
  lt : N ≤ b
  parts : ∃ vS A cp A' cp' A2 cp2, Blk w b 154 (rset c vS (.slice A i cp) (.slice A' i cp') (.slice none 0 0) (.slice A2 j cp2)) ∧ w.ownsRow N 3 1 vS c.nc (((List.range c.nc).map c.sz).map iv) ∧
    (∀ k, vS.ownBlock = some k → k < b) ∧ w.ownsRow (b + 1) 3 1 (.slice A i cp) i (List.replicate i (.int .i64 (-1))) ∧ w.ownsRow (b + 1) 4 1 (.slice A' i cp') i (List.replicate i (.bool false)) ∧
    w.ownsRow (b + 1) 55 1 (.slice A2 j cp2) j (List.replicate j (.slice none 0 0))
theorem own_base {w : World} {N n : Nat} {e : TypeId} {v : Value} {xs : List Value} {b : Nat} (h : w.ownsRow N e 1 v n xs) (hb : v.ownBlock = some b) : N ≤ b := by
  rcases h.2 with ⟨rfl, _⟩ | ⟨g, cap, cur, rfl, hB, hg, _⟩
  · cases hb
  · have : g = b := by simpa [Value.ownBlock] using hb
    omega
theorem own_ne {w : World} {N n M m : Nat} {e e' : TypeId} {v v' : Value} {xs ys : List Value} {b : Nat} (h : w.ownsRow N e 1 v n xs) (h' : w.ownsRow M e' 1 v' m ys) (he : e ≠ e') (hb : v.ownBlock = some b) (hb' : v'.ownBlock = some b) : False := by
  rcases h.2 with ⟨rfl, _⟩ | ⟨g, cap, cur, rfl, _, hg, _⟩
  · cases hb
  rcases h'.2 with ⟨rfl, _⟩ | ⟨g', cap', cur', rfl, _, hg', _⟩
  · cases hb'
  have e1 : g = b := by simpa [Value.ownBlock] using hb
  have e2 : g' = b := by simpa [Value.ownBlock] using hb'
  subst e1 e2
  rw [hg] at hg'
  injection hg' with h1
  injection h1 with _ h2
  exact he h2
theorem kept_row {w w' : World} {N n : Nat} {e : TypeId} {v : Value} {xs : List Value} {S : Nat → Prop} (o : Only S w w') (h : w.ownsRow N e 1 v n xs) (hne : ∀ k, v.ownBlock = some k → ¬ S k) : w'.ownsRow N e 1 v n xs :=
  own_kept h fun k e => o.block k (own_block h e) (hne k e)
theorem own_nil (w : World) (N : Nat) (e : TypeId) : w.ownsRow N e 1 (.slice none 0 0) 0 [] := ⟨rfl, .inl ⟨rfl, rfl⟩⟩
theorem rat_new {w3 : World} {N M : Nat} {c : Conf} {A : Option Addr} {cp : Nat} (hM : N ≤ M) (h3 : M ≤ w3.heap.size) (own : w3.ownsRow M 3 1 (.slice A c.nc cp) c.nc (((List.range c.nc).map c.sz).map iv)) :
    RAt (w3.alloc (.cells (rset c (.slice A c.nc cp) (.slice none 0 0) (.slice none 0 0) (.slice none 0 0) (.slice none 0 0)) 154)) N w3.heap.size c 0 0 :=
  ⟨by omega, _, none, 0, none, 0, none, 0, Blk.new w3 _ _, (own_weak own hM).alloc _, fun k e => own_block own e, own_nil _ _ _, own_nil _ _ _, own_nil _ _ _⟩
/-- A row of the document's Set is longer by one. -/
theorem grown_row {w w6 : World} {N b i n : Nat} {e t : TypeId} {cs : Array Value} {v v6 x : Value} {o : Obj} (hb : N ≤ b) (B : Blk w b t cs) (own : w.ownsRow (b + 1) e 1 v n (List.replicate n x)) (hg : (w.alloc o).grownBy w6 v.ownBlock)
    (own6 : w6.ownsRow (b + 1) e 1 v6 (n + 1) (List.replicate n x ++ [x])) : Only (fun k => v.ownBlock = some k) w w6 ∧ Blk w6 b t cs ∧ Blk (w6.setCell ⟨b, i, none⟩ v6) b t (cs.setIfInBounds i v6) ∧ (w6.setCell ⟨b, i, none⟩ v6).ownsRow (b + 1) e 1 v6 (n + 1) (List.replicate (n + 1) x) ∧
      Only (fun k => k = b ∨ v.ownBlock = some k) w (w6.setCell ⟨b, i, none⟩ v6) ∧ ∀ {B0 : Nat} {w0 : World}, B0 ≤ b → Below B0 w0 w → Below B0 w0 (w6.setCell ⟨b, i, none⟩ v6) := by
  have o6 : Only (fun k => v.ownBlock = some k) w w6 := ((Only.refl _ w).alloc _).grown hg (fun k e _ => e)
  have B6 : Blk w6 b t cs := (o6.block b B.lt (fun e => by have := own_base own e; omega)).trans B
  refine ⟨o6, B6, B6.set_ i v6, ?_, (o6.mono fun k _ h => .inr h).setCell (fun _ => .inl rfl) v6, fun {B0 w0} h0 h1 => ?_⟩
  · have e6 : List.replicate (n + 1) x = List.replicate n x ++ [x] := List.replicate_succ'
    rw [e6]
    refine own_kept own6 fun k ek => Below.heap_setCell w6 _ v6 k fun hk => ?_
    have := own_base own6 ek
    have hk' : k = b := hk
    omega
  · have hsz := h1.size
    have hlt := B.lt
    exact ((h1.alloc (by omega) o).grown hg (by rw [World.size_alloc]; omega) (fun k e => by have := own_base own e; omega)).setCell h0 v6
set_option maxRecDepth 100000 in
set_option maxHeartbeats 1600000 in
theorem refNewC (w : World) (c : Conf) :
    Calls Tryz.prog 45 #[.agg c.rcells] w fun e w' => Below w.heap.size w w' ∧
      ((refN c ≠ 0 ∧ e = .returned (.tuple #[.pointer none, .int .i64 (refN c)])) ∨ (refN c = 0 ∧ ∃ b, e = .returned (.tuple #[.pointer (some ⟨b, 0, none⟩), .int .i64 0]) ∧ RAt w' w.heap.size b c c.cf.np c.nc)) := by
  obtain ⟨w1, hw1⟩ : ∃ w1, w1 = w.alloc (.cells c.rcells 81) := ⟨_, rfl⟩
  have B1 : Blk w1 w.heap.size 81 c.rcells := by rw [hw1]; exact Blk.new w _ _
  have b1 : Below w.heap.size w w1 := by rw [hw1]; exact (Below.refl _ _).alloc (Nat.le_refl _) _
  have s1 : w1.heap.size = w.heap.size + 1 := by rw [hw1]; exact World.size_alloc _ _
  obtain ⟨x0, x1, x2, x3, x4⟩ := rconf_cells B1
  have RC := Lib.hid (refusedC c w1)
  have SC := Lib.hid (fun h => refSizesC c h)
  unfold Conf.rcells at RC SC hw1 ⊢
  replace hw1 := Lib.hid hw1
  replace B1 := Lib.hid B1
  generalize hN : w.heap.size = N at *
  replace hN := Lib.hid hN
  go_enter Tryz.func45, Tryz.ntmps45
  go_upto_region 1 with fail
  rw [hN.out, ← hw1.out]
  go_wp2_with fail
  refine RC.out.mono ?_
  rintro e w2 ⟨rfl, b2⟩
  have B2 := B1.out.below b2 (by omega)
  have b12 := Lib.hid (b1.trans (b2.mono (B' := N) (by omega)))
  have s2 := b2.size
  by_cases hr : refN c = 0
  rotate_left
  · have d1 : (refN c != 0) = true := by rw [bne_iff_ne]; exact hr
    have d2 : decide (refN c = 0) = false := by simp [hr]
    replace b1 := Lib.hid b1
    replace b2 := Lib.hid b2
    replace B2 := Lib.hid B2
    replace hr := Lib.hid hr
    go_wp2
    go_ret2
    exact ⟨b12.out, .inl ⟨hr.out, rfl⟩⟩
  have hR := (refN_zero hr).1
  rw [hr]
  obtain ⟨y0, y1, y2, y3, y4⟩ := rconf_cells B2
  have S2 := Lib.hid (SC.out hR w2.drew)
  have n1 := hR.np1
  have n2 := hR.np2
  have npE := Lib.hid hR.npE
  replace B2 := Lib.hid B2
  replace hr := Lib.hid hr
  replace hR := Lib.hid hR
  clear x0 x1 x2 x3 x4 RC SC b1 hw1 B1 b2
  go_upto_region 4 with fail
  go_cut [5] from 13 to 17 (fun s5 wx => ∃ b, s5 = .pointer (some ⟨b, 0, none⟩) ∧ N + 1 ≤ b ∧ Hid (RAt wx N b c 0 0) ∧ Hid (Below (N + 1) w2 wx))
  case first =>
    go_region_law ((go_simp; first | (go_at_call 91; refine S2.out.mono ?_; rintro e w3 ⟨v, rfl, own, b3⟩; obtain ⟨A, cp, rfl⟩ := own_is own; have B3 := B2.out.below (Below.drew (Below.refl _ w2) |>.trans b3) (show N < w2.heap.size by omega); obtain ⟨z0, z1, z2, z3, z4⟩ := rconf_cells B3)))
    all_goals
      have M := rat_new (N := N) (c := c) (by show N ≤ w2.heap.size; omega) b3.size own
      have b4 : Below (N + 1) w2 (w3.alloc (.cells (rset c (.slice A c.nc cp) (.slice none 0 0) (.slice none 0 0) (.slice none 0 0) (.slice none 0 0)) 154)) := by
        have h3 := b3.size
        have h3' : w2.heap.size ≤ w3.heap.size := h3
        exact (((Below.refl _ w2).drew).trans (b3.mono (show N + 1 ≤ w2.heap.size by omega))).alloc (by omega) _
      have hb3 : N + 1 ≤ w3.heap.size := by
        have h3 := b3.size
        have h3' : w2.heap.size ≤ w3.heap.size := h3
        omega
      unfold rset at M b4
      replace M := Lib.hid M
      replace b4 := Lib.hid b4
      clear own b3 B3
      go_wp2_with fail
      go_meet
      exact ⟨_, rfl, hb3, M, b4⟩
  case rest =>
    obtain ⟨b, rfl, hb, H, b23⟩ := hcut
    clear S2
    go_wp2_with fail
    go_loopw [6] (fun v wr => ∃ j : Nat, v = .int .i64 (j : Int) ∧ j ≤ c.cf.np ∧ Hid (RAt wr N b c j 0) ∧ Hid (Below (N + 1) w2 wr)) (fun v _ => c.cf.np - (intOf v).toNat)
    case atStart => exact ⟨0, rfl, Nat.zero_le _, H, b23⟩
    case round =>
      obtain ⟨j, rfl, hj, H, b2r⟩ := hrel
      clear b23 y0 y1 y2 y3 y4
      obtain ⟨-, y1, -, -, -⟩ := rconf_cells (B2.out.below b2r.out (Nat.lt_succ_self N))
      obtain ⟨vS, A, cp, A', cp', A2, cp2, B, oS, hS, oO, oG, oR⟩ := H.out.parts
      have hnp : c.cf.np ≤ 1024 := by have := npE.out; omega
      by_cases hjn : j < c.cf.np
      · have d1 : decide ((j : Int) < c.np) = true := by have := npE.out; rw [decide_eq_true_eq]; omega
        have c6 : wr.cell? ⟨b, 6, none⟩ = some (.slice A j cp) := B.cell 6
        have q1 : IntKind.i64.wrap ((j : Int) + 1) = (j : Int) + 1 := IntWalk.i64_in _ (by omega)
        have hlt := B.lt
        go_upto_region 8 with fail
        go_wp2_with (at_builtin; refine wpList_app rfl _ _ _ rfl eiI (b + 1) _ _ _ rfl (oO.alloc _) (wr.heap.size + 1) (some ⟨wr.heap.size, 0, none⟩) 1 1 [.int .i64 (-1)] rfl ?c1 ?c2 ?c3 ?c4 ?c5 ?_)
        case c1 => exact reads_v wr _ _
        case c2 => intro u hu; rw [List.mem_singleton] at hu; subst hu; rfl
        case c3 => unfold maxLen; omega
        case c4 => omega
        case c5 => rw [World.size_alloc]; omega
        intro VV w6 own6 hg6 hat6
        obtain ⟨A6, cp6, rfl⟩ := own_is own6
        obtain ⟨o6, B6, B7, oO7, o7, bl7⟩ := grown_row (i := 6) (show N ≤ b by omega) B oO hg6 own6
        have f6 : w6.frozen? ⟨b, 6, none⟩ = false := B6.frozen 6
        have c6' : w6.cell? ⟨b, 6, none⟩ = some (.slice A j cp) := B6.cell 6
        obtain ⟨w7, hw7⟩ : ∃ w7, w7 = w6.setCell ⟨b, 6, none⟩ (.slice A6 (j + 1) cp6) := ⟨_, rfl⟩
        rw [← hw7] at B7 oO7 o7 bl7
        have b27 := bl7 hb b2r.out
        have oS7 := kept_row o7 oS (fun k e h => h.elim (fun h => by have := hS k e; omega) (fun h => by have := own_base oO h; have := hS k e; omega))
        have oG7 := kept_row o7 oG (fun k e h => h.elim (fun h => by have := own_base oG e; omega) (fun h => own_ne oO oG (by decide) h e))
        have oR7 := kept_row o7 oR (fun k e h => h.elim (fun h => by have := own_base oR e; omega) (fun h => own_ne oO oR (by decide) h e))
        replace hw7 := Lib.hid hw7
        replace B7 := Lib.hid B7
        replace b27 := Lib.hid b27
        replace oS7 := Lib.hid oS7
        replace oO7 := Lib.hid oO7
        clear o6 o7 bl7 B oS oO oG oR own6 hg6 hat6 c6 B6 hlt
        go_upto_region 9 with fail
        rw [← hw7.out]
        clear f6 c6'
        have c7 : w7.cell? ⟨b, 7, none⟩ = some (.slice A' j cp') := B7.out.cell 7
        have hlt := B7.out.lt
        go_wp2_with (at_builtin; refine wpList_app rfl _ _ _ rfl eiB (b + 1) _ _ _ rfl (oG7.alloc _) (w7.heap.size + 1) (some ⟨w7.heap.size, 0, none⟩) 1 1 [.bool false] rfl ?c1 ?c2 ?c3 ?c4 ?c5 ?_)
        case c1 => exact reads_v w7 _ _
        case c2 => intro u hu; rw [List.mem_singleton] at hu; subst hu; rfl
        case c3 => unfold maxLen; omega
        case c4 => omega
        case c5 => rw [World.size_alloc]; omega
        intro VV w8 own8 hg8 hat8
        obtain ⟨A8, cp8, rfl⟩ := own_is own8
        obtain ⟨o8, B8, B9, oG9, o9, bl9⟩ := grown_row (i := 7) (show N ≤ b by omega) B7.out oG7 hg8 own8
        have f8 : w8.frozen? ⟨b, 7, none⟩ = false := B8.frozen 7
        have c8' : w8.cell? ⟨b, 7, none⟩ = some (.slice A' j cp') := B8.cell 7
        obtain ⟨w9, hw9⟩ : ∃ w9, w9 = w8.setCell ⟨b, 7, none⟩ (.slice A8 (j + 1) cp8) := ⟨_, rfl⟩
        rw [← hw9] at B9 oG9 o9 bl9
        have b29 := Lib.hid (bl9 hb b27.out)
        have oS9 := kept_row o9 oS7.out (fun k e h => h.elim (fun h => by have := hS k e; omega) (fun h => by have := own_base oG7 h; have := hS k e; omega))
        have oO9 := kept_row o9 oO7.out (fun k e h => h.elim (fun h => by have := own_base oO7.out e; omega) (fun h => own_ne oG7 oO7.out (by decide) h e))
        have oR9 := kept_row o9 oR7 (fun k e h => h.elim (fun h => by have := own_base oR7 e; omega) (fun h => own_ne oG7 oR7 (by decide) h e))
        have H9 : Hid (RAt w9 N b c (j + 1) 0) := Lib.hid ⟨by omega, vS, A6, cp6, A8, cp8, A2, cp2, B9, oS9, hS, oO9, oG9, oR9⟩
        replace hw9 := Lib.hid hw9
        clear o8 B8 B9 oG9 o9 bl9 oS9 oO9 oR9 own8 hg8 hat8 oS7 oO7 oG7 oR7 B7 b27 hlt c7
        go_upto_region 7 with fail
        rw [← hw9.out]
        clear f8 c8'
        go_wp2
        go_roundw
        case rel => exact ⟨j + 1, by simp, by omega, H9, b29⟩
        case measure => simp [intOf] <;> omega
      · obtain rfl : j = c.cf.np := by omega
        have d1 : decide ((c.cf.np : Int) < c.np) = false := by have := npE.out; rw [decide_eq_false_iff_not]; omega
        clear oS hS oO oG oR B y1 d1
        have d1 : decide ((c.cf.np : Int) < c.np) = false := by have := npE.out; rw [decide_eq_false_iff_not]; omega
        obtain ⟨-, y1, -, -, -⟩ := rconf_cells (B2.out.below b2r.out (Nat.lt_succ_self N))
        go_wp2_with fail
        clear y1 d1
        go_loopw [7] (fun v ws => ∃ j : Nat, v = .int .i64 (j : Int) ∧ j ≤ c.nc ∧ Hid (RAt ws N b c c.cf.np j) ∧ Hid (Below (N + 1) w2 ws)) (fun v _ => c.nc - (intOf v).toNat)
        case atStart => exact ⟨0, rfl, Nat.zero_le _, H, b2r⟩
        case round =>
          obtain ⟨j, rfl, hj, H, b2r⟩ := hrel
          obtain ⟨vS, A, cp, A', cp', A2, cp2, B, oS, hS, oO, oG, oR⟩ := H.out.parts
          obtain ⟨AS, cS, rfl⟩ := own_is oS
          have c5 : wr.cell? ⟨b, 5, none⟩ = some (.slice AS c.nc cS) := B.cell 5
          have c9 : wr.cell? ⟨b, 9, none⟩ = some (.slice A2 j cp2) := B.cell 9
          by_cases hjn : j < c.nc
          · have d1 : decide ((j : Int) < (c.nc : Int)) = true := by simp; omega
            have h62 : c.nc ≤ 62 := (okOf hr.out).1.ncb
            have q1 : IntKind.i64.wrap ((j : Int) + 1) = (j : Int) + 1 := IntWalk.i64_in _ (by omega)
            have hlt := B.lt
            go_upto_region 13 with fail
            go_wp2_with (at_builtin; refine wpList_app rfl _ _ _ rfl eiII (b + 1) _ _ _ rfl (oR.alloc _) (wr.heap.size + 1) (some ⟨wr.heap.size, 0, none⟩) 1 1 [.slice none 0 0] rfl ?c1 ?c2 ?c3 ?c4 ?c5 ?_)
            case c1 => exact reads_v wr _ _
            case c2 => intro u hu; rw [List.mem_singleton] at hu; subst hu; rfl
            case c3 => unfold maxLen; omega
            case c4 => omega
            case c5 => rw [World.size_alloc]; omega
            intro VV w6 own6 hg6 hat6
            obtain ⟨A6, cp6, rfl⟩ := own_is own6
            obtain ⟨o6, B6, B7, oR7, o7, bl7⟩ := grown_row (i := 9) (show N ≤ b by omega) B oR hg6 own6
            have f6 : w6.frozen? ⟨b, 9, none⟩ = false := B6.frozen 9
            have c6' : w6.cell? ⟨b, 9, none⟩ = some (.slice A2 j cp2) := B6.cell 9
            obtain ⟨w7, hw7⟩ : ∃ w7, w7 = w6.setCell ⟨b, 9, none⟩ (.slice A6 (j + 1) cp6) := ⟨_, rfl⟩
            rw [← hw7] at B7 oR7 o7 bl7
            have b27 := Lib.hid (bl7 hb b2r.out)
            have oS7 := kept_row o7 oS (fun k e h => h.elim (fun h => by have := hS k e; omega) (fun h => by have := own_base oR h; have := hS k e; omega))
            have oG7 := kept_row o7 oG (fun k e h => h.elim (fun h => by have := own_base oG e; omega) (fun h => own_ne oR oG (by decide) h e))
            have oO7 := kept_row o7 oO (fun k e h => h.elim (fun h => by have := own_base oO e; omega) (fun h => own_ne oR oO (by decide) h e))
            have H7 : Hid (RAt w7 N b c c.cf.np (j + 1)) := Lib.hid ⟨by omega, .slice AS c.nc cS, A, cp, A', cp', A6, cp6, B7, oS7, hS, oO7, oG7, oR7⟩
            replace hw7 := Lib.hid hw7
            clear o6 o7 bl7 B oS oO oG oR own6 hg6 hat6 c5 c9 B6 hlt oS7 oG7 oO7 oR7 B7
            go_upto_region 12 with fail
            rw [← hw7.out]
            clear f6 c6'
            go_wp2
            go_roundw
            case rel => exact ⟨j + 1, by simp, by omega, H7, b27⟩
            case measure => simp [intOf] <;> omega
          · obtain rfl : j = c.nc := by omega
            have d1 : decide ((c.nc : Int) < (c.nc : Int)) = false := by simp
            clear oS hS oO oG oR B
            go_wp2
            go_ret2
            exact ⟨b12.out.trans (b2r.out.mono (Nat.le_succ N)), .inr ⟨hr.out, b, rfl, H.out⟩⟩
end Go.Proofs.YtfjiphibalhcgaaGreat.Cls
/-
  The walk of begun: a Set of the program's and one of the document's.
-/
namespace Go.Proofs.YtfjiphibalhcgaaGreat.Cls
open Go.RowKit Base MapG
set_option linter.unusedVariables false

theorem arenaC (w : World) (L : Lay) (c : Conf) (s : St) (bs : List UInt8) (h : SetAt w L c s bs) : Calls Tryz.prog 75 #[.pointer (some ⟨L.g, 0, none⟩)] w fun e w' => e = .returned (.pointer (some ⟨L.ga, 0, none⟩)) ∧ w = w' := by
  have c7 := h.cArena
  clear h
  go_enter Tryz.func75, Tryz.ntmps75
  go_wp2
  go_ret
  exact ⟨rfl, rfl⟩
theorem RAt.kept {w w' : World} {N b i j : Nat} {c : Conf} (h : RAt w N b c i j) (k : Below w.heap.size w w') : RAt w' N b c i j := by
  obtain ⟨vS, A, cp, A', cp', A2, cp2, B, oS, hS, oO, oG, oR⟩ := h.parts
  exact ⟨h.lt, vS, A, cp, A', cp', A2, cp2, B.below k B.lt, own_kept oS (fun b e => k.block b (own_block oS e)), hS, own_kept oO (fun b e => k.block b (own_block oO e)), own_kept oG (fun b e => k.block b (own_block oG e)), own_kept oR (fun b e => k.block b (own_block oR e))⟩
/-- A block that is none of the Set's. -/
theorem Went.away {w w' : World} {L L' : Lay} {c : Conf} {s s' : St} (h : Went w w' L L' c s s') {b : Nat} {t : TypeId} {cs : Array Value} (B : Blk w b t cs) (ha : ¬ Foot L c s b) : Blk w' b t cs ∧ ¬ Foot L' c s' b :=
  ⟨(h.only.block b B.lt ha).trans B, fun hf => (h.foot b hf).elim ha fun h1 => by have := B.lt; omega⟩
theorem Went.below {w w' : World} {L L' : Lay} {c : Conf} {s s' : St} (h : Went w w' L L' c s s') {N : Nat} (F : ∀ b, Foot L c s b → N ≤ b) (hN : N ≤ w.heap.size) : Below N w w' ∧ (∀ b, Foot L' c s' b → N ≤ b) ∧ N ≤ w'.heap.size :=
  ⟨⟨h.only.os, h.only.tape, h.only.output, h.only.size, fun k hk => h.only.block k (by omega) fun hf => by have := F k hf; omega⟩, fun b hf => (h.foot b hf).elim (F b) fun h1 => by omega, Nat.le_trans hN h.only.size⟩
end Go.Proofs.YtfjiphibalhcgaaGreat.Cls
/-
  The walks of is, handle, chunk and find.
-/
namespace Go.Proofs.YtfjiphibalhcgaaGreat.Cls
open Go.RowKit Base MapG
set_option linter.unusedVariables false

/-- The name of a chunk at a place, of a generation. -/
def hnd (p g : Nat) : Nat := g * 4294967296 + (p / 8 + 1)
theorem handleC (w : World) (p g : Nat) (hp : p ≤ 1073741824) (hg : g < 4294967296) : Calls Tryz.prog 100 #[.int .i64 (p : Int), .int .u32 (g : Int)] w fun e w' => e = .returned (.int .u64 (hnd p g : Int)) ∧ w = w' := by
  have q1 : ((p : Int)).tdiv 8 = ((p / 8 : Nat) : Int) := by rw [Int.tdiv_eq_ediv_of_nonneg (by omega)]; omega
  have q2 : IntKind.i64.wrap ((p / 8 : Nat) : Int) = ((p / 8 : Nat) : Int) := IntWalk.i64_in _ (by omega)
  have q3 : IntKind.i64.wrap (((p / 8 : Nat) : Int) + 1) = ((p / 8 : Nat) : Int) + 1 := IntWalk.i64_in _ (by omega)
  have q4 : IntKind.u64.wrap (((p / 8 : Nat) : Int) + 1) = ((p / 8 : Nat) : Int) + 1 := IntWalk.u64_in _ (by omega)
  have q5 : IntKind.u64.wrap (g : Int) = (g : Int) := IntWalk.u64_in _ (by omega)
  have q6 : IntKind.u64.wrap ((g : Int) * 4294967296) = (g : Int) * 4294967296 := IntWalk.u64_in _ (by omega)
  have q7 : IntKind.u64.wrap ((g : Int) * 4294967296 + (((p / 8 : Nat) : Int) + 1)) = (hnd p g : Int) := by rw [IntWalk.u64_in _ (by omega)]; unfold hnd; omega
  generalize hq : p / 8 = q at *
  generalize hnd p g = H at *
  clear hq
  go_enter Tryz.func100, Tryz.ntmps100
  go_wp2
  go_ret
  exact ⟨rfl, rfl⟩
section
variable {w : World} {L : Lay} {c : Conf} {s : St} {bs : List UInt8}
theorem isC (h : SetAt w L c s bs) (k : Int) : Calls Tryz.prog 96 #[.pointer (some ⟨L.g, 0, none⟩), .int .i64 k] w fun e w' => e = .returned (.bool (decide (0 ≤ k ∧ k < (c.nc : Int)))) ∧ w = w' := by
  have c8 := h.cSizes
  clear h
  by_cases h0 : 0 ≤ k
  · have d0 : decide (0 ≤ k) = true := decide_eq_true h0
    have e : decide (0 ≤ k ∧ k < (c.nc : Int)) = decide (k < (c.nc : Int)) := by simp [h0]
    rw [e]
    clear e
    go_enter Tryz.func96, Tryz.ntmps96
    go_wp2
    go_ret
    exact ⟨rfl, rfl⟩
  · have d0 : decide (0 ≤ k) = false := decide_eq_false h0
    have e : decide (0 ≤ k ∧ k < (c.nc : Int)) = false := by simp; omega
    rw [e]
    clear e
    go_enter Tryz.func96, Tryz.ntmps96
    go_wp2
    go_ret
    exact ⟨rfl, rfl⟩
end
theorem drew_here (w : World) : ∃ m, w.drewN m = w := ⟨0, rfl⟩
theorem drew_more {w w' : World} {k : Nat} (h : ∃ m, w.drewN m = w') : ∃ m, w.drewN m = w'.drewN k := by
  obtain ⟨m, rfl⟩ := h
  exact ⟨m + k, by simp [World.drewN, Nat.add_assoc]⟩
theorem tdivN (a b : Nat) : ((a : Int)).tdiv (b : Int) = ((a / b : Nat) : Int) := by rw [Int.tdiv_eq_ediv_of_nonneg (by omega)]; exact (Int.natCast_ediv _ _).symm
theorem tmodN (a b : Nat) : ((a : Int)).tmod (b : Int) = ((a % b : Nat) : Int) := by rw [Int.tmod_eq_emod_of_nonneg (by omega)]; exact (Int.natCast_emod _ _).symm
/-- What chunk answers: the page's pointer and the chunk's number; or none. -/
def chunkV (L : Lay) (r : Option (Nat × Nat)) : Value :=
  match r with
  | some (i, x) => .tuple #[.pointer (some ⟨L.gp, i * 7, none⟩), .int .i64 (x : Int), .bool true]
  | none => .tuple #[.pointer none, .int .i64 0, .bool false]
def chunkN (d : Cf) (s : St) (p : Int) : Option (Nat × Nat) :=
  if 0 ≤ p ∧ p < ((d.ps * d.np : Nat) : Int) then
    (if s.own (p.toNat / d.ps) = true ∧ p.toNat % d.ps % d.sz (s.cls (p.toNat / d.ps)) = 0 ∧ p.toNat % d.ps / d.sz (s.cls (p.toNat / d.ps)) < d.n (s.cls (p.toNat / d.ps)) then some (p.toNat / d.ps, p.toNat % d.ps / d.sz (s.cls (p.toNat / d.ps))) else none) else none
set_option maxRecDepth 100000 in
set_option maxHeartbeats 1600000 in
theorem chunkC (w : World) (L : Lay) (c : Conf) (s : St) (bs : List UInt8) (h : SetAt w L c s bs) (g : Good c.cf s) (p : Int) :
    Calls Tryz.prog 137 #[.pointer (some ⟨L.g, 0, none⟩), .int .i64 p] w fun e w' => e = .returned (chunkV L (chunkN c.cf s p)) ∧ ∃ m, w.drewN m = w' := by
  have ok := h.okc
  have A := h.arena ok
  have LC := Lib.hid (Arena.lenC w L.ga L.ha c.cf.ps bs A)
  rw [h.len] at LC
  have c0 := h.cPs
  have c7 := h.cArena
  have c8 := h.cSizes
  have c9 := h.cPages
  have H := Lib.hid h
  clear A h
  unfold chunkN
  by_cases h0 : 0 ≤ p
  · obtain ⟨p, rfl⟩ := Int.eq_ofNat_of_zero_le h0
    have d0 : decide ((p : Int) < 0) = false := by simp
    by_cases h1 : p < c.cf.ps * c.cf.np
    · have d1 : decide (((c.cf.ps * c.cf.np : Nat) : Int) ≤ (p : Int)) = false := by simp only [decide_eq_false_iff_not]; omega
      rw [if_pos ⟨h0, by omega⟩, Int.toNat_natCast]
      have d1' : decide (c.cf.ps * c.cf.np ≤ p) = false := by simp only [decide_eq_false_iff_not]; omega
      have b4 := ok.psb
      have b5 := ok.ps
      have b6 := ok.npb
      have hPb : c.cf.ps * c.cf.np ≤ 1048576 * 1024 := Nat.mul_le_mul b4 b6
      have hi : p / c.cf.ps < c.cf.np := by
        refine (Nat.div_lt_iff_lt_mul (by omega)).2 ?_
        rwa [Nat.mul_comm]
      have hr : p % c.cf.ps < c.cf.ps := Nat.mod_lt _ (by omega)
      have q1 := tdivN p c.cf.ps
      have q3 := tmodN p c.cf.ps
      have z0 : ¬ (c.cf.ps : Int) = 0 := by omega
      have p0 := H.out.p0 hi
      have p2 := H.out.p2 hi
      have p3 := fun ho => H.out.p3 hi ho
      have hcl := g.cls (p / c.cf.ps) hi
      have hsz := fun hk => H.out.sz (k := s.cls (p / c.cf.ps)) hk
      have hok := fun hk => ok.sz (s.cls (p / c.cf.ps)) hk
      generalize c.cf.ps * c.cf.np = T at *
      have hpT : p ≤ 1073741824 := by omega
      generalize p / c.cf.ps = i at *
      generalize p % c.cf.ps = r at *
      have q2 : IntKind.i64.wrap (i : Int) = (i : Int) := IntWalk.i64_in _ (by omega)
      have q2r : IntKind.i64.wrap (r : Int) = (r : Int) := IntWalk.i64_in _ (by omega)
      have i0 : (0 : Int) ≤ (i : Int) := by omega
      have i1 : (i : Int) < (c.cf.np : Int) := by omega
      replace ok := Lib.hid ok
      replace hi := Lib.hid hi
      by_cases ho : s.own i = true
      · have hk : s.cls i < c.cf.nc := hcl ho
        have hk' : s.cls i < c.nc := hk
        have dz := hsz hk'
        have p3 := p3 ho
        obtain ⟨e1, e2, e3⟩ := hok hk
        have hn := n_pos ok.out hk
        rw [ho] at p0
        clear hsz hok hcl p3
        have p3 := H.out.p3 hi.out ho
        have k0 : (0 : Int) ≤ (s.cls i : Int) := by omega
        have k1 : (s.cls i : Int) < (c.nc : Int) := by omega
        have hnd : c.cf.n (s.cls i) = c.cf.n (s.cls i) := rfl
        have esz : c.cf.sz (s.cls i) = c.sz (s.cls i) := rfl
        rw [esz] at e1 e2 e3 ⊢
        generalize s.cls i = k at *
        generalize c.sz k = z at *
        generalize c.cf.n k = n at *
        have z1 : ¬ (z : Int) = 0 := by omega
        have q4 := tmodN r z
        have q5 := tdivN r z
        have hd : r / z ≤ r := Nat.div_le_self r z
        have hm : r % z ≤ r := Nat.mod_le r z
        generalize r % z = rm at *
        generalize r / z = rd at *
        have q6 : IntKind.i64.wrap (rd : Int) = (rd : Int) := IntWalk.i64_in _ (by omega)
        have q7 : IntKind.i64.wrap (rm : Int) = (rm : Int) := IntWalk.i64_in _ (by omega)
        clear hnd esz hk hk' e3
        by_cases h2 : rm = 0
        · subst h2
          by_cases h3 : rd < n
          · rw [if_pos ⟨ho, rfl, h3⟩]
            have d3 : decide ((n : Int) ≤ (rd : Int)) = false := by simp; omega
            have d3' : decide (n ≤ rd) = false := by simp; omega
            unfold chunkV
            clear h1
            go_enter Tryz.func137, Tryz.ntmps137
            go_wp2_with fail
            refine LC.out.mono ?_
            rintro e w' ⟨rfl, _, rfl⟩
            go_wp2
            try (go_quiet (fail); go_wp2)
            try (go_quiet (fail); go_wp2)
            try (go_quiet (fail); go_wp2)
            try (go_quiet (fail); go_wp2)
            go_ret3
            exact ⟨rfl, by repeat (first | exact drew_here _ | refine drew_more ?_)⟩
          · rw [if_neg (fun e => h3 e.2.2)]
            have d3 : decide ((n : Int) ≤ (rd : Int)) = true := by simp; omega
            have d3' : decide (n ≤ rd) = true := by simp; omega
            unfold chunkV
            clear h1
            go_enter Tryz.func137, Tryz.ntmps137
            go_wp2_with fail
            refine LC.out.mono ?_
            rintro e w' ⟨rfl, _, rfl⟩
            go_wp2
            try (go_quiet (fail); go_wp2)
            try (go_quiet (fail); go_wp2)
            try (go_quiet (fail); go_wp2)
            try (go_quiet (fail); go_wp2)
            go_ret3
            exact ⟨rfl, by repeat (first | exact drew_here _ | refine drew_more ?_)⟩
        · rw [if_neg (fun e => h2 e.2.1)]
          have d2 : decide ((rm : Int) = 0) = false := by simp; omega
          have d2' : ((rm : Int) != 0) = true := by rw [bne_iff_ne]; omega
          unfold chunkV
          clear h1
          go_enter Tryz.func137, Tryz.ntmps137
          go_wp2_with fail
          refine LC.out.mono ?_
          rintro e w' ⟨rfl, _, rfl⟩
          go_wp2
          try (go_quiet (fail); go_wp2)
          try (go_quiet (fail); go_wp2)
          try (go_quiet (fail); go_wp2)
          try (go_quiet (fail); go_wp2)
          go_ret3
          exact ⟨rfl, by repeat (first | exact drew_here _ | refine drew_more ?_)⟩
      · rw [if_neg (fun e => ho e.1)]
        have ho' : s.own i = false := by simpa using ho
        rw [ho'] at p0
        unfold chunkV
        clear h1 hsz hok hcl p3
        go_enter Tryz.func137, Tryz.ntmps137
        go_wp2_with fail
        refine LC.out.mono ?_
        rintro e w' ⟨rfl, _, rfl⟩
        go_wp2
        try (go_quiet (fail); go_wp2)
        go_ret3
        exact ⟨rfl, by repeat (first | exact drew_here _ | refine drew_more ?_)⟩
    · rw [if_neg (fun e => h1 (by omega))]
      have d1 : decide (((c.cf.ps * c.cf.np : Nat) : Int) ≤ (p : Int)) = true := by simp only [decide_eq_true_eq]; omega
      have d1' : decide (c.cf.ps * c.cf.np ≤ p) = true := by simp only [decide_eq_true_eq]; omega
      unfold chunkV
      generalize c.cf.ps * c.cf.np = T at *
      go_enter Tryz.func137, Tryz.ntmps137
      go_wp2_with fail
      refine LC.out.mono ?_
      rintro e w' ⟨rfl, rfl⟩
      go_wp2
      go_ret3
      exact ⟨rfl, 0, rfl⟩
  · rw [if_neg (fun e => h0 e.1)]
    have d0 : decide (p < 0) = true := by simp; omega
    unfold chunkV
    go_enter Tryz.func137, Tryz.ntmps137
    go_wp2
    go_ret3
    exact ⟨rfl, 0, rfl⟩
theorem results_tmp4 {fn : Func} {t u v x : Tmp} (h : fn.results = #[.tmp t, .tmp u, .tmp v, .tmp x]) (tmps : Array Value) (P : Program) (w : World) :
    (results fn tmps).run P w = .ok (.tuple #[tmps.getD t undef, tmps.getD u undef, tmps.getD v undef, tmps.getD x undef]) w := by
  simp [results, h]
theorem mask (h : Nat) (hh : h < 18446744073709551616) : bits .and .u64 (h : Int) 4294967295 = ((h % 4294967296 : Nat) : Int) := by
  have := u64_and_nat h 4294967295 hh (by decide)
  rw [show ((4294967295 : Nat) : Int) = 4294967295 from rfl] at this
  rw [this, show (4294967295 : Nat) = 2 ^ 32 - 1 from rfl, Nat.and_two_pow_sub_one_eq_mod]
/-- What find answers: the page's pointer, the chunk's number, its place; or none. -/
def findV (L : Lay) (d : Cf) (r : Option (Nat × Nat × Nat)) : Value :=
  match r with
  | some (i, x, p) => .tuple #[.pointer (some ⟨L.gp, i * 7, none⟩), .int .i64 (x : Int), .int .i64 (p : Int), .bool true]
  | none => .tuple #[.pointer none, .int .i64 0, .int .i64 0, .bool false]
def findN (d : Cf) (s : St) (h : Nat) : Option (Nat × Nat × Nat) :=
  if h % 4294967296 = 0 ∨ d.ps * d.np / 8 < h % 4294967296 then none else
    match chunkN d s (((h % 4294967296 - 1) * 8 : Nat) : Int) with
    | some (i, x) => if s.tkn i x = true ∧ s.gens i x = h / 4294967296 then some (i, x, (h % 4294967296 - 1) * 8) else none
    | none => none
set_option maxRecDepth 100000 in
set_option maxHeartbeats 1600000 in
theorem findC (w : World) (L : Lay) (c : Conf) (s : St) (bs : List UInt8) (h : SetAt w L c s bs) (g : Good c.cf s) (H : Nat) (hH : H < 18446744073709551616) :
    Calls Tryz.prog 119 #[.pointer (some ⟨L.g, 0, none⟩), .int .u64 (H : Int)] w fun e w' => e = .returned (findV L c.cf (findN c.cf s H)) ∧ ∃ m, w.drewN m = w' := by
  have ok := h.okc
  have A := h.arena ok
  have LC := Lib.hid (Arena.lenC w L.ga L.ha c.cf.ps bs A)
  rw [h.len] at LC
  have CC := Lib.hid (chunkC w L c s bs h g)
  have c7 := h.cArena
  have hs := Lib.hid h
  clear A h
  have b4 := ok.psb
  have b5 := ok.ps
  have b6 := ok.npb
  have hPb : c.cf.ps * c.cf.np ≤ 1048576 * 1024 := Nat.mul_le_mul b4 b6
  have m1 := mask H hH
  have m2 : ((H : Int) / 4294967296) = ((H / 4294967296 : Nat) : Int) := by omega
  have m3 : H / 4294967296 < 4294967296 := by omega
  have m4 : H % 4294967296 < 4294967296 := by omega
  unfold findN
  have hcn : ∀ p i x, chunkN c.cf s p = some (i, x) → i < c.cf.np ∧ s.own i = true ∧ x < c.cf.n (s.cls i) := by
    intro p i x e
    unfold chunkN at e
    split at e
    · rename_i hp
      split at e
      · rename_i hh
        injection e with e
        injection e with e1 e2
        rw [e1] at hh e2
        rw [e2] at hh
        exact ⟨g.top i hh.1, hh.1, hh.2.2⟩
      · cases e
    · cases e
  generalize H % 4294967296 = n at *
  generalize H / 4294967296 = u at *
  have m5 : IntKind.u32.wrap (u : Int) = (u : Int) := IntWalk.u32_in _ (by omega)
  have q1 : (((c.cf.ps * c.cf.np : Nat) : Int)).tdiv 8 = ((c.cf.ps * c.cf.np / 8 : Nat) : Int) := by rw [Int.tdiv_eq_ediv_of_nonneg (by omega)]; omega
  generalize c.cf.ps * c.cf.np = T at *
  have q2 : IntKind.i64.wrap ((T / 8 : Nat) : Int) = ((T / 8 : Nat) : Int) := IntWalk.i64_in _ (by omega)
  have q3 : IntKind.u64.wrap ((T / 8 : Nat) : Int) = ((T / 8 : Nat) : Int) := IntWalk.u64_in _ (by omega)
  have hT8 : T / 8 ≤ 134217728 := by omega
  generalize T / 8 = t at *
  clear hPb
  replace ok := Lib.hid ok
  by_cases h0 : n = 0
  · rw [if_pos (.inl h0)]
    have d0 : decide ((n : Int) = 0) = true := by simp; omega
    have d0' : decide (n = 0) = true := by simp; omega
    unfold findV
    clear hcn
    go_enter Tryz.func119, Tryz.ntmps119
    go_wp2
    (try simp only [Exit.inBlock, Exit.then]); refine bodyPost_ret (results_tmp4 rfl _ _ _) rfl ?_
    exact ⟨rfl, 0, rfl⟩
  · have d0 : decide ((n : Int) = 0) = false := by simp; omega
    have d0' : decide (n = 0) = false := by simp; omega
    by_cases h1 : t < n
    · rw [if_pos (.inr h1)]
      have d1 : decide ((t : Int) < (n : Int)) = true := by simp; omega
      have d1' : decide (t < n) = true := by simp; omega
      unfold findV
      clear hcn
      go_enter Tryz.func119, Tryz.ntmps119
      go_wp2_with fail
      refine LC.out.mono ?_
      rintro e w' ⟨rfl, rfl⟩
      go_wp2
      (try simp only [Exit.inBlock, Exit.then]); refine bodyPost_ret (results_tmp4 rfl _ _ _) rfl ?_
      exact ⟨rfl, 0, rfl⟩
    · rw [if_neg (fun e => e.elim h0 h1)]
      have d1 : decide ((t : Int) < (n : Int)) = false := by simp; omega
      have d1' : decide (t < n) = false := by simp; omega
      have q4 : IntKind.u64.wrap ((n : Int) - 1) = (n : Int) - 1 := IntWalk.u64_in _ (by omega)
      have q5 : IntKind.i64.wrap ((n : Int) - 1) = (n : Int) - 1 := IntWalk.i64_in _ (by omega)
      have q6 : IntKind.i64.wrap (((n : Int) - 1) * 8) = (((n - 1) * 8 : Nat) : Int) := by rw [IntWalk.i64_in _ (by omega)]; omega
      have C1 := Lib.hid (CC.out (((n - 1) * 8 : Nat) : Int))
      have hcn := hcn (((n - 1) * 8 : Nat) : Int)
      clear CC
      generalize (n - 1) * 8 = P at *
      cases hch : chunkN c.cf s (P : Int) with
      | none =>
        rw [hch] at C1
        unfold chunkV at C1
        clear hcn hch
        simp only
        unfold findV
        go_enter Tryz.func119, Tryz.ntmps119
        go_wp2_with fail
        refine LC.out.mono ?_
        rintro e w' ⟨rfl, rfl⟩
        go_wp2_with fail
        refine C1.out.mono ?_
        rintro e w' ⟨rfl, m, rfl⟩
        go_wp2
        (try simp only [Exit.inBlock, Exit.then]); refine bodyPost_ret (results_tmp4 rfl _ _ _) rfl ?_
        exact ⟨rfl, by repeat (first | exact drew_here _ | refine drew_more ?_)⟩
      | some r =>
        obtain ⟨i, x⟩ := r
        rw [hch] at C1
        obtain ⟨hi, ho, hx⟩ := hcn i x hch
        unfold chunkV at C1
        clear hcn hch
        simp only at C1 ⊢
        have x0 : (0 : Int) ≤ (x : Int) := by omega
        have x1 : (x : Int) < (c.cf.n (s.cls i) : Int) := by omega
        have p3 := fun m => (hs.out.drewN m).p3 hi ho
        have p4 := fun m => (hs.out.drewN m).p4 hi ho
        have tk := fun m => (hs.out.drewN m).tk hi ho hx
        have gn := fun m => (hs.out.drewN m).gen hi ho hx
        have hgb := g.gen i x
        cases ht : s.tkn i x with
        | false =>
          rw [if_neg (fun e => by cases e.1)]
          unfold findV
          simp only [ht] at tk
          go_enter Tryz.func119, Tryz.ntmps119
          go_wp2_with fail
          refine LC.out.mono ?_
          rintro e w' ⟨rfl, rfl⟩
          go_wp2_with fail
          refine C1.out.mono ?_
          rintro e w' ⟨rfl, m, rfl⟩
          have p3 := p3 m
          have p4 := p4 m
          have tk := tk m
          have gn := gn m
          go_wp2
          (try simp only [Exit.inBlock, Exit.then]); refine bodyPost_ret (results_tmp4 rfl _ _ _) rfl ?_
          exact ⟨rfl, by repeat (first | exact drew_here _ | refine drew_more ?_)⟩
        | true =>
          simp only [ht] at tk
          by_cases hgu : s.gens i x = u
          · rw [if_pos ⟨rfl, hgu⟩]
            unfold findV
            have d2 : decide (s.gens i x = u) = true := by simp [hgu]
            have d2n : ((s.gens i x : Int) != (u : Int)) = false := by rw [bne_eq_false_iff_eq]; omega
            replace hgu := Lib.hid hgu
            go_enter Tryz.func119, Tryz.ntmps119
            go_wp2_with fail
            refine LC.out.mono ?_
            rintro e w' ⟨rfl, rfl⟩
            go_wp2_with fail
            refine C1.out.mono ?_
            rintro e w' ⟨rfl, m, rfl⟩
            have p3 := p3 m
            have p4 := p4 m
            have tk := tk m
            have gn := gn m
            go_wp2
            (try simp only [Exit.inBlock, Exit.then]); refine bodyPost_ret (results_tmp4 rfl _ _ _) rfl ?_
            exact ⟨rfl, by repeat (first | exact drew_here _ | refine drew_more ?_)⟩
          · rw [if_neg (fun e => hgu e.2)]
            unfold findV
            have d2n : ((s.gens i x : Int) != (u : Int)) = true := by rw [bne_iff_ne]; omega
            go_enter Tryz.func119, Tryz.ntmps119
            go_wp2_with fail
            refine LC.out.mono ?_
            rintro e w' ⟨rfl, rfl⟩
            go_wp2_with fail
            refine C1.out.mono ?_
            rintro e w' ⟨rfl, m, rfl⟩
            have p3 := p3 m
            have p4 := p4 m
            have tk := tk m
            have gn := gn m
            go_wp2
            (try simp only [Exit.inBlock, Exit.then]); refine bodyPost_ret (results_tmp4 rfl _ _ _) rfl ?_
            exact ⟨rfl, by repeat (first | exact drew_here _ | refine drew_more ?_)⟩
end Go.Proofs.YtfjiphibalhcgaaGreat.Cls
/-
  The walks of the small tellers: heavy, Classes, FreePages, Config, Chunk, Quota.
-/
namespace Go.Proofs.YtfjiphibalhcgaaGreat.Cls
open Go.RowKit Base MapG
set_option linter.unusedVariables false

section
variable (w : World) (L : Lay) (c : Conf) (s : St) (bs : List UInt8) (h : SetAt w L c s bs)
include h
theorem classesC : Calls Tryz.prog 50 #[.pointer (some ⟨L.g, 0, none⟩)] w fun e w' => e = .returned (.int .i64 (c.nc : Int)) ∧ w = w' := by
  have c8 := h.cSizes
  clear h
  go_enter Tryz.func50, Tryz.ntmps50
  go_wp2
  go_ret
  exact ⟨rfl, rfl⟩
theorem chunkSizeC (k : Int) : Calls Tryz.prog 131 #[.pointer (some ⟨L.g, 0, none⟩), .int .i64 k] w fun e w' => e = .returned (.int .i64 (if 0 ≤ k ∧ k < (c.nc : Int) then (c.sz k.toNat : Int) else 0)) ∧ w = w' := by
  have IC := isC h k
  by_cases hk : 0 ≤ k ∧ k < (c.nc : Int)
  · rw [if_pos hk]
    rw [decide_eq_true hk] at IC
    obtain ⟨k, rfl⟩ := Int.eq_ofNat_of_zero_le hk.1
    obtain ⟨k0, k1⟩ := hk
    have c8 := h.cSizes
    have cz := h.sz (k := k) (by omega)
    rw [Int.toNat_natCast]
    replace IC := Lib.hid IC
    clear h
    go_enter Tryz.func131, Tryz.ntmps131
    go_wp2_with fail
    refine IC.out.mono ?_
    rintro e w' ⟨rfl, rfl⟩
    go_wp2
    go_ret
    exact ⟨rfl, rfl⟩
  · rw [if_neg hk]
    rw [decide_eq_false hk] at IC
    replace IC := Lib.hid IC
    clear h
    go_enter Tryz.func131, Tryz.ntmps131
    go_wp2_with fail
    refine IC.out.mono ?_
    rintro e w' ⟨rfl, rfl⟩
    go_wp2
    go_ret
    exact ⟨rfl, rfl⟩
end
end Go.Proofs.YtfjiphibalhcgaaGreat.Cls
/-
  The walk of widen: the lowest free page becomes a class's.
-/
namespace Go.Proofs.YtfjiphibalhcgaaGreat.Cls
open Go.RowKit Base MapG
set_option linter.unusedVariables false

/-- .. its first m generations are those that the page had. -/
def freshG (c : Cf) (s : St) (k i m : Nat) : St := { s with own := upd s.own i true, cls := upd s.cls i k, gens := upd s.gens i (fun x => if x < m then s.old i (x * c.sz k) else 0), tkn := upd s.tkn i (fun _ => false) }
theorem freshG_zero (c : Cf) (s : St) (k i : Nat) : freshG c s k i 0 = freshS s k i := by
  unfold freshG freshS
  simp
theorem freshG_succ (c : Cf) (s : St) (k i m : Nat) : { freshG c s k i m with gens := upd (freshG c s k i m).gens i (upd ((freshG c s k i m).gens i) m (s.old i (m * c.sz k))) } = freshG c s k i (m + 1) := by
  unfold freshG
  simp only [upd_upd, upd_at]
  congr 1
  congr 1
  funext x
  unfold upd
  by_cases h : x = m
  · subst h; simp
  · rw [if_neg h]
    by_cases h1 : x < m
    · show (if x < m then _ else _) = _
      rw [if_pos h1, if_pos (by omega)]
    · show (if x < m then _ else _) = _
      rw [if_neg h1, if_neg (by omega)]
set_option maxRecDepth 100000 in
set_option maxHeartbeats 3200000 in
theorem widenYes (w : World) (L : Lay) (c : Conf) (s : St) (bs : List UInt8) (h : SetAt w L c s bs) (g : Good c.cf s) (k i : Nat) (hk : k < c.nc) (hi : i < c.cf.np) (ho : s.own i = false) (hl : ∀ j, j < i → s.own j = true) :
    Calls Tryz.prog 97 #[.pointer (some ⟨L.g, 0, none⟩), .int .i64 (k : Int)] w fun e w' => e = .returned (.bool true) ∧
      ∃ L', L'.g = L.g ∧ L'.gr = L.gr ∧ SetAt w' L' c (widenS c.cf s k i) bs ∧ Went w w' L L' c s (widenS c.cf s k i) := by
  have H := Lib.hid h
  have ok := h.okc
  obtain ⟨n1, n2⟩ := n_pos ok hk
  have hsp : 1 ≤ s.spare ∧ s.spare ≤ 1024 := by
    rw [g.spare]
    exact ⟨cnt_pos (f := fun j => !s.own j) hi (by simp [ho]), Nat.le_trans cnt_le ok.npb⟩
  have hfl := g.short ok hk
  have hrs : s.rs k ≤ 1024 ∧ s.rp k ≤ 1024 := by
    rw [g.rs k hk, g.rp k hk]
    exact ⟨Nat.le_trans cnt_le ok.npb, Nat.le_trans cnt_le ok.npb⟩
  have JC := Lib.hid joinC
  have c0 := h.cPs
  have c8 := h.cSizes
  have c9 := h.cPages
  have cz := h.sz hk
  have P0 := Lib.hid fun j hj => h.p0 (i := j) hj
  clear h
  have k0 : (0 : Int) ≤ (k : Int) := by omega
  have k1 : (k : Int) < (c.nc : Int) := by omega
  have hnp := ok.npb
  have hnc := ok.ncb
  obtain ⟨b1, b2, b3⟩ := ok.sz k hk
  have b4 := ok.psb
  have b5 := ok.ps
  have q1 : ((c.cf.ps : Int)).tdiv (c.sz k : Int) = (c.cf.n k : Int) := by rw [Int.tdiv_eq_ediv_of_nonneg (by omega)]; exact (Int.natCast_ediv _ _).symm
  have q2 : IntKind.i64.wrap (c.cf.n k : Int) = (c.cf.n k : Int) := IntWalk.i64_in _ (by omega)
  have z0 : ¬ (c.sz k : Int) = 0 := by have : 64 ≤ c.sz k := b1; omega
  replace ok := Lib.hid ok
  go_enter Tryz.func97, Tryz.ntmps97
  go_wp2
  go_loopw [14] (fun v wr => ∃ j : Nat, v = .int .i64 (j : Int) ∧ j ≤ i ∧ w = wr) (fun v _ => i - (intOf v).toNat)
  case atStart => exact ⟨0, rfl, Nat.zero_le _, rfl⟩
  case round =>
    obtain ⟨j, rfl, hj, rfl⟩ := hrel
    have j0 : (0 : Int) ≤ (j : Int) := by omega
    have j1 : (j : Int) < (c.cf.np : Int) := by omega
    have j2 : decide ((j : Int) < (c.cf.np : Int)) = true := by simp; omega
    have q3 : IntKind.i64.wrap ((j : Int) + 1) = (j : Int) + 1 := IntWalk.i64_in _ (by omega)
    have p0 := P0.out j (by omega)
    by_cases hji : j < i
    · rw [hl j hji] at p0
      go_wp2
      go_roundw
      case rel => exact ⟨j + 1, by simp, by omega, trivial⟩
      case measure => simp [intOf] <;> omega
    · obtain rfl : j = i := by omega
      rw [ho] at p0
      go_upto_region 6 with fail
      go_quiet (fail)
      go_upto_region 7 with fail
      obtain ⟨w0, hw0⟩ : ∃ w0, w0 = w.drewN nq := ⟨_, rfl⟩
      have H0 : SetAt w0 L c s bs := by rw [hw0]; exact H.out.drewN nq
      have W0 : Went w w0 L L c s s := ⟨by rw [hw0]; exact (Only.refl _ _).drewN nq, fun _ h => .inl h⟩
      rw [← hw0]
      have r0 := H0.p0 hi
      have r2 := H0.p2 hi
      have z1 := H0.fzP (j * 7)
      have z2 := H0.fzP (j * 7 + 2)
      clear c0 c8 c9 cz p0 P0 q1 j2 q3
      replace hw0 := Lib.hid hw0
      replace H0 := Lib.hid H0
      replace W0 := Lib.hid W0
      go_upto_region 8 with fail
      obtain ⟨w1, hw1⟩ : ∃ w1, w1 = (w0.setCell ⟨L.gp, j * 7, none⟩ (.bool true)).setCell ⟨L.gp, j * 7 + 2, none⟩ (.int .i64 (k : Int)) := ⟨_, rfl⟩
      have G1 := (H0.out.pagesB.set j 0 hi (by omega) (.bool true)).set j 2 hi (by omega) (.int .i64 (k : Int))
      rw [Nat.add_zero] at G1
      have o1 : Only (· = L.gp) w0 w1 := by
        rw [hw1]
        exact ((Only.refl (· = L.gp) w0).setCell (p := ⟨L.gp, j * 7, none⟩) (fun _ => rfl) _).setCell (p := ⟨L.gp, j * 7 + 2, none⟩) (fun _ => rfl) _
      rw [← hw1] at G1 ⊢
      have hg1 : L.gp < w1.heap.size := G1.lt
      have r3 := G1.cell j 3 hi (by omega)
      have r4 := G1.cell j 4 hi (by omega)
      have z3 := G1.frozen (j * 7 + 3)
      have z4 := G1.frozen (j * 7 + 4)
      replace hw1 := Lib.hid hw1
      clear r0 r2 z1 z2
      have mU : ∀ W : World, (Instr.makeSlice 159 (.int .i64 (c.cf.n k : Int)) (.int .i64 (c.cf.n k : Int))).run Tryz.prog W = .ok (.slice (some ⟨W.heap.size, 0, none⟩) (c.cf.n k) (c.cf.n k)) (W.alloc (.cells (madeCells (Value.int .u32 0).cells (c.cf.n k * 1)) 165)) :=
        fun W => eiU.make .i64 .i64 (c.cf.n k) (c.cf.n k) (Nat.le_refl _) (by omega) (by omega) W
      have mB : ∀ W : World, (Instr.makeSlice 61 (.int .i64 (c.cf.n k : Int)) (.int .i64 (c.cf.n k : Int))).run Tryz.prog W = .ok (.slice (some ⟨W.heap.size, 0, none⟩) (c.cf.n k) (c.cf.n k)) (W.alloc (.cells (madeCells (Value.bool false).cells (c.cf.n k * 1)) 4)) :=
        fun W => eiB.make .i64 .i64 (c.cf.n k) (c.cf.n k) (Nat.le_refl _) (by omega) (by omega) W
      go_cut [] from 47 to 56 (fun wx => ∃ a b, SetAt wx { L with G := upd L.G j a, T := upd L.T j b } c (freshS s k j) bs ∧ Went w wx L { L with G := upd L.G j a, T := upd L.T j b } c s (freshS s k j))
      case first =>
        generalize hA : Obj.cells (madeCells (Value.int .u32 0).cells (c.cf.n k * 1)) 165 = A at *
        generalize hB : Obj.cells (madeCells (Value.bool false).cells (c.cf.n k * 1)) 4 = B at *
        replace hA := Lib.hid hA
        replace hB := Lib.hid hB
        replace G1 := Lib.hid G1
        replace o1 := Lib.hid o1
        go_region
        · obtain ⟨w2, hw2⟩ : ∃ w2, w2 = (w1.setCell ⟨L.gp, j * 7 + 3, none⟩ (.slice (some ⟨w1.heap.size, 0, none⟩) (c.cf.n k) (c.cf.n k))).setCell ⟨L.gp, j * 7 + 4, none⟩ (.slice (some ⟨w1.heap.size + 1, 0, none⟩) (c.cf.n k) (c.cf.n k)) := ⟨_, rfl⟩
          rw [← hw2]
          have hs2 : w2.heap.size = w1.heap.size := by rw [hw2]; simp
          have G2 := (G1.out.set j 3 hi (by omega) (.slice (some ⟨w1.heap.size, 0, none⟩) (c.cf.n k) (c.cf.n k))).set j 4 hi (by omega) (.slice (some ⟨w1.heap.size + 1, 0, none⟩) (c.cf.n k) (c.cf.n k))
          rw [← hw2] at G2
          have o2 : Only (· = L.gp) w0 w2 := by rw [hw2]; exact (o1.out.setCell (p := ⟨L.gp, j * 7 + 3, none⟩) (fun _ => rfl) _).setCell (p := ⟨L.gp, j * 7 + 4, none⟩) (fun _ => rfl) _
          have GA := Grid.made1 w2 165 (.int .u32 0) (c.cf.n k) rfl
          rw [hA.out, hs2] at GA
          have GB := Grid.made1 (w2.alloc A) 4 (.bool false) (c.cf.n k) rfl
          rw [hB.out, World.size_alloc, hs2] at GB
          have hs := o1.out.size
          have M := H0.out.widen k j w1.heap.size (w1.heap.size + 1) hi ho ((o2.alloc A).alloc B).drew (G2.only (((Only.refl (fun _ => False) w2).alloc A).alloc B).drew (fun e => e)) (GA.only ((Only.refl (fun _ => False) _).alloc B).drew (fun e => e)) GB.drew hs (by omega)
          go_wp2_with fail
          go_meet
          exact ⟨_, _, M.1, W0.out.trans M.2⟩
        · obtain ⟨w2, hw2⟩ : ∃ w2, w2 = (w1.setCell ⟨L.gp, j * 7 + 3, none⟩ (.slice (some ⟨w1.heap.size + 1, 0, none⟩) (c.cf.n k) (c.cf.n k))).setCell ⟨L.gp, j * 7 + 4, none⟩ (.slice (some ⟨w1.heap.size, 0, none⟩) (c.cf.n k) (c.cf.n k)) := ⟨_, rfl⟩
          rw [← hw2]
          have hs2 : w2.heap.size = w1.heap.size := by rw [hw2]; simp
          have G2 := (G1.out.set j 3 hi (by omega) (.slice (some ⟨w1.heap.size + 1, 0, none⟩) (c.cf.n k) (c.cf.n k))).set j 4 hi (by omega) (.slice (some ⟨w1.heap.size, 0, none⟩) (c.cf.n k) (c.cf.n k))
          rw [← hw2] at G2
          have o2 : Only (· = L.gp) w0 w2 := by rw [hw2]; exact (o1.out.setCell (p := ⟨L.gp, j * 7 + 3, none⟩) (fun _ => rfl) _).setCell (p := ⟨L.gp, j * 7 + 4, none⟩) (fun _ => rfl) _
          have GB := Grid.made1 w2 4 (.bool false) (c.cf.n k) rfl
          rw [hB.out, hs2] at GB
          have GA := Grid.made1 (w2.alloc B) 165 (.int .u32 0) (c.cf.n k) rfl
          rw [hA.out, World.size_alloc, hs2] at GA
          have hs := o1.out.size
          have M := H0.out.widen k j (w1.heap.size + 1) w1.heap.size hi ho ((o2.alloc B).alloc A).drew (G2.only (((Only.refl (fun _ => False) w2).alloc B).alloc A).drew (fun e => e)) GA.drew (GB.only ((Only.refl (fun _ => False) _).alloc A).drew (fun e => e)) (by omega) hs
          go_wp2_with fail
          go_meet
          exact ⟨_, _, M.1, W0.out.trans M.2⟩
      case rest =>
        obtain ⟨a, b, H1, W1⟩ := hcut
        have own1 : (freshS s k j).own j = true := upd_at _ _ _
        have cls1 : (freshS s k j).cls j = k := upd_at _ _ _
        have p3 := H1.p3 hi own1
        rw [cls1] at p3
        have GL : ({ L with G := upd L.G j a, T := upd L.T j b } : Lay).G j = a := upd_at _ _ _
        rw [GL] at p3
        clear GL
        replace H1 := Lib.hid H1
        replace W1 := Lib.hid W1
        replace own1 := Lib.hid own1
        replace cls1 := Lib.hid cls1
        clear W0 H0 G1 o1 r3 r4 z3 z4 hw1 hg1 mU mB
        go_wp2
        obtain ⟨L1, hL1⟩ : ∃ L1, L1 = ({ L with G := upd L.G j a, T := upd L.T j b } : Lay) := ⟨_, rfl⟩
        rw [← hL1] at H1 W1
        have eg : L1.g = L.g := by rw [hL1]
        have egp : L1.gp = L.gp := by rw [hL1]
        have egr : L1.gr = L.gr := by rw [hL1]
        have egs : L1.gs = L.gs := by rw [hL1]
        have esc : L1.sc = L.sc := by rw [hL1]
        have eG : L1.G j = a := by rw [hL1]; exact upd_at _ _ _
        have eO : L1.O j = L.O j := by rw [hL1]
        replace hL1 := Lib.hid hL1
        go_loopw [62] (fun v wr => ∃ m : Nat, v = .int .i64 (m : Int) ∧ m ≤ c.cf.n k ∧ Hid (SetAt wr L1 c (freshG c.cf s k j m) bs) ∧ Hid (Went w wr L L1 c s (freshG c.cf s k j m))) (fun v _ => c.cf.n k - (intOf v).toNat)
        case atStart => exact ⟨0, rfl, Nat.zero_le _, by rw [freshG_zero]; exact H1, by rw [freshG_zero]; exact W1⟩
        case round =>
          obtain ⟨m, rfl, hm, HR, WR⟩ := hrel
          clear H1 W1 p3
          have m0 : (0 : Int) ≤ (m : Int) := by omega
          by_cases hmn : m < c.cf.n k
          · have m1 : (m : Int) < (c.cf.n k : Int) := by omega
            have m2 : decide ((m : Int) < (c.cf.n k : Int)) = true := by simp; omega
            have hi1 : j < c.cf.np := hi
            have d8 := HR.out.cSizes
            have dz := HR.out.sz hk
            have p3 := HR.out.p3 hi own1.out
            have p6 := HR.out.p6 hi
            have gz : wr.frozen? ⟨L1.G j, m, none⟩ = false := (HR.out.gensB hi own1.out).frozen m
            have gc := HR.out.gen hi own1.out (x := m) (by show m < c.cf.n (upd s.cls j k j); rw [upd_at]; exact hmn)
            have hB : m * c.sz k ≤ 16384 * 1048576 := Nat.mul_le_mul (by omega) (Nat.le_trans b2 b4)
            have hlk := (HR.out.drew.oldB hi).look (m * c.sz k) (by rw [M63_eq]; omega)
            have hcl : (freshG c.cf s k j m).cls j = k := upd_at _ _ _
            rw [hcl, eG, egp] at p3
            rw [egp, eO] at p6
            rw [eG] at gz gc
            rw [eg, egs, esc] at d8
            rw [egs] at dz
            rw [eO] at hlk
            have qb : IntKind.i64.wrap ((m : Int) * (c.sz k : Int)) = ((m * c.sz k : Nat) : Int) := by rw [Int.natCast_mul]; exact IntWalk.i64_in _ (by rw [← Int.natCast_mul]; omega)
            have q3 : IntKind.i64.wrap ((m : Int) + 1) = (m : Int) + 1 := IntWalk.i64_in _ (by omega)
            have hold : (freshG c.cf s k j m).old j (m * c.sz k) = s.old j (m * c.sz k) := rfl
            rw [hold] at hlk
            have HN : SetAt (wr.drew.setCell ⟨a, m, none⟩ (.int .u32 (s.old j (m * c.sz k) : Int))) L1 c (freshG c.cf s k j (m + 1)) bs := by
              rw [← freshG_succ, ← eG]
              exact HR.out.drew.setGen j m (s.old j (m * c.sz k)) hi own1.out (by show m < c.cf.n (upd s.cls j k j); rw [upd_at]; exact hmn)
            have WN : Went w (wr.drew.setCell ⟨a, m, none⟩ (.int .u32 (s.old j (m * c.sz k) : Int))) L L1 c s (freshG c.cf s k j (m + 1)) := by
              have hb : L1.blk c.cf (freshG c.cf s k j m) (.gens j) = some a := by
                show (if j < c.cf.np ∧ (freshG c.cf s k j m).own j = true then some (L1.G j) else none) = some a
                rw [if_pos ⟨hi, own1.out⟩, eG]
              exact WR.out.trans ⟨(Only.refl _ wr).drew.setCell (p := ⟨a, m, none⟩) (fun _ => ⟨.gens j, hb⟩) _, fun b ⟨p, hp⟩ => .inl ⟨p, by cases p <;> exact hp⟩⟩
            replace HN := Lib.hid HN
            replace WN := Lib.hid WN
            generalize hV : s.old j (m * c.sz k) = V at *
            generalize m * c.sz k = M at *
            clear hold hB hV
            go_upto_region 12 with fail
            go_still_tail 20, (by kernel_rfl)
            change wpList _ _ _ _ _ wr.drew
            go_wp2
            go_roundw
            case rel => exact ⟨m + 1, by simp, by omega, HN, WN⟩
            case measure => simp [intOf] <;> omega
          · obtain rfl : m = c.cf.n k := by omega
            have m2 : decide ((c.cf.n k : Int) < (c.cf.n k : Int)) = false := by simp
            have d10 := HR.out.cRows
            have r2 := HR.out.r2 hk
            have z2 := HR.out.fzR (k * 4 + 2)
            rw [eg, egr] at d10
            rw [egr] at r2 z2
            have hrp : (freshG c.cf s k j (c.cf.n k)).rp k = s.rp k := rfl
            rw [hrp] at r2
            have q4 : IntKind.i64.wrap ((s.rp k : Int) + 1) = (s.rp k : Int) + 1 := IntWalk.i64_in _ (by omega)
            go_upto_region 15 with fail
            obtain ⟨w5, hw5⟩ : ∃ w5, w5 = wr.setCell ⟨L.gr, k * 4 + 2, none⟩ (.int .i64 ((s.rp k : Int) + 1)) := ⟨_, rfl⟩
            rw [← hw5]
            have H5 : SetAt w5 L1 c (widen1 c.cf s k j) bs := by
              rw [hw5, ← egr, show ((s.rp k : Int) + 1) = ((s.rp k + 1 : Nat) : Int) by omega]
              exact HR.out.setRp k (s.rp k + 1) hk
            have W5 : Went w w5 L L1 c s (widen1 c.cf s k j) := by
              rw [hw5]
              exact WR.out.trans ⟨(Only.refl _ wr).setCell (p := ⟨L.gr, k * 4 + 2, none⟩) (fun _ => ⟨.rows, by rw [← egr]; rfl⟩) _, fun b ⟨p, hp⟩ => .inl ⟨p, by cases p <;> exact hp⟩⟩
            have J5 := Lib.hid (JC.out w5 L1 c (widen1 c.cf s k j) bs H5 j k hi (upd_at _ _ _) (upd_at _ _ _) hk hfl (by show s.rs k < _; omega))
            clear d10 r2 z2 hrp q4 HR WR H5 JC
            replace W5 := Lib.hid W5
            replace hw5 := Lib.hid hw5
            go_wp2_with fail
            rw [← eg]
            refine J5.out.mono ?_
            rintro e w6 ⟨rfl, v, H6, W6⟩
            have W7 := W5.out.trans W6
            have d11 : w6.cell? ⟨L.g, 11, none⟩ = some (.int .i64 ((joinS c.cf (widen1 c.cf s k j) j).spare : Int)) := by rw [← eg]; exact H6.cSpare
            have z11 : w6.frozen? ⟨L.g, 11, none⟩ = false := by rw [← eg]; exact H6.fz 11
            have hsp2 : (joinS c.cf (widen1 c.cf s k j) j).spare = s.spare := rfl
            rw [hsp2] at d11
            have q5 : IntKind.i64.wrap ((s.spare : Int) - 1) = ((s.spare - 1 : Nat) : Int) := by rw [IntWalk.i64_in _ (by omega)]; omega
            have H8 : Hid (SetAt (w6.setCell ⟨L.g, 11, none⟩ (.int .i64 ((s.spare - 1 : Nat) : Int))) { L1 with F := upd L1.F k v } c (widenS c.cf s k j) bs) := by rw [← eg]; exact Lib.hid (H6.setSpare (s.spare - 1))
            have W8 : Hid (Went w (w6.setCell ⟨L.g, 11, none⟩ (.int .i64 ((s.spare - 1 : Nat) : Int))) L { L1 with F := upd L1.F k v } c s (widenS c.cf s k j)) :=
              by rw [← eg]; exact Lib.hid (W7.trans ⟨(Only.refl _ w6).setCell (p := ⟨L1.g, 11, none⟩) (fun _ => ⟨.head, rfl⟩) _, fun b ⟨p, hp⟩ => .inl ⟨p, by cases p <;> exact hp⟩⟩)
            have eg2 : Hid (L1.g = L.g ∧ L1.gr = L.gr) := Lib.hid ⟨eg, egr⟩
            generalize s.spare - 1 = sp at *
            clear J5 H6 W6 W7 W5 hsp2
            go_wp2
            go_ret
            exact ⟨rfl, { L1 with F := upd L1.F k v }, eg2.out.1, eg2.out.2, H8.out, W8.out⟩
set_option maxRecDepth 100000 in
theorem widenNo (w : World) (L : Lay) (c : Conf) (s : St) (bs : List UInt8) (h : SetAt w L c s bs) (k : Nat) (hl : ∀ j, j < c.cf.np → s.own j = true) :
    Calls Tryz.prog 97 #[.pointer (some ⟨L.g, 0, none⟩), .int .i64 (k : Int)] w fun e w' => e = .returned (.bool false) ∧ w = w' := by
  have c9 := h.cPages
  have P0 := Lib.hid fun j hj => h.p0 (i := j) hj
  have hnp := h.okc.npb
  clear h
  go_enter Tryz.func97, Tryz.ntmps97
  go_wp2
  go_loopw [14] (fun v wr => ∃ j : Nat, v = .int .i64 (j : Int) ∧ j ≤ c.cf.np ∧ w = wr) (fun v _ => c.cf.np - (intOf v).toNat)
  case atStart => exact ⟨0, rfl, Nat.zero_le _, rfl⟩
  case round =>
    obtain ⟨j, rfl, hj, rfl⟩ := hrel
    have j0 : (0 : Int) ≤ (j : Int) := by omega
    by_cases hji : j < c.cf.np
    · have j1 : (j : Int) < (c.cf.np : Int) := by omega
      have j2 : decide ((j : Int) < (c.cf.np : Int)) = true := by simp; omega
      have q3 : IntKind.i64.wrap ((j : Int) + 1) = (j : Int) + 1 := IntWalk.i64_in _ (by omega)
      have p0 := P0.out j (by omega)
      rw [hl j hji] at p0
      go_wp2
      go_roundw
      case rel => exact ⟨j + 1, by simp, by omega, trivial⟩
      case measure => simp [intOf] <;> omega
    · obtain rfl : j = c.cf.np := by omega
      have j2 : decide ((c.cf.np : Int) < (c.cf.np : Int)) = false := by simp
      go_wp2
      go_ret
      exact ⟨rfl, rfl⟩
end Go.Proofs.YtfjiphibalhcgaaGreat.Cls
/-
  The walk of Take.
-/
namespace Go.Proofs.YtfjiphibalhcgaaGreat.Cls
open Go.RowKit Base MapG
set_option linter.unusedVariables false

/-- The lowest page that is nobody's. -/
def lowFrom (own : Nat → Bool) : Nat → Nat → Option Nat
  | 0, _ => none
  | n + 1, i => if own i then lowFrom own n (i + 1) else some i
def low (d : Cf) (s : St) : Option Nat := lowFrom s.own d.np 0
theorem lowFrom_some {own : Nat → Bool} : ∀ {n i j : Nat}, lowFrom own n i = some j → i ≤ j ∧ j < i + n ∧ own j = false ∧ ∀ x, i ≤ x → x < j → own x = true
  | 0, i, j, h => by cases h
  | n + 1, i, j, h => by
    unfold lowFrom at h
    split at h
    · rename_i h1
      obtain ⟨a, b, e, f⟩ := lowFrom_some h
      refine ⟨by omega, by omega, e, fun x hx hj => ?_⟩
      rcases Nat.lt_or_ge i x with h2 | h2
      · exact f x h2 hj
      · obtain rfl : x = i := by omega
        exact h1
    · rename_i h1
      injection h with h
      subst h
      exact ⟨by omega, by omega, by simpa using h1, fun x a b => by omega⟩
theorem lowFrom_none {own : Nat → Bool} : ∀ {n i : Nat}, lowFrom own n i = none → ∀ x, i ≤ x → x < i + n → own x = true
  | 0, i, _, x, h1, h2 => by omega
  | n + 1, i, h, x, h1, h2 => by
    unfold lowFrom at h
    split at h
    · rename_i h3
      rcases Nat.lt_or_ge i x with h4 | h4
      · exact lowFrom_none h x h4 (by omega)
      · obtain rfl : x = i := by omega
        exact h3
    · cases h
theorem low_some {d : Cf} {s : St} {i : Nat} (h : low d s = some i) : i < d.np ∧ s.own i = false ∧ ∀ j, j < i → s.own j = true := by
  obtain ⟨-, a, b, e⟩ := lowFrom_some h
  exact ⟨by omega, b, fun j hj => e j (by omega) hj⟩
theorem low_none {d : Cf} {s : St} (h : low d s = none) : ∀ j, j < d.np → s.own j = true := fun j hj => lowFrom_none h j (by omega) (by omega)
/-- The state in which a class has a free chunk, if there is room. -/
def roomS (d : Cf) (s : St) (k : Nat) : Option St :=
  match s.free k with
  | [] => match low d s with
    | some i => some (widenS d s k i)
    | none => none
  | _ :: _ => some s
theorem freesTo_ne {d : Cf} {s : St} {i : Nat} : ∀ {n : Nat}, 1 ≤ n → (∀ x, s.tkn i x = false) → freesTo d s i n ≠ []
  | 0, h, _ => by omega
  | n + 1, _, h => by unfold freesTo; rw [if_neg (by rw [h]; simp)]; simp
theorem widen_free {d : Cf} (ok : d.Ok) {s : St} {k i : Nat} (hk : k < d.nc) : (widenS d s k i).free k ≠ [] := by
  have hc : (widen1 d s k i).cls i = k := upd_at _ _ _
  have hne : freesTo d (widen1 d s k i) i (d.n k) ≠ [] := freesTo_ne (n_pos ok hk).1 fun x => by show upd s.tkn i (fun _ => false) i x = false; rw [upd_at]
  show upd (widen1 d s k i).free ((widen1 d s k i).cls i) ((widen1 d s k i).free ((widen1 d s k i).cls i) ++ frees d (widen1 d s k i) i) k ≠ []
  rw [hc, upd_at]
  unfold frees
  rw [hc]
  intro e
  exact hne (List.append_eq_nil_iff.1 e).2
theorem room_good {d : Cf} (ok : d.Ok) {s s1 : St} (g : Good d s) {k : Nat} (hk : k < d.nc) (h : roomS d s k = some s1) : Good d s1 ∧ ∃ l p, s1.free k = l ++ [p] := by
  have key : ∀ l : List Nat, l ≠ [] → ∃ l' p, l = l' ++ [p] := fun l hl => ⟨l.dropLast, l.getLast hl, (List.dropLast_concat_getLast hl).symm⟩
  unfold roomS at h
  split at h
  · split at h
    · rename_i i hlow
      injection h with h
      subst h
      obtain ⟨a, b, -⟩ := low_some hlow
      exact ⟨g.widen ok hk a b, key _ (widen_free ok hk)⟩
    · cases h
  · rename_i a l he
    injection h with h
    subst h
    exact ⟨g, key _ (by rw [he]; simp)⟩
theorem own_drop {w : World} {N n cap : Nat} {A : Option Addr} {e : TypeId} {xs : List Value} {x : Value} (h : w.ownsRow N e 1 (.slice A (n + 1) cap) (n + 1) (xs ++ [x])) : w.ownsRow N e 1 (.slice A n cap) n xs := by
  have hl := h.1
  rw [List.length_append, List.length_singleton] at hl
  have hx : xs.length = n := by omega
  refine ⟨by omega, ?_⟩
  rcases h.2 with ⟨h1, h2⟩ | ⟨g, cap', cur, hv, hB, hg, h1, h2, h3, h4⟩
  · cases h2
  · injection hv with e1 e2 e3
    subst e1 e3
    refine .inr ⟨g, cap, cur, rfl, hB, hg, by omega, h2, h3, ?_⟩
    have h5 := congrArg (List.take n) h4
    rw [List.take_take, List.take_append_of_le_length (by omega), List.take_of_length_le (by omega : xs.length ≤ n)] at h5
    rw [← h5]
    congr 1
    omega
theorem there_of {d : Cf} (ok : d.Ok) {k i x : Nat} (hk : k < d.nc) (hi : i < d.np) (hx : x < d.n k) (a n : Nat) (hn : a + n ≤ 64) : Arena.There d.ps (d.ps * d.np) ((i * d.ps + x * d.sz k + a : Nat) : Int) (n : Int) := by
  obtain ⟨e1, e2, -, e4, -⟩ := place_of ok (i := i) hk hx
  have h64 := (ok.sz k hk).1
  have h1 : (i + 1) * d.ps ≤ d.np * d.ps := Nat.mul_le_mul_right _ hi
  rw [Nat.succ_mul, Nat.mul_comm d.np] at h1
  have hps := ok.ps
  have hm : (i * d.ps + x * d.sz k + a) % d.ps = x * d.sz k + a ∨ n = 0 := by
    rcases Nat.eq_zero_or_pos n with h0 | h0
    · exact .inr h0
    · left
      rw [Nat.add_assoc, Nat.mul_comm i, Nat.mul_add_mod]
      exact Nat.mod_eq_of_lt (by omega)
  refine ⟨by omega, by omega, by omega, ?_⟩
  rcases hm with hm | hm
  · right
    rw [← Int.natCast_emod, hm]
    omega
  · left; omega
end Go.Proofs.YtfjiphibalhcgaaGreat.Cls
/-
  The walk of Give.
-/
namespace Go.Proofs.YtfjiphibalhcgaaGreat.Cls
open Go.RowKit Base MapG
set_option linter.unusedVariables false

theorem findN_some {d : Cf} {s : St} {H i x p : Nat} (g : Good d s) (h : findN d s H = some (i, x, p)) :
    i < d.np ∧ s.own i = true ∧ x < d.n (s.cls i) ∧ s.tkn i x = true ∧ s.gens i x = H / 4294967296 ∧ p = i * d.ps + x * d.sz (s.cls i) ∧ p = (H % 4294967296 - 1) * 8 := by
  unfold findN at h
  generalize hP : (H % 4294967296 - 1) * 8 = P at *
  split at h
  · cases h
  · cases hc : chunkN d s (P : Int) with
    | none => rw [hc] at h; cases h
    | some r =>
      obtain ⟨j, y⟩ := r
      rw [hc] at h
      simp only at h
      split at h
      · rename_i hh
        injection h with h
        injection h with e1 h
        injection h with e2 e3
        subst e1 e2 e3
        unfold chunkN at hc
        split at hc
        · split at hc
          · rename_i h1 h2
            injection hc with hc
            injection hc with e1 e2
            rw [Int.toNat_natCast] at e1 e2 h2
            obtain ⟨a, b, e⟩ := h2
            rw [e1] at a b e e2
            rw [e2] at e
            refine ⟨g.top j a, a, e, hh.1, hh.2, ?_, rfl⟩
            have h3 := Nat.div_add_mod P d.ps
            have h4 := Nat.div_add_mod (P % d.ps) (d.sz (s.cls j))
            rw [e2, b, Nat.add_zero] at h4
            rw [e1, ← h4, Nat.mul_comm d.ps, Nat.mul_comm (d.sz _)] at h3
            exact h3.symm
          · cases hc
        · cases hc
      · cases h
theorem Went.setFree {w w1 w2 : World} {L L1 : Lay} {c : Conf} {s s1 : St} (h : Went w w1 L L1 c s s1) (k : Nat) (hk : k < c.nc) {v : Value} {S : Nat → Prop} (o : Only S w1 w2) (hS : ∀ b, S b → b < w1.heap.size → (L1.F k).ownBlock = some b)
    (hb : ∀ b, v.ownBlock = some b → (L1.F k).ownBlock = some b ∨ w1.heap.size ≤ b) (l : List Nat) : Went w (w2.setCell ⟨L1.gr, k * 4, none⟩ v) L { L1 with F := upd L1.F k v } c s { s1 with free := upd s1.free k l } := by
  have hk' : k < c.cf.nc := hk
  refine h.trans ⟨(o.mono fun b hlt hx => ⟨.free k, (if_pos hk').trans (hS b hx hlt)⟩).setCell (fun _ => ⟨.rows, rfl⟩) _, ?_⟩
  rintro b ⟨p, hp⟩
  by_cases hpk : p = .free k
  · subst hpk
    rw [Lay.blk, if_pos hk'] at hp
    have hp' : (upd L1.F k v k).ownBlock = some b := hp
    rw [upd_at] at hp'
    rcases hb b hp' with h3 | h3
    · exact .inl ⟨.free k, (if_pos hk').trans h3⟩
    · exact .inr h3
  · refine .inl ⟨p, ?_⟩
    cases p with
    | free j =>
      have hj : j ≠ k := fun e => hpk (by rw [e])
      by_cases hjn : j < c.cf.nc
      · rw [Lay.blk, if_pos hjn] at hp ⊢
        have hp' : (upd L1.F k v j).ownBlock = some b := hp
        rw [upd_ne _ _ hj] at hp'
        exact hp'
      · rw [Lay.blk, if_neg hjn] at hp; cases hp
    | _ => exact hp
theorem Good.rt_le {d : Cf} (ok : d.Ok) {s : St} (g : Good d s) {k : Nat} (hk : k < d.nc) : s.rt k ≤ 16777216 := by
  rw [g.rt k hk]
  have key : ∀ n, sumTo (fun j => if s.own j && s.cls j == k then s.held j else 0) n ≤ n * 16384 := by
    intro n
    induction n with
    | zero => exact Nat.le_refl _
    | succ n ih =>
      simp only [sumTo]
      have : (if s.own n && s.cls n == k then s.held n else 0) ≤ 16384 := by
        split
        · rename_i hh
          have ho : s.own n = true := by revert hh; cases s.own n <;> simp
          have hn := g.top n ho
          rw [g.held n hn ho]
          exact Nat.le_trans cnt_le (n_pos ok (g.cls n hn ho)).2
        · omega
      omega
  have h9 := key d.np
  have := ok.npb
  omega
theorem sum_pos {f : Nat → Nat} {i : Nat} : ∀ {n : Nat}, i < n → f i ≤ sumTo f n
  | 0, h => by omega
  | n + 1, h => by
    simp only [sumTo]
    rcases Nat.lt_or_ge i n with h4 | h4
    · have := sum_pos (f := f) h4; omega
    · obtain rfl : i = n := by omega
      omega
theorem Good.rt_pos {d : Cf} (ok : d.Ok) {s : St} (g : Good d s) {i x : Nat} (h1 : i < d.np) (h2 : s.own i = true) (h3 : x < d.n (s.cls i)) (h4 : s.tkn i x = true) : 1 ≤ s.held i ∧ 1 ≤ s.rt (s.cls i) ∧ s.held i ≤ 16384 := by
  have hp : 1 ≤ s.held i := by rw [g.held i h1 h2]; exact cnt_pos h3 h4
  refine ⟨hp, ?_, ?_⟩
  · rw [g.rt _ (g.cls i h1 h2)]
    have := sum_pos (f := fun j => if s.own j && s.cls j == s.cls i then s.held j else 0) h1
    simp only [h2, Bool.true_and, beq_self_eq_true, if_true] at this
    omega
  · rw [g.held i h1 h2]
    exact Nat.le_trans cnt_le (n_pos ok (g.cls i h1 h2)).2
set_option maxRecDepth 100000 in
theorem giveNo (w : World) (L : Lay) (c : Conf) (s : St) (bs : List UInt8) (h : SetAt w L c s bs) (g : Good c.cf s) (H : Nat) (hH : H < 18446744073709551616) (hf : findN c.cf s H = none) :
    Calls Tryz.prog 92 #[.pointer (some ⟨L.g, 0, none⟩), .int .u64 (H : Int)] w fun e w' => e = .returned (.int .i64 20) ∧ ∃ m, w.drewN m = w' := by
  have FC := findC w L c s bs h g H hH
  rw [hf] at FC
  unfold findV at FC
  replace FC := Lib.hid FC
  clear h g hf
  go_enter Tryz.func92, Tryz.ntmps92
  go_wp2_with fail
  refine FC.out.mono ?_
  rintro e w' ⟨rfl, m, rfl⟩
  go_wp2
  go_ret
  exact ⟨rfl, _, rfl⟩
set_option maxRecDepth 100000 in
set_option maxHeartbeats 3200000 in
theorem giveYes (w : World) (L : Lay) (c : Conf) (s : St) (bs : List UInt8) (h : SetAt w L c s bs) (g : Good c.cf s) (H : Nat) (hH : H < 18446744073709551616) (i x p : Nat) (hf : findN c.cf s H = some (i, x, p)) :
    Calls Tryz.prog 92 #[.pointer (some ⟨L.g, 0, none⟩), .int .u64 (H : Int)] w fun e w' => e = .returned (.int .i64 0) ∧
      ∃ L', L'.g = L.g ∧ SetAt w' L' c (giveS c.cf s i x) bs ∧ Went w w' L L' c s (giveS c.cf s i x) := by
  have ok := h.okc
  obtain ⟨h1, h2, h3, h4, -, h6, h7⟩ := findN_some g hf
  have FC := findC w L c s bs h g H hH
  rw [hf] at FC
  unfold findV at FC
  replace FC := Lib.hid FC
  have hk := g.cls i h1 h2
  obtain ⟨r1, r2, r3⟩ := g.rt_pos ok h1 h2 h3 h4
  have r4 := g.rt_le ok hk
  have hfl := g.short ok hk
  have hgen := g.gen i x
  have hn := (n_pos ok hk).2
  have hpb : p ≤ 34359738368 := by omega
  have hG : giveS c.cf s i x = { s with tkn := upd s.tkn i (upd (s.tkn i) x false), held := upd s.held i (s.held i - 1), gens := upd s.gens i (upd (s.gens i) x ((s.gens i x + 1) % 4294967296)), free := if s.lvs i then s.free else upd s.free (s.cls i) (s.free (s.cls i) ++ [p]), rt := upd s.rt (s.cls i) (s.rt (s.cls i) - 1) } := by rw [h6]; rfl
  obtain ⟨k, hkk⟩ : ∃ k, k = s.cls i := ⟨_, rfl⟩
  rw [← hkk] at h3 hk r2 r4 hfl hn hG
  have k0 : (0 : Int) ≤ (k : Int) := by omega
  have hk' : k < c.nc := hk
  have k1 : (k : Int) < (c.nc : Int) := by omega
  have x0 : (0 : Int) ≤ (x : Int) := by omega
  have x1 : (x : Int) < (c.cf.n k : Int) := by omega
  have i0 : (0 : Int) ≤ (i : Int) := by omega
  have i1 : (i : Int) < (c.cf.np : Int) := by omega
  replace hG := Lib.hid hG
  replace h6 := Lib.hid h6
  replace h7 := Lib.hid h7
  have H0 := Lib.hid h
  clear h hf g
  replace hkk := Lib.hid hkk
  go_enter Tryz.func92, Tryz.ntmps92
  go_wp2_with fail
  refine FC.out.mono ?_
  rintro e w1 ⟨rfl, m, hw1⟩
  have H1 : SetAt w1 L c s bs := by rw [← hw1]; exact H0.out.drewN m
  have W1 : Went w w1 L L c s s := by rw [← hw1]; exact (Went.refl w L c s).next ((Only.refl _ _).drewN m) (fun _ => rfl)
  replace hw1 := Lib.hid hw1
  have p4 := H1.p4 h1 h2
  rw [← hkk.out] at p4
  have tk := H1.tk h1 h2 (x := x) (by rw [← hkk.out]; exact h3)
  have zt : w1.frozen? ⟨L.T i, x, none⟩ = false := (H1.tknB h1 h2).frozen x
  have H2 := H1.setTkn i x false h1 h2 (by rw [← hkk.out]; exact h3)
  have W2 := W1.next (L2 := L) (s2 := { s with tkn := upd s.tkn i (upd (s.tkn i) x false) }) (only_at w1 (L.T i) x (.bool false) ⟨.tkn i, if_pos ⟨h1, h2⟩⟩) (fun q => by cases q <;> rfl)
  obtain ⟨w2, hw2⟩ : ∃ w2, w2 = w1.setCell ⟨L.T i, x, none⟩ (.bool false) := ⟨_, rfl⟩
  rw [← hw2] at H2 W2
  replace hw2 := Lib.hid hw2
  replace H2 := Lib.hid H2
  replace W2 := Lib.hid W2
  replace H1 := Lib.hid H1
  replace W1 := Lib.hid W1
  go_upto_region 5 with fail
  rw [← hw2.out]
  have p5 := H2.out.p5 h1
  have z5 := H2.out.fzP (i * 7 + 5)
  have q1 : IntKind.i64.wrap ((s.held i : Int) - 1) = ((s.held i - 1 : Nat) : Int) := by rw [IntWalk.i64_in _ (by omega)]; omega
  have H3 : SetAt (w2.setCell ⟨L.gp, i * 7 + 5, none⟩ (.int .i64 ((s.held i - 1 : Nat) : Int))) L c { s with tkn := upd s.tkn i (upd (s.tkn i) x false), held := upd s.held i (s.held i - 1) } bs := H2.out.setHeld i (s.held i - 1) h1
  have W3 := W2.out.next (L2 := L) (s2 := { s with tkn := upd s.tkn i (upd (s.tkn i) x false), held := upd s.held i (s.held i - 1) }) (only_at w2 L.gp (i * 7 + 5) (.int .i64 ((s.held i - 1 : Nat) : Int)) ⟨.pages, rfl⟩) (fun q => by cases q <;> rfl)
  obtain ⟨w3, hw3⟩ : ∃ w3, w3 = w2.setCell ⟨L.gp, i * 7 + 5, none⟩ (.int .i64 ((s.held i - 1 : Nat) : Int)) := ⟨_, rfl⟩
  rw [← hw3] at H3 W3
  replace hw3 := Lib.hid hw3
  replace H3 := Lib.hid H3
  replace W3 := Lib.hid W3
  clear p4 tk zt H1 W1 hw2
  go_upto_region 6 with fail
  rw [← hw3.out]
  have p3 := H3.out.p3 h1 h2
  have e3 : ({ s with tkn := upd s.tkn i (upd (s.tkn i) x false), held := upd s.held i (s.held i - 1) } : St).cls i = k := hkk.out.symm
  rw [e3] at p3
  have gn : w3.cell? ⟨L.G i, x, none⟩ = some (.int .u32 (s.gens i x : Int)) := H3.out.gen h1 h2 (x := x) (by rw [e3]; exact h3)
  have zg : w3.frozen? ⟨L.G i, x, none⟩ = false := (H3.out.gensB h1 h2).frozen x
  have q2 : IntKind.u32.wrap ((s.gens i x : Int) + 1) = (((s.gens i x + 1) % 4294967296 : Nat) : Int) := by rw [IntKind.wrap_u32']; omega
  obtain ⟨s4, hs4⟩ : ∃ s4, s4 = ({ s with tkn := upd s.tkn i (upd (s.tkn i) x false), held := upd s.held i (s.held i - 1), gens := upd s.gens i (upd (s.gens i) x ((s.gens i x + 1) % 4294967296)) } : St) := ⟨_, rfl⟩
  have H4 : SetAt (w3.setCell ⟨L.G i, x, none⟩ (.int .u32 (((s.gens i x + 1) % 4294967296 : Nat) : Int))) L c s4 bs := by
    rw [hs4]
    exact H3.out.setGen i x ((s.gens i x + 1) % 4294967296) h1 h2 (by rw [e3]; exact h3)
  have W4 : Went w (w3.setCell ⟨L.G i, x, none⟩ (.int .u32 (((s.gens i x + 1) % 4294967296 : Nat) : Int))) L L c s s4 := by
    rw [hs4]
    exact W3.out.next (only_at w3 (L.G i) x _ ⟨.gens i, if_pos ⟨h1, h2⟩⟩) (fun q => by cases q <;> rfl)
  generalize hgv : (s.gens i x + 1) % 4294967296 = gv at *
  obtain ⟨w4, hw4⟩ : ∃ w4, w4 = w3.setCell ⟨L.G i, x, none⟩ (.int .u32 (gv : Int)) := ⟨_, rfl⟩
  rw [← hw4] at H4 W4
  have t1 : s4.cls i = k := by rw [hs4]; exact e3
  have t2 : s4.lvs = s.lvs := by rw [hs4]
  have t3 : s4.free = s.free := by rw [hs4]
  have t4 : s4.rt = s.rt := by rw [hs4]
  replace hgv := Lib.hid hgv
  replace hw4 := Lib.hid hw4
  replace H4 := Lib.hid H4
  replace W4 := Lib.hid W4
  replace hs4 := Lib.hid hs4
  clear p5 z5 q1 H2 W2 hw3
  go_upto_region 7 with fail
  rw [← hw4.out]
  have c10 := H4.out.cRows
  have p2 := H4.out.p2 h1
  rw [t1] at p2
  clear p3 gn zg q2 e3 H3 W3 hw4
  go_quiet (fail)
  go_upto_region 8 with fail
  obtain ⟨w5, hw5⟩ : ∃ w5, w5 = w4.drewN nq := ⟨_, rfl⟩
  rw [← hw5]
  have H5 : SetAt w5 L c s4 bs := by rw [hw5]; exact H4.out.drewN nq
  have W5 : Went w w5 L L c s s4 := by rw [hw5]; exact W4.out.next ((Only.refl _ _).drewN nq) (fun _ => rfl)
  replace hw5 := Lib.hid hw5
  have p1 := H5.p1 h1
  rw [t2] at p1
  replace H5 := Lib.hid H5
  replace W5 := Lib.hid W5
  clear H4 W4 c10 p2
  have q3 : IntKind.i64.wrap ((s.rt k : Int) - 1) = ((s.rt k - 1 : Nat) : Int) := by rw [IntWalk.i64_in _ (by omega)]; omega
  by_cases hl : s.lvs i = true
  · rw [hl] at p1
    have r1' := H5.out.r1 hk'
    have z1' := H5.out.fzR (k * 4 + 1)
    rw [t4] at r1'
    have H6 := H5.out.setRt k (s.rt k - 1) hk'
    have W6 := W5.out.next (L2 := L) (s2 := { s4 with rt := upd s4.rt k (s.rt k - 1) }) (only_at w5 L.gr (k * 4 + 1) (.int .i64 ((s.rt k - 1 : Nat) : Int)) ⟨.rows, rfl⟩) (fun q => by cases q <;> rfl)
    have e : { s4 with rt := upd s4.rt k (s.rt k - 1) } = giveS c.cf s i x := by rw [hG.out, hs4.out, if_pos hl]
    rw [e] at H6 W6
    replace H6 := Lib.hid H6
    replace W6 := Lib.hid W6
    clear e
    go_wp2
    go_ret
    exact ⟨rfl, L, rfl, H6.out, W6.out⟩
  · have hl' : s.lvs i = false := by simpa using hl
    rw [hl'] at p1
    have r0 := H5.out.r0 hk'
    have z0 := H5.out.fzR (k * 4)
    have own := H5.out.freeB hk'
    rw [t3] at own
    obtain ⟨A, cp, hF⟩ := own_is own
    rw [hF] at own r0
    replace hF := Lib.hid hF
    go_upto_region 9 with fail
    go_wp2_with (at_builtin; refine wpList_app rfl _ _ _ rfl eiI 0 _ _ _ rfl (own.alloc _) (w5.heap.size + 1) (some ⟨w5.heap.size, 0, none⟩) 1 1 ([p].map iv) rfl ?c1 ?c2 ?c3 ?c4 ?c5 ?_)
    case c1 => exact reads_one w5 p
    case c2 => exact iv_one _
    case c3 => unfold maxLen; omega
    case c4 => omega
    case c5 => omega
    intro VV w6 hown2 hg2 hat2
    obtain ⟨A2, c2, rfl⟩ := own_is hown2
    have hFb : (L.F k).ownBlock = (Value.slice A (s.free k).length cp).ownBlock := by rw [hF.out]
    have o6 : Only (fun b => (L.F k).ownBlock = some b) w5 w6 := ((Only.refl _ w5).alloc _).grown hg2 (fun j e _ => by rw [hFb]; exact e)
    have hb6 : ∀ b, (Value.slice A2 ((s.free k).length + 1) c2).ownBlock = some b → (L.F k).ownBlock = some b ∨ w5.heap.size ≤ b := by
      intro b e
      rcases hat2 with h3 | h3
      · exact .inl (by rw [hFb, ← h3]; exact e)
      · rw [h3] at e
        injection e with e
        exact .inr (by rw [← e]; simp)
    have own2 : w6.ownsRow 0 3 1 (.slice A2 ((s.free k).length + 1) c2) (s.free k ++ [p]).length ((s.free k ++ [p]).map iv) := by
      rw [List.length_append, List.map_append]; exact hown2
    have H6 := H5.out.setFree k hk' (.slice A2 ((s.free k).length + 1) c2) (s.free k ++ [p]) w6 o6 (fun _ e _ => e) own2 hb6
    have W6 := W5.out.setFree k hk' o6 (fun _ e _ => e) hb6 (s.free k ++ [p])
    have G6 := H5.out.rowsB.only o6 fun e => by
      have := H5.out.inj (.free k) .rows L.gr ((if_pos hk).trans e) rfl
      cases this
    have z0 : w6.frozen? ⟨L.gr, k * 4, none⟩ = false := G6.frozen _
    have r06 : w6.cell? ⟨L.gr, k * 4, none⟩ = some (.slice A (s.free k).length cp) := (G6.cell k 0 hk' (by omega)).trans (congrArg some hF.out)
    clear G6
    obtain ⟨L6, hL6⟩ : ∃ L6, L6 = ({ L with F := upd L.F k (.slice A2 ((s.free k).length + 1) c2) } : Lay) := ⟨_, rfl⟩
    obtain ⟨s6, hs6⟩ : ∃ s6, s6 = ({ s4 with free := upd s4.free k (s.free k ++ [p]) } : St) := ⟨_, rfl⟩
    rw [← hL6, ← hs6] at H6 W6
    have e6g : L6.g = L.g := by rw [hL6]
    have e6r : L6.gr = L.gr := by rw [hL6]
    have t6 : s6.rt = s.rt := by rw [hs6]; exact t4
    have es : ({ s6 with rt := upd s6.rt k (s.rt k - 1) } : St) = giveS c.cf s i x := by
      rw [hG.out, hs6, hs4.out, if_neg hl]
    replace es := Lib.hid es
    replace hL6 := Lib.hid hL6
    replace hs6 := Lib.hid hs6
    replace H6 := Lib.hid H6
    replace W6 := Lib.hid W6
    clear own hown2 hg2 hat2 o6 hb6 own2 hFb r0 H5 W5 hG hs4
    go_upto_region 10 with fail
    obtain ⟨w7, hw7⟩ : ∃ w7, w7 = w6.setCell ⟨L.gr, k * 4, none⟩ (.slice A2 ((s.free k).length + 1) c2) := ⟨_, rfl⟩
    rw [← hw7]
    have H7 : SetAt w7 L6 c s6 bs := by rw [hw7]; exact H6.out
    have W7 : Went w w7 L L6 c s s6 := by rw [hw7]; exact W6.out
    have r1' := H7.r1 hk'
    have z1' := H7.fzR (k * 4 + 1)
    rw [e6r] at r1' z1'
    rw [t6] at r1'
    have H8 := H7.setRt k (s.rt k - 1) hk'
    have W8 := W7.next (L2 := L6) (s2 := { s6 with rt := upd s6.rt k (s.rt k - 1) }) (only_at w7 L6.gr (k * 4 + 1) (.int .i64 ((s.rt k - 1 : Nat) : Int)) ⟨.rows, rfl⟩) (fun q => by cases q <;> rfl)
    rw [es.out, e6r] at H8 W8
    replace H8 := Lib.hid H8
    replace W8 := Lib.hid W8
    replace hw7 := Lib.hid hw7
    clear H6 W6 H7 W7 z0
    go_wp2
    go_ret
    exact ⟨rfl, L6, e6g, H8.out, W8.out⟩
end Go.Proofs.YtfjiphibalhcgaaGreat.Cls
