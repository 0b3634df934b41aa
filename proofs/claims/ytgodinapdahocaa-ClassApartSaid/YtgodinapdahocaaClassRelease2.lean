/-
  The walk of Release: a page becomes nobody's.
-/
import Derived.Test.YtgodinapdahocaaClassRelease
namespace Go.Proofs.Ytgodinapdahocaa.Cls
open Go.RowKit Base MapG
set_option linter.unusedVariables false

theorem nil_eq (W : World) : (binOp BinOp.eql 102 (.map none) (.map none)).run Try.prog W = .ok (.bool true) W := by kernel_rfl
theorem some_eq (W : World) (b : Nat) : (binOp BinOp.eql 102 (.map (some b)) (.map none)).run Try.prog W = .ok (.bool false) W := by kernel_rfl
theorem make_map (w : World) : (Instr.makeMap 102 none).run Try.prog w = .ok (.map (some w.heap.size)) (w.alloc (.map #[] 0)) := by kernel_rfl
set_option maxRecDepth 100000 in
set_option maxHeartbeats 3200000 in
theorem releaseYes (w : World) (L : Lay) (c : Conf) (s : St) (bs : List UInt8) (h : SetAt w L c s bs) (g : Good c.cf s) (i : Nat) (h1 : i < c.cf.np) (h2 : s.own i = true) (h3 : s.lvs i = true) (h4 : s.held i = 0) (hom : s.om i + c.cf.n (s.cls i) ≤ maxLen) :
    Calls Try.prog 32 #[.pointer (some ⟨L.g, 0, none⟩), .int .i64 (i : Int)] w fun e w' => e = .returned (.int .i64 0) ∧
      ∃ L', L'.g = L.g ∧ SetAt w' L' c (releaseS c.cf s i) bs ∧ Went w w' L L' c s (releaseS c.cf s i) := by
  have ok := h.okc
  have OC := ownedC w L c s bs h (i : Int)
  rw [pageN_nat h1 h2] at OC
  unfold pageV at OC
  simp only at OC
  replace OC := Lib.hid OC
  have hk := g.cls i h1 h2
  have hk' : s.cls i < c.nc := hk
  have hrp1 : 1 ≤ s.rp (s.cls i) ∧ s.rp (s.cls i) ≤ 1024 := by
    rw [g.rp _ hk]
    exact ⟨cnt_pos (f := fun j => s.own j && s.cls j == s.cls i) h1 (by simp [h2]), Nat.le_trans cnt_le ok.npb⟩
  have hsp : s.spare ≤ 1024 := by rw [g.spare]; exact Nat.le_trans cnt_le ok.npb
  have hgen := g.gen i
  have hnb := n_pos ok hk
  obtain ⟨z1, z2, -⟩ := ok.sz _ hk
  have hpsb := ok.psb
  have p1 := h.p1 h1
  have p5 := h.p5 h1
  have p6 := h.p6 h1
  have fz := h.fzP (i * 7 + 6)
  rw [h3] at p1
  rw [h4] at p5
  have H0 := Lib.hid h
  clear g
  replace ok := Lib.hid ok
  replace hom := Lib.hid hom
  replace h2 := Lib.hid h2
  replace h3 := Lib.hid h3
  replace h4 := Lib.hid h4
  go_enter Try.func32, Try.ntmps32
  go_wp2_with fail
  refine OC.out.mono ?_
  rintro e w' ⟨rfl, rfl⟩
  clear OC
  have hnil : (binOp BinOp.eql 102 (.map (L.O i)) (.map none)).run Try.prog w = .ok (.bool (L.O i).isNone) w := by
    cases L.O i with
    | none => exact nil_eq w
    | some b => exact some_eq w b
  go_upto_if 29 with fail
  go_cut [] from 28 to 33 (fun wx => ∃ L1 b, Hid (L1.g = L.g ∧ L1.gp = L.gp ∧ L1.gr = L.gr ∧ L1.gs = L.gs ∧ L1.sc = L.sc) ∧ Hid (L1.O i = some b) ∧ Hid (SetAt wx L1 c s bs) ∧ Hid (Went w wx L L1 c s s))
  case first =>
    cases hO : L.O i with
    | none =>
      rw [hO] at p6
      have NM := h.newMap i h1 hO
      have hO1 : ({ L with O := upd L.O i (some w.heap.size) } : Lay).O i = some w.heap.size := upd_at _ _ _
      obtain ⟨L1, hL1⟩ : ∃ L1, L1 = ({ L with O := upd L.O i (some w.heap.size) } : Lay) := ⟨_, rfl⟩
      rw [← hL1] at NM hO1
      have e1 : L1.g = L.g ∧ L1.gp = L.gp ∧ L1.gr = L.gr ∧ L1.gs = L.gs ∧ L1.sc = L.sc := by rw [hL1]; exact ⟨rfl, rfl, rfl, rfl, rfl⟩
      have fz2 : (w.alloc (.map #[] 0)).frozen? ⟨L.gp, i * 7 + 6, none⟩ = false := (frz_alloc w _ L.gp _ h.pagesB.lt).trans fz
      have p62 : (w.alloc (.map #[] 0)).cell? ⟨L.gp, i * 7 + 6, none⟩ = some (.map none) := (cel_alloc w _ L.gp _ h.pagesB.lt).trans p6
      have mk : (Instr.makeMap 102 none).run Try.prog w = .ok (.map (some w.heap.size)) (w.alloc (.map #[] 0)) := make_map w
      replace hL1 := Lib.hid hL1
      replace NM := Lib.hid NM
      replace e1 := Lib.hid e1
      replace hO1 := Lib.hid hO1
      clear h hO
      go_wp2_with fail
      go_meet
      exact ⟨L1, _, e1, hO1, Lib.hid NM.out.1, Lib.hid NM.out.2⟩
    | some b =>
      go_wp2_with fail
      go_meet
      exact ⟨L, b, Lib.hid ⟨rfl, rfl, rfl, rfl, rfl⟩, Lib.hid hO, H0, Lib.hid (Went.refl _ _ _ _)⟩
  case rest =>
    obtain ⟨L1, b, e1, hO1, H1, W1⟩ := hcut
    obtain ⟨eg, egp, egr, egs, esc⟩ := e1.out
    have p3 := H1.out.p3 h1 h2.out
    rw [egp] at p3
    obtain ⟨nn, hnn⟩ : ∃ nn, nn = c.cf.n (s.cls i) := ⟨_, rfl⟩
    rw [← hnn] at p3 hnb hom
    have H1' : Hid (SetAt wc L1 c (relS c.cf s i 0) bs) := by rw [relS_zero]; exact H1
    have W1' : Hid (Went w wc L L1 c s (relS c.cf s i 0)) := by rw [relS_zero]; exact W1
    clear h p1 p5 p6 fz hnil H1 W1
    replace hnn := Lib.hid hnn
    go_wp2_with fail
    clear p3
    go_loopw [39] (fun v wr => ∃ m : Nat, v = .int .i64 (m : Int) ∧ m ≤ nn ∧ Hid (SetAt wr L1 c (relS c.cf s i m) bs) ∧ Hid (Went w wr L L1 c s (relS c.cf s i m))) (fun v _ => nn - (intOf v).toNat)
    case atStart => exact ⟨0, rfl, Nat.zero_le _, H1', W1'⟩
    case round =>
      obtain ⟨m, rfl, hm, HR, WR⟩ := hrel
      have own2 : (relS c.cf s i m).own i = true := h2.out
      have p2 := HR.out.p2 h1
      have ecl : (relS c.cf s i m).cls i = s.cls i := rfl
      rw [ecl, egp] at p2
      by_cases hmn : m < nn
      · have e2 : decide ((m : Int) < (nn : Int)) = true := decide_eq_true (by omega)
        have m0 : (0 : Int) ≤ (m : Int) := by omega
        have m1 : (m : Int) < (nn : Int) := by omega
        have k0 : (0 : Int) ≤ (s.cls i : Int) := by omega
        have k1 : (s.cls i : Int) < (c.nc : Int) := by omega
        have q1 : IntKind.i64.wrap ((m : Int) + 1) = (m : Int) + 1 := IntWalk.i64_in _ (by omega)
        have gn : wr.cell? ⟨L1.G i, m, none⟩ = some (.int .u32 (s.gens i m : Int)) := HR.out.gen h1 own2 (x := m) (by rw [ecl, ← hnn.out]; exact hmn)
        have p6 := HR.out.p6 h1
        have d8 := HR.out.cSizes
        have dz := HR.out.sz hk'
        rw [egp, hO1.out] at p6
        rw [eg, egs, esc] at d8
        rw [egs] at dz
        have hold := HR.out.drew.oldB h1
        rw [hO1.out] at hold
        obtain ⟨f, hM, hf⟩ := hold
        have hn : (relS c.cf s i m).om i = s.om i + m := upd_at _ _ _
        rw [hn] at hM
        have hVb : m * c.cf.sz (s.cls i) ≤ 16384 * 1048576 := Nat.mul_le_mul (by omega) (Nat.le_trans z2 hpsb)
        have qb : IntKind.i64.wrap ((m : Int) * (c.sz (s.cls i) : Int)) = ((m * c.cf.sz (s.cls i) : Nat) : Int) := by
          show IntKind.i64.wrap ((m : Int) * (c.cf.sz (s.cls i) : Int)) = _
          rw [← Int.natCast_mul]
          exact IntWalk.i64_in _ (by omega)
        have hgm := hgen m
        have PO := fun w6 hM6 o6 => HR.out.drew.putOld (w' := w6) h1 (by omega) hO1.out hf rfl o6 hM6
        obtain ⟨V, hV⟩ : ∃ V, V = m * c.cf.sz (s.cls i) := ⟨_, rfl⟩
        rw [← hV] at qb PO hVb
        replace hV := Lib.hid hV
        replace PO := Lib.hid PO
        replace hf := Lib.hid hf
        replace hM := Lib.hid hM
        go_upto_region 11 with fail
        go_still_tail 17, (by kernel_rfl)
        change wpList _ _ _ _ _ wr.drew
        refine wp_put wr.drew rfl _ _ _ rfl b (s.om i + m) f rfl hM.out (by have := hom.out; omega) V (s.gens i m) rfl rfl (by rw [M63_eq]; omega) hgm ?_
        intro w6 hM6 o6 hs6
        have H6 := Lib.hid (PO.out w6 hM6 o6)
        have W6 := Lib.hid (WR.out.next (L2 := L1) (s2 := relS c.cf s i (m + 1)) ((Only.refl _ wr).drew.trans o6 (fun b' _ e => ⟨.old i, by rw [e]; exact (if_pos h1).trans hO1.out⟩)) (fun q => by cases q <;> rfl))
        clear PO hM6 o6 hs6 hM hf gn p6 d8 dz p2 HR WR
        go_wp2
        go_roundw
        case rel => exact ⟨m + 1, by simp, by omega, H6, W6⟩
        case measure => simp [intOf] <;> omega
      · obtain rfl : nn = m := by omega
        have e2 : decide ((nn : Int) < (nn : Int)) = false := by simp
        have k0 : (0 : Int) ≤ (s.cls i : Int) := by omega
        have k1 : (s.cls i : Int) < (c.nc : Int) := by omega
        have c10 := HR.out.cRows
        have r2 := HR.out.r2 hk'
        have zr := HR.out.fzR (s.cls i * 4 + 2)
        rw [eg, egr] at c10
        rw [egr] at r2 zr
        have q1 : IntKind.i64.wrap ((s.rp (s.cls i) : Int) - 1) = ((s.rp (s.cls i) - 1 : Nat) : Int) := by rw [IntWalk.i64_in _ (by omega)]; omega
        have erp : (relS c.cf s i nn).rp (s.cls i) = s.rp (s.cls i) := rfl
        rw [erp] at r2
        obtain ⟨s4, hs4⟩ : ∃ s4, s4 = ({ relS c.cf s i nn with rp := upd s.rp (s.cls i) (s.rp (s.cls i) - 1) } : St) := ⟨_, rfl⟩
        have H4 : SetAt (wr.setCell ⟨L.gr, s.cls i * 4 + 2, none⟩ (.int .i64 ((s.rp (s.cls i) - 1 : Nat) : Int))).drew L1 c s4 bs := by
          rw [hs4, ← egr]
          exact (HR.out.setRp (s.cls i) (s.rp (s.cls i) - 1) hk').drew
        have W4 : Went w (wr.setCell ⟨L.gr, s.cls i * 4 + 2, none⟩ (.int .i64 ((s.rp (s.cls i) - 1 : Nat) : Int))).drew L L1 c s s4 := by
          rw [hs4, ← egr]
          exact WR.out.next ((Only.refl _ wr).setCell (p := ⟨L1.gr, s.cls i * 4 + 2, none⟩) (fun _ => ⟨.rows, rfl⟩) _).drew (fun q => by cases q <;> rfl)
        obtain ⟨w4, hw4⟩ : ∃ w4, w4 = (wr.setCell ⟨L.gr, s.cls i * 4 + 2, none⟩ (.int .i64 ((s.rp (s.cls i) - 1 : Nat) : Int))).drew := ⟨_, rfl⟩
        rw [← hw4] at H4 W4
        replace H4 := Lib.hid H4
        replace W4 := Lib.hid W4
        replace hw4 := Lib.hid hw4
        replace hs4 := Lib.hid hs4
        go_upto_region 13 with fail
        go_still_tail 14, (by kernel_rfl)
        change wpList _ _ _ _ _ wr.drew
        clear HR WR
        go_upto_region 14 with fail
        rw [← hw4.out]
        clear c10 r2 zr q1 erp p2
        have G4 := H4.out.pagesB
        rw [egp] at G4
        have p0 := G4.cell i 0 h1 (by omega)
        have p1 := G4.cell i 1 h1 (by omega)
        have p2 := G4.cell i 2 h1 (by omega)
        have p3 := G4.cell i 3 h1 (by omega)
        have p4 := G4.cell i 4 h1 (by omega)
        have p5 := G4.cell i 5 h1 (by omega)
        have p6 : w4.cell? ⟨L.gp, i * 7 + 6, none⟩ = some (.map (some b)) := by rw [G4.cell i 6 h1 (by omega), ← hO1.out]; rfl
        have f0 := G4.frozen (i * 7)
        have f1 := G4.frozen (i * 7 + 1)
        have f2 := G4.frozen (i * 7 + 2)
        have f3 := G4.frozen (i * 7 + 3)
        have f4 := G4.frozen (i * 7 + 4)
        have f5 := G4.frozen (i * 7 + 5)
        have f6 := G4.frozen (i * 7 + 6)
        rw [Nat.add_zero] at p0
        generalize pv c.cf L1 s4 i 0 = P0 at *
        generalize pv c.cf L1 s4 i 1 = P1 at *
        generalize pv c.cf L1 s4 i 2 = P2 at *
        generalize pv c.cf L1 s4 i 3 = P3 at *
        generalize pv c.cf L1 s4 i 4 = P4 at *
        generalize pv c.cf L1 s4 i 5 = P5 at *
        replace G4 := Lib.hid G4
        obtain ⟨w5, hw5⟩ : ∃ w5, w5 = ((((((w4.setCell ⟨L.gp, i * 7, none⟩ (.bool false)).setCell ⟨L.gp, i * 7 + 1, none⟩ (.bool false)).setCell ⟨L.gp, i * 7 + 2, none⟩ (.int .i64 0)).setCell ⟨L.gp, i * 7 + 3, none⟩ (.slice none 0 0)).setCell
          ⟨L.gp, i * 7 + 4, none⟩ (.slice none 0 0)).setCell ⟨L.gp, i * 7 + 5, none⟩ (.int .i64 0)).setCell ⟨L.gp, i * 7 + 6, none⟩ (.map (some b)) := ⟨_, rfl⟩
        have G5 := ((((((G4.out.set i 0 h1 (by omega) (.bool false)).set i 1 h1 (by omega) (.bool false)).set i 2 h1 (by omega) (.int .i64 0)).set i 3 h1 (by omega) (.slice none 0 0)).set i 4 h1 (by omega) (.slice none 0 0)).set i 5 h1 (by omega) (.int .i64 0)).set i 6 h1 (by omega) (.map (some b))
        rw [Nat.add_zero, ← hw5] at G5
        have o5 : Only (· = L.gp) w4 w5 := by
          rw [hw5]
          exact (((((((Only.refl (· = L.gp) w4).setCell (p := ⟨L.gp, i * 7, none⟩) (fun _ => rfl) _).setCell (p := ⟨L.gp, i * 7 + 1, none⟩) (fun _ => rfl) _).setCell (p := ⟨L.gp, i * 7 + 2, none⟩) (fun _ => rfl) _).setCell (p := ⟨L.gp, i * 7 + 3, none⟩) (fun _ => rfl) _).setCell
            (p := ⟨L.gp, i * 7 + 4, none⟩) (fun _ => rfl) _).setCell (p := ⟨L.gp, i * 7 + 5, none⟩) (fun _ => rfl) _).setCell (p := ⟨L.gp, i * 7 + 6, none⟩) (fun _ => rfl) _
        have GN := H4.out.gone (w' := w5) i h1 (by rw [egp]; exact o5) (by
          rw [egp]
          refine G5.congr fun a j _ hj => ?_
          unfold put2
          by_cases ha : a = i
          · rw [if_pos ha, ha]
            obtain rfl | rfl | rfl | rfl | rfl | rfl | rfl : j = 0 ∨ j = 1 ∨ j = 2 ∨ j = 3 ∨ j = 4 ∨ j = 5 ∨ j = 6 := by omega
            all_goals simp [pv, goneS, upd, rowV, hO1.out]
          · rw [if_neg ha]
            simp [ha])
        have HW : Hid (SetAt w5 L1 c (goneS s4 i) bs) := Lib.hid GN.1
        have WW : Hid (Went w w5 L L1 c s (goneS s4 i)) := Lib.hid (W4.out.trans GN.2)
        replace hw5 := Lib.hid hw5
        clear G4 G5 o5 GN H4 W4 hw4
        go_upto_region 15 with fail
        rw [← hw5.out]
        clear p0 p1 p2 p3 p4 p5 p6 f0 f1 f2 f3 f4 f5 f6 hw5
        have esp : (goneS s4 i).spare = s.spare := by rw [hs4.out]; rfl
        have d11 : w5.cell? ⟨L.g, 11, none⟩ = some (.int .i64 (s.spare : Int)) := by rw [← eg, ← esp]; exact HW.out.cSpare
        have z11 : w5.frozen? ⟨L.g, 11, none⟩ = false := by rw [← eg]; exact HW.out.fz 11
        have q5 : IntKind.i64.wrap ((s.spare : Int) + 1) = ((s.spare + 1 : Nat) : Int) := by rw [IntWalk.i64_in _ (by omega)]; omega
        have es : ({ goneS s4 i with spare := s.spare + 1 } : St) = releaseS c.cf s i := by
          rw [hs4.out]
          unfold releaseS goneS relS
          rw [← hnn.out]
        have H8 : Hid (SetAt (w5.setCell ⟨L.g, 11, none⟩ (.int .i64 ((s.spare + 1 : Nat) : Int))) L1 c (releaseS c.cf s i) bs) := by
          rw [← es, ← eg]
          exact Lib.hid (HW.out.setSpare (s.spare + 1))
        have W8 : Hid (Went w (w5.setCell ⟨L.g, 11, none⟩ (.int .i64 ((s.spare + 1 : Nat) : Int))) L L1 c s (releaseS c.cf s i)) := by
          rw [← es, ← eg]
          exact Lib.hid (WW.out.next (only_at w5 L1.g 11 _ ⟨.head, rfl⟩) (fun q => by cases q <;> rfl))
        have eg2 := Lib.hid eg
        generalize s.spare + 1 = sp at *
        clear HW WW es esp hs4 eg egp egr egs esc
        go_wp2
        go_ret
        exact ⟨rfl, L1, eg2.out, H8.out, W8.out⟩
end Go.Proofs.Ytgodinapdahocaa.Cls
