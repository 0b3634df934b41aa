/-
  Contracts and lemmas, joined: ItemCopiesLaw, ItemTwoC, ItemSets.
-/
import Derived.Test.YtdmclekohalolaaJ6
import Derived.Test.YtdmclekohalolaaJ8
import Derived.Test.YtdmclekohalolaaJ10
import Derived.Test.YtdmclekohalolaaJ11
set_option linter.unusedSimpArgs false
set_option linter.unusedVariables false
/-
  The walk of ItemCopies.
-/
namespace Go.Proofs.Ytdmclekohalolaa.Itm
open Go.RowKit Base Arena Cls Rel
set_option linter.unusedVariables false

def copied (x y : LaidA) (tt : Int) (lk : Bool) (Ak Av An Bk Bv Bn : Option Addr) (ck cv cn dk dv dn : Nat) : Array Value :=
  #[.int .i64 x.cfg, .int .i64 x.cls, .slice Ak x.key.length ck, .slice Av x.val.length cv, .slice An x.nxt.length cn, .int .u64 (x.fl : Int), .int .u64 (x.tk : Int), .int .i64 x.ex, .int .i64 x.tc, .int .i64 x.st, .int .i64 x.ms, .int .i64 tt,
    .int .i64 y.cfg, .int .i64 y.cls, .slice Bk y.key.length dk, .slice Bv y.val.length dv, .slice Bn y.nxt.length dn, .int .u64 (y.fl : Int), .int .u64 (y.tk : Int), .int .i64 y.ex, .int .i64 y.tc, .int .i64 y.st, .int .i64 y.ms, .bool lk]
theorem copied_cells {w : World} {N : Nat} {x y : LaidA} {tt : Int} {lk : Bool} {Ak Av An Bk Bv Bn : Option Addr} {ck cv cn dk dv dn : Nat} (X : Blk w N 65 (copied x y tt lk Ak Av An Bk Bv Bn ck cv cn dk dv dn)) :
    w.cell? ⟨N, 0, none⟩ = some (.int .i64 x.cfg) ∧ w.cell? ⟨N, 1, none⟩ = some (.int .i64 x.cls) ∧ w.cell? ⟨N, 2, none⟩ = some (.slice Ak x.key.length ck) ∧ w.cell? ⟨N, 3, none⟩ = some (.slice Av x.val.length cv) ∧ w.cell? ⟨N, 4, none⟩ = some (.slice An x.nxt.length cn) ∧
    w.cell? ⟨N, 5, none⟩ = some (.int .u64 (x.fl : Int)) ∧ w.cell? ⟨N, 6, none⟩ = some (.int .u64 (x.tk : Int)) ∧ w.cell? ⟨N, 7, none⟩ = some (.int .i64 x.ex) ∧ w.cell? ⟨N, 8, none⟩ = some (.int .i64 x.tc) ∧ w.cell? ⟨N, 9, none⟩ = some (.int .i64 x.st) ∧ w.cell? ⟨N, 10, none⟩ = some (.int .i64 x.ms) ∧
    w.cell? ⟨N, 11, none⟩ = some (.int .i64 tt) ∧
    w.cell? ⟨N, 12, none⟩ = some (.int .i64 y.cfg) ∧ w.cell? ⟨N, 13, none⟩ = some (.int .i64 y.cls) ∧ w.cell? ⟨N, 14, none⟩ = some (.slice Bk y.key.length dk) ∧ w.cell? ⟨N, 15, none⟩ = some (.slice Bv y.val.length dv) ∧ w.cell? ⟨N, 16, none⟩ = some (.slice Bn y.nxt.length dn) ∧
    w.cell? ⟨N, 17, none⟩ = some (.int .u64 (y.fl : Int)) ∧ w.cell? ⟨N, 18, none⟩ = some (.int .u64 (y.tk : Int)) ∧ w.cell? ⟨N, 19, none⟩ = some (.int .i64 y.ex) ∧ w.cell? ⟨N, 20, none⟩ = some (.int .i64 y.tc) ∧ w.cell? ⟨N, 21, none⟩ = some (.int .i64 y.st) ∧ w.cell? ⟨N, 22, none⟩ = some (.int .i64 y.ms) ∧
    w.cell? ⟨N, 23, none⟩ = some (.bool lk) :=
  ⟨X.cell 0, X.cell 1, X.cell 2, X.cell 3, X.cell 4, X.cell 5, X.cell 6, X.cell 7, X.cell 8, X.cell 9, X.cell 10, X.cell 11, X.cell 12, X.cell 13, X.cell 14, X.cell 15, X.cell 16, X.cell 17, X.cell 18, X.cell 19, X.cell 20, X.cell 21, X.cell 22, X.cell 23⟩
theorem ic_two : ∀ k, k < 4 → 2 ≤ (ic k).cf.np
  | 0, _ => by decide
  | 1, _ => by decide
  | 2, _ => by decide
  | 3, _ => by decide
set_option maxRecDepth 100000 in
set_option maxHeartbeats 8000000 in
theorem itemCopiesC (w : World) (x y : LaidA) (ok : x.Ok) (oky : y.Ok) (tt : Int) (hto : Cls.In tt) (lk : Bool) (Ak Av An Bk Bv Bn : Option Addr) (ck cv cn dk dv dn : Nat)
    (kB : Bytes w w.heap.size Ak x.key) (vB : Bytes w w.heap.size Av x.val) (hv : x.val.length ≤ 140737488351232)
    (kB' : Bytes w w.heap.size Bk y.key) (vB' : Bytes w w.heap.size Bv y.val) (hv' : y.val.length ≤ 140737488351232) :
    Calls Try.prog 6 #[.agg (copied x y tt lk Ak Av An Bk Bv Bn ck cv cn dk dv dn)] w fun e w' => e = .returned (.bool true) ∧ Below w.heap.size w w' := by
  obtain ⟨w1, hw1⟩ : ∃ w1, w1 = w.alloc (.cells (copied x y tt lk Ak Av An Bk Bv Bn ck cv cn dk dv dn) 65) := ⟨_, rfl⟩
  have X1 : Blk w1 w.heap.size 65 (copied x y tt lk Ak Av An Bk Bv Bn ck cv cn dk dv dn) := by rw [hw1]; exact Blk.new w _ _
  have b01 : Below w.heap.size w w1 := by rw [hw1]; exact (Below.refl _ _).alloc (Nat.le_refl _) _
  have kB1 := bytes_go kB b01
  have vB1 := bytes_go vB b01
  have kC1 := bytes_go kB' b01
  have vC1 := bytes_go vB' b01
  have CC := itemConfigC x.cfg ok.cfg w1
  have hr : refN (ic (x.cfg % 4).toNat) = 0 := ic_ref _ (withinI_lt x.cfg (n := 4) (by omega))
  have hnp : 2 ≤ (ic (x.cfg % 4).toNat).cf.np := ic_two _ (withinI_lt x.cfg (n := 4) (by omega))
  have fine := x.fine ok.tk
  have finey := y.fine oky.tk
  generalize ic (x.cfg % 4).toNat = c at *
  obtain ⟨cok, -⟩ := okOf hr
  have hcnc : c.cf.nc = c.nc := rfl
  have hnc1 := cok.nc
  have hnc2 := cok.ncb
  rw [hcnc] at hnc1 hnc2
  have NC := Lib.hid (fun w => newC w c)
  have WI1 := Lib.hid (withinI x.cls c.nc ok.cls hnc1 (by omega))
  have WI2 := Lib.hid (withinI tt c.nc hto hnc1 (by omega))
  have hq1 := withinI_lt x.cls (n := c.nc) hnc1
  have hq2 := withinI_lt tt (n := c.nc) hnc1
  generalize (x.cls % (c.nc : Int)).toNat = q1 at *
  generalize (tt % (c.nc : Int)).toNat = q2 at *
  have n0 := fun w => itemNumC w 0
  have n6 := fun w => itemNumC w 6
  have n20 := fun w => itemNumC w 20
  have n8 := fun w => itemNumC w 8
  have WK := Lib.hid itemWakesC
  unfold Conf.cells at CC NC
  obtain ⟨y0, y1, y2, y3, y4, y5, y6, y7, y8, y9, y10, y11, -⟩ := copied_cells X1
  clear y2 y3 y4 y5 y6 y7 y8 y9 y10
  replace CC := Lib.hid CC
  unfold copied at hw1
  unfold copied
  replace hw1 := Lib.hid hw1
  replace b01 := Lib.hid b01
  replace X1 := Lib.hid X1
  replace ok := Lib.hid ok
  replace oky := Lib.hid oky
  replace hto := Lib.hid hto
  replace fine := Lib.hid fine
  replace finey := Lib.hid finey
  replace kB1 := Lib.hid kB1
  replace vB1 := Lib.hid vB1
  replace kC1 := Lib.hid kC1
  replace vC1 := Lib.hid vC1
  clear kB vB kB' vB'
  generalize hN : w.heap.size = NA at *
  replace hN := Lib.hid hN
  go_enter Try.func6, Try.ntmps6
  go_upto_region 1 with fail
  rw [hN.out, ← hw1.out]
  clear hw1
  go_wp2_with fail
  refine CC.out.mono ?_
  rintro e w2 ⟨rfl, b2⟩
  have NC2 := Lib.hid (NC.out w2)
  have l2 := b2.size
  replace b2 := Lib.hid b2
  clear CC NC
  go_wp2_with fail
  refine NC2.out.mono ?_
  rintro e w3 ⟨b3, ⟨h0, -⟩ | ⟨-, L, rfl, M, F⟩⟩
  · exact absurd hr h0
  have b13 := b2.out.trans (b3.mono (B' := w1.heap.size) l2)
  replace b13 := Lib.hid b13
  replace F := Lib.hid (fun d hd => Nat.le_trans l2 (F d hd))
  replace M := Lib.hid M
  have AC := Lib.hid (arenaC w3 L c _ _ M.out)
  clear NC2 b3 b2
  go_wp2_with (first | (go_at_call 8; refine (n0 _).mono ?_; rintro e w' ⟨rfl, rfl⟩) | fail)
  refine AC.out.mono ?_
  rintro e w' ⟨rfl, rfl⟩
  clear AC
  go_wp2_with fail
  refine (WK.out w3).mono ?_
  rintro e w4 ⟨rfl, b4⟩
  have M4 := M.out.kept fun d hd => b4.block d (M.out.lt hd)
  have b14 := b13.out.trans (b4.mono (B' := w1.heap.size) b13.out.size)
  have CL := Lib.hid (classesC w4 L c _ _ M4)
  have X4 := X1.out.below b14 X1.out.lt
  obtain ⟨y0, y1, y2, y3, y4, y5, y6, y7, y8, y9, y10, y11, -⟩ := copied_cells X4
  clear y0 y2 y3 y4 y5 y6 y7 y8 y9 y10
  have e1 : decide ((c.nc : Int) < 1) = false := decide_eq_false (by omega)
  obtain ⟨s1, l1, p1, s3, l3, p2, hr1, hp1, g1, hr2, hp2, g2, t1, t2, hne⟩ := two_take cok hnp hq1 hq2
  have T := takeYes w4 L c _ _ M4 new0_good q1 hq1 s1 hr1 l1 p1 hp1
  have TT := fun w L bs h => takeYes w L c _ bs h g1 q2 hq2 s3 hr2 l3 p2 hp2
  generalize hG1 : s1.gens (p1 / c.cf.ps) (p1 % c.cf.ps / c.sz q1) = G1 at *
  generalize hG2 : s3.gens (p2 / c.cf.ps) (p2 % c.cf.ps / c.sz q2) = G2 at *
  generalize takeS c.cf s1 q1 p1 = sa at *
  generalize takeS c.cf s3 q2 p2 = sb at *
  obtain ⟨hH1, hH2, hH3, hH4, hH5⟩ := t1.hlt cok g2
  obtain ⟨hI1, hI2, hI3, hI4, hI5⟩ := t2.hlt cok g2
  have hfind1 := t1.find cok
  have hfind2 := t2.find cok
  have hcls1 := t1.cl
  have hcls2 := t2.cl
  have hGb1 : G1 < 4294967296 := by have := g2.gen (p1 / c.cf.ps) (p1 % c.cf.ps / c.sz q1); rw [t1.ge] at this; exact this
  have hGb2 : G2 < 4294967296 := by have := g2.gen (p2 / c.cf.ps) (p2 % c.cf.ps / c.sz q2); rw [t2.ge] at this; exact this
  have hap := t1.apart cok t2 hne
  have hz : (List.replicate (c.cf.ps * c.cf.np) (0 : UInt8)).length = c.cf.ps * c.cf.np := List.length_replicate
  generalize List.replicate (c.cf.ps * c.cf.np) (0 : UInt8) = z at *
  obtain ⟨H1, hHe1⟩ : ∃ H, H = hnd p1 G1 := ⟨_, rfl⟩
  obtain ⟨H2, hHe2⟩ : ∃ H, H = hnd p2 G2 := ⟨_, rfl⟩
  have hHne : H1 ≠ H2 := by
    rw [hHe1, hHe2]
    intro e
    rw [← hHe1] at hH3
    rw [e] at hHe1
    rw [hHe1, hI3] at hH3
    obtain ⟨-, -, -, a8, -⟩ := t1.fit cok
    obtain ⟨-, -, -, b8, -⟩ := t2.fit cok
    omega
  rw [← hHe1] at T hfind1 hH1 hH4
  rw [← hHe2] at TT hfind2 hI1 hI2 hI3 hI4
  have hp1 : p1 + 56 ≤ z.length ∧ p1 + c.sz q1 ≤ z.length := by
    obtain ⟨f1, f2, f3, -⟩ := t1.fit cok
    have f4 := (cok.sz q1 hq1).1
    have f5 : c.cf.sz q1 = c.sz q1 := rfl
    rw [hz, Nat.mul_comm c.cf.ps]
    omega
  have hp2 : p2 + 56 ≤ z.length ∧ p2 + c.sz q2 ≤ z.length := by
    obtain ⟨f1, f2, f3, -⟩ := t2.fit cok
    have f4 := (cok.sz q2 hq2).1
    have f5 : c.cf.sz q2 = c.sz q2 := rfl
    rw [hz, Nat.mul_comm c.cf.ps]
    omega
  have hap56 : p1 + 56 ≤ p2 ∨ p2 + 56 ≤ p1 := by
    have f4 := (cok.sz q1 hq1).1
    have f5 := (cok.sz q2 hq2).1
    omega
  obtain ⟨hbl, hgen1, hgen2, hz1, hz2⟩ := take_two (bs := z) (g1 := G1) (g2 := G2) hp1.1 hp2.1 hap56
  have hdH : decide ((H1 : Int) = (H2 : Int)) = false := decide_eq_false (by omega)
  have hdH' : ((H1 : Int) == (H2 : Int)) = false := by rw [beq_eq_false_iff_ne]; omega
  replace T := Lib.hid T
  replace TT := Lib.hid TT
  replace M4 := Lib.hid M4
  replace b14 := Lib.hid b14
  replace hfind1 := Lib.hid hfind1
  replace hfind2 := Lib.hid hfind2
  replace hgen1 := Lib.hid hgen1
  replace hgen2 := Lib.hid hgen2
  replace hz1 := Lib.hid hz1
  replace hz2 := Lib.hid hz2
  replace hbl := Lib.hid hbl
  replace g2 := Lib.hid g2
  clear b4 b13 M WK X4 t1 t2 hr1 hr2 hG1 hG2 g1 hHe1 hHe2
  go_wp2_with (first | (go_at_call 18; refine CL.out.mono ?_; rintro e w' ⟨rfl, rfl⟩) | (go_at_call 19; refine (WI1.out _).mono ?_; rintro e w' ⟨rfl, rfl⟩) | fail)
  refine T.out.mono ?_
  rintro e w6 ⟨rfl, L2, e2, M6, W⟩
  obtain ⟨b46, F6, l6⟩ := W.below F.out b14.out.size
  have b16 := b14.out.trans b46
  have T2 := TT.out w6 L2 _ M6
  rw [e2] at T2
  obtain ⟨y0, y1, y2, y3, y4, y5, y6, y7, y8, y9, y10, y11, -⟩ := copied_cells (X1.out.below b16 X1.out.lt)
  clear y0 y1 y2 y3 y4 y5 y6 y7 y8 y9 y10
  replace T2 := Lib.hid T2
  replace b16 := Lib.hid b16
  replace F6 := Lib.hid F6
  clear T W b46 b14 TT M4 M6 CL F l6
  go_wp2_with (first | (go_at_call 19; refine (WI2.out _).mono ?_; rintro e w' ⟨rfl, rfl⟩) | fail)
  refine T2.out.mono ?_
  rintro e w8 ⟨rfl, L3, e3', M8, W⟩
  obtain ⟨b68, F8, l8⟩ := W.below F6.out b16.out.size
  have b18 := b16.out.trans b68
  have e3 : L3.g = L.g := e3'
  have K1 := Chk.of M8 g2.out hH1 hfind1.out
  have K2 := Chk.of M8 g2.out hI1 hfind2.out
  rw [hcls1, hbl.out] at K1
  rw [hcls2, hbl.out] at K2
  generalize hbs0 : takeB (takeB z p1 G1) p2 G2 = bs0 at *
  generalize z.length = blen at *
  obtain ⟨y0, y1, y2, y3, y4, y5, y6, y7, y8, y9, y10, y11, -⟩ := copied_cells (X1.out.below b18 X1.out.lt)
  clear y11
  have MC := madeC w8 x ok.out Ak Av An ck cv cn (bytes_up kB1.out b18 (Nat.le_refl _))
  have vB8 := bytes_up vB1.out b18 (Nat.le_refl _)
  have hvv : x.it.val = x.val := rfl
  have hkk : x.it.key = rightN x.key := rfl
  rw [← hkk] at MC
  rw [← hvv] at vB8 hv
  generalize hx0 : x.it = t0 at *
  simp only [It.cells_eq] at MC
  rw [LaidA.cells_eq] at MC
  have hhaF : w1.heap.size ≤ L3.ha := F8 _ ⟨.bytes, rfl⟩
  have hhaL : L3.ha < w8.heap.size := M8.lt (b := L3.ha) ⟨.bytes, rfl⟩
  have hNA : NA < w1.heap.size := X1.out.lt
  have C0 : CB w1 w8 L3 c sb bs0 NA (copied x y tt lk Ak Av An Bk Bv Bn ck cv cn dk dv dn) := ⟨M8, X1.out.below b18 X1.out.lt, b18⟩
  replace MC := Lib.hid MC
  replace C0 := Lib.hid C0
  replace K1 := Lib.hid K1
  replace K2 := Lib.hid K2
  replace vB8 := Lib.hid vB8
  clear T2 W b68 b16 F6 M8 b18 F8 hbs0 hfind1 hfind2 hcls1 hcls2
  go_wp2_with fail
  refine MC.out.mono ?_
  rintro e w9 ⟨A', c1, rfl, b9, hA', kB9⟩
  obtain ⟨w10, hw10⟩ : ∃ w10, w10 = w9.alloc (.cells #[.slice A' t0.key.length c1, .slice Av t0.val.length cv, .int .u64 (t0.fl : Int), .int .i64 (t0.ex : Int), .int .i64 (t0.tc : Int), .int .u64 (t0.tk : Int), .int .i64 (t0.st : Int), .int .i64 (t0.ms : Int)] 52) := ⟨_, rfl⟩
  have b910 : Below w9.heap.size w9 w10 := by rw [hw10]; exact (Below.refl _ _).alloc (Nat.le_refl _) _
  have b810 := b9.trans (b910.mono b9.size)
  have I0 : ItB w10 w9.heap.size t0 A' Av c1 cv := ⟨by rw [hw10, ← It.cells_eq]; exact Blk.new w9 _ _, bytes_go kB9 b910, bytes_go vB8.out b810⟩
  have C := C0.out.step b810
  have FA : Away L3.ha w9.heap.size t0 A' Av := ⟨by have := b9.size; omega, fun _ b off e => by have := hA' b off e; omega, fun hne b off e => by
    rw [← hx0] at hne
    have := arg_lt vB1.out hne e
    omega⟩
  obtain ⟨kl1, kl2⟩ := legal_len fine.out.legal
  have hkne : t0.key ≠ [] := fun e => by rw [e] at kl1; simp at kl1
  have hNI0 : w1.heap.size ≤ w9.heap.size := Nat.le_trans (by omega) b9.size
  replace hw10 := Lib.hid hw10
  replace I0 := Lib.hid I0
  replace C := Lib.hid C
  replace FA := Lib.hid FA
  clear MC b9 b910 b810 kB9 vB8 C0 hvv hkk hA' y0 y1 y2 y3 y4 y5 y6 y7 y8 y9 y10
  generalize hNI : w9.heap.size = NI at *
  replace hNI := Lib.hid hNI
  go_upto_region 8 with fail
  rw [hNI.out, ← hw10.out]
  clear hw10 hNI
  obtain ⟨room1, hroom1⟩ : ∃ r, r = c.sz q1 := ⟨_, rfl⟩
  obtain ⟨room2, hroom2⟩ : ∃ r, r = c.sz q2 := ⟨_, rfl⟩
  rw [← hroom1] at K1 hp1
  rw [← hroom2] at K2 hp2
  obtain ⟨m, hmE⟩ : ∃ m, m = 58 + t0.key.length + t0.val.length := ⟨_, rfl⟩
  obtain ⟨z0, z1, z2, z3, z4, z5, z6, z7⟩ := it_cells I0.out.it
  have hcf1 : c.cf.sz q1 = room1 := hroom1.symm
  have hcf2 : c.cf.sz q2 = room2 := hroom2.symm
  rw [hcf1, hcf2] at hap
  replace hap := Lib.hid hap
  replace hp1 := Lib.hid hp1
  replace hp2 := Lib.hid hp2
  replace hmE := Lib.hid hmE
  replace hroom1 := Lib.hid hroom1
  replace hroom2 := Lib.hid hroom2
  clear hcf1 hcf2
  have FIN := Lib.hid (fun wz (h : Below w1.heap.size w1 wz) => b01.out.trans (h.mono (B' := NA) (Nat.le_of_lt hNA)))
  by_cases hfit : m ≤ room1
  · have hlb1 := hbl.out
    have hm1 := hmE.out
    have hfitb : p1 + (58 + t0.key.length + t0.val.length) ≤ bs0.length := by have := hp1.out.2; omega
    have Y := itemLayYes w10 L3 c sb bs0 C.out.set g2.out H1 hH1 _ _ p1 K1.out.hf (by rw [K1.out.hk]; exact hq1) (by omega) (by rw [K1.out.hk, K1.out.sz, hbl.out]; exact K1.out.ck) t0 fine.out (by rw [K1.out.hk, K1.out.sz, ← hmE.out]; exact hfit) A' Av c1 cv w10.heap.size I0.out.kB I0.out.vB (FA.out.k hkne) FA.out.v
    rw [K1.out.hk, itemB_enc bs0 p1 q1 G1 t0 hfitb hgen1.out, e3, It.cells_eq] at Y
    have Hs := Has.lay_ bs0 p1 ⟨0, 0, 0, G1, q1, t0⟩ hfitb
    have hl1 : (lay bs0 p1 (Whole.enc ⟨0, 0, 0, G1, q1, t0⟩)).length = blen := by rw [← hbl.out]; exact lay_len _ _ _ (by rw [Whole.enc_len]; exact hfitb)
    have hgn2 : ((lay bs0 p1 (Whole.enc ⟨0, 0, 0, G1, q1, t0⟩)).drop (p2 + 12)).take 4 = putB 4 G2 := by
      rw [lay_far (by rw [Whole.enc_len]; exact hfitb) (by rw [Whole.enc_len]; have := hap.out; have := K2.out.n64; show p2 + 12 + 4 ≤ p1 ∨ p1 + (58 + t0.key.length + t0.val.length) ≤ p2 + 12; omega)]
      exact hgen2.out
    obtain ⟨bs1, hbs1⟩ : ∃ b, b = lay bs0 p1 (Whole.enc ⟨0, 0, 0, G1, q1, t0⟩) := ⟨_, rfl⟩
    rw [← hbs1] at Y Hs hl1 hgn2
    have rV := Lib.hid (Hs.key_len (by show t0.key.length < 256; omega))
    dsimp only at rV
    replace Y := Lib.hid Y
    replace Hs := Lib.hid Hs
    replace hl1 := Lib.hid hl1
    replace hgn2 := Lib.hid hgn2
    clear hbs1 hlb1 hm1
    go_wp2_with (first | (go_at_call 8; refine (n0 _).mono ?_; rintro e w' ⟨rfl, rfl⟩) | fail)
    refine Y.out.mono ?_
    rintro e w11 ⟨rfl, Mb, ob⟩
    have C1 := C.out.laid hhaF (by omega) Mb ob
    have I1 := I0.out.laid FA.out ob
    obtain ⟨-, -, -, -, -, -, -, -, -, -, -, -, y12, y13, y14, y15, y16, y17, y18, y19, y20, y21, y22, -⟩ := copied_cells C1.arg
    have MD := madeC w11 y oky.out Bk Bv Bn dk dv dn (bytes_up kC1.out C1.below (Nat.le_refl _))
    have vD := bytes_up vC1.out C1.below (Nat.le_refl _)
    have hvv : y.it.val = y.val := rfl
    have hkk : y.it.key = rightN y.key := rfl
    have hhaL1 : L3.ha < w11.heap.size := C1.set.lt (b := L3.ha) ⟨.bytes, rfl⟩
    rw [← hkk] at MD
    rw [← hvv] at vD hv'
    have hvf2 : y.it.val ≠ [] → ∀ b off, Bv = some ⟨b, off, none⟩ → b ≠ L3.ha := fun hne b off e => by have := arg_lt vC1.out hne e; omega
    generalize y.it = t2 at *
    simp only [It.cells_eq] at MD
    rw [LaidA.cells_eq] at MD
    replace MD := Lib.hid MD
    replace C1 := Lib.hid C1
    replace I1 := Lib.hid I1
    replace vD := Lib.hid vD
    clear Y Mb ob C I0 hvv hkk z0 z1 z2 z3 z4 z5 z6 z7 hgen1 hgen2 hz1 hz2
    go_wp2_with (first | (go_at_call 8; refine (n0 _).mono ?_; rintro e w' ⟨rfl, rfl⟩) | fail)
    refine MD.out.mono ?_
    rintro e w12 ⟨B', d1, rfl, b12, hB', kB12⟩
    obtain ⟨w13, hw13⟩ : ∃ w13, w13 = w12.alloc (.cells #[.slice B' t2.key.length d1, .slice Bv t2.val.length dv, .int .u64 (t2.fl : Int), .int .i64 (t2.ex : Int), .int .i64 (t2.tc : Int), .int .u64 (t2.tk : Int), .int .i64 (t2.st : Int), .int .i64 (t2.ms : Int)] 52) := ⟨_, rfl⟩
    have b1213 : Below w12.heap.size w12 w13 := by rw [hw13]; exact (Below.refl _ _).alloc (Nat.le_refl _) _
    have b1113 := b12.trans (b1213.mono b12.size)
    have O3 : ItB w13 w12.heap.size t2 B' Bv d1 dv := ⟨by rw [hw13, ← It.cells_eq]; exact Blk.new w12 _ _, bytes_go kB12 b1213, bytes_go vD.out b1113⟩
    have C3 := C1.out.step b1113
    have I3 := I1.out.step b1113
    have FO : Away L3.ha w12.heap.size t2 B' Bv := ⟨by have := b12.size; omega, fun _ b off e => by have := hB' b off e; omega, hvf2⟩
    obtain ⟨-, -, -, -, -, -, -, -, -, -, -, -, -, -, -, -, -, -, -, -, -, -, -, y23⟩ := copied_cells C3.arg
    obtain ⟨x0, x1, x2, x3, x4, x5, x6, x7⟩ := it_cells O3.it
    replace hw13 := Lib.hid hw13
    replace O3 := Lib.hid O3
    replace C3 := Lib.hid C3
    replace I3 := Lib.hid I3
    replace FO := Lib.hid FO
    clear MD b12 b1213 b1113 kB12 hB' vD hvf2 y12 y13 y14 y15 y16 y17 y18 y19 y20 y21 y22
    generalize hNO : w12.heap.size = NO at *
    replace hNO := Lib.hid hNO
    go_upto_region 13 with fail
    rw [hNO.out, ← hw13.out]
    clear hw13 hNO
    go_upto_if 103 with fail
    go_cut [] from 104 to 113 (fun wx => ∃ bsX l, Hid (CB w1 wx L3 c sb bsX NA (copied x y tt lk Ak Av An Bk Bv Bn ck cv cn dk dv dn)) ∧ Hid (ItB wx NI t0 A' Av c1 cv) ∧ Hid (Has bsX p1 ⟨0, l, 0, G1, q1, t0⟩) ∧ Hid (bsX.length = blen) ∧ Hid ((bsX.drop (p2 + 12)).take 4 = putB 4 G2))
    case first =>
      cases lk with
      | false =>
        go_wp2
        go_meet
        exact ⟨bs1, 0, C3, I3, Hs, hl1, hgn2⟩
      | true =>
        have SL := setLinkTo w13 L3 c sb bs1 C3.out.set g2.out (by rw [hl1.out]; exact K1.out) (by rw [rV.out]; omega) 1 (by omega) H2 hI1 hI2 K2.out.hf
        have hlf : p1 + 4 + 4 ≤ bs1.length := by have := hp1.out.1; have := hl1.out; omega
        have Hs2 := Hs.out.set_l1 (v := H2 % 4294967296)
        have hl2 : (lay bs1 (p1 + 4) (putB 4 (H2 % 4294967296))).length = blen := by rw [putlen _ _ _ _ hlf]; exact hl1.out
        have hgn3 : ((lay bs1 (p1 + 4) (putB 4 (H2 % 4294967296))).drop (p2 + 12)).take 4 = putB 4 G2 := by
          rw [lay_far (by rw [putB_len]; exact hlf) (by rw [putB_len]; have := hap.out; have := K2.out.n64; have := K1.out.n64; omega)]
          exact hgn2.out
        rw [show p1 + 4 * 1 = p1 + 4 from rfl, e3, show ((1 : Nat) : Int) = 1 from rfl] at SL
        generalize lay bs1 (p1 + 4) (putB 4 (H2 % 4294967296)) = bs2 at *
        replace SL := Lib.hid SL
        replace Hs2 := Lib.hid Hs2
        replace hl2 := Lib.hid hl2
        replace hgn3 := Lib.hid hgn3
        clear Hs hgn2 rV
        go_wp2_with fail
        refine SL.out.mono ?_
        rintro e w14 ⟨rfl, Mb, ob⟩
        have C4 := C3.out.laid hhaF (by omega) Mb ob
        have I4 := I3.out.laid FA.out ob
        have O4 := O3.out.laid FO.out ob
        obtain ⟨x0, x1, x2, x3, x4, x5, x6, x7⟩ := it_cells O4.it
        obtain ⟨kl1', kl2'⟩ := legal_len finey.out.legal
        have hkne2 : t2.key ≠ [] := fun e => by rw [e] at kl1'; simp at kl1'
        by_cases hfit2 : 58 + t2.key.length + t2.val.length ≤ room2
        · have hfitb2 : p2 + (58 + t2.key.length + t2.val.length) ≤ bs2.length := by have := hp2.out.2; have := hl2.out; omega
          have Y := itemLayYes w14 L3 c sb bs2 C4.set g2.out H2 hI1 _ _ p2 K2.out.hf (by rw [K2.out.hk]; exact hq2) (by omega) (by rw [K2.out.hk, K2.out.sz, hl2.out]; exact K2.out.ck) t2 finey.out (by rw [K2.out.hk, K2.out.sz]; exact hfit2) B' Bv d1 dv w14.heap.size O4.kB O4.vB (FO.out.k hkne2) FO.out.v
          rw [K2.out.hk, itemB_enc bs2 p2 q2 G2 t2 hfitb2 hgn3.out, e3, It.cells_eq] at Y
          have Hs3 : Has (lay bs2 p2 (Whole.enc ⟨0, 0, 0, G2, q2, t2⟩)) p1 ⟨0, H2 % 4294967296, 0, G1, q1, t0⟩ := Seg.far Hs2.out p2 _ (by rw [Whole.enc_len]; exact hfitb2) (by
            rw [Whole.enc_len]
            show p2 + (58 + t2.key.length + t2.val.length) ≤ p1 ∨ p1 + (lns t0.key.length t0.val.length).sum ≤ p2
            rw [lns_sum]
            have := hap.out; have := hmE.out; omega)
          have hl3 : (lay bs2 p2 (Whole.enc ⟨0, 0, 0, G2, q2, t2⟩)).length = blen := by rw [← hl2.out]; exact lay_len _ _ _ (by rw [Whole.enc_len]; exact hfitb2)
          have hgn4 := gen_lay (l := bs2) (p := p2) (I := ⟨0, 0, 0, G2, q2, t2⟩) hfitb2
          dsimp only at hgn4
          generalize lay bs2 p2 (Whole.enc ⟨0, 0, 0, G2, q2, t2⟩) = bs3 at *
          replace Y := Lib.hid Y
          replace Hs3 := Lib.hid Hs3
          replace hl3 := Lib.hid hl3
          replace hgn4 := Lib.hid hgn4
          replace C4 := Lib.hid C4
          replace I4 := Lib.hid I4
          replace O4 := Lib.hid O4
          clear SL Mb ob C3 I3 O3
          go_wp2_with (first | (go_at_call 8; refine (n0 _).mono ?_; rintro e w' ⟨rfl, rfl⟩) | fail)
          refine Y.out.mono ?_
          rintro e w15 ⟨rfl, Mb, ob⟩
          have C5 := Lib.hid (C4.out.laid hhaF (by omega) Mb ob)
          have I5 := Lib.hid (I4.out.laid FA.out ob)
          clear Y Mb ob C4 I4 O4 x0 x1 x2 x3 x4 x5 x6 x7
          go_wp2
          go_meet
          exact ⟨bs3, _, C5, I5, Hs3, hl3, hgn4⟩
        · have LL := layLong w14 L3 c sb bs2 C4.set g2.out t2.raw B' Bv d1 dv (by rw [hl2.out]; exact K2.out) O4.kB (by show t2.key.length ≤ maxLen; unfold maxLen; omega) (by show t2.val.length ≤ maxLen; unfold maxLen; omega) finey.out.legal (by show room2 < 58 + t2.key.length + t2.val.length; omega)
          rw [It.raw_cells, It.cells_eq, e3] at LL
          replace LL := Lib.hid LL
          replace C4 := Lib.hid C4
          replace I4 := Lib.hid I4
          replace O4 := Lib.hid O4
          clear SL Mb ob C3 I3 O3
          go_wp2_with (first | (go_at_call 8; refine (n0 _).mono ?_; rintro e w' ⟨rfl, rfl⟩) | fail)
          refine LL.out.mono ?_
          rintro e w15 ⟨rfl, b15⟩
          have C5 := Lib.hid (C4.out.step b15)
          have I5 := Lib.hid (I4.out.step b15)
          clear LL b15 C4 I4 O4 x0 x1 x2 x3 x4 x5 x6 x7
          go_wp2
          go_meet
          exact ⟨bs2, _, C5, I5, Hs2, hl2, hgn3⟩
    case rest =>
      obtain ⟨bs, l, C4, I4, Hs4, hl4, hgn4⟩ := hcut
      clear C3 I3 O3 FO Hs hl1 hgn2 y23 x0 x1 x2 x3 x4 x5 x6 x7 rV C1 I1 finey kB1 vB1 kC1 vC1
      have sC := Lib.hid (show w1.heap.size ≤ wc.heap.size from C4.out.below.size)
      have haC := Lib.hid (show L3.ha < wc.heap.size from C4.out.set.lt (b := L3.ha) ⟨.bytes, rfl⟩)
      have K1' := K1.out
      have K2' := K2.out
      rw [← hl4.out] at K1' K2'
      have A1 := chunkOfC wc L3 c sb bs C4.out.set g2.out K1'
      have hlf : ((bs.drop p1).take room1).length = room1 := by have := hp1.out.2; have := hl4.out; simp; omega
      have hlw : ((bs.drop p2).take room2).length = room2 := by have := hp2.out.2; have := hl4.out; simp; omega
      rw [e3] at A1
      have n641 := K1.out.n64
      have nb1 := K1.out.nb
      have n642 := K2.out.n64
      have nb2 := K2.out.nb
      replace hlf := Lib.hid hlf
      replace hlw := Lib.hid hlw
      replace A1 := Lib.hid A1
      go_wp2_with fail
      refine A1.out.mono ?_
      rintro e wd ⟨bf, rfl, hbf, Bf, bd⟩
      have C5 := C4.out.step bd
      have I5 := I4.out.step bd
      have A2 := chunkOfC wd L3 c sb bs C5.set g2.out K2'
      rw [e3] at A2
      replace A2 := Lib.hid A2
      replace C5 := Lib.hid C5
      replace I5 := Lib.hid I5
      replace Bf := Lib.hid Bf
      have sd := Lib.hid bd.size
      clear A1 bd C4 I4
      go_wp2_with fail
      refine A2.out.mono ?_
      rintro e we ⟨bw, rfl, hbw, Bw, be⟩
      have C6 := C5.out.step be
      have I6 := I5.out.step be
      replace Bf := Lib.hid (BB.go Bf.out be)
      obtain ⟨z0, z1, z2, z3, z4, z5, z6, z7⟩ := it_cells I6.it
      have haf : bf ≠ L3.ha := by have := haC.out; omega
      have haw : bw ≠ L3.ha := by have := haC.out; have := sd.out; omega
      replace Bw := Lib.hid Bw
      replace C6 := Lib.hid C6
      replace I6 := Lib.hid I6
      clear A2 be C5 I5 hbf hbw sd
      obtain ⟨K58, hK58⟩ : ∃ K58, K58 = 58 + t0.key.length := ⟨_, rfl⟩
      have g1q : IntKind.i64.wrap (58 + (t0.key.length : Int)) = (K58 : Int) := by rw [IntWalk.i64_in _ (by omega)]; omega
      have g2q : IntKind.i64.wrap ((K58 : Int) + (t0.val.length : Int)) = (m : Int) := by rw [IntWalk.i64_in _ (by omega)]; have := hmE.out; omega
      have r1z : ((room1 : Int) == 0) = false := by rw [beq_eq_false_iff_ne]; omega
      have r1z' : decide ((room1 : Int) = 0) = false := decide_eq_false (by omega)
      have r2e : ((room2 : Int) != (room2 : Int)) = false := by simp
      have r2e' : decide ((room2 : Int) ≠ (room2 : Int)) = false := by simp
      replace hK58 := Lib.hid hK58
      by_cases hfit2 : m ≤ room2
      · have d5 : decide ((room2 : Int) < (m : Int)) = false := decide_eq_false (by omega)
        have d55 : decide (room2 < m) = false := decide_eq_false (by omega)
        have hfitb : p2 + (58 + t0.key.length + t0.val.length) ≤ bs.length := by have := hp2.out.2; have := hl4.out; have := hmE.out; omega
        have CY := copyYes we L3 c sb bs C6.out.set g2.out K2' K1' ⟨0, l, 0, G1, q1, t0⟩ Hs4.out fine.out (Ne.symm hHne) (by show t0.val.length ≤ 1048576; have := hmE.out; omega) (by show 58 + t0.key.length + t0.val.length ≤ room1; have := hmE.out; omega) (by show 58 + t0.key.length + t0.val.length ≤ room2; have := hmE.out; omega)
        dsimp only at CY
        obtain ⟨t4, ht4⟩ : ∃ t4 : It, t4 = { t0 with st := 4 } := ⟨_, rfl⟩
        rw [← ht4] at CY
        have tk4 : t4.key = t0.key := by rw [ht4]
        have tv4 : t4.val = t0.val := by rw [ht4]
        have fine4 : t4.Fine := by rw [ht4]; exact ⟨fine.out.legal, fine.out.fl, fine.out.ex, fine.out.tc, fine.out.tk, by show 1 ≤ 4; omega, by show 4 ≤ 4; omega, fine.out.ms⟩
        have hfitb4 : p2 + (58 + t4.key.length + t4.val.length) ≤ bs.length := by rw [tk4, tv4]; exact hfitb
        have hm4 : m = 58 + t4.key.length + t4.val.length := by rw [tk4, tv4]; exact hmE.out
        rw [itemB_enc bs p2 q2 G2 t4 hfitb4 hgn4.out, e3] at CY
        have hpl2 : p2 + room2 ≤ bs.length := K2'.ck.all
        have hpl1 : p1 + room1 ≤ bs.length := K1'.ck.all
        have HsB := Has.lay_ bs p2 ⟨0, 0, 0, G2, q2, t4⟩ hfitb4
        have hlY : (lay bs p2 (Whole.enc ⟨0, 0, 0, G2, q2, t4⟩)).length = blen := by rw [← hl4.out]; exact lay_len _ _ _ (by rw [Whole.enc_len]; exact hfitb4)
        have hE1 := enc_take (l := bs) (p := p2) (n := room2) (I := ⟨0, 0, 0, G2, q2, t4⟩) hpl2 (by show 58 + t4.key.length + t4.val.length ≤ room2; omega)
        have hR1 := rest_same (l := bs) (p := p2) (n := room2) (m := m) (q := Whole.enc ⟨0, 0, 0, G2, q2, t4⟩) hpl2 (by rw [Whole.enc_len]; exact hm4.symm) hfit2
        have hap' := hap.out
        have hF1 : ((lay bs p2 (Whole.enc ⟨0, 0, 0, G2, q2, t4⟩)).drop p1).take room1 = (bs.drop p1).take room1 := lay_far (by rw [Whole.enc_len]; exact hfitb4) (by rw [Whole.enc_len]; show p1 + room1 ≤ p2 ∨ p2 + (58 + t4.key.length + t4.val.length) ≤ p1; omega)
        have HsA : Has (lay bs p2 (Whole.enc ⟨0, 0, 0, G2, q2, t4⟩)) p1 ⟨0, l, 0, G1, q1, t0⟩ := Seg.far Hs4.out p2 _ (by rw [Whole.enc_len]; exact hfitb4) (by
          rw [Whole.enc_len]
          show p2 + (58 + t4.key.length + t4.val.length) ≤ p1 ∨ p1 + (lns t0.key.length t0.val.length).sum ≤ p2
          rw [lns_sum]
          have := hmE.out; omega)
        dsimp only at hE1
        rw [← hm4] at hE1
        obtain ⟨bs5, hbs5⟩ : ∃ b, b = lay bs p2 (Whole.enc ⟨0, 0, 0, G2, q2, t4⟩) := ⟨_, rfl⟩
        rw [← hbs5] at CY HsB hlY hE1 hR1 hF1 HsA
        have rV := Lib.hid (HsB.key_len (by show t4.key.length < 256; rw [tk4]; omega))
        have rU := Lib.hid (HsB.val_len (by show t4.val.length < 4294967296; rw [tv4]; have := hmE.out; omega))
        have rex := Lib.hid (HsB.ex (by have := fine4.ex; show t4.ex < 18446744073709551616; omega))
        have rtc := Lib.hid (HsB.tc (by have := fine4.tc; show t4.tc < 18446744073709551616; omega))
        have rtk := Lib.hid (HsB.tk fine4.tk)
        have rfl_ := Lib.hid (HsB.fl fine4.fl)
        have rst := Lib.hid (HsB.st (by have := fine4.st4; show t4.st < 256; omega))
        have rms := Lib.hid (HsB.ms (by have := fine4.ms; show t4.ms < 256; omega))
        have rkey := Lib.hid HsB.key
        have rval := Lib.hid HsB.val
        dsimp only at rV rU rex rtc rtk rfl_ rst rms rkey rval
        have s4 : t4.st = 4 := by rw [ht4]
        have hi4 : (t4.fl = t0.fl ∧ t4.ex = t0.ex ∧ t4.tc = t0.tc ∧ t4.tk = t0.tk ∧ t4.ms = t0.ms) := by rw [ht4]; exact ⟨rfl, rfl, rfl, rfl, rfl⟩
        replace CY := Lib.hid CY
        replace HsA := Lib.hid HsA
        replace HsB := Lib.hid HsB
        replace hlY := Lib.hid hlY
        replace hE1 := Lib.hid hE1
        replace hR1 := Lib.hid hR1
        replace hF1 := Lib.hid hF1
        replace fine4 := Lib.hid fine4
        replace hm4 := Lib.hid hm4
        replace tk4 := Lib.hid tk4
        replace tv4 := Lib.hid tv4
        replace s4 := Lib.hid s4
        replace hi4 := Lib.hid hi4
        replace ht4 := Lib.hid ht4
        clear K1' K2' hbs5 hgn4
        go_wp2_with fail
        refine CY.out.mono ?_
        rintro e wf ⟨rfl, Mb, ob⟩
        have C7 := C6.out.laid hhaF (by omega) Mb ob
        have I7 := I6.out.laid FA.out ob
        have Bf7 : BB wf 5 bf ((bs.drop p1).take room1) := (ob.block bf Bf.out.lt haf).trans Bf.out
        have Bw7 : BB wf 5 bw ((bs.drop p2).take room2) := (ob.block bw Bw.out.lt haw).trans Bw.out
        have A3 := chunkOfC wf L3 c sb bs5 C7.set g2.out (by rw [hlY.out]; exact K2.out)
        rw [e3] at A3
        replace A3 := Lib.hid A3
        replace Bf7 := Lib.hid Bf7
        replace Bw7 := Lib.hid Bw7
        replace C7 := Lib.hid C7
        replace I7 := Lib.hid I7
        clear CY Mb ob C6 I6 z0 z1 z2 z3 z4 z5 z6 z7 Bf Bw Hs4
        go_wp2_with fail
        refine A3.out.mono ?_
        rintro e wg ⟨bn, rfl, hbn, Bn, bg⟩
        have C8 := C7.out.step bg
        have I8 := I7.out.step bg
        have A4 := chunkOfC wg L3 c sb bs5 C8.set g2.out (by rw [hlY.out]; exact K1.out)
        rw [e3, hF1.out] at A4
        replace A4 := Lib.hid A4
        have Bf8 := Lib.hid (BB.go Bf7.out bg)
        have Bw8 := Lib.hid (BB.go Bw7.out bg)
        replace Bn := Lib.hid Bn
        replace C8 := Lib.hid C8
        replace I8 := Lib.hid I8
        clear A3 bg C7 hbn I7 Bf7 Bw7
        go_wp2_with fail
        refine A4.out.mono ?_
        rintro e wh ⟨ba, rfl, hba, Ba, bh⟩
        have E1 := Lib.hid (eq_whole Ba (BB.go Bf8.out bh) hlf.out)
        have C9 := C8.out.step bh
        have I9 := I8.out.step bh
        have Bf9 := Lib.hid (BB.go Bf8.out bh)
        have Bw9 := Lib.hid (BB.go Bw8.out bh)
        have Bn9 := Lib.hid (BB.go Bn.out bh)
        obtain ⟨z0, z1, z2, z3, z4, z5, z6, z7⟩ := it_cells I9.it
        obtain ⟨w14, hw14⟩ : ∃ w14, w14 = wh.alloc (.cells #[.slice A' t0.key.length c1, .slice Av t0.val.length cv, .int .u64 (t0.fl : Int), .int .i64 (t0.ex : Int), .int .i64 (t0.tc : Int), .int .u64 (t0.tk : Int), .int .i64 4, .int .i64 (t0.ms : Int)] 52) := ⟨_, rfl⟩
        replace C9 := Lib.hid C9
        replace I9 := Lib.hid I9
        replace hw14 := Lib.hid hw14
        clear A4 bh C8 I8 Bf8 Bw8 Bn Ba hba
        go_wp2_with (first | (go_at_call 26; refine E1.out.mono ?_; rintro e w' ⟨rfl, rfl⟩) | fail)
        rw [← hw14.out]
        have bh14 : Below wh.heap.size wh w14 := by rw [hw14.out]; exact (Below.refl _ _).alloc (Nat.le_refl _) _
        have C10 := C9.out.step bh14
        have I10 := I9.out.step bh14
        have J10 : ItB w14 wh.heap.size t4 A' Av c1 cv := by
          refine ⟨?_, ?_, ?_⟩
          · rw [hw14.out, ht4.out]; exact Blk.new wh _ _
          · rw [tk4.out]; exact I10.kB
          · rw [tv4.out]; exact I10.vB
        have Bf10 := Lib.hid (BB.go Bf9.out bh14)
        have Bw10 := Lib.hid (BB.go Bw9.out bh14)
        have Bn10 := Lib.hid (BB.go Bn9.out bh14)
        have AT := atC w14 L3 c sb bs5 C10.set g2.out H2 hI1
        rw [K2.out.hf, e3] at AT
        unfold atV at AT
        simp only [K2.out.hk] at AT
        have hNK0 := Lib.hid (show L3.ha < wh.heap.size from C9.out.set.lt (b := L3.ha) ⟨.bytes, rfl⟩)
        replace AT := Lib.hid AT
        replace C10 := Lib.hid C10
        replace I10 := Lib.hid I10
        replace J10 := Lib.hid J10
        clear bh14 C9 I9 Bf9 Bw9 Bn9 z0 z1 z2 z3 z4 z5 z6 z7 hw14
        generalize hNK : wh.heap.size = NK at *
        replace hNK := Lib.hid hNK
        refine AT.out.mono ?_
        rintro e wi ⟨rfl, mi, rfl⟩
        have C11 := C10.out.drewN mi
        have I11 := I10.out.drewN mi
        have J11 := J10.out.drewN mi
        have RD := readYes (w14.drewN mi) L3 c sb bs5 C11.set g2.out (by rw [hlY.out]; exact K2.out) t4.key.length t4.val.length rV.out.symm rU.out.symm (by rw [tk4.out]; omega) (by rw [← hm4.out]; exact hfit2) (by rw [rex.out]; exact fine4.out.ex) (by rw [rtc.out]; exact fine4.out.tc)
        simp only [rex.out, rtc.out, rtk.out, rfl_.out, rst.out, rms.out, rkey.out, rval.out] at RD
        rw [e3] at RD
        have bdr : Below w14.heap.size w14 (w14.drewN mi) := below_drew (Below.refl _ _) mi
        have Bf11 := Lib.hid (BB.go Bf10.out bdr)
        have Bw11 := Lib.hid (BB.go Bw10.out bdr)
        have Bn11 := Lib.hid (BB.go Bn10.out bdr)
        obtain ⟨wk, hwk⟩ : ∃ wk, w14.drewN mi = wk := ⟨_, rfl⟩
        rw [hwk] at C11 I11 J11 RD Bf11 Bw11 Bn11
        replace RD := Lib.hid RD
        replace C11 := Lib.hid C11
        replace I11 := Lib.hid I11
        replace J11 := Lib.hid J11
        clear AT C10 I10 J10 Bf10 Bw10 Bn10 bdr
        rw [hwk]
        clear hwk
        go_wp2_with fail
        refine RD.out.mono ?_
        rintro e wd ⟨bd, g1, g2', rfl, hg1, hg2, hne', Bg1, Bg2⟩
        obtain ⟨wl, hwl⟩ : ∃ wl, wl = wd.alloc (.cells #[.slice (some ⟨g1, 0, none⟩) t4.key.length t4.key.length, .slice (some ⟨g2', 0, none⟩) t4.val.length t4.val.length, .int .u64 (t4.fl : Int), .int .i64 (t4.ex : Int), .int .i64 (t4.tc : Int), .int .u64 (t4.tk : Int), .int .i64 (t4.st : Int), .int .i64 (t4.ms : Int)] 52) := ⟨_, rfl⟩
        have bde : Below wd.heap.size wd wl := by rw [hwl]; exact (Below.refl _ _).alloc (Nat.le_refl _) _
        have bce := bd.trans (bde.mono bd.size)
        have SI : LK wl NK wd.heap.size t4 A' Av c1 cv g1 g2' bn bw ((bs5.drop p2).take room2) ((bs.drop p2).take room2) :=
          ⟨J11.out.step bce, ⟨by rw [hwl, ← It.cells_eq]; exact Blk.new wd _ _, (BB.go Bg1 bde).all _ (BB.go Bg1 bde).lt, (BB.go Bg2 bde).all _ (BB.go Bg2 bde).lt⟩, BB.go Bn11.out bce, BB.go Bw11.out bce⟩
        have C12 := C11.out.step bce
        have I12 := I11.out.step bce
        have Bf12 := Lib.hid (BB.go Bf11.out bce)
        have hNGK := Lib.hid (show wd.heap.size ≠ NK from fun e => by have h1 := (J11.out.step bd).it.lt; omega)
        replace hwl := Lib.hid hwl
        replace C12 := Lib.hid C12
        replace I12 := Lib.hid I12
        clear RD C11 I11 J11 bd bde bce hg1 hg2 hne' Bg1 Bg2 Bn11 Bw11 Bf11
        generalize hNG : wd.heap.size = NG at *
        replace hNG := Lib.hid hNG
        have hroom : ((bs5.drop p2).take room2).length = room2 := by have := hp2.out.2; have := hlY.out; simp; omega
        have hroomw := hlw.out
        have hE := hE1.out
        have hrest := hR1.out
        obtain ⟨ln, hln⟩ : ∃ ln, ln = (bs5.drop p2).take room2 := ⟨_, rfl⟩
        obtain ⟨lw, hlwE⟩ : ∃ lw, lw = (bs.drop p2).take room2 := ⟨_, rfl⟩
        rw [← hln] at SI hroom hE hrest
        rw [← hlwE] at SI hroomw hrest
        obtain ⟨XN, hXN0⟩ : ∃ X, X = (if room2 = m then some (⟨bn, 0, none⟩ : Addr) else some ⟨bn, m, none⟩) := ⟨_, rfl⟩
        obtain ⟨XW, hXW0⟩ : ∃ X, X = (if room2 = m then some (⟨bw, 0, none⟩ : Addr) else some ⟨bw, m, none⟩) := ⟨_, rfl⟩
        have hXN := Lib.hid hXN0
        have hXW := Lib.hid hXW0
        replace hXN0 := hXN0.symm
        replace hXW0 := hXW0.symm
        have i0 : (0 : Int) ≤ (m : Int) := by omega
        have i1 : (m : Int) ≤ (room2 : Int) := by omega
        have i2 : decide ((room2 : Int) < (m : Int)) = false := decide_eq_false (by omega)
        have hdiv : (H2 : Int) / 4294967296 = (G2 : Int) := by omega
        have hshr : Int.shiftRight (H2 : Int) 32 = (G2 : Int) := by
          have : (H2 : Int) >>> 32 = ((H2 >>> 32 : Nat) : Int) := rfl
          show (H2 : Int) >>> 32 = (G2 : Int)
          rw [this, Nat.shiftRight_eq_div_pow, ← hI4]
        have hcl : q2 < 256 := by omega
        obtain ⟨zz0, zz1, zz2, zz3, zz4, zz5, zz6, zz7⟩ := it_cells SI.like.it
        obtain ⟨xx0, xx1, xx2, xx3, xx4, xx5, xx6, xx7⟩ := it_cells SI.got.it
        have z0 := fun p : Regrown => cell_regrown zz0 p.d p.os
        have x0 := fun p : Regrown => cell_regrown xx0 p.d p.os
        have z1 := fun p : Regrown => cell_regrown zz1 p.d p.os
        have x1 := fun p : Regrown => cell_regrown xx1 p.d p.os
        have z2 := fun p : Regrown => cell_regrown zz2 p.d p.os
        have x2 := fun p : Regrown => cell_regrown xx2 p.d p.os
        have z3 := fun p : Regrown => cell_regrown zz3 p.d p.os
        have x3 := fun p : Regrown => cell_regrown xx3 p.d p.os
        have z4 := fun p : Regrown => cell_regrown zz4 p.d p.os
        have x4 := fun p : Regrown => cell_regrown xx4 p.d p.os
        have z5 := fun p : Regrown => cell_regrown zz5 p.d p.os
        have x5 := fun p : Regrown => cell_regrown xx5 p.d p.os
        have z6 := fun p : Regrown => cell_regrown zz6 p.d p.os
        have x6 := fun p : Regrown => cell_regrown xx6 p.d p.os
        have z7 := fun p : Regrown => cell_regrown zz7 p.d p.os
        have x7 := fun p : Regrown => cell_regrown xx7 p.d p.os
        clear zz0 xx0 zz1 xx1 zz2 xx2 zz3 xx3 zz4 xx4 zz5 xx5 zz6 xx6 zz7 xx7
        have EQ := fun p : Regrown => (SI.step (below_regrown wl p.d p.os)).eq_
        have LO := fun p : Regrown => (SI.step (below_regrown wl p.d p.os)).lo_ hroom nb2 fine4.out hGb2 hcl hm4.out hfit2 hE
        have RQ := fun p : Regrown => (SI.step (below_regrown wl p.d p.os)).rq_ hroom hroomw hfit2 hXN.out hXW.out hrest
        replace EQ := Lib.hid EQ
        replace LO := Lib.hid LO
        replace RQ := Lib.hid RQ
        clear SI hroom hroomw hE hrest hln hlwE
        go_upto_region 29 with fail
        rw [hNG.out, ← hwl.out]
        clear hwl hNG
        refine wp_region_quiet_below (by kernel_rfl) (by kernel_rfl) ?_
        repeat (go_big_quiet_step ((first | (go_at_call 8; exact rg_same (n0 _)) | (go_at_call 28; exact Calls.regrown_of (EQ.out _)) | (go_at_call 29; exact Calls.regrown_of (LO.out _)) | (go_at_call 26; exact rg_same (RQ.out _)))))
        refine wpQuiet_nil ?_
        intro _ hw'
        obtain ⟨⟨dq, osq⟩, hw''⟩ := hw'
        subst hw''
        have brg := below_regrown wl dq osq
        have C13 := C12.out.step brg
        have I13 := I12.out.step brg
        have Bf13 := Lib.hid (BB.go Bf12.out brg)
        clear EQ LO RQ z0 z1 z2 z3 z4 z5 z6 z7 x0 x1 x2 x3 x4 x5 x6 x7 C12 I12 Bf12 brg
        generalize Go.Sort.grow (redrawn wl dq) osq = wm at *
        obtain ⟨-, -, -, -, -, z5, -, -⟩ := it_cells I13.it
        obtain ⟨v, hvE⟩ : ∃ v : Nat, v = (t0.tk + 1) % 18446744073709551616 := ⟨_, rfl⟩
        have hvb : v < 18446744073709551616 := by rw [hvE]; exact Nat.mod_lt _ (by omega)
        have hwr : IntKind.u64.wrap ((t0.tk : Int) + 1) = (v : Int) := by
          rw [hvE]
          show ((t0.tk : Int) + 1) % 18446744073709551616 = _
          omega
        have KB := K2.out
        rw [← hlY.out] at KB
        have S8 := set64Yes wm L3 c sb bs5 C13.set g2.out KB (by rw [rV.out, tk4.out]; omega) 32 v (by omega) hvb
        rw [show ((32 : Nat) : Int) = 32 from rfl] at S8
        have ST := setTokenW (.pointer (some ⟨L3.g, 0, none⟩)) H2 (v : Int) wm 0 _ S8
        rw [e3] at ST
        have hB6 := HsB.out.set_tk (v := v)
        have hl6 : (lay bs5 (p2 + 32) (putB 8 v)).length = blen := by rw [putlen _ _ _ _ (by have := hp2.out.1; have := hlY.out; omega)]; exact hlY.out
        have hap' := hap.out
        have hF6 : ((lay bs5 (p2 + 32) (putB 8 v)).drop p1).take room1 = (bs.drop p1).take room1 := by
          rw [lay_far (by rw [putB_len]; have := hp2.out.1; have := hlY.out; omega) (by rw [putB_len]; omega)]
          exact hF1.out
        have hA6 : Has (lay bs5 (p2 + 32) (putB 8 v)) p1 ⟨0, l, 0, G1, q1, t0⟩ := Seg.far HsA.out _ _ (by rw [putB_len]; have := hp2.out.1; have := hlY.out; omega) (by
          rw [putB_len]
          show p2 + 32 + 8 ≤ p1 ∨ p1 + (lns t0.key.length t0.val.length).sum ≤ p2 + 32
          rw [lns_sum]
          have := hmE.out; omega)
        generalize lay bs5 (p2 + 32) (putB 8 v) = bs6 at *
        have rV6 := Lib.hid (hB6.key_len (by show t4.key.length < 256; rw [tk4.out]; omega))
        dsimp only at rV6
        replace ST := Lib.hid ST
        replace hA6 := Lib.hid hA6
        replace hl6 := Lib.hid hl6
        replace hF6 := Lib.hid hF6
        replace hvE := Lib.hid hvE
        replace C13 := Lib.hid C13
        replace I13 := Lib.hid I13
        clear S8 KB hB6 HsA HsB rex rtc rtk rfl_ rst rms rkey rval rU hE1 hR1 hF1
        go_wp2_with fail
        refine ST.out.mono ?_
        rintro e wo ⟨rfl, Mb, ob⟩
        have C14 := C13.out.laid hhaF (by omega) Mb ob
        have Bf14 : BB wo 5 bf ((bs.drop p1).take room1) := (ob.block bf Bf13.out.lt haf).trans Bf13.out
        have KB := K2.out
        rw [← hl6.out] at KB
        have S9 := set8Yes wo L3 c sb bs6 C14.set g2.out KB (by rw [rV6.out, tk4.out]; omega) 46 0 (by omega) (by omega)
        rw [show ((46 : Nat) : Int) = 46 from rfl] at S9
        have SM := setMarksW (.pointer (some ⟨L3.g, 0, none⟩)) H2 0 wo 0 _ (by rw [show marksN 0 = true from rfl]; exact S9)
        rw [e3] at SM
        have hl7 : (lay bs6 (p2 + 46) (putB 1 0)).length = blen := by rw [putlen _ _ _ _ (by have := hp2.out.1; have := hl6.out; omega)]; exact hl6.out
        have hF7 : ((lay bs6 (p2 + 46) (putB 1 0)).drop p1).take room1 = (bs.drop p1).take room1 := by
          rw [lay_far (by rw [putB_len]; have := hp2.out.1; have := hl6.out; omega) (by rw [putB_len]; omega)]
          exact hF6.out
        have hA7 : Has (lay bs6 (p2 + 46) (putB 1 0)) p1 ⟨0, l, 0, G1, q1, t0⟩ := Seg.far hA6.out _ _ (by rw [putB_len]; have := hp2.out.1; have := hl6.out; omega) (by
          rw [putB_len]
          show p2 + 46 + 1 ≤ p1 ∨ p1 + (lns t0.key.length t0.val.length).sum ≤ p2 + 46
          rw [lns_sum]
          have := hmE.out; omega)
        generalize lay bs6 (p2 + 46) (putB 1 0) = bs7 at *
        have rA7 := Lib.hid (hA7.key_len (by show t0.key.length < 256; omega))
        dsimp only at rA7
        replace SM := Lib.hid SM
        replace hl7 := Lib.hid hl7
        replace hF7 := Lib.hid hF7
        replace C14 := Lib.hid C14
        replace Bf14 := Lib.hid Bf14
        clear S9 KB ST Mb ob C13 I13 Bf13 hA6 hA7 hF6 rV6 z5
        go_wp2_with (first | (go_at_call 8; refine (n0 _).mono ?_; rintro e w' ⟨rfl, rfl⟩) | fail)
        refine SM.out.mono ?_
        rintro e wp ⟨rfl, Mb, ob⟩
        have C15 := C14.out.laid hhaF (by omega) Mb ob
        have Bf15 : BB wp 5 bf ((bs.drop p1).take room1) := (ob.block bf Bf14.out.lt haf).trans Bf14.out
        have KA := K1.out
        rw [← hl7.out] at KA
        have A5 := chunkOfC wp L3 c sb bs7 C15.set g2.out KA
        rw [e3, hF7.out] at A5
        replace A5 := Lib.hid A5
        replace C15 := Lib.hid C15
        replace Bf15 := Lib.hid Bf15
        clear SM Mb ob C14 Bf14
        go_wp2_with (first | (go_at_call 8; refine (n0 _).mono ?_; rintro e w' ⟨rfl, rfl⟩) | fail)
        refine A5.out.mono ?_
        rintro e wq ⟨bx, rfl, hbx, Bx, bq⟩
        have C16 := C15.out.step bq
        have Bf16 := BB.go Bf15.out bq
        have E2 := Lib.hid (eq_whole Bx Bf16 hlf.out)
        have TW := copyTwice wq L3 c sb bs7 C16.set g2.out KA KA (by rw [rA7.out]; omega) rfl
        rw [e3] at TW
        replace TW := Lib.hid TW
        replace C16 := Lib.hid C16
        replace Bf16 := Lib.hid Bf16
        clear A5 C15 Bf15 bq Bx hbx
        go_wp2_with (first | (go_at_call 26; refine E2.out.mono ?_; rintro e w' ⟨rfl, rfl⟩) | fail)
        refine TW.out.mono ?_
        rintro e wr ⟨rfl, br⟩
        have C17 := C16.out.step br
        have Bf17 := BB.go Bf16.out br
        have A6 := chunkOfC wr L3 c sb bs7 C17.set g2.out KA
        rw [e3, hF7.out] at A6
        replace A6 := Lib.hid A6
        replace C17 := Lib.hid C17
        replace Bf17 := Lib.hid Bf17
        clear TW C16 Bf16 br E2
        go_wp2_with (first | (go_at_call 8; refine (n8 _).mono ?_; rintro e w' ⟨rfl, rfl⟩) | fail)
        refine A6.out.mono ?_
        rintro e ws ⟨bx, rfl, hbx, Bx, bs'⟩
        have E3 := Lib.hid (eq_whole Bx (BB.go Bf17.out bs') hlf.out)
        have bfin := Lib.hid (FIN.out ws (C17.out.step bs').below)
        clear A6 C17 Bf17 bs' Bx hbx
        go_wp2_with (first | (go_at_call 26; refine E3.out.mono ?_; rintro e w' ⟨rfl, rfl⟩) | fail)
        go_ret
        exact ⟨rfl, bfin.out⟩
      · have d5 : decide ((room2 : Int) < (m : Int)) = true := decide_eq_true (by omega)
        have d55 : decide (room2 < m) = true := decide_eq_true (by omega)
        have CL := copyLong we L3 c sb bs C6.out.set g2.out K2' K1' (by rw [Hs4.out.key_len (by show t0.key.length < 256; omega)]; show t0.key.length ≠ 0; omega) (Ne.symm hHne) (by rw [Hs4.out.key_len (by show t0.key.length < 256; omega), Hs4.out.val_len (by show t0.val.length < 4294967296; have := hmE.out; omega)]; show room2 < 58 + t0.key.length + t0.val.length; have := hmE.out; omega)
        rw [e3] at CL
        replace CL := Lib.hid CL
        clear K1' K2'
        go_wp2_with fail
        refine CL.out.mono ?_
        rintro e wf ⟨rfl, bf'⟩
        have C7 := C6.out.step bf'
        have A3 := chunkOfC wf L3 c sb bs C7.set g2.out (by rw [hl4.out]; exact K2.out)
        rw [e3] at A3
        replace A3 := Lib.hid A3
        replace Bf := Lib.hid (BB.go Bf.out bf')
        replace Bw := Lib.hid (BB.go Bw.out bf')
        replace C7 := Lib.hid C7
        clear CL bf' C6 I6 z0 z1 z2 z3 z4 z5 z6 z7
        go_wp2_with fail
        refine A3.out.mono ?_
        rintro e wg ⟨bn, rfl, hbn, Bn, bg⟩
        have C8 := C7.out.step bg
        have A4 := chunkOfC wg L3 c sb bs C8.set g2.out (by rw [hl4.out]; exact K1.out)
        rw [e3] at A4
        replace A4 := Lib.hid A4
        replace Bf := Lib.hid (BB.go Bf.out bg)
        replace Bw := Lib.hid (BB.go Bw.out bg)
        replace Bn := Lib.hid Bn
        replace C8 := Lib.hid C8
        clear A3 bg C7 hbn
        go_wp2_with fail
        refine A4.out.mono ?_
        rintro e wh ⟨ba, rfl, hba, Ba, bh⟩
        have E1 := Lib.hid (eq_whole Ba (BB.go Bf.out bh) hlf.out)
        have E2 := Lib.hid (eq_whole (BB.go Bn.out bh) (BB.go Bw.out bh) hlw.out)
        have bfin := Lib.hid (FIN.out wh (C8.out.step bh).below)
        clear A4 bh C8 Bf Bw Bn Ba hba
        go_wp2_with (first | (go_at_call 26; first | (refine E1.out.mono ?_; rintro e w' ⟨rfl, rfl⟩) | (refine E2.out.mono ?_; rintro e w' ⟨rfl, rfl⟩)) | (go_at_call 8; refine (n6 _).mono ?_; rintro e w' ⟨rfl, rfl⟩) | fail)
        go_ret
        exact ⟨rfl, bfin.out⟩
  · have CB1 := C.out
    have LL := layLong w10 L3 c sb bs0 CB1.set g2.out t0.raw A' Av c1 cv (by rw [hbl.out]; exact K1.out) I0.out.kB (by show t0.key.length ≤ maxLen; unfold maxLen; omega) (by show t0.val.length ≤ maxLen; unfold maxLen; omega) fine.out.legal (by show room1 < 58 + t0.key.length + t0.val.length; have := hmE.out; omega)
    rw [It.raw_cells, It.cells_eq, e3] at LL
    replace LL := Lib.hid LL
    go_wp2_with (first | (go_at_call 8; refine (n0 _).mono ?_; rintro e w' ⟨rfl, rfl⟩) | fail)
    refine LL.out.mono ?_
    rintro e w11 ⟨rfl, b11⟩
    have CK := copyKey w11 L3 c sb bs0 (CB1.step b11).set g2.out (by rw [hbl.out]; exact K2.out) (by rw [hbl.out]; exact K1.out) hz1.out
    rw [e3] at CK
    have BF := Lib.hid ((CB1.step b11).below)
    replace CK := Lib.hid CK
    clear LL b11 CB1 C
    go_wp2_with (first | (go_at_call 8; first | (refine (n6 _).mono ?_; rintro e w' ⟨rfl, rfl⟩) | (refine (n20 _).mono ?_; rintro e w' ⟨rfl, rfl⟩)) | fail)
    refine CK.out.mono ?_
    rintro e w12 ⟨rfl, b12⟩
    have bfin := Lib.hid (FIN.out w12 (BF.out.trans (b12.mono BF.out.size)))
    clear BF b12
    go_wp2_with (first | (go_at_call 8; first | (refine (n20 _).mono ?_; rintro e w' ⟨rfl, rfl⟩)) | fail)
    go_ret
    exact ⟨rfl, bfin.out⟩
end Go.Proofs.Ytdmclekohalolaa.Itm
/-
  The walk of two.
-/
namespace Go.Proofs.Ytdmclekohalolaa.Itm
open Go.RowKit Base Arena Cls Rel
set_option linter.unusedVariables false

set_option maxRecDepth 100000 in
theorem twoC (w : World) (L : Lay) (c : Conf) (bs : List UInt8) (h : SetAt w L c (new0 c.cf) bs) (N : Nat) (hw : N ≤ w.heap.size) (F : ∀ d, Foot L c (new0 c.cf) d → N ≤ d) {q : Nat} (hq : q < c.nc) {s1 s3 : St} {l1 l3 : List Nat} {p1 p2 : Nat}
    (hr1 : roomS c.cf (new0 c.cf) q = some s1) (hp1 : s1.free q = l1 ++ [p1]) (g1 : Cls.Good c.cf (takeS c.cf s1 q p1)) (hr2 : roomS c.cf (takeS c.cf s1 q p1) q = some s3) (hp2 : s3.free q = l3 ++ [p2]) {G1 G2 : Nat} (hG1 : s1.gens (p1 / c.cf.ps) (p1 % c.cf.ps / c.sz q) = G1) (hG2 : s3.gens (p2 / c.cf.ps) (p2 % c.cf.ps / c.sz q) = G2) :
    Calls Try.prog 36 #[.pointer (some ⟨L.g, 0, none⟩), .int .i64 (q : Int)] w fun e w' => e = .returned (.tuple #[.int .u64 (hnd p1 G1 : Int), .int .u64 (hnd p2 G2 : Int)]) ∧
      ∃ L', L'.g = L.g ∧ SetAt w' L' c (takeS c.cf s3 q p2) (takeB (takeB bs p1 G1) p2 G2) ∧ Below N w w' ∧ ∀ d, Foot L' c (takeS c.cf s3 q p2) d → N ≤ d := by
  have T := takeYes w L c _ _ h new0_good q hq s1 hr1 l1 p1 hp1
  have TT := fun w L bs h => takeYes w L c _ bs h g1 q hq s3 hr2 l3 p2 hp2
  rw [hG1] at T
  rw [hG2] at TT
  generalize takeS c.cf s3 q p2 = sb at *
  generalize takeS c.cf s1 q p1 = sa at *
  generalize hnd p1 G1 = H1 at *
  generalize hnd p2 G2 = H2 at *
  have n0 := fun w => itemNumC w 0
  replace T := Lib.hid T
  replace TT := Lib.hid TT
  replace h := Lib.hid h
  replace F := Lib.hid F
  clear hr1 hp1 g1 hr2 hp2 hG1 hG2
  go_enter Try.func36, Try.ntmps36
  go_wp2_with fail
  refine T.out.mono ?_
  rintro e w6 ⟨rfl, L2, e2, M6, W⟩
  obtain ⟨b6, F6, l6⟩ := W.below F.out hw
  have T2 := TT.out w6 L2 _ M6
  rw [e2] at T2
  replace T2 := Lib.hid T2
  replace b6 := Lib.hid b6
  replace F6 := Lib.hid F6
  replace e2 := Lib.hid e2
  clear T TT W M6
  go_wp2_with fail
  refine T2.out.mono ?_
  rintro e w8 ⟨rfl, L3, e3, M8, W⟩
  obtain ⟨b8, F8, l8⟩ := W.below F6.out l6
  have b := Lib.hid (b6.out.trans b8)
  replace e3 := Lib.hid e3
  replace M8 := Lib.hid M8
  replace F8 := Lib.hid F8
  clear T2 W b8 b6
  go_wp2_with (first | (go_at_call 8; refine (n0 _).mono ?_; rintro e w' ⟨rfl, rfl⟩) | fail)
  go_ret2
  exact ⟨rfl, L3, e3.out, M8.out, b.out, F8.out⟩
end Go.Proofs.Ytdmclekohalolaa.Itm
/-
  The fields' stores of an item that there is.
-/
namespace Go.Proofs.Ytdmclekohalolaa.Itm
open Go.RowKit Base Arena Cls
set_option linter.unusedVariables false

section
variable (w : World) (L : Lay) (c : Conf) (s : St) (bs : List UInt8) (h : SetAt w L c s bs) (g : Cls.Good c.cf s) {H i x p k n : Nat} (K : Chk c s bs.length H i x p k n) (h44 : rd bs (p + 44) 1 ≠ 0) (v : Nat)
include h g K h44
theorem setFlC (hv : v < 4294967296) : Calls Try.prog 37 #[.pointer (some ⟨L.g, 0, none⟩), .int .u64 (H : Int), .int .u64 (v : Int)] w fun e w' => e = .returned (.int .i64 0) ∧ SetAt w' L c s (lay bs (p + 40) (putB 4 v)) ∧ Only (· = L.ha) w w' := by
  have S := set32Yes w L c s bs h g K h44 40 v (by omega) hv
  rw [show ((40 : Nat) : Int) = 40 from rfl] at S
  refine setFlagsW _ H (v : Int) w 0 _ ?_
  rw [IntWalk.u32_in _ (by omega), decide_eq_true (show (v : Int) ≤ 4294967295 by omega)]
  exact S
theorem setTkC (hv : v < 18446744073709551616) : Calls Try.prog 34 #[.pointer (some ⟨L.g, 0, none⟩), .int .u64 (H : Int), .int .u64 (v : Int)] w fun e w' => e = .returned (.int .i64 0) ∧ SetAt w' L c s (lay bs (p + 32) (putB 8 v)) ∧ Only (· = L.ha) w w' := by
  have S := set64Yes w L c s bs h g K h44 32 v (by omega) hv
  rw [show ((32 : Nat) : Int) = 32 from rfl] at S
  exact setTokenW _ H (v : Int) w 0 _ S
theorem setExC (hv : v < 9223372036854775808) : Calls Try.prog 38 #[.pointer (some ⟨L.g, 0, none⟩), .int .u64 (H : Int), .int .i64 (v : Int)] w fun e w' => e = .returned (.int .i64 0) ∧ SetAt w' L c s (lay bs (p + 16) (putB 8 v)) ∧ Only (· = L.ha) w w' := by
  have S := set64Yes w L c s bs h g K h44 16 v (by omega) (by omega)
  rw [show ((16 : Nat) : Int) = 16 from rfl] at S
  refine setExpiryW _ H (v : Int) w 0 _ ?_
  rw [IntWalk.u64_in _ (by omega), decide_eq_true (show (0 : Int) ≤ (v : Int) by omega)]
  exact S
theorem setTcC (hv : v < 9223372036854775808) : Calls Try.prog 39 #[.pointer (some ⟨L.g, 0, none⟩), .int .u64 (H : Int), .int .i64 (v : Int)] w fun e w' => e = .returned (.int .i64 0) ∧ SetAt w' L c s (lay bs (p + 24) (putB 8 v)) ∧ Only (· = L.ha) w w' := by
  have S := set64Yes w L c s bs h g K h44 24 v (by omega) (by omega)
  rw [show ((24 : Nat) : Int) = 24 from rfl] at S
  refine setTouchedW _ H (v : Int) w 0 _ ?_
  rw [IntWalk.u64_in _ (by omega), decide_eq_true (show (0 : Int) ≤ (v : Int) by omega)]
  exact S
theorem setStC (h1 : 1 ≤ v) (h4 : v ≤ 4) : Calls Try.prog 40 #[.pointer (some ⟨L.g, 0, none⟩), .int .u64 (H : Int), .int .i64 (v : Int)] w fun e w' => e = .returned (.int .i64 0) ∧ SetAt w' L c s (lay bs (p + 45) (putB 1 v)) ∧ Only (· = L.ha) w w' := by
  have S := set8Yes w L c s bs h g K h44 45 v (by omega) (by omega)
  rw [show ((45 : Nat) : Int) = 45 from rfl] at S
  refine setStateW _ H (v : Int) w 0 _ ?_
  rw [IntWalk.u8_in _ (by omega), decide_eq_true (show (1 : Int) ≤ (v : Int) by omega), decide_eq_true (show (v : Int) ≤ 4 by omega)]
  exact S
theorem setMsC (hv : v < 16) : Calls Try.prog 35 #[.pointer (some ⟨L.g, 0, none⟩), .int .u64 (H : Int), .int .i64 (v : Int)] w fun e w' => e = .returned (.int .i64 0) ∧ SetAt w' L c s (lay bs (p + 46) (putB 1 v)) ∧ Only (· = L.ha) w w' := by
  have S := set8Yes w L c s bs h g K h44 46 v (by omega) (by omega)
  rw [show ((46 : Nat) : Int) = 46 from rfl] at S
  refine setMarksW _ H (v : Int) w 0 _ ?_
  rw [IntWalk.u8_in _ (by omega), show marksN (v : Int) = true by unfold marksN; simp; omega]
  exact S
end
end Go.Proofs.Ytdmclekohalolaa.Itm
namespace Go.Proofs.Ytdmclekohalolaa.Cls
theorem chunk_at {d : Cf} (ok : d.Ok) {s : St} {i x p k G : Nat} (t : Tkn d s i x p k G) : chunkN d s (p : Int) = some (i, x) := by
  obtain ⟨f1, f2, f3, f4, f5, f6, f7⟩ := t.fit ok
  have hz := (ok.sz k t.kN).1
  unfold chunkN
  rw [if_pos (by constructor; omega; rw [Nat.mul_comm]; omega)]
  rw [Int.toNat_natCast, f5, f6, if_pos ⟨t.ow, by rw [t.cl, Nat.mul_mod_left], by rw [t.cl, f7]; exact t.xN⟩, t.cl, f7]
theorem Tkn.of_ {d : Cf} (ok : d.Ok) {s : St} {i x p k G : Nat} (t : Tkn d s i x p k G) : ofN d s (p : Int) = some (hnd p G) := by
  unfold ofN
  rw [chunk_at ok t]
  simp only [if_pos t.tk, Int.toNat_natCast, t.ge]
end Go.Proofs.Ytdmclekohalolaa.Cls
