/-
  Contracts and lemmas, joined: ItemApartLaw.
-/
import Derived.Deep.CutBlock
import Derived.Test.YtdmclekohalolaaJ12
set_option linter.unusedSimpArgs false
set_option linter.unusedVariables false
/-
  The walk of ItemApart.
-/
namespace Go.Proofs.Ytdmclekohalolaa.Itm
open Go.RowKit Base Arena Cls Rel
set_option linter.unusedVariables false

structure AB (w0 w : World) (L : Lay) (c : Conf) (s : St) (bs : List UInt8) (NA : Nat) (ac : Array Value) : Prop where
  set : SetAt w L c s bs
  arg : Blk w NA 39 ac
  below : Below w0.heap.size w0 w
section
variable {w0 w w' : World} {L : Lay} {c : Conf} {s : St} {bs bs' : List UInt8} {NA : Nat} {ac : Array Value}
theorem AB.step (S : AB w0 w L c s bs NA ac) (b : Below w.heap.size w w') : AB w0 w' L c s bs NA ac :=
  ⟨S.set.kept fun d hd => b.block d (S.set.lt hd), S.arg.below b S.arg.lt, S.below.trans (b.mono S.below.size)⟩
theorem AB.laid (S : AB w0 w L c s bs NA ac) (h : w0.heap.size ≤ L.ha) (na : NA ≠ L.ha) (M : SetAt w' L c s bs') (o : Only (· = L.ha) w w') : AB w0 w' L c s bs' NA ac :=
  ⟨M, o.at_ S.arg na, S.below.trans (o.toBelow fun k hk => ⟨Nat.lt_of_lt_of_le hk S.below.size, by omega⟩)⟩
theorem AB.drewN (S : AB w0 w L c s bs NA ac) (m : Nat) : AB w0 (w.drewN m) L c s bs NA ac := S.step ⟨rfl, rfl, rfl, Nat.le_refl _, fun _ _ => rfl⟩
end
section
variable {w0 w w' : World} {L : Lay} {c : Conf} {s : St} {bs : List UInt8} {NA N : Nat} {ac : Array Value}
theorem AB.other (S : AB w0 w L c s bs NA ac) (hf : ∀ d, Foot L c s d → d ≠ N) (na : NA ≠ N) (h : w0.heap.size ≤ N) (o : Only (· = N) w w') : AB w0 w' L c s bs NA ac :=
  ⟨S.set.kept fun d hd => o.block d (S.set.lt hd) (hf d hd), o.at_ S.arg na, S.below.trans (o.toBelow fun k hk => ⟨Nat.lt_of_lt_of_le hk S.below.size, by omega⟩)⟩
/-- A field of the boxed item is another. -/
theorem ItB.put {t t' : It} {Ak Av : Option Addr} {c1 c2 : Nat} (h : ItB w N t Ak Av c1 c2) (hk0 : ∀ b off, Ak = some ⟨b, off, none⟩ → b ≠ N) (hv0 : ∀ b off, Av = some ⟨b, off, none⟩ → b ≠ N) (j : Nat) (v : Value) (ht : t'.cells Ak Av c1 c2 = (t.cells Ak Av c1 c2).setIfInBounds j v) (hk : t'.key = t.key) (hv : t'.val = t.val) :
    ItB (w.setCell ⟨N, j, none⟩ v) N t' Ak Av c1 c2 :=
  ⟨by rw [ht]; exact h.it.set_ j v, by rw [hk]; exact bytes_set (q := ⟨N, j, none⟩) h.kB hk0 v, by rw [hv]; exact bytes_set (q := ⟨N, j, none⟩) h.vB hv0 v⟩
end
/-- The three links as they are told: h of a handle. -/
def lk3 (hh : Nat → Nat) : Array Value := #[.int .u64 (hh 0 : Int), .int .u64 (hh 1 : Int), .int .u64 (hh 2 : Int)]
theorem lk3_set (hh : Nat → Nat) {j : Nat} (hj : j ≤ 2) (T : Nat) : (lk3 hh).setIfInBounds j (.int .u64 (T : Int)) = lk3 (upd hh j T) := by
  rcases (show j = 0 ∨ j = 1 ∨ j = 2 by omega) with rfl | rfl | rfl <;> rfl
theorem lk3_at {w : World} {N : Nat} {hh : Nat → Nat} (B : Blk w N 77 (lk3 hh)) {j : Nat} (hj : j ≤ 2) : w.cell? ⟨N, j, none⟩ = some (.int .u64 (hh j : Int)) := by
  rcases (show j = 0 ∨ j = 1 ∨ j = 2 by omega) with rfl | rfl | rfl
  · exact B.cell 0
  · exact B.cell 1
  · exact B.cell 2
def wh3 (hh : Nat → Nat) (G q : Nat) (t : It) : Whole := ⟨hh 0 % 4294967296, hh 1 % 4294967296, hh 2 % 4294967296, G, q, t⟩
theorem link_set {bs : List UInt8} {p G q : Nat} {t : It} {hh : Nat → Nat} (h : Has bs p (wh3 hh G q t)) {j : Nat} (hj : j ≤ 2) (T : Nat) : Has (lay bs (p + 4 * j) (putB 4 (T % 4294967296))) p (wh3 (upd hh j T) G q t) := by
  rcases (show j = 0 ∨ j = 1 ∨ j = 2 by omega) with rfl | rfl | rfl
  · exact h.set_l0 _
  · exact h.set_l1 _
  · exact h.set_l2 _
theorem link_rd {bs : List UInt8} {p G q : Nat} {t : It} {hh : Nat → Nat} (h : Has bs p (wh3 hh G q t)) {j : Nat} (hj : j ≤ 2) : rd bs (p + 4 * j) 4 = hh j % 4294967296 := by
  rcases (show j = 0 ∨ j = 1 ∨ j = 2 by omega) with rfl | rfl | rfl
  · exact h.l0_ (Nat.mod_lt _ (by omega))
  · exact h.l1_ (Nat.mod_lt _ (by omega))
  · exact h.l2_ (Nat.mod_lt _ (by omega))
section
variable {w : World} {L : Lay} {c : Conf} {s : St} {bs : List UInt8} (h : SetAt w L c s bs) (g : Cls.Good c.cf s) {H i x p k n : Nat} (K : Chk c s bs.length H i x p k n) (h44 : rd bs (p + 44) 1 ≠ 0) (j : Nat) (hj : j ≤ 2) (T : Nat)
include h g K h44 hj
/-- A link to a good handle, or to none. -/
theorem setLinkC (hT : T = 0 ∨ T < 18446744073709551616 ∧ T ≠ 0 ∧ ∃ ti tx tp, findN c.cf s T = some (ti, tx, tp)) : Calls Try.prog 32 #[.pointer (some ⟨L.g, 0, none⟩), .int .u64 (H : Int), .int .i64 (j : Int), .int .u64 (T : Int)] w fun e w' => e = .returned (.int .i64 0) ∧ SetAt w' L c s (lay bs (p + 4 * j) (putB 4 (T % 4294967296))) ∧ Only (· = L.ha) w w' := by
  rcases hT with rfl | ⟨h1, h2, ti, tx, tp, h3⟩
  · exact setLinkZero w L c s bs h g K h44 j hj
  · exact setLinkTo w L c s bs h g K h44 j hj T h1 h2 h3
theorem linkC (hr : rd bs (p + 4 * j) 4 = T % 4294967296) (hT : T = 0 ∨ ∃ r, T % 4294967296 = r + 1 ∧ ofN c.cf s ((8 * r : Nat) : Int) = some T) : Calls Try.prog 41 #[.pointer (some ⟨L.g, 0, none⟩), .int .u64 (H : Int), .int .i64 (j : Int)] w fun e w' => e = .returned (.tuple #[.int .u64 (T : Int), .int .i64 0]) ∧ Below w.heap.size w w' := by
  rcases hT with rfl | ⟨r, h1, h2⟩
  · exact linkZero w L c s bs h g K j hj h44 hr
  · exact linkTo w L c s bs h g K j hj h44 r (hr.trans h1) T h2
end
theorem wrap_In (n : Int) : Cls.In (IntKind.i64.wrap n) := by
  rw [IntKind.wrap_i64]
  unfold Cls.In
  constructor <;> omega
/-- The handle of that number. -/
def pick3 (a b : Nat) : Nat → Nat
  | 0 => a
  | 1 => b
  | _ => 0
theorem bytes_take {w : World} {B n : Nat} {A : Option Addr} {l : List UInt8} (h : Bytes w B A l) : Bytes w B A (l.take n) := fun hl => by
  obtain ⟨d, off, h1, h2, h3⟩ := h (by simp only [List.length_map, List.length_take] at hl ⊢; omega)
  refine ⟨d, off, h1, h2, fun j v hj => h3 j v ?_⟩
  rw [List.map_take, List.getElem?_take] at hj
  split at hj
  · exact hj
  · cases hj
theorem legal_take {l : List UInt8} (h : legalN l = true) : legalN (l.take 1) = true ∧ (l.take 1).length = 1 := by
  obtain ⟨h1, h2⟩ := legal_len h
  cases l with
  | nil => simp at h1
  | cons a t =>
    refine ⟨?_, by simp⟩
    unfold legalN at h ⊢
    simp only [Bool.and_eq_true, decide_eq_true_eq, List.take_succ_cons, List.take_zero, List.all_cons, List.all_nil] at h ⊢
    simp only [List.length_cons, List.length_nil] at *
    simp_all
set_option maxRecDepth 100000 in
set_option maxHeartbeats 8000000 in
theorem itemApartC (w : World) (x : LaidA) (ok : x.Ok) (Ak Av An : Option Addr) (ck cv cn : Nat) (kB : Bytes w w.heap.size Ak x.key) (vB : Bytes w w.heap.size Av x.val) (hv : x.val.length ≤ 140737488351232) :
    Calls Try.prog 7 #[.agg (x.cells Ak Av An ck cv cn)] w fun e w' => e = .returned (.bool true) ∧ Below w.heap.size w w' := by
  obtain ⟨w1, hw1⟩ : ∃ w1, w1 = w.alloc (.cells (x.cells Ak Av An ck cv cn) 39) := ⟨_, rfl⟩
  have X1 : Blk w1 w.heap.size 39 (x.cells Ak Av An ck cv cn) := by rw [hw1]; exact Blk.new w _ _
  have b01 : Below w.heap.size w w1 := by rw [hw1]; exact (Below.refl _ _).alloc (Nat.le_refl _) _
  have kB1 := bytes_go kB b01
  have vB1 := bytes_go vB b01
  have CC := itemConfigC x.cfg ok.cfg w1
  have hr : refN (ic (x.cfg % 4).toNat) = 0 := ic_ref _ (withinI_lt x.cfg (n := 4) (by omega))
  have hnp : 2 ≤ (ic (x.cfg % 4).toNat).cf.np := ic_two _ (withinI_lt x.cfg (n := 4) (by omega))
  have fine := x.fine ok.tk
  generalize ic (x.cfg % 4).toNat = c at *
  obtain ⟨cok, -⟩ := okOf hr
  have hcnc : c.cf.nc = c.nc := rfl
  have hnc1 := cok.nc
  have hnc2 := cok.ncb
  rw [hcnc] at hnc1 hnc2
  obtain ⟨q, hqE⟩ : ∃ q, q = c.nc - 1 := ⟨_, rfl⟩
  have hq : q < c.nc := by omega
  have sub1 : IntKind.i64.wrap ((c.nc : Int) - 1) = (q : Int) := by rw [IntWalk.i64_in _ (by omega)]; omega
  have NC := Lib.hid (fun w => newC w c)
  have n0 := fun w => itemNumC w 0
  have WK := Lib.hid itemWakesC
  unfold Conf.cells at CC NC
  obtain ⟨y0, -⟩ := laid_cells X1
  replace CC := Lib.hid CC
  rw [LaidA.cells_eq] at hw1
  rw [LaidA.cells_eq]
  replace hw1 := Lib.hid hw1
  replace b01 := Lib.hid b01
  replace X1 := Lib.hid X1
  replace ok := Lib.hid ok
  replace fine := Lib.hid fine
  replace kB1 := Lib.hid kB1
  replace vB1 := Lib.hid vB1
  replace hqE := Lib.hid hqE
  clear kB vB
  generalize hN : w.heap.size = NA at *
  replace hN := Lib.hid hN
  go_enter Try.func7, Try.ntmps7
  go_upto_region 1 with fail
  rw [hN.out, ← hw1.out]
  clear hw1
  go_wp2_with fail
  refine CC.out.mono ?_
  rintro e w2 ⟨rfl, b2⟩
  have NC2 := Lib.hid (NC.out w2)
  have l2 := b2.size
  replace b2 := Lib.hid b2
  clear CC NC
  go_wp2_with fail
  refine NC2.out.mono ?_
  rintro e w3 ⟨b3, ⟨h0, -⟩ | ⟨-, L, rfl, M, F⟩⟩
  · exact absurd hr h0
  have b13 := b2.out.trans (b3.mono (B' := w1.heap.size) l2)
  replace b13 := Lib.hid b13
  replace F := Lib.hid (fun d hd => Nat.le_trans l2 (F d hd))
  replace M := Lib.hid M
  clear NC2 b3 b2
  go_wp2_with (first | (go_at_call 8; refine (n0 _).mono ?_; rintro e w' ⟨rfl, rfl⟩) | fail)
  refine (WK.out w3).mono ?_
  rintro e w4 ⟨rfl, b4⟩
  have M4 := M.out.kept fun d hd => b4.block d (M.out.lt hd)
  have b14 := b13.out.trans (b4.mono (B' := w1.heap.size) b13.out.size)
  have CL := Lib.hid (classesC w4 L c _ _ M4)
  obtain ⟨s1, l1, p1, s3, l3, p2, hr1, hp1, g1, hr2, hp2, g2, t1, t2, hne⟩ := two_take cok hnp hq hq
  have TC := fun G1 G2 hG1 hG2 => twoC w4 L c _ M4 w1.heap.size b14.size F.out hq hr1 hp1 g1 hr2 hp2 (G1 := G1) (G2 := G2) hG1 hG2
  generalize hG1 : s1.gens (p1 / c.cf.ps) (p1 % c.cf.ps / c.sz q) = G1 at *
  generalize hG2 : s3.gens (p2 / c.cf.ps) (p2 % c.cf.ps / c.sz q) = G2 at *
  have T := TC G1 G2 rfl rfl
  clear TC
  generalize takeS c.cf s1 q p1 = sa at *
  generalize takeS c.cf s3 q p2 = sb at *
  obtain ⟨hH1, hH2, hH3, hH4, hH5⟩ := t1.hlt cok g2
  obtain ⟨hI1, hI2, hI3, hI4, hI5⟩ := t2.hlt cok g2
  have hfind1 := t1.find cok
  have hfind2 := t2.find cok
  have hcls1 := t1.cl
  have hcls2 := t2.cl
  have hGb1 : G1 < 4294967296 := by have := g2.gen (p1 / c.cf.ps) (p1 % c.cf.ps / c.sz q); rw [t1.ge] at this; exact this
  have hGb2 : G2 < 4294967296 := by have := g2.gen (p2 / c.cf.ps) (p2 % c.cf.ps / c.sz q); rw [t2.ge] at this; exact this
  have hap := t1.apart cok t2 hne
  have hz : (List.replicate (c.cf.ps * c.cf.np) (0 : UInt8)).length = c.cf.ps * c.cf.np := List.length_replicate
  generalize List.replicate (c.cf.ps * c.cf.np) (0 : UInt8) = z at *
  obtain ⟨H1, hHe1⟩ : ∃ H, H = hnd p1 G1 := ⟨_, rfl⟩
  obtain ⟨H2, hHe2⟩ : ∃ H, H = hnd p2 G2 := ⟨_, rfl⟩
  have hHne : H1 ≠ H2 := by
    rw [hHe1, hHe2]
    intro e
    rw [← hHe1] at hH3
    rw [e] at hHe1
    rw [hHe1, hI3] at hH3
    obtain ⟨-, -, -, a8, -⟩ := t1.fit cok
    obtain ⟨-, -, -, b8, -⟩ := t2.fit cok
    omega
  rw [← hHe1] at T hfind1 hH1 hH2 hH3 hH4
  rw [← hHe2] at T hfind2 hI1 hI2 hI3 hI4
  have hO1 : ofN c.cf sb (p1 : Int) = some H1 := by rw [hHe1]; exact t1.of_ cok
  have hO2 : ofN c.cf sb (p2 : Int) = some H2 := by rw [hHe2]; exact t2.of_ cok
  obtain ⟨-, -, -, a8, -⟩ := t1.fit cok
  obtain ⟨-, -, -, b8, -⟩ := t2.fit cok
  have hp1 : p1 + 56 ≤ z.length ∧ p1 + c.sz q ≤ z.length := by
    obtain ⟨f1, f2, f3, -⟩ := t1.fit cok
    have f4 := (cok.sz q hq).1
    have f5 : c.cf.sz q = c.sz q := rfl
    rw [hz, Nat.mul_comm c.cf.ps]
    omega
  have hp2 : p2 + 56 ≤ z.length ∧ p2 + c.sz q ≤ z.length := by
    obtain ⟨f1, f2, f3, -⟩ := t2.fit cok
    have f4 := (cok.sz q hq).1
    have f5 : c.cf.sz q = c.sz q := rfl
    rw [hz, Nat.mul_comm c.cf.ps]
    omega
  have hap56 : p1 + 56 ≤ p2 ∨ p2 + 56 ≤ p1 := by
    have f4 := (cok.sz q hq).1
    omega
  obtain ⟨hbl, hgen1, hgen2, hz1, hz2⟩ := take_two (bs := z) (g1 := G1) (g2 := G2) hp1.1 hp2.1 hap56
  have hdH : decide ((H1 : Int) = (H2 : Int)) = false := decide_eq_false (by omega)
  have hdH' : ((H1 : Int) == (H2 : Int)) = false := by rw [beq_eq_false_iff_ne]; omega
  replace T := Lib.hid T
  replace b14 := Lib.hid b14
  replace hfind1 := Lib.hid hfind1
  replace hfind2 := Lib.hid hfind2
  replace hgen1 := Lib.hid hgen1
  replace hgen2 := Lib.hid hgen2
  replace hbl := Lib.hid hbl
  replace g2 := Lib.hid g2
  replace hO1 := Lib.hid hO1
  replace hO2 := Lib.hid hO2
  clear b4 b13 M WK t1 t2 hr1 hr2 hG1 hG2 g1 hHe1 hHe2 hz1 hz2 M4 F y0 hz
  go_wp2_with (first | (go_at_call 18; refine CL.out.mono ?_; rintro e w' ⟨rfl, rfl⟩) | fail)
  refine T.out.mono ?_
  rintro e w8 ⟨rfl, L3, e3, M8, b48, F8⟩
  have b18 := b14.out.trans b48
  have K1 := Chk.of M8 g2.out hH1 hfind1.out
  have K2 := Chk.of M8 g2.out hI1 hfind2.out
  rw [hcls1, hbl.out] at K1
  rw [hcls2, hbl.out] at K2
  generalize hbs0 : takeB (takeB z p1 G1) p2 G2 = bs0 at *
  generalize z.length = blen at *
  have X8 := X1.out.below b18 X1.out.lt
  obtain ⟨y0, y1, y2, y3, y4, y5, y6, y7, y8, y9, y10⟩ := laid_cells X8
  have MC := madeCapC w8 x ok.out Ak Av An ck cv cn (bytes_up kB1.out b18 (Nat.le_refl _))
  have hkk : x.it.key = rightN x.key := rfl
  rw [← hkk] at MC
  have hhaF : w1.heap.size ≤ L3.ha := F8 _ ⟨.bytes, rfl⟩
  have hhaL : L3.ha < w8.heap.size := M8.lt (b := L3.ha) ⟨.bytes, rfl⟩
  have hNA : NA < w1.heap.size := X1.out.lt
  have C0 : AB w1 w8 L3 c sb bs0 NA (x.cells Ak Av An ck cv cn) := ⟨M8, X8, b18⟩
  have fl0 : x.it.fl < 4294967296 ∧ x.it.tk < 18446744073709551616 := ⟨fine.out.fl, fine.out.tk⟩
  generalize hx0 : x.it = t0 at *
  simp only [It.cells_eq] at MC
  rw [LaidA.cells_eq] at MC
  replace MC := Lib.hid MC
  replace C0 := Lib.hid C0
  replace K1 := Lib.hid K1
  replace K2 := Lib.hid K2
  clear T b48 b14 M8 b18 F8 hbs0 hfind1 hcls1 hcls2 X8
  go_wp2_with fail
  refine MC.out.mono ?_
  rintro e w9 ⟨A', c1, rfl, b9, hA', kB9, hcap⟩
  obtain ⟨lt1, lt2⟩ := legal_take fine.out.legal
  obtain ⟨kl1, kl2⟩ := legal_len fine.out.legal
  have hc1 : (1 : Int) ≤ (c1 : Int) := by omega
  have hc1' : 1 ≤ c1 := by omega
  have hc1'' : decide ((c1 : Int) < 1) = false := decide_eq_false (by omega)
  replace lt1 := Lib.hid lt1
  replace lt2 := Lib.hid lt2
  clear hcap hkk
  obtain ⟨w10, hw10⟩ : ∃ w10, w10 = w9.alloc (.cells #[.slice A' 1 c1, .slice none 0 0, .int .u64 (t0.fl : Int), .int .i64 (t0.ex : Int), .int .i64 (t0.tc : Int), .int .u64 (t0.tk : Int), .int .i64 (t0.st : Int), .int .i64 (t0.ms : Int)] 52) := ⟨_, rfl⟩
  have b910 : Below w9.heap.size w9 w10 := by rw [hw10]; exact (Below.refl _ _).alloc (Nat.le_refl _) _
  have b810 := b9.trans (b910.mono b9.size)
  obtain ⟨ta, hta⟩ : ∃ ta : It, ta = { t0 with key := t0.key.take 1, val := [] } := ⟨_, rfl⟩
  have tak : ta.key.length = 1 := by rw [hta]; exact lt2.out
  have tav : ta.val.length = 0 := by rw [hta]; rfl
  have finea : ta.Fine := by rw [hta]; exact ⟨lt1.out, fine.out.fl, fine.out.ex, fine.out.tc, fine.out.tk, fine.out.st1, fine.out.st4, fine.out.ms⟩
  have tac : ta.cells A' none c1 0 = #[.slice A' 1 c1, .slice none 0 0, .int .u64 (ta.fl : Int), .int .i64 (ta.ex : Int), .int .i64 (ta.tc : Int), .int .u64 (ta.tk : Int), .int .i64 (ta.st : Int), .int .i64 (ta.ms : Int)] := by rw [It.cells_eq, tak, tav]
  have I0 : ItB w10 w9.heap.size ta A' none c1 0 := by
    refine ⟨?_, ?_, ?_⟩
    · rw [tac, hw10, hta]; exact Blk.new w9 _ _
    · rw [hta]
      exact bytes_take (bytes_go kB9 b910)
    · rw [hta]; exact Base.Row.nil_ _ _ _
  have C := C0.out.step b810
  have FA : Away L3.ha w9.heap.size ta A' none := ⟨by have := b9.size; omega, fun _ b off e => by have := hA' b off e; omega, fun hne b off e => by cases e⟩
  have hkne : ta.key ≠ [] := fun e => by rw [e] at tak; simp at tak
  have hAI := Lib.hid (show ∀ b off, A' = some ⟨b, off, none⟩ → b ≠ w9.heap.size from fun b off e => Nat.ne_of_lt (arg_lt kB9 (by intro e; rw [e] at kl1; simp at kl1) e))
  have hFN := Lib.hid (show ∀ d, Foot L3 c sb d → d ≠ w9.heap.size from fun d hd => by have := C0.out.set.lt hd; have := b9.size; omega)
  have hNI0 : w1.heap.size ≤ w9.heap.size := Nat.le_trans (by omega) b9.size
  replace hw10 := Lib.hid hw10
  replace I0 := Lib.hid I0
  replace C := Lib.hid C
  replace FA := Lib.hid FA
  replace finea := Lib.hid finea
  replace tac := Lib.hid tac
  replace hkne := Lib.hid hkne
  replace tak := Lib.hid tak
  replace tav := Lib.hid tav
  have htv : ta.val = [] := by rw [hta]
  replace htv := Lib.hid htv
  have h_all := Lib.hid (show ta.fl = t0.fl ∧ ta.ex = t0.ex ∧ ta.tc = t0.tc ∧ ta.tk = t0.tk ∧ ta.st = t0.st ∧ ta.ms = t0.ms by rw [hta]; exact ⟨rfl, rfl, rfl, rfl, rfl, rfl⟩)
  replace hta := Lib.hid hta
  clear MC b9 b910 b810 kB9 C0 hA' y0 y1 y2 y3 y4 y5 y6 y7 y8 y9 y10 lt1 lt2 kl1 kl2
  generalize hNI : w9.heap.size = NI at *
  replace hNI := Lib.hid hNI
  go_upto_region 8 with fail
  rw [hNI.out, ← hw10.out]
  clear hw10 hNI
  obtain ⟨room, hroom⟩ : ∃ r, r = c.sz q := ⟨_, rfl⟩
  rw [← hroom] at K1 K2 hp1 hp2
  have hcf1 : c.cf.sz q = room := hroom.symm
  rw [hcf1] at hap
  have n64 := K1.out.n64
  have nb := K1.out.nb
  replace hap := Lib.hid hap
  replace hp1 := Lib.hid hp1
  replace hp2 := Lib.hid hp2
  replace hroom := Lib.hid hroom
  clear hcf1 fl0 hx0
  obtain ⟨z0, z1, z2, z3, z4, z5, z6, z7⟩ := it_cells I0.out.it
  rw [tak.out] at z0
  rw [tav.out] at z1
  have FIN := Lib.hid (fun wz (h : Below w1.heap.size w1 wz) => b01.out.trans (h.mono (B' := NA) (Nat.le_of_lt hNA)))
  have hfitb : p1 + (58 + ta.key.length + ta.val.length) ≤ bs0.length := by have := hp1.out.2; have := hbl.out; rw [tak.out, tav.out]; omega
  have Y := itemLayYes w10 L3 c sb bs0 C.out.set g2.out H1 hH1 _ _ p1 K1.out.hf (by rw [K1.out.hk]; exact hq) (by omega) (by rw [K1.out.hk, K1.out.sz, hbl.out]; exact K1.out.ck) ta finea.out (by rw [K1.out.hk, K1.out.sz, tak.out, tav.out]; omega) A' none c1 0 w10.heap.size I0.out.kB I0.out.vB (FA.out.k hkne.out) FA.out.v
  rw [K1.out.hk, itemB_enc bs0 p1 q G1 ta hfitb hgen1.out, e3, tac.out] at Y
  have Hs := Has.lay_ bs0 p1 ⟨0, 0, 0, G1, q, ta⟩ hfitb
  have hl1 : (lay bs0 p1 (Whole.enc ⟨0, 0, 0, G1, q, ta⟩)).length = blen := by rw [← hbl.out]; exact lay_len _ _ _ (by rw [Whole.enc_len]; exact hfitb)
  have hgn2 : ((lay bs0 p1 (Whole.enc ⟨0, 0, 0, G1, q, ta⟩)).drop (p2 + 12)).take 4 = putB 4 G2 := by
    rw [lay_far (by rw [Whole.enc_len]; exact hfitb) (by rw [Whole.enc_len]; have := hap.out; have h1 := tak.out; have h2 := tav.out; show p2 + 12 + 4 ≤ p1 ∨ p1 + (58 + ta.key.length + ta.val.length) ≤ p2 + 12; omega)]
    exact hgen2.out
  generalize lay bs0 p1 (Whole.enc ⟨0, 0, 0, G1, q, ta⟩) = bs1 at *
  obtain ⟨tz, htz⟩ : ∃ tz : It, tz = ⟨[122], [], 0, 0, 0, 0, 1, 0⟩ := ⟨_, rfl⟩
  have finez : tz.Fine := by rw [htz]; exact ⟨by decide, by decide, by decide, by decide, by decide, by decide, by decide, by decide⟩
  have hfitz : p2 + (58 + tz.key.length + tz.val.length) ≤ bs1.length := by have := hp2.out.2; rw [htz]; show p2 + 59 ≤ _; omega
  have HsA : Has (lay bs1 p2 (Whole.enc ⟨0, 0, 0, G2, q, tz⟩)) p1 ⟨0, 0, 0, G1, q, ta⟩ := Seg.far Hs p2 _ (by rw [Whole.enc_len]; exact hfitz) (by
    rw [Whole.enc_len]
    show p2 + (58 + tz.key.length + tz.val.length) ≤ p1 ∨ p1 + (lns ta.key.length ta.val.length).sum ≤ p2
    rw [lns_sum, tak.out, tav.out, htz]
    have := hap.out
    show p2 + 59 ≤ p1 ∨ p1 + (58 + 1 + 0) ≤ p2
    omega)
  have hl2 : (lay bs1 p2 (Whole.enc ⟨0, 0, 0, G2, q, tz⟩)).length = blen := by rw [← hl1]; exact lay_len _ _ _ (by rw [Whole.enc_len]; exact hfitz)
  have kc := fun (w : World) (C : Array Value) (n c : Nat) => Lib.run_convert_bytes_const (P := Try.prog) w 28 5 C n c Try.underlying28 Try.underlying5
  replace Y := Lib.hid Y
  replace Hs := Lib.hid Hs
  replace HsA := Lib.hid HsA
  replace hl1 := Lib.hid hl1
  replace hl2 := Lib.hid hl2
  replace hgn2 := Lib.hid hgn2
  replace finez := Lib.hid finez
  replace hfitz := Lib.hid hfitz
  replace htz := Lib.hid htz
  clear hfitb hgen1 hgen2
  go_wp2_with fail
  refine Y.out.mono ?_
  rintro e w11 ⟨rfl, Mb, ob⟩
  have C1 := C.out.laid hhaF (by omega) Mb ob
  have I1 := I0.out.laid FA.out ob
  obtain ⟨w12, hw12⟩ : ∃ w12, w12 = w11.alloc (.cells #[.int .u8 122] 5 (1, 2)) := ⟨_, rfl⟩
  have b1112 : Below w11.heap.size w11 w12 := by rw [hw12]; exact (Below.refl _ _).alloc (Nat.le_refl _) _
  have C2 := C1.step b1112
  have I2 := I1.step b1112
  have k12 : Bytes w12 w12.heap.size (some ⟨w11.heap.size, 0, none⟩) tz.key := by rw [htz.out]; exact bytes1 (w' := w12) 122 _ rfl (fz := (1, 2)) (by rw [hw12]; exact heap_alloc_new w11 _) (by rw [hw12, World.size_alloc]; omega)
  have hhaL1 : L3.ha < w11.heap.size := C1.set.lt (b := L3.ha) ⟨.bytes, rfl⟩
  have YZ := itemLayYes w12 L3 c sb bs1 C2.set g2.out H2 hI1 _ _ p2 K2.out.hf (by rw [K2.out.hk]; exact hq) (by omega) (by rw [K2.out.hk, K2.out.sz, hl1.out]; exact K2.out.ck) tz finez.out (by rw [K2.out.hk, K2.out.sz, htz.out]; show 59 ≤ room; omega) (some ⟨w11.heap.size, 0, none⟩) none 1 0 w12.heap.size k12 (by rw [htz.out]; exact Base.Row.nil_ _ _ _) (fun b off e => by simp only [Option.some.injEq, Addr.mk.injEq] at e; omega) (fun _ b off e => by cases e)
  rw [K2.out.hk, itemB_enc bs1 p2 q G2 tz hfitz.out hgn2.out, e3, show tz.cells (some ⟨w11.heap.size, 0, none⟩) none 1 0 = #[.slice (some ⟨w11.heap.size, 0, none⟩) 1 1, .slice none 0 0, .int .u64 0, .int .i64 0, .int .i64 0, .int .u64 0, .int .i64 1, .int .i64 0] by rw [htz.out]; rfl] at YZ
  generalize lay bs1 p2 (Whole.enc ⟨0, 0, 0, G2, q, tz⟩) = bs2 at *
  replace YZ := Lib.hid YZ
  replace C2 := Lib.hid C2
  replace I2 := Lib.hid I2
  replace hw12 := Lib.hid hw12
  clear Y Mb ob C I0 C1 I1 b1112 k12 z0 z1 z2 z3 z4 z5 z6 z7 Hs
  go_wp2_with (first | (go_at_call 8; refine (n0 _).mono ?_; rintro e w' ⟨rfl, rfl⟩) | fail)
  rw [← hw12.out]
  refine YZ.out.mono ?_
  rintro e w13 ⟨rfl, Mb, ob⟩
  have C3 := C2.out.laid hhaF (by omega) Mb ob
  have I3 := I2.out.laid FA.out ob
  have KB := K2.out
  rw [← hl2.out] at KB
  have A2 := chunkOfC w13 L3 c sb bs2 C3.set g2.out KB
  rw [e3] at A2
  have hlo : ((bs2.drop p2).take room).length = room := by have := hp2.out.2; have := hl2.out; simp; omega
  obtain ⟨lo, hlo0⟩ : ∃ lo, lo = (bs2.drop p2).take room := ⟨_, rfl⟩
  rw [← hlo0] at A2 hlo
  replace A2 := Lib.hid A2
  replace C3 := Lib.hid C3
  replace I3 := Lib.hid I3
  replace hlo := Lib.hid hlo
  replace hlo0 := Lib.hid hlo0
  have sI := Lib.hid (show NI < w13.heap.size from I3.out.it.lt)
  have sC := Lib.hid (show L3.ha < w13.heap.size from C3.out.set.lt (b := L3.ha) ⟨.bytes, rfl⟩)
  clear YZ Mb ob C2 I2 hw12 KB kc
  go_wp2_with (first | (go_at_call 8; refine (n0 _).mono ?_; rintro e w' ⟨rfl, rfl⟩) | fail)
  refine A2.out.mono ?_
  rintro e w14 ⟨bo, rfl, hbo, Bo, b14'⟩
  have C4 := C3.out.step b14'
  have I4 := I3.out.step b14'
  obtain ⟨y0, y1, y2, y3, y4, y5, y6, y7, y8, y9, y10⟩ := laid_cells C4.arg
  obtain ⟨yl, hyl⟩ : ∃ yl : LaidA, yl = ⟨0, 0, [], [], [], x.tk, x.fl, x.tc, x.ex, x.ms, x.st⟩ := ⟨_, rfl⟩
  have okl : yl.Ok := by rw [hyl]; exact ⟨by show Cls.In 0; unfold Cls.In; omega, by show Cls.In 0; unfold Cls.In; omega, by show 0 ≤ maxLen; unfold maxLen; omega, ok.out.tk, ok.out.fl, ok.out.tc, ok.out.ex, ok.out.ms, ok.out.st⟩
  have MD := madeC w14 yl okl none none none 0 0 0 (by rw [hyl]; exact Base.Row.nil_ _ _ _)
  have finey := yl.fine okl.tk
  have hyc : yl.cells none none none 0 0 0 = #[.int .i64 0, .int .i64 0, .slice none 0 0, .slice none 0 0, .slice none 0 0, .int .u64 (x.tk : Int), .int .u64 (x.fl : Int), .int .i64 x.tc, .int .i64 x.ex, .int .i64 x.ms, .int .i64 x.st] := by rw [hyl]; rfl
  have hyk : yl.it.key = rightN yl.key := rfl
  have hyv : yl.it.val = [] := by rw [hyl]; rfl
  rw [hyc, ← hyk] at MD
  generalize yl.it = ty at *
  simp only [It.cells_eq] at MD
  have haw : bo ≠ L3.ha := by have := sC.out; omega
  have hboI : bo ≠ NI := by have := sI.out; omega
  replace MD := Lib.hid MD
  replace C4 := Lib.hid C4
  replace I4 := Lib.hid I4
  replace Bo := Lib.hid Bo
  replace finey := Lib.hid finey
  replace hyv := Lib.hid hyv
  clear A2 b14' C3 I3 hyc hyk hyl okl hbo
  go_wp2_with fail
  refine MD.out.mono ?_
  rintro e w15 ⟨Y', d1, rfl, b15, hY', kY⟩
  obtain ⟨w16, hw16⟩ : ∃ w16, w16 = w15.alloc (.cells #[.slice Y' ty.key.length d1, .slice none ty.val.length 0, .int .u64 (ty.fl : Int), .int .i64 (ty.ex : Int), .int .i64 (ty.tc : Int), .int .u64 (ty.tk : Int), .int .i64 (ty.st : Int), .int .i64 (ty.ms : Int)] 52) := ⟨_, rfl⟩
  have b1516 : Below w15.heap.size w15 w16 := by rw [hw16]; exact (Below.refl _ _).alloc (Nat.le_refl _) _
  have b1416 := b15.trans (b1516.mono b15.size)
  have J5 : ItB w16 w15.heap.size ty Y' none d1 0 := ⟨by rw [hw16, ← It.cells_eq]; exact Blk.new w15 _ _, bytes_go kY b1516, by rw [hyv.out]; exact Base.Row.nil_ _ _ _⟩
  have C5 := C4.out.step b1416
  have I5 := I4.out.step b1416
  have Bo5 := BB.go Bo.out b1416
  have hha4 : L3.ha < w14.heap.size := C4.out.set.lt (b := L3.ha) ⟨.bytes, rfl⟩
  have FY : Away L3.ha w15.heap.size ty Y' none := ⟨by have := b15.size; omega, fun _ b off e => by have := hY' b off e; omega, fun hne b off e => by cases e⟩
  have hYI := Lib.hid (show ∀ b off, Y' = some ⟨b, off, none⟩ → b ≠ NI from fun b off e => by have := hY' b off e; have := I4.out.it.lt; omega)
  have hNIY : NI < w15.heap.size := Nat.lt_of_lt_of_le I4.out.it.lt b15.size
  replace hw16 := Lib.hid hw16
  replace J5 := Lib.hid J5
  replace C5 := Lib.hid C5
  replace I5 := Lib.hid I5
  replace Bo5 := Lib.hid Bo5
  replace FY := Lib.hid FY
  clear MD b15 b1516 b1416 kY hY' C4 I4 Bo y0 y1 y2 y3 y4 y5 y6 y7 y8 y9 y10 hha4
  generalize hNY : w15.heap.size = NY at *
  replace hNY := Lib.hid hNY
  go_upto_region 11 with fail
  rw [hNY.out, ← hw16.out]
  clear hw16 hNY
  have hout := Lib.hid (show lo = (bs2.drop p2).take room from hlo0.out)
  go_wp2
  go_loopw [10] (fun v wr => ∃ (k : Nat) (t : It) (bs : List UInt8), k ≤ 6 ∧ v = .int .i64 (k : Int) ∧ Hid (AB w1 wr L3 c sb bs NA (x.cells Ak Av An ck cv cn)) ∧ Hid (ItB wr NI t A' none c1 0) ∧ Hid (ItB wr NY ty Y' none d1 0) ∧ Hid t.Fine ∧ Hid (Has bs p1 ⟨0, 0, 0, G1, q, t⟩) ∧ Hid (bs.length = blen) ∧ Hid (BB wr 5 bo lo) ∧ Hid (lo = (bs.drop p2).take room) ∧ Hid (t.key.length = 1) ∧ Hid (t.val = [])) (fun v _ => 6 - (intOf v).toNat)
  case atStart => exact ⟨0, ta, bs2, by omega, rfl, C5, I5, J5, finea, HsA, hl2, Bo5, hout, tak, htv⟩
  case round =>
    clear C5 I5 J5 finea HsA hl2 Bo5 hout tak htv hlo0 hta htz
    obtain ⟨k, t, bs, hk, rfl, C, I, J, fin, Hs, hl, Bo, ho, tk1, tv1⟩ := hrel
    by_cases hk6 : k < 6
    · have d6 : decide ((k : Int) < 6) = true := decide_eq_true (by omega)
      have qk : IntKind.i64.wrap ((k : Int) + 1) = ((k + 1 : Nat) : Int) := by rw [IntWalk.i64_in _ (by omega)]; rfl
      have KA := K1.out
      rw [← hl.out] at KA
      have h44 : rd bs (p1 + 44) 1 ≠ 0 := by rw [Hs.out.key_len (by show t.key.length < 256; rw [tk1.out]; omega)]; show t.key.length ≠ 0; rw [tk1.out]; omega
      have FD : ∀ (o n v : Nat), o + n ≤ 56 → (lay bs (p1 + o) (putB n v)).length = blen ∧ lo = ((lay bs (p1 + o) (putB n v)).drop p2).take room := fun o n v hon => by
        have h1 := hp1.out.1
        have h2 := hl.out
        refine ⟨by rw [putlen _ _ _ _ (by omega)]; exact h2, ?_⟩
        rw [lay_far (by rw [putB_len]; omega) (by rw [putB_len]; have := hap.out; omega)]
        exact ho.out
      go_upto_block 2 with fail
      go_cut [11] from 98 to 156 (fun s11 wx => s11 = .int .i64 0 ∧ ∃ (t' : It) (bs' : List UInt8), Hid (AB w1 wx L3 c sb bs' NA (x.cells Ak Av An ck cv cn)) ∧ Hid (ItB wx NI t' A' none c1 0) ∧ Hid (ItB wx NY ty Y' none d1 0) ∧ Hid t'.Fine ∧ Hid (Has bs' p1 ⟨0, 0, 0, G1, q, t'⟩) ∧ Hid (bs'.length = blen) ∧ Hid (BB wx 5 bo lo) ∧ Hid (lo = (bs'.drop p2).take room) ∧ Hid (t'.key.length = 1) ∧ Hid (t'.val = []))
      case first =>
        rcases (show k = 0 ∨ k = 1 ∨ k = 2 ∨ k = 3 ∨ k = 4 ∨ k = 5 by omega) with rfl | rfl | rfl | rfl | rfl | rfl
        · have SF := setFlC wr L3 c sb bs C.out.set g2.out KA h44 ty.fl finey.out.fl
          rw [e3] at SF
          obtain ⟨fd1, fd2⟩ := FD 40 4 ty.fl (by omega)
          have hs := Hs.out.set_fl (v := ty.fl)
          generalize lay bs (p1 + 40) (putB 4 ty.fl) = bs' at *
          replace SF := Lib.hid SF
          replace hs := Lib.hid hs
          replace fd1 := Lib.hid fd1
          replace fd2 := Lib.hid fd2
          clear FD
          have yy := J.out.it.cell 2
          rw [It.cells_eq] at yy
          go_wp2_with fail
          refine SF.out.mono ?_
          rintro e wa ⟨rfl, Mb, ob⟩
          have C' := C.out.laid hhaF (by omega) Mb ob
          have I' := I.out.laid ⟨FA.out.n, fun _ => FA.out.k hkne.out, fun _ b off e => by cases e⟩ ob
          have J' := J.out.laid FY.out ob
          have Bo' : BB wa 5 bo lo := (ob.block bo Bo.out.lt haw).trans Bo.out
          have y2 := J'.it.cell 2
          have x2 := I'.it.cell 2
          have fz := I'.it.frozen 2
          rw [It.cells_eq] at y2 x2
          have o2 : Only (· = NI) wa (wa.setCell ⟨NI, 2, none⟩ (.int .u64 (ty.fl : Int))) := only_at wa NI 2 _ rfl
          have C'' := Lib.hid (C'.other hFN.out (by omega) hNI0 o2)
          have I'' := Lib.hid (I'.put hAI.out (fun b off e => by cases e) 2 (.int .u64 (ty.fl : Int)) (t' := { t with fl := ty.fl }) rfl rfl rfl)
          have J'' := Lib.hid (J'.laid (ha := NI) ⟨by omega, fun _ => hYI.out, fun _ b off e => by cases e⟩ o2)
          have Bo'' : Hid (BB (wa.setCell ⟨NI, 2, none⟩ (.int .u64 (ty.fl : Int))) 5 bo lo) := Lib.hid ((o2.block bo Bo'.lt hboI).trans Bo')
          clear SF Mb ob C' I' J' Bo' o2
          go_wp2
          go_meet
          exact ⟨rfl, { t with fl := ty.fl }, bs', C'', I'', J'', Lib.hid ⟨fin.out.legal, finey.out.fl, fin.out.ex, fin.out.tc, fin.out.tk, fin.out.st1, fin.out.st4, fin.out.ms⟩, hs, fd1, Bo'', fd2, tk1, tv1⟩
        · have SF := setTkC wr L3 c sb bs C.out.set g2.out KA h44 ty.tk finey.out.tk
          rw [e3] at SF
          obtain ⟨fd1, fd2⟩ := FD 32 8 ty.tk (by omega)
          have hs := Hs.out.set_tk (v := ty.tk)
          generalize lay bs (p1 + 32) (putB 8 ty.tk) = bs' at *
          replace SF := Lib.hid SF
          replace hs := Lib.hid hs
          replace fd1 := Lib.hid fd1
          replace fd2 := Lib.hid fd2
          clear FD
          have yy := J.out.it.cell 5
          rw [It.cells_eq] at yy
          go_wp2_with fail
          refine SF.out.mono ?_
          rintro e wa ⟨rfl, Mb, ob⟩
          have C' := C.out.laid hhaF (by omega) Mb ob
          have I' := I.out.laid ⟨FA.out.n, fun _ => FA.out.k hkne.out, fun _ b off e => by cases e⟩ ob
          have J' := J.out.laid FY.out ob
          have Bo' : BB wa 5 bo lo := (ob.block bo Bo.out.lt haw).trans Bo.out
          have y5 := J'.it.cell 5
          have x5 := I'.it.cell 5
          have fz := I'.it.frozen 5
          rw [It.cells_eq] at y5 x5
          have o2 : Only (· = NI) wa (wa.setCell ⟨NI, 5, none⟩ (.int .u64 (ty.tk : Int))) := only_at wa NI 5 _ rfl
          have C'' := Lib.hid (C'.other hFN.out (by omega) hNI0 o2)
          have I'' := Lib.hid (I'.put hAI.out (fun b off e => by cases e) 5 (.int .u64 (ty.tk : Int)) (t' := { t with tk := ty.tk }) rfl rfl rfl)
          have J'' := Lib.hid (J'.laid (ha := NI) ⟨by omega, fun _ => hYI.out, fun _ b off e => by cases e⟩ o2)
          have Bo'' : Hid (BB (wa.setCell ⟨NI, 5, none⟩ (.int .u64 (ty.tk : Int))) 5 bo lo) := Lib.hid ((o2.block bo Bo'.lt hboI).trans Bo')
          clear SF Mb ob C' I' J' Bo' o2
          go_wp2
          go_meet
          exact ⟨rfl, { t with tk := ty.tk }, bs', C'', I'', J'', Lib.hid ⟨fin.out.legal, fin.out.fl, fin.out.ex, fin.out.tc, finey.out.tk, fin.out.st1, fin.out.st4, fin.out.ms⟩, hs, fd1, Bo'', fd2, tk1, tv1⟩
        · have SF := setExC wr L3 c sb bs C.out.set g2.out KA h44 ty.ex finey.out.ex
          rw [e3] at SF
          obtain ⟨fd1, fd2⟩ := FD 16 8 ty.ex (by omega)
          have hs := Hs.out.set_ex (v := ty.ex)
          generalize lay bs (p1 + 16) (putB 8 ty.ex) = bs' at *
          replace SF := Lib.hid SF
          replace hs := Lib.hid hs
          replace fd1 := Lib.hid fd1
          replace fd2 := Lib.hid fd2
          clear FD
          have yy := J.out.it.cell 3
          rw [It.cells_eq] at yy
          go_wp2_with fail
          refine SF.out.mono ?_
          rintro e wa ⟨rfl, Mb, ob⟩
          have C' := C.out.laid hhaF (by omega) Mb ob
          have I' := I.out.laid ⟨FA.out.n, fun _ => FA.out.k hkne.out, fun _ b off e => by cases e⟩ ob
          have J' := J.out.laid FY.out ob
          have Bo' : BB wa 5 bo lo := (ob.block bo Bo.out.lt haw).trans Bo.out
          have y3 := J'.it.cell 3
          have x3 := I'.it.cell 3
          have fz := I'.it.frozen 3
          rw [It.cells_eq] at y3 x3
          have o2 : Only (· = NI) wa (wa.setCell ⟨NI, 3, none⟩ (.int .i64 (ty.ex : Int))) := only_at wa NI 3 _ rfl
          have C'' := Lib.hid (C'.other hFN.out (by omega) hNI0 o2)
          have I'' := Lib.hid (I'.put hAI.out (fun b off e => by cases e) 3 (.int .i64 (ty.ex : Int)) (t' := { t with ex := ty.ex }) rfl rfl rfl)
          have J'' := Lib.hid (J'.laid (ha := NI) ⟨by omega, fun _ => hYI.out, fun _ b off e => by cases e⟩ o2)
          have Bo'' : Hid (BB (wa.setCell ⟨NI, 3, none⟩ (.int .i64 (ty.ex : Int))) 5 bo lo) := Lib.hid ((o2.block bo Bo'.lt hboI).trans Bo')
          clear SF Mb ob C' I' J' Bo' o2
          go_wp2
          go_meet
          exact ⟨rfl, { t with ex := ty.ex }, bs', C'', I'', J'', Lib.hid ⟨fin.out.legal, fin.out.fl, finey.out.ex, fin.out.tc, fin.out.tk, fin.out.st1, fin.out.st4, fin.out.ms⟩, hs, fd1, Bo'', fd2, tk1, tv1⟩
        · have SF := setTcC wr L3 c sb bs C.out.set g2.out KA h44 ty.tc finey.out.tc
          rw [e3] at SF
          obtain ⟨fd1, fd2⟩ := FD 24 8 ty.tc (by omega)
          have hs := Hs.out.set_tc (v := ty.tc)
          generalize lay bs (p1 + 24) (putB 8 ty.tc) = bs' at *
          replace SF := Lib.hid SF
          replace hs := Lib.hid hs
          replace fd1 := Lib.hid fd1
          replace fd2 := Lib.hid fd2
          clear FD
          have yy := J.out.it.cell 4
          rw [It.cells_eq] at yy
          go_wp2_with fail
          refine SF.out.mono ?_
          rintro e wa ⟨rfl, Mb, ob⟩
          have C' := C.out.laid hhaF (by omega) Mb ob
          have I' := I.out.laid ⟨FA.out.n, fun _ => FA.out.k hkne.out, fun _ b off e => by cases e⟩ ob
          have J' := J.out.laid FY.out ob
          have Bo' : BB wa 5 bo lo := (ob.block bo Bo.out.lt haw).trans Bo.out
          have y4 := J'.it.cell 4
          have x4 := I'.it.cell 4
          have fz := I'.it.frozen 4
          rw [It.cells_eq] at y4 x4
          have o2 : Only (· = NI) wa (wa.setCell ⟨NI, 4, none⟩ (.int .i64 (ty.tc : Int))) := only_at wa NI 4 _ rfl
          have C'' := Lib.hid (C'.other hFN.out (by omega) hNI0 o2)
          have I'' := Lib.hid (I'.put hAI.out (fun b off e => by cases e) 4 (.int .i64 (ty.tc : Int)) (t' := { t with tc := ty.tc }) rfl rfl rfl)
          have J'' := Lib.hid (J'.laid (ha := NI) ⟨by omega, fun _ => hYI.out, fun _ b off e => by cases e⟩ o2)
          have Bo'' : Hid (BB (wa.setCell ⟨NI, 4, none⟩ (.int .i64 (ty.tc : Int))) 5 bo lo) := Lib.hid ((o2.block bo Bo'.lt hboI).trans Bo')
          clear SF Mb ob C' I' J' Bo' o2
          go_wp2
          go_meet
          exact ⟨rfl, { t with tc := ty.tc }, bs', C'', I'', J'', Lib.hid ⟨fin.out.legal, fin.out.fl, fin.out.ex, finey.out.tc, fin.out.tk, fin.out.st1, fin.out.st4, fin.out.ms⟩, hs, fd1, Bo'', fd2, tk1, tv1⟩
        · have SF := setStC wr L3 c sb bs C.out.set g2.out KA h44 ty.st finey.out.st1 finey.out.st4
          rw [e3] at SF
          obtain ⟨fd1, fd2⟩ := FD 45 1 ty.st (by omega)
          have hs := Hs.out.set_st (v := ty.st)
          generalize lay bs (p1 + 45) (putB 1 ty.st) = bs' at *
          replace SF := Lib.hid SF
          replace hs := Lib.hid hs
          replace fd1 := Lib.hid fd1
          replace fd2 := Lib.hid fd2
          clear FD
          have yy := J.out.it.cell 6
          rw [It.cells_eq] at yy
          go_wp2_with fail
          refine SF.out.mono ?_
          rintro e wa ⟨rfl, Mb, ob⟩
          have C' := C.out.laid hhaF (by omega) Mb ob
          have I' := I.out.laid ⟨FA.out.n, fun _ => FA.out.k hkne.out, fun _ b off e => by cases e⟩ ob
          have J' := J.out.laid FY.out ob
          have Bo' : BB wa 5 bo lo := (ob.block bo Bo.out.lt haw).trans Bo.out
          have y6 := J'.it.cell 6
          have x6 := I'.it.cell 6
          have fz := I'.it.frozen 6
          rw [It.cells_eq] at y6 x6
          have o2 : Only (· = NI) wa (wa.setCell ⟨NI, 6, none⟩ (.int .i64 (ty.st : Int))) := only_at wa NI 6 _ rfl
          have C'' := Lib.hid (C'.other hFN.out (by omega) hNI0 o2)
          have I'' := Lib.hid (I'.put hAI.out (fun b off e => by cases e) 6 (.int .i64 (ty.st : Int)) (t' := { t with st := ty.st }) rfl rfl rfl)
          have J'' := Lib.hid (J'.laid (ha := NI) ⟨by omega, fun _ => hYI.out, fun _ b off e => by cases e⟩ o2)
          have Bo'' : Hid (BB (wa.setCell ⟨NI, 6, none⟩ (.int .i64 (ty.st : Int))) 5 bo lo) := Lib.hid ((o2.block bo Bo'.lt hboI).trans Bo')
          clear SF Mb ob C' I' J' Bo' o2
          go_wp2
          go_meet
          exact ⟨rfl, { t with st := ty.st }, bs', C'', I'', J'', Lib.hid ⟨fin.out.legal, fin.out.fl, fin.out.ex, fin.out.tc, fin.out.tk, finey.out.st1, finey.out.st4, fin.out.ms⟩, hs, fd1, Bo'', fd2, tk1, tv1⟩
        · have SF := setMsC wr L3 c sb bs C.out.set g2.out KA h44 ty.ms finey.out.ms
          rw [e3] at SF
          obtain ⟨fd1, fd2⟩ := FD 46 1 ty.ms (by omega)
          have hs := Hs.out.set_ms (v := ty.ms)
          generalize lay bs (p1 + 46) (putB 1 ty.ms) = bs' at *
          replace SF := Lib.hid SF
          replace hs := Lib.hid hs
          replace fd1 := Lib.hid fd1
          replace fd2 := Lib.hid fd2
          clear FD
          have yy := J.out.it.cell 7
          rw [It.cells_eq] at yy
          go_wp2_with fail
          refine SF.out.mono ?_
          rintro e wa ⟨rfl, Mb, ob⟩
          have C' := C.out.laid hhaF (by omega) Mb ob
          have I' := I.out.laid ⟨FA.out.n, fun _ => FA.out.k hkne.out, fun _ b off e => by cases e⟩ ob
          have J' := J.out.laid FY.out ob
          have Bo' : BB wa 5 bo lo := (ob.block bo Bo.out.lt haw).trans Bo.out
          have y7 := J'.it.cell 7
          have x7 := I'.it.cell 7
          have fz := I'.it.frozen 7
          rw [It.cells_eq] at y7 x7
          have o2 : Only (· = NI) wa (wa.setCell ⟨NI, 7, none⟩ (.int .i64 (ty.ms : Int))) := only_at wa NI 7 _ rfl
          have C'' := Lib.hid (C'.other hFN.out (by omega) hNI0 o2)
          have I'' := Lib.hid (I'.put hAI.out (fun b off e => by cases e) 7 (.int .i64 (ty.ms : Int)) (t' := { t with ms := ty.ms }) rfl rfl rfl)
          have J'' := Lib.hid (J'.laid (ha := NI) ⟨by omega, fun _ => hYI.out, fun _ b off e => by cases e⟩ o2)
          have Bo'' : Hid (BB (wa.setCell ⟨NI, 7, none⟩ (.int .i64 (ty.ms : Int))) 5 bo lo) := Lib.hid ((o2.block bo Bo'.lt hboI).trans Bo')
          clear SF Mb ob C' I' J' Bo' o2
          go_wp2
          go_meet
          exact ⟨rfl, { t with ms := ty.ms }, bs', C'', I'', J'', Lib.hid ⟨fin.out.legal, fin.out.fl, fin.out.ex, fin.out.tc, fin.out.tk, fin.out.st1, fin.out.st4, finey.out.ms⟩, hs, fd1, Bo'', fd2, tk1, tv1⟩
      case rest =>
        obtain ⟨rfl, t', bs', C', I', J', fin', hs', hl', Bo', ho', tk', tv'⟩ := hcut
        have rV := Lib.hid (hs'.out.key_len (by show t'.key.length < 256; rw [tk'.out]; omega))
        have rU := Lib.hid (hs'.out.val_len (by show t'.val.length < 4294967296; rw [tv'.out]; decide))
        have rex := Lib.hid (hs'.out.ex (by have := fin'.out.ex; show t'.ex < 18446744073709551616; omega))
        have rtc := Lib.hid (hs'.out.tc (by have := fin'.out.tc; show t'.tc < 18446744073709551616; omega))
        have rtk := Lib.hid (hs'.out.tk fin'.out.tk)
        have rfl_ := Lib.hid (hs'.out.fl fin'.out.fl)
        have rst := Lib.hid (hs'.out.st (by have := fin'.out.st4; show t'.st < 256; omega))
        have rms := Lib.hid (hs'.out.ms (by have := fin'.out.ms; show t'.ms < 256; omega))
        have rkey := Lib.hid hs'.out.key
        have rval := Lib.hid hs'.out.val
        dsimp only at rV rU rex rtc rtk rfl_ rst rms rkey rval
        have KB := K1.out
        rw [← hl'.out] at KB
        have RD := readYes wc L3 c sb bs' C'.out.set g2.out KB t'.key.length t'.val.length rV.out.symm rU.out.symm (by rw [tk'.out]; omega) (by rw [tk'.out, tv'.out]; show 58 + 1 + 0 ≤ room; omega) (by rw [rex.out]; exact fin'.out.ex) (by rw [rtc.out]; exact fin'.out.tc)
        simp only [rex.out, rtc.out, rtk.out, rfl_.out, rst.out, rms.out, rkey.out, rval.out] at RD
        rw [e3] at RD
        replace RD := Lib.hid RD
        clear KB rV rU rex rtc rtk rfl_ rst rms rkey rval FD KA h44 C I J fin Hs hl Bo ho tk1 tv1
        go_wp2_with fail
        refine RD.out.mono ?_
        rintro e wd ⟨bd, g1, g2', rfl, hg1, hg2, hne', Bg1, Bg2⟩
        obtain ⟨wl, hwl⟩ : ∃ wl, wl = wd.alloc (.cells #[.slice (some ⟨g1, 0, none⟩) t'.key.length t'.key.length, .slice (some ⟨g2', 0, none⟩) t'.val.length t'.val.length, .int .u64 (t'.fl : Int), .int .i64 (t'.ex : Int), .int .i64 (t'.tc : Int), .int .u64 (t'.tk : Int), .int .i64 (t'.st : Int), .int .i64 (t'.ms : Int)] 52) := ⟨_, rfl⟩
        have bde : Below wd.heap.size wd wl := by rw [hwl]; exact (Below.refl _ _).alloc (Nat.le_refl _) _
        have bce := bd.trans (bde.mono bd.size)
        have G' : ItB wl wd.heap.size t' (some ⟨g1, 0, none⟩) (some ⟨g2', 0, none⟩) t'.key.length t'.val.length := ⟨by rw [hwl, ← It.cells_eq]; exact Blk.new wd _ _, (BB.go Bg1 bde).all _ (BB.go Bg1 bde).lt, (BB.go Bg2 bde).all _ (BB.go Bg2 bde).lt⟩
        have C2 := C'.out.step bce
        have I2 := I'.out.step bce
        have J2 := J'.out.step bce
        have Bo2 := BB.go Bo'.out bce
        have EQ := equalTrueC wl t' (some ⟨g1, 0, none⟩) (some ⟨g2', 0, none⟩) A' none t'.key.length t'.val.length c1 0 G'.kB G'.vB I2.kB I2.vB
        rw [It.cells_eq, It.cells_eq] at EQ
        obtain ⟨z0, z1, z2, z3, z4, z5, z6, z7⟩ := it_cells I2.it
        obtain ⟨x0, x1, x2, x3, x4, x5, x6, x7⟩ := it_cells G'.it
        replace hwl := Lib.hid hwl
        replace C2 := Lib.hid C2
        replace I2 := Lib.hid I2
        replace J2 := Lib.hid J2
        replace Bo2 := Lib.hid Bo2
        replace EQ := Lib.hid EQ
        clear RD bd bde bce hg1 hg2 hne' Bg1 Bg2 G' C' I' J' Bo'
        generalize hNG : wd.heap.size = NG at *
        replace hNG := Lib.hid hNG
        go_upto_region 35 with fail
        rw [hNG.out, ← hwl.out]
        clear hwl hNG
        go_wp2_with (first | (go_at_call 8; refine (n0 _).mono ?_; rintro e w' ⟨rfl, rfl⟩) | fail)
        refine EQ.out.mono ?_
        rintro e wm ⟨rfl, bm⟩
        have C3 := Lib.hid (C2.out.step bm)
        have I3 := Lib.hid (I2.out.step bm)
        have J3 := Lib.hid (J2.out.step bm)
        have Bo3 := Lib.hid (BB.go Bo2.out bm)
        clear EQ bm C2 I2 J2 Bo2 z0 z1 z2 z3 z4 z5 z6 z7 x0 x1 x2 x3 x4 x5 x6 x7
        go_wp2
        go_roundw
        case rel => exact ⟨k + 1, t', bs', by omega, rfl, C3, I3, J3, fin', hs', hl', Bo3, ho', tk', tv'⟩
        case measure => simp [intOf] <;> omega
    · have d6 : decide ((k : Int) < 6) = false := decide_eq_false (by omega)
      clear J FY hAI hFN hYI finey hyv
      obtain ⟨NL, hNL⟩ : ∃ N, N = wr.heap.size := ⟨_, rfl⟩
      obtain ⟨wz, hwz⟩ : ∃ wz, wz = wr.alloc (.cells #[.int .u64 0, .int .u64 0, .int .u64 0] 77) := ⟨_, rfl⟩
      have bz : Below wr.heap.size wr wz := by rw [hwz]; exact (Below.refl _ _).alloc (Nat.le_refl _) _
      have Cz := Lib.hid (C.out.step bz)
      have Iz := Lib.hid (I.out.step bz)
      have Boz := Lib.hid (BB.go Bo.out bz)
      have Lz : Hid (Blk wz NL 77 (lk3 fun _ => 0)) := by rw [hwz, hNL]; exact Lib.hid (Blk.new wr _ _)
      have Hz : Hid (Has bs p1 (wh3 (fun _ => 0) G1 q t)) := Hs
      have hLF := Lib.hid (show (∀ d, Foot L3 c sb d → d ≠ NL) ∧ NA ≠ NL ∧ NI ≠ NL ∧ bo ≠ NL ∧ w1.heap.size ≤ NL ∧ NL ≠ L3.ha ∧ (∀ b off, A' = some ⟨b, off, none⟩ → b ≠ NL) by
        rw [hNL]
        refine ⟨fun d hd => by have := C.out.set.lt hd; omega, by have := C.out.arg.lt; omega, by have := I.out.it.lt; omega, by have := Bo.out.lt; omega, C.out.below.size, by have := C.out.set.lt (b := L3.ha) ⟨.bytes, rfl⟩; omega, fun b off e => by have := arg_lt I.out.kB (by intro e; have := tk1.out; rw [e] at this; simp at this) e; omega⟩)
      replace hwz := Lib.hid hwz
      replace hNL := Lib.hid hNL
      clear bz C I Bo Hs
      go_upto_region 38 with fail
      rw [← hNL.out, ← hwz.out]
      clear hwz
      have hTs : ∀ T : Nat, (T = 0 ∨ T = H1 ∨ T = H2) → (T = 0 ∨ T < 18446744073709551616 ∧ T ≠ 0 ∧ ∃ ti tx tp, findN c.cf sb T = some (ti, tx, tp)) ∧ (T = 0 ∨ ∃ r, T % 4294967296 = r + 1 ∧ ofN c.cf sb ((8 * r : Nat) : Int) = some T) := fun T hT => by
        rcases hT with rfl | rfl | rfl
        · exact ⟨.inl rfl, .inl rfl⟩
        · refine ⟨.inr ⟨hH1, hH2, _, _, _, K1.out.hf⟩, .inr ⟨p1 / 8, hH3, ?_⟩⟩
          rw [show 8 * (p1 / 8) = p1 by omega]; exact hO1.out
        · refine ⟨.inr ⟨hI1, hI2, _, _, _, K2.out.hf⟩, .inr ⟨p2 / 8, hI3, ?_⟩⟩
          rw [show 8 * (p2 / 8) = p2 by omega]; exact hO2.out
      replace hTs := Lib.hid hTs
      clear hNL hk6 d6 hk
      go_wp2
      go_loopw [15] (fun v wr => ∃ (k : Nat) (hh : Nat → Nat) (bs : List UInt8), k ≤ 6 ∧ v = .int .i64 (k : Int) ∧ Hid (AB w1 wr L3 c sb bs NA (x.cells Ak Av An ck cv cn)) ∧ Hid (ItB wr NI t A' none c1 0) ∧ Hid (Has bs p1 (wh3 hh G1 q t)) ∧ Hid (bs.length = blen) ∧ Hid (BB wr 5 bo lo) ∧ Hid (lo = (bs.drop p2).take room) ∧ Hid (Blk wr NL 77 (lk3 hh)) ∧ Hid (∀ j, hh j = 0 ∨ hh j = H1 ∨ hh j = H2)) (fun v _ => 6 - (intOf v).toNat)
      case atStart => exact ⟨0, fun _ => 0, bs, by omega, rfl, Cz, Iz, Hz, hl, Boz, ho, Lz, Lib.hid (fun _ => .inl rfl)⟩
      case round =>
        clear Cz Iz Hz hl Boz ho Lz
        obtain ⟨k, hh, bs, hk, rfl, C, I, Hs, hl, Bo, ho, LL, hhs⟩ := hrel
        rename World => wr2
        by_cases hk6 : k < 6
        · have d6 : decide ((k : Int) < 6) = true := decide_eq_true (by omega)
          have qk : IntKind.i64.wrap ((k : Int) + 1) = ((k + 1 : Nat) : Int) := by rw [IntWalk.i64_in _ (by omega)]; rfl
          obtain ⟨y0, y1, y2, y3, y4, y5, y6, y7, y8, y9, y10⟩ := laid_cells C.out.arg
          have W1 := Lib.hid (withinI x.st 2 ok.out.st (by omega) (by omega))
          have hA := withinI_lt x.st (n := 2) (by omega)
          rw [show ((2 : Nat) : Int) = 2 from rfl] at W1 hA
          generalize (x.st % 2).toNat = a at *
          have qa : IntKind.i64.wrap (1 + (a : Int)) = ((1 + a : Nat) : Int) := by rw [IntWalk.i64_in _ (by omega)]; omega
          obtain ⟨A1, hA1⟩ : ∃ A1, A1 = 1 + a := ⟨_, rfl⟩
          rw [← hA1] at qa
          have hA2 : A1 ≤ 2 := by omega
          obtain ⟨KA, hKA⟩ : ∃ KA, KA = k * A1 := ⟨_, rfl⟩
          have hKb : KA ≤ 12 := by rw [hKA]; exact Nat.mul_le_mul (show k ≤ 6 by omega) hA2
          have qb : IntKind.i64.wrap ((k : Int) * (A1 : Int)) = (KA : Int) := by rw [← Int.natCast_mul, ← hKA]; exact IntWalk.i64_in _ (by omega)
          obtain ⟨S1, hS1⟩ : ∃ S1, IntKind.i64.wrap (x.cls + (KA : Int)) = S1 := ⟨_, rfl⟩
          have hS1I : Cls.In S1 := by rw [← hS1]; exact wrap_In _
          have W2 := Lib.hid (withinI S1 3 hS1I (by omega) (by omega))
          have hB := withinI_lt S1 (n := 3) (by omega)
          rw [show ((3 : Nat) : Int) = 3 from rfl] at W2 hB
          generalize (S1 % 3).toNat = wh at *
          obtain ⟨S2, hS2⟩ : ∃ S2, IntKind.i64.wrap (x.ms + (k : Int)) = S2 := ⟨_, rfl⟩
          have hS2I : Cls.In S2 := by rw [← hS2]; exact wrap_In _
          have W3 := withinI S2 3 hS2I (by omega) (by omega)
          have hD := withinI_lt S2 (n := 3) (by omega)
          rw [show ((3 : Nat) : Int) = 3 from rfl] at W3 hD
          generalize (S2 % 3).toNat = ti at *
          replace W3 := Lib.hid W3
          clear hS1I hS2I hA1 hKA y0 y2 y3 y4 y5 y6 y7 y8
          go_upto_region 41 with fail
          go_quiet ((go_at_call 19; first | with_reducible exact quiet_left (W1.out _) | with_reducible exact quiet_left (W2.out _)))
          rename Nat => nq
          have C2 := C.out.drewN nq
          have I2 := Lib.hid (I.out.drewN nq)
          have bdr : Below wr2.heap.size wr2 (wr2.drewN nq) := below_drew (Below.refl _ _) nq
          have Bo2 := Lib.hid (BB.go Bo.out bdr)
          have LL2 := Lib.hid (LL.out.drewN nq)
          obtain ⟨-, -, -, -, -, -, -, -, -, -, y10⟩ := laid_cells C2.arg
          replace C2 := Lib.hid C2
          obtain ⟨wr3, hwr3⟩ : ∃ wz, wr2.drewN nq = wz := ⟨_, rfl⟩
          rw [hwr3] at C2 I2 Bo2 LL2 y10
          clear bdr C I Bo LL W1 W2
          go_upto_region 42 with fail
          rw [hwr3]
          clear hwr3
          go_cut [17] from 191 to 199 (fun s17 wx => s17 = .int .u64 ((pick3 H1 H2 ti : Nat) : Int) ∧ wr3 = wx)
          case first =>
            have ix0 : ∀ w : World, (Instr.index 77 (.agg #[.int .u64 (H1 : Int), .int .u64 (H2 : Int), .int .u64 0]) (.int .i64 0)).run Try.prog w = .ok (.int .u64 (H1 : Int)) w := fun _ => by kernel_rfl
            have ix1 : ∀ w : World, (Instr.index 77 (.agg #[.int .u64 (H1 : Int), .int .u64 (H2 : Int), .int .u64 0]) (.int .i64 1)).run Try.prog w = .ok (.int .u64 (H2 : Int)) w := fun _ => by kernel_rfl
            have ix2 : ∀ w : World, (Instr.index 77 (.agg #[.int .u64 (H1 : Int), .int .u64 (H2 : Int), .int .u64 0]) (.int .i64 2)).run Try.prog w = .ok (.int .u64 0) w := fun _ => by kernel_rfl
            rcases (show ti = 0 ∨ ti = 1 ∨ ti = 2 by omega) with rfl | rfl | rfl
            all_goals
              go_wp2_with (first | (go_at_call 19; refine (W3.out _).mono ?_; rintro e w' ⟨rfl, rfl⟩) | fail)
              go_meet
              exact ⟨rfl, rfl⟩
          case rest =>
            obtain ⟨rfl, rfl⟩ := hcut
            rename World => wr4
            have hT : pick3 H1 H2 ti = 0 ∨ pick3 H1 H2 ti = H1 ∨ pick3 H1 H2 ti = H2 := by
              rcases (show ti = 0 ∨ ti = 1 ∨ ti = 2 by omega) with rfl | rfl | rfl
              · exact .inr (.inl rfl)
              · exact .inr (.inr rfl)
              · exact .inl rfl
            generalize pick3 H1 H2 ti = T at *
            have KA' := K1.out
            rw [← hl.out] at KA'
            have h44 : rd bs (p1 + 44) 1 ≠ 0 := by rw [Hs.out.key_len (by show t.key.length < 256; rw [tk1.out]; omega)]; show t.key.length ≠ 0; rw [tk1.out]; omega
            have SL := setLinkC C2.out.set g2.out KA' h44 wh (by omega) T (hTs.out T hT).1
            rw [e3] at SL
            have Hs2 := link_set Hs.out (j := wh) (by omega) T
            have hl2' : (lay bs (p1 + 4 * wh) (putB 4 (T % 4294967296))).length = blen := by rw [putlen _ _ _ _ (by have := hp1.out.1; have := hl.out; omega)]; exact hl.out
            have ho2 : lo = ((lay bs (p1 + 4 * wh) (putB 4 (T % 4294967296))).drop p2).take room := by
              rw [lay_far (by rw [putB_len]; have := hp1.out.1; have := hl.out; omega) (by rw [putB_len]; have := hap.out; omega)]
              exact ho.out
            generalize lay bs (p1 + 4 * wh) (putB 4 (T % 4294967296)) = bs3 at *
            have hhs2 : ∀ j, upd hh wh T j = 0 ∨ upd hh wh T j = H1 ∨ upd hh wh T j = H2 := fun j => by
              unfold upd
              split
              · exact hT
              · exact hhs.out j
            have k0 : (0 : Int) ≤ (wh : Int) := by omega
            have k1 : (wh : Int) < 3 := by omega
            replace SL := Lib.hid SL
            replace Hs2 := Lib.hid Hs2
            replace hl2' := Lib.hid hl2'
            replace ho2 := Lib.hid ho2
            replace hhs2 := Lib.hid hhs2
            replace hT := Lib.hid hT
            clear W3 y10 h44 Hs hl ho KA'
            go_wp2_with fail
            refine SL.out.mono ?_
            rintro e wb ⟨rfl, Mb, ob⟩
            obtain ⟨hLF1, hLF2, hLF3, hLF4, hLF5, hLF6, hLF7⟩ := hLF.out
            have C3 := C2.out.laid hhaF (by omega) Mb ob
            have I3 := I2.out.laid ⟨FA.out.n, fun _ => FA.out.k hkne.out, fun _ b off e => by cases e⟩ ob
            have Bo3 : BB wb 5 bo lo := (ob.block bo Bo2.out.lt haw).trans Bo2.out
            have LL3 : Blk wb NL 77 (lk3 hh) := ob.at_ LL2.out hLF6
            have o4 : Only (· = NL) wb (wb.setCell ⟨NL, wh, none⟩ (.int .u64 (T : Int))) := only_at wb NL wh _ rfl
            have C4 := Lib.hid (C3.other hLF1 hLF2 hLF5 o4)
            have I4 := Lib.hid (I3.laid (ha := NL) ⟨hLF3, fun _ => hLF7, fun _ b off e => by cases e⟩ o4)
            have Bo4 : Hid (BB (wb.setCell ⟨NL, wh, none⟩ (.int .u64 (T : Int))) 5 bo lo) := Lib.hid ((o4.block bo Bo3.lt hLF4).trans Bo3)
            have LL4 : Blk (wb.setCell ⟨NL, wh, none⟩ (.int .u64 (T : Int))) NL 77 ((lk3 hh).setIfInBounds wh (.int .u64 (T : Int))) := LL3.set_ wh _
            rw [lk3_set hh (by omega)] at LL4
            have fz := LL3.frozen wh
            have cl := lk3_at LL3 (j := wh) (by omega)
            obtain ⟨wc', hwc⟩ : ∃ wz, wz = wb.setCell ⟨NL, wh, none⟩ (.int .u64 (T : Int)) := ⟨_, rfl⟩
            rw [← hwc] at C4 I4 Bo4 LL4
            replace LL4 := Lib.hid LL4
            replace hwc := Lib.hid hwc
            clear SL Mb ob C2 I2 Bo2 LL2 C3 I3 Bo3 LL3 o4 hLF1 hLF2 hLF3 hLF4 hLF5 hLF6 hLF7
            generalize upd hh wh T = h2 at *
            go_upto_region 46 with (first | (go_at_call 8; refine (n0 _).mono ?_; rintro e w' ⟨rfl, rfl⟩) | fail)
            rw [← hwc.out]
            clear hwc fz cl k0 k1
            go_wp2
            go_loopw [18] (fun v ws => ∃ (m : Nat), m ≤ 3 ∧ v = .int .i64 (m : Int) ∧ Hid (AB w1 ws L3 c sb bs3 NA (x.cells Ak Av An ck cv cn)) ∧ Hid (ItB ws NI t A' none c1 0) ∧ Hid (BB ws 5 bo lo) ∧ Hid (Blk ws NL 77 (lk3 h2))) (fun v _ => 3 - (intOf v).toNat)
            case atStart => exact ⟨0, by omega, rfl, C4, I4, Bo4, LL4⟩
            case round =>
              clear C4 I4 Bo4 LL4
              obtain ⟨m, hm, rfl, C, I, Bo, LL⟩ := hrel
              by_cases hm3 : m < 3
              · have d7 : decide ((m : Int) < 3) = true := decide_eq_true (by omega)
                have qm : IntKind.i64.wrap ((m : Int) + 1) = ((m + 1 : Nat) : Int) := by rw [IntWalk.i64_in _ (by omega)]; rfl
                have KA' := K1.out
                rw [← hl2'.out] at KA'
                have h44 : rd bs3 (p1 + 44) 1 ≠ 0 := by rw [Hs2.out.key_len (by show t.key.length < 256; rw [tk1.out]; omega)]; show t.key.length ≠ 0; rw [tk1.out]; omega
                have LK := linkC C.out.set g2.out KA' h44 m (by omega) (h2 m) (link_rd Hs2.out (by omega)) (hTs.out _ (hhs2.out m)).2
                rw [e3] at LK
                have k0 : (0 : Int) ≤ (m : Int) := by omega
                have k1 : (m : Int) < 3 := by omega
                obtain ⟨hm', hhm⟩ : ∃ z, z = h2 m := ⟨_, rfl⟩
                rw [← hhm] at LK
                have nn : ((hm' : Int) != (hm' : Int)) = false := by simp
                have nn' : decide ((hm' : Int) ≠ (hm' : Int)) = false := by simp
                replace LK := Lib.hid LK
                clear KA' h44
                go_wp2_with fail
                refine LK.out.mono ?_
                rintro e wf ⟨rfl, bf⟩
                have C3 := Lib.hid (C.out.step bf)
                have I3 := Lib.hid (I.out.step bf)
                have Bo3 := Lib.hid (BB.go Bo.out bf)
                have LL3 := LL.out.below bf LL.out.lt
                have cl := lk3_at LL3 (j := m) (by omega)
                rw [← hhm] at cl
                replace LL3 := Lib.hid LL3
                replace hhm := Lib.hid hhm
                clear LK bf C I Bo LL
                go_wp2_with (first | (go_at_call 8; refine (n0 _).mono ?_; rintro e w' ⟨rfl, rfl⟩) | fail)
                go_roundw
                case rel => exact ⟨m + 1, by omega, rfl, C3, I3, Bo3, LL3⟩
                case measure => simp [intOf] <;> omega
              · obtain rfl : m = 3 := by omega
                clear hm3
                go_wp2
                go_roundw
                case rel => exact ⟨k + 1, h2, bs3, by omega, rfl, C, I, Hs2, hl2', Bo, ho2, LL, hhs2⟩
                case measure => simp [intOf] <;> omega
        · have d6 : decide ((k : Int) < 6) = false := decide_eq_false (by omega)
          have rV := Lib.hid (Hs.out.key_len (by show t.key.length < 256; rw [tk1.out]; omega))
          have rU := Lib.hid (Hs.out.val_len (by show t.val.length < 4294967296; rw [tv1.out]; decide))
          have rex := Lib.hid (Hs.out.ex (by have := fin.out.ex; show t.ex < 18446744073709551616; omega))
          have rtc := Lib.hid (Hs.out.tc (by have := fin.out.tc; show t.tc < 18446744073709551616; omega))
          have rtk := Lib.hid (Hs.out.tk fin.out.tk)
          have rfl_ := Lib.hid (Hs.out.fl fin.out.fl)
          have rst := Lib.hid (Hs.out.st (by have := fin.out.st4; show t.st < 256; omega))
          have rms := Lib.hid (Hs.out.ms (by have := fin.out.ms; show t.ms < 256; omega))
          have rkey := Lib.hid Hs.out.key
          have rval := Lib.hid Hs.out.val
          dsimp only [wh3] at rV rU rex rtc rtk rfl_ rst rms rkey rval
          have KB := K1.out
          have KC := K2.out
          rw [← hl.out] at KB KC
          have RD := readYes wr2 L3 c sb bs C.out.set g2.out KB t.key.length t.val.length rV.out.symm rU.out.symm (by rw [tk1.out]; omega) (by rw [tk1.out, tv1.out]; show 58 + 1 + 0 ≤ room; omega) (by rw [rex.out]; exact fin.out.ex) (by rw [rtc.out]; exact fin.out.tc)
          simp only [rex.out, rtc.out, rtk.out, rfl_.out, rst.out, rms.out, rkey.out, rval.out] at RD
          rw [e3] at RD
          replace RD := Lib.hid RD
          clear KB rV rU rex rtc rtk rfl_ rst rms rkey rval LL hhs hk6
          go_wp2_with fail
          refine RD.out.mono ?_
          rintro e wd ⟨bd, g1, g2', rfl, hg1, hg2, hne', Bg1, Bg2⟩
          obtain ⟨wl, hwl⟩ : ∃ wl, wl = wd.alloc (.cells #[.slice (some ⟨g1, 0, none⟩) t.key.length t.key.length, .slice (some ⟨g2', 0, none⟩) t.val.length t.val.length, .int .u64 (t.fl : Int), .int .i64 (t.ex : Int), .int .i64 (t.tc : Int), .int .u64 (t.tk : Int), .int .i64 (t.st : Int), .int .i64 (t.ms : Int)] 52) := ⟨_, rfl⟩
          have bde : Below wd.heap.size wd wl := by rw [hwl]; exact (Below.refl _ _).alloc (Nat.le_refl _) _
          have bce := bd.trans (bde.mono bd.size)
          have G' : ItB wl wd.heap.size t (some ⟨g1, 0, none⟩) (some ⟨g2', 0, none⟩) t.key.length t.val.length := ⟨by rw [hwl, ← It.cells_eq]; exact Blk.new wd _ _, (BB.go Bg1 bde).all _ (BB.go Bg1 bde).lt, (BB.go Bg2 bde).all _ (BB.go Bg2 bde).lt⟩
          have C2 := C.out.step bce
          have I2 := I.out.step bce
          have Bo2 := BB.go Bo.out bce
          have EQ := equalTrueC wl t (some ⟨g1, 0, none⟩) (some ⟨g2', 0, none⟩) A' none t.key.length t.val.length c1 0 G'.kB G'.vB I2.kB I2.vB
          rw [It.cells_eq, It.cells_eq] at EQ
          obtain ⟨z0, z1, z2, z3, z4, z5, z6, z7⟩ := it_cells I2.it
          obtain ⟨x0, x1, x2, x3, x4, x5, x6, x7⟩ := it_cells G'.it
          have r0 : decide ((0 : Int) < (room : Int)) = true := decide_eq_true (by omega)
          have r0' : decide (0 < room) = true := decide_eq_true (by omega)
          replace hwl := Lib.hid hwl
          replace C2 := Lib.hid C2
          replace Bo2 := Lib.hid Bo2
          replace EQ := Lib.hid EQ
          clear RD bd bde bce hg1 hg2 hne' Bg1 Bg2 G' C I I2 Bo
          generalize hNG : wd.heap.size = NG at *
          replace hNG := Lib.hid hNG
          go_upto_region 53 with fail
          rw [hNG.out, ← hwl.out]
          clear hwl hNG
          go_wp2_with (first | (go_at_call 8; refine (n0 _).mono ?_; rintro e w' ⟨rfl, rfl⟩) | fail)
          refine EQ.out.mono ?_
          rintro e wm ⟨rfl, bm⟩
          have C3 := C2.out.step bm
          have Bo3 := Lib.hid (BB.go Bo2.out bm)
          have A3 := chunkOfC wm L3 c sb bs C3.set g2.out KC
          rw [e3, ← ho.out] at A3
          replace A3 := Lib.hid A3
          replace C3 := Lib.hid C3
          clear EQ bm C2 Bo2 z0 z1 z2 z3 z4 z5 z6 z7 x0 x1 x2 x3 x4 x5 x6 x7 KC
          go_wp2_with fail
          refine A3.out.mono ?_
          rintro e wn ⟨bx, rfl, hbx, Bx, bn⟩
          have E1 := Lib.hid (eq_whole Bx (BB.go Bo3.out bn) hlo.out)
          have bfin := Lib.hid (FIN.out wn (C3.out.step bn).below)
          clear A3 bn C3 Bx Bo3 hbx
          go_wp2_with (first | (go_at_call 26; refine E1.out.mono ?_; rintro e w' ⟨rfl, rfl⟩) | fail)
          go_ret
          exact ⟨rfl, bfin.out⟩
end Go.Proofs.Ytdmclekohalolaa.Itm
