/-
  The walk of one. (Printed by wip/gen_one.py.)
-/
import Derived.Test.YtgodinapdahocaaClassOne
import Derived.Test.YtgodinapdahocaaQuietTail
import Derived.Test.YtgodinapdahocaaClassNewsLaw
namespace Go.Proofs.Ytgodinapdahocaa.Cls
open Go.RowKit Base MapG
set_option linter.unusedVariables false

set_option maxRecDepth 100000 in
set_option maxHeartbeats 6400000 in
theorem oneTell (w : World) (L : Lay) (c : Conf) (s : St) (bs : List UInt8) (o : POp) (Av : Option Addr) (nv cv : Nat) (v : Value) (told : List Nat) (G : Grp w L c s bs v told) (ha : In o.a) (hh : o.h < 18446744073709551616) (hom : ∀ i, s.om i ≤ 1000000000) (hln : told.length ≤ 1000000) (hd : o.do_ ≠ 1 ∧ o.do_ ≠ 2 ∧ o.do_ ≠ 10 ∧ o.do_ ≠ 11 ∧ o.do_ ≠ 12) :
    Calls Try.prog 33 #[.pointer (some ⟨L.g, 0, none⟩), opV o (.slice Av nv cv), v] w fun e w' =>
      ∃ vO vT L' bs', e = .returned (.tuple #[vO, vT]) ∧ OnePost w w' L L' c s (oneN c.cf s o told) bs' v vO vT := by
  obtain ⟨A, cp, rfl⟩ := own_is G.row
  have n1 := Lib.hid numC
  have hHb := oneH_lt (o := o) hh G.small
  obtain ⟨w1, hw1⟩ : ∃ w1, w1 = w.alloc (.cells #[.int .i64 o.do_, .int .i64 o.a, .int .i64 o.b, .int .u64 (o.h : Int), .bool o.raw, .slice Av nv cv] 64) := ⟨_, rfl⟩
  have B1 : Blk w1 w.heap.size 64 #[.int .i64 o.do_, .int .i64 o.a, .int .i64 o.b, .int .u64 (o.h : Int), .bool o.raw, .slice Av nv cv] := by rw [hw1]; exact Blk.new w _ _
  have x0 : w1.cell? ⟨w.heap.size, 0, none⟩ = some (.int .i64 o.do_) := B1.cell 0
  have x1 : w1.cell? ⟨w.heap.size, 1, none⟩ = some (.int .i64 o.a) := B1.cell 1
  have x3 : w1.cell? ⟨w.heap.size, 3, none⟩ = some (.int .u64 (o.h : Int)) := B1.cell 3
  have x4 : w1.cell? ⟨w.heap.size, 4, none⟩ = some (.bool o.raw) := B1.cell 4
  have G1 : Grp w1 L c s bs (.slice A told.length cp) told := by rw [hw1]; exact G.alloc _
  have M1 : Moved w w1 L L c s s (.slice A told.length cp) (.slice A told.length cp) := by rw [hw1]; exact Moved.quiet (S := fun _ => False) ((Only.refl _ _).alloc _) L c s _
  unfold opV
  have ok := G.set.okc
  have hnc1 : 1 ≤ c.nc := ok.nc
  have hnc2 : c.nc ≤ 62 := ok.ncb
  replace hd := Lib.hid hd
  replace hw1 := Lib.hid hw1
  replace B1 := Lib.hid B1
  replace G1 := Lib.hid G1
  replace M1 := Lib.hid M1
  replace ok := Lib.hid ok
  obtain ⟨N, hN⟩ : ∃ N, w.heap.size = N := ⟨_, rfl⟩
  rw [hN] at x0 x1 x3 x4 B1
  replace hN := Lib.hid hN
  clear G
  go_enter Try.func33, Try.ntmps33
  go_upto_region 1 with fail
  rw [hN.out, ← hw1.out]
  go_upto_region 2 with fail
  go_cut [26] from 17 to 25 (fun s26 wx => s26 = .bool (toldUse o told) ∧ w1 = wx)
  case first =>
    rcases Bool.eq_false_or_eq_true o.raw with hr | hr
    · have hu : toldUse o told = false := by unfold toldUse; rw [hr]; rfl
      rw [hr] at x4
      replace hu := Lib.hid hu
      clear hr
      go_wp2_with fail
      go_meet
      exact ⟨by rw [hu.out], rfl⟩
    · rw [hr] at x4
      by_cases h0 : 0 < told.length
      · have hu : toldUse o told = true := by unfold toldUse; rw [hr]; simp [h0]
        have d0 : decide (0 < (told.length : Int)) = true := decide_eq_true (by omega)
        replace hu := Lib.hid hu
        clear hr
        go_wp2_with fail
        go_meet
        exact ⟨by rw [hu.out], rfl⟩
      · have hu : toldUse o told = false := by unfold toldUse; rw [hr, decide_eq_false h0]; rfl
        have d0 : decide (0 < (told.length : Int)) = false := decide_eq_false (by omega)
        replace hu := Lib.hid hu
        clear hr
        go_wp2_with fail
        go_meet
        exact ⟨by rw [hu.out], rfl⟩
  case rest =>
    obtain ⟨rfl, rfl⟩ := hcut
    clear x4
    go_upto_if 26 with fail
    go_cut [8] from 17 to 34 (fun s8 wx => s8 = .int .u64 (oneH o told : Int) ∧ w1 = wx)
    case first =>
      cases hu : toldUse o told with
      | false =>
        have hH : oneH o told = o.h := if_neg (by rw [hu]; simp)
        replace hH := Lib.hid hH
        clear hu
        go_wp2_with fail
        go_meet
        exact ⟨by rw [hH.out], rfl⟩
      | true =>
        have h0 : 1 ≤ told.length := by
          unfold toldUse at hu
          simp at hu
          omega
        have WI := Lib.hid (withinC o.a told.length ha h0 (by omega))
        have hb := within_lt o.a h0
        have hH : oneH o told = told.getD (o.a % (told.length : Int)).toNat 0 := if_pos hu
        generalize (o.a % (told.length : Int)).toNat = b at *
        have hget : told[b]? = some (told.getD b 0) := by
          rw [List.getD_eq_getElem?_getD, List.getElem?_eq_getElem hb]; rfl
        obtain ⟨ga, cp', hsl, ca⟩ := own_at (i := b) (x := hvv (told.getD b 0)) G1.out.row (by rw [List.getElem?_map, hget]; rfl)
        injection hsl with hA1 hA2 hA3
        subst hA1 hA3
        rw [← hH] at ca
        have ca' : w1.cell? ⟨ga, b, none⟩ = some (.int .u64 (oneH o told : Int)) := ca
        have b0 : (0 : Int) ≤ (b : Int) := by omega
        have b1 : (b : Int) < (told.length : Int) := by omega
        clear hu hH hget ca
        go_wp2_with fail
        refine (WI.out _).mono ?_
        rintro e w' ⟨rfl, rfl⟩
        go_wp2_with fail
        go_meet
        exact ⟨rfl, rfl⟩
    case rest =>
      obtain ⟨rfl, rfl⟩ := hcut
      clear x3
      have d1 : (o.do_ == 1) = false := by rw [beq_eq_false_iff_ne]; have := hd.out; omega
      have e1 : decide (o.do_ = 1) = false := decide_eq_false (by have := hd.out; omega)
      have d2 : (o.do_ == 2) = false := by rw [beq_eq_false_iff_ne]; have := hd.out; omega
      have e2 : decide (o.do_ = 2) = false := decide_eq_false (by have := hd.out; omega)
      have d10 : (o.do_ == 10) = false := by rw [beq_eq_false_iff_ne]; have := hd.out; omega
      have e10 : decide (o.do_ = 10) = false := decide_eq_false (by have := hd.out; omega)
      have d11 : (o.do_ == 11) = false := by rw [beq_eq_false_iff_ne]; have := hd.out; omega
      have e11 : decide (o.do_ = 11) = false := decide_eq_false (by have := hd.out; omega)
      have d12 : (o.do_ == 12) = false := by rw [beq_eq_false_iff_ne]; have := hd.out; omega
      have e12 : decide (o.do_ = 12) = false := decide_eq_false (by have := hd.out; omega)
      have ee : oneN c.cf s o told = (tellN c.cf s o told, s, told) := by
        unfold oneN
        rw [if_neg hd.out.1, if_neg hd.out.2.1, if_neg hd.out.2.2.1, if_neg hd.out.2.2.2.1, if_neg hd.out.2.2.2.2]
      have AC := atC w1 L c s bs G1.out.set G1.out.good (oneH o told) hHb
      rw [atV_eq] at AC
      have OC := fun m => ofC (w1.drewN m) L c s bs (G1.out.set.drewN m) G1.out.good (atN c.cf s (oneH o told)).1
      simp only [ofV_eq] at OC
      obtain ⟨a1, h1⟩ : ∃ a, a = (atN c.cf s (oneH o told)).1 := ⟨_, rfl⟩
      obtain ⟨a2, h2⟩ : ∃ a, a = (atN c.cf s (oneH o told)).2.1 := ⟨_, rfl⟩
      obtain ⟨a3, h3⟩ : ∃ a, a = (atN c.cf s (oneH o told)).2.2 := ⟨_, rfl⟩
      obtain ⟨r, h4⟩ : ∃ r, r = ofN c.cf s a1 := ⟨_, rfl⟩
      rw [← h1, ← h2, ← h3] at AC
      simp only [← h1, ← h4] at OC
      obtain ⟨Kh, hKh⟩ : ∃ Kh, Kh = r.getD 0 := ⟨_, rfl⟩
      obtain ⟨VV, hVV⟩ : ∃ VV, VV = i64v Kh := ⟨_, rfl⟩
      have qv : IntKind.i64.wrap (Kh : Int) = VV := hVV.symm
      obtain ⟨ow, how⟩ : ∃ x : Int, x = ownerN c.cf s o.a := ⟨_, rfl⟩
      obtain ⟨qu, hqu⟩ : ∃ x : Int, x = (quotaN c.cf s o.a : Int) := ⟨_, rfl⟩
      obtain ⟨fr, hfr⟩ : ∃ x : Int, x = freeN c.cf s o.a := ⟨_, rfl⟩
      obtain ⟨tk, htk⟩ : ∃ x : Int, x = takenN c.cf s o.a := ⟨_, rfl⟩
      have hT : tellN c.cf s o told = [a1, a2, a3, VV, (s.spare : Int), ow, qu, fr, tk] ++ (if r.isSome = true then [1] else []) := by
        rw [hVV, hKh, how, hqu, hfr, htk, h4, h1, h2, h3]
        rfl
      simp only [← hKh] at OC
      have C1 := fun (W : World) (g : Grp W L c s bs (.slice A told.length cp) told) => freePagesC W L c s bs g.set
      have C2 := fun (W : World) (g : Grp W L c s bs (.slice A told.length cp) told) => ownerC' W L c s bs g.set o.a
      have C3 := fun (W : World) (g : Grp W L c s bs (.slice A told.length cp) told) => quotaC W L c s bs g.set g.good o.a
      have C4 := fun (W : World) (g : Grp W L c s bs (.slice A told.length cp) told) => freeC' W L c s bs g.set o.a
      have C5 := fun (W : World) (g : Grp W L c s bs (.slice A told.length cp) told) => takenC' W L c s bs g.set o.a
      rw [← how] at C2
      rw [← hqu] at C3
      rw [← hfr] at C4
      rw [← htk] at C5
      rw [hT] at ee
      obtain ⟨okB, hok⟩ : ∃ okB, okB = r.isSome := ⟨_, rfl⟩
      rw [← hok] at ee
      simp only [← hok] at OC
      replace AC := Lib.hid AC
      replace OC := Lib.hid OC
      replace C1 := Lib.hid C1
      replace C2 := Lib.hid C2
      replace C3 := Lib.hid C3
      replace C4 := Lib.hid C4
      replace C5 := Lib.hid C5
      replace ee := Lib.hid ee
      clear h1 h2 h3 h4 hVV hKh how hqu hfr htk hT hok
      go_wp2_with fail
      refine AC.out.mono ?_
      rintro e w' ⟨rfl, m1, rfl⟩
      go_wp2_with fail
      refine (OC.out m1).mono ?_
      rintro e w' ⟨rfl, m2, rfl⟩
      have G3 := Lib.hid (G1.out.drewN (m1 + m2))
      have M3 := Lib.hid (M1.out.trans (Moved.quiet (S := fun _ => False) ((Only.refl _ w1).drewN (m1 + m2)) L c s (.slice A told.length cp)))
      have x1' : (w1.drewN (m1 + m2)).cell? ⟨N, 1, none⟩ = some (.int .i64 o.a) := x1
      go_upto_region 20 with fail
      obtain ⟨w3, hw3⟩ : ∃ w3, w3 = w1.drewN (m1 + m2) := ⟨_, rfl⟩
      rw [← hw3] at G3 M3 x1' ⊢
      clear AC OC hw3 x1 G1 M1 hw1 B1
      have NU := Lib.hid (fun m => n1.out (w3.drewN m) a3)
      refine QTail.region_quiet_tail 24 (by kernel_rfl) (by kernel_rfl) ?_
      simp only [List.take_succ_cons, List.take_zero, List.drop_succ_cons, List.drop_zero]
      repeat (go_big_quiet_step (first
        | (go_at_call 11; with_reducible exact quiet_left (NU.out _))
        | (go_at_call 19; with_reducible exact quiet_left (C1.out _ (G3.out.drewN _)))
        | (go_at_call 57; with_reducible exact quiet_left (C2.out _ (G3.out.drewN _)))
        | (go_at_call 22; with_reducible exact quiet_more (C3.out _ (G3.out.drewN _)))
        | (go_at_call 30; with_reducible exact quiet_left (C4.out _ (G3.out.drewN _)))
        | (go_at_call 29; with_reducible exact quiet_left (C5.out _ (G3.out.drewN _)))))
      refine wpQuiet_nil ?_
      rintro _ ⟨nq, rfl⟩
      have G4 := G3.out.drewN nq
      have M4 := M3.out.trans (Moved.quiet (S := fun _ => False) ((Only.refl _ w3).drewN nq) L c s (.slice A told.length cp))
      obtain ⟨w4, hw4⟩ : ∃ w4, w4 = w3.drewN nq := ⟨_, rfl⟩
      rw [← hw4] at G4 M4 ⊢
      clear hw4 G3 M3 C1 C2 C3 C4 C5 NU x1'
      cases okB with
      | false =>
        have PO := post_lit (w := w) rfl G4 M4 [a1, a2, a3, VV, (s.spare : Int), ow, qu, fr, tk] (show 9 ≤ 1000 by omega)
        have ee' : oneN c.cf s o told = ([a1, a2, a3, VV, (s.spare : Int), ow, qu, fr, tk], s, told) := ee.out
        rw [← ee'] at PO
        replace PO := Lib.hid PO
        clear ee' G4 M4
        go_wp2_with fail
        go_ret2
        exact ⟨_, _, L, bs, rfl, PO.out⟩
      | true =>
        have ee' : oneN c.cf s o told = ([a1, a2, a3, VV, (s.spare : Int), ow, qu, fr, tk] ++ [1], s, told) := ee.out
        have own5 := own_lit w4 w.heap.size ([a1, a2, a3, VV, (s.spare : Int), ow, qu, fr, tk].map (Value.int .i64)) M4.only.size (show 9 ≤ 1000 by omega)
        have G5 := G4.alloc (.cells ([a1, a2, a3, VV, (s.spare : Int), ow, qu, fr, tk].map (Value.int .i64)).toArray 3)
        have hsz5 : (w4.alloc (.cells ([a1, a2, a3, VV, (s.spare : Int), ow, qu, fr, tk].map (Value.int .i64)).toArray 3)).heap.size = w4.heap.size + 1 := World.size_alloc _ _
        have M5 : Moved w (w4.alloc (.cells ([a1, a2, a3, VV, (s.spare : Int), ow, qu, fr, tk].map (Value.int .i64)).toArray 3)) L L c s s (.slice A told.length cp) (.slice A told.length cp) := ⟨M4.only.alloc _, M4.foot⟩
        have hlt4 := fun b hb => G4.lt (b := b) hb
        have hle4 := M4.only.size
        obtain ⟨w5, hw5⟩ : ∃ w5, w5 = w4.alloc (.cells #[.int .i64 a1, .int .i64 a2, .int .i64 a3, .int .i64 VV, .int .i64 (s.spare : Int), .int .i64 ow, .int .i64 qu, .int .i64 fr, .int .i64 tk] 3) := ⟨_, rfl⟩
        have hw5' : w5 = w4.alloc (.cells ([a1, a2, a3, VV, (s.spare : Int), ow, qu, fr, tk].map (Value.int .i64)).toArray 3) := hw5
        rw [← hw5'] at own5 G5 M5 hsz5
        replace hw5 := Lib.hid hw5
        replace hsz5 := Lib.hid hsz5
        replace ee' := Lib.hid ee'
        replace G5 := Lib.hid G5
        replace M5 := Lib.hid M5
        replace hlt4 := Lib.hid hlt4
        have own5 : w5.ownsRow w.heap.size 3 1 (.slice (some ⟨w4.heap.size, 0, none⟩) 9 9) 9 ([a1, a2, a3, VV, (s.spare : Int), ow, qu, fr, tk].map (Value.int .i64)) := own5
        clear G4 M4 hw5' ee
        go_upto_region 21 with fail
        rw [← hw5.out]
        go_wp2_with (at_builtin; refine wpList_app rfl _ _ _ rfl eiI w.heap.size _ _ _ rfl (own5.alloc _) (w5.heap.size + 1) (some ⟨w5.heap.size, 0, none⟩) 1 1 [.int .i64 1] rfl ?c1 ?c2 ?c3 ?c4 ?c5 ?_)
        case c1 => exact reads_v w5 _ _
        case c2 => first | (intro u hu; rw [List.mem_singleton] at hu; subst hu; rfl) | rfl
        case c3 => unfold maxLen; omega
        case c4 => omega
        case c5 => have := hsz5.out; first | omega | (rw [World.size_alloc]; omega)
        intro VT w6 own6 hg6 hat6
        obtain ⟨A6, cp6, rfl⟩ := own_is own6
        have o6 : Only (fun b => b = w4.heap.size) w5 w6 := ((Only.refl _ w5).alloc _).grown hg6 (fun b e _ => by
          have : w4.heap.size = b := by simpa [Value.ownBlock] using e
          exact this.symm)
        have G6 := G5.out.kept o6 fun b hb e => by have := hlt4.out b hb; omega
        have M6 : Moved w w6 L L c s s (.slice A told.length cp) (.slice A told.length cp) := ⟨M5.out.only.trans o6 fun b hb e => by omega, M5.out.foot⟩
        have PO : OnePost w w6 L L c s (oneN c.cf s o told) bs (.slice A told.length cp) (.slice A6 (9 + 1) cp6) (.slice A told.length cp) := by
          rw [ee'.out]
          exact ⟨rfl, G6, M6, own6⟩
        replace PO := Lib.hid PO
        clear own6 hg6 hat6 o6 G6 M6 own5 G5 M5
        go_wp2_with fail
        go_ret2
        exact ⟨_, _, L, bs, rfl, PO.out⟩
end Go.Proofs.Ytgodinapdahocaa.Cls
