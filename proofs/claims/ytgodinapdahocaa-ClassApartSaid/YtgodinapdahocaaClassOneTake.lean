/-
  The walk of one. (Printed by wip/gen_one.py.)
-/
import Derived.Test.YtgodinapdahocaaClassOne
import Derived.Test.YtgodinapdahocaaQuietTail
import Derived.Test.YtgodinapdahocaaClassNewsLaw
namespace Go.Proofs.Ytgodinapdahocaa.Cls
open Go.RowKit Base MapG
set_option linter.unusedVariables false

set_option maxRecDepth 100000 in
set_option maxHeartbeats 6400000 in
theorem oneTake (w : World) (L : Lay) (c : Conf) (s : St) (bs : List UInt8) (o : POp) (Av : Option Addr) (nv cv : Nat) (v : Value) (told : List Nat) (G : Grp w L c s bs v told) (ha : In o.a) (hh : o.h < 18446744073709551616) (hom : ∀ i, s.om i ≤ 1000000000) (hln : told.length ≤ 1000000) (hd : o.do_ = 1) :
    Calls Try.prog 33 #[.pointer (some ⟨L.g, 0, none⟩), opV o (.slice Av nv cv), v] w fun e w' =>
      ∃ vO vT L' bs', e = .returned (.tuple #[vO, vT]) ∧ OnePost w w' L L' c s (oneN c.cf s o told) bs' v vO vT := by
  obtain ⟨A, cp, rfl⟩ := own_is G.row
  have n1 := Lib.hid numC
  have hHb := oneH_lt (o := o) hh G.small
  obtain ⟨w1, hw1⟩ : ∃ w1, w1 = w.alloc (.cells #[.int .i64 o.do_, .int .i64 o.a, .int .i64 o.b, .int .u64 (o.h : Int), .bool o.raw, .slice Av nv cv] 64) := ⟨_, rfl⟩
  have B1 : Blk w1 w.heap.size 64 #[.int .i64 o.do_, .int .i64 o.a, .int .i64 o.b, .int .u64 (o.h : Int), .bool o.raw, .slice Av nv cv] := by rw [hw1]; exact Blk.new w _ _
  have x0 : w1.cell? ⟨w.heap.size, 0, none⟩ = some (.int .i64 o.do_) := B1.cell 0
  have x1 : w1.cell? ⟨w.heap.size, 1, none⟩ = some (.int .i64 o.a) := B1.cell 1
  have x3 : w1.cell? ⟨w.heap.size, 3, none⟩ = some (.int .u64 (o.h : Int)) := B1.cell 3
  have x4 : w1.cell? ⟨w.heap.size, 4, none⟩ = some (.bool o.raw) := B1.cell 4
  have G1 : Grp w1 L c s bs (.slice A told.length cp) told := by rw [hw1]; exact G.alloc _
  have M1 : Moved w w1 L L c s s (.slice A told.length cp) (.slice A told.length cp) := by rw [hw1]; exact Moved.quiet (S := fun _ => False) ((Only.refl _ _).alloc _) L c s _
  unfold opV
  have ok := G.set.okc
  have hnc1 : 1 ≤ c.nc := ok.nc
  have hnc2 : c.nc ≤ 62 := ok.ncb
  replace hd := Lib.hid hd
  replace hw1 := Lib.hid hw1
  replace B1 := Lib.hid B1
  replace G1 := Lib.hid G1
  replace M1 := Lib.hid M1
  replace ok := Lib.hid ok
  obtain ⟨N, hN⟩ : ∃ N, w.heap.size = N := ⟨_, rfl⟩
  rw [hN] at x0 x1 x3 x4 B1
  replace hN := Lib.hid hN
  clear G
  go_enter Try.func33, Try.ntmps33
  go_upto_region 1 with fail
  rw [hN.out, ← hw1.out]
  go_upto_region 2 with fail
  go_cut [26] from 17 to 25 (fun s26 wx => s26 = .bool (toldUse o told) ∧ w1 = wx)
  case first =>
    rcases Bool.eq_false_or_eq_true o.raw with hr | hr
    · have hu : toldUse o told = false := by unfold toldUse; rw [hr]; rfl
      rw [hr] at x4
      replace hu := Lib.hid hu
      clear hr
      go_wp2_with fail
      go_meet
      exact ⟨by rw [hu.out], rfl⟩
    · rw [hr] at x4
      by_cases h0 : 0 < told.length
      · have hu : toldUse o told = true := by unfold toldUse; rw [hr]; simp [h0]
        have d0 : decide (0 < (told.length : Int)) = true := decide_eq_true (by omega)
        replace hu := Lib.hid hu
        clear hr
        go_wp2_with fail
        go_meet
        exact ⟨by rw [hu.out], rfl⟩
      · have hu : toldUse o told = false := by unfold toldUse; rw [hr, decide_eq_false h0]; rfl
        have d0 : decide (0 < (told.length : Int)) = false := decide_eq_false (by omega)
        replace hu := Lib.hid hu
        clear hr
        go_wp2_with fail
        go_meet
        exact ⟨by rw [hu.out], rfl⟩
  case rest =>
    obtain ⟨rfl, rfl⟩ := hcut
    clear x4
    go_upto_if 26 with fail
    go_cut [8] from 17 to 34 (fun s8 wx => s8 = .int .u64 (oneH o told : Int) ∧ w1 = wx)
    case first =>
      cases hu : toldUse o told with
      | false =>
        have hH : oneH o told = o.h := if_neg (by rw [hu]; simp)
        replace hH := Lib.hid hH
        clear hu
        go_wp2_with fail
        go_meet
        exact ⟨by rw [hH.out], rfl⟩
      | true =>
        have h0 : 1 ≤ told.length := by
          unfold toldUse at hu
          simp at hu
          omega
        have WI := Lib.hid (withinC o.a told.length ha h0 (by omega))
        have hb := within_lt o.a h0
        have hH : oneH o told = told.getD (o.a % (told.length : Int)).toNat 0 := if_pos hu
        generalize (o.a % (told.length : Int)).toNat = b at *
        have hget : told[b]? = some (told.getD b 0) := by
          rw [List.getD_eq_getElem?_getD, List.getElem?_eq_getElem hb]; rfl
        obtain ⟨ga, cp', hsl, ca⟩ := own_at (i := b) (x := hvv (told.getD b 0)) G1.out.row (by rw [List.getElem?_map, hget]; rfl)
        injection hsl with hA1 hA2 hA3
        subst hA1 hA3
        rw [← hH] at ca
        have ca' : w1.cell? ⟨ga, b, none⟩ = some (.int .u64 (oneH o told : Int)) := ca
        have b0 : (0 : Int) ≤ (b : Int) := by omega
        have b1 : (b : Int) < (told.length : Int) := by omega
        clear hu hH hget ca
        go_wp2_with fail
        refine (WI.out _).mono ?_
        rintro e w' ⟨rfl, rfl⟩
        go_wp2_with fail
        go_meet
        exact ⟨rfl, rfl⟩
    case rest =>
      obtain ⟨rfl, rfl⟩ := hcut
      clear x3
      have d1 : (o.do_ == 1) = true := by rw [beq_iff_eq]; exact hd.out
      have e1 : decide (o.do_ = 1) = true := decide_eq_true hd.out
      have d2 : (o.do_ == 2) = false := by rw [beq_eq_false_iff_ne]; have := hd.out; omega
      have e2 : decide (o.do_ = 2) = false := decide_eq_false (by have := hd.out; omega)
      have d10 : (o.do_ == 10) = false := by rw [beq_eq_false_iff_ne]; have := hd.out; omega
      have e10 : decide (o.do_ = 10) = false := decide_eq_false (by have := hd.out; omega)
      have d11 : (o.do_ == 11) = false := by rw [beq_eq_false_iff_ne]; have := hd.out; omega
      have e11 : decide (o.do_ = 11) = false := decide_eq_false (by have := hd.out; omega)
      have d12 : (o.do_ == 12) = false := by rw [beq_eq_false_iff_ne]; have := hd.out; omega
      have e12 : decide (o.do_ = 12) = false := decide_eq_false (by have := hd.out; omega)
      have WI := Lib.hid (withinC o.a c.nc ha hnc1 (by omega))
      have hb := within_lt o.a hnc1
      have K1 := Lib.hid (classesC w1.drew L c s bs G1.out.set.drew)
      have K1' := Lib.hid (fun m => classesC (w1.drewN m) L c s bs (G1.out.set.drewN m))
      have hE := Lib.hid (show oneN c.cf s o told = _ from if_pos hd.out)
      rw [show ((c.cf.nc : Nat) : Int) = (c.nc : Int) from rfl] at hE
      generalize (o.a % (c.nc : Int)).toNat = k at *
      cases hr : roomS c.cf s k with
      | none =>
        have ee : oneN c.cf s o told = ([21, 0], s, told) := by rw [hE.out, hr]
        have T := Lib.hid (fun m => takeNo (w1.drewN m) L c s bs (G1.out.set.drewN m) k hb hr)
        have PO := fun m => post_lit (w := w) rfl (G1.out.drewN m) (M1.out.trans (Moved.quiet (S := fun _ => False) ((Only.refl _ _).drewN m) L c s _)) [21, 0] (by decide)
        rw [← ee] at PO
        replace PO := Lib.hid PO
        replace hE := Lib.hid hE
        replace hr := Lib.hid hr
        clear K1 M1 ee G1
        go_upto_region 6 with fail
        go_quiet ((first
          | (go_at_call 18; with_reducible exact quiet_left (K1'.out _))
          | (go_at_call 25; with_reducible exact quiet_left (WI.out _))
          | (go_at_call 26; with_reducible exact quiet_left (T.out _))))
        clear K1' T WI
        go_wp2_with (first | (go_at_call 11; refine (n1.out _ _).mono ?_; rintro e w' ⟨rfl, rfl⟩) | fail)
        go_ret2
        exact ⟨_, _, L, bs, rfl, PO.out nq⟩
      | some s1 =>
        obtain ⟨g1, l, p, hl⟩ := room_good ok.out G1.out.good hb hr
        have T := takeYes w1.drew L c s bs G1.out.set.drew G1.out.good k hb s1 hr l p hl
        have hlast : (s1.free k).getLastD 0 = p := by rw [hl]; simp
        have ee : oneN c.cf s o told = ([0, i64v (hnd p (s1.gens (p / c.cf.ps) (p % c.cf.ps / c.sz k)))], takeS c.cf s1 k p, told ++ [hnd p (s1.gens (p / c.cf.ps) (p % c.cf.ps / c.sz k))]) := by
          rw [hE.out, hr]
          simp only [hlast]
          rfl
        have hgood := g1.take ok.out hb hl
        have hgl := g1.gen (p / c.cf.ps) (p % c.cf.ps / c.sz k)
        have hpl : p ≤ 1073741824 := by
          obtain ⟨j, x, a1, -, -, -, a5, -, rfl, -⟩ := g1.last ok.out hb (p := p) (by rw [hl]; simp)
          obtain ⟨-, -, -, a6, -⟩ := place_of ok.out (i := j) hb a5
          have a7 : (j + 1) * c.cf.ps ≤ 1024 * 1048576 := Nat.mul_le_mul (by have := ok.out.npb; omega) ok.out.psb
          rw [Nat.succ_mul] at a7
          have := (ok.out.sz _ hb).1
          omega
        obtain ⟨bs2, hbs2⟩ : ∃ b, b = takeB bs p (s1.gens (p / c.cf.ps) (p % c.cf.ps / c.sz k)) := ⟨_, rfl⟩
        rw [← hbs2] at T
        generalize s1.gens (p / c.cf.ps) (p % c.cf.ps / c.sz k) = gg at *
        obtain ⟨Hh, hHh⟩ : ∃ Hh, Hh = hnd p gg := ⟨_, rfl⟩
        have hHb2 : Hh < 18446744073709551616 := by rw [hHh]; unfold hnd; omega
        rw [← hHh] at T ee
        obtain ⟨VV, hVV⟩ : ∃ VV, VV = i64v Hh := ⟨_, rfl⟩
        have qv : IntKind.i64.wrap (Hh : Int) = VV := hVV.symm
        rw [← hVV] at ee
        obtain ⟨s2, hs2⟩ : ∃ s2, s2 = takeS c.cf s1 k p := ⟨_, rfl⟩
        rw [← hs2] at T ee hgood
        replace T := Lib.hid T
        replace ee := Lib.hid ee
        replace hgood := Lib.hid hgood
        replace hHh := Lib.hid hHh
        replace hVV := Lib.hid hVV
        replace hs2 := Lib.hid hs2
        replace hbs2 := Lib.hid hbs2
        replace hl := Lib.hid hl
        replace hr := Lib.hid hr
        clear hlast g1 K1' hgl
        go_upto_region 6 with fail
        go_cut [9, 10] from 17 to 48 (fun s9 s10 wx => s9 = .int .u64 (Hh : Int) ∧ s10 = .int .i64 0 ∧ ∃ L2, Hid (L2.g = L.g) ∧ Hid (SetAt wx L2 c s2 bs2) ∧ Hid (Went w1.drew wx L L2 c s s2))
        case first =>
          go_region_law ((go_simp; first
            | (go_at_call 18; refine K1.out.mono ?_; rintro e w' ⟨rfl, rfl⟩)
            | (go_at_call 25; refine (WI.out _).mono ?_; rintro e w' ⟨rfl, rfl⟩)
            | (go_at_call 26; refine T.out.mono ?_; rintro e w3 ⟨rfl, L2, e2, H2, W2⟩)))
          all_goals
            replace e2 := Lib.hid e2
            replace H2 := Lib.hid H2
            replace W2 := Lib.hid W2
            go_wp2_with fail
            go_meet
            exact ⟨rfl, rfl, L2, e2, H2, W2⟩
        case rest =>
          obtain ⟨rfl, rfl, L2, e2, H2, W2⟩ := hcut
          have GD : Grp w1.drew L c s bs (.slice A told.length cp) told := G1.out.drewN 1
          have MD : Moved w w1.drew L L c s s (.slice A told.length cp) (.slice A told.length cp) := M1.out.trans (Moved.quiet (S := fun _ => False) (Only.refl _ w1).drew L c s _)
          obtain ⟨G2, M2⟩ := GD.step H2.out W2.out hgood.out
          have row2 := G2.row
          have M3 := Lib.hid (MD.trans M2)
          replace G2 := Lib.hid G2
          clear T K1 WI GD MD M2 H2 W2 G1 M1
          go_wp2_with (first | (go_at_call 11; refine (n1.out _ _).mono ?_; rintro e w' ⟨rfl, rfl⟩) | (at_builtin; refine wpList_app rfl _ _ _ rfl eiH 0 _ _ _ rfl (row2.alloc _) (wc.heap.size + 1) (some ⟨wc.heap.size, 0, none⟩) 1 1 [.int .u64 (Hh : Int)] rfl ?c1 ?c2 ?c3 ?c4 ?c5 ?_))
          case c1 => exact reads_v wc _ _
          case c2 => first | (intro u hu; rw [List.mem_singleton] at hu; subst hu; rfl) | rfl
          case c3 => unfold maxLen; omega
          case c4 => omega
          case c5 => first | omega | (rw [World.size_alloc]; omega)
          intro VT w6 own6 hg6 hat6
          obtain ⟨A6, cp6, rfl⟩ := own_is own6
          obtain ⟨G6, M6⟩ := grp_append (h := Hh) G2.out hg6 own6 hat6 hHb2
          have PO := post_lit (w := w) e2.out G6 (M3.out.trans M6) [0, VV] (show 2 ≤ 1000 by omega)
          rw [← ee.out] at PO
          replace PO := Lib.hid PO
          clear own6 hg6 hat6 G6 M6 row2 G2 M3
          go_wp2_with (first | (go_at_call 11; refine (n1.out _ _).mono ?_; rintro e w' ⟨rfl, rfl⟩) | fail)
          go_ret2
          exact ⟨_, _, L2, bs2, rfl, PO.out⟩
end Go.Proofs.Ytgodinapdahocaa.Cls
