/-
  The walk of one. (Printed by wip/gen_one.py.)
-/
import Derived.Test.YtgodinapdahocaaClassOne
import Derived.Test.YtgodinapdahocaaQuietTail
import Derived.Test.YtgodinapdahocaaClassNewsLaw
namespace Go.Proofs.Ytgodinapdahocaa.Cls
open Go.RowKit Base MapG
set_option linter.unusedVariables false

set_option maxRecDepth 100000 in
set_option maxHeartbeats 6400000 in
theorem oneRelease (w : World) (L : Lay) (c : Conf) (s : St) (bs : List UInt8) (o : POp) (Av : Option Addr) (nv cv : Nat) (v : Value) (told : List Nat) (G : Grp w L c s bs v told) (ha : In o.a) (hh : o.h < 18446744073709551616) (hom : ∀ i, s.om i ≤ 1000000000) (hln : told.length ≤ 1000000) (hd : o.do_ = 12) :
    Calls Try.prog 33 #[.pointer (some ⟨L.g, 0, none⟩), opV o (.slice Av nv cv), v] w fun e w' =>
      ∃ vO vT L' bs', e = .returned (.tuple #[vO, vT]) ∧ OnePost w w' L L' c s (oneN c.cf s o told) bs' v vO vT := by
  obtain ⟨A, cp, rfl⟩ := own_is G.row
  have n1 := Lib.hid numC
  have hHb := oneH_lt (o := o) hh G.small
  obtain ⟨w1, hw1⟩ : ∃ w1, w1 = w.alloc (.cells #[.int .i64 o.do_, .int .i64 o.a, .int .i64 o.b, .int .u64 (o.h : Int), .bool o.raw, .slice Av nv cv] 64) := ⟨_, rfl⟩
  have B1 : Blk w1 w.heap.size 64 #[.int .i64 o.do_, .int .i64 o.a, .int .i64 o.b, .int .u64 (o.h : Int), .bool o.raw, .slice Av nv cv] := by rw [hw1]; exact Blk.new w _ _
  have x0 : w1.cell? ⟨w.heap.size, 0, none⟩ = some (.int .i64 o.do_) := B1.cell 0
  have x1 : w1.cell? ⟨w.heap.size, 1, none⟩ = some (.int .i64 o.a) := B1.cell 1
  have x3 : w1.cell? ⟨w.heap.size, 3, none⟩ = some (.int .u64 (o.h : Int)) := B1.cell 3
  have x4 : w1.cell? ⟨w.heap.size, 4, none⟩ = some (.bool o.raw) := B1.cell 4
  have G1 : Grp w1 L c s bs (.slice A told.length cp) told := by rw [hw1]; exact G.alloc _
  have M1 : Moved w w1 L L c s s (.slice A told.length cp) (.slice A told.length cp) := by rw [hw1]; exact Moved.quiet (S := fun _ => False) ((Only.refl _ _).alloc _) L c s _
  unfold opV
  have ok := G.set.okc
  have hnc1 : 1 ≤ c.nc := ok.nc
  have hnc2 : c.nc ≤ 62 := ok.ncb
  replace hd := Lib.hid hd
  replace hw1 := Lib.hid hw1
  replace B1 := Lib.hid B1
  replace G1 := Lib.hid G1
  replace M1 := Lib.hid M1
  replace ok := Lib.hid ok
  obtain ⟨N, hN⟩ : ∃ N, w.heap.size = N := ⟨_, rfl⟩
  rw [hN] at x0 x1 x3 x4 B1
  replace hN := Lib.hid hN
  clear G
  go_enter Try.func33, Try.ntmps33
  go_upto_region 1 with fail
  rw [hN.out, ← hw1.out]
  go_upto_region 2 with fail
  go_cut [26] from 17 to 25 (fun s26 wx => s26 = .bool (toldUse o told) ∧ w1 = wx)
  case first =>
    rcases Bool.eq_false_or_eq_true o.raw with hr | hr
    · have hu : toldUse o told = false := by unfold toldUse; rw [hr]; rfl
      rw [hr] at x4
      replace hu := Lib.hid hu
      clear hr
      go_wp2_with fail
      go_meet
      exact ⟨by rw [hu.out], rfl⟩
    · rw [hr] at x4
      by_cases h0 : 0 < told.length
      · have hu : toldUse o told = true := by unfold toldUse; rw [hr]; simp [h0]
        have d0 : decide (0 < (told.length : Int)) = true := decide_eq_true (by omega)
        replace hu := Lib.hid hu
        clear hr
        go_wp2_with fail
        go_meet
        exact ⟨by rw [hu.out], rfl⟩
      · have hu : toldUse o told = false := by unfold toldUse; rw [hr, decide_eq_false h0]; rfl
        have d0 : decide (0 < (told.length : Int)) = false := decide_eq_false (by omega)
        replace hu := Lib.hid hu
        clear hr
        go_wp2_with fail
        go_meet
        exact ⟨by rw [hu.out], rfl⟩
  case rest =>
    obtain ⟨rfl, rfl⟩ := hcut
    clear x4
    go_upto_if 26 with fail
    go_cut [8] from 17 to 34 (fun s8 wx => s8 = .int .u64 (oneH o told : Int) ∧ w1 = wx)
    case first =>
      cases hu : toldUse o told with
      | false =>
        have hH : oneH o told = o.h := if_neg (by rw [hu]; simp)
        replace hH := Lib.hid hH
        clear hu
        go_wp2_with fail
        go_meet
        exact ⟨by rw [hH.out], rfl⟩
      | true =>
        have h0 : 1 ≤ told.length := by
          unfold toldUse at hu
          simp at hu
          omega
        have WI := Lib.hid (withinC o.a told.length ha h0 (by omega))
        have hb := within_lt o.a h0
        have hH : oneH o told = told.getD (o.a % (told.length : Int)).toNat 0 := if_pos hu
        generalize (o.a % (told.length : Int)).toNat = b at *
        have hget : told[b]? = some (told.getD b 0) := by
          rw [List.getD_eq_getElem?_getD, List.getElem?_eq_getElem hb]; rfl
        obtain ⟨ga, cp', hsl, ca⟩ := own_at (i := b) (x := hvv (told.getD b 0)) G1.out.row (by rw [List.getElem?_map, hget]; rfl)
        injection hsl with hA1 hA2 hA3
        subst hA1 hA3
        rw [← hH] at ca
        have ca' : w1.cell? ⟨ga, b, none⟩ = some (.int .u64 (oneH o told : Int)) := ca
        have b0 : (0 : Int) ≤ (b : Int) := by omega
        have b1 : (b : Int) < (told.length : Int) := by omega
        clear hu hH hget ca
        go_wp2_with fail
        refine (WI.out _).mono ?_
        rintro e w' ⟨rfl, rfl⟩
        go_wp2_with fail
        go_meet
        exact ⟨rfl, rfl⟩
    case rest =>
      obtain ⟨rfl, rfl⟩ := hcut
      clear x3
      have d1 : (o.do_ == 1) = false := by rw [beq_eq_false_iff_ne]; have := hd.out; omega
      have e1 : decide (o.do_ = 1) = false := decide_eq_false (by have := hd.out; omega)
      have d2 : (o.do_ == 2) = false := by rw [beq_eq_false_iff_ne]; have := hd.out; omega
      have e2 : decide (o.do_ = 2) = false := decide_eq_false (by have := hd.out; omega)
      have d10 : (o.do_ == 10) = false := by rw [beq_eq_false_iff_ne]; have := hd.out; omega
      have e10 : decide (o.do_ = 10) = false := decide_eq_false (by have := hd.out; omega)
      have d11 : (o.do_ == 11) = false := by rw [beq_eq_false_iff_ne]; have := hd.out; omega
      have e11 : decide (o.do_ = 11) = false := decide_eq_false (by have := hd.out; omega)
      have d12 : (o.do_ == 12) = true := by rw [beq_iff_eq]; exact hd.out
      have e12 : decide (o.do_ = 12) = true := decide_eq_true hd.out
      cases hp : pageN c.cf s o.a with
      | none =>
        have T := releaseArg w1 L c s bs G1.out.set o.a (fun j hj => by rw [hp] at hj; cases hj)
        replace T := Lib.hid T
        have ee : oneN c.cf s o told = ([1], s, told) := by unfold oneN; rw [if_neg (by have := hd.out; omega), if_neg (by have := hd.out; omega), if_neg (by have := hd.out; omega), if_neg (by have := hd.out; omega), if_pos hd.out, hp]
        have PO := post_lit (w := w) rfl G1.out M1.out [1] (by decide)
        rw [← ee] at PO
        replace PO := Lib.hid PO
        replace ee := Lib.hid ee
        clear G1 M1
        go_wp2_with fail
        refine T.out.mono ?_
        rintro e w' ⟨rfl, rfl⟩
        go_wp2_with (first | (go_at_call 11; refine (n1.out _ _).mono ?_; rintro e w' ⟨rfl, rfl⟩) | fail)
        go_ret2
        exact ⟨_, _, L, bs, rfl, PO.out⟩
      | some i =>
        obtain ⟨hai, a1, a2⟩ := pageN_some hp
        cases hl : s.lvs i with
        | false =>
          clear hai
          have T := releaseArg w1 L c s bs G1.out.set o.a (fun j hj => by rw [hp] at hj; injection hj with hj; rw [← hj]; exact hl)
          replace T := Lib.hid T
          have ee : oneN c.cf s o told = ([1], s, told) := by unfold oneN; rw [if_neg (by have := hd.out; omega), if_neg (by have := hd.out; omega), if_neg (by have := hd.out; omega), if_neg (by have := hd.out; omega), if_pos hd.out, hp]; simp only [hl]; rfl
          have PO := post_lit (w := w) rfl G1.out M1.out [1] (by decide)
          rw [← ee] at PO
          replace PO := Lib.hid PO
          replace ee := Lib.hid ee
          clear G1 M1
          go_wp2_with fail
          refine T.out.mono ?_
          rintro e w' ⟨rfl, rfl⟩
          go_wp2_with (first | (go_at_call 11; refine (n1.out _ _).mono ?_; rintro e w' ⟨rfl, rfl⟩) | fail)
          go_ret2
          exact ⟨_, _, L, bs, rfl, PO.out⟩
        | true =>
          rw [hai] at x1
          by_cases hz : 0 < s.held i
          · have T := releaseBusy w1 L c s bs G1.out.set i a1 a2 hl hz
            replace T := Lib.hid T
            have ee : oneN c.cf s o told = ([10], s, told) := by unfold oneN; rw [if_neg (by have := hd.out; omega), if_neg (by have := hd.out; omega), if_neg (by have := hd.out; omega), if_neg (by have := hd.out; omega), if_pos hd.out, hp]; simp only [hl]; rw [if_pos trivial, if_pos hz]
            have PO := post_lit (w := w) rfl G1.out M1.out [10] (by decide)
            rw [← ee] at PO
            replace PO := Lib.hid PO
            replace ee := Lib.hid ee
            clear G1 M1
            go_wp2_with fail
            refine T.out.mono ?_
            rintro e w' ⟨rfl, rfl⟩
            go_wp2_with (first | (go_at_call 11; refine (n1.out _ _).mono ?_; rintro e w' ⟨rfl, rfl⟩) | fail)
            go_ret2
            exact ⟨_, _, L, bs, rfl, PO.out⟩
          · have hz0 : s.held i = 0 := by omega
            have hmx := hom i
            have hnx := (n_pos ok.out (G1.out.good.cls i a1 a2)).2
            have T := releaseYes w1 L c s bs G1.out.set G1.out.good i a1 a2 hl hz0 (by unfold maxLen; omega)
            replace T := Lib.hid T
            have ee : oneN c.cf s o told = ([0], releaseS c.cf s i, told) := by unfold oneN; rw [if_neg (by have := hd.out; omega), if_neg (by have := hd.out; omega), if_neg (by have := hd.out; omega), if_neg (by have := hd.out; omega), if_pos hd.out, hp]; simp only [hl]; rw [if_pos trivial, if_neg hz]
            have hgood : Good c.cf (releaseS c.cf s i) := G1.out.good.release ok.out a1 a2 hl hz0
            replace ee := Lib.hid ee
            go_wp2_with fail
            refine T.out.mono ?_
            rintro e w2 ⟨rfl, L2, e2, H2, W2⟩
            obtain ⟨G2, M2⟩ := G1.out.step H2 W2 hgood
            have PO := post_lit (w := w) e2 G2 (M1.out.trans M2) [0] (by decide)
            rw [← ee.out] at PO
            replace PO := Lib.hid PO
            clear G1 M1 G2 M2 H2 W2 T
            go_wp2_with (first | (go_at_call 11; refine (n1.out _ _).mono ?_; rintro e w' ⟨rfl, rfl⟩) | fail)
            go_ret2
            exact ⟨_, _, L2, bs, rfl, PO.out⟩
end Go.Proofs.Ytgodinapdahocaa.Cls
