/-
  The walk of the law TideHands.
-/
import Derived.Test.YteebcdicocmicaaTideHandsCalls
import Derived.Test.YteebcdicocmicaaTideFlushFns
namespace Go.Proofs.Yteebcdicocmicaa.Tide
open Go.RowKit Base MapI
set_option linter.unusedVariables false

structure Hd where
  h : Int
  e : Int
  rc : Int
  mv : Bool
def i64ok (n : Int) : Prop := -9223372036854775808 ≤ n ∧ n < 9223372036854775808
/-- The slice holds the hands, four cells each. -/
def HandsAt (w : World) (A : Option Addr) (l : List Hd) : Prop := ∀ (k : Nat) (hk : k < l.length), ∃ b off, A = some ⟨b, off, none⟩ ∧ b < w.heap.size ∧ i64ok (l[k]).h ∧ i64ok (l[k]).e ∧ i64ok (l[k]).rc ∧
  w.cell? ⟨b, off + k * 4, none⟩ = some (.int .i64 (l[k]).h) ∧ w.cell? ⟨b, off + k * 4 + 1, none⟩ = some (.int .i64 (l[k]).e) ∧ w.cell? ⟨b, off + k * 4 + 2, none⟩ = some (.int .i64 (l[k]).rc) ∧ w.cell? ⟨b, off + k * 4 + 3, none⟩ = some (.bool (l[k]).mv)
/-- The wheel between two rounds. -/
structure HW (w : World) (N g m i : Nat) (hv : Value) (n t : Nat) (R : List E) : Prop where
  wa : WA w g hv m n t R
  up : Up N hv
  cnt : n ≤ 1000 * i
  ri : RI R t i
theorem HW.below {w w' : World} {N g m i : Nat} {hv : Value} {n t : Nat} {R : List E} (h : HW w N g m i hv n t R) (b : Below w.heap.size w w') : HW w' N g m i hv n t R := ⟨h.wa.below b, h.up, h.cnt, h.ri⟩
theorem in20 (H : Int) : ∃ a : Nat, a < 21 ∧ 0 + H % (20 - 0 + 1) = (a : Int) := ⟨(H % 21).toNat, by omega, by omega⟩
theorem HL.only {w w' : World} {v : Value} {l : List Nat} {S : Nat → Prop} {M : Nat} (h : HL w v l) (o : Only S w w') (hs : ∀ k, S k → k < M) (hv : ∀ b, v.ownBlock = some b → M ≤ b) : HL w' v l :=
  h.keep o (fun b hb hc => by have := hs b hc; have := hv b hb; omega)

set_option maxRecDepth 100000 in
set_option maxHeartbeats 6400000 in
theorem handsC (w : World) (A : Option Addr) (c : Nat) (l : List Hd) (hT : HandsAt w A l) (hl : l.length ≤ maxLen) :
    Calls Try.prog 9 #[.slice A l.length c] w fun e w' => e = .returned (.bool true) ∧ Below w.heap.size w w' := by
  unfold maxLen at hl
  have NW := Lib.hid (newC w)
  have WK := Lib.hid wakesC
  have WI := Lib.hid Clk.withinC
  replace hT := Lib.hid hT
  go_enter Try.func9, Try.ntmps9
  go_wp2_with fail
  refine NW.out.mono ?_
  rintro e w1 ⟨g, m, rfl, wa1, b1, hg, hm⟩
  have WK1 := Lib.hid (WK.out w1)
  generalize hN : w.heap.size = N at *
  replace hN := Lib.hid hN
  replace wa1 := Lib.hid wa1
  replace b1 := Lib.hid b1
  clear NW
  go_wp2_with fail
  refine WK1.out.mono ?_
  rintro e w2 ⟨rfl, b2⟩
  have hw2 : HW w2 N g m 0 (.slice none 0 0) 0 0 [] := ⟨wa1.out.below b2, up_nil N, by omega, ⟨by simp, by omega, by simp, by simp, by simp⟩⟩
  have b3 : Below N w w2 := b1.out.trans (b2.mono (by have := b1.out.size; rw [hN.out] at this; exact this))
  replace hw2 := Lib.hid hw2
  replace b3 := Lib.hid b3
  clear b2 wa1 b1 WK WK1
  go_wp2_with fail
  go_loopw [4] (fun i wr => ∃ (k : Nat) (hv : Value) (n t : Nat) (R : List E), k ≤ l.length ∧ k ≤ 200 ∧ i = .int .i64 (k : Int) ∧ HW wr N g m k hv n t R ∧ Below N w wr) (fun i _ => l.length - (intOf i).toNat)
  case atStart => exact ⟨0, _, _, _, _, Nat.zero_le _, by omega, rfl, hw2.out, b3.out⟩
  case round =>
    obtain ⟨k, hv, n, t, R, hk, hk2, rfl, H, hb⟩ := hrel
    clear hw2 b3
    by_cases hlt : k < l.length ∧ k < 200
    · obtain ⟨hk1, hk2'⟩ := hlt
      have hd6 : decide ((k : Int) < 200) = true := by simp; omega
      obtain ⟨b, off, rfl, hbl, ih, ie, it, c0, c1, c2, c3⟩ := hT.out k hk1
      rw [hN.out] at hbl
      have CE : ∀ W, Below N w W → W.cell? ⟨b, off + k * 4, none⟩ = some (.int .i64 (l[k]).h) ∧ W.cell? ⟨b, off + k * 4 + 1, none⟩ = some (.int .i64 (l[k]).e) ∧ W.cell? ⟨b, off + k * 4 + 2, none⟩ = some (.int .i64 (l[k]).rc) ∧ W.cell? ⟨b, off + k * 4 + 3, none⟩ = some (.bool (l[k]).mv) := fun W hW =>
        ⟨(hW.cell (p := ⟨b, off + k * 4, none⟩) hbl).trans c0, (hW.cell (p := ⟨b, off + k * 4 + 1, none⟩) hbl).trans c1, (hW.cell (p := ⟨b, off + k * 4 + 2, none⟩) hbl).trans c2, (hW.cell (p := ⟨b, off + k * 4 + 3, none⟩) hbl).trans c3⟩
      generalize l[k] = a at *
      obtain ⟨ah, ae, ato, amv⟩ := a
      simp only at ih ie it CE
      clear c0 c1 c2 c3
      obtain ⟨x0, x1, x2, x3⟩ := CE wr hb
      replace CE := Lib.hid CE
      have hBs : N ≤ wr.heap.size := by have := hb.size; rw [hN.out] at this; exact this
      obtain ⟨h, hh, hhw⟩ := in20 ah
      obtain ⟨rc, hto, htow⟩ := in20 ato
      have W1 := Lib.hid (fun W => WI.out ah 0 20 W ih (by omega) (by omega) (by omega) (by omega))
      have W2 := Lib.hid (fun W => WI.out ato 0 20 W it (by omega) (by omega) (by omega) (by omega))
      have hm64 := small_M64 (k := h) (by omega)
      have tm64 := small_M64 (k := rc) (by omega)
      have DU := Lib.hid (dueAll wr g hv m n t k R H.wa H.ri (by omega))
      replace hhw := Lib.hid hhw
      replace htow := Lib.hid htow
      replace hm64 := Lib.hid hm64
      replace tm64 := Lib.hid tm64
      replace H := Lib.hid H
      replace hb := Lib.hid hb
      unfold i64ok at ie
      go_wp2_with fail
      refine (W1.out _).mono ?_
      rintro e w' ⟨rfl, rfl⟩
      rw [hhw.out]
      go_wp2_with fail
      refine DU.out.mono ?_
      rintro e w4 ⟨v, S, rfl, hS, hv4, hvb, b4⟩
      have wa4 := H.out.wa.below b4
      have bb4 : Below N w w4 := hb.out.trans (b4.mono hBs)
      obtain ⟨x0, x1, x2, x3⟩ := CE.out w4 bb4
      have foot4 := Lib.hid H.out.wa.foot
      have hri := H.out.ri
      have hcnt := H.out.cnt
      have hup := Lib.hid H.out.up
      have hBs4 : N ≤ w4.heap.size := by have := b4.size; omega
      have hRl := hri.len
      have hti := hri.ti
      replace hri := Lib.hid hri
      replace hS := Lib.hid hS
      replace hv4 := Lib.hid hv4
      replace hvb := Lib.hid hvb
      replace bb4 := Lib.hid bb4
      clear DU b4
      cases amv with
      | false =>
        have ST := Lib.hid (setC w4 g hv m n t R h ae wa4 hm64.out (by omega) (by omega) (by omega))
        clear wa4
        go_wp2_with fail
        refine ST.out.mono ?_
        rintro e w5 ⟨rfl, hv5, n5, wa5, o5, f5, hn5⟩
        have bb5 : Below N w w5 := bb4.out.trans (foot_below o5 hg hm hup.out hBs4)
        have up5 : Up N hv5 := up_next hup.out f5 hBs4
        have H5 : HW w5 N g m (k + 1) hv5 n5 (setT ae t) (setR R h ae t) := ⟨wa5, up5, by omega, hri.out.set h ae (by omega)⟩
        have hl5 : HL w5 v (S.map E.h) := hv4.out.only o5 foot4.out hvb.out
        obtain ⟨y0, y1, y2, y3⟩ := CE.out w5 bb5
        clear ST o5 f5 wa5 x0 x1 x2 x3
        have hSl := hS.out.1.length_eq
        have hRl5 := H5.ri.len
        by_cases hx : ae ≤ 0
        · have qx : decide (ae ≤ 0) = true := by simp [hx]
          have DU5 := Lib.hid (dueAll w5 g hv5 m n5 _ (k + 1) _ H5.wa H5.ri (by omega))
          have hRe : setR R h ae t = dropH R h := if_pos hx
          replace H5 := Lib.hid H5
          replace bb5 := Lib.hid bb5
          replace hl5 := Lib.hid hl5
          clear y0 y2 y3
          go_wp2_with fail
          refine DU5.out.mono ?_
          rintro e w6 ⟨v6, S6, rfl, hS6, hl6, hb6, b6⟩
          have hSS : S6.map E.h = outL (S.map E.h) h := by
            rw [← outL_map]
            rw [hRe] at hS6
            rw [Srt.same (hri.out.drop h) (hS.out.drop h) hS6]
          have WO := Lib.hid (withoutC w6 v (S.map E.h) h (hl5.out.below b6) (by simp; omega))
          have bb6 := bb5.out.trans (b6.mono (by have := bb5.out.size; rw [hN.out] at this; exact this))
          have wa6 := H5.out.wa.below b6
          replace hSS := Lib.hid hSS
          clear DU5 hS6 b6
          go_wp2_with fail
          refine WO.out.mono ?_
          rintro e w7 ⟨v7, rfl, own7, b7⟩
          have HC := handlesC w7 v6 v7 (S6.map E.h) (outL (S.map E.h) h) (hl6.below b7) (HL.of_own own7)
          rw [decide_eq_true hSS.out] at HC
          have bb7 := bb6.trans (b7.mono (by have := bb6.size; rw [hN.out] at this; exact this))
          have wa7 := wa6.below b7
          replace HC := Lib.hid HC
          clear WO own7 b7 wa6 bb6 hl6
          go_wp2_with fail
          refine HC.out.mono ?_
          rintro e w8 ⟨rfl, k8, hw8⟩
          have bb8 := Lib.hid (show Below N w w8 by rw [← hw8]; exact below_drewN bb7 _)
          have H8 := Lib.hid (show HW w8 N g m (k + 1) hv5 n5 (setT ae t) (setR R h ae t) from ⟨wa7.below (by rw [← hw8]; exact below_drewN (Below.refl _ _) _), H5.out.up, H5.out.cnt, H5.out.ri⟩)
          clear HC bb7 wa7 hw8
          go_wp2
          go_roundw
          case rel => exact ⟨k + 1, _, _, _, _, by omega, by omega, by go_num, H8.out, bb8.out⟩
          case measure => simp [intOf]; omega
        · have qx : decide (ae ≤ 0) = false := by simp; omega
          replace H5 := Lib.hid H5
          replace bb5 := Lib.hid bb5
          clear y0 y2 y3
          go_wp2
          go_roundw
          case rel => exact ⟨k + 1, _, _, _, _, by omega, by omega, by go_num, H5.out, bb5.out⟩
          case measure => simp [intOf]; omega
      | true =>
        have hSl := hS.out.1.length_eq
        obtain ⟨lS, hlS⟩ : ∃ lS, lS = S.map E.h := ⟨_, rfl⟩
        have hll : lS.length = R.length := by rw [hlS]; simp; omega
        rw [← hlS] at hv4
        replace hll := Lib.hid hll
        obtain ⟨A6, c6, rfl, e61, e62, e63⟩ := hv4.out
        have E6 := Lib.hid e63
        unfold maxLen at e62
        replace hlS := Lib.hid hlS
        replace wa4 := Lib.hid wa4
        clear e63 x0 x1
        go_wp2_with fail
        refine (W2.out _).mono ?_
        rintro e w' ⟨rfl, rfl⟩
        rw [htow.out]
        go_wp2_with fail
        go_loop [8, 9] (fun s8 s9 => ∃ j : Nat, j ≤ lS.length ∧ s9 = .int .i64 (j : Int) ∧ s8 = .bool ((lS.take j).any (fun x => x == h))) (fun _ s9 => lS.length - (intOf s9).toNat)
        case atStart => exact ⟨0, Nat.zero_le _, rfl, rfl⟩
        case round =>
          obtain ⟨j, hj, rfl, rfl⟩ := hrel
          by_cases hlt : j < lS.length
          · have hst : (lS.take (j + 1)).any (fun x => x == h) = ((lS.take j).any (fun x => x == h) || (lS[j] == h)) := by
              rw [List.take_succ_eq_append_getElem hlt, List.any_append]; simp
            obtain ⟨bb, rfl, hbb, hc⟩ := E6.out j lS[j] (List.getElem?_eq_getElem hlt)
            have q1 : (0 : Int) ≤ j := by omega
            have q2 : (j : Int) < lS.length := by omega
            generalize lS[j] = x at *
            generalize (lS.take j).any (fun x => x == h) = th at *
            cases th with
            | true =>
              rw [Bool.true_or] at hst
              replace hst := Lib.hid hst
              go_wp2
              go_round
              case rel => exact ⟨j + 1, by omega, by go_num, by rw [hst.out]⟩
              case measure => simp [intOf]; omega
            | false =>
              rw [Bool.false_or] at hst
              by_cases hxh : x = h
              · subst hxh
                rw [show (x == x) = true from beq_self_eq_true x] at hst
                replace hst := Lib.hid hst
                go_wp2
                go_round
                case rel => exact ⟨j + 1, by omega, by go_num, by rw [hst.out]⟩
                case measure => simp [intOf]; omega
              · rw [show (x == h) = false from beq_eq_false_iff_ne.2 hxh] at hst
                have e1 : ((x : Int) == (h : Int)) = false := beq_eq_false_iff_ne.2 (by omega)
                have hxh' : ¬ (x : Int) = (h : Int) := by omega
                replace hst := Lib.hid hst
                go_wp2
                go_round
                case rel => exact ⟨j + 1, by omega, by go_num, by rw [hst.out]⟩
                case measure => simp [intOf]; omega
          · obtain rfl : j = lS.length := by omega
            have qd : decide ((lS.length : Int) < lS.length) = false := by simp
            have hany : (lS.take lS.length).any (fun x => x == h) = hasH R h := by
              rw [List.take_length, hlS.out, any_map, has_perm hS.out.1]
            rw [hany]
            have MV := moveAll w4 g hv m n t k R h rc wa4.out hri.out (by omega) (by omega) hm64.out tm64.out
            generalize hasH R h = th at *
            replace MV := Lib.hid MV
            clear hany
            go_wp2_with fail
            refine MV.out.mono ?_
            rintro e w5 ⟨rfl, hv5, n5, R5, wa5, o5, f5, hn5, ri5, hS5⟩
            obtain ⟨S5, hS5', hw5⟩ := hS5 S hS.out
            have bb5 : Below N w w5 := bb4.out.trans (foot_below o5 hg hm hup.out hBs4)
            have up5 : Up N hv5 := up_next hup.out (.inl f5) hBs4
            have hl5 : HL w5 (.slice A6 lS.length c6) lS := hv4.out.only o5 foot4.out hvb.out
            have hwl : (wantL lS h rc th).length = R5.length := by rw [hlS.out, ← hw5, List.length_map]; exact hS5'.1.length_eq
            rw [← hlS.out] at hw5
            have hR5 := ri5.len
            obtain ⟨wl, hwlE⟩ : ∃ wl, wl = wantL lS h rc th := ⟨_, rfl⟩
            rw [← hwlE] at hwl hw5
            replace hwl := Lib.hid hwl
            have hBs5 : N ≤ w5.heap.size := by have := bb5.size; rw [hN.out] at this; exact this
            clear o5 f5 hS5 MV
            cases th
            rotate_left
            have HA := Lib.hid (handedC w5 _ lS h rc hl5 (by have := hll.out; omega))
            go_wp2_with fail
            refine HA.out.mono ?_
            rintro e w6 ⟨vw, rfl, own6, b6⟩
            have hlw : HL w6 vw wl := by rw [hwlE]; exact HL.of_own own6
            have wa6 := wa5.below b6
            have bb6 : Below N w w6 := bb5.trans (b6.mono hBs5)
            clear HA own6 b6
            rotate_left
            have hlw : HL w5 (.slice A6 lS.length c6) wl := by rw [hwlE]; exact hl5
            have wa6 := wa5
            have bb6 := bb5
            obtain ⟨vw, hvw⟩ : ∃ vw, vw = Value.slice A6 lS.length c6 := ⟨_, rfl⟩
            rw [← hvw] at hlw ⊢
            clear hvw
            all_goals
              obtain ⟨Aw, cw, rfl, f1, f2, f3⟩ := hlw
              unfold maxLen at f2
              have hBs6 := bb6.size
              rw [hN.out] at hBs6
              have DU6 := Lib.hid (dueAll _ g hv5 m n5 t k R5 wa6 ri5 (by omega))
              clear hl5 wa5 bb5 hwlE
              replace wa6 := Lib.hid wa6
              replace bb6 := Lib.hid bb6
              have F3' := Lib.hid f3
              clear f3
              go_wp2_with fail
              refine DU6.out.mono ?_
              rintro e w7 ⟨v7, S7, rfl, hS7, hl7, hb7, b7⟩
              have hS7e : S7.map E.h = wl := by rw [← hw5, Srt.same ri5 hS5' hS7]
              rw [hS7e] at hl7
              have hlw7 : HL w7 (.slice Aw wl.length cw) wl := HL.below ⟨Aw, cw, rfl, f1, f2, F3'.out⟩ b7
              have wa7 := wa6.out.below b7
              have bb7 : Below N w w7 := bb6.out.trans (b7.mono hBs6)
              clear DU6 F3' wa6 bb6 b7 hb7 hS5'
              rcases Classical.em (R5 = []) with hR0 | hR0
              · subst hR0
                obtain rfl : wl = [] := List.eq_nil_of_length_eq_zero hwl.out
                have FI := Lib.hid (firstNone w7 g hv5 m n5 t wa7)
                have HC := handlesC w7 v7 _ [] [] hl7 hlw7
                rw [decide_eq_true rfl] at HC
                replace HC := Lib.hid HC
                replace wa7 := Lib.hid wa7
                replace bb7 := Lib.hid bb7
                clear hl7 hlw7 hw5 hS7e hS7
                go_wp2_with fail
                refine FI.out.mono ?_
                rintro e w' ⟨rfl, rfl⟩
                go_wp2_with fail
                refine HC.out.mono ?_
                rintro e w9 ⟨rfl, k9, hw9⟩
                have bb9 := Lib.hid (show Below N w w9 by rw [← hw9]; exact below_drewN bb7.out _)
                have wa9 := wa7.out.below (w' := w9) (by rw [← hw9]; exact below_drewN (Below.refl _ _) _)
                have LE := Lib.hid (lenC w9 g hv5 m n5 t [] wa9)
                have H9 := Lib.hid (show HW w9 N g m (k + 1) hv5 n5 t [] from ⟨wa9, up5, by omega, ri5.up⟩)
                clear HC FI wa9 hw9 wa7 bb7
                go_wp2_with fail
                refine LE.out.mono ?_
                rintro e w' ⟨rfl, rfl⟩
                go_wp2
                go_roundw
                case rel => exact ⟨k + 1, _, _, _, _, by omega, by omega, by go_num, H9.out, bb9.out⟩
                case measure => simp [intOf]; omega
              · obtain ⟨a, ha, hmin, FI⟩ := firstSome w7 g hv5 m n5 t R5 wa7 hR0
                have hw0 : wl[0]? = some a.h := by rw [← hS7e, List.getElem?_map, Srt.head ri5 hS7 ha hmin]; rfl
                have hwp : 0 < wl.length := by rw [hwl.out]; exact List.length_pos_iff.2 hR0
                have q3 : (0 : Int) < wl.length := by omega
                replace FI := Lib.hid FI
                replace wa7 := Lib.hid wa7
                replace bb7 := Lib.hid bb7
                replace hl7 := Lib.hid hl7
                replace hlw7 := Lib.hid hlw7
                clear hw5 hS7e hS7 ha hmin hR0
                go_wp2_with fail
                refine FI.out.mono ?_
                rintro e w8 ⟨rfl, k8, hw8⟩
                have hb8 : Below w7.heap.size w7 w8 := by rw [← hw8]; exact below_drewN (Below.refl _ _) _
                have HC := handlesC w8 v7 _ wl wl (hl7.out.below hb8) (hlw7.out.below hb8)
                rw [decide_eq_true rfl] at HC
                have hlw8 := Lib.hid (hlw7.out.below hb8)
                have bb8 := Lib.hid (show Below N w w8 by rw [← hw8]; exact below_drewN bb7.out _)
                have wa8 := Lib.hid (wa7.out.below hb8)
                replace HC := Lib.hid HC
                clear FI hb8 wa7 bb7 hl7 hlw7 hw8
                go_wp2_with fail
                refine HC.out.mono ?_
                rintro e w9 ⟨rfl, k9, hw9⟩
                have hb9 : Below w8.heap.size w8 w9 := by rw [← hw9]; exact below_drewN (Below.refl _ _) _
                have bb9 := Lib.hid (show Below N w w9 by rw [← hw9]; exact below_drewN bb8.out _)
                have wa9 := wa8.out.below hb9
                have LE := lenC w9 g hv5 m n5 t R5 wa9
                have H9 := Lib.hid (show HW w9 N g m (k + 1) hv5 n5 t R5 from ⟨wa9, up5, by omega, ri5.up⟩)
                obtain ⟨A9, c9, he9, g1, g2, g3⟩ := hlw8.out.below hb9
                injection he9 with hA9 _ hC9
                subst hA9 hC9
                obtain ⟨bw, rfl, hbw, hc0⟩ := g3 0 a.h hw0
                rw [← hwl.out] at LE
                replace LE := Lib.hid LE
                clear HC wa9 hw9 wa8 bb8 hb9 g3 hlw8
                go_wp2_with fail
                refine LE.out.mono ?_
                rintro e w' ⟨rfl, rfl⟩
                go_wp2
                go_roundw
                case rel => exact ⟨k + 1, _, _, _, _, by omega, by omega, by go_num, H9.out, bb9.out⟩
                case measure => simp [intOf]; omega
    · have hd : (k < l.length ∧ decide ((k : Int) < 200) = false) ∨ ¬ k < l.length := by
        rcases Nat.lt_or_ge k l.length with h1 | h1
        · exact .inl ⟨h1, by simp; omega⟩
        · exact .inr (by omega)
      replace hb := Lib.hid hb
      clear hlt H
      rcases hd with ⟨d1, d2⟩ | d1
      all_goals
        go_wp2
        go_ret
        exact ⟨rfl, by rw [hN.out]; exact hb.out⟩
end Go.Proofs.Yteebcdicocmicaa.Tide
