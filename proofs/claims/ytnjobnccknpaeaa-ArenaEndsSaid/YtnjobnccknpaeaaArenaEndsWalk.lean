/-
  Walk of the law ArenaEnds: what is there is taken, what is not is refused, and nothing changes.
-/
import Derived.Test.YtnjobnccknpaeaaArenaEndsCalls
import Derived.Deep.DeepCutAuto
namespace Go.Proofs.Ytnjobnccknpaeaa.Arena
open Go.RowKit Base
set_option linter.unusedVariables false

set_option maxRecDepth 100000 in
set_option maxHeartbeats 6400000 in
theorem endsC (w : World) (A : Option Addr) (c : Nat) (l : List (Int × Int × Int × Bool)) (hT : EndsAt w A l) (hl : l.length ≤ maxLen) :
    Calls Try.prog 7 #[.slice A l.length c] w fun e w' => e = .returned (.bool true) ∧ Below w.heap.size w w' := by
  unfold maxLen at hl
  have F := Lib.hid (filledC w)
  have num0 := Lib.hid (numC 0 (by unfold inI64; omega))
  have num20 := Lib.hid (numC 20 (by unfold inI64; omega))
  replace hT := Lib.hid hT
  go_enter Try.func7, Try.ntmps7
  go_wp2_with fail
  refine F.out.mono ?_
  rintro e w1 ⟨g, h, L, rfl, a1, hL, hg, hh, hb1⟩
  have hgl2 : g < w1.heap.size := heap_lt a1.head
  have hhl2 : h < w1.heap.size := a1.bytes.lt
  clear F
  have IM := Lib.hid (imageC w1 g h L a1 hL)
  go_wp2_with fail
  refine IM.out.mono ?_
  rintro e w2 ⟨iv, rfl, own2, b2⟩
  obtain ⟨gi, ci, rfl, hgi, hci, hcm, bo2⟩ := own_open own2 (by omega)
  have s2 : St w w2 g h gi ci L := ⟨at_below a1 b2 hgl2 hhl2, bo2, hb1.trans (b2.mono hb1.size), hL, by omega, hh, by have := hb1.size; omega, hci, hcm⟩
  replace hL := Lib.hid hL
  clear own2 b2 IM a1 hb1 bo2 hgl2 hhl2 hgi hh hg
  go_wp2_with fail
  go_loopw [5] (fun i wr => ∃ k : Nat, k ≤ l.length ∧ i = .int .i64 k ∧ St w wr g h gi ci L) (fun i _ => l.length - (intOf i).toNat)
  case atStart => exact ⟨0, Nat.zero_le _, rfl, s2⟩
  case round =>
    obtain ⟨k, hk, rfl, sr⟩ := hrel
    clear s2
    by_cases hlt : k < l.length ∧ k < 60
    · obtain ⟨hk1, hk2⟩ := hlt
      have hd60 : decide ((k : Int) < 60) = true := by simp; omega
      obtain ⟨b, off, rfl, hb, c1, c2, c3, c4, f1, f2, f3⟩ := hT.out k hk1
      replace c1 := (sr.c.cell (p := ⟨b, off + k * 4, none⟩) hb).trans c1
      replace c2 := (sr.c.cell (p := ⟨b, off + k * 4 + 1, none⟩) hb).trans c2
      replace c3 := (sr.c.cell (p := ⟨b, off + k * 4 + 2, none⟩) hb).trans c3
      replace c4 := (sr.c.cell (p := ⟨b, off + k * 4 + 3, none⟩) hb).trans c4
      generalize l[k].1 = at_ at *
      generalize l[k].2.1 = n at *
      generalize l[k].2.2.1 = pg at *
      generalize l[k].2.2.2 = nr at *
      go_wp2_with fail
      go_quiet (fail)
      have sq : St w (wr.drewN nq) g h gi ci L := sr.drewN nq
      go_upto_if 40 with fail
      go_cut [6, 7] from 41 to 54 (fun s6 s7 wx => ∃ (x y : Int), s6 = .int .i64 x ∧ s7 = .int .i64 y ∧ inI64 x ∧ inI64 y ∧ St w wx g h gi ci L)
      case first =>
        cases nr with
        | false =>
          go_wp2_with fail
          go_meet
          exact ⟨_, _, rfl, rfl, f1, f2, sq⟩
        | true =>
          have W3 := Lib.hid (withinC pg 3 f3 (by omega) (by omega))
          have W21 := Lib.hid (withinC at_ 21 f1 (by omega) (by omega))
          have W23 := Lib.hid (withinC n 23 f2 (by omega) (by omega))
          have b1 : 0 ≤ pg % 3 := Int.emod_nonneg _ (by decide)
          have b2 : pg % 3 < 3 := Int.emod_lt_of_pos _ (by decide)
          have b3 : 0 ≤ at_ % 21 := Int.emod_nonneg _ (by decide)
          have b4 : at_ % 21 < 21 := Int.emod_lt_of_pos _ (by decide)
          have b5 : 0 ≤ n % 23 := Int.emod_nonneg _ (by decide)
          have b6 : n % 23 < 23 := Int.emod_lt_of_pos _ (by decide)
          generalize hA : pg % (3 : Int) = A1 at *
          generalize hB : at_ % (21 : Int) = A2 at *
          generalize hC : n % (23 : Int) = A3 at *
          replace hA := Lib.hid hA
          replace hB := Lib.hid hB
          replace hC := Lib.hid hC
          go_wp2_with fail
          refine (W3.out _).mono ?_
          rintro e w' ⟨rfl, rfl⟩
          go_wp2_with fail
          refine (W21.out _).mono ?_
          rintro e w' ⟨rfl, rfl⟩
          go_wp2_with fail
          refine (W23.out _).mono ?_
          rintro e w' ⟨rfl, rfl⟩
          go_wp2_with fail
          go_meet
          exact ⟨_, _, rfl, rfl, by unfold inI64; omega, by unfold inI64; omega, sq⟩
      case rest =>
        obtain ⟨x, y, rfl, rfl, fx, fy, sc⟩ := hcut
        clear sq sr c1 c2 c3 c4 f1 f2 f3
        by_cases hTh : There 4096 8192 x y
        · obtain ⟨q1, q2, q3, q4⟩ := id hTh
          obtain ⟨p, rfl⟩ := Int.eq_ofNat_of_zero_le q1
          obtain ⟨m, rfl⟩ := Int.eq_ofNat_of_zero_le q2
          have hpm : p + m ≤ 8192 := by omega
          have hm1 : m ≤ 8200 := by omega
          have hm2 : m ≤ 8192 := by omega
          have hm3 : (0 : Int) ≤ m := by omega
          have hm4 : (m : Int) ≤ ci := by omega
          have T := Lib.hid (isYes p m hTh)
          have R := Lib.hid (sc.readYes p m hTh)
          have LE := Lib.hid (leastC m 8192 m (by simp [Nat.min_eq_left hm2]))
          have hgeo : Hid (w.heap.size ≤ h ∧ gi ≠ h) := ⟨sc.hh, sc.ne⟩
          have Hsc := Lib.hid sc
          replace hTh := Lib.hid hTh
          clear q1 q2 q3 q4 sc hpm
          go_wp2_with fail
          refine (T.out _).mono ?_
          rintro e w' ⟨rfl, rfl⟩
          go_wp2_with fail
          refine R.out.mono ?_
          rintro e wa ⟨B, rfl, sa⟩
          clear R
          go_wp2_with fail
          refine (num0.out _).mono ?_
          rintro e w' ⟨rfl, rfl⟩
          have S := Lib.hid (sa.same hTh.out)
          clear sa
          go_wp2_with fail
          refine S.out.mono ?_
          rintro e wb ⟨rfl, sb⟩
          clear S
          have W1 := Lib.hid (sb.writeWas hgeo.out.1 hgeo.out.2 hL.out hTh.out)
          clear sb
          go_wp2_with fail
          refine (LE.out _).mono ?_
          rintro e w' ⟨rfl, rfl⟩
          go_wp2_with fail
          refine W1.out.mono ?_
          rintro e wd ⟨rfl, M1, sd⟩
          clear W1
          go_wp2_with fail
          refine (num0.out _).mono ?_
          rintro e w' ⟨rfl, rfl⟩
          go_wp2_with fail
          refine (LE.out _).mono ?_
          rintro e w' ⟨rfl, rfl⟩
          go_wp2_with fail
          refine (T.out _).mono ?_
          rintro e w' ⟨rfl, rfl⟩
          by_cases hm0 : 0 < m
          · have hd0 : decide ((0 : Int) < m) = true := by simp; omega
            have W2 := Lib.hid (sd.writeTold hgeo.out.1 hgeo.out.2 hL.out hTh.out)
            clear sd
            go_wp2_with fail
            refine (W2.out).mono ?_
            rintro e we ⟨rfl, M2, se⟩
            clear W2
            go_wp2_with fail
            refine (num0.out _).mono ?_
            rintro e w' ⟨rfl, rfl⟩
            have P := Lib.hid (Hsc.out.put8 se.a se.lenM se.b se.c)
            clear se
            go_wp2_with fail
            refine (P.out).mono ?_
            rintro e wf ⟨rfl, sf⟩
            go_wp2
            go_roundw
            case rel => exact ⟨k + 1, by omega, by go_num, sf⟩
            case measure => simp [intOf]; omega
          · have hd0 : decide ((0 : Int) < m) = false := by simp; omega
            have P := Lib.hid (Hsc.out.put8 sd.a sd.lenM sd.b sd.c)
            clear sd
            go_wp2_with fail
            refine (P.out).mono ?_
            rintro e wf ⟨rfl, sf⟩
            go_wp2
            go_roundw
            case rel => exact ⟨k + 1, by omega, by go_num, sf⟩
            case measure => simp [intOf]; omega
        · have T := Lib.hid (isNo x y hTh fx fy)
          have hTn := Lib.hid hTh
          clear hTh
          have R := Lib.hid (sc.readNo x y fx fy hTn.out)
          clear sc
          go_wp2_with fail
          refine (T.out _).mono ?_
          rintro e w' ⟨rfl, rfl⟩
          go_wp2_with fail
          refine (R.out).mono ?_
          rintro e wa ⟨rfl, sa⟩
          clear R
          go_wp2_with fail
          refine (num20.out _).mono ?_
          rintro e w' ⟨rfl, rfl⟩
          go_wp2_with fail
          refine (num20.out _).mono ?_
          rintro e w' ⟨rfl, rfl⟩
          obtain ⟨sb, hs0, S⟩ := sa.sameNil x y fx hTn.out
          replace S := Lib.hid S
          clear sa
          rcases hs0 with rfl | ⟨rfl, hy0⟩
          all_goals
            go_wp2_with fail
            refine (S.out).mono ?_
            rintro e wb ⟨rfl, sbb⟩
            clear S
            have Fi := Lib.hid (sbb.fillNo x y fx fy hTn.out)
            clear sbb
            go_wp2_with fail
            refine (Fi.out).mono ?_
            rintro e wc1 ⟨rfl, s3⟩
            clear Fi
            go_wp2_with fail
            refine (num20.out _).mono ?_
            rintro e w' ⟨rfl, rfl⟩
            have M1 := Lib.hid (s3.moveNo x 0 y fx (by unfold inI64; omega) fy (fun hh' => hTn.out hh'.1))
            clear s3
            go_wp2_with fail
            refine (M1.out).mono ?_
            rintro e wd ⟨rfl, s4⟩
            clear M1
            go_wp2_with fail
            refine (num20.out _).mono ?_
            rintro e w' ⟨rfl, rfl⟩
            have M2 := Lib.hid (s4.moveNo 0 x y (by unfold inI64; omega) fx fy (fun hh' => hTn.out hh'.2))
            clear s4
            go_wp2_with fail
            refine (M2.out).mono ?_
            rintro e we ⟨rfl, s5⟩
            clear M2
            go_wp2_with fail
            refine (num20.out _).mono ?_
            rintro e w' ⟨rfl, rfl⟩
            by_cases hin : 0 ≤ y ∧ y ≤ 8200
            · obtain ⟨i1, i2⟩ := hin
              obtain ⟨m, rfl⟩ := Int.eq_ofNat_of_zero_le i1
              obtain ⟨m2, hm2⟩ : ∃ m2, m2 = Nat.min m 8192 := ⟨_, rfl⟩
              have LE := Lib.hid (leastC m 8192 m2 hm2)
              have hm3 : m2 ≤ 8192 := by rw [hm2]; exact Nat.min_le_right _ _
              have hm5 : (0 : Int) ≤ m2 := by omega
              have hm4 : (m2 : Int) ≤ ci := by omega
              have hT2 : ¬ There 4096 8192 x (m2 : Int) := not_there_min hTn.out hm2
              replace hm2 := Lib.hid hm2
              have T2 := Lib.hid (isNo x (m2 : Int) hT2 fx (by unfold inI64; omega))
              have W1 := Lib.hid (s5.writeNo x (some ⟨gi, 0, none⟩) m2 ci fx hm3 hT2)
              clear s5
              replace hT2 := Lib.hid hT2
              go_wp2_with fail
              refine (LE.out _).mono ?_
              rintro e w' ⟨rfl, rfl⟩
              go_wp2_with fail
              refine (W1.out).mono ?_
              rintro e wf ⟨rfl, s6⟩
              clear W1
              go_wp2_with fail
              refine (num20.out _).mono ?_
              rintro e w' ⟨rfl, rfl⟩
              go_wp2_with fail
              refine (LE.out _).mono ?_
              rintro e w' ⟨rfl, rfl⟩
              go_wp2_with fail
              refine (T2.out _).mono ?_
              rintro e w' ⟨rfl, rfl⟩
              have P := Lib.hid s6.put8'
              clear s6
              go_wp2_with fail
              refine (P.out).mono ?_
              rintro e wg ⟨rfl, s7⟩
              go_wp2
              go_roundw
              case rel => exact ⟨k + 1, by omega, by go_num, s7⟩
              case measure => simp [intOf]; omega
            · have hd : y < 0 ∨ (0 ≤ y ∧ decide (y ≤ 8200) = false) := by
                rcases Int.lt_or_le y 0 with h1 | h1
                · exact .inl h1
                · exact .inr ⟨h1, by simp; omega⟩
              clear hin
              rcases hd with d1 | ⟨d1, d2⟩
              all_goals
                go_wp2
                go_roundw
                case rel => exact ⟨k + 1, by omega, by go_num, s5⟩
                case measure => simp [intOf]; omega
    · have hd : (k < l.length ∧ decide ((k : Int) < 60) = false) ∨ ¬ k < l.length := by
        rcases Nat.lt_or_ge k l.length with h1 | h1
        · exact .inl ⟨h1, by simp; omega⟩
        · exact .inr (by omega)
      have IM := Lib.hid sr.image
      clear hlt sr
      rcases hd with ⟨d1, d2⟩ | d1
      all_goals
        go_wp2_with fail
        refine IM.out.mono ?_
        rintro e we ⟨gv, cv, rfl, o1, o2, ob⟩
        have E := Lib.hid (eqBO (ca := cv) (cb := ci) o1 o2 hL.out)
        clear o1 o2
        go_wp2_with fail
        refine E.out.mono ?_
        rintro e w' ⟨rfl, rfl⟩
        go_wp2
        go_ret
        exact ⟨rfl, ob⟩
end Go.Proofs.Ytnjobnccknpaeaa.Arena
