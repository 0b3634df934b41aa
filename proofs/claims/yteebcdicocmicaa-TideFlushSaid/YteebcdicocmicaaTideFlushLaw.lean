/-
  The walk of the law TideFlush.
-/
import Derived.Test.YteebcdicocmicaaTideDay
import Derived.Deep.RegionLaw
import Derived.Deep.DrawnRows
namespace Go.Proofs.Yteebcdicocmicaa.Clk
open Go.RowKit Base
set_option linter.unusedVariables false
attribute [local go_sem ↓] Go.wp_at_zero Go.wp_at_succ

structure Dy where
  dw : Int
  n : Int
  far : Bool
/-- The slice holds the days, three cells each. -/
def DaysAt (w : World) (A : Option Addr) (l : List Dy) : Prop := ∀ (k : Nat) (hk : k < l.length), ∃ b off, A = some ⟨b, off, none⟩ ∧ b < w.heap.size ∧ (-9223372036854775808 ≤ (l[k]).n ∧ (l[k]).n < 9223372036854775808) ∧
  w.cell? ⟨b, off + k * 3, none⟩ = some (.int .i64 (l[k]).dw) ∧ w.cell? ⟨b, off + k * 3 + 1, none⟩ = some (.int .i64 (l[k]).n) ∧ w.cell? ⟨b, off + k * 3 + 2, none⟩ = some (.bool (l[k]).far)
theorem thL_at (n c i : Nat) (hi : i < (thL n c).length) : (thL n c)[i] = (i + 1, decide (i + 1 ≤ c)) := by
  simp [thL, thM]
theorem dead_th (i c : Nat) (now : Int) : deadF 0 ((i + 1 : Nat) : Int) now (c : Int) = decide (i + 1 ≤ c) := by
  unfold deadF
  by_cases h : i + 1 ≤ c
  · simp [h]; omega
  · simp [h]; omega
theorem dead_next (n c : Nat) (now : Int) (h : c ≤ n) : deadF 0 ((n + 1 : Nat) : Int) now (c : Int) = false := by
  unfold deadF
  simp; omega
theorem DW.drewN {w : World} {B T g n : Nat} {now : Int} (D : DW w B T g n now) (m : Nat) : DW (w.drewN m) B T g n now :=
  let ⟨⟨hv, c, comes, pend, F, r, h⟩, a, b⟩ := D
  ⟨⟨hv, c, comes, pend, F.drewN m, r, h⟩, a, b⟩
theorem drewN_drewN' (w : World) (m k : Nat) : ∃ j, w.drewN j = (w.drewN m).drewN k := ⟨m + k, by rw [World.drewN_drewN]⟩

set_option maxRecDepth 100000 in
set_option maxHeartbeats 6400000 in
theorem flushLawC (w : World) (A : Option Addr) (c : Nat) (l : List Dy) (hT : DaysAt w A l) (hl : l.length ≤ maxLen) :
    Calls Try.prog 5 #[.slice A l.length c] w fun e w' => e = .returned (.bool true) ∧ Below w.heap.size w w' := by
  unfold maxLen at hl
  have W := Lib.hid Tide.wakesC
  have NUM := Lib.hid (fun w => numC 0 w (by omega))
  have NW := Lib.hid (newYes 1 0 0 w (by decide))
  replace hT := Lib.hid hT
  go_enter Try.func5, Try.ntmps5
  go_wp2_with fail
  refine NW.out.mono ?_
  rintro e w1 ⟨rfl, ck1, b1⟩
  clear NW
  go_wp2_with fail
  refine (NUM.out _).mono ?_
  rintro e w' ⟨rfl, rfl⟩
  obtain ⟨w2, hw2⟩ : ∃ w2, w2 = w1.alloc (.cells #[.pointer (some ⟨w.heap.size, 0, none⟩), .slice none 0 0, .int .u64 0, .int .i64 1, .int .i64 0] 39) := ⟨_, rfl⟩
  have hs1 : w.heap.size < w1.heap.size := Blk.lt ck1
  have F2 : FW w2 w.heap.size w1.heap.size w.heap.size (.slice none 0 0) (thL 0 0) (0 : Nat) 1 1 0 0 := by
    have hb : Below w1.heap.size w1 w2 := by rw [hw2]; exact (Below.refl _ _).alloc (Nat.le_refl _) _
    refine ⟨by rw [hw2]; exact Blk.new _ _ _, ⟨?_, .inl ⟨rfl, rfl⟩⟩, Blk.below ck1 hb hs1, by omega, by omega⟩
    rfl
  have D2 : DW w2 w.heap.size w1.heap.size w.heap.size 0 1 := ⟨⟨_, 0, 0, 0, F2, .inl ⟨rfl, rfl⟩, Nat.le_refl _⟩, by omega, by omega⟩
  have B2 : Below w.heap.size w w2 := by rw [hw2]; exact b1.alloc (by omega) _
  generalize hN : w.heap.size = N at *
  generalize hM : w1.heap.size = M at *
  replace hN := Lib.hid hN
  replace hM := Lib.hid hM
  replace hw2 := Lib.hid hw2
  replace D2 := Lib.hid D2
  replace B2 := Lib.hid B2
  clear ck1 b1 F2 hs1
  go_upto_region 5 with fail
  rw [← hw2.out, hM.out]
  go_wp2_with fail
  go_loopw [6] (fun i wr => ∃ (k n : Nat) (now : Int), k ≤ l.length ∧ k ≤ 400 ∧ i = .int .i64 (k : Int) ∧ n ≤ k ∧ now ≤ 1 + 1000000 * k ∧ DW wr N M N n now ∧ Below N w wr) (fun i _ => l.length - (intOf i).toNat)
  case atStart => exact ⟨0, 0, 1, Nat.zero_le _, by omega, rfl, by omega, by omega, D2.out, B2.out⟩
  case round =>
    obtain ⟨k, n, now, hk, hk4, rfl, hnk, hnow, D, hb⟩ := hrel
    clear D2 B2
    by_cases hlt : k < l.length ∧ k < 400
    · obtain ⟨hk1, hk2⟩ := hlt
      have hd6 : decide ((k : Int) < 400) = true := by simp; omega
      obtain ⟨b, off, rfl, hbl, hnn, c0, c1, c2⟩ := hT.out k hk1
      rw [hN.out] at hbl
      replace c0 := (hb.cell (p := ⟨b, off + k * 3, none⟩) hbl).trans c0
      replace c1 := (hb.cell (p := ⟨b, off + k * 3 + 1, none⟩) hbl).trans c1
      replace c2 := (hb.cell (p := ⟨b, off + k * 3 + 2, none⟩) hbl).trans c2
      have hBs : N ≤ wr.heap.size := by have := hb.size; rw [hN.out] at this; exact this
      generalize l[k] = a at *
      obtain ⟨dw, nn, far⟩ := a
      simp only at c0 c1 c2 hnn
      have DC := Lib.hid (dayC wr.drew N M N n now (D.drewN 1) (by omega) (by omega) dw nn far hnn)
      have NC := Lib.hid nowC
      replace hb := Lib.hid hb
      clear D
      go_upto_region 8 with fail
      go_region_law
        ((go_simp; first | (go_at_call 17; refine DC.out.mono ?_; rintro e w3 ⟨rfl, n', now', ⟨⟨hv, c', comes, pend, F3', hR, hc⟩, hsz, hn1⟩, hn', hnow', b3⟩; obtain ⟨k0, k1, k2, k3, k4⟩ := F3'.cells) | (go_at_call 18; refine (NC.out _ _ _ _ _ F3'.ck).mono ?_; rintro e w' ⟨rfl, rfl⟩)))
      all_goals
        have hlen : (thL n' c').length = n' := thM_len _ _ _
        rw [hlen] at k2
        have D3 := Lib.hid (show DW w3 N M N n' now' from ⟨⟨hv, c', comes, pend, F3', hR, hc⟩, hsz, hn1⟩)
        have b4 := Lib.hid (hb.out.trans (((Below.refl N wr).drew).trans b3))
        obtain ⟨A, ca, rfl, ha1, ha2⟩ := Tide.own_len F3'.row
        rw [hlen] at k1 ha1
        have ck3 := Lib.hid F3'.ck
        have row := F3'.row
        have DE := Lib.hid deadC
        have CU := Lib.hid cutC
        have hn9 : n' < 1000000 := by omega
        unfold maxLen at ha2
        replace row := Lib.hid row
        replace hlen := Lib.hid hlen
        clear F3' hR b3 c0 c1 c2 DC k0 k4
        go_wp2_with fail
        go_loopw [7] (fun i wr => ∃ (j m : Nat), j ≤ n' ∧ i = .int .i64 (j : Int) ∧ w3.drewN m = wr) (fun i _ => n' - (intOf i).toNat)
        case atStart => exact ⟨0, 0, Nat.zero_le _, rfl, rfl⟩
        case round =>
          obtain ⟨j, m, hj, rfl, hm⟩ := hrel
          have ck := Blk.drewN ck3.out m
          rw [hm] at ck
          have ckN := fun k => Blk.drewN ck k
          have k1 : wr.cell? ⟨M, 1, none⟩ = some (.slice A n' ca) := by rw [← hm]; exact k1
          have k2 : wr.cell? ⟨M, 2, none⟩ = some (.int .u64 (n' : Int)) := by rw [← hm]; exact k2
          have k3 : wr.cell? ⟨M, 3, none⟩ = some (.int .i64 now') := by rw [← hm]; exact k3
          have D4 := Lib.hid (show DW wr N M N n' now' by rw [← hm]; exact D3.out.drewN m)
          have b5 := Lib.hid (show Below N w wr by rw [← hm]; exact below_drewN b4.out m)
          have row2 := Lib.hid (show wr.ownsRow N 45 2 (.slice A n' ca) n' (pairs (thL n' c')) by rw [← hm]; have := row.out; rw [hlen.out] at this; exact this)
          replace hm := Lib.hid hm
          clear ck
          replace ckN := Lib.hid ckN
          by_cases hlt : j < n'
          · have hp : 0 < (thL n' c').length := by rw [hlen.out]; omega
            have hjl : j < (thL n' c').length := by rw [hlen.out]; exact hlt
            obtain ⟨bb, cap, hve, hlt0⟩ := row.out.form hp
            injection hve with hA
            subst hA
            have x0 := row2.out.cellAt (j * 2) (by omega)
            have x1 := row2.out.cellAt (j * 2 + 1) (by omega)
            rw [(pairs_at _ j hjl).1, thL_at] at x0
            rw [(pairs_at _ j hjl).2, thL_at] at x1
            simp only at x0 x1
            have DE2 := Lib.hid (DE.out 0 ((j + 1 : Nat) : Int) now' (c' : Int))
            rw [dead_th] at DE2
            have q1 : (0 : Int) ≤ j := by omega
            have q2 : (j : Int) < n' := by omega
            generalize decide (j + 1 ≤ c') = bo at *
            generalize ((j + 1 : Nat) : Int) = tk at *
            clear hlt0 hp hjl hlen row row2 D4 b5 D3 b4 ha1 ha2
            go_wp2_with fail
            go_quiet ((first | (go_at_call 18; exact quiet_left (NC.out _ _ _ _ _ (ckN.out _))) | (go_at_call 19; exact quiet_left (CU.out _ _ _ _ _ (ckN.out _))) | (go_at_call 12; exact quiet_left (DE2.out _))))
            go_wp2
            go_roundw
            case rel => exact ⟨j + 1, _, by omega, by go_num, by rw [← hm.out]; exact (World.drewN_drewN _ _ _).symm⟩
            case measure => simp [intOf]; omega
          · obtain rfl : j = n' := by omega
            have qd : decide ((j : Int) < j) = false := by simp
            have hiw := inc_wrap j (by omega)
            have DE2 := Lib.hid (DE.out 0 ((j + 1 : Nat) : Int) now' (c' : Int))
            rw [dead_next j c' now' hc] at DE2
            generalize ((j + 1 : Nat) : Int) = tk at *
            clear hlen row row2 D3 b4 ha1 ha2
            go_wp2_with fail
            go_quiet ((first | (go_at_call 18; exact quiet_left (NC.out _ _ _ _ _ (ckN.out _))) | (go_at_call 19; exact quiet_left (CU.out _ _ _ _ _ (ckN.out _))) | (go_at_call 12; exact quiet_left (DE2.out _))))
            go_wp2
            go_roundw
            case rel => exact ⟨k + 1, j, now', by omega, by omega, by go_num, by omega, by omega, D4.out.drewN _, below_drewN b5.out _⟩
            case measure => simp [intOf]; omega
    · have hd : (k < l.length ∧ decide ((k : Int) < 400) = false) ∨ ¬ k < l.length := by
        rcases Nat.lt_or_ge k l.length with h1 | h1
        · exact .inl ⟨h1, by simp; omega⟩
        · exact .inr (by omega)
      have WC := Lib.hid (W.out wr)
      have hBs : N ≤ wr.heap.size := by have := hb.size; rw [hN.out] at this; exact this
      replace hb := Lib.hid hb
      clear hlt D
      rcases hd with ⟨d1, d2⟩ | d1
      all_goals
        go_wp2_with fail
        refine WC.out.mono ?_
        rintro e w5 ⟨rfl, b5⟩
        have fin := Lib.hid (hb.out.trans (b5.mono hBs))
        clear b5
        go_wp2
        go_ret
        exact ⟨rfl, by rw [hN.out]; exact fin.out⟩
end Go.Proofs.Yteebcdicocmicaa.Clk
