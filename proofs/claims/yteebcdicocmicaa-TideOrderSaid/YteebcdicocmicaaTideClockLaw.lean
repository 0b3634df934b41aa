/-
  The walk of the law TideClock.
-/
import Derived.Test.YteebcdicocmicaaTideTwo
import Derived.Deep.RegionHeld3
import Derived.Deep.DrawnRows
namespace Go.Proofs.Yteebcdicocmicaa.Clk
open Go.RowKit Base
set_option linter.unusedVariables false
attribute [local go_sem ↓] Go.wp_at_zero Go.wp_at_succ

structure Op where
  do_ : Int
  which : Int
  n : Int
  e : Int
  v : Int
/-- The slice holds the operations, five cells each. -/
def OpsAt (w : World) (A : Option Addr) (l : List Op) : Prop := ∀ (k : Nat) (hk : k < l.length), ∃ b off, A = some ⟨b, off, none⟩ ∧ b < w.heap.size ∧
  w.cell? ⟨b, off + k * 5, none⟩ = some (.int .i64 (l[k]).do_) ∧ w.cell? ⟨b, off + k * 5 + 1, none⟩ = some (.int .i64 (l[k]).which) ∧ w.cell? ⟨b, off + k * 5 + 2, none⟩ = some (.int .i64 (l[k]).n) ∧ w.cell? ⟨b, off + k * 5 + 3, none⟩ = some (.int .i64 (l[k]).e) ∧ w.cell? ⟨b, off + k * 5 + 4, none⟩ = some (.int .u64 (l[k]).v)
theorem and1 (n : Int) : bits .and .i64 n 1 = n % 2 := by
  show IntKind.i64.wrap ((BitVec.ofInt 64 n &&& BitVec.ofInt 64 1).toNat : Int) = _
  rw [BitVec.toNat_and, show (BitVec.ofInt 64 1).toNat = 2 ^ 1 - 1 from rfl, Nat.and_two_pow_sub_one_eq_mod, BitVec.toNat_ofInt, IntKind.wrap_i64]
  omega
theorem movE_bd (a b : Int) : -9223372036854775808 ≤ movE a b ∧ movE a b < 9223372036854775808 := by unfold movE; (repeat' split) <;> omega
theorem mov_ok {now b : Int} (h1 : 1 ≤ now) (h2 : now ≤ 1099511627776) : 1 ≤ movN now b ∧ movN now b ≤ 1099511627776 := by unfold movN; (repeat' split) <;> omega
theorem headc {w : World} {T : Nat} {g h : Nat → Nat} (t : Blk w T 54 #[ptr (g 0), ptr (g 1), ptr (h 0), ptr (h 1)]) (k : Nat) (hk : k < 2) : w.cell? ⟨T, k, none⟩ = some (.pointer (some ⟨g k, 0, none⟩)) ∧ w.cell? ⟨T, 2 + k, none⟩ = some (.pointer (some ⟨h k, 0, none⟩)) := by
  have : k = 0 ∨ k = 1 := by omega
  rcases this with rfl | rfl
  · exact ⟨t.cell 0, t.cell 2⟩
  · exact ⟨t.cell 1, t.cell 3⟩
theorem cell_only {w w' : World} {x b i : Nat} (o : Only (· = x) w w') (hb : b < w.heap.size) (hne : b ≠ x) : w'.cell? ⟨b, i, none⟩ = w.cell? ⟨b, i, none⟩ :=
  World.cell?_of_block (a := ⟨b, i, none⟩) (o.block b hb hne)
/-- Nothing below B is touched. -/
theorem only_below {w w' : World} {B x : Nat} (o : Only (· = x) w w') (hx : B ≤ x) (hB : B ≤ w.heap.size) : Below B w w' :=
  o.toBelow (fun k hk => ⟨by omega, by show ¬ k = x; omega⟩)

set_option maxRecDepth 100000 in
set_option maxHeartbeats 6400000 in
theorem clockC (w : World) (A : Option Addr) (c : Nat) (l : List Op) (hT : OpsAt w A l) (hl : l.length ≤ maxLen) :
    Calls Try.prog 6 #[.slice A l.length c] w fun e w' => e = .returned (.bool true) ∧ Below w.heap.size w w' := by
  unfold maxLen at hl
  have W := Lib.hid Tide.wakesC
  replace hT := Lib.hid hT
  obtain ⟨w0, hw0⟩ : ∃ w0, w0 = w.alloc (.cells #[.pointer none, .pointer none, .pointer none, .pointer none] 54) := ⟨_, rfl⟩
  have hb0 : Below w.heap.size w w0 := by rw [hw0]; exact (Below.refl _ _).alloc (Nat.le_refl _) _
  have T0 : Blk w0 w.heap.size 54 #[.pointer none, .pointer none, .pointer none, .pointer none] := by rw [hw0]; exact Blk.new _ _ _
  have hsz0 : w0.heap.size = w.heap.size + 1 := by rw [hw0]; exact World.size_alloc _ _
  have B1 := Lib.hid (beginYes w0 w.heap.size 0 none none none none 1 0 0 T0 (by omega) (by decide))
  generalize hN : w.heap.size = N at *
  replace hN := Lib.hid hN
  replace hw0 := Lib.hid hw0
  replace hb0 := Lib.hid hb0
  replace hsz0 := Lib.hid hsz0
  replace T0 := Lib.hid T0
  go_enter Try.func6, Try.ntmps6
  go_wp2_with fail
  rw [hN.out, ← hw0.out]
  refine B1.out.mono ?_
  rintro e w1 ⟨rfl, g0, h0, T1, ck1, rc1, hg0, hh0, o1⟩
  have B2 := Lib.hid (beginYes w1 N 1 (some ⟨g0, 0, none⟩) none (some ⟨h0, 0, none⟩) none 1099511627756 0 0 T1 (by omega) (by decide))
  clear B1
  go_wp2_with fail
  refine B2.out.mono ?_
  rintro e w2 ⟨rfl, g1, h1, T2, ck2, rc2, hg1, hh1, o2⟩
  have hg0l : g0 < w1.heap.size := Blk.lt ck1
  have hh0l : h0 < w1.heap.size := Blk.lt rc1
  have hs0 := hsz0.out
  have tw : TW w2 N N (fun j => if j = 0 then g0 else g1) (fun j => if j = 0 then h0 else h1) (fun j => if j = 0 then ⟨1, 0, 0⟩ else ⟨1099511627756, 0, 0⟩) := by
    refine ⟨T2, fun k hk => ?_, fun k hk => ?_, fun k hk => ?_, ?_, ?_, Nat.le_refl _, fun k hk => ?_⟩
    · by_cases hk0 : k = 0
      · simp only [hk0, if_pos]; exact blk_only ck1 o2 (by show ¬ g0 = N; omega)
      · simp only [hk0, if_neg, not_false_eq_true]; exact ck2
    · by_cases hk0 : k = 0
      · simp only [hk0, if_pos]; exact blk_only rc1 o2 (by show ¬ h0 = N; omega)
      · simp only [hk0, if_neg, not_false_eq_true]; exact rc2
    · by_cases hk0 : k = 0
      · simp only [hk0, if_pos]; omega
      · simp only [hk0, if_neg, not_false_eq_true]; omega
    · simp only [if_pos, show ¬ (1 : Nat) = 0 by omega, if_neg, not_false_eq_true]; omega
    · simp only [if_pos, show ¬ (1 : Nat) = 0 by omega, if_neg, not_false_eq_true]; omega
    · by_cases hk0 : k = 0
      · simp only [hk0, if_pos]; omega
      · simp only [hk0, if_neg, not_false_eq_true]; omega
  have b2 : Below N w w2 := (hb0.out.trans (only_below o1 (Nat.le_refl _) (by omega))).trans (only_below o2 (Nat.le_refl _) (by have := o1.size; omega))
  have c0 := T2.cell 0
  have c1 := T2.cell 1
  simp only [setV, ptr] at c0 c1
  simp at c0 c1
  replace tw := Lib.hid tw
  replace b2 := Lib.hid b2
  clear ck1 rc1 T1 o1 T2 ck2 rc2 o2 B2 hg0 hh0 hg1 hh1 hg0l hh0l hs0
  go_wp2_with fail
  go_loopw [4] (fun i wr => ∃ (k : Nat) (g h : Nat → Nat) (s : Nat → St), k ≤ l.length ∧ i = .int .i64 (k : Int) ∧ TW wr N N g h s ∧ Below N w wr) (fun i _ => l.length - (intOf i).toNat)
  case atStart => exact ⟨0, _, _, _, Nat.zero_le _, rfl, tw.out, b2.out⟩
  case round =>
    obtain ⟨k, g, h, s, hk, rfl, t, hb⟩ := hrel
    clear tw b2 c0 c1
    by_cases hlt : k < l.length ∧ k < 600
    · obtain ⟨hk1, hk2⟩ := hlt
      have hd6 : decide ((k : Int) < 600) = true := by simp; omega
      obtain ⟨b, off, rfl, hbl, c0, c1, c2, c3, c4⟩ := hT.out k hk1
      rw [hN.out] at hbl
      replace c0 := (hb.cell (p := ⟨b, off + k * 5, none⟩) hbl).trans c0
      replace c1 := (hb.cell (p := ⟨b, off + k * 5 + 1, none⟩) hbl).trans c1
      replace c2 := (hb.cell (p := ⟨b, off + k * 5 + 2, none⟩) hbl).trans c2
      replace c3 := (hb.cell (p := ⟨b, off + k * 5 + 3, none⟩) hbl).trans c3
      replace c4 := (hb.cell (p := ⟨b, off + k * 5 + 4, none⟩) hbl).trans c4
      generalize l[k] = a at *
      obtain ⟨dw, which, n, e, v⟩ := a
      simp only at c0 c1 c2 c3 c4
      have hBs : N ≤ wr.heap.size := by have := hb.size; rw [hN.out] at this; exact this
      obtain ⟨w3, hw3⟩ : ∃ w3, w3 = wr.alloc (.cells #[.int .i64 dw, .int .i64 which, .int .i64 n, .int .i64 e, .int .u64 v] 57) := ⟨_, rfl⟩
      have bx : Blk w3 wr.heap.size 57 #[.int .i64 dw, .int .i64 which, .int .i64 n, .int .i64 e, .int .u64 v] := by rw [hw3]; exact Blk.new _ _ _
      have hb3 : Below N w w3 := by rw [hw3]; exact hb.alloc hBs _
      have t3 : TW w3 N N g h s := t.below (by rw [hw3]; exact (Below.refl _ _).alloc (Nat.le_refl _) _)
      have x0 := bx.cell 0
      have x1 := bx.cell 1
      have x2 := bx.cell 2
      have x3 := bx.cell 3
      have x4 := bx.cell 4
      simp only [List.getElem?_toArray, List.getElem?_cons_zero, List.getElem?_cons_succ] at x0 x1 x2 x3 x4
      have hal := and1 which
      obtain ⟨j, hj, hjw⟩ : ∃ j : Nat, j < 2 ∧ which % 2 = (j : Int) := ⟨(which % 2).toNat, by omega, by omega⟩
      rw [hjw] at hal
      replace hjw := Lib.hid hjw
      obtain ⟨y1, y2⟩ := t3.cc j hj
      unfold ptr at y1 y2
      have q1 : (0 : Int) ≤ j := by omega
      have q2 : (j : Int) < 2 := by omega
      generalize hM : wr.heap.size = M at *
      replace hM := Lib.hid hM
      replace hw3 := Lib.hid hw3
      replace hb3 := Lib.hid hb3
      replace bx := Lib.hid bx
      replace t3 := Lib.hid t3
      go_upto_region 10 with fail
      rw [hM.out, ← hw3.out]
      clear c0 c1 c2 c3 c4 t hb
      by_cases d1 : dw = 1
      · subst d1
        have ck3 := t3.out.ck j hj
        have ok3 := t3.out.ok j hj
        have hMg : ¬ M = g j := Blk.ne_ bx.out ck3 (by decide)
        have hMh : ¬ M = h j := Blk.ne_ bx.out (t3.out.rc j hj) (by decide)
        have hNh : ¬ N = h j := Blk.ne_ t3.out.head (t3.out.rc j hj) (by decide)
        have MC := Lib.hid (moveC w3.drew (g j) (s j).now (s j).pend (s j).cut n v (Blk.drewN ck3 1) ok3.1 ok3.2)
        replace ck3 := Lib.hid ck3
        replace ok3 := Lib.hid ok3
        go_upto_region 12 with fail
        go_still_tail 10, (by kernel_rfl)
        change wpList _ _ _ _ _ w3.drew
        go_wp2_with fail
        refine MC.out.mono ?_
        rintro e w4 ⟨rfl, ck4, o4⟩
        have o4' : Only (· = g j) w3 w4 := (Only.refl (· = g j) w3).drew.trans o4 (fun _ _ h => h)
        obtain ⟨rc4, fin4, head4⟩ := t3.out.half j hj ⟨movN (s j).now n, movP (s j).now (s j).pend n, movC (s j).now (s j).pend (s j).cut n v⟩ o4' ck4 (mov_ok ok3.out.1 ok3.out.2)
        obtain ⟨z1, z2⟩ := headc head4 j hj
        have bx4 := blk_only bx.out o4' hMg
        have b4 : Below N w w4 := hb3.out.trans (only_below o4' (t3.out.lo.2 j hj).1 (by have := hb3.out.size; rw [hN.out] at this; exact this))
        have hlo := (t3.out.lo.2 j hj).2
        have hNl : N < w4.heap.size := head4.lt
        have hMl : M < w4.heap.size := bx4.lt
        have u2 := bx4.cell 2
        have u4 := bx4.cell 4
        simp only [List.getElem?_toArray, List.getElem?_cons_zero, List.getElem?_cons_succ] at u2 u4
        have MR := Lib.hid (moveR w4.drew (h j) (s j).now (s j).pend (s j).cut n v (Blk.drewN rc4 1) ok3.out.1 ok3.out.2)
        replace fin4 := Lib.hid fin4
        replace b4 := Lib.hid b4
        clear MC ck4 o4 head4 rc4 bx4 x0 x1 x2 x3 x4 y1 y2
        have NU := Lib.hid (fun w => numC (movE (s j).now n) w (movE_bd _ _))
        generalize movE (s j).now n = me at *
        go_upto_region 13 with fail
        go_region_held3 (fun w' => w'.cell? ⟨N, 2 + j, none⟩ = some (.pointer (some ⟨h j, 0, none⟩)) ∧ w'.cell? ⟨M, 2, none⟩ = some (.int .i64 n) ∧ w'.cell? ⟨M, 4, none⟩ = some (.int .u64 v)) (first | (go_keep; done) | exact ⟨(cell_only o5 hNl hNh).trans z2, (cell_only o5 hMl hMh).trans u2, (cell_only o5 hMl hMh).trans u4⟩)
          (first | (go_at_call 15; refine (NU.out _).mono ?_; rintro e w' ⟨rfl, rfl⟩) | (go_at_call 22; refine MR.out.mono ?_; rintro e w5 ⟨rfl, rc5, o5⟩))
        have o5' : Only (· = h j) w4 w5 := (Only.refl (· = h j) w4).drew.trans o5 (fun _ _ h => h)
        have t5 := Lib.hid (fin4.out w5 o5' rc5)
        have b5 := Lib.hid (b4.out.trans (only_below o5' hlo (by omega)))
        clear rc5 o5 o5' fin4 b4 u2 u4 z1 z2 MR
        have SC := Lib.hid (sameC w5 N N g h _ t5.out)
        go_wp2_with fail
        refine SC.out.mono ?_
        rintro e w6 ⟨rfl, m6, h6⟩
        have t6 := t5.out.drewN m6
        have b6 := below_drewN b5.out m6
        rw [h6] at t6 b6
        replace t6 := Lib.hid t6
        replace b6 := Lib.hid b6
        replace h6 := Lib.hid h6
        clear SC
        go_wp2
        go_roundw
        case rel => exact ⟨k + 1, _, _, _, by omega, by go_num, t6.out, b6.out⟩
        case measure => simp [intOf]; omega
      have e1 : (dw == 1) = false := beq_eq_false_iff_ne.2 d1
      by_cases d2 : dw = 2
      · subst d2
        have ck3 := t3.out.ck j hj
        have ok3 := t3.out.ok j hj
        have hMg : ¬ M = g j := Blk.ne_ bx.out ck3 (by decide)
        have hMh : ¬ M = h j := Blk.ne_ bx.out (t3.out.rc j hj) (by decide)
        have hNh : ¬ N = h j := Blk.ne_ t3.out.head (t3.out.rc j hj) (by decide)
        have MC := Lib.hid (flushC w3.drew (g j) (s j).now (s j).pend (s j).cut n v (Blk.drewN ck3 1) ok3.1 ok3.2)
        replace ck3 := Lib.hid ck3
        replace ok3 := Lib.hid ok3
        go_upto_region 15 with fail
        go_still_tail 10, (by kernel_rfl)
        change wpList _ _ _ _ _ w3.drew
        go_wp2_with fail
        refine MC.out.mono ?_
        rintro e w4 ⟨rfl, ck4, o4⟩
        have o4' : Only (· = g j) w3 w4 := (Only.refl (· = g j) w3).drew.trans o4 (fun _ _ h => h)
        obtain ⟨rc4, fin4, head4⟩ := t3.out.half j hj ⟨(s j).now, pendF (s j).now n, cutF (s j).cut n v⟩ o4' ck4 (ok3.out)
        obtain ⟨z1, z2⟩ := headc head4 j hj
        have bx4 := blk_only bx.out o4' hMg
        have b4 : Below N w w4 := hb3.out.trans (only_below o4' (t3.out.lo.2 j hj).1 (by have := hb3.out.size; rw [hN.out] at this; exact this))
        have hlo := (t3.out.lo.2 j hj).2
        have hNl : N < w4.heap.size := head4.lt
        have hMl : M < w4.heap.size := bx4.lt
        have u2 := bx4.cell 2
        have u4 := bx4.cell 4
        simp only [List.getElem?_toArray, List.getElem?_cons_zero, List.getElem?_cons_succ] at u2 u4
        have MR := Lib.hid (flushR w4.drew (h j) (s j).now (s j).pend (s j).cut n v (Blk.drewN rc4 1) ok3.out.1 ok3.out.2)
        replace fin4 := Lib.hid fin4
        replace b4 := Lib.hid b4
        clear MC ck4 o4 head4 rc4 bx4 x0 x1 x2 x3 x4 y1 y2
        go_upto_region 16 with fail
        go_still_tail 10, (by kernel_rfl)
        change wpList _ _ _ _ _ w4.drew
        go_wp2_with fail
        refine MR.out.mono ?_
        rintro e w5 ⟨rfl, rc5, o5⟩
        have o5' : Only (· = h j) w4 w5 := (Only.refl (· = h j) w4).drew.trans o5 (fun _ _ h => h)
        have t5 := Lib.hid (fin4.out w5 o5' rc5)
        have b5 := Lib.hid (b4.out.trans (only_below o5' hlo (by omega)))
        clear rc5 o5 o5' fin4 b4 u2 u4 z1 z2 MR
        have SC := Lib.hid (sameC w5 N N g h _ t5.out)
        go_wp2_with fail
        refine SC.out.mono ?_
        rintro e w6 ⟨rfl, m6, h6⟩
        have t6 := t5.out.drewN m6
        have b6 := below_drewN b5.out m6
        rw [h6] at t6 b6
        replace t6 := Lib.hid t6
        replace b6 := Lib.hid b6
        replace h6 := Lib.hid h6
        clear SC
        go_wp2
        go_roundw
        case rel => exact ⟨k + 1, _, _, _, by omega, by go_num, t6.out, b6.out⟩
        case measure => simp [intOf]; omega
      have e2 : (dw == 2) = false := beq_eq_false_iff_ne.2 d2
      by_cases d3 : dw = 3
      · subst d3
        cases hok : newOK n e with
        | false =>
          have BN := Lib.hid (beginNo w3 N j n v e hok)
          replace hok := Lib.hid hok
          have t5 := t3
          have b5 := hb3
          go_wp2_with fail
          refine BN.out.mono ?_
          rintro e w5 ⟨rfl, rfl⟩
          clear x0 x1 x2 x3 x4 y1 y2 BN
          have SC := Lib.hid (sameC w3 N N g h _ t5.out)
          go_wp2_with fail
          refine SC.out.mono ?_
          rintro e w6 ⟨rfl, m6, h6⟩
          have t6 := t5.out.drewN m6
          have b6 := below_drewN b5.out m6
          rw [h6] at t6 b6
          replace t6 := Lib.hid t6
          replace b6 := Lib.hid b6
          replace h6 := Lib.hid h6
          clear SC
          go_wp2
          go_roundw
          case rel => exact ⟨k + 1, _, _, _, by omega, by go_num, t6.out, b6.out⟩
          case measure => simp [intOf]; omega
        | true =>
          have BY := Lib.hid (beginYes w3 N j _ _ _ _ n v e t3.out.head hj hok)
          replace hok := Lib.hid hok
          go_wp2_with fail
          refine BY.out.mono ?_
          rintro ee w5 ⟨rfl, g', h', T5, ck5, rc5, hg5, hh5, o5⟩
          have t5 := Lib.hid (t3.out.begun j hj ⟨n, e, v⟩ hok.out T5 ck5 rc5 hg5 hh5 o5)
          have b5 := Lib.hid (hb3.out.trans (only_below o5 (Nat.le_refl _) (by have := hb3.out.size; rw [hN.out] at this; exact this)))
          clear x0 x1 x2 x3 x4 y1 y2 BY T5 ck5 rc5 hg5 hh5 o5
          have SC := Lib.hid (sameC w5 N N _ _ _ t5.out)
          go_wp2_with fail
          refine SC.out.mono ?_
          rintro e w6 ⟨rfl, m6, h6⟩
          have t6 := t5.out.drewN m6
          have b6 := below_drewN b5.out m6
          rw [h6] at t6 b6
          replace t6 := Lib.hid t6
          replace b6 := Lib.hid b6
          replace h6 := Lib.hid h6
          clear SC
          go_wp2
          go_roundw
          case rel => exact ⟨k + 1, _, _, _, by omega, by go_num, t6.out, b6.out⟩
          case measure => simp [intOf]; omega
      have e3 : (dw == 3) = false := beq_eq_false_iff_ne.2 d3
      have t5 := t3
      have b5 := hb3
      clear d1 d2 d3
      have SC := Lib.hid (sameC w3 N N g h _ t5.out)
      go_wp2_with fail
      refine SC.out.mono ?_
      rintro e w6 ⟨rfl, m6, h6⟩
      have t6 := t5.out.drewN m6
      have b6 := below_drewN b5.out m6
      rw [h6] at t6 b6
      replace t6 := Lib.hid t6
      replace b6 := Lib.hid b6
      replace h6 := Lib.hid h6
      clear SC
      go_wp2
      go_roundw
      case rel => exact ⟨k + 1, _, _, _, by omega, by go_num, t6.out, b6.out⟩
      case measure => simp [intOf]; omega
    · have hd : (k < l.length ∧ decide ((k : Int) < 600) = false) ∨ ¬ k < l.length := by
        rcases Nat.lt_or_ge k l.length with h1 | h1
        · exact .inl ⟨h1, by simp; omega⟩
        · exact .inr (by omega)
      have WC := Lib.hid (W.out wr)
      have hBs : N ≤ wr.heap.size := by have := hb.size; rw [hN.out] at this; exact this
      replace hb := Lib.hid hb
      replace t := Lib.hid t
      clear hlt
      rcases hd with ⟨d1, d2⟩ | d1
      all_goals
        go_wp2_with fail
        refine WC.out.mono ?_
        rintro e w5 ⟨rfl, b5⟩
        have fin := Lib.hid (hb.out.trans (b5.mono hBs))
        clear b5
        go_wp2
        go_ret
        exact ⟨rfl, fin.out⟩
end Go.Proofs.Yteebcdicocmicaa.Clk
