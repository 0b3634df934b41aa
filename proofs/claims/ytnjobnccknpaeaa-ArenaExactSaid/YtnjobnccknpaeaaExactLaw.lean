/-
  The walk of the law ArenaExact.
-/
import Derived.Test.YtnjobnccknpaeaaExactTwo
import Derived.Test.YtnjobnccknpaeaaArenaWakes
namespace Go.Proofs.Ytnjobnccknpaeaa.Exact
open Go.RowKit Base Arena Held
set_option linter.unusedVariables false
attribute [local go_sem ↓] Go.wp_at_zero Go.wp_at_succ

theorem and1 (n : Int) : bits .and .i64 n 1 = n % 2 := by
  show IntKind.i64.wrap ((BitVec.ofInt 64 n &&& BitVec.ofInt 64 1).toNat : Int) = _
  rw [BitVec.toNat_and, show (BitVec.ofInt 64 1).toNat = 2 ^ 1 - 1 from rfl, Nat.and_two_pow_sub_one_eq_mod, BitVec.toNat_ofInt, IntKind.wrap_i64]
  omega

set_option maxRecDepth 100000 in
set_option maxHeartbeats 6400000 in
theorem exactC (w : World) (p0 p1 q0 q1 : Int) (i1 : inI64 p0) (i2 : inI64 p1) (i3 : inI64 q0) (i4 : inI64 q1) (A : Option Addr) (c : Nat) (l : List Op) (hT : OpsAt w w.heap.size A l) (hl : l.length ≤ maxLen) :
    Calls Try.prog 8 #[.agg #[.int .i64 p0, .int .i64 p1, .int .i64 q0, .int .i64 q1, .slice A l.length c]] w fun e w' => e = .returned (.bool true) ∧ Below w.heap.size w w' := by
  unfold maxLen at hl
  have WK := Lib.hid wakesC
  obtain ⟨w0, hw0⟩ : ∃ w0, w0 = w.alloc (.cells #[.int .i64 p0, .int .i64 p1, .int .i64 q0, .int .i64 q1, .slice A l.length c] 64) := ⟨_, rfl⟩
  have hb0 : Below w.heap.size w w0 := by rw [hw0]; exact (Below.refl _ _).alloc (Nat.le_refl _) _
  have hsz0 : w0.heap.size = w.heap.size + 1 := by rw [hw0]; exact World.size_alloc _ _
  have bx : Blk w0 w.heap.size 64 #[.int .i64 p0, .int .i64 p1, .int .i64 q0, .int .i64 q1, .slice A l.length c] := by rw [hw0]; exact Blk.new _ _ _
  have x0 := bx.cell 0
  have x1 := bx.cell 1
  have x2 := bx.cell 2
  have x3 := bx.cell 3
  have x4 := bx.cell 4
  simp only [List.getElem?_toArray, List.getElem?_cons_zero, List.getElem?_cons_succ] at x0 x1 x2 x3 x4
  have T0 : OpsAt w0 w0.heap.size A l := hT.below hb0 (by omega)
  have B1 := Lib.hid (begunB w0 p0 q0 i1 i3 w0.heap.size (Nat.le_refl _))
  have CF : ∀ (k : Nat), k < l.length → ∃ (o : Op) (b off : Nat), o.Ok w0 w0.heap.size ∧ A = some ⟨b, off, none⟩ ∧ ∀ W, Below w0.heap.size w0 W → W.cell? ⟨b, off + k * 9, none⟩ = some (.int .i64 o.d) ∧ W.cell? ⟨b, off + k * 9 + 1, none⟩ = some (.int .i64 o.which) ∧ W.cell? ⟨b, off + k * 9 + 2, none⟩ = some (.int .i64 o.pl) ∧
    W.cell? ⟨b, off + k * 9 + 3, none⟩ = some (.int .i64 o.tt) ∧ W.cell? ⟨b, off + k * 9 + 4, none⟩ = some (.int .i64 o.n) ∧ W.cell? ⟨b, off + k * 9 + 5, none⟩ = some (.int .i64 o.width) ∧ W.cell? ⟨b, off + k * 9 + 6, none⟩ = some (.int .u64 (o.v : Int)) ∧
    W.cell? ⟨b, off + k * 9 + 7, none⟩ = some (.slice o.A o.q.length o.c) ∧ W.cell? ⟨b, off + k * 9 + 8, none⟩ = some (.bool o.own) := by
    intro k hk
    obtain ⟨o, b, off, h1, h2, h3, c0, c1, c2, c3, c4, c5, c6, c7, c8⟩ := T0.at_ k hk
    refine ⟨o, b, off, h1, h2, fun W hW => ?_⟩
    have e : ∀ j, W.cell? ⟨b, off + k * 9 + j, none⟩ = w0.cell? ⟨b, off + k * 9 + j, none⟩ := fun j => hW.cell (p := ⟨b, off + k * 9 + j, none⟩) h3
    exact ⟨(e 0).trans c0, (e 1).trans c1, (e 2).trans c2, (e 3).trans c3, (e 4).trans c4, (e 5).trans c5, (e 6).trans c6, (e 7).trans c7, (e 8).trans c8⟩
  clear T0 bx hT
  replace CF := Lib.hid CF
  generalize hN : w.heap.size = N at *
  replace hN := Lib.hid hN
  replace hw0 := Lib.hid hw0
  replace hb0 := Lib.hid hb0
  go_enter Try.func8, Try.ntmps8
  go_upto_region 1 with fail
  rw [hN.out, ← hw0.out]
  go_wp2_with fail
  refine B1.out.mono ?_
  rintro e w1 ⟨p, F1, rfl, P1, b1, f1⟩
  have B2 := Lib.hid (begunB w1 p1 q1 i2 i4 w0.heap.size b1.size)
  have y1 := (b1.cell (p := ⟨N, 1, none⟩) (by show N < w0.heap.size; omega)).trans x1
  have y3 := (b1.cell (p := ⟨N, 3, none⟩) (by show N < w0.heap.size; omega)).trans x3
  clear x0 x1 x2 x3 B1
  replace P1 := Lib.hid P1
  replace b1 := Lib.hid b1
  go_wp2_with fail
  refine B2.out.mono ?_
  rintro e w2 ⟨q, F2, rfl, P2, b2, f2⟩
  have T : Two w0 w2 w0.heap.size p q F1 F2 := ⟨P1.out.below b2, P2, fun x h1 h2 => by have := (P1.out.lt x h1).2; have := f2 x h2; omega, b1.out.trans (b2.mono b1.out.size), Nat.le_refl _⟩
  have hN0 : N < w0.heap.size := by omega
  generalize hM : w0.heap.size = M at *
  have y4 := (T.s.cell (p := ⟨N, 4, none⟩) hN0).trans x4
  replace T := Lib.hid T
  replace x4 := Lib.hid x4
  clear P1 P2 b1 b2 f1 f2 B2 y1 y3
  replace hM := Lib.hid hM
  replace hN0 := Lib.hid hN0
  replace hsz0 := Lib.hid hsz0
  go_wp2_with fail
  go_loopw [5] (fun i wr => ∃ (k : Nat) (F1 F2 : Nat → Prop), k ≤ l.length ∧ i = .int .i64 (k : Int) ∧ Two w0 wr M p q F1 F2) (fun i _ => l.length - (intOf i).toNat)
  case atStart => exact ⟨0, F1, F2, Nat.zero_le _, rfl, T.out⟩
  case round =>
    obtain ⟨k, E1, E2, hk, rfl, t⟩ := hrel
    clear T y4
    have y4 := (t.s.cell (p := ⟨N, 4, none⟩) hN0.out).trans x4.out
    by_cases hk1 : k < l.length
    · by_cases hk2 : k < 300
      · have hd6 : decide ((k : Int) < 300) = true := by simp; omega
        obtain ⟨o, b, off, ok, rfl, cf⟩ := CF.out k hk1
        obtain ⟨c0, c1, c2, c3, c4, c5, c6, c7, c8⟩ := cf wr t.s
        have hal := and1 o.which
        obtain ⟨j, hj, hjw⟩ : ∃ j : Nat, (j = 0 ∨ j = 1) ∧ o.which % 2 = (j : Int) := ⟨(o.which % 2).toNat, by omega, by omega⟩
        rw [hjw] at hal
        clear hjw
        replace cf := Lib.hid cf
        rcases hj with rfl | rfl
        · have LJ := laysB wr M p E1 t.a o (ok.below t.s)
          unfold Op.cells at LJ
          replace LJ := Lib.hid LJ
          replace t := Lib.hid t
          go_wp2_with fail
          refine LJ.out.mono ?_
          rintro e w4 ⟨rfl, P4, o4⟩
          have t4 : Two w0 w4 M p q E1 E2 := t.out.step P4 o4 (fun b h => .inl h)
          have z4 := (t4.s.cell (p := ⟨N, 4, none⟩) hN0.out).trans x4.out
          clear c0 c1 c2 c3 c4 c5 c6 c7 c8 LJ t P4 o4 y4
          obtain ⟨c0, c1, c2, c3, c4, c5, c6, c7, c8⟩ := cf.out w4 t4.s
          have TJ := tellsB w4 M p E1 t4.a o (ok.below t4.s)
          unfold Op.cells at TJ
          replace TJ := Lib.hid TJ
          replace t4 := Lib.hid t4
          go_wp2_with fail
          refine TJ.out.mono ?_
          rintro e w5 ⟨rfl, F5, P5, o5, s5⟩
          have t5 : Two w0 w5 M p q F5 E2 := t4.out.step P5 o5 s5
          clear c0 c1 c2 c3 c4 c5 c6 c7 c8 TJ t4 P5 o5 s5 z4
          replace t5 := Lib.hid t5
          go_wp2
          go_roundw
          case rel => exact ⟨k + 1, F5, E2, by omega, by go_num, t5.out⟩
          case measure => simp [intOf]; omega
        · have LJ := laysB wr M q E2 t.b o (ok.below t.s)
          unfold Op.cells at LJ
          replace LJ := Lib.hid LJ
          replace t := Lib.hid t
          go_wp2_with fail
          refine LJ.out.mono ?_
          rintro e w4 ⟨rfl, P4, o4⟩
          have t4 : Two w0 w4 M p q E1 E2 := (t.out.swap.step P4 o4 (fun b h => .inl h)).swap
          have z4 := (t4.s.cell (p := ⟨N, 4, none⟩) hN0.out).trans x4.out
          clear c0 c1 c2 c3 c4 c5 c6 c7 c8 LJ t P4 o4 y4
          obtain ⟨c0, c1, c2, c3, c4, c5, c6, c7, c8⟩ := cf.out w4 t4.s
          have TJ := tellsB w4 M q E2 t4.b o (ok.below t4.s)
          unfold Op.cells at TJ
          replace TJ := Lib.hid TJ
          replace t4 := Lib.hid t4
          go_wp2_with fail
          refine TJ.out.mono ?_
          rintro e w5 ⟨rfl, F5, P5, o5, s5⟩
          have t5 : Two w0 w5 M p q E1 F5 := (t4.out.swap.step P5 o5 s5).swap
          clear c0 c1 c2 c3 c4 c5 c6 c7 c8 TJ t4 P5 o5 s5 z4
          replace t5 := Lib.hid t5
          go_wp2
          go_roundw
          case rel => exact ⟨k + 1, E1, F5, by omega, by go_num, t5.out⟩
          case measure => simp [intOf]; omega
      · have hd6 : decide ((k : Int) < 300) = false := by simp; omega
        obtain ⟨h1, u1, OA⟩ := ownPB wr M p E1 t.a
        replace OA := Lib.hid OA
        replace t := Lib.hid t
        go_wp2_with fail
        refine OA.out.mono ?_
        rintro e w4 ⟨rfl, F4, P4, o4, s4⟩
        have t4 := t.out.step P4 o4 s4
        obtain ⟨h2, u2, OB⟩ := ownPB w4 M q E2 t4.b
        replace OB := Lib.hid OB
        replace t4 := Lib.hid t4
        clear u1 OA t P4 o4 s4 y4
        go_wp2_with fail
        refine OB.out.mono ?_
        rintro e w5 ⟨rfl, F5, P5, o5, s5⟩
        have t5 := t4.out.swap.step P5 o5 s5
        have A5 := Lib.hid (allB w5 M p F4 t5.b)
        replace t5 := Lib.hid t5
        clear u2 OB t4 P5 o5 s5
        go_wp2_with fail
        refine A5.out.mono ?_
        rintro e w6 ⟨rfl, b6⟩
        have t6 := t5.out.below b6
        have A6 := Lib.hid (allB w6 M q F5 t6.a)
        replace t6 := Lib.hid t6
        clear A5 t5 b6
        go_wp2_with fail
        refine A6.out.mono ?_
        rintro e w7 ⟨rfl, b7⟩
        have t7 := Lib.hid (t6.out.below b7)
        clear A6 t6 b7
        go_wp2_with fail
        refine (WK.out w7).mono ?_
        rintro e w8 ⟨rfl, b8⟩
        have t8 := Lib.hid (t7.out.below b8)
        clear t7 b8
        go_wp2
        go_ret
        exact ⟨rfl, hb0.out.trans (t8.out.s.mono (by have := hN0.out; omega))⟩
    · obtain rfl : k = l.length := by omega
      obtain ⟨h1, u1, OA⟩ := ownPB wr M p E1 t.a
      replace OA := Lib.hid OA
      replace t := Lib.hid t
      go_wp2_with fail
      refine OA.out.mono ?_
      rintro e w4 ⟨rfl, F4, P4, o4, s4⟩
      have t4 := t.out.step P4 o4 s4
      obtain ⟨h2, u2, OB⟩ := ownPB w4 M q E2 t4.b
      replace OB := Lib.hid OB
      replace t4 := Lib.hid t4
      clear u1 OA t P4 o4 s4 y4
      go_wp2_with fail
      refine OB.out.mono ?_
      rintro e w5 ⟨rfl, F5, P5, o5, s5⟩
      have t5 := t4.out.swap.step P5 o5 s5
      have A5 := Lib.hid (allB w5 M p F4 t5.b)
      replace t5 := Lib.hid t5
      clear u2 OB t4 P5 o5 s5
      go_wp2_with fail
      refine A5.out.mono ?_
      rintro e w6 ⟨rfl, b6⟩
      have t6 := t5.out.below b6
      have A6 := Lib.hid (allB w6 M q F5 t6.a)
      replace t6 := Lib.hid t6
      clear A5 t5 b6
      go_wp2_with fail
      refine A6.out.mono ?_
      rintro e w7 ⟨rfl, b7⟩
      have t7 := Lib.hid (t6.out.below b7)
      clear A6 t6 b7
      go_wp2_with fail
      refine (WK.out w7).mono ?_
      rintro e w8 ⟨rfl, b8⟩
      have t8 := Lib.hid (t7.out.below b8)
      clear t7 b8
      go_wp2
      go_ret
      exact ⟨rfl, hb0.out.trans (t8.out.s.mono (by have := hN0.out; omega))⟩
end Go.Proofs.Ytnjobnccknpaeaa.Exact
