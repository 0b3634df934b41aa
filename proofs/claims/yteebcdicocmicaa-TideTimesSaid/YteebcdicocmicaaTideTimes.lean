/-
  The walk of the law TideTimes.
-/
import Derived.Test.YteebcdicocmicaaTideWakes
namespace Go.Proofs.Yteebcdicocmicaa.Tide
open Go.RowKit Base Clk
set_option linter.unusedVariables false

structure Ask where
  now : Int
  t : Int
  x : Int
  tok : Int
  cut : Int
/-- The slice holds the questions, five cells each. -/
def AsksAt (w : World) (A : Option Addr) (l : List Ask) : Prop := ∀ (k : Nat) (hk : k < l.length), ∃ b off, A = some ⟨b, off, none⟩ ∧ b < w.heap.size ∧
  w.cell? ⟨b, off + k * 5, none⟩ = some (.int .i64 (l[k]).now) ∧ w.cell? ⟨b, off + k * 5 + 1, none⟩ = some (.int .i64 (l[k]).t) ∧ w.cell? ⟨b, off + k * 5 + 2, none⟩ = some (.int .i64 (l[k]).x) ∧ w.cell? ⟨b, off + k * 5 + 3, none⟩ = some (.int .u64 (l[k]).tok) ∧ w.cell? ⟨b, off + k * 5 + 4, none⟩ = some (.int .u64 (l[k]).cut)

set_option maxRecDepth 100000 in
set_option maxHeartbeats 3200000 in
theorem timesC (w : World) (A : Option Addr) (c : Nat) (l : List Ask) (hT : AsksAt w A l) (hl : l.length ≤ maxLen) :
    Calls Try.prog 3 #[.slice A l.length c] w fun e w' => e = .returned (.bool true) ∧ Below w.heap.size w w' := by
  unfold maxLen at hl
  have W := Lib.hid wakesC
  have E1 := Lib.hid expiryC
  have E2 := Lib.hid expiryR
  have D1 := Lib.hid deadC
  have D2 := Lib.hid deadR
  replace hT := Lib.hid hT
  go_enter Try.func3, Try.ntmps3
  go_wp2_with fail
  go_loopw [3] (fun i wr => ∃ k : Nat, k ≤ l.length ∧ i = .int .i64 (k : Int) ∧ Below w.heap.size w wr) (fun i _ => l.length - (intOf i).toNat)
  case atStart => exact ⟨0, Nat.zero_le _, rfl, Below.refl _ _⟩
  case round =>
    obtain ⟨k, hk, rfl, hb⟩ := hrel
    by_cases hlt : k < l.length
    · obtain ⟨b, off, rfl, hbl, c0, c1, c2, c3, c4⟩ := hT.out k hlt
      replace c0 := (hb.cell (p := ⟨b, off + k * 5, none⟩) hbl).trans c0
      replace c1 := (hb.cell (p := ⟨b, off + k * 5 + 1, none⟩) hbl).trans c1
      replace c2 := (hb.cell (p := ⟨b, off + k * 5 + 2, none⟩) hbl).trans c2
      replace c3 := (hb.cell (p := ⟨b, off + k * 5 + 3, none⟩) hbl).trans c3
      replace c4 := (hb.cell (p := ⟨b, off + k * 5 + 4, none⟩) hbl).trans c4
      generalize l[k] = a at *
      obtain ⟨now, t, x, tok, cut⟩ := a
      simp only at c0 c1 c2 c3 c4
      obtain ⟨w1, hw1⟩ : ∃ w1, w1 = wr.alloc (.cells #[.int .i64 now, .int .i64 t, .int .i64 x, .int .u64 tok, .int .u64 cut] 25) := ⟨_, rfl⟩
      have bx : Blk w1 wr.heap.size 25 #[.int .i64 now, .int .i64 t, .int .i64 x, .int .u64 tok, .int .u64 cut] := by rw [hw1]; exact Blk.new _ _ _
      have hb1 : Below w.heap.size w w1 := by rw [hw1]; exact hb.alloc hb.size _
      have x0 := bx.cell 0
      have x1 := bx.cell 1
      have x2 := bx.cell 2
      have x3 := bx.cell 3
      have x4 := bx.cell 4
      simp only [List.getElem?_toArray, List.getElem?_cons_zero, List.getElem?_cons_succ] at x0 x1 x2 x3 x4
      generalize hN : wr.heap.size = N at *
      replace hN := Lib.hid hN
      replace hw1 := Lib.hid hw1
      replace hb1 := Lib.hid hb1
      replace bx := Lib.hid bx
      go_upto_region 5 with fail
      rw [hN.out, ← hw1.out]
      clear c0 c1 c2 c3 c4
      go_quiet ((first | (go_at_call 10; exact quiet_left (E1.out _ _ _)) | (go_at_call 11; exact quiet_left (E2.out _ _ _))))
      obtain ⟨w2, hw2⟩ : ∃ w2, w2 = w1.drewN nq := ⟨_, rfl⟩
      rw [← hw2]
      have y0 : w2.cell? ⟨N, 0, none⟩ = some (.int .i64 now) := by rw [hw2]; exact x0
      have y2 : w2.cell? ⟨N, 2, none⟩ = some (.int .i64 x) := by rw [hw2]; exact x2
      have y3 : w2.cell? ⟨N, 3, none⟩ = some (.int .u64 tok) := by rw [hw2]; exact x3
      have y4 : w2.cell? ⟨N, 4, none⟩ = some (.int .u64 cut) := by rw [hw2]; exact x4
      have hb2 : Below w.heap.size w w2 := by rw [hw2]; exact below_drewN hb1.out _
      replace hb2 := Lib.hid hb2
      replace hw2 := Lib.hid hw2
      clear x0 x1 x2 x3 x4
      go_wp2_with fail
      go_quiet ((first | (go_at_call 12; exact quiet_left (D1.out _ _ _ _ _)) | (go_at_call 13; exact quiet_left (D2.out _ _ _ _ _))))
      go_wp2
      go_roundw
      case rel => exact ⟨k + 1, by omega, by go_num, below_drewN hb2.out _⟩
      case measure => simp [intOf]; omega
    · have hd : decide ((k : Int) < l.length) = false := by simp; omega
      have WC := Lib.hid (W.out wr)
      replace hb := Lib.hid hb
      go_wp2_with fail
      refine WC.out.mono ?_
      rintro e w2 ⟨rfl, hb2⟩
      have fin := Lib.hid (hb.out.trans (hb2.mono hb.out.size))
      clear hb2
      go_wp2
      go_ret
      exact ⟨rfl, fin.out⟩
end Go.Proofs.Yteebcdicocmicaa.Tide
