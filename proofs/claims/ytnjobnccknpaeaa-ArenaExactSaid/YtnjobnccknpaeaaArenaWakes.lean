/-
  The walks of the statements' helpers num, Within, widthOf, wakes; PROVED with them: ArenaNamesSaid.
-/
import Derived.Test.YtnjobnccknpaeaaArenaNew
import Derived.Test.YtnjobnccknpaeaaArenaOps2
import Derived.Test.YtnjobnccknpaeaaArenaGet
import Derived.Test.YtnjobnccknpaeaaArenaPut
namespace Go.Proofs.Ytnjobnccknpaeaa.Arena
open Go.RowKit Base
set_option linter.unusedVariables false

theorem numC (n : Int) (hn : inI64 n) (w : World) : Calls Try.prog 10 #[.int .i64 n] w fun e w' => e = .returned (.int .i64 n) ∧ w = w' := by
  obtain ⟨h1, h2⟩ := hn
  go_enter Try.func10, Try.ntmps10
  go_wp2
  go_ret
  exact ⟨rfl, rfl⟩
theorem piece_lay (l : List UInt8) (p : Nat) (q : List UInt8) (h : p + q.length ≤ l.length) : ((lay l p q).drop p).take q.length = q := by
  unfold lay
  rw [List.append_assoc, List.drop_append, List.drop_eq_nil_of_le (by simp; omega), List.nil_append]
  have e : p - (l.take p).length = 0 := by simp; omega
  rw [e, List.drop_zero]
  simp
theorem piece_out (l : List UInt8) (p : Nat) (q : List UInt8) (i n : Nat) (h : p + q.length ≤ l.length) (hi : i + n ≤ p ∨ p + q.length ≤ i) : ((lay l p q).drop i).take n = (l.drop i).take n := by
  apply List.ext_getElem?
  intro j
  rw [List.getElem?_take, List.getElem?_take]
  split
  · rw [List.getElem?_drop, List.getElem?_drop]
    unfold lay
    rcases hi with hi | hi
    · rw [List.append_assoc, List.getElem?_append_left (by simp; omega), List.getElem?_take, if_pos (by omega)]
    · rw [List.getElem?_append_right (by simp; omega), List.getElem?_drop]
      congr 1
      simp
      omega
  · rfl

set_option maxRecDepth 100000 in
set_option maxHeartbeats 800000 in
theorem wakesC (w : World) : Calls Try.prog 15 #[] w fun e w' => e = .returned (.bool true) ∧ Below w.heap.size w w' := by
  have N := Lib.hid (newYes w 4096 1 (by unfold RightPage; omega) (by omega) (by omega))
  have num0 := Lib.hid (numC 0 (by unfold inI64; omega))
  go_enter Try.func15, Try.ntmps15
  go_wp2_with fail
  refine N.out.mono ?_
  rintro e w1 ⟨rfl, a1, hb1, hs1⟩
  replace hs1 := Lib.hid hs1
  go_wp2_with fail
  refine (num0.out _).mono ?_
  rintro e w' ⟨rfl, rfl⟩
  have hbel : Below w.heap.size w w1 := hb1
  have hlt : w.heap.size < w1.heap.size := by rw [hs1.out]; omega
  have l1 : (List.replicate (4096 * 1) (0 : UInt8)).length = 4096 := by simp
  generalize List.replicate (4096 * 1) (0 : UInt8) = Z at *
  have hsame := piece_lay Z 9 (putB 2 258) (by rw [putB_len, l1]; omega)
  have l2 : (lay Z 9 (putB 2 258)).length = 4096 := by rw [lay_len _ _ _ (by rw [putB_len, l1]; omega), l1]
  have e1 : beN (((lay Z 9 (putB 2 258)).drop 9).take 2) = 258 := by
    rw [putB_len] at hsame
    rw [hsame, beN_putB]
  have hth : There 4096 4096 9 2 := by decide
  have L : Calls Try.prog 26 #[.pointer (some ⟨w.heap.size + 1, 0, none⟩)] w1 fun e w' => e = .returned (.int .i64 4096) ∧ w1 = w' := by
    have := lenC w1 _ _ _ _ a1
    rw [l1] at this
    exact this
  have P : Calls Try.prog 40 #[.pointer (some ⟨w.heap.size + 1, 0, none⟩), .int .i64 9, .int .u16 258] w1 fun e w' =>
      e = .returned (.int .i64 0) ∧ At w' (w.heap.size + 1) w.heap.size 4096 (lay Z 9 (putB 2 258)) ∧ Only (· = w.heap.size) w1 w' ∧ w'.heap.size = w1.heap.size :=
    putYes_u16 w1 _ _ _ _ a1 9 258 (by decide) (by rw [l1]; exact hth)
  replace hsame := Lib.hid hsame
  replace l1 := Lib.hid l1
  replace l2 := Lib.hid l2
  replace e1 := Lib.hid e1
  replace L := Lib.hid L
  replace P := Lib.hid P
  generalize lay Z 9 (putB 2 258) = Y at *
  have hN : Hid (w.heap.size + 1 = w.heap.size + 1) := rfl
  generalize hg : w.heap.size + 1 = g at *
  replace hg := Lib.hid hg
  generalize hh : w.heap.size = h at *
  replace hh := Lib.hid hh
  go_wp2_with fail
  refine L.out.mono ?_
  rintro e w' ⟨rfl, rfl⟩
  go_wp2_with fail
  refine P.out.mono ?_
  rintro e w2 ⟨rfl, a2, ho2, hs2⟩
  replace hs2 := Lib.hid hs2
  go_wp2_with fail
  refine (num0.out _).mono ?_
  rintro e w' ⟨rfl, rfl⟩
  have G : Calls Try.prog 48 #[.pointer (some ⟨g, 0, none⟩), .int .i64 9] w2 fun e w' => e = .returned (.tuple #[.int .u16 258, .int .i64 0]) ∧ ∃ m, w2.drewN m = w' := by
    have := getYes_u16 w2 g h 4096 Y a2 9 (by rw [l2.out]; exact hth)
    rw [show (9 : Int).toNat = 9 from rfl, e1.out] at this
    exact this
  replace G := Lib.hid G
  go_wp2_with fail
  refine G.out.mono ?_
  rintro e w3 ⟨rfl, m, hw3⟩
  have a3 : At w3 g h 4096 Y := by rw [← hw3]; exact a2.keep rfl rfl
  have ho3 : Only (· = h) w1 w3 := by rw [← hw3]; exact ho2.drewN m
  replace hw3 := Lib.hid hw3
  go_wp2_with fail
  refine (num0.out _).mono ?_
  rintro e w' ⟨rfl, rfl⟩
  go_wp2_with fail
  have bb : BB (w3.alloc (.cells #[.int .u8 1, .int .u8 2] 5)) 5 w3.heap.size [1, 2] := by
    unfold BB
    rw [heap_alloc_new]
    rfl
  have S := sameYes (w3.alloc (.cells #[.int .u8 1, .int .u8 2] 5)) g h 4096 Y (a3.only (Only.of_below ((Below.refl _ _).alloc (Nat.le_refl _) _) (Nat.le_refl _) (fun _ => False)) (fun h => h) (fun h => h)) 9 (some ⟨w3.heap.size, 0, none⟩) 2 _ [1, 2] (bb.all (w3.heap.size + 1) (Nat.lt_succ_self _)) (by rw [l2.out]; exact hth)
  have e4 : (Y.drop (9 : Int).toNat).take ([1, 2] : List UInt8).length = [(1 : UInt8), 2] := by
    have := hsame.out
    rw [show putB 2 258 = [1, 2] by decide] at this
    exact this
  rw [e4] at S
  replace S := Lib.hid S
  refine S.out.mono ?_
  rintro e w4 ⟨rfl, m4, hw4⟩
  have ho4 : Only (· = h) w1 w4 := by rw [← hw4]; exact (ho3.alloc _).drewN m4
  replace hw4 := Lib.hid hw4
  go_wp2
  go_ret
  refine ⟨by simp, ?_⟩
  have hbb : Below h w w4 := hbel.trans (ho4.toBelow (fun k hk => ⟨by omega, by show ¬ k = h; omega⟩))
  rw [← hh.out] at hbb
  exact hbb

theorem namesC (w : World) : Calls Try.prog 4 #[] w fun e w' => e = .returned (.bool true) ∧ Below w.heap.size w w' := by
  have n1 := Lib.hid (numC 1 (by unfold inI64; omega))
  have n20 := Lib.hid (numC 20 (by unfold inI64; omega))
  have n0 := Lib.hid (numC 0 (by unfold inI64; omega))
  have W := Lib.hid wakesC
  go_enter Try.func4, Try.ntmps4
  go_wp2_with fail
  refine (n1.out _).mono ?_
  rintro e w' ⟨rfl, rfl⟩
  go_wp2_with fail
  refine (n20.out _).mono ?_
  rintro e w' ⟨rfl, rfl⟩
  go_wp2_with fail
  refine (n0.out _).mono ?_
  rintro e w' ⟨rfl, rfl⟩
  go_wp2_with fail
  refine (W.out _).mono ?_
  rintro e w' ⟨rfl, hb⟩
  go_wp2
  go_ret
  exact ⟨rfl, hb⟩
end Go.Proofs.Ytnjobnccknpaeaa.Arena
