/-
  The walks of the helpers isThere, least, put8.
-/
import Derived.Test.YtnjobnccknpaeaaArenaApartWalk
namespace Go.Proofs.Ytnjobnccknpaeaa.Arena
open Go.RowKit Base
set_option linter.unusedVariables false

theorem isYes (at_ n : Int) (h : There 4096 8192 at_ n) (w : World) : Calls Try.prog 28 #[.int .i64 at_, .int .i64 n] w fun e w' => e = .returned (.bool true) ∧ w = w' := by
  obtain ⟨q1, q2, q3, q4⟩ := h
  have hs : IntKind.i64.wrap (at_ + n) = at_ + n := IntWalk.i64_in _ (by omega)
  have q6 : at_ ≤ 8192 := by omega
  have q7 : n ≤ 8192 := by omega
  rcases q4 with rfl | q4
  · go_enter Try.func28, Try.ntmps28
    go_wp2
    go_ret
    exact ⟨rfl, rfl⟩
  · by_cases q8 : n = 0
    · subst q8
      go_enter Try.func28, Try.ntmps28
      go_wp2
      go_ret
      exact ⟨rfl, rfl⟩
    · by_cases q5 : at_ + n ≤ 4096
      · go_enter Try.func28, Try.ntmps28
        go_wp2
        go_ret
        exact ⟨rfl, rfl⟩
      · have q9 : 4096 ≤ at_ := by omega
        have q10 : decide (at_ + n ≤ 8192) = true := by simp; omega
        go_enter Try.func28, Try.ntmps28
        go_wp2
        go_ret
        exact ⟨rfl, rfl⟩
theorem isNo (at_ n : Int) (h : ¬ There 4096 8192 at_ n) (ha : inI64 at_) (hn : inI64 n) (w : World) : Calls Try.prog 28 #[.int .i64 at_, .int .i64 n] w fun e w' => e = .returned (.bool false) ∧ w = w' := by
  unfold There at h
  obtain ⟨ha1, ha2⟩ := ha
  obtain ⟨hn1, hn2⟩ := hn
  by_cases q1 : at_ < 0
  · clear h
    go_enter Try.func28, Try.ntmps28
    go_wp2
    go_ret
    exact ⟨rfl, rfl⟩
  by_cases q2 : n < 0
  · clear h
    go_enter Try.func28, Try.ntmps28
    go_wp2
    go_ret
    exact ⟨rfl, rfl⟩
  by_cases q3 : 8192 < at_
  · clear h
    go_enter Try.func28, Try.ntmps28
    go_wp2
    go_ret
    exact ⟨rfl, rfl⟩
  by_cases q4 : 8192 < n
  · clear h
    go_enter Try.func28, Try.ntmps28
    go_wp2
    go_ret
    exact ⟨rfl, rfl⟩
  have hs : IntKind.i64.wrap (at_ + n) = at_ + n := IntWalk.i64_in _ (by omega)
  have q5 : ¬ n = 0 := by omega
  have q6 : ¬ at_ + n ≤ 4096 := by omega
  by_cases q7 : 4096 ≤ at_
  · have q8 : ¬ at_ + n ≤ 8192 := by omega
    clear h
    go_enter Try.func28, Try.ntmps28
    go_wp2
    go_ret
    exact ⟨rfl, rfl⟩
  · clear h
    go_enter Try.func28, Try.ntmps28
    go_wp2
    go_ret
    exact ⟨rfl, rfl⟩
theorem leastC (a b c : Nat) (hc : c = Nat.min a b) (w : World) : Calls Try.prog 29 #[.int .i64 (a : Int), .int .i64 (b : Int)] w fun e w' => e = .returned (.int .i64 (c : Int)) ∧ w = w' := by
  by_cases h : a < b
  · have : c = a := by rw [hc]; exact Nat.min_eq_left (by omega)
    subst this
    clear hc
    go_enter Try.func29, Try.ntmps29
    go_wp2
    go_ret
    exact ⟨rfl, rfl⟩
  · have : c = b := by rw [hc]; exact Nat.min_eq_right (by omega)
    subst this
    clear hc
    go_enter Try.func29, Try.ntmps29
    go_wp2
    go_ret
    exact ⟨rfl, rfl⟩

theorem lay_halves (M L : List UInt8) (hM : M.length = 8192) (hL : L.length = 8192) : lay (lay M 0 (L.take 4096)) 4096 (L.drop 4096) = L := by
  have h1 : (L.take 4096).length = 4096 := by rw [List.length_take]; omega
  have h2 : (L.drop 4096).length = 4096 := by rw [List.length_drop]; omega
  unfold lay
  rw [h1, h2, List.take_zero, List.nil_append]
  have e1 : (L.take 4096 ++ M.drop (0 + 4096)).take 4096 = L.take 4096 := by rw [List.take_append_of_le_length (by omega), List.take_of_length_le (by omega)]
  have e2 : (L.take 4096 ++ M.drop (0 + 4096)).drop (4096 + 4096) = [] := List.drop_eq_nil_of_le (by rw [List.length_append, h1, List.length_drop, hM]; omega)
  rw [e1, e2, List.append_nil, List.take_append_drop]
/-- Both pages laid anew. -/
theorem put8C (w : World) (g h gi ci : Nat) (M L : List UInt8) (a : At w g h 4096 M) (hM : M.length = 8192) (hL : L.length = 8192) (bo : BO w gi L) (hgh : gi ≠ h) (hci : 8192 ≤ ci) (hcm : ci ≤ maxLen) :
    Calls Try.prog 30 #[.pointer (some ⟨g, 0, none⟩), .slice (some ⟨gi, 0, none⟩) 8192 ci] w fun e w' => e = .returned (.bool true) ∧ At w' g h 4096 L ∧ Only (· = h) w w' ∧ w'.heap.size = w.heap.size := by
  have num0 := Lib.hid (numC 0 (by unfold inI64; omega))
  have l1 : (L.take 4096).length = 4096 := by rw [List.length_take]; omega
  have l2 : (L.drop 4096).length = 4096 := by rw [List.length_drop]; omega
  have W1 := writeYes w g h 4096 M a 0 (some ⟨gi, 0, none⟩) ci w.heap.size (L.take 4096) (by have := bo.piece w.heap.size 0 4096 bo.lt (by omega) (some ⟨gi, 0, none⟩) (fun _ => rfl); rwa [List.drop_zero] at this) (by rw [hM, l1]; unfold There; omega)
  rw [l1] at W1
  replace W1 := Lib.hid W1
  have hlay := Lib.hid (lay_halves M L hM hL)
  have hM1 : (lay M 0 (L.take 4096)).length = 8192 := by rw [lay_len _ _ _ (by omega)]; exact hM
  have hc : ¬ ci = 4096 := by omega
  rw [show ((0 : Int).toNat) = 0 from rfl] at W1
  generalize lay M 0 (L.take 4096) = M1 at *
  go_enter Try.func30, Try.ntmps30
  go_wp2_with fail
  refine W1.out.mono ?_
  rintro e w1 ⟨rfl, a1, o1, s1⟩
  have bo1 : BO w1 gi L := bo.keep (o1.block _ bo.lt hgh)
  have W2 := writeYes w1 g h 4096 M1 a1 4096 (some ⟨gi, 4096, none⟩) (ci - 4096) w1.heap.size (L.drop 4096) (by have := bo1.piece w1.heap.size 4096 4096 bo1.lt (by omega) (some ⟨gi, 4096, none⟩) (fun _ => rfl); rwa [List.take_of_length_le (by omega)] at this) (by rw [hM1, l2]; unfold There; omega)
  rw [l2, show ((4096 : Int).toNat) = 4096 from rfl, hlay.out] at W2
  replace W2 := Lib.hid W2
  replace s1 := Lib.hid s1
  go_wp2_with fail
  refine (num0.out _).mono ?_
  rintro e w' ⟨rfl, rfl⟩
  go_wp2_with fail
  refine W2.out.mono ?_
  rintro e w2 ⟨rfl, a2, o2, s2⟩
  replace s2 := Lib.hid s2
  go_wp2_with fail
  refine (num0.out _).mono ?_
  rintro e w' ⟨rfl, rfl⟩
  go_wp2
  go_ret
  exact ⟨rfl, a2, o1.trans o2 (fun _ _ hx => hx), by rw [s2.out, s1.out]⟩
end Go.Proofs.Ytnjobnccknpaeaa.Arena
