/-
  The walk of the law HashNames.
-/
import Derived.Test.YtbcohjddnelldaaDoorPoints
import Derived.Lib.SlBytesConst
namespace Go.Proofs.YtbcohjddnelldaaDoor.Pts
open Go.RowKit Base Tail Digits HashPlain HashW
set_option linter.unusedVariables false

theorem numC (n : Int) (h1 : -9223372036854775808 ≤ n ∧ n < 9223372036854775808) (w : World) : Calls Tryd.prog 8 #[.int .i64 n] w fun e w' => e = .returned (.int .i64 n) ∧ w = w' := by
  obtain ⟨h1, h2⟩ := h1
  go_enter Tryd.func8, Tryd.ntmps8
  go_wp2
  go_ret
  exact ⟨rfl, rfl⟩
theorem sum_none : sumB Begin [] = 14695981039346656037 := by rw [sumB_nil]; rfl
theorem sum_foobar : sumB Begin [102, 111, 111, 98, 97, 114] = 9625390261332436968 := by
  rw [sumB_cons, sumB_cons, sumB_cons, sumB_cons, sumB_cons, sumB_one, onN_eq, onN_eq, onN_eq, onN_eq, onN_eq, onN_eq]
  decide +kernel
theorem mix_zero : mixN 0 = 0 := by decide

theorem bytes_const (w : World) (fz : Nat × Nat) (l : List UInt8) (cs : Array Value) (hcs : cs = (l.map bv).toArray) : Bytes (w.alloc (.cells cs 5 fz)) (w.heap.size + 1) (some ⟨w.heap.size, 0, none⟩) l := by
  subst hcs
  intro _
  refine ⟨_, _, rfl, by omega, fun j v hv => ?_⟩
  rw [Nat.zero_add, cell_of_row (w.alloc _) w.heap.size j _ 5 fz (heap_alloc_new w _)]
  simpa using hv

set_option maxRecDepth 100000 in
set_option maxHeartbeats 3200000 in
theorem namesC (w : World) (ht : Tab w) : Calls Tryd.prog 4 #[] w fun e w' => e = .returned (.bool true) ∧ Below w.heap.size w w' := by
  have kc := fun (w : World) (C : Array Value) (n c : Nat) => Lib.run_convert_bytes_const (P := Tryd.prog) w 38 5 C n c Tryd.underlying38 Tryd.underlying5
  have P0 := Lib.hid (pointsNo w [] 1 (by unfold maxLen; simp) (by omega) (by simp))
  have P1 := Lib.hid (pointsNo w [115] 513 (by unfold maxLen; simp) (by omega) (by omega))
  have P2 := Lib.hid (pointsYes w [115] 512 (by simp) (by omega) ht)
  have N0 := Lib.hid (numC 0 (by omega))
  have N1 := Lib.hid (numC 1 (by omega))
  have M0 : ∀ w, Calls Tryd.prog 12 #[.int .u64 0] w fun e w' => e = .returned (.int .u64 0) ∧ w = w' := fun w => by
    have := mixC 0 (by decide) w
    rw [mix_zero] at this
    exact this
  replace M0 := Lib.hid M0
  have hf := Lib.hid sum_foobar
  clear ht
  go_enter Tryd.func4, Tryd.ntmps4
  go_wp2_with fail
  refine P0.out.mono ?_
  rintro e w' ⟨rfl, rfl⟩
  go_wp2_with fail
  refine P1.out.mono ?_
  rintro e w' ⟨rfl, rfl⟩
  go_wp2_with fail
  refine P2.out.mono ?_
  rintro e w1 ⟨rfl, -, b1⟩
  have S0 := sumC none 0 w1.heap.size [] w1 (Row.nil_ _ _ _) (by unfold maxLen; simp)
  rw [sum_none] at S0
  replace S0 := Lib.hid S0
  clear P0 P1 P2
  go_wp2_with fail
  refine S0.out.mono ?_
  rintro e w' ⟨rfl, rfl⟩
  go_wp2_with fail
  have bb := bytes_const w1 (6, 7) [102, 111, 111, 98, 97, 114] #[.int .u8 102, .int .u8 111, .int .u8 111, .int .u8 98, .int .u8 97, .int .u8 114] (by rfl)
  have b2 : Below w.heap.size w (w1.alloc (.cells #[.int .u8 102, .int .u8 111, .int .u8 111, .int .u8 98, .int .u8 97, .int .u8 114] 5 (6, 7))) := b1.alloc (Nat.le_trans (Nat.le_refl _) b1.size) _
  have S1 := sumC (some ⟨w1.heap.size, 0, none⟩) 6 _ _ _ bb (by unfold maxLen; simp)
  rw [hf.out] at S1
  replace S1 := Lib.hid S1
  clear bb
  generalize w1.alloc (.cells #[.int .u8 102, .int .u8 111, .int .u8 111, .int .u8 98, .int .u8 97, .int .u8 114] 5 (6, 7)) = w2 at *
  refine S1.out.mono ?_
  rintro e w' ⟨rfl, rfl⟩
  go_wp2_with fail
  refine (M0.out _).mono ?_
  rintro e w' ⟨rfl, rfl⟩
  go_wp2_with fail
  refine (N1.out _).mono ?_
  rintro e w' ⟨rfl, rfl⟩
  go_wp2_with fail
  refine (N1.out _).mono ?_
  rintro e w' ⟨rfl, rfl⟩
  go_wp2_with fail
  refine (N0.out _).mono ?_
  rintro e w' ⟨rfl, rfl⟩
  go_wp2
  go_ret
  exact ⟨rfl, b2⟩
end Go.Proofs.YtbcohjddnelldaaDoor.Pts
