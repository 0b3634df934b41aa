/-
  The walks of the helpers Within, widthOf, least.
-/
import Derived.Test.YtnjobnccknpaeaaArenaGetD
namespace Go.Proofs.Ytnjobnccknpaeaa.Arena
open Go.RowKit Base
set_option linter.unusedVariables false

theorem tmod_emod' (i n : Int) : i.tmod n % n = i % n := by
  have h := Int.tmod_add_mul_tdiv i n
  conv => rhs; rw [← h]
  rw [Int.add_mul_emod_self_left]
theorem withinC (i : Int) (n : Nat) (hi : inI64 i) (hn : 1 ≤ n) (hn2 : n ≤ 1073741824) (w : World) :
    Calls Try.prog 12 #[.int .i64 i, .int .i64 (n : Int)] w fun e w' => e = .returned (.int .i64 (i % (n : Int))) ∧ w = w' := by
  obtain ⟨h1, h2⟩ := hi
  have t1 := Int.tmod_lt_of_pos i (show 0 < (n : Int) by omega)
  have t2 := Int.lt_tmod_of_pos i (show 0 < (n : Int) by omega)
  have t3 := Int.emod_nonneg (i.tmod n) (show (n : Int) ≠ 0 by omega)
  have t4 := Int.emod_lt_of_pos (i.tmod n) (show 0 < (n : Int) by omega)
  have he := Lib.hid (show (i.tmod n + n) % n = i % n by have := Int.add_mul_emod_self_left (i.tmod n) n 1; rw [Int.mul_one] at this; rw [this]; exact tmod_emod' i n)
  have hz : (n : Int) ≠ 0 := by omega
  go_enter Try.func12, Try.ntmps12
  go_wp2
  go_ret
  exact ⟨by rw [← he.out]; rfl, rfl⟩

theorem and3 (n : Int) : bits .and .i64 n 3 = n % 4 := by
  show IntKind.i64.wrap ((BitVec.ofInt 64 n &&& BitVec.ofInt 64 3).toNat : Int) = _
  rw [BitVec.toNat_and, show (BitVec.ofInt 64 3).toNat = 2 ^ 2 - 1 from rfl, Nat.and_two_pow_sub_one_eq_mod, BitVec.toNat_ofInt, IntKind.wrap_i64]
  omega
def widthN (n : Int) : Nat := if n % 4 = 0 then 1 else if n % 4 = 1 then 2 else if n % 4 = 2 then 4 else 8
theorem widthN_wide (n : Int) : Wide (widthN n) := by
  unfold widthN Wide
  split
  · omega
  · split
    · omega
    · split <;> omega
theorem widthOfC (n : Int) (hn : inI64 n) (w : World) : Calls Try.prog 11 #[.int .i64 n] w fun e w' => e = .returned (.int .i64 (widthN n : Int)) ∧ w = w' := by
  have ha := and3 n
  have h4 : n % 4 = 0 ∨ n % 4 = 1 ∨ n % 4 = 2 ∨ n % 4 = 3 := by omega
  rcases h4 with h | h | h | h
  · have hw := Lib.hid (show widthN n = 1 by simp [widthN, h])
    rw [h] at ha
    clear h
    go_enter Try.func11, Try.ntmps11
    go_wp2
    go_ret
    exact ⟨by rw [hw.out]; rfl, rfl⟩
  · have hw := Lib.hid (show widthN n = 2 by simp [widthN, h])
    rw [h] at ha
    clear h
    go_enter Try.func11, Try.ntmps11
    go_wp2
    go_ret
    exact ⟨by rw [hw.out]; rfl, rfl⟩
  · have hw := Lib.hid (show widthN n = 4 by simp [widthN, h])
    rw [h] at ha
    clear h
    go_enter Try.func11, Try.ntmps11
    go_wp2
    go_ret
    exact ⟨by rw [hw.out]; rfl, rfl⟩
  · have hw := Lib.hid (show widthN n = 8 by simp [widthN, h])
    rw [h] at ha
    clear h
    go_enter Try.func11, Try.ntmps11
    go_wp2
    go_ret
    exact ⟨by rw [hw.out]; rfl, rfl⟩
end Go.Proofs.Ytnjobnccknpaeaa.Arena
