/-
  Walks of hash.Mix, hash.Point, hash.Slot: what each computes; the world is left alone.
-/
import Derived.Test.YtbcohjddnelldaaRows
import Derived.Test.YtbcohjddnelldaaHashPlain
import Derived.WalkKit
import Derived.Lib.Hide
namespace Go.Proofs.Ytbcohjddnelldaa.HashW
open Go.RowKit HashPlain

theorem ret_int {k : IntKind} {a b : Int} (h : a = b) : Ending.returned (.int k a) = .returned (.int k b) := by rw [h]

theorem mix_ev (h : Nat) (hh : h < M64) :
    bits .xor .u64 (IntKind.u64.wrap (bits .xor .u64 (IntKind.u64.wrap (bits .xor .u64 (h : Int) ((h : Int) / 1073741824) * 13787848793156543929))
      (IntKind.u64.wrap (bits .xor .u64 (h : Int) ((h : Int) / 1073741824) * 13787848793156543929) / 134217728) * 10723151780598845931))
      (IntKind.u64.wrap (bits .xor .u64 (IntKind.u64.wrap (bits .xor .u64 (h : Int) ((h : Int) / 1073741824) * 13787848793156543929))
      (IntKind.u64.wrap (bits .xor .u64 (h : Int) ((h : Int) / 1073741824) * 13787848793156543929) / 134217728) * 10723151780598845931) / 2147483648) = ((mixN h : Nat) : Int) := by
  have e1 : IntKind.u64.wrap (bits .xor .u64 (h : Int) ((h : Int) / 1073741824) * 13787848793156543929) = ((xs 30 h * K1 % M64 : Nat) : Int) := mixStep_u64 h 1073741824 13787848793156543929 hh
  rw [e1]
  have l1 : xs 30 h * K1 % M64 < M64 := Nat.mod_lt _ (by decide)
  unfold mixN
  generalize xs 30 h * K1 % M64 = a at l1 ⊢
  have e2 : IntKind.u64.wrap (bits .xor .u64 (a : Int) ((a : Int) / 134217728) * 10723151780598845931) = ((xs 27 a * K2 % M64 : Nat) : Int) := mixStep_u64 a 134217728 10723151780598845931 l1
  rw [e2]
  have l2 : xs 27 a * K2 % M64 < M64 := Nat.mod_lt _ (by decide)
  generalize xs 27 a * K2 % M64 = b at l2 ⊢
  exact xorShift_u64 b 2147483648 l2

theorem mixC (h : Nat) (hh : h < M64) (w : World) : Calls Try.prog 12 #[.int .u64 (h : Int)] w fun e w' => e = .returned (.int .u64 ((mixN h : Nat) : Int)) ∧ w = w' := by
  have h0 := mix_ev h hh
  have h1 : h < 18446744073709551616 := hh
  go_enter Try.func12, Try.ntmps12
  go_wp2
  go_ret
  exact ⟨ret_int rfl, rfl⟩

theorem pointC (h : Nat) (hh : h < M64) (w : World) : Calls Try.prog 16 #[.int .u64 (h : Int)] w fun e w' => e = .returned (.int .u32 ((pointN h : Nat) : Int)) ∧ w = w' := by
  have hm := mixN_lt h
  unfold M64 at hm
  go_enter Try.func16, Try.ntmps16
  go_wp2_with fail
  refine (mixC h hh _).mono ?_
  rintro e w' ⟨rfl, rfl⟩
  go_wp2
  go_ret
  exact ⟨ret_int rfl, rfl⟩

theorem slotC (h : Nat) (n : Int) (hh : h < M64) (hn : -9223372036854775808 ≤ n ∧ n < 9223372036854775808) (w : World) :
    Calls Try.prog 14 #[.int .u64 (h : Int), .int .i64 n] w fun e w' => e = .returned (.int .i64 (slotN h n)) ∧ w = w' := by
  have hm := mixN_lt h
  unfold M64 at hm
  by_cases h2 : n < 2
  · have H := Lib.hid (show slotN h n = 0 by simp [slotN, h2])
    go_enter Try.func14, Try.ntmps14
    go_wp2
    go_ret
    exact ⟨ret_int (H.out.symm), rfl⟩
  · obtain ⟨k, rfl⟩ := Int.eq_ofNat_of_zero_le (show 0 ≤ n by omega)
    have H := Lib.hid (show slotN h k = ((mixN h % k : Nat) : Int) by simp [slotN, h2])
    go_enter Try.func14, Try.ntmps14
    go_wp2_with fail
    refine (mixC h hh _).mono ?_
    rintro e w' ⟨rfl, rfl⟩
    go_wp2
    go_ret
    refine ⟨ret_int ?_, rfl⟩
    rw [H.out, ← Int.natCast_emod]
    have hl : mixN h % k ≤ mixN h := Nat.mod_le _ _
    have hk : mixN h % k < k := Nat.mod_lt _ (by omega)
    exact IntWalk.wrap64_in _ (by omega)
end Go.Proofs.Ytbcohjddnelldaa.HashW
