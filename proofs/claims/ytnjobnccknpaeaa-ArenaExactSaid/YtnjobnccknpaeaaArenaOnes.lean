/-
  The walks of math/bits.OnesCount64 and OnesCount at the nine page sizes that are right (printed by a small program of mine).
-/
import Derived.Test.YtnjobnccknpaeaaArenaOps
namespace Go.Proofs.Ytnjobnccknpaeaa.Arena
open Go.RowKit Base
set_option linter.unusedVariables false

set_option maxRecDepth 100000 in
theorem ones0 (w : World) : Calls Try.prog 73 #[.int .u64 4096] w fun e w' => e = .returned (.int .i64 1) ∧ w = w' := by
  have b0 : bits .and .u64 2048 6148914691236517205 = 0 := by kernel_rfl
  have b1 : bits .and .u64 4096 6148914691236517205 = 4096 := by kernel_rfl
  have b2 : bits .and .u64 1024 3689348814741910323 = 0 := by kernel_rfl
  have b3 : bits .and .u64 4096 3689348814741910323 = 4096 := by kernel_rfl
  have b4 : bits .and .u64 4352 1085102592571150095 = 256 := by kernel_rfl
  have b5 : bits .and .i64 257 127 = 1 := by kernel_rfl
  go_enter Try.func73, Try.ntmps73
  go_wp2
  go_ret
  exact ⟨rfl, rfl⟩
set_option maxRecDepth 100000 in
theorem ones1 (w : World) : Calls Try.prog 73 #[.int .u64 8192] w fun e w' => e = .returned (.int .i64 1) ∧ w = w' := by
  have b0 : bits .and .u64 4096 6148914691236517205 = 4096 := by kernel_rfl
  have b1 : bits .and .u64 8192 6148914691236517205 = 0 := by kernel_rfl
  have b2 : bits .and .u64 1024 3689348814741910323 = 0 := by kernel_rfl
  have b3 : bits .and .u64 4096 3689348814741910323 = 4096 := by kernel_rfl
  have b4 : bits .and .u64 4352 1085102592571150095 = 256 := by kernel_rfl
  have b5 : bits .and .i64 257 127 = 1 := by kernel_rfl
  go_enter Try.func73, Try.ntmps73
  go_wp2
  go_ret
  exact ⟨rfl, rfl⟩
set_option maxRecDepth 100000 in
theorem ones2 (w : World) : Calls Try.prog 73 #[.int .u64 16384] w fun e w' => e = .returned (.int .i64 1) ∧ w = w' := by
  have b0 : bits .and .u64 8192 6148914691236517205 = 0 := by kernel_rfl
  have b1 : bits .and .u64 16384 6148914691236517205 = 16384 := by kernel_rfl
  have b2 : bits .and .u64 4096 3689348814741910323 = 4096 := by kernel_rfl
  have b3 : bits .and .u64 16384 3689348814741910323 = 0 := by kernel_rfl
  have b4 : bits .and .u64 4352 1085102592571150095 = 256 := by kernel_rfl
  have b5 : bits .and .i64 257 127 = 1 := by kernel_rfl
  go_enter Try.func73, Try.ntmps73
  go_wp2
  go_ret
  exact ⟨rfl, rfl⟩
set_option maxRecDepth 100000 in
theorem ones3 (w : World) : Calls Try.prog 73 #[.int .u64 32768] w fun e w' => e = .returned (.int .i64 1) ∧ w = w' := by
  have b0 : bits .and .u64 16384 6148914691236517205 = 16384 := by kernel_rfl
  have b1 : bits .and .u64 32768 6148914691236517205 = 0 := by kernel_rfl
  have b2 : bits .and .u64 4096 3689348814741910323 = 4096 := by kernel_rfl
  have b3 : bits .and .u64 16384 3689348814741910323 = 0 := by kernel_rfl
  have b4 : bits .and .u64 4352 1085102592571150095 = 256 := by kernel_rfl
  have b5 : bits .and .i64 257 127 = 1 := by kernel_rfl
  go_enter Try.func73, Try.ntmps73
  go_wp2
  go_ret
  exact ⟨rfl, rfl⟩
set_option maxRecDepth 100000 in
theorem ones4 (w : World) : Calls Try.prog 73 #[.int .u64 65536] w fun e w' => e = .returned (.int .i64 1) ∧ w = w' := by
  have b0 : bits .and .u64 32768 6148914691236517205 = 0 := by kernel_rfl
  have b1 : bits .and .u64 65536 6148914691236517205 = 65536 := by kernel_rfl
  have b2 : bits .and .u64 16384 3689348814741910323 = 0 := by kernel_rfl
  have b3 : bits .and .u64 65536 3689348814741910323 = 65536 := by kernel_rfl
  have b4 : bits .and .u64 69632 1085102592571150095 = 65536 := by kernel_rfl
  have b5 : bits .and .i64 65793 127 = 1 := by kernel_rfl
  go_enter Try.func73, Try.ntmps73
  go_wp2
  go_ret
  exact ⟨rfl, rfl⟩
set_option maxRecDepth 100000 in
theorem ones5 (w : World) : Calls Try.prog 73 #[.int .u64 131072] w fun e w' => e = .returned (.int .i64 1) ∧ w = w' := by
  have b0 : bits .and .u64 65536 6148914691236517205 = 65536 := by kernel_rfl
  have b1 : bits .and .u64 131072 6148914691236517205 = 0 := by kernel_rfl
  have b2 : bits .and .u64 16384 3689348814741910323 = 0 := by kernel_rfl
  have b3 : bits .and .u64 65536 3689348814741910323 = 65536 := by kernel_rfl
  have b4 : bits .and .u64 69632 1085102592571150095 = 65536 := by kernel_rfl
  have b5 : bits .and .i64 65793 127 = 1 := by kernel_rfl
  go_enter Try.func73, Try.ntmps73
  go_wp2
  go_ret
  exact ⟨rfl, rfl⟩
set_option maxRecDepth 100000 in
theorem ones6 (w : World) : Calls Try.prog 73 #[.int .u64 262144] w fun e w' => e = .returned (.int .i64 1) ∧ w = w' := by
  have b0 : bits .and .u64 131072 6148914691236517205 = 0 := by kernel_rfl
  have b1 : bits .and .u64 262144 6148914691236517205 = 262144 := by kernel_rfl
  have b2 : bits .and .u64 65536 3689348814741910323 = 65536 := by kernel_rfl
  have b3 : bits .and .u64 262144 3689348814741910323 = 0 := by kernel_rfl
  have b4 : bits .and .u64 69632 1085102592571150095 = 65536 := by kernel_rfl
  have b5 : bits .and .i64 65793 127 = 1 := by kernel_rfl
  go_enter Try.func73, Try.ntmps73
  go_wp2
  go_ret
  exact ⟨rfl, rfl⟩
set_option maxRecDepth 100000 in
theorem ones7 (w : World) : Calls Try.prog 73 #[.int .u64 524288] w fun e w' => e = .returned (.int .i64 1) ∧ w = w' := by
  have b0 : bits .and .u64 262144 6148914691236517205 = 262144 := by kernel_rfl
  have b1 : bits .and .u64 524288 6148914691236517205 = 0 := by kernel_rfl
  have b2 : bits .and .u64 65536 3689348814741910323 = 65536 := by kernel_rfl
  have b3 : bits .and .u64 262144 3689348814741910323 = 0 := by kernel_rfl
  have b4 : bits .and .u64 69632 1085102592571150095 = 65536 := by kernel_rfl
  have b5 : bits .and .i64 65793 127 = 1 := by kernel_rfl
  go_enter Try.func73, Try.ntmps73
  go_wp2
  go_ret
  exact ⟨rfl, rfl⟩
set_option maxRecDepth 100000 in
theorem ones8 (w : World) : Calls Try.prog 73 #[.int .u64 1048576] w fun e w' => e = .returned (.int .i64 1) ∧ w = w' := by
  have b0 : bits .and .u64 524288 6148914691236517205 = 0 := by kernel_rfl
  have b1 : bits .and .u64 1048576 6148914691236517205 = 1048576 := by kernel_rfl
  have b2 : bits .and .u64 262144 3689348814741910323 = 0 := by kernel_rfl
  have b3 : bits .and .u64 1048576 3689348814741910323 = 1048576 := by kernel_rfl
  have b4 : bits .and .u64 1114112 1085102592571150095 = 65536 := by kernel_rfl
  have b5 : bits .and .i64 65793 127 = 1 := by kernel_rfl
  go_enter Try.func73, Try.ntmps73
  go_wp2
  go_ret
  exact ⟨rfl, rfl⟩


/-- The page sizes that are right. -/
def RightPage (p : Nat) : Prop := p = 4096 ∨ p = 8192 ∨ p = 16384 ∨ p = 32768 ∨ p = 65536 ∨ p = 131072 ∨ p = 262144 ∨ p = 524288 ∨ p = 1048576
theorem ones64C (p : Nat) (hp : RightPage p) (w : World) : Calls Try.prog 73 #[.int .u64 (p : Int)] w fun e w' => e = .returned (.int .i64 1) ∧ w = w' := by
  rcases hp with rfl | rfl | rfl | rfl | rfl | rfl | rfl | rfl | rfl
  · exact ones0 w
  · exact ones1 w
  · exact ones2 w
  · exact ones3 w
  · exact ones4 w
  · exact ones5 w
  · exact ones6 w
  · exact ones7 w
  · exact ones8 w
theorem RightPage.bd {p : Nat} (h : RightPage p) : 4096 ≤ p ∧ p ≤ 1048576 := by unfold RightPage at h; omega
theorem onesC (p : Nat) (hp : RightPage p) (w : World) : Calls Try.prog 36 #[.int .u64 (p : Int)] w fun e w' => e = .returned (.int .i64 1) ∧ w = w' := by
  have C := Lib.hid (ones64C p hp w)
  have hb := hp.bd
  clear hp
  go_enter Try.func36, Try.ntmps36
  go_wp2_with fail
  refine C.out.mono ?_
  rintro e w' ⟨rfl, rfl⟩
  go_wp2
  go_ret
  exact ⟨rfl, rfl⟩
end Go.Proofs.Ytnjobnccknpaeaa.Arena
