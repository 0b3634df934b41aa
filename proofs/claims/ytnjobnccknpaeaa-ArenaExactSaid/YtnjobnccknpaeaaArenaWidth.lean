/-
  The walks of width, for each type of number: how many bytes it has. (printed by a small program of mine: one text for each instance)
-/
import Derived.Test.YtnjobnccknpaeaaArenaOps2
namespace Go.Proofs.Ytnjobnccknpaeaa.Arena
open Go.RowKit Base
set_option linter.unusedVariables false

set_option maxRecDepth 100000 in
theorem width_tiny (w : World) : Calls Try.prog 74 #[] w fun e w' => e = .returned (.int .i64 1) ∧ w = w' := by
  go_enter Try.func74, Try.ntmps74
  go_wp2
  go_rounds 2
  go_ret
  exact ⟨rfl, rfl⟩
set_option maxRecDepth 100000 in
theorem width_u8 (w : World) : Calls Try.prog 75 #[] w fun e w' => e = .returned (.int .i64 1) ∧ w = w' := by
  go_enter Try.func75, Try.ntmps75
  go_wp2
  go_rounds 2
  go_ret
  exact ⟨rfl, rfl⟩
set_option maxRecDepth 100000 in
theorem width_half (w : World) : Calls Try.prog 76 #[] w fun e w' => e = .returned (.int .i64 2) ∧ w = w' := by
  go_enter Try.func76, Try.ntmps76
  go_wp2
  go_rounds 3
  go_ret
  exact ⟨rfl, rfl⟩
set_option maxRecDepth 100000 in
theorem width_u16 (w : World) : Calls Try.prog 77 #[] w fun e w' => e = .returned (.int .i64 2) ∧ w = w' := by
  go_enter Try.func77, Try.ntmps77
  go_wp2
  go_rounds 3
  go_ret
  exact ⟨rfl, rfl⟩
set_option maxRecDepth 100000 in
theorem width_word (w : World) : Calls Try.prog 78 #[] w fun e w' => e = .returned (.int .i64 4) ∧ w = w' := by
  go_enter Try.func78, Try.ntmps78
  go_wp2
  go_rounds 5
  go_ret
  exact ⟨rfl, rfl⟩
set_option maxRecDepth 100000 in
theorem width_u32 (w : World) : Calls Try.prog 79 #[] w fun e w' => e = .returned (.int .i64 4) ∧ w = w' := by
  go_enter Try.func79, Try.ntmps79
  go_wp2
  go_rounds 5
  go_ret
  exact ⟨rfl, rfl⟩
set_option maxRecDepth 100000 in
theorem width_long (w : World) : Calls Try.prog 80 #[] w fun e w' => e = .returned (.int .i64 8) ∧ w = w' := by
  go_enter Try.func80, Try.ntmps80
  go_wp2
  go_rounds 9
  go_ret
  exact ⟨rfl, rfl⟩
set_option maxRecDepth 100000 in
theorem width_u64 (w : World) : Calls Try.prog 81 #[] w fun e w' => e = .returned (.int .i64 8) ∧ w = w' := by
  go_enter Try.func81, Try.ntmps81
  go_wp2
  go_rounds 9
  go_ret
  exact ⟨rfl, rfl⟩
end Go.Proofs.Ytnjobnccknpaeaa.Arena
