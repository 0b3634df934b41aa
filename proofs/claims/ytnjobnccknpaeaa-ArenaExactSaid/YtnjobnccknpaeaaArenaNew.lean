/-
  The walk of arena.New, for sizes that are right: a new arena of zeros.
-/
import Derived.Test.YtnjobnccknpaeaaArenaOnes
namespace Go.Proofs.Ytnjobnccknpaeaa.Arena
open Go.RowKit Base
set_option linter.unusedVariables false

set_option maxRecDepth 100000 in
theorem newYes (w : World) (p n : Nat) (hp : RightPage p) (h1 : 1 ≤ n) (h2 : n ≤ 1024) :
    Calls Try.prog 9 #[.int .i64 (p : Int), .int .i64 (n : Int)] w fun e w' =>
      e = .returned (.tuple #[.pointer (some ⟨w.heap.size + 1, 0, none⟩), .int .i64 0]) ∧ At w' (w.heap.size + 1) w.heap.size p (List.replicate (p * n) 0) ∧ Below w.heap.size w w' ∧ w'.heap.size = w.heap.size + 2 := by
  have C := Lib.hid (onesC p hp w)
  have hb := hp.bd
  have hpn : p * n ≤ 1073741824 := by
    have := Nat.mul_le_mul hb.2 h2
    omega
  have hmk : ∀ w : World, (Instr.makeSlice 38 (.int .i64 ((p : Int) * (n : Int))) (.int .i64 ((p : Int) * (n : Int)))).run Try.prog w = .ok (.slice (some ⟨w.heap.size, 0, none⟩) (p * n) (p * n)) (w.alloc (.cells (madeCells (Value.int .u8 0).cells (p * n * 1)) 5)) := by
    intro w
    have := EI.make eiBytes .i64 .i64 (p * n) (p * n) (by omega) (by omega) (by omega) w
    rw [Int.natCast_mul] at this
    exact this
  have hm := bb_made w (p * n)
  have hbel : Below w.heap.size w (w.alloc (.cells (madeCells (Value.int .u8 0).cells (p * n * 1)) 5)) := (Below.refl _ _).alloc (Nat.le_refl _) _
  have hsz := Lib.hid (World.size_alloc w (.cells (madeCells (Value.int .u8 0).cells (p * n * 1)) 5))
  have hlt := Lib.hid hm.lt
  have hq : ((p : Int) * (n : Int)) ≤ 1073741824 := by rw [← Int.natCast_mul]; omega
  have hq0 : 0 ≤ ((p : Int) * (n : Int)) := by rw [← Int.natCast_mul]; omega
  have hat : At ((w.alloc (.cells (madeCells (Value.int .u8 0).cells (p * n * 1)) 5)).alloc (.cells #[.int .i64 (p : Int), .slice (some ⟨w.heap.size, 0, none⟩) (p * n) (p * n)] 74)) (w.heap.size + 1) w.heap.size p (List.replicate (p * n) 0) := by
    refine ⟨?_, ?_, by omega, by simpa using hpn, by omega⟩
    · have := heap_alloc_new (w.alloc (.cells (madeCells (Value.int .u8 0).cells (p * n * 1)) 5)) (.cells #[.int .i64 (p : Int), .slice (some ⟨w.heap.size, 0, none⟩) (p * n) (p * n)] 74)
      rw [World.size_alloc] at this
      rw [this]
      simp
    · exact (Below.heap_alloc _ _ _ (by simp)).trans hm
  replace hat := Lib.hid hat
  generalize hO : Obj.cells (madeCells (Value.int .u8 0).cells (p * n * 1)) 5 = O at *
  clear hO hm
  go_enter Try.func9, Try.ntmps9
  go_wp2_with fail
  refine C.out.mono ?_
  rintro e w' ⟨rfl, rfl⟩
  go_wp2
  go_ret2
  exact ⟨rfl, hat.out, hbel.alloc (by rw [hsz.out]; exact Nat.le_succ _) _, by rw [World.size_alloc, hsz.out]⟩
end Go.Proofs.Ytnjobnccknpaeaa.Arena
