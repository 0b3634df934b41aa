/-
  Walks of hash.Mix, hash.Point, hash.Slot: what each computes; the world is left alone.
-/
import Derived.Test.YtbcohjddnelldaaDoorRows
import Derived.Test.YtbcohjddnelldaaDoorHashPlain
import Derived.WalkKit
import Derived.Lib.Hide
namespace Go.Proofs.YtbcohjddnelldaaDoor.HashW
open Go.RowKit HashPlain

theorem ret_int {k : IntKind} {a b : Int} (h : a = b) : Ending.returned (.int k a) = .returned (.int k b) := by rw [h]

theorem mix_ev (h : Nat) (hh : h < M64) :
    bits .xor .u64 (IntKind.u64.wrap (bits .xor .u64 (IntKind.u64.wrap (bits .xor .u64 (h : Int) ((h : Int) / 1073741824) * 13787848793156543929))
      (IntKind.u64.wrap (bits .xor .u64 (h : Int) ((h : Int) / 1073741824) * 13787848793156543929) / 134217728) * 10723151780598845931))
      (IntKind.u64.wrap (bits .xor .u64 (IntKind.u64.wrap (bits .xor .u64 (h : Int) ((h : Int) / 1073741824) * 13787848793156543929))
      (IntKind.u64.wrap (bits .xor .u64 (h : Int) ((h : Int) / 1073741824) * 13787848793156543929) / 134217728) * 10723151780598845931) / 2147483648) = ((mixN h : Nat) : Int) := by
  have e1 : IntKind.u64.wrap (bits .xor .u64 (h : Int) ((h : Int) / 1073741824) * 13787848793156543929) = ((xs 30 h * K1 % M64 : Nat) : Int) := mixStep_u64 h 1073741824 13787848793156543929 hh
  rw [e1]
  have l1 : xs 30 h * K1 % M64 < M64 := Nat.mod_lt _ (by decide)
  unfold mixN
  generalize xs 30 h * K1 % M64 = a at l1 ⊢
  have e2 : IntKind.u64.wrap (bits .xor .u64 (a : Int) ((a : Int) / 134217728) * 10723151780598845931) = ((xs 27 a * K2 % M64 : Nat) : Int) := mixStep_u64 a 134217728 10723151780598845931 l1
  rw [e2]
  have l2 : xs 27 a * K2 % M64 < M64 := Nat.mod_lt _ (by decide)
  generalize xs 27 a * K2 % M64 = b at l2 ⊢
  exact xorShift_u64 b 2147483648 l2

theorem mixC (h : Nat) (hh : h < M64) (w : World) : Calls Tryd.prog 12 #[.int .u64 (h : Int)] w fun e w' => e = .returned (.int .u64 ((mixN h : Nat) : Int)) ∧ w = w' := by
  have h0 := mix_ev h hh
  have h1 : h < 18446744073709551616 := hh
  go_enter Tryd.func12, Tryd.ntmps12
  go_wp2
  go_ret
  exact ⟨ret_int rfl, rfl⟩

theorem pointC (h : Nat) (hh : h < M64) (w : World) : Calls Tryd.prog 10 #[.int .u64 (h : Int)] w fun e w' => e = .returned (.int .u32 ((pointN h : Nat) : Int)) ∧ w = w' := by
  have hm := mixN_lt h
  unfold M64 at hm
  go_enter Tryd.func10, Tryd.ntmps10
  go_wp2_with fail
  refine (mixC h hh _).mono ?_
  rintro e w' ⟨rfl, rfl⟩
  go_wp2
  go_ret
  exact ⟨ret_int rfl, rfl⟩

end Go.Proofs.YtbcohjddnelldaaDoor.HashW
