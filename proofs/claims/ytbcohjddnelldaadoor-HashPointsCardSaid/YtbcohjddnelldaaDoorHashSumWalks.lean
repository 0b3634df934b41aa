/-
  Walks of hash.Sum and of the law's own sum 'on': what each computes of a slice of bytes; the world is left alone.
-/
import Derived.Test.YtbcohjddnelldaaDoorRows
import Derived.Test.YtbcohjddnelldaaDoorBase
import Derived.Test.YtbcohjddnelldaaDoorHashRefPlain
namespace Go.Proofs.YtbcohjddnelldaaDoor.HashW
open Go.RowKit HashPlain Base

noncomputable def sumB (h : Nat) (l : List UInt8) : Nat := sumN h (l.map UInt8.toNat)
theorem sumB_nil (h : Nat) : sumB h [] = h := rfl
theorem sumB_append (h : Nat) (l r : List UInt8) : sumB h (l ++ r) = sumB (sumB h l) r := by simp [sumB, sumN, List.foldl_append]
theorem sumB_one (h : Nat) (x : UInt8) : sumB h [x] = onN h x.toNat := by simp only [sumB, sumN, List.map_cons, List.map_nil, List.foldl_cons, List.foldl_nil]
theorem sumB_cons (h : Nat) (x : UInt8) (r : List UInt8) : sumB h (x :: r) = sumB (onN h x.toNat) r := by simp only [sumB, sumN, List.map_cons, List.foldl_cons]
theorem sumB_take (h : Nat) (l : List UInt8) (k : Nat) (hk : k < l.length) : sumB h (l.take (k + 1)) = onN (sumB h (l.take k)) (l[k]).toNat := by
  rw [List.take_succ_eq_append_getElem hk, sumB_append, sumB_one]
theorem onN_lt (h b : Nat) : onN h b < M64 := by rw [onN_eq]; exact Nat.mod_lt _ (by decide)
theorem sumB_lt (h : Nat) (l : List UInt8) (hh : h < M64) : sumB h l < M64 := by
  induction l generalizing h with
  | nil => exact hh
  | cons b r ih => rw [sumB_cons]; exact ih _ (onN_lt _ _)
theorem on_ev (h b : Nat) (hh : h < M64) (hb : b < 256) : IntKind.u64.wrap (bits .xor .u64 (h : Int) (b : Int) * 1099511628211) = ((onN h b : Nat) : Int) := by
  rw [bits_xor_u64_nat h b hh (by omega), IntKind.wrap_u64, onN_eq, Int.natCast_emod, Int.natCast_mul]; rfl

theorem sumC (A : Option Addr) (c B : Nat) (l : List UInt8) (w : World) (hB : Bytes w B A l) (hl : l.length ≤ maxLen) : Calls Tryd.prog 11 #[.slice A l.length c] w fun e w' => e = .returned (.int .u64 ((sumB Begin l : Nat) : Int)) ∧ w = w' := by
  unfold maxLen at hl
  go_enter Tryd.func11, Tryd.ntmps11
  go_wp2
  go_loop [3, 8] (fun h i => ∃ k : Nat, k ≤ l.length ∧ i = .int .i64 k ∧ h = .int .u64 ((sumB Begin (l.take k) : Nat) : Int)) (fun _ i => l.length - (intOf i).toNat)
  case atStart => exact ⟨0, Nat.zero_le _, rfl, rfl⟩
  case round =>
    obtain ⟨k, hk, rfl, rfl⟩ := hrel
    by_cases hlt : k < l.length
    · obtain ⟨bb, off, rfl, hb, hc⟩ := hB.at_ k hlt
      have hs := Lib.hid (sumB_take Begin l k hlt)
      have hm := sumB_lt Begin (l.take k) (by decide)
      have hx := byte_lt l[k]
      have he := on_ev _ _ hm hx
      unfold M64 at hm
      generalize sumB Begin (l.take k) = s at *
      generalize l[k].toNat = x at *
      go_wp2
      go_round
      case rel => exact ⟨k + 1, by omega, by go_num, by rw [hs.out]⟩
      case measure => simp [intOf]; omega
    · obtain rfl : k = l.length := by omega
      go_wp2
      go_ret
      exact ⟨rfl, rfl⟩

theorem lawOnC (h : Nat) (hh : h < M64) (A : Option Addr) (c B : Nat) (l : List UInt8) (w : World) (hB : Bytes w B A l) (hl : l.length ≤ maxLen) :
    Calls Tryd.prog 13 #[.int .u64 (h : Int), .slice A l.length c] w fun e w' => e = .returned (.int .u64 ((sumB h l : Nat) : Int)) ∧ w = w' := by
  unfold maxLen at hl
  go_enter Tryd.func13, Tryd.ntmps13
  go_wp2
  go_loop [0, 5] (fun h' i => ∃ k : Nat, k ≤ l.length ∧ i = .int .i64 k ∧ h' = .int .u64 ((sumB h (l.take k) : Nat) : Int)) (fun _ i => l.length - (intOf i).toNat)
  case atStart => exact ⟨0, Nat.zero_le _, rfl, rfl⟩
  case round =>
    obtain ⟨k, hk, rfl, rfl⟩ := hrel
    by_cases hlt : k < l.length
    · obtain ⟨bb, off, rfl, hb, hc⟩ := hB.at_ k hlt
      have hs := Lib.hid (sumB_take h l k hlt)
      have hm := sumB_lt h (l.take k) hh
      have hx := byte_lt l[k]
      have he := on_ev _ _ hm hx
      unfold M64 at hm
      generalize sumB h (l.take k) = s at *
      generalize l[k].toNat = x at *
      go_wp2
      go_round
      case rel => exact ⟨k + 1, by omega, by go_num, by rw [hs.out]⟩
      case measure => simp [intOf]; omega
    · obtain rfl : k = l.length := by omega
      go_wp2
      go_ret
      exact ⟨rfl, rfl⟩
end Go.Proofs.YtbcohjddnelldaaDoor.HashW
