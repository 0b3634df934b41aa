/-
  Plain laws of numbers laid as bytes, the highest first. No program in sight but the names.
-/
import Derived.Test.YtnjobnccknpaeaaArenaWidth
import Derived.Laws.BitsAllLaws
import Derived.Laws.Bits64b
namespace Go.Proofs.Ytnjobnccknpaeaa.Arena
open Go.RowKit Base
set_option linter.unusedVariables false

def beN (l : List UInt8) : Nat := l.foldl (fun n c => n * 256 + c.toNat) 0
theorem beN_snoc (l : List UInt8) (c : UInt8) : beN (l ++ [c]) = beN l * 256 + c.toNat := by simp [beN, List.foldl_append]
theorem beN_take (l : List UInt8) (k : Nat) (hk : k < l.length) : beN (l.take (k + 1)) = beN (l.take k) * 256 + (l[k]).toNat := by rw [List.take_succ_eq_append_getElem hk, beN_snoc]
theorem beN_take' (l : List UInt8) (k : Nat) (z : UInt8) (hk : l[k]? = some z) : beN (l.take (k + 1)) = beN (l.take k) * 256 + z.toNat := by
  obtain ⟨hl, rfl⟩ := List.getElem?_eq_some_iff.1 hk
  exact beN_take l k hl
theorem beN_lt (l : List UInt8) : beN l < 256 ^ l.length := by
  rw [← List.reverse_reverse l]
  induction l.reverse with
  | nil => decide
  | cons b r ih =>
    rw [List.reverse_cons, beN_snoc, List.length_append, List.length_singleton, Nat.pow_succ]
    have := b.toNat_lt
    omega
def putB : Nat → Nat → List UInt8
  | 0, _ => []
  | w + 1, n => putB w (n / 256) ++ [UInt8.ofNat n]
theorem putB_succ (w n : Nat) : putB (w + 1) n = putB w (n / 256) ++ [UInt8.ofNat n] := rfl
theorem putB_len (w : Nat) : ∀ n, (putB w n).length = w := by
  induction w with
  | zero => intro n; rfl
  | succ w ih => intro n; rw [putB_succ, List.length_append, ih]; rfl
theorem ofNat_toNat (n : Nat) : (UInt8.ofNat n).toNat = n % 256 := by rw [UInt8.toNat_ofNat']
theorem beN_putB (w : Nat) : ∀ n, beN (putB w n) = n % 256 ^ w := by
  induction w with
  | zero => intro n; simp [putB, beN, Nat.mod_one]
  | succ w ih =>
    intro n
    rw [putB_succ, beN_snoc, ih, ofNat_toNat, Nat.pow_succ, Nat.mul_comm (256 ^ w) 256, Nat.mod_mul]
    omega
theorem lay_cons (l : List UInt8) (p r : Nat) (done : List UInt8) (b : UInt8) (h : p + (r + 1) + done.length ≤ l.length) : (lay l (p + (r + 1)) done).set (p + r) b = lay l (p + r) (b :: done) := by
  simp only [lay, List.length_cons]
  rw [show p + (r + 1) = p + r + 1 by omega, List.take_succ_eq_append_getElem (show p + r < l.length by omega), List.append_assoc, List.append_assoc,
    List.set_append_right _ _ (by simp; omega), List.singleton_append]
  have e : p + r - (l.take (p + r)).length = 0 := by simp; omega
  rw [e, List.set_cons_zero, List.append_assoc, List.cons_append]
  congr 4
  omega
theorem step_mod (x c M : Nat) : (x % M * 256 + c) % M = (x * 256 + c) % M := by
  rw [Nat.add_mod, Nat.mul_mod, Nat.mod_mod, ← Nat.mul_mod, ← Nat.add_mod]

theorem or_low (q c : Nat) (hc : c < 256) : (q * 256) ||| c = q * 256 + c := by
  have := Nat.two_pow_add_eq_or_of_lt (i := 8) (b := c) hc q
  rw [Nat.mul_comm q 256]
  exact this.symm
theorem get_u8 (n c : Nat) (hn : n < 256) (hc : c < 256) : bits .or .u8 (IntKind.u8.wrap (IntKind.u8.wrap ((n : Int) * 128) * 2)) (c : Int) = (((n * 256 + c) % 256 : Nat) : Int) := by
  have e : IntKind.u8.wrap (IntKind.u8.wrap ((n : Int) * 128) * 2) = ((0 : Nat) : Int) := by rw [IntKind.wrap_u8', IntKind.wrap_u8']; omega
  rw [e, u8_or_nat 0 c (by decide) hc, Nat.zero_or]
  congr 1
  omega
theorem get_u16 (n c : Nat) (hn : n < 65536) (hc : c < 256) : bits .or .u16 (IntKind.u16.wrap (IntKind.u16.wrap ((n : Int) * 128) * 2)) (c : Int) = (((n * 256 + c) % 65536 : Nat) : Int) := by
  have e : IntKind.u16.wrap (IntKind.u16.wrap ((n : Int) * 128) * 2) = ((n % 256 * 256 : Nat) : Int) := by rw [IntKind.wrap_u16, IntKind.wrap_u16]; omega
  rw [e, u16_or_nat _ c (by omega) (by omega), or_low _ _ hc]
  congr 1
  omega
theorem get_u32 (n c : Nat) (hn : n < 4294967296) (hc : c < 256) : bits .or .u32 (IntKind.u32.wrap (IntKind.u32.wrap ((n : Int) * 128) * 2)) (c : Int) = (((n * 256 + c) % 4294967296 : Nat) : Int) := by
  have e : IntKind.u32.wrap (IntKind.u32.wrap ((n : Int) * 128) * 2) = ((n % 16777216 * 256 : Nat) : Int) := by rw [IntKind.wrap_u32', IntKind.wrap_u32']; omega
  rw [e, u32_or_nat _ c (by omega) (by omega), or_low _ _ hc]
  congr 1
  omega
theorem get_u64 (n c : Nat) (hn : n < 18446744073709551616) (hc : c < 256) : bits .or .u64 (IntKind.u64.wrap (IntKind.u64.wrap ((n : Int) * 128) * 2)) (c : Int) = (((n * 256 + c) % 18446744073709551616 : Nat) : Int) := by
  have e : IntKind.u64.wrap (IntKind.u64.wrap ((n : Int) * 128) * 2) = ((n % 72057594037927936 * 256 : Nat) : Int) := by rw [IntKind.wrap_u64, IntKind.wrap_u64]; omega
  rw [e, u64_or_nat _ c (by omega) (by omega), or_low _ _ hc]
  congr 1
  omega
theorem get_u8e (n c : Nat) (hn : n < 256) (hc : c < 256) : bits .or .u8 ((n : Int) * 128 % 256 * 2 % 256) (c : Int) = (((n * 256 + c) % 256 : Nat) : Int) := by
  have h := get_u8 n c hn hc
  rwa [IntKind.wrap_u8', IntKind.wrap_u8'] at h
theorem get_u16e (n c : Nat) (hn : n < 65536) (hc : c < 256) : bits .or .u16 ((n : Int) * 128 % 65536 * 2 % 65536) (c : Int) = (((n * 256 + c) % 65536 : Nat) : Int) := by
  have h := get_u16 n c hn hc
  rwa [IntKind.wrap_u16, IntKind.wrap_u16] at h
theorem get_u32e (n c : Nat) (hn : n < 4294967296) (hc : c < 256) : bits .or .u32 ((n : Int) * 128 % 4294967296 * 2 % 4294967296) (c : Int) = (((n * 256 + c) % 4294967296 : Nat) : Int) := by
  have h := get_u32 n c hn hc
  rwa [IntKind.wrap_u32', IntKind.wrap_u32'] at h
theorem get_u64e (n c : Nat) (hn : n < 18446744073709551616) (hc : c < 256) : bits .or .u64 ((n : Int) * 128 % 18446744073709551616 * 2 % 18446744073709551616) (c : Int) = (((n * 256 + c) % 18446744073709551616 : Nat) : Int) := by
  have h := get_u64 n c hn hc
  rwa [IntKind.wrap_u64, IntKind.wrap_u64] at h
theorem byte_of (x : Nat) : IntKind.u8.wrap (x : Int) = ((UInt8.ofNat x).toNat : Int) := by rw [IntKind.wrap_u8', ofNat_toNat]; omega
theorem div_lt (x M : Nat) (h : x < M) : x / 256 < M := Nat.lt_of_le_of_lt (Nat.div_le_self _ _) h
theorem div_any (x : Nat) : (x : Int) / 128 / 2 = ((x / 256 : Nat) : Int) := by omega
theorem div_u8 (x : Nat) (_ : x < 256) : (x : Int) / 128 / 2 = ((x / 256 : Nat) : Int) := div_any x
theorem div_u16 (x : Nat) (_ : x < 65536) : (x : Int) / 128 / 2 = ((x / 256 : Nat) : Int) := div_any x
theorem div_u32 (x : Nat) (_ : x < 4294967296) : (x : Int) / 128 / 2 = ((x / 256 : Nat) : Int) := div_any x
theorem div_u64 (x : Nat) (_ : x < 18446744073709551616) : (x : Int) / 128 / 2 = ((x / 256 : Nat) : Int) := div_any x
end Go.Proofs.Ytnjobnccknpaeaa.Arena
