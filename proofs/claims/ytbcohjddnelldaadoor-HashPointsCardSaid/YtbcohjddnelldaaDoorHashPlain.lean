/-
  Plain arithmetic of the hash layer on natural numbers below 2^64: the mixture and its undoing. No program in sight.
-/
namespace Go.Proofs.YtbcohjddnelldaaDoor.HashPlain
def M64 : Nat := 18446744073709551616
def K1 : Nat := 13787848793156543929
def K2 : Nat := 10723151780598845931
def J2 : Nat := 3573116690164977347
def J1 : Nat := 10871156337175269513
/-- x XORed with itself, shifted by k. -/
def xs (k x : Nat) : Nat := x ^^^ x / 2 ^ k
def mixN (h : Nat) : Nat := xs 31 (xs 27 (xs 30 h * K1 % M64) * K2 % M64)
def un (k x : Nat) : Nat := x ^^^ x / 2 ^ k ^^^ x / 2 ^ (2 * k)
def backN (h : Nat) : Nat := un 30 (un 27 (un 31 h * J2 % M64) * J1 % M64)

theorem xs_lt (k x : Nat) (h : x < M64) : xs k x < M64 :=
  Nat.xor_lt_two_pow (n := 64) h (Nat.lt_of_le_of_lt (Nat.div_le_self _ _) h)
theorem mixN_lt (h : Nat) : mixN h < M64 := xs_lt _ _ (Nat.mod_lt _ (by decide))
theorem un_xs (k x : Nat) (h : x < M64) (hk : 64 ≤ 3 * k) : un k (xs k x) = x := by
  unfold un xs
  simp only [← Nat.shiftRight_eq_div_pow]
  have h3 : x >>> k >>> (2 * k) = 0 := by
    rw [← Nat.shiftRight_add, Nat.shiftRight_eq_div_pow]
    refine Nat.div_eq_of_lt (Nat.lt_of_lt_of_le h ?_)
    exact Nat.pow_le_pow_right (by decide : 0 < 2) (by omega : 64 ≤ k + 2 * k)
  have h2 : x >>> k >>> k = x >>> (2 * k) := by rw [← Nat.shiftRight_add]; congr 1; omega
  rw [Nat.shiftRight_xor_distrib, Nat.shiftRight_xor_distrib, h3, h2, Nat.xor_zero]
  generalize x >>> k = a
  generalize x >>> (2 * k) = b
  rw [Nat.xor_assoc, Nat.xor_assoc, ← Nat.xor_assoc a, ← Nat.xor_assoc a, Nat.xor_self, Nat.zero_xor, Nat.xor_self, Nat.xor_zero]
theorem mul_back (x a b : Nat) (h : x < M64) (hab : a * b % M64 = 1) : x * a % M64 * b % M64 = x := by
  rw [Nat.mul_mod, Nat.mod_mod, ← Nat.mul_mod, Nat.mul_assoc, Nat.mul_mod, hab, Nat.mul_one, Nat.mod_mod, Nat.mod_eq_of_lt h]
theorem back_mix (h : Nat) (hh : h < M64) : backN (mixN h) = h := by
  unfold backN mixN
  rw [un_xs 31 _ (Nat.mod_lt _ (by decide)) (by decide), mul_back _ _ _ (xs_lt _ _ (Nat.mod_lt _ (by decide))) (by decide), un_xs 27 _ (Nat.mod_lt _ (by decide)) (by decide),
    mul_back _ _ _ (xs_lt _ _ hh) (by decide), un_xs 30 _ hh (by decide)]
theorem mix_inj (h g : Nat) (hh : h < M64) (hg : g < M64) (e : mixN h = mixN g) : h = g := by
  rw [← back_mix h hh, ← back_mix g hg, e]
def pointN (h : Nat) : Nat := mixN h / 4294967296
def slotN (h : Nat) (n : Int) : Int := if n < 2 then 0 else ((mixN h % n.toNat : Nat) : Int)
end Go.Proofs.YtbcohjddnelldaaDoor.HashPlain
