/-
  Plain arithmetic of the reference's Times, Xor, Down on natural numbers below 2^64. No program in sight.
-/
import Derived.Test.YtbcohjddnelldaaDoorHashPlain
namespace Go.Proofs.YtbcohjddnelldaaDoor.HashPlain

/-- What Times keeps from round to round. -/
def TimesInv (p n a b : Nat) : Prop := n < M64 ∧ a < M64 ∧ b < M64 ∧ (n + a * b) % M64 = p
theorem times_start (a b : Nat) (ha : a < M64) (hb : b < M64) : TimesInv (a * b % M64) 0 a b := ⟨by decide, ha, hb, by rw [Nat.zero_add]⟩
theorem times_odd {p n a b : Nat} (h : TimesInv p n a b) (ho : b % 2 = 1) : TimesInv p ((n + a) % M64) ((a + a) % M64) (b / 2) := by
  obtain ⟨h1, h2, h3, h4⟩ := h
  refine ⟨Nat.mod_lt _ (by decide), Nat.mod_lt _ (by decide), by omega, ?_⟩
  rw [← h4]
  have hb : b = 2 * (b / 2) + 1 := by omega
  generalize b / 2 = c at hb ⊢
  subst hb
  rw [Nat.add_mod, Nat.mod_mod, Nat.mul_mod, Nat.mod_mod, ← Nat.mul_mod, ← Nat.add_mod]
  congr 1
  rw [Nat.mul_add, Nat.mul_one, Nat.add_mul, ← Nat.mul_assoc, Nat.mul_comm a 2, Nat.mul_assoc]
  omega
theorem times_even {p n a b : Nat} (h : TimesInv p n a b) (ho : b % 2 = 0) : TimesInv p n ((a + a) % M64) (b / 2) := by
  obtain ⟨h1, h2, h3, h4⟩ := h
  refine ⟨h1, Nat.mod_lt _ (by decide), by omega, ?_⟩
  rw [← h4]
  have hb : b = 2 * (b / 2) := by omega
  generalize b / 2 = c at hb ⊢
  subst hb
  rw [Nat.add_mod, Nat.mul_mod, Nat.mod_mod, ← Nat.mul_mod, ← Nat.add_mod]
  congr 1
  rw [Nat.add_mul, ← Nat.mul_assoc, Nat.mul_comm a 2, Nat.mul_assoc]
  omega
theorem times_end {p n a : Nat} (h : TimesInv p n a 0) : n = p := by
  obtain ⟨h1, _, _, h4⟩ := h
  rw [Nat.mul_zero, Nat.add_zero, Nat.mod_eq_of_lt h1] at h4
  exact h4

/-- What Xor keeps from round to round. -/
def XorInv (A B i n one a b : Nat) : Prop := a = A / 2 ^ i ∧ b = B / 2 ^ i ∧ n = (A ^^^ B) % 2 ^ i ∧ one = 2 ^ i % M64 ∧ A < M64 ∧ B < M64
theorem xor_start (A B : Nat) (ha : A < M64) (hb : B < M64) : XorInv A B 0 0 1 A B := ⟨by simp, by simp, by simp [Nat.mod_one], by decide, ha, hb⟩
theorem XorInv.bounds {A B i n one a b : Nat} (h : XorInv A B i n one a b) : a < M64 ∧ b < M64 ∧ n < M64 ∧ one < M64 := by
  obtain ⟨rfl, rfl, rfl, rfl, ha, hb⟩ := h
  exact ⟨Nat.lt_of_le_of_lt (Nat.div_le_self _ _) ha, Nat.lt_of_le_of_lt (Nat.div_le_self _ _) hb, Nat.lt_of_le_of_lt (Nat.mod_le _ _) (Nat.xor_lt_two_pow (n := 64) ha hb), Nat.mod_lt _ (by decide)⟩
theorem XorInv.small {A B i n one a b : Nat} (h : XorInv A B i n one a b) (hp : 0 < a ∨ 0 < b) : i < 64 := by
  obtain ⟨rfl, rfl, rfl, rfl, ha, hb⟩ := h
  rcases Nat.lt_or_ge i 64 with hi | hi
  · exact hi
  · have h64 : M64 ≤ 2 ^ i := Nat.pow_le_pow_right (by decide : 0 < 2) hi
    rw [Nat.div_eq_of_lt (by omega), Nat.div_eq_of_lt (by omega)] at hp
    omega
theorem mod_succ (x i : Nat) : x % 2 ^ (i + 1) = x % 2 ^ i + 2 ^ i * (x / 2 ^ i % 2) := by
  rw [Nat.pow_succ, Nat.mod_mul]
theorem xor_low (A B i : Nat) : (A ^^^ B) / 2 ^ i % 2 = (if A / 2 ^ i % 2 = B / 2 ^ i % 2 then 0 else 1) := by
  rw [← Nat.shiftRight_eq_div_pow, Nat.shiftRight_xor_distrib, ← Nat.shiftRight_eq_div_pow, ← Nat.shiftRight_eq_div_pow]
  generalize A >>> i = a
  generalize B >>> i = b
  have h := Nat.xor_mod_two_pow (a := a) (b := b) (n := 1)
  rw [Nat.pow_one] at h
  rw [h]
  rcases Nat.mod_two_eq_zero_or_one a with ha | ha <;> rcases Nat.mod_two_eq_zero_or_one b with hb | hb <;> rw [ha, hb] <;> decide
theorem half_pow (A i : Nat) : A / 2 ^ i / 2 = A / 2 ^ (i + 1) := by rw [Nat.div_div_eq_div_mul, Nat.pow_succ]
theorem pow_lt (i : Nat) (hi : i < 64) : 2 ^ i < M64 := Nat.pow_lt_pow_right (by decide : 1 < 2) hi
theorem one_next (i : Nat) (hi : i < 64) : (2 ^ i % M64 + 2 ^ i % M64) % M64 = 2 ^ (i + 1) % M64 := by
  rw [Nat.mod_eq_of_lt (pow_lt i hi), Nat.pow_succ]; congr 1; omega
theorem xor_unlike {A B i n one a b : Nat} (h : XorInv A B i n one a b) (hp : 0 < a ∨ 0 < b) (hne : a % 2 ≠ b % 2) : XorInv A B (i + 1) ((n + one) % M64) ((one + one) % M64) (a / 2) (b / 2) := by
  have hi := h.small hp
  obtain ⟨rfl, rfl, rfl, rfl, ha, hb⟩ := h
  refine ⟨half_pow _ _, half_pow _ _, ?_, one_next i hi, ha, hb⟩
  rw [mod_succ, xor_low, if_neg hne, Nat.mod_eq_of_lt (pow_lt i hi), Nat.mul_one, Nat.mod_eq_of_lt]
  have h1 := mod_succ (A ^^^ B) i
  rw [xor_low, if_neg hne, Nat.mul_one] at h1
  rw [← h1]
  exact Nat.lt_of_le_of_lt (Nat.mod_le _ _) (Nat.xor_lt_two_pow (n := 64) ha hb)
theorem xor_like {A B i n one a b : Nat} (h : XorInv A B i n one a b) (hp : 0 < a ∨ 0 < b) (he : a % 2 = b % 2) : XorInv A B (i + 1) n ((one + one) % M64) (a / 2) (b / 2) := by
  have hi := h.small hp
  obtain ⟨rfl, rfl, rfl, rfl, ha, hb⟩ := h
  refine ⟨half_pow _ _, half_pow _ _, ?_, one_next i hi, ha, hb⟩
  rw [mod_succ, xor_low, if_pos he, Nat.mul_zero, Nat.add_zero]
theorem xor_end {A B i n one : Nat} (h : XorInv A B i n one 0 0) : n = A ^^^ B := by
  obtain ⟨h1, h2, rfl, -, -, -⟩ := h
  refine Nat.mod_eq_of_lt ?_
  have hA : A < 2 ^ i := Nat.lt_of_div_eq_zero (Nat.two_pow_pos i) h1.symm
  have hB : B < 2 ^ i := Nat.lt_of_div_eq_zero (Nat.two_pow_pos i) h2.symm
  exact Nat.xor_lt_two_pow hA hB

def timesN (a b : Nat) : Nat := a * b % M64
def xorN (a b : Nat) : Nat := a ^^^ b
def downN (k h : Nat) : Nat := h / 2 ^ k
theorem timesN_lt (a b : Nat) : timesN a b < M64 := Nat.mod_lt _ (by decide)
theorem xorN_lt (a b : Nat) (ha : a < M64) (hb : b < M64) : xorN a b < M64 := Nat.xor_lt_two_pow (n := 64) ha hb
theorem downN_lt (k h : Nat) (hh : h < M64) : downN k h < M64 := Nat.lt_of_le_of_lt (Nat.div_le_self _ _) hh
theorem mixN_steps (h : Nat) : mixN h = xorN (timesN (xorN (timesN (xorN h (downN 30 h)) K1) (downN 27 (timesN (xorN h (downN 30 h)) K1))) K2) (downN 31 (timesN (xorN (timesN (xorN h (downN 30 h)) K1) (downN 27 (timesN (xorN h (downN 30 h)) K1))) K2)) := by
  have e1 : ∀ k x, xs k x = xorN x (downN k x) := fun _ _ => rfl
  have e2 : ∀ a b, a * b % M64 = timesN a b := fun _ _ => rfl
  unfold mixN
  simp only [e1, e2]
/-- FNV-1a on: behind a choice, so that nothing unfolds its numeral. -/
theorem on_exists : ∃ f : Nat → Nat → Nat, ∀ h b, f h b = (h ^^^ b) * 1099511628211 % M64 := ⟨_, fun _ _ => rfl⟩
noncomputable def onN : Nat → Nat → Nat := Classical.choose on_exists
theorem onN_eq (h b : Nat) : onN h b = (h ^^^ b) * 1099511628211 % M64 := Classical.choose_spec on_exists h b
noncomputable def sumN (h : Nat) (l : List Nat) : Nat := l.foldl onN h
def Begin : Nat := 14695981039346656037
end Go.Proofs.YtbcohjddnelldaaDoor.HashPlain
