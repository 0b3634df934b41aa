/-
  The chunks' sizes in plain numbers.
-/
namespace Go.Proofs.Ytgodinapdahocaa.Cls
/-- The item limit, rounded up. -/
def lim (item : Nat) : Nat := (item + 7) / 8 * 8
/-- The size behind a size. -/
def tgt (F s : Nat) : Nat := (s * F + 799) / 800 * 8
def nxt (L F s : Nat) : Nat := min L (tgt F s)
/-- The sizes. -/
def szs (L F m : Nat) : Nat → Nat
  | 0 => m
  | i + 1 => nxt L F (szs L F m i)
/-- So many there are, one too many at most. -/
structure Cnt (L F m k : Nat) : Prop where
  pos : 1 ≤ k
  le : k ≤ 63
  low : ∀ j, j + 1 < k → szs L F m j < L
  top : L ≤ szs L F m (k - 1) ∨ k = 63
theorem Cnt.same {L F m k k' : Nat} (h : Cnt L F m k) (h' : Cnt L F m k') : k = k' := by
  have key : ∀ {a b : Nat}, Cnt L F m a → Cnt L F m b → ¬ a < b := by
    intro a b ha hb hlt
    rcases ha.top with h1 | h1
    · have := hb.low (a - 1) (by have := ha.pos; omega)
      omega
    · have := hb.le
      omega
  have h1 := key h h'
  have h2 := key h' h
  omega
def szL (L F m k : Nat) : List Nat := (List.range k).map (szs L F m)
theorem szL_len (L F m k : Nat) : (szL L F m k).length = k := by simp [szL]
theorem szL_succ (L F m k : Nat) : szL L F m (k + 1) = szL L F m k ++ [szs L F m k] := by simp [szL, List.range_succ]
theorem szL_at (L F m k i : Nat) (h : i < k) : (szL L F m k)[i]? = some (szs L F m i) := by simp [szL, h]
structure Nice (L F m : Nat) : Prop where
  L8 : L % 8 = 0
  m8 : m % 8 = 0
  mL : m ≤ L
  m64 : 64 ≤ m
  Lb : L ≤ 1048576
  F1 : 105 ≤ F
  F2 : F ≤ 400
theorem lim8 (n : Nat) : lim n % 8 = 0 := by unfold lim; omega
theorem lim_le (n : Nat) : n ≤ lim n ∧ lim n < n + 8 := by unfold lim; omega
theorem tgt8 (F s : Nat) : tgt F s % 8 = 0 := by unfold tgt; omega
theorem tgt_ge (F s : Nat) : s * F ≤ 100 * tgt F s ∧ 100 * tgt F s < s * F + 800 := by unfold tgt; omega
variable {L F m : Nat}
theorem szs_nice (h : Nice L F m) : ∀ i, szs L F m i % 8 = 0 ∧ 64 ≤ szs L F m i ∧ szs L F m i ≤ L := by
  intro i
  induction i with
  | zero => exact ⟨h.m8, h.m64, h.mL⟩
  | succ i ih =>
    obtain ⟨h1, h2, h3⟩ := ih
    have h4 := tgt8 F (szs L F m i)
    have h5 := tgt_ge F (szs L F m i)
    have h6 : szs L F m i * 105 ≤ szs L F m i * F := Nat.mul_le_mul_left _ h.F1
    have hL := h.L8
    show nxt L F (szs L F m i) % 8 = 0 ∧ 64 ≤ nxt L F (szs L F m i) ∧ nxt L F (szs L F m i) ≤ L
    unfold nxt
    have hm := h.m64
    have hmL := h.mL
    rcases Nat.le_total L (tgt F (szs L F m i)) with h7 | h7
    · rw [Nat.min_eq_left h7]; omega
    · rw [Nat.min_eq_right h7]; omega
/-- A target is eight more at least. -/
theorem tgt_more (h : Nice L F m) (i : Nat) : szs L F m i + 8 ≤ tgt F (szs L F m i) := by
  obtain ⟨h1, h2, h3⟩ := szs_nice h i
  have h4 := tgt8 F (szs L F m i)
  have h5 := tgt_ge F (szs L F m i)
  have h6 : szs L F m i * 105 ≤ szs L F m i * F := Nat.mul_le_mul_left _ h.F1
  omega
theorem szs_more (h : Nice L F m) (i : Nat) (hi : szs L F m i < L) : szs L F m i + 8 ≤ szs L F m (i + 1) := by
  have h1 := tgt_more h i
  have h2 := (szs_nice h i).1
  have hL := h.L8
  show _ ≤ nxt L F (szs L F m i)
  unfold nxt
  omega
theorem tgt_le (h : Nice L F m) (i : Nat) : tgt F (szs L F m i) ≤ 4194320 := by
  obtain ⟨h1, h2, h3⟩ := szs_nice h i
  have h5 := tgt_ge F (szs L F m i)
  have h6 : szs L F m i * F ≤ szs L F m i * 400 := Nat.mul_le_mul_left _ h.F2
  have hL := h.Lb
  omega
/-- The count, as a number. -/
def cntFrom (L F m : Nat) : Nat → Nat → Nat
  | 0, k => k
  | fuel + 1, k => if L ≤ szs L F m (k - 1) then k else cntFrom L F m fuel (k + 1)
def cntN (L F m : Nat) : Nat := cntFrom L F m 62 1
theorem cntFrom_ok {L F m : Nat} : ∀ (fuel k : Nat), fuel + k = 63 → 1 ≤ k → (∀ j, j + 1 < k → szs L F m j < L) → Cnt L F m (cntFrom L F m fuel k) := by
  intro fuel
  induction fuel with
  | zero => intro k h h1 h2; exact ⟨h1, by show k ≤ 63; omega, h2, .inr (by show k = 63; omega)⟩
  | succ fuel ih =>
    intro k h h1 h2
    unfold cntFrom
    split
    · rename_i h3
      exact ⟨h1, by omega, h2, .inl h3⟩
    · rename_i h3
      refine ih (k + 1) (by omega) (by omega) fun j hj => ?_
      rcases Nat.lt_or_ge (j + 1) k with h4 | h4
      · exact h2 j h4
      · have : j = k - 1 := by omega
        subst this
        omega
theorem cntN_ok (L F m : Nat) : Cnt L F m (cntN L F m) := cntFrom_ok 62 1 rfl (Nat.le_refl _) (fun j h => absurd h (by omega))
theorem Cnt.eq {L F m k : Nat} (h : Cnt L F m k) : k = cntN L F m := h.same (cntN_ok L F m)

/-- A config. -/
structure Conf where
  ps : Int
  np : Int
  fa : Int
  mc : Int
  il : Int
  hot : Int
  warm : Int
def Page9 (n : Int) : Prop := n = 4096 ∨ n = 8192 ∨ n = 16384 ∨ n = 32768 ∨ n = 65536 ∨ n = 131072 ∨ n = 262144 ∨ n = 524288 ∨ n = 1048576
instance (n : Int) : Decidable (Page9 n) := by unfold Page9; infer_instance
structure Right (c : Conf) : Prop where
  ps : Page9 c.ps
  np1 : 1 ≤ c.np
  np2 : c.np ≤ 1024
  fa1 : 105 ≤ c.fa
  fa2 : c.fa ≤ 400
  mc1 : 64 ≤ c.mc
  mc2 : c.mc ≤ 512
  mc8 : c.mc % 8 = 0
  il1 : c.mc ≤ c.il
  il2 : c.il ≤ c.ps
theorem right_iff (c : Conf) : Right c ↔ Page9 c.ps ∧ 1 ≤ c.np ∧ c.np ≤ 1024 ∧ 105 ≤ c.fa ∧ c.fa ≤ 400 ∧ 64 ≤ c.mc ∧ c.mc ≤ 512 ∧ c.mc % 8 = 0 ∧ c.mc ≤ c.il ∧ c.il ≤ c.ps :=
  ⟨fun h => ⟨h.ps, h.np1, h.np2, h.fa1, h.fa2, h.mc1, h.mc2, h.mc8, h.il1, h.il2⟩, fun ⟨h1, h2, h3, h4, h5, h6, h7, h8, h9, h10⟩ => ⟨h1, h2, h3, h4, h5, h6, h7, h8, h9, h10⟩⟩
instance (c : Conf) : Decidable (Right c) := decidable_of_iff _ (right_iff c).symm
/-- So many classes. -/
def Conf.nc (c : Conf) : Nat := cntN (lim c.il.toNat) c.fa.toNat c.mc.toNat
def Conf.sz (c : Conf) : Nat → Nat := szs (lim c.il.toNat) c.fa.toNat c.mc.toNat
/-- New's error. -/
def refN (c : Conf) : Int := if Right c then (if 62 < c.nc then 2 else if c.np < c.nc then 3 else 0) else 1
theorem Right.nice {c : Conf} (h : Right c) : Nice (lim c.il.toNat) c.fa.toNat c.mc.toNat := by
  have h1 := lim_le c.il.toNat
  have h2 := lim8 c.il.toNat
  have a1 := h.fa1
  have a2 := h.fa2
  have a3 := h.mc1
  have a4 := h.mc8
  have a5 := h.il1
  have a6 := h.il2
  have a7 := h.ps
  unfold Page9 at a7
  exact ⟨h2, by omega, by omega, by omega, by unfold lim; omega, by omega, by omega⟩

/-- A power of two is what has no bit in common with the number ahead of it. -/
theorem and_ne (n k : Nat) (h1 : n / 2 ^ k % 2 = 1) (h2 : (n - 1) / 2 ^ k % 2 = 1) : n &&& (n - 1) ≠ 0 := by
  intro h
  have h3 : (n &&& (n - 1)).testBit k = true := by
    rw [Nat.testBit_and, Nat.testBit_eq_decide_div_mod_eq, Nat.testBit_eq_decide_div_mod_eq, h1, h2]
    rfl
  rw [h, Nat.zero_testBit] at h3
  cases h3
theorem and_pred (n : Nat) (h1 : 4096 ≤ n) (h2 : n ≤ 1048576) : n &&& (n - 1) = 0 ↔ Page9 (n : Int) := by
  constructor
  · intro h
    unfold Page9
    have a12 : ¬ (4096 < n ∧ n < 8192) := fun ⟨h3, h4⟩ => and_ne n 12 (by omega) (by omega) h
    have a13 : ¬ (8192 < n ∧ n < 16384) := fun ⟨h3, h4⟩ => and_ne n 13 (by omega) (by omega) h
    have a14 : ¬ (16384 < n ∧ n < 32768) := fun ⟨h3, h4⟩ => and_ne n 14 (by omega) (by omega) h
    have a15 : ¬ (32768 < n ∧ n < 65536) := fun ⟨h3, h4⟩ => and_ne n 15 (by omega) (by omega) h
    have a16 : ¬ (65536 < n ∧ n < 131072) := fun ⟨h3, h4⟩ => and_ne n 16 (by omega) (by omega) h
    have a17 : ¬ (131072 < n ∧ n < 262144) := fun ⟨h3, h4⟩ => and_ne n 17 (by omega) (by omega) h
    have a18 : ¬ (262144 < n ∧ n < 524288) := fun ⟨h3, h4⟩ => and_ne n 18 (by omega) (by omega) h
    have a19 : ¬ (524288 < n ∧ n < 1048576) := fun ⟨h3, h4⟩ => and_ne n 19 (by omega) (by omega) h
    clear h
    omega
  · intro h
    have : n = 4096 ∨ n = 8192 ∨ n = 16384 ∨ n = 32768 ∨ n = 65536 ∨ n = 131072 ∨ n = 262144 ∨ n = 524288 ∨ n = 1048576 := by unfold Page9 at h; omega
    rcases this with rfl | rfl | rfl | rfl | rfl | rfl | rfl | rfl | rfl <;> decide
/-- The document's next size: the least of s + 8, s + 16, .. that is no less than s times the factor. -/
theorem step_lt (i n : Nat) (h8 : n % 8 = 0) (hn : n ≤ tgt F (szs L F m i)) : 100 * n < szs L F m i * F ↔ n < tgt F (szs L F m i) := by
  have h4 := tgt8 F (szs L F m i)
  have h5 := tgt_ge F (szs L F m i)
  constructor
  · intro h6; omega
  · intro h6; omega
end Go.Proofs.Ytgodinapdahocaa.Cls
