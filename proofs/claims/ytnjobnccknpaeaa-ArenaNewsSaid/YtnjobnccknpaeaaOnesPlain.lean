/-
  The count of the bits of a number below 2^21, as the library works it out, in plain Lean: it is 1 for powers of two alone.
-/
import Derived.WalkKit
import Derived.Laws.Bits64b
import Derived.Laws.Bits128
namespace Go.Proofs.Ytnjobnccknpaeaa.Ones
set_option linter.unusedVariables false

theorem andB (a b p q : Nat) (ha : a < 256) (hp : p < 256) : (a + 256 * b) &&& (p + 256 * q) = (a &&& p) + 256 * (b &&& q) := by
  have h1 : ((a + 256 * b) &&& (p + 256 * q)) % 256 = (a &&& p) := by
    have := Nat.and_mod_two_pow (a := a + 256 * b) (b := p + 256 * q) (n := 8)
    rw [show (2 : Nat) ^ 8 = 256 from rfl] at this
    rw [this, show (a + 256 * b) % 256 = a by omega, show (p + 256 * q) % 256 = p by omega]
  have h2 : ((a + 256 * b) &&& (p + 256 * q)) / 256 = (b &&& q) := by
    have := Nat.and_div_two_pow (a := a + 256 * b) (b := p + 256 * q) (n := 8)
    rw [show (2 : Nat) ^ 8 = 256 from rfl] at this
    rw [this, show (a + 256 * b) / 256 = b by omega, show (p + 256 * q) / 256 = q by omega]
  omega

def g0 (a : Nat) : Nat := (a / 2 &&& 85) + (a &&& 85)
def g1 (a : Nat) : Nat := (g0 a / 4 &&& 51) + (g0 a &&& 51)
def g2 (a : Nat) : Nat := (g1 a / 16 + g1 a) &&& 15
def small : Nat → Bool := fun a => decide (g0 a < 256) && decide (g1 a < 256) && decide (g1 a % 16 ≤ 4) && decide (g1 a / 16 ≤ 4) && decide (g2 a ≤ 8)
def single : Nat → Bool := fun a => (decide (g2 a = 0) == decide (a = 0)) && (!decide (g2 a = 1) || decide (a ∈ [1, 2, 4, 8, 16, 32, 64, 128]))
theorem small_all : ∀ a, a < 256 → small a = true := by decide +kernel
theorem single_all : ∀ a, a < 256 → single a = true := by decide +kernel
theorem low85 : ∀ a, a < 256 → ∀ b, b < 2 → (a / 2 + 128 * b) &&& 85 = (a / 2) &&& 85 := by decide +kernel
theorem low51 : ∀ a, a < 256 → ∀ b, b < 4 → (a / 4 + 64 * b) &&& 51 = (a / 4) &&& 51 := by decide +kernel
theorem low15 : ∀ a, a < 256 → ∀ b, b < 5 → a % 16 ≤ 4 → a / 16 ≤ 4 → (a / 16 + 16 * b + a) &&& 15 = (a / 16 + a) &&& 15 := by decide +kernel

theorem bds {a : Nat} (h : a < 256) : g0 a < 256 ∧ g1 a < 256 ∧ g1 a % 16 ≤ 4 ∧ g1 a / 16 ≤ 4 ∧ g2 a ≤ 8 := by
  have := small_all a h
  unfold small at this
  simp only [Bool.and_eq_true, decide_eq_true_eq] at this
  omega
theorem first (a b c : Nat) (ha : a < 256) (hb : b < 256) (hc : c < 256) :
    ((a + 256 * (b + 256 * c)) / 2 &&& 6148914691236517205) + ((a + 256 * (b + 256 * c)) &&& 6148914691236517205) = g0 a + 256 * (g0 b + 256 * g0 c) := by
  have e1 : (a + 256 * (b + 256 * c)) / 2 = (a / 2 + 128 * (b % 2)) + 256 * ((b / 2 + 128 * (c % 2)) + 256 * (c / 2 + 128 * 0)) := by omega
  have m : (6148914691236517205 : Nat) = 85 + 256 * (85 + 256 * (85 + 256 * 366503875925)) := by decide
  have hc2 : (c / 2 + 128 * 0) + 256 * 0 = c / 2 + 128 * 0 := by omega
  have hc3 : c + 256 * 0 = c := by omega
  rw [e1, m, andB _ _ _ _ (by omega) (by omega), andB _ _ _ _ (by omega) (by omega), andB _ _ _ _ ha (by omega), andB _ _ _ _ hb (by omega)]
  rw [← hc2, andB _ _ _ _ (by omega) (by omega)]
  conv => lhs; rhs; rw [← hc3, andB _ _ _ _ hc (by omega)]
  rw [low85 a ha (b % 2) (by omega), low85 b hb (c % 2) (by omega), low85 c hc 0 (by omega), Nat.zero_and]
  unfold g0
  omega
theorem second (a b c : Nat) (ha : a < 256) (hb : b < 256) (hc : c < 256) :
    ((g0 a + 256 * (g0 b + 256 * g0 c)) / 4 &&& 3689348814741910323) + ((g0 a + 256 * (g0 b + 256 * g0 c)) &&& 3689348814741910323) = g1 a + 256 * (g1 b + 256 * g1 c) := by
  have ba := (bds ha).1
  have bb := (bds hb).1
  have bc := (bds hc).1
  unfold g1
  generalize g0 a = a at *
  generalize g0 b = b at *
  generalize g0 c = c at *
  have e1 : (a + 256 * (b + 256 * c)) / 4 = (a / 4 + 64 * (b % 4)) + 256 * ((b / 4 + 64 * (c % 4)) + 256 * (c / 4 + 64 * 0)) := by omega
  have m : (3689348814741910323 : Nat) = 51 + 256 * (51 + 256 * (51 + 256 * 219902325555)) := by decide
  have hc2 : (c / 4 + 64 * 0) + 256 * 0 = c / 4 + 64 * 0 := by omega
  have hc3 : c + 256 * 0 = c := by omega
  rw [e1, m, andB _ _ _ _ (by omega) (by omega), andB _ _ _ _ (by omega) (by omega), andB _ _ _ _ ba (by omega), andB _ _ _ _ bb (by omega)]
  rw [← hc2, andB _ _ _ _ (by omega) (by omega)]
  conv => lhs; rhs; rw [← hc3, andB _ _ _ _ bc (by omega)]
  rw [low51 a ba (b % 4) (by omega), low51 b bb (c % 4) (by omega), low51 c bc 0 (by omega), Nat.zero_and]
  omega
theorem third (a b c : Nat) (ha : a < 256) (hb : b < 256) (hc : c < 256) :
    (((g1 a + 256 * (g1 b + 256 * g1 c)) / 16 + (g1 a + 256 * (g1 b + 256 * g1 c))) &&& 1085102592571150095) = g2 a + 256 * (g2 b + 256 * g2 c) := by
  obtain ⟨-, ba, ba1, ba2, -⟩ := bds ha
  obtain ⟨-, bb, bb1, bb2, -⟩ := bds hb
  obtain ⟨-, bc, bc1, bc2, -⟩ := bds hc
  unfold g2
  generalize g1 a = a at *
  generalize g1 b = b at *
  generalize g1 c = c at *
  have e1 : (a + 256 * (b + 256 * c)) / 16 + (a + 256 * (b + 256 * c)) = (a / 16 + 16 * (b % 16) + a) + 256 * ((b / 16 + 16 * (c % 16) + b) + 256 * ((c / 16 + 16 * 0 + c) + 256 * 0)) := by omega
  have m : (1085102592571150095 : Nat) = 15 + 256 * (15 + 256 * (15 + 256 * 64677154575)) := by decide
  rw [e1, m, andB _ _ _ _ (by omega) (by omega), andB _ _ _ _ (by omega) (by omega), andB _ _ _ _ (by omega) (by omega)]
  rw [low15 a ba (b % 16) (by omega) ba1 ba2, low15 b bb (c % 16) (by omega) bb1 bb2, low15 c bc 0 (by omega) bc1 bc2, Nat.zero_and]
  omega
/-- The bits of a number below 2^21. -/
def ones (x : Nat) : Nat := g2 (x % 256) + g2 (x / 256 % 256) + g2 (x / 65536)
theorem cut3 (x : Nat) : x = x % 256 + 256 * (x / 256 % 256 + 256 * (x / 65536)) := by omega
def y0 (x : Nat) : Nat := (x / 2 &&& 6148914691236517205) + (x &&& 6148914691236517205)
def y1 (y : Nat) : Nat := (y / 4 &&& 3689348814741910323) + (y &&& 3689348814741910323)
def y2 (z : Nat) : Nat := (z / 16 + z) &&& 1085102592571150095
theorem done_ (a b c : Nat) (ha : a ≤ 8) (hb : b ≤ 8) (hc : c ≤ 8) (u v1 v2 : Nat) (h : u = a + 256 * (b + 256 * c)) (h1 : v1 = u + u / 256) (h2 : v2 = v1 + v1 / 65536) : (v2 + v2 / 4294967296) % 128 = a + b + c := by
  have e1 : u / 256 = b + 256 * c := by omega
  have e2 : v1 = (a + b) + 256 * (b + c) + 65536 * c := by omega
  have e3 : v1 / 65536 = c := by omega
  have e4 : v2 = (a + b + c) + 256 * (b + c) + 65536 * c := by omega
  have e5 : v2 / 4294967296 = 0 := by omega
  rw [e5, e4]
  omega
theorem power {x : Nat} (h0 : 4096 ≤ x) (h1 : x ≤ 1048576) (h : ones x = 1) : x = 4096 ∨ x = 8192 ∨ x = 16384 ∨ x = 32768 ∨ x = 65536 ∨ x = 131072 ∨ x = 262144 ∨ x = 524288 ∨ x = 1048576 := by
  have e := cut3 x
  unfold ones at h
  have s1 := single_all (x % 256) (by omega)
  have s2 := single_all (x / 256 % 256) (by omega)
  have s3 := single_all (x / 65536) (by omega)
  generalize x % 256 = a at *
  generalize x / 256 % 256 = b at *
  generalize x / 65536 = c at *
  unfold single at s1 s2 s3
  simp only [Bool.and_eq_true, Bool.or_eq_true, Bool.not_eq_true', beq_iff_eq, decide_eq_decide, decide_eq_false_iff_not, decide_eq_true_eq, List.mem_cons, List.not_mem_nil, or_false] at s1 s2 s3
  generalize g2 a = p at *
  generalize g2 b = q at *
  generalize g2 c = r at *
  obtain ⟨a1, a2⟩ := s1
  obtain ⟨b1, b2⟩ := s2
  obtain ⟨c1, c2⟩ := s3
  have hs : (p = 1 ∧ q = 0 ∧ r = 0) ∨ (p = 0 ∧ q = 1 ∧ r = 0) ∨ (p = 0 ∧ q = 0 ∧ r = 1) := by omega
  rcases hs with ⟨rfl, rfl, rfl⟩ | ⟨rfl, rfl, rfl⟩ | ⟨rfl, rfl, rfl⟩
  · have := b1.1 rfl; have := c1.1 rfl; omega
  · have := a1.1 rfl; have := c1.1 rfl
    have b3 := b2.resolve_left (by simp)
    omega
  · have := a1.1 rfl; have := b1.1 rfl
    have c3 := c2.resolve_left (by simp)
    omega
theorem ones_y (x : Nat) (hx : x ≤ 1048576) (v1 v2 : Nat) (h1 : v1 = y2 (y1 (y0 x)) + y2 (y1 (y0 x)) / 256) (h2 : v2 = v1 + v1 / 65536) : (v2 + v2 / 4294967296) % 128 = ones x ∧ v2 + v2 / 4294967296 < 16777216 ∧ y0 x < 16777216 ∧ y1 (y0 x) < 16777216 ∧ y2 (y1 (y0 x)) < 16777216 := by
  have e := cut3 x
  have ha : x % 256 < 256 := by omega
  have hb : x / 256 % 256 < 256 := by omega
  have hc : x / 65536 < 256 := by omega
  have p0 := first _ _ _ ha hb hc
  rw [← e] at p0
  have p1 := second _ _ _ ha hb hc
  have p2 := third _ _ _ ha hb hc
  have E0 : y0 x = g0 (x % 256) + 256 * (g0 (x / 256 % 256) + 256 * g0 (x / 65536)) := p0
  have E1 : y1 (y0 x) = g1 (x % 256) + 256 * (g1 (x / 256 % 256) + 256 * g1 (x / 65536)) := by rw [E0]; exact p1
  have E2 : y2 (y1 (y0 x)) = g2 (x % 256) + 256 * (g2 (x / 256 % 256) + 256 * g2 (x / 65536)) := by rw [E1]; exact p2
  obtain ⟨a0, a1, -, -, a4⟩ := bds ha
  obtain ⟨b0, b1, -, -, b4⟩ := bds hb
  obtain ⟨c0, c1, -, -, c4⟩ := bds hc
  unfold ones
  generalize y2 (y1 (y0 x)) = u at *
  generalize y1 (y0 x) = z at *
  generalize y0 x = y at *
  generalize g0 (x % 256) = A at *
  generalize g1 (x % 256) = B at *
  generalize g2 (x % 256) = C at *
  generalize g0 (x / 256 % 256) = D at *
  generalize g1 (x / 256 % 256) = F at *
  generalize g2 (x / 256 % 256) = G at *
  generalize g0 (x / 65536) = H at *
  generalize g1 (x / 65536) = I at *
  generalize g2 (x / 65536) = J at *
  clear p0 p1 p2 e ha hb hc hx
  refine ⟨done_ C G J a4 b4 c4 u v1 v2 E2 h1 h2, ?_, ?_, ?_, ?_⟩ <;> omega
end Go.Proofs.Ytnjobnccknpaeaa.Ones
