/-
  Walk of granarylaw04.back and of the law HashUnlike: for all numbers h, g, n it returns true, and no memory that was there is changed.
-/
import Derived.Test.YtbcohjddnelldaaHashMixWalks
namespace Go.Proofs.Ytbcohjddnelldaa.HashU
open Go.RowKit HashPlain HashW

theorem u64_x (a b : Nat) (ha : a < M64) (hb : b < M64) : bits .xor .u64 (a : Int) (b : Int) = ((a ^^^ b : Nat) : Int) := bits_xor_u64_nat a b ha hb
theorem div_lt (a s : Nat) (ha : a < M64) : a / s < M64 := Nat.lt_of_le_of_lt (Nat.div_le_self _ _) ha
theorem xor_lt (a b : Nat) (ha : a < M64) (hb : b < M64) : a ^^^ b < M64 := Nat.xor_lt_two_pow (n := 64) ha hb

theorem un_ev (k s t : Nat) (hs : s = 2 ^ k) (ht : t = 2 ^ (2 * k)) (h : Nat) (hh : h < M64) :
    bits .xor .u64 (bits .xor .u64 (h : Int) ((h : Int) / (s : Int))) ((h : Int) / (t : Int)) = ((un k h : Nat) : Int) := by
  subst hs ht
  unfold un
  rw [← Int.natCast_ediv, ← Int.natCast_ediv, u64_x _ _ hh (div_lt _ _ hh), u64_x _ _ (xor_lt _ _ hh (div_lt _ _ hh)) (div_lt _ _ hh)]
theorem mul_ev (a c : Nat) : IntKind.u64.wrap ((a : Int) * (c : Int)) = ((a * c % M64 : Nat) : Int) := by
  rw [IntKind.wrap_u64, Int.natCast_emod, Int.natCast_mul]; rfl
theorem un_lt (k x : Nat) (h : x < M64) : un k x < M64 := xor_lt _ _ (xor_lt _ _ h (div_lt _ _ h)) (div_lt _ _ h)

theorem backC (h : Nat) (hh : h < M64) (w : World) : Calls Try.prog 18 #[.int .u64 (h : Int)] w fun e w' => e = .returned (.int .u64 ((backN h : Nat) : Int)) ∧ w = w' := by
  have h1 : h < 18446744073709551616 := hh
  go_enter Try.func18, Try.ntmps18
  go_wp2
  go_ret
  refine ⟨ret_int ?_, rfl⟩
  have e1 := un_ev 31 2147483648 4611686018427387904 (by decide) (by decide) h hh
  have e2 := mul_ev (un 31 h) 3573116690164977347
  have l2 : un 31 h * 3573116690164977347 % M64 < M64 := Nat.mod_lt _ (by decide)
  simp only [Int.cast_ofNat_Int] at e1 e2
  rw [e1, e2]
  unfold backN
  rw [show un 31 h * J2 % M64 = un 31 h * 3573116690164977347 % M64 from rfl]
  generalize un 31 h * 3573116690164977347 % M64 = a at l2
  have e3 := un_ev 27 134217728 18014398509481984 (by decide) (by decide) a l2
  have e4 := mul_ev (un 27 a) 10871156337175269513
  have l4 : un 27 a * 10871156337175269513 % M64 < M64 := Nat.mod_lt _ (by decide)
  simp only [Int.cast_ofNat_Int] at e3 e4
  rw [e3, e4]
  rw [show un 27 a * J1 % M64 = un 27 a * 10871156337175269513 % M64 from rfl]
  generalize un 27 a * 10871156337175269513 % M64 = b at l4
  have e5 := un_ev 30 1073741824 1152921504606846976 (by decide) (by decide) b l4
  simp only [Int.cast_ofNat_Int] at e5
  exact e5

theorem backMix (h : Nat) (hh : h < M64) (w : World) : Calls Try.prog 18 #[.int .u64 ((mixN h : Nat) : Int)] w fun e w' => e = .returned (.int .u64 (h : Int)) ∧ w = w' := by
  have := backC (mixN h) (mixN_lt h) w
  rwa [back_mix h hh] at this

theorem slotLow (h : Nat) (n : Int) (hh : h < M64) (hn : -9223372036854775808 ≤ n ∧ n < 9223372036854775808) (h2 : n < 2) (w : World) :
    Calls Try.prog 14 #[.int .u64 (h : Int), .int .i64 n] w fun e w' => e = .returned (.int .i64 0) ∧ w = w' := by
  have := slotC h n hh hn w
  rwa [show slotN h n = 0 by simp [slotN, h2]] at this
theorem slotHigh (h k : Nat) (hh : h < M64) (hn : k < 9223372036854775808) (h2 : 2 ≤ k) (w : World) :
    Calls Try.prog 14 #[.int .u64 (h : Int), .int .i64 (k : Int)] w fun e w' => e = .returned (.int .i64 ((mixN h % k : Nat) : Int)) ∧ w = w' := by
  have := slotC h k hh (by omega) w
  rwa [show slotN h k = ((mixN h % k : Nat) : Int) by simp [slotN]; omega] at this
theorem rem_zero (m k : Nat) : (m - m % k) % k = 0 := by
  have := Nat.div_add_mod m k
  rw [show m - m % k = k * (m / k) by omega]
  exact Nat.mul_mod_right _ _

theorem sameLow (h : Nat) (n : Int) (hh : h < M64) (hn : -9223372036854775808 ≤ n ∧ n < 9223372036854775808) (h2 : n < 2) (w : World) :
    Calls Try.prog 6 #[.int .u64 (h : Int), .int .u64 (h : Int), .int .i64 n] w fun e w' => e = .returned (.bool true) ∧ w = w' := by
  have hm := mixN_lt h
  unfold M64 at hm
  have hd : ((mixN h : Int) / 4294967296) = (pointN h : Int) := by unfold pointN; omega
  have hp : pointN h < 4294967296 := by unfold pointN; omega
  go_enter Try.func6, Try.ntmps6
  go_wp2_with fail
  refine (mixC h hh _).mono ?_
  rintro e w' ⟨rfl, rfl⟩
  go_wp2_with fail
  refine (backMix h hh _).mono ?_
  rintro e w' ⟨rfl, rfl⟩
  go_wp2_with fail
  refine (mixC h hh _).mono ?_
  rintro e w' ⟨rfl, rfl⟩
  go_wp2_with fail
  refine (pointC h hh _).mono ?_
  rintro e w' ⟨rfl, rfl⟩
  go_wp2_with fail
  refine (slotLow h n hh hn h2 _).mono ?_
  rintro e w' ⟨rfl, rfl⟩
  go_wp2
  go_ret
  exact ⟨rfl, rfl⟩
theorem sameHigh (h k : Nat) (hh : h < M64) (hn : k < 9223372036854775808) (h2 : 2 ≤ k) (w : World) :
    Calls Try.prog 6 #[.int .u64 (h : Int), .int .u64 (h : Int), .int .i64 (k : Int)] w fun e w' => e = .returned (.bool true) ∧ w = w' := by
  have hm := mixN_lt h
  unfold M64 at hm
  have hd : ((mixN h : Int) / 4294967296) = (pointN h : Int) := by unfold pointN; omega
  have hp : pointN h < 4294967296 := by unfold pointN; omega
  have hk : mixN h % k < k := Nat.mod_lt _ (by omega)
  have hle : mixN h % k ≤ mixN h := Nat.mod_le _ _
  have hz := Lib.hid (show ((mixN h : Int) - ((mixN h % k : Nat) : Int)) % (k : Int) = 0 by rw [← Int.natCast_sub hle, ← Int.natCast_emod, rem_zero]; rfl)
  go_enter Try.func6, Try.ntmps6
  go_wp2_with fail
  refine (mixC h hh _).mono ?_
  rintro e w' ⟨rfl, rfl⟩
  go_wp2_with fail
  refine (backMix h hh _).mono ?_
  rintro e w' ⟨rfl, rfl⟩
  go_wp2_with fail
  refine (mixC h hh _).mono ?_
  rintro e w' ⟨rfl, rfl⟩
  go_wp2_with fail
  refine (pointC h hh _).mono ?_
  rintro e w' ⟨rfl, rfl⟩
  go_wp2_with fail
  refine (slotHigh h k hh hn h2 _).mono ?_
  rintro e w' ⟨rfl, rfl⟩
  generalize mixN h % k = s at *
  generalize mixN h = m at *
  have hz := hz.out
  go_wp2
  go_ret
  exact ⟨rfl, rfl⟩
theorem diffLow (h g : Nat) (n : Int) (hh : h < M64) (hg : g < M64) (e : h ≠ g) (hn : -9223372036854775808 ≤ n ∧ n < 9223372036854775808) (h2 : n < 2) (w : World) :
    Calls Try.prog 6 #[.int .u64 (h : Int), .int .u64 (g : Int), .int .i64 n] w fun e w' => e = .returned (.bool true) ∧ w = w' := by
  have hm := mixN_lt h
  unfold M64 at hm
  have hd : ((mixN h : Int) / 4294967296) = (pointN h : Int) := by unfold pointN; omega
  have hp : pointN h < 4294967296 := by unfold pointN; omega
  have e1 : ((mixN g : Int) == (mixN h : Int)) = false := by
    rw [beq_eq_false_iff_ne]; intro h0; exact e (mix_inj h g hh hg (by omega))
  have e2 : ((g : Int) == (h : Int)) = false := by rw [beq_eq_false_iff_ne]; omega
  go_enter Try.func6, Try.ntmps6
  go_wp2_with fail
  refine (mixC h hh _).mono ?_
  rintro e w' ⟨rfl, rfl⟩
  go_wp2_with fail
  refine (backMix h hh _).mono ?_
  rintro e w' ⟨rfl, rfl⟩
  go_wp2_with fail
  refine (mixC g hg _).mono ?_
  rintro e w' ⟨rfl, rfl⟩
  go_wp2_with fail
  refine (pointC h hh _).mono ?_
  rintro e w' ⟨rfl, rfl⟩
  go_wp2_with fail
  refine (slotLow h n hh hn h2 _).mono ?_
  rintro e w' ⟨rfl, rfl⟩
  go_wp2
  go_ret
  exact ⟨rfl, rfl⟩
theorem diffHigh (h g k : Nat) (hh : h < M64) (hg : g < M64) (e : h ≠ g) (hn : k < 9223372036854775808) (h2 : 2 ≤ k) (w : World) :
    Calls Try.prog 6 #[.int .u64 (h : Int), .int .u64 (g : Int), .int .i64 (k : Int)] w fun e w' => e = .returned (.bool true) ∧ w = w' := by
  have hm := mixN_lt h
  unfold M64 at hm
  have hd : ((mixN h : Int) / 4294967296) = (pointN h : Int) := by unfold pointN; omega
  have hp : pointN h < 4294967296 := by unfold pointN; omega
  have e1 : ((mixN g : Int) == (mixN h : Int)) = false := by
    rw [beq_eq_false_iff_ne]; intro h0; exact e (mix_inj h g hh hg (by omega))
  have e2 : ((g : Int) == (h : Int)) = false := by rw [beq_eq_false_iff_ne]; omega
  have hk : mixN h % k < k := Nat.mod_lt _ (by omega)
  have hle : mixN h % k ≤ mixN h := Nat.mod_le _ _
  have hz := Lib.hid (show ((mixN h : Int) - ((mixN h % k : Nat) : Int)) % (k : Int) = 0 by rw [← Int.natCast_sub hle, ← Int.natCast_emod, rem_zero]; rfl)
  go_enter Try.func6, Try.ntmps6
  go_wp2_with fail
  refine (mixC h hh _).mono ?_
  rintro e w' ⟨rfl, rfl⟩
  go_wp2_with fail
  refine (backMix h hh _).mono ?_
  rintro e w' ⟨rfl, rfl⟩
  go_wp2_with fail
  refine (mixC g hg _).mono ?_
  rintro e w' ⟨rfl, rfl⟩
  go_wp2_with fail
  refine (pointC h hh _).mono ?_
  rintro e w' ⟨rfl, rfl⟩
  go_wp2_with fail
  refine (slotHigh h k hh hn h2 _).mono ?_
  rintro e w' ⟨rfl, rfl⟩
  generalize mixN h % k = s at *
  generalize mixN h = m at *
  have hz := hz.out
  go_wp2
  go_ret
  exact ⟨rfl, rfl⟩
theorem lawC (h g : Nat) (n : Int) (hh : h < M64) (hg : g < M64) (hn : -9223372036854775808 ≤ n ∧ n < 9223372036854775808) (w : World) :
    Calls Try.prog 6 #[.int .u64 (h : Int), .int .u64 (g : Int), .int .i64 n] w fun e w' => e = .returned (.bool true) ∧ w = w' := by
  by_cases e : h = g <;> by_cases h2 : n < 2
  · subst e; exact sameLow h n hh hn h2 w
  · subst e
    obtain ⟨k, rfl⟩ := Int.eq_ofNat_of_zero_le (show 0 ≤ n by omega)
    exact sameHigh h k hh (by omega) (by omega) w
  · exact diffLow h g n hh hg e hn h2 w
  · obtain ⟨k, rfl⟩ := Int.eq_ofNat_of_zero_le (show 0 ≤ n by omega)
    exact diffHigh h g k hh hg e (by omega) (by omega) w
end Go.Proofs.Ytbcohjddnelldaa.HashU
