/-
  The walks of math/bits.OnesCount64 at any number up to 2^20, and of arena.New where it refuses.
-/
import Derived.Test.YtnjobnccknpaeaaArenaNew
import Derived.Test.YtnjobnccknpaeaaOnesPlain
namespace Go.Proofs.Ytnjobnccknpaeaa.Arena
open Go.RowKit Base Ones
set_option linter.unusedVariables false

set_option maxRecDepth 100000 in
theorem ones64N (x : Nat) (hx : x ≤ 1048576) (w : World) : Calls Try.prog 73 #[.int .u64 (x : Int)] w fun e w' => e = .returned (.int .i64 (ones x : Int)) ∧ w = w' := by
  obtain ⟨r1, r2, r3, r4, r5⟩ := ones_y x hx _ _ rfl rfl
  have f0 : bits .and .u64 ((x : Int) / 2) 6148914691236517205 = ((x / 2 &&& 6148914691236517205 : Nat) : Int) := bits_and_u64_nat (x / 2) 6148914691236517205 (by omega) (by omega)
  have f1 : bits .and .u64 (x : Int) 6148914691236517205 = ((x &&& 6148914691236517205 : Nat) : Int) := bits_and_u64_nat x 6148914691236517205 (by omega) (by omega)
  have g0 : y0 x = (x / 2 &&& 6148914691236517205) + (x &&& 6148914691236517205) := rfl
  generalize (x / 2 &&& 6148914691236517205) = A at *
  generalize (x &&& 6148914691236517205) = B at *
  rw [g0] at r1 r2 r3 r4 r5
  have f2 : bits .and .u64 (((A : Int) + (B : Int)) / 4) 3689348814741910323 = (((A + B) / 4 &&& 3689348814741910323 : Nat) : Int) := bits_and_u64_nat ((A + B) / 4) 3689348814741910323 (by omega) (by omega)
  have f3 : bits .and .u64 ((A : Int) + (B : Int)) 3689348814741910323 = (((A + B) &&& 3689348814741910323 : Nat) : Int) := bits_and_u64_nat (A + B) 3689348814741910323 (by omega) (by omega)
  have g1 : y1 (A + B) = ((A + B) / 4 &&& 3689348814741910323) + ((A + B) &&& 3689348814741910323) := rfl
  generalize ((A + B) / 4 &&& 3689348814741910323) = C at *
  generalize ((A + B) &&& 3689348814741910323) = D at *
  rw [g1] at r1 r2 r4 r5
  have f4 : bits .and .u64 (((C : Int) + (D : Int)) / 16 + ((C : Int) + (D : Int))) 1085102592571150095 = ((((C + D) / 16 + (C + D)) &&& 1085102592571150095 : Nat) : Int) := bits_and_u64_nat ((C + D) / 16 + (C + D)) 1085102592571150095 (by omega) (by omega)
  have g2 : y2 (C + D) = ((C + D) / 16 + (C + D)) &&& 1085102592571150095 := rfl
  generalize (((C + D) / 16 + (C + D)) &&& 1085102592571150095) = U at *
  rw [g2] at r1 r2 r5
  clear g0 g1 g2
  obtain ⟨V1, hV1⟩ : ∃ V1, V1 = U + U / 256 := ⟨_, rfl⟩
  rw [← hV1] at r1 r2
  obtain ⟨V2, hV2⟩ : ∃ V2, V2 = V1 + V1 / 65536 := ⟨_, rfl⟩
  rw [← hV2] at r1 r2
  have f5 : bits .and .i64 ((V2 : Int) + (V2 : Int) / 4294967296) 127 = (ones x : Int) := by rw [i64_and127, ← r1]; omega
  have q1 : (U : Int) + (U : Int) / 256 = V1 := by omega
  have q2 : (V1 : Int) + (V1 : Int) / 65536 = V2 := by omega
  have q3 : V1 < 16777216 := by omega
  have q4 : V2 < 16777216 := by omega
  generalize ones x = o at *
  clear r1 hV1 hV2
  go_enter Try.func73, Try.ntmps73
  go_wp2
  go_ret
  exact ⟨rfl, rfl⟩
theorem onesN (x : Nat) (hx : x ≤ 1048576) (w : World) : Calls Try.prog 36 #[.int .u64 (x : Int)] w fun e w' => e = .returned (.int .i64 (ones x : Int)) ∧ w = w' := by
  have C := Lib.hid (ones64N x hx w)
  generalize ones x = o at *
  go_enter Try.func36, Try.ntmps36
  go_wp2_with fail
  refine C.out.mono ?_
  rintro e w' ⟨rfl, rfl⟩
  go_wp2
  go_ret
  exact ⟨rfl, rfl⟩
theorem right_of_ones {x : Nat} (h0 : 4096 ≤ x) (h1 : x ≤ 1048576) (h : ones x = 1) : RightPage x := power h0 h1 h

def newRef (w w' : World) (e : Ending) : Prop := e = .returned (.tuple #[.pointer none, .int .i64 1]) ∧ w = w'
set_option maxRecDepth 100000 in
theorem newNo1 (w : World) (p n : Int) (hp : inI64 p) (hn : inI64 n) (h : p < 4096) :
    Calls Try.prog 9 #[.int .i64 p, .int .i64 n] w fun e w' => e = .returned (.tuple #[.pointer none, .int .i64 1]) ∧ w = w' := by
  obtain ⟨p1, p2⟩ := hp
  obtain ⟨n1, n2⟩ := hn
  go_enter Try.func9, Try.ntmps9
  go_wp2
  go_ret2
  exact ⟨rfl, rfl⟩
set_option maxRecDepth 100000 in
theorem newNo2 (w : World) (p n : Int) (hp : inI64 p) (hn : inI64 n) (h : 1048576 < p) :
    Calls Try.prog 9 #[.int .i64 p, .int .i64 n] w fun e w' => e = .returned (.tuple #[.pointer none, .int .i64 1]) ∧ w = w' := by
  obtain ⟨p1, p2⟩ := hp
  obtain ⟨n1, n2⟩ := hn
  have q : ¬ p < 4096 := by omega
  have qb : decide (p < 4096) = false := decide_eq_false q
  have qc : decide (1048576 < p) = true := decide_eq_true h
  go_enter Try.func9, Try.ntmps9
  go_wp2
  go_ret2
  exact ⟨rfl, rfl⟩
set_option maxRecDepth 100000 in
theorem newNo3 (w : World) (p : Nat) (n : Int) (hn : inI64 n) (h0 : 4096 ≤ p) (h1 : p ≤ 1048576) (h : ones p ≠ 1) :
    Calls Try.prog 9 #[.int .i64 (p : Int), .int .i64 n] w fun e w' => e = .returned (.tuple #[.pointer none, .int .i64 1]) ∧ w = w' := by
  obtain ⟨n1, n2⟩ := hn
  have C := Lib.hid (onesN p h1 w)
  generalize ones p = o at *
  have hb : ((o : Int) != 1) = true := by rw [bne_iff_ne]; omega
  have hq : ¬ (o : Int) = 1 := by omega
  go_enter Try.func9, Try.ntmps9
  go_wp2_with fail
  refine C.out.mono ?_
  rintro e w' ⟨rfl, rfl⟩
  go_wp2
  go_ret2
  exact ⟨rfl, rfl⟩
set_option maxRecDepth 100000 in
theorem newNo4 (w : World) (p : Nat) (n : Int) (hn : inI64 n) (h1 : RightPage p) (h : n < 1) :
    Calls Try.prog 9 #[.int .i64 (p : Int), .int .i64 n] w fun e w' => e = .returned (.tuple #[.pointer none, .int .i64 1]) ∧ w = w' := by
  obtain ⟨n1, n2⟩ := hn
  have C := Lib.hid (onesC p h1 w)
  have hb := h1.bd
  clear h1
  go_enter Try.func9, Try.ntmps9
  go_wp2_with fail
  refine C.out.mono ?_
  rintro e w' ⟨rfl, rfl⟩
  go_wp2
  go_ret2
  exact ⟨rfl, rfl⟩
set_option maxRecDepth 100000 in
theorem newNo5 (w : World) (p : Nat) (n : Int) (hn : inI64 n) (h1 : RightPage p) (h : 1024 < n) :
    Calls Try.prog 9 #[.int .i64 (p : Int), .int .i64 n] w fun e w' => e = .returned (.tuple #[.pointer none, .int .i64 1]) ∧ w = w' := by
  obtain ⟨n1, n2⟩ := hn
  have C := Lib.hid (onesC p h1 w)
  have hb := h1.bd
  have q1 : decide (n < 1) = false := by simp; omega
  have q2 : decide (1024 < n) = true := by simp; omega
  clear h1
  go_enter Try.func9, Try.ntmps9
  go_wp2_with fail
  refine C.out.mono ?_
  rintro e w' ⟨rfl, rfl⟩
  go_wp2
  go_ret2
  exact ⟨rfl, rfl⟩
/-- Is an arena of p bytes a page and n pages to be had? -/
def Had (p n : Int) : Prop := (∃ k : Nat, p = (k : Int) ∧ RightPage k) ∧ 1 ≤ n ∧ n ≤ 1024
theorem newNo (w : World) (p n : Int) (hp : inI64 p) (hn : inI64 n) (h : ¬ Had p n) :
    Calls Try.prog 9 #[.int .i64 p, .int .i64 n] w fun e w' => e = .returned (.tuple #[.pointer none, .int .i64 1]) ∧ w = w' := by
  by_cases c1 : p < 4096
  · exact newNo1 w p n hp hn c1
  by_cases c2 : 1048576 < p
  · exact newNo2 w p n hp hn c2
  obtain ⟨k, rfl⟩ := Int.eq_ofNat_of_zero_le (show 0 ≤ p by omega)
  by_cases c3 : ones k = 1
  · have hr := right_of_ones (by omega) (by omega) c3
    by_cases c4 : n < 1
    · exact newNo4 w k n hn hr c4
    · exact newNo5 w k n hn hr (by
        rcases Int.lt_or_le 1024 n with h5 | h5
        · exact h5
        · exact absurd ⟨⟨k, rfl, hr⟩, by omega, h5⟩ h)
  · exact newNo3 w k n hn (by omega) (by omega) c3
end Go.Proofs.Ytnjobnccknpaeaa.Arena
