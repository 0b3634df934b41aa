/-
  The walk of the statements' helper wakes; of the laws TideNames and TideTimes.
-/
import Derived.Test.YteebcdicocmicaaTideSet
import Derived.Test.YteebcdicocmicaaTideHandles
import Derived.Test.YteebcdicocmicaaTideClockR
namespace Go.Proofs.Yteebcdicocmicaa.Tide
open Go.RowKit Base Clk MapI
set_option linter.unusedVariables false

theorem sorted_eq {S T : List E} (hp : S.Perm T) (hS : S.Pairwise (fun x y => ¬ lt y x)) (hT : T.Pairwise (fun x y => ¬ lt y x)) (inj : ∀ a ∈ T, ∀ b ∈ T, ¬ lt a b → ¬ lt b a → a = b) : S = T :=
  List.Perm.eq_of_pairwise (le := fun x y => ¬ lt y x) (fun a b ha hb h1 h2 => inj a (hp.mem_iff.1 ha) b hb h2 h1) hS hT hp
theorem small_M64 {k : Nat} (h : k < 1000000) : k < M64 := by rw [M64_eq]; omega

/-- Above block number N. -/
def Up (N : Nat) (hv : Value) : Prop := ∀ b, hv.ownBlock = some b → N ≤ b
theorem up_nil (N : Nat) : Up N (.slice none 0 0) := fun b h => by simp [Value.ownBlock] at h
theorem up_next {N M : Nat} {hv hv' : Value} (h : Up N hv) (f : hv'.ownBlock = hv.ownBlock ∨ ∀ b, hv'.ownBlock = some b → M ≤ b) (hM : N ≤ M) : Up N hv' := by
  intro b hb
  rcases f with f | f
  · exact h b (by rw [← f]; exact hb)
  · exact Nat.le_trans hM (f b hb)
theorem foot_below {N g m : Nat} {hv : Value} {w w' : World} (o : Only (Foot2 g hv m) w w') (hg : N ≤ g) (hm : N ≤ m) (hu : Up N hv) (hN : N ≤ w.heap.size) : Below N w w' :=
  o.toBelow (fun k hk => ⟨by omega, fun hc => by
    rcases hc with h | h | h
    · omega
    · omega
    · have := hu k h; omega⟩)

set_option maxRecDepth 100000 in
set_option maxHeartbeats 3200000 in
theorem wakesC (w : World) : Calls Try.prog 14 #[] w fun e w' => e = .returned (.bool true) ∧ Below w.heap.size w w' := by
  have num0 := Lib.hid (fun w => numC 0 w (by omega))
  have NW := Lib.hid (Clk.newYes 1 0 0 w (by decide))
  have EX := Lib.hid (fun w => expiryC 100 60 w)
  have e160 := Lib.hid (show expF 100 60 = 160 by decide)
  have D1 := Lib.hid (fun w => deadC 160 1 160 0 w)
  have D2 := Lib.hid (fun w => deadC 160 1 159 0 w)
  have d1 := Lib.hid (show deadF 160 1 160 0 = true by decide)
  have d2 := Lib.hid (show deadF 160 1 159 0 = false by decide)
  go_enter Try.func14, Try.ntmps14
  go_wp2_with fail
  refine NW.out.mono ?_
  rintro e w1 ⟨rfl, ck1, b1⟩
  generalize hN : w.heap.size = N at *
  replace hN := Lib.hid hN
  clear NW
  go_wp2_with fail
  refine (num0.out _).mono ?_
  rintro e w' ⟨rfl, rfl⟩
  go_wp2_with fail
  refine (EX.out _).mono ?_
  rintro e w' ⟨rfl, rfl⟩
  rw [e160.out]
  go_wp2_with fail
  refine (D1.out _).mono ?_
  rintro e w' ⟨rfl, rfl⟩
  rw [d1.out]
  go_wp2_with fail
  refine (D2.out _).mono ?_
  rintro e w' ⟨rfl, rfl⟩
  rw [d2.out]
  have FL := Lib.hid (flushC w1 N 1 0 0 2 0 ck1 (by omega) (by omega))
  clear ck1
  go_wp2_with fail
  refine FL.out.mono ?_
  rintro e w2 ⟨rfl, ck2, o2⟩
  rw [show pendF 1 2 = 3 by decide, show cutF 0 2 0 = 0 by decide] at ck2
  have b2 : Below N w w2 := b1.trans (o2.toBelow (fun k hk => ⟨Nat.lt_of_lt_of_le hk (by have := b1.size; rw [hN.out] at this; exact this), by show ¬ k = N; omega⟩))
  have MV := Lib.hid (Clk.moveC w2 N 1 3 0 2 7 ck2 (by omega) (by omega))
  clear ck2 FL o2 b1
  go_wp2_with fail
  refine MV.out.mono ?_
  rintro e w3 ⟨rfl, ck3, o3⟩
  rw [show movN 1 2 = 3 by decide, show movP 1 3 2 = 0 by decide, show movC 1 3 0 2 7 = 7 by decide] at ck3
  rw [show movE 1 2 = 0 by decide]
  have b3 : Below N w w3 := b2.trans (o3.toBelow (fun k hk => ⟨Nat.lt_of_lt_of_le hk (by have := b2.size; rw [hN.out] at this; exact this), by show ¬ k = N; omega⟩))
  have NWW := Lib.hid (newC w3)
  have hNl : N < w3.heap.size := Blk.lt ck3
  clear MV o3 b2
  go_wp2_with fail
  refine NWW.out.mono ?_
  rintro e w4 ⟨g, m, rfl, wa, b4, hg, hm⟩
  have ck4 : Ck w4 N 3 0 7 := Blk.below ck3 b4 hNl
  have b4' : Below N w w4 := b3.trans (b4.mono (by omega))
  have C1 := Lib.hid (cutC w4 N 3 0 7 ck4)
  have C2 := Lib.hid (nowC w4 N 3 0 7 ck4)
  clear ck3 ck4 b3 b4 NWW
  go_wp2_with fail
  refine (num0.out _).mono ?_
  rintro e w' ⟨rfl, rfl⟩
  go_wp2_with fail
  refine C1.out.mono ?_
  rintro e w' ⟨rfl, rfl⟩
  go_wp2_with fail
  refine C2.out.mono ?_
  rintro e w' ⟨rfl, rfl⟩
  have S1 := Lib.hid (setC w4 g (.slice none 0 0) m 0 0 [] 9 4 wa (small_M64 (by omega)) (by simp) (by simp) (by omega))
  clear wa
  go_wp2_with fail
  refine S1.out.mono ?_
  rintro e w5 ⟨rfl, hv5, n5, wa5, o5, f5, hn5⟩
  rw [show setT 4 0 = 1 by decide, show setR [] 9 4 0 = [⟨9, 4, 1⟩] from rfl] at wa5
  have hNs : N ≤ w4.heap.size := by have := b4'.size; rw [hN.out] at this; exact this
  have b5 : Below N w w5 := b4'.trans (foot_below o5 (by omega) (by omega) (up_nil N) hNs)
  have u5 : Up N hv5 := up_next (up_nil N) f5 hNs
  simp only [List.length_nil] at hn5
  have S2 := Lib.hid (setC w5 g hv5 m n5 1 [⟨9, 4, 1⟩] 5 4 wa5 (small_M64 (by omega)) (by simp; omega) (by simp) (by omega))
  clear wa5 S1 o5 f5
  go_wp2_with fail
  refine S2.out.mono ?_
  rintro e w6 ⟨rfl, hv6, n6, wa6, o6, f6, hn6⟩
  rw [show setT 4 1 = 2 by decide, show setR [⟨9, 4, 1⟩] 5 4 1 = [⟨9, 4, 1⟩, ⟨5, 4, 2⟩] from rfl] at wa6
  have b6 : Below N w w6 := b5.trans (foot_below o6 (by omega) (by omega) u5 (by have := b5.size; rw [hN.out] at this; exact this))
  have L1 := Lib.hid (lenC w6 g hv6 m n6 2 _ wa6)
  have DU1 := Lib.hid (dueC w6 g hv6 m n6 2 _ 4 9 wa6 (by simp) (by omega))
  replace wa6 := Lib.hid wa6
  clear S2 o6 f6 hn6 u5
  go_wp2_with fail
  refine L1.out.mono ?_
  rintro e w' ⟨rfl, rfl⟩
  go_wp2_with fail
  refine DU1.out.mono ?_
  rintro e w7 ⟨v7, S, k7, rfl, hp7, hs7, hk7, own7, b7⟩
  have hS : S = [⟨9, 4, 1⟩, ⟨5, 4, 2⟩] := by
    refine sorted_eq (by simpa using hp7) hs7 (by simp [lt]) ?_
    intro a ha b hb h1 h2
    simp at ha hb
    rcases ha with rfl | rfl <;> rcases hb with rfl | rfl <;> first | rfl | (simp [lt] at h1 h2)
  subst hS
  have wa7 := wa6.out.below b7
  have b7' : Below N w w7 := b6.trans (b7.mono (by have := b6.size; rw [hN.out] at this; exact this))
  have hl7 : HL w7 v7 [9, 5] := by
    have := HL.of_own (l := [9, 5]) (by rw [hands_nums] at own7; rw [hk7] at own7; exact own7)
    exact this
  have hv8 := fun (W : World) => HL.of_own (w := W.alloc (.cells #[.int .u64 9, .int .u64 5] 69)) (l := [9, 5]) (World.ownsRow_lit (size := 1) W #[.int .u64 9, .int .u64 5] 2 (Nat.le_refl _) (by simp [maxLen]) rfl)
  have HC := Lib.hid (handlesC (w7.alloc (.cells #[.int .u64 9, .int .u64 5] 69)) v7 _ _ _ (hl7.below ((Below.refl _ _).alloc (Nat.le_refl _) _)) (hv8 w7))
  replace wa7 := Lib.hid wa7
  replace b7' := Lib.hid b7'
  clear hp7 hs7 hk7 own7 b7 hl7 hv8 DU1 L1
  go_wp2_with fail
  refine HC.out.mono ?_
  rintro e w8 ⟨rfl, k8, hw8⟩
  have b8 : Below N w w8 := by
    rw [← hw8]
    exact below_drewN (b7'.out.alloc (by have := b7'.out.size; rw [hN.out] at this; exact this) _) _
  have wa8 := wa7.out.below (w' := w8) (by rw [← hw8]; exact below_drewN ((Below.refl _ _).alloc (Nat.le_refl _) _) _)
  have DU2 := Lib.hid (dueC w8 g hv6 m n6 2 _ 3 9 wa8 (by simp) (by omega))
  replace hw8 := Lib.hid hw8
  replace b8 := Lib.hid b8
  clear wa8 HC
  go_wp2_with fail
  refine DU2.out.mono ?_
  rintro e w9 ⟨v9, S, k9, rfl, hp9, hs9, hk9, own9, b9⟩
  obtain rfl : S = [] := by simpa using hp9
  obtain rfl : k9 = 0 := by rw [hk9]; rfl
  obtain ⟨A9, c9, rfl, h91, h92⟩ := own_len own9
  have fin : Below N w w9 := b8.out.trans (b9.mono (by have := b8.out.size; rw [hN.out] at this; exact this))
  rw [← hN.out] at fin
  replace fin := Lib.hid fin
  clear hp9 hs9 hk9 own9 b9 DU2
  go_wp2
  go_ret
  exact ⟨by simp, fin.out⟩
theorem namesC (w : World) : Calls Try.prog 4 #[] w fun e w' => e = .returned (.bool true) ∧ Below w.heap.size w w' := by
  have num1 := Lib.hid (fun w => numC 1 w (by omega))
  have num4 := Lib.hid (fun w => numC 4 w (by omega))
  have W := Lib.hid wakesC
  go_enter Try.func4, Try.ntmps4
  go_wp2_with fail
  refine (num1.out _).mono ?_
  rintro e w' ⟨rfl, rfl⟩
  go_wp2_with fail
  refine (num4.out _).mono ?_
  rintro e w' ⟨rfl, rfl⟩
  go_wp2_with fail
  refine (W.out _).mono ?_
  rintro e w' ⟨rfl, hb⟩
  replace hb := Lib.hid hb
  go_wp2
  go_ret
  exact ⟨rfl, hb.out⟩
end Go.Proofs.Yteebcdicocmicaa.Tide
