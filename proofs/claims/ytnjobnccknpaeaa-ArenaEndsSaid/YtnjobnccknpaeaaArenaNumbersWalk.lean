/-
  Walk of the law ArenaNumbers: what is laid is told again, the highest byte first; of a nil arena nothing is told (printed by a small program of mine: one text for each width).
-/
import Derived.Test.YtnjobnccknpaeaaArenaWithin
namespace Go.Proofs.Ytnjobnccknpaeaa.Arena
open Go.RowKit Base
set_option linter.unusedVariables false

/-- The argument in its block. -/
def NBox (w : World) (b : Nat) (i wd : Int) (v ar : Nat) (own : Bool) : Prop := w.heap[b]? = some (.cells #[.int .i64 i, .int .i64 wd, .int .u64 (v : Int), .int .u64 (ar : Int), .bool own] 24 (0, 0))
theorem NBox.cells {w : World} {b : Nat} {i wd : Int} {v ar : Nat} {own : Bool} (h : NBox w b i wd v ar own) : w.cell? ⟨b, 0, none⟩ = some (.int .i64 i) ∧ w.cell? ⟨b, 1, none⟩ = some (.int .i64 wd) ∧ w.cell? ⟨b, 2, none⟩ = some (.int .u64 (v : Int)) ∧
    w.cell? ⟨b, 3, none⟩ = some (.int .u64 (ar : Int)) ∧ w.cell? ⟨b, 4, none⟩ = some (.bool own) := by
  unfold NBox at h
  refine ⟨?_, ?_, ?_, ?_, ?_⟩ <;> (rw [cell_of_row w b _ _ 24 (0, 0) h]; rfl)
theorem beN_append (a b : List UInt8) : beN (a ++ b) = beN a * 256 ^ b.length + beN b := by
  rw [← List.reverse_reverse b]
  induction b.reverse with
  | nil => simp [beN]
  | cons c r ih =>
    rw [List.reverse_cons, ← List.append_assoc, beN_snoc, ih, beN_snoc, List.length_append, List.length_singleton, Nat.pow_succ]
    rw [Nat.add_mul, Nat.mul_assoc]
    omega
/-- A number of 2 k bytes is made of two of k. -/
theorem beN_halves (L : List UInt8) (p k : Nat) (h : p + (k + k) ≤ L.length) : beN ((L.drop p).take (k + k)) = beN ((L.drop p).take k) * 256 ^ k + beN ((L.drop (p + k)).take k) := by
  rw [List.take_add, beN_append, List.drop_drop]
  congr 2
  have : ((L.drop (p + k)).take k).length = k := by simp; omega
  rw [this]
/-- What stands in the three places. -/
theorem three (Z A B C : List UInt8) (q k : Nat) (hA : A.length = 8) (hB : B.length = 8) (hC : C.length = k) (h : q + 16 + k ≤ Z.length) :
    (lay (lay (lay Z q A) (q + 8 + k) B) (q + 8) C).length = Z.length ∧ ((lay (lay (lay Z q A) (q + 8 + k) B) (q + 8) C).drop q).take 8 = A ∧ ((lay (lay (lay Z q A) (q + 8 + k) B) (q + 8) C).drop (q + 8)).take k = C ∧
    ((lay (lay (lay Z q A) (q + 8 + k) B) (q + 8) C).drop (q + 8 + k)).take 8 = B := by
  have l1 : (lay Z q A).length = Z.length := lay_len _ _ _ (by omega)
  have l2 : (lay (lay Z q A) (q + 8 + k) B).length = Z.length := by rw [lay_len _ _ _ (by omega), l1]
  have l3 : (lay (lay (lay Z q A) (q + 8 + k) B) (q + 8) C).length = Z.length := by rw [lay_len _ _ _ (by omega), l2]
  refine ⟨l3, ?_, ?_, ?_⟩
  · rw [piece_out _ _ _ _ _ (by omega) (.inl (by omega)), piece_out _ _ _ _ _ (by omega) (.inl (by omega))]
    have := piece_lay Z q A (by omega)
    rwa [hA] at this
  · have := piece_lay (lay (lay Z q A) (q + 8 + k) B) (q + 8) C (by omega)
    rwa [hC] at this
  · rw [piece_out _ _ _ _ _ (by omega) (.inr (by omega))]
    have := piece_lay (lay Z q A) (q + 8 + k) B (by omega)
    rwa [hB] at this
theorem at_drewN {w : World} {g h page : Nat} {l : List UInt8} (a : At w g h page l) (n : Nat) : At (w.drewN n) g h page l := a.keep rfl rfl

set_option maxRecDepth 100000 in
set_option maxHeartbeats 1600000 in
theorem num1 (w : World) (i wd : Int) (v ar : Nat) (own : Bool) (hi : inI64 i) (hwd : inI64 wd) (hk : widthN wd = 1) (hv : v < 18446744073709551616) (har : ar < 18446744073709551616) :
    Calls Try.prog 3 #[.agg #[.int .i64 i, .int .i64 wd, .int .u64 (v : Int), .int .u64 (ar : Int), .bool own]] w fun e w' => e = .returned (.bool true) ∧ Below w.heap.size w w' := by
  have N := Lib.hid (newYes (w.alloc (.cells #[.int .i64 i, .int .i64 wd, .int .u64 (v : Int), .int .u64 (ar : Int), .bool own] 24)) 4096 2 (by unfold RightPage; omega) (by omega) (by omega))
  have hbox : NBox (w.alloc (.cells #[.int .i64 i, .int .i64 wd, .int .u64 (v : Int), .int .u64 (ar : Int), .bool own] 24)) w.heap.size i wd v ar own := heap_alloc_new _ _
  have hbel0 : Below w.heap.size w (w.alloc (.cells #[.int .i64 i, .int .i64 wd, .int .u64 (v : Int), .int .u64 (ar : Int), .bool own] 24)) := (Below.refl _ _).alloc (Nat.le_refl _) _
  have hsz0 : (w.alloc (.cells #[.int .i64 i, .int .i64 wd, .int .u64 (v : Int), .int .u64 (ar : Int), .bool own] 24)).heap.size = w.heap.size + 1 := World.size_alloc _ _
  have num0 := Lib.hid (numC 0 (by unfold inI64; omega))
  have WD : ∀ w : World, Calls Try.prog 11 #[.int .i64 wd] w fun e w' => e = .returned (.int .i64 1) ∧ w = w' := fun w => by
    have := widthOfC wd hwd w
    rw [hk] at this
    exact this
  have q0 := Int.emod_nonneg i (show (4072 : Int) ≠ 0 by decide)
  have q1 := Int.emod_lt_of_pos i (show (0 : Int) < 4072 by decide)
  obtain ⟨q, hq⟩ := Int.eq_ofNat_of_zero_le q0
  have WI : ∀ w : World, Calls Try.prog 12 #[.int .i64 i, .int .i64 4072] w fun e w' => e = .returned (.int .i64 (q : Int)) ∧ w = w' := fun w => by
    have := withinC i 4072 hi (by omega) (by omega) w
    rw [show ((4072 : Nat) : Int) = 4072 from rfl, hq] at this
    exact this
  have hq4 : q < 4072 := by omega
  clear q0 q1 hq
  replace WD := Lib.hid WD
  replace WI := Lib.hid WI
  clear hk
  go_enter Try.func3, Try.ntmps3
  go_wp2_with fail
  generalize w.alloc (.cells #[.int .i64 i, .int .i64 wd, .int .u64 (v : Int), .int .u64 (ar : Int), .bool own] 24) = wB at *
  refine N.out.mono ?_
  rintro e w1 ⟨rfl, a1, hb1, hs1⟩
  have bx1 : NBox w1 w.heap.size i wd v ar own := (hb1.block _ (by omega)).trans hbox
  replace hb1 : Below w.heap.size w w1 := hbel0.trans (hb1.mono hbel0.size)
  have lZ : (List.replicate (4096 * 2) (0 : UInt8)).length = 8192 := by simp
  generalize List.replicate (4096 * 2) (0 : UInt8) = Z at *
  have hgl : w.heap.size < wB.heap.size := by omega
  have hgl2 : wB.heap.size + 1 < w1.heap.size := heap_lt a1.head
  clear hbel0 hbox N hsz0
  replace hs1 := Lib.hid hs1
  generalize wB.heap.size + 1 = g at *
  generalize wB.heap.size = h at *
  generalize hbb : w.heap.size = b at *
  replace hbb := Lib.hid hbb
  have lA := putB_len 8 ar
  have lC := putB_len 1 v
  have T := three Z (putB 8 ar) (putB 8 ar) (putB 1 v) q 1 lA lA lC (by omega)
  have p1 : ∀ at_ : Int, at_ = (q : Int) → Calls Try.prog 13 #[.pointer (some ⟨g, 0, none⟩), .int .i64 at_, .int .i64 8, .int .u64 (ar : Int), .bool false] w1 fun e w' => e = .returned (.int .i64 0) ∧ At w' g h 4096 (lay Z q (putB 8 ar)) ∧ Only (· = h) w1 w' ∧ w'.heap.size = w1.heap.size := by
    rintro _ rfl
    exact putDYes 8 (by unfold Wide; omega) false w1 g h 4096 Z a1 q ar har (by unfold There; omega)
  have lY1 : (lay Z q (putB 8 ar)).length = 8192 := by rw [lay_len _ _ _ (by omega), lZ]
  generalize hY1 : lay Z q (putB 8 ar) = Y1 at *
  have p2 : ∀ (w2 : World), At w2 g h 4096 Y1 → ∀ at_ : Int, at_ = (q : Int) + 8 + 1 → Calls Try.prog 13 #[.pointer (some ⟨g, 0, none⟩), .int .i64 at_, .int .i64 8, .int .u64 (ar : Int), .bool true] w2 fun e w' => e = .returned (.int .i64 0) ∧ At w' g h 4096 (lay Y1 (q + 8 + 1) (putB 8 ar)) ∧ Only (· = h) w2 w' ∧ w'.heap.size = w2.heap.size := by
    rintro w2 a2 _ rfl
    have := putDYes 8 (by unfold Wide; omega) true w2 g h 4096 Y1 a2 ((q : Int) + 8 + 1) ar har (by unfold There; omega)
    rwa [show ((q : Int) + 8 + 1).toNat = q + 8 + 1 by omega] at this
  have lY2 : (lay Y1 (q + 8 + 1) (putB 8 ar)).length = 8192 := by rw [lay_len _ _ _ (by omega), lY1]
  generalize hY2 : lay Y1 (q + 8 + 1) (putB 8 ar) = Y2 at *
  have p3 : ∀ (w2 : World), At w2 g h 4096 Y2 → ∀ at_ : Int, at_ = (q : Int) + 8 → ∀ x : Int, x = (v : Int) % 256 → Calls Try.prog 13 #[.pointer (some ⟨g, 0, none⟩), .int .i64 at_, .int .i64 1, .int .u64 x, .bool own] w2 fun e w' => e = .returned (.int .i64 0) ∧ At w' g h 4096 (lay Y2 (q + 8) (putB 1 v)) ∧ Only (· = h) w2 w' ∧ w'.heap.size = w2.heap.size := by
    rintro w2 a2 _ rfl _ rfl
    have := putDYes 1 (by unfold Wide; omega) own w2 g h 4096 Y2 a2 ((q : Int) + 8) (v % 256) (by omega) (by unfold There; omega)
    rw [show ((q : Int) + 8).toNat = q + 8 by omega, show putB 1 (v % 256) = putB 1 v from putB_mod 1 v, show ((v % 256 : Nat) : Int) = (v : Int) % 256 by omega] at this
    exact this
  obtain ⟨lY3, T1, T2, T3⟩ := T
  have hal := beN_halves (lay Y2 (q + 8) (putB 1 v))
  have G : ∀ (w2 : World), At w2 g h 4096 (lay Y2 (q + 8) (putB 1 v)) → ∀ (p n : Nat) (at_ : Int) (o : Bool), at_ = (p : Int) → q ≤ p → p + n ≤ 4096 → Wide n →
      Calls Try.prog 14 #[.pointer (some ⟨g, 0, none⟩), .int .i64 at_, .int .i64 (n : Int), .bool o] w2 fun e w' => e = .returned (.tuple #[.int .u64 ((beN (((lay Y2 (q + 8) (putB 1 v)).drop p).take n) : Nat) : Int), .int .i64 0]) ∧ ∃ m, w2.drewN m = w' := by
    rintro w2 a2 p n _ o rfl h1 h2 hn
    exact getDYes n hn o w2 g h 4096 _ a2 p (by rw [lY3, lZ]; unfold There; unfold Wide at hn; omega)
  generalize lay Y2 (q + 8) (putB 1 v) = Y3 at *
  have e1 : beN ((Y3.drop q).take 8) = ar := by rw [T1, beN_putB]; exact Nat.mod_eq_of_lt har
  have e2 : beN ((Y3.drop (q + 8)).take 1) = v % 256 := by rw [T2, beN_putB]
  have e3 : beN ((Y3.drop (q + 8 + 1)).take 8) = ar := by rw [T3, beN_putB]; exact Nat.mod_eq_of_lt har
  clear T1 T2 T3 hY1 hY2 lA lC lY1 lY2
  rw [lZ] at lY3
  replace e1 := Lib.hid e1; replace e2 := Lib.hid e2; replace e3 := Lib.hid e3
  replace lZ := Lib.hid lZ; replace lY3 := Lib.hid lY3
  replace p1 := Lib.hid p1; replace p2 := Lib.hid p2; replace p3 := Lib.hid p3; replace G := Lib.hid G
  replace hal := Lib.hid hal
  obtain ⟨c0, c1, c2, c3, c4⟩ := bx1.cells
  go_wp2_with fail
  refine (num0.out _).mono ?_
  rintro e w' ⟨rfl, rfl⟩
  go_wp2_with fail
  refine (WD.out _).mono ?_
  rintro e w' ⟨rfl, rfl⟩
  go_wp2_with fail
  refine (WI.out _).mono ?_
  rintro e w' ⟨rfl, rfl⟩
  go_wp2_with fail
  refine (p1.out _ (by omega)).mono ?_
  rintro e w2 ⟨rfl, a2, ho2, hs2⟩
  have bx2 : NBox w2 b i wd v ar own := (ho2.block b (by have := hs1.out; omega) (by show ¬ b = h; omega)).trans bx1
  clear c0 c1 c2 c3 c4
  obtain ⟨c0, c1, c2, c3, c4⟩ := bx2.cells
  replace hs2 := Lib.hid hs2
  go_wp2_with fail
  refine (p2.out _ a2 _ (by omega)).mono ?_
  rintro e w3 ⟨rfl, a3, ho3, hs3⟩
  have bx3 : NBox w3 b i wd v ar own := (ho3.block b (by have := hs2.out; have := hs1.out; omega) (by show ¬ b = h; omega)).trans bx2
  clear c0 c1 c2 c3 c4
  obtain ⟨c0, c1, c2, c3, c4⟩ := bx3.cells
  replace hs3 := Lib.hid hs3
  go_wp2_with fail
  refine (p3.out _ a3 _ (by omega) _ (by first | rfl | omega)).mono ?_
  rintro e w4 ⟨rfl, a4, ho4, hs4⟩
  have bx4 : NBox w4 b i wd v ar own := (ho4.block b (by have := hs3.out; have := hs2.out; have := hs1.out; omega) (by show ¬ b = h; omega)).trans bx3
  have hb4 : Below b w w4 := by
    have o := (ho2.trans ho3 (fun _ _ h => h)).trans ho4 (fun _ _ h => h)
    exact hb1.trans (o.toBelow (fun k hk => ⟨by have := hs1.out; omega, by show ¬ k = h; omega⟩))
  clear c0 c1 c2 c3 c4
  obtain ⟨c0, c1, c2, c3, c4⟩ := bx4.cells
  clear bx1 bx2 bx3 bx4 ho2 ho3 ho4 a1 a2 a3 p1 p2 p3 hb1
  replace hs4 := Lib.hid hs4
  go_wp2_with fail
  refine (G.out _ a4 q 8 _ _ (by omega) (by omega) (by omega) (by unfold Wide; omega)).mono ?_
  rw [e1.out]
  rintro e w' ⟨rfl, m1, hw5⟩
  have a5 : At w' g h 4096 Y3 := by rw [← hw5]; exact at_drewN a4 m1
  have b5 : Below b w w' := by rw [← hw5]; exact below_drewN hb4 m1
  have c5 : w'.cell? ⟨b, 3, none⟩ = some (.int .u64 (ar : Int)) ∧ w'.cell? ⟨b, 4, none⟩ = some (.bool own) := by rw [← hw5]; exact ⟨c3, c4⟩
  clear c0 c1 c2 c3 c4 hw5 hb4 a4
  obtain ⟨c3, c4⟩ := c5
  go_wp2_with fail
  refine (G.out _ a5 (q + 8) 1 _ _ (by omega) (by omega) (by omega) (by unfold Wide; omega)).mono ?_
  rw [e2.out]
  rintro e w6 ⟨rfl, m2, hw6⟩
  have a6 : At w6 g h 4096 Y3 := by rw [← hw6]; exact at_drewN a5 m2
  have b6 : Below b w w6 := by rw [← hw6]; exact below_drewN b5 m2
  have c6 : w6.cell? ⟨b, 3, none⟩ = some (.int .u64 (ar : Int)) ∧ w6.cell? ⟨b, 4, none⟩ = some (.bool own) := by rw [← hw6]; exact ⟨c3, c4⟩
  clear c3 c4 hw6 b5 a5
  obtain ⟨c3, c4⟩ := c6
  go_wp2_with fail
  refine (G.out _ a6 (q + 8 + 1) 8 _ _ (by omega) (by omega) (by omega) (by unfold Wide; omega)).mono ?_
  rw [e3.out]
  rintro e w7 ⟨rfl, m3, hw7⟩
  have a7 : At w7 g h 4096 Y3 := by rw [← hw7]; exact at_drewN a6 m3
  have b7 : Below b w w7 := by rw [← hw7]; exact below_drewN b6 m3
  have c7 : w7.cell? ⟨b, 3, none⟩ = some (.int .u64 (ar : Int)) ∧ w7.cell? ⟨b, 4, none⟩ = some (.bool own) := by rw [← hw7]; exact ⟨c3, c4⟩
  clear c3 c4 hw7 b6 a6
  obtain ⟨c3, c4⟩ := c7
  go_wp2
  have GN := Lib.hid (getDNil 1 (by unfold Wide; omega) own)
  have PN : ∀ (w : World) (at_ x : Int), x = (v : Int) % 256 → Calls Try.prog 13 #[.pointer none, .int .i64 at_, .int .i64 1, .int .u64 x, .bool own] w fun e w' => e = .returned (.int .i64 1) ∧ w = w' := by
    rintro w at_ _ rfl
    have := putDNil 1 (by unfold Wide; omega) own w at_ (v % 256) (by omega)
    rw [show ((v % 256 : Nat) : Int) = (v : Int) % 256 by omega] at this
    exact this
  replace PN := Lib.hid PN
  go_loopw [14] (fun x wr => ∃ j : Nat, (j = 1) ∧ x = .int .i64 (j : Int) ∧ At wr g h 4096 Y3 ∧ Below b w wr ∧ wr.cell? ⟨b, 4, none⟩ = some (.bool own)) (fun x _ => (intOf x).toNat)
  case atStart => exact ⟨1, by omega, rfl, a7, b7, c4⟩
  case round =>
    obtain ⟨j, hj, rfl, ar7, br7, cr4⟩ := hrel
    clear a7 b7 c3 c4
    rcases hj with rfl
    · go_wp2_with fail
      refine (GN.out _ _).mono ?_
      rintro e w' ⟨rfl, rfl⟩
      go_wp2_with fail
      refine (PN.out _ _ _ (by first | rfl | omega)).mono ?_
      rintro e w' ⟨rfl, rfl⟩
      go_wp2
      go_ret
      exact ⟨rfl, hbb.out.symm ▸ br7⟩
set_option maxRecDepth 100000 in
set_option maxHeartbeats 1600000 in
theorem num2 (w : World) (i wd : Int) (v ar : Nat) (own : Bool) (hi : inI64 i) (hwd : inI64 wd) (hk : widthN wd = 2) (hv : v < 18446744073709551616) (har : ar < 18446744073709551616) :
    Calls Try.prog 3 #[.agg #[.int .i64 i, .int .i64 wd, .int .u64 (v : Int), .int .u64 (ar : Int), .bool own]] w fun e w' => e = .returned (.bool true) ∧ Below w.heap.size w w' := by
  have N := Lib.hid (newYes (w.alloc (.cells #[.int .i64 i, .int .i64 wd, .int .u64 (v : Int), .int .u64 (ar : Int), .bool own] 24)) 4096 2 (by unfold RightPage; omega) (by omega) (by omega))
  have hbox : NBox (w.alloc (.cells #[.int .i64 i, .int .i64 wd, .int .u64 (v : Int), .int .u64 (ar : Int), .bool own] 24)) w.heap.size i wd v ar own := heap_alloc_new _ _
  have hbel0 : Below w.heap.size w (w.alloc (.cells #[.int .i64 i, .int .i64 wd, .int .u64 (v : Int), .int .u64 (ar : Int), .bool own] 24)) := (Below.refl _ _).alloc (Nat.le_refl _) _
  have hsz0 : (w.alloc (.cells #[.int .i64 i, .int .i64 wd, .int .u64 (v : Int), .int .u64 (ar : Int), .bool own] 24)).heap.size = w.heap.size + 1 := World.size_alloc _ _
  have num0 := Lib.hid (numC 0 (by unfold inI64; omega))
  have WD : ∀ w : World, Calls Try.prog 11 #[.int .i64 wd] w fun e w' => e = .returned (.int .i64 2) ∧ w = w' := fun w => by
    have := widthOfC wd hwd w
    rw [hk] at this
    exact this
  have q0 := Int.emod_nonneg i (show (4072 : Int) ≠ 0 by decide)
  have q1 := Int.emod_lt_of_pos i (show (0 : Int) < 4072 by decide)
  obtain ⟨q, hq⟩ := Int.eq_ofNat_of_zero_le q0
  have WI : ∀ w : World, Calls Try.prog 12 #[.int .i64 i, .int .i64 4072] w fun e w' => e = .returned (.int .i64 (q : Int)) ∧ w = w' := fun w => by
    have := withinC i 4072 hi (by omega) (by omega) w
    rw [show ((4072 : Nat) : Int) = 4072 from rfl, hq] at this
    exact this
  have hq4 : q < 4072 := by omega
  clear q0 q1 hq
  replace WD := Lib.hid WD
  replace WI := Lib.hid WI
  clear hk
  go_enter Try.func3, Try.ntmps3
  go_wp2_with fail
  generalize w.alloc (.cells #[.int .i64 i, .int .i64 wd, .int .u64 (v : Int), .int .u64 (ar : Int), .bool own] 24) = wB at *
  refine N.out.mono ?_
  rintro e w1 ⟨rfl, a1, hb1, hs1⟩
  have bx1 : NBox w1 w.heap.size i wd v ar own := (hb1.block _ (by omega)).trans hbox
  replace hb1 : Below w.heap.size w w1 := hbel0.trans (hb1.mono hbel0.size)
  have lZ : (List.replicate (4096 * 2) (0 : UInt8)).length = 8192 := by simp
  generalize List.replicate (4096 * 2) (0 : UInt8) = Z at *
  have hgl : w.heap.size < wB.heap.size := by omega
  have hgl2 : wB.heap.size + 1 < w1.heap.size := heap_lt a1.head
  clear hbel0 hbox N hsz0
  replace hs1 := Lib.hid hs1
  generalize wB.heap.size + 1 = g at *
  generalize wB.heap.size = h at *
  generalize hbb : w.heap.size = b at *
  replace hbb := Lib.hid hbb
  have lA := putB_len 8 ar
  have lC := putB_len 2 v
  have T := three Z (putB 8 ar) (putB 8 ar) (putB 2 v) q 2 lA lA lC (by omega)
  have p1 : ∀ at_ : Int, at_ = (q : Int) → Calls Try.prog 13 #[.pointer (some ⟨g, 0, none⟩), .int .i64 at_, .int .i64 8, .int .u64 (ar : Int), .bool false] w1 fun e w' => e = .returned (.int .i64 0) ∧ At w' g h 4096 (lay Z q (putB 8 ar)) ∧ Only (· = h) w1 w' ∧ w'.heap.size = w1.heap.size := by
    rintro _ rfl
    exact putDYes 8 (by unfold Wide; omega) false w1 g h 4096 Z a1 q ar har (by unfold There; omega)
  have lY1 : (lay Z q (putB 8 ar)).length = 8192 := by rw [lay_len _ _ _ (by omega), lZ]
  generalize hY1 : lay Z q (putB 8 ar) = Y1 at *
  have p2 : ∀ (w2 : World), At w2 g h 4096 Y1 → ∀ at_ : Int, at_ = (q : Int) + 8 + 2 → Calls Try.prog 13 #[.pointer (some ⟨g, 0, none⟩), .int .i64 at_, .int .i64 8, .int .u64 (ar : Int), .bool true] w2 fun e w' => e = .returned (.int .i64 0) ∧ At w' g h 4096 (lay Y1 (q + 8 + 2) (putB 8 ar)) ∧ Only (· = h) w2 w' ∧ w'.heap.size = w2.heap.size := by
    rintro w2 a2 _ rfl
    have := putDYes 8 (by unfold Wide; omega) true w2 g h 4096 Y1 a2 ((q : Int) + 8 + 2) ar har (by unfold There; omega)
    rwa [show ((q : Int) + 8 + 2).toNat = q + 8 + 2 by omega] at this
  have lY2 : (lay Y1 (q + 8 + 2) (putB 8 ar)).length = 8192 := by rw [lay_len _ _ _ (by omega), lY1]
  generalize hY2 : lay Y1 (q + 8 + 2) (putB 8 ar) = Y2 at *
  have p3 : ∀ (w2 : World), At w2 g h 4096 Y2 → ∀ at_ : Int, at_ = (q : Int) + 8 → ∀ x : Int, x = (v : Int) % 65536 → Calls Try.prog 13 #[.pointer (some ⟨g, 0, none⟩), .int .i64 at_, .int .i64 2, .int .u64 x, .bool own] w2 fun e w' => e = .returned (.int .i64 0) ∧ At w' g h 4096 (lay Y2 (q + 8) (putB 2 v)) ∧ Only (· = h) w2 w' ∧ w'.heap.size = w2.heap.size := by
    rintro w2 a2 _ rfl _ rfl
    have := putDYes 2 (by unfold Wide; omega) own w2 g h 4096 Y2 a2 ((q : Int) + 8) (v % 65536) (by omega) (by unfold There; omega)
    rw [show ((q : Int) + 8).toNat = q + 8 by omega, show putB 2 (v % 65536) = putB 2 v from putB_mod 2 v, show ((v % 65536 : Nat) : Int) = (v : Int) % 65536 by omega] at this
    exact this
  obtain ⟨lY3, T1, T2, T3⟩ := T
  have hal := beN_halves (lay Y2 (q + 8) (putB 2 v))
  have G : ∀ (w2 : World), At w2 g h 4096 (lay Y2 (q + 8) (putB 2 v)) → ∀ (p n : Nat) (at_ : Int) (o : Bool), at_ = (p : Int) → q ≤ p → p + n ≤ 4096 → Wide n →
      Calls Try.prog 14 #[.pointer (some ⟨g, 0, none⟩), .int .i64 at_, .int .i64 (n : Int), .bool o] w2 fun e w' => e = .returned (.tuple #[.int .u64 ((beN (((lay Y2 (q + 8) (putB 2 v)).drop p).take n) : Nat) : Int), .int .i64 0]) ∧ ∃ m, w2.drewN m = w' := by
    rintro w2 a2 p n _ o rfl h1 h2 hn
    exact getDYes n hn o w2 g h 4096 _ a2 p (by rw [lY3, lZ]; unfold There; unfold Wide at hn; omega)
  generalize lay Y2 (q + 8) (putB 2 v) = Y3 at *
  have e1 : beN ((Y3.drop q).take 8) = ar := by rw [T1, beN_putB]; exact Nat.mod_eq_of_lt har
  have e2 : beN ((Y3.drop (q + 8)).take 2) = v % 65536 := by rw [T2, beN_putB]
  have e3 : beN ((Y3.drop (q + 8 + 2)).take 8) = ar := by rw [T3, beN_putB]; exact Nat.mod_eq_of_lt har
  clear T1 T2 T3 hY1 hY2 lA lC lY1 lY2
  rw [lZ] at lY3
  replace e1 := Lib.hid e1; replace e2 := Lib.hid e2; replace e3 := Lib.hid e3
  replace lZ := Lib.hid lZ; replace lY3 := Lib.hid lY3
  replace p1 := Lib.hid p1; replace p2 := Lib.hid p2; replace p3 := Lib.hid p3; replace G := Lib.hid G
  replace hal := Lib.hid hal
  obtain ⟨c0, c1, c2, c3, c4⟩ := bx1.cells
  go_wp2_with fail
  refine (num0.out _).mono ?_
  rintro e w' ⟨rfl, rfl⟩
  go_wp2_with fail
  refine (WD.out _).mono ?_
  rintro e w' ⟨rfl, rfl⟩
  go_wp2_with fail
  refine (WI.out _).mono ?_
  rintro e w' ⟨rfl, rfl⟩
  go_wp2_with fail
  refine (p1.out _ (by omega)).mono ?_
  rintro e w2 ⟨rfl, a2, ho2, hs2⟩
  have bx2 : NBox w2 b i wd v ar own := (ho2.block b (by have := hs1.out; omega) (by show ¬ b = h; omega)).trans bx1
  clear c0 c1 c2 c3 c4
  obtain ⟨c0, c1, c2, c3, c4⟩ := bx2.cells
  replace hs2 := Lib.hid hs2
  go_wp2_with fail
  refine (p2.out _ a2 _ (by omega)).mono ?_
  rintro e w3 ⟨rfl, a3, ho3, hs3⟩
  have bx3 : NBox w3 b i wd v ar own := (ho3.block b (by have := hs2.out; have := hs1.out; omega) (by show ¬ b = h; omega)).trans bx2
  clear c0 c1 c2 c3 c4
  obtain ⟨c0, c1, c2, c3, c4⟩ := bx3.cells
  replace hs3 := Lib.hid hs3
  go_wp2_with fail
  refine (p3.out _ a3 _ (by omega) _ (by first | rfl | omega)).mono ?_
  rintro e w4 ⟨rfl, a4, ho4, hs4⟩
  have bx4 : NBox w4 b i wd v ar own := (ho4.block b (by have := hs3.out; have := hs2.out; have := hs1.out; omega) (by show ¬ b = h; omega)).trans bx3
  have hb4 : Below b w w4 := by
    have o := (ho2.trans ho3 (fun _ _ h => h)).trans ho4 (fun _ _ h => h)
    exact hb1.trans (o.toBelow (fun k hk => ⟨by have := hs1.out; omega, by show ¬ k = h; omega⟩))
  clear c0 c1 c2 c3 c4
  obtain ⟨c0, c1, c2, c3, c4⟩ := bx4.cells
  clear bx1 bx2 bx3 bx4 ho2 ho3 ho4 a1 a2 a3 p1 p2 p3 hb1
  replace hs4 := Lib.hid hs4
  go_wp2_with fail
  refine (G.out _ a4 q 8 _ _ (by omega) (by omega) (by omega) (by unfold Wide; omega)).mono ?_
  rw [e1.out]
  rintro e w' ⟨rfl, m1, hw5⟩
  have a5 : At w' g h 4096 Y3 := by rw [← hw5]; exact at_drewN a4 m1
  have b5 : Below b w w' := by rw [← hw5]; exact below_drewN hb4 m1
  have c5 : w'.cell? ⟨b, 3, none⟩ = some (.int .u64 (ar : Int)) ∧ w'.cell? ⟨b, 4, none⟩ = some (.bool own) := by rw [← hw5]; exact ⟨c3, c4⟩
  clear c0 c1 c2 c3 c4 hw5 hb4 a4
  obtain ⟨c3, c4⟩ := c5
  go_wp2_with fail
  refine (G.out _ a5 (q + 8) 2 _ _ (by omega) (by omega) (by omega) (by unfold Wide; omega)).mono ?_
  rw [e2.out]
  rintro e w6 ⟨rfl, m2, hw6⟩
  have a6 : At w6 g h 4096 Y3 := by rw [← hw6]; exact at_drewN a5 m2
  have b6 : Below b w w6 := by rw [← hw6]; exact below_drewN b5 m2
  have c6 : w6.cell? ⟨b, 3, none⟩ = some (.int .u64 (ar : Int)) ∧ w6.cell? ⟨b, 4, none⟩ = some (.bool own) := by rw [← hw6]; exact ⟨c3, c4⟩
  clear c3 c4 hw6 b5 a5
  obtain ⟨c3, c4⟩ := c6
  go_wp2_with fail
  refine (G.out _ a6 (q + 8 + 2) 8 _ _ (by omega) (by omega) (by omega) (by unfold Wide; omega)).mono ?_
  rw [e3.out]
  rintro e w7 ⟨rfl, m3, hw7⟩
  have a7 : At w7 g h 4096 Y3 := by rw [← hw7]; exact at_drewN a6 m3
  have b7 : Below b w w7 := by rw [← hw7]; exact below_drewN b6 m3
  have c7 : w7.cell? ⟨b, 3, none⟩ = some (.int .u64 (ar : Int)) ∧ w7.cell? ⟨b, 4, none⟩ = some (.bool own) := by rw [← hw7]; exact ⟨c3, c4⟩
  clear c3 c4 hw7 b6 a6
  obtain ⟨c3, c4⟩ := c7
  go_wp2
  have GN := Lib.hid (getDNil 2 (by unfold Wide; omega) own)
  have PN : ∀ (w : World) (at_ x : Int), x = (v : Int) % 65536 → Calls Try.prog 13 #[.pointer none, .int .i64 at_, .int .i64 2, .int .u64 x, .bool own] w fun e w' => e = .returned (.int .i64 1) ∧ w = w' := by
    rintro w at_ _ rfl
    have := putDNil 2 (by unfold Wide; omega) own w at_ (v % 65536) (by omega)
    rw [show ((v % 65536 : Nat) : Int) = (v : Int) % 65536 by omega] at this
    exact this
  replace PN := Lib.hid PN
  go_loopw [14] (fun x wr => ∃ j : Nat, (j = 1 ∨ j = 2) ∧ x = .int .i64 (j : Int) ∧ At wr g h 4096 Y3 ∧ Below b w wr ∧ wr.cell? ⟨b, 4, none⟩ = some (.bool own)) (fun x _ => (intOf x).toNat)
  case atStart => exact ⟨2, by omega, rfl, a7, b7, c4⟩
  case round =>
    obtain ⟨j, hj, rfl, ar7, br7, cr4⟩ := hrel
    clear a7 b7 c3 c4
    rcases hj with rfl | rfl
    · go_wp2_with fail
      refine (GN.out _ _).mono ?_
      rintro e w' ⟨rfl, rfl⟩
      go_wp2_with fail
      refine (PN.out _ _ _ (by first | rfl | omega)).mono ?_
      rintro e w' ⟨rfl, rfl⟩
      go_wp2
      go_ret
      exact ⟨rfl, hbb.out.symm ▸ br7⟩
    · have hW := hal.out (q + 8) 1 (by have := lY3.out; omega)
      have bH := beN_lt ((Y3.drop (q + 8)).take 1)
      have bL := beN_lt ((Y3.drop (q + 8 + 1)).take 1)
      rw [show ((Y3.drop (q + 8)).take 1).length = 1 by have := lY3.out; simp; omega] at bH
      rw [show ((Y3.drop (q + 8 + 1)).take 1).length = 1 by have := lY3.out; simp; omega] at bL
      have g1 := G.out _ ar7 (q + 8) 2
      have g2 : ∀ w2, At w2 g h 4096 Y3 → _ := fun w2 a => G.out w2 a (q + 8) 1
      have g3 : ∀ w2, At w2 g h 4096 Y3 → _ := fun w2 a => G.out w2 a (q + 8 + 1) 1
      rw [show 1 + 1 = 2 from rfl] at hW
      generalize beN ((Y3.drop (q + 8)).take 2) = W at *
      generalize beN ((Y3.drop (q + 8)).take 1) = H at *
      generalize beN ((Y3.drop (q + 8 + 1)).take 1) = L at *
      have f1 : IntKind.u64.wrap ((H : Int) * 256) = (H : Int) * 256 := by rw [IntKind.wrap_u64]; omega
      have f2 : IntKind.u64.wrap (W : Int) = (W : Int) := by rw [IntKind.wrap_u64]; omega
      have f3 : (H : Int) * 256 + (L : Int) = (W : Int) := by omega
      replace hW := Lib.hid hW
      replace g1 := Lib.hid g1; replace g2 := Lib.hid g2; replace g3 := Lib.hid g3
      clear bH bL
      go_wp2_with fail
      refine (g1.out _ _ (by omega) (by omega) (by omega) (by unfold Wide; omega)).mono ?_
      rintro e w8 ⟨rfl, m8, hw8⟩
      have a8 : At w8 g h 4096 Y3 := by rw [← hw8]; exact at_drewN ar7 m8
      have b8 : Below b w w8 := by rw [← hw8]; exact below_drewN br7 m8
      have c8 : w8.cell? ⟨b, 4, none⟩ = some (.bool own) := by rw [← hw8]; exact cr4
      clear cr4 hw8 br7 ar7
      go_wp2_with fail
      refine (g2.out _ a8 _ _ (by omega) (by omega) (by omega) (by unfold Wide; omega)).mono ?_
      rintro e w9 ⟨rfl, m9, hw9⟩
      have a9 : At w9 g h 4096 Y3 := by rw [← hw9]; exact at_drewN a8 m9
      have b9 : Below b w w9 := by rw [← hw9]; exact below_drewN b8 m9
      have c9 : w9.cell? ⟨b, 4, none⟩ = some (.bool own) := by rw [← hw9]; exact c8
      clear c8 hw9 b8 a8
      go_wp2_with fail
      refine (g3.out _ a9 _ _ (by omega) (by omega) (by omega) (by unfold Wide; omega)).mono ?_
      rintro e w10 ⟨rfl, m10, hw10⟩
      have a10 : At w10 g h 4096 Y3 := by rw [← hw10]; exact at_drewN a9 m10
      have b10 : Below b w w10 := by rw [← hw10]; exact below_drewN b9 m10
      have c10 : w10.cell? ⟨b, 4, none⟩ = some (.bool own) := by rw [← hw10]; exact c9
      clear c9 hw10 b9 a9
      go_wp2
      go_roundw
      case rel => exact ⟨1, by omega, by first | rfl | go_num, a10, b10, c10⟩
      case measure => simp [intOf]
end Go.Proofs.Ytnjobnccknpaeaa.Arena
