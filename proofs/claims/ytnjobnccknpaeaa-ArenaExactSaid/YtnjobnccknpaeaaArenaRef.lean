/-
  The document's arena: what its two blocks hold, and the walk of its There, Copy, Eq, Read.
-/
import Derived.Test.YtnjobnccknpaeaaArenaOps2
namespace Go.Proofs.Ytnjobnccknpaeaa.Arena
open Go.RowKit Base
set_option linter.unusedVariables false

/-- Block g is a document's arena of pages of 'page' bytes, whose bytes l lie in block h. -/
structure AtR (w : World) (g h page : Nat) (l : List UInt8) : Prop where
  head : w.heap[g]? = some (.cells #[.int .i64 (page : Int), .slice (some ⟨h, 0, none⟩) l.length l.length] 124 (0, 0))
  bytes : BB w 5 h l
  pos : 0 < page
  small : l.length ≤ 1073741824
  psmall : page ≤ 1073741824
theorem AtR.ne {w : World} {g h page : Nat} {l : List UInt8} (a : AtR w g h page l) : g ≠ h := by
  intro hc
  subst hc
  have h1 := a.head
  have h2 := a.bytes
  unfold BB at h2
  rw [h1] at h2
  injection h2 with h2
  injection h2 with _ h3
  exact absurd h3 (by decide)
theorem AtR.cell0 {w : World} {g h page : Nat} {l : List UInt8} (a : AtR w g h page l) : w.cell? ⟨g, 0, none⟩ = some (.int .i64 (page : Int)) := by
  rw [cell_of_row w g 0 _ _ (0, 0) a.head]; rfl
theorem AtR.cell1 {w : World} {g h page : Nat} {l : List UInt8} (a : AtR w g h page l) : w.cell? ⟨g, 1, none⟩ = some (.slice (some ⟨h, 0, none⟩) l.length l.length) := by
  rw [cell_of_row w g 1 _ _ (0, 0) a.head]; rfl
theorem AtR.keep {w w' : World} {g h page : Nat} {l : List UInt8} (a : AtR w g h page l) (hg : w'.heap[g]? = w.heap[g]?) (hh : w'.heap[h]? = w.heap[h]?) : AtR w' g h page l :=
  ⟨hg.trans a.head, (hh.trans a.bytes : _), a.pos, a.small, a.psmall⟩
theorem AtR.only {w w' : World} {S : Nat → Prop} {g h page : Nat} {l : List UInt8} (a : AtR w g h page l) (o : Only S w w') (hg : ¬ S g) (hh : ¬ S h) : AtR w' g h page l :=
  a.keep (o.block g (heap_lt a.head) hg) (o.block h a.bytes.lt hh)
theorem AtR.drewN {w : World} {g h page : Nat} {l : List UInt8} (a : AtR w g h page l) (n : Nat) : AtR (w.drewN n) g h page l := a.keep rfl rfl
theorem AtR.turn {w w' : World} {g h page : Nat} {l l' : List UInt8} (a : AtR w g h page l) (o : Only (· = h) w w') (hb : BB w' 5 h l') (hl : l'.length = l.length) : AtR w' g h page l' := by
  refine ⟨?_, hb, a.pos, by rw [hl]; exact a.small, a.psmall⟩
  rw [hl]
  exact (o.block g (heap_lt a.head) a.ne).trans a.head

theorem div_same (p q page : Nat) (hp : 0 < page) (hq : 1 ≤ q) : (p / page = (p + q - 1) / page) ↔ p % page + q ≤ page := by
  have e := Nat.div_add_mod p page
  have lt := Nat.mod_lt p hp
  constructor
  · intro h
    have h1 : (p + q - 1) < page * (p / page + 1) := by
      have h2 := Nat.lt_mul_div_succ (p + q - 1) hp
      rw [← h] at h2
      exact h2
    rw [Nat.mul_add, Nat.mul_one] at h1
    omega
  · intro h
    have h1 : (p + q - 1) / page = p / page := by
      apply Nat.div_eq_of_lt_le
      · rw [Nat.mul_comm]; omega
      · rw [Nat.add_mul, Nat.one_mul, Nat.mul_comm]; omega
    exact h1.symm

theorem refThereNo (w : World) (g h page : Nat) (l : List UInt8) (a : AtR w g h page l) (at_ n : Int) (ha : inI64 at_) (hn : inI64 n) (hno : n < 0 ∨ at_ < 0 ∨ (l.length : Int) < at_ ∨ (l.length : Int) - at_ < n) :
    Calls Try.prog 82 #[.pointer (some ⟨g, 0, none⟩), .int .i64 at_, .int .i64 n] w fun e w' => e = .returned (.bool false) ∧ ∃ m, w.drewN m = w' := by
  have c1 := a.cell1
  have hs := a.small
  obtain ⟨ha1, ha2⟩ := ha
  obtain ⟨hn1, hn2⟩ := hn
  have hc : n < 0 ∨ (0 ≤ n ∧ at_ < 0) ∨ (0 ≤ n ∧ 0 ≤ at_ ∧ (l.length : Int) < at_) ∨ (0 ≤ n ∧ 0 ≤ at_ ∧ at_ ≤ l.length ∧ (l.length : Int) - at_ < n) := by omega
  clear hno a
  rcases hc with q | ⟨q1, q2⟩ | ⟨q1, q2, q3⟩ | ⟨q1, q2, q3, q4⟩
  · have d1 : decide (n < 0) = true := by simp; omega
    go_enter Try.func82, Try.ntmps82
    go_wp2
    go_ret
    exact ⟨rfl, 0, rfl⟩
  · have d1 : decide (n < 0) = false := by simp; omega
    have d2 : decide (at_ < 0) = true := by simp; omega
    go_enter Try.func82, Try.ntmps82
    go_wp2
    go_ret
    exact ⟨rfl, 0, rfl⟩
  · have d1 : decide (n < 0) = false := by simp; omega
    have d2 : decide (at_ < 0) = false := by simp; omega
    have d3 : decide ((l.length : Int) < at_) = true := by simp; omega
    go_enter Try.func82, Try.ntmps82
    go_wp2
    go_ret
    exact ⟨rfl, 0, rfl⟩
  · have d1 : decide (n < 0) = false := by simp; omega
    have d2 : decide (at_ < 0) = false := by simp; omega
    have d3 : decide ((l.length : Int) < at_) = false := by simp; omega
    have d4 : decide ((l.length : Int) - at_ < n) = true := by simp; omega
    go_enter Try.func82, Try.ntmps82
    go_wp2
    go_ret
    exact ⟨rfl, 0, rfl⟩
theorem refThere0 (w : World) (g h page : Nat) (l : List UInt8) (a : AtR w g h page l) (p : Nat) (hp : p ≤ l.length) :
    Calls Try.prog 82 #[.pointer (some ⟨g, 0, none⟩), .int .i64 (p : Int), .int .i64 0] w fun e w' => e = .returned (.bool true) ∧ ∃ m, w.drewN m = w' := by
  have c1 := a.cell1
  have hs := a.small
  have d2 : decide ((p : Int) < 0) = false := by simp
  have d3 : decide ((l.length : Int) < p) = false := by simp; omega
  have d4 : decide ((l.length : Int) - p < 0) = false := by simp; omega
  clear a
  go_enter Try.func82, Try.ntmps82
  go_wp2
  go_ret
  exact ⟨rfl, 0, rfl⟩
theorem refThere1 (w : World) (g h page : Nat) (l : List UInt8) (a : AtR w g h page l) (p q : Nat) (hq : 1 ≤ q) (hp : p + q ≤ l.length) :
    Calls Try.prog 82 #[.pointer (some ⟨g, 0, none⟩), .int .i64 (p : Int), .int .i64 (q : Int)] w fun e w' => e = .returned (.bool (decide (p % page + q ≤ page))) ∧ ∃ m, w.drewN m = w' := by
  have c0 := a.cell0
  have c1 := a.cell1
  have hs := a.small
  have hps := a.psmall
  have hpos := a.pos
  have hz : (page : Int) ≠ 0 := by omega
  have d1 : decide ((q : Int) < 0) = false := by simp
  have d2 : decide ((p : Int) < 0) = false := by simp
  have d3 : decide ((l.length : Int) < p) = false := by simp; omega
  have d4 : decide ((l.length : Int) - p < q) = false := by simp; omega
  have d5 : decide ((q : Int) = 0) = false := by simp; omega
  have d6 : ((q : Int) == 0) = false := by simp; omega
  have t1 : (p : Int).tdiv (page : Int) = ((p / page : Nat) : Int) := by rw [Int.tdiv_eq_ediv_of_nonneg (by omega)]; rfl
  have t2 : ((p : Int) + (q : Int) - 1).tdiv (page : Int) = (((p + q - 1) / page : Nat) : Int) := by
    rw [Int.tdiv_eq_ediv_of_nonneg (by omega), show (p : Int) + (q : Int) - 1 = ((p + q - 1 : Nat) : Int) by omega]; rfl
  have w1 : IntKind.i64.wrap ((p : Int) + (q : Int)) = (p : Int) + q := IntWalk.i64_in _ (by omega)
  have w2 : IntKind.i64.wrap ((p : Int) + (q : Int) - 1) = (p : Int) + q - 1 := IntWalk.i64_in _ (by omega)
  have b1 : p / page ≤ p := Nat.div_le_self _ _
  have b2 : (p + q - 1) / page ≤ p + q - 1 := Nat.div_le_self _ _
  have hx := Lib.hid (div_same p q page hpos hq)
  generalize p / page = X at *
  generalize (p + q - 1) / page = Y at *
  have w3 : IntKind.i64.wrap (X : Int) = X := IntWalk.i64_in _ (by omega)
  have w4 : IntKind.i64.wrap (Y : Int) = Y := IntWalk.i64_in _ (by omega)
  by_cases hc : X = Y
  · have e1 : ((X : Int) == (Y : Int)) = true := by simp; omega
    have e2 : decide ((X : Int) = (Y : Int)) = true := by simp; omega
    have e3 : decide (X = Y) = true := by simp; omega
    have hr : decide (p % page + q ≤ page) = true := decide_eq_true (hx.out.1 hc)
    replace hr := Lib.hid hr
    replace hc := Lib.hid hc
    clear a
    go_enter Try.func82, Try.ntmps82
    go_wp2_with fail
    go_quiet (fail)
    go_wp2
    go_ret
    exact ⟨by rw [hr.out]; rfl, _, rfl⟩
  · have e1 : ((X : Int) == (Y : Int)) = false := by simp; omega
    have e2 : decide ((X : Int) = (Y : Int)) = false := by simp; omega
    have e3 : decide (X = Y) = false := by simp; omega
    have hr : decide (p % page + q ≤ page) = false := decide_eq_false fun h => hc (hx.out.2 h)
    replace hr := Lib.hid hr
    clear a
    go_enter Try.func82, Try.ntmps82
    go_wp2_with fail
    go_quiet (fail)
    go_wp2
    go_ret
    exact ⟨by rw [hr.out]; rfl, _, rfl⟩
theorem refThereC (w : World) (g h page : Nat) (l : List UInt8) (a : AtR w g h page l) (at_ n : Int) (ha : inI64 at_) (hn : inI64 n) :
    Calls Try.prog 82 #[.pointer (some ⟨g, 0, none⟩), .int .i64 at_, .int .i64 n] w fun e w' => e = .returned (.bool (there page l.length at_ n)) ∧ ∃ m, w.drewN m = w' := by
  by_cases hno : n < 0 ∨ at_ < 0 ∨ (l.length : Int) < at_ ∨ (l.length : Int) - at_ < n
  · have ht : there page l.length at_ n = false := decide_eq_false fun h => by
      obtain ⟨h1, h2, h3, -⟩ := h
      omega
    rw [ht]
    exact refThereNo w g h page l a at_ n ha hn hno
  · obtain ⟨p, rfl⟩ := Int.eq_ofNat_of_zero_le (show 0 ≤ at_ by omega)
    obtain ⟨q, rfl⟩ := Int.eq_ofNat_of_zero_le (show 0 ≤ n by omega)
    rcases Nat.eq_zero_or_pos q with rfl | hq
    · have ht : there page l.length (p : Int) ((0 : Nat) : Int) = true := decide_eq_true ⟨by omega, by omega, by omega, .inl rfl⟩
      rw [ht]
      exact refThere0 w g h page l a p (by omega)
    · have ht : there page l.length (p : Int) (q : Int) = decide (p % page + q ≤ page) := by
        unfold there There
        apply decide_eq_decide.2
        constructor
        · rintro ⟨-, -, -, h | h⟩
          · omega
          · rw [← Int.natCast_emod] at h; omega
        · intro h
          exact ⟨by omega, by omega, by omega, .inr (by rw [← Int.natCast_emod]; omega)⟩
      rw [ht]
      exact refThere1 w g h page l a p q hq (by omega)
end Go.Proofs.Ytnjobnccknpaeaa.Arena
