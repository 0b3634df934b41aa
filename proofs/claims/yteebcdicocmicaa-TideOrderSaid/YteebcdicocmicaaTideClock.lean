/-
  The walks of Expiry, Dead and the clock, the program's and the document's.
-/
import Derived.Test.YteebcdicocmicaaRows
import Derived.Test.YteebcdicocmicaaBase
namespace Go.Proofs.Yteebcdicocmicaa.Clk
open Go.RowKit Base
set_option linter.unusedVariables false

theorem numC (n : Int) (w : World) (h : -9223372036854775808 ≤ n ∧ n < 9223372036854775808) : Calls Try.prog 15 #[.int .i64 n] w fun e w' => e = .returned (.int .i64 n) ∧ w = w' := by
  obtain ⟨h1, h2⟩ := h
  go_enter Try.func15, Try.ntmps15
  go_wp2
  go_ret
  exact ⟨rfl, rfl⟩
def clampF (now : Int) : Int := if now < 1 then 1 else if 1099511627776 < now then 1099511627776 else now
def expF (now t : Int) : Int := if t = 0 then 0 else if t < 0 then clampF now else if t ≤ 2592000 then clampF now + t else t
theorem exp_case {now t E v : Int} (h : E = expF now t) (hv : (t = 0 ∧ v = 0) ∨ (t < 0 ∧ v = min (max now 1) 1099511627776) ∨ (0 < t ∧ t ≤ 2592000 ∧ v = min (max now 1) 1099511627776 + t) ∨ (2592000 < t ∧ v = t)) : v = E := by
  rw [h]
  unfold expF clampF
  repeat' split
  all_goals omega
theorem expiryC (now t : Int) (w : World) : Calls Try.prog 10 #[.int .i64 now, .int .i64 t] w fun e w' => e = .returned (.int .i64 (expF now t)) ∧ w = w' := by
  have ht : t = 0 ∨ t < 0 ∨ (0 < t ∧ t ≤ 2592000) ∨ 2592000 < t := by omega
  have hn : now < 1 ∨ 1099511627776 < now ∨ (1 ≤ now ∧ now ≤ 1099511627776) := by omega
  have hE : ∃ E, E = expF now t := ⟨_, rfl⟩
  obtain ⟨E, hE⟩ := hE
  rw [← hE]
  replace hE := Lib.hid hE
  rcases ht with rfl | ht | ⟨ht, ht2⟩ | ht
  all_goals rcases hn with hn | hn | ⟨hn, hn2⟩
  all_goals
    go_enter Try.func10, Try.ntmps10
    go_wp2
    go_ret
    exact ⟨ret_int (exp_case hE.out (by first | omega | (simp; omega))), rfl⟩
theorem expiryR (now t : Int) (w : World) : Calls Try.prog 11 #[.int .i64 now, .int .i64 t] w fun e w' => e = .returned (.int .i64 (expF now t)) ∧ w = w' := by
  have ht : t = 0 ∨ t < 0 ∨ (0 < t ∧ t ≤ 2592000) ∨ 2592000 < t := by omega
  have hn : now < 1 ∨ 1099511627776 < now ∨ (1 ≤ now ∧ now ≤ 1099511627776) := by omega
  have hE : ∃ E, E = expF now t := ⟨_, rfl⟩
  obtain ⟨E, hE⟩ := hE
  rw [← hE]
  replace hE := Lib.hid hE
  rcases ht with rfl | ht | ⟨ht, ht2⟩ | ht
  all_goals rcases hn with hn | hn | ⟨hn, hn2⟩
  all_goals
    go_enter Try.func11, Try.ntmps11
    go_wp2
    go_ret
    exact ⟨ret_int (exp_case hE.out (by first | omega | (simp; omega))), rfl⟩
def deadF (x tok now cut : Int) : Bool := (decide (0 < x) && decide (x ≤ now)) || decide (tok ≤ cut)
theorem deadC (x tok now cut : Int) (w : World) : Calls Try.prog 12 #[.int .i64 x, .int .u64 tok, .int .i64 now, .int .u64 cut] w fun e w' => e = .returned (.bool (deadF x tok now cut)) ∧ w = w' := by
  have hf : deadF x tok now cut = ((decide (0 < x) && decide (x ≤ now)) || decide (tok ≤ cut)) := rfl
  replace hf := Lib.hid hf
  by_cases a1 : 0 < x ∧ x ≤ now
  · obtain ⟨b1, b2⟩ := a1
    go_enter Try.func12, Try.ntmps12
    go_wp2
    go_ret
    exact ⟨ret_bool (by rw [hf.out]; simp [b1, b2]), rfl⟩
  · have hd : (decide (0 < x) && decide (x ≤ now)) = false := by simp; omega
    have a2 : ¬ 0 < x ∨ (0 < x ∧ decide (x ≤ now) = false) := by
      rcases Int.lt_or_le 0 x with h | h
      · exact .inr ⟨h, by simp; omega⟩
      · exact .inl (by omega)
    replace hd := Lib.hid hd
    clear a1
    rcases a2 with a2 | ⟨a2, a3⟩
    all_goals
      go_enter Try.func12, Try.ntmps12
      go_wp2
      go_ret
      exact ⟨ret_bool (by rw [hf.out, hd.out]; rfl), rfl⟩
theorem deadR (x tok now cut : Int) (w : World) : Calls Try.prog 13 #[.int .i64 x, .int .u64 tok, .int .i64 now, .int .u64 cut] w fun e w' => e = .returned (.bool (deadF x tok now cut)) ∧ w = w' := by
  have hf : deadF x tok now cut = ((decide (0 < x) && decide (x ≤ now)) || decide (tok ≤ cut)) := rfl
  replace hf := Lib.hid hf
  by_cases a1 : 0 < x ∧ x ≤ now
  · obtain ⟨b1, b2⟩ := a1
    have b3 : 1 ≤ x := by omega
    go_enter Try.func13, Try.ntmps13
    go_wp2
    go_ret
    exact ⟨ret_bool (by rw [hf.out]; simp [b1, b2]), rfl⟩
  · have hd : (decide (0 < x) && decide (x ≤ now)) = false := by simp; omega
    have a2 : ¬ 1 ≤ x ∨ (1 ≤ x ∧ decide (x ≤ now) = false) := by
      rcases Int.lt_or_le 0 x with h | h
      · exact .inr ⟨h, by simp; omega⟩
      · exact .inl (by omega)
    replace hd := Lib.hid hd
    clear a1
    rcases a2 with a2 | ⟨a2, a3⟩
    all_goals
      go_enter Try.func13, Try.ntmps13
      go_wp2
      go_ret
      exact ⟨ret_bool (by rw [hf.out, hd.out]; rfl), rfl⟩

/-- A clock of the program's; of the document's. -/
def Ck (w : World) (g : Nat) (now pend cut : Int) : Prop := Blk w g 106 #[.int .i64 now, .int .i64 pend, .int .u64 cut]
def Rc (w : World) (g : Nat) (now pend cut : Int) : Prop := Blk w g 111 #[.int .i64 now, .int .u64 cut, .int .i64 pend]
def newOK (now pend : Int) : Bool := decide (1 ≤ now) && decide (now ≤ 1099511627776) && (decide (pend = 0) || decide (now < pend))
theorem newYes (now cut pend : Int) (w : World) (h : newOK now pend = true) : Calls Try.prog 16 #[.int .i64 now, .int .u64 cut, .int .i64 pend] w fun e w' => e = .returned (.tuple #[.pointer (some ⟨w.heap.size, 0, none⟩), .int .i64 0]) ∧ Ck w' w.heap.size now pend cut ∧ Below w.heap.size w w' := by
  unfold newOK at h
  simp only [Bool.and_eq_true, Bool.or_eq_true, decide_eq_true_eq] at h
  obtain ⟨⟨h1, h2⟩, h3⟩ := h
  rcases h3 with rfl | h3
  · go_enter Try.func16, Try.ntmps16
    go_wp2
    go_ret2
    exact ⟨rfl, Blk.new _ _ _, (Below.refl _ _).alloc (Nat.le_refl _) _⟩
  · have h4 : (pend == 0) = false := beq_eq_false_iff_ne.2 (by omega)
    have h5 : (pend != 0) = true := by rw [bne_iff_ne]; omega
    have h6 : decide (pend ≤ now) = false := by simp; omega
    go_enter Try.func16, Try.ntmps16
    go_wp2
    go_ret2
    exact ⟨rfl, Blk.new _ _ _, (Below.refl _ _).alloc (Nat.le_refl _) _⟩
theorem newNo (now cut pend : Int) (w : World) (h : newOK now pend = false) : Calls Try.prog 16 #[.int .i64 now, .int .u64 cut, .int .i64 pend] w fun e w' => e = .returned (.tuple #[.pointer none, .int .i64 1]) ∧ w = w' := by
  unfold newOK at h
  by_cases a1 : now < 1
  · go_enter Try.func16, Try.ntmps16
    go_wp2
    go_ret2
    exact ⟨rfl, rfl⟩
  by_cases a2 : 1099511627776 < now
  · go_enter Try.func16, Try.ntmps16
    go_wp2
    go_ret2
    exact ⟨rfl, rfl⟩
  have a3 : pend ≠ 0 ∧ pend ≤ now := by
    simp only [Bool.and_eq_false_iff, Bool.or_eq_false_iff, decide_eq_false_iff_not] at h
    omega
  obtain ⟨a4, a5⟩ := a3
  have h5 : (pend != 0) = true := by rw [bne_iff_ne]; omega
  clear h
  go_enter Try.func16, Try.ntmps16
  go_wp2
  go_ret2
  exact ⟨rfl, rfl⟩
end Go.Proofs.Yteebcdicocmicaa.Clk
