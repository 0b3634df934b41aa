/-
  The walk of (*Arena).there: the bytes that are there, or none.
-/
import Derived.Test.YtgodinapdahocaaArena
namespace Go.Proofs.Ytgodinapdahocaa.Arena
open Go.RowKit Base
set_option linter.unusedVariables false

theorem no1 (w : World) (g h page : Nat) (l : List UInt8) (a : At w g h page l) (at_ n : Int) (ha : inI64 at_) (hn : inI64 n) (q1 : at_ < 0) :
    Calls Try.prog 75 #[.pointer (some ⟨g, 0, none⟩), .int .i64 at_, .int .i64 n] w fun e w' => e = .returned (.tuple #[.slice none 0 0, .bool false]) ∧ ∃ k, w.drewN k = w' := by
  have c0 := a.cell0
  have c1 := a.cell1
  have hs := a.small
  have hp := a.pos
  have hps := a.psmall
  obtain ⟨ha1, ha2⟩ := ha
  obtain ⟨hn1, hn2⟩ := hn
  go_enter Try.func75, Try.ntmps75
  go_wp2_with fail
  go_quiet (fail)
  go_wp2
  go_ret2
  exact ⟨rfl, _, rfl⟩
theorem no2 (w : World) (g h page : Nat) (l : List UInt8) (a : At w g h page l) (at_ n : Int) (ha : inI64 at_) (hn : inI64 n) (q1 : 0 ≤ at_) (q2 : n < 0) :
    Calls Try.prog 75 #[.pointer (some ⟨g, 0, none⟩), .int .i64 at_, .int .i64 n] w fun e w' => e = .returned (.tuple #[.slice none 0 0, .bool false]) ∧ ∃ k, w.drewN k = w' := by
  have c0 := a.cell0
  have c1 := a.cell1
  have hs := a.small
  have hp := a.pos
  have hps := a.psmall
  obtain ⟨ha1, ha2⟩ := ha
  obtain ⟨hn1, hn2⟩ := hn
  have d1 : decide (at_ < 0) = false := by simp; omega
  go_enter Try.func75, Try.ntmps75
  go_wp2_with fail
  go_quiet (fail)
  go_wp2
  go_ret2
  exact ⟨rfl, _, rfl⟩
theorem no3 (w : World) (g h page : Nat) (l : List UInt8) (a : At w g h page l) (at_ n : Int) (ha : inI64 at_) (hn : inI64 n) (q1 : 0 ≤ at_) (q2 : 0 ≤ n) (q3 : (l.length : Int) < at_) :
    Calls Try.prog 75 #[.pointer (some ⟨g, 0, none⟩), .int .i64 at_, .int .i64 n] w fun e w' => e = .returned (.tuple #[.slice none 0 0, .bool false]) ∧ ∃ k, w.drewN k = w' := by
  have c0 := a.cell0
  have c1 := a.cell1
  have hs := a.small
  have hp := a.pos
  have hps := a.psmall
  obtain ⟨ha1, ha2⟩ := ha
  obtain ⟨hn1, hn2⟩ := hn
  have d1 : decide (at_ < 0) = false := by simp; omega
  have d2 : decide (n < 0) = false := by simp; omega
  go_enter Try.func75, Try.ntmps75
  go_wp2_with fail
  go_quiet (fail)
  go_wp2
  go_ret2
  exact ⟨rfl, _, rfl⟩
theorem no4 (w : World) (g h page : Nat) (l : List UInt8) (a : At w g h page l) (at_ n : Int) (ha : inI64 at_) (hn : inI64 n) (q1 : 0 ≤ at_) (q2 : 0 ≤ n) (q3 : at_ ≤ l.length) (q4 : (l.length : Int) - at_ < n) :
    Calls Try.prog 75 #[.pointer (some ⟨g, 0, none⟩), .int .i64 at_, .int .i64 n] w fun e w' => e = .returned (.tuple #[.slice none 0 0, .bool false]) ∧ ∃ k, w.drewN k = w' := by
  have c0 := a.cell0
  have c1 := a.cell1
  have hs := a.small
  have hp := a.pos
  have hps := a.psmall
  obtain ⟨ha1, ha2⟩ := ha
  obtain ⟨hn1, hn2⟩ := hn
  have d1 : decide (at_ < 0) = false := by simp; omega
  have d2 : decide (n < 0) = false := by simp; omega
  have d3 : decide ((l.length : Int) < at_) = false := by simp; omega
  have w4 : IntKind.i64.wrap ((l.length : Int) - at_) = (l.length : Int) - at_ := IntWalk.i64_in _ (by omega)
  go_enter Try.func75, Try.ntmps75
  go_wp2_with fail
  go_quiet (fail)
  go_wp2
  go_ret2
  exact ⟨rfl, _, rfl⟩
theorem no5 (w : World) (g h page : Nat) (l : List UInt8) (a : At w g h page l) (at_ n : Int) (ha : inI64 at_) (hn : inI64 n) (q1 : 0 ≤ at_) (q2 : 0 < n) (q3 : at_ ≤ l.length) (q4 : n ≤ (l.length : Int) - at_) (q5 : (page : Int) - n < at_ % page) :
    Calls Try.prog 75 #[.pointer (some ⟨g, 0, none⟩), .int .i64 at_, .int .i64 n] w fun e w' => e = .returned (.tuple #[.slice none 0 0, .bool false]) ∧ ∃ k, w.drewN k = w' := by
  have c0 := a.cell0
  have c1 := a.cell1
  have hs := a.small
  have hp := a.pos
  have hps := a.psmall
  obtain ⟨ha1, ha2⟩ := ha
  obtain ⟨hn1, hn2⟩ := hn
  have d1 : decide (at_ < 0) = false := by simp; omega
  have d2 : decide (n < 0) = false := by simp; omega
  have d3 : decide ((l.length : Int) < at_) = false := by simp; omega
  have d4 : decide ((l.length : Int) - at_ < n) = false := by simp; omega
  have d5 : decide (0 < n) = true := by simp; omega
  have w4 : IntKind.i64.wrap ((l.length : Int) - at_) = (l.length : Int) - at_ := IntWalk.i64_in _ (by omega)
  have w5 : IntKind.i64.wrap ((page : Int) - n) = (page : Int) - n := IntWalk.i64_in _ (by omega)
  go_enter Try.func75, Try.ntmps75
  go_wp2_with fail
  go_quiet (fail)
  go_wp2
  go_ret2
  exact ⟨rfl, _, rfl⟩
theorem thereNo (w : World) (g h page : Nat) (l : List UInt8) (a : At w g h page l) (at_ n : Int) (ha : inI64 at_) (hn : inI64 n) (hno : ¬ There page l.length at_ n) :
    Calls Try.prog 75 #[.pointer (some ⟨g, 0, none⟩), .int .i64 at_, .int .i64 n] w fun e w' => e = .returned (.tuple #[.slice none 0 0, .bool false]) ∧ ∃ k, w.drewN k = w' := by
  unfold There at hno
  by_cases q1 : at_ < 0
  · exact no1 w g h page l a at_ n ha hn q1
  by_cases q2 : n < 0
  · exact no2 w g h page l a at_ n ha hn (by omega) q2
  by_cases q3 : (l.length : Int) < at_
  · exact no3 w g h page l a at_ n ha hn (by omega) (by omega) q3
  by_cases q4 : (l.length : Int) - at_ < n
  · exact no4 w g h page l a at_ n ha hn (by omega) (by omega) (by omega) q4
  exact no5 w g h page l a at_ n ha hn (by omega) (by omega) (by omega) (by omega) (by omega)

set_option maxHeartbeats 800000 in
theorem yes0 (w : World) (g h page : Nat) (l : List UInt8) (a : At w g h page l) (at_ n : Int) (q1 : 0 ≤ at_) (q3 : at_ ≤ l.length) (hz : n = 0) :
    Calls Try.prog 75 #[.pointer (some ⟨g, 0, none⟩), .int .i64 at_, .int .i64 n] w fun e w' => ∃ A, e = .returned (.tuple #[.slice A n.toNat n.toNat, .bool true]) ∧ (0 < n → A = some ⟨h, at_.toNat, none⟩) ∧ ∃ m, w.drewN m = w' := by
  have c0 := a.cell0
  have c1 := a.cell1
  have hs := a.small
  have hp := a.pos
  have hps := a.psmall
  have d1 : decide (at_ < 0) = false := by simp; omega
  have d3 : decide ((l.length : Int) < at_) = false := by simp; omega
  have w4 : IntKind.i64.wrap ((l.length : Int) - at_) = (l.length : Int) - at_ := IntWalk.i64_in _ (by omega)
  subst hz
  have d4 : decide ((l.length : Int) - at_ < 0) = false := by simp; omega
  go_enter Try.func75, Try.ntmps75
  go_wp2_with fail
  go_quiet (fail)
  go_wp2
  go_ret2
  exact ⟨_, rfl, by omega, _, rfl⟩

set_option maxHeartbeats 800000 in
theorem yes1 (w : World) (g h page : Nat) (l : List UInt8) (a : At w g h page l) (at_ n : Int) (q1 : 0 ≤ at_) (q2 : 0 < n) (q3 : at_ + n ≤ l.length) (q5 : at_ % page + n ≤ page) :
    Calls Try.prog 75 #[.pointer (some ⟨g, 0, none⟩), .int .i64 at_, .int .i64 n] w fun e w' => ∃ A, e = .returned (.tuple #[.slice A n.toNat n.toNat, .bool true]) ∧ (0 < n → A = some ⟨h, at_.toNat, none⟩) ∧ ∃ m, w.drewN m = w' := by
  have c0 := a.cell0
  have c1 := a.cell1
  have hs := a.small
  have hp := a.pos
  have hps := a.psmall
  have d1 : decide (at_ < 0) = false := by simp; omega
  have d3 : decide ((l.length : Int) < at_) = false := by simp; omega
  have w4 : IntKind.i64.wrap ((l.length : Int) - at_) = (l.length : Int) - at_ := IntWalk.i64_in _ (by omega)
  have t1 : (at_ + n).toNat - at_.toNat = n.toNat := by omega
  have d2 : decide (n < 0) = false := by simp; omega
  have d4 : decide ((l.length : Int) - at_ < n) = false := by simp; omega
  have d5 : decide (0 < n) = true := by simp; omega
  have w5 : IntKind.i64.wrap ((page : Int) - n) = (page : Int) - n := IntWalk.i64_in _ (by omega)
  have d6 : decide ((page : Int) - n < at_ % (page : Int)) = false := by simp; omega
  go_enter Try.func75, Try.ntmps75
  go_wp2_with fail
  go_quiet (fail)
  go_wp2
  go_ret2
  exact ⟨_, rfl, fun _ => rfl, _, rfl⟩

/-- What is there. -/
theorem thereYes (w : World) (g h page : Nat) (l : List UInt8) (a : At w g h page l) (at_ n : Int) (hy : There page l.length at_ n) :
    Calls Try.prog 75 #[.pointer (some ⟨g, 0, none⟩), .int .i64 at_, .int .i64 n] w fun e w' => ∃ A, e = .returned (.tuple #[.slice A n.toNat n.toNat, .bool true]) ∧ (0 < n → A = some ⟨h, at_.toNat, none⟩) ∧ ∃ m, w.drewN m = w' := by
  obtain ⟨q1, q2, q3, q4⟩ := hy
  by_cases hz : n = 0
  · exact yes0 w g h page l a at_ n q1 (by omega) hz
  · exact yes1 w g h page l a at_ n q1 (by omega) q3 (by omega)
end Go.Proofs.Ytgodinapdahocaa.Arena
