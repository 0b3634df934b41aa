/-
  The walks of the clock's methods, the program's and the document's.
-/
import Derived.Test.YteebcdicocmicaaTideClock
import Derived.StillTailTactics
import Derived.Deep.DeepCutAuto
namespace Go.Proofs.Yteebcdicocmicaa.Clk
open Go.RowKit Base
set_option linter.unusedVariables false

section
variable {w : World} {g : Nat} {now pend cut : Int}
theorem Ck.c (h : Ck w g now pend cut) : w.cell? ⟨g, 0, none⟩ = some (.int .i64 now) ∧ w.cell? ⟨g, 1, none⟩ = some (.int .i64 pend) ∧ w.cell? ⟨g, 2, none⟩ = some (.int .u64 cut) := ⟨h.cell 0, h.cell 1, h.cell 2⟩
theorem Rc.c (h : Rc w g now pend cut) : w.cell? ⟨g, 0, none⟩ = some (.int .i64 now) ∧ w.cell? ⟨g, 1, none⟩ = some (.int .u64 cut) ∧ w.cell? ⟨g, 2, none⟩ = some (.int .i64 pend) := ⟨h.cell 0, h.cell 1, h.cell 2⟩
theorem only_set (w : World) (g i : Nat) (v : Value) : Only (· = g) w (w.setCell ⟨g, i, none⟩ v) := (Only.refl (· = g) w).setCell (p := ⟨g, i, none⟩) (fun _ => rfl) v
theorem only_same {S : Nat → Prop} {a b c : World} (h : Only S a b) (k : Only S b c) : Only S a c := h.trans k (fun _ _ h => h)
end
theorem nowC (w : World) (g : Nat) (now pend cut : Int) (h : Ck w g now pend cut) : Calls Try.prog 18 #[.pointer (some ⟨g, 0, none⟩)] w fun e w' => e = .returned (.int .i64 now) ∧ w = w' := by
  obtain ⟨c0, c1, c2⟩ := h.c
  clear h
  go_enter Try.func18, Try.ntmps18
  go_wp2
  go_ret
  exact ⟨rfl, rfl⟩
theorem cutC (w : World) (g : Nat) (now pend cut : Int) (h : Ck w g now pend cut) : Calls Try.prog 19 #[.pointer (some ⟨g, 0, none⟩)] w fun e w' => e = .returned (.int .u64 cut) ∧ w = w' := by
  obtain ⟨c0, c1, c2⟩ := h.c
  clear h
  go_enter Try.func19, Try.ntmps19
  go_wp2
  go_ret
  exact ⟨rfl, rfl⟩
theorem pendC (w : World) (g : Nat) (now pend cut : Int) (h : Ck w g now pend cut) : Calls Try.prog 44 #[.pointer (some ⟨g, 0, none⟩)] w fun e w' => e = .returned (.int .i64 pend) ∧ w = w' := by
  obtain ⟨c0, c1, c2⟩ := h.c
  clear h
  go_enter Try.func44, Try.ntmps44
  go_wp2
  go_ret
  exact ⟨rfl, rfl⟩
def pendF (now t : Int) : Int := if t ≤ 0 then 0 else if t ≤ 1099511627776 - now then now + t else 1099511627777
def cutF (cut t iss : Int) : Int := if t ≤ 0 then (if cut < iss then iss else cut) else cut
theorem flushC (w : World) (g : Nat) (now pend cut t iss : Int) (h : Ck w g now pend cut) (h1 : 1 ≤ now) (h2 : now ≤ 1099511627776) :
    Calls Try.prog 23 #[.pointer (some ⟨g, 0, none⟩), .int .i64 t, .int .u64 iss] w fun e w' => e = .returned (.tuple #[]) ∧ Ck w' g now (pendF now t) (cutF cut t iss) ∧ Only (· = g) w w' := by
  obtain ⟨c0, c1, c2⟩ := h.c
  have z0 := Blk.frozen h 0
  have z1 := Blk.frozen h 1
  have z2 := Blk.frozen h 2
  have H := Lib.hid h
  clear h
  by_cases ht : t ≤ 0
  · have e1 : pendF now t = 0 := if_pos ht
    by_cases hc : cut < iss
    · have e2 : cutF cut t iss = iss := by unfold cutF; rw [if_pos ht, if_pos hc]
      rw [e1, e2]
      clear e1 e2
      go_enter Try.func23, Try.ntmps23
      go_wp2
      refine bodyPost_ret (results_none (by rfl) _ _ _) rfl ⟨rfl, (Blk.set_ H.out 2 (.int .u64 iss)).set_ 1 (.int .i64 0), only_same (only_set _ _ _ _) (only_set _ _ _ _)⟩
    · have e2 : cutF cut t iss = cut := by unfold cutF; rw [if_pos ht, if_neg hc]
      rw [e1, e2]
      clear e1 e2
      have hc' : iss ≤ cut := by omega
      go_enter Try.func23, Try.ntmps23
      go_wp2
      refine bodyPost_ret (results_none (by rfl) _ _ _) rfl ⟨rfl, (Blk.set_ H.out 2 (.int .u64 cut)).set_ 1 (.int .i64 0), only_same (only_set _ _ _ _) (only_set _ _ _ _)⟩
  · have e2 : cutF cut t iss = cut := if_neg ht
    have q1 : 0 ≤ 1099511627777 - now := by omega
    by_cases hq : t ≤ 1099511627776 - now
    · have e3 : pendF now t = now + t := by unfold pendF; rw [if_neg ht, if_pos hq]
      have q2 : min t (1099511627777 - now) = t := by omega
      rw [e2, e3]
      clear e2 e3
      go_enter Try.func23, Try.ntmps23
      go_wp2
      go_region
      all_goals
        go_end0
        refine ⟨rfl, ?_, ?_⟩
        · exact Blk.drew (Blk.set_ H.out 1 (.int .i64 (now + t)))
        · exact (only_set _ _ _ _).drew
    · have e3 : pendF now t = 1099511627777 := by unfold pendF; rw [if_neg ht, if_neg hq]
      have q2 : min t (1099511627777 - now) = 1099511627777 - now := by omega
      have q3 : now + (1099511627777 - now) = 1099511627777 := by omega
      rw [e2, e3]
      clear e2 e3
      go_enter Try.func23, Try.ntmps23
      go_wp2
      go_region
      have q4 : (now + if 1099511627777 - now < t then 1099511627777 - now else t) = 1099511627777 := by split <;> omega
      all_goals
        go_end0
        rw [q4]
        refine ⟨rfl, ?_, ?_⟩
        · exact Blk.drew (Blk.set_ H.out 1 (.int .i64 1099511627777))
        · exact (only_set _ _ _ _).drew

/-- What Move answers, and what it leaves. -/
def movE (now by_ : Int) : Int := if by_ < 1 then 1 else if 1099511627776 - now < by_ then 4 else 0
def movN (now by_ : Int) : Int := if by_ < 1 then now else if 1099511627776 - now < by_ then now else now + by_
def due (now pend by_ : Int) : Bool := decide (0 < pend) && decide (pend ≤ now + by_)
def movP (now pend by_ : Int) : Int := if by_ < 1 then pend else if 1099511627776 - now < by_ then pend else if due now pend by_ then 0 else pend
def movC (now pend cut by_ iss : Int) : Int := if by_ < 1 then cut else if 1099511627776 - now < by_ then cut else if due now pend by_ then cutF cut 0 iss else cut
theorem moveC (w : World) (g : Nat) (now pend cut b iss : Int) (h : Ck w g now pend cut) (h1 : 1 ≤ now) (h2 : now ≤ 1099511627776) :
    Calls Try.prog 21 #[.pointer (some ⟨g, 0, none⟩), .int .i64 b, .int .u64 iss] w fun e w' => e = .returned (.int .i64 (movE now b)) ∧ Ck w' g (movN now b) (movP now pend b) (movC now pend cut b iss) ∧ Only (· = g) w w' := by
  obtain ⟨c0, c1, c2⟩ := h.c
  have z0 := Blk.frozen h 0
  have H := Lib.hid h
  clear h
  by_cases hb : b < 1
  · rw [show movE now b = 1 from if_pos hb, show movN now b = now from if_pos hb, show movP now pend b = pend from if_pos hb, show movC now pend cut b iss = cut from if_pos hb]
    go_enter Try.func21, Try.ntmps21
    go_wp2
    go_ret
    exact ⟨rfl, H.out, Only.refl _ _⟩
  have q1 : 0 ≤ 1099511627776 - now := by omega
  by_cases hc : 1099511627776 - now < b
  · rw [show movE now b = 4 by simp [movE, hb, hc], show movN now b = now by simp [movN, hb, hc], show movP now pend b = pend by simp [movP, hb, hc], show movC now pend cut b iss = cut by simp [movC, hb, hc]]
    go_enter Try.func21, Try.ntmps21
    go_wp2
    go_ret
    exact ⟨rfl, H.out, Only.refl _ _⟩
  have q2 : now + b ≤ 1099511627776 := by omega
  obtain ⟨w1, hw1⟩ : ∃ w1, w1 = w.setCell ⟨g, 0, none⟩ (.int .i64 (now + b)) := ⟨_, rfl⟩
  have H1 : Ck w1 g (now + b) pend cut := by rw [hw1]; exact Blk.set_ H.out 0 (.int .i64 (now + b))
  have o1 : Only (· = g) w w1 := by rw [hw1]; exact only_set _ _ _ _
  obtain ⟨d0, d1, d2⟩ := H1.c
  have F := fun k => flushC (w1.drewN k) g (now + b) pend cut 0 iss (Blk.drewN H1 k) (by omega) q2
  replace F := Lib.hid F
  replace hw1 := Lib.hid hw1
  replace o1 := Lib.hid o1
  replace H1 := Lib.hid H1
  by_cases hd : due now pend b = true
  · rw [show movE now b = 0 by simp [movE, hb, hc], show movN now b = now + b by simp [movN, hb, hc], show movP now pend b = 0 by simp [movP, hb, hc, hd], show movC now pend cut b iss = cutF cut 0 iss by simp [movC, hb, hc, hd]]
    unfold due at hd
    simp only [Bool.and_eq_true, decide_eq_true_eq] at hd
    obtain ⟨e1, e2⟩ := hd
    go_enter Try.func21, Try.ntmps21
    go_upto_region 6 with fail
    rw [← hw1.out]
    clear c0 c1 c2 z0
    go_quiet (fail)
    go_wp2_with fail
    refine (F.out _).mono ?_
    rintro e w2 ⟨rfl, H2, o2⟩
    replace H2 := Lib.hid H2
    replace o2 := Lib.hid o2
    go_wp2
    go_ret
    exact ⟨rfl, H2.out, only_same (o1.out.drewN _) o2.out⟩
  · rw [show movE now b = 0 by simp [movE, hb, hc], show movN now b = now + b by simp [movN, hb, hc], show movP now pend b = pend by simp [movP, hb, hc, hd], show movC now pend cut b iss = cut by simp [movC, hb, hc, hd]]
    have e1 : ¬ 0 < pend ∨ (0 < pend ∧ decide (pend ≤ now + b) = false) := by
      unfold due at hd
      rcases Int.lt_or_le 0 pend with h | h
      · refine .inr ⟨h, ?_⟩
        simpa [h] using hd
      · exact .inl (by omega)
    clear hd
    rcases e1 with e1 | ⟨e1, e2⟩
    all_goals
      go_enter Try.func21, Try.ntmps21
      go_upto_region 6 with fail
      rw [← hw1.out]
      clear c0 c1 c2 z0
      go_quiet (fail)
      go_wp2
      go_ret
      exact ⟨rfl, Blk.drewN H1.out _, o1.out.drewN _⟩
end Go.Proofs.Yteebcdicocmicaa.Clk
