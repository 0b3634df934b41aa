/-
  The walks of the document's clock.
-/
import Derived.Test.YteebcdicocmicaaTideClock2
namespace Go.Proofs.Yteebcdicocmicaa.Clk
open Go.RowKit Base
set_option linter.unusedVariables false

theorem newRYes (now cut pend : Int) (w : World) (h : newOK now pend = true) : Calls Try.prog 42 #[.int .i64 now, .int .u64 cut, .int .i64 pend] w fun e w' => e = .returned (.tuple #[.pointer (some ⟨w.heap.size, 0, none⟩), .int .i64 0]) ∧ Rc w' w.heap.size now pend cut ∧ Below w.heap.size w w' := by
  unfold newOK at h
  simp only [Bool.and_eq_true, Bool.or_eq_true, decide_eq_true_eq] at h
  obtain ⟨⟨h1, h2⟩, h3⟩ := h
  rcases h3 with rfl | h3
  · go_enter Try.func42, Try.ntmps42
    go_wp2
    go_ret2
    exact ⟨rfl, Blk.new _ _ _, (Below.refl _ _).alloc (Nat.le_refl _) _⟩
  · have h4 : 0 < pend := by omega
    have h6 : decide (pend ≤ now) = false := by simp; omega
    go_enter Try.func42, Try.ntmps42
    go_wp2
    go_ret2
    exact ⟨rfl, Blk.new _ _ _, (Below.refl _ _).alloc (Nat.le_refl _) _⟩
theorem newRNo (now cut pend : Int) (w : World) (h : newOK now pend = false) : Calls Try.prog 42 #[.int .i64 now, .int .u64 cut, .int .i64 pend] w fun e w' => e = .returned (.tuple #[.pointer none, .int .i64 1]) ∧ w = w' := by
  unfold newOK at h
  by_cases a1 : now < 1
  · go_enter Try.func42, Try.ntmps42
    go_wp2
    go_ret2
    exact ⟨rfl, rfl⟩
  by_cases a2 : 1099511627776 < now
  · go_enter Try.func42, Try.ntmps42
    go_wp2
    go_ret2
    exact ⟨rfl, rfl⟩
  have a3 : pend ≠ 0 ∧ pend ≤ now := by
    simp only [Bool.and_eq_false_iff, Bool.or_eq_false_iff, decide_eq_false_iff_not] at h
    omega
  have a4 : pend < 0 ∨ (¬ pend < 0 ∧ 0 < pend ∧ pend ≤ now) := by omega
  clear h a3
  rcases a4 with a4 | ⟨a4, a5, a6⟩
  all_goals
    go_enter Try.func42, Try.ntmps42
    go_wp2
    go_ret2
    exact ⟨rfl, rfl⟩
theorem raiseR (w : World) (g : Nat) (now pend cut iss : Int) (h : Rc w g now pend cut) :
    Calls Try.prog 43 #[.pointer (some ⟨g, 0, none⟩), .int .u64 iss] w fun e w' => e = .returned (.tuple #[]) ∧ Rc w' g now pend (cutF cut 0 iss) ∧ Only (· = g) w w' := by
  obtain ⟨c0, c1, c2⟩ := h.c
  have z1 := Blk.frozen h 1
  have H := Lib.hid h
  clear h
  by_cases hc : cut < iss
  · have e2 : cutF cut 0 iss = iss := by unfold cutF; rw [if_pos (Int.le_refl _), if_pos hc]
    rw [e2]
    clear e2
    go_enter Try.func43, Try.ntmps43
    go_wp2
    go_end0
    exact ⟨rfl, Blk.set_ H.out 1 (.int .u64 iss), only_set _ _ _ _⟩
  · have e2 : cutF cut 0 iss = cut := by unfold cutF; rw [if_pos (Int.le_refl _), if_neg hc]
    rw [e2]
    clear e2
    go_enter Try.func43, Try.ntmps43
    go_wp2
    go_end0
    exact ⟨rfl, H.out, Only.refl _ _⟩
theorem flushR (w : World) (g : Nat) (now pend cut t iss : Int) (h : Rc w g now pend cut) (h1 : 1 ≤ now) (h2 : now ≤ 1099511627776) :
    Calls Try.prog 24 #[.pointer (some ⟨g, 0, none⟩), .int .i64 t, .int .u64 iss] w fun e w' => e = .returned (.tuple #[]) ∧ Rc w' g now (pendF now t) (cutF cut t iss) ∧ Only (· = g) w w' := by
  obtain ⟨c0, c1, c2⟩ := h.c
  have z2 := Blk.frozen h 2
  have H := Lib.hid h
  obtain ⟨w1, hw1⟩ : ∃ w1, w1 = w.setCell ⟨g, 2, none⟩ (.int .i64 0) := ⟨_, rfl⟩
  have H1 : Rc w1 g now 0 cut := by rw [hw1]; exact Blk.set_ h 2 (.int .i64 0)
  have o1 : Only (· = g) w w1 := by rw [hw1]; exact only_set _ _ _ _
  have RA := Lib.hid (raiseR w1 g now 0 cut iss H1)
  replace hw1 := Lib.hid hw1
  replace o1 := Lib.hid o1
  replace H1 := Lib.hid H1
  clear h
  by_cases ht : t ≤ 0
  · have e1 : pendF now t = 0 := if_pos ht
    have e2 : cutF cut t iss = cutF cut 0 iss := by unfold cutF; rw [if_pos ht, if_pos (Int.le_refl _)]
    rw [e1, e2]
    clear e1 e2
    go_enter Try.func24, Try.ntmps24
    go_wp2_with fail
    rw [← hw1.out]
    refine RA.out.mono ?_
    rintro e w2 ⟨rfl, H2, o2⟩
    replace H2 := Lib.hid H2
    replace o2 := Lib.hid o2
    go_wp2
    exact bodyPost_ret (results_none (by rfl) _ _ _) rfl ⟨rfl, H2.out, only_same o1.out o2.out⟩
  · have e2 : cutF cut t iss = cut := if_neg ht
    have q1 : 0 ≤ 1099511627776 - now := by omega
    by_cases hq : t ≤ 1099511627776 - now
    · have e3 : pendF now t = now + t := by unfold pendF; rw [if_neg ht, if_pos hq]
      rw [e2, e3]
      clear e2 e3
      go_enter Try.func24, Try.ntmps24
      go_wp2
      go_end0
      exact ⟨rfl, ((Blk.set_ H.out 2 (.int .i64 0)).set_ 2 (.int .i64 1099511627777)).set_ 2 (.int .i64 (now + t)), only_same (only_same (only_set _ _ _ _) (only_set _ _ _ _)) (only_set _ _ _ _)⟩
    · have e3 : pendF now t = 1099511627777 := by unfold pendF; rw [if_neg ht, if_neg hq]
      rw [e2, e3]
      clear e2 e3
      go_enter Try.func24, Try.ntmps24
      go_wp2
      go_end0
      exact ⟨rfl, (Blk.set_ H.out 2 (.int .i64 0)).set_ 2 (.int .i64 1099511627777), only_same (only_set _ _ _ _) (only_set _ _ _ _)⟩
theorem moveR (w : World) (g : Nat) (now pend cut b iss : Int) (h : Rc w g now pend cut) (h1 : 1 ≤ now) (h2 : now ≤ 1099511627776) :
    Calls Try.prog 22 #[.pointer (some ⟨g, 0, none⟩), .int .i64 b, .int .u64 iss] w fun e w' => e = .returned (.int .i64 (movE now b)) ∧ Rc w' g (movN now b) (movP now pend b) (movC now pend cut b iss) ∧ Only (· = g) w w' := by
  obtain ⟨c0, c1, c2⟩ := h.c
  have z0 := Blk.frozen h 0
  have H := Lib.hid h
  clear h
  by_cases hb : b < 1
  · rw [show movE now b = 1 from if_pos hb, show movN now b = now from if_pos hb, show movP now pend b = pend from if_pos hb, show movC now pend cut b iss = cut from if_pos hb]
    go_enter Try.func22, Try.ntmps22
    go_wp2
    go_ret
    exact ⟨rfl, H.out, Only.refl _ _⟩
  by_cases hc : 1099511627776 - now < b
  · rw [show movE now b = 4 by simp [movE, hb, hc], show movN now b = now by simp [movN, hb, hc], show movP now pend b = pend by simp [movP, hb, hc], show movC now pend cut b iss = cut by simp [movC, hb, hc]]
    by_cases hc2 : 1099511627776 < b
    · go_enter Try.func22, Try.ntmps22
      go_wp2
      go_ret
      exact ⟨rfl, H.out, Only.refl _ _⟩
    · have hc3 : 1099511627776 < now + b := by omega
      go_enter Try.func22, Try.ntmps22
      go_wp2
      go_ret
      exact ⟨rfl, H.out, Only.refl _ _⟩
  have q1 : ¬ 1099511627776 < b := by omega
  have q2 : now + b ≤ 1099511627776 := by omega
  have q3 : decide (1099511627776 < now + b) = false := by simp; omega
  obtain ⟨w1, hw1⟩ : ∃ w1, w1 = w.setCell ⟨g, 0, none⟩ (.int .i64 (now + b)) := ⟨_, rfl⟩
  have H1 : Rc w1 g (now + b) pend cut := by rw [hw1]; exact Blk.set_ H.out 0 (.int .i64 (now + b))
  have o1 : Only (· = g) w w1 := by rw [hw1]; exact only_set _ _ _ _
  obtain ⟨d0, d1, d2⟩ := H1.c
  have z2 := Blk.frozen H1 2
  have F := fun k => raiseR ((w1.drewN k).setCell ⟨g, 2, none⟩ (.int .i64 0)) g (now + b) 0 cut iss (Blk.set_ (Blk.drewN H1 k) 2 (.int .i64 0))
  replace F := Lib.hid F
  replace hw1 := Lib.hid hw1
  replace o1 := Lib.hid o1
  replace H1 := Lib.hid H1
  by_cases hd : due now pend b = true
  · rw [show movE now b = 0 by simp [movE, hb, hc], show movN now b = now + b by simp [movN, hb, hc], show movP now pend b = 0 by simp [movP, hb, hc, hd], show movC now pend cut b iss = cutF cut 0 iss by simp [movC, hb, hc, hd]]
    unfold due at hd
    simp only [Bool.and_eq_true, decide_eq_true_eq] at hd
    obtain ⟨e1, e2⟩ := hd
    have e3 : 1 ≤ pend := by omega
    go_enter Try.func22, Try.ntmps22
    go_upto_region 6 with fail
    rw [← hw1.out]
    clear c0 c1 c2 z0
    go_quiet (fail)
    go_wp2_with fail
    refine (F.out _).mono ?_
    rintro e w2 ⟨rfl, H2, o2⟩
    replace H2 := Lib.hid H2
    replace o2 := Lib.hid o2
    go_wp2
    go_ret
    exact ⟨rfl, H2.out, only_same (only_same (o1.out.drewN _) (only_set _ _ _ _)) o2.out⟩
  · rw [show movE now b = 0 by simp [movE, hb, hc], show movN now b = now + b by simp [movN, hb, hc], show movP now pend b = pend by simp [movP, hb, hc, hd], show movC now pend cut b iss = cut by simp [movC, hb, hc, hd]]
    have e1 : ¬ 1 ≤ pend ∨ (1 ≤ pend ∧ decide (pend ≤ now + b) = false) := by
      unfold due at hd
      rcases Int.lt_or_le 0 pend with h | h
      · refine .inr ⟨h, ?_⟩
        simpa [h] using hd
      · exact .inl (by omega)
    clear hd
    rcases e1 with e1 | ⟨e1, e2⟩
    all_goals
      go_enter Try.func22, Try.ntmps22
      go_upto_region 6 with fail
      rw [← hw1.out]
      clear c0 c1 c2 z0
      go_quiet (fail)
      go_wp2
      go_ret
      exact ⟨rfl, Blk.drewN H1.out _, o1.out.drewN _⟩
end Go.Proofs.Yteebcdicocmicaa.Clk
