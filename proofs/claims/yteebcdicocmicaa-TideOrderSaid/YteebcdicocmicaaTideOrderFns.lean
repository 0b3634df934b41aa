/-
  Rows of Puts; the walk of the statement's last.
-/
import Derived.Test.YteebcdicocmicaaTideHandsCalls
import Derived.Test.YteebcdicocmicaaTideOrderPlain
namespace Go.Proofs.Yteebcdicocmicaa.Tide
open Go.RowKit Base MapI
set_option linter.unusedVariables false

theorem eiP : EI Try.prog 62 67 (.agg #[.int .i64 0, .int .i64 0]) 2 16 := EI.mk' Try.underlying62 (by kernel_rfl) rfl (by decide)
/-- The cells of a row of Puts. -/
def puts (P : List (Nat × Int)) : List Value := P.flatMap fun q => [.int .i64 (q.1 : Int), .int .i64 q.2]
theorem puts_append (P Q : List (Nat × Int)) : puts (P ++ Q) = puts P ++ puts Q := by simp [puts]
theorem puts_at (P : List (Nat × Int)) : ∀ (i : Nat) (hi : i < P.length), (puts P)[i * 2]? = some (.int .i64 ((P[i]).1 : Int)) ∧ (puts P)[i * 2 + 1]? = some (.int .i64 (P[i]).2) := by
  induction P with
  | nil => intro i hi; simp at hi
  | cons a P ih =>
    intro i hi
    cases i with
    | zero => exact ⟨rfl, rfl⟩
    | succ i =>
      obtain ⟨h1, h2⟩ := ih i (by simpa using hi)
      have e : puts (a :: P) = [.int .i64 (a.1 : Int), .int .i64 a.2] ++ puts P := rfl
      rw [e, List.getElem?_append_right (by simp; omega), List.getElem?_append_right (by simp; omega)]
      simp only [List.length_cons, List.length_nil, List.getElem_cons_succ]
      rw [show (i + 1) * 2 - (0 + 1 + 1) = i * 2 by omega, show (i + 1) * 2 + 1 - (0 + 1 + 1) = i * 2 + 1 by omega]
      exact ⟨h1, h2⟩
/-- As dueAll; it says too where the row's block lies. -/
theorem dueAll2 (w : World) (g : Nat) (hv : Value) (m n t i : Nat) (R : List E) (h : WA w g hv m n t R) (ri : RI R t i) (hi : i ≤ 1000) :
    Calls Try.prog 30 #[.pointer (some ⟨g, 0, none⟩), .int .i64 9223372036854775807, .int .i64 1000] w fun e w' => ∃ (v : Value) (S : List E), e = .returned v ∧ Srt S R ∧
      HL w' v (S.map E.h) ∧ (∀ b, v.ownBlock = some b → w.heap.size ≤ b ∧ b < w'.heap.size) ∧ Below w.heap.size w w' := by
  refine (dueC w g hv m n t R 9223372036854775807 1000 h (by have := ri.len; omega) (by omega)).mono ?_
  rintro e w' ⟨v, S, k, rfl, hp, hs, hk, own, b⟩
  rw [due_all ri] at hp
  have hl := hp.length_eq
  have hle := ri.len
  have hk2 : k = S.length := by
    rw [hk, show (1000 : Int).toNat = 1000 from rfl]
    exact Nat.min_eq_left (by omega)
  subst hk2
  rw [List.take_length, hands_nums] at own
  exact ⟨v, S, rfl, ⟨hp, hs⟩, HL.of_own own, fun x hx => own.lt x hx, b⟩
/-- v is a slice that holds the Puts P. -/
def PL (w : World) (v : Value) (P : List (Nat × Int)) : Prop := ∃ A c, v = .slice A P.length c ∧ P.length ≤ c ∧ c ≤ maxLen ∧ ∀ (i h : Nat) (x : Int), P[i]? = some (h, x) → ∃ b, A = some ⟨b, 0, none⟩ ∧ b < w.heap.size ∧ w.cell? ⟨b, i * 2, none⟩ = some (.int .i64 (h : Int)) ∧ w.cell? ⟨b, i * 2 + 1, none⟩ = some (.int .i64 x)
theorem PL.of_own {w : World} {base : Nat} {v : Value} {P : List (Nat × Int)} (h : w.ownsRow base 67 2 v P.length (puts P)) : PL w v P := by
  rcases Nat.eq_zero_or_pos P.length with h0 | h0
  · obtain ⟨A, c, rfl, h1, h2⟩ := own_len h
    exact ⟨A, c, rfl, h1, h2, fun i a x hi => by rw [List.eq_nil_of_length_eq_zero h0] at hi; simp at hi⟩
  · obtain ⟨b, c, hv, hb⟩ := h.form h0
    subst hv
    have hcc : P.length ≤ c ∧ c ≤ maxLen := by
      obtain ⟨A, c', he, h1, h2⟩ := own_len h
      injection he with _ _ hc
      subst hc
      exact ⟨h1, h2⟩
    refine ⟨_, c, rfl, hcc.1, hcc.2, fun i a x hi => ⟨b, rfl, (h.lt b rfl).2, ?_, ?_⟩⟩
    all_goals
      obtain ⟨hi1, hi2⟩ := List.getElem?_eq_some_iff.1 hi
    · have := h.cellAt (i * 2) (by omega)
      rw [(puts_at P i hi1).1, hi2] at this
      exact this
    · have := h.cellAt (i * 2 + 1) (by omega)
      rw [(puts_at P i hi1).2, hi2] at this
      exact this
theorem PL.keep {w w' : World} {v : Value} {P : List (Nat × Int)} (h : PL w v P) {S : Nat → Prop} (o : Only S w w') (hs : ∀ b, v.ownBlock = some b → ¬ S b) : PL w' v P := by
  obtain ⟨A, c, rfl, h1, h2, h3⟩ := h
  refine ⟨A, c, rfl, h1, h2, fun i a x hi => ?_⟩
  obtain ⟨b, rfl, hb, hc, hd⟩ := h3 i a x hi
  exact ⟨b, rfl, Nat.lt_of_lt_of_le hb o.size, (World.cell?_of_block (a := ⟨b, i * 2, none⟩) (o.block b hb (hs b rfl))).trans hc, (World.cell?_of_block (a := ⟨b, i * 2 + 1, none⟩) (o.block b hb (hs b rfl))).trans hd⟩
theorem PL.below {w w' : World} {v : Value} {P : List (Nat × Int)} (h : PL w v P) (o : Below w.heap.size w w') : PL w' v P := h.keep (Only.of_below o (Nat.le_refl _) (fun _ => False)) (fun _ _ h => h)

set_option maxRecDepth 100000 in
set_option maxHeartbeats 1600000 in
theorem lastC (w : World) (v : Value) (P : List (Nat × Int)) (h : Nat) (hp : PL w v P) :
    Calls Try.prog 33 #[v, .int .i64 (h : Int)] w fun e w' => e = .returned (.int .i64 (lastI P h)) ∧ w = w' := by
  obtain ⟨A, c, rfl, h1, h2, h3⟩ := hp
  unfold maxLen at h2
  have H3 := Lib.hid h3
  clear h3
  go_enter Try.func33, Try.ntmps33
  go_wp2_with fail
  go_loop [5] (fun s5 => ∃ j : Nat, j ≤ P.length ∧ s5 = .int .i64 ((j : Int) - 1) ∧ lastI P h = lastU P h j) (fun s5 => (intOf s5 + 1).toNat)
  case atStart => exact ⟨P.length, Nat.le_refl _, rfl, rfl⟩
  case round =>
    obtain ⟨j, hj, rfl, hl⟩ := hrel
    cases j with
    | zero =>
      have e0 : lastI P h = -1 := hl
      rw [e0]
      go_wp2
      go_ret
      exact ⟨rfl, rfl⟩
    | succ j =>
      obtain ⟨b, rfl, hb, hc, hd⟩ := H3.out j (P[j]'(by omega)).1 (P[j]'(by omega)).2 (List.getElem?_eq_getElem (by omega))
      have hst : lastU P h (j + 1) = if (P[j]'(by omega)).1 = h then (j : Int) else lastU P h j := by
        show (if (P.getD j (0, 0)).1 = h then (j : Int) else lastU P h j) = _
        rw [List.getD_eq_getElem?_getD, List.getElem?_eq_getElem (show j < P.length by omega)]
        rfl
      have e1 : (((j + 1 : Nat) : Int) - 1) = (j : Int) := by omega
      rw [e1]
      have q1 : (0 : Int) ≤ j := by omega
      have q2 : (j : Int) < P.length := by omega
      rw [hst] at hl
      clear hst hd
      generalize (P[j]'(by omega)).1 = x at *
      by_cases hx : x = h
      · subst hx
        rw [if_pos rfl] at hl
        rw [hl]
        go_wp2
        go_ret
        exact ⟨rfl, rfl⟩
      · rw [if_neg hx] at hl
        have e2 : ((x : Int) == (h : Int)) = false := beq_eq_false_iff_ne.2 (by omega)
        have hx' : ¬ (x : Int) = (h : Int) := by omega
        replace hl := Lib.hid hl
        go_wp2
        go_round
        case rel => exact ⟨j, by omega, by go_num, hl.out⟩
        case measure => simp [intOf]
end Go.Proofs.Yteebcdicocmicaa.Tide
