/-
  What Due tells of a wheel behind Set and Move, in plain Lean.
-/
import Derived.Test.YteebcdicocmicaaTideWakes
import Derived.Test.YteebcdicocmicaaTideMove
namespace Go.Proofs.Yteebcdicocmicaa.Tide
set_option linter.unusedVariables false

structure RI (R : List E) (t i : Nat) : Prop where
  len : R.length ≤ i
  ti : t ≤ i
  ts : (R.map E.t).Nodup
  tb : ∀ a ∈ R, a.t ≤ t
  xs : ∀ a ∈ R, a.x ≤ 9223372036854775807
theorem nodup_inj {R : List E} (h : (R.map E.t).Nodup) {a b : E} (ha : a ∈ R) (hb : b ∈ R) (e : a.t = b.t) : a = b := by
  induction R with
  | nil => simp at ha
  | cons c R ih =>
    simp only [List.map_cons, List.nodup_cons, List.mem_map] at h
    obtain ⟨h1, h2⟩ := h
    simp only [List.mem_cons] at ha hb
    rcases ha with rfl | ha
    · rcases hb with rfl | hb
      · rfl
      · exact absurd ⟨b, hb, e.symm⟩ h1
    · rcases hb with rfl | hb
      · exact absurd ⟨a, ha, e⟩ h1
      · exact ih h2 ha hb
section
variable {R S S' : List E} {t i k a b : Nat} {x : Int}
theorem RI.inj (h : RI R t i) : ∀ a ∈ R, ∀ b ∈ R, ¬ lt a b → ¬ lt b a → a = b := by
  intro a ha b hb h1 h2
  refine nodup_inj h.ts ha hb ?_
  unfold lt at h1 h2
  omega
theorem RI.drop (h : RI R t i) (k : Nat) : RI (dropH R k) t i :=
  ⟨Nat.le_trans (List.length_filter_le _ _) h.len, h.ti, h.ts.sublist ((List.filter_sublist).map _), fun a ha => h.tb a (dropH_mem ha), fun a ha => h.xs a (dropH_mem ha)⟩
theorem RI.up (h : RI R t i) : RI R t (i + 1) := ⟨Nat.le_succ_of_le h.len, Nat.le_succ_of_le h.ti, h.ts, h.tb, h.xs⟩
theorem RI.set (h : RI R t i) (k : Nat) (x : Int) (hx : x ≤ 9223372036854775807) : RI (setR R k x t) (setT x t) (i + 1) := by
  have hd := h.drop k
  unfold setR setT
  split
  · exact hd.up
  · refine ⟨by simp; exact hd.len, by have := h.ti; omega, ?_, fun a ha => ?_, fun a ha => ?_⟩
    · rw [List.map_append, List.nodup_append]
      refine ⟨hd.ts, by simp, ?_⟩
      intro u hu v hv
      simp at hv
      obtain ⟨a, ha, rfl⟩ := List.mem_map.1 hu
      have := hd.tb a ha
      omega
    · rcases List.mem_append.1 ha with ha | ha
      · have := hd.tb a ha; omega
      · simp at ha; subst ha; exact Nat.le_refl _
    · rcases List.mem_append.1 ha with ha | ha
      · exact hd.xs a ha
      · simp at ha; subst ha; exact hx
def ren (a b : Nat) (e : E) : E := if e.h = a then ⟨b, e.x, e.t⟩ else e
theorem ren_x (a b : Nat) (e : E) : (ren a b e).x = e.x ∧ (ren a b e).t = e.t := by unfold ren; split <;> exact ⟨rfl, rfl⟩
theorem moveR_eq (R : List E) (a b : Nat) : moveR R a b = (dropH R b).map (ren a b) := rfl
theorem ren_lt (a b : Nat) (e f : E) : lt (ren a b e) (ren a b f) ↔ lt e f := by
  unfold lt
  rw [(ren_x a b e).1, (ren_x a b e).2, (ren_x a b f).1, (ren_x a b f).2]
theorem RI.move (h : RI R t i) (a b : Nat) : RI (moveR R a b) t i := by
  have hd := h.drop b
  rw [moveR_eq]
  refine ⟨by rw [List.length_map]; exact hd.len, h.ti, ?_, fun u hu => ?_, fun u hu => ?_⟩
  · rw [List.map_map, show E.t ∘ ren a b = E.t from funext fun e => (ren_x a b e).2]
    exact hd.ts
  · obtain ⟨e, he, rfl⟩ := List.mem_map.1 hu
    rw [(ren_x a b e).2]
    exact hd.tb e he
  · obtain ⟨e, he, rfl⟩ := List.mem_map.1 hu
    rw [(ren_x a b e).1]
    exact hd.xs e he
/-- S is R's row, by expiry and turn. -/
def Srt (S R : List E) : Prop := S.Perm R ∧ S.Pairwise (fun x y => ¬ lt y x)
theorem Srt.same (h : RI R t i) (s : Srt S R) (s' : Srt S' R) : S' = S :=
  sorted_eq (s'.1.trans s.1.symm) s'.2 s.2 (fun a ha b hb => h.inj a (s.1.mem_iff.1 ha) b (s.1.mem_iff.1 hb))
theorem Srt.drop (s : Srt S R) (k : Nat) : Srt (dropH S k) (dropH R k) := ⟨s.1.filter _, s.2.sublist List.filter_sublist⟩
theorem Srt.move (s : Srt S R) (a b : Nat) : Srt (moveR S a b) (moveR R a b) := by
  refine ⟨(s.drop b).1.map _, ?_⟩
  rw [moveR_eq, List.pairwise_map]
  exact (s.drop b).2.imp (fun h => by rw [ren_lt]; exact h)
/-- A row of handles without one; one's place given to another. -/
def outL (l : List Nat) (k : Nat) : List Nat := l.filter fun e => !(e == k)
def giveL (l : List Nat) (a b : Nat) : List Nat := l.filterMap fun e => if e = a then some b else if e = b then none else some e
theorem outL_map (S : List E) (k : Nat) : (dropH S k).map E.h = outL (S.map E.h) k := by
  unfold dropH outL
  rw [List.filter_map]
  congr 1
  apply List.filter_congr
  intro e _
  simp only [Function.comp]
  by_cases h : e.h = k <;> simp [h]
theorem giveL_map (S : List E) {a b : Nat} (hne : a ≠ b) : (moveR S a b).map E.h = giveL (S.map E.h) a b := by
  rw [moveR_eq]
  induction S with
  | nil => rfl
  | cons e S ih =>
    unfold dropH giveL at *
    by_cases h1 : e.h = b
    · rw [List.filter_cons_of_neg (by simp [h1]), ih]
      simp [h1, Ne.symm hne]
    · rw [List.filter_cons_of_pos (by simp [h1]), List.map_cons, List.map_cons, ih]
      by_cases h2 : e.h = a
      · simp [h2, ren, hne]
      · simp [h2, h1, ren]
theorem giveL_self (l : List Nat) (a : Nat) : giveL l a a = l := by
  unfold giveL
  induction l with
  | nil => rfl
  | cons e l ih =>
    by_cases h : e = a
    · simp [h, ih]
    · simp [h, ih]
theorem Srt.head (h : RI R t i) (s : Srt S R) {a : E} (ha : a ∈ R) (hm : ∀ b ∈ R, ¬ lt b a) : S[0]? = some a := by
  cases S with
  | nil => exact absurd (s.1.mem_iff.2 ha) (by simp)
  | cons c S =>
    have hc : c ∈ R := s.1.mem_iff.1 (by simp)
    have : c = a := by
      refine h.inj c hc a ha (hm c hc) ?_
      intro hlt
      have hp := (List.pairwise_cons.1 s.2).1
      rcases List.mem_cons.1 (s.1.mem_iff.2 ha) with rfl | h2
      · exact lt_irrefl _ hlt
      · exact hp a h2 hlt
    rw [this]; rfl
theorem due_all (h : RI R t i) : (R.filter fun a => decide (a.x ≤ 9223372036854775807)) = R := by
  rw [List.filter_eq_self]
  intro a ha
  simpa using h.xs a ha
end
end Go.Proofs.Yteebcdicocmicaa.Tide
