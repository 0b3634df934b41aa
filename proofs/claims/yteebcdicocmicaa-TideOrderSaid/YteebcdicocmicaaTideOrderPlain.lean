/-
  What the wheel holds of handles that are set again and again, in plain Lean.
-/
import Derived.Test.YteebcdicocmicaaTideHandsPlain
namespace Go.Proofs.Yteebcdicocmicaa.Tide
set_option linter.unusedVariables false

/-- The last place of a handle among the first k; -1: there is none. -/
def lastU (P : List (Nat × Int)) (h : Nat) : Nat → Int
  | 0 => -1
  | k + 1 => if (P.getD k (0, 0)).1 = h then (k : Int) else lastU P h k
def lastI (P : List (Nat × Int)) (h : Nat) : Int := lastU P h P.length
theorem lastU_spec (P : List (Nat × Int)) (h : Nat) : ∀ k, k ≤ P.length → (lastU P h k = -1 ∧ ∀ j, j < k → (P.getD j (0, 0)).1 ≠ h) ∨ ∃ i : Nat, lastU P h k = (i : Int) ∧ i < k ∧ (P.getD i (0, 0)).1 = h
  | 0, _ => .inl ⟨rfl, fun j hj => absurd hj (by omega)⟩
  | k + 1, hk => by
    unfold lastU
    by_cases hh : (P.getD k (0, 0)).1 = h
    · rw [if_pos hh]
      exact .inr ⟨k, rfl, by omega, hh⟩
    · rw [if_neg hh]
      rcases lastU_spec P h k (by omega) with ⟨h1, h2⟩ | ⟨i, h1, h2, h3⟩
      · refine .inl ⟨h1, fun j hj => ?_⟩
        rcases Nat.lt_or_ge j k with hjk | hjk
        · exact h2 j hjk
        · obtain rfl : j = k := by omega
          exact hh
      · exact .inr ⟨i, h1, by omega, h3⟩
theorem lastU_append (P : List (Nat × Int)) (q : Nat × Int) (h : Nat) : ∀ k, k ≤ P.length → lastU (P ++ [q]) h k = lastU P h k
  | 0, _ => rfl
  | k + 1, hk => by
    have e : (P ++ [q]).getD k (0, 0) = P.getD k (0, 0) := by
      rw [List.getD_eq_getElem?_getD, List.getD_eq_getElem?_getD, List.getElem?_append_left (by omega)]
    unfold lastU
    rw [e, lastU_append P q h k (by omega)]
theorem lastI_append (P : List (Nat × Int)) (k : Nat) (x : Int) (h : Nat) : lastI (P ++ [(k, x)]) h = if k = h then (P.length : Int) else lastI P h := by
  unfold lastI
  have e : (P ++ [(k, x)]).getD P.length (0, 0) = (k, x) := by
    rw [List.getD_eq_getElem?_getD, List.getElem?_append_right (Nat.le_refl _)]; simp
  rw [List.length_append, List.length_singleton]
  show (if ((P ++ [(k, x)]).getD P.length (0, 0)).1 = h then (P.length : Int) else lastU (P ++ [(k, x)]) h P.length) = _
  rw [e, lastU_append P (k, x) h P.length (Nat.le_refl _)]
theorem lastI_at {P : List (Nat × Int)} {h i : Nat} (hl : lastI P h = (i : Int)) : i < P.length ∧ ∃ x, P[i]? = some (h, x) := by
  rcases lastU_spec P h P.length (Nat.le_refl _) with ⟨h1, _⟩ | ⟨j, h1, h2, h3⟩
  · unfold lastI at hl; omega
  · unfold lastI at hl
    obtain rfl : i = j := by omega
    refine ⟨h2, (P[i]'h2).2, ?_⟩
    rw [List.getD_eq_getElem?_getD, List.getElem?_eq_getElem h2] at h3
    rw [List.getElem?_eq_getElem h2]
    simp at h3
    rw [← h3]
theorem lastI_or (P : List (Nat × Int)) (h : Nat) : lastI P h = -1 ∨ ∃ i : Nat, lastI P h = (i : Int) := by
  rcases lastU_spec P h P.length (Nat.le_refl _) with ⟨h1, _⟩ | ⟨j, h1, _⟩
  · exact .inl h1
  · exact .inr ⟨j, h1⟩
/-- How many of the first i were given a time. -/
def cnt (P : List (Nat × Int)) (i : Nat) : Nat := ((P.take i).filter fun q => decide (0 < q.2)).length
theorem cnt_append (P : List (Nat × Int)) (q : Nat × Int) {i : Nat} (h : i ≤ P.length) : cnt (P ++ [q]) i = cnt P i := by
  unfold cnt; rw [List.take_append_of_le_length h]
theorem cnt_next (P : List (Nat × Int)) {i : Nat} {q : Nat × Int} (h : P[i]? = some q) : cnt P (i + 1) = cnt P i + if 0 < q.2 then 1 else 0 := by
  obtain ⟨hi, rfl⟩ := List.getElem?_eq_some_iff.1 h
  unfold cnt
  rw [List.take_succ_eq_append_getElem hi, List.filter_append, List.length_append]
  by_cases hq : 0 < (P[i]).2 <;> simp [hq]
theorem cnt_mono (P : List (Nat × Int)) {i j : Nat} (h : i ≤ j) : cnt P i ≤ cnt P j := by
  unfold cnt
  exact ((List.take_sublist_take_left h).filter _).length_le
theorem cnt_le (P : List (Nat × Int)) (i : Nat) : cnt P i ≤ P.length := by
  unfold cnt
  exact Nat.le_trans (List.length_filter_le _ _) (List.length_take_le' _ _)
structure RO (P : List (Nat × Int)) (R : List E) (t : Nat) : Prop where
  fr : ∀ a ∈ R, ∃ i : Nat, lastI P a.h = (i : Int) ∧ P[i]? = some (a.h, a.x) ∧ 0 < a.x ∧ a.t = cnt P (i + 1)
  on : ∀ (h i : Nat) (x : Int), lastI P h = (i : Int) → P[i]? = some (h, x) → 0 < x → ∃ a ∈ R, a.h = h
  nd : (R.map E.h).Nodup
  hs : ∀ a ∈ R, a.h ≤ 40
  tt : t = cnt P P.length
theorem RO.start : RO [] [] 0 := ⟨fun a ha => absurd ha (by simp), fun h i x h1 h2 => absurd h2 (by simp), by simp, fun a ha => absurd ha (by simp), rfl⟩
theorem RO.set {P : List (Nat × Int)} {R : List E} {t : Nat} (o : RO P R t) (k : Nat) (x : Int) (hk : k ≤ 40) : RO (P ++ [(k, x)]) (setR R k x t) (setT x t) := by
  have old : ∀ a ∈ dropH R k, ∃ i : Nat, lastI (P ++ [(k, x)]) a.h = (i : Int) ∧ (P ++ [(k, x)])[i]? = some (a.h, a.x) ∧ 0 < a.x ∧ a.t = cnt (P ++ [(k, x)]) (i + 1) := by
    intro a ha
    have hne : a.h ≠ k := by
      have := (List.mem_filter.1 ha).2
      simpa using this
    obtain ⟨i, h1, h2, h3, h4⟩ := o.fr a (dropH_mem ha)
    have hi := (lastI_at h1).1
    exact ⟨i, by rw [lastI_append, if_neg (Ne.symm hne)]; exact h1, by rw [List.getElem?_append_left hi]; exact h2, h3, by rw [cnt_append _ _ (by omega)]; exact h4⟩
  have hlast : (P ++ [(k, x)])[P.length]? = some (k, x) := by rw [List.getElem?_append_right (Nat.le_refl _)]; simp
  have hct := cnt_next (P ++ [(k, x)]) hlast
  rw [cnt_append _ _ (Nat.le_refl _), ← o.tt] at hct
  have keep : ∀ (h i : Nat) (y : Int), h ≠ k → lastI (P ++ [(k, x)]) h = (i : Int) → (P ++ [(k, x)])[i]? = some (h, y) → 0 < y → ∃ a ∈ dropH R k, a.h = h := by
    intro h i y hne h1 h2 h3
    rw [lastI_append, if_neg (Ne.symm hne)] at h1
    rw [List.getElem?_append_left (lastI_at h1).1] at h2
    obtain ⟨a, ha, rfl⟩ := o.on h i y h1 h2 h3
    exact ⟨a, List.mem_filter.2 ⟨ha, by simpa using hne⟩, rfl⟩
  have ndd : ((dropH R k).map E.h).Nodup := nodup_filter o.nd _
  unfold setR setT
  by_cases hx : x ≤ 0
  · rw [if_pos hx, if_pos hx]
    rw [if_neg (by show ¬ 0 < x; omega)] at hct
    refine ⟨old, fun h i y h1 h2 h3 => ?_, ndd, fun a ha => o.hs a (dropH_mem ha), by rw [List.length_append]; exact hct.symm⟩
    by_cases hne : h = k
    · subst hne
      rw [lastI_append, if_pos rfl] at h1
      obtain rfl : i = P.length := by omega
      rw [hlast] at h2
      injection h2 with h2
      injection h2 with _ h2
      omega
    · exact keep h i y hne h1 h2 h3
  · rw [if_neg hx, if_neg hx]
    rw [if_pos (by show 0 < x; omega)] at hct
    refine ⟨fun a ha => ?_, fun h i y h1 h2 h3 => ?_, ?_, fun a ha => ?_, by rw [List.length_append]; exact hct.symm⟩
    · rcases List.mem_append.1 ha with ha | ha
      · exact old a ha
      · simp only [List.mem_singleton] at ha
        subst ha
        exact ⟨P.length, by rw [lastI_append, if_pos rfl], hlast, by show 0 < x; omega, hct.symm⟩
    · by_cases hne : h = k
      · subst hne
        exact ⟨_, List.mem_append_right _ (List.mem_singleton.2 rfl), rfl⟩
      · obtain ⟨a, ha, he⟩ := keep h i y hne h1 h2 h3
        exact ⟨a, List.mem_append_left _ ha, he⟩
    · rw [List.map_append, List.nodup_append]
      refine ⟨ndd, by simp, ?_⟩
      intro u hu v hv
      simp only [List.map_cons, List.map_nil, List.mem_singleton] at hv
      subst hv
      obtain ⟨a, ha, rfl⟩ := List.mem_map.1 hu
      have := (List.mem_filter.1 ha).2
      simpa using this
    · rcases List.mem_append.1 ha with ha | ha
      · exact o.hs a (dropH_mem ha)
      · simp only [List.mem_singleton] at ha
        subst ha
        exact hk
section
variable {P : List (Nat × Int)} {R S : List E} {t : Nat}
theorem RO.cond_no (o : RO P R t) {h : Nat} (h1 : lastI P h = -1) : hasH R h = false := by
  rw [Bool.eq_false_iff]
  intro hc
  obtain ⟨a, ha, he⟩ := List.any_eq_true.1 hc
  simp only [decide_eq_true_eq] at he
  obtain ⟨i, h2, _⟩ := o.fr a ha
  rw [he] at h2
  omega
theorem RO.cond_yes (o : RO P R t) {h i : Nat} {x : Int} (h1 : lastI P h = (i : Int)) (h2 : P[i]? = some (h, x)) : hasH R h = decide (0 < x) := by
  rw [Bool.eq_iff_iff, decide_eq_true_eq]
  constructor
  · intro hc
    obtain ⟨a, ha, he⟩ := List.any_eq_true.1 hc
    simp only [decide_eq_true_eq] at he
    obtain ⟨j, h3, h4, h5, _⟩ := o.fr a ha
    rw [he] at h3 h4
    obtain rfl : i = j := by omega
    rw [h2] at h4
    injection h4 with h4
    injection h4 with _ h4
    omega
  · intro hx
    obtain ⟨a, ha, he⟩ := o.on h i x h1 h2 hx
    exact List.any_eq_true.2 ⟨a, ha, by simpa using he⟩
/-- How many of the handles below h are there. -/
def many (R : List E) (h : Nat) : Nat := ((List.range h).filter fun k => hasH R k).length
theorem many_next (R : List E) (h : Nat) : many R (h + 1) = many R h + if hasH R h then 1 else 0 := by
  unfold many
  rw [List.range_succ, List.filter_append, List.length_append]
  congr 1
  cases hh : hasH R h with
  | false => rw [List.filter_cons_of_neg (by rw [hh]; simp)]; rfl
  | true => rw [List.filter_cons_of_pos hh]; rfl
theorem many_all (o : RO P R t) : many R 41 = R.length := by
  unfold many
  have hp : ((List.range 41).filter fun k => hasH R k).Perm (R.map E.h) := by
    rw [List.perm_ext_iff_of_nodup (List.nodup_range.sublist List.filter_sublist) o.nd]
    intro k
    rw [List.mem_filter, List.mem_range, List.mem_map]
    constructor
    · rintro ⟨_, h2⟩
      obtain ⟨a, ha, he⟩ := List.any_eq_true.1 h2
      exact ⟨a, ha, by simpa using he⟩
    · rintro ⟨a, ha, rfl⟩
      exact ⟨by have := o.hs a ha; omega, List.any_eq_true.2 ⟨a, ha, by simp⟩⟩
  rw [hp.length_eq, List.length_map]
theorem RO.small (o : RO P R t) : R.length ≤ 41 := by
  rw [← many_all o]
  unfold many
  exact Nat.le_trans (List.length_filter_le _ _) (by simp)
/-- Neighbours in the row. -/
theorem RO.pair (o : RO P R t) (s : Srt S R) {k : Nat} {a b : E} (ha : S[k]? = some a) (hb : S[k + 1]? = some b) : a.x ≤ b.x ∧ (a.x = b.x → lastI P a.h < lastI P b.h) := by
  obtain ⟨h1, rfl⟩ := List.getElem?_eq_some_iff.1 ha
  obtain ⟨h2, rfl⟩ := List.getElem?_eq_some_iff.1 hb
  have hs := List.pairwise_iff_getElem.1 s.2 k (k + 1) h1 h2 (by omega)
  have hnd : (S.map E.h).Nodup := (s.1.map E.h).nodup_iff.2 o.nd
  have hne : (S[k]).h ≠ (S[k + 1]).h := by
    have := List.pairwise_iff_getElem.1 hnd k (k + 1) (by simpa using h1) (by simpa using h2) (by omega)
    simpa using this
  obtain ⟨i, i1, i2, i3, i4⟩ := o.fr S[k] (s.1.mem_iff.1 (List.getElem_mem h1))
  obtain ⟨j, j1, j2, j3, j4⟩ := o.fr S[k + 1] (s.1.mem_iff.1 (List.getElem_mem h2))
  generalize S[k] = a at *
  generalize S[k + 1] = b at *
  unfold lt at hs
  refine ⟨by omega, fun he => ?_⟩
  rw [i1, j1]
  rcases Nat.lt_trichotomy i j with hij | hij | hij
  · omega
  · subst hij
    rw [i2] at j2
    injection j2 with j2
    injection j2 with j2 _
    exact absurd j2 hne
  · have c1 := cnt_next P i2
    rw [if_pos (by exact i3)] at c1
    have c2 := cnt_mono P (show j + 1 ≤ i by omega)
    omega
end
end Go.Proofs.Yteebcdicocmicaa.Tide
