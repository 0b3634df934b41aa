/-
  Due's search through the heap, in plain Lean.
-/
import Derived.Test.YteebcdicocmicaaTidePlain2
namespace Go.Proofs.Yteebcdicocmicaa.Tide
set_option linter.unusedVariables false

def acc (L : List E) (now : Int) (i : Nat) : Bool := decide (i < L.length) && decide ((gE L i).x ≤ now)
/-- The state of the search before round k. -/
structure Look (L : List E) (now : Int) (k : Nat) (look : List Nat) (due : List E) : Prop where
  kl : k ≤ look.length
  zero : look[0]? = some 0
  inc : look.Pairwise (· < ·)
  par : ∀ x ∈ look, x = 0 ∨ ∃ j, j < k ∧ look[j]? = some (up x) ∧ acc L now (up x) = true
  kids : ∀ j i, j < k → look[j]? = some i → acc L now i = true → 2 * i + 1 ∈ look ∧ 2 * i + 2 ∈ look
  due_ : due = ((look.take k).filter (acc L now)).map (gE L)
theorem inc_get {l : List Nat} (h : l.Pairwise (· < ·)) {i j a b : Nat} (hij : i < j) (ha : l[i]? = some a) (hb : l[j]? = some b) : a < b := by
  obtain ⟨h1, rfl⟩ := List.getElem?_eq_some_iff.1 ha
  obtain ⟨h2, rfl⟩ := List.getElem?_eq_some_iff.1 hb
  exact List.pairwise_iff_getElem.1 h i j h1 h2 hij
theorem inc_ge {l : List Nat} (h : l.Pairwise (· < ·)) : ∀ (j : Nat) (hj : j < l.length), j ≤ l[j]
  | 0, _ => Nat.zero_le _
  | j + 1, hj => by
    have h1 := inc_ge h j (by omega)
    have h2 := List.pairwise_iff_getElem.1 h j (j + 1) (by omega) hj (by omega)
    omega
section
variable {L : List E} {now : Int} {k : Nat} {look : List Nat} {due : List E}
theorem Look.start : Look L now 0 [0] [] := ⟨by simp, rfl, List.pairwise_singleton _ _, fun x hx => .inl (by simpa using hx), fun j i hj => absurd hj (by omega), by simp⟩
theorem Look.bound (h : Look L now k look due) : ∀ x ∈ look, x ≤ 2 * L.length := by
  intro x hx
  rcases h.par x hx with rfl | ⟨j, hj, h1, h2⟩
  · omega
  · unfold acc at h2
    simp only [Bool.and_eq_true, decide_eq_true_eq] at h2
    have := h2.1
    unfold up at this
    omega
theorem Look.len (h : Look L now k look due) : look.length ≤ 2 * L.length + 1 := by
  rcases Nat.eq_zero_or_pos look.length with h0 | h0
  · omega
  · have h1 := inc_ge h.inc (look.length - 1) (by omega)
    have h2 := h.bound (look[look.length - 1]'(by omega)) (List.getElem_mem _)
    omega
theorem Look.dueLen (h : Look L now k look due) : due.length ≤ 2 * L.length + 1 := by
  have h1 := h.len
  rw [h.due_, List.length_map]
  have h2 := List.length_filter_le (acc L now) (look.take k)
  rw [List.length_take] at h2
  omega
theorem Look.skip (h : Look L now k look due) {i : Nat} (hi : look[k]? = some i) (hn : acc L now i = false) : Look L now (k + 1) look due := by
  obtain ⟨hk, rfl⟩ := List.getElem?_eq_some_iff.1 hi
  refine ⟨by omega, h.zero, h.inc, fun x hx => ?_, fun j i' hj hji ha => ?_, ?_⟩
  · rcases h.par x hx with h0 | ⟨j, hj, h1⟩
    · exact .inl h0
    · exact .inr ⟨j, by omega, h1⟩
  · rcases Nat.lt_or_ge j k with hjk | hjk
    · exact h.kids j i' hjk hji ha
    · obtain rfl : j = k := by omega
      rw [hi] at hji
      injection hji with hji
      subst hji
      rw [hn] at ha
      cases ha
  · rw [h.due_, List.take_succ_eq_append_getElem hk, List.filter_append, List.filter_cons_of_neg (by simp [hn])]
    simp
theorem Look.take (h : Look L now k look due) {i : Nat} (hi : look[k]? = some i) (hn : acc L now i = true) : Look L now (k + 1) (look ++ [2 * i + 1, 2 * i + 2]) (due ++ [gE L i]) := by
  obtain ⟨hk, rfl⟩ := List.getElem?_eq_some_iff.1 hi
  have low : ∀ x ∈ look, x < 2 * look[k] + 1 := by
    intro x hx
    rcases h.par x hx with rfl | ⟨j, hj, h1, h2⟩
    · omega
    · have := inc_get h.inc hj h1 hi
      unfold up at this
      omega
  refine ⟨by simp; omega, by rw [List.getElem?_append_left (by omega)]; exact h.zero, ?_, fun x hx => ?_, fun j i' hj hji ha => ?_, ?_⟩
  · rw [List.pairwise_append]
    refine ⟨h.inc, by simp, fun x hx y hy => ?_⟩
    have := low x hx
    simp at hy
    omega
  · have cov : ∀ x, up x = look[k] → ∃ j, j < k + 1 ∧ (look ++ [2 * look[k] + 1, 2 * look[k] + 2])[j]? = some (up x) ∧ acc L now (up x) = true := fun x hx =>
      ⟨k, by omega, by rw [List.getElem?_append_left hk, hx]; exact hi, by rw [hx]; exact hn⟩
    rcases List.mem_append.1 hx with hx | hx
    · rcases h.par x hx with h0 | ⟨j, hj, h1, h2⟩
      · exact .inl h0
      · exact .inr ⟨j, by omega, by rw [List.getElem?_append_left (by omega)]; exact h1, h2⟩
    · simp at hx
      rcases hx with rfl | rfl
      · exact .inr (cov _ (by unfold up; omega))
      · exact .inr (cov _ (by unfold up; omega))
  · have hjl : j < look.length := by omega
    rw [List.getElem?_append_left hjl] at hji
    rcases Nat.lt_or_ge j k with hjk | hjk
    · obtain ⟨a1, a2⟩ := h.kids j i' hjk hji ha
      exact ⟨List.mem_append_left _ a1, List.mem_append_left _ a2⟩
    · obtain rfl : j = k := by omega
      rw [hi] at hji
      injection hji with hji
      subst hji
      exact ⟨List.mem_append_right _ (by simp), List.mem_append_right _ (by simp)⟩
  · rw [List.take_append_of_le_length (by omega), List.take_succ_eq_append_getElem hk, List.filter_append, List.filter_cons_of_pos (by simpa using hn), List.map_append, ← h.due_]
    simp
theorem Look.all (h : Look L now look.length look due) (hh : Heap L) : ∀ i, acc L now i = true → i ∈ look := by
  intro i
  induction i using Nat.strongRecOn with
  | _ i ih =>
    intro ha
    rcases Nat.eq_zero_or_pos i with rfl | h0
    · exact List.mem_of_getElem? h.zero
    · have hau : acc L now (up i) = true := by
        unfold acc at ha ⊢
        simp only [Bool.and_eq_true, decide_eq_true_eq] at ha ⊢
        have := up_lt h0
        refine ⟨by omega, ?_⟩
        rcases Int.lt_or_le now (gE L (up i)).x with hc | hc
        · have := heap_up hh h0 ha.1 hc
          omega
        · exact hc
      have hm := ih (up i) (up_lt h0) hau
      obtain ⟨j, hj, he⟩ := List.getElem_of_mem hm
      obtain ⟨a1, a2⟩ := h.kids j (up i) hj (by rw [List.getElem?_eq_getElem hj, he]) hau
      have : i = 2 * up i + 1 ∨ i = 2 * up i + 2 := by unfold up; omega
      rcases this with e | e
      · rw [e]; exact a1
      · rw [e]; exact a2
theorem range_map (L : List E) : (List.range L.length).map (gE L) = L := by
  apply List.ext_getElem
  · simp
  · intro i h1 h2
    simp only [List.getElem_map, List.getElem_range]
    exact gE_eq h2
theorem Look.done (h : Look L now look.length look due) (hh : Heap L) : due.Perm (L.filter fun a => decide (a.x ≤ now)) := by
  have hp : (look.filter (acc L now)).Perm ((List.range L.length).filter (acc L now)) := by
    rw [List.perm_ext_iff_of_nodup]
    · intro i
      simp only [List.mem_filter, List.mem_range]
      constructor
      · rintro ⟨h1, h2⟩
        refine ⟨?_, h2⟩
        unfold acc at h2
        simp only [Bool.and_eq_true, decide_eq_true_eq] at h2
        exact h2.1
      · rintro ⟨h1, h2⟩
        exact ⟨h.all hh i h2, h2⟩
    · exact ((h.inc.imp (fun h => Nat.ne_of_lt h)).sublist List.filter_sublist)
    · exact (List.nodup_range.sublist List.filter_sublist)
  have e : ((List.range L.length).filter (acc L now)).map (gE L) = L.filter fun a => decide (a.x ≤ now) := by
    conv => rhs; rw [← range_map L]
    rw [List.filter_map]
    congr 1
    apply List.filter_congr
    intro i hi
    simp only [List.mem_range] at hi
    simp [acc, hi]
  rw [h.due_, List.take_length, ← e]
  exact hp.map _
end
end Go.Proofs.Yteebcdicocmicaa.Tide
