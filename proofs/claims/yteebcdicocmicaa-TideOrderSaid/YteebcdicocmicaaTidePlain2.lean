/-
  Taking an entry out of the heap, in plain Lean.
-/
import Derived.Test.YteebcdicocmicaaTidePlain
namespace Go.Proofs.Yteebcdicocmicaa.Tide
set_option linter.unusedVariables false

def delF (f : Nat → Option Nat) (k : Nat) : Nat → Option Nat := fun j => if j = k then none else f j
theorem erase_filter : ∀ (L : List E) (i : Nat) (hi : i < L.length), (L.map E.h).Nodup → L.eraseIdx i = L.filter fun a => decide (a.h ≠ (gE L i).h)
  | [], i, hi, _ => absurd hi (by simp)
  | b :: L, 0, _, hnd => by
    simp only [List.map_cons, List.nodup_cons] at hnd
    have g0 : gE (b :: L) 0 = b := rfl
    rw [g0, List.eraseIdx_cons_zero, List.filter_cons_of_neg (by simp)]
    refine (List.filter_eq_self.2 fun a ha => ?_).symm
    simp only [decide_eq_true_eq]
    intro hh
    exact hnd.1 (hh ▸ List.mem_map_of_mem ha)
  | b :: L, i + 1, hi, hnd => by
    simp only [List.map_cons, List.nodup_cons] at hnd
    have hi' : i < L.length := by simpa using hi
    have g1 : gE (b :: L) (i + 1) = gE L i := rfl
    have hb : b.h ≠ (gE L i).h := fun hh => hnd.1 (hh ▸ List.mem_map_of_mem (gE_mem hi'))
    rw [g1, List.eraseIdx_cons_succ, List.filter_cons_of_pos (by simpa using hb), erase_filter L i hi' hnd.2]
theorem take_last {L : List E} (h : 0 < L.length) : L = L.take (L.length - 1) ++ [gE L (L.length - 1)] := by
  have h1 := List.take_append_drop (L.length - 1) L
  conv => lhs; rw [← h1]
  congr 1
  rw [List.drop_eq_getElem_cons (by omega), gE_eq (by omega), List.drop_eq_nil_of_le (by omega)]
theorem move_perm {L : List E} {i : Nat} (hi : i < L.length - 1) : ((L.take (L.length - 1)).set i (gE L (L.length - 1))).Perm (L.eraseIdx i) := by
  have hl : 0 < L.length := by omega
  obtain ⟨M, hM⟩ : ∃ M, M = L.take (L.length - 1) := ⟨_, rfl⟩
  have hML : M.length = L.length - 1 := by rw [hM]; simp
  have e := take_last hl
  rw [← hM] at e ⊢
  generalize gE L (L.length - 1) = z at *
  have e2 : L.eraseIdx i = M.eraseIdx i ++ [z] := by
    conv => lhs; rw [e]
    rw [List.eraseIdx_append_of_lt_length (by omega)]
  rw [e2, List.set_eq_take_append_cons_drop, if_pos (by omega), List.eraseIdx_eq_take_drop_succ]
  rw [List.append_assoc]
  exact List.Perm.append_left _ (List.perm_append_comm (l₁ := [z]))
theorem gE_take {L : List E} {k j : Nat} (h : j < k) : gE (L.take k) j = gE L j := by
  simp [gE, List.getD, List.getElem?_take, h]
section
variable {L : List E} {f : Nat → Option Nat} {h i : Nat}
theorem MapOK.idx (hm : MapOK L f) (hf : f h = some i) : i < L.length ∧ (gE L i).h = h := by
  obtain ⟨j, hj, hjh⟩ := hm.2 h (by rw [hf]; simp)
  have := hm.1 j hj
  rw [hjh, hf] at this
  injection this with this
  subst this
  exact ⟨hj, hjh⟩
theorem MapOK.nodup (hm : MapOK L f) : (L.map E.h).Nodup := by
  rw [List.nodup_iff_pairwise_ne, List.pairwise_iff_getElem]
  intro a b ha hb hab he
  simp only [List.length_map] at ha hb
  simp only [List.getElem_map] at he
  have := hm.nod a b ha hb (by rw [gE_eq ha, gE_eq hb]; exact he)
  omega
/-- The last one is taken. -/
theorem take_end (hh : Heap L) (hm : MapOK L f) (hf : f h = some i) (hi : i = L.length - 1) : Heap (L.take (L.length - 1)) ∧ MapOK (L.take (L.length - 1)) (delF f h) ∧ (L.take (L.length - 1)).Perm (L.filter fun a => decide (a.h ≠ h)) := by
  obtain ⟨hil, hih⟩ := hm.idx hf
  have hnod := hm.nod
  refine ⟨fun j h0 hj => ?_, ⟨fun j hj => ?_, fun k hk => ?_⟩, ?_⟩
  · simp only [List.length_take] at hj
    rw [gE_take (by omega), gE_take (by have := up_lt h0; omega)]
    exact hh j h0 (by omega)
  · simp only [List.length_take] at hj
    rw [gE_take (by omega)]
    unfold delF
    rw [if_neg, hm.1 j (by omega)]
    intro hc
    have := hnod j i (by omega) hil (by rw [hih]; exact hc)
    omega
  · unfold delF at hk
    by_cases hkh : k = h
    · simp [hkh] at hk
    · rw [if_neg hkh] at hk
      obtain ⟨j, hj, hjk⟩ := hm.2 k hk
      have hji : j ≠ i := by rintro rfl; exact hkh (hjk.symm.trans hih)
      exact ⟨j, by simp; omega, by rw [gE_take (by omega)]; exact hjk⟩
  · have e := erase_filter L i hil hm.nodup
    rw [hih] at e
    rw [← e, hi]
    have e2 := take_last (show 0 < L.length by omega)
    generalize gE L (L.length - 1) = z at *
    have hML : (L.take (L.length - 1)).length = L.length - 1 := by simp
    have e3 : L.eraseIdx (L.length - 1) = L.take (L.length - 1) := by
      conv => lhs; arg 1; rw [e2]
      rw [List.eraseIdx_append_of_length_le (by omega), hML, Nat.sub_self]
      simp
    rw [e3]
/-- Another one is: the last one goes to its place. -/
theorem take_mid (hh : Heap L) (hm : MapOK L f) (hf : f h = some i) (hi : i < L.length - 1) :
    HeapX ((L.take (L.length - 1)).set i (gE L (L.length - 1))) i ∧ MapX ((L.take (L.length - 1)).set i (gE L (L.length - 1))) i (upd (delF f h) (gE L (L.length - 1)).h i) ∧
      ((L.take (L.length - 1)).set i (gE L (L.length - 1))).Perm (L.filter fun a => decide (a.h ≠ h)) := by
  obtain ⟨hil, hih⟩ := hm.idx hf
  have hnod := hm.nod
  have hlen : ((L.take (L.length - 1)).set i (gE L (L.length - 1))).length = L.length - 1 := by simp
  have A : ∀ j, j ≠ i → j < L.length - 1 → gE ((L.take (L.length - 1)).set i (gE L (L.length - 1))) j = gE L j := fun j h1 h2 => by rw [gE_ne (Ne.symm h1), gE_take h2]
  refine ⟨⟨fun j h0 hj hji hui => ?_, fun j h0 hj hui h0i => ?_⟩, ⟨fun j hj hji => ?_, fun k hk => ?_⟩, ?_⟩
  · rw [hlen] at hj
    rw [A j hji hj, A (up j) hui (by have := up_lt h0; omega)]
    exact hh j h0 (by omega)
  · rw [hlen] at hj
    have h1 := up_lt h0
    have h2 := up_lt h0i
    rw [A j (by omega) hj, A (up i) (by omega) (by omega)]
    have h3 := hh j h0 (by omega)
    have h4 := hh i h0i hil
    rw [hui] at h3
    exact le_trans h4 h3
  · rw [hlen] at hj
    rw [A j hji hj, upd_ne, delF, if_neg, hm.1 j (by omega)]
    · intro hc
      exact hji (hnod j i (by omega) hil (by rw [hih]; exact hc))
    · intro hc
      have := hnod j (L.length - 1) (by omega) (by omega) hc
      omega
  · by_cases hke : k = (gE L (L.length - 1)).h
    · exact ⟨i, by rw [hlen]; exact hi, by rw [gE_same (by simp; omega)]; exact hke.symm⟩
    · rw [upd_ne hke] at hk
      unfold delF at hk
      by_cases hkh : k = h
      · simp [hkh] at hk
      · rw [if_neg hkh] at hk
        obtain ⟨j, hj, hjk⟩ := hm.2 k hk
        have hji : j ≠ i := by rintro rfl; exact hkh (hjk.symm.trans hih)
        have hjl : j ≠ L.length - 1 := by rintro rfl; exact hke hjk.symm
        exact ⟨j, by rw [hlen]; omega, by rw [A j hji (by omega)]; exact hjk⟩
  · have e := erase_filter L i hil hm.nodup
    rw [hih] at e
    rw [← e]
    exact move_perm hi
/-- A new one at the end. -/
theorem add_end (hh : Heap L) (hm : MapOK L f) (a : E) (hn : f a.h = none) : HeapX (L ++ [a]) L.length ∧ MapX (L ++ [a]) L.length f ∧ ((L ++ [a]).map E.h).Nodup := by
  have A : ∀ j, j < L.length → gE (L ++ [a]) j = gE L j := fun j h1 => by simp [gE, List.getD, List.getElem?_append_left h1]
  refine ⟨⟨fun j h0 hj hji hui => ?_, fun j h0 hj hui h0i => ?_⟩, ⟨fun j hj hji => ?_, fun k hk => ?_⟩, ?_⟩
  · simp at hj
    rw [A j (by omega), A (up j) (by have := up_lt h0; omega)]
    exact hh j h0 (by omega)
  · simp at hj
    have := up_lt h0
    omega
  · simp at hj
    rw [A j (by omega)]
    exact hm.1 j (by omega)
  · obtain ⟨j, hj, hjk⟩ := hm.2 k hk
    exact ⟨j, by simp; omega, by rw [A j hj]; exact hjk⟩
  · rw [List.map_append, List.nodup_append]
    refine ⟨hm.nodup, by simp, fun x hx y hy => ?_⟩
    simp only [List.map_cons, List.map_nil, List.mem_singleton] at hy
    subst hy
    obtain ⟨b, hb, rfl⟩ := List.mem_map.1 hx
    obtain ⟨j, hj, rfl⟩ := List.getElem_of_mem hb
    intro hc
    have := hm.1 j hj
    rw [gE_eq hj, hc, hn] at this
    cases this
/-- An entry goes to another handle. -/
theorem rename (hh : Heap L) (hm : MapOK L f) (hf : f h = some i) (h2 : Nat) (hn : f h2 = none) (b : E) (hb : b = ⟨h2, (gE L i).x, (gE L i).t⟩) :
    Heap (L.set i b) ∧ MapOK (L.set i b) (upd (delF f h) h2 i) := by
  obtain ⟨hil, hih⟩ := hm.idx hf
  have hnod := hm.nod
  have S : gE (L.set i b) i = b := gE_same hil b
  have A : ∀ j, j ≠ i → gE (L.set i b) j = gE L j := fun j h1 => by rw [gE_ne (Ne.symm h1)]
  have key : ∀ j, (gE (L.set i b) j).x = (gE L j).x ∧ (gE (L.set i b) j).t = (gE L j).t := fun j => by
    by_cases hj : j = i
    · subst hj; rw [S, hb]; exact ⟨rfl, rfl⟩
    · rw [A j hj]; exact ⟨rfl, rfl⟩
  refine ⟨fun j h0 hj => ?_, fun j hj => ?_, fun k hk => ?_⟩
  · have := hh j h0 (by simpa using hj)
    unfold lt at this ⊢
    rw [(key j).1, (key j).2, (key (up j)).1, (key (up j)).2]
    exact this
  · simp at hj
    by_cases hji : j = i
    · subst hji
      rw [S, hb, upd_same]
    · rw [A j hji]
      have h3 := hm.1 j hj
      have e1 : (gE L j).h ≠ h2 := fun hc => by rw [hc, hn] at h3; cases h3
      have e2 : (gE L j).h ≠ h := fun hc => hji (hnod j i hj hil (by rw [hih]; exact hc))
      rw [upd_ne e1, delF, if_neg e2, h3]
  · by_cases hk2 : k = h2
    · exact ⟨i, by simpa using hil, by rw [S, hb]; exact hk2.symm⟩
    · rw [upd_ne hk2] at hk
      unfold delF at hk
      by_cases hkh : k = h
      · simp [hkh] at hk
      · rw [if_neg hkh] at hk
        obtain ⟨j, hj, hjk⟩ := hm.2 k hk
        have hji : j ≠ i := by rintro rfl; exact hkh (hjk.symm.trans hih)
        exact ⟨j, by simpa using hj, by rw [A j hji]; exact hjk⟩
end
end Go.Proofs.Yteebcdicocmicaa.Tide
