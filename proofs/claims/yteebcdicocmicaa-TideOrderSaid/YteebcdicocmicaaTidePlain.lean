/-
  Entries of the wheel in plain Lean: their order, heaps with a hole, where each handle stands.
-/
import Derived.WalkKit
namespace Go.Proofs.Yteebcdicocmicaa.Tide
set_option linter.unusedVariables false

structure E where
  h : Nat
  x : Int
  t : Nat
def dE : E := ⟨0, 0, 0⟩
def lt (a b : E) : Prop := a.x < b.x ∨ (a.x = b.x ∧ a.t < b.t)
instance (a b : E) : Decidable (lt a b) := by unfold lt; infer_instance
/-- What 'order' answers. -/
def ord (a b : E) : Int := if a.x < b.x then -1 else if b.x < a.x then 1 else if a.t < b.t then -1 else if b.t < a.t then 1 else 0
theorem ord_neg (a b : E) : ord a b < 0 ↔ lt a b := by
  unfold ord lt
  split
  · simp [*]
  · split
    · simp; omega
    · split
      · simp; omega
      · split <;> simp <;> omega
theorem ord_bd (a b : E) : -1 ≤ ord a b ∧ ord a b ≤ 1 := by
  unfold ord
  repeat' split
  all_goals omega
theorem lt_irrefl (a : E) : ¬ lt a a := by unfold lt; omega
theorem lt_trans {a b c : E} (h : lt a b) (k : lt b c) : lt a c := by unfold lt at *; omega
theorem le_trans {a b c : E} (h : ¬ lt b a) (k : ¬ lt c b) : ¬ lt c a := by unfold lt at *; omega
theorem lt_asymm {a b : E} (h : lt a b) : ¬ lt b a := by unfold lt at *; omega

def gE (L : List E) (j : Nat) : E := L.getD j dE
theorem gE_eq {L : List E} {j : Nat} (h : j < L.length) : gE L j = L[j] := by simp [gE, List.getD, h]
theorem gE_same {L : List E} {i : Nat} (h : i < L.length) (e : E) : gE (L.set i e) i = e := by simp [gE, List.getD, h]
theorem gE_ne {L : List E} {i j : Nat} (h : i ≠ j) (e : E) : gE (L.set i e) j = gE L j := by simp [gE, List.getD, h]
theorem gE_mem {L : List E} {j : Nat} (h : j < L.length) : gE L j ∈ L := by rw [gE_eq h]; exact List.getElem_mem h
theorem set_gE {L : List E} {i : Nat} (h : i < L.length) : L.set i (gE L i) = L := by rw [gE_eq h]; exact List.set_getElem_self h

def up (j : Nat) : Nat := (j - 1) / 2
/-- A heap but for the place i. -/
def HeapX (L : List E) (i : Nat) : Prop :=
  (∀ j, 0 < j → j < L.length → j ≠ i → up j ≠ i → ¬ lt (gE L j) (gE L (up j))) ∧ (∀ j, 0 < j → j < L.length → up j = i → 0 < i → ¬ lt (gE L j) (gE L (up i)))
def Heap (L : List E) : Prop := ∀ j, 0 < j → j < L.length → ¬ lt (gE L j) (gE L (up j))
def upd (f : Nat → Option Nat) (h i : Nat) : Nat → Option Nat := fun k => if k = h then some i else f k
theorem upd_same (f : Nat → Option Nat) (h i : Nat) : upd f h i h = some i := by simp [upd]
theorem upd_ne {f : Nat → Option Nat} {h i k : Nat} (hk : k ≠ h) : upd f h i k = f k := by simp [upd, hk]
/-- Where each handle stands, but for that of the place i. -/
def MapX (L : List E) (i : Nat) (f : Nat → Option Nat) : Prop :=
  (∀ j, j < L.length → j ≠ i → f (gE L j).h = some j) ∧ ∀ h, f h ≠ none → ∃ j, j < L.length ∧ (gE L j).h = h
def MapOK (L : List E) (f : Nat → Option Nat) : Prop :=
  (∀ j, j < L.length → f (gE L j).h = some j) ∧ ∀ h, f h ≠ none → ∃ j, j < L.length ∧ (gE L j).h = h
def Nod (L : List E) : Prop := ∀ i j, i < L.length → j < L.length → (gE L i).h = (gE L j).h → i = j
theorem Nod.of_nodup {L : List E} (h : (L.map E.h).Nodup) : Nod L := by
  intro i j hi hj he
  rw [gE_eq hi, gE_eq hj] at he
  have := (List.getElem_inj (i := i) (j := j) (h₀ := by simpa using hi) (h₁ := by simpa using hj) h).1
  exact this (by simpa using he)
theorem MapOK.nod {L : List E} {f : Nat → Option Nat} (h : MapOK L f) : Nod L := by
  intro i j hi hj he
  have h1 := h.1 i hi
  have h2 := h.1 j hj
  rw [he, h2] at h1
  injection h1 with h1
  exact h1.symm

/-- The list in memory while e is on its way, the hole at i: with e in the hole it is a heap but for that place, and a permutation of what was there. -/
structure Hole (es0 : List E) (e : E) (i : Nat) (cur : List E) (f : Nat → Option Nat) : Prop where
  li : i < cur.length
  perm : (cur.set i e).Perm es0
  hx : HeapX (cur.set i e) i
  mp : MapX (cur.set i e) i f
  nd : (es0.map E.h).Nodup
theorem Hole.len {es0 : List E} {e : E} {i : Nat} {cur : List E} {f : Nat → Option Nat} (h : Hole es0 e i cur f) : cur.length = es0.length := by
  have := h.perm.length_eq; simpa using this
theorem swap_perm (cur : List E) (e : E) (i k : Nat) (hi : i < cur.length) (hk : k < cur.length) (hne : i ≠ k) : ((cur.set i (gE cur k)).set k e).Perm (cur.set i e) := by
  have h := List.set_set_perm (as := cur.set i e) (i := i) (j := k) (by simpa using hi) (by simpa using hk)
  have e1 : (cur.set i e)[k]'(by simpa using hk) = gE cur k := by rw [List.getElem_set, if_neg hne, gE_eq hk]
  have e2 : (cur.set i e)[i]'(by simpa using hi) = e := by simp
  rw [e1, e2, List.set_set] at h
  exact h
section
variable {es0 : List E} {e : E} {i : Nat} {cur : List E} {f : Nat → Option Nat}
/-- The hole moves to k. -/
theorem Hole.move {k : Nat} (h : Hole es0 e i cur f) (hk : k < cur.length) (hne : i ≠ k) (hx : HeapX ((cur.set i (gE cur k)).set k e) k) :
    Hole es0 e k (cur.set i (gE cur k)) (upd f (gE cur k).h i) := by
  have hp := (swap_perm cur e i k h.li hk hne).trans h.perm
  have hnod : Nod ((cur.set i (gE cur k)).set k e) := Nod.of_nodup ((hp.map E.h).nodup_iff.2 h.nd)
  have hnod0 : Nod (cur.set i e) := Nod.of_nodup ((h.perm.map E.h).nodup_iff.2 h.nd)
  refine ⟨by simpa using hk, hp, hx, ⟨fun j hj hjk => ?_, fun b hb => ?_⟩, h.nd⟩
  · simp only [List.length_set] at hj
    rw [gE_ne (Ne.symm hjk)]
    by_cases hji : j = i
    · subst hji
      rw [gE_same hj, upd_same]
    · rw [gE_ne (Ne.symm hji)]
      have h1 := h.mp.1 j (by simpa using hj) hji
      rw [gE_ne (Ne.symm hji)] at h1
      rw [upd_ne, h1]
      intro hh
      have := hnod0 j k (by simpa using hj) (by simpa using hk) (by rw [gE_ne (Ne.symm hji), gE_ne hne]; exact hh)
      exact hjk this
  · by_cases hbk : b = (gE cur k).h
    · subst hbk
      exact ⟨i, by simpa using h.li, by rw [gE_ne (Ne.symm hne), gE_same h.li]⟩
    · rw [upd_ne hbk] at hb
      obtain ⟨j, hj, hjb⟩ := h.mp.2 b hb
      simp only [List.length_set] at hj
      by_cases hji : j = i
      · subst hji
        rw [gE_same hj] at hjb
        exact ⟨k, by simpa using hk, by rw [gE_same (by simpa using hk)]; exact hjb⟩
      · rw [gE_ne (Ne.symm hji)] at hjb
        have hjk : j ≠ k := by rintro rfl; exact hbk hjb.symm
        exact ⟨j, by simpa using hj, by rw [gE_ne (Ne.symm hjk), gE_ne (Ne.symm hji)]; exact hjb⟩
theorem Hole.mem_of {j : Nat} (h : Hole es0 e i cur f) (hj : j < cur.length) (hne : j ≠ i) : gE cur j ∈ es0 := by
  have h1 : gE (cur.set i e) j = gE cur j := gE_ne (Ne.symm hne) e
  rw [← h1]
  exact h.perm.mem_iff.1 (gE_mem (by simpa using hj))
theorem up_lt {j : Nat} (h : 0 < j) : up j < j := by unfold up; omega
theorem Hole.goUp (h : Hole es0 e i cur f) (hi : 0 < i) (hlt : lt e (gE cur (up i))) :
    Hole es0 e (up i) (cur.set i (gE cur (up i))) (upd f (gE cur (up i)).h i) := by
  have hu := up_lt hi
  have hli := h.li
  refine h.move (by omega) (by omega) ?_
  obtain ⟨x1, x2⟩ := h.hx
  simp only [List.length_set] at x1 x2
  have A : ∀ j, j ≠ i → j ≠ up i → gE ((cur.set i (gE cur (up i))).set (up i) e) j = gE cur j := fun j h1 h2 => by rw [gE_ne (Ne.symm h2), gE_ne (Ne.symm h1)]
  have A' : ∀ j, j ≠ i → gE (cur.set i e) j = gE cur j := fun j h1 => by rw [gE_ne (Ne.symm h1)]
  have B : gE ((cur.set i (gE cur (up i))).set (up i) e) i = gE cur (up i) := by rw [gE_ne (by omega), gE_same hli]
  constructor
  · intro j h0 hj hju huj
    simp only [List.length_set] at hj
    by_cases hji : j = i
    · subst hji; exact absurd rfl huj
    · rw [A j hji hju]
      by_cases huji : up j = i
      · have := x2 j h0 hj huji hi
        rw [A' j hji, A' (up i) (by omega)] at this
        rw [huji, B]
        exact this
      · rw [A (up j) huji huj]
        have := x1 j h0 hj hji huji
        rwa [A' j hji, A' (up j) huji] at this
  · intro j h0 hj huj h0u
    simp only [List.length_set] at hj
    have huu : gE ((cur.set i (gE cur (up i))).set (up i) e) (up (up i)) = gE cur (up (up i)) := A _ (by have := up_lt h0u; omega) (by have := up_lt h0u; omega)
    have hpp : ¬ lt (gE cur (up i)) (gE cur (up (up i))) := by
      have := x1 (up i) h0u (by omega) (by omega) (by have := up_lt h0u; omega)
      rwa [A' (up i) (by omega), A' (up (up i)) (by have := up_lt h0u; omega)] at this
    rw [huu]
    by_cases hji : j = i
    · subst hji; rw [B]; exact hpp
    · have hj2 : j ≠ up i := by intro hh; rw [hh] at huj; have := up_lt h0u; omega
      rw [A j hji hj2]
      have := x1 j h0 hj hji (by omega)
      rw [A' j hji, A' (up j) (by omega), huj] at this
      exact le_trans hpp this
/-- e does not belong further up. -/
def UpOK (e : E) (i : Nat) (cur : List E) : Prop := 0 < i → ¬ lt e (gE cur (up i))
theorem Hole.goDown {d : Nat} (h : Hole es0 e i cur f) (hu : UpOK e i cur) (hd : up d = i) (h0 : 0 < d) (hdl : d < cur.length) (hmin : ∀ c, up c = i → 0 < c → c < cur.length → ¬ lt (gE cur c) (gE cur d)) (hlt : ¬ lt e (gE cur d)) :
    Hole es0 e d (cur.set i (gE cur d)) (upd f (gE cur d).h i) ∧ UpOK e d (cur.set i (gE cur d)) := by
  have hli := h.li
  have hid : i ≠ d := by rw [← hd]; have := up_lt h0; omega
  refine ⟨h.move hdl hid ?_, fun _ => by rw [hd, gE_same hli]; exact hlt⟩
  obtain ⟨x1, x2⟩ := h.hx
  simp only [List.length_set] at x1 x2
  have A : ∀ j, j ≠ i → j ≠ d → gE ((cur.set i (gE cur d)).set d e) j = gE cur j := fun j h1 h2 => by rw [gE_ne (Ne.symm h2), gE_ne (Ne.symm h1)]
  have A' : ∀ j, j ≠ i → gE (cur.set i e) j = gE cur j := fun j h1 => by rw [gE_ne (Ne.symm h1)]
  have B : gE ((cur.set i (gE cur d)).set d e) i = gE cur d := by rw [gE_ne (Ne.symm hid), gE_same hli]
  constructor
  · intro j hj0 hj hjd huj
    simp only [List.length_set] at hj
    have hjd' : j = i → up j ≠ d := fun hh => by have := up_lt hj0; have := up_lt h0; omega
    by_cases hji : j = i
    · replace hjd' := hjd' hji
      subst hji
      rw [B, A (up j) (by have := up_lt hj0; omega) hjd']
      have := x2 d h0 hdl hd hj0
      rwa [A' d (Ne.symm hid), A' (up j) (by have := up_lt hj0; omega)] at this
    · rw [A j hji hjd]
      by_cases huji : up j = i
      · rw [huji, B]
        exact hmin j huji hj0 hj
      · rw [A (up j) huji huj]
        have := x1 j hj0 hj hji huji
        rwa [A' j hji, A' (up j) huji] at this
  · intro j hj0 hj huj _
    simp only [List.length_set] at hj
    have hji : j ≠ i := by intro hh; have := up_lt hj0; have := up_lt h0; omega
    have hjd : j ≠ d := by intro hh; rw [hh] at huj; have := up_lt h0; omega
    rw [A j hji hjd, hd, B]
    have := x1 j hj0 hj hji (by rw [huj]; exact Ne.symm hid)
    rw [A' j hji, A' (up j) (by rw [huj]; exact Ne.symm hid), huj] at this
    exact this
theorem Hole.done (h : Hole es0 e i cur f) (hu : UpOK e i cur) (hc : ∀ c, up c = i → 0 < c → c < cur.length → ¬ lt (gE cur c) e) :
    Heap (cur.set i e) ∧ MapOK (cur.set i e) (upd f e.h i) := by
  have hli := h.li
  have hnod0 : Nod (cur.set i e) := Nod.of_nodup ((h.perm.map E.h).nodup_iff.2 h.nd)
  have A' : ∀ j, j ≠ i → gE (cur.set i e) j = gE cur j := fun j h1 => by rw [gE_ne (Ne.symm h1)]
  have hs : gE (cur.set i e) i = e := gE_same hli e
  refine ⟨fun j h0 hj => ?_, fun j hj => ?_, fun b hb => ?_⟩
  · by_cases hji : j = i
    · subst hji
      rw [hs, A' (up j) (by have := up_lt h0; omega)]
      exact hu h0
    · by_cases huj : up j = i
      · rw [huj, hs, A' j hji]
        exact hc j huj h0 (by simpa using hj)
      · exact h.hx.1 j h0 hj hji huj
  · by_cases hji : j = i
    · subst hji
      rw [hs, upd_same]
    · have h1 := h.mp.1 j hj hji
      rw [upd_ne, h1]
      intro hh
      exact hji (hnod0 j i hj (by simpa using hli) (by rw [hs]; exact hh))
  · by_cases hbe : b = e.h
    · exact ⟨i, by simpa using hli, by rw [hs]; exact hbe.symm⟩
    · rw [upd_ne hbe] at hb
      exact h.mp.2 b hb
end

/-- The row of what is due: see 'Due'. -/
theorem heap_up {L : List E} (h : Heap L) {j : Nat} (h0 : 0 < j) (hj : j < L.length) {now : Int} (hu : now < (gE L (up j)).x) : now < (gE L j).x := by
  have := h j h0 hj
  unfold lt at this
  omega
end Go.Proofs.Yteebcdicocmicaa.Tide
