/-
  Contracts and lemmas, joined: ItemSeg, ItemEnc, ClassTake2, ItemWakes, Sized, ItemSizesLaw, ClassArg, ItemRight.
-/
import Derived.Deep.WholeRow
import Derived.SizedLaws
import Derived.Deep.Strs
import Derived.Test.YtdmclekohalolaaJ1
import Derived.Test.YtdmclekohalolaaJ2
import Derived.Test.YtdmclekohalolaaJ5
import Derived.Test.YtdmclekohalolaaJ7
set_option linter.unusedSimpArgs false
set_option linter.unusedVariables false
/-
  Bytes cut into pieces; an item's bytes as a whole.
-/
namespace Go.Proofs.Ytdmclekohalolaa.Itm
open Go.RowKit Base Arena
set_option linter.unusedVariables false

theorem lay_get (l : List UInt8) (p : Nat) (q : List UInt8) (h : p + q.length ≤ l.length) (j : Nat) : (lay l p q)[j]? = if p ≤ j ∧ j < p + q.length then q[j - p]? else l[j]? := by
  unfold lay
  rw [List.append_assoc]
  rcases Nat.lt_or_ge j p with h1 | h1
  · rw [if_neg (by omega), List.getElem?_append_left (by simp; omega), List.getElem?_take, if_pos h1]
  · rw [List.getElem?_append_right (by simp; omega)]
    have e : (l.take p).length = p := by simp; omega
    rw [e]
    rcases Nat.lt_or_ge j (p + q.length) with h2 | h2
    · rw [if_pos ⟨h1, h2⟩, List.getElem?_append_left (by omega)]
    · rw [if_neg (by omega), List.getElem?_append_right (by omega), List.getElem?_drop]
      congr 1
      omega
theorem piece_get (l : List UInt8) (p N j : Nat) : ((l.drop p).take N)[j]? = if j < N then l[p + j]? else none := by
  rw [List.getElem?_take]
  split
  · rw [List.getElem?_drop]
  · rfl
theorem piece_sub {l E : List UInt8} {p N o m : Nat} (h : (l.drop p).take N = E) (hm : o + m ≤ N) : (l.drop (p + o)).take m = (E.drop o).take m := by
  apply List.ext_getElem?
  intro j
  rw [← h, piece_get, piece_get, piece_get]
  split
  · rw [if_pos (by omega)]; congr 1; omega
  · rfl
theorem piece_in (l : List UInt8) (p o N : Nat) (q : List UInt8) (h : o + q.length ≤ N) (hN : p + N ≤ l.length) : ((lay l (p + o) q).drop p).take N = lay ((l.drop p).take N) o q := by
  have e : ((l.drop p).take N).length = N := by simp; omega
  apply List.ext_getElem?
  intro j
  rw [piece_get, lay_get _ _ _ (by omega), lay_get _ _ _ (by omega), piece_get]
  split
  · rcases Nat.lt_or_ge j o with h1 | h1
    · rw [if_neg (by omega), if_neg (by omega)]
    · rcases Nat.lt_or_ge j (o + q.length) with h2 | h2
      · rw [if_pos (by omega), if_pos (by omega)]; congr 1; omega
      · rw [if_neg (by omega), if_neg (by omega)]
  · rw [if_neg (by omega)]
/-- Where the j-th piece begins. -/
def off (lens : List Nat) (j : Nat) : Nat := (lens.take j).sum
/-- From p on, the bytes are the pieces S, of the lengths lens. -/
structure Seg (l : List UInt8) (p : Nat) (lens : List Nat) (S : List (List UInt8)) : Prop where
  lenE : S.map List.length = lens
  fit : p + lens.sum ≤ l.length
  eq : (l.drop p).take lens.sum = S.flatten
theorem flat_at : ∀ (S : List (List UInt8)) (j : Nat) (q : List UInt8), S[j]? = some q → (S.flatten.drop (off (S.map List.length) j)).take q.length = q ∧ off (S.map List.length) j + q.length ≤ (S.map List.length).sum
  | [], j, q, h => by simp at h
  | s :: S, 0, q, h => by
    simp at h; subst h
    simp [off]
  | s :: S, j + 1, q, h => by
    have h' : S[j]? = some q := by simpa using h
    obtain ⟨a, b⟩ := flat_at S j q h'
    have e : off ((s :: S).map List.length) (j + 1) = s.length + off (S.map List.length) j := by simp [off]
    rw [e]
    refine ⟨?_, by simp only [List.map_cons, List.sum_cons]; omega⟩
    rw [List.flatten_cons, List.drop_append, List.drop_eq_nil_of_le (by omega), List.nil_append]
    rw [show s.length + off (S.map List.length) j - s.length = off (S.map List.length) j by omega]
    exact a
theorem flat_set : ∀ (S : List (List UInt8)) (j : Nat) (q q' : List UInt8), S[j]? = some q → q'.length = q.length → (S.set j q').flatten = lay S.flatten (off (S.map List.length) j) q'
  | [], j, q, q', h, hl => by simp at h
  | s :: S, 0, q, q', h, hl => by
    simp at h; subst h
    simp [off, lay, hl]
  | s :: S, j + 1, q, q', h, hl => by
    have h' : S[j]? = some q := by simpa using h
    have ih := flat_set S j q q' h' hl
    have e : off ((s :: S).map List.length) (j + 1) = s.length + off (S.map List.length) j := by simp [off]
    obtain ⟨-, b⟩ := flat_at S j q h'
    have hf : S.flatten.length = (S.map List.length).sum := List.length_flatten
    rw [e, List.set_cons_succ, List.flatten_cons, ih, List.flatten_cons]
    apply List.ext_getElem?
    intro i
    rw [lay_get _ _ _ (by rw [List.length_append]; omega)]
    rcases Nat.lt_or_ge i s.length with h1 | h1
    · rw [List.getElem?_append_left h1, if_neg (by omega), List.getElem?_append_left h1]
    · rw [List.getElem?_append_right h1, lay_get _ _ _ (by omega), List.getElem?_append_right h1]
      rcases Nat.lt_or_ge (i - s.length) (off (S.map List.length) j) with h2 | h2
      · rw [if_neg (by omega), if_neg (by omega)]
      · rcases Nat.lt_or_ge (i - s.length) (off (S.map List.length) j + q'.length) with h3 | h3
        · rw [if_pos (by omega), if_pos (by omega)]; congr 1; omega
        · rw [if_neg (by omega), if_neg (by omega)]
section
variable {l : List UInt8} {p : Nat} {lens : List Nat} {S : List (List UInt8)}
theorem Seg.flat_len (h : Seg l p lens S) : S.flatten.length = lens.sum := by rw [List.length_flatten, h.lenE]
theorem Seg.at_ (h : Seg l p lens S) (j : Nat) (q : List UInt8) (hj : S[j]? = some q) : (l.drop (p + off lens j)).take q.length = q ∧ off lens j + q.length ≤ lens.sum := by
  obtain ⟨a, b⟩ := flat_at S j q hj
  rw [h.lenE] at a b
  exact ⟨by rw [piece_sub h.eq b]; exact a, b⟩
theorem Seg.set (h : Seg l p lens S) (j : Nat) (q q' : List UInt8) (hj : S[j]? = some q) (hl : q'.length = q.length) : Seg (lay l (p + off lens j) q') p lens (S.set j q') := by
  obtain ⟨a, b⟩ := flat_at S j q hj
  have c := flat_set S j q q' hj hl
  rw [h.lenE] at a b c
  have hf := h.fit
  refine ⟨?_, by rw [lay_len _ _ _ (by omega)]; exact hf, ?_⟩
  · rw [List.map_set, h.lenE]
    apply List.ext_getElem?
    intro i
    rw [List.getElem?_set]
    split
    · rename_i e; subst e
      have : lens[j]? = some q.length := by rw [← h.lenE, List.getElem?_map, hj]; rfl
      rw [this]
      have hjl : j < lens.length := by have := List.getElem?_eq_some_iff.1 this; exact this.1
      rw [if_pos hjl, hl]
    · rfl
  · rw [piece_in _ _ _ _ _ (by omega) hf, h.eq, c]
theorem Seg.far (h : Seg l p lens S) (a : Nat) (q : List UInt8) (ha : a + q.length ≤ l.length) (hd : a + q.length ≤ p ∨ p + lens.sum ≤ a) : Seg (lay l a q) p lens S :=
  ⟨h.lenE, by rw [lay_len _ _ _ ha]; exact h.fit, by rw [piece_out _ _ _ _ _ ha (hd.symm.imp id id |>.imp id id), h.eq]⟩
end
/-- A stretch cut into pieces. -/
def cut (l : List UInt8) (p : Nat) : List Nat → List (List UInt8)
  | [] => []
  | m :: ms => (l.drop p).take m :: cut l (p + m) ms
theorem Seg.cut_ : ∀ (lens : List Nat) (l : List UInt8) (p : Nat), p + lens.sum ≤ l.length → Seg l p lens (cut l p lens)
  | [], l, p, h => ⟨rfl, h, by simp [cut]⟩
  | m :: ms, l, p, h => by
    have h' : p + m + ms.sum ≤ l.length := by rw [List.sum_cons] at h; omega
    obtain ⟨a, b, c⟩ := Seg.cut_ ms l (p + m) h'
    refine ⟨?_, h, ?_⟩
    · rw [cut, List.map_cons, a]
      congr 1
      simp
      omega
    · rw [cut, List.flatten_cons, ← c, List.sum_cons]
      apply List.ext_getElem?
      intro j
      rw [piece_get]
      have e : ((l.drop p).take m).length = m := by simp; omega
      rcases Nat.lt_or_ge j m with h1 | h1
      · rw [if_pos (by omega), List.getElem?_append_left (by omega), piece_get, if_pos h1]
      · rw [List.getElem?_append_right (by omega), e, piece_get]
        rcases Nat.lt_or_ge j (m + ms.sum) with h2 | h2
        · rw [if_pos h2, if_pos (by omega)]; congr 1; omega
        · rw [if_neg (by omega), if_neg (by omega)]
/-- Nothing but n bytes from p on is another. -/
structure But (l l' : List UInt8) (p n : Nat) : Prop where
  len : l'.length = l.length
  at_ : ∀ j, j < p ∨ p + n ≤ j → l'[j]? = l[j]?
theorem But.refl (l : List UInt8) (p n : Nat) : But l l p n := ⟨rfl, fun _ _ => rfl⟩
theorem But.lay {l l' : List UInt8} {p n : Nat} (h : But l l' p n) (o : Nat) (q : List UInt8) (ho : o + q.length ≤ n) (hn : p + n ≤ l.length) : But l (lay l' (p + o) q) p n :=
  have e := h.len
  ⟨by rw [lay_len _ _ _ (by omega), e], fun j hj => by rw [lay_get _ _ _ (by omega), if_neg (by omega), h.at_ j hj]⟩
theorem But.eq {l l' : List UInt8} {p n : Nat} (h : But l l' p n) (hn : p + n ≤ l.length) {E : List UInt8} (hE : (l'.drop p).take n = E) : l' = Base.lay l p E := by
  have e : E.length = n := by rw [← hE]; have := h.len; simp; omega
  apply List.ext_getElem?
  intro j
  rw [lay_get _ _ _ (by omega)]
  split
  · rw [← hE, piece_get, if_pos (by omega)]; congr 1; omega
  · exact h.at_ j (by omega)

/-- All that a chunk's item is: its links, its chunk's generation and class, the item. -/
structure Whole where
  l0 : Nat
  l1 : Nat
  l2 : Nat
  gen : Nat
  cl : Nat
  t : It
def Whole.segs (I : Whole) : List (List UInt8) :=
  [putB 4 I.l0, putB 4 I.l1, putB 4 I.l2, putB 4 I.gen, putB 8 I.t.ex, putB 8 I.t.tc, putB 8 I.t.tk, putB 4 I.t.fl, putB 1 I.t.key.length, putB 1 I.t.st, putB 1 I.t.ms, putB 1 I.cl, putB 4 I.t.val.length, putB 4 0, I.t.key, I.t.val, [13, 10]]
def lns (K V : Nat) : List Nat := [4, 4, 4, 4, 8, 8, 8, 4, 1, 1, 1, 1, 4, 4, K, V, 2]
def Whole.lens (I : Whole) : List Nat := lns I.t.key.length I.t.val.length
def Whole.enc (I : Whole) : List UInt8 := I.segs.flatten
theorem lns_sum (K V : Nat) : (lns K V).sum = 58 + K + V := by simp [lns]; omega
theorem Whole.map_len (I : Whole) : I.segs.map List.length = I.lens := by simp [Whole.segs, Whole.lens, lns, putB_len]
theorem Whole.enc_len (I : Whole) : I.enc.length = 58 + I.t.key.length + I.t.val.length := by
  rw [Whole.enc, List.length_flatten, I.map_len, Whole.lens, lns_sum]
/-- A chunk's item. -/
def Has (l : List UInt8) (p : Nat) (I : Whole) : Prop := Seg l p I.lens I.segs
theorem off_lt (K V j : Nat) (h : j ≤ 14) : off (lns K V) j = off (lns 0 0) j := by
  match j, h with
  | 0, _ => rfl
  | 1, _ => rfl
  | 2, _ => rfl
  | 3, _ => rfl
  | 4, _ => rfl
  | 5, _ => rfl
  | 6, _ => rfl
  | 7, _ => rfl
  | 8, _ => rfl
  | 9, _ => rfl
  | 10, _ => rfl
  | 11, _ => rfl
  | 12, _ => rfl
  | 13, _ => rfl
  | 14, _ => rfl
theorem off_15 (K V : Nat) : off (lns K V) 15 = 56 + K := by simp [off, lns]; omega
theorem off_16 (K V : Nat) : off (lns K V) 16 = 56 + K + V := by simp [off, lns]; omega
theorem Seg.rd_ {l : List UInt8} {p : Nat} {lens : List Nat} {S : List (List UInt8)} (h : Seg l p lens S) (j m v : Nat) (hj : S[j]? = some (putB m v)) (hv : v < 256 ^ m) : rd l (p + off lens j) m = v := by
  have := (h.at_ j _ hj).1
  rw [putB_len] at this
  unfold rd
  rw [this, beN_putB, Nat.mod_eq_of_lt hv]
theorem Has.fit {l : List UInt8} {p : Nat} {I : Whole} (h : Has l p I) : p + (58 + I.t.key.length + I.t.val.length) ≤ l.length := by
  have := Seg.fit h
  rw [Whole.lens, lns_sum] at this
  exact this
theorem Has.eq {l : List UInt8} {p : Nat} {I : Whole} (h : Has l p I) : (l.drop p).take (58 + I.t.key.length + I.t.val.length) = I.enc := by
  have := Seg.eq h
  rw [Whole.lens, lns_sum] at this
  exact this
theorem Has.of {l : List UInt8} {p : Nat} {I : Whole} (h : p + (58 + I.t.key.length + I.t.val.length) ≤ l.length) (e : (l.drop p).take (58 + I.t.key.length + I.t.val.length) = I.enc) : Has l p I :=
  ⟨I.map_len, by rw [Whole.lens, lns_sum]; exact h, by rw [Whole.lens, lns_sum]; exact e⟩
theorem Has.lay_ (l : List UInt8) (p : Nat) (I : Whole) (h : p + (58 + I.t.key.length + I.t.val.length) ≤ l.length) : Has (lay l p I.enc) p I := by
  have e := I.enc_len
  refine Has.of (by rw [lay_len _ _ _ (by omega)]; exact h) ?_
  have := piece_lay l p I.enc (by omega)
  rw [e] at this
  exact this
section
variable {l : List UInt8} {p : Nat} {I : Whole} (h : Has l p I)
include h
theorem Has.key_len (hk : I.t.key.length < 256) : rd l (p + 44) 1 = I.t.key.length := Seg.rd_ h 8 1 _ rfl (by omega)
theorem Has.val_len (hv : I.t.val.length < 4294967296) : rd l (p + 48) 4 = I.t.val.length := Seg.rd_ h 12 4 _ rfl (by omega)
theorem Has.l0_ (hv : I.l0 < 4294967296) : rd l (p + 0) 4 = I.l0 := Seg.rd_ h 0 4 _ rfl (by omega)
theorem Has.l1_ (hv : I.l1 < 4294967296) : rd l (p + 4) 4 = I.l1 := Seg.rd_ h 1 4 _ rfl (by omega)
theorem Has.l2_ (hv : I.l2 < 4294967296) : rd l (p + 8) 4 = I.l2 := Seg.rd_ h 2 4 _ rfl (by omega)
theorem Has.gen_ (hv : I.gen < 4294967296) : rd l (p + 12) 4 = I.gen := Seg.rd_ h 3 4 _ rfl (by omega)
theorem Has.ex (hv : I.t.ex < 18446744073709551616) : rd l (p + 16) 8 = I.t.ex := Seg.rd_ h 4 8 _ rfl (by omega)
theorem Has.tc (hv : I.t.tc < 18446744073709551616) : rd l (p + 24) 8 = I.t.tc := Seg.rd_ h 5 8 _ rfl (by omega)
theorem Has.tk (hv : I.t.tk < 18446744073709551616) : rd l (p + 32) 8 = I.t.tk := Seg.rd_ h 6 8 _ rfl (by omega)
theorem Has.fl (hv : I.t.fl < 4294967296) : rd l (p + 40) 4 = I.t.fl := Seg.rd_ h 7 4 _ rfl (by omega)
theorem Has.st (hv : I.t.st < 256) : rd l (p + 45) 1 = I.t.st := Seg.rd_ h 9 1 _ rfl (by omega)
theorem Has.ms (hv : I.t.ms < 256) : rd l (p + 46) 1 = I.t.ms := Seg.rd_ h 10 1 _ rfl (by omega)
theorem Has.cl_ (hv : I.cl < 256) : rd l (p + 47) 1 = I.cl := Seg.rd_ h 11 1 _ rfl (by omega)
theorem Has.pad : rd l (p + 52) 4 = 0 := Seg.rd_ h 13 4 _ rfl (by omega)
theorem Has.key : (l.drop (p + 56)).take I.t.key.length = I.t.key := (Seg.at_ h 14 _ rfl).1
theorem Has.val : (l.drop (p + (56 + I.t.key.length))).take I.t.val.length = I.t.val := by
  have := (Seg.at_ h 15 _ rfl).1
  rw [Whole.lens, off_15] at this
  exact this
theorem Has.fin : (l.drop (p + (56 + I.t.key.length + I.t.val.length))).take 2 = [13, 10] := by
  have := (Seg.at_ h 16 [13, 10] rfl).1
  rw [Whole.lens, off_16] at this
  exact this
end
end Go.Proofs.Ytdmclekohalolaa.Itm
/-
  What Lay, Value and the fields' stores make of an item's bytes.
-/
namespace Go.Proofs.Ytdmclekohalolaa.Itm
open Go.RowKit Base Arena
set_option linter.unusedVariables false

theorem off_all (K V : Nat) : off (lns K V) 0 = 0 ∧ off (lns K V) 1 = 4 ∧ off (lns K V) 2 = 8 ∧ off (lns K V) 3 = 12 ∧ off (lns K V) 4 = 16 ∧ off (lns K V) 5 = 24 ∧ off (lns K V) 6 = 32 ∧ off (lns K V) 7 = 40 ∧ off (lns K V) 8 = 44 ∧
    off (lns K V) 9 = 45 ∧ off (lns K V) 10 = 46 ∧ off (lns K V) 11 = 47 ∧ off (lns K V) 12 = 48 ∧ off (lns K V) 13 = 52 ∧ off (lns K V) 14 = 56 := ⟨rfl, rfl, rfl, rfl, rfl, rfl, rfl, rfl, rfl, rfl, rfl, rfl, rfl, rfl, rfl⟩
/-- A store of a piece of the right length at the right place. -/
theorem Seg.put {l : List UInt8} {p K V : Nat} {S : List (List UInt8)} (h : Seg l p (lns K V) S) (j o : Nat) (q q' : List UInt8) (hj : S[j]? = some q) (hl : q'.length = q.length) (ho : off (lns K V) j = o) : Seg (lay l (p + o) q') p (lns K V) (S.set j q') := by
  rw [← ho]; exact h.set j q q' hj hl
theorem seg_names {l : List UInt8} {p K V : Nat} {S : List (List UInt8)} (h : Seg l p (lns K V) S) : ∃ q0 q1 q2 q3 q4 q5 q6 q7 q8 q9 q10 q11 q12 q13 q14 q15 q16 : List UInt8,
    S = [q0, q1, q2, q3, q4, q5, q6, q7, q8, q9, q10, q11, q12, q13, q14, q15, q16] ∧ q0.length = 4 ∧ q1.length = 4 ∧ q2.length = 4 ∧ q3.length = 4 ∧ q4.length = 8 ∧ q5.length = 8 ∧ q6.length = 8 ∧ q7.length = 4 ∧ q8.length = 1 ∧ q9.length = 1 ∧ q10.length = 1 ∧ q11.length = 1 ∧
      q12.length = 4 ∧ q13.length = 4 ∧ q14.length = K ∧ q15.length = V ∧ q16.length = 2 := by
  have e := h.lenE
  obtain ⟨q0, S, rfl⟩ : ∃ q T, S = q :: T := by cases S with | nil => simp [lns] at e | cons q T => exact ⟨q, T, rfl⟩
  obtain ⟨q1, S, rfl⟩ : ∃ q T, S = q :: T := by cases S with | nil => simp [lns] at e | cons q T => exact ⟨q, T, rfl⟩
  obtain ⟨q2, S, rfl⟩ : ∃ q T, S = q :: T := by cases S with | nil => simp [lns] at e | cons q T => exact ⟨q, T, rfl⟩
  obtain ⟨q3, S, rfl⟩ : ∃ q T, S = q :: T := by cases S with | nil => simp [lns] at e | cons q T => exact ⟨q, T, rfl⟩
  obtain ⟨q4, S, rfl⟩ : ∃ q T, S = q :: T := by cases S with | nil => simp [lns] at e | cons q T => exact ⟨q, T, rfl⟩
  obtain ⟨q5, S, rfl⟩ : ∃ q T, S = q :: T := by cases S with | nil => simp [lns] at e | cons q T => exact ⟨q, T, rfl⟩
  obtain ⟨q6, S, rfl⟩ : ∃ q T, S = q :: T := by cases S with | nil => simp [lns] at e | cons q T => exact ⟨q, T, rfl⟩
  obtain ⟨q7, S, rfl⟩ : ∃ q T, S = q :: T := by cases S with | nil => simp [lns] at e | cons q T => exact ⟨q, T, rfl⟩
  obtain ⟨q8, S, rfl⟩ : ∃ q T, S = q :: T := by cases S with | nil => simp [lns] at e | cons q T => exact ⟨q, T, rfl⟩
  obtain ⟨q9, S, rfl⟩ : ∃ q T, S = q :: T := by cases S with | nil => simp [lns] at e | cons q T => exact ⟨q, T, rfl⟩
  obtain ⟨q10, S, rfl⟩ : ∃ q T, S = q :: T := by cases S with | nil => simp [lns] at e | cons q T => exact ⟨q, T, rfl⟩
  obtain ⟨q11, S, rfl⟩ : ∃ q T, S = q :: T := by cases S with | nil => simp [lns] at e | cons q T => exact ⟨q, T, rfl⟩
  obtain ⟨q12, S, rfl⟩ : ∃ q T, S = q :: T := by cases S with | nil => simp [lns] at e | cons q T => exact ⟨q, T, rfl⟩
  obtain ⟨q13, S, rfl⟩ : ∃ q T, S = q :: T := by cases S with | nil => simp [lns] at e | cons q T => exact ⟨q, T, rfl⟩
  obtain ⟨q14, S, rfl⟩ : ∃ q T, S = q :: T := by cases S with | nil => simp [lns] at e | cons q T => exact ⟨q, T, rfl⟩
  obtain ⟨q15, S, rfl⟩ : ∃ q T, S = q :: T := by cases S with | nil => simp [lns] at e | cons q T => exact ⟨q, T, rfl⟩
  obtain ⟨q16, S, rfl⟩ : ∃ q T, S = q :: T := by cases S with | nil => simp [lns] at e | cons q T => exact ⟨q, T, rfl⟩
  have e17 : S = [] := by cases S with | nil => rfl | cons q T => simp [lns] at e
  subst e17
  simp only [lns, List.map_cons, List.map_nil, List.cons.injEq, and_true] at e
  exact ⟨q0, q1, q2, q3, q4, q5, q6, q7, q8, q9, q10, q11, q12, q13, q14, q15, q16, rfl, e⟩
set_option maxHeartbeats 2000000 in
/-- Lay's bytes. -/
theorem itemB_enc (l : List UInt8) (p k gen : Nat) (t : It) (h : p + (58 + t.key.length + t.val.length) ≤ l.length) (hg : (l.drop (p + 12)).take 4 = putB 4 gen) :
    itemB l p k t = lay l p (Whole.enc ⟨0, 0, 0, gen, k, t⟩) := by
  obtain ⟨K, hK⟩ : ∃ K, K = t.key.length := ⟨_, rfl⟩
  obtain ⟨V, hV⟩ : ∃ V, V = t.val.length := ⟨_, rfl⟩
  rw [← hK, ← hV] at h
  have hs : (lns K V).sum = 58 + K + V := lns_sum K V
  have S0 := Seg.cut_ (lns K V) l p (by omega)
  obtain ⟨q0, q1, q2, q3, q4, q5, q6, q7, q8, q9, q10, q11, q12, q13, q14, q15, q16, eS, e0, e1, e2, e3, e4, e5, e6, e7, e8, e9, e10, e11, e12, e13, e14, e15, e16⟩ := seg_names S0
  rw [eS] at S0
  obtain ⟨o0, o1, o2, o3, o4, o5, o6, o7, o8, o9, o10, o11, o12, o13, o14⟩ := off_all K V
  have h3 : q3 = putB 4 gen := by
    have := (S0.at_ 3 q3 rfl).1
    rw [o3, e3] at this
    rw [← this, hg]
  subst h3
  have B0 := But.refl l p (58 + K + V)
  have hp := h
  have S1 := S0.put 0 (4 * 0) q0 (putB 4 0) rfl (by rw [putB_len, e0]) o0
  have B1 := B0.lay (4 * 0) (putB 4 0) (by rw [putB_len]; omega) hp
  have S2 := S1.put 1 (4 * 1) q1 (putB 4 0) rfl (by rw [putB_len, e1]) o1
  have B2 := B1.lay (4 * 1) (putB 4 0) (by rw [putB_len]; omega) hp
  have S3 := S2.put 2 (4 * 2) q2 (putB 4 0) rfl (by rw [putB_len, e2]) o2
  have B3 := B2.lay (4 * 2) (putB 4 0) (by rw [putB_len]; omega) hp
  have S4 := S3.put 4 16 q4 (putB 8 t.ex) rfl (by rw [putB_len, e4]) o4
  have B4 := B3.lay 16 (putB 8 t.ex) (by rw [putB_len]; omega) hp
  have S5 := S4.put 5 24 q5 (putB 8 t.tc) rfl (by rw [putB_len, e5]) o5
  have B5 := B4.lay 24 (putB 8 t.tc) (by rw [putB_len]; omega) hp
  have S6 := S5.put 6 32 q6 (putB 8 t.tk) rfl (by rw [putB_len, e6]) o6
  have B6 := B5.lay 32 (putB 8 t.tk) (by rw [putB_len]; omega) hp
  have S7 := S6.put 7 40 q7 (putB 4 t.fl) rfl (by rw [putB_len, e7]) o7
  have B7 := B6.lay 40 (putB 4 t.fl) (by rw [putB_len]; omega) hp
  have S8 := S7.put 8 44 q8 (putB 1 K) rfl (by rw [putB_len, e8]) o8
  have B8 := B7.lay 44 (putB 1 K) (by rw [putB_len]; omega) hp
  have S9 := S8.put 9 45 q9 (putB 1 t.st) rfl (by rw [putB_len, e9]) o9
  have B9 := B8.lay 45 (putB 1 t.st) (by rw [putB_len]; omega) hp
  have S10 := S9.put 10 46 q10 (putB 1 t.ms) rfl (by rw [putB_len, e10]) o10
  have B10 := B9.lay 46 (putB 1 t.ms) (by rw [putB_len]; omega) hp
  have S11 := S10.put 11 47 q11 (putB 1 k) rfl (by rw [putB_len, e11]) o11
  have B11 := B10.lay 47 (putB 1 k) (by rw [putB_len]; omega) hp
  have S12 := S11.put 13 52 q13 (putB 4 0) rfl (by rw [putB_len, e13]) o13
  have B12 := B11.lay 52 (putB 4 0) (by rw [putB_len]; omega) hp
  have S13 := S12.put 14 56 q14 t.key rfl (by rw [← hK, e14]) o14
  have B13 := B12.lay 56 t.key (by rw [← hK]; omega) hp
  have S14 := S13.put 12 48 q12 (putB 4 V) rfl (by rw [putB_len, e12]) o12
  have B14 := B13.lay 48 (putB 4 V) (by rw [putB_len]; omega) hp
  have S15 := S14.put 15 (56 + K) q15 t.val rfl (by rw [← hV, e15]) (off_15 K V)
  have B15 := B14.lay (56 + K) t.val (by rw [← hV]; omega) hp
  have S16 := S15.put 16 (56 + K + V) q16 [13, 10] rfl (by rw [e16]; rfl) (off_16 K V)
  have B16 := B15.lay (56 + K + V) [13, 10] (by simp only [List.length_cons, List.length_nil]; omega) hp
  have e := B16.eq hp (E := Whole.enc ⟨0, 0, 0, gen, k, t⟩) (by rw [← hs, S16.eq]; simp only [Whole.enc, Whole.segs, ← hK, ← hV, List.set_cons_zero, List.set_cons_succ])
  rw [← e]
  simp only [itemB, layV, h56, h52, h47, h46, h45, h44, h40, h32, h24, h16, links, ← hK, ← hV]
/-- The fields. -/
def Whole.setAt (I : Whole) (j v : Nat) : Whole :=
  match j with
  | 0 => { I with l0 := v }
  | 1 => { I with l1 := v }
  | 2 => { I with l2 := v }
  | 4 => { I with t := { I.t with ex := v } }
  | 5 => { I with t := { I.t with tc := v } }
  | 6 => { I with t := { I.t with tk := v } }
  | 7 => { I with t := { I.t with fl := v } }
  | 9 => { I with t := { I.t with st := v } }
  | 10 => { I with t := { I.t with ms := v } }
  | _ => I
/-- One field's store. -/
theorem Has.put {l : List UInt8} {p : Nat} {I I' : Whole} (h : Has l p I) (j o m v : Nat) (hm : ∃ q, I.segs[j]? = some q ∧ q.length = m) (ho : off I.lens j = o) (hs : I.segs.set j (putB m v) = I'.segs) (hl : I'.lens = I.lens) :
    Has (lay l (p + o) (putB m v)) p I' := by
  obtain ⟨q, hq, hlq⟩ := hm
  have := Seg.set h j q (putB m v) hq (by rw [putB_len, hlq])
  rw [ho, hs] at this
  unfold Has
  rw [hl]
  exact this
section
variable {l : List UInt8} {p : Nat} {I : Whole} (h : Has l p I) (v : Nat)
include h
theorem Has.set_l0 : Has (lay l (p + 0) (putB 4 v)) p { I with l0 := v } := h.put 0 0 4 v ⟨_, rfl, putB_len _ _⟩ rfl rfl rfl
theorem Has.set_l1 : Has (lay l (p + 4) (putB 4 v)) p { I with l1 := v } := h.put 1 4 4 v ⟨_, rfl, putB_len _ _⟩ rfl rfl rfl
theorem Has.set_l2 : Has (lay l (p + 8) (putB 4 v)) p { I with l2 := v } := h.put 2 8 4 v ⟨_, rfl, putB_len _ _⟩ rfl rfl rfl
theorem Has.set_ex : Has (lay l (p + 16) (putB 8 v)) p { I with t := { I.t with ex := v } } := h.put 4 16 8 v ⟨_, rfl, putB_len _ _⟩ rfl rfl rfl
theorem Has.set_tc : Has (lay l (p + 24) (putB 8 v)) p { I with t := { I.t with tc := v } } := h.put 5 24 8 v ⟨_, rfl, putB_len _ _⟩ rfl rfl rfl
theorem Has.set_tk : Has (lay l (p + 32) (putB 8 v)) p { I with t := { I.t with tk := v } } := h.put 6 32 8 v ⟨_, rfl, putB_len _ _⟩ rfl rfl rfl
theorem Has.set_fl : Has (lay l (p + 40) (putB 4 v)) p { I with t := { I.t with fl := v } } := h.put 7 40 4 v ⟨_, rfl, putB_len _ _⟩ rfl rfl rfl
theorem Has.set_st : Has (lay l (p + 45) (putB 1 v)) p { I with t := { I.t with st := v } } := h.put 9 45 1 v ⟨_, rfl, putB_len _ _⟩ rfl rfl rfl
theorem Has.set_ms : Has (lay l (p + 46) (putB 1 v)) p { I with t := { I.t with ms := v } } := h.put 10 46 1 v ⟨_, rfl, putB_len _ _⟩ rfl rfl rfl
omit v in
/-- Another value. -/
theorem Has.value (v : List UInt8) (hv : p + (58 + I.t.key.length + v.length) ≤ l.length) : layV l p I.t.key.length v = lay l p (Whole.enc { I with t := { I.t with val := v } }) := by
  have hf := h.fit
  generalize hK : I.t.key.length = K at *
  generalize hV : v.length = V at *
  have hs : (lns K V).sum = 58 + K + V := lns_sum K V
  obtain ⟨o0, o1, o2, o3, o4, o5, o6, o7, o8, o9, o10, o11, o12, o13, o14⟩ := off_all K V
  have S0 := Seg.cut_ (lns K V) l p (by omega)
  obtain ⟨q0, q1, q2, q3, q4, q5, q6, q7, q8, q9, q10, q11, q12, q13, q14, q15, q16, eS, e0, e1, e2, e3, e4, e5, e6, e7, e8, e9, e10, e11, e12, e13, e14, e15, e16⟩ := seg_names S0
  rw [eS] at S0
  have same : ∀ (j : Nat) (q r : List UInt8) (S : List (List UInt8)) , S0 = S0 → ([q0, q1, q2, q3, q4, q5, q6, q7, q8, q9, q10, q11, q12, q13, q14, q15, q16] : List (List UInt8))[j]? = some q → I.segs[j]? = some r → j ≤ 14 → q.length = r.length → q = r := by
    intro j q r S _ hq hr hj hlen
    have a := (S0.at_ j q hq).1
    have b := (Seg.at_ h j r hr).1
    have e1 : off I.lens j = off (lns K V) j := by rw [Whole.lens, off_lt _ _ j hj, off_lt K V j hj]
    rw [e1] at b
    rw [hlen] at a
    rw [← a, b]
  have f0 := same 0 q0 _ [] rfl rfl rfl (by omega) (by rw [e0, putB_len])
  have f1 := same 1 q1 _ [] rfl rfl rfl (by omega) (by rw [e1, putB_len])
  have f2 := same 2 q2 _ [] rfl rfl rfl (by omega) (by rw [e2, putB_len])
  have f3 := same 3 q3 _ [] rfl rfl rfl (by omega) (by rw [e3, putB_len])
  have f4 := same 4 q4 _ [] rfl rfl rfl (by omega) (by rw [e4, putB_len])
  have f5 := same 5 q5 _ [] rfl rfl rfl (by omega) (by rw [e5, putB_len])
  have f6 := same 6 q6 _ [] rfl rfl rfl (by omega) (by rw [e6, putB_len])
  have f7 := same 7 q7 _ [] rfl rfl rfl (by omega) (by rw [e7, putB_len])
  have f8 := same 8 q8 _ [] rfl rfl rfl (by omega) (by rw [e8, putB_len])
  have f9 := same 9 q9 _ [] rfl rfl rfl (by omega) (by rw [e9, putB_len])
  have f10 := same 10 q10 _ [] rfl rfl rfl (by omega) (by rw [e10, putB_len])
  have f11 := same 11 q11 _ [] rfl rfl rfl (by omega) (by rw [e11, putB_len])
  have f13 := same 13 q13 _ [] rfl rfl rfl (by omega) (by rw [e13, putB_len])
  have f14 := same 14 q14 _ [] rfl rfl rfl (by omega) (by rw [e14, ← hK])
  clear same
  subst f0 f1 f2 f3 f4 f5 f6 f7 f8 f9 f10 f11 f13 f14
  have B0 := But.refl l p (58 + K + V)
  have hp := hv
  have S14 := S0.put 12 48 q12 (putB 4 v.length) rfl (by rw [putB_len, e12]) o12
  have B14 := B0.lay 48 (putB 4 v.length) (by rw [putB_len]; omega) hp
  have S15 := S14.put 15 (56 + K) q15 v rfl (by rw [hV, e15]) (off_15 K V)
  have B15 := B14.lay (56 + K) v (by rw [hV]; omega) hp
  have S16 := S15.put 16 (56 + K + V) q16 [13, 10] rfl (by rw [e16]; rfl) (off_16 K V)
  have B16 := B15.lay (56 + K + V) [13, 10] (by simp only [List.length_cons, List.length_nil]; omega) hp
  have e := B16.eq hp (E := Whole.enc { I with t := { I.t with val := v } }) (by rw [← hs, S16.eq]; rfl)
  rw [← e]
  unfold layV
  rw [hV]
end
end Go.Proofs.Ytdmclekohalolaa.Itm
/-
  The walk of Take.
-/
namespace Go.Proofs.Ytdmclekohalolaa.Cls
open Go.RowKit Base MapG
set_option linter.unusedVariables false

theorem takeArg (w : World) (L : Lay) (c : Conf) (s : St) (bs : List UInt8) (h : SetAt w L c s bs) (k : Int) (hk : ¬ (0 ≤ k ∧ k < (c.nc : Int))) :
    Calls Try.prog 20 #[.pointer (some ⟨L.g, 0, none⟩), .int .i64 k] w fun e w' => e = .returned (.tuple #[.int .u64 0, .int .i64 1]) ∧ w = w' := by
  have IC := isC h k
  rw [decide_eq_false hk] at IC
  replace IC := Lib.hid IC
  clear h
  go_enter Try.func20, Try.ntmps20
  go_wp2_with fail
  refine IC.out.mono ?_
  rintro e w' ⟨rfl, rfl⟩
  go_wp2
  go_ret2
  exact ⟨rfl, rfl⟩
theorem takeNo (w : World) (L : Lay) (c : Conf) (s : St) (bs : List UInt8) (h : SetAt w L c s bs) (k : Nat) (hk : k < c.nc) (hr : roomS c.cf s k = none) :
    Calls Try.prog 20 #[.pointer (some ⟨L.g, 0, none⟩), .int .i64 (k : Int)] w fun e w' => e = .returned (.tuple #[.int .u64 0, .int .i64 21]) ∧ w = w' := by
  have hf : s.free k = [] ∧ low c.cf s = none := by
    unfold roomS at hr
    split at hr
    · rename_i e
      split at hr
      · cases hr
      · rename_i e2; exact ⟨e, e2⟩
    · cases hr
  have IC := isC h (k : Int)
  rw [decide_eq_true (show (0 : Int) ≤ (k : Int) ∧ (k : Int) < (c.nc : Int) by omega)] at IC
  replace IC := Lib.hid IC
  have WC := Lib.hid (widenNo w L c s bs h k (low_none hf.2))
  have c10 := h.cRows
  have r0 := h.r0 hk
  have own := h.freeB hk
  rw [hf.1] at own
  obtain ⟨A, cp, hF⟩ := own_is own
  rw [hF] at r0
  clear h own hf hr hF
  have k0 : (0 : Int) ≤ (k : Int) := by omega
  have k1 : (k : Int) < (c.nc : Int) := by omega
  go_enter Try.func20, Try.ntmps20
  go_wp2_with fail
  refine IC.out.mono ?_
  rintro e w' ⟨rfl, rfl⟩
  go_wp2_with fail
  refine WC.out.mono ?_
  rintro e w' ⟨rfl, rfl⟩
  go_wp2
  go_ret2
  exact ⟨rfl, rfl⟩
/-- The bytes of a chunk that is taken. -/
def takeB (bs : List UInt8) (p g : Nat) : List UInt8 := lay (lay bs p (List.replicate 56 0)) (p + 12) (Arena.putB 4 g)
set_option maxRecDepth 100000 in
set_option maxHeartbeats 3200000 in
theorem takeYes (w : World) (L : Lay) (c : Conf) (s : St) (bs : List UInt8) (h : SetAt w L c s bs) (g : Good c.cf s) (k : Nat) (hk : k < c.nc) (s1 : St) (hr : roomS c.cf s k = some s1) (l : List Nat) (p : Nat) (hp : s1.free k = l ++ [p]) :
    Calls Try.prog 20 #[.pointer (some ⟨L.g, 0, none⟩), .int .i64 (k : Int)] w fun e w' =>
      e = .returned (.tuple #[.int .u64 (hnd p (s1.gens (p / c.cf.ps) (p % c.cf.ps / c.sz k)) : Int), .int .i64 0]) ∧
      ∃ L', L'.g = L.g ∧ SetAt w' L' c (takeS c.cf s1 k p) (takeB bs p (s1.gens (p / c.cf.ps) (p % c.cf.ps / c.sz k))) ∧ Went w w' L L' c s (takeS c.cf s1 k p) := by
  have IC := isC h (k : Int)
  rw [decide_eq_true (show (0 : Int) ≤ (k : Int) ∧ (k : Int) < (c.nc : Int) by omega)] at IC
  replace IC := Lib.hid IC
  have ok := h.okc
  have g1 := (room_good ok g hk hr).1
  have HW : (∃ a t, s.free k = a :: t) ∧ s1 = s ∨ s.free k = [] ∧ (Calls Try.prog 50 #[.pointer (some ⟨L.g, 0, none⟩), .int .i64 (k : Int)] w fun e w' => e = .returned (.bool true) ∧
      ∃ L', L'.g = L.g ∧ L'.gr = L.gr ∧ SetAt w' L' c s1 bs ∧ Went w w' L L' c s s1) := by
    unfold roomS at hr
    split at hr
    · rename_i he
      split at hr
      · rename_i i hlow
        injection hr with hr
        subst hr
        obtain ⟨a1, a2, a3⟩ := low_some hlow
        exact .inr ⟨he, widenYes w L c s bs h g k i hk a1 a2 a3⟩
      · cases hr
    · rename_i a t he
      injection hr with hr
      exact .inl ⟨⟨a, t, he⟩, hr.symm⟩
  have c10 := h.cRows
  have r0 := h.r0 hk
  have own := h.freeB hk
  have hS := Lib.hid h
  have hfl := g.short ok hk
  clear hr h
  have k0 : (0 : Int) ≤ (k : Int) := by omega
  have k1 : (k : Int) < (c.nc : Int) := by omega
  go_enter Try.func20, Try.ntmps20
  go_wp2_with fail
  refine IC.out.mono ?_
  rintro e w' ⟨rfl, rfl⟩
  go_upto_region 4 with fail
  go_cut [31] from 20 to 31 (fun s31 wx => s31 = .bool false ∧ ∃ L1, L1.g = L.g ∧ L1.gr = L.gr ∧ SetAt wx L1 c s1 bs ∧ Went w wx L L1 c s s1)
  case first =>
    rcases HW with ⟨⟨a, t, he⟩, rfl⟩ | ⟨he, WC⟩
    · rw [he] at own
      obtain ⟨A, cp, hF⟩ := own_is own
      rw [hF] at r0
      have hln : decide (((t.length + 1 : Nat) : Int) = 0) = false := by simp; omega
      have hln2 : (((a :: t).length : Nat)) = t.length + 1 := rfl
      rw [hln2] at r0
      clear own hF hln2
      go_wp2_with fail
      go_meet
      exact ⟨rfl, L, rfl, rfl, hS.out, Went.refl _ _ _ _⟩
    · rw [he] at own
      obtain ⟨A, cp, hF⟩ := own_is own
      rw [hF] at r0
      replace WC := Lib.hid WC
      clear own hF
      go_wp2_with fail
      refine WC.out.mono ?_
      rintro e w1 ⟨rfl, L1, e1, e2, H1, W1⟩
      go_wp2_with fail
      go_meet
      exact ⟨rfl, L1, e1, e2, H1, W1⟩
  case rest =>
    obtain ⟨rfl, L1, eg, egr, H1, W1⟩ := hcut
    obtain ⟨i, x, h1, h2, h3, h4, h5, h6, hpe, e1, e2⟩ := g1.last ok hk (p := p) (by rw [hp]; simp)
    have e2' : p % c.cf.ps / c.sz k = x := e2
    have hTake : takeS c.cf s1 k p = { s1 with free := upd s1.free k l, rt := upd s1.rt k (s1.rt k + 1), tkn := upd s1.tkn i (upd (s1.tkn i) x true), held := upd s1.held i (s1.held i + 1) } := by
      unfold takeS
      rw [e1, e2, hp, List.dropLast_concat]
    have own1 := H1.freeB hk
    rw [hp, List.length_append, List.length_singleton] at own1
    obtain ⟨b, cap, hF, cp, -, hbl⟩ := own_iv (x := p) (i := l.length) own1 (by simp)
    rw [hF] at own1
    have own2 := own_drop (x := iv p) (by rw [List.map_append] at own1; exact own1)
    have hll : l.length + 1 ≤ 1073741824 := by
      have := g1.short ok hk
      rw [hp, List.length_append, List.length_singleton] at this
      exact this
    have r0' : wc.cell? ⟨L.gr, k * 4, none⟩ = some (.slice (some ⟨b, 0, none⟩) (l.length + 1) cap) := by rw [← egr, H1.r0 hk, hF]
    have hrt : s1.rt k ≤ 16777216 := by
      rw [g1.rt k hk]
      have : ∀ n, sumTo (fun j => if s1.own j && s1.cls j == k then s1.held j else 0) n ≤ n * 16384 := by
        intro n
        induction n with
        | zero => exact Nat.le_refl _
        | succ n ih =>
          simp only [sumTo]
          have : (if s1.own n && s1.cls n == k then s1.held n else 0) ≤ 16384 := by
            split
            · rename_i hh
              have ho : s1.own n = true := by revert hh; cases s1.own n <;> simp
              have hn := g1.top n ho
              rw [g1.held n hn ho]
              exact Nat.le_trans cnt_le (n_pos ok (g1.cls n hn ho)).2
            · omega
          omega
      have h9 := this c.cf.np
      have := ok.npb
      omega
    have hld : s1.held i ≤ 16384 := by
      rw [g1.held i h1 h2]
      exact Nat.le_trans cnt_le (by rw [h3]; exact (n_pos ok hk).2)
    have hgen := g1.gen i x
    have hpb : p ≤ 1073741824 - 64 ∧ p < c.cf.ps * c.cf.np := by
      have := there_of ok hk h1 h5 0 64 (by omega)
      rw [Nat.add_zero, ← hpe] at this
      obtain ⟨-, -, t3, -⟩ := this
      have := Nat.mul_le_mul ok.psb ok.npb
      omega
    have th1 := there_of ok hk h1 h5 0 56 (by omega)
    have th2 := there_of ok hk h1 h5 12 4 (by omega)
    rw [Nat.add_zero, ← hpe] at th1
    rw [← hpe] at th2
    have hn2 := (n_pos ok hk).2
    have q1 : IntKind.i64.wrap (((l.length + 1 : Nat) : Int) - 1) = (l.length : Int) := by rw [IntWalk.i64_in _ (by omega)]; omega
    have q1' : IntKind.i64.wrap ((l.length : Int) + 1 - 1) = (l.length : Int) := by rw [IntWalk.i64_in _ (by omega)]; omega
    have l0 : (0 : Int) ≤ (l.length : Int) := by omega
    have q1w : IntKind.i64.wrap (l.length : Int) = (l.length : Int) := IntWalk.i64_in _ (by omega)
    have l1 : (l.length : Int) < ((l.length + 1 : Nat) : Int) := by omega
    have l1' : (l.length : Int) < (l.length : Int) + 1 := by omega
    have l2 : l.length < l.length + 1 := Nat.lt_succ_self _
    have hcap : l.length + 1 ≤ cap := by
      rcases own1.2 with ⟨hv, -⟩ | ⟨g', cap', cur, hv, -, -, hc, -⟩
      · cases hv
      · injection hv with _ _ e; omega
    have hc1 : (l.length : Int) ≤ (cap : Int) := by omega
    have hc2 : l.length ≤ cap := by omega
    have HC := Lib.hid fun W => handleC W p (s1.gens i x) (by omega) hgen
    replace hpe := Lib.hid hpe
    replace hTake := Lib.hid hTake
    replace H1 := Lib.hid H1
    replace W1 := Lib.hid W1
    replace ok := Lib.hid ok
    replace own1 := Lib.hid own1
    replace own2 := Lib.hid own2
    replace e2' := Lib.hid e2'
    replace e2 := Lib.hid e2
    replace e1 := Lib.hid e1
    replace hp := Lib.hid hp
    replace hF := Lib.hid hF
    clear HW own r0 c10 IC hS
    go_upto_region 6 with fail
    go_quiet (fail)
    go_upto_region 7 with fail
    obtain ⟨w2, hw2⟩ : ∃ w2, w2 = wc.drewN nq := ⟨_, rfl⟩
    rw [← hw2]
    have H2 : SetAt w2 L1 c s1 bs := by rw [hw2]; exact H1.out.drewN nq
    have W2 : Went w w2 L L1 c s s1 := by rw [hw2]; exact W1.out.next ((Only.refl _ _).drewN nq) (fun _ => rfl)
    have own3 : w2.ownsRow 0 3 1 (.slice (some ⟨b, 0, none⟩) l.length cap) l.length (l.map iv) := by rw [hw2]; exact own2.out
    have r0 : w2.cell? ⟨L.gr, k * 4, none⟩ = some (.slice (some ⟨b, 0, none⟩) (l.length + 1) cap) := by rw [hw2]; exact r0'
    have z0 : w2.frozen? ⟨L.gr, k * 4, none⟩ = false := by rw [← egr]; exact H2.fzR _
    replace hw2 := Lib.hid hw2
    replace H2 := Lib.hid H2
    replace W2 := Lib.hid W2
    replace own3 := Lib.hid own3
    clear H1 W1 own1 own2 r0' cp hw2
    go_still_tail 14, (by kernel_rfl)
    change wpList _ _ _ _ _ w2.drew
    go_upto_region 8 with fail
    obtain ⟨L3, hL3⟩ : ∃ L3, L3 = ({ L1 with F := upd L1.F k (.slice (some ⟨b, 0, none⟩) l.length cap) } : Lay) := ⟨_, rfl⟩
    obtain ⟨w3, hw3⟩ : ∃ w3, w3 = (w2.setCell ⟨L.gr, k * 4, none⟩ (.slice (some ⟨b, 0, none⟩) l.length cap)).drew := ⟨_, rfl⟩
    rw [← hw3]
    obtain ⟨s3, hs3⟩ : ∃ s3, s3 = ({ s1 with free := upd s1.free k l } : St) := ⟨_, rfl⟩
    have hFb : (L1.F k).ownBlock = some b := by rw [hF.out]; rfl
    have H3 : SetAt w3 L3 c s3 bs := by
      rw [hw3, hL3, hs3, ← egr]
      exact (H2.out.setFree k hk (.slice (some ⟨b, 0, none⟩) l.length cap) l w2 (Only.refl (fun b' => (L1.F k).ownBlock = some b') _) (fun _ e _ => e) own3.out (fun b' e => .inl (by rw [hFb]; exact e))).drew
    have W3 : Went w w3 L L3 c s s3 := by
      rw [hw3, hL3, hs3, ← egr]
      refine W2.out.next ((Only.refl _ w2).setCell (p := ⟨L1.gr, k * 4, none⟩) (fun _ => ⟨.rows, rfl⟩) _).drew fun q => ?_
      cases q with
      | free j =>
        by_cases hj : j = k
        · subst hj
          show (if j < c.cf.nc then (upd L1.F j (Value.slice (some ⟨b, 0, none⟩) l.length cap) j).ownBlock else none) = (if j < c.cf.nc then (L1.F j).ownBlock else none)
          rw [upd_at, hFb]; rfl
        · show (if j < c.cf.nc then (upd L1.F k (Value.slice (some ⟨b, 0, none⟩) l.length cap) j).ownBlock else none) = (if j < c.cf.nc then (L1.F j).ownBlock else none)
          rw [upd_ne _ _ hj]
      | _ => rfl
    have e3g : L3.g = L.g := by rw [hL3]; exact eg
    have e3r : L3.gr = L.gr := by rw [hL3]; exact egr
    have t1 : s3.own = s1.own := by rw [hs3]
    have t2 : s3.cls = s1.cls := by rw [hs3]
    have t3 : s3.tkn = s1.tkn := by rw [hs3]
    have t4 : s3.held = s1.held := by rw [hs3]
    have t5 : s3.rt = s1.rt := by rw [hs3]
    have t6 : s3.gens = s1.gens := by rw [hs3]
    have r1 := H3.r1 hk
    have z1 := H3.fzR (k * 4 + 1)
    rw [e3r] at r1 z1
    rw [t5] at r1
    replace hs3 := Lib.hid hs3
    replace hL3 := Lib.hid hL3
    replace hw3 := Lib.hid hw3
    replace H3 := Lib.hid H3
    replace W3 := Lib.hid W3
    clear H2 W2 own3 r0 z0 hFb
    have q2 : IntKind.i64.wrap ((s1.rt k : Int) + 1) = (s1.rt k : Int) + 1 := IntWalk.i64_in _ (by omega)
    go_upto_region 9 with fail
    obtain ⟨w4, hw4⟩ : ∃ w4, w4 = w3.setCell ⟨L.gr, k * 4 + 1, none⟩ (.int .i64 ((s1.rt k : Int) + 1)) := ⟨_, rfl⟩
    rw [← hw4]
    have H4 : SetAt w4 L3 c { s3 with rt := upd s3.rt k (s1.rt k + 1) } bs := by
      rw [hw4, ← e3r, show ((s1.rt k : Int) + 1) = ((s1.rt k + 1 : Nat) : Int) by omega]
      exact H3.out.setRt k (s1.rt k + 1) hk
    have W4 : Went w w4 L L3 c s { s3 with rt := upd s3.rt k (s1.rt k + 1) } := by
      rw [hw4, ← e3r]
      exact W3.out.next (only_at w3 _ _ _ ⟨.rows, rfl⟩) (fun q => by cases q <;> rfl)
    have d0 := H4.cPs
    have d8 := H4.cSizes
    have d9 := H4.cPages
    have d7 := H4.cArena
    rw [e3g] at d0 d7 d8 d9
    have dz := H4.sz hk
    have i0 : (0 : Int) ≤ (i : Int) := by omega
    have i1 : (i : Int) < (c.cf.np : Int) := by omega
    have x0 : (0 : Int) ≤ (x : Int) := by omega
    have x1 : (x : Int) < (c.cf.n k : Int) := by have : x < c.cf.n k := h5; omega
    have b5 := ok.out.ps
    have b6 := (ok.out.sz k hk).1
    have z2 : ¬ (c.cf.ps : Int) = 0 := by omega
    have z3 : ¬ (c.sz k : Int) = 0 := by have : 64 ≤ c.sz k := b6; omega
    have q3 : ((p : Int)).tdiv (c.cf.ps : Int) = (i : Int) := by rw [tdivN, e1.out]
    have q4 : IntKind.i64.wrap (i : Int) = (i : Int) := IntWalk.i64_in _ (by have := ok.out.npb; omega)
    obtain ⟨r, hr⟩ : ∃ r, r = p % c.cf.ps := ⟨_, rfl⟩
    have hrb : r ≤ p := by rw [hr]; exact Nat.mod_le _ _
    have q5 : ((p : Int)).tmod (c.cf.ps : Int) = (r : Int) := by rw [tmodN, hr]
    have q6 : IntKind.i64.wrap (r : Int) = (r : Int) := IntWalk.i64_in _ (by omega)
    have q7 : ((r : Int)).tdiv (c.sz k : Int) = (x : Int) := by rw [tdivN, hr]; exact congrArg _ e2.out
    have q8 : IntKind.i64.wrap (x : Int) = (x : Int) := IntWalk.i64_in _ (by omega)
    replace hr := Lib.hid hr
    replace hw4 := Lib.hid hw4
    replace H4 := Lib.hid H4
    replace W4 := Lib.hid W4
    clear H3 W3 r1 z1 q2
    go_quiet (fail)
    rename Nat => nq1
    go_upto_region 10 with fail
    go_quiet (fail)
    rename Nat => nq2
    go_upto_region 11 with fail
    obtain ⟨w5, hw5⟩ : ∃ w5, w5 = (w4.drewN nq1).drewN nq2 := ⟨_, rfl⟩
    rw [← hw5]
    have H5 : SetAt w5 L3 c { s3 with rt := upd s3.rt k (s1.rt k + 1) } bs := by rw [hw5]; exact (H4.out.drewN _).drewN _
    have W5 : Went w w5 L L3 c s { s3 with rt := upd s3.rt k (s1.rt k + 1) } := by rw [hw5]; exact W4.out.next (((Only.refl _ _).drewN _).drewN _) (fun _ => rfl)
    replace hw5 := Lib.hid hw5
    have ho5 : ({ s3 with rt := upd s3.rt k (s1.rt k + 1) } : St).own i = true := by rw [t1]; exact h2
    have hc5 : ({ s3 with rt := upd s3.rt k (s1.rt k + 1) } : St).cls i = k := by rw [t2]; exact h3
    have p4 := H5.p4 h1 ho5
    rw [hc5] at p4
    have tk := H5.tk h1 ho5 (x := x) (by rw [hc5]; exact h5)
    have zt : w5.frozen? ⟨L3.T i, x, none⟩ = false := (H5.tknB h1 ho5).frozen x
    have H6 := H5.setTkn i x true h1 ho5 (by rw [hc5]; exact h5)
    have W6 := W5.next (L2 := L3) (s2 := { s3 with rt := upd s3.rt k (s1.rt k + 1), tkn := upd s3.tkn i (upd (s3.tkn i) x true) }) (only_at w5 (L3.T i) x (.bool true) ⟨.tkn i, if_pos ⟨h1, ho5⟩⟩) (fun q => by cases q <;> rfl)
    obtain ⟨w6, hw6⟩ : ∃ w6, w6 = w5.setCell ⟨L3.T i, x, none⟩ (.bool true) := ⟨_, rfl⟩
    rw [← hw6] at H6 W6
    replace H5 := Lib.hid H5
    replace W5 := Lib.hid W5
    replace H6 := Lib.hid H6
    replace W6 := Lib.hid W6
    clear d0 d7 d8 d9 dz H4 W4
    clear hr
    go_upto_region 12 with fail
    rw [← hw6]
    obtain ⟨s6, hs6⟩ : ∃ s6, s6 = ({ s3 with rt := upd s3.rt k (s1.rt k + 1), tkn := upd s3.tkn i (upd (s3.tkn i) x true) } : St) := ⟨_, rfl⟩
    have H6' : SetAt w6 L3 c s6 bs := by rw [hs6]; exact H6.out
    have W6' : Went w w6 L L3 c s s6 := by rw [hs6]; exact W6.out
    have u4 : s6.held = s1.held := by rw [hs6]; exact t4
    have u6 : s6.gens = s1.gens := by rw [hs6]; exact t6
    have u1 : s6.own i = true := by rw [hs6]; exact ho5
    have u2 : s6.cls i = k := by rw [hs6]; exact hc5
    have p5 := H6'.p5 h1
    have z5 := H6'.fzP (i * 7 + 5)
    rw [u4] at p5
    have q9 : IntKind.i64.wrap ((s1.held i : Int) + 1) = (s1.held i : Int) + 1 := IntWalk.i64_in _ (by omega)
    obtain ⟨s7, hs7⟩ : ∃ s7, s7 = ({ s6 with held := upd s6.held i (s1.held i + 1) } : St) := ⟨_, rfl⟩
    have H7 : SetAt (w6.setCell ⟨L3.gp, i * 7 + 5, none⟩ (.int .i64 ((s1.held i : Int) + 1))) L3 c s7 bs := by
      rw [show ((s1.held i : Int) + 1) = ((s1.held i + 1 : Nat) : Int) by omega, hs7]
      exact H6'.setHeld i (s1.held i + 1) h1
    have W7 : Went w (w6.setCell ⟨L3.gp, i * 7 + 5, none⟩ (.int .i64 ((s1.held i : Int) + 1))) L L3 c s s7 := by
      rw [hs7]
      exact W6'.next (only_at w6 L3.gp (i * 7 + 5) _ ⟨.pages, rfl⟩) (fun q => by cases q <;> rfl)
    obtain ⟨w7, hw7⟩ : ∃ w7, w7 = w6.setCell ⟨L3.gp, i * 7 + 5, none⟩ (.int .i64 ((s1.held i : Int) + 1)) := ⟨_, rfl⟩
    rw [← hw7] at H7 W7
    have v1 : s7.own i = true := by rw [hs7]; exact u1
    have v2 : s7.cls i = k := by rw [hs7]; exact u2
    have v6 : s7.gens = s1.gens := by rw [hs7]; exact u6
    have e7 : takeS c.cf s1 k p = s7 := by
      rw [hTake.out, hs7, hs6, hs3.out]
    replace hw7 := Lib.hid hw7
    replace H7 := Lib.hid H7
    replace W7 := Lib.hid W7
    replace e7 := Lib.hid e7
    clear H5 W5 H6 W6 H6' W6' p4 tk zt hw6 ho5 hc5 hs6 hs7 hTake hs3 hL3 hw5 hw4 hw3 u1 u2 u4 u6 t1 t2 t3 t4 t5 t6 q3 q5 q6 q7
    go_upto_region 13 with fail
    rw [← hw7.out]
    have d7 := H7.out.cArena
    rw [e3g] at d7
    have A7 := H7.out.arena ok.out
    have F7 := Arena.fillYes w7 L3.ga L3.ha c.cf.ps bs A7 (p : Int) 56 0 (by rw [H7.out.len]; exact th1)
    rw [show ((((0 : UInt8)).toNat : Nat) : Int) = 0 from rfl] at F7
    replace F7 := Lib.hid F7
    clear A7 p5 z5 q9
    go_wp2_with fail
    refine F7.out.mono ?_
    rintro e w8 ⟨rfl, A8, o8, hs8⟩
    obtain ⟨bs8, hb8⟩ : ∃ b, b = lay bs p (List.replicate 56 0) := ⟨_, rfl⟩
    have A8' : Arena.At w8 L3.ga L3.ha c.cf.ps bs8 := by rw [hb8]; exact A8
    have hb8l : bs8.length = bs.length := by
      rw [hb8]
      refine lay_len _ _ _ ?_
      have := th1
      rw [← H7.out.len] at this
      obtain ⟨-, -, a3, -⟩ := this
      rw [List.length_replicate]
      omega
    have H8 : SetAt w8 L3 c s7 bs8 := H7.out.laid o8 A8'.bytes hb8l
    have W8 : Went w w8 L L3 c s s7 := W7.out.next (o8.mono fun b _ e => ⟨.bytes, by rw [e]; rfl⟩) (fun q => rfl)
    replace hb8 := Lib.hid hb8
    have d7 := H8.cArena
    rw [e3g] at d7
    have p3 := H8.p3 h1 v1
    rw [v2] at p3
    have gn := H8.gen h1 v1 (x := x) (by rw [v2]; exact h5)
    rw [v6] at gn
    have q10 : IntKind.i64.wrap ((p : Int) + 12) = (p : Int) + 12 := IntWalk.i64_in _ (by omega)
    have th3 : Arena.There c.cf.ps bs8.length ((p : Int) + 12) 4 := by
      have := th2
      rw [← H7.out.len, ← hb8l] at this
      exact this
    have P8 := Arena.putYes_u32 w8.drew L3.ga L3.ha c.cf.ps bs8 (H8.drew.arena ok.out) ((p : Int) + 12) (s1.gens i x) hgen th3
    replace P8 := Lib.hid P8
    replace H8 := Lib.hid H8
    replace W8 := Lib.hid W8
    clear A8 A8' o8 hs8 F7 H7 W7 hw7
    go_upto_region 14 with fail
    go_still_tail 13, (by kernel_rfl)
    change wpList _ _ _ _ _ w8.drew
    go_wp2_with fail
    refine P8.out.mono ?_
    rintro e w9 ⟨rfl, A9, o9, hs9⟩
    obtain ⟨bs9, hb9⟩ : ∃ b, b = lay bs8 (p + 12) (Arena.putB 4 (s1.gens i x)) := ⟨_, rfl⟩
    have e12 : ((p : Int) + 12).toNat = p + 12 := by omega
    have A9' : Arena.At w9 L3.ga L3.ha c.cf.ps bs9 := by rw [hb9, ← e12]; exact A9
    have hb9l : bs9.length = bs8.length := by
      rw [hb9]
      refine lay_len _ _ _ ?_
      obtain ⟨-, -, a3, -⟩ := th3
      rw [Arena.putB_len]
      omega
    have H9 : SetAt w9 L3 c s7 bs9 := H8.out.drew.laid o9 A9'.bytes hb9l
    have W9 : Went w w9 L L3 c s s7 := W8.out.next ((Only.refl _ _).drew.trans o9 (fun b _ e => ⟨.bytes, by rw [e]; rfl⟩)) (fun q => rfl)
    have p3 := H9.p3 h1 v1
    rw [v2] at p3
    have gn := H9.gen h1 v1 (x := x) (by rw [v2]; exact h5)
    rw [v6] at gn
    have hb : bs9 = takeB bs p (s1.gens (p / c.cf.ps) (p % c.cf.ps / c.sz k)) := by
      rw [hb9, hb8.out, e1.out, e2'.out]; rfl
    rw [hb, ← e7.out] at H9
    rw [← e7.out] at W9
    have hpg : hnd p (s1.gens (p / c.cf.ps) (p % c.cf.ps / c.sz k)) = hnd p (s1.gens i x) := by rw [e1.out, e2'.out]
    replace hpg := Lib.hid hpg
    replace H9 := Lib.hid H9
    replace W9 := Lib.hid W9
    replace hb := Lib.hid hb
    replace hb9 := Lib.hid hb9
    clear H8 W8 P8 A9 A9' o9 hs9 e12 hb9l d7 q10 hb
    go_wp2_with fail
    refine (HC.out _).mono ?_
    rintro e w' ⟨rfl, rfl⟩
    go_wp2
    go_ret2
    have hret : Ending.returned (.tuple #[.int .u64 (hnd p (s1.gens i x) : Int), .int .i64 0]) = .returned (.tuple #[.int .u64 (hnd p (s1.gens (p / c.cf.ps) (p % c.cf.ps / c.sz k)) : Int), .int .i64 0]) := by rw [hpg.out]
    exact ⟨hret, L3, e3g, H9.out, W9.out⟩
end Go.Proofs.Ytdmclekohalolaa.Cls
/-
  The walks of wakes and of ItemNames.
-/
namespace Go.Proofs.Ytdmclekohalolaa.Itm
open Go.RowKit Base Arena Cls
set_option linter.unusedVariables false

def wi0 : St := widenS (ic 0).cf (new0 (ic 0).cf) 0 0
def wi1 : St := takeS (ic 0).cf wi0 0 0
def chunksI : List Nat := (List.range 63).map fun i => 4032 - 64 * i
theorem wi_room : roomS (ic 0).cf (new0 (ic 0).cf) 0 = some wi0 := by kernel_rfl
theorem wi_free : wi0.free 0 = chunksI ++ [0] := by kernel_rfl
theorem wi_find : findN (ic 0).cf wi1 1 = some (0, 0, 0) := by kernel_rfl
theorem wi_h : hnd 0 (wi0.gens (0 / (ic 0).cf.ps) (0 % (ic 0).cf.ps / (ic 0).sz 0)) = 1 := by kernel_rfl
theorem wi_g : wi0.gens (0 / (ic 0).cf.ps) (0 % (ic 0).cf.ps / (ic 0).sz 0) = 0 := by kernel_rfl
theorem wi_nc : 0 < (ic 0).nc := by have : (ic 0).nc = 3 := by kernel_rfl
                                    omega
theorem wi_sz : (ic 0).sz 0 = 64 := by kernel_rfl
theorem wi_cls : wi1.cls 0 = 0 := by kernel_rfl
def tW : It := ⟨[107], [118], 0, 0, 0, 258, 1, 0⟩
theorem tW_fine : tW.Fine := ⟨by kernel_rfl, by decide, by decide, by decide, by decide, by decide, by decide, by decide⟩
theorem take_gen {bs : List UInt8} {p g : Nat} (h : p + 56 ≤ bs.length) : ((takeB bs p g).drop (p + 12)).take 4 = putB 4 g := by
  have e : (lay bs p (List.replicate 56 0)).length = bs.length := lay_len _ _ _ (by simpa using h)
  have := piece_lay (lay bs p (List.replicate 56 0)) (p + 12) (putB 4 g) (by rw [putB_len]; omega)
  rw [putB_len] at this
  exact this
theorem take_len {bs : List UInt8} {p g : Nat} (h : p + 56 ≤ bs.length) : (takeB bs p g).length = bs.length := by
  have e : (lay bs p (List.replicate 56 0)).length = bs.length := lay_len _ _ _ (by simpa using h)
  unfold takeB
  rw [putlen _ _ _ _ (by omega), e]
theorem heap_2b (w : World) (o p : Obj) : ((w.alloc o).alloc p).heap[w.heap.size + 1]? = some p := by
  have := heap_alloc_last (w.alloc o) p
  rw [World.size_alloc] at this
  exact this
theorem conv_2b (w : World) (o : Obj) (C : Array Value) (n c : Nat) : (convert 28 28 (.slice (some ⟨w.heap.size + 1, 0, none⟩) n c)).run Try.prog ((w.alloc o).alloc (.cells C 5)) = .ok (.slice (some ⟨w.heap.size + 1, 0, none⟩) n c) ((w.alloc o).alloc (.cells C 5 (C.size, C.size + 1))) := by
  have := Lib.run_convert_bytes_const (P := Try.prog) (w.alloc o) 28 5 C n c Try.underlying28 Try.underlying5
  rw [World.size_alloc] at this
  exact this
theorem heap_2a (w : World) (o p : Obj) : ((w.alloc o).alloc p).heap[w.heap.size]? = some o := by
  rw [← heap_alloc_last w o]
  exact Below.heap_alloc (w.alloc o) p w.heap.size (by rw [World.size_alloc]; omega)
theorem bytes1 {w w' : World} (x : UInt8) (v : Value) (hv : v = .int .u8 (x.toNat : Int)) {b : Nat} {fz : Nat × Nat} (hb : w.heap[b]? = some (.cells #[v] 5 fz)) {B : Nat} (hB : b < B) : Bytes w B (some ⟨b, 0, none⟩) [x] := by
  intro _
  refine ⟨b, 0, rfl, hB, ?_⟩
  intro j u hu
  cases j with
  | zero =>
    simp at hu
    rw [← hu, show (⟨b, 0 + 0, none⟩ : Addr) = ⟨b, 0, none⟩ from rfl, cell_of_row w b 0 _ _ fz hb, hv]
    rfl
  | succ j => simp at hu
/-- What stands between the steps of wakes. -/
structure WK (w0 w : World) (L : Lay) (c : Conf) (s : St) (bs : List UInt8) (b : Nat) (cs : Array Value) : Prop where
  set : SetAt w L c s bs
  st : Blk w b 85 cs
  below : Below w0.heap.size w0 w
theorem WK.step {w0 w w' : World} {L : Lay} {c : Conf} {s : St} {bs : List UInt8} {b : Nat} {cs : Array Value} (S : WK w0 w L c s bs b cs) (k : Below w.heap.size w w') : WK w0 w' L c s bs b cs :=
  ⟨S.set.kept fun d hd => k.block d (S.set.lt hd), S.st.below k S.st.lt, S.below.trans (k.mono S.below.size)⟩
theorem WK.alloc {w0 w : World} {L : Lay} {c : Conf} {s : St} {bs : List UInt8} {b : Nat} {cs : Array Value} (S : WK w0 w L c s bs b cs) (o : Obj) : WK w0 (w.alloc o) L c s bs b cs :=
  S.step ((Below.refl _ _).alloc (Nat.le_refl _) _)
set_option maxRecDepth 100000 in
set_option maxHeartbeats 4000000 in
theorem itemWakesC (w : World) : Calls Try.prog 9 #[] w fun e w' => e = .returned (.bool true) ∧ Below w.heap.size w w' := by
  have BC := itemBegunC w 0 (by unfold Cls.In; omega)
  rw [show ((0 : Int) % 4).toNat = 0 from rfl] at BC
  replace BC := Lib.hid BC
  have ok := (okOf (ic_ref 0 (by omega))).1
  have n0 := fun w => itemNumC w 0
  have n1 := fun w => itemNumC w 1
  have kc := fun (w : World) (C : Array Value) (n c : Nat) => Lib.run_convert_bytes_const (P := Try.prog) w 28 5 C n c Try.underlying28 Try.underlying5
  have kc2 := fun (w : World) (o : Obj) (C : Array Value) (n c : Nat) => conv_2b w o C n c
  go_enter Try.func9, Try.ntmps9
  go_wp2_with fail
  refine BC.out.mono ?_
  rintro e w1 ⟨bl, b, L, r3, r2, hd, rfl, G⟩
  have H := G.set
  have fo : ∀ k, Foot L (ic 0) (new0 (ic 0).cf) k → w.heap.size ≤ k := fun k hk => (G.foot k hk).1
  have hsz := bl.size
  have B := G.st
  have aw : ¬ Foot L (ic 0) (new0 (ic 0).cf) b := fun hf => by have h1 := (G.foot b hf).2; have h2 := G.l2; have h3 := G.l3; omega
  replace bl := Lib.hid bl
  replace fo := Lib.hid fo
  have p0 : w1.cell? ⟨b, 0, none⟩ = some (.pointer (some ⟨L.g, 0, none⟩)) := B.cell 0
  have g0 : Cls.Good (ic 0).cf (new0 (ic 0).cf) := new0_good
  have T := takeYes w1 L (ic 0) _ _ H g0 0 wi_nc wi0 wi_room _ 0 wi_free
  rw [wi_h, wi_g, show ((0 : Nat) : Int) = 0 from rfl, show ((1 : Nat) : Int) = 1 from rfl] at T
  have g1 : Cls.Good (ic 0).cf wi1 := (room_good ok g0 wi_nc wi_room).1.take ok wi_nc wi_free
  have hlen : (List.replicate ((ic 0).cf.ps * (ic 0).cf.np) (0 : UInt8)).length = 12288 := by rw [List.length_replicate]; rfl
  generalize List.replicate ((ic 0).cf.ps * (ic 0).cf.np) (0 : UInt8) = z at *
  have hg := take_gen (bs := z) (p := 0) (g := 0) (by omega)
  have hzl := take_len (bs := z) (p := 0) (g := 0) (by omega)
  have eT : takeS (ic 0).cf wi0 0 0 = wi1 := rfl
  rw [eT] at T
  clear eT
  generalize takeB z 0 0 = z1 at *
  rw [hlen] at hzl
  clear hlen H
  replace T := Lib.hid T
  replace B := Lib.hid B
  clear BC G g0
  go_wp2_with fail
  refine T.out.mono ?_
  rintro e w2 ⟨rfl, L2, e2, H, W⟩
  obtain ⟨bb, fo, hsz⟩ := W.below fo.out hsz
  replace bl := Lib.hid (bl.out.trans bb)
  replace fo := Lib.hid fo
  clear bb
  obtain ⟨B2, aw2⟩ := W.away B.out aw
  have p0 : w2.cell? ⟨b, 0, none⟩ = some (.pointer (some ⟨L.g, 0, none⟩)) := B2.cell 0
  have K := Chk.of H g1 (H := 1) (by decide) wi_find
  rw [wi_cls, wi_sz] at K
  obtain ⟨w3, hw3⟩ : ∃ w3, w3 = (w2.alloc (.cells #[.int .u8 107] 5 (1, 2))).alloc (.cells #[.int .u8 118] 5 (1, 2)) := ⟨_, rfl⟩
  have H3 : SetAt w3 L2 (ic 0) wi1 z1 := by rw [hw3]; exact (H.alloc _).alloc _
  have b23 : Below w2.heap.size w2 w3 := by rw [hw3]; exact ((Below.refl _ _).alloc (Nat.le_refl _) _).alloc (by rw [World.size_alloc]; omega) _
  have s3 : w3.heap.size = w2.heap.size + 2 := by rw [hw3, World.size_alloc, World.size_alloc]
  have k3 : Bytes w3 w3.heap.size (some ⟨w2.heap.size, 0, none⟩) tW.key := bytes1 (w' := w3) 107 _ rfl (fz := (1, 2)) (by rw [hw3]; exact heap_2a w2 _ _) (by omega)
  have v3 : Bytes w3 w3.heap.size (some ⟨w2.heap.size + 1, 0, none⟩) tW.val := bytes1 (w' := w3) 118 _ rfl (fz := (1, 2)) (by rw [hw3]; exact heap_2b w2 _ _) (by omega)
  have hha : L2.ha < w2.heap.size := H.lt (b := L2.ha) ⟨.bytes, rfl⟩
  have hfo : w.heap.size ≤ L2.ha := fo.out _ ⟨.bytes, rfl⟩
  have hbha : b ≠ L2.ha := fun e => aw2 (by rw [e]; exact ⟨.bytes, rfl⟩)
  have Y := itemLayYes w3 L2 (ic 0) wi1 z1 H3 g1 1 (by decide) 0 0 0 wi_find (by rw [wi_cls]; exact wi_nc) (by have := ok.ncb; have e : (ic 0).cf.nc = (ic 0).nc := rfl; omega) (by rw [wi_cls, wi_sz]; exact K.ck) tW tW_fine (by rw [wi_cls, wi_sz]; decide)
    (some ⟨w2.heap.size, 0, none⟩) (some ⟨w2.heap.size + 1, 0, none⟩) 1 1 w3.heap.size k3 v3 (fun b off e => by simp only [Option.some.injEq, Addr.mk.injEq] at e; omega) (fun _ b off e => by simp only [Option.some.injEq, Addr.mk.injEq] at e; omega)
  rw [wi_cls, itemB_enc z1 0 0 0 tW (by rw [hzl]; decide) hg, e2] at Y
  rw [show tW.cells (some ⟨w2.heap.size, 0, none⟩) (some ⟨w2.heap.size + 1, 0, none⟩) 1 1 = #[.slice (some ⟨w2.heap.size, 0, none⟩) 1 1, .slice (some ⟨w2.heap.size + 1, 0, none⟩) 1 1, .int .u64 0, .int .i64 0, .int .i64 0, .int .u64 258, .int .i64 1, .int .i64 0] from rfl] at Y
  have Hs := Has.lay_ z1 0 ⟨0, 0, 0, 0, 0, tW⟩ (by rw [hzl]; decide)
  have hz2 : (lay z1 0 (Whole.enc ⟨0, 0, 0, 0, 0, tW⟩)).length = z1.length := lay_len _ _ _ (by rw [Whole.enc_len, hzl]; decide)
  generalize lay z1 0 (Whole.enc ⟨0, 0, 0, 0, 0, tW⟩) = z2 at *
  rw [← hz2] at K
  have r44 : rd z2 (0 + 44) 1 = 1 := Hs.key_len (by decide)
  have r32 : rd z2 (0 + 32) 8 = 258 := Hs.tk (by decide)
  have rk : (z2.drop (0 + 56)).take 1 = [107] := Hs.key
  clear Hs hz2 hzl hg
  have l2 : w.heap.size ≤ w2.heap.size := hsz
  have B3 := B2.below b23 B2.lt
  have p0 : w3.cell? ⟨b, 0, none⟩ = some (.pointer (some ⟨L.g, 0, none⟩)) := B3.cell 0
  have b13 := Lib.hid (bl.out.trans (b23.mono (B' := w.heap.size) l2))
  have hu : ∀ i, w2.cell? ⟨b, i, none⟩ = w2.cell? ⟨b, i, none⟩ := fun _ => rfl
  clear hu T W B aw k3 v3 b23 H H3 bl
  replace Y := Lib.hid Y
  replace B3 := Lib.hid B3
  replace B2 := Lib.hid B2
  replace hw3 := Lib.hid hw3
  replace s3 := Lib.hid s3
  clear fo
  go_upto_region 5 with fail
  go_wp2_with fail
  rw [← hw3.out]
  refine Y.out.mono ?_
  rintro e w4 ⟨rfl, H4, o4⟩
  have S : WK w w4 L2 (ic 0) wi1 z2 b _ := ⟨H4, o4.at_ B3.out hbha, b13.out.trans (o4.toBelow fun k hk => ⟨by have h1 : w3.heap.size = w2.heap.size + 2 := s3.out; omega, by omega⟩)⟩
  have p0 : w4.cell? ⟨b, 0, none⟩ = some (.pointer (some ⟨L.g, 0, none⟩)) := S.st.cell 0
  have TK := tokenW (.pointer (some ⟨L2.g, 0, none⟩)) 1 w4 258 0 _ (by
    have := tell64Yes w4 L2 (ic 0) wi1 z2 H4 g1 K (by rw [r44]; decide) 32 (by omega)
    rw [r32] at this
    exact this) (by omega) (by omega)
  rw [e2, show ((1 : Nat) : Int) = 1 from rfl] at TK
  replace TK := Lib.hid TK
  replace S := Lib.hid S
  clear Y B3 B2 b13 H4 o4 hw3 s3 hha hfo hbha kc2 l2 hsz aw2 r32
  go_wp2_with fail
  refine TK.out.mono ?_
  rintro e w5 ⟨rfl, b5⟩
  replace S := S.out.step b5
  have p0 : w5.cell? ⟨b, 0, none⟩ = some (.pointer (some ⟨L.g, 0, none⟩)) := S.st.cell 0
  have RN := readNil w5 1
  rw [zi_eq] at RN
  replace RN := Lib.hid RN
  replace S := Lib.hid S
  clear TK b5
  go_wp2_with fail
  refine RN.out.mono ?_
  rintro e w6 ⟨rfl, b6⟩
  replace S := S.out.step b6
  obtain ⟨w7, hw7⟩ : ∃ w7, w7 = w6.alloc (.cells #[.slice none 0 0, .slice none 0 0, .int .u64 0, .int .i64 0, .int .i64 0, .int .u64 0, .int .i64 0, .int .i64 0] 52) := ⟨_, rfl⟩
  replace S := S.alloc (.cells #[.slice none 0 0, .slice none 0 0, .int .u64 0, .int .i64 0, .int .i64 0, .int .u64 0, .int .i64 0, .int .i64 0] 52)
  rw [← hw7] at S
  have p0 : w7.cell? ⟨b, 0, none⟩ = some (.pointer (some ⟨L.g, 0, none⟩)) := S.st.cell 0
  have SN := Lib.hid (setTokenNil w7 1 1)
  replace S := Lib.hid S
  replace hw7 := Lib.hid hw7
  clear RN b6
  go_upto_region 8 with fail
  rw [← hw7.out]
  go_wp2_with fail
  refine SN.out.mono ?_
  rintro e w8 ⟨rfl, b8⟩
  replace S := S.out.step b8
  have p0 : w8.cell? ⟨b, 0, none⟩ = some (.pointer (some ⟨L.g, 0, none⟩)) := S.st.cell 0
  have CN := Lib.hid (copyNil w8 1 1)
  replace S := Lib.hid S
  clear SN b8 hw7
  go_wp2_with fail
  refine CN.out.mono ?_
  rintro e w9 ⟨rfl, b9⟩
  replace S := S.out.step b9
  obtain ⟨wa, hwa⟩ : ∃ wa, wa = w9.alloc (.cells #[.int .u8 107] 5 (1, 2)) := ⟨_, rfl⟩
  have Sa := S.alloc (.cells #[.int .u8 107] 5 (1, 2))
  rw [← hwa] at Sa
  have ka : Bytes wa wa.heap.size (some ⟨w9.heap.size, 0, none⟩) [107] := bytes1 (w' := wa) 107 _ rfl (fz := (1, 2)) (by rw [hwa]; exact heap_alloc_last w9 _) (by rw [hwa, World.size_alloc]; omega)
  have SM := itSameYes wa L2 (ic 0) wi1 z2 Sa.set g1 K (by rw [r44]; decide) (by rw [r44]; decide) (some ⟨w9.heap.size, 0, none⟩) 1 [107] ka
  rw [r44, rk, e2, show (([107] : List UInt8) == [107]) = true from rfl, show ((1 : Nat) : Int) = 1 from rfl, show ([107] : List UInt8).length = 1 from rfl] at SM
  have p0 : w9.cell? ⟨b, 0, none⟩ = some (.pointer (some ⟨L.g, 0, none⟩)) := S.st.cell 0
  replace SM := Lib.hid SM
  replace S := Lib.hid Sa
  replace hwa := Lib.hid hwa
  clear CN b9 ka Sa
  go_wp2_with (first | (go_at_call 8; refine (n0 _).mono ?_; rintro e w' ⟨rfl, rfl⟩) | (go_at_call 8; refine (n1 _).mono ?_; rintro e w' ⟨rfl, rfl⟩) | fail)
  rw [← hwa.out]
  refine SM.out.mono ?_
  rintro e wb ⟨rfl, bb⟩
  replace S := S.out.step bb
  obtain ⟨wc, hwc⟩ : ∃ wc, wc = wb.alloc (.cells #[.int .u8 107] 5 (1, 2)) := ⟨_, rfl⟩
  replace S := S.alloc (.cells #[.int .u8 107] 5 (1, 2))
  rw [← hwc] at S
  have SX := Lib.hid (sameNil wc 1 (some ⟨wb.heap.size, 0, none⟩) 1 1)
  replace S := Lib.hid S
  replace hwc := Lib.hid hwc
  clear SM bb p0
  go_wp2_with (first | (go_at_call 8; refine (n0 _).mono ?_; rintro e w' ⟨rfl, rfl⟩) | (go_at_call 8; refine (n1 _).mono ?_; rintro e w' ⟨rfl, rfl⟩) | fail)
  rw [← hwc.out]
  refine SX.out.mono ?_
  rintro e wd ⟨rfl, bd⟩
  replace S := Lib.hid (S.out.step bd)
  clear SX bd
  go_wp2_with (first | (go_at_call 8; refine (n0 _).mono ?_; rintro e w' ⟨rfl, rfl⟩) | (go_at_call 8; refine (n1 _).mono ?_; rintro e w' ⟨rfl, rfl⟩) | fail)
  go_ret
  exact ⟨rfl, S.out.below⟩
/-- The names. -/
theorem itemNamesC (w : World) : Calls Try.prog 3 #[] w fun e w' => e = .returned (.bool true) ∧ Below w.heap.size w w' := by
  have WC := Lib.hid itemWakesC
  have NC := itemNumC
  go_enter Try.func3, Try.ntmps3
  go_wp2_with (first | (go_at_call 8; refine (NC _ _).mono ?_; rintro e w' ⟨rfl, rfl⟩) | (go_at_call 9; refine (WC.out _).mono ?_; rintro e w' ⟨rfl, bl⟩; replace bl := Lib.hid bl) | fail)
  go_ret
  exact ⟨rfl, bl.out⟩
end Go.Proofs.Ytdmclekohalolaa.Itm
/-
  How long the lists of an argument may be, by the form's own reach.
-/
namespace Go.Proofs.Ytdmclekohalolaa.LawFrame
open Go.ChangeShapes Go.WideShapes Go.ChangeAt Go.RowKit LawFrame Go.Deep
set_option linter.unusedVariables false

theorem reach_of {H : Type} {P : Program} {ts vs : List TypeId} {ds gs : List (DataW H)} (hz : (DataW.weightsEach P (ts ++ vs) (ds ++ gs)).all (· ≤ reachBytes) = true) {j : Nat} {t : TypeId} {d : DataW H} (ht : ts[j]? = some t) (hd : ds[j]? = some d) :
    ∀ n ∈ d.weights P t, n ≤ reachBytes := fun n hn => by
  have := List.all_eq_true.1 hz n (DataW.weights_mem_each (j := j) (by rw [List.getElem?_append_left (List.getElem?_eq_some_iff.1 ht).1]; exact ht) (by rw [List.getElem?_append_left (List.getElem?_eq_some_iff.1 hd).1]; exact hd) n hn)
  simpa using this
theorem weights_all {H : Type} {P : Program} {e : TypeId} {l : List (DataW H)} {d : DataW H} (hd : d ∈ l) : ∀ n ∈ d.weights P e, n ∈ DataW.weightsAll P e l := by
  induction l with
  | nil => cases hd
  | cons x r ih =>
    intro n hn
    simp only [DataW.weightsAll, List.mem_append]
    rcases List.mem_cons.1 hd with h | h
    · subst h
      exact .inl hn
    · exact .inr (ih h n hn)
/-- A slice of structs whose fields have one cell each, field by field; a field's weights are among the slice's. -/
theorem fields_weight {H : Type} {enc : TypeId × Value → H} {P : Program} {w : World} {t e : TypeId} {fs : Array Field} {fuel len cap : Nat} {A : Option Addr} {x : DataW H × List MemPlace} (ht : P.underlying t = some (.slice e)) (he : P.underlying e = some (.struct fs))
    (hone : oneCellFields P fs = true) (hC : P.cellsOf e = fs.size) (hpos : 0 < fs.size) (h : DataW.trod enc P w 0 (fun _ => true) true fuel t [.slice A len cap] = some x) :
    len ≤ cap ∧ cap ≤ maxLen ∧ ∀ k, k < len → ∃ b off n, A = some ⟨b, off, none⟩ ∧ b < w.heap.size ∧
      ∀ (j : Nat) (f : Field), fs[j]? = some f → ∃ v y, w.cell? ⟨b, off + (k * fs.size + j), none⟩ = some v ∧ DataW.trod enc P w 0 (fun _ => true) true n f.type [v] = some y ∧ ∀ m ∈ y.1.weights P f.type, m ∈ x.1.weights P t := by
  rcases open_slice_fields ht he hone hC h with ⟨hcs, -⟩ | ⟨a, len', cap', m, D, Pl, hcs, hb, hl, hm, hmm, hx, hi⟩
  · simp only [List.cons.injEq, Value.slice.injEq, and_true] at hcs
    obtain ⟨rfl, rfl, rfl⟩ := hcs
    exact ⟨Nat.le_refl _, by simp [maxLen], fun k hk => absurd hk (by omega)⟩
  · simp only [List.cons.injEq, Value.slice.injEq, and_true] at hcs
    obtain ⟨rfl, rfl, rfl⟩ := hcs
    have hmc : m = cap := by simpa using hmm
    subst hmc
    refine ⟨hl, hm, fun k hk => ?_⟩
    obtain ⟨ys0, n0, -, -, -, hf0⟩ := hi 0 (by omega)
    obtain ⟨v0, y0, hc0, -, -⟩ := hf0 0 fs[0] (Array.getElem?_eq_getElem hpos)
    have hsp : a = ⟨a.block, a.off, none⟩ := Base.spot_none (by simpa [Addr.add] using hc0)
    obtain ⟨ys, n, hD, -, -, hfi⟩ := hi k (by omega)
    refine ⟨a.block, a.off, n, by rw [← hsp], World.block_lt_of_cell? w a (by simpa [Addr.add] using hc0), fun j f hj => ?_⟩
    obtain ⟨v, y, hc, hy, hty⟩ := hfi j f hj
    rw [hsp, Base.add_explicit] at hc
    refine ⟨v, y, hc, hty, fun z hzz => ?_⟩
    have hys : (ys.map (·.1))[j]? = some y.1 := by rw [List.getElem?_map, hy]; rfl
    have hft : (fs.toList.map (·.type))[j]? = some f.type := by rw [List.getElem?_map, Array.getElem?_toList, hj]; rfl
    have h1 := DataW.weights_mem_each (P := P) hft hys z hzz
    have h2 : z ∈ (D k).weights P e := by
      rw [hD]
      simp only [DataW.weights, he]
      exact h1
    have h3 : z ∈ DataW.weightsAll P e ((List.range len).map D) := weights_all (List.mem_map_of_mem (List.mem_range.2 hk)) z h2
    rw [hx]
    show z ∈ (DataW.slice ((List.range len).map D) ((List.range (m - len)).map fun j => D (len + j))).weights P t
    simp only [DataW.weights, ht, List.mem_cons, List.mem_append]
    exact .inr (.inl h3)
theorem bytes_form {H : Type} {enc : TypeId × Value → H} {W : World} {n : Nat} {v : Value} {y : DataW H × List MemPlace} (hy : DataW.trod enc Try.prog W 0 (fun _ => true) true n 28 [v] = some y) (hk : ∀ m ∈ y.1.weights Try.prog 28, m ≤ reachBytes) :
    ∃ A c, ∃ l : List UInt8, v = .slice A l.length c ∧ l.length ≤ 140737488351232 ∧ Base.Bytes W W.heap.size A l := by
  rcases DataW.trod_slice Try.underlying28 hy with ⟨hcs, -⟩ | ⟨a, len', cap', elems, rest, n', -, hcs, hyy, -, -, -, hlen, -⟩
  · simp only [List.cons.injEq, and_true] at hcs
    subst hcs
    exact ⟨_, _, [], rfl, by simp, Base.Row.nil_ _ _ _⟩
  · simp only [List.cons.injEq, and_true] at hcs
    subst hcs
    obtain ⟨l, hll, h1, h2, h3⟩ := bytes_of Try.underlying28 Try.underlying5 (by kernel_rfl) hy
    have hb1 : Try.prog.bytesOf 5 = 1 := by kernel_rfl
    have h4 := hk ((elems.length + rest.length) * Try.prog.bytesOf 5) (by
      rw [hyy]
      simp [DataW.weights, Try.underlying28])
    rw [hb1] at h4
    unfold reachBytes at h4
    exact ⟨_, _, l, by rw [hll], by omega, h3⟩
end Go.Proofs.Ytdmclekohalolaa.LawFrame
/-
  The walk of ItemSizes.
-/
namespace Go.Proofs.Ytdmclekohalolaa.Itm
open Go.RowKit Base Arena Cls
set_option linter.unusedVariables false

/-- Lengths, and a key. -/
structure Sz where
  a : Int
  b : Int
  key : List UInt8
def RowZ (w : World) (A : Option Addr) (k : Nat) (z : Sz) : Prop := ∃ b off Ak ck, A = some ⟨b, off, none⟩ ∧ b < w.heap.size ∧ w.cell? ⟨b, off + k * 3, none⟩ = some (.int .i64 z.a) ∧ w.cell? ⟨b, off + k * 3 + 1, none⟩ = some (.int .i64 z.b) ∧
  w.cell? ⟨b, off + k * 3 + 2, none⟩ = some (.slice Ak z.key.length ck) ∧ Bytes w w.heap.size Ak z.key ∧ z.key.length ≤ 140737488351232
theorem RowZ.go {w w' : World} {A : Option Addr} {k : Nat} {z : Sz} (h : RowZ w A k z) (b : Below w.heap.size w w') : RowZ w' A k z := by
  obtain ⟨d, off, Ak, ck, h1, h2, h3, h4, h5, h6, h7⟩ := h
  exact ⟨d, off, Ak, ck, h1, Nat.lt_of_lt_of_le h2 b.size, (b.cell (p := ⟨d, off + k * 3, none⟩) h2).trans h3, (b.cell (p := ⟨d, off + k * 3 + 1, none⟩) h2).trans h4, (b.cell (p := ⟨d, off + k * 3 + 2, none⟩) h2).trans h5, bytes_go h6 b, h7⟩
set_option maxRecDepth 100000 in
set_option maxHeartbeats 2000000 in
theorem itemSizesC (w : World) (A : Option Addr) (cap : Nat) (l : List Sz) (hl : l.length ≤ maxLen) (hA : ∀ k (hk : k < l.length), RowZ w A k l[k]) :
    Calls Try.prog 4 #[.slice A l.length cap] w fun e w' => e = .returned (.bool true) ∧ Below w.heap.size w w' := by
  unfold maxLen at hl
  have WC := Lib.hid itemWakesC
  have NC := itemNumC
  go_enter Try.func4, Try.ntmps4
  go_wp2
  go_loopw [3] (fun i wr => ∃ k : Nat, k ≤ l.length ∧ i = .int .i64 k ∧ Hid (Below w.heap.size w wr)) (fun i _ => l.length - (intOf i).toNat)
  case atStart => exact ⟨0, Nat.zero_le _, rfl, Lib.hid (Below.refl _ _)⟩
  case round =>
    obtain ⟨k, hk, rfl, bl⟩ := hrel
    by_cases hlt : k < l.length
    · have R := (hA k hlt).go bl.out
      obtain ⟨bb, off, Ak, ck, rfl, hb, c0, c1, c2, hB, hkl⟩ := R
      clear hA
      generalize l[k] = z at *
      obtain ⟨za, zb, key⟩ := z
      simp only at c0 c1 c2 hB hkl
      have d0 : decide ((k : Int) < (l.length : Int)) = true := decide_eq_true (by omega)
      have i0 : (0 : Int) ≤ (k : Int) := by omega
      have i1 : (k : Int) < (l.length : Int) := by omega
      have SC := Lib.hid (fun w => sizeC w za zb)
      have RC := Lib.hid (fun w => refSizeC w za zb)
      rename World => wr
      have LC := Lib.hid (fun m => Book.lendC Ak ck key (wr.drewN m) hB hkl)
      have hsz : w.heap.size ≤ wr.heap.size := bl.out.size
      replace hB := Lib.hid hB
      generalize sizeE za zb = p at *
      obtain ⟨p1, p2⟩ := p
      go_upto_region 4 with fail
      go_quiet ((first | (go_at_call 10; exact quiet_left (SC.out _))))
      go_upto_region 5 with fail
      go_quiet ((first | (go_at_call 11; exact quiet_add_left (RC.out _))))
      go_wp2_with fail
      refine (LC.out _).mono ?_
      rintro e w4 ⟨g, cap2, rfl, hg, hL, b4⟩
      have hB4 : Bytes w4 w4.heap.size Ak key := bytes_go hB.out ⟨b4.os, b4.tape, b4.output, b4.size, b4.block⟩
      have x0 := (b4.cell (p := ⟨bb, off + k * 3, none⟩) hb).trans c0
      have x1 := (b4.cell (p := ⟨bb, off + k * 3 + 1, none⟩) hb).trans c1
      have x2 := (b4.cell (p := ⟨bb, off + k * 3 + 2, none⟩) hb).trans c2
      have b14 : Below w.heap.size w w4 := bl.out.trans ((show Below wr.heap.size wr w4 from ⟨b4.os, b4.tape, b4.output, b4.size, b4.block⟩).mono hsz)
      have hgl := hL.lt
      have C1 := Lib.hid (fun n => legalC (some ⟨g, 0, none⟩) cap2 w4.heap.size key (w4.drewN n) (hL.bytes hgl) (by unfold maxLen; omega))
      have C2 := Lib.hid (fun n => refLegalC Ak ck w4.heap.size key (w4.drewN n) hB4 (by unfold maxLen; omega))
      have C3 := Lib.hid (fun n => Book.intactC g cap2 Ak ck w4.heap.size key (w4.drewN n) hL hB4 hkl)
      generalize legalN key = lg at *
      replace b14 := Lib.hid b14
      clear LC SC RC bl hB hB4 hL b4 c0 c1 c2 hsz hg hgl hb
      go_upto_region 7 with fail
      go_quiet ((first | (go_at_call 8; exact quiet_left (NC _ _)) | (go_at_call 13; exact quiet_left (C1.out _)) | (go_at_call 14; exact quiet_left (C2.out _)) | (go_at_call 15; refine (C3.out _).mono ?_; rintro e w' ⟨rfl, m, rfl⟩; exact ⟨rfl, _, World.drewN_drewN _ _ _⟩)))
      go_wp2
      go_roundw
      case rel => exact ⟨k + 1, by omega, by go_num, Lib.hid (below_drew b14.out _)⟩
      case measure => simp [intOf]; omega
    · obtain rfl : k = l.length := by omega
      go_wp2_with fail
      refine (WC.out _).mono ?_
      rintro e w' ⟨rfl, b2⟩
      have b3 := Lib.hid (bl.out.trans (b2.mono bl.out.size))
      clear b2
      go_wp2
      go_ret
      exact ⟨rfl, b3.out⟩
end Go.Proofs.Ytdmclekohalolaa.Itm
/-
  What the arguments of the laws of classes are: a config, a list of numbers.
-/
namespace Go.Proofs.Ytdmclekohalolaa.ClsArg
open Go.ChangeShapes Go.WideShapes Go.ChangeAt Go.RowKit LawFrame Go.Deep
set_option linter.unusedVariables false

variable {H : Type} {enc : TypeId × Value → H}
/-- A struct whose fields have one cell each, field by field. -/
theorem struct_at {P : Program} {w : World} {e : TypeId} {fs : Array Field} {fuel : Nat} {cs : List Value} {x : DataW H × List MemPlace} (he : P.underlying e = some (.struct fs))
    (hone : oneCellFields P fs = true) (hC : P.cellsOf e = fs.size) (h : DataW.trod enc P w 0 (fun _ => true) true fuel e cs = some x) :
    ∃ n, cs.length = fs.size ∧ ∀ (j : Nat) (f : Field), fs[j]? = some f → ∃ (v : Value) (y : DataW H × List MemPlace), cs[j]? = some v ∧ DataW.trod enc P w 0 (fun _ => true) true n f.type [v] = some y := by
  obtain ⟨ys, n', hn', hy, hlen, hyl, hf⟩ := DataW.trod_struct he h
  have hcl : cs.length = fs.size := by rw [← hC]; exact hlen
  refine ⟨n', hcl, fun j f hj => ?_⟩
  obtain ⟨ho, hk⟩ := hone_of hone j f hj
  have hjl : j < fs.size := (Array.getElem?_eq_some_iff.1 hj).1
  have h1 := hf j f hj
  rw [ho, hk] at h1
  have hone' : (cs.drop j).take 1 = [cs[j]'(by omega)] := by
    rw [List.drop_eq_getElem_cons (by omega)]
    rfl
  rw [hone'] at h1
  have hys : ys[j]? = some (ys[j]'(by omega)) := List.getElem?_eq_getElem (by omega)
  exact ⟨_, _, List.getElem?_eq_getElem (by omega), h1.trans hys⟩
set_option maxRecDepth 100000 in
theorem confArg {W : World} {v : Value} {x : DataW H × List MemPlace} {fuel : Nat} (hv : Value.okWide Try.prog W .any 0 44 v)
    (hf : DataW.trod enc Try.prog W 0 (fun _ => true) true fuel 44 v.cells.toList = some x) : ∃ c : Cls.Conf, v = .agg c.cells ∧ c.In := by
  obtain ⟨cs, rfl, hsz⟩ := okWide_struct Try.underlying44 hv
  obtain ⟨n, hl, hfi⟩ := struct_at Try.underlying44 (by kernel_rfl) (by kernel_rfl) hf
  obtain ⟨v0, y0, hc0, ht0⟩ := hfi 0 _ rfl
  obtain ⟨v1, y1, hc1, ht1⟩ := hfi 1 _ rfl
  obtain ⟨v2, y2, hc2, ht2⟩ := hfi 2 _ rfl
  obtain ⟨v3, y3, hc3, ht3⟩ := hfi 3 _ rfl
  obtain ⟨v4, y4, hc4, ht4⟩ := hfi 4 _ rfl
  obtain ⟨v5, y5, hc5, ht5⟩ := hfi 5 _ rfl
  obtain ⟨v6, y6, hc6, ht6⟩ := hfi 6 _ rfl
  obtain ⟨x0, e0, -, wx0⟩ := DataW.trod_int Try.underlying3 ht0
  obtain ⟨x1, e1, -, wx1⟩ := DataW.trod_int Try.underlying3 ht1
  obtain ⟨x2, e2, -, wx2⟩ := DataW.trod_int Try.underlying3 ht2
  obtain ⟨x3, e3, -, wx3⟩ := DataW.trod_int Try.underlying3 ht3
  obtain ⟨x4, e4, -, wx4⟩ := DataW.trod_int Try.underlying3 ht4
  obtain ⟨x5, e5, -, wx5⟩ := DataW.trod_int Try.underlying3 ht5
  obtain ⟨x6, e6, -, wx6⟩ := DataW.trod_int Try.underlying3 ht6
  simp only [List.cons.injEq, and_true] at e0 e1 e2 e3 e4 e5 e6
  subst e0 e1 e2 e3 e4 e5 e6
  refine ⟨⟨x0, x1, x2, x3, x4, x5, x6⟩, ?_, ⟨i64_bd wx0, i64_bd wx1, i64_bd wx2, i64_bd wx3, i64_bd wx4, i64_bd wx5, i64_bd wx6⟩⟩
  obtain ⟨lc⟩ := cs
  match lc, hl with
  | [c0, c1, c2, c3, c4, c5, c6], _ =>
    have g : ∀ {a b : Value}, some a = some b → a = b := fun h => by injection h
    have f0 : c0 = .int .i64 x0 := g hc0
    have f1 : c1 = .int .i64 x1 := g hc1
    have f2 : c2 = .int .i64 x2 := g hc2
    have f3 : c3 = .int .i64 x3 := g hc3
    have f4 : c4 = .int .i64 x4 := g hc4
    have f5 : c5 = .int .i64 x5 := g hc5
    have f6 : c6 = .int .i64 x6 := g hc6
    subst f0 f1 f2 f3 f4 f5 f6
    rfl
/-- A list of numbers. -/
theorem ints_at {W : World} {fuel len cap : Nat} {A : Option Addr} {x : DataW H × List MemPlace} (h : DataW.trod enc Try.prog W 0 (fun _ => true) true fuel 91 [.slice A len cap] = some x) :
    ∃ l : List Int, l.length = len ∧ len ≤ cap ∧ cap ≤ maxLen ∧ ∀ k (hk : k < l.length), ∃ b off, A = some (⟨b, off, none⟩ : Addr) ∧ b < W.heap.size ∧ W.cell? ⟨b, off + k, none⟩ = some (.int .i64 l[k]) := by
  obtain ⟨hl, hm, hat⟩ := slice_at Try.underlying91 (show Try.prog.cellsOf 3 = 1 by kernel_rfl) (by decide) h
  obtain ⟨l, hlen, hP⟩ := list_of (fun k (n : Int) => ∃ b off, A = some (⟨b, off, none⟩ : Addr) ∧ b < W.heap.size ∧ W.cell? ⟨b, off + k, none⟩ = some (.int .i64 n)) len (by
    intro k hk
    obtain ⟨b, off, n, cs', y, rfl, hb, hcl, hc, hy⟩ := hat k (by omega)
    obtain ⟨z, rfl, -, wz⟩ := DataW.trod_int Try.underlying3 hy
    have h0 := hc 0 _ rfl
    rw [Nat.mul_one, Nat.add_zero] at h0
    exact ⟨z, b, off, rfl, hb, h0⟩)
  exact ⟨l, hlen, hl, hm, hP⟩
end Go.Proofs.Ytdmclekohalolaa.ClsArg
/-
  The statements' own helpers: right, big, chunkOf, two.
-/
namespace Go.Proofs.Ytdmclekohalolaa.Itm
open Go.RowKit Base Arena Cls
set_option linter.unusedVariables false

def fixB (b : UInt8) : UInt8 := if b.toNat ≤ 32 ∨ b.toNat = 127 then 107 else b
def rightN (l : List UInt8) : List UInt8 := if l = [] then [107] else (l.take 250).map fixB
theorem fix_ok (b : UInt8) : okB (fixB b) = true := by
  unfold fixB okB
  split
  · rfl
  · rename_i h
    simp only [not_or] at h
    have h1 : decide ((b.toNat : Int) ≤ 32) = false := decide_eq_false (by omega)
    have h2 : decide ((b.toNat : Int) = 127) = false := decide_eq_false (by omega)
    rw [h1, h2]; rfl
theorem right_legal (l : List UInt8) : legalN (rightN l) = true := by
  unfold rightN
  split
  · kernel_rfl
  · rename_i h
    have hl : l.length ≠ 0 := fun e => h (List.length_eq_zero_iff.1 e)
    unfold legalN
    have h1 : ((l.take 250).map fixB).all okB = true := by
      rw [List.all_eq_true]
      intro b hb
      obtain ⟨a, -, rfl⟩ := List.mem_map.1 hb
      exact fix_ok a
    rw [h1]
    simp
    omega
theorem right_take (l : List UInt8) (k : Nat) (hk : k < l.length) : (l.take (k + 1)).map fixB = (l.take k).map fixB ++ [fixB l[k]] := by
  rw [List.take_succ_eq_append_getElem hk, List.map_append]
  rfl
theorem row1 (wr : World) (t : TypeId) (v : Value) : Reads (wr.alloc (.cells #[v] t)) (wr.heap.size + 1) 1 (some ⟨wr.heap.size, 0, none⟩) 1 [v] :=
  ⟨rfl, fun _ => ⟨_, rfl, by show wr.heap.size < _; omega, fun j u hj => by match j, hj with | 0, hj => simp at hj; subst hj; simp [Addr.add]⟩⟩
set_option maxRecDepth 100000 in
set_option maxHeartbeats 1600000 in
theorem rightC (A : Option Addr) (c : Nat) (l : List UInt8) (w : World) (hb : Bytes w w.heap.size A l) (hl : l.length ≤ maxLen) :
    Calls Try.prog 54 #[.slice A l.length c] w fun e w' => ∃ v, e = .returned v ∧ w'.ownsRow w.heap.size 5 1 v (rightN l).length ((rightN l).map bv) ∧ Below w.heap.size w w' := by
  unfold maxLen at hl
  go_enter Try.func54, Try.ntmps54
  go_wp2
  go_loopw [3, 4] (fun v i wr => ∃ k : Nat, k ≤ l.length ∧ k ≤ 250 ∧ i = .int .i64 k ∧ wr.ownsRow w.heap.size 5 1 v k (((l.take k).map fixB).map bv) ∧ Below w.heap.size w wr) (fun _ i _ => 250 - (intOf i).toNat)
  case atStart => exact ⟨0, by omega, by omega, rfl, own_nil _ _ _, Below.refl _ _⟩
  case round =>
    obtain ⟨k, hk, hk2, rfl, hown, hbel⟩ := hrel
    have hbz := hbel.size
    obtain ⟨xs, hxs⟩ : ∃ xs, xs = ((l.take k).map fixB).map bv := ⟨_, rfl⟩
    rw [← hxs] at hown
    replace hxs := Lib.hid hxs
    by_cases hlt : k < l.length ∧ k < 250
    · obtain ⟨h1, h2⟩ := hlt
      obtain ⟨bb, off, rfl, hbb, hc⟩ := hb.at_ k h1
      have hc := (hbel.cell (p := ⟨bb, off + k, none⟩) hbb).trans hc
      have d0 : decide ((k : Int) < (l.length : Int)) = true := decide_eq_true (by omega)
      have d1 : decide ((k : Int) < 250) = true := decide_eq_true (by omega)
      have i0 : (0 : Int) ≤ (k : Int) := by omega
      have hs := Lib.hid (right_take l k h1)
      have hx := byte_lt' l[k]
      obtain ⟨x, hxe⟩ : ∃ x, x = (l[k]).toNat := ⟨_, rfl⟩
      have hfx : Hid (bv (fixB l[k]) = .int .u8 (if x ≤ 32 ∨ x = 127 then 107 else (x : Int))) := Lib.hid (by
        unfold fixB bv
        rw [← hxe]
        split
        · rfl
        · rw [hxe])
      rw [← hxe] at hc
      replace hxe := Lib.hid hxe
      obtain ⟨y, hy⟩ : ∃ y : Int, y = (if x ≤ 32 ∨ x = 127 then 107 else (x : Int)) := ⟨_, rfl⟩
      have hfy : Hid (bv (fixB l[k]) = .int .u8 y) := by rw [hy]; exact hfx
      clear hfx
      have c1 := fun wr => row1 wr 5 (.int .u8 y)
      by_cases q1 : x ≤ 32
      · have e1 : decide ((x : Int) ≤ 32) = true := decide_eq_true (by omega)
        have hy' : y = 107 := by rw [hy, if_pos (.inl q1)]
        subst hy'
        clear hy hx
        go_wp2_with (at_builtin; refine wpList_app rfl _ _ _ rfl Book.eiBytes w.heap.size _ _ _ rfl (hown.alloc _) (wr.heap.size + 1) (some ⟨wr.heap.size, 0, none⟩) 1 1 [.int .u8 107] rfl (c1 _) ?d2 ?d3 ?d4 ?d5 ?_)
        case d2 => intro u hu; simp at hu; subst hu; rfl
        case d3 => unfold maxLen; omega
        case d4 => omega
        case d5 => simp; omega
        intro v2 w2 hown2 hg2 _
        have hbel2 : Below w.heap.size w w2 := (hbel.alloc hbz _).grown hg2 (by simp; omega) (fun j hj => (hown.lt j hj).1)
        have hown3 : w2.ownsRow w.heap.size 5 1 v2 (k + 1) (((l.take (k + 1)).map fixB).map bv) := by
          rw [hs.out, List.map_append, List.map_singleton, hfy.out, ← hxs.out]; exact hown2
        clear hown2 hg2 hown hs c1 e1
        go_wp2
        go_roundw
        case rel => exact ⟨k + 1, by omega, by omega, by go_num, hown3, hbel2⟩
        case measure => simp [intOf]; omega
      · have e1 : decide ((x : Int) ≤ 32) = false := decide_eq_false (by omega)
        by_cases q2 : x = 127
        · have hy' : y = 107 := by rw [hy, if_pos (.inr q2)]
          subst hy'
          subst q2
          clear hy hx
          go_wp2_with (at_builtin; refine wpList_app rfl _ _ _ rfl Book.eiBytes w.heap.size _ _ _ rfl (hown.alloc _) (wr.heap.size + 1) (some ⟨wr.heap.size, 0, none⟩) 1 1 [.int .u8 107] rfl (c1 _) ?d2 ?d3 ?d4 ?d5 ?_)
          case d2 => intro u hu; simp at hu; subst hu; rfl
          case d3 => unfold maxLen; omega
          case d4 => omega
          case d5 => simp; omega
          intro v2 w2 hown2 hg2 _
          have hbel2 : Below w.heap.size w w2 := (hbel.alloc hbz _).grown hg2 (by simp; omega) (fun j hj => (hown.lt j hj).1)
          have hown3 : w2.ownsRow w.heap.size 5 1 v2 (k + 1) (((l.take (k + 1)).map fixB).map bv) := by
            rw [hs.out, List.map_append, List.map_singleton, hfy.out, ← hxs.out]; exact hown2
          clear hown2 hg2 hown hs c1 e1
          go_wp2
          go_roundw
          case rel => exact ⟨k + 1, by omega, by omega, by go_num, hown3, hbel2⟩
          case measure => simp [intOf]; omega
        · have e2 : decide ((x : Int) = 127) = false := decide_eq_false (by omega)
          have e3 : ((x : Int) == 127) = false := by rw [beq_eq_false_iff_ne]; omega
          have hy' : y = (x : Int) := by rw [hy, if_neg (by omega)]
          subst hy'
          clear hy hx
          go_wp2_with (at_builtin; refine wpList_app rfl _ _ _ rfl Book.eiBytes w.heap.size _ _ _ rfl (hown.alloc _) (wr.heap.size + 1) (some ⟨wr.heap.size, 0, none⟩) 1 1 [.int .u8 (x : Int)] rfl (c1 _) ?d2 ?d3 ?d4 ?d5 ?_)
          case d2 => intro u hu; simp at hu; subst hu; rfl
          case d3 => unfold maxLen; omega
          case d4 => omega
          case d5 => simp; omega
          intro v2 w2 hown2 hg2 _
          have hbel2 : Below w.heap.size w w2 := (hbel.alloc hbz _).grown hg2 (by simp; omega) (fun j hj => (hown.lt j hj).1)
          have hown3 : w2.ownsRow w.heap.size 5 1 v2 (k + 1) (((l.take (k + 1)).map fixB).map bv) := by
            rw [hs.out, List.map_append, List.map_singleton, hfy.out, ← hxs.out]; exact hown2
          clear hown2 hg2 hown hs c1 e1
          go_wp2
          go_roundw
          case rel => exact ⟨k + 1, by omega, by omega, by go_num, hown3, hbel2⟩
          case measure => simp [intOf]; omega
    · have hpk : (l.take k) = l.take 250 := by
        rcases Nat.lt_or_ge k 250 with h | h
        · rw [List.take_of_length_le (by omega), List.take_of_length_le (by omega)]
        · congr 1; omega
      have d2 : (decide ((k : Int) < (l.length : Int)) && decide ((k : Int) < 250)) = false := by
        rw [Bool.and_eq_false_iff, decide_eq_false_iff_not, decide_eq_false_iff_not]; omega
      rcases Nat.eq_zero_or_pos k with hz | hz
      · subst hz
        have hl0 : l = [] := by
          have : l.length = 0 := by omega
          exact List.length_eq_zero_iff.1 this
        subst hl0
        have hr : Hid (rightN [] = [107]) := Lib.hid rfl
        have hx0 : xs = [] := by rw [hxs.out]; rfl
        subst hx0
        have c1 := fun wr => row1 wr 5 (.int .u8 107)
        obtain ⟨A2, cc, rfl⟩ := own_is hown
        go_wp2_with (at_builtin; refine wpList_app rfl _ _ _ rfl Book.eiBytes w.heap.size _ _ _ rfl (hown.alloc _) (wr.heap.size + 1) (some ⟨wr.heap.size, 0, none⟩) 1 1 [.int .u8 107] rfl (c1 _) ?d2 ?d3 ?d4 ?d5 ?_)
        case d2 => intro u hu; simp at hu; subst hu; rfl
        case d3 => unfold maxLen; omega
        case d4 => omega
        case d5 => simp; omega
        intro v2 w2 hown2 hg2 _
        have hbel2 : Below w.heap.size w w2 := (hbel.alloc hbz _).grown hg2 (by simp; omega) (fun j hj => (hown.lt j hj).1)
        clear hg2 c1
        go_wp2
        go_ret
        exact ⟨_, rfl, by rw [hr.out]; exact hown2, hbel2⟩
      · have hr : Hid (rightN l = (l.take k).map fixB) := Lib.hid (by unfold rightN; rw [if_neg (fun e => by rw [e] at hk; simp at hk; omega), hpk])
        have hkl : Hid (((l.take k).map fixB).length = k) := Lib.hid (by simp; omega)
        clear hpk
        obtain ⟨A2, cc, rfl⟩ := own_is hown
        have d3 : decide ((k : Int) = 0) = false := decide_eq_false (by omega)
        have d4 : ((k : Int) == 0) = false := by rw [beq_eq_false_iff_ne]; omega
        rcases Nat.lt_or_ge k l.length with h1 | h1
        · have e1 : decide ((k : Int) < (l.length : Int)) = true := decide_eq_true (by omega)
          have e2 : decide ((k : Int) < 250) = false := decide_eq_false (by omega)
          clear d2
          go_wp2
          go_ret
          exact ⟨_, rfl, by rw [hr.out, hkl.out, ← hxs.out]; exact hown, hbel⟩
        · have e1 : decide ((k : Int) < (l.length : Int)) = false := decide_eq_false (by omega)
          clear d2
          go_wp2
          go_ret
          exact ⟨_, rfl, by rw [hr.out, hkl.out, ← hxs.out]; exact hown, hbel⟩
theorem rd_succ (l : List UInt8) (o i : Nat) (h : o + i < l.length) : rd l o (i + 1) = 256 * rd l o i + (l[o + i]).toNat := by
  unfold rd
  have e : (l.drop o)[i]? = some l[o + i] := by rw [List.getElem?_drop, List.getElem?_eq_getElem h]
  rw [beN_take' _ _ _ e, Nat.mul_comm]
set_option maxRecDepth 100000 in
theorem bigC (A : Option Addr) (c B : Nat) (l : List UInt8) (w : World) (hb : Bytes w B A l) (hl : l.length ≤ maxLen) (o n : Nat) (hn : n ≤ 8) (ho : o + n ≤ l.length) :
    Calls Try.prog 70 #[.slice A l.length c, .int .i64 (o : Int), .int .i64 (n : Int)] w fun e w' => e = .returned (.int .u64 ((rd l o n : Nat) : Int)) ∧ w = w' := by
  unfold maxLen at hl
  obtain ⟨r, hr⟩ : ∃ r, r = rd l o n := ⟨_, rfl⟩
  rw [← hr]
  replace hr := Lib.hid hr
  go_enter Try.func70, Try.ntmps70
  go_wp2
  go_loop [7, 8] (fun x i => ∃ k y : Nat, k ≤ n ∧ i = .int .i64 k ∧ x = .int .u64 y ∧ Hid (y = rd l o k)) (fun _ i => n - (intOf i).toNat)
  case atStart => exact ⟨0, 0, by omega, rfl, rfl, Lib.hid (by simp [rd, beN])⟩
  case round =>
    obtain ⟨k, y, hk, rfl, rfl, hy⟩ := hrel
    by_cases hlt : k < n
    · obtain ⟨bb, off, rfl, hbb, hc⟩ := hb.at_ (o + k) (by omega)
      have hx := byte_lt l[o + k]
      have hs := rd_succ l o k (by omega)
      have hyl : y < 256 ^ 7 := by
        rw [hy.out]
        exact Nat.lt_of_lt_of_le (rd_lt _ _ _) (Nat.pow_le_pow_right (by omega) (by omega))
      rw [show (256 : Nat) ^ 7 = 72057594037927936 from rfl] at hyl
      obtain ⟨x, hxe⟩ : ∃ x, x = (l[o + k]).toNat := ⟨_, rfl⟩
      rw [← hxe] at hc hx hs
      rw [← hy.out] at hs
      clear hxe
      have d0 : decide ((k : Int) < (n : Int)) = true := decide_eq_true (by omega)
      have q1 : IntKind.i64.wrap ((o : Int) + (k : Int)) = ((o + k : Nat) : Int) := by rw [IntWalk.i64_in _ (by omega)]; omega
      have q2 : IntKind.u64.wrap (256 * (y : Int)) = ((256 * y : Nat) : Int) := by rw [IntWalk.u64_in _ (by omega)]; omega
      have q3 : IntKind.u64.wrap (x : Int) = (x : Int) := IntWalk.u64_in _ (by omega)
      have q4 : IntKind.u64.wrap (((256 * y : Nat) : Int) + (x : Int)) = ((256 * y + x : Nat) : Int) := by rw [IntWalk.u64_in _ (by omega)]; omega
      have i0 : (0 : Int) ≤ ((o + k : Nat) : Int) := by omega
      have i1 : ((o + k : Nat) : Int) < (l.length : Int) := by omega
      have i2 : o + k < l.length := by omega
      generalize 256 * y = y256 at *
      replace hs := Lib.hid hs
      generalize o + k = ok at *
      go_wp2
      go_round
      case rel => exact ⟨k + 1, y256 + x, by omega, by go_num, by go_num, Lib.hid hs.out.symm⟩
      case measure => simp [intOf]; omega
    · obtain rfl : k = n := by omega
      have hye : Hid (r = y) := by rw [hr.out, hy.out]; exact Lib.hid rfl
      go_wp2
      go_ret
      exact ⟨by rw [hye.out] <;> rfl, rfl⟩
end Go.Proofs.Ytdmclekohalolaa.Itm
