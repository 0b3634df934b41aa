/-
  What always holds of a Set's state holds behind each call.
-/
import Derived.Test.YtgodinapdahocaaClassState
namespace Go.Proofs.Ytgodinapdahocaa.Cls
theorem place_inj {c : Cf} (h : c.Ok) {k i x j y : Nat} (hk : k < c.nc) (hx : x < c.n k) (hy : y < c.n k) (e : i * c.ps + x * c.sz k = j * c.ps + y * c.sz k) : i = j ∧ x = y := by
  obtain ⟨a1, a2, a3, -, -⟩ := place_of h (i := i) hk hx
  obtain ⟨b1, b2, b3, -, -⟩ := place_of h (i := j) hk hy
  rw [e] at a1 a2
  have hm : x * c.sz k = y * c.sz k := a2.symm.trans b2
  rw [hm] at a3
  exact ⟨a1.symm.trans b1, a3.symm.trans b3⟩
theorem mem_frees {c : Cf} {s : St} {i p : Nat} : p ∈ frees c s i ↔ ∃ x, x < c.n (s.cls i) ∧ s.tkn i x = false ∧ p = i * c.ps + x * c.sz (s.cls i) := mem_freesTo
theorem freesTo_nodup {c : Cf} (h : c.Ok) {s : St} {i : Nat} (hk : s.cls i < c.nc) : ∀ n, n ≤ c.n (s.cls i) → (freesTo c s i n).Nodup
  | 0, _ => List.Pairwise.nil
  | n + 1, hn => by
    unfold freesTo
    split
    · exact freesTo_nodup h hk n (by omega)
    · refine List.nodup_cons.2 ⟨fun hm => ?_, freesTo_nodup h hk n (by omega)⟩
      obtain ⟨x, hx, -, e⟩ := mem_freesTo.1 hm
      have := (place_inj h hk (show n < c.n (s.cls i) by omega) (show x < c.n (s.cls i) by omega) e).2
      omega
theorem freesTo_congr {c : Cf} {s s' : St} {i : Nat} (h1 : s'.cls i = s.cls i) (h2 : ∀ x, s'.tkn i x = s.tkn i x) : ∀ n, freesTo c s' i n = freesTo c s i n
  | 0 => rfl
  | n + 1 => by simp only [freesTo, h1, h2, freesTo_congr h1 h2 n]
theorem cnt_less {f g : Nat → Bool} {i n : Nat} (h : i < n) (h1 : f i = true) (h2 : g i = false) (h3 : ∀ j, j ≠ i → g j = f j) : cnt g n + 1 = cnt f n :=
  (cnt_more h h2 h1 fun j hj => (h3 j hj).symm).symm
theorem cnt_same {f g : Nat → Bool} {i n : Nat} (h1 : g i = f i) (h3 : ∀ j, j ≠ i → g j = f j) : cnt g n = cnt f n :=
  cnt_congr fun j _ => by by_cases h : j = i; · subst h; exact h1
                          · exact h3 j h
variable {c : Cf} {s : St}
/-- What the last free place is. -/
theorem Good.last (g : Good c s) (ok : c.Ok) {k p : Nat} (hk : k < c.nc) (hp : p ∈ s.free k) :
    ∃ i x, i < c.np ∧ s.own i = true ∧ s.cls i = k ∧ s.lvs i = false ∧ x < c.n k ∧ s.tkn i x = false ∧ p = i * c.ps + x * c.sz k ∧ p / c.ps = i ∧ p % c.ps / c.sz k = x := by
  obtain ⟨i, x, h1, h2, h3, h4, h5, h6, rfl⟩ := (g.free k hk p).1 hp
  obtain ⟨a1, a2, a3, -, -⟩ := place_of ok (i := i) hk h5
  exact ⟨i, x, h1, h2, h3, h4, h5, h6, rfl, a1, by rw [a2, a3]⟩
theorem Good.take (g : Good c s) (ok : c.Ok) {k p : Nat} {l : List Nat} (hk : k < c.nc) (hl : s.free k = l ++ [p]) : Good c (takeS c s k p) := by
  obtain ⟨i, x, h1, h2, h3, h4, h5, h6, hp, e1, e2⟩ := g.last ok hk (p := p) (by rw [hl]; simp)
  have hnd := g.nodup k hk
  rw [hl] at hnd
  have hpl : p ∉ l := fun h => (List.nodup_append.1 hnd).2.2 p h p (by simp) rfl
  unfold takeS
  rw [e1, e2, hl, List.dropLast_concat]
  have hx' : ∀ j y, (upd s.tkn i (upd (s.tkn i) x true)) j y = false ↔ s.tkn j y = false ∧ ¬ (j = i ∧ y = x) := by
    intro j y
    unfold upd
    by_cases hj : j = i
    · subst hj
      by_cases hy : y = x
      · subst hy; simp
      · simp [hy]
    · simp [hj]
  refine ⟨g.cls, fun j hj => ?_, g.top, ?_, ?_, g.gen, g.old, g.spare, ?_, ?_, g.rp, g.rs⟩
  · have hji : j ≠ i := fun e => by subst e; rw [h2] at hj; cases hj
    exact ⟨(g.out j hj).1, (upd_ne _ _ hji).trans (g.out j hj).2⟩
  · intro k' hk' q
    show q ∈ upd s.free k l k' ↔ ∃ i' x', _ ∧ _ ∧ _ ∧ _ ∧ _ ∧ (upd s.tkn i (upd (s.tkn i) x true)) i' x' = false ∧ _
    have hold := g.free k' hk' q
    by_cases hkk : k' = k
    · subst hkk
      rw [upd_at]
      rw [hl, List.mem_append, List.mem_singleton] at hold
      constructor
      · intro hq
        obtain ⟨i', x', b1, b2, b3, b4, b5, b6, b7⟩ := hold.1 (.inl hq)
        refine ⟨i', x', b1, b2, b3, b4, b5, (hx' i' x').2 ⟨b6, ?_⟩, b7⟩
        rintro ⟨rfl, rfl⟩
        exact hpl (by rw [hp, ← b7]; exact hq)
      · rintro ⟨i', x', b1, b2, b3, b4, b5, b6, b7⟩
        obtain ⟨b6, b8⟩ := (hx' i' x').1 b6
        rcases hold.2 ⟨i', x', b1, b2, b3, b4, b5, b6, b7⟩ with h | h
        · exact h
        · exact absurd (place_inj ok hk b5 h5 (by rw [← b7, h, hp])) b8
    · rw [upd_ne _ _ hkk, hold]
      constructor
      · rintro ⟨i', x', b1, b2, b3, b4, b5, b6, b7⟩
        exact ⟨i', x', b1, b2, b3, b4, b5, (hx' i' x').2 ⟨b6, fun e => hkk (by rw [← b3, e.1, h3])⟩, b7⟩
      · rintro ⟨i', x', b1, b2, b3, b4, b5, b6, b7⟩
        exact ⟨i', x', b1, b2, b3, b4, b5, ((hx' i' x').1 b6).1, b7⟩
  · intro k' hk'
    show (upd s.free k l k').Nodup
    by_cases hkk : k' = k
    · subst hkk; rw [upd_at]; exact (List.nodup_append.1 hnd).1
    · rw [upd_ne _ _ hkk]; exact g.nodup k' hk'
  · intro j hj ho
    show upd s.held i (s.held i + 1) j = cnt (upd s.tkn i (upd (s.tkn i) x true) j) (c.n (s.cls j))
    by_cases hji : j = i
    · subst hji
      rw [upd_at, upd_at, g.held j hj ho, h3]
      exact (cnt_more h5 h6 (upd_at _ _ _) fun y hy => upd_ne _ _ hy).symm
    · rw [upd_ne _ _ hji, upd_ne _ _ hji]; exact g.held j hj ho
  · intro k' hk'
    show upd s.rt k (s.rt k + 1) k' = sumTo (fun j => if s.own j && s.cls j == k' then upd s.held i (s.held i + 1) j else 0) c.np
    have hs := sumTo_at (f := fun j => if s.own j && s.cls j == k' then s.held j else 0) (g := fun j => if s.own j && s.cls j == k' then upd s.held i (s.held i + 1) j else 0) h1
      (fun j hj => by simp only [upd_ne _ _ hj])
    simp only [upd_at, h2, h3, Bool.true_and] at hs
    by_cases hkk : k' = k
    · subst hkk
      simp only [beq_self_eq_true, if_true] at hs
      rw [upd_at, g.rt k' hk']; omega
    · rw [upd_ne _ _ hkk, g.rt k' hk']
      have : (k == k') = false := by simp; omega
      simp only [this, Bool.false_eq_true, if_false] at hs
      omega
theorem Good.give (g : Good c s) (ok : c.Ok) {i x : Nat} (h1 : i < c.np) (h2 : s.own i = true) (h5 : x < c.n (s.cls i)) (h6 : s.tkn i x = true) : Good c (giveS c s i x) := by
  obtain ⟨k, hkd⟩ : ∃ k, k = s.cls i := ⟨_, rfl⟩
  have hk : k < c.nc := by rw [hkd]; exact g.cls i h1 h2
  rw [← hkd] at h5
  have hpn : s.lvs i = false → (i * c.ps + x * c.sz k) ∉ s.free k := by
    intro hl hm
    obtain ⟨j, y, b1, b2, b3, b4, b5, b6, b7⟩ := (g.free k hk _).1 hm
    obtain ⟨rfl, rfl⟩ := place_inj ok hk h5 b5 b7
    rw [h6] at b6; cases b6
  unfold giveS
  rw [← hkd]
  have hx' : ∀ j y, (upd s.tkn i (upd (s.tkn i) x false)) j y = false ↔ s.tkn j y = false ∨ (j = i ∧ y = x) := by
    intro j y
    unfold upd
    by_cases hj : j = i
    · subst hj
      by_cases hy : y = x
      · subst hy; simp
      · simp [hy]
    · simp [hj]
  have hge : 1 ≤ s.held i := by rw [g.held i h1 h2, ← hkd]; exact cnt_pos h5 h6
  refine ⟨g.cls, fun j hj => ?_, g.top, ?_, ?_, ?_, g.old, g.spare, ?_, ?_, g.rp, g.rs⟩
  · have hji : j ≠ i := fun e => by subst e; rw [h2] at hj; cases hj
    exact ⟨(g.out j hj).1, (upd_ne _ _ hji).trans (g.out j hj).2⟩
  · intro k' hk' q
    show q ∈ (if s.lvs i then s.free else upd s.free k (s.free k ++ [i * c.ps + x * c.sz k])) k' ↔ ∃ i' x', _ ∧ _ ∧ _ ∧ s.lvs i' = false ∧ _ ∧ (upd s.tkn i (upd (s.tkn i) x false)) i' x' = false ∧ _
    have hold := g.free k' hk' q
    have key : ∀ i' x', (s.tkn i' x' = false → q ∈ s.free k') → True := fun _ _ _ => trivial
    by_cases hl : s.lvs i = true
    · rw [if_pos hl, hold]
      constructor
      · rintro ⟨i', x', b1, b2, b3, b4, b5, b6, b7⟩
        exact ⟨i', x', b1, b2, b3, b4, b5, (hx' i' x').2 (.inl b6), b7⟩
      · rintro ⟨i', x', b1, b2, b3, b4, b5, b6, b7⟩
        rcases (hx' i' x').1 b6 with h | ⟨rfl, rfl⟩
        · exact ⟨i', x', b1, b2, b3, b4, b5, h, b7⟩
        · rw [hl] at b4; cases b4
    · have hl' : s.lvs i = false := by simpa using hl
      rw [if_neg hl]
      by_cases hkk : k' = k
      · subst hkk
        rw [upd_at, List.mem_append, List.mem_singleton, hold]
        constructor
        · rintro (⟨i', x', b1, b2, b3, b4, b5, b6, b7⟩ | h)
          · exact ⟨i', x', b1, b2, b3, b4, b5, (hx' i' x').2 (.inl b6), b7⟩
          · exact ⟨i, x, h1, h2, hkd.symm, hl', h5, (hx' i x).2 (.inr ⟨rfl, rfl⟩), h⟩
        · rintro ⟨i', x', b1, b2, b3, b4, b5, b6, b7⟩
          rcases (hx' i' x').1 b6 with h | ⟨rfl, rfl⟩
          · exact .inl ⟨i', x', b1, b2, b3, b4, b5, h, b7⟩
          · exact .inr b7
      · rw [upd_ne _ _ hkk, hold]
        constructor
        · rintro ⟨i', x', b1, b2, b3, b4, b5, b6, b7⟩
          exact ⟨i', x', b1, b2, b3, b4, b5, (hx' i' x').2 (.inl b6), b7⟩
        · rintro ⟨i', x', b1, b2, b3, b4, b5, b6, b7⟩
          rcases (hx' i' x').1 b6 with h | ⟨rfl, rfl⟩
          · exact ⟨i', x', b1, b2, b3, b4, b5, h, b7⟩
          · exact absurd (b3.symm.trans hkd.symm) hkk
  · intro k' hk'
    show ((if s.lvs i then s.free else upd s.free k (s.free k ++ [i * c.ps + x * c.sz k])) k').Nodup
    by_cases hl : s.lvs i = true
    · rw [if_pos hl]; exact g.nodup k' hk'
    · have hl' : s.lvs i = false := by simpa using hl
      rw [if_neg hl]
      by_cases hkk : k' = k
      · subst hkk
        rw [upd_at, List.nodup_append]
        refine ⟨g.nodup k' hk', by simp, fun a ha b hb => ?_⟩
        rw [List.mem_singleton] at hb
        rintro rfl
        subst hb
        exact hpn hl' ha
      · rw [upd_ne _ _ hkk]; exact g.nodup k' hk'
  · intro j y
    show upd s.gens i (upd (s.gens i) x ((s.gens i x + 1) % 4294967296)) j y < 4294967296
    have := g.gen j y
    unfold upd
    split
    · rename_i h
      subst h
      show (if _ then _ else _) < 4294967296
      split
      · exact Nat.mod_lt _ (by decide)
      · exact this
    · exact this
  · intro j hj ho
    show upd s.held i (s.held i - 1) j = cnt (upd s.tkn i (upd (s.tkn i) x false) j) (c.n (s.cls j))
    by_cases hji : j = i
    · subst hji
      rw [upd_at, upd_at, g.held j hj ho, ← hkd]
      have := cnt_less (g := upd (s.tkn j) x false) h5 h6 (upd_at _ _ _) fun y hy => upd_ne _ _ hy
      omega
    · rw [upd_ne _ _ hji, upd_ne _ _ hji]; exact g.held j hj ho
  · intro k' hk'
    show upd s.rt k (s.rt k - 1) k' = sumTo (fun j => if s.own j && s.cls j == k' then upd s.held i (s.held i - 1) j else 0) c.np
    have hs := sumTo_at (f := fun j => if s.own j && s.cls j == k' then s.held j else 0) (g := fun j => if s.own j && s.cls j == k' then upd s.held i (s.held i - 1) j else 0) h1
      (fun j hj => by simp only [upd_ne _ _ hj])
    simp only [upd_at, h2, ← hkd, Bool.true_and] at hs
    by_cases hkk : k' = k
    · subst hkk
      simp only [beq_self_eq_true, if_true] at hs
      rw [upd_at, g.rt k' hk']; omega
    · rw [upd_ne _ _ hkk, g.rt k' hk']
      have : (k == k') = false := by simp; omega
      simp only [this, Bool.false_eq_true, if_false] at hs
      omega
end Go.Proofs.Ytgodinapdahocaa.Cls
