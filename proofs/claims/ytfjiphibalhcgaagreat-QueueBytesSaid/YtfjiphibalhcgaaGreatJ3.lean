/-
  Contracts and lemmas, joined: ClassGood, ClassGood2, ClassWent, ClassJoin, ClassWiden, ClassNew0.
-/
import Derived.Deep.RegionHeld3
import Derived.StillTailTactics
import Derived.BigRegion
import Derived.Test.YtfjiphibalhcgaaGreatJ2
set_option linter.unusedSimpArgs false
set_option linter.unusedVariables false
/-
  What always holds of a Set's state holds behind each call.
-/
namespace Go.Proofs.YtfjiphibalhcgaaGreat.Cls
theorem place_inj {c : Cf} (h : c.Ok) {k i x j y : Nat} (hk : k < c.nc) (hx : x < c.n k) (hy : y < c.n k) (e : i * c.ps + x * c.sz k = j * c.ps + y * c.sz k) : i = j ∧ x = y := by
  obtain ⟨a1, a2, a3, -, -⟩ := place_of h (i := i) hk hx
  obtain ⟨b1, b2, b3, -, -⟩ := place_of h (i := j) hk hy
  rw [e] at a1 a2
  have hm : x * c.sz k = y * c.sz k := a2.symm.trans b2
  rw [hm] at a3
  exact ⟨a1.symm.trans b1, a3.symm.trans b3⟩
theorem mem_frees {c : Cf} {s : St} {i p : Nat} : p ∈ frees c s i ↔ ∃ x, x < c.n (s.cls i) ∧ s.tkn i x = false ∧ p = i * c.ps + x * c.sz (s.cls i) := mem_freesTo
theorem freesTo_nodup {c : Cf} (h : c.Ok) {s : St} {i : Nat} (hk : s.cls i < c.nc) : ∀ n, n ≤ c.n (s.cls i) → (freesTo c s i n).Nodup
  | 0, _ => List.Pairwise.nil
  | n + 1, hn => by
    unfold freesTo
    split
    · exact freesTo_nodup h hk n (by omega)
    · refine List.nodup_cons.2 ⟨fun hm => ?_, freesTo_nodup h hk n (by omega)⟩
      obtain ⟨x, hx, -, e⟩ := mem_freesTo.1 hm
      have := (place_inj h hk (show n < c.n (s.cls i) by omega) (show x < c.n (s.cls i) by omega) e).2
      omega
theorem cnt_less {f g : Nat → Bool} {i n : Nat} (h : i < n) (h1 : f i = true) (h2 : g i = false) (h3 : ∀ j, j ≠ i → g j = f j) : cnt g n + 1 = cnt f n :=
  (cnt_more h h2 h1 fun j hj => (h3 j hj).symm).symm
theorem cnt_same {f g : Nat → Bool} {i n : Nat} (h1 : g i = f i) (h3 : ∀ j, j ≠ i → g j = f j) : cnt g n = cnt f n :=
  cnt_congr fun j _ => by by_cases h : j = i; · subst h; exact h1
                          · exact h3 j h
variable {c : Cf} {s : St}
/-- What the last free place is. -/
theorem Good.last (g : Good c s) (ok : c.Ok) {k p : Nat} (hk : k < c.nc) (hp : p ∈ s.free k) :
    ∃ i x, i < c.np ∧ s.own i = true ∧ s.cls i = k ∧ s.lvs i = false ∧ x < c.n k ∧ s.tkn i x = false ∧ p = i * c.ps + x * c.sz k ∧ p / c.ps = i ∧ p % c.ps / c.sz k = x := by
  obtain ⟨i, x, h1, h2, h3, h4, h5, h6, rfl⟩ := (g.free k hk p).1 hp
  obtain ⟨a1, a2, a3, -, -⟩ := place_of ok (i := i) hk h5
  exact ⟨i, x, h1, h2, h3, h4, h5, h6, rfl, a1, by rw [a2, a3]⟩
theorem Good.take (g : Good c s) (ok : c.Ok) {k p : Nat} {l : List Nat} (hk : k < c.nc) (hl : s.free k = l ++ [p]) : Good c (takeS c s k p) := by
  obtain ⟨i, x, h1, h2, h3, h4, h5, h6, hp, e1, e2⟩ := g.last ok hk (p := p) (by rw [hl]; simp)
  have hnd := g.nodup k hk
  rw [hl] at hnd
  have hpl : p ∉ l := fun h => (List.nodup_append.1 hnd).2.2 p h p (by simp) rfl
  unfold takeS
  rw [e1, e2, hl, List.dropLast_concat]
  have hx' : ∀ j y, (upd s.tkn i (upd (s.tkn i) x true)) j y = false ↔ s.tkn j y = false ∧ ¬ (j = i ∧ y = x) := by
    intro j y
    unfold upd
    by_cases hj : j = i
    · subst hj
      by_cases hy : y = x
      · subst hy; simp
      · simp [hy]
    · simp [hj]
  refine ⟨g.cls, fun j hj => ?_, g.top, ?_, ?_, g.gen, g.old, g.spare, ?_, ?_, g.rp, g.rs⟩
  · have hji : j ≠ i := fun e => by subst e; rw [h2] at hj; cases hj
    exact ⟨(g.out j hj).1, (upd_ne _ _ hji).trans (g.out j hj).2⟩
  · intro k' hk' q
    show q ∈ upd s.free k l k' ↔ ∃ i' x', _ ∧ _ ∧ _ ∧ _ ∧ _ ∧ (upd s.tkn i (upd (s.tkn i) x true)) i' x' = false ∧ _
    have hold := g.free k' hk' q
    by_cases hkk : k' = k
    · subst hkk
      rw [upd_at]
      rw [hl, List.mem_append, List.mem_singleton] at hold
      constructor
      · intro hq
        obtain ⟨i', x', b1, b2, b3, b4, b5, b6, b7⟩ := hold.1 (.inl hq)
        refine ⟨i', x', b1, b2, b3, b4, b5, (hx' i' x').2 ⟨b6, ?_⟩, b7⟩
        rintro ⟨rfl, rfl⟩
        exact hpl (by rw [hp, ← b7]; exact hq)
      · rintro ⟨i', x', b1, b2, b3, b4, b5, b6, b7⟩
        obtain ⟨b6, b8⟩ := (hx' i' x').1 b6
        rcases hold.2 ⟨i', x', b1, b2, b3, b4, b5, b6, b7⟩ with h | h
        · exact h
        · exact absurd (place_inj ok hk b5 h5 (by rw [← b7, h, hp])) b8
    · rw [upd_ne _ _ hkk, hold]
      constructor
      · rintro ⟨i', x', b1, b2, b3, b4, b5, b6, b7⟩
        exact ⟨i', x', b1, b2, b3, b4, b5, (hx' i' x').2 ⟨b6, fun e => hkk (by rw [← b3, e.1, h3])⟩, b7⟩
      · rintro ⟨i', x', b1, b2, b3, b4, b5, b6, b7⟩
        exact ⟨i', x', b1, b2, b3, b4, b5, ((hx' i' x').1 b6).1, b7⟩
  · intro k' hk'
    show (upd s.free k l k').Nodup
    by_cases hkk : k' = k
    · subst hkk; rw [upd_at]; exact (List.nodup_append.1 hnd).1
    · rw [upd_ne _ _ hkk]; exact g.nodup k' hk'
  · intro j hj ho
    show upd s.held i (s.held i + 1) j = cnt (upd s.tkn i (upd (s.tkn i) x true) j) (c.n (s.cls j))
    by_cases hji : j = i
    · subst hji
      rw [upd_at, upd_at, g.held j hj ho, h3]
      exact (cnt_more h5 h6 (upd_at _ _ _) fun y hy => upd_ne _ _ hy).symm
    · rw [upd_ne _ _ hji, upd_ne _ _ hji]; exact g.held j hj ho
  · intro k' hk'
    show upd s.rt k (s.rt k + 1) k' = sumTo (fun j => if s.own j && s.cls j == k' then upd s.held i (s.held i + 1) j else 0) c.np
    have hs := sumTo_at (f := fun j => if s.own j && s.cls j == k' then s.held j else 0) (g := fun j => if s.own j && s.cls j == k' then upd s.held i (s.held i + 1) j else 0) h1
      (fun j hj => by simp only [upd_ne _ _ hj])
    simp only [upd_at, h2, h3, Bool.true_and] at hs
    by_cases hkk : k' = k
    · subst hkk
      simp only [beq_self_eq_true, if_true] at hs
      rw [upd_at, g.rt k' hk']; omega
    · rw [upd_ne _ _ hkk, g.rt k' hk']
      have : (k == k') = false := by simp; omega
      simp only [this, Bool.false_eq_true, if_false] at hs
      omega
theorem Good.give (g : Good c s) (ok : c.Ok) {i x : Nat} (h1 : i < c.np) (h2 : s.own i = true) (h5 : x < c.n (s.cls i)) (h6 : s.tkn i x = true) : Good c (giveS c s i x) := by
  obtain ⟨k, hkd⟩ : ∃ k, k = s.cls i := ⟨_, rfl⟩
  have hk : k < c.nc := by rw [hkd]; exact g.cls i h1 h2
  rw [← hkd] at h5
  have hpn : s.lvs i = false → (i * c.ps + x * c.sz k) ∉ s.free k := by
    intro hl hm
    obtain ⟨j, y, b1, b2, b3, b4, b5, b6, b7⟩ := (g.free k hk _).1 hm
    obtain ⟨rfl, rfl⟩ := place_inj ok hk h5 b5 b7
    rw [h6] at b6; cases b6
  unfold giveS
  rw [← hkd]
  have hx' : ∀ j y, (upd s.tkn i (upd (s.tkn i) x false)) j y = false ↔ s.tkn j y = false ∨ (j = i ∧ y = x) := by
    intro j y
    unfold upd
    by_cases hj : j = i
    · subst hj
      by_cases hy : y = x
      · subst hy; simp
      · simp [hy]
    · simp [hj]
  have hge : 1 ≤ s.held i := by rw [g.held i h1 h2, ← hkd]; exact cnt_pos h5 h6
  refine ⟨g.cls, fun j hj => ?_, g.top, ?_, ?_, ?_, g.old, g.spare, ?_, ?_, g.rp, g.rs⟩
  · have hji : j ≠ i := fun e => by subst e; rw [h2] at hj; cases hj
    exact ⟨(g.out j hj).1, (upd_ne _ _ hji).trans (g.out j hj).2⟩
  · intro k' hk' q
    show q ∈ (if s.lvs i then s.free else upd s.free k (s.free k ++ [i * c.ps + x * c.sz k])) k' ↔ ∃ i' x', _ ∧ _ ∧ _ ∧ s.lvs i' = false ∧ _ ∧ (upd s.tkn i (upd (s.tkn i) x false)) i' x' = false ∧ _
    have hold := g.free k' hk' q
    have key : ∀ i' x', (s.tkn i' x' = false → q ∈ s.free k') → True := fun _ _ _ => trivial
    by_cases hl : s.lvs i = true
    · rw [if_pos hl, hold]
      constructor
      · rintro ⟨i', x', b1, b2, b3, b4, b5, b6, b7⟩
        exact ⟨i', x', b1, b2, b3, b4, b5, (hx' i' x').2 (.inl b6), b7⟩
      · rintro ⟨i', x', b1, b2, b3, b4, b5, b6, b7⟩
        rcases (hx' i' x').1 b6 with h | ⟨rfl, rfl⟩
        · exact ⟨i', x', b1, b2, b3, b4, b5, h, b7⟩
        · rw [hl] at b4; cases b4
    · have hl' : s.lvs i = false := by simpa using hl
      rw [if_neg hl]
      by_cases hkk : k' = k
      · subst hkk
        rw [upd_at, List.mem_append, List.mem_singleton, hold]
        constructor
        · rintro (⟨i', x', b1, b2, b3, b4, b5, b6, b7⟩ | h)
          · exact ⟨i', x', b1, b2, b3, b4, b5, (hx' i' x').2 (.inl b6), b7⟩
          · exact ⟨i, x, h1, h2, hkd.symm, hl', h5, (hx' i x).2 (.inr ⟨rfl, rfl⟩), h⟩
        · rintro ⟨i', x', b1, b2, b3, b4, b5, b6, b7⟩
          rcases (hx' i' x').1 b6 with h | ⟨rfl, rfl⟩
          · exact .inl ⟨i', x', b1, b2, b3, b4, b5, h, b7⟩
          · exact .inr b7
      · rw [upd_ne _ _ hkk, hold]
        constructor
        · rintro ⟨i', x', b1, b2, b3, b4, b5, b6, b7⟩
          exact ⟨i', x', b1, b2, b3, b4, b5, (hx' i' x').2 (.inl b6), b7⟩
        · rintro ⟨i', x', b1, b2, b3, b4, b5, b6, b7⟩
          rcases (hx' i' x').1 b6 with h | ⟨rfl, rfl⟩
          · exact ⟨i', x', b1, b2, b3, b4, b5, h, b7⟩
          · exact absurd (b3.symm.trans hkd.symm) hkk
  · intro k' hk'
    show ((if s.lvs i then s.free else upd s.free k (s.free k ++ [i * c.ps + x * c.sz k])) k').Nodup
    by_cases hl : s.lvs i = true
    · rw [if_pos hl]; exact g.nodup k' hk'
    · have hl' : s.lvs i = false := by simpa using hl
      rw [if_neg hl]
      by_cases hkk : k' = k
      · subst hkk
        rw [upd_at, List.nodup_append]
        refine ⟨g.nodup k' hk', by simp, fun a ha b hb => ?_⟩
        rw [List.mem_singleton] at hb
        rintro rfl
        subst hb
        exact hpn hl' ha
      · rw [upd_ne _ _ hkk]; exact g.nodup k' hk'
  · intro j y
    show upd s.gens i (upd (s.gens i) x ((s.gens i x + 1) % 4294967296)) j y < 4294967296
    have := g.gen j y
    unfold upd
    split
    · rename_i h
      subst h
      show (if _ then _ else _) < 4294967296
      split
      · exact Nat.mod_lt _ (by decide)
      · exact this
    · exact this
  · intro j hj ho
    show upd s.held i (s.held i - 1) j = cnt (upd s.tkn i (upd (s.tkn i) x false) j) (c.n (s.cls j))
    by_cases hji : j = i
    · subst hji
      rw [upd_at, upd_at, g.held j hj ho, ← hkd]
      have := cnt_less (g := upd (s.tkn j) x false) h5 h6 (upd_at _ _ _) fun y hy => upd_ne _ _ hy
      omega
    · rw [upd_ne _ _ hji, upd_ne _ _ hji]; exact g.held j hj ho
  · intro k' hk'
    show upd s.rt k (s.rt k - 1) k' = sumTo (fun j => if s.own j && s.cls j == k' then upd s.held i (s.held i - 1) j else 0) c.np
    have hs := sumTo_at (f := fun j => if s.own j && s.cls j == k' then s.held j else 0) (g := fun j => if s.own j && s.cls j == k' then upd s.held i (s.held i - 1) j else 0) h1
      (fun j hj => by simp only [upd_ne _ _ hj])
    simp only [upd_at, h2, ← hkd, Bool.true_and] at hs
    by_cases hkk : k' = k
    · subst hkk
      simp only [beq_self_eq_true, if_true] at hs
      rw [upd_at, g.rt k' hk']; omega
    · rw [upd_ne _ _ hkk, g.rt k' hk']
      have : (k == k') = false := by simp; omega
      simp only [this, Bool.false_eq_true, if_false] at hs
      omega
end Go.Proofs.YtfjiphibalhcgaaGreat.Cls
/-
  What always holds of a Set's state holds behind each call: pages that come, leave, stay, go.
-/
namespace Go.Proofs.YtfjiphibalhcgaaGreat.Cls
variable {c : Cf} {s : St}
/-- A page joins its class's free chunks. -/
theorem Good.widen (g : Good c s) (ok : c.Ok) {k i : Nat} (hk : k < c.nc) (h1 : i < c.np) (h2 : s.own i = false) : Good c (widenS c s k i) := by
  obtain ⟨o1, o2⟩ := g.out i h2
  have hsp : 1 ≤ s.spare := by rw [g.spare]; exact cnt_pos (f := fun j => !s.own j) h1 (by simp [h2])
  have hfr : ∀ q, q ∈ frees c (widen1 c s k i) i ↔ ∃ x, x < c.n k ∧ q = i * c.ps + x * c.sz k := by
    intro q
    rw [mem_frees]
    simp only [widen1, upd_at]
    exact ⟨fun ⟨x, a, _, b⟩ => ⟨x, a, b⟩, fun ⟨x, a, b⟩ => ⟨x, a, by simp, b⟩⟩
  have hfn : (frees c (widen1 c s k i) i).Nodup := by
    refine freesTo_nodup ok ?_ _ (Nat.le_refl _)
    simp only [widen1, upd_at]; exact hk
  have hc : (widen1 c s k i).cls i = k := upd_at _ _ _
  unfold widenS joinS
  rw [hc]
  generalize frees c (widen1 c s k i) i = fs at *
  unfold widen1
  refine ⟨fun j hj ho => ?_, fun j hj => ?_, fun j hj => ?_, ?_, ?_, fun j x => ?_, g.old, ?_, ?_, ?_, ?_, ?_⟩
  · show upd s.cls i k j < c.nc
    by_cases hji : j = i
    · subst hji; rw [upd_at]; exact hk
    · rw [upd_ne _ _ hji]
      have ho' : upd s.own i true j = true := ho
      rw [upd_ne _ _ hji] at ho'
      exact g.cls j hj ho'
  · have hj' : upd s.own i true j = false := hj
    by_cases hji : j = i
    · subst hji; rw [upd_at] at hj'; cases hj'
    · rw [upd_ne _ _ hji] at hj'; exact g.out j hj'
  · have hj' : upd s.own i true j = true := hj
    by_cases hji : j = i
    · subst hji; exact h1
    · rw [upd_ne _ _ hji] at hj'; exact g.top j hj'
  · intro k' hk' q
    show q ∈ upd s.free k (s.free k ++ fs) k' ↔ ∃ j x, j < c.np ∧ upd s.own i true j = true ∧ upd s.cls i k j = k' ∧ s.lvs j = false ∧ x < c.n k' ∧ upd s.tkn i (fun _ => false) j x = false ∧ q = j * c.ps + x * c.sz k'
    have hold := g.free k' hk' q
    have old1 : (∃ j x, j < c.np ∧ s.own j = true ∧ s.cls j = k' ∧ s.lvs j = false ∧ x < c.n k' ∧ s.tkn j x = false ∧ q = j * c.ps + x * c.sz k') ↔
        ∃ j x, j ≠ i ∧ j < c.np ∧ upd s.own i true j = true ∧ upd s.cls i k j = k' ∧ s.lvs j = false ∧ x < c.n k' ∧ upd s.tkn i (fun _ => false) j x = false ∧ q = j * c.ps + x * c.sz k' := by
      constructor
      · rintro ⟨j, x, b1, b2, b3, b4, b5, b6, b7⟩
        have hji : j ≠ i := fun e => by subst e; rw [h2] at b2; cases b2
        exact ⟨j, x, hji, b1, by rw [upd_ne _ _ hji]; exact b2, by rw [upd_ne _ _ hji]; exact b3, b4, b5, by rw [upd_ne _ _ hji]; exact b6, b7⟩
      · rintro ⟨j, x, hji, b1, b2, b3, b4, b5, b6, b7⟩
        rw [upd_ne _ _ hji] at b2 b3 b6
        exact ⟨j, x, b1, b2, b3, b4, b5, b6, b7⟩
    rw [old1] at hold
    by_cases hkk : k' = k
    · subst hkk
      rw [upd_at, List.mem_append, hold, hfr]
      constructor
      · rintro (⟨j, x, _, h⟩ | ⟨x, a, b⟩)
        · exact ⟨j, x, h⟩
        · exact ⟨i, x, h1, upd_at _ _ _, upd_at _ _ _, o1, a, by rw [upd_at], b⟩
      · rintro ⟨j, x, b1, b2, b3, b4, b5, b6, b7⟩
        by_cases hji : j = i
        · subst hji; exact .inr ⟨x, b5, b7⟩
        · exact .inl ⟨j, x, hji, b1, b2, b3, b4, b5, b6, b7⟩
    · rw [upd_ne _ _ hkk, hold]
      constructor
      · rintro ⟨j, x, _, h⟩; exact ⟨j, x, h⟩
      · rintro ⟨j, x, b1, b2, b3, b4, b5, b6, b7⟩
        refine ⟨j, x, fun e => ?_, b1, b2, b3, b4, b5, b6, b7⟩
        subst e
        rw [upd_at] at b3
        exact hkk b3.symm
  · intro k' hk'
    show (upd s.free k (s.free k ++ fs) k').Nodup
    by_cases hkk : k' = k
    · subst hkk
      rw [upd_at, List.nodup_append]
      refine ⟨g.nodup k' hk', hfn, fun a ha b hb => ?_⟩
      rintro rfl
      obtain ⟨j, x, b1, b2, b3, b4, b5, b6, b7⟩ := (g.free k' hk' a).1 ha
      obtain ⟨y, hy, e⟩ := (hfr a).1 hb
      obtain ⟨rfl, -⟩ := place_inj ok hk' b5 hy (b7.symm.trans e)
      rw [h2] at b2; cases b2
    · rw [upd_ne _ _ hkk]; exact g.nodup k' hk'
  · show upd s.gens i (fun x => if x < c.n k then s.old i (x * c.sz k) else 0) j x < 4294967296
    by_cases hji : j = i
    · subst hji
      rw [upd_at]
      show (if _ then _ else _) < 4294967296
      split
      · exact g.old _ _
      · decide
    · rw [upd_ne _ _ hji]; exact g.gen _ _
  · show s.spare - 1 = cnt (fun j => !(upd s.own i true j)) c.np
    have := cnt_less (f := fun j => !s.own j) (g := fun j => !(upd s.own i true j)) h1 (by simp [h2]) (by simp [upd]) (fun j hj => by simp [upd, hj])
    rw [g.spare]; omega
  · intro j hj ho
    show s.held j = cnt (upd s.tkn i (fun _ => false) j) (c.n (upd s.cls i k j))
    by_cases hji : j = i
    · subst hji
      rw [upd_at, upd_at, o2]
      exact (cnt_none fun _ _ => rfl).symm
    · have ho' : upd s.own i true j = true := ho
      rw [upd_ne _ _ hji] at ho'
      rw [upd_ne _ _ hji, upd_ne _ _ hji]
      exact g.held j hj ho'
  · intro k' hk'
    show s.rt k' = sumTo (fun j => if upd s.own i true j && upd s.cls i k j == k' then s.held j else 0) c.np
    rw [g.rt k' hk']
    refine sumTo_congr fun j _ => ?_
    by_cases hji : j = i
    · subst hji; simp [h2, o2]
    · simp only [upd_ne _ _ hji]
  · intro k' hk'
    show upd s.rp k (s.rp k + 1) k' = cnt (fun j => upd s.own i true j && upd s.cls i k j == k') c.np
    by_cases hkk : k' = k
    · subst hkk
      rw [upd_at, g.rp k' hk']
      exact (cnt_more (f := fun j => s.own j && s.cls j == k') h1 (by simp [h2]) (by simp [upd]) (fun j hj => by simp [upd, hj])).symm
    · rw [upd_ne _ _ hkk, g.rp k' hk']
      exact (cnt_same (f := fun j => s.own j && s.cls j == k') (i := i) (by simp [upd, h2]; omega) (fun j hj => by simp [upd, hj])).symm
  · intro k' hk'
    show upd s.rs k (s.rs k + 1) k' = cnt (fun j => upd s.own i true j && upd s.cls i k j == k' && !s.lvs j) c.np
    by_cases hkk : k' = k
    · subst hkk
      rw [upd_at, g.rs k' hk']
      exact (cnt_more (f := fun j => s.own j && s.cls j == k' && !s.lvs j) h1 (by simp [h2]) (by simp [upd, o1]) (fun j hj => by simp [upd, hj])).symm
    · rw [upd_ne _ _ hkk, g.rs k' hk']
      exact (cnt_same (f := fun j => s.own j && s.cls j == k' && !s.lvs j) (i := i) (by simp [upd, h2]; omega) (fun j hj => by simp [upd, hj])).symm
theorem Good.stay (g : Good c s) (ok : c.Ok) {i : Nat} (h1 : i < c.np) (h2 : s.own i = true) (h3 : s.lvs i = true) : Good c (stayS c s i) := by
  have hk := g.cls i h1 h2
  have hfr : ∀ q, q ∈ frees c { s with lvs := upd s.lvs i false } i ↔ ∃ x, x < c.n (s.cls i) ∧ s.tkn i x = false ∧ q = i * c.ps + x * c.sz (s.cls i) := fun q => mem_frees
  have hfn : (frees c { s with lvs := upd s.lvs i false } i).Nodup := freesTo_nodup (s := { s with lvs := upd s.lvs i false }) ok hk _ (Nat.le_refl _)
  unfold stayS joinS
  generalize frees c { s with lvs := upd s.lvs i false } i = fs at *
  refine ⟨g.cls, fun j hj => ?_, g.top, ?_, ?_, g.gen, g.old, g.spare, g.held, g.rt, g.rp, ?_⟩
  · have hji : j ≠ i := fun e => by subst e; exact absurd (h2.symm.trans hj) (by simp)
    exact ⟨(upd_ne _ _ hji).trans (g.out j hj).1, (g.out j hj).2⟩
  · intro k' hk' q
    show q ∈ upd s.free (s.cls i) (s.free (s.cls i) ++ fs) k' ↔ ∃ j x, _ ∧ s.own j = true ∧ s.cls j = k' ∧ upd s.lvs i false j = false ∧ _ ∧ s.tkn j x = false ∧ _
    have hold := g.free k' hk' q
    have old1 : (∃ j x, j < c.np ∧ s.own j = true ∧ s.cls j = k' ∧ s.lvs j = false ∧ x < c.n k' ∧ s.tkn j x = false ∧ q = j * c.ps + x * c.sz k') ↔
        ∃ j x, j ≠ i ∧ j < c.np ∧ s.own j = true ∧ s.cls j = k' ∧ upd s.lvs i false j = false ∧ x < c.n k' ∧ s.tkn j x = false ∧ q = j * c.ps + x * c.sz k' := by
      constructor
      · rintro ⟨j, x, b1, b2, b3, b4, b5, b6, b7⟩
        have hji : j ≠ i := fun e => by subst e; rw [h3] at b4; cases b4
        exact ⟨j, x, hji, b1, b2, b3, (upd_ne _ _ hji).trans b4, b5, b6, b7⟩
      · rintro ⟨j, x, hji, b1, b2, b3, b4, b5, b6, b7⟩
        rw [upd_ne _ _ hji] at b4
        exact ⟨j, x, b1, b2, b3, b4, b5, b6, b7⟩
    rw [old1] at hold
    by_cases hkk : k' = s.cls i
    · subst hkk
      rw [upd_at, List.mem_append, hold, hfr]
      constructor
      · rintro (⟨j, x, _, h⟩ | ⟨x, a, b, d⟩)
        · exact ⟨j, x, h⟩
        · exact ⟨i, x, h1, h2, rfl, upd_at _ _ _, a, b, d⟩
      · rintro ⟨j, x, b1, b2, b3, b4, b5, b6, b7⟩
        by_cases hji : j = i
        · subst hji; exact .inr ⟨x, b5, b6, b7⟩
        · exact .inl ⟨j, x, hji, b1, b2, b3, b4, b5, b6, b7⟩
    · rw [upd_ne _ _ hkk, hold]
      constructor
      · rintro ⟨j, x, _, h⟩; exact ⟨j, x, h⟩
      · rintro ⟨j, x, b1, b2, b3, b4, b5, b6, b7⟩
        exact ⟨j, x, fun e => by subst e; exact hkk b3.symm, b1, b2, b3, b4, b5, b6, b7⟩
  · intro k' hk'
    show (upd s.free (s.cls i) (s.free (s.cls i) ++ fs) k').Nodup
    by_cases hkk : k' = s.cls i
    · subst hkk
      rw [upd_at, List.nodup_append]
      refine ⟨g.nodup _ hk', hfn, fun a ha b hb => ?_⟩
      rintro rfl
      obtain ⟨j, x, b1, b2, b3, b4, b5, b6, b7⟩ := (g.free _ hk' a).1 ha
      obtain ⟨y, hy, -, e⟩ := (hfr a).1 hb
      obtain ⟨rfl, -⟩ := place_inj ok hk' b5 hy (b7.symm.trans e)
      rw [h3] at b4; cases b4
    · rw [upd_ne _ _ hkk]; exact g.nodup k' hk'
  · intro k' hk'
    show upd s.rs (s.cls i) (s.rs (s.cls i) + 1) k' = cnt (fun j => s.own j && s.cls j == k' && !(upd s.lvs i false j)) c.np
    by_cases hkk : k' = s.cls i
    · subst hkk
      rw [upd_at, g.rs _ hk']
      exact (cnt_more (f := fun j => s.own j && s.cls j == s.cls i && !s.lvs j) h1 (by simp [h3]) (by simp [upd, h2]) (fun j hj => by simp [upd, hj])).symm
    · rw [upd_ne _ _ hkk, g.rs k' hk']
      exact (cnt_same (f := fun j => s.own j && s.cls j == k' && !s.lvs j) (i := i) (by simp [(show (s.cls i == k') = false by simp; omega)]) (fun j hj => by simp [upd, hj])).symm
end Go.Proofs.YtfjiphibalhcgaaGreat.Cls
/-
  A Set in memory: frames, what a config that is right gives, the cells that walks read.
-/
namespace Go.Proofs.YtfjiphibalhcgaaGreat.Cls
open Go.RowKit Base MapG
set_option linter.unusedVariables false

/-- step_append_new, behind the region's choice. -/
theorem wp_append_new {P : Program} (w : World) {ops : Array Oper} {o : Oper} {a : Act} {K : Act → World → Prop} {Q : Exit → Act → World → Prop} (hgd : o.guard = none) (s x : Operand) (t : TypeId)
    (ho : o.op = .call { callee := .builtin .append, args := #[s, x], argTypes := #[t, t] })
    (base : Nat) (e : TypeId) (i : TypeInfo) (z : Value) (size bytes : Nat) (ht : P.underlying t = some (.slice e)) (hi : P.info? e = some i) (hz : i.zero = some z)
    (hsize : i.size = size) (hby : i.bytes = bytes) (hzs : z.cells.size = size) (hsz : 0 < size)
    (v : Value) (n : Nat) (xs : List Value) (hs : a.eval s = v) (hown : w.ownsRow base e size v n xs)
    (B : Nat) (A : Option Addr) (m c : Nat) (news : List Value) (hx : a.eval x = .slice A m c) (hr : Reads w B size A m news) (h1 : ∀ u ∈ news, u.oneCell' = true)
    (h63 : n + m ≤ maxLen) (hbytes : (n + m) * bytes ≤ 140737488355328) (hbase : base ≤ w.heap.size) (hm : 0 < n + m)
    (h : ∀ b cap w', w'.ownsRow base e size (.slice (some ⟨b, 0, none⟩) (n + m) cap) (n + m) (xs ++ news) → w.grownBy w' v.ownBlock → (v.ownBlock = some b ∨ b = w.heap.size) → b < w'.heap.size → K (a.put o.dst (.slice (some ⟨b, 0, none⟩) (n + m) cap)) w') : Oper.wp P o a w K Q := by
  have := step_append_new (P := P) w (ops := ops) (E := True) (Q := Q) hgd s x t ho base e i z size bytes ht hi hz hsize hby hzs hsz v n xs hs hown B A m c news hx hr h1 h63 hbytes hbase hm h
  rwa [if_pos (by simp [Region.wanted, hgd])] at this
structure Went (w w' : World) (L L' : Lay) (c : Conf) (s s' : St) : Prop where
  only : Only (Foot L c s) w w'
  foot : ∀ b, Foot L' c s' b → Foot L c s b ∨ w.heap.size ≤ b
theorem Went.refl (w : World) (L : Lay) (c : Conf) (s : St) : Went w w L L c s s := ⟨Only.refl _ _, fun _ h => .inl h⟩
theorem Went.trans {w w1 w2 : World} {L L1 L2 : Lay} {c : Conf} {s s1 s2 : St} (h : Went w w1 L L1 c s s1) (k : Went w1 w2 L1 L2 c s1 s2) : Went w w2 L L2 c s s2 :=
  ⟨h.only.trans k.only fun x hx hf => (h.foot x hf).resolve_right (by omega), fun b hb => (k.foot b hb).elim (h.foot b) fun hb => .inr (Nat.le_trans h.only.size hb)⟩
theorem Went.next {w w1 w2 : World} {L L1 L2 : Lay} {c : Conf} {s s1 s2 : St} (h : Went w w1 L L1 c s s1) (o : Only (Foot L1 c s1) w1 w2) (hf : ∀ p, L2.blk c.cf s2 p = L1.blk c.cf s1 p) : Went w w2 L L2 c s s2 :=
  h.trans ⟨o, fun b ⟨p, hp⟩ => .inl ⟨p, (hf p).symm.trans hp⟩⟩
theorem only_at {S : Nat → Prop} (w : World) (b j : Nat) (v : Value) (h : S b) : Only S w (w.setCell ⟨b, j, none⟩ v) := (Only.refl S w).setCell (p := ⟨b, j, none⟩) (fun _ => h) v
theorem okOf {c : Conf} (h : refN c = 0) : c.cf.Ok ∧ Right c := by
  unfold refN at h
  by_cases hR : Right c
  · refine ⟨?_, hR⟩
    rw [if_pos hR] at h
    have h62 : c.nc ≤ 62 := by
      rcases Nat.lt_or_ge 62 c.nc with h1 | h1
      · rw [if_pos h1] at h; cases h
      · exact h1
    have a1 := hR.ps
    have a2 := hR.np1
    have a3 := hR.np2
    unfold Page9 at a1
    have hn := szs_nice hR.nice
    have hl := lim_le c.il.toNat
    have a4 := hR.il2
    have hlp : lim c.il.toNat ≤ c.ps.toNat := by unfold lim; omega
    refine ⟨?_, ?_, ?_, ?_, ?_, (cntN_ok _ _ _).pos, h62, fun k _ => ?_⟩
    · show 4096 ≤ c.ps.toNat; omega
    · show c.ps.toNat ≤ 1048576; omega
    · show c.ps.toNat % 8 = 0; omega
    · show 1 ≤ c.np.toNat; omega
    · show c.np.toNat ≤ 1024; omega
    · obtain ⟨b1, b2, b3⟩ := hn k
      exact ⟨b2, Nat.le_trans b3 hlp, b1⟩
  · rw [if_neg hR] at h; cases h
theorem nodup_le : ∀ (N : Nat) (l : List Nat), l.Nodup → (∀ x ∈ l, x < N) → l.length ≤ N
  | 0, [], _, _ => Nat.le_refl _
  | 0, x :: l, _, h => absurd (h x (List.mem_cons_self ..)) (by omega)
  | N + 1, l, hd, h => by
    have h1 := nodup_le N (l.erase N) (hd.erase _) fun x hx => by
      have h2 := (List.Nodup.mem_erase_iff hd).1 hx
      have := h x h2.2
      omega
    rw [List.length_erase] at h1
    split at h1 <;> omega
theorem Good.short {c : Cf} {s : St} (g : Good c s) (ok : c.Ok) {k : Nat} (hk : k < c.nc) : (s.free k).length ≤ 1073741824 := by
  refine nodup_le _ _ (g.nodup k hk) fun p hp => ?_
  obtain ⟨i, x, h1, -, -, -, h5, -, rfl, -⟩ := g.last ok hk hp
  obtain ⟨-, -, -, h6, -⟩ := place_of ok (i := i) hk h5
  have h7 := ok.psb
  have h8 := ok.npb
  have h9 : (i + 1) * c.ps ≤ 1024 * 1048576 := Nat.mul_le_mul (by omega) h7
  rw [Nat.succ_mul] at h9
  have := (ok.sz k hk).1
  omega
theorem Right.psE {c : Conf} (h : Right c) : c.ps = (c.cf.ps : Int) := by have := h.ps; unfold Page9 at this; show c.ps = ((c.ps.toNat : Nat) : Int); omega
theorem Right.npE {c : Conf} (h : Right c) : c.np = (c.cf.np : Int) := by have := h.np1; show c.np = ((c.np.toNat : Nat) : Int); omega
theorem upd_self {α : Type} (f : Nat → α) (i : Nat) : upd f i (f i) = f := by
  funext j
  unfold upd
  split
  · rename_i h; rw [h]
  · rfl
theorem upd_upd {α : Type} (f : Nat → α) (i : Nat) (u v : α) : upd (upd f i u) i v = upd f i v := by
  funext j
  unfold upd
  split <;> rfl
theorem freesTo_len (c : Cf) (s : St) (i : Nat) : ∀ n, (freesTo c s i n).length ≤ n
  | 0 => Nat.le_refl _
  | n + 1 => by
    have := freesTo_len c s i n
    unfold freesTo
    split
    · omega
    · simp only [List.length_cons]; omega
section
variable {w : World} {L : Lay} {c : Conf} {s : St} {bs : List UInt8} (h : SetAt w L c s bs)
include h
theorem SetAt.okc : c.cf.Ok := (okOf h.ok).1
theorem SetAt.right : Right c := (okOf h.ok).2
theorem SetAt.cPs : w.cell? ⟨L.g, 0, none⟩ = some (.int .i64 (c.cf.ps : Int)) := by rw [h.headB.cell 0, ← h.right.psE]; rfl
theorem SetAt.cArena : w.cell? ⟨L.g, 7, none⟩ = some (.pointer (some ⟨L.ga, 0, none⟩)) := by rw [h.headB.cell 7]; rfl
theorem SetAt.cSizes : w.cell? ⟨L.g, 8, none⟩ = some (.slice (some ⟨L.gs, 0, none⟩) c.nc L.sc) := by rw [h.headB.cell 8]; rfl
theorem SetAt.cPages : w.cell? ⟨L.g, 9, none⟩ = some (.slice (some ⟨L.gp, 0, none⟩) c.cf.np c.cf.np) := by rw [h.headB.cell 9]; rfl
theorem SetAt.cRows : w.cell? ⟨L.g, 10, none⟩ = some (.slice (some ⟨L.gr, 0, none⟩) c.nc c.nc) := by rw [h.headB.cell 10]; rfl
theorem SetAt.cSpare : w.cell? ⟨L.g, 11, none⟩ = some (.int .i64 (s.spare : Int)) := by rw [h.headB.cell 11]; rfl
theorem SetAt.fz (i : Nat) : w.frozen? ⟨L.g, i, none⟩ = false := h.headB.frozen i
theorem SetAt.fzP (i : Nat) : w.frozen? ⟨L.gp, i, none⟩ = false := h.pagesB.frozen i
theorem SetAt.fzR (i : Nat) : w.frozen? ⟨L.gr, i, none⟩ = false := h.rowsB.frozen i
theorem SetAt.sz {k : Nat} (hk : k < c.nc) : w.cell? ⟨L.gs, k, none⟩ = some (.int .i64 (c.sz k : Int)) := h.sizesB.cell1 k hk
theorem SetAt.p0 {i : Nat} (hi : i < c.cf.np) : w.cell? ⟨L.gp, i * 7, none⟩ = some (.bool (s.own i)) := h.pagesB.cell i 0 hi (by omega)
theorem SetAt.p1 {i : Nat} (hi : i < c.cf.np) : w.cell? ⟨L.gp, i * 7 + 1, none⟩ = some (.bool (s.lvs i)) := h.pagesB.cell i 1 hi (by omega)
theorem SetAt.p2 {i : Nat} (hi : i < c.cf.np) : w.cell? ⟨L.gp, i * 7 + 2, none⟩ = some (.int .i64 (s.cls i : Int)) := h.pagesB.cell i 2 hi (by omega)
theorem SetAt.p3 {i : Nat} (hi : i < c.cf.np) (ho : s.own i = true) : w.cell? ⟨L.gp, i * 7 + 3, none⟩ = some (.slice (some ⟨L.G i, 0, none⟩) (c.cf.n (s.cls i)) (c.cf.n (s.cls i))) := by
  rw [h.pagesB.cell i 3 hi (by omega)]; show some (rowV c.cf s L.G i) = _; unfold rowV; rw [if_pos ho]
theorem SetAt.p4 {i : Nat} (hi : i < c.cf.np) (ho : s.own i = true) : w.cell? ⟨L.gp, i * 7 + 4, none⟩ = some (.slice (some ⟨L.T i, 0, none⟩) (c.cf.n (s.cls i)) (c.cf.n (s.cls i))) := by
  rw [h.pagesB.cell i 4 hi (by omega)]; show some (rowV c.cf s L.T i) = _; unfold rowV; rw [if_pos ho]
theorem SetAt.p5 {i : Nat} (hi : i < c.cf.np) : w.cell? ⟨L.gp, i * 7 + 5, none⟩ = some (.int .i64 (s.held i : Int)) := h.pagesB.cell i 5 hi (by omega)
theorem SetAt.p6 {i : Nat} (hi : i < c.cf.np) : w.cell? ⟨L.gp, i * 7 + 6, none⟩ = some (.map (L.O i)) := h.pagesB.cell i 6 hi (by omega)
theorem SetAt.gen {i : Nat} (hi : i < c.cf.np) (ho : s.own i = true) {x : Nat} (hx : x < c.cf.n (s.cls i)) : w.cell? ⟨L.G i, x, none⟩ = some (.int .u32 (s.gens i x : Int)) := (h.gensB hi ho).cell1 x hx
theorem SetAt.tk {i : Nat} (hi : i < c.cf.np) (ho : s.own i = true) {x : Nat} (hx : x < c.cf.n (s.cls i)) : w.cell? ⟨L.T i, x, none⟩ = some (.bool (s.tkn i x)) := (h.tknB hi ho).cell1 x hx
theorem SetAt.r0 {k : Nat} (hk : k < c.nc) : w.cell? ⟨L.gr, k * 4, none⟩ = some (L.F k) := h.rowsB.cell k 0 hk (by omega)
theorem SetAt.r1 {k : Nat} (hk : k < c.nc) : w.cell? ⟨L.gr, k * 4 + 1, none⟩ = some (.int .i64 (s.rt k : Int)) := h.rowsB.cell k 1 hk (by omega)
theorem SetAt.r2 {k : Nat} (hk : k < c.nc) : w.cell? ⟨L.gr, k * 4 + 2, none⟩ = some (.int .i64 (s.rp k : Int)) := h.rowsB.cell k 2 hk (by omega)
theorem SetAt.r3 {k : Nat} (hk : k < c.nc) : w.cell? ⟨L.gr, k * 4 + 3, none⟩ = some (.int .i64 (s.rs k : Int)) := h.rowsB.cell k 3 hk (by omega)
end
end Go.Proofs.YtfjiphibalhcgaaGreat.Cls
/-
  The walk of join: a page's free chunks go to the end of its class's row.
-/
namespace Go.Proofs.YtfjiphibalhcgaaGreat.Cls
open Go.RowKit Base MapG
set_option linter.unusedVariables false

theorem cel_alloc (w : World) (o : Obj) (g i : Nat) (hg : g < w.heap.size) : (w.alloc o).cell? ⟨g, i, none⟩ = w.cell? ⟨g, i, none⟩ := World.cell?_alloc_lt w o ⟨g, i, none⟩ hg
theorem frz_alloc (w : World) (o : Obj) (g i : Nat) (hg : g < w.heap.size) : (w.alloc o).frozen? ⟨g, i, none⟩ = w.frozen? ⟨g, i, none⟩ := by
  simp [World.frozen?, Below.heap_alloc w o g hg]
theorem cel_set (w : World) {g i h j : Nat} (v : Value) (hg : g ≠ h) : (w.setCell ⟨h, j, none⟩ v).cell? ⟨g, i, none⟩ = w.cell? ⟨g, i, none⟩ := World.cell?_setCell_other w ⟨h, j, none⟩ ⟨g, i, none⟩ v (fun e => by injection e with e1; exact hg e1.symm)
set_option maxRecDepth 100000 in
set_option maxHeartbeats 3200000 in
theorem joinC (w : World) (L : Lay) (c : Conf) (s : St) (bs : List UInt8) (h : SetAt w L c s bs) (i k : Nat) (hi : i < c.cf.np) (ho : s.own i = true) (hc : s.cls i = k) (hk : k < c.nc)
    (hf : (s.free k).length ≤ 1073741824) (hr : s.rs k < 1073741824) :
    Calls Tryz.prog 127 #[.pointer (some ⟨L.g, 0, none⟩), .int .i64 (i : Int)] w fun e w' => e = .returned (.tuple #[]) ∧
      ∃ v, SetAt w' { L with F := upd L.F k v } c (joinS c.cf s i) bs ∧ Went w w' L { L with F := upd L.F k v } c s (joinS c.cf s i) := by
  have H := Lib.hid h
  have ok := h.okc
  obtain ⟨n1, n2⟩ := n_pos ok hk
  have c0 := h.cPs
  have c8 := h.cSizes
  have c9 := h.cPages
  have c10 := h.cRows
  have p2 := h.p2 hi
  have p4 := h.p4 hi ho
  rw [hc] at p2 p4
  have r3 := h.r3 hk
  have z3 := h.fzR (k * 4 + 3)
  clear h
  have i0 : (0 : Int) ≤ (i : Int) := by omega
  have i1 : (i : Int) < (c.cf.np : Int) := by omega
  have k0 : (0 : Int) ≤ (k : Int) := by omega
  have k1 : (k : Int) < (c.nc : Int) := by omega
  have q1 : IntKind.i64.wrap ((s.rs k : Int) + 1) = (s.rs k : Int) + 1 := IntWalk.i64_in _ (by omega)
  have hnp := ok.npb
  have hnc := ok.ncb
  replace ok := Lib.hid ok
  go_enter Tryz.func127, Tryz.ntmps127
  go_wp2
  go_quiet (fail)
  go_upto_region 2 with fail
  obtain ⟨w0, hw0⟩ : ∃ w0, w0 = w.drewN nq := ⟨_, rfl⟩
  have H0 : SetAt w0 L c s bs := by rw [hw0]; exact H.out.drewN nq
  have W0 : Went w w0 L L c s s := ⟨by rw [hw0]; exact (Only.refl _ _).drewN nq, fun _ h => .inl h⟩
  rw [← hw0]
  have r3 := H0.r3 hk
  have z3 := H0.fzR (k * 4 + 3)
  have p4 := H0.p4 hi ho
  rw [hc] at p4
  have q2 : IntKind.i64.wrap ((c.cf.n k : Int) - 1) = (c.cf.n k : Int) - 1 := IntWalk.i64_in _ (by omega)
  have q3 : ∀ v, (w0.setCell ⟨L.gr, k * 4 + 3, none⟩ v).cell? ⟨L.gp, i * 7 + 4, none⟩ = w0.cell? ⟨L.gp, i * 7 + 4, none⟩ := fun v => World.cell?_setCell_other w0 _ _ v (fun e => by
    injection e with e1
    have := H0.inj .pages .rows L.gp rfl (by show some L.gr = some L.gp; rw [e1])
    cases this)
  replace hw0 := Lib.hid hw0
  replace H0 := Lib.hid H0
  replace W0 := Lib.hid W0
  replace hc := Lib.hid hc
  clear H c0 c8 c9 c10 p2
  go_wp2
  obtain ⟨w1, hw1⟩ : ∃ w1, w1 = w0.setCell ⟨L.gr, k * 4 + 3, none⟩ (.int .i64 ((s.rs k : Int) + 1)) := ⟨_, rfl⟩
  rw [← hw1]
  have H1 : SetAt w1 { L with F := upd L.F k (L.F k) } c { s with rs := upd s.rs k (s.rs k + 1), free := upd s.free k (s.free k ++ []) } bs := by
    rw [hw1, upd_self, List.append_nil, upd_self, show ((s.rs k : Int) + 1) = ((s.rs k + 1 : Nat) : Int) by omega]
    exact H0.out.setRs k (s.rs k + 1) hk
  have W1 : Went w w1 L { L with F := upd L.F k (L.F k) } c s { s with rs := upd s.rs k (s.rs k + 1), free := upd s.free k (s.free k ++ []) } := by
    rw [upd_self, List.append_nil, upd_self]
    refine ⟨?_, fun b h => .inl (by obtain ⟨p, hp⟩ := h; exact ⟨p, by cases p <;> exact hp⟩)⟩
    rw [hw1]
    exact W0.out.only.setCell (fun _ => ⟨.rows, rfl⟩) _
  replace H1 := Lib.hid H1
  replace W1 := Lib.hid W1
  replace hw1 := Lib.hid hw1
  clear q1 q2 q3 r3 z3 p4 H0 W0 hw0
  obtain ⟨s1, hs1⟩ : ∃ s1, s1 = { s with rs := upd s.rs k (s.rs k + 1) } := ⟨_, rfl⟩
  go_loopw [6] (fun v wr => ∃ (m : Nat) (x : Value) (done : List Nat), v = .int .i64 ((m : Int) - 1) ∧ m ≤ c.cf.n k ∧ Hid (done ++ freesTo c.cf s i m = frees c.cf s i) ∧
    Hid (SetAt wr { L with F := upd L.F k x } c { s with rs := upd s.rs k (s.rs k + 1), free := upd s.free k (s.free k ++ done) } bs) ∧ Hid (Went w wr L { L with F := upd L.F k x } c s { s with rs := upd s.rs k (s.rs k + 1), free := upd s.free k (s.free k ++ done) })) (fun v _ => (intOf v + 1).toNat)
  case atStart => exact ⟨c.cf.n k, L.F k, [], rfl, Nat.le_refl _, Lib.hid (by unfold frees; rw [hc.out]; rfl), H1, W1⟩
  case round =>
    obtain ⟨m, x, done, rfl, hm, hd, HR, WR⟩ := hrel
    clear H1 W1
    rcases Nat.eq_zero_or_pos m with hz | hz
    · subst hz
      have e : { s with rs := upd s.rs k (s.rs k + 1), free := upd s.free k (s.free k ++ done) } = joinS c.cf s i := by
        unfold joinS
        rw [hc.out, ← hd.out]
        unfold freesTo
        rw [List.append_nil]
      rw [e] at HR WR
      clear e
      go_wp2
      go_end0
      exact ⟨rfl, x, HR.out, WR.out⟩
    · obtain ⟨m, rfl⟩ : ∃ r', m = r' + 1 := ⟨m - 1, by omega⟩
      have hi1 : ((((m + 1 : Nat) : Int)) - 1) = (m : Int) := by omega
      rw [hi1]
      clear hi1
      have m0 : (0 : Int) ≤ (m : Int) := by omega
      have m1 : (m : Int) < (c.cf.n k : Int) := by omega
      have q4 : IntKind.i64.wrap ((m : Int) - 1) = (m : Int) - 1 := IntWalk.i64_in _ (by omega)
      have p4 := HR.out.p4 hi ho
      have tk := HR.out.tk hi ho (x := m) (by show m < c.cf.n (s.cls i); rw [hc.out]; omega)
      simp only [hc.out] at p4
      by_cases ht : s.tkn i m = true
      · simp only [ht] at tk
        have hd' : Hid (done ++ freesTo c.cf s i m = frees c.cf s i) := by rw [← hd.out]; exact Lib.hid (by conv => rhs; unfold freesTo; rw [if_pos ht])
        go_wp2
        go_roundw
        case rel => exact ⟨m, x, done, rfl, by omega, hd', HR, WR⟩
        case measure => simp [intOf] <;> omega
      · have ht' : s.tkn i m = false := by simpa using ht
        simp only [ht'] at tk
        have hd' : Hid ((done ++ [i * c.cf.ps + m * c.sz k]) ++ freesTo c.cf s i m = frees c.cf s i) := by
          rw [← hd.out]
          refine Lib.hid ?_
          conv => rhs; unfold freesTo; rw [if_neg ht]
          rw [List.append_assoc, hc.out]; rfl
        have hdl : done.length + 1 ≤ c.cf.n k := by
          have h1 := freesTo_len c.cf s i (c.cf.n (s.cls i))
          have h2 : (frees c.cf s i).length ≤ c.cf.n (s.cls i) := h1
          rw [← hd'.out, hc.out] at h2
          simp only [List.length_append, List.length_singleton] at h2
          omega
        obtain ⟨b1, b2, b3⟩ := ok.out.sz k hk
        have b4 := ok.out.psb
        have b5 := ok.out.ps
        have hA : i * c.cf.ps ≤ 1023 * 1048576 := Nat.mul_le_mul (by omega) b4
        have hB : m * c.sz k ≤ 16384 * 1048576 := Nat.mul_le_mul (by omega) (Nat.le_trans b2 b4)
        have qa : IntKind.i64.wrap ((i : Int) * (c.cf.ps : Int)) = ((i * c.cf.ps : Nat) : Int) := by rw [Int.natCast_mul]; exact IntWalk.i64_in _ (by rw [← Int.natCast_mul]; omega)
        have qb : IntKind.i64.wrap ((m : Int) * (c.sz k : Int)) = ((m * c.sz k : Nat) : Int) := by rw [Int.natCast_mul]; exact IntWalk.i64_in _ (by rw [← Int.natCast_mul]; omega)
        generalize i * c.cf.ps = A at *
        generalize m * c.sz k = B at *
        have qc : IntKind.i64.wrap ((A : Int) + (B : Int)) = ((A + B : Nat) : Int) := by rw [IntWalk.i64_in _ (by omega)]; omega
        generalize A + B = P at *
        have c0 := HR.out.cPs
        have c8 := HR.out.cSizes
        have p2 := HR.out.p2 hi
        have cz := HR.out.sz hk
        have r0 := HR.out.r0 hk
        have z0 := HR.out.fzR (k * 4)
        have own := HR.out.freeB hk
        have hle : (s.free k ++ done).length = (s.free k).length + done.length := List.length_append
        have hxn : ∀ q, q ≠ Part.free k → ∀ b, Lay.blk { L with F := upd L.F k x } c.cf { s with rs := upd s.rs k (s.rs k + 1), free := upd s.free k (s.free k ++ done) } q = some b → some b ≠ x.ownBlock := by
          intro q hq b hb e
          exact hq (HR.out.inj q (.free k) b hb (by rw [Lay.blk, if_pos (show k < c.cf.nc from hk)]; show (upd L.F k x k).ownBlock = _; rw [upd_at]; exact e.symm))
        have x1 := hxn .head (fun e => by cases e) L.g rfl
        have x2 := hxn .sizes (fun e => by cases e) L.gs rfl
        have x3 := hxn .pages (fun e => by cases e) L.gp rfl
        have x4 := hxn .rows (fun e => by cases e) L.gr rfl
        have hg1 : L.g < wr.heap.size := HR.out.headB.lt
        have hg2 : L.gs < wr.heap.size := HR.out.sizesB.lt
        have hg3 : L.gp < wr.heap.size := HR.out.pagesB.lt
        have y1 : L.g ≠ L.gr := fun e => by have := HR.out.inj .head .rows L.g rfl (by show some L.gr = some L.g; rw [e]); cases this
        have y2 : L.gs ≠ L.gr := fun e => by have := HR.out.inj .sizes .rows L.gs rfl (by show some L.gr = some L.gs; rw [e]); cases this
        have y3 : L.gp ≠ L.gr := fun e => by have := HR.out.inj .pages .rows L.gp rfl (by show some L.gr = some L.gp; rw [e]); cases this
        clear hxn
        simp only [hc.out, upd_at] at p2 r0 own
        generalize hF : s.free k ++ done = Fl at *
        have hg4 : L.gr < wr.heap.size := HR.out.rowsB.lt
        replace hle := Lib.hid hle
        replace hF := Lib.hid hF
        replace hd := Lib.hid hd
        clear ht hA hB b1 b2 b3 b4 b5
        have bx0 : ∀ W : World, W.heap.size = wr.heap.size → Reads (W.alloc (.cells #[.int .i64 (P : Int)] 3)) (wr.heap.size + 1) 1 (some ⟨wr.heap.size, 0, none⟩) 1 ([P].map iv) := by
          intro W hW
          have := reads_one W P
          rwa [hW] at this
        replace bx0 := Lib.hid bx0
        obtain ⟨ie, hie, hz0, hz1, hz2⟩ := eiI.info
        have one := Lib.hid (iv_one [P])
        have hlc : Fl.length ≤ 1073800000 := by have := hle.out; omega
        go_upto_region 7 with fail
        have cx := And.intro c0 (And.intro c8 (And.intro p2 cz))
        have r0' := (cel_alloc wr (.cells #[.int .i64 (P : Int)] 3) L.gr (k * 4) hg4).trans r0
        refine wp_region_noPanic ?_
        refine wp_region_held_drew (S := (fun w' => w'.cell? ⟨L.g, 0, none⟩ = some (.int .i64 (c.cf.ps : Int)) ∧ w'.cell? ⟨L.g, 8, none⟩ = some (.slice (some ⟨L.gs, 0, none⟩) c.nc L.sc) ∧ w'.cell? ⟨L.gp, i * 7 + 2, none⟩ = some (.int .i64 (k : Int)) ∧ w'.cell? ⟨L.gs, k, none⟩ = some (.int .i64 (c.sz k : Int)))) (by kernel_rfl) ?_ (fun hHeld => ?_)
        · (try dsimp only)
          (first | (go_keep; done) | exact ⟨(cel_alloc wr _ L.g 0 hg1).trans c0, (cel_alloc wr _ L.g 8 hg1).trans c8, (cel_alloc wr _ L.gp _ hg3).trans p2, (cel_alloc wr _ L.gs _ hg2).trans cz⟩ | exact ⟨d0, d8, d2, dz⟩ | exact ⟨(cel_set w3 _ y1).trans d0, (cel_set w3 _ y1).trans d8, (cel_set w3 _ y3).trans d2, (cel_set w3 _ y2).trans dz⟩)
        refine wpAnyH_take (i := 0) (oi := _) (v := ?_) rfl (by kernel_rfl) (by kernel_rfl) (by kernel_rfl) (fun _ _ _ h => h) (Or.inl ⟨by rfl, ?_⟩) (by assumption) ?_
        rotate_left
        · try simp only [List.getElem_toArray, List.getElem_cons_succ, List.getElem_cons_zero]
          intro w hSw
          (try dsimp only at hSw)
          go_simp
          (try with_reducible rfl)
        try simp only [List.getElem_toArray, List.getElem_cons_succ, List.getElem_cons_zero, Act.put, List.setIfInBounds_toArray, List.set_cons_zero, List.set_cons_succ]
        refine wpAnyH_take (i := 1) (oi := _) (v := ?_) rfl (by kernel_rfl) (by kernel_rfl) (by kernel_rfl) (fun _ _ _ h => h) (Or.inl ⟨by rfl, ?_⟩) (by assumption) ?_
        rotate_left
        · try simp only [List.getElem_toArray, List.getElem_cons_succ, List.getElem_cons_zero]
          intro w hSw
          (try dsimp only at hSw)
          go_simp
          (try with_reducible rfl)
        try simp only [List.getElem_toArray, List.getElem_cons_succ, List.getElem_cons_zero, Act.put, List.setIfInBounds_toArray, List.set_cons_zero, List.set_cons_succ]
        refine wpAnyH_take (i := 2) (oi := _) (v := ?_) rfl (by kernel_rfl) (by kernel_rfl) (by kernel_rfl) (fun _ _ _ h => h) (Or.inl ⟨by rfl, ?_⟩) (by assumption) ?_
        rotate_left
        · try simp only [List.getElem_toArray, List.getElem_cons_succ, List.getElem_cons_zero]
          intro w hSw
          (try dsimp only at hSw)
          go_simp
          (try with_reducible rfl)
        try simp only [List.getElem_toArray, List.getElem_cons_succ, List.getElem_cons_zero, Act.put, List.setIfInBounds_toArray, List.set_cons_zero, List.set_cons_succ]
        refine wpAnyH_take (i := 3) (oi := _) (v := ?_) rfl (by kernel_rfl) (by kernel_rfl) (by kernel_rfl) (fun _ _ _ h => h) (Or.inl ⟨by rfl, ?_⟩) (by assumption) ?_
        rotate_left
        · try simp only [List.getElem_toArray, List.getElem_cons_succ, List.getElem_cons_zero]
          intro w hSw
          (try dsimp only at hSw)
          go_simp
          (try with_reducible rfl)
        try simp only [List.getElem_toArray, List.getElem_cons_succ, List.getElem_cons_zero, Act.put, List.setIfInBounds_toArray, List.set_cons_zero, List.set_cons_succ]
        refine wpAnyH_take (i := 5) (oi := _) (v := ?_) rfl (by kernel_rfl) (by kernel_rfl) (by kernel_rfl) (fun _ _ _ h => h) (Or.inl ⟨by rfl, ?_⟩) (by assumption) ?_
        rotate_left
        · try simp only [List.getElem_toArray, List.getElem_cons_succ, List.getElem_cons_zero]
          intro w hSw
          (try dsimp only at hSw)
          go_simp
          (try with_reducible rfl)
        try simp only [List.getElem_toArray, List.getElem_cons_succ, List.getElem_cons_zero, Act.put, List.setIfInBounds_toArray, List.set_cons_zero, List.set_cons_succ]
        refine wpAnyH_take (i := 6) (oi := _) (v := ?_) rfl (by kernel_rfl) (by kernel_rfl) (by kernel_rfl) (fun _ _ _ h => h) (Or.inl ⟨by rfl, ?_⟩) (by assumption) ?_
        rotate_left
        · try simp only [List.getElem_toArray, List.getElem_cons_succ, List.getElem_cons_zero]
          intro w hSw
          (try dsimp only at hSw)
          go_simp
          (try with_reducible rfl)
        try simp only [List.getElem_toArray, List.getElem_cons_succ, List.getElem_cons_zero, Act.put, List.setIfInBounds_toArray, List.set_cons_zero, List.set_cons_succ]
        refine wpAnyH_take (i := 7) (oi := _) (v := ?_) rfl (by kernel_rfl) (by kernel_rfl) (by kernel_rfl) (fun _ _ _ h => h) (Or.inl ⟨by rfl, ?_⟩) (by assumption) ?_
        rotate_left
        · try simp only [List.getElem_toArray, List.getElem_cons_succ, List.getElem_cons_zero]
          intro w hSw
          (try dsimp only at hSw)
          go_simp
          (try with_reducible rfl)
        try simp only [List.getElem_toArray, List.getElem_cons_succ, List.getElem_cons_zero, Act.put, List.setIfInBounds_toArray, List.set_cons_zero, List.set_cons_succ]
        refine wpAnyH_take (i := 8) (oi := _) (v := ?_) rfl (by kernel_rfl) (by kernel_rfl) (by kernel_rfl) (fun _ _ _ h => h) (Or.inl ⟨by rfl, ?_⟩) (by assumption) ?_
        rotate_left
        · try simp only [List.getElem_toArray, List.getElem_cons_succ, List.getElem_cons_zero]
          intro w hSw
          (try dsimp only at hSw)
          go_simp
          (try with_reducible rfl)
        try simp only [List.getElem_toArray, List.getElem_cons_succ, List.getElem_cons_zero, Act.put, List.setIfInBounds_toArray, List.set_cons_zero, List.set_cons_succ]
        refine wpAnyH_take (i := 9) (oi := _) (v := ?_) rfl (by kernel_rfl) (by kernel_rfl) (by kernel_rfl) (fun _ _ _ h => h) (Or.inl ⟨by rfl, ?_⟩) (by assumption) ?_
        rotate_left
        · try simp only [List.getElem_toArray, List.getElem_cons_succ, List.getElem_cons_zero]
          intro w hSw
          (try dsimp only at hSw)
          go_simp
          (try with_reducible rfl)
        try simp only [List.getElem_toArray, List.getElem_cons_succ, List.getElem_cons_zero, Act.put, List.setIfInBounds_toArray, List.set_cons_zero, List.set_cons_succ]
        refine wpAnyH_take (i := 10) (oi := _) (v := ?_) rfl (by kernel_rfl) (by kernel_rfl) (by kernel_rfl) (fun _ _ _ h => h) (Or.inl ⟨by rfl, ?_⟩) (by assumption) ?_
        rotate_left
        · try simp only [List.getElem_toArray, List.getElem_cons_succ, List.getElem_cons_zero]
          intro w hSw
          (try dsimp only at hSw)
          go_simp
          (try with_reducible rfl)
        try simp only [List.getElem_toArray, List.getElem_cons_succ, List.getElem_cons_zero, Act.put, List.setIfInBounds_toArray, List.set_cons_zero, List.set_cons_succ]
        refine wpAnyH_take (i := 11) (oi := _) (v := ?_) rfl (by kernel_rfl) (by kernel_rfl) (by kernel_rfl) (fun _ _ _ h => h) (Or.inl ⟨by rfl, ?_⟩) (by assumption) ?_
        rotate_left
        · try simp only [List.getElem_toArray, List.getElem_cons_succ, List.getElem_cons_zero]
          intro w hSw
          (try dsimp only at hSw)
          go_simp
          (try with_reducible rfl)
        try simp only [List.getElem_toArray, List.getElem_cons_succ, List.getElem_cons_zero, Act.put, List.setIfInBounds_toArray, List.set_cons_zero, List.set_cons_succ]
        refine wpAnyH_take (i := 12) (oi := _) (v := ?_) rfl (by kernel_rfl) (by kernel_rfl) (by kernel_rfl) (fun _ _ _ h => h) (Or.inl ⟨by rfl, ?_⟩) (by assumption) ?_
        rotate_left
        · try simp only [List.getElem_toArray, List.getElem_cons_succ, List.getElem_cons_zero]
          intro w hSw
          (try dsimp only at hSw)
          go_simp
          (try with_reducible rfl)
        try simp only [List.getElem_toArray, List.getElem_cons_succ, List.getElem_cons_zero, Act.put, List.setIfInBounds_toArray, List.set_cons_zero, List.set_cons_succ]
        refine wpAnyH_take (i := 13) (oi := _) (v := ?_) rfl (by kernel_rfl) (by kernel_rfl) (by kernel_rfl) (fun _ _ _ h => h) (Or.inl ⟨by rfl, ?_⟩) (by assumption) ?_
        rotate_left
        · try simp only [List.getElem_toArray, List.getElem_cons_succ, List.getElem_cons_zero]
          intro w hSw
          (try dsimp only at hSw)
          go_simp
          (try with_reducible rfl)
        try simp only [List.getElem_toArray, List.getElem_cons_succ, List.getElem_cons_zero, Act.put, List.setIfInBounds_toArray, List.set_cons_zero, List.set_cons_succ]
        refine wpAnyH_take (i := 14) (oi := _) (v := ?_) rfl (by kernel_rfl) (by kernel_rfl) (by kernel_rfl) (fun _ _ _ h => h) (Or.inl ⟨by rfl, ?_⟩) (by assumption) ?_
        rotate_left
        · try simp only [List.getElem_toArray, List.getElem_cons_succ, List.getElem_cons_zero]
          intro w hSw
          (try dsimp only at hSw)
          go_simp
          (try with_reducible rfl)
        try simp only [List.getElem_toArray, List.getElem_cons_succ, List.getElem_cons_zero, Act.put, List.setIfInBounds_toArray, List.set_cons_zero, List.set_cons_succ]
        refine wpAnyH_take (i := 15) (oi := _) (v := ?_) rfl (by kernel_rfl) (by kernel_rfl) (by kernel_rfl) (fun _ _ _ h => h) (Or.inl ⟨by rfl, ?_⟩) (by assumption) ?_
        rotate_left
        · try simp only [List.getElem_toArray, List.getElem_cons_succ, List.getElem_cons_zero]
          intro w hSw
          (try dsimp only at hSw)
          go_simp
          (try with_reducible rfl)
        try simp only [List.getElem_toArray, List.getElem_cons_succ, List.getElem_cons_zero, Act.put, List.setIfInBounds_toArray, List.set_cons_zero, List.set_cons_succ]
        refine wpAnyH_take (i := 16) (oi := _) (v := ?_) rfl (by kernel_rfl) (by kernel_rfl) (by kernel_rfl) (fun _ _ _ h => h) (Or.inl ⟨by rfl, ?_⟩) (by assumption) ?_
        rotate_left
        · try simp only [List.getElem_toArray, List.getElem_cons_succ, List.getElem_cons_zero]
          intro w hSw
          (try dsimp only at hSw)
          go_simp
          (try with_reducible rfl)
        try simp only [List.getElem_toArray, List.getElem_cons_succ, List.getElem_cons_zero, Act.put, List.setIfInBounds_toArray, List.set_cons_zero, List.set_cons_succ]
        refine wpAnyH_take (i := 17) (oi := _) (v := ?_) rfl (by kernel_rfl) (by kernel_rfl) (by kernel_rfl) (fun _ _ _ h => h) (Or.inl ⟨by rfl, ?_⟩) (by assumption) ?_
        rotate_left
        · try simp only [List.getElem_toArray, List.getElem_cons_succ, List.getElem_cons_zero]
          intro w hSw
          (try dsimp only at hSw)
          go_simp
          (try with_reducible rfl)
        try simp only [List.getElem_toArray, List.getElem_cons_succ, List.getElem_cons_zero, Act.put, List.setIfInBounds_toArray, List.set_cons_zero, List.set_cons_succ]
        refine wpAnyH_take (i := 18) (oi := _) (v := ?_) rfl (by kernel_rfl) (by kernel_rfl) (by kernel_rfl) (fun _ _ _ h => h) (Or.inl ⟨by rfl, ?_⟩) (by assumption) ?_
        rotate_left
        · try simp only [List.getElem_toArray, List.getElem_cons_succ, List.getElem_cons_zero]
          intro w hSw
          (try dsimp only at hSw)
          go_simp
          (try with_reducible rfl)
        try simp only [List.getElem_toArray, List.getElem_cons_succ, List.getElem_cons_zero, Act.put, List.setIfInBounds_toArray, List.set_cons_zero, List.set_cons_succ]
        refine wpAnyH_take (i := 19) (oi := _) (v := ?_) rfl (by kernel_rfl) (by kernel_rfl) (by kernel_rfl) (fun _ _ _ h => h) (Or.inl ⟨by rfl, ?_⟩) (by assumption) ?_
        rotate_left
        · try simp only [List.getElem_toArray, List.getElem_cons_succ, List.getElem_cons_zero]
          intro w hSw
          (try dsimp only at hSw)
          go_simp
          (try with_reducible rfl)
        try simp only [List.getElem_toArray, List.getElem_cons_succ, List.getElem_cons_zero, Act.put, List.setIfInBounds_toArray, List.set_cons_zero, List.set_cons_succ]
        refine wpAnyH_take (i := 20) (oi := _) (v := ?_) rfl (by kernel_rfl) (by kernel_rfl) (by kernel_rfl) (fun _ _ _ h => h) (Or.inl ⟨by rfl, ?_⟩) (by assumption) ?_
        rotate_left
        · try simp only [List.getElem_toArray, List.getElem_cons_succ, List.getElem_cons_zero]
          intro w hSw
          (try dsimp only at hSw)
          go_simp
          (try with_reducible rfl)
        try simp only [List.getElem_toArray, List.getElem_cons_succ, List.getElem_cons_zero, Act.put, List.setIfInBounds_toArray, List.set_cons_zero, List.set_cons_succ]
        refine wpAnyH_take (i := 21) (oi := _) (v := ?_) rfl (by kernel_rfl) (by kernel_rfl) (by kernel_rfl) (fun _ _ _ h => h) (Or.inl ⟨by rfl, ?_⟩) (by assumption) ?_
        rotate_left
        · try simp only [List.getElem_toArray, List.getElem_cons_succ, List.getElem_cons_zero]
          intro w hSw
          (try dsimp only at hSw)
          go_simp
          (try with_reducible rfl)
        try simp only [List.getElem_toArray, List.getElem_cons_succ, List.getElem_cons_zero, Act.put, List.setIfInBounds_toArray, List.set_cons_zero, List.set_cons_succ]
        refine wpAnyH_take (i := 22) (oi := _) (v := ?_) rfl (by kernel_rfl) (by kernel_rfl) (by kernel_rfl) (fun _ _ _ h => h) (Or.inl ⟨by rfl, ?_⟩) (by assumption) ?_
        rotate_left
        · try simp only [List.getElem_toArray, List.getElem_cons_succ, List.getElem_cons_zero]
          intro w hSw
          (try dsimp only at hSw)
          go_simp
          (try with_reducible rfl)
        try simp only [List.getElem_toArray, List.getElem_cons_succ, List.getElem_cons_zero, Act.put, List.setIfInBounds_toArray, List.set_cons_zero, List.set_cons_succ]
        refine wpAnyH_take (i := 23) (oi := _) (v := ?_) rfl (by kernel_rfl) (by kernel_rfl) (by kernel_rfl) (fun _ _ _ h => h) (Or.inl ⟨by rfl, ?_⟩) (by assumption) ?_
        rotate_left
        · try simp only [List.getElem_toArray, List.getElem_cons_succ, List.getElem_cons_zero]
          intro w hSw
          (try dsimp only at hSw)
          go_simp
          (try with_reducible rfl)
        try simp only [List.getElem_toArray, List.getElem_cons_succ, List.getElem_cons_zero, Act.put, List.setIfInBounds_toArray, List.set_cons_zero, List.set_cons_succ]
        refine wpAnyH_take (i := 24) (oi := _) (v := ?_) rfl (by kernel_rfl) (by kernel_rfl) (by kernel_rfl) (fun _ _ _ h => h) (Or.inl ⟨by rfl, ?_⟩) (by assumption) ?_
        rotate_left
        · try simp only [List.getElem_toArray, List.getElem_cons_succ, List.getElem_cons_zero]
          intro w hSw
          (try dsimp only at hSw)
          go_simp
          (try with_reducible rfl)
        try simp only [List.getElem_toArray, List.getElem_cons_succ, List.getElem_cons_zero, Act.put, List.setIfInBounds_toArray, List.set_cons_zero, List.set_cons_succ]
        refine wpAnyH_ready (rs := [4, 25]) (by kernel_rfl) (by simp) ?_
        refine AllReadyH.cons (o := _) rfl (fun K hK => ?_) (AllReadyH.cons (o := _) rfl (fun K hK => ?_) AllReadyH.nil)
        · try simp only [List.getElem_toArray, List.getElem_cons_succ, List.getElem_cons_zero]
          go_simp
          refine hK.out _ _ ?_ (fun hHeld26 => ?_)
          · (try dsimp only)
            (first | (go_keep; done) | exact ⟨(cel_alloc wr _ L.g 0 hg1).trans c0, (cel_alloc wr _ L.g 8 hg1).trans c8, (cel_alloc wr _ L.gp _ hg3).trans p2, (cel_alloc wr _ L.gs _ hg2).trans cz⟩ | exact ⟨d0, d8, d2, dz⟩ | exact ⟨(cel_set w3 _ y1).trans d0, (cel_set w3 _ y1).trans d8, (cel_set w3 _ y3).trans d2, (cel_set w3 _ y2).trans dz⟩)
          clear hK K
          try simp only [List.getElem_toArray, List.getElem_cons_succ, List.getElem_cons_zero, Act.put, List.setIfInBounds_toArray, List.set_cons_zero, List.set_cons_succ]
          refine wpAnyH_ready (rs := [25]) (by kernel_rfl) (by simp) ?_
          refine AllReadyH.cons (o := _) rfl (fun K hK => ?_) AllReadyH.nil
          try simp only [List.getElem_toArray, List.getElem_cons_succ, List.getElem_cons_zero]
          go_simp
          refine hK.out _ _ ?_ (fun hHeld27 => ?_)
          · (try dsimp only)
            (first | (go_keep; done) | exact ⟨(cel_alloc wr _ L.g 0 hg1).trans c0, (cel_alloc wr _ L.g 8 hg1).trans c8, (cel_alloc wr _ L.gp _ hg3).trans p2, (cel_alloc wr _ L.gs _ hg2).trans cz⟩ | exact ⟨d0, d8, d2, dz⟩ | exact ⟨(cel_set w3 _ y1).trans d0, (cel_set w3 _ y1).trans d8, (cel_set w3 _ y3).trans d2, (cel_set w3 _ y2).trans dz⟩)
          clear hK K
          try simp only [List.getElem_toArray, List.getElem_cons_succ, List.getElem_cons_zero, Act.put, List.setIfInBounds_toArray, List.set_cons_zero, List.set_cons_succ]
          refine wpAnyH_ready (rs := [26]) (by kernel_rfl) (by simp) ?_
          refine AllReadyH.cons (o := _) rfl (fun K hK => ?_) AllReadyH.nil
          try simp only [List.getElem_toArray, List.getElem_cons_succ, List.getElem_cons_zero]
          rw [if_pos (by simp [Region.wanted])]
          ((refine wp_append_new (ops := #[]) _ (by rfl) _ _ _ (by rfl) 0 3 ie _ 1 8 Tryz.underlying55 hie hz0 hz1 hz2 rfl (by decide) x Fl.length (Fl.map iv) (by rfl) (own.alloc _) (wr.heap.size + 1) (some ⟨wr.heap.size, 0, none⟩) 1 1 ([P].map iv) (by rfl) (bx0.out _ (by simp)) one.out (by unfold maxLen; omega) (by omega) (Nat.zero_le _) (by omega) ?_; intro b3 c3 w3 own3 hgrow hat3 hlt3; have r1 : w3.frozen? ⟨L.gr, k * 4, none⟩ = false := (hgrow.frozen_far _ (by simp; omega) x4).trans ((frz_alloc wr _ L.gr (k * 4) hg4).trans z0); have r2 : w3.cell? ⟨L.gr, k * 4, none⟩ = some x := (hgrow.cell_far _ (by simp; omega) x4).trans ((cel_alloc wr _ L.gr (k * 4) hg4).trans r0); have d0 : w3.cell? ⟨L.g, 0, none⟩ = some (.int .i64 (c.cf.ps : Int)) := (hgrow.cell_far _ (by simp; omega) x1).trans ((cel_alloc wr _ L.g 0 hg1).trans c0); have d8 : w3.cell? ⟨L.g, 8, none⟩ = some (.slice (some ⟨L.gs, 0, none⟩) c.nc L.sc) := (hgrow.cell_far _ (by simp; omega) x1).trans ((cel_alloc wr _ L.g 8 hg1).trans c8); have d2 : w3.cell? ⟨L.gp, i * 7 + 2, none⟩ = some (.int .i64 (k : Int)) := (hgrow.cell_far _ (by simp; omega) x3).trans ((cel_alloc wr _ L.gp _ hg3).trans p2); have dz : w3.cell? ⟨L.gs, k, none⟩ = some (.int .i64 (c.sz k : Int)) := (hgrow.cell_far _ (by simp; omega) x2).trans ((cel_alloc wr _ L.gs _ hg2).trans cz)))
          refine hK.out _ _ ?_ (fun hHeld29 => ?_)
          · (try dsimp only)
            (first | (go_keep; done) | exact ⟨(cel_alloc wr _ L.g 0 hg1).trans c0, (cel_alloc wr _ L.g 8 hg1).trans c8, (cel_alloc wr _ L.gp _ hg3).trans p2, (cel_alloc wr _ L.gs _ hg2).trans cz⟩ | exact ⟨d0, d8, d2, dz⟩ | exact ⟨(cel_set w3 _ y1).trans d0, (cel_set w3 _ y1).trans d8, (cel_set w3 _ y3).trans d2, (cel_set w3 _ y2).trans dz⟩)
          clear hK K
          try simp only [List.getElem_toArray, List.getElem_cons_succ, List.getElem_cons_zero, Act.put, List.setIfInBounds_toArray, List.set_cons_zero, List.set_cons_succ]
          refine wpAnyH_take (i := 27) (oi := _) (v := ?_) rfl (by kernel_rfl) (by kernel_rfl) (by kernel_rfl) (fun _ _ _ h => h) (Or.inl ⟨by rfl, ?_⟩) (by assumption) ?_
          rotate_left
          · try simp only [List.getElem_toArray, List.getElem_cons_succ, List.getElem_cons_zero]
            intro w hSw
            (try dsimp only at hSw)
            go_simp
            (try with_reducible rfl)
          try simp only [List.getElem_toArray, List.getElem_cons_succ, List.getElem_cons_zero, Act.put, List.setIfInBounds_toArray, List.set_cons_zero, List.set_cons_succ]
          refine wpAnyH_take (i := 28) (oi := _) (v := ?_) rfl (by kernel_rfl) (by kernel_rfl) (by kernel_rfl) (fun _ _ _ h => h) (Or.inl ⟨by rfl, ?_⟩) (by assumption) ?_
          rotate_left
          · try simp only [List.getElem_toArray, List.getElem_cons_succ, List.getElem_cons_zero]
            intro w hSw
            (try dsimp only at hSw)
            go_simp
            (try with_reducible rfl)
          try simp only [List.getElem_toArray, List.getElem_cons_succ, List.getElem_cons_zero, Act.put, List.setIfInBounds_toArray, List.set_cons_zero, List.set_cons_succ]
          refine wpAnyH_ready (rs := [29]) (by kernel_rfl) (by simp) ?_
          refine AllReadyH.cons (o := _) rfl (fun K hK => ?_) AllReadyH.nil
          try simp only [List.getElem_toArray, List.getElem_cons_succ, List.getElem_cons_zero]
          go_simp
          refine hK.out _ _ ?_ (fun hHeld32 => ?_)
          · (try dsimp only)
            (first | (go_keep; done) | exact ⟨(cel_alloc wr _ L.g 0 hg1).trans c0, (cel_alloc wr _ L.g 8 hg1).trans c8, (cel_alloc wr _ L.gp _ hg3).trans p2, (cel_alloc wr _ L.gs _ hg2).trans cz⟩ | exact ⟨d0, d8, d2, dz⟩ | exact ⟨(cel_set w3 _ y1).trans d0, (cel_set w3 _ y1).trans d8, (cel_set w3 _ y3).trans d2, (cel_set w3 _ y2).trans dz⟩)
          clear hK K
          try simp only [List.getElem_toArray, List.getElem_cons_succ, List.getElem_cons_zero, Act.put, List.setIfInBounds_toArray, List.set_cons_zero, List.set_cons_succ]
          refine wpAnyH_done (by kernel_rfl) ?_ _
          refine NoPanic.normal ?_
          have G : SetAt (w3.setCell ⟨L.gr, k * 4, none⟩ (.slice (some ⟨b3, 0, none⟩) (Fl.length + 1) c3)) { L with F := upd L.F k (.slice (some ⟨b3, 0, none⟩) (Fl.length + 1) c3) } c { s with rs := upd s.rs k (s.rs k + 1), free := upd s.free k (s.free k ++ (done ++ [P])) } bs := by
            have := HR.out.setFree (S := fun b => x.ownBlock = some b) k hk (.slice (some ⟨b3, 0, none⟩) (Fl.length + 1) c3) (Fl ++ [P]) w3 (((Only.refl _ wr).alloc _).drew.grown hgrow (fun k e _ => e)) (fun b e _ => (congrArg Value.ownBlock (upd_at L.F k x)).trans e)
              (by rw [List.length_append, List.map_append]; exact own3) (fun b e => by
                have e2 : b3 = b := by simpa [Value.ownBlock] using e
                subst e2
                rcases hat3 with h3 | h3
                · exact .inl ((congrArg Value.ownBlock (upd_at L.F k x)).trans h3)
                · exact .inr (by rw [h3]; simp))
            simp only [upd_upd] at this
            rw [← List.append_assoc, hF.out]
            exact this
          have WG : Went w (w3.setCell ⟨L.gr, k * 4, none⟩ (.slice (some ⟨b3, 0, none⟩) (Fl.length + 1) c3)) L { L with F := upd L.F k (.slice (some ⟨b3, 0, none⟩) (Fl.length + 1) c3) } c s { s with rs := upd s.rs k (s.rs k + 1), free := upd s.free k (s.free k ++ (done ++ [P])) } := by
            refine WR.out.trans ⟨((((Only.refl _ wr).alloc _).drew.grown hgrow (fun j e _ => ⟨.free k, by rw [Lay.blk, if_pos (show k < c.cf.nc from hk)]; exact (congrArg Value.ownBlock (upd_at L.F k x)).trans e⟩)).setCell (fun _ => ⟨.rows, rfl⟩) _), fun b hb => ?_⟩
            obtain ⟨p, hp⟩ := hb
            by_cases hpk : p = .free k
            · subst hpk
              rw [Lay.blk, if_pos (show k < c.cf.nc from hk)] at hp
              have e2 : b3 = b := by
                have hp' : (upd L.F k (Value.slice (some ⟨b3, 0, none⟩) (Fl.length + 1) c3) k).ownBlock = some b := hp
                rw [upd_at] at hp'
                simpa [Value.ownBlock] using hp'
              subst e2
              rcases hat3 with h3 | h3
              · exact .inl ⟨.free k, by rw [Lay.blk, if_pos (show k < c.cf.nc from hk)]; exact (congrArg Value.ownBlock (upd_at L.F k x)).trans h3⟩
              · exact .inr (by rw [h3]; simp)
            · refine .inl ⟨p, ?_⟩
              cases p with
              | free j =>
                have hj : j ≠ k := fun e => hpk (by rw [e])
                by_cases hjn : j < c.cf.nc
                · rw [Lay.blk, if_pos hjn] at hp ⊢
                  have hp' : (upd L.F k (Value.slice (some ⟨b3, 0, none⟩) (Fl.length + 1) c3) j).ownBlock = some b := hp
                  show (upd L.F k x j).ownBlock = some b
                  rw [upd_ne _ _ hj] at hp' ⊢
                  exact hp'
                · rw [Lay.blk, if_neg hjn] at hp; cases hp
              | _ => exact hp
          obtain ⟨w4, hw4⟩ : ∃ w4, w4 = w3.setCell ⟨L.gr, k * 4, none⟩ (.slice (some ⟨b3, 0, none⟩) (Fl.length + 1) c3) := ⟨_, rfl⟩
          rw [← hw4] at G WG ⊢
          replace G := Lib.hid G
          replace WG := Lib.hid WG
          clear hw4 r1 r2 d0 d8 d2 dz own3 hgrow hat3 hlt3 c0 c8 p2 cz r0 r0' z0 own p4 tk cx bx0 one
          go_wp2
          go_roundw
          case rel => exact ⟨m, _, _, rfl, by omega, hd', G, WG⟩
          case measure => simp [intOf] <;> omega
        · try simp only [List.getElem_toArray, List.getElem_cons_succ, List.getElem_cons_zero]
          go_simp
          refine hK.out _ _ ?_ (fun hHeld33 => ?_)
          · (try dsimp only)
            (first | (go_keep; done) | exact ⟨(cel_alloc wr _ L.g 0 hg1).trans c0, (cel_alloc wr _ L.g 8 hg1).trans c8, (cel_alloc wr _ L.gp _ hg3).trans p2, (cel_alloc wr _ L.gs _ hg2).trans cz⟩ | exact ⟨d0, d8, d2, dz⟩ | exact ⟨(cel_set w3 _ y1).trans d0, (cel_set w3 _ y1).trans d8, (cel_set w3 _ y3).trans d2, (cel_set w3 _ y2).trans dz⟩)
          clear hK K
          try simp only [List.getElem_toArray, List.getElem_cons_succ, List.getElem_cons_zero, Act.put, List.setIfInBounds_toArray, List.set_cons_zero, List.set_cons_succ]
          refine wpAnyH_ready (rs := [4]) (by kernel_rfl) (by simp) ?_
          refine AllReadyH.cons (o := _) rfl (fun K hK => ?_) AllReadyH.nil
          try simp only [List.getElem_toArray, List.getElem_cons_succ, List.getElem_cons_zero]
          go_simp
          refine hK.out _ _ ?_ (fun hHeld34 => ?_)
          · (try dsimp only)
            (first | (go_keep; done) | exact ⟨(cel_alloc wr _ L.g 0 hg1).trans c0, (cel_alloc wr _ L.g 8 hg1).trans c8, (cel_alloc wr _ L.gp _ hg3).trans p2, (cel_alloc wr _ L.gs _ hg2).trans cz⟩ | exact ⟨d0, d8, d2, dz⟩ | exact ⟨(cel_set w3 _ y1).trans d0, (cel_set w3 _ y1).trans d8, (cel_set w3 _ y3).trans d2, (cel_set w3 _ y2).trans dz⟩)
          clear hK K
          try simp only [List.getElem_toArray, List.getElem_cons_succ, List.getElem_cons_zero, Act.put, List.setIfInBounds_toArray, List.set_cons_zero, List.set_cons_succ]
          refine wpAnyH_ready (rs := [26]) (by kernel_rfl) (by simp) ?_
          refine AllReadyH.cons (o := _) rfl (fun K hK => ?_) AllReadyH.nil
          try simp only [List.getElem_toArray, List.getElem_cons_succ, List.getElem_cons_zero]
          rw [if_pos (by simp [Region.wanted])]
          ((refine wp_append_new (ops := #[]) _ (by rfl) _ _ _ (by rfl) 0 3 ie _ 1 8 Tryz.underlying55 hie hz0 hz1 hz2 rfl (by decide) x Fl.length (Fl.map iv) (by rfl) (own.alloc _) (wr.heap.size + 1) (some ⟨wr.heap.size, 0, none⟩) 1 1 ([P].map iv) (by rfl) (bx0.out _ (by simp)) one.out (by unfold maxLen; omega) (by omega) (Nat.zero_le _) (by omega) ?_; intro b3 c3 w3 own3 hgrow hat3 hlt3; have r1 : w3.frozen? ⟨L.gr, k * 4, none⟩ = false := (hgrow.frozen_far _ (by simp; omega) x4).trans ((frz_alloc wr _ L.gr (k * 4) hg4).trans z0); have r2 : w3.cell? ⟨L.gr, k * 4, none⟩ = some x := (hgrow.cell_far _ (by simp; omega) x4).trans ((cel_alloc wr _ L.gr (k * 4) hg4).trans r0); have d0 : w3.cell? ⟨L.g, 0, none⟩ = some (.int .i64 (c.cf.ps : Int)) := (hgrow.cell_far _ (by simp; omega) x1).trans ((cel_alloc wr _ L.g 0 hg1).trans c0); have d8 : w3.cell? ⟨L.g, 8, none⟩ = some (.slice (some ⟨L.gs, 0, none⟩) c.nc L.sc) := (hgrow.cell_far _ (by simp; omega) x1).trans ((cel_alloc wr _ L.g 8 hg1).trans c8); have d2 : w3.cell? ⟨L.gp, i * 7 + 2, none⟩ = some (.int .i64 (k : Int)) := (hgrow.cell_far _ (by simp; omega) x3).trans ((cel_alloc wr _ L.gp _ hg3).trans p2); have dz : w3.cell? ⟨L.gs, k, none⟩ = some (.int .i64 (c.sz k : Int)) := (hgrow.cell_far _ (by simp; omega) x2).trans ((cel_alloc wr _ L.gs _ hg2).trans cz)))
          refine hK.out _ _ ?_ (fun hHeld36 => ?_)
          · (try dsimp only)
            (first | (go_keep; done) | exact ⟨(cel_alloc wr _ L.g 0 hg1).trans c0, (cel_alloc wr _ L.g 8 hg1).trans c8, (cel_alloc wr _ L.gp _ hg3).trans p2, (cel_alloc wr _ L.gs _ hg2).trans cz⟩ | exact ⟨d0, d8, d2, dz⟩ | exact ⟨(cel_set w3 _ y1).trans d0, (cel_set w3 _ y1).trans d8, (cel_set w3 _ y3).trans d2, (cel_set w3 _ y2).trans dz⟩)
          clear hK K
          try simp only [List.getElem_toArray, List.getElem_cons_succ, List.getElem_cons_zero, Act.put, List.setIfInBounds_toArray, List.set_cons_zero, List.set_cons_succ]
          refine wpAnyH_take (i := 27) (oi := _) (v := ?_) rfl (by kernel_rfl) (by kernel_rfl) (by kernel_rfl) (fun _ _ _ h => h) (Or.inl ⟨by rfl, ?_⟩) (by assumption) ?_
          rotate_left
          · try simp only [List.getElem_toArray, List.getElem_cons_succ, List.getElem_cons_zero]
            intro w hSw
            (try dsimp only at hSw)
            go_simp
            (try with_reducible rfl)
          try simp only [List.getElem_toArray, List.getElem_cons_succ, List.getElem_cons_zero, Act.put, List.setIfInBounds_toArray, List.set_cons_zero, List.set_cons_succ]
          refine wpAnyH_take (i := 28) (oi := _) (v := ?_) rfl (by kernel_rfl) (by kernel_rfl) (by kernel_rfl) (fun _ _ _ h => h) (Or.inl ⟨by rfl, ?_⟩) (by assumption) ?_
          rotate_left
          · try simp only [List.getElem_toArray, List.getElem_cons_succ, List.getElem_cons_zero]
            intro w hSw
            (try dsimp only at hSw)
            go_simp
            (try with_reducible rfl)
          try simp only [List.getElem_toArray, List.getElem_cons_succ, List.getElem_cons_zero, Act.put, List.setIfInBounds_toArray, List.set_cons_zero, List.set_cons_succ]
          refine wpAnyH_ready (rs := [29]) (by kernel_rfl) (by simp) ?_
          refine AllReadyH.cons (o := _) rfl (fun K hK => ?_) AllReadyH.nil
          try simp only [List.getElem_toArray, List.getElem_cons_succ, List.getElem_cons_zero]
          go_simp
          refine hK.out _ _ ?_ (fun hHeld39 => ?_)
          · (try dsimp only)
            (first | (go_keep; done) | exact ⟨(cel_alloc wr _ L.g 0 hg1).trans c0, (cel_alloc wr _ L.g 8 hg1).trans c8, (cel_alloc wr _ L.gp _ hg3).trans p2, (cel_alloc wr _ L.gs _ hg2).trans cz⟩ | exact ⟨d0, d8, d2, dz⟩ | exact ⟨(cel_set w3 _ y1).trans d0, (cel_set w3 _ y1).trans d8, (cel_set w3 _ y3).trans d2, (cel_set w3 _ y2).trans dz⟩)
          clear hK K
          try simp only [List.getElem_toArray, List.getElem_cons_succ, List.getElem_cons_zero, Act.put, List.setIfInBounds_toArray, List.set_cons_zero, List.set_cons_succ]
          refine wpAnyH_done (by kernel_rfl) ?_ _
          refine NoPanic.normal ?_
          have G : SetAt (w3.setCell ⟨L.gr, k * 4, none⟩ (.slice (some ⟨b3, 0, none⟩) (Fl.length + 1) c3)) { L with F := upd L.F k (.slice (some ⟨b3, 0, none⟩) (Fl.length + 1) c3) } c { s with rs := upd s.rs k (s.rs k + 1), free := upd s.free k (s.free k ++ (done ++ [P])) } bs := by
            have := HR.out.setFree (S := fun b => x.ownBlock = some b) k hk (.slice (some ⟨b3, 0, none⟩) (Fl.length + 1) c3) (Fl ++ [P]) w3 (((Only.refl _ wr).alloc _).drew.grown hgrow (fun k e _ => e)) (fun b e _ => (congrArg Value.ownBlock (upd_at L.F k x)).trans e)
              (by rw [List.length_append, List.map_append]; exact own3) (fun b e => by
                have e2 : b3 = b := by simpa [Value.ownBlock] using e
                subst e2
                rcases hat3 with h3 | h3
                · exact .inl ((congrArg Value.ownBlock (upd_at L.F k x)).trans h3)
                · exact .inr (by rw [h3]; simp))
            simp only [upd_upd] at this
            rw [← List.append_assoc, hF.out]
            exact this
          have WG : Went w (w3.setCell ⟨L.gr, k * 4, none⟩ (.slice (some ⟨b3, 0, none⟩) (Fl.length + 1) c3)) L { L with F := upd L.F k (.slice (some ⟨b3, 0, none⟩) (Fl.length + 1) c3) } c s { s with rs := upd s.rs k (s.rs k + 1), free := upd s.free k (s.free k ++ (done ++ [P])) } := by
            refine WR.out.trans ⟨((((Only.refl _ wr).alloc _).drew.grown hgrow (fun j e _ => ⟨.free k, by rw [Lay.blk, if_pos (show k < c.cf.nc from hk)]; exact (congrArg Value.ownBlock (upd_at L.F k x)).trans e⟩)).setCell (fun _ => ⟨.rows, rfl⟩) _), fun b hb => ?_⟩
            obtain ⟨p, hp⟩ := hb
            by_cases hpk : p = .free k
            · subst hpk
              rw [Lay.blk, if_pos (show k < c.cf.nc from hk)] at hp
              have e2 : b3 = b := by
                have hp' : (upd L.F k (Value.slice (some ⟨b3, 0, none⟩) (Fl.length + 1) c3) k).ownBlock = some b := hp
                rw [upd_at] at hp'
                simpa [Value.ownBlock] using hp'
              subst e2
              rcases hat3 with h3 | h3
              · exact .inl ⟨.free k, by rw [Lay.blk, if_pos (show k < c.cf.nc from hk)]; exact (congrArg Value.ownBlock (upd_at L.F k x)).trans h3⟩
              · exact .inr (by rw [h3]; simp)
            · refine .inl ⟨p, ?_⟩
              cases p with
              | free j =>
                have hj : j ≠ k := fun e => hpk (by rw [e])
                by_cases hjn : j < c.cf.nc
                · rw [Lay.blk, if_pos hjn] at hp ⊢
                  have hp' : (upd L.F k (Value.slice (some ⟨b3, 0, none⟩) (Fl.length + 1) c3) j).ownBlock = some b := hp
                  show (upd L.F k x j).ownBlock = some b
                  rw [upd_ne _ _ hj] at hp' ⊢
                  exact hp'
                · rw [Lay.blk, if_neg hjn] at hp; cases hp
              | _ => exact hp
          obtain ⟨w4, hw4⟩ : ∃ w4, w4 = w3.setCell ⟨L.gr, k * 4, none⟩ (.slice (some ⟨b3, 0, none⟩) (Fl.length + 1) c3) := ⟨_, rfl⟩
          rw [← hw4] at G WG ⊢
          replace G := Lib.hid G
          replace WG := Lib.hid WG
          clear hw4 r1 r2 d0 d8 d2 dz own3 hgrow hat3 hlt3 c0 c8 p2 cz r0 r0' z0 own p4 tk cx bx0 one
          go_wp2
          go_roundw
          case rel => exact ⟨m, _, _, rfl, by omega, hd', G, WG⟩
          case measure => simp [intOf] <;> omega
end Go.Proofs.YtfjiphibalhcgaaGreat.Cls
/-
  The walk of widen: the lowest free page becomes a class's.
-/
namespace Go.Proofs.YtfjiphibalhcgaaGreat.Cls
open Go.RowKit Base MapG
set_option linter.unusedVariables false

theorem eiU : EI Tryz.prog 159 165 (.int .u32 0) 1 4 := EI.mk' Tryz.underlying159 (by kernel_rfl) rfl (by decide)
theorem eiB : EI Tryz.prog 61 4 (.bool false) 1 1 := EI.mk' Tryz.underlying61 (by kernel_rfl) rfl (by decide)
theorem Grid.made1 (w : World) (e : TypeId) (z : Value) (n : Nat) (hz : z.cells = #[z]) : Grid (w.alloc (.cells (madeCells z.cells (n * 1)) e)) w.heap.size e n 1 (fun _ _ => z) := by
  have hb := Blk.new w e (madeCells z.cells (n * 1))
  refine ⟨⟨_, hb⟩, fun i j hi hj => ?_⟩
  obtain rfl : j = 0 := by omega
  rw [hb.cell, hz, Arena.made_one]
  simp [hi]
theorem look_nil (w : World) (x : Nat) : (Instr.lookup 160 (.map none) (.int .i64 (x : Int)) false).run Tryz.prog w = .ok (.int .u32 0) w := by kernel_rfl
set_option maxRecDepth 100000 in
theorem OldAt.look {w : World} {O : Option Nat} {n : Nat} {f : Nat → Nat} (h : OldAt w O n f) (x : Nat) (hx : x < M63) : (Instr.lookup 160 (.map O) (.int .i64 (x : Int)) false).run Tryz.prog w = .ok (.int .u32 (f x : Int)) w := by
  cases O with
  | none =>
    rw [h.2 x]
    exact look_nil w x
  | some b =>
    obtain ⟨p, ⟨D, h1, hD, h2⟩, h3⟩ := h
    obtain ⟨c, hrun, hat, hwc⟩ := h1.lookup_int keyedH Tryz.underlying160 Tryz.underlying165 (zeroInt w) (key_of hx)
    have e := (h2 x).2
    rw [show vl 0 = (.lit (.int .u32 0) : DataW Unit) from rfl, hat] at e
    unfold vl at e
    injection e with e
    injection e with _ e
    rw [hrun, e, h3]
/-- A page is a class's, its generations and marks two new blocks of zeros. -/
def freshS (s : St) (k i : Nat) : St := { s with own := upd s.own i true, cls := upd s.cls i k, gens := upd s.gens i (fun _ => 0), tkn := upd s.tkn i (fun _ => false) }
theorem SetAt.widen {w w' : World} {L : Lay} {c : Conf} {s : St} {bs : List UInt8} (h : SetAt w L c s bs) (k i a b : Nat) (hi : i < c.cf.np) (hoi : s.own i = false) (o : Only (· = L.gp) w w')
    (hp : Grid w' L.gp 162 c.cf.np 7 (put2 (put2 (put2 (put2 (pv c.cf L s) i 0 (.bool true)) i 2 (.int .i64 (k : Int))) i 3 (.slice (some ⟨a, 0, none⟩) (c.cf.n k) (c.cf.n k))) i 4 (.slice (some ⟨b, 0, none⟩) (c.cf.n k) (c.cf.n k))))
    (hA : Grid w' a 165 (c.cf.n k) 1 (fun _ _ => .int .u32 0)) (hB : Grid w' b 4 (c.cf.n k) 1 (fun _ _ => .bool false)) (ha : w.heap.size ≤ a) (hb : w.heap.size ≤ b) :
    SetAt w' { L with G := upd L.G i a, T := upd L.T i b } c (freshS s k i) bs ∧ Went w w' L { L with G := upd L.G i a, T := upd L.T i b } c s (freshS s k i) := by
  have hab : a ≠ b := ne_ty hA.blk hB.blk (by decide)
  have hat : ∀ q, ¬ (q = Part.pages ∨ q = .gens i ∨ q = .tkn i) → ∀ b', Lay.blk { L with G := upd L.G i a, T := upd L.T i b } c.cf (freshS s k i) q = some b' → L.blk c.cf s q = some b' := by
    intro q hq b' e
    cases q with
    | gens j =>
      have hj : j ≠ i := fun e => hq (.inr (.inl (by rw [e])))
      have e' : (if j < c.cf.np ∧ upd s.own i true j = true then some (upd L.G i a j) else none) = some b' := e
      rw [upd_ne _ _ hj, upd_ne _ _ hj] at e'
      exact e'
    | tkn j =>
      have hj : j ≠ i := fun e => hq (.inr (.inr (by rw [e])))
      have e' : (if j < c.cf.np ∧ upd s.own i true j = true then some (upd L.T i b j) else none) = some b' := e
      rw [upd_ne _ _ hj, upd_ne _ _ hj] at e'
      exact e'
    | pages => exact absurd (.inl rfl) hq
    | _ => exact e
  have e1 : Lay.blk { L with G := upd L.G i a, T := upd L.T i b } c.cf (freshS s k i) (.gens i) = some a := by
    show (if i < c.cf.np ∧ upd s.own i true i = true then some (upd L.G i a i) else none) = some a
    rw [upd_at, upd_at, if_pos ⟨hi, rfl⟩]
  have e2 : Lay.blk { L with G := upd L.G i a, T := upd L.T i b } c.cf (freshS s k i) (.tkn i) = some b := by
    show (if i < c.cf.np ∧ upd s.own i true i = true then some (upd L.T i b i) else none) = some b
    rw [upd_at, upd_at, if_pos ⟨hi, rfl⟩]
  have hpl : L.gp < w.heap.size := h.pagesB.lt
  refine ⟨h.turns (fun p => p = .pages ∨ p = .gens i ∨ p = .tkn i) o (fun b' e _ => ⟨.pages, .inl rfl, by subst e; rfl⟩) ?_ ?_ hat ?_ rfl, ⟨o.mono fun b' _ e => ⟨.pages, by subst e; rfl⟩, ?_⟩⟩
  · rintro p (rfl | rfl | rfl)
    · refine Grid.congr hp fun x j hx hj => ?_
      unfold put2
      by_cases hxi : x = i
      · subst hxi
        obtain rfl | rfl | rfl | rfl | rfl | rfl | rfl : j = 0 ∨ j = 1 ∨ j = 2 ∨ j = 3 ∨ j = 4 ∨ j = 5 ∨ j = 6 := by omega
        all_goals simp [pv, freshS, upd, rowV]
      · obtain rfl | rfl | rfl | rfl | rfl | rfl | rfl : j = 0 ∨ j = 1 ∨ j = 2 ∨ j = 3 ∨ j = 4 ∨ j = 5 ∨ j = 6 := by omega
        all_goals simp [pv, freshS, upd, rowV, hxi]
    · intro _
      show Grid w' (upd L.G i a i) 165 (c.cf.n (upd s.cls i k i)) 1 (gv (upd s.gens i (fun _ => 0) i))
      rw [upd_at, upd_at, upd_at]
      exact hA
    · intro _
      show Grid w' (upd L.T i b i) 4 (c.cf.n (upd s.cls i k i)) 1 (tv (upd s.tkn i (fun _ => false) i))
      rw [upd_at, upd_at, upd_at]
      exact hB
  · intro q hq hp
    cases q with
    | gens j =>
      have hj : j ≠ i := fun e => hq (.inr (.inl (by rw [e])))
      show j < c.cf.np ∧ upd s.own i true j = true → Grid w (upd L.G i a j) 165 (c.cf.n (upd s.cls i k j)) 1 (gv (upd s.gens i (fun _ => 0) j))
      rw [upd_ne _ _ hj, upd_ne _ _ hj, upd_ne _ _ hj, upd_ne _ _ hj]
      exact hp
    | tkn j =>
      have hj : j ≠ i := fun e => hq (.inr (.inr (by rw [e])))
      show j < c.cf.np ∧ upd s.own i true j = true → Grid w (upd L.T i b j) 4 (c.cf.n (upd s.cls i k j)) 1 (tv (upd s.tkn i (fun _ => false) j))
      rw [upd_ne _ _ hj, upd_ne _ _ hj, upd_ne _ _ hj, upd_ne _ _ hj]
      exact hp
    | pages => exact absurd (.inl rfl) hq
    | _ => exact hp
  · rintro p b' (rfl | rfl | rfl) e
    · exact .inl e
    · rw [e1] at e
      injection e with e
      subst e
      refine .inr ⟨ha, ?_⟩
      rintro q (rfl | rfl | rfl) eq
      · injection eq with eq
        have : L.gp = a := eq
        omega
      · rfl
      · rw [e2] at eq; injection eq with eq; exact absurd eq.symm hab
    · rw [e2] at e
      injection e with e
      subst e
      refine .inr ⟨hb, ?_⟩
      rintro q (rfl | rfl | rfl) eq
      · injection eq with eq
        have : L.gp = b := eq
        omega
      · rw [e1] at eq; injection eq with eq; exact absurd eq hab
      · rfl
  · rintro b' ⟨q, hq⟩
    by_cases hP : q = Part.pages ∨ q = .gens i ∨ q = .tkn i
    · rcases hP with rfl | rfl | rfl
      · exact .inl ⟨.pages, hq⟩
      · rw [e1] at hq; injection hq with hq; subst hq; exact .inr ha
      · rw [e2] at hq; injection hq with hq; subst hq; exact .inr hb
    · exact .inl ⟨q, hat q hP b' hq⟩
end Go.Proofs.YtfjiphibalhcgaaGreat.Cls
/-
  A new Set in memory.
-/
namespace Go.Proofs.YtfjiphibalhcgaaGreat.Cls
open Go.RowKit Base MapG
set_option linter.unusedVariables false

theorem Grid.made (w : World) (e : TypeId) (z : Array Value) (n : Nat) (f : Nat → Value) (hf : ∀ j, j < z.size → z[j]? = some (f j)) : Grid (w.alloc (.cells (madeCells z (n * z.size)) e)) w.heap.size e n z.size (fun _ j => f j) := by
  have hb := Blk.new w e (madeCells z (n * z.size))
  refine ⟨⟨_, hb⟩, fun i j hi hj => ?_⟩
  rw [hb.cell, madeCells_at z n i j hi hj, hf j hj]
/-- The type of a part of a new Set. -/
def partTy : Part → Option TypeId
  | .head => some 148
  | .arena => some 190
  | .bytes => some 5
  | .sizes => some 3
  | .pages => some 162
  | .rows => some 157
  | _ => none
theorem partTy_inj : ∀ p q : Part, partTy p ≠ none → partTy p = partTy q → p = q := by
  intro p q h e
  cases p <;> cases q <;> first | rfl | exact absurd rfl h | (simp [partTy] at e)
theorem SetAt.new {w : World} {L : Lay} {c : Conf} (hr : refN c = 0) (h0 : Blk w L.g 148 (hv L c (new0 c.cf))) (h1 : Arena.At w L.ga L.ha c.cf.ps (List.replicate (c.cf.ps * c.cf.np) 0))
    (h2 : Grid w L.gs 3 c.nc 1 (fun i _ => iv (c.sz i))) (h3 : Grid w L.gp 162 c.cf.np 7 (pv c.cf L (new0 c.cf))) (h4 : Grid w L.gr 157 c.nc 4 (rv L (new0 c.cf)))
    (hF : ∀ k, L.F k = .slice none 0 0) (hO : ∀ i, L.O i = none) : SetAt w L c (new0 c.cf) (List.replicate (c.cf.ps * c.cf.np) 0) := by
  have key : ∀ p b, L.blk c.cf (new0 c.cf) p = some b → ∃ t cur, partTy p = some t ∧ Blk w b t cur := by
    intro p b e
    cases p with
    | head => injection e with e; subst e; exact ⟨_, _, rfl, h0⟩
    | arena => injection e with e; subst e; exact ⟨_, _, rfl, h1.head⟩
    | bytes => injection e with e; subst e; exact ⟨_, _, rfl, h1.bytes⟩
    | sizes => injection e with e; subst e; obtain ⟨cur, hb⟩ := h2.blk; exact ⟨_, cur, rfl, hb⟩
    | pages => injection e with e; subst e; obtain ⟨cur, hb⟩ := h3.blk; exact ⟨_, cur, rfl, hb⟩
    | rows => injection e with e; subst e; obtain ⟨cur, hb⟩ := h4.blk; exact ⟨_, cur, rfl, hb⟩
    | gens i => rw [Lay.blk, if_neg (fun e => by cases e.2)] at e; cases e
    | tkn i => rw [Lay.blk, if_neg (fun e => by cases e.2)] at e; cases e
    | free k =>
      by_cases hk : k < c.cf.nc
      · rw [Lay.blk, if_pos hk, hF] at e; cases e
      · rw [Lay.blk, if_neg hk] at e; cases e
    | old i =>
      by_cases hk : i < c.cf.np
      · rw [Lay.blk, if_pos hk, hO] at e; cases e
      · rw [Lay.blk, if_neg hk] at e; cases e
  refine ⟨fun p => ?_, fun p q b e1 e2 => ?_, by simp, hr⟩
  · cases p with
    | head => exact h0
    | arena =>
      have := h1.head
      rw [List.length_replicate] at this
      exact this
    | bytes => exact h1.bytes
    | sizes => exact h2
    | pages => exact h3
    | rows => exact h4
    | gens i => exact fun e => by cases e.2
    | tkn i => exact fun e => by cases e.2
    | free k => exact fun _ => ⟨rfl, .inl ⟨by rw [hF], rfl⟩⟩
    | old i => exact fun _ => by rw [hO]; exact ⟨rfl, fun _ => rfl⟩
  · obtain ⟨t, cur, a1, a2⟩ := key p b e1
    obtain ⟨t', cur', b1, b2⟩ := key q b e2
    unfold Blk at a2 b2
    rw [a2] at b2
    have e : t = t' := by injection b2 with b2; injection b2
    subst e
    exact partTy_inj p q (by rw [a1]; exact fun e => by cases e) (a1.trans b1.symm)
end Go.Proofs.YtfjiphibalhcgaaGreat.Cls
