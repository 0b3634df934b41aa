/-
  What always holds of a Set's state holds behind each call: pages that come, leave, stay, go.
-/
import Derived.Test.YtgodinapdahocaaClassGood
namespace Go.Proofs.Ytgodinapdahocaa.Cls
variable {c : Cf} {s : St}
/-- A page joins its class's free chunks. -/
theorem Good.widen (g : Good c s) (ok : c.Ok) {k i : Nat} (hk : k < c.nc) (h1 : i < c.np) (h2 : s.own i = false) : Good c (widenS c s k i) := by
  obtain ⟨o1, o2⟩ := g.out i h2
  have hsp : 1 ≤ s.spare := by rw [g.spare]; exact cnt_pos (f := fun j => !s.own j) h1 (by simp [h2])
  have hfr : ∀ q, q ∈ frees c (widen1 c s k i) i ↔ ∃ x, x < c.n k ∧ q = i * c.ps + x * c.sz k := by
    intro q
    rw [mem_frees]
    simp only [widen1, upd_at]
    exact ⟨fun ⟨x, a, _, b⟩ => ⟨x, a, b⟩, fun ⟨x, a, b⟩ => ⟨x, a, by simp, b⟩⟩
  have hfn : (frees c (widen1 c s k i) i).Nodup := by
    refine freesTo_nodup ok ?_ _ (Nat.le_refl _)
    simp only [widen1, upd_at]; exact hk
  have hc : (widen1 c s k i).cls i = k := upd_at _ _ _
  unfold widenS joinS
  rw [hc]
  generalize frees c (widen1 c s k i) i = fs at *
  unfold widen1
  refine ⟨fun j hj ho => ?_, fun j hj => ?_, fun j hj => ?_, ?_, ?_, fun j x => ?_, g.old, ?_, ?_, ?_, ?_, ?_⟩
  · show upd s.cls i k j < c.nc
    by_cases hji : j = i
    · subst hji; rw [upd_at]; exact hk
    · rw [upd_ne _ _ hji]
      have ho' : upd s.own i true j = true := ho
      rw [upd_ne _ _ hji] at ho'
      exact g.cls j hj ho'
  · have hj' : upd s.own i true j = false := hj
    by_cases hji : j = i
    · subst hji; rw [upd_at] at hj'; cases hj'
    · rw [upd_ne _ _ hji] at hj'; exact g.out j hj'
  · have hj' : upd s.own i true j = true := hj
    by_cases hji : j = i
    · subst hji; exact h1
    · rw [upd_ne _ _ hji] at hj'; exact g.top j hj'
  · intro k' hk' q
    show q ∈ upd s.free k (s.free k ++ fs) k' ↔ ∃ j x, j < c.np ∧ upd s.own i true j = true ∧ upd s.cls i k j = k' ∧ s.lvs j = false ∧ x < c.n k' ∧ upd s.tkn i (fun _ => false) j x = false ∧ q = j * c.ps + x * c.sz k'
    have hold := g.free k' hk' q
    have old1 : (∃ j x, j < c.np ∧ s.own j = true ∧ s.cls j = k' ∧ s.lvs j = false ∧ x < c.n k' ∧ s.tkn j x = false ∧ q = j * c.ps + x * c.sz k') ↔
        ∃ j x, j ≠ i ∧ j < c.np ∧ upd s.own i true j = true ∧ upd s.cls i k j = k' ∧ s.lvs j = false ∧ x < c.n k' ∧ upd s.tkn i (fun _ => false) j x = false ∧ q = j * c.ps + x * c.sz k' := by
      constructor
      · rintro ⟨j, x, b1, b2, b3, b4, b5, b6, b7⟩
        have hji : j ≠ i := fun e => by subst e; rw [h2] at b2; cases b2
        exact ⟨j, x, hji, b1, by rw [upd_ne _ _ hji]; exact b2, by rw [upd_ne _ _ hji]; exact b3, b4, b5, by rw [upd_ne _ _ hji]; exact b6, b7⟩
      · rintro ⟨j, x, hji, b1, b2, b3, b4, b5, b6, b7⟩
        rw [upd_ne _ _ hji] at b2 b3 b6
        exact ⟨j, x, b1, b2, b3, b4, b5, b6, b7⟩
    rw [old1] at hold
    by_cases hkk : k' = k
    · subst hkk
      rw [upd_at, List.mem_append, hold, hfr]
      constructor
      · rintro (⟨j, x, _, h⟩ | ⟨x, a, b⟩)
        · exact ⟨j, x, h⟩
        · exact ⟨i, x, h1, upd_at _ _ _, upd_at _ _ _, o1, a, by rw [upd_at], b⟩
      · rintro ⟨j, x, b1, b2, b3, b4, b5, b6, b7⟩
        by_cases hji : j = i
        · subst hji; exact .inr ⟨x, b5, b7⟩
        · exact .inl ⟨j, x, hji, b1, b2, b3, b4, b5, b6, b7⟩
    · rw [upd_ne _ _ hkk, hold]
      constructor
      · rintro ⟨j, x, _, h⟩; exact ⟨j, x, h⟩
      · rintro ⟨j, x, b1, b2, b3, b4, b5, b6, b7⟩
        refine ⟨j, x, fun e => ?_, b1, b2, b3, b4, b5, b6, b7⟩
        subst e
        rw [upd_at] at b3
        exact hkk b3.symm
  · intro k' hk'
    show (upd s.free k (s.free k ++ fs) k').Nodup
    by_cases hkk : k' = k
    · subst hkk
      rw [upd_at, List.nodup_append]
      refine ⟨g.nodup k' hk', hfn, fun a ha b hb => ?_⟩
      rintro rfl
      obtain ⟨j, x, b1, b2, b3, b4, b5, b6, b7⟩ := (g.free k' hk' a).1 ha
      obtain ⟨y, hy, e⟩ := (hfr a).1 hb
      obtain ⟨rfl, -⟩ := place_inj ok hk' b5 hy (b7.symm.trans e)
      rw [h2] at b2; cases b2
    · rw [upd_ne _ _ hkk]; exact g.nodup k' hk'
  · show upd s.gens i (fun x => if x < c.n k then s.old i (x * c.sz k) else 0) j x < 4294967296
    by_cases hji : j = i
    · subst hji
      rw [upd_at]
      show (if _ then _ else _) < 4294967296
      split
      · exact g.old _ _
      · decide
    · rw [upd_ne _ _ hji]; exact g.gen _ _
  · show s.spare - 1 = cnt (fun j => !(upd s.own i true j)) c.np
    have := cnt_less (f := fun j => !s.own j) (g := fun j => !(upd s.own i true j)) h1 (by simp [h2]) (by simp [upd]) (fun j hj => by simp [upd, hj])
    rw [g.spare]; omega
  · intro j hj ho
    show s.held j = cnt (upd s.tkn i (fun _ => false) j) (c.n (upd s.cls i k j))
    by_cases hji : j = i
    · subst hji
      rw [upd_at, upd_at, o2]
      exact (cnt_none fun _ _ => rfl).symm
    · have ho' : upd s.own i true j = true := ho
      rw [upd_ne _ _ hji] at ho'
      rw [upd_ne _ _ hji, upd_ne _ _ hji]
      exact g.held j hj ho'
  · intro k' hk'
    show s.rt k' = sumTo (fun j => if upd s.own i true j && upd s.cls i k j == k' then s.held j else 0) c.np
    rw [g.rt k' hk']
    refine sumTo_congr fun j _ => ?_
    by_cases hji : j = i
    · subst hji; simp [h2, o2]
    · simp only [upd_ne _ _ hji]
  · intro k' hk'
    show upd s.rp k (s.rp k + 1) k' = cnt (fun j => upd s.own i true j && upd s.cls i k j == k') c.np
    by_cases hkk : k' = k
    · subst hkk
      rw [upd_at, g.rp k' hk']
      exact (cnt_more (f := fun j => s.own j && s.cls j == k') h1 (by simp [h2]) (by simp [upd]) (fun j hj => by simp [upd, hj])).symm
    · rw [upd_ne _ _ hkk, g.rp k' hk']
      exact (cnt_same (f := fun j => s.own j && s.cls j == k') (i := i) (by simp [upd, h2]; omega) (fun j hj => by simp [upd, hj])).symm
  · intro k' hk'
    show upd s.rs k (s.rs k + 1) k' = cnt (fun j => upd s.own i true j && upd s.cls i k j == k' && !s.lvs j) c.np
    by_cases hkk : k' = k
    · subst hkk
      rw [upd_at, g.rs k' hk']
      exact (cnt_more (f := fun j => s.own j && s.cls j == k' && !s.lvs j) h1 (by simp [h2]) (by simp [upd, o1]) (fun j hj => by simp [upd, hj])).symm
    · rw [upd_ne _ _ hkk, g.rs k' hk']
      exact (cnt_same (f := fun j => s.own j && s.cls j == k' && !s.lvs j) (i := i) (by simp [upd, h2]; omega) (fun j hj => by simp [upd, hj])).symm
theorem Good.leave (g : Good c s) (ok : c.Ok) {i : Nat} (h1 : i < c.np) (h2 : s.own i = true) (h3 : s.lvs i = false) : Good c (leaveS c s i) := by
  have hk := g.cls i h1 h2
  unfold leaveS
  refine ⟨g.cls, fun j hj => ?_, g.top, ?_, ?_, g.gen, g.old, g.spare, g.held, g.rt, g.rp, ?_⟩
  · have hji : j ≠ i := fun e => by subst e; rw [h2] at hj; cases hj
    exact ⟨(upd_ne _ _ hji).trans (g.out j hj).1, (g.out j hj).2⟩
  · intro k' hk' q
    show q ∈ upd s.free (s.cls i) ((s.free (s.cls i)).filter fun p => p / c.ps != i) k' ↔ ∃ j x, _ ∧ _ ∧ _ ∧ upd s.lvs i true j = false ∧ _ ∧ _ ∧ _
    have hold := g.free k' hk' q
    by_cases hkk : k' = s.cls i
    · subst hkk
      rw [upd_at, List.mem_filter, hold]
      constructor
      · rintro ⟨⟨j, x, b1, b2, b3, b4, b5, b6, b7⟩, h⟩
        have hj := (place_of ok (i := j) hk' b5).1
        rw [← b7] at hj
        have hji : j ≠ i := by rw [hj] at h; simpa using h
        exact ⟨j, x, b1, b2, b3, (upd_ne _ _ hji).trans b4, b5, b6, b7⟩
      · rintro ⟨j, x, b1, b2, b3, b4, b5, b6, b7⟩
        have hj := (place_of ok (i := j) hk' b5).1
        rw [← b7] at hj
        have hji : j ≠ i := fun e => by subst e; rw [upd_at] at b4; cases b4
        rw [upd_ne _ _ hji] at b4
        exact ⟨⟨j, x, b1, b2, b3, b4, b5, b6, b7⟩, by rw [hj]; simpa using hji⟩
    · rw [upd_ne _ _ hkk, hold]
      constructor
      · rintro ⟨j, x, b1, b2, b3, b4, b5, b6, b7⟩
        have hji : j ≠ i := fun e => by subst e; exact hkk b3.symm
        exact ⟨j, x, b1, b2, b3, (upd_ne _ _ hji).trans b4, b5, b6, b7⟩
      · rintro ⟨j, x, b1, b2, b3, b4, b5, b6, b7⟩
        have hji : j ≠ i := fun e => by subst e; exact hkk b3.symm
        rw [upd_ne _ _ hji] at b4
        exact ⟨j, x, b1, b2, b3, b4, b5, b6, b7⟩
  · intro k' hk'
    show (upd s.free (s.cls i) ((s.free (s.cls i)).filter fun p => p / c.ps != i) k').Nodup
    by_cases hkk : k' = s.cls i
    · subst hkk; rw [upd_at]; exact (g.nodup _ hk').filter _
    · rw [upd_ne _ _ hkk]; exact g.nodup k' hk'
  · intro k' hk'
    show upd s.rs (s.cls i) (s.rs (s.cls i) - 1) k' = cnt (fun j => s.own j && s.cls j == k' && !(upd s.lvs i true j)) c.np
    by_cases hkk : k' = s.cls i
    · subst hkk
      rw [upd_at, g.rs _ hk']
      have := cnt_less (f := fun j => s.own j && s.cls j == s.cls i && !s.lvs j) (g := fun j => s.own j && s.cls j == s.cls i && !(upd s.lvs i true j)) h1 (by simp [h2, h3]) (by simp [upd]) (fun j hj => by simp [upd, hj])
      omega
    · rw [upd_ne _ _ hkk, g.rs k' hk']
      exact (cnt_same (f := fun j => s.own j && s.cls j == k' && !s.lvs j) (i := i) (by simp [(show (s.cls i == k') = false by simp; omega)]) (fun j hj => by simp [upd, hj])).symm
theorem Good.stay (g : Good c s) (ok : c.Ok) {i : Nat} (h1 : i < c.np) (h2 : s.own i = true) (h3 : s.lvs i = true) : Good c (stayS c s i) := by
  have hk := g.cls i h1 h2
  have hfr : ∀ q, q ∈ frees c { s with lvs := upd s.lvs i false } i ↔ ∃ x, x < c.n (s.cls i) ∧ s.tkn i x = false ∧ q = i * c.ps + x * c.sz (s.cls i) := fun q => mem_frees
  have hfn : (frees c { s with lvs := upd s.lvs i false } i).Nodup := freesTo_nodup (s := { s with lvs := upd s.lvs i false }) ok hk _ (Nat.le_refl _)
  unfold stayS joinS
  generalize frees c { s with lvs := upd s.lvs i false } i = fs at *
  refine ⟨g.cls, fun j hj => ?_, g.top, ?_, ?_, g.gen, g.old, g.spare, g.held, g.rt, g.rp, ?_⟩
  · have hji : j ≠ i := fun e => by subst e; exact absurd (h2.symm.trans hj) (by simp)
    exact ⟨(upd_ne _ _ hji).trans (g.out j hj).1, (g.out j hj).2⟩
  · intro k' hk' q
    show q ∈ upd s.free (s.cls i) (s.free (s.cls i) ++ fs) k' ↔ ∃ j x, _ ∧ s.own j = true ∧ s.cls j = k' ∧ upd s.lvs i false j = false ∧ _ ∧ s.tkn j x = false ∧ _
    have hold := g.free k' hk' q
    have old1 : (∃ j x, j < c.np ∧ s.own j = true ∧ s.cls j = k' ∧ s.lvs j = false ∧ x < c.n k' ∧ s.tkn j x = false ∧ q = j * c.ps + x * c.sz k') ↔
        ∃ j x, j ≠ i ∧ j < c.np ∧ s.own j = true ∧ s.cls j = k' ∧ upd s.lvs i false j = false ∧ x < c.n k' ∧ s.tkn j x = false ∧ q = j * c.ps + x * c.sz k' := by
      constructor
      · rintro ⟨j, x, b1, b2, b3, b4, b5, b6, b7⟩
        have hji : j ≠ i := fun e => by subst e; rw [h3] at b4; cases b4
        exact ⟨j, x, hji, b1, b2, b3, (upd_ne _ _ hji).trans b4, b5, b6, b7⟩
      · rintro ⟨j, x, hji, b1, b2, b3, b4, b5, b6, b7⟩
        rw [upd_ne _ _ hji] at b4
        exact ⟨j, x, b1, b2, b3, b4, b5, b6, b7⟩
    rw [old1] at hold
    by_cases hkk : k' = s.cls i
    · subst hkk
      rw [upd_at, List.mem_append, hold, hfr]
      constructor
      · rintro (⟨j, x, _, h⟩ | ⟨x, a, b, d⟩)
        · exact ⟨j, x, h⟩
        · exact ⟨i, x, h1, h2, rfl, upd_at _ _ _, a, b, d⟩
      · rintro ⟨j, x, b1, b2, b3, b4, b5, b6, b7⟩
        by_cases hji : j = i
        · subst hji; exact .inr ⟨x, b5, b6, b7⟩
        · exact .inl ⟨j, x, hji, b1, b2, b3, b4, b5, b6, b7⟩
    · rw [upd_ne _ _ hkk, hold]
      constructor
      · rintro ⟨j, x, _, h⟩; exact ⟨j, x, h⟩
      · rintro ⟨j, x, b1, b2, b3, b4, b5, b6, b7⟩
        exact ⟨j, x, fun e => by subst e; exact hkk b3.symm, b1, b2, b3, b4, b5, b6, b7⟩
  · intro k' hk'
    show (upd s.free (s.cls i) (s.free (s.cls i) ++ fs) k').Nodup
    by_cases hkk : k' = s.cls i
    · subst hkk
      rw [upd_at, List.nodup_append]
      refine ⟨g.nodup _ hk', hfn, fun a ha b hb => ?_⟩
      rintro rfl
      obtain ⟨j, x, b1, b2, b3, b4, b5, b6, b7⟩ := (g.free _ hk' a).1 ha
      obtain ⟨y, hy, -, e⟩ := (hfr a).1 hb
      obtain ⟨rfl, -⟩ := place_inj ok hk' b5 hy (b7.symm.trans e)
      rw [h3] at b4; cases b4
    · rw [upd_ne _ _ hkk]; exact g.nodup k' hk'
  · intro k' hk'
    show upd s.rs (s.cls i) (s.rs (s.cls i) + 1) k' = cnt (fun j => s.own j && s.cls j == k' && !(upd s.lvs i false j)) c.np
    by_cases hkk : k' = s.cls i
    · subst hkk
      rw [upd_at, g.rs _ hk']
      exact (cnt_more (f := fun j => s.own j && s.cls j == s.cls i && !s.lvs j) h1 (by simp [h3]) (by simp [upd, h2]) (fun j hj => by simp [upd, hj])).symm
    · rw [upd_ne _ _ hkk, g.rs k' hk']
      exact (cnt_same (f := fun j => s.own j && s.cls j == k' && !s.lvs j) (i := i) (by simp [(show (s.cls i == k') = false by simp; omega)]) (fun j hj => by simp [upd, hj])).symm
theorem Good.release (g : Good c s) (ok : c.Ok) {i : Nat} (h1 : i < c.np) (h2 : s.own i = true) (h3 : s.lvs i = true) (h4 : s.held i = 0) : Good c (releaseS c s i) := by
  have hk := g.cls i h1 h2
  unfold releaseS
  refine ⟨fun j hj ho => ?_, fun j hj => ?_, fun j hj => ?_, ?_, g.nodup, g.gen, fun j x => ?_, ?_, ?_, ?_, ?_, ?_⟩
  · have ho' : upd s.own i false j = true := ho
    have hji : j ≠ i := fun e => by subst e; rw [upd_at] at ho'; cases ho'
    rw [upd_ne _ _ hji] at ho'
    show upd s.cls i 0 j < c.nc
    rw [upd_ne _ _ hji]; exact g.cls j hj ho'
  · have hj' : upd s.own i false j = false := hj
    show upd s.lvs i false j = false ∧ upd s.held i 0 j = 0
    by_cases hji : j = i
    · subst hji; exact ⟨upd_at _ _ _, upd_at _ _ _⟩
    · rw [upd_ne _ _ hji] at hj'
      rw [upd_ne _ _ hji, upd_ne _ _ hji]; exact g.out j hj'
  · have hj' : upd s.own i false j = true := hj
    have hji : j ≠ i := fun e => by subst e; rw [upd_at] at hj'; cases hj'
    rw [upd_ne _ _ hji] at hj'
    exact g.top j hj'
  · intro k' hk' q
    show q ∈ s.free k' ↔ ∃ j x, _ ∧ upd s.own i false j = true ∧ upd s.cls i 0 j = k' ∧ upd s.lvs i false j = false ∧ _ ∧ s.tkn j x = false ∧ _
    rw [g.free k' hk' q]
    constructor
    · rintro ⟨j, x, b1, b2, b3, b4, b5, b6, b7⟩
      have hji : j ≠ i := fun e => by subst e; rw [h3] at b4; cases b4
      exact ⟨j, x, b1, (upd_ne _ _ hji).trans b2, (upd_ne _ _ hji).trans b3, (upd_ne _ _ hji).trans b4, b5, b6, b7⟩
    · rintro ⟨j, x, b1, b2, b3, b4, b5, b6, b7⟩
      have hji : j ≠ i := fun e => by subst e; rw [upd_at] at b2; cases b2
      rw [upd_ne _ _ hji] at b2 b3 b4
      exact ⟨j, x, b1, b2, b3, b4, b5, b6, b7⟩
  · show upd s.old i _ j x < 4294967296
    by_cases hji : j = i
    · subst hji
      rw [upd_at]
      show (if _ then _ else _) < 4294967296
      split
      · exact g.gen _ _
      · exact g.old _ _
    · rw [upd_ne _ _ hji]; exact g.old _ _
  · show s.spare + 1 = cnt (fun j => !(upd s.own i false j)) c.np
    rw [g.spare]
    exact (cnt_more (f := fun j => !s.own j) h1 (by simp [h2]) (by simp [upd]) (fun j hj => by simp [upd, hj])).symm
  · intro j hj ho
    have ho' : upd s.own i false j = true := ho
    have hji : j ≠ i := fun e => by subst e; rw [upd_at] at ho'; cases ho'
    rw [upd_ne _ _ hji] at ho'
    show upd s.held i 0 j = cnt (s.tkn j) (c.n (upd s.cls i 0 j))
    rw [upd_ne _ _ hji, upd_ne _ _ hji]; exact g.held j hj ho'
  · intro k' hk'
    show s.rt k' = sumTo (fun j => if upd s.own i false j && upd s.cls i 0 j == k' then upd s.held i 0 j else 0) c.np
    rw [g.rt k' hk']
    refine sumTo_congr fun j _ => ?_
    by_cases hji : j = i
    · subst hji; simp [upd, h4]
    · simp only [upd_ne _ _ hji]
  · intro k' hk'
    show upd s.rp (s.cls i) (s.rp (s.cls i) - 1) k' = cnt (fun j => upd s.own i false j && upd s.cls i 0 j == k') c.np
    by_cases hkk : k' = s.cls i
    · subst hkk
      rw [upd_at, g.rp _ hk']
      have := cnt_less (f := fun j => s.own j && s.cls j == s.cls i) (g := fun j => upd s.own i false j && upd s.cls i 0 j == s.cls i) h1 (by simp [h2]) (by simp [upd]) (fun j hj => by simp [upd, hj])
      omega
    · rw [upd_ne _ _ hkk, g.rp k' hk']
      exact (cnt_same (f := fun j => s.own j && s.cls j == k') (i := i) (by simp [upd, (show (s.cls i == k') = false by simp; omega)]) (fun j hj => by simp [upd, hj])).symm
  · intro k' hk'
    show s.rs k' = cnt (fun j => upd s.own i false j && upd s.cls i 0 j == k' && !(upd s.lvs i false j)) c.np
    rw [g.rs k' hk']
    exact (cnt_same (f := fun j => s.own j && s.cls j == k' && !s.lvs j) (i := i) (by simp [upd, h3]) (fun j hj => by simp [upd, hj])).symm
end Go.Proofs.Ytgodinapdahocaa.Cls
