/-
  A Set that one class fills: in plain numbers.
-/
import Derived.Test.YtgodinapdahocaaClassGive
namespace Go.Proofs.Ytgodinapdahocaa.Cls
open Go.RowKit Base MapG
set_option linter.unusedVariables false

def placeN (d : Cf) (k t : Nat) : Nat := t / d.n k * d.ps + t % d.n k * d.sz k
/-- t chunks of class k are taken, of the first pages; u tells which pages are the class's. -/
structure Fl (d : Cf) (k u t : Nat) (s : St) : Prop where
  good : Good d s
  own : ∀ i, i < d.np → s.own i = decide (i * d.n k < u)
  cls : ∀ i, s.own i = true → s.cls i = k
  lvs : ∀ i, s.lvs i = false
  tkn : ∀ i x, s.own i = true → x < d.n k → s.tkn i x = decide (i * d.n k + x < t)
  gens : ∀ i x, s.gens i x = 0
  old : ∀ i x, s.old i x = 0
  other : ∀ j, j ≠ k → s.free j = []
  desc : (s.free k).Pairwise (· > ·)
  rt : s.rt k = t
theorem fl_new (d : Cf) (k : Nat) : Fl d k 0 0 (new0 d) :=
  ⟨new0_good, fun i _ => by simp [new0], fun i h => (by cases h), fun _ => rfl, fun i x h => (by cases h), fun _ _ => rfl, fun _ _ => rfl, fun _ _ => rfl, List.Pairwise.nil, rfl⟩
theorem lowFrom_eq {own : Nat → Bool} {i : Nat} (ho : own i = false) : ∀ {n a : Nat}, a ≤ i → i < a + n → (∀ j, a ≤ j → j < i → own j = true) → lowFrom own n a = some i
  | 0, a, h1, h2, _ => by omega
  | n + 1, a, h1, h2, h3 => by
    unfold lowFrom
    by_cases ha : a = i
    · subst ha
      rw [if_neg (by rw [ho]; simp)]
    · rw [if_pos (h3 a (Nat.le_refl _) (by omega))]
      exact lowFrom_eq ho (by omega) (by omega) fun j hj1 hj2 => h3 j (by omega) hj2
theorem low_eq {d : Cf} {s : St} {i : Nat} (hi : i < d.np) (ho : s.own i = false) (h : ∀ j, j < i → s.own j = true) : low d s = some i := lowFrom_eq ho (Nat.zero_le _) (by omega) fun j _ hj => h j hj
theorem lowFrom_all {own : Nat → Bool} : ∀ {n a : Nat}, (∀ j, a ≤ j → j < a + n → own j = true) → lowFrom own n a = none
  | 0, _, _ => rfl
  | n + 1, a, h => by
    unfold lowFrom
    rw [if_pos (h a (Nat.le_refl _) (by omega))]
    exact lowFrom_all fun j h1 h2 => h j (by omega) (by omega)
theorem freesTo_desc {d : Cf} {s : St} {i : Nat} (hz : 1 ≤ d.sz (s.cls i)) : ∀ n, (freesTo d s i n).Pairwise (· > ·) ∧ ∀ p ∈ freesTo d s i n, p < i * d.ps + n * d.sz (s.cls i)
  | 0 => ⟨List.Pairwise.nil, fun p h => by cases h⟩
  | n + 1 => by
    obtain ⟨h1, h2⟩ := freesTo_desc hz n
    have hs : (n + 1) * d.sz (s.cls i) = n * d.sz (s.cls i) + d.sz (s.cls i) := Nat.succ_mul _ _
    unfold freesTo
    split
    · exact ⟨h1, fun p hp => by have := h2 p hp; omega⟩
    · refine ⟨List.pairwise_cons.2 ⟨fun p hp => h2 p hp, h1⟩, fun p hp => ?_⟩
      rcases List.mem_cons.1 hp with rfl | hp
      · omega
      · have := h2 p hp; omega
theorem dm {n t i x : Nat} (hn : 1 ≤ n) (hx : x < n) (h : i * n + x = t) : i = t / n ∧ x = t % n := by
  subst h
  rw [Nat.add_comm, Nat.add_mul_div_right _ _ (by omega), Nat.div_eq_of_lt hx, Nat.add_mul_mod_self_right, Nat.mod_eq_of_lt hx]
  exact ⟨(Nat.zero_add i).symm, rfl⟩
theorem dm_eq (n t : Nat) : t / n * n + t % n = t := by rw [Nat.mul_comm]; exact Nat.div_add_mod t n
theorem page_lt {n i j x : Nat} (h : i < j) (hx : x < n) : i * n + x < j * n := by
  have := Nat.mul_le_mul_right n (show i + 1 ≤ j from h)
  rw [Nat.succ_mul] at this
  omega
section
variable {d : Cf} (ok : d.Ok) {k u t : Nat} (hk : k < d.nc) {s : St}
include ok hk
theorem Fl.room (f : Fl d k t t s) (ht : t < d.np * d.n k) : ∃ s1, roomS d s k = some s1 ∧ Fl d k (t + 1) t s1 := by
  obtain ⟨hn, -⟩ := n_pos ok hk
  have hz := (ok.sz k hk).1
  have e := dm_eq (d.n k) t
  have hx : t % d.n k < d.n k := Nat.mod_lt _ (by omega)
  have hi : t / d.n k < d.np := (Nat.div_lt_iff_lt_mul (by omega)).2 ht
  by_cases h0 : t % d.n k = 0
  · have hfree : s.free k = [] := by
      refine List.eq_nil_iff_forall_not_mem.2 fun p hp => ?_
      obtain ⟨i, x, h1, h2, h3, -, h5, h6, -⟩ := (f.good.free k hk p).1 hp
      rw [f.tkn i x h2 h5, decide_eq_false_iff_not] at h6
      rw [f.own i h1, decide_eq_true_eq] at h2
      have hlt : i < t / d.n k := by
        rcases Nat.lt_or_ge i (t / d.n k) with h | h
        · exact h
        · have := Nat.mul_le_mul_right (d.n k) h; omega
      have := page_lt hlt h5
      omega
    have ho : s.own (t / d.n k) = false := by rw [f.own _ hi, decide_eq_false_iff_not]; omega
    have hlow : low d s = some (t / d.n k) := low_eq hi ho fun j hj => by
      rw [f.own j (by omega), decide_eq_true_eq]
      have := page_lt hj (show 0 < d.n k by omega)
      omega
    refine ⟨widenS d s k (t / d.n k), ?_, ?_⟩
    · unfold roomS
      rw [hfree, hlow]
    · have hc : (widen1 d s k (t / d.n k)).cls (t / d.n k) = k := upd_at _ _ _
      have fk : (widenS d s k (t / d.n k)).free = upd s.free k (s.free k ++ freesTo d (widen1 d s k (t / d.n k)) (t / d.n k) (d.n k)) := by
        show upd (widen1 d s k (t / d.n k)).free ((widen1 d s k (t / d.n k)).cls (t / d.n k)) ((widen1 d s k (t / d.n k)).free ((widen1 d s k (t / d.n k)).cls (t / d.n k)) ++ frees d (widen1 d s k (t / d.n k)) (t / d.n k)) = _
        unfold frees
        rw [hc]
        rfl
      refine ⟨f.good.widen ok hk hi ho, fun i hi' => ?_, fun i h => ?_, f.lvs, fun i x h hx' => ?_, fun i x => ?_, f.old, fun j hj => ?_, ?_, f.rt⟩
      · show upd s.own (t / d.n k) true i = _
        unfold upd
        by_cases he : i = t / d.n k
        · rw [if_pos he, he]; exact (decide_eq_true (by omega)).symm
        · rw [if_neg he, f.own i hi']
          refine decide_eq_decide.2 ⟨fun h => by omega, fun h => ?_⟩
          have : i * d.n k ≠ t := fun h' => he (dm hn (show 0 < d.n k by omega) (by omega)).1
          omega
      · show upd s.cls (t / d.n k) k i = k
        unfold upd
        by_cases he : i = t / d.n k
        · rw [if_pos he]
        · rw [if_neg he]
          refine f.cls i ?_
          have h' : upd s.own (t / d.n k) true i = true := h
          rwa [upd_ne _ _ he] at h'
      · show upd s.tkn (t / d.n k) (fun _ => false) i x = _
        unfold upd
        by_cases he : i = t / d.n k
        · rw [if_pos he, he]; exact (decide_eq_false (by omega)).symm
        · rw [if_neg he]
          have h' : upd s.own (t / d.n k) true i = true := h
          rw [upd_ne _ _ he] at h'
          exact f.tkn i x h' hx'
      · show upd s.gens (t / d.n k) (fun x => if x < d.n k then s.old (t / d.n k) (x * d.sz k) else 0) i x = 0
        unfold upd
        split
        · simp only
          split
          · exact f.old _ _
          · rfl
        · exact f.gens i x
      · rw [fk, upd_ne _ _ hj]
        exact f.other j hj
      · rw [fk, upd_at, hfree, List.nil_append]
        exact (freesTo_desc (by rw [hc]; omega) _).1
  · have ho : s.own (t / d.n k) = true := by rw [f.own _ hi, decide_eq_true_eq]; omega
    have hm : placeN d k t ∈ s.free k := (f.good.free k hk _).2 ⟨t / d.n k, t % d.n k, hi, ho, f.cls _ ho, f.lvs _, hx, by rw [f.tkn _ _ ho hx, e]; simp, rfl⟩
    refine ⟨s, ?_, { f with own := fun i hi' => ?_ }⟩
    · unfold roomS
      cases hfr : s.free k with
      | nil => rw [hfr] at hm; cases hm
      | cons a l => rfl
    · rw [f.own i hi']
      refine decide_eq_decide.2 ⟨fun h => by omega, fun h => ?_⟩
      have : i * d.n k ≠ t := fun h' => h0 (dm hn (show 0 < d.n k by omega) (show i * d.n k + 0 = t by omega)).2.symm
      omega
theorem Fl.take (f : Fl d k (t + 1) t s) (ht : t < d.np * d.n k) : ∃ l, s.free k = l ++ [placeN d k t] ∧ Fl d k (t + 1) (t + 1) (takeS d s k (placeN d k t)) := by
  obtain ⟨hn, -⟩ := n_pos ok hk
  have hz := (ok.sz k hk).1
  have e := dm_eq (d.n k) t
  have hx : t % d.n k < d.n k := Nat.mod_lt _ (by omega)
  have hi : t / d.n k < d.np := (Nat.div_lt_iff_lt_mul (by omega)).2 ht
  have ho : s.own (t / d.n k) = true := by rw [f.own _ hi, decide_eq_true_eq]; omega
  have hm : placeN d k t ∈ s.free k := (f.good.free k hk _).2 ⟨t / d.n k, t % d.n k, hi, ho, f.cls _ ho, f.lvs _, hx, by rw [f.tkn _ _ ho hx, e]; simp, rfl⟩
  have hne : s.free k ≠ [] := fun h => by rw [h] at hm; cases hm
  obtain ⟨l, p, hl⟩ : ∃ l p, s.free k = l ++ [p] := ⟨(s.free k).dropLast, (s.free k).getLast hne, (List.dropLast_concat_getLast hne).symm⟩
  obtain ⟨pl1, pl2, pl3, -, -⟩ := place_of ok (i := t / d.n k) hk hx
  have hp : p = placeN d k t := by
    obtain ⟨i, x, h1, h2, h3, -, h5, h6, h7⟩ := (f.good.free k hk p).1 (by rw [hl]; simp)
    rw [f.tkn i x h2 h5, decide_eq_false_iff_not] at h6
    rw [f.own i h1, decide_eq_true_eq] at h2
    have hle : i ≤ t / d.n k := by
      rcases Nat.lt_or_ge (t / d.n k) i with h | h
      · have := page_lt h hx; omega
      · exact h
    have hie : i = t / d.n k := by
      rcases Nat.lt_or_ge i (t / d.n k) with h | h
      · have := page_lt h h5; omega
      · omega
    subst hie
    have hxx : t % d.n k ≤ x := by omega
    have hge : placeN d k t ≤ p := by
      rw [h7]
      unfold placeN
      have := Nat.mul_le_mul_right (d.sz k) hxx
      omega
    rw [hl] at hm
    rcases List.mem_append.1 hm with h8 | h8
    · have h9 := f.desc
      rw [hl] at h9
      have := (List.pairwise_append.1 h9).2.2 _ h8 p (by simp)
      omega
    · exact (List.mem_singleton.1 h8).symm
  subst hp
  have ed : placeN d k t / d.ps = t / d.n k := pl1
  have em : placeN d k t % d.ps / d.sz k = t % d.n k := by show (_ % d.ps) / _ = _; rw [show placeN d k t % d.ps = _ from pl2, pl3]
  refine ⟨l, hl, f.good.take ok hk hl, f.own, f.cls, f.lvs, fun i x h hx' => ?_, f.gens, f.old, fun j hj => ?_, ?_, ?_⟩
  · show upd s.tkn (placeN d k t / d.ps) (upd (s.tkn (placeN d k t / d.ps)) (placeN d k t % d.ps / d.sz k) true) i x = _
    rw [ed, em]
    unfold upd
    by_cases h1 : i = t / d.n k
    · rw [if_pos h1]
      by_cases h2 : x = t % d.n k
      · rw [if_pos h2, h1, h2]; exact (decide_eq_true (by omega)).symm
      · rw [if_neg h2, ← h1, f.tkn i x h hx']
        refine decide_eq_decide.2 ⟨fun h => by omega, fun h' => ?_⟩
        have : i * d.n k + x ≠ t := fun e' => h2 (dm hn hx' e').2
        omega
    · rw [if_neg h1, f.tkn i x h hx']
      refine decide_eq_decide.2 ⟨fun h => by omega, fun h' => ?_⟩
      have : i * d.n k + x ≠ t := fun e' => h1 (dm hn hx' e').1
      omega
  · show upd s.free k (s.free k).dropLast j = []
    rw [upd_ne _ _ hj]
    exact f.other j hj
  · show (upd s.free k (s.free k).dropLast k).Pairwise _
    rw [upd_at, hl, List.dropLast_concat]
    have h9 := f.desc
    rw [hl] at h9
    exact (List.pairwise_append.1 h9).1
  · show upd s.rt k (s.rt k + 1) k = t + 1
    rw [upd_at, f.rt]
/-- All is taken. -/
theorem Fl.full (f : Fl d k (d.np * d.n k) (d.np * d.n k) s) : s.free k = [] ∧ (∀ i, i < d.np → s.own i = true) ∧ (∀ j, roomS d s j = none) ∧ s.spare = 0 ∧ s.rs k = d.np ∧ (∀ j, j < d.nc → j ≠ k → s.rs j = 0) := by
  obtain ⟨hn, -⟩ := n_pos ok hk
  have hown : ∀ i, i < d.np → s.own i = true := fun i hi => by
    rw [f.own i hi, decide_eq_true_eq]
    have := page_lt hi (show 0 < d.n k by omega)
    omega
  have hfree : s.free k = [] := by
    refine List.eq_nil_iff_forall_not_mem.2 fun p hp => ?_
    obtain ⟨i, x, h1, h2, h3, -, h5, h6, -⟩ := (f.good.free k hk p).1 hp
    rw [f.tkn i x h2 h5, decide_eq_false_iff_not] at h6
    have := page_lt h1 h5
    omega
  refine ⟨hfree, hown, fun j => ?_, ?_, ?_, fun j hj hjk => ?_⟩
  · have hj : s.free j = [] := by
      by_cases h : j = k
      · rw [h]; exact hfree
      · exact f.other j h
    unfold roomS
    rw [hj, show low d s = none from lowFrom_all fun i _ h => hown i (by omega)]
  · rw [f.good.spare]
    exact cnt_none fun i hi => by rw [hown i hi]; rfl
  · rw [f.good.rs k hk]
    refine cnt_all fun i hi => ?_
    rw [hown i hi, f.cls i (hown i hi), f.lvs i]
    simp
  · rw [f.good.rs j hj]
    refine cnt_none fun i hi => ?_
    rw [hown i hi, f.cls i (hown i hi)]
    have : (k == j) = false := by simpa using fun h => hjk h.symm
    simp [this]
end
/-- A chunk that is taken is found by its handle. -/
theorem find_hnd {d : Cf} (ok : d.Ok) {s : St} {i x G : Nat} (hi : i < d.np) (ho : s.own i = true) (hc : s.cls i < d.nc) (hx : x < d.n (s.cls i)) (ht : s.tkn i x = true) (hg : s.gens i x = G) :
    findN d s (hnd (i * d.ps + x * d.sz (s.cls i)) G) = some (i, x, i * d.ps + x * d.sz (s.cls i)) := by
  obtain ⟨p1, p2, p3, p4, p5⟩ := place_of ok (i := i) hc hx
  have hz := ok.sz _ hc
  have h1 : (i + 1) * d.ps ≤ d.np * d.ps := Nat.mul_le_mul_right _ hi
  rw [Nat.succ_mul, Nat.mul_comm d.np] at h1
  have hps8 := ok.ps8
  have hps := ok.ps
  have hpsb : d.ps * d.np ≤ 1048576 * 1024 := Nat.mul_le_mul ok.psb ok.npb
  have h8 : (i * d.ps + x * d.sz (s.cls i)) % 8 = 0 := by
    rw [Nat.add_mod, Nat.mul_mod, hps8, Nat.mul_zero, Nat.zero_mod, p5]
  generalize hp : i * d.ps + x * d.sz (s.cls i) = p at *
  have hH : hnd p G % 4294967296 = p / 8 + 1 := by unfold hnd; omega
  have hD : hnd p G / 4294967296 = G := by unfold hnd; omega
  have hb : p + 8 ≤ d.ps * d.np := by omega
  unfold findN
  rw [hH, hD, if_neg (by omega), show (p / 8 + 1 - 1) * 8 = p by omega]
  have hch : chunkN d s (p : Int) = some (i, x) := by
    unfold chunkN
    rw [if_pos ⟨by omega, by omega⟩, Int.toNat_natCast, p1, p2, if_pos ⟨ho, Nat.mul_mod_left _ _, by rw [p3]; exact hx⟩, p3]
  rw [hch]
  simp only
  rw [if_pos ⟨ht, hg⟩]
theorem hnd_next (p G : Nat) : hnd p (G + 1) = hnd p G + 4294967296 := by unfold hnd; omega
theorem placeN_lt {d : Cf} (ok : d.Ok) {k : Nat} (hk : k < d.nc) {t u : Nat} (h : t < u) : placeN d k t < placeN d k u := by
  obtain ⟨hn, -⟩ := n_pos ok hk
  have hz := (ok.sz k hk).1
  have e1 := dm_eq (d.n k) t
  have e2 := dm_eq (d.n k) u
  have x1 : t % d.n k < d.n k := Nat.mod_lt _ (by omega)
  have x2 : u % d.n k < d.n k := Nat.mod_lt _ (by omega)
  have hle : t / d.n k ≤ u / d.n k := Nat.div_le_div_right (by omega)
  unfold placeN
  rcases Nat.lt_or_ge (t / d.n k) (u / d.n k) with h1 | h1
  · obtain ⟨-, -, -, p4, -⟩ := place_of ok (i := t / d.n k) hk x1
    have h2 : (t / d.n k + 1) * d.ps ≤ u / d.n k * d.ps := Nat.mul_le_mul_right _ h1
    rw [Nat.succ_mul] at h2
    omega
  · have h2 : t / d.n k = u / d.n k := by omega
    rw [h2] at e1 ⊢
    have h3 : t % d.n k < u % d.n k := by omega
    have := Nat.mul_le_mul_right (d.sz k) (show t % d.n k + 1 ≤ u % d.n k from h3)
    rw [Nat.succ_mul] at this
    omega
end Go.Proofs.Ytgodinapdahocaa.Cls
