/-
  A Set that one class has filled: a chunk comes again.
-/
import Derived.Test.YtgodinapdahocaaClassFillPlain
namespace Go.Proofs.Ytgodinapdahocaa.Cls
open Go.RowKit Base MapG
set_option linter.unusedVariables false

section
variable {d : Cf} (ok : d.Ok) {k u t : Nat} (hk : k < d.nc) {s : St}
include ok hk
theorem placeN_small (ht : t < d.np * d.n k) : placeN d k t ≤ 1073741760 := by
  obtain ⟨hn, -⟩ := n_pos ok hk
  have hx : t % d.n k < d.n k := Nat.mod_lt _ (by omega)
  have hi : t / d.n k < d.np := (Nat.div_lt_iff_lt_mul (by omega)).2 ht
  obtain ⟨-, -, -, p4, -⟩ := place_of ok (i := t / d.n k) hk hx
  have h1 : (t / d.n k + 1) * d.ps ≤ 1024 * 1048576 := Nat.mul_le_mul (by have := ok.npb; omega) ok.psb
  rw [Nat.succ_mul] at h1
  have hz := (ok.sz k hk).1
  unfold placeN
  omega
theorem Fl.find (f : Fl d k u t s) {j : Nat} (hj : j < t) (hu : t ≤ u) (hb : j < d.np * d.n k) : findN d s (hnd (placeN d k j) 0) = some (j / d.n k, j % d.n k, placeN d k j) ∧ j / d.n k < d.np ∧ s.own (j / d.n k) = true ∧ s.cls (j / d.n k) = k ∧ j % d.n k < d.n k ∧ s.tkn (j / d.n k) (j % d.n k) = true := by
  obtain ⟨hn, -⟩ := n_pos ok hk
  have e := dm_eq (d.n k) j
  have hx : j % d.n k < d.n k := Nat.mod_lt _ (by omega)
  have hi : j / d.n k < d.np := (Nat.div_lt_iff_lt_mul (by omega)).2 hb
  have ho : s.own (j / d.n k) = true := by rw [f.own _ hi, decide_eq_true_eq]; omega
  have hc := f.cls _ ho
  have ht : s.tkn (j / d.n k) (j % d.n k) = true := by rw [f.tkn _ _ ho hx, decide_eq_true_eq]; omega
  have key := find_hnd ok (G := 0) hi ho (by rw [hc]; exact hk) (by rw [hc]; exact hx) ht (f.gens _ _)
  rw [hc] at key
  exact ⟨key, hi, ho, hc, hx, ht⟩
theorem Fl.again (f : Fl d k (d.np * d.n k) (d.np * d.n k) s) {j i x : Nat} (hj : j < d.np * d.n k) (ei : i = j / d.n k) (ex : x = j % d.n k) :
    Good d (giveS d s i x) ∧ (giveS d s i x).free k = [] ++ [placeN d k j] ∧ roomS d (giveS d s i x) k = some (giveS d s i x) ∧ (giveS d s i x).gens (placeN d k j / d.ps) (placeN d k j % d.ps / d.sz k) = 1 ∧
      Good d (takeS d (giveS d s i x) k (placeN d k j)) ∧ findN d (takeS d (giveS d s i x) k (placeN d k j)) (hnd (placeN d k j) 1) = some (i, x, placeN d k j) ∧ (takeS d (giveS d s i x) k (placeN d k j)).cls i = k ∧
      (takeS d (giveS d s i x) k (placeN d k j)).rt k = d.np * d.n k ∧ (takeS d (giveS d s i x) k (placeN d k j)).free k = [] := by
  obtain ⟨-, hi, ho, hc, hx, ht⟩ := f.find ok hk hj (Nat.le_refl _) hj
  rw [← ei] at hi ho hc ht
  rw [← ex] at hx ht
  have hp : placeN d k j = i * d.ps + x * d.sz k := by rw [ei, ex]; rfl
  obtain ⟨pl1, pl2, pl3, -, -⟩ := place_of ok (i := i) hk hx
  rw [← hp] at pl1 pl2
  have hgood := f.good.give ok hi ho (by rw [hc]; exact hx) ht
  have hfr : (giveS d s i x).free k = [] ++ [placeN d k j] := by
    show (if s.lvs i then s.free else upd s.free (s.cls i) (s.free (s.cls i) ++ [i * d.ps + x * d.sz (s.cls i)])) k = _
    rw [f.lvs i, if_neg (by simp), hc, upd_at, (f.full ok hk).1, ← hp]
  have hgen : (giveS d s i x).gens i x = 1 := by
    show upd s.gens i (upd (s.gens i) x ((s.gens i x + 1) % 4294967296)) i x = 1
    rw [upd_at, upd_at, f.gens]
  have e2 : placeN d k j % d.ps / d.sz k = x := by rw [pl2, pl3]
  have hroom : roomS d (giveS d s i x) k = some (giveS d s i x) := by
    unfold roomS
    rw [hfr]
    rfl
  have hg2 := hgood.take ok hk hfr
  have o2 : (takeS d (giveS d s i x) k (placeN d k j)).own i = true := ho
  have c2 : (takeS d (giveS d s i x) k (placeN d k j)).cls i = k := hc
  have t2 : (takeS d (giveS d s i x) k (placeN d k j)).tkn i x = true := by
    show upd (giveS d s i x).tkn (placeN d k j / d.ps) (upd ((giveS d s i x).tkn (placeN d k j / d.ps)) (placeN d k j % d.ps / d.sz k) true) i x = true
    rw [pl1, e2, upd_at, upd_at]
  have key := find_hnd ok (s := takeS d (giveS d s i x) k (placeN d k j)) (G := 1) hi o2 (by rw [c2]; exact hk) (by rw [c2]; exact hx) t2 hgen
  rw [c2, ← hp] at key
  have r0 : 1 ≤ s.rt k := by
    have := (f.good.rt_pos ok hi ho (by rw [hc]; exact hx) ht).2.1
    rwa [hc] at this
  refine ⟨hgood, hfr, hroom, by rw [pl1, e2]; exact hgen, hg2, key, c2, ?_, ?_⟩
  · show upd (upd s.rt (s.cls i) (s.rt (s.cls i) - 1)) k (upd s.rt (s.cls i) (s.rt (s.cls i) - 1) k + 1) k = _
    rw [hc, upd_at, upd_at]
    have := f.rt
    omega
  · show upd (giveS d s i x).free k ((giveS d s i x).free k).dropLast k = []
    rw [upd_at, hfr]
    rfl
end
end Go.Proofs.Ytgodinapdahocaa.Cls
