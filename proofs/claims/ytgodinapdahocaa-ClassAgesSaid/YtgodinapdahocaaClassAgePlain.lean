/-
  A chunk that is taken and given again and again: in plain numbers.
-/
import Derived.Test.YtgodinapdahocaaClassFillPlain
namespace Go.Proofs.Ytgodinapdahocaa.Cls
open Go.RowKit Base MapG
set_option linter.unusedVariables false

/-- Page 0 alone is a class's, k's; nothing is taken; its first chunk is of generation i, and the next to be taken. -/
structure AgA (d : Cf) (k i M : Nat) (s : St) : Prop where
  good : Good d s
  own : ∀ j, s.own j = decide (j = 0)
  cls : s.cls 0 = k
  lvs : s.lvs 0 = false
  tkn : ∀ x, s.tkn 0 x = false
  gens : s.gens 0 0 = i
  last : ∃ l, s.free k = l ++ [0]
  om : s.om 0 ≤ M
/-- No page is a class's. -/
structure AgB (d : Cf) (i M : Nat) (s : St) : Prop where
  good : Good d s
  own : ∀ j, s.own j = false
  old : s.old 0 0 = i
  om : s.om 0 ≤ M
theorem agB_new (d : Cf) : AgB d 0 0 (new0 d) := ⟨new0_good, fun _ => rfl, rfl, Nat.le_refl _⟩
theorem freesTo_last {d : Cf} {s : St} (ht : s.tkn 0 0 = false) : ∀ n, ∃ l, freesTo d s 0 (n + 1) = l ++ [0]
  | 0 => ⟨[], by unfold freesTo; rw [if_neg (by rw [ht]; simp)]; simp [freesTo]⟩
  | n + 1 => by
    obtain ⟨l, hl⟩ := freesTo_last ht n
    unfold freesTo
    split
    · exact ⟨l, hl⟩
    · exact ⟨_ :: l, by rw [hl]; rfl⟩
section
variable {d : Cf} (ok : d.Ok) {k i M : Nat} (hk : k < d.nc) {s : St}
include ok hk
omit ok hk in
theorem AgA.room (a : AgA d k i M s) : roomS d s k = some s := by
  obtain ⟨l, hl⟩ := a.last
  unfold roomS
  cases hf : s.free k with
  | nil => rw [hf] at hl; simp at hl
  | cons x xs => rfl
omit ok in
theorem AgB.nofree (b : AgB d i M s) : s.free k = [] := by
  refine List.eq_nil_iff_forall_not_mem.2 fun p hp => ?_
  obtain ⟨j, x, -, h2, -⟩ := (b.good.free k hk p).1 hp
  rw [b.own j] at h2
  cases h2
theorem AgB.room (b : AgB d i M s) : ∃ s1, roomS d s k = some s1 ∧ AgA d k i M s1 := by
  obtain ⟨hn, -⟩ := n_pos ok hk
  have hnp := ok.np
  have hf := b.nofree hk
  have hlow : low d s = some 0 := low_eq (by omega) (b.own 0) fun j hj => by omega
  have hc : (widen1 d s k 0).cls 0 = k := upd_at s.cls 0 k
  have fk : (widenS d s k 0).free = upd s.free k (s.free k ++ freesTo d (widen1 d s k 0) 0 (d.n k)) := by
    show upd (widen1 d s k 0).free ((widen1 d s k 0).cls 0) ((widen1 d s k 0).free ((widen1 d s k 0).cls 0) ++ frees d (widen1 d s k 0) 0) = _
    unfold frees
    rw [hc]
    rfl
  refine ⟨widenS d s k 0, by unfold roomS; rw [hf, hlow], b.good.widen ok hk (by omega) (b.own 0), fun j => ?_, hc, (b.good.out 0 (b.own 0)).1, fun x => ?_, ?_, ?_, b.om⟩
  · show upd s.own 0 true j = _
    unfold upd
    by_cases hj : j = 0
    · rw [if_pos hj]; simp [hj]
    · rw [if_neg hj, b.own j]; simp [hj]
  · show upd s.tkn 0 (fun _ => false) 0 x = false
    rw [upd_at]
  · show upd s.gens 0 (fun x => if x < d.n k then s.old 0 (x * d.sz k) else 0) 0 0 = i
    rw [upd_at]
    show (if 0 < d.n k then s.old 0 (0 * d.sz k) else 0) = i
    rw [if_pos (by omega), Nat.zero_mul, b.old]
  · obtain ⟨n, hn'⟩ : ∃ n, d.n k = n + 1 := ⟨d.n k - 1, by omega⟩
    obtain ⟨l, hl⟩ := freesTo_last (d := d) (s := widen1 d s k 0) (show upd s.tkn 0 (fun _ => false) 0 0 = false by rw [upd_at]) n
    exact ⟨l, by rw [fk, upd_at, hf, hn', hl]; rfl⟩
theorem AgA.turn (a : AgA d k i M s) (hi : i + 1 < 4294967296) : ∃ l, s.free k = l ++ [0] ∧ s.gens (0 / d.ps) (0 % d.ps / d.sz k) = i ∧ Good d (takeS d s k 0) ∧ findN d (takeS d s k 0) (hnd 0 i) = some (0, 0, 0) ∧ AgA d k (i + 1) M (giveS d (takeS d s k 0) 0 0) := by
  obtain ⟨l, hl⟩ := a.last
  obtain ⟨hn, -⟩ := n_pos ok hk
  have hnp := ok.np
  have e1 : 0 / d.ps = 0 := Nat.zero_div _
  have e2 : 0 % d.ps / d.sz k = 0 := by rw [Nat.zero_mod, Nat.zero_div]
  have hg := a.good.take ok hk hl
  have o0 : (takeS d s k 0).own 0 = true := by show s.own 0 = true; rw [a.own]; rfl
  have c0 : (takeS d s k 0).cls 0 = k := a.cls
  have t0 : (takeS d s k 0).tkn 0 0 = true := by
    show upd s.tkn (0 / d.ps) (upd (s.tkn (0 / d.ps)) (0 % d.ps / d.sz k) true) 0 0 = true
    rw [e1, e2, upd_at, upd_at]
  have l0 : (takeS d s k 0).lvs 0 = false := a.lvs
  have g0 : (takeS d s k 0).gens 0 0 = i := a.gens
  have f0 : (takeS d s k 0).free k = l := by
    show upd s.free k (s.free k).dropLast k = l
    rw [upd_at, hl, List.dropLast_concat]
  have fd := find_hnd ok (s := takeS d s k 0) (i := 0) (x := 0) (G := i) (by omega) o0 (by rw [c0]; exact hk) (by rw [c0]; omega) t0 g0
  rw [Nat.zero_mul, Nat.zero_mul, Nat.add_zero] at fd
  have hg2 := hg.give ok (i := 0) (x := 0) (by omega) o0 (by rw [c0]; omega) t0
  refine ⟨l, hl, by rw [e1, e2, a.gens], hg, fd, hg2, a.own, a.cls, a.lvs, fun x => ?_, ?_, ⟨l, ?_⟩, a.om⟩
  · show upd (takeS d s k 0).tkn 0 (upd ((takeS d s k 0).tkn 0) 0 false) 0 x = false
    rw [upd_at]
    unfold upd
    split
    · rfl
    · rename_i hx
      show upd s.tkn (0 / d.ps) (upd (s.tkn (0 / d.ps)) (0 % d.ps / d.sz k) true) 0 x = false
      rw [e1, e2, upd_at, upd_ne _ _ hx, a.tkn]
  · show upd (takeS d s k 0).gens 0 (upd ((takeS d s k 0).gens 0) 0 (((takeS d s k 0).gens 0 0 + 1) % 4294967296)) 0 0 = i + 1
    rw [upd_at, upd_at, g0]
    omega
  · show (if (takeS d s k 0).lvs 0 then (takeS d s k 0).free else upd (takeS d s k 0).free ((takeS d s k 0).cls 0) ((takeS d s k 0).free ((takeS d s k 0).cls 0) ++ [0 * d.ps + 0 * d.sz ((takeS d s k 0).cls 0)])) k = l ++ [0]
    rw [l0, if_neg (by simp), c0, upd_at, f0, Nat.zero_mul, Nat.zero_mul]
theorem AgA.go (a : AgA d k i M s) : s.own 0 = true ∧ s.lvs 0 = false ∧ Good d (leaveS d s 0) ∧ (leaveS d s 0).own 0 = true ∧ (leaveS d s 0).lvs 0 = true ∧ (leaveS d s 0).held 0 = 0 ∧ (leaveS d s 0).cls 0 = k ∧ (leaveS d s 0).om 0 = s.om 0 ∧
    AgB d i (M + d.n k) (releaseS d (leaveS d s 0) 0) := by
  obtain ⟨hn, -⟩ := n_pos ok hk
  have hnp := ok.np
  have o0 : s.own 0 = true := by rw [a.own]; rfl
  have hg := a.good.leave ok (i := 0) (by omega) o0 a.lvs
  have l1 : (leaveS d s 0).lvs 0 = true := upd_at s.lvs 0 true
  have h0 : (leaveS d s 0).held 0 = 0 := by
    show s.held 0 = 0
    rw [a.good.held 0 (by omega) o0]
    exact cnt_none fun x _ => a.tkn x
  have hg2 := hg.release ok (i := 0) (by omega) o0 l1 h0
  refine ⟨o0, a.lvs, hg, o0, l1, h0, a.cls, rfl, hg2, fun j => ?_, ?_, ?_⟩
  · show upd s.own 0 false j = false
    unfold upd
    by_cases hj : j = 0
    · rw [if_pos hj]
    · rw [if_neg hj, a.own j]; simp [hj]
  · show upd s.old 0 (fun x => if x % d.sz (s.cls 0) = 0 ∧ x / d.sz (s.cls 0) < d.n (s.cls 0) then s.gens 0 (x / d.sz (s.cls 0)) else s.old 0 x) 0 0 = i
    rw [upd_at]
    show (if 0 % d.sz (s.cls 0) = 0 ∧ 0 / d.sz (s.cls 0) < d.n (s.cls 0) then s.gens 0 (0 / d.sz (s.cls 0)) else s.old 0 0) = i
    rw [Nat.zero_mod, Nat.zero_div, if_pos ⟨rfl, by rw [a.cls]; omega⟩, a.gens]
  · show upd s.om 0 (s.om 0 + d.n (s.cls 0)) 0 ≤ _
    rw [upd_at, a.cls]
    have := a.om
    omega
end
theorem AgA.more {d : Cf} {k i M M' : Nat} {s : St} (a : AgA d k i M s) (h : M ≤ M') : AgA d k i M' s := { a with om := Nat.le_trans a.om h }
theorem AgB.more {d : Cf} {i M M' : Nat} {s : St} (a : AgB d i M s) (h : M ≤ M') : AgB d i M' s := { a with om := Nat.le_trans a.om h }
/-- A handle of another generation is no good. -/
theorem find_none {d : Cf} {s : St} {H : Nat} (h : s.gens 0 0 ≠ H / 4294967296) (hH : H % 4294967296 = 1) : findN d s H = none := by
  unfold findN
  rw [hH]
  split
  · rfl
  · cases hc : chunkN d s (((1 - 1) * 8 : Nat) : Int) with
    | none => rfl
    | some r =>
      obtain ⟨j, x⟩ := r
      simp only
      have hj : j = 0 ∧ x = 0 := by
        unfold chunkN at hc
        split at hc
        · split at hc
          · injection hc with hc
            injection hc with e1 e2
            rw [← e1, ← e2]
            constructor
            · show (0 : Nat) / d.ps = 0
              exact Nat.zero_div _
            · show (0 : Nat) % d.ps / _ = 0
              rw [Nat.zero_mod, Nat.zero_div]
          · cases hc
        · cases hc
      obtain ⟨rfl, rfl⟩ := hj
      rw [if_neg (fun hh => h hh.2)]
end Go.Proofs.Ytgodinapdahocaa.Cls
