/-
  Contracts and lemmas, joined: LruProg, LruDue, LruBegun, LruRowPlain.
-/
import Derived.Test.YtngehaiigbbknaaGreatJ9
set_option linter.unusedSimpArgs false
set_option linter.unusedVariables false
/-
  The program's Lru: the mark, Enter, Leave, Hit, Len.
-/
namespace Go.Proofs.YtngehaiigbbknaaGreat.Que
open Go.RowKit Base Arena Cls Itm
set_option linter.unusedVariables false
set_option linter.unusedSectionVars false

/-- An Lru over its queues, with the marks of all items. -/
structure LS (w : World) (L : Lay) (s : St) (bs : List UInt8) (Z : Nat → Option Zd) (gq gl : Nat) (Ls : Nat → Nat → List Nat) (mk : Nat → Nat) (g : Nat) (hot warm : Int) : Prop where
  q : QW w L qc s bs Z gq gl Ls
  m : Mks qc s bs Z mk
  b : Blk w g 97 #[.pointer (some ⟨L.g, 0, none⟩), .pointer (some ⟨gq, 0, none⟩), .int .i64 hot, .int .i64 warm]
  ga : g ≠ L.ha
  gg : g ≠ gl
/-- What a call of it changed. -/
def DL (w w' : World) (L : Lay) (s : St) (bs : List UInt8) (Z : Nat → Option Zd) (gq gl : Nat) (Ls' : Nat → Nat → List Nat) (mk' : Nat → Nat) (g : Nat) (hot warm : Int) : Prop :=
  Only (Two L gl) w w' ∧ ∃ bs' Z', bs'.length = bs.length ∧ (∀ H, (Z' H).isSome = (Z H).isSome) ∧ LS w' L s bs' Z' gq gl Ls' mk' g hot warm
def actB (s : St) (Z : Nat → Option Zd) (mk : Nat → Nat) (H : Nat) : Bool := isN qc s Z H && (mk H % 2 == 1)
theorem actB_congr {s : St} {Z Z' : Nat → Option Zd} (h : ∀ H, (Z' H).isSome = (Z H).isSome) (mk : Nat → Nat) (H : Nat) : actB s Z' mk H = actB s Z mk H := by
  unfold actB isN
  rw [h]
theorem isN_congr {s : St} {Z Z' : Nat → Option Zd} (h : ∀ H, (Z' H).isSome = (Z H).isSome) (H : Nat) : isN qc s Z' H = isN qc s Z H := by
  unfold isN
  rw [h]
/-- The marks with the mark set, or taken away. -/
def mkOn (mk : Nat → Nat) (H : Nat) (on : Bool) : Nat → Nat := upd mk H (if on then 2 * (mk H / 2) + 1 else 2 * (mk H / 2))
def entM (mk : Nat → Nat) (H : Nat) (e : Nat) : Nat → Nat := if e = 0 then mkOn mk H false else mk
section
variable {w : World} {L : Lay} {s : St} {bs : List UInt8} {Z : Nat → Option Zd} {gq gl : Nat} {Ls : Nat → Nat → List Nat} {mk : Nat → Nat} {g : Nat} {hot warm : Int} (h : LS w L s bs Z gq gl Ls mk g hot warm)
include h
theorem LS.okc : qc.cf.Ok := by obtain ⟨F, S, q⟩ := h.q; exact S.okc
theorem LS.good : Cls.Good qc.cf s := by obtain ⟨F, S, q⟩ := h.q; exact S.zs.good
theorem LS.set : SetAt w L qc s bs := by obtain ⟨F, S, q⟩ := h.q; exact S.zs.set
theorem LS.below {w' : World} (b : Below w.heap.size w w') : LS w' L s bs Z gq gl Ls mk g hot warm := by
  obtain ⟨F, S, q⟩ := h.q
  exact ⟨⟨F, S.below b, q⟩, h.m, h.b.below b h.b.lt, h.ga, h.gg⟩
theorem LS.same {w' : World} (b : Below w.heap.size w w') : DL w w' L s bs Z gq gl Ls mk g hot warm := ⟨below_two b, bs, Z, rfl, fun _ => rfl, h.below b⟩
theorem LS.did {w' : World} {r : Nat × (Nat → Nat → List Nat)} (D : Did w w' L qc s bs Z gq gl r) : DL w w' L s bs Z gq gl r.2 mk g hot warm := by
  obtain ⟨o, bs', Z', hE, hz, -, Q⟩ := D
  exact ⟨o, bs', Z', hE.1, hz, Q, h.m.ed h.okc h.good hE hz, (o.block _ h.b.lt (by rintro (e | e); exact h.ga e; exact h.gg e)).trans h.b, h.ga, h.gg⟩
theorem LS.cells : w.cell? ⟨g, 0, none⟩ = some (.pointer (some ⟨L.g, 0, none⟩)) ∧ w.cell? ⟨g, 1, none⟩ = some (.pointer (some ⟨gq, 0, none⟩)) ∧ w.cell? ⟨g, 2, none⟩ = some (.int .i64 hot) ∧ w.cell? ⟨g, 3, none⟩ = some (.int .i64 warm) := ⟨h.b.cell 0, h.b.cell 1, h.b.cell 2, h.b.cell 3⟩
set_option maxRecDepth 100000 in
theorem activeC (H : Nat) (hH : H < 18446744073709551616) : Calls Tryz.prog 70 #[.pointer (some ⟨g, 0, none⟩), .int .u64 (H : Int)] w fun e w' => e = .returned (.bool (actB s Z mk H)) ∧ Below w.heap.size w w' := by
  obtain ⟨x0, -, -, -⟩ := h.cells
  have key : ∃ (v e : Nat), (Calls Tryz.prog 46 #[.pointer (some ⟨L.g, 0, none⟩), .int .u64 (H : Int)] w fun x w' => x = .returned (.tuple #[.int .i64 (v : Int), .int .i64 (e : Int)]) ∧ Below w.heap.size w w') ∧ v < 16 ∧ ((e ≠ 0 ∧ actB s Z mk H = false) ∨ (e = 0 ∧ v % 2 = 0 ∧ actB s Z mk H = false) ∨ (e = 0 ∧ v % 2 = 1 ∧ actB s Z mk H = true)) := by
    unfold actB isN
    cases hf : findN qc.cf s H with
    | none => exact ⟨0, 20, marksNo h.q hH hf, by omega, .inl ⟨by omega, rfl⟩⟩
    | some t =>
      obtain ⟨i, x, p⟩ := t
      cases hz : Z H with
      | none => exact ⟨0, 0, marksNone h.q hH hf hz, by omega, .inr (.inl ⟨rfl, rfl, rfl⟩)⟩
      | some z =>
        refine ⟨mk H, 0, marksYes h.q h.m hH hf hz, (h.m H i x p hf (by rw [hz]; rfl)).2, .inr ?_⟩
        have : mk H % 2 = 0 ∨ mk H % 2 = 1 := by omega
        rcases this with e | e
        · exact .inl ⟨rfl, e, by rw [e]; rfl⟩
        · exact .inr ⟨rfl, e, by rw [e]; rfl⟩
  obtain ⟨v, e, MC, hv, hB⟩ := key
  have a1 := and_one hv
  replace MC := Lib.hid MC
  clear h
  rcases hB with ⟨he, hB⟩ | ⟨rfl, e1, hB⟩ | ⟨rfl, e1, hB⟩ <;> rw [hB] <;> clear hB
  · have d1 : ((e : Int) == 0) = false := by rw [beq_eq_false_iff_ne]; omega
    have d2 : decide ((e : Int) = 0) = false := decide_eq_false (by omega)
    have d3 : decide (e = 0) = false := decide_eq_false he
    go_enter Tryz.func70, Tryz.ntmps70
    go_wp2_with fail
    refine MC.out.mono ?_
    rintro x w' ⟨rfl, b⟩
    replace b := Lib.hid b
    go_wp2
    go_ret
    exact ⟨rfl, b.out⟩
  · rw [e1] at a1
    replace e1 := Lib.hid e1
    go_enter Tryz.func70, Tryz.ntmps70
    go_wp2_with fail
    refine MC.out.mono ?_
    rintro x w' ⟨rfl, b⟩
    replace b := Lib.hid b
    go_wp2
    go_ret
    exact ⟨rfl, b.out⟩
  · rw [e1] at a1
    replace e1 := Lib.hid e1
    go_enter Tryz.func70, Tryz.ntmps70
    go_wp2_with fail
    refine MC.out.mono ?_
    rintro x w' ⟨rfl, b⟩
    replace b := Lib.hid b
    go_wp2
    go_ret
    exact ⟨rfl, b.out⟩
set_option maxRecDepth 100000 in
theorem lmarkC (H : Nat) (hH : H < 18446744073709551616) (hI : isN qc s Z H = true) (on : Bool) : Calls Tryz.prog 73 #[.pointer (some ⟨g, 0, none⟩), .int .u64 (H : Int), .bool on] w fun e w' => e = .returned (.tuple #[]) ∧ DL w w' L s bs Z gq gl Ls (mkOn mk H on) g hot warm := by
  obtain ⟨x0, -, -, -⟩ := h.cells
  unfold isN at hI
  obtain ⟨i1, i2⟩ := Bool.and_eq_true_iff.1 hI
  obtain ⟨⟨i, x, p⟩, hf⟩ := Option.isSome_iff_exists.1 i1
  obtain ⟨z, hz⟩ := Option.isSome_iff_exists.1 i2
  have hv := (h.m H i x p hf (by rw [hz]; rfl)).2
  have MC := Lib.hid (marksYes h.q h.m hH hf hz)
  have SC := fun (v : Nat) (hv : v < 16) w1 (b : Below w.heap.size w w1) => setMarksYes (h.below b).q h.m hH hf hz hv
  have a1 := andnot_one hv
  have a2 := or_one hv
  have fin : ∀ w1 w2, Below w.heap.size w w1 → Only (Two L gl) w1 w2 → (∃ bs', bs'.length = bs.length ∧ QW w2 L qc s bs' Z gq gl Ls ∧ Mks qc s bs' Z (mkOn mk H on)) → DL w w2 L s bs Z gq gl Ls (mkOn mk H on) g hot warm := by
    rintro w1 w2 b o ⟨bs', e1, Q, M⟩
    refine ⟨two_trans (below_two b) o, bs', Z, e1, fun _ => rfl, Q, M, ?_, h.ga, h.gg⟩
    exact (o.block _ (Nat.lt_of_lt_of_le h.b.lt b.size) (by rintro (e | e); exact h.ga e; exact h.gg e)).trans (h.b.below b h.b.lt)
  have x0' := fun w1 (b : Below w.heap.size w w1) => (h.below b).cells.1
  replace x0' := Lib.hid x0'
  cases on with
  | true =>
    have hm : upd mk H (2 * (mk H / 2) + 1) = mkOn mk H true := rfl
    have S1 := SC (2 * (mk H / 2) + 1) (by omega)
    rw [hm] at S1
    generalize mkOn mk H true = M at *
    generalize mk H = v at *
    replace S1 := Lib.hid S1
    replace fin := Lib.hid fin
    generalize hv2 : 2 * (v / 2) = v2 at *
    generalize hv3 : v2 + 1 = v3 at *
    replace hv2 := Lib.hid hv2
    replace hv3 := Lib.hid hv3
    clear h hf hz hI i1 i2 SC hm
    go_enter Tryz.func73, Tryz.ntmps73
    go_wp2_with fail
    refine MC.out.mono ?_
    rintro e w1 ⟨rfl, b⟩
    have x1 := x0'.out w1 b
    have S2 := Lib.hid (S1.out w1 b)
    replace b := Lib.hid b
    go_wp2_with fail
    refine S2.out.mono ?_
    rintro e w2 ⟨rfl, o, R⟩
    have T := Lib.hid (fin.out w1 w2 b.out o R)
    clear o R S1 S2
    go_wp2
    go_end0
    exact ⟨rfl, T.out⟩
  | false =>
    have hm : upd mk H (2 * (mk H / 2)) = mkOn mk H false := rfl
    have S1 := SC (2 * (mk H / 2)) (by omega)
    rw [hm] at S1
    generalize mkOn mk H false = M at *
    generalize mk H = v at *
    replace S1 := Lib.hid S1
    replace fin := Lib.hid fin
    generalize hv2 : 2 * (v / 2) = v2 at *
    replace hv2 := Lib.hid hv2
    clear h hf hz hI i1 i2 SC hm
    go_enter Tryz.func73, Tryz.ntmps73
    go_wp2_with fail
    refine MC.out.mono ?_
    rintro e w1 ⟨rfl, b⟩
    have x1 := x0'.out w1 b
    have S2 := Lib.hid (S1.out w1 b)
    replace b := Lib.hid b
    go_wp2_with fail
    refine S2.out.mono ?_
    rintro e w2 ⟨rfl, o, R⟩
    have T := Lib.hid (fin.out w1 w2 b.out o R)
    clear o R S1 S2
    go_wp2
    go_end0
    exact ⟨rfl, T.out⟩
end
theorem DL.trans {w w1 w2 : World} {L : Lay} {s : St} {bs : List UInt8} {Z : Nat → Option Zd} {gq gl : Nat} {L1 L2 : Nat → Nat → List Nat} {m1 m2 : Nat → Nat} {g : Nat} {hot warm : Int} (h : DL w w1 L s bs Z gq gl L1 m1 g hot warm)
    (k : ∀ bs1 Z1, bs1.length = bs.length → (∀ H, (Z1 H).isSome = (Z H).isSome) → LS w1 L s bs1 Z1 gq gl L1 m1 g hot warm → DL w1 w2 L s bs1 Z1 gq gl L2 m2 g hot warm) : DL w w2 L s bs Z gq gl L2 m2 g hot warm := by
  obtain ⟨o, bs1, Z1, e1, z1, S1⟩ := h
  obtain ⟨o2, bs2, Z2, e2, z2, S2⟩ := k bs1 Z1 e1 z1 S1
  exact ⟨two_trans o o2, bs2, Z2, e2.trans e1, fun H => (z2 H).trans (z1 H), S2⟩
theorem pushN_is {s : St} {Z : Nat → Option Zd} {Ls : Nat → Nat → List Nat} {H : Nat} {kind : Int} {last : Bool} (h : (pushN qc s Z Ls H kind last).1 = 0) : isN qc s Z H = true := by
  unfold pushN at h
  split at h
  · cases h
  split at h
  · cases h
  · rename_i h1
    simpa using h1
section
variable {w : World} {L : Lay} {s : St} {bs : List UInt8} {Z : Nat → Option Zd} {gq gl : Nat} {Ls : Nat → Nat → List Nat} {mk : Nat → Nat} {g : Nat} {hot warm : Int} (h : LS w L s bs Z gq gl Ls mk g hot warm)
include h
set_option maxRecDepth 100000 in
theorem enterC (H : Nat) (hH : H < 18446744073709551616) : Calls Tryz.prog 36 #[.pointer (some ⟨g, 0, none⟩), .int .u64 (H : Int)] w fun e w' => e = .returned (.int .i64 ((pushN qc s Z Ls H 1 false).1 : Int)) ∧ DL w w' L s bs Z gq gl (pushN qc s Z Ls H 1 false).2 (entM mk H (pushN qc s Z Ls H 1 false).1) g hot warm := by
  obtain ⟨-, x1, -, -⟩ := h.cells
  have PC := pushP h.q H hH 1
  have hI := pushN_is (s := s) (Z := Z) (Ls := Ls) (H := H) (kind := 1) (last := false)
  obtain ⟨RR, Lx, hP⟩ : ∃ RR Lx, pushN qc s Z Ls H 1 false = (RR, Lx) := ⟨_, _, rfl⟩
  rw [hP] at PC hI ⊢
  simp only at PC hI ⊢
  have hd := fun w1 (D : Did w w1 L qc s bs Z gq gl (RR, Lx)) => h.did D
  replace PC := Lib.hid PC
  replace hd := Lib.hid hd
  replace hI := Lib.hid hI
  clear h hP
  by_cases h0 : RR = 0
  · subst h0
    have em : entM mk H 0 = mkOn mk H false := rfl
    rw [em]
    go_enter Tryz.func36, Tryz.ntmps36
    go_wp2_with fail
    refine PC.out.mono ?_
    rintro e w1 ⟨rfl, D⟩
    obtain ⟨o1, bs1, Z1, e1, z1, S1⟩ := hd.out w1 D
    have MC := Lib.hid (lmarkC S1 H hH (by rw [isN_congr z1]; first | exact hI.out rfl | exact hI.out trivial) false)
    have tr := Lib.hid (fun w2 (k : DL w1 w2 L s bs1 Z1 gq gl Lx (mkOn mk H false) g hot warm) => show DL w w2 L s bs Z gq gl Lx (mkOn mk H false) g hot warm from by
      obtain ⟨o2, bs2, Z2, e2, z2, S2⟩ := k
      exact ⟨two_trans o1 o2, bs2, Z2, e2.trans e1, fun H => (z2 H).trans (z1 H), S2⟩)
    clear D PC o1 S1 e1 z1 em
    go_wp2_with fail
    refine MC.out.mono ?_
    rintro e w2 ⟨rfl, D2⟩
    have T := Lib.hid (tr.out w2 D2)
    clear D2
    go_wp2
    go_ret
    exact ⟨rfl, T.out⟩
  · have em : entM mk H RR = mk := if_neg h0
    rw [em]
    have d1 : ((RR : Int) == 0) = false := by rw [beq_eq_false_iff_ne]; omega
    have d2 : decide ((RR : Int) = 0) = false := decide_eq_false (by omega)
    have d3 : decide (RR = 0) = false := decide_eq_false h0
    go_enter Tryz.func36, Tryz.ntmps36
    go_wp2_with fail
    refine PC.out.mono ?_
    rintro e w1 ⟨rfl, D⟩
    have D1 := Lib.hid (hd.out w1 D)
    clear D PC em
    go_wp2
    go_ret
    exact ⟨rfl, D1.out⟩
def lenX (Ls : Nat → Nat → List Nat) (x : Int) (k : Int) : Nat := (lsN qc Ls x k).length
set_option maxRecDepth 100000 in
theorem lenC3 (x : Int) : Calls Tryz.prog 18 #[.pointer (some ⟨g, 0, none⟩), .int .i64 x] w fun e w' => e = .returned (.tuple #[.int .i64 (lenX Ls x 1 : Int), .int .i64 (lenX Ls x 2 : Int), .int .i64 (lenX Ls x 3 : Int)]) ∧ Below w.heap.size w w' := by
  obtain ⟨-, x1, -, -⟩ := h.cells
  have c1 := fun n => lenC (h.below (below_drewN (Below.refl w.heap.size w) n)).q x 1
  have c2 := fun n => lenC (h.below (below_drewN (Below.refl w.heap.size w) n)).q x 2
  have c3 := fun n => lenC (h.below (below_drewN (Below.refl w.heap.size w) n)).q x 3
  unfold lenX
  generalize (lsN qc Ls x 1).length = n1 at *
  generalize (lsN qc Ls x 2).length = n2 at *
  generalize (lsN qc Ls x 3).length = n3 at *
  replace c1 := Lib.hid c1
  replace c2 := Lib.hid c2
  replace c3 := Lib.hid c3
  clear h
  go_enter Tryz.func18, Tryz.ntmps18
  go_upto_region 1 with fail
  go_quiet (first | (go_at_call 43; with_reducible exact quiet_left (c1.out _)) | (go_at_call 43; with_reducible exact quiet_left (c2.out _)) | (go_at_call 43; with_reducible exact quiet_left (c3.out _)) | fail)
  go_wp2
  go_ret3
  exact ⟨rfl, by first | exact below_drewN (Below.refl _ _) _ | exact Below.refl _ _⟩
end
end Go.Proofs.YtngehaiigbbknaaGreat.Que
/-
  The program's Lru: which tail is to move.
-/
namespace Go.Proofs.YtngehaiigbbknaaGreat.Que
open Go.RowKit Base Arena Cls Itm
set_option linter.unusedVariables false
set_option linter.unusedSectionVars false

def tailX (Ls : Nat → Nat → List Nat) (x k : Int) : Nat := (lsN qc Ls x k).getLast?.getD 0
def totX (Ls : Nat → Nat → List Nat) (x : Int) : Nat := lenX Ls x 1 + lenX Ls x 2 + lenX Ls x 3
def hotB (Ls : Nat → Nat → List Nat) (hot x : Int) : Bool := decide ((totX Ls x : Int) * hot < 100 * (lenX Ls x 1 : Int))
def warmB (Ls : Nat → Nat → List Nat) (warm x : Int) : Bool := decide ((totX Ls x : Int) * warm < 100 * (lenX Ls x 2 : Int))
def coldB (s : St) (Z : Nat → Option Zd) (Ls : Nat → Nat → List Nat) (mk : Nat → Nat) (x : Int) : Bool := decide (0 < lenX Ls x 3) && actB s Z mk (tailX Ls x 3)
/-- The list whose tail moves now; 0: none. -/
def dueK (s : St) (Z : Nat → Option Zd) (Ls : Nat → Nat → List Nat) (mk : Nat → Nat) (hot warm x : Int) : Nat := if hotB Ls hot x then 1 else if warmB Ls warm x then 2 else if coldB s Z Ls mk x then 3 else 0
structure Shr (hot warm : Int) : Prop where
  h1 : 1 ≤ hot
  h2 : hot ≤ 90
  w1 : 1 ≤ warm
  w2 : warm ≤ 90
section
variable {w : World} {L : Lay} {s : St} {bs : List UInt8} {Z : Nat → Option Zd} {gq gl : Nat} {Ls : Nat → Nat → List Nat} {mk : Nat → Nat} {g : Nat} {hot warm : Int} (h : LS w L s bs Z gq gl Ls mk g hot warm)
include h
theorem LS.lenB (x k : Int) : lenX Ls x k ≤ 134217729 := by
  obtain ⟨F, S1, q⟩ := h.q
  unfold lenX lsN
  split
  · rename_i hv
    rw [← q.n _ _ (by omega) (by omega)]
    exact q.nB S1.okc S1.zs.good (by omega) (by omega)
  · simp
theorem LS.tail {x k : Int} (hne : 0 < lenX Ls x k) : It qc s Z (tailX Ls x k) ∧ tailX Ls x k < 18446744073709551616 ∧ (0 ≤ x ∧ x < 3 ∧ 1 ≤ k ∧ k ≤ 3) ∧ tailX Ls x k ∈ Ls x.toNat (k.toNat - 1) := by
  obtain ⟨F, S1, q⟩ := h.q
  unfold lenX lsN at hne
  unfold tailX lsN
  split at hne
  · rename_i hv
    rw [if_pos hv]
    have hx : x.toNat < qc.nc := by omega
    have hk : k.toNat - 1 < 3 := by omega
    have hm : (Ls x.toNat (k.toNat - 1)).getLast?.getD 0 ∈ Ls x.toNat (k.toNat - 1) := by
      cases e : Ls x.toNat (k.toNat - 1) with
      | nil => rw [e] at hne; simp at hne
      | cons a l => rw [List.getLast?_eq_some_getLast (by simp)]; exact List.getLast_mem _
    have hI := q.is hx hk hm
    obtain ⟨⟨i, y, p, hf⟩, -⟩ := hI
    have := qc_nc
    exact ⟨q.is hx hk hm, good_lt S1.okc S1.zs.good hf, by omega, hm⟩
  · simp at hne
set_option maxRecDepth 100000 in
theorem hotLongC (sh : Shr hot warm) (x : Int) : Calls Tryz.prog 130 #[.pointer (some ⟨g, 0, none⟩), .int .i64 x] w fun e w' => e = .returned (.bool (hotB Ls hot x)) ∧ Below w.heap.size w w' := by
  have LC := lenC3 h x
  have x2 := fun w1 (b : Below w.heap.size w w1) => (h.below b).cells.2.2.1
  have b1 := h.lenB x 1
  have b2 := h.lenB x 2
  have b3 := h.lenB x 3
  obtain ⟨h1, h2, -, -⟩ := sh
  unfold hotB totX
  generalize lenX Ls x 1 = n1 at *
  generalize lenX Ls x 2 = n2 at *
  generalize lenX Ls x 3 = n3 at *
  have q1 : IntKind.i64.wrap (100 * (n1 : Int)) = 100 * (n1 : Int) := IntWalk.i64_in _ (by omega)
  have q2 : IntKind.i64.wrap ((n1 : Int) + (n2 : Int)) = (n1 : Int) + (n2 : Int) := IntWalk.i64_in _ (by omega)
  have q3 : IntKind.i64.wrap ((n1 : Int) + (n2 : Int) + (n3 : Int)) = ((n1 + n2 + n3 : Nat) : Int) := by rw [IntWalk.i64_in _ (by omega)]; omega
  have hb : ((n1 + n2 + n3 : Nat) : Int) * hot ≤ 402653187 * 90 := Int.mul_le_mul (by omega) h2 (by omega) (by omega)
  have hb0 : 0 ≤ ((n1 + n2 + n3 : Nat) : Int) * hot := Int.mul_nonneg (by omega) (by omega)
  have q4 : IntKind.i64.wrap (((n1 + n2 + n3 : Nat) : Int) * hot) = ((n1 + n2 + n3 : Nat) : Int) * hot := IntWalk.i64_in _ (by omega)
  generalize n1 + n2 + n3 = nt at *
  replace x2 := Lib.hid x2
  replace LC := Lib.hid LC
  clear h b1 b2 b3 hb hb0
  go_enter Tryz.func130, Tryz.ntmps130
  go_wp2_with fail
  refine LC.out.mono ?_
  rintro e w1 ⟨rfl, b⟩
  have x2 := x2.out w1 b
  replace b := Lib.hid b
  go_wp2
  go_ret
  exact ⟨rfl, b.out⟩
set_option maxRecDepth 100000 in
theorem warmLongC (sh : Shr hot warm) (x : Int) : Calls Tryz.prog 131 #[.pointer (some ⟨g, 0, none⟩), .int .i64 x] w fun e w' => e = .returned (.bool (warmB Ls warm x)) ∧ Below w.heap.size w w' := by
  have LC := lenC3 h x
  have x2 := fun w1 (b : Below w.heap.size w w1) => (h.below b).cells.2.2.2
  have b1 := h.lenB x 1
  have b2 := h.lenB x 2
  have b3 := h.lenB x 3
  obtain ⟨-, -, h1, h2⟩ := sh
  unfold warmB totX
  generalize lenX Ls x 1 = n1 at *
  generalize lenX Ls x 2 = n2 at *
  generalize lenX Ls x 3 = n3 at *
  have q1 : IntKind.i64.wrap (100 * (n2 : Int)) = 100 * (n2 : Int) := IntWalk.i64_in _ (by omega)
  have q2 : IntKind.i64.wrap ((n1 : Int) + (n2 : Int)) = (n1 : Int) + (n2 : Int) := IntWalk.i64_in _ (by omega)
  have q3 : IntKind.i64.wrap ((n1 : Int) + (n2 : Int) + (n3 : Int)) = ((n1 + n2 + n3 : Nat) : Int) := by rw [IntWalk.i64_in _ (by omega)]; omega
  have hb : ((n1 + n2 + n3 : Nat) : Int) * warm ≤ 402653187 * 90 := Int.mul_le_mul (by omega) h2 (by omega) (by omega)
  have hb0 : 0 ≤ ((n1 + n2 + n3 : Nat) : Int) * warm := Int.mul_nonneg (by omega) (by omega)
  have q4 : IntKind.i64.wrap (((n1 + n2 + n3 : Nat) : Int) * warm) = ((n1 + n2 + n3 : Nat) : Int) * warm := IntWalk.i64_in _ (by omega)
  generalize n1 + n2 + n3 = nt at *
  replace x2 := Lib.hid x2
  replace LC := Lib.hid LC
  clear h b1 b2 b3 hb hb0
  go_enter Tryz.func131, Tryz.ntmps131
  go_wp2_with fail
  refine LC.out.mono ?_
  rintro e w1 ⟨rfl, b⟩
  have x2 := x2.out w1 b
  replace b := Lib.hid b
  go_wp2
  go_ret
  exact ⟨rfl, b.out⟩
set_option maxRecDepth 100000 in
theorem coldActiveC (x : Int) : Calls Tryz.prog 132 #[.pointer (some ⟨g, 0, none⟩), .int .i64 x] w fun e w' => e = .returned (.bool (coldB s Z Ls mk x)) ∧ Below w.heap.size w w' := by
  obtain ⟨-, x1, -, -⟩ := h.cells
  have TC := tailC h.q x 3
  unfold coldB
  by_cases hn : 0 < lenX Ls x 3
  · have AC := activeC h (tailX Ls x 3) (h.tail hn).2.1
    rw [decide_eq_true hn, Bool.true_and]
    have d1 : decide (0 < (lsN qc Ls x 3).length) = true := decide_eq_true hn
    rw [d1] at TC
    have e1 : (lsN qc Ls x 3).getLast?.getD 0 = tailX Ls x 3 := rfl
    rw [e1] at TC
    generalize tailX Ls x 3 = T at *
    generalize actB s Z mk T = B at *
    replace AC := Lib.hid AC
    replace TC := Lib.hid TC
    clear h hn d1 e1
    go_enter Tryz.func132, Tryz.ntmps132
    go_wp2_with fail
    refine TC.out.mono ?_
    rintro e w1 ⟨rfl, rfl⟩
    go_wp2_with fail
    refine AC.out.mono ?_
    rintro e w1 ⟨rfl, b⟩
    replace b := Lib.hid b
    go_wp2
    go_ret
    exact ⟨rfl, b.out⟩
  · rw [decide_eq_false hn, Bool.false_and]
    have d1 : decide (0 < (lsN qc Ls x 3).length) = false := decide_eq_false hn
    rw [d1] at TC
    generalize (lsN qc Ls x 3).getLast?.getD 0 = T at *
    replace TC := Lib.hid TC
    clear h hn d1
    go_enter Tryz.func132, Tryz.ntmps132
    go_wp2_with fail
    refine TC.out.mono ?_
    rintro e w1 ⟨rfl, rfl⟩
    go_wp2
    go_ret
    exact ⟨rfl, Below.refl _ _⟩
end
end Go.Proofs.YtngehaiigbbknaaGreat.Que
/-
  The walk of begun.
-/
namespace Go.Proofs.YtngehaiigbbknaaGreat.Que
open Go.RowKit Base Arena Cls Itm
set_option linter.unusedVariables false
set_option linter.unusedSectionVars false

section
variable {N : Nat} {w : World} {W : W6} {c : Conf} {s : St} {bs : List UInt8} {Z : Nat → Option Zd} {Ls Ld : Nat → Nat → List Nat} {r : RS} {laid told act : List Nat} {mk : Nat → Nat} (h : WAt N w W c s bs Z Ls Ld r laid told act mk)
include h
theorem WAt.shares (hg : W.gm = none) (hd : W.dm = none) (a b : Int) : WAt N w { W with hot := a, warm := b } c s bs Z Ls Ld r laid told act mk := by
  have ef : ∀ i, ({ W with hot := a, warm := b } : W6).foot c s i = W.foot c s i := fun i => by cases i <;> rfl
  refine ⟨h.q, h.ref, h.doc, h.own, h.told, fun i j b hi hj => h.sep i j b (by rw [← ef]; exact hi) (by rw [← ef]; exact hj), h.tb, fun i b hb => h.base i b (by rw [← ef]; exact hb), fun g e => ?_, fun d e => ?_, h.row, h.ad, h.mks⟩
  · rw [show ({ W with hot := a, warm := b } : W6).gm = W.gm from rfl, hg] at e; cases e
  · rw [show ({ W with hot := a, warm := b } : W6).dm = W.dm from rfl, hd] at e; cases e
theorem WAt.weak {N' : Nat} (hN : N' ≤ N) : WAt N' w W c s bs Z Ls Ld r laid told act mk := ⟨h.q, h.ref, h.doc, h.own, h.told, h.sep, h.tb, fun i b e => Nat.le_trans hN (h.base i b e), h.lru, h.dlr, h.row, h.ad, h.mks⟩
theorem WAt.setL (hg : W.gm = none) {g : Nat} (B : Blk w g 97 W.lc) (hf : ∀ i, ¬ W.foot c s i g) (hN : N ≤ g) : WAt N (w.setCell ⟨W.b, 2, none⟩ (.pointer (some ⟨g, 0, none⟩))) { W with gm := some g } c s bs Z Ls Ld r laid told act mk := by
  have o2 := only_cell1 (S := (· = W.b)) w W.b 2 (.pointer (some ⟨g, 0, none⟩)) rfl
  have ns : ∀ i b, i ≠ .own → W.foot c s i b → b ≠ W.b := fun i b hi hb e => hi (h.sep i .own b hb (.inl e))
  have gb : g ≠ W.b := fun e => hf .own (.inl e)
  have key : ∀ i b, ({ W with gm := some g } : W6).foot c s i b → (i = .lru ∧ b = g) ∨ W.foot c s i b := fun i b hb => by
    cases i with
    | lru => exact .inl ⟨rfl, by injection (show some g = some b from hb) with e; exact e.symm⟩
    | _ => exact .inr hb
  obtain ⟨F, S, q⟩ := h.q
  refine ⟨⟨F, ⟨S.zs.only o2 fun b hb => ns .set b (by simp) hb, S.q.only o2 (ns .queue _ (by simp) (.inl rfl)) (ns .queue _ (by simp) (.inr rfl)), S.fq, S.fl⟩, q⟩, h.ref.only o2 fun b hb => ns .ref b (by simp) hb, h.doc.only o2 fun b hb => ns .doc b (by simp) hb, h.own.set_ 2 _, own_keptN h.told fun b e => o2.block b (own_blockN h.told e) (fun e2 => h.tb (e2 ▸ e)), fun i j b hi hj => ?_, h.tb, fun i b hb => ?_, fun g' e => ?_, fun d e => (o2.block _ (h.dlr d e).lt (ns .act d (by simp) (.inl e))).trans (h.dlr d e), own_keptN h.row fun b e => o2.block b (own_blockN h.row e) (ns .act b (by simp) (.inr e)), h.ad, h.mks⟩
  · rcases key i b hi with ⟨e1, h1⟩ | h1 <;> rcases key j b hj with ⟨e2, h2⟩ | h2
    · rw [e1, e2]
    · exact absurd (h1 ▸ h2) (hf j)
    · exact absurd (h2 ▸ h1) (hf i)
    · exact h.sep i j b h1 h2
  · rcases key i b hb with ⟨e1, h1⟩ | h1
    · rw [h1]; exact hN
    · exact h.base i b h1
  · obtain rfl : g = g' := by injection (show some g = some g' from e)
    exact (o2.block _ B.lt gb).trans B
theorem WAt.setM (hd : W.dm = none) {d : Nat} (B : Blk w d 99 W.dc) (hv : W.vA.ownBlock = none) (hf : ∀ i, ¬ W.foot c s i d) (hN : N ≤ d) : WAt N (w.setCell ⟨W.b, 5, none⟩ (.pointer (some ⟨d, 0, none⟩))) { W with dm := some d } c s bs Z Ls Ld r laid told act mk := by
  have o2 := only_cell1 (S := (· = W.b)) w W.b 5 (.pointer (some ⟨d, 0, none⟩)) rfl
  have ns : ∀ i b, i ≠ .own → W.foot c s i b → b ≠ W.b := fun i b hi hb e => hi (h.sep i .own b hb (.inl e))
  have gb : d ≠ W.b := fun e => hf .own (.inl e)
  have key : ∀ i b, ({ W with dm := some d } : W6).foot c s i b → (i = .act ∧ b = d) ∨ W.foot c s i b := fun i b hb => by
    cases i with
    | act =>
      rcases hb with hb | hb
      · exact .inl ⟨rfl, by injection (show some d = some b from hb) with e; exact e.symm⟩
      · exact .inr (.inr hb)
    | _ => exact .inr hb
  obtain ⟨F, S, q⟩ := h.q
  refine ⟨⟨F, ⟨S.zs.only o2 fun b hb => ns .set b (by simp) hb, S.q.only o2 (ns .queue _ (by simp) (.inl rfl)) (ns .queue _ (by simp) (.inr rfl)), S.fq, S.fl⟩, q⟩, h.ref.only o2 fun b hb => ns .ref b (by simp) hb, h.doc.only o2 fun b hb => ns .doc b (by simp) hb, h.own.set_ 5 _, own_keptN h.told fun b e => o2.block b (own_blockN h.told e) (fun e2 => h.tb (e2 ▸ e)), fun i j b hi hj => ?_, h.tb, fun i b hb => ?_, fun g e => (o2.block _ (h.lru g e).lt (ns .lru g (by simp) e)).trans (h.lru g e), fun d' e => ?_, own_keptN h.row fun b e => o2.block b (own_blockN h.row e) (ns .act b (by simp) (.inr e)), fun d' e => ?_, h.mks⟩
  · rcases key i b hi with ⟨e1, h1⟩ | h1 <;> rcases key j b hj with ⟨e2, h2⟩ | h2
    · rw [e1, e2]
    · exact absurd (h1 ▸ h2) (hf j)
    · exact absurd (h2 ▸ h1) (hf i)
    · exact h.sep i j b h1 h2
  · rcases key i b hb with ⟨e1, h1⟩ | h1
    · rw [h1]; exact hN
    · exact h.base i b h1
  · obtain rfl : d = d' := by injection (show some d = some d' from e)
    exact (o2.block _ B.lt gb).trans B
  · show W.vA.ownBlock ≠ some d'
    rw [hv]
    intro e; cases e
end
set_option maxRecDepth 100000 in
/-- New of shares that may be. -/
theorem lruNewC (w : World) (g gq : Nat) (a b : Int) (h1 : 1 ≤ a) (h2 : 1 ≤ b) (h3 : a + b ≤ 90) : Calls Tryz.prog 12 #[.pointer (some ⟨g, 0, none⟩), .pointer (some ⟨gq, 0, none⟩), .int .i64 a, .int .i64 b] w fun e w' => e = .returned (.tuple #[.pointer (some ⟨w.heap.size, 0, none⟩), .int .i64 0]) ∧
    w' = w.alloc (.cells #[.pointer (some ⟨g, 0, none⟩), .pointer (some ⟨gq, 0, none⟩), .int .i64 a, .int .i64 b] 97) := by
  have d1 : decide (a < 1) = false := decide_eq_false (by omega)
  have d2 : decide (b < 1) = false := decide_eq_false (by omega)
  have d3 : decide (90 < a) = false := decide_eq_false (by omega)
  have q1 : IntKind.i64.wrap (90 - a) = 90 - a := IntWalk.i64_in _ (by omega)
  have d4 : decide (90 - a < b) = false := decide_eq_false (by omega)
  go_enter Tryz.func12, Tryz.ntmps12
  go_wp2
  go_ret2
  exact ⟨rfl, rfl⟩
set_option maxRecDepth 100000 in
theorem rlruNewC (w : World) (g : Nat) (a b : Int) (h1 : 1 ≤ a) (h2 : 1 ≤ b) (h3 : a + b ≤ 90) : Calls Tryz.prog 13 #[.pointer (some ⟨g, 0, none⟩), .int .i64 a, .int .i64 b] w fun e w' => e = .returned (.tuple #[.pointer (some ⟨w.heap.size, 0, none⟩), .int .i64 0]) ∧
    w' = w.alloc (.cells #[.pointer (some ⟨g, 0, none⟩), .int .i64 a, .int .i64 b, .slice none 0 0] 99) := by
  have d1 : decide (a < 1) = false := decide_eq_false (by omega)
  have d2 : decide (b < 1) = false := decide_eq_false (by omega)
  have d3 : decide (90 < a) = false := decide_eq_false (by omega)
  have d5 : decide (90 < b) = false := decide_eq_false (by omega)
  have q1 : IntKind.i64.wrap (a + b) = a + b := IntWalk.i64_in _ (by omega)
  have d4 : decide (90 < a + b) = false := decide_eq_false (by omega)
  go_enter Tryz.func13, Tryz.ntmps13
  go_wp2
  go_ret2
  exact ⟨rfl, rfl⟩
def hotN (a : Int) : Nat := 1 + (a % 89).toNat
def warmN (a b : Int) : Nat := 1 + (b % ((90 - hotN a : Nat) : Int)).toNat
theorem shares_in (a b : Int) : 1 ≤ hotN a ∧ hotN a ≤ 89 ∧ 1 ≤ warmN a b ∧ hotN a + warmN a b ≤ 90 := by
  have h1 : hotN a ≤ 89 := by unfold hotN; omega
  have h2 : b % ((90 - hotN a : Nat) : Int) < ((90 - hotN a : Nat) : Int) := Int.emod_lt_of_pos _ (by omega)
  have h3 : 0 ≤ b % ((90 - hotN a : Nat) : Int) := Int.emod_nonneg _ (by omega)
  refine ⟨by unfold hotN; omega, h1, by unfold warmN; omega, ?_⟩
  unfold warmN
  omega
set_option maxRecDepth 100000 in
theorem sharedC (w : World) (a b : Int) (ha : Cls.In a) (hb : Cls.In b) : Calls Tryz.prog 17 #[.agg #[.int .i64 a, .int .i64 b]] w fun e w' => e = .returned (.agg #[.int .i64 (hotN a : Int), .int .i64 (warmN a b : Int)]) ∧ Below w.heap.size w w' := by
  obtain ⟨s1, s2, s3, s4⟩ := shares_in a b
  have WA := Lib.hid (fun w => withinI (w := w) a 89 ha (by omega) (by omega))
  have WB := Lib.hid (fun w => withinI (w := w) b (90 - hotN a) hb (by omega) (by omega))
  have e1 : hotN a = 1 + (a % ((89 : Nat) : Int)).toNat := rfl
  have e2 : warmN a b = 1 + (b % ((90 - hotN a : Nat) : Int)).toNat := rfl
  generalize hA : (a % ((89 : Nat) : Int)).toNat = A at *
  generalize hotN a = H at *
  generalize hB : (b % ((90 - H : Nat) : Int)).toNat = B at *
  generalize warmN a b = V at *
  have q1 : IntKind.i64.wrap (1 + (A : Int)) = (H : Int) := by rw [IntWalk.i64_in _ (by omega)]; omega
  have q2 : IntKind.i64.wrap (90 - (H : Int)) = ((90 - H : Nat) : Int) := by rw [IntWalk.i64_in _ (by omega)]; omega
  have q3 : IntKind.i64.wrap (1 + (B : Int)) = (V : Int) := by rw [IntWalk.i64_in _ (by omega)]; omega
  generalize 90 - H = D at *
  obtain ⟨w1, hw1⟩ : ∃ w1, w1 = (w.alloc (.cells #[.int .i64 a, .int .i64 b] 38)).alloc (.cells #[.int .i64 0, .int .i64 0] 38) := ⟨_, rfl⟩
  have B1 : Blk w1 w.heap.size 38 #[.int .i64 a, .int .i64 b] := by rw [hw1]; exact (Blk.new w _ _).alloc _
  have C1 : Blk w1 (w.heap.size + 1) 38 #[.int .i64 0, .int .i64 0] := by rw [hw1]; exact blk_new' (World.size_alloc _ _)
  have b1 : Below w.heap.size w w1 := by rw [hw1]; exact ((Below.refl _ _).alloc (Nat.le_refl _) _).alloc (by rw [World.size_alloc]; omega) _
  have x0 := B1.cell 0
  have x1 := B1.cell 1
  have c0 := C1.cell 0
  have c1 := C1.cell 1
  have f0 := C1.frozen 0
  have f1 := C1.frozen 1
  replace hw1 := Lib.hid hw1
  replace b1 := Lib.hid b1
  replace hA := Lib.hid hA
  replace hB := Lib.hid hB
  clear ha hb s1 s2 s3 s4 e1 e2
  generalize hN : w.heap.size = N at *
  replace hN := Lib.hid hN
  rw [show ((89 : Nat) : Int) = 89 from rfl] at WA
  generalize hN1 : N + 1 = N1 at *
  have hle : N ≤ N1 := by omega
  go_enter Tryz.func17, Tryz.ntmps17
  go_upto_region 1 with fail
  rw [hN.out, hN1, ← hw1.out]
  go_wp2_with fail
  refine (WA.out _).mono ?_
  rintro e w' ⟨rfl, rfl⟩

  go_wp2_with fail
  refine (WB.out _).mono ?_
  rintro e w' ⟨rfl, rfl⟩

  go_wp2
  have C2 : Blk ((w1.setCell ⟨N1, 0, none⟩ (.int .i64 (H : Int))).setCell ⟨N1, 1, none⟩ (.int .i64 (V : Int))) N1 38 #[.int .i64 (H : Int), .int .i64 (V : Int)] := (C1.set_ 0 _).set_ 1 _
  have b2 : Below N w ((w1.setCell ⟨N1, 0, none⟩ (.int .i64 (H : Int))).setCell ⟨N1, 1, none⟩ (.int .i64 (V : Int))) := (b1.out.setCell (p := ⟨N1, 0, none⟩) hle _).setCell (p := ⟨N1, 1, none⟩) hle _
  exact bodyPost_ret (results_cell_row (P := Tryz.prog) rfl _ _ N1 38 _ (0, 0) _ rfl C2 Tryz.underlying38 rfl (by kernel_rfl)) rfl ⟨rfl, b2⟩
set_option maxRecDepth 100000 in
set_option maxHeartbeats 1600000 in
theorem begunC8 (w : World) (a b : Int) (ha : Cls.In a) (hb : Cls.In b) : Calls Tryz.prog 23 #[.agg #[.int .i64 a, .int .i64 b]] w fun e w' => Below w.heap.size w w' ∧ ∃ (W : W6) (g d : Nat), e = .returned (.pointer (some ⟨W.b, 0, none⟩)) ∧ W.gm = some g ∧ W.dm = some d ∧ W.hot = (hotN a : Int) ∧ W.warm = (warmN a b : Int) ∧
    WAt w.heap.size w' W qc (new0 qc.cf) (List.replicate (qc.cf.ps * qc.cf.np) 0) (fun _ => none) (fun _ _ => []) (fun _ _ => []) rnew0 [] [] [] (fun _ => 0) := by
  obtain ⟨s1, s2, s3, s4⟩ := shares_in a b
  have SC := fun w => sharedC w a b ha hb
  generalize hotN a = h at *
  generalize warmN a b = v at *
  have n1 := fun w => numC6 w 0
  have LN := fun w g gq => lruNewC w g gq (h : Int) (v : Int) (by omega) (by omega) (by omega)
  have RN := fun w g => rlruNewC w g (h : Int) (v : Int) (by omega) (by omega) (by omega)
  obtain ⟨w1, hw1⟩ : ∃ w1, w1 = w.alloc (.cells #[.int .i64 a, .int .i64 b] 38) := ⟨_, rfl⟩
  have B1 : Blk w1 w.heap.size 38 #[.int .i64 a, .int .i64 b] := by rw [hw1]; exact Blk.new w _ _
  have b1 : Below w.heap.size w w1 := by rw [hw1]; exact (Below.refl _ _).alloc (Nat.le_refl _) _
  have CC := Lib.hid (chunksC w1)
  replace SC := Lib.hid SC
  replace LN := Lib.hid LN
  replace RN := Lib.hid RN
  replace hw1 := Lib.hid hw1
  clear ha hb s1 s2 s3 s4
  generalize hN : w.heap.size = N at *
  replace hN := Lib.hid hN
  go_enter Tryz.func23, Tryz.ntmps23
  go_upto_region 1 with fail
  rw [hN.out, ← hw1.out]
  go_wp2_with fail
  refine CC.out.mono ?_
  rintro e w2 ⟨b2, W, rfl, eg, ed, ev, A2⟩
  have N1 : N ≤ w1.heap.size := by have := b1.size; rw [hN.out] at this; exact this
  have b12 := b1.trans (b2.mono (B' := N) N1)
  have B2 := B1.below b2 B1.lt
  have x0 := B2.cell 0
  have x1 := B2.cell 1
  replace b12 := Lib.hid b12
  replace A2 := Lib.hid A2
  replace eg := Lib.hid eg
  replace ed := Lib.hid ed
  replace ev := Lib.hid ev
  clear b1 b2 B1 B2 CC
  go_wp2_with fail
  refine (SC.out w2).mono ?_
  rintro e w3 ⟨rfl, b3⟩
  obtain ⟨w4, hw4⟩ : ∃ w4, w4 = w3.alloc (.cells #[.int .i64 (h : Int), .int .i64 (v : Int)] 38) := ⟨_, rfl⟩
  obtain ⟨M, hM⟩ : ∃ M, M = w3.heap.size := ⟨_, rfl⟩
  have B4 : Blk w4 M 38 #[.int .i64 (h : Int), .int .i64 (v : Int)] := by rw [hw4, hM]; exact Blk.new w3 _ _
  have c4 : Below w2.heap.size w2 w4 := by rw [hw4]; exact b3.alloc b3.size _
  have A4 := A2.out.below c4
  have b4 := b12.out.trans (c4.mono (B' := N) (Nat.le_trans N1 (by have := A2.out.hN0; exact this)))
  obtain ⟨y0, y1, y3, y4, y6⟩ := A4.cW
  obtain ⟨z2, z5⟩ := A4.cL
  rw [eg.out] at z2
  rw [ed.out] at z5
  unfold ptrO at z2 z5
  have x0 := B4.cell 0
  have x1 := B4.cell 1
  replace hw4 := Lib.hid hw4
  replace hM := Lib.hid hM
  replace b4 := Lib.hid b4
  replace A4 := Lib.hid A4
  clear b3 c4 A2 b12 SC
  go_upto_region 5 with fail
  rw [← hM.out, ← hw4.out]
  go_cut [5, 6] from 14 to 29 (fun s5 s6 wx => ∃ g : Nat, s5 = .pointer (some ⟨g, 0, none⟩) ∧ s6 = .int .i64 0 ∧ Hid (Below w4.heap.size w4 wx ∧ w4.heap.size ≤ g ∧ Blk wx g 97 #[.pointer (some ⟨W.L.g, 0, none⟩), .pointer (some ⟨W.gq, 0, none⟩), .int .i64 (h : Int), .int .i64 (v : Int)]))
  case first =>
    obtain ⟨wd, hwd⟩ : ∃ wd, wd = w4.drew := ⟨_, rfl⟩
    have bd : Below w4.heap.size w4 wd := by rw [hwd]; exact below_drewN (Below.refl _ _) 1
    have Sd : wd.cell? ⟨W.b, 0, none⟩ = some (.pointer (some ⟨W.L.g, 0, none⟩)) ∧ wd.cell? ⟨W.b, 1, none⟩ = some (.pointer (some ⟨W.gq, 0, none⟩)) ∧ wd.cell? ⟨M, 0, none⟩ = some (.int .i64 (h : Int)) ∧ wd.cell? ⟨M, 1, none⟩ = some (.int .i64 (v : Int)) := by rw [hwd]; exact ⟨y0, y1, x0, x1⟩
    replace bd := Lib.hid bd
    refine wp_region_noPanic ?_
    refine wp_region_held_drew (S := fun u => u.cell? ⟨W.b, 0, none⟩ = some (.pointer (some ⟨W.L.g, 0, none⟩)) ∧ u.cell? ⟨W.b, 1, none⟩ = some (.pointer (some ⟨W.gq, 0, none⟩)) ∧ u.cell? ⟨M, 0, none⟩ = some (.int .i64 (h : Int)) ∧ u.cell? ⟨M, 1, none⟩ = some (.int .i64 (v : Int))) (by kernel_rfl) (by rw [← hwd]; exact Sd) (fun hHeld => ?_)
    rw [← hwd] at hHeld ⊢
    clear hwd
    refine wpAnyH_take (i := 0) (oi := _) (v := ?_) rfl (by kernel_rfl) (by kernel_rfl) (by kernel_rfl) (fun _ _ _ h => h) (Or.inl ⟨by rfl, ?_⟩) (by assumption) ?_
    rotate_left
    · try simp only [List.getElem_toArray, List.getElem_cons_succ, List.getElem_cons_zero]
      rintro w ⟨hS1, hS2, hS3, hS4⟩
      go_simp
      (try with_reducible rfl)
    try simp only [List.getElem_toArray, List.getElem_cons_succ, List.getElem_cons_zero, Act.put, List.setIfInBounds_toArray, List.set_cons_zero, List.set_cons_succ]
    refine wpAnyH_take (i := 1) (oi := _) (v := ?_) rfl (by kernel_rfl) (by kernel_rfl) (by kernel_rfl) (fun _ _ _ h => h) (Or.inl ⟨by rfl, ?_⟩) (by assumption) ?_
    rotate_left
    · try simp only [List.getElem_toArray, List.getElem_cons_succ, List.getElem_cons_zero]
      rintro w ⟨hS1, hS2, hS3, hS4⟩
      go_simp
      (try with_reducible rfl)
    try simp only [List.getElem_toArray, List.getElem_cons_succ, List.getElem_cons_zero, Act.put, List.setIfInBounds_toArray, List.set_cons_zero, List.set_cons_succ]
    refine wpAnyH_take (i := 2) (oi := _) (v := ?_) rfl (by kernel_rfl) (by kernel_rfl) (by kernel_rfl) (fun _ _ _ h => h) (Or.inl ⟨by rfl, ?_⟩) (by assumption) ?_
    rotate_left
    · try simp only [List.getElem_toArray, List.getElem_cons_succ, List.getElem_cons_zero]
      rintro w ⟨hS1, hS2, hS3, hS4⟩
      go_simp
      (try with_reducible rfl)
    try simp only [List.getElem_toArray, List.getElem_cons_succ, List.getElem_cons_zero, Act.put, List.setIfInBounds_toArray, List.set_cons_zero, List.set_cons_succ]
    refine wpAnyH_take (i := 3) (oi := _) (v := ?_) rfl (by kernel_rfl) (by kernel_rfl) (by kernel_rfl) (fun _ _ _ h => h) (Or.inl ⟨by rfl, ?_⟩) (by assumption) ?_
    rotate_left
    · try simp only [List.getElem_toArray, List.getElem_cons_succ, List.getElem_cons_zero]
      rintro w ⟨hS1, hS2, hS3, hS4⟩
      go_simp
      (try with_reducible rfl)
    try simp only [List.getElem_toArray, List.getElem_cons_succ, List.getElem_cons_zero, Act.put, List.setIfInBounds_toArray, List.set_cons_zero, List.set_cons_succ]
    refine wpAnyH_take (i := 4) (oi := _) (v := ?_) rfl (by kernel_rfl) (by kernel_rfl) (by kernel_rfl) (fun _ _ _ h => h) (Or.inl ⟨by rfl, ?_⟩) (by assumption) ?_
    rotate_left
    · try simp only [List.getElem_toArray, List.getElem_cons_succ, List.getElem_cons_zero]
      rintro w ⟨hS1, hS2, hS3, hS4⟩
      go_simp
      (try with_reducible rfl)
    try simp only [List.getElem_toArray, List.getElem_cons_succ, List.getElem_cons_zero, Act.put, List.setIfInBounds_toArray, List.set_cons_zero, List.set_cons_succ]
    refine wpAnyH_take (i := 5) (oi := _) (v := ?_) rfl (by kernel_rfl) (by kernel_rfl) (by kernel_rfl) (fun _ _ _ h => h) (Or.inl ⟨by rfl, ?_⟩) (by assumption) ?_
    rotate_left
    · try simp only [List.getElem_toArray, List.getElem_cons_succ, List.getElem_cons_zero]
      rintro w ⟨hS1, hS2, hS3, hS4⟩
      go_simp
      (try with_reducible rfl)
    try simp only [List.getElem_toArray, List.getElem_cons_succ, List.getElem_cons_zero, Act.put, List.setIfInBounds_toArray, List.set_cons_zero, List.set_cons_succ]
    refine wpAnyH_take (i := 6) (oi := _) (v := ?_) rfl (by kernel_rfl) (by kernel_rfl) (by kernel_rfl) (fun _ _ _ h => h) (Or.inl ⟨by rfl, ?_⟩) (by assumption) ?_
    rotate_left
    · try simp only [List.getElem_toArray, List.getElem_cons_succ, List.getElem_cons_zero]
      rintro w ⟨hS1, hS2, hS3, hS4⟩
      go_simp
      (try with_reducible rfl)
    try simp only [List.getElem_toArray, List.getElem_cons_succ, List.getElem_cons_zero, Act.put, List.setIfInBounds_toArray, List.set_cons_zero, List.set_cons_succ]
    refine wpAnyH_take (i := 7) (oi := _) (v := ?_) rfl (by kernel_rfl) (by kernel_rfl) (by kernel_rfl) (fun _ _ _ h => h) (Or.inl ⟨by rfl, ?_⟩) (by assumption) ?_
    rotate_left
    · try simp only [List.getElem_toArray, List.getElem_cons_succ, List.getElem_cons_zero]
      rintro w ⟨hS1, hS2, hS3, hS4⟩
      go_simp
      (try with_reducible rfl)
    try simp only [List.getElem_toArray, List.getElem_cons_succ, List.getElem_cons_zero, Act.put, List.setIfInBounds_toArray, List.set_cons_zero, List.set_cons_succ]
    refine wpAnyH_take (i := 8) (oi := _) (v := ?_) rfl (by kernel_rfl) (by kernel_rfl) (by kernel_rfl) (fun _ _ _ h => h) (Or.inl ⟨by rfl, ?_⟩) (by assumption) ?_
    rotate_left
    · try simp only [List.getElem_toArray, List.getElem_cons_succ, List.getElem_cons_zero]
      rintro w ⟨hS1, hS2, hS3, hS4⟩
      go_simp
      (try with_reducible rfl)
    try simp only [List.getElem_toArray, List.getElem_cons_succ, List.getElem_cons_zero, Act.put, List.setIfInBounds_toArray, List.set_cons_zero, List.set_cons_succ]
    refine wpAnyH_take (i := 9) (oi := _) (v := ?_) rfl (by kernel_rfl) (by kernel_rfl) (by kernel_rfl) (fun _ _ _ h => h) (Or.inl ⟨by rfl, ?_⟩) (by assumption) ?_
    rotate_left
    · try simp only [List.getElem_toArray, List.getElem_cons_succ, List.getElem_cons_zero]
      rintro w ⟨hS1, hS2, hS3, hS4⟩
      go_simp
      (try with_reducible rfl)
    try simp only [List.getElem_toArray, List.getElem_cons_succ, List.getElem_cons_zero, Act.put, List.setIfInBounds_toArray, List.set_cons_zero, List.set_cons_succ]
    refine wpAnyH_take (i := 10) (oi := _) (v := ?_) rfl (by kernel_rfl) (by kernel_rfl) (by kernel_rfl) (fun _ _ _ h => h) (Or.inl ⟨by rfl, ?_⟩) (by assumption) ?_
    rotate_left
    · try simp only [List.getElem_toArray, List.getElem_cons_succ, List.getElem_cons_zero]
      rintro w ⟨hS1, hS2, hS3, hS4⟩
      go_simp
      (try with_reducible rfl)
    try simp only [List.getElem_toArray, List.getElem_cons_succ, List.getElem_cons_zero, Act.put, List.setIfInBounds_toArray, List.set_cons_zero, List.set_cons_succ]
    refine wpAnyH_take (i := 11) (oi := _) (v := ?_) rfl (by kernel_rfl) (by kernel_rfl) (by kernel_rfl) (fun _ _ _ h => h) (Or.inl ⟨by rfl, ?_⟩) (by assumption) ?_
    rotate_left
    · try simp only [List.getElem_toArray, List.getElem_cons_succ, List.getElem_cons_zero]
      rintro w ⟨hS1, hS2, hS3, hS4⟩
      go_simp
      (try with_reducible rfl)
    try simp only [List.getElem_toArray, List.getElem_cons_succ, List.getElem_cons_zero, Act.put, List.setIfInBounds_toArray, List.set_cons_zero, List.set_cons_succ]
    refine wpAnyH_ready (rs := [12]) (by kernel_rfl) (by simp) ?_
    refine AllReadyH.cons (o := _) rfl (fun K hK => ?_) ?_
    · try simp only [List.getElem_toArray, List.getElem_cons_succ, List.getElem_cons_zero]
      go_simp
      go_at_call 12
      refine (LN.out _ _ _).mono ?_
      rintro e we ⟨rfl, hwe⟩
      have be : Below wd.heap.size wd we := by rw [hwe]; exact (Below.refl _ _).alloc (Nat.le_refl _) _
      have Be : Blk we wd.heap.size 97 #[.pointer (some ⟨W.L.g, 0, none⟩), .pointer (some ⟨W.gq, 0, none⟩), .int .i64 (h : Int), .int .i64 (v : Int)] := by rw [hwe]; exact Blk.new wd _ _
      have Se : we.cell? ⟨W.b, 0, none⟩ = some (.pointer (some ⟨W.L.g, 0, none⟩)) ∧ we.cell? ⟨W.b, 1, none⟩ = some (.pointer (some ⟨W.gq, 0, none⟩)) ∧ we.cell? ⟨M, 0, none⟩ = some (.int .i64 (h : Int)) ∧ we.cell? ⟨M, 1, none⟩ = some (.int .i64 (v : Int)) := by
        obtain ⟨u0, u1, u2, u3⟩ := Sd
        exact ⟨(be.cell (World.block_lt_of_cell? _ _ u0)).trans u0, (be.cell (World.block_lt_of_cell? _ _ u1)).trans u1, (be.cell (World.block_lt_of_cell? _ _ u2)).trans u2, (be.cell (World.block_lt_of_cell? _ _ u3)).trans u3⟩
      have fin := Lib.hid (show Below w4.heap.size w4 we ∧ w4.heap.size ≤ wd.heap.size ∧ Blk we wd.heap.size 97 #[.pointer (some ⟨W.L.g, 0, none⟩), .pointer (some ⟨W.gq, 0, none⟩), .int .i64 (h : Int), .int .i64 (v : Int)] from ⟨bd.out.trans (be.mono bd.out.size), by have := bd.out.size; omega, Be⟩)
      clear be Be hwe
      go_wp2_with fail
      refine hK.out _ _ Se (fun hHeld => ?_)
      clear hK K hHeld
      try simp only [List.getElem_toArray, List.getElem_cons_succ, List.getElem_cons_zero, Act.put, List.setIfInBounds_toArray, List.set_cons_zero, List.set_cons_succ]
      refine wpAnyH_take (i := 13) (oi := _) (v := ?_) rfl (by kernel_rfl) (by kernel_rfl) (by kernel_rfl) (fun _ _ _ h => h) (Or.inl ⟨by rfl, ?_⟩) (by assumption) ?_
      rotate_left
      · try simp only [List.getElem_toArray, List.getElem_cons_succ, List.getElem_cons_zero]
        rintro w ⟨hS1, hS2, hS3, hS4⟩
        go_simp
        (try with_reducible rfl)
      try simp only [List.getElem_toArray, List.getElem_cons_succ, List.getElem_cons_zero, Act.put, List.setIfInBounds_toArray, List.set_cons_zero, List.set_cons_succ]
      refine wpAnyH_take (i := 14) (oi := _) (v := ?_) rfl (by kernel_rfl) (by kernel_rfl) (by kernel_rfl) (fun _ _ _ h => h) (Or.inl ⟨by rfl, ?_⟩) (by assumption) ?_
      rotate_left
      · try simp only [List.getElem_toArray, List.getElem_cons_succ, List.getElem_cons_zero]
        rintro w ⟨hS1, hS2, hS3, hS4⟩
        go_simp
        (try with_reducible rfl)
      try simp only [List.getElem_toArray, List.getElem_cons_succ, List.getElem_cons_zero, Act.put, List.setIfInBounds_toArray, List.set_cons_zero, List.set_cons_succ]
      refine wpAnyH_take (i := 15) (oi := _) (v := ?_) rfl (by kernel_rfl) (by kernel_rfl) (by kernel_rfl) (fun _ _ _ h => h) (Or.inl ⟨by rfl, ?_⟩) (by assumption) ?_
      rotate_left
      · try simp only [List.getElem_toArray, List.getElem_cons_succ, List.getElem_cons_zero]
        rintro w ⟨hS1, hS2, hS3, hS4⟩
        go_simp
        (try with_reducible rfl)
      try simp only [List.getElem_toArray, List.getElem_cons_succ, List.getElem_cons_zero, Act.put, List.setIfInBounds_toArray, List.set_cons_zero, List.set_cons_succ]
      refine wpAnyH_take (i := 16) (oi := _) (v := ?_) rfl (by kernel_rfl) (by kernel_rfl) (by kernel_rfl) (fun _ _ _ h => h) (Or.inl ⟨by rfl, ?_⟩) (by assumption) ?_
      rotate_left
      · try simp only [List.getElem_toArray, List.getElem_cons_succ, List.getElem_cons_zero]
        rintro w ⟨hS1, hS2, hS3, hS4⟩
        go_simp
        (try with_reducible rfl)
      try simp only [List.getElem_toArray, List.getElem_cons_succ, List.getElem_cons_zero, Act.put, List.setIfInBounds_toArray, List.set_cons_zero, List.set_cons_succ]
      refine wpAnyH_take (i := 17) (oi := _) (v := ?_) rfl (by kernel_rfl) (by kernel_rfl) (by kernel_rfl) (fun _ _ _ h => h) (Or.inl ⟨by rfl, ?_⟩) (by assumption) ?_
      rotate_left
      · try simp only [List.getElem_toArray, List.getElem_cons_succ, List.getElem_cons_zero]
        rintro w ⟨hS1, hS2, hS3, hS4⟩
        go_simp
        (try with_reducible rfl)
      try simp only [List.getElem_toArray, List.getElem_cons_succ, List.getElem_cons_zero, Act.put, List.setIfInBounds_toArray, List.set_cons_zero, List.set_cons_succ]
      refine wpAnyH_done (by kernel_rfl) ?_ _
      refine NoPanic.normal ?_
      go_wp2_with fail
      go_meet
      exact ⟨wd.heap.size, rfl, rfl, fin⟩
    exact AllReadyH.nil
  case rest =>
    obtain ⟨g, rfl, rfl, G⟩ := hcut
    rename World => w5
    obtain ⟨c5, hg5, BL⟩ := G.out
    have A5 := A4.out.below c5
    have B5 := B4.below c5 B4.lt
    have b5 := b4.out.trans (c5.mono (B' := N) (Nat.le_trans N1 (Nat.le_trans (A4.out.base .own W.b (.inl rfl)) (Nat.le_of_lt A4.out.own.lt))))
    obtain ⟨y0, y1, y3, y4, y6⟩ := A5.cW
    have x0 := B5.cell 0
    have x1 := B5.cell 1
    replace A5 := Lib.hid A5
    replace b5 := Lib.hid b5
    replace BL := Lib.hid BL
    replace c5 := Lib.hid c5
    go_upto_region 6 with fail
    go_cut [7, 8] from 30 to 41 (fun s7 s8 wx => ∃ g : Nat, s7 = .pointer (some ⟨g, 0, none⟩) ∧ s8 = .int .i64 0 ∧ Hid (Below w5.heap.size w5 wx ∧ w5.heap.size ≤ g ∧ Blk wx g 99 #[.pointer (some ⟨W.R.b, 0, none⟩), .int .i64 (h : Int), .int .i64 (v : Int), .slice none 0 0]))
    case first =>
      obtain ⟨wd, hwd⟩ : ∃ wd, wd = w5.drew := ⟨_, rfl⟩
      have bd : Below w5.heap.size w5 wd := by rw [hwd]; exact below_drewN (Below.refl _ _) 1
      have Sd : wd.cell? ⟨W.b, 4, none⟩ = some (.pointer (some ⟨W.R.b, 0, none⟩)) ∧ wd.cell? ⟨M, 0, none⟩ = some (.int .i64 (h : Int)) ∧ wd.cell? ⟨M, 1, none⟩ = some (.int .i64 (v : Int)) := by rw [hwd]; exact ⟨y4, x0, x1⟩
      replace bd := Lib.hid bd
      refine wp_region_noPanic ?_
      refine wp_region_held_drew (S := fun u => u.cell? ⟨W.b, 4, none⟩ = some (.pointer (some ⟨W.R.b, 0, none⟩)) ∧ u.cell? ⟨M, 0, none⟩ = some (.int .i64 (h : Int)) ∧ u.cell? ⟨M, 1, none⟩ = some (.int .i64 (v : Int))) (by kernel_rfl) (by rw [← hwd]; exact Sd) (fun hHeld => ?_)
      rw [← hwd] at hHeld ⊢
      clear hwd
      refine wpAnyH_take (i := 0) (oi := _) (v := ?_) rfl (by kernel_rfl) (by kernel_rfl) (by kernel_rfl) (fun _ _ _ h => h) (Or.inl ⟨by rfl, ?_⟩) (by assumption) ?_
      rotate_left
      · try simp only [List.getElem_toArray, List.getElem_cons_succ, List.getElem_cons_zero]
        rintro w ⟨hS1, hS2, hS3⟩
        go_simp
        (try with_reducible rfl)
      try simp only [List.getElem_toArray, List.getElem_cons_succ, List.getElem_cons_zero, Act.put, List.setIfInBounds_toArray, List.set_cons_zero, List.set_cons_succ]
      refine wpAnyH_take (i := 1) (oi := _) (v := ?_) rfl (by kernel_rfl) (by kernel_rfl) (by kernel_rfl) (fun _ _ _ h => h) (Or.inl ⟨by rfl, ?_⟩) (by assumption) ?_
      rotate_left
      · try simp only [List.getElem_toArray, List.getElem_cons_succ, List.getElem_cons_zero]
        rintro w ⟨hS1, hS2, hS3⟩
        go_simp
        (try with_reducible rfl)
      try simp only [List.getElem_toArray, List.getElem_cons_succ, List.getElem_cons_zero, Act.put, List.setIfInBounds_toArray, List.set_cons_zero, List.set_cons_succ]
      refine wpAnyH_take (i := 2) (oi := _) (v := ?_) rfl (by kernel_rfl) (by kernel_rfl) (by kernel_rfl) (fun _ _ _ h => h) (Or.inl ⟨by rfl, ?_⟩) (by assumption) ?_
      rotate_left
      · try simp only [List.getElem_toArray, List.getElem_cons_succ, List.getElem_cons_zero]
        rintro w ⟨hS1, hS2, hS3⟩
        go_simp
        (try with_reducible rfl)
      try simp only [List.getElem_toArray, List.getElem_cons_succ, List.getElem_cons_zero, Act.put, List.setIfInBounds_toArray, List.set_cons_zero, List.set_cons_succ]
      refine wpAnyH_take (i := 3) (oi := _) (v := ?_) rfl (by kernel_rfl) (by kernel_rfl) (by kernel_rfl) (fun _ _ _ h => h) (Or.inl ⟨by rfl, ?_⟩) (by assumption) ?_
      rotate_left
      · try simp only [List.getElem_toArray, List.getElem_cons_succ, List.getElem_cons_zero]
        rintro w ⟨hS1, hS2, hS3⟩
        go_simp
        (try with_reducible rfl)
      try simp only [List.getElem_toArray, List.getElem_cons_succ, List.getElem_cons_zero, Act.put, List.setIfInBounds_toArray, List.set_cons_zero, List.set_cons_succ]
      refine wpAnyH_take (i := 4) (oi := _) (v := ?_) rfl (by kernel_rfl) (by kernel_rfl) (by kernel_rfl) (fun _ _ _ h => h) (Or.inl ⟨by rfl, ?_⟩) (by assumption) ?_
      rotate_left
      · try simp only [List.getElem_toArray, List.getElem_cons_succ, List.getElem_cons_zero]
        rintro w ⟨hS1, hS2, hS3⟩
        go_simp
        (try with_reducible rfl)
      try simp only [List.getElem_toArray, List.getElem_cons_succ, List.getElem_cons_zero, Act.put, List.setIfInBounds_toArray, List.set_cons_zero, List.set_cons_succ]
      refine wpAnyH_take (i := 5) (oi := _) (v := ?_) rfl (by kernel_rfl) (by kernel_rfl) (by kernel_rfl) (fun _ _ _ h => h) (Or.inl ⟨by rfl, ?_⟩) (by assumption) ?_
      rotate_left
      · try simp only [List.getElem_toArray, List.getElem_cons_succ, List.getElem_cons_zero]
        rintro w ⟨hS1, hS2, hS3⟩
        go_simp
        (try with_reducible rfl)
      try simp only [List.getElem_toArray, List.getElem_cons_succ, List.getElem_cons_zero, Act.put, List.setIfInBounds_toArray, List.set_cons_zero, List.set_cons_succ]
      refine wpAnyH_take (i := 6) (oi := _) (v := ?_) rfl (by kernel_rfl) (by kernel_rfl) (by kernel_rfl) (fun _ _ _ h => h) (Or.inl ⟨by rfl, ?_⟩) (by assumption) ?_
      rotate_left
      · try simp only [List.getElem_toArray, List.getElem_cons_succ, List.getElem_cons_zero]
        rintro w ⟨hS1, hS2, hS3⟩
        go_simp
        (try with_reducible rfl)
      try simp only [List.getElem_toArray, List.getElem_cons_succ, List.getElem_cons_zero, Act.put, List.setIfInBounds_toArray, List.set_cons_zero, List.set_cons_succ]
      refine wpAnyH_take (i := 7) (oi := _) (v := ?_) rfl (by kernel_rfl) (by kernel_rfl) (by kernel_rfl) (fun _ _ _ h => h) (Or.inl ⟨by rfl, ?_⟩) (by assumption) ?_
      rotate_left
      · try simp only [List.getElem_toArray, List.getElem_cons_succ, List.getElem_cons_zero]
        rintro w ⟨hS1, hS2, hS3⟩
        go_simp
        (try with_reducible rfl)
      try simp only [List.getElem_toArray, List.getElem_cons_succ, List.getElem_cons_zero, Act.put, List.setIfInBounds_toArray, List.set_cons_zero, List.set_cons_succ]
      refine wpAnyH_ready (rs := [8]) (by kernel_rfl) (by simp) ?_
      refine AllReadyH.cons (o := _) rfl (fun K hK => ?_) ?_
      · try simp only [List.getElem_toArray, List.getElem_cons_succ, List.getElem_cons_zero]
        go_simp
        go_at_call 13
        refine (RN.out _ _).mono ?_
        rintro e we ⟨rfl, hwe⟩
        have be : Below wd.heap.size wd we := by rw [hwe]; exact (Below.refl _ _).alloc (Nat.le_refl _) _
        have Be : Blk we wd.heap.size 99 #[.pointer (some ⟨W.R.b, 0, none⟩), .int .i64 (h : Int), .int .i64 (v : Int), .slice none 0 0] := by rw [hwe]; exact Blk.new wd _ _
        have Se : we.cell? ⟨W.b, 4, none⟩ = some (.pointer (some ⟨W.R.b, 0, none⟩)) ∧ we.cell? ⟨M, 0, none⟩ = some (.int .i64 (h : Int)) ∧ we.cell? ⟨M, 1, none⟩ = some (.int .i64 (v : Int)) := by
          obtain ⟨u0, u1, u2⟩ := Sd
          exact ⟨(be.cell (World.block_lt_of_cell? _ _ u0)).trans u0, (be.cell (World.block_lt_of_cell? _ _ u1)).trans u1, (be.cell (World.block_lt_of_cell? _ _ u2)).trans u2⟩
        have fin := Lib.hid (show Below w5.heap.size w5 we ∧ w5.heap.size ≤ wd.heap.size ∧ Blk we wd.heap.size 99 #[.pointer (some ⟨W.R.b, 0, none⟩), .int .i64 (h : Int), .int .i64 (v : Int), .slice none 0 0] from ⟨bd.out.trans (be.mono bd.out.size), by have := bd.out.size; omega, Be⟩)
        clear be Be hwe
        go_wp2_with fail
        refine hK.out _ _ Se (fun hHeld => ?_)
        clear hK K hHeld
        try simp only [List.getElem_toArray, List.getElem_cons_succ, List.getElem_cons_zero, Act.put, List.setIfInBounds_toArray, List.set_cons_zero, List.set_cons_succ]
        refine wpAnyH_take (i := 9) (oi := _) (v := ?_) rfl (by kernel_rfl) (by kernel_rfl) (by kernel_rfl) (fun _ _ _ h => h) (Or.inl ⟨by rfl, ?_⟩) (by assumption) ?_
        rotate_left
        · try simp only [List.getElem_toArray, List.getElem_cons_succ, List.getElem_cons_zero]
          rintro w ⟨hS1, hS2, hS3⟩
          go_simp
          (try with_reducible rfl)
        try simp only [List.getElem_toArray, List.getElem_cons_succ, List.getElem_cons_zero, Act.put, List.setIfInBounds_toArray, List.set_cons_zero, List.set_cons_succ]
        refine wpAnyH_take (i := 10) (oi := _) (v := ?_) rfl (by kernel_rfl) (by kernel_rfl) (by kernel_rfl) (fun _ _ _ h => h) (Or.inl ⟨by rfl, ?_⟩) (by assumption) ?_
        rotate_left
        · try simp only [List.getElem_toArray, List.getElem_cons_succ, List.getElem_cons_zero]
          rintro w ⟨hS1, hS2, hS3⟩
          go_simp
          (try with_reducible rfl)
        try simp only [List.getElem_toArray, List.getElem_cons_succ, List.getElem_cons_zero, Act.put, List.setIfInBounds_toArray, List.set_cons_zero, List.set_cons_succ]
        refine wpAnyH_take (i := 11) (oi := _) (v := ?_) rfl (by kernel_rfl) (by kernel_rfl) (by kernel_rfl) (fun _ _ _ h => h) (Or.inl ⟨by rfl, ?_⟩) (by assumption) ?_
        rotate_left
        · try simp only [List.getElem_toArray, List.getElem_cons_succ, List.getElem_cons_zero]
          rintro w ⟨hS1, hS2, hS3⟩
          go_simp
          (try with_reducible rfl)
        try simp only [List.getElem_toArray, List.getElem_cons_succ, List.getElem_cons_zero, Act.put, List.setIfInBounds_toArray, List.set_cons_zero, List.set_cons_succ]
        refine wpAnyH_take (i := 12) (oi := _) (v := ?_) rfl (by kernel_rfl) (by kernel_rfl) (by kernel_rfl) (fun _ _ _ h => h) (Or.inl ⟨by rfl, ?_⟩) (by assumption) ?_
        rotate_left
        · try simp only [List.getElem_toArray, List.getElem_cons_succ, List.getElem_cons_zero]
          rintro w ⟨hS1, hS2, hS3⟩
          go_simp
          (try with_reducible rfl)
        try simp only [List.getElem_toArray, List.getElem_cons_succ, List.getElem_cons_zero, Act.put, List.setIfInBounds_toArray, List.set_cons_zero, List.set_cons_succ]
        refine wpAnyH_take (i := 13) (oi := _) (v := ?_) rfl (by kernel_rfl) (by kernel_rfl) (by kernel_rfl) (fun _ _ _ h => h) (Or.inl ⟨by rfl, ?_⟩) (by assumption) ?_
        rotate_left
        · try simp only [List.getElem_toArray, List.getElem_cons_succ, List.getElem_cons_zero]
          rintro w ⟨hS1, hS2, hS3⟩
          go_simp
          (try with_reducible rfl)
        try simp only [List.getElem_toArray, List.getElem_cons_succ, List.getElem_cons_zero, Act.put, List.setIfInBounds_toArray, List.set_cons_zero, List.set_cons_succ]
        refine wpAnyH_done (by kernel_rfl) ?_ _
        refine NoPanic.normal ?_
        go_wp2_with fail
        go_meet
        exact ⟨wd.heap.size, rfl, rfl, fin⟩
      exact AllReadyH.nil
    case rest =>
      obtain ⟨d, rfl, rfl, G2⟩ := hcut
      rename World => w6
      obtain ⟨c6, hg6, BD⟩ := G2.out
      have A6 := A5.out.below c6
      have BL6 := BL.out.below c6 BL.out.lt
      have b6 := b5.out.trans (c6.mono (B' := N) (Nat.le_trans N1 (Nat.le_trans (A5.out.base .own W.b (.inl rfl)) (Nat.le_of_lt A5.out.own.lt))))
      obtain ⟨z2, z5⟩ := A6.cL
      rw [eg.out] at z2
      rw [ed.out] at z5
      unfold ptrO at z2 z5
      have f2 := A6.own.frozen 2
      have f5 := A6.own.frozen 5
      have T1 := A6.shares eg.out ed.out (h : Int) (v : Int)
      have lt4 : ∀ i k, W.foot qc (new0 qc.cf) i k → k < w4.heap.size := fun i k e => A4.out.lt i k e
      have hN4 : N ≤ w4.heap.size := by have := A4.out.base .own W.b (.inl rfl); have := A4.out.own.lt; omega
      have T2 := T1.setL eg.out (g := g) BL6 (fun i e => by
        have : W.foot qc (new0 qc.cf) i g := by cases i <;> exact e
        have := lt4 i g this; omega) (Nat.le_trans (by have := A4.out.hN0; exact this) hg5)
      have gb : d ≠ W.b := fun e => by have := A5.out.own.lt; omega
      have BD2 : Blk (w6.setCell ⟨W.b, 2, none⟩ (.pointer (some ⟨g, 0, none⟩))) d 99 (W6.dc { W with hot := (h : Int), warm := (v : Int), gm := some g }) := by
        unfold W6.dc
        rw [ev.out]
        exact BD.far (by exact gb) _
      have lt5 : ∀ i k, ({ W with hot := (h : Int), warm := (v : Int), gm := some g } : W6).foot qc (new0 qc.cf) i k → k < w5.heap.size := fun i k e => by
        cases i with
        | lru =>
          have : g = k := by injection (show some g = some k from e)
          have := BL.out.lt
          omega
        | set => exact A5.out.lt .set k e
        | ref => exact A5.out.lt .ref k e
        | queue => exact A5.out.lt .queue k e
        | doc => exact A5.out.lt .doc k e
        | own => exact A5.out.lt .own k e
        | act => exact A5.out.lt .act k e
      have T3 := T2.setM (d := d) ed.out BD2 (by rw [show ({ W with hot := (h : Int), warm := (v : Int), gm := some g } : W6).vA = W.vA from rfl, ev.out]; rfl) (fun i e => by have := lt5 i d e; omega) (Nat.le_trans (by have := A5.out.hN0; exact this) hg6)
      have bz : Below N w ((w6.setCell ⟨W.b, 2, none⟩ (.pointer (some ⟨g, 0, none⟩))).setCell ⟨W.b, 5, none⟩ (.pointer (some ⟨d, 0, none⟩))) := (b6.setCell (p := ⟨W.b, 2, none⟩) (by show N ≤ W.b; have := A4.out.base .own W.b (.inl rfl); omega) _).setCell (p := ⟨W.b, 5, none⟩) (by show N ≤ W.b; have := A4.out.base .own W.b (.inl rfl); omega) _
      replace T3 := Lib.hid (T3.weak N1)
      replace bz := Lib.hid bz
      clear T1 T2 A6 BL6 BD BD2 c6 b6 lt4 lt5 y0 y1 y3 y4 y6 x0 x1
      go_wp2_with (first | (go_at_call 14; refine (n1 _).mono ?_; rintro e w' ⟨rfl, rfl⟩) | fail)

      go_ret
      exact ⟨bz.out, { W with hot := (h : Int), warm := (v : Int), gm := some g, dm := some d }, g, d, rfl, rfl, rfl, rfl, rfl, T3.out⟩
end Go.Proofs.YtngehaiigbbknaaGreat.Que
/-
  the statements's row in plain numbers.
-/
namespace Go.Proofs.YtngehaiigbbknaaGreat.Que
open Go.RowKit Base Arena Cls Itm
set_option linter.unusedVariables false

theorem free_short {s : St} (g : Cls.Good qc.cf s) (ok : qc.cf.Ok) {k : Nat} (hk : k < qc.cf.nc) : (s.free k).length ≤ 16384 := by
  refine nodup_le _ _ (g.nodup k hk) fun p hp => ?_
  obtain ⟨i, x, h1, -, -, -, h5, -, rfl, -⟩ := g.last ok hk hp
  obtain ⟨-, -, -, h6, -⟩ := place_of ok (i := i) hk h5
  have h9 : (i + 1) * qc.cf.ps ≤ 4 * 4096 := Nat.mul_le_mul (by have : qc.cf.np = 4 := qc_np; omega) (by decide)
  rw [Nat.succ_mul] at h9
  have := (ok.sz k hk).1
  omega
/-- One list of class 0 has items, the k-th. -/
def oneL (k : Nat) (l : List Nat) : Nat → Nat → List Nat := fun a b => if a = 0 ∧ b = k then l else []
theorem oneL_at (k : Nat) (l : List Nat) : oneL k l 0 k = l := if_pos ⟨rfl, rfl⟩
theorem oneL_upd (k : Nat) (l l' : List Nat) : updL (oneL k l) 0 k l' = oneL k l' := by
  funext a b
  unfold updL oneL
  split <;> rfl
theorem oneL_nil (k : Nat) : oneL k [] = fun _ _ => [] := by
  funext a b
  unfold oneL
  split <;> rfl
theorem oneL_no {k : Nat} {l : List Nat} {H : Nat} (h : H ∉ l) : stK 0 (oneL k l) H = 0 := by
  have key : ∀ j, H ∉ oneL k l 0 j := by
    intro j hm
    unfold oneL at hm
    split at hm
    · exact h hm
    · cases hm
  unfold stK
  rw [if_neg (key 0), if_neg (key 1), if_neg (key 2)]
theorem oneL_yes {k : Nat} (hk : k < 3) {l : List Nat} {H : Nat} (h : H ∈ l) : stK 0 (oneL k l) H = k + 1 := by
  have key : ∀ j, j ≠ k → H ∉ oneL k l 0 j := by
    intro j hj hm
    unfold oneL at hm
    rw [if_neg (fun e => hj e.2)] at hm
    cases hm
  have hk' : H ∈ oneL k l 0 k := by rw [oneL_at]; exact h
  unfold stK
  obtain rfl | rfl | rfl : k = 0 ∨ k = 1 ∨ k = 2 := by omega
  · rw [if_pos hk']
  · rw [if_neg (key 0 (by omega)), if_pos hk']
  · rw [if_neg (key 0 (by omega)), if_neg (key 1 (by omega)), if_pos hk']
/-- The told items: all of them good, of class 0. -/
structure RowI (s : St) (Z : Nat → Option Zd) (told want : List Nat) : Prop where
  it : ∀ H ∈ told, ∃ i x p, findN qc.cf s H = some (i, x, p) ∧ s.cls i = 0
  is : ∀ H ∈ told, (Z H).isSome = true
  sub : ∀ H ∈ want, H ∈ told
  nd : want.Nodup
/-- Of class 0 so many are taken, of its first page. -/
def Rm (s : St) (i : Nat) : Prop := (i = 0 ∧ s = new0 qc.cf) ∨ (0 < i ∧ (s.free 0).length + i = 64)
theorem Rm.room {s : St} {i : Nat} (ok : qc.cf.Ok) (h : Rm s i) (hi : i < 64) : ∃ s1, roomS qc.cf s 0 = some s1 ∧ (s1.free 0).length + i = 64 := by
  rcases h with ⟨rfl, rfl⟩ | ⟨h1, h2⟩
  · exact ⟨_, room_new ok 0, by decide⟩
  · refine ⟨s, ?_, h2⟩
    unfold roomS
    split
    · rename_i e
      rw [e] at h2
      simp at h2
      omega
    · rfl
theorem Rm.take {s1 : St} {i p : Nat} (h : (s1.free 0).length + i = 64) (hi : i < 64) : Rm (takeS qc.cf s1 0 p) (i + 1) := by
  refine .inr ⟨by omega, ?_⟩
  show (upd s1.free 0 (s1.free 0).dropLast 0).length + (i + 1) = 64
  rw [upd_at, List.length_dropLast]
  omega
theorem RowI.z {s : St} {Z Z' : Nat → Option Zd} {told want : List Nat} (h : RowI s Z told want) (hz : ∀ H, (Z' H).isSome = (Z H).isSome) : RowI s Z' told want :=
  ⟨h.it, fun H hH => (hz H).trans (h.is H hH), h.sub, h.nd⟩
theorem RowI.make {s s1 : St} {Z : Nat → Option Zd} {told want : List Nat} (ok : qc.cf.Ok) (g : Cls.Good qc.cf s) (h : RowI s Z told want) (hr : roomS qc.cf s 0 = some s1) {l : List Nat} {p : Nat} (hp : s1.free 0 = l ++ [p]) {H0 : Nat}
    (h0 : H0 = hnd p (s1.gens (p / qc.cf.ps) (p % qc.cf.ps / qc.cf.sz 0))) :
    H0 ∉ told ∧ RowI (takeS qc.cf s1 0 p) (upd Z H0 (some ⟨4, 0, 0⟩)) (told ++ [H0]) want := by
  obtain ⟨⟨i, x, f, c⟩, A, -⟩ := took_find ok g (by decide) hr hp h0
  have hn : H0 ∉ told := fun hm => by
    obtain ⟨i, x, p, hf, -⟩ := h.it H0 hm
    exact (A _ _ _ _ hf).2.2.1 rfl
  have it : ∀ H ∈ told ++ [H0], ∃ i x q, findN qc.cf (takeS qc.cf s1 0 p) H = some (i, x, q) ∧ (takeS qc.cf s1 0 p).cls i = 0 := by
    intro H hH
    rcases List.mem_append.1 hH with hH | hH
    · obtain ⟨i, x, q, hf, hc⟩ := h.it H hH
      exact ⟨i, x, q, (A _ _ _ _ hf).1, (A _ _ _ _ hf).2.1.trans hc⟩
    · rw [List.mem_singleton] at hH
      subst hH
      exact ⟨i, x, p, f, c⟩
  have is : ∀ H ∈ told ++ [H0], (upd Z H0 (some ⟨4, 0, 0⟩) H).isSome = true := by
    intro H hH
    by_cases e : H = H0
    · subst e; rw [upd_at]; rfl
    · rw [upd_ne _ _ e]
      rcases List.mem_append.1 hH with hH | hH
      · exact h.is H hH
      · exact absurd (List.mem_singleton.1 hH) e
  exact ⟨hn, it, is, fun H hH => List.mem_append.2 (.inl (h.sub H hH)), h.nd⟩
theorem RowI.add {s : St} {Z : Nat → Option Zd} {told want : List Nat} (h : RowI s Z told want) {H : Nat} (hH : H ∈ told) (hn : H ∉ want) : RowI s Z told (H :: want) ∧ RowI s Z told (want ++ [H]) := by
  refine ⟨⟨h.it, h.is, fun x hx => ?_, List.nodup_cons.2 ⟨hn, h.nd⟩⟩, ⟨h.it, h.is, fun x hx => ?_, List.nodup_append.2 ⟨h.nd, by simp, fun a ha b hb e => ?_⟩⟩⟩
  · rcases List.mem_cons.1 hx with rfl | hx
    · exact hH
    · exact h.sub x hx
  · rcases List.mem_append.1 hx with hx | hx
    · exact h.sub x hx
    · rw [List.mem_singleton] at hx; exact hx ▸ hH
  · rw [List.mem_singleton] at hb
    exact hn (hb ▸ e ▸ ha)
section
variable {s : St} {Z : Nat → Option Zd} {told want : List Nat} (h : RowI s Z told want) {H : Nat} (hH : H ∈ told) {k : Nat} (hk : k < 3) {l : List Nat}
include h hH
theorem RowI.cl : clsN qc s H = 0 := by
  obtain ⟨i, x, p, hf, hc⟩ := h.it H hH
  unfold clsN
  rw [hf]
  exact hc
theorem RowI.lt (ok : qc.cf.Ok) (g : Cls.Good qc.cf s) : H < 18446744073709551616 := by
  obtain ⟨i, x, p, hf, hc⟩ := h.it H hH
  exact good_lt ok g hf
include hk
theorem RowI.push (hn : H ∉ l) (last : Bool) : pushN qc s Z (oneL k l) H ((k : Int) + 1) last = (0, oneL k (if last then l ++ [H] else H :: l)) := by
  obtain ⟨i, x, p, hf, hc⟩ := h.it H hH
  have ei : isN qc s Z H = true := by unfold isN; rw [hf, h.is H hH]; rfl
  unfold pushN
  rw [if_neg (by omega), if_neg (by rw [ei]; exact Bool.noConfusion), h.cl hH, if_neg (fun e => e (oneL_no hn)), show ((k : Int) + 1).toNat - 1 = k by omega]
  unfold putN
  rw [oneL_at, oneL_upd]
theorem RowI.drop (hm : H ∈ l) : dropN qc s (oneL k l) H = (0, oneL k (l.erase H)) := by
  unfold dropN
  rw [h.cl hH, if_neg (by rw [oneL_yes hk hm]; omega)]
  unfold outN
  rw [oneL_yes hk hm, Nat.add_sub_cancel, oneL_at, oneL_upd]
end
end Go.Proofs.YtngehaiigbbknaaGreat.Que
