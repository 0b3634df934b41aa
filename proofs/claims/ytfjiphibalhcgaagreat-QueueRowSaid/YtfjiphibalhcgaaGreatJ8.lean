/-
  Contracts and lemmas, joined: QueueTold, QueueDrop, QueueRel, QueueAll, QueueNext, ItemTell, RegRel, ItemRead.
-/
import Derived.StillTail
import Derived.Deep.Quiet
import Derived.Deep.Draws
import Derived.Handy
import Derived.Test.YtfjiphibalhcgaaGreatJ5
import Derived.Test.YtfjiphibalhcgaaGreatJ6
import Derived.Test.YtfjiphibalhcgaaGreatJ7
set_option linter.unusedSimpArgs false
set_option linter.unusedVariables false
/-
  The walks of the queue's Head, Tail, Len (printed by wip/gen_qtold.py).
-/
namespace Go.Proofs.YtfjiphibalhcgaaGreat.Que
open Go.RowKit Base Arena Cls Itm
set_option linter.unusedVariables false
set_option linter.unusedSectionVars false

section
variable {w : World} {L : Lay} {c : Conf} {gq gl : Nat} {F : QN} (q : QAt w L c gq gl F)
include q
theorem headNo (x kind : Int) (hn : ¬ (0 ≤ x ∧ x < (c.nc : Int) ∧ 1 ≤ kind ∧ kind ≤ 3)) : Calls Tryz.prog 51 #[.pointer (some ⟨gq, 0, none⟩), .int .i64 x, .int .i64 kind] w fun e w' => e = .returned (.tuple #[.int .u64 0, .bool false]) ∧ w = w' := by
  have LC := Lib.hid (listNo q x kind hn)
  clear q hn
  go_enter Tryz.func51, Tryz.ntmps51
  go_wp2_with fail
  refine LC.out.mono ?_
  rintro e w1 ⟨rfl, rfl⟩
  go_wp2
  go_ret2
  exact ⟨rfl, rfl⟩
theorem headZero (x k : Nat) (hx : x < c.nc) (hk : k < 3) (hnc : c.nc ≤ 62) (hn : F.n x k = 0) : Calls Tryz.prog 51 #[.pointer (some ⟨gq, 0, none⟩), .int .i64 (x : Int), .int .i64 ((k : Int) + 1)] w fun e w' => e = .returned (.tuple #[.int .u64 0, .bool false]) ∧ w = w' := by
  have LC := Lib.hid (listYes q x k hx hk (by omega))
  have p1 := q.qn hx hk
  obtain ⟨d1, d2⟩ := eq0 hn
  clear q hn
  go_enter Tryz.func51, Tryz.ntmps51
  go_wp2_with fail
  refine LC.out.mono ?_
  rintro e w1 ⟨rfl, rfl⟩
  go_wp2
  go_ret2
  exact ⟨rfl, rfl⟩
theorem headYes (x k : Nat) (hx : x < c.nc) (hk : k < 3) (hnc : c.nc ≤ 62) (hn : F.n x k ≠ 0) : Calls Tryz.prog 51 #[.pointer (some ⟨gq, 0, none⟩), .int .i64 (x : Int), .int .i64 ((k : Int) + 1)] w fun e w' => e = .returned (.tuple #[.int .u64 (F.hd x k : Int), .bool true]) ∧ w = w' := by
  have LC := Lib.hid (listYes q x k hx hk (by omega))
  have p1 := q.qn hx hk
  have p2 := q.qhd hx hk
  obtain ⟨d1, d2⟩ := ne0 hn
  clear q hn
  go_enter Tryz.func51, Tryz.ntmps51
  go_wp2_with fail
  refine LC.out.mono ?_
  rintro e w1 ⟨rfl, rfl⟩
  go_wp2
  go_ret2
  exact ⟨rfl, rfl⟩
theorem tailNo (x kind : Int) (hn : ¬ (0 ≤ x ∧ x < (c.nc : Int) ∧ 1 ≤ kind ∧ kind ≤ 3)) : Calls Tryz.prog 28 #[.pointer (some ⟨gq, 0, none⟩), .int .i64 x, .int .i64 kind] w fun e w' => e = .returned (.tuple #[.int .u64 0, .bool false]) ∧ w = w' := by
  have LC := Lib.hid (listNo q x kind hn)
  clear q hn
  go_enter Tryz.func28, Tryz.ntmps28
  go_wp2_with fail
  refine LC.out.mono ?_
  rintro e w1 ⟨rfl, rfl⟩
  go_wp2
  go_ret2
  exact ⟨rfl, rfl⟩
theorem tailZero (x k : Nat) (hx : x < c.nc) (hk : k < 3) (hnc : c.nc ≤ 62) (hn : F.n x k = 0) : Calls Tryz.prog 28 #[.pointer (some ⟨gq, 0, none⟩), .int .i64 (x : Int), .int .i64 ((k : Int) + 1)] w fun e w' => e = .returned (.tuple #[.int .u64 0, .bool false]) ∧ w = w' := by
  have LC := Lib.hid (listYes q x k hx hk (by omega))
  have p1 := q.qn hx hk
  obtain ⟨d1, d2⟩ := eq0 hn
  clear q hn
  go_enter Tryz.func28, Tryz.ntmps28
  go_wp2_with fail
  refine LC.out.mono ?_
  rintro e w1 ⟨rfl, rfl⟩
  go_wp2
  go_ret2
  exact ⟨rfl, rfl⟩
theorem tailYes (x k : Nat) (hx : x < c.nc) (hk : k < 3) (hnc : c.nc ≤ 62) (hn : F.n x k ≠ 0) : Calls Tryz.prog 28 #[.pointer (some ⟨gq, 0, none⟩), .int .i64 (x : Int), .int .i64 ((k : Int) + 1)] w fun e w' => e = .returned (.tuple #[.int .u64 (F.tl x k : Int), .bool true]) ∧ w = w' := by
  have LC := Lib.hid (listYes q x k hx hk (by omega))
  have p1 := q.qn hx hk
  have p2 := q.qtl hx hk
  obtain ⟨d1, d2⟩ := ne0 hn
  clear q hn
  go_enter Tryz.func28, Tryz.ntmps28
  go_wp2_with fail
  refine LC.out.mono ?_
  rintro e w1 ⟨rfl, rfl⟩
  go_wp2
  go_ret2
  exact ⟨rfl, rfl⟩
theorem lenNo (x kind : Int) (hn : ¬ (0 ≤ x ∧ x < (c.nc : Int) ∧ 1 ≤ kind ∧ kind ≤ 3)) : Calls Tryz.prog 29 #[.pointer (some ⟨gq, 0, none⟩), .int .i64 x, .int .i64 kind] w fun e w' => e = .returned (.int .i64 0) ∧ w = w' := by
  have LC := Lib.hid (listNo q x kind hn)
  clear q hn
  go_enter Tryz.func29, Tryz.ntmps29
  go_wp2_with fail
  refine LC.out.mono ?_
  rintro e w1 ⟨rfl, rfl⟩
  go_wp2
  go_ret
  exact ⟨rfl, rfl⟩
theorem lenYes (x k : Nat) (hx : x < c.nc) (hk : k < 3) (hnc : c.nc ≤ 62) : Calls Tryz.prog 29 #[.pointer (some ⟨gq, 0, none⟩), .int .i64 (x : Int), .int .i64 ((k : Int) + 1)] w fun e w' => e = .returned (.int .i64 (F.n x k : Int)) ∧ w = w' := by
  have LC := Lib.hid (listYes q x k hx hk (by omega))
  have p1 := q.qn hx hk
  clear q
  go_enter Tryz.func29, Tryz.ntmps29
  go_wp2_with fail
  refine LC.out.mono ?_
  rintro e w1 ⟨rfl, rfl⟩
  go_wp2
  go_ret
  exact ⟨rfl, rfl⟩
end
end Go.Proofs.YtfjiphibalhcgaaGreat.Que
/-
  The walks of the queue's Push, Last, Drop, next: what they do to the cells and the headers.
-/
namespace Go.Proofs.YtfjiphibalhcgaaGreat.Que
open Go.RowKit Base Arena Cls Itm
set_option linter.unusedVariables false
set_option linter.unusedSectionVars false

def dF (F : QN) (x k a b : Nat) : QN := (jF F x k a b).setN x k (F.n x k - 1)
section
variable {w : World} {L : Lay} {c : Conf} {s : St} {bs : List UInt8} {Z : Nat → Option Zd} {gq gl : Nat} {F : QN} (h : QS w L c s bs Z gq gl F)
include h
theorem zLinksC (H : Nat) (hi : It c s Z H) (z : Zd) (hz : Z H = some z) :
    (Calls Tryz.prog 65 #[.pointer (some ⟨L.g, 0, none⟩), .int .u64 (H : Int), .int .i64 1] w fun e w' => e = .returned (.tuple #[.int .u64 (z.a : Int), .int .i64 0]) ∧ Below w.heap.size w w') ∧
    (Calls Tryz.prog 65 #[.pointer (some ⟨L.g, 0, none⟩), .int .u64 (H : Int), .int .i64 2] w fun e w' => e = .returned (.tuple #[.int .u64 (z.b : Int), .int .i64 0]) ∧ Below w.heap.size w w') := by
  obtain ⟨⟨i, x, p, hf⟩, -⟩ := hi
  exact zLinkYes h.zs (good_lt h.okc h.zs.good hf) hf z hz
/-- An item that may not be laid. -/
theorem pushRef (R : Nat) (r0 : R ≠ 0) (H : Nat) (k : Int) (FC : Calls Tryz.prog 62 #[.pointer (some ⟨gq, 0, none⟩), .int .u64 (H : Int), .int .i64 k] w fun e w' => e = .returned (.tuple #[.pointer none, .int .i64 (R : Int)]) ∧ Below w.heap.size w w') :
    (Calls Tryz.prog 22 #[.pointer (some ⟨gq, 0, none⟩), .int .u64 (H : Int), .int .i64 k] w fun e w' => e = .returned (.int .i64 (R : Int)) ∧ Below w.heap.size w w') ∧
    (Calls Tryz.prog 23 #[.pointer (some ⟨gq, 0, none⟩), .int .u64 (H : Int), .int .i64 k] w fun e w' => e = .returned (.int .i64 (R : Int)) ∧ Below w.heap.size w w') := by
  obtain ⟨d1, d2⟩ := ne0 r0
  replace FC := Lib.hid FC
  clear h r0
  constructor
  · go_enter Tryz.func22, Tryz.ntmps22
    go_wp2_with fail
    refine FC.out.mono ?_
    rintro e w1 ⟨rfl, b1⟩
    replace b1 := Lib.hid b1
    go_wp2
    go_ret
    exact ⟨rfl, b1.out⟩
  · go_enter Tryz.func23, Tryz.ntmps23
    go_wp2_with fail
    refine FC.out.mono ?_
    rintro e w1 ⟨rfl, b1⟩
    replace b1 := Lib.hid b1
    go_wp2
    go_ret
    exact ⟨rfl, b1.out⟩
set_option maxRecDepth 100000 in
theorem pushYes (H : Nat) (k : Nat) (hk : k < 3) (hi : It c s Z H) {i x p : Nat} (hf : findN c.cf s H = some (i, x, p)) (hz : zst (Z H) = 0 ∨ 4 ≤ zst (Z H)) (hn : F.n (s.cls i) k < 1073741824) (ha : F.hd (s.cls i) k = 0 ∨ It c s Z (F.hd (s.cls i) k)) :
    Calls Tryz.prog 22 #[.pointer (some ⟨gq, 0, none⟩), .int .u64 (H : Int), .int .i64 ((k : Int) + 1)] w fun e w' => e = .returned (.int .i64 0) ∧ ∃ w1, Below w.heap.size w w1 ∧ Only (Two L gl) w1 w' ∧ ∃ bs', Ed (Itp c s Z) bs bs' ∧ QS w' L c s bs' (layZ Z H (k + 1) 0 (F.hd (s.cls i) k)) gq gl (lF F (s.cls i) k H 0 (F.hd (s.cls i) k)) := by
  have FC := Lib.hid (freeYes h H k hk hi hf hz)
  have kN : s.cls i < c.nc := (Tkn.of h.okc h.zs.good hf).1.kN
  replace h := Lib.hid h
  replace hi := Lib.hid hi
  replace hf := Lib.hid hf
  replace hn := Lib.hid hn
  replace ha := Lib.hid ha
  replace kN := Lib.hid kN
  clear hz
  go_enter Tryz.func22, Tryz.ntmps22
  go_wp2_with fail
  refine FC.out.mono ?_
  rintro e w1 ⟨rfl, b1⟩
  have S := h.out.below b1
  have LC := Lib.hid (layC S kN.out hk H 0 (F.hd (s.cls i) k) hi.out (.inl rfl) ha.out hn.out)
  have p1 := S.q.qhd kN.out hk
  replace b1 := Lib.hid b1
  clear FC S
  go_wp2_with fail
  refine LC.out.mono ?_
  rintro e w2 ⟨rfl, o2, bs2, E2, S2⟩
  replace o2 := Lib.hid o2
  replace E2 := Lib.hid E2
  replace S2 := Lib.hid S2
  go_wp2
  go_ret
  exact ⟨rfl, w1, b1.out, o2.out, bs2, E2.out, S2.out⟩
set_option maxRecDepth 100000 in
theorem lastYes (H : Nat) (k : Nat) (hk : k < 3) (hi : It c s Z H) {i x p : Nat} (hf : findN c.cf s H = some (i, x, p)) (hz : zst (Z H) = 0 ∨ 4 ≤ zst (Z H)) (hn : F.n (s.cls i) k < 1073741824) (ha : F.tl (s.cls i) k = 0 ∨ It c s Z (F.tl (s.cls i) k)) :
    Calls Tryz.prog 23 #[.pointer (some ⟨gq, 0, none⟩), .int .u64 (H : Int), .int .i64 ((k : Int) + 1)] w fun e w' => e = .returned (.int .i64 0) ∧ ∃ w1, Below w.heap.size w w1 ∧ Only (Two L gl) w1 w' ∧ ∃ bs', Ed (Itp c s Z) bs bs' ∧ QS w' L c s bs' (layZ Z H (k + 1) (F.tl (s.cls i) k) 0) gq gl (lF F (s.cls i) k H (F.tl (s.cls i) k) 0) := by
  have FC := Lib.hid (freeYes h H k hk hi hf hz)
  have kN : s.cls i < c.nc := (Tkn.of h.okc h.zs.good hf).1.kN
  replace h := Lib.hid h
  replace hi := Lib.hid hi
  replace hf := Lib.hid hf
  replace hn := Lib.hid hn
  replace ha := Lib.hid ha
  replace kN := Lib.hid kN
  clear hz
  go_enter Tryz.func23, Tryz.ntmps23
  go_wp2_with fail
  refine FC.out.mono ?_
  rintro e w1 ⟨rfl, b1⟩
  have S := h.out.below b1
  have LC := Lib.hid (layC S kN.out hk H (F.tl (s.cls i) k) 0 hi.out ha.out (.inl rfl) hn.out)
  have p1 := S.q.qtl kN.out hk
  replace b1 := Lib.hid b1
  clear FC S
  go_wp2_with fail
  refine LC.out.mono ?_
  rintro e w2 ⟨rfl, o2, bs2, E2, S2⟩
  replace o2 := Lib.hid o2
  replace E2 := Lib.hid E2
  replace S2 := Lib.hid S2
  go_wp2
  go_ret
  exact ⟨rfl, w1, b1.out, o2.out, bs2, E2.out, S2.out⟩
/-- An item that stands in no list. -/
theorem dropNo (H : Nat) (SC : Calls Tryz.prog 64 #[.pointer (some ⟨gq, 0, none⟩), .int .u64 (H : Int)] w fun e w' => e = .returned (.pointer none) ∧ Below w.heap.size w w') :
    Calls Tryz.prog 24 #[.pointer (some ⟨gq, 0, none⟩), .int .u64 (H : Int)] w fun e w' => e = .returned (.int .i64 20) ∧ Below w.heap.size w w' := by
  replace SC := Lib.hid SC
  clear h
  go_enter Tryz.func24, Tryz.ntmps24
  go_wp2_with fail
  refine SC.out.mono ?_
  rintro e w1 ⟨rfl, b1⟩
  replace b1 := Lib.hid b1
  go_wp2
  go_ret
  exact ⟨rfl, b1.out⟩
set_option maxRecDepth 100000 in
theorem dropYes (H : Nat) (k : Nat) (hk : k < 3) {i x p : Nat} (hf : findN c.cf s H = some (i, x, p)) (z : Zd) (hz : Z H = some z) (hk1 : z.st = k + 1) (ha : z.a = 0 ∨ It c s Z z.a) (hb : z.b = 0 ∨ It c s Z z.b) (hn : 1 ≤ F.n (s.cls i) k) (hn2 : F.n (s.cls i) k < 1073741824) :
    Calls Tryz.prog 24 #[.pointer (some ⟨gq, 0, none⟩), .int .u64 (H : Int)] w fun e w' => e = .returned (.int .i64 0) ∧ ∃ w1, Below w.heap.size w w1 ∧ Only (Two L gl) w1 w' ∧ ∃ bs', Ed (Itp c s Z) bs bs' ∧ QS w' L c s bs' (outZ Z H z.a z.b) gq gl (dF F (s.cls i) k z.a z.b) := by
  have hI : It c s Z H := ⟨⟨i, x, p, hf⟩, z, hz⟩
  have SC := Lib.hid (standsIn h H hf hk (by rw [hz]; exact hk1))
  have kN : s.cls i < c.nc := (Tkn.of h.okc h.zs.good hf).1.kN
  replace h := Lib.hid h
  replace hI := Lib.hid hI
  replace hf := Lib.hid hf
  replace hn := Lib.hid hn
  replace hn2 := Lib.hid hn2
  replace ha := Lib.hid ha
  replace hb := Lib.hid hb
  replace hz := Lib.hid hz
  replace kN := Lib.hid kN
  clear hk1
  go_enter Tryz.func24, Tryz.ntmps24
  go_wp2_with fail
  refine SC.out.mono ?_
  rintro e w1 ⟨rfl, b1⟩
  have S := h.out.below b1
  have q0 := S.q.c0
  have C1 := Lib.hid (zLinksC S H hI.out z hz.out).1
  replace b1 := Lib.hid b1
  clear SC
  replace S := Lib.hid S
  go_wp2_with fail
  refine C1.out.mono ?_
  rintro e w2 ⟨rfl, b2⟩
  replace S := S.out.below b2
  have q0 := S.q.c0
  have C2 := Lib.hid (zLinksC S H hI.out z hz.out).2
  replace b2 := Lib.hid (b1.out.trans (b2.mono b1.out.size))
  replace S := Lib.hid S
  clear C1 b1
  go_wp2_with fail
  refine C2.out.mono ?_
  rintro e w3 ⟨rfl, b3⟩
  replace S := S.out.below b3
  have JC := Lib.hid (joinC S kN.out hk z.a z.b ha.out hb.out)
  replace b3 := Lib.hid (b2.out.trans (b3.mono b2.out.size))
  clear C2 b2 S q0
  go_wp2_with fail
  refine JC.out.mono ?_
  rintro e w4 ⟨rfl, o4, bs4, E4, S⟩
  obtain ⟨z4, hz4⟩ := (jZ_it (a := z.a) (b := z.b) hI.out).2
  have C3 := Lib.hid (S.putA (jZ_it hI.out) hz4 (b := 0) (.inl rfl))
  have q0 := S.q.c0
  replace o4 := Lib.hid o4
  replace E4 := Lib.hid E4
  replace hz4 := Lib.hid hz4
  clear JC S
  go_wp2_with fail
  refine C3.out.mono ?_
  rintro e w5 ⟨rfl, o5, bs5, E5, S⟩
  rw [itp_congr (fun H => jZ_some)] at E5
  have hz5 := Lib.hid (upd_at (jZ Z z.a z.b) H (some ⟨z4.st, 0, z4.b⟩))
  have C4 := Lib.hid (S.putB (upd_it (jZ_it hI.out)) hz5.out (b := 0) (.inl rfl))
  have q0 := S.q.c0
  replace o5 := Lib.hid (two_trans o4.out o5)
  replace E5 := Lib.hid (E4.out.trans E5)
  clear C3 S o4 E4
  go_wp2_with fail
  refine C4.out.mono ?_
  rintro e w6 ⟨rfl, o6, bs6, E6, S⟩
  rw [itp_congr (upd_some (jZ_it hI.out).2), itp_congr (fun H => jZ_some)] at E6
  simp only [upd_upd] at S
  have hz6 := Lib.hid (upd_at (jZ Z z.a z.b) H (some ⟨z4.st, 0, 0⟩))
  have C5 := Lib.hid (S.putS (upd_it (jZ_it hI.out)) hz6.out 4 4 rfl (by omega) (by omega))
  have q0 := S.q.c0
  replace o6 := Lib.hid (two_trans o5.out o6)
  replace E6 := Lib.hid (E5.out.trans E6)
  clear C4 S o5 E5 hz5
  go_wp2_with fail
  refine C5.out.mono ?_
  rintro e w7 ⟨rfl, o7, bs7, E7, S⟩
  rw [itp_congr (upd_some (jZ_it hI.out).2), itp_congr (fun H => jZ_some)] at E7
  simp only [upd_upd] at S
  replace o7 := Lib.hid (two_trans o6.out o7)
  replace E7 := Lib.hid (E6.out.trans E7)
  have p1 := S.q.qn kN.out hk
  rw [jF_n] at p1
  have p2 := S.q.grid.frozen (s.cls i * 9 + k * 3 + 2)
  have e1 : (F.n (s.cls i) k : Int) - 1 = ((F.n (s.cls i) k - 1 : Nat) : Int) := by have := hn.out; omega
  have s1 : IntKind.i64.wrap ((F.n (s.cls i) k : Int) - 1) = ((F.n (s.cls i) k - 1 : Nat) : Int) := by
    rw [e1]; exact IntWalk.i64_in _ (by have := hn2.out; omega)
  have S8 := Lib.hid (S.cell (S.q.setN kN.out hk (F.n (s.cls i) k - 1)))
  replace S := Lib.hid S
  clear C5 o6 E6 hz6 q0 e1
  go_wp2_with fail
  go_ret
  exact ⟨rfl, w3, b3.out, two_trans o7.out S8.out.2, bs7, E7.out, S8.out.1⟩
end
end Go.Proofs.YtfjiphibalhcgaaGreat.Que
/-
  The queue's lists as rows of handles: what the cells and the headers say of them, and how they change.
-/
namespace Go.Proofs.YtfjiphibalhcgaaGreat.Que
open Go.RowKit Base Arena Cls Itm
set_option linter.unusedVariables false
set_option linter.unusedSectionVars false

structure QI (c : Conf) (s : St) (Z : Nat → Option Zd) (F : QN) (Ls : Nat → Nat → List Nat) : Prop where
  ch : ∀ x k, x < c.nc → k < 3 → Chain Z (k + 1) 0 (Ls x k) 0
  hd : ∀ x k, x < c.nc → k < 3 → F.hd x k = (Ls x k).head?.getD 0
  tl : ∀ x k, x < c.nc → k < 3 → F.tl x k = (Ls x k).getLast?.getD 0
  n : ∀ x k, x < c.nc → k < 3 → F.n x k = (Ls x k).length
  it : ∀ x k h, x < c.nc → k < 3 → h ∈ Ls x k → ∃ i y p, findN c.cf s h = some (i, y, p) ∧ s.cls i = x
  nd : ∀ x k, x < c.nc → k < 3 → (Ls x k).Nodup
  dj : ∀ x k x' k' h, x < c.nc → k < 3 → x' < c.nc → k' < 3 → h ∈ Ls x k → h ∈ Ls x' k' → x = x' ∧ k = k'
  out : ∀ H z, (∃ i x p, findN c.cf s H = some (i, x, p)) → Z H = some z → (∀ x k, x < c.nc → k < 3 → H ∉ Ls x k) → z = ⟨4, 0, 0⟩
def updL (Ls : Nat → Nat → List Nat) (x k : Nat) (l : List Nat) : Nat → Nat → List Nat := fun a b => if a = x ∧ b = k then l else Ls a b
theorem updL_at (Ls : Nat → Nat → List Nat) (x k : Nat) (l : List Nat) : updL Ls x k l x k = l := if_pos ⟨rfl, rfl⟩
theorem updL_ne {Ls : Nat → Nat → List Nat} {x k a b : Nat} {l : List Nat} (h : ¬ (a = x ∧ b = k)) : updL Ls x k l a b = Ls a b := if_neg h
theorem updF_at (f : Nat → Nat → Nat) (x k v : Nat) : updF f x k v x k = v := if_pos ⟨rfl, rfl⟩
theorem updF_ne {f : Nat → Nat → Nat} {x k a b v : Nat} (h : ¬ (a = x ∧ b = k)) : updF f x k v a b = f a b := if_neg h
theorem jF_hd_ne {F : QN} {x k a b x' k' : Nat} (e : ¬ (x' = x ∧ k' = k)) : (jF F x k a b).hd x' k' = F.hd x' k' := by
  unfold jF jH
  split <;> split <;> first | rfl | exact updF_ne e
theorem jF_tl_ne {F : QN} {x k a b x' k' : Nat} (e : ¬ (x' = x ∧ k' = k)) : (jF F x k a b).tl x' k' = F.tl x' k' := by
  unfold jF jH
  split <;> split <;> first | rfl | exact updF_ne e
theorem jF_hd (F : QN) (x k a b : Nat) : (jF F x k a b).hd x k = if a = 0 then b else F.hd x k := by
  unfold jF jH
  split <;> split <;> first | rfl | exact updF_at _ _ _ _
theorem jF_tl (F : QN) (x k a b : Nat) : (jF F x k a b).tl x k = if b = 0 then a else F.tl x k := by
  unfold jF jH
  split <;> split <;> first | rfl | exact updF_at _ _ _ _
theorem chain_some {Z : Nat → Option Zd} {k : Nat} : ∀ {l : List Nat} {p n : Nat}, Chain Z k p l n → ∀ h ∈ l, ∃ a b, Z h = some ⟨k, a, b⟩
  | [], _, _, _, h, hh => by cases hh
  | x :: t, p, n, hc, h, hh => by
    rcases List.mem_cons.1 hh with rfl | hh
    · exact ⟨_, _, hc.1⟩
    · exact chain_some hc.2 h hh
section
variable {c : Conf} {s : St} (ok : c.cf.Ok) (g : Cls.Good c.cf s)
include ok g
theorem good_mod {H H' i x p i' x' p' : Nat} (h : findN c.cf s H = some (i, x, p)) (h' : findN c.cf s H' = some (i', x', p')) (e : H % 4294967296 = H' % 4294967296) : H = H' := by
  obtain ⟨t, eH⟩ := Tkn.of ok g h
  obtain ⟨t', eH'⟩ := Tkn.of ok g h'
  obtain ⟨-, -, -, p8, -⟩ := t.fit ok
  obtain ⟨-, -, -, p8', -⟩ := t'.fit ok
  obtain ⟨-, -, h3, -, -⟩ := t.hlt ok g
  obtain ⟨-, -, h3', -, -⟩ := t'.hlt ok g
  rw [← eH] at h3
  rw [← eH'] at h3'
  have hp : p = p' := by omega
  subst hp
  obtain ⟨-, -, -, eG⟩ := t.same ok t'
  rw [eH, eH', eG]
theorem good_short (l : List Nat) (hd : l.Nodup) (hl : ∀ h ∈ l, ∃ i x p, findN c.cf s h = some (i, x, p)) : l.length ≤ 134217729 := by
  have h1 : (l.map (· % 4294967296)).Nodup := by
    unfold List.Nodup
    rw [List.pairwise_map]
    refine List.Pairwise.imp_of_mem ?_ hd
    intro a b ha hb hab e
    obtain ⟨i, x, p, hf⟩ := hl a ha
    obtain ⟨i', x', p', hf'⟩ := hl b hb
    exact hab (good_mod ok g hf hf' e)
  have h2 := nodup_le 134217729 _ h1 (by
    intro y hy
    obtain ⟨a, ha, rfl⟩ := List.mem_map.1 hy
    obtain ⟨i, x, p, hf⟩ := hl a ha
    obtain ⟨t, eH⟩ := Tkn.of ok g hf
    obtain ⟨-, -, h3, -, h5⟩ := t.hlt ok g
    rw [← eH] at h3
    show a % 4294967296 < 134217729
    omega)
  rw [List.length_map] at h2
  exact h2
end
section
variable {c : Conf} {s : St} {Z : Nat → Option Zd} {F : QN} {Ls : Nat → Nat → List Nat} (q : QI c s Z F Ls)
include q
theorem QI.ne0 {x k h : Nat} (hx : x < c.nc) (hk : k < 3) (hh : h ∈ Ls x k) : h ≠ 0 := by
  obtain ⟨i, y, p, hf, -⟩ := q.it x k h hx hk hh
  exact good_ne hf
theorem QI.is {x k h : Nat} (hx : x < c.nc) (hk : k < 3) (hh : h ∈ Ls x k) : It c s Z h := by
  obtain ⟨i, y, p, hf, -⟩ := q.it x k h hx hk hh
  obtain ⟨a, b, hz⟩ := chain_some (q.ch x k hx hk) h hh
  exact ⟨⟨i, y, p, hf⟩, _, hz⟩
theorem QI.hdI {x k : Nat} (hx : x < c.nc) (hk : k < 3) : F.hd x k = 0 ∨ It c s Z (F.hd x k) := by
  rw [q.hd x k hx hk]
  exact head_in.imp id (q.is hx hk)
theorem QI.tlI {x k : Nat} (hx : x < c.nc) (hk : k < 3) : F.tl x k = 0 ∨ It c s Z (F.tl x k) := by
  rw [q.tl x k hx hk]
  exact last_in.imp id (q.is hx hk)
theorem QI.nB (ok : c.cf.Ok) (g : Cls.Good c.cf s) {x k : Nat} (hx : x < c.nc) (hk : k < 3) : F.n x k ≤ 134217729 := by
  rw [q.n x k hx hk]
  exact good_short ok g _ (q.nd x k hx hk) fun h hh => by
    obtain ⟨i, y, p, hf, -⟩ := q.it x k h hx hk hh
    exact ⟨i, y, p, hf⟩
/-- An item's list. -/
theorem QI.where_ {H : Nat} (hi : It c s Z H) : (∃ x k, x < c.nc ∧ k < 3 ∧ H ∈ Ls x k) ∨ (∀ x k, x < c.nc → k < 3 → H ∉ Ls x k) ∧ Z H = some ⟨4, 0, 0⟩ := by
  by_cases h : ∃ x k, x < c.nc ∧ k < 3 ∧ H ∈ Ls x k
  · exact .inl h
  · have h' : ∀ x k, x < c.nc → k < 3 → H ∉ Ls x k := fun x k hx hk hh => h ⟨x, k, hx, hk, hh⟩
    obtain ⟨hf, z, hz⟩ := hi
    refine .inr ⟨h', ?_⟩
    rw [hz, q.out H z hf hz h']
theorem QI.lay (ok : c.cf.Ok) (g : Cls.Good c.cf s) {x k H : Nat} (hx : x < c.nc) (hk : k < 3) {i y p : Nat} (hf : findN c.cf s H = some (i, y, p)) (hc : s.cls i = x) (hout : ∀ x k, x < c.nc → k < 3 → H ∉ Ls x k) (l1 l2 : List Nat) (hl : Ls x k = l1 ++ l2) :
    QI c s (layZ Z H (k + 1) (l1.getLast?.getD 0) (l2.head?.getD 0)) (lF F x k H (l1.getLast?.getD 0) (l2.head?.getD 0)) (updL Ls x k (l1 ++ H :: l2)) := by
  have h0 := good_ne hf
  have hnd := q.nd x k hx hk
  have hch := q.ch x k hx hk
  have hhd := q.hd x k hx hk
  have htl := q.tl x k hx hk
  have hz0 : ∀ y ∈ l1 ++ l2, y ≠ 0 := fun y hy => q.ne0 hx hk (hl ▸ hy)
  have hno := hout x k hx hk
  have m1 : ∀ y ∈ l1, y ∈ Ls x k := fun y hy => by rw [hl]; exact List.mem_append.2 (.inl hy)
  have m2 : ∀ y ∈ l2, y ∈ Ls x k := fun y hy => by rw [hl]; exact List.mem_append.2 (.inr hy)
  have far : ∀ x' k' y, x' < c.nc → k' < 3 → ¬ (x' = x ∧ k' = k) → y ∈ Ls x' k' → layZ Z H (k + 1) (l1.getLast?.getD 0) (l2.head?.getD 0) y = Z y := by
    intro x' k' y hx' hk' hne hy
    refine layZ_ne (fun e => hout x' k' hx' hk' (e ▸ hy)) (fun e => ?_) (fun e => ?_)
    · rcases last_in (l := l1) with h | h
      · exact q.ne0 hx' hk' hy (e.trans h)
      · exact hne (q.dj x' k' x k y hx' hk' hx hk hy (e ▸ m1 _ h))
    · rcases head_in (l := l2) with h | h
      · exact q.ne0 hx' hk' hy (e.trans h)
      · exact hne (q.dj x' k' x k y hx' hk' hx hk hy (e ▸ m2 _ h))
  have hn : F.n x k = (Ls x k).length := q.n x k hx hk
  rw [hl] at hnd hch hhd htl hno hn
  constructor
  · intro x' k' hx' hk'
    by_cases e : x' = x ∧ k' = k
    · obtain ⟨rfl, rfl⟩ := e
      rw [updL_at]
      exact chain_lay hch hnd hz0 h0 hno
    · rw [updL_ne e]
      exact (q.ch x' k' hx' hk').congr fun y hy => far x' k' y hx' hk' e hy
  · intro x' k' hx' hk'
    by_cases e : x' = x ∧ k' = k
    · obtain ⟨rfl, rfl⟩ := e
      rw [updL_at]
      show (jF (jF F x' k' _ H) x' k' H _).hd x' k' = _
      rw [jF_hd, if_neg h0, jF_hd]
      cases l1 with
      | nil => rfl
      | cons a t =>
        have hne : ((a :: t).getLast?.getD 0) ≠ 0 := fun e => by
          have : (a :: t).getLast?.getD 0 ∈ a :: t := by
            rw [List.getLast?_eq_some_getLast (by simp)]
            exact List.getLast_mem _
          rw [e] at this
          exact hz0 0 (List.mem_append.2 (.inl this)) rfl
        rw [if_neg hne]
        exact hhd
    · rw [updL_ne e, ← q.hd x' k' hx' hk']
      exact (jF_hd_ne e).trans (jF_hd_ne e)
  · intro x' k' hx' hk'
    by_cases e : x' = x ∧ k' = k
    · obtain ⟨rfl, rfl⟩ := e
      rw [updL_at]
      show (jF (jF F x' k' _ H) x' k' H _).tl x' k' = _
      rw [jF_tl, jF_tl, if_neg h0]
      cases l2 with
      | nil =>
        rw [if_pos (show (([] : List Nat).head?.getD 0) = 0 from rfl), List.getLast?_concat]
        rfl
      | cons a t =>
        have hne : ((a :: t).head?.getD 0) ≠ 0 := hz0 a (by simp)
        rw [if_neg hne]
        have e2 : (l1 ++ H :: a :: t).getLast?.getD 0 = (l1 ++ a :: t).getLast?.getD 0 := by
          rw [List.getLast?_append, List.getLast?_append, List.getLast?_cons_cons]
        rw [e2, ← htl]
    · rw [updL_ne e, ← q.tl x' k' hx' hk']
      exact (jF_tl_ne e).trans (jF_tl_ne e)
  · intro x' k' hx' hk'
    by_cases e : x' = x ∧ k' = k
    · obtain ⟨rfl, rfl⟩ := e
      rw [updL_at]
      refine (updF_at _ _ _ _).trans ?_
      rw [hn]
      simp only [List.length_append, List.length_cons]
      omega
    · rw [updL_ne e, ← q.n x' k' hx' hk']
      refine (updF_ne e).trans ?_
      rw [jF_n, jF_n]
  · intro x' k' y' hx' hk' hy
    by_cases e : x' = x ∧ k' = k
    · obtain ⟨rfl, rfl⟩ := e
      rw [updL_at] at hy
      rcases List.mem_append.1 hy with hy | hy
      · exact q.it x' k' y' hx hk (m1 _ hy)
      · rcases List.mem_cons.1 hy with rfl | hy
        · exact ⟨i, y, p, hf, hc⟩
        · exact q.it x' k' y' hx hk (m2 _ hy)
    · rw [updL_ne e] at hy
      exact q.it x' k' y' hx' hk' hy
  · intro x' k' hx' hk'
    by_cases e : x' = x ∧ k' = k
    · obtain ⟨rfl, rfl⟩ := e
      rw [updL_at]
      obtain ⟨d1, d2, d3⟩ := List.nodup_append.1 hnd
      refine List.nodup_append.2 ⟨d1, List.nodup_cons.2 ⟨fun e => hno (List.mem_append.2 (.inr e)), d2⟩, fun a ha b hb e => ?_⟩
      rcases List.mem_cons.1 hb with rfl | hb
      · exact hno (List.mem_append.2 (.inl (e ▸ ha)))
      · exact d3 a ha b hb e
    · rw [updL_ne e]; exact q.nd x' k' hx' hk'
  · intro x1 k1 x2 k2 y' hx1 hk1 hx2 hk2 h1 h2
    have key : ∀ a b, a < c.nc → b < 3 → y' ∈ updL Ls x k (l1 ++ H :: l2) a b → y' = H ∧ a = x ∧ b = k ∨ y' ≠ H ∧ y' ∈ Ls a b := by
      intro a b ha hb hy
      by_cases e : a = x ∧ b = k
      · obtain ⟨rfl, rfl⟩ := e
        rw [updL_at] at hy
        by_cases eH : y' = H
        · exact .inl ⟨eH, rfl, rfl⟩
        · refine .inr ⟨eH, ?_⟩
          rcases List.mem_append.1 hy with hy | hy
          · exact m1 _ hy
          · rcases List.mem_cons.1 hy with hy | hy
            · exact absurd hy eH
            · exact m2 _ hy
      · rw [updL_ne e] at hy
        exact .inr ⟨fun eH => hout a b ha hb (eH ▸ hy), hy⟩
    rcases key x1 k1 hx1 hk1 h1 with ⟨a1, a2, a3⟩ | ⟨a1, a2⟩ <;> rcases key x2 k2 hx2 hk2 h2 with ⟨b1, b2, b3⟩ | ⟨b1, b2⟩
    · exact ⟨a2.trans b2.symm, a3.trans b3.symm⟩
    · exact absurd a1 b1
    · exact absurd b1 a1
    · exact q.dj x1 k1 x2 k2 y' hx1 hk1 hx2 hk2 a2 b2
  · intro H' z hf' hz' hno'
    have hne : H' ≠ H := fun e => hno' x k hx hk (by rw [updL_at, e]; simp)
    have hno2 : ∀ a b, a < c.nc → b < 3 → H' ∉ Ls a b := by
      intro a b ha hb hy
      by_cases e : a = x ∧ b = k
      · obtain ⟨rfl, rfl⟩ := e
        refine hno' a b ha hb ?_
        rw [updL_at]
        rw [hl] at hy
        rcases List.mem_append.1 hy with hy | hy
        · exact List.mem_append.2 (.inl hy)
        · exact List.mem_append.2 (.inr (List.mem_cons_of_mem _ hy))
      · exact hno' a b ha hb (by rw [updL_ne e]; exact hy)
    have h0' : H' ≠ 0 := by obtain ⟨i, x, p, hf'⟩ := hf'; exact good_ne hf'
    rw [layZ_ne hne (fun e => by
      rcases last_in (l := l1) with h | h
      · exact h0' (e.trans h)
      · exact hno2 x k hx hk (e ▸ m1 _ h)) (fun e => by
      rcases head_in (l := l2) with h | h
      · exact h0' (e.trans h)
      · exact hno2 x k hx hk (e ▸ m2 _ h))] at hz'
    exact q.out H' z hf' hz' hno2
theorem QI.drop {x k H : Nat} (hx : x < c.nc) (hk : k < 3) (l1 l2 : List Nat) (hl : Ls x k = l1 ++ H :: l2) :
    Z H = some ⟨k + 1, l1.getLast?.getD 0, l2.head?.getD 0⟩ ∧ QI c s (outZ Z H (l1.getLast?.getD 0) (l2.head?.getD 0)) (dF F x k (l1.getLast?.getD 0) (l2.head?.getD 0)) (updL Ls x k (l1 ++ l2)) := by
  have hnd := q.nd x k hx hk
  have hch := q.ch x k hx hk
  have hhd := q.hd x k hx hk
  have htl := q.tl x k hx hk
  have hz0 : ∀ y ∈ l1 ++ H :: l2, y ≠ 0 := fun y hy => q.ne0 hx hk (hl ▸ hy)
  have m1 : ∀ y ∈ l1, y ∈ Ls x k := fun y hy => by rw [hl]; exact List.mem_append.2 (.inl hy)
  have m2 : ∀ y ∈ l2, y ∈ Ls x k := fun y hy => by rw [hl]; exact List.mem_append.2 (.inr (List.mem_cons_of_mem _ hy))
  have mH : H ∈ Ls x k := by rw [hl]; simp
  have far : ∀ x' k' y, x' < c.nc → k' < 3 → ¬ (x' = x ∧ k' = k) → y ∈ Ls x' k' → outZ Z H (l1.getLast?.getD 0) (l2.head?.getD 0) y = Z y := by
    intro x' k' y hx' hk' hne hy
    refine outZ_ne (fun e => hne (q.dj x' k' x k y hx' hk' hx hk hy (e ▸ mH))) (fun e => ?_) (fun e => ?_)
    · rcases last_in (l := l1) with h | h
      · exact q.ne0 hx' hk' hy (e.trans h)
      · exact hne (q.dj x' k' x k y hx' hk' hx hk hy (e ▸ m1 _ h))
    · rcases head_in (l := l2) with h | h
      · exact q.ne0 hx' hk' hy (e.trans h)
      · exact hne (q.dj x' k' x k y hx' hk' hx hk hy (e ▸ m2 _ h))
  have hn : F.n x k = (Ls x k).length := q.n x k hx hk
  rw [hl] at hnd hch hhd htl hn
  obtain ⟨hZ, hC⟩ := chain_out hch hnd hz0
  obtain ⟨d1, d2, d3⟩ := List.nodup_append.1 hnd
  obtain ⟨d4, d5⟩ := List.nodup_cons.1 d2
  refine ⟨hZ, ?_⟩
  constructor
  · intro x' k' hx' hk'
    by_cases e : x' = x ∧ k' = k
    · obtain ⟨rfl, rfl⟩ := e
      rw [updL_at]
      exact hC
    · rw [updL_ne e]
      exact (q.ch x' k' hx' hk').congr fun y hy => far x' k' y hx' hk' e hy
  · intro x' k' hx' hk'
    by_cases e : x' = x ∧ k' = k
    · obtain ⟨rfl, rfl⟩ := e
      rw [updL_at]
      show (jF F x' k' _ _).hd x' k' = _
      rw [jF_hd]
      cases l1 with
      | nil => rfl
      | cons a t =>
        have hne : ((a :: t).getLast?.getD 0) ≠ 0 := fun e => by
          have : (a :: t).getLast?.getD 0 ∈ a :: t := by
            rw [List.getLast?_eq_some_getLast (by simp)]
            exact List.getLast_mem _
          rw [e] at this
          exact hz0 0 (List.mem_append.2 (.inl this)) rfl
        rw [if_neg hne]
        exact hhd
    · rw [updL_ne e, ← q.hd x' k' hx' hk']
      exact jF_hd_ne e
  · intro x' k' hx' hk'
    by_cases e : x' = x ∧ k' = k
    · obtain ⟨rfl, rfl⟩ := e
      rw [updL_at]
      show (jF F x' k' _ _).tl x' k' = _
      rw [jF_tl]
      cases l2 with
      | nil =>
        rw [if_pos (show (([] : List Nat).head?.getD 0) = 0 from rfl), List.append_nil]
      | cons a t =>
        have hne : ((a :: t).head?.getD 0) ≠ 0 := hz0 a (by simp)
        rw [if_neg hne]
        have e2 : (l1 ++ H :: a :: t).getLast?.getD 0 = (l1 ++ a :: t).getLast?.getD 0 := by
          rw [List.getLast?_append, List.getLast?_append, List.getLast?_cons_cons]
        rw [← e2, ← htl]
    · rw [updL_ne e, ← q.tl x' k' hx' hk']
      exact jF_tl_ne e
  · intro x' k' hx' hk'
    by_cases e : x' = x ∧ k' = k
    · obtain ⟨rfl, rfl⟩ := e
      rw [updL_at]
      refine (updF_at _ _ _ _).trans ?_
      rw [hn]
      simp only [List.length_append, List.length_cons]
      omega
    · rw [updL_ne e, ← q.n x' k' hx' hk']
      refine (updF_ne e).trans ?_
      rw [jF_n]
  · intro x' k' y' hx' hk' hy
    by_cases e : x' = x ∧ k' = k
    · obtain ⟨rfl, rfl⟩ := e
      rw [updL_at] at hy
      rcases List.mem_append.1 hy with hy | hy
      · exact q.it x' k' y' hx hk (m1 _ hy)
      · exact q.it x' k' y' hx hk (m2 _ hy)
    · rw [updL_ne e] at hy
      exact q.it x' k' y' hx' hk' hy
  · intro x' k' hx' hk'
    by_cases e : x' = x ∧ k' = k
    · obtain ⟨rfl, rfl⟩ := e
      rw [updL_at]
      exact List.nodup_append.2 ⟨d1, d5, fun a ha b hb => d3 a ha b (List.mem_cons_of_mem _ hb)⟩
    · rw [updL_ne e]; exact q.nd x' k' hx' hk'
  · intro x1 k1 x2 k2 y' hx1 hk1 hx2 hk2 h1 h2
    have key : ∀ a b, a < c.nc → b < 3 → y' ∈ updL Ls x k (l1 ++ l2) a b → y' ∈ Ls a b := by
      intro a b ha hb hy
      by_cases e : a = x ∧ b = k
      · obtain ⟨rfl, rfl⟩ := e
        rw [updL_at] at hy
        rcases List.mem_append.1 hy with hy | hy
        · exact m1 _ hy
        · exact m2 _ hy
      · rw [updL_ne e] at hy; exact hy
    exact q.dj x1 k1 x2 k2 y' hx1 hk1 hx2 hk2 (key _ _ hx1 hk1 h1) (key _ _ hx2 hk2 h2)
  · intro H' z hf' hz' hno'
    by_cases hne : H' = H
    · subst hne
      unfold outZ at hz'
      rw [upd_at] at hz'
      injection hz' with hz'
      exact hz'.symm
    have hno2 : ∀ a b, a < c.nc → b < 3 → H' ∉ Ls a b := by
      intro a b ha hb hy
      by_cases e : a = x ∧ b = k
      · obtain ⟨rfl, rfl⟩ := e
        refine hno' a b ha hb ?_
        rw [updL_at]
        rw [hl] at hy
        rcases List.mem_append.1 hy with hy | hy
        · exact List.mem_append.2 (.inl hy)
        · rcases List.mem_cons.1 hy with hy | hy
          · exact absurd hy hne
          · exact List.mem_append.2 (.inr hy)
      · exact hno' a b ha hb (by rw [updL_ne e]; exact hy)
    have h0' : H' ≠ 0 := by obtain ⟨i, x, p, hf'⟩ := hf'; exact good_ne hf'
    rw [outZ_ne hne (fun e => by
      rcases last_in (l := l1) with h | h
      · exact h0' (e.trans h)
      · exact hno2 x k hx hk (e ▸ m1 _ h)) (fun e => by
      rcases head_in (l := l2) with h | h
      · exact h0' (e.trans h)
      · exact hno2 x k hx hk (e ▸ m2 _ h))] at hz'
    exact q.out H' z hf' hz' hno2
end
end Go.Proofs.YtfjiphibalhcgaaGreat.Que
/-
  The queue's calls, by its rows of handles.
-/
namespace Go.Proofs.YtfjiphibalhcgaaGreat.Que
open Go.RowKit Base Arena Cls Itm
set_option linter.unusedVariables false
set_option linter.unusedSectionVars false

/-- The queue's lists are Ls. -/
def QW (w : World) (L : Lay) (c : Conf) (s : St) (bs : List UInt8) (Z : Nat → Option Zd) (gq gl : Nat) (Ls : Nat → Nat → List Nat) : Prop := ∃ F, QS w L c s bs Z gq gl F ∧ QI c s Z F Ls
/-- The number of the list in which H stands; 0: in none. -/
def stK (x : Nat) (Ls : Nat → Nat → List Nat) (H : Nat) : Nat := if H ∈ Ls x 0 then 1 else if H ∈ Ls x 1 then 2 else if H ∈ Ls x 2 then 3 else 0
def clsN (c : Conf) (s : St) (H : Nat) : Nat := match findN c.cf s H with
  | some (i, _, _) => s.cls i
  | none => 0
/-- Is it an item's? -/
def isN (c : Conf) (s : St) (Z : Nat → Option Zd) (H : Nat) : Bool := (findN c.cf s H).isSome && (Z H).isSome
def putN (x : Nat) (Ls : Nat → Nat → List Nat) (H k : Nat) (last : Bool) : Nat → Nat → List Nat := updL Ls x k (if last then Ls x k ++ [H] else H :: Ls x k)
def pushN (c : Conf) (s : St) (Z : Nat → Option Zd) (Ls : Nat → Nat → List Nat) (H : Nat) (kind : Int) (last : Bool) : Nat × (Nat → Nat → List Nat) :=
  if ¬ (1 ≤ kind ∧ kind ≤ 3) then (1, Ls) else if isN c s Z H = false then (20, Ls) else if stK (clsN c s H) Ls H ≠ 0 then (8, Ls) else (0, putN (clsN c s H) Ls H (kind.toNat - 1) last)
def outN (x : Nat) (Ls : Nat → Nat → List Nat) (H : Nat) : Nat → Nat → List Nat := updL Ls x (stK x Ls H - 1) ((Ls x (stK x Ls H - 1)).erase H)
def dropN (c : Conf) (s : St) (Ls : Nat → Nat → List Nat) (H : Nat) : Nat × (Nat → Nat → List Nat) := if stK (clsN c s H) Ls H = 0 then (20, Ls) else (0, outN (clsN c s H) Ls H)
/-- Behind a call: what it changed. -/
def Did (w w' : World) (L : Lay) (c : Conf) (s : St) (bs : List UInt8) (Z : Nat → Option Zd) (gq gl : Nat) (r : Nat × (Nat → Nat → List Nat)) : Prop :=
  Only (Two L gl) w w' ∧ ∃ bs' Z', Ed (Itp c s Z) bs bs' ∧ (∀ H, (Z' H).isSome = (Z H).isSome) ∧ (r.1 ≠ 0 → bs' = bs) ∧ QW w' L c s bs' Z' gq gl r.2
theorem below_two {w w' : World} {L : Lay} {gl : Nat} (h : Below w.heap.size w w') : Only (Two L gl) w w' := ⟨h.os, h.tape, h.output, h.size, fun i hi _ => h.block i hi⟩
theorem stK_zero {x : Nat} {Ls : Nat → Nat → List Nat} {H : Nat} (h : stK x Ls H = 0) : ∀ k, k < 3 → H ∉ Ls x k := by
  intro k hk
  unfold stK at h
  split at h
  · omega
  split at h
  · omega
  split at h
  · omega
  obtain rfl | rfl | rfl : k = 0 ∨ k = 1 ∨ k = 2 := by omega
  all_goals assumption
theorem stK_pos {x : Nat} {Ls : Nat → Nat → List Nat} {H : Nat} (h : stK x Ls H ≠ 0) : ∃ k, k < 3 ∧ stK x Ls H = k + 1 ∧ H ∈ Ls x k := by
  unfold stK at h ⊢
  split
  · exact ⟨0, by omega, rfl, by assumption⟩
  split
  · exact ⟨1, by omega, rfl, by assumption⟩
  split
  · exact ⟨2, by omega, rfl, by assumption⟩
  · rename_i h1 h2 h3
    rw [if_neg h1, if_neg h2, if_neg h3] at h
    exact absurd rfl h
section
variable {c : Conf} {s : St} {Z : Nat → Option Zd} {F : QN} {Ls : Nat → Nat → List Nat} (q : QI c s Z F Ls)
include q
theorem QI.of_stK (ok : c.cf.Ok) (g : Cls.Good c.cf s) {H : Nat} (h : stK (clsN c s H) Ls H ≠ 0) : ∃ k i y p, k < 3 ∧ stK (clsN c s H) Ls H = k + 1 ∧ findN c.cf s H = some (i, y, p) ∧ clsN c s H = s.cls i ∧ s.cls i < c.nc ∧ H ∈ Ls (s.cls i) k := by
  obtain ⟨k, hk, e, hm⟩ := stK_pos h
  cases hf : findN c.cf s H with
  | none =>
    have e0 : clsN c s H = 0 := by unfold clsN; rw [hf]
    rw [e0] at hm
    by_cases h0 : 0 < c.nc
    · obtain ⟨i, y, p, hf', -⟩ := q.it 0 k H h0 hk hm
      rw [hf] at hf'; cases hf'
    · exact absurd ok.nc h0
  | some v =>
    obtain ⟨i, y, p⟩ := v
    have e0 : clsN c s H = s.cls i := by unfold clsN; rw [hf]
    exact ⟨k, i, y, p, hk, e, rfl, e0, (Tkn.of ok g hf).1.kN, e0 ▸ hm⟩
theorem QI.not_stK {H : Nat} (h : stK (clsN c s H) Ls H = 0) : ∀ x k, x < c.nc → k < 3 → H ∉ Ls x k := by
  intro x k hx hk hm
  obtain ⟨i, y, p, hf, hc⟩ := q.it x k H hx hk hm
  have e0 : clsN c s H = x := by unfold clsN; rw [hf]; exact hc
  rw [e0] at h
  exact stK_zero h k hk hm
theorem QI.split {x k H : Nat} (hx : x < c.nc) (hk : k < 3) (hm : H ∈ Ls x k) : ∃ l1 l2, Ls x k = l1 ++ H :: l2 ∧ (Ls x k).erase H = l1 ++ l2 ∧ Z H = some ⟨k + 1, l1.getLast?.getD 0, l2.head?.getD 0⟩ := by
  obtain ⟨l1, l2, hl⟩ := List.append_of_mem hm
  have hnd := q.nd x k hx hk
  refine ⟨l1, l2, hl, ?_, (q.drop hx hk l1 l2 hl).1⟩
  rw [hl] at hnd ⊢
  have n1 : H ∉ l1 := fun e => (List.nodup_append.1 hnd).2.2 H e H (List.mem_cons_self ..) rfl
  rw [List.erase_append_right _ n1, List.erase_cons_head]
theorem QI.free {H : Nat} {i y p : Nat} (hf : findN c.cf s H = some (i, y, p)) (hn : ∀ x k, x < c.nc → k < 3 → H ∉ Ls x k) : zst (Z H) = 0 ∨ 4 ≤ zst (Z H) := by
  cases hz : Z H with
  | none => exact .inl rfl
  | some z =>
    rw [q.out H z ⟨i, y, p, hf⟩ hz hn]
    exact .inr (Nat.le_refl 4)
end
section
variable {w : World} {L : Lay} {c : Conf} {s : St} {bs : List UInt8} {Z : Nat → Option Zd} {gq gl : Nat} {Ls : Nat → Nat → List Nat} (h : QW w L c s bs Z gq gl Ls)
include h
theorem QW.same {w' : World} {R : Nat} (b : Below w.heap.size w w') : Did w w' L c s bs Z gq gl (R, Ls) := by
  obtain ⟨F, S, q⟩ := h
  exact ⟨below_two b, bs, Z, Ed.refl _ _, fun _ => rfl, fun _ => rfl, F, S.below b, q⟩
theorem standsC (H : Nat) (hH : H < 18446744073709551616) : Calls Tryz.prog 64 #[.pointer (some ⟨gq, 0, none⟩), .int .u64 (H : Int)] w fun e w' => e = .returned (.pointer (if stK (clsN c s H) Ls H = 0 then none else some ⟨gl, clsN c s H * 9 + (stK (clsN c s H) Ls H - 1) * 3, none⟩)) ∧ Below w.heap.size w w' := by
  obtain ⟨F, S, q⟩ := h
  by_cases h0 : stK (clsN c s H) Ls H = 0
  · rw [if_pos h0]
    cases hf : findN c.cf s H with
    | none => exact standsNo S H hH hf
    | some v =>
      obtain ⟨i, y, p⟩ := v
      exact standsOut S H hf (q.free hf (q.not_stK h0))
  · rw [if_neg h0]
    obtain ⟨k, i, y, p, hk, e, hf, ec, hx, hm⟩ := q.of_stK S.okc S.zs.good h0
    obtain ⟨l1, l2, hl, -, hz⟩ := q.split hx hk hm
    rw [e, ec, Nat.add_sub_cancel]
    exact standsIn S H hf hk (by rw [hz]; rfl)
theorem qFreeC (H : Nat) (hH : H < 18446744073709551616) (kind : Int) (last : Bool) (R : Nat) (hR : (pushN c s Z Ls H kind last).1 = R) (r0 : R ≠ 0) : Calls Tryz.prog 62 #[.pointer (some ⟨gq, 0, none⟩), .int .u64 (H : Int), .int .i64 kind] w fun e w' => e = .returned (.tuple #[.pointer none, .int .i64 (R : Int)]) ∧ Below w.heap.size w w' := by
  obtain ⟨F, S, q⟩ := h
  unfold pushN at hR
  by_cases hk : 1 ≤ kind ∧ kind ≤ 3
  · rw [if_neg (Classical.not_not.2 hk)] at hR
    obtain ⟨k, hk3, rfl⟩ : ∃ k : Nat, k < 3 ∧ kind = (k : Int) + 1 := ⟨kind.toNat - 1, by omega, by omega⟩
    by_cases hi : isN c s Z H = false
    · rw [if_pos hi] at hR
      subst hR
      refine freeNo S H hH k hk3 ?_
      unfold isN at hi
      rcases Bool.and_eq_false_iff.1 hi with h | h
      · exact .inl (Option.isSome_eq_false_iff.1 h |> Option.isNone_iff_eq_none.1)
      · cases hf : findN c.cf s H with
        | none => exact .inl rfl
        | some v => exact .inr ⟨⟨v.1, v.2.1, v.2.2, rfl⟩, Option.isSome_eq_false_iff.1 h |> Option.isNone_iff_eq_none.1⟩
    · rw [if_neg hi] at hR
      by_cases hs : stK (clsN c s H) Ls H ≠ 0
      · rw [if_pos hs] at hR
        subst hR
        obtain ⟨j, i, y, p, hj, e, hf, ec, hx, hm⟩ := q.of_stK S.okc S.zs.good hs
        obtain ⟨l1, l2, hl, -, hz⟩ := q.split hx hj hm
        exact freeTwice S H k hk3 ⟨⟨i, y, p, hf⟩, _, hz⟩ hf hj (by rw [hz]; rfl)
      · rw [if_neg hs] at hR
        exact absurd hR.symm r0
  · rw [if_pos hk] at hR
    subst hR
    exact (freeArg S H kind hk).mono fun e w' ⟨h1, h2⟩ => ⟨h1, h2 ▸ Below.refl _ _⟩
theorem pushC (H : Nat) (hH : H < 18446744073709551616) (kind : Int) :
    (Calls Tryz.prog 22 #[.pointer (some ⟨gq, 0, none⟩), .int .u64 (H : Int), .int .i64 kind] w fun e w' => e = .returned (.int .i64 ((pushN c s Z Ls H kind false).1 : Int)) ∧ Did w w' L c s bs Z gq gl (pushN c s Z Ls H kind false)) ∧
    (Calls Tryz.prog 23 #[.pointer (some ⟨gq, 0, none⟩), .int .u64 (H : Int), .int .i64 kind] w fun e w' => e = .returned (.int .i64 ((pushN c s Z Ls H kind true).1 : Int)) ∧ Did w w' L c s bs Z gq gl (pushN c s Z Ls H kind true)) := by
  have key : ∀ last, (pushN c s Z Ls H kind last).1 ≠ 0 → (pushN c s Z Ls H kind last).2 = Ls := by
    intro last h1
    unfold pushN at h1 ⊢
    split
    · rfl
    split
    · rfl
    split
    · rfl
    · rename_i a1 a2 a3
      rw [if_neg a1, if_neg a2, if_neg a3] at h1
      exact absurd rfl h1
  have eqs : (pushN c s Z Ls H kind false).1 = (pushN c s Z Ls H kind true).1 := by
    unfold pushN
    split
    · rfl
    split
    · rfl
    split <;> rfl
  have hw := h
  obtain ⟨F, S, q⟩ := h
  by_cases h0 : (pushN c s Z Ls H kind false).1 = 0
  · have h1 := h0
    rw [eqs] at h1
    rw [h0, h1]
    unfold pushN at h0 ⊢
    by_cases hk : 1 ≤ kind ∧ kind ≤ 3
    · rw [if_neg (Classical.not_not.2 hk)] at h0
      simp only [if_neg (Classical.not_not.2 hk)]
      by_cases hi : isN c s Z H = false
      · rw [if_pos hi] at h0; cases h0
      · rw [if_neg hi] at h0
        simp only [if_neg hi]
        by_cases hs : stK (clsN c s H) Ls H ≠ 0
        · rw [if_pos hs] at h0; cases h0
        · simp only [if_neg hs]
          obtain ⟨k, hk3, rfl⟩ : ∃ k : Nat, k < 3 ∧ kind = (k : Int) + 1 := ⟨kind.toNat - 1, by omega, by omega⟩
          have ek : ((k : Int) + 1).toNat - 1 = k := by omega
          rw [ek]
          have hi2 : isN c s Z H = true := by simpa using hi
          unfold isN at hi2
          obtain ⟨i1, i2⟩ := Bool.and_eq_true_iff.1 hi2
          obtain ⟨⟨i, y, p⟩, hf⟩ := Option.isSome_iff_exists.1 i1
          obtain ⟨z, hz⟩ := Option.isSome_iff_exists.1 i2
          have hn := q.not_stK (Classical.not_not.1 hs)
          have hI : It c s Z H := ⟨⟨i, y, p, hf⟩, z, hz⟩
          have ec : clsN c s H = s.cls i := by unfold clsN; rw [hf]
          have hx : s.cls i < c.nc := (Tkn.of S.okc S.zs.good hf).1.kN
          have hb := q.nB S.okc S.zs.good hx hk3
          rw [ec]
          have dom : ∀ a b H', (layZ Z H (k + 1) a b H').isSome = (Z H').isSome := fun a b H' => jZ_some.trans (jZ_some.trans (upd_some ⟨z, hz⟩ H'))
          constructor
          · refine (pushYes S H k hk3 hI hf (q.free hf hn) (by omega) (q.hdI hx hk3)).mono ?_
            rintro e w' ⟨rfl, w1, b1, o1, bs', E1, S1⟩
            refine ⟨rfl, two_trans (below_two b1) o1, bs', _, E1, dom _ _, fun h => absurd rfl h, _, S1, ?_⟩
            have := q.lay S.okc S.zs.good hx hk3 hf rfl hn [] (Ls (s.cls i) k) rfl
            rw [q.hd _ _ hx hk3]
            exact this
          · refine (lastYes S H k hk3 hI hf (q.free hf hn) (by omega) (q.tlI hx hk3)).mono ?_
            rintro e w' ⟨rfl, w1, b1, o1, bs', E1, S1⟩
            refine ⟨rfl, two_trans (below_two b1) o1, bs', _, E1, dom _ _, fun h => absurd rfl h, _, S1, ?_⟩
            have := q.lay S.okc S.zs.good hx hk3 hf rfl hn (Ls (s.cls i) k) [] (List.append_nil _).symm
            rw [q.tl _ _ hx hk3]
            exact this
    · rw [if_pos hk] at h0; cases h0
  · have h1 := h0
    rw [eqs] at h1
    have FC := qFreeC hw H hH kind false _ rfl h0
    have FC' := qFreeC hw H hH kind true _ rfl h1
    constructor
    · refine (pushRef S _ h0 H kind FC).1.mono ?_
      rintro e w' ⟨rfl, b⟩
      refine ⟨rfl, ?_⟩
      have := hw.same (R := (pushN c s Z Ls H kind false).1) b
      rwa [show ((pushN c s Z Ls H kind false).1, Ls) = pushN c s Z Ls H kind false from Prod.ext rfl (key false h0).symm] at this
    · refine (pushRef S _ h1 H kind FC').2.mono ?_
      rintro e w' ⟨rfl, b⟩
      refine ⟨rfl, ?_⟩
      have := hw.same (R := (pushN c s Z Ls H kind true).1) b
      rwa [show ((pushN c s Z Ls H kind true).1, Ls) = pushN c s Z Ls H kind true from Prod.ext rfl (key true h1).symm] at this
theorem dropC (H : Nat) (hH : H < 18446744073709551616) :
    Calls Tryz.prog 24 #[.pointer (some ⟨gq, 0, none⟩), .int .u64 (H : Int)] w fun e w' => e = .returned (.int .i64 ((dropN c s Ls H).1 : Int)) ∧ Did w w' L c s bs Z gq gl (dropN c s Ls H) := by
  have hw := h
  have SC := standsC h H hH
  obtain ⟨F, S, q⟩ := h
  unfold dropN
  by_cases h0 : stK (clsN c s H) Ls H = 0
  · rw [if_pos h0] at SC ⊢
    refine (dropNo S H SC).mono ?_
    rintro e w' ⟨rfl, b⟩
    exact ⟨rfl, hw.same b⟩
  · rw [if_neg h0]
    obtain ⟨k, i, y, p, hk, e, hf, ec, hx, hm⟩ := q.of_stK S.okc S.zs.good h0
    obtain ⟨l1, l2, hl, he, hz⟩ := q.split hx hk hm
    have hD := (q.drop hx hk l1 l2 hl).2
    have hb := q.nB S.okc S.zs.good hx hk
    have hn := q.n _ _ hx hk
    have m1 : ∀ y ∈ l1, y ∈ Ls (s.cls i) k := fun y hy => by rw [hl]; exact List.mem_append.2 (.inl hy)
    have m2 : ∀ y ∈ l2, y ∈ Ls (s.cls i) k := fun y hy => by rw [hl]; exact List.mem_append.2 (.inr (List.mem_cons_of_mem _ hy))
    refine (dropYes S H k hk hf _ hz rfl (last_in.imp id fun h => q.is hx hk (m1 _ h)) (head_in.imp id fun h => q.is hx hk (m2 _ h)) (by rw [hn, hl, List.length_append, List.length_cons]; omega) (by omega)).mono ?_
    rintro e2 w' ⟨rfl, w1, b1, o1, bs', E1, S1⟩
    refine ⟨rfl, two_trans (below_two b1) o1, bs', _, E1, fun H' => (upd_some (jZ_it ⟨⟨i, y, p, hf⟩, _, hz⟩).2 H').trans jZ_some, fun h => absurd rfl h, _, S1, ?_⟩
    show QI c s _ _ (outN (clsN c s H) Ls H)
    unfold outN
    rw [e, ec, Nat.add_sub_cancel, he]
    exact hD
end
end Go.Proofs.YtfjiphibalhcgaaGreat.Que
/-
  The queue's Shift, Ahead, Behind, Head, Tail, Len, by its rows of handles.
-/
namespace Go.Proofs.YtfjiphibalhcgaaGreat.Que
open Go.RowKit Base Arena Cls Itm
set_option linter.unusedVariables false
set_option linter.unusedSectionVars false

theorem bool_not {b : Bool} (h : ¬ b = false) : b = true := by cases b; exact absurd rfl h; rfl
theorem isN_it {c : Conf} {s : St} {Z : Nat → Option Zd} {H : Nat} (h : It c s Z H) : isN c s Z H = true := by
  obtain ⟨⟨i, x, p, hf⟩, z, hz⟩ := h
  unfold isN
  rw [hf, hz]
  rfl
theorem pushN_congr {c : Conf} {s : St} {Z Z' : Nat → Option Zd} (h : ∀ H, (Z' H).isSome = (Z H).isSome) (Ls : Nat → Nat → List Nat) (H : Nat) (kind : Int) (last : Bool) : pushN c s Z' Ls H kind last = pushN c s Z Ls H kind last := by
  unfold pushN isN
  rw [h H]
def shiftN (c : Conf) (s : St) (Ls : Nat → Nat → List Nat) (H : Nat) (kind : Int) : Nat × (Nat → Nat → List Nat) :=
  if ¬ (1 ≤ kind ∧ kind ≤ 3) then (1, Ls) else if stK (clsN c s H) Ls H = 0 then (20, Ls) else (0, putN (clsN c s H) (outN (clsN c s H) Ls H) H (kind.toNat - 1) false)
def aheadN (l : List Nat) (H : Nat) : Nat := (l.take (l.idxOf H)).getLast?.getD 0
def behindN (l : List Nat) (H : Nat) : Nat := (l.drop (l.idxOf H + 1)).head?.getD 0
/-- The neighbours of H. -/
def prevN (c : Conf) (s : St) (Ls : Nat → Nat → List Nat) (H : Nat) : Nat := if stK (clsN c s H) Ls H = 0 then 0 else aheadN (Ls (clsN c s H) (stK (clsN c s H) Ls H - 1)) H
def nextN (c : Conf) (s : St) (Ls : Nat → Nat → List Nat) (H : Nat) : Nat := if stK (clsN c s H) Ls H = 0 then 0 else behindN (Ls (clsN c s H) (stK (clsN c s H) Ls H - 1)) H
theorem idx_split {l1 l2 : List Nat} {H : Nat} (h : H ∉ l1) : (l1 ++ H :: l2).idxOf H = l1.length := by
  rw [List.idxOf_append, if_neg h, List.idxOf_cons_self]
  simp
theorem ahead_split {l1 l2 : List Nat} {H : Nat} (h : H ∉ l1) : aheadN (l1 ++ H :: l2) H = l1.getLast?.getD 0 := by
  unfold aheadN
  rw [idx_split h, List.take_left]
theorem behind_split {l1 l2 : List Nat} {H : Nat} (h : H ∉ l1) : behindN (l1 ++ H :: l2) H = l2.head?.getD 0 := by
  unfold behindN
  rw [idx_split h, List.append_cons, List.drop_left' (by simp)]
section
variable {c : Conf} {s : St} {Z : Nat → Option Zd} {F : QN} {Ls : Nat → Nat → List Nat} (q : QI c s Z F Ls)
include q
theorem QI.out0 (ok : c.cf.Ok) (g : Cls.Good c.cf s) {H : Nat} (h : stK (clsN c s H) Ls H ≠ 0) : stK (clsN c s H) (outN (clsN c s H) Ls H) H = 0 := by
  obtain ⟨k, i, y, p, hk, e, hf, ec, hx, hm⟩ := q.of_stK ok g h
  obtain ⟨l1, l2, hl, he, hz⟩ := q.split hx hk hm
  have hnd := q.nd _ _ hx hk
  rw [hl] at hnd
  obtain ⟨d1, d2, d3⟩ := List.nodup_append.1 hnd
  have n1 : H ∉ l1 := fun e => d3 H e H (List.mem_cons_self ..) rfl
  have n2 : H ∉ l2 := (List.nodup_cons.1 d2).1
  have key : ∀ j, j < 3 → H ∉ outN (clsN c s H) Ls H (clsN c s H) j := by
    intro j hj hm'
    unfold outN at hm'
    rw [e, ec, Nat.add_sub_cancel, he] at hm'
    by_cases hjk : j = k
    · subst hjk
      rw [updL_at] at hm'
      exact (List.mem_append.1 hm').elim n1 n2
    · rw [updL_ne (fun e => hjk e.2)] at hm'
      exact hjk (q.dj _ _ _ _ H hx hj hx hk hm' hm).2
  unfold stK
  rw [if_neg (key 0 (by omega)), if_neg (key 1 (by omega)), if_neg (key 2 (by omega))]
theorem QI.links {H : Nat} (ok : c.cf.Ok) (g : Cls.Good c.cf s) (h : stK (clsN c s H) Ls H ≠ 0) : ∃ z, Z H = some z ∧ It c s Z H ∧ z.st = stK (clsN c s H) Ls H ∧ z.a = prevN c s Ls H ∧ z.b = nextN c s Ls H := by
  obtain ⟨k, i, y, p, hk, e, hf, ec, hx, hm⟩ := q.of_stK ok g h
  obtain ⟨l1, l2, hl, he, hz⟩ := q.split hx hk hm
  have hnd := q.nd _ _ hx hk
  rw [hl] at hnd
  have n1 : H ∉ l1 := fun e => (List.nodup_append.1 hnd).2.2 H e H (List.mem_cons_self ..) rfl
  refine ⟨_, hz, ⟨⟨i, y, p, hf⟩, _, hz⟩, e.symm, ?_, ?_⟩
  · unfold prevN
    rw [if_neg h, e, ec, Nat.add_sub_cancel, hl, ahead_split n1]
  · unfold nextN
    rw [if_neg h, e, ec, Nat.add_sub_cancel, hl, behind_split n1]
end
theorem did_trans {w w1 w2 : World} {L : Lay} {c : Conf} {s : St} {bs bs1 bs2 : List UInt8} {Z Z1 Z2 : Nat → Option Zd} {gl : Nat}
    (o1 : Only (Two L gl) w w1) (o2 : Only (Two L gl) w1 w2) (E1 : Ed (Itp c s Z) bs bs1) (d1 : ∀ H, (Z1 H).isSome = (Z H).isSome) (E2 : Ed (Itp c s Z1) bs1 bs2) (d2 : ∀ H, (Z2 H).isSome = (Z1 H).isSome) :
    Only (Two L gl) w w2 ∧ Ed (Itp c s Z) bs bs2 ∧ (∀ H, (Z2 H).isSome = (Z H).isSome) := by
  rw [itp_congr d1] at E2
  exact ⟨two_trans o1 o2, E1.trans E2, fun H => (d2 H).trans (d1 H)⟩
section
variable {w : World} {L : Lay} {c : Conf} {s : St} {bs : List UInt8} {Z : Nat → Option Zd} {gq gl : Nat} {Ls : Nat → Nat → List Nat} (h : QW w L c s bs Z gq gl Ls)
include h
set_option maxRecDepth 100000 in
theorem shiftC (H : Nat) (hH : H < 18446744073709551616) (kind : Int) :
    Calls Tryz.prog 25 #[.pointer (some ⟨gq, 0, none⟩), .int .u64 (H : Int), .int .i64 kind] w fun e w' => e = .returned (.int .i64 ((shiftN c s Ls H kind).1 : Int)) ∧ Did w w' L c s bs Z gq gl (shiftN c s Ls H kind) := by
  have IK := isKindC w kind
  have DC := dropC h H hH
  have hw := Lib.hid h
  by_cases hk : 1 ≤ kind ∧ kind ≤ 3
  · rw [decide_eq_true hk] at IK
    replace IK := Lib.hid IK
    by_cases h0 : stK (clsN c s H) Ls H = 0
    · have er : shiftN c s Ls H kind = (20, Ls) := by unfold shiftN; rw [if_neg (Classical.not_not.2 hk), if_pos h0]
      have er2 : dropN c s Ls H = (20, Ls) := by unfold dropN; rw [if_pos h0]
      rw [er]
      rw [er2] at DC
      replace DC := Lib.hid DC
      clear h hk h0 er er2
      go_enter Tryz.func25, Tryz.ntmps25
      go_wp2_with fail
      refine IK.out.mono ?_
      rintro e w1 ⟨rfl, rfl⟩
      go_wp2_with fail
      refine DC.out.mono ?_
      rintro e w1 ⟨rfl, D⟩
      replace D := Lib.hid D
      go_wp2
      go_ret
      exact ⟨rfl, D.out⟩
    · have er : shiftN c s Ls H kind = (0, putN (clsN c s H) (outN (clsN c s H) Ls H) H (kind.toNat - 1) false) := by unfold shiftN; rw [if_neg (Classical.not_not.2 hk), if_neg h0]
      have er2 : dropN c s Ls H = (0, outN (clsN c s H) Ls H) := by unfold dropN; rw [if_neg h0]
      obtain ⟨F, S, q⟩ := h
      obtain ⟨z, hz, hI, -⟩ := q.links S.okc S.zs.good h0
      have er3 : pushN c s Z (outN (clsN c s H) Ls H) H kind false = (0, putN (clsN c s H) (outN (clsN c s H) Ls H) H (kind.toNat - 1) false) := by
        unfold pushN
        rw [if_neg (Classical.not_not.2 hk), if_neg (by rw [isN_it hI]; exact Bool.noConfusion), if_neg (Classical.not_not.2 (q.out0 S.okc S.zs.good h0))]
      rw [er]
      rw [er2] at DC
      replace DC := Lib.hid DC
      replace er3 := Lib.hid er3
      clear hk h0 er er2 q S hz hI
      go_enter Tryz.func25, Tryz.ntmps25
      go_wp2_with fail
      refine IK.out.mono ?_
      rintro e w1 ⟨rfl, rfl⟩
      go_wp2_with fail
      refine DC.out.mono ?_
      rintro e w1 ⟨rfl, D⟩
      obtain ⟨o1, bs1, Z1, E1, d1, -, Q1⟩ := D
      have PC := (pushC Q1 H hH kind).1
      rw [pushN_congr d1, er3.out] at PC
      replace PC := Lib.hid PC
      replace o1 := Lib.hid o1
      replace E1 := Lib.hid E1
      replace d1 := Lib.hid d1
      clear Q1 DC
      go_wp2_with fail
      refine PC.out.mono ?_
      rintro e w2 ⟨rfl, D⟩
      replace D := Lib.hid D
      go_wp2
      go_ret
      obtain ⟨o2, bs2, Z2, E2, d2, -, Q2⟩ := D.out
      obtain ⟨o3, E3, d3⟩ := did_trans o1.out o2 E1.out d1.out E2 d2
      exact ⟨rfl, o3, bs2, Z2, E3, d3, fun h => absurd rfl h, Q2⟩
  · have er : shiftN c s Ls H kind = (1, Ls) := by unfold shiftN; rw [if_pos hk]
    rw [decide_eq_false hk] at IK
    rw [er]
    replace IK := Lib.hid IK
    clear h hk DC er
    go_enter Tryz.func25, Tryz.ntmps25
    go_wp2_with fail
    refine IK.out.mono ?_
    rintro e w1 ⟨rfl, rfl⟩
    go_wp2
    go_ret
    exact ⟨rfl, hw.out.same (Below.refl _ _)⟩
set_option maxRecDepth 100000 in
theorem nextC (H : Nat) (hH : H < 18446744073709551616) (j : Int) (T : Nat) (hj : j = 1 ∧ T = prevN c s Ls H ∨ j = 2 ∧ T = nextN c s Ls H) :
    Calls Tryz.prog 112 #[.pointer (some ⟨gq, 0, none⟩), .int .u64 (H : Int), .int .i64 j] w fun e w' => e = .returned (.tuple #[.int .u64 (T : Int), .bool (decide (T ≠ 0))]) ∧ Below w.heap.size w w' := by
  have SC := standsC h H hH
  by_cases h0 : stK (clsN c s H) Ls H = 0
  · have hT : T = 0 := by
      rcases hj with ⟨-, rfl⟩ | ⟨-, rfl⟩
      · unfold prevN; rw [if_pos h0]
      · unfold nextN; rw [if_pos h0]
    subst hT
    rw [if_pos h0] at SC
    replace SC := Lib.hid SC
    clear h hj h0
    go_enter Tryz.func112, Tryz.ntmps112
    go_wp2_with fail
    refine SC.out.mono ?_
    rintro e w1 ⟨rfl, b1⟩
    replace b1 := Lib.hid b1
    go_wp2
    go_ret2
    exact ⟨rfl, b1.out⟩
  · rw [if_neg h0] at SC
    obtain ⟨F, S, q⟩ := h
    obtain ⟨z, hz, hI, -, ea, eb⟩ := q.links S.okc S.zs.good h0
    have LC : ∀ w1, QS w1 L c s bs Z gq gl F → Calls Tryz.prog 65 #[.pointer (some ⟨L.g, 0, none⟩), .int .u64 (H : Int), .int .i64 j] w1 fun e w' => e = .returned (.tuple #[.int .u64 (T : Int), .int .i64 0]) ∧ Below w1.heap.size w1 w' := by
      intro w1 S1
      obtain ⟨A, B⟩ := zLinksC S1 H hI z hz
      rcases hj with ⟨rfl, rfl⟩ | ⟨rfl, rfl⟩
      · rw [ea] at A; exact A
      · rw [eb] at B; exact B
    replace LC := Lib.hid LC
    replace SC := Lib.hid SC
    replace S := Lib.hid S
    clear q hz hI ea eb hj h0
    by_cases t0 : T = 0
    · subst t0
      go_enter Tryz.func112, Tryz.ntmps112
      go_wp2_with fail
      refine SC.out.mono ?_
      rintro e w1 ⟨rfl, b1⟩
      have S1 := S.out.below b1
      have q0 := S1.q.c0
      have LC := Lib.hid (LC.out w1 S1)
      replace b1 := Lib.hid b1
      clear SC S1 S
      go_wp2_with fail
      refine LC.out.mono ?_
      rintro e w2 ⟨rfl, b2⟩
      replace b2 := Lib.hid (b1.out.trans (b2.mono b1.out.size))
      go_wp2
      go_ret2
      exact ⟨rfl, b2.out⟩
    · obtain ⟨d1, d2⟩ := ne0 t0
      rw [decide_eq_true t0]
      go_enter Tryz.func112, Tryz.ntmps112
      go_wp2_with fail
      refine SC.out.mono ?_
      rintro e w1 ⟨rfl, b1⟩
      have S1 := S.out.below b1
      have q0 := S1.q.c0
      have LC := Lib.hid (LC.out w1 S1)
      replace b1 := Lib.hid b1
      clear SC S1 S
      go_wp2_with fail
      refine LC.out.mono ?_
      rintro e w2 ⟨rfl, b2⟩
      replace b2 := Lib.hid (b1.out.trans (b2.mono b1.out.size))
      go_wp2
      go_ret2
      exact ⟨rfl, b2.out⟩
theorem aheadC (H : Nat) (hH : H < 18446744073709551616) : Calls Tryz.prog 60 #[.pointer (some ⟨gq, 0, none⟩), .int .u64 (H : Int)] w fun e w' => e = .returned (.tuple #[.int .u64 (prevN c s Ls H : Int), .bool (decide (prevN c s Ls H ≠ 0))]) ∧ Below w.heap.size w w' := by
  have NC := nextC h H hH 1 _ (.inl ⟨rfl, rfl⟩)
  generalize prevN c s Ls H = T at *
  obtain ⟨B, hB⟩ : ∃ B, B = decide (T ≠ 0) := ⟨_, rfl⟩
  rw [← hB] at NC ⊢
  clear hB
  replace NC := Lib.hid NC
  clear h
  go_enter Tryz.func60, Tryz.ntmps60
  go_wp2_with fail
  refine NC.out.mono ?_
  rintro e w1 ⟨rfl, b1⟩
  replace b1 := Lib.hid b1
  go_wp2
  go_ret2
  exact ⟨rfl, b1.out⟩
theorem behindC (H : Nat) (hH : H < 18446744073709551616) : Calls Tryz.prog 61 #[.pointer (some ⟨gq, 0, none⟩), .int .u64 (H : Int)] w fun e w' => e = .returned (.tuple #[.int .u64 (nextN c s Ls H : Int), .bool (decide (nextN c s Ls H ≠ 0))]) ∧ Below w.heap.size w w' := by
  have NC := nextC h H hH 2 _ (.inr ⟨rfl, rfl⟩)
  generalize nextN c s Ls H = T at *
  obtain ⟨B, hB⟩ : ∃ B, B = decide (T ≠ 0) := ⟨_, rfl⟩
  rw [← hB] at NC ⊢
  clear hB
  replace NC := Lib.hid NC
  clear h
  go_enter Tryz.func61, Tryz.ntmps61
  go_wp2_with fail
  refine NC.out.mono ?_
  rintro e w1 ⟨rfl, b1⟩
  replace b1 := Lib.hid b1
  go_wp2
  go_ret2
  exact ⟨rfl, b1.out⟩
end
/-- The list of any class and kind. -/
def lsN (c : Conf) (Ls : Nat → Nat → List Nat) (x kind : Int) : List Nat := if 0 ≤ x ∧ x < (c.nc : Int) ∧ 1 ≤ kind ∧ kind ≤ 3 then Ls x.toNat (kind.toNat - 1) else []
section
variable {w : World} {L : Lay} {c : Conf} {s : St} {bs : List UInt8} {Z : Nat → Option Zd} {gq gl : Nat} {Ls : Nat → Nat → List Nat} (h : QW w L c s bs Z gq gl Ls) (x kind : Int)
include h
theorem headC : Calls Tryz.prog 51 #[.pointer (some ⟨gq, 0, none⟩), .int .i64 x, .int .i64 kind] w fun e w' => e = .returned (.tuple #[.int .u64 ((lsN c Ls x kind).head?.getD 0 : Int), .bool (decide (0 < (lsN c Ls x kind).length))]) ∧ w = w' := by
  obtain ⟨F, S, q⟩ := h
  unfold lsN
  by_cases hv : 0 ≤ x ∧ x < (c.nc : Int) ∧ 1 ≤ kind ∧ kind ≤ 3
  · rw [if_pos hv]
    obtain ⟨X, hX, rfl⟩ : ∃ X : Nat, X < c.nc ∧ x = (X : Int) := ⟨x.toNat, by omega, by omega⟩
    obtain ⟨k, hk, rfl⟩ : ∃ k : Nat, k < 3 ∧ kind = (k : Int) + 1 := ⟨kind.toNat - 1, by omega, by omega⟩
    have e1 : ((k : Int) + 1).toNat - 1 = k := by omega
    rw [Int.toNat_natCast, e1]
    by_cases h0 : F.n X k = 0
    · have hl : Ls X k = [] := List.length_eq_zero_iff.1 ((q.n X k hX hk).symm.trans h0)
      rw [hl]
      exact headZero S.q X k hX hk S.okc.ncb h0
    · have := headYes S.q X k hX hk S.okc.ncb h0
      rw [q.hd X k hX hk] at this
      rw [decide_eq_true (by rw [← q.n X k hX hk]; omega)]
      exact this
  · rw [if_neg hv]
    exact headNo S.q x kind hv
theorem tailC : Calls Tryz.prog 28 #[.pointer (some ⟨gq, 0, none⟩), .int .i64 x, .int .i64 kind] w fun e w' => e = .returned (.tuple #[.int .u64 ((lsN c Ls x kind).getLast?.getD 0 : Int), .bool (decide (0 < (lsN c Ls x kind).length))]) ∧ w = w' := by
  obtain ⟨F, S, q⟩ := h
  unfold lsN
  by_cases hv : 0 ≤ x ∧ x < (c.nc : Int) ∧ 1 ≤ kind ∧ kind ≤ 3
  · rw [if_pos hv]
    obtain ⟨X, hX, rfl⟩ : ∃ X : Nat, X < c.nc ∧ x = (X : Int) := ⟨x.toNat, by omega, by omega⟩
    obtain ⟨k, hk, rfl⟩ : ∃ k : Nat, k < 3 ∧ kind = (k : Int) + 1 := ⟨kind.toNat - 1, by omega, by omega⟩
    have e1 : ((k : Int) + 1).toNat - 1 = k := by omega
    rw [Int.toNat_natCast, e1]
    by_cases h0 : F.n X k = 0
    · have hl : Ls X k = [] := List.length_eq_zero_iff.1 ((q.n X k hX hk).symm.trans h0)
      rw [hl]
      exact tailZero S.q X k hX hk S.okc.ncb h0
    · have := tailYes S.q X k hX hk S.okc.ncb h0
      rw [q.tl X k hX hk] at this
      rw [decide_eq_true (by rw [← q.n X k hX hk]; omega)]
      exact this
  · rw [if_neg hv]
    exact tailNo S.q x kind hv
theorem lenC : Calls Tryz.prog 29 #[.pointer (some ⟨gq, 0, none⟩), .int .i64 x, .int .i64 kind] w fun e w' => e = .returned (.int .i64 ((lsN c Ls x kind).length : Int)) ∧ w = w' := by
  obtain ⟨F, S, q⟩ := h
  unfold lsN
  by_cases hv : 0 ≤ x ∧ x < (c.nc : Int) ∧ 1 ≤ kind ∧ kind ≤ 3
  · rw [if_pos hv]
    obtain ⟨X, hX, rfl⟩ : ∃ X : Nat, X < c.nc ∧ x = (X : Int) := ⟨x.toNat, by omega, by omega⟩
    obtain ⟨k, hk, rfl⟩ : ∃ k : Nat, k < 3 ∧ kind = (k : Int) + 1 := ⟨kind.toNat - 1, by omega, by omega⟩
    have e1 : ((k : Int) + 1).toNat - 1 = k := by omega
    rw [Int.toNat_natCast, e1, ← q.n X k hX hk]
    exact lenYes S.q X k hX hk S.okc.ncb
  · rw [if_neg hv]
    exact lenNo S.q x kind hv
end
end Go.Proofs.YtfjiphibalhcgaaGreat.Que
/-
  item.Read of no set.
-/
namespace Go.Proofs.YtfjiphibalhcgaaGreat.Itm
open Go.RowKit Base Arena Cls
set_option linter.unusedVariables false

def zi : Array Value := #[.slice none 0 0, .slice none 0 0, .int .u64 0, .int .i64 0, .int .i64 0, .int .u64 0, .int .i64 0, .int .i64 0]
theorem zi_eq : zi = #[.slice none 0 0, .slice none 0 0, .int .u64 0, .int .i64 0, .int .i64 0, .int .u64 0, .int .i64 0, .int .i64 0] := rfl
def put8 (w : World) (N : Nat) (a b c d e f g h : Value) : World :=
  (((((((w.setCell ⟨N, 0, none⟩ a).setCell ⟨N, 1, none⟩ b).setCell ⟨N, 2, none⟩ c).setCell ⟨N, 3, none⟩ d).setCell ⟨N, 4, none⟩ e).setCell ⟨N, 5, none⟩ f).setCell ⟨N, 6, none⟩ g).setCell ⟨N, 7, none⟩ h
theorem blk_put8 {w : World} {N : Nat} {t : TypeId} (B : Blk w N t zi) (a b c d e f g h : Value) : Blk (put8 w N a b c d e f g h) N t #[a, b, c, d, e, f, g, h] := by
  have b0 : Blk _ N t #[a, .slice none 0 0, .int .u64 0, .int .i64 0, .int .i64 0, .int .u64 0, .int .i64 0, .int .i64 0] := B.set_ 0 a
  have b1 : Blk _ N t #[a, b, .int .u64 0, .int .i64 0, .int .i64 0, .int .u64 0, .int .i64 0, .int .i64 0] := b0.set_ 1 b
  have b2 : Blk _ N t #[a, b, c, .int .i64 0, .int .i64 0, .int .u64 0, .int .i64 0, .int .i64 0] := b1.set_ 2 c
  have b3 : Blk _ N t #[a, b, c, d, .int .i64 0, .int .u64 0, .int .i64 0, .int .i64 0] := b2.set_ 3 d
  have b4 : Blk _ N t #[a, b, c, d, e, .int .u64 0, .int .i64 0, .int .i64 0] := b3.set_ 4 e
  have b5 : Blk _ N t #[a, b, c, d, e, f, .int .i64 0, .int .i64 0] := b4.set_ 5 f
  have b6 : Blk _ N t #[a, b, c, d, e, f, g, .int .i64 0] := b5.set_ 6 g
  have b7 : Blk _ N t #[a, b, c, d, e, f, g, h] := b6.set_ 7 h
  exact b7
theorem below_put8 {w v : World} {N : Nat} (h : Below N w v) (a b c d e f g k : Value) : Below N w (put8 v N a b c d e f g k) :=
  (((((((h.setCell (p := ⟨N, 0, none⟩) (Nat.le_refl _) a).setCell (p := ⟨N, 1, none⟩) (Nat.le_refl _) b).setCell (p := ⟨N, 2, none⟩) (Nat.le_refl _) c).setCell (p := ⟨N, 3, none⟩) (Nat.le_refl _) d).setCell (p := ⟨N, 4, none⟩) (Nat.le_refl _) e).setCell (p := ⟨N, 5, none⟩) (Nat.le_refl _) f).setCell (p := ⟨N, 6, none⟩) (Nat.le_refl _) g).setCell (p := ⟨N, 7, none⟩) (Nat.le_refl _) k
end Go.Proofs.YtfjiphibalhcgaaGreat.Itm
/-
  A region that draws its order, of operations that read, draw or make memory: one obligation an operation, under what is known of the operations that it waits for; then a tail in one forced order. Nothing here names the program.
-/
namespace Go.Proofs.YtfjiphibalhcgaaGreat.Rel
open Go
set_option linter.unusedVariables false

/-- An operation's value. -/
def valOf (o : Oper) (a : Act) : Value := match o.dst with | some d => a.tmps.getD d undef | none => undef
/-- The operations' slots are there, and unlike. -/
def dstsB (ops : Array Oper) (n m : Nat) : Bool := (List.range n).all fun i => match ops[i]? with
  | none => false
  | some o => match o.dst with
    | none => false
    | some d => decide (d < m) && (List.range n).all fun j => decide (i = j) || match ops[j]? with
      | none => true
      | some o' => decide (o'.dst ≠ some d)
/-- Each waits for earlier ones alone. -/
def fwdB (ops : Array Oper) (n : Nat) : Bool := (List.range n).all fun i => match ops[i]? with
  | none => false
  | some o => o.after.toList.all fun e => decide (e.on < i)
def fullL (n k : Nat) : Array Bool := (List.replicate n true ++ List.replicate k false).toArray
def relB (ops : Array Oper) (n m : Nat) : Bool :=
  dstsB ops n m && fwdB ops n && decide (n ≤ ops.size) && (decide (n = ops.size) || (Region.sinkB .any ops n && Region.chainB .any ops n)) && Region.seqB .any ops (ops.size - n) n (fullL n (ops.size - n))
theorem dsts_spec {ops : Array Oper} {n m : Nat} (h : dstsB ops n m = true) {i : Nat} {o : Oper} (hi : i < n) (ho : ops[i]? = some o) :
    ∃ d, o.dst = some d ∧ d < m ∧ ∀ j o', j < n → j ≠ i → ops[j]? = some o' → o'.dst ≠ some d := by
  have h1 := List.all_eq_true.1 h i (List.mem_range.2 hi)
  rw [ho] at h1
  cases hd : o.dst with
  | none => simp [hd] at h1
  | some d =>
    simp only [hd, Bool.and_eq_true, decide_eq_true_eq] at h1
    refine ⟨d, rfl, h1.1, fun j o' hj hji ho' => ?_⟩
    have h2 := List.all_eq_true.1 h1.2 j (List.mem_range.2 hj)
    simp only [ho', Bool.or_eq_true, decide_eq_true_eq] at h2
    rcases h2 with h2 | h2
    · exact absurd h2.symm hji
    · exact h2
theorem fwd_spec {ops : Array Oper} {n : Nat} (h : fwdB ops n = true) {i : Nat} (hi : i < n) : ∃ o, ops[i]? = some o ∧ ∀ e ∈ o.after, e.on < i := by
  have h1 := List.all_eq_true.1 h i (List.mem_range.2 hi)
  cases ho : ops[i]? with
  | none => simp [ho] at h1
  | some o =>
    simp only [ho] at h1
    exact ⟨o, rfl, fun e he => of_decide_eq_true (List.all_eq_true.1 h1 e (by simpa using he))⟩
/-- So many of the first n are not yet done. -/
def unl (listed : Array Bool) : Nat → Nat
  | 0 => 0
  | n + 1 => unl listed n + if listed.getD n true = false then 1 else 0
theorem getD_set_same {listed : Array Bool} {i : Nat} (h : listed.getD i true = false) : (listed.setIfInBounds i true).getD i true = true := by
  rcases Nat.lt_or_ge i listed.size with h' | h'
  · simp [h']
  · simp [Array.getElem?_eq_none h'] at h
theorem unl_far {listed : Array Bool} {i : Nat} : ∀ {n : Nat}, n ≤ i → unl (listed.setIfInBounds i true) n = unl listed n
  | 0, _ => rfl
  | n + 1, h => by simp only [unl]; rw [unl_far (by omega), getD_set_ne true (by omega)]
theorem unl_set {listed : Array Bool} {i : Nat} (hi : listed.getD i true = false) : ∀ {n : Nat}, i < n → unl (listed.setIfInBounds i true) n + 1 = unl listed n
  | 0, h => by omega
  | n + 1, h => by
    simp only [unl]
    rcases Nat.lt_or_ge i n with h1 | h1
    · have := unl_set hi h1
      rw [getD_set_ne true (by omega)]
      omega
    · obtain rfl : i = n := by omega
      rw [unl_far (Nat.le_refl _), if_neg (by rw [getD_set_same hi]; simp), if_pos hi]
theorem unl_zero {listed : Array Bool} : ∀ {n : Nat}, unl listed n = 0 → ∀ i, i < n → listed.getD i true = true
  | 0, _, i, h => by omega
  | n + 1, h, i, hi => by
    simp only [unl] at h
    rcases Nat.lt_or_ge i n with h1 | h1
    · exact unl_zero (by omega) i h1
    · obtain rfl : i = n := by omega
      cases hl : listed.getD i true with
      | true => rfl
      | false => rw [hl] at h; simp at h
theorem unl_some {listed : Array Bool} : ∀ {n : Nat}, unl listed n ≠ 0 → ∃ i, i < n ∧ listed.getD i true = false ∧ ∀ j, j < i → listed.getD j true = true
  | 0, h => absurd rfl h
  | n + 1, h => by
    by_cases h0 : unl listed n = 0
    · refine ⟨n, by omega, ?_, unl_zero h0⟩
      simp only [unl, h0] at h
      cases hl : listed.getD n true with
      | false => rfl
      | true => rw [hl] at h; simp at h
    · obtain ⟨i, h1, h2, h3⟩ := unl_some h0
      exact ⟨i, by omega, h2, h3⟩
theorem getD_tf {listed : Array Bool} {i : Nat} (hi : i < listed.size) (h : listed.getD i true = true) : listed.getD i false = true := by
  simp [hi] at h ⊢; exact h

section
variable {P : Program} {ops : Array Oper} {Q : Exit → Act → World → Prop} {n : Nat} {a0 : Act} {R : World → Prop} {le : World → World → Prop} {Φ : Nat → Value → World → Prop} {Ψ : Nat → Nat → Value → Value → Prop}
structure RInv (ops : Array Oper) (n : Nat) (a0 : Act) (R : World → Prop) (Φ : Nat → Value → World → Prop) (Ψ : Nat → Nat → Value → Value → Prop) (listed : Array Bool) (a : Act) (w : World) : Prop where
  head : HeadInv .any ops n listed
  world : R w
  size : a.tmps.size = a0.tmps.size
  defers : a.defers = a0.defers
  rest : ∀ k, (∀ i o, i < n → ops[i]? = some o → o.dst ≠ some k) → a.tmps.getD k undef = a0.tmps.getD k undef
  known : ∀ i o, i < n → ops[i]? = some o → listed.getD i false = true → Φ i (valOf o a) w
  pairs : ∀ i j oi oj, i < n → j < n → i ≠ j → ops[i]? = some oi → ops[j]? = some oj → listed.getD i false = true → listed.getD j false = true → Ψ i j (valOf oi a) (valOf oj a) ∧ Ψ j i (valOf oj a) (valOf oi a)
theorem put_same {a : Act} {d : Nat} {v : Value} (h : d < a.tmps.size) : (a.put (some d) v).tmps.getD d undef = v := by simp [Act.put, h]
theorem put_other {a : Act} {d k : Nat} {v : Value} (h : d ≠ k) : (a.put (some d) v).tmps.getD k undef = a.tmps.getD k undef := by simp [Act.put, Array.getElem?_setIfInBounds_ne h]
theorem RInv.put {listed : Array Bool} {a : Act} {w w' : World} {i : Nat} {o : Oper} {v : Value} (hd : dstsB ops n a0.tmps.size = true) (I : RInv ops n a0 R Φ Ψ listed a w) (hi : i ∈ Region.ready .any ops listed) (hin : i < n) (ho : ops[i]? = some o)
    (hR : R w') (hper : ∀ j u, Φ j u w → Φ j u w') (hv : Φ i v w') (hp : ∀ j u, j < n → j ≠ i → Φ j u w → Ψ i j v u ∧ Ψ j i u v) : RInv ops n a0 R Φ Ψ (listed.setIfInBounds i true) (a.put o.dst v) w' := by
  obtain ⟨d, hdo, hdm, hdu⟩ := dsts_spec hd hin ho
  have hds : d < a.tmps.size := by rw [I.size]; exact hdm
  have vi : valOf o (a.put o.dst v) = v := by unfold valOf; rw [hdo]; exact put_same hds
  have vj : ∀ j oj, j < n → j ≠ i → ops[j]? = some oj → valOf oj (a.put o.dst v) = valOf oj a := by
    intro j oj hj hji hoj
    obtain ⟨dj, hdj, -, -⟩ := dsts_spec hd hj hoj
    unfold valOf
    rw [hdj, hdo]
    exact put_other (fun e => hdu j oj hj hji hoj (by rw [hdj, e]))
  refine ⟨I.head.set hi hin, hR, ?_, ?_, ?_, ?_, ?_⟩
  · rw [hdo]; simp [Act.put]; exact I.size
  · rw [hdo]; exact I.defers
  · intro k hk
    rw [← I.rest k hk, hdo]
    exact put_other (fun e => hk i o hin ho (by rw [hdo, e]))
  · intro j oj hj hoj hl
    by_cases hji : j = i
    · subst hji
      have : oj = o := Option.some.inj (hoj.symm.trans ho)
      subst this
      rw [vi]; exact hv
    · rw [vj j oj hj hji hoj]
      rw [getD_set_ne false (Ne.symm hji)] at hl
      exact hper _ _ (I.known j oj hj hoj hl)
  · intro j k oj ok hj hk hjk hoj hok hlj hlk
    by_cases hji : j = i
    · subst hji
      have : oj = o := Option.some.inj (hoj.symm.trans ho)
      subst this
      rw [vi, vj k ok hk (Ne.symm hjk) hok]
      rw [getD_set_ne false hjk] at hlk
      exact hp k _ hk (Ne.symm hjk) (I.known k ok hk hok hlk)
    · rw [getD_set_ne false (Ne.symm hji)] at hlj
      by_cases hki : k = i
      · subst hki
        have : ok = o := Option.some.inj (hok.symm.trans ho)
        subst this
        rw [vi, vj j oj hj hji hoj]
        exact (hp j _ hj hji (I.known j oj hj hoj hlj)).symm
      · rw [getD_set_ne false (Ne.symm hki)] at hlk
        rw [vj j oj hj hji hoj, vj k ok hk hki hok]
        exact I.pairs j k oj ok hj hk hjk hoj hok hlj hlk
/-- What an operation waits for is known. -/
theorem RInv.dep {listed : Array Bool} {a : Act} {w : World} {i : Nat} (I : RInv ops n a0 R Φ Ψ listed a w) (hi : i ∈ Region.ready .any ops listed) (j : Nat) (oj : Oper) (hj : j < n) (hoj : ops[j]? = some oj) (hw : Region.waitsFor .any ops i j = true) : Φ j (valOf oj a) w := by
  obtain ⟨o, ho, e, he, hb, hon⟩ := Region.waitsFor_spec hw
  obtain ⟨-, o', ho', hall⟩ := mem_ready.1 hi
  have : o = o' := Option.some.inj (ho.symm.trans ho')
  subst this
  have := hall e he hb
  rw [hon] at this
  exact I.known j oj hj hoj this
theorem RInv.dep2 {listed : Array Bool} {a : Act} {w : World} {i : Nat} (I : RInv ops n a0 R Φ Ψ listed a w) (hi : i ∈ Region.ready .any ops listed) (j k : Nat) (oj ok : Oper) (hj : j < n) (hk : k < n) (hjk : j ≠ k) (hoj : ops[j]? = some oj) (hok : ops[k]? = some ok)
    (hw : Region.waitsFor .any ops i j = true) (hw2 : Region.waitsFor .any ops i k = true) : Ψ j k (valOf oj a) (valOf ok a) ∧ Ψ k j (valOf ok a) (valOf oj a) := by
  obtain ⟨-, o', ho', hall⟩ := mem_ready.1 hi
  obtain ⟨o, ho, e, he, hb, hon⟩ := Region.waitsFor_spec hw
  obtain ⟨o2, ho2, e2, he2, hb2, hon2⟩ := Region.waitsFor_spec hw2
  have h1 : o = o' := Option.some.inj (ho.symm.trans ho')
  have h2 : o2 = o' := Option.some.inj (ho2.symm.trans ho')
  subst h1
  subst h2
  have t1 := hall e he hb
  have t2 := hall e2 he2 hb2
  rw [hon] at t1
  rw [hon2] at t2
  exact I.pairs j k oj ok hj hk hjk hoj hok t1 t2
/-- No operation of the head lays into slot k. -/
def slotB (ops : Array Oper) (n k : Nat) : Bool := (List.range n).all fun i => match ops[i]? with
  | none => true
  | some o => decide (o.dst ≠ some k)
theorem RInv.slot {listed : Array Bool} {a : Act} {w : World} (I : RInv ops n a0 R Φ Ψ listed a w) (k : Nat) (h : slotB ops n k = true) : a.tmps.getD k undef = a0.tmps.getD k undef :=
  I.rest k fun i o hi ho => by
    have h1 := List.all_eq_true.1 h i (List.mem_range.2 hi)
    simp only [ho, decide_eq_true_eq] at h1
    exact h1
def Want (P : Program) (ops : Array Oper) (o : Oper) (a : Act) (w : World) (K : Act → World → Prop) (Q : Exit → Act → World → Prop) : Prop :=
  if Region.wanted o (yielded ops a.tmps) then o.wp P a w K Q else K (a.put o.dst undef) w
theorem want_none {o : Oper} {a : Act} {w : World} {K : Act → World → Prop} (hg : o.guard = none) (h : o.wp P a w K Q) : Want P ops o a w K Q := by
  unfold Want Region.wanted
  rw [hg]
  exact h
theorem yielded_of {a : Act} {j d : Nat} {b : Bool} {oj : Oper} (ho : ops[j]? = some oj) (hd : oj.dst = some d) (h : a.tmps.getD d undef = .bool b) : yielded ops a.tmps j = some b := by
  unfold yielded
  rw [ho]
  simp only [Option.bind_some, hd]
  rw [Array.getD_eq_getD_getElem?] at h
  cases hs : a.tmps[d]? with
  | none => rw [hs] at h; cases h
  | some v => rw [hs] at h; simp only [Option.getD_some] at h; subst h; rfl
theorem want_yes {o oj : Oper} {a : Act} {w : World} {K : Act → World → Prop} {j d : Nat} {b : Bool} (hg : o.guard = some (j, b)) (ho : ops[j]? = some oj) (hd : oj.dst = some d) (hv : a.tmps.getD d undef = .bool b) (h : o.wp P a w K Q) : Want P ops o a w K Q := by
  unfold Want Region.wanted
  rw [hg]
  simp only [yielded_of ho hd hv, beq_self_eq_true, if_true]
  exact h
theorem want_no {o oj : Oper} {a : Act} {w : World} {K : Act → World → Prop} {j d : Nat} {b : Bool} (hg : o.guard = some (j, b)) (ho : ops[j]? = some oj) (hd : oj.dst = some d) (hv : a.tmps.getD d undef = .bool (!b)) (h : K (a.put o.dst undef) w) : Want P ops o a w K Q := by
  unfold Want Region.wanted
  rw [hg]
  simp only [yielded_of ho hd hv]
  cases b
  · exact h
  · exact h
def Each (C : Nat → Oper → Prop) : Nat → List Oper → Prop
  | _, [] => True
  | i, o :: l => C i o ∧ Each C (i + 1) l
theorem each_at {C : Nat → Oper → Prop} : ∀ {l : List Oper} {k : Nat}, Each C k l → ∀ i o, l[i]? = some o → C (k + i) o
  | [], _, _, i, o, h => by simp at h
  | x :: l, k, ⟨h1, h2⟩, 0, o, h => by simp at h; subst h; exact h1
  | x :: l, k, ⟨h1, h2⟩, i + 1, o, h => by
    have := each_at h2 i o (by simpa using h)
    rw [show k + (i + 1) = k + 1 + i by omega]
    exact this
theorem any_rel (hB : relB ops n a0.tmps.size = true) (hper : ∀ j u w w', Φ j u w → le w w' → Φ j u w')
    (hop : ∀ i o listed a w, i < n → ops[i]? = some o → RInv ops n a0 R Φ Ψ listed a w → i ∈ Region.ready .any ops listed →
      ∀ K : Act → World → Prop, (∀ v w', R w' → le w w' → Φ i v w' → (∀ j u, j < n → j ≠ i → Φ j u w → Ψ i j v u ∧ Ψ j i u v) → K (a.put o.dst v) w') → wpOp P ops Q i K a w)
    {l : List Oper} (hl : ∀ j, l[j]? = ops[n + j]?) (hll : l.length = ops.size - n)
    (hend : ∀ a w, RInv ops n a0 R Φ Ψ (fullL n (ops.size - n)) a w → wpList P ops Q l a w) :
    ∀ (f : Nat) (listed : Array Bool) (a : Act) (w : World), unl listed n = f → RInv ops n a0 R Φ Ψ listed a w → wpAny P .any ops Q (f + (ops.size - n)) listed a w := by
  simp only [relB, Bool.and_eq_true, decide_eq_true_eq, Bool.or_eq_true] at hB
  obtain ⟨⟨⟨⟨hd, hf⟩, hn⟩, ht⟩, hseq⟩ := hB
  intro f
  induction f with
  | zero =>
    intro listed a w hu I
    have hfull : listed = fullL n (ops.size - n) := by
      apply Array.ext_getElem?
      intro j
      have hs := I.head.size
      have e0 : (fullL n (ops.size - n))[j]? = if j < n then some true else if j < ops.size then some false else none := by
        unfold fullL
        rw [List.getElem?_toArray, List.getElem?_append]
        simp only [List.length_replicate, List.getElem?_replicate]
        split
        · rfl
        · split
          · rw [if_pos (by omega)]
          · rw [if_neg (by omega)]
      rw [e0]
      rcases Nat.lt_or_ge j n with h1 | h1
      · rw [if_pos h1]
        have h2 := unl_zero hu j h1
        have hj : j < listed.size := by omega
        simp only [Array.getD_eq_getD_getElem?, Array.getElem?_eq_getElem hj, Option.getD_some] at h2
        rw [Array.getElem?_eq_getElem hj, h2]
      · rw [if_neg (by omega)]
        rcases Nat.lt_or_ge j ops.size with h3 | h3
        · rw [if_pos h3]
          have h2 := I.head.tail j h1 h3
          have hj : j < listed.size := by omega
          simp only [Array.getD_eq_getD_getElem?, Array.getElem?_eq_getElem hj, Option.getD_some] at h2
          rw [Array.getElem?_eq_getElem hj, h2]
        · rw [if_neg (by omega), Array.getElem?_eq_none (by omega)]
    rw [hfull] at I ⊢
    have := wpAny_of_seq (md := .any) (Q' := Q) l n (fullL n (ops.size - n)) a w hl (by rw [hll]; exact hseq) (hend a w I)
    rw [hll] at this
    rw [Nat.zero_add]
    exact this
  | succ f ih =>
    intro listed a w hu I
    obtain ⟨i0, hi0, hu0, hlow⟩ := unl_some (listed := listed) (n := n) (by omega)
    have hr0 : i0 ∈ Region.ready .any ops listed := by
      obtain ⟨o, ho, hafter⟩ := fwd_spec hf hi0
      exact mem_ready.2 ⟨hu0, o, ho, fun e he _ => getD_tf (by rw [I.head.size]; have := hafter e he; omega) (hlow _ (hafter e he))⟩
    have low : ∀ j ∈ Region.ready .any ops listed, j < n := fun j hj => by
      rcases Nat.lt_or_ge j n with h | h
      · exact h
      · exfalso
        obtain ⟨-, oj, hoj, -⟩ := mem_ready.1 hj
        have hjs : j < ops.size := (Array.getElem?_eq_some_iff.1 hoj).1
        rcases ht with ht | ht
        · omega
        · exact tail_waits ht.1 ht.2 (by omega) I.head _ i0 rfl hi0 hu0 j h hj
    rw [Nat.succ_add]
    refine ⟨fun h => (by rw [h] at hr0; cases hr0), fun i hi => ?_⟩
    have hin := low i hi
    obtain ⟨hui, o, ho, -⟩ := mem_ready.1 hi
    refine hop i o listed a w hin ho I hi _ fun v w' hR hle hv hp => ?_
    exact ih _ _ _ (by have := unl_set hui hin; omega) (I.put hd hi hin ho hR (fun j u h => hper j u w w' h hle) hv hp)
theorem unl_none {m : Nat} : ∀ {n : Nat}, n ≤ m → unl (Array.replicate m false) n = n
  | 0, _ => rfl
  | n + 1, h => by
    simp only [unl]
    rw [unl_none (by omega), if_pos (getD_in (by simp only [Array.size_replicate]; omega) (getD_replicate_false _ _))]
/-- The rule. -/
theorem region_rel {id : Nat} {w : World} {l : List Oper} (n : Nat) (le : World → World → Prop) (R : World → Prop) (Φ : Nat → Value → World → Prop) (Ψ : Nat → Nat → Value → Value → Prop) (hm : P.follows .mixedOrders = true) (hB : relB l.toArray n a0.tmps.size = true)
    (h0 : R w.drew) (hper : ∀ j u w w', Φ j u w → le w w' → Φ j u w')
    (hop : ∀ i o listed a w, i < n → l[i]? = some o → RInv l.toArray n a0 R Φ Ψ listed a w → i ∈ Region.ready .any l.toArray listed →
      ∀ K : Act → World → Prop, (∀ v w', R w' → le w w' → Φ i v w' → (∀ j u, j < n → j ≠ i → Φ j u w → Ψ i j v u ∧ Ψ j i u v) → K (a.put o.dst v) w') → if Region.wanted o (yielded l.toArray a.tmps) then o.wp P a w K Q else K (a.put o.dst undef) w)
    (hend : ∀ a w, RInv l.toArray n a0 R Φ Ψ (fullL n (l.toArray.size - n)) a w → wpList P l.toArray Q (l.drop n) a w) : (Code.region id l.toArray true).wp P Q a0 w := by
  refine wp_region_any hm ?_
  have hn : n ≤ l.toArray.size := by
    simp only [relB, Bool.and_eq_true, decide_eq_true_eq] at hB
    exact hB.1.1.2
  have inv0 : HeadInv .any l.toArray n (Array.replicate l.toArray.size false) :=
    ⟨by simp, fun j oj _ hl => (by rw [getD_replicate_false] at hl; cases hl), fun t _ ht => getD_in (by simpa using ht) (getD_replicate_false _ _)⟩
  have I0 : RInv l.toArray n a0 R Φ Ψ (Array.replicate l.toArray.size false) a0 w.drew :=
    ⟨inv0, h0, rfl, rfl, fun _ _ => rfl, fun j oj _ _ hl => (by rw [getD_replicate_false] at hl; cases hl), fun i j oi oj _ _ _ _ _ hl => (by rw [getD_replicate_false] at hl; cases hl)⟩
  have := any_rel (P := P) (Q := Q) (le := le) hB hper (fun i o listed a w hi ho I hr K hK => by
    have ho' : l[i]? = some o := by simpa using ho
    have := hop i o listed a w hi ho' I hr K hK
    unfold wpOp
    simp only [ho]
    split
    · rename_i h; rw [if_pos h] at this; exact .inl this
    · rename_i h; rw [if_neg h] at this; exact this) (l := l.drop n) (fun j => by simp [List.getElem?_drop]) (by simp) hend _ _ _ _ rfl I0
  rw [unl_none hn, show n + (l.toArray.size - n) = l.toArray.size by omega] at this
  exact this
/-- The rule, operation by operation. -/
theorem region_each {id : Nat} {w : World} {l : List Oper} (n : Nat) (le : World → World → Prop) (R : World → Prop) (Φ : Nat → Value → World → Prop) (Ψ : Nat → Nat → Value → Value → Prop) (hm : P.follows .mixedOrders = true) (hB : relB l.toArray n a0.tmps.size = true)
    (h0 : R w.drew) (hper : ∀ j u w w', Φ j u w → le w w' → Φ j u w')
    (hop : Each (fun i o => ∀ listed a w, RInv l.toArray n a0 R Φ Ψ listed a w → i ∈ Region.ready .any l.toArray listed →
      ∀ K : Act → World → Prop, (∀ v w', R w' → le w w' → Φ i v w' → (∀ j u, j < n → j ≠ i → Φ j u w → Ψ i j v u ∧ Ψ j i u v) → K (a.put o.dst v) w') → Want P l.toArray o a w K Q) 0 (l.take n))
    (hend : ∀ a w, RInv l.toArray n a0 R Φ Ψ (fullL n (l.toArray.size - n)) a w → wpList P l.toArray Q (l.drop n) a w) : (Code.region id l.toArray true).wp P Q a0 w :=
  region_rel n le R Φ Ψ hm hB h0 hper (fun i o listed a w hi ho I hr K hK => by
    have h := each_at hop i o (by rw [List.getElem?_take, if_pos hi]; exact ho)
    rw [Nat.zero_add] at h
    exact h listed a w I hr K hK) hend
/-- .. of a region with no tail. -/
theorem region_all {id : Nat} {w : World} {l : List Oper} (n : Nat) (hn : l.length = n) (le : World → World → Prop) (R : World → Prop) (Φ : Nat → Value → World → Prop) (Ψ : Nat → Nat → Value → Value → Prop) (hm : P.follows .mixedOrders = true) (hB : relB l.toArray n a0.tmps.size = true)
    (h0 : R w.drew) (hper : ∀ j u w w', Φ j u w → le w w' → Φ j u w')
    (hop : Each (fun i o => ∀ listed a w, RInv l.toArray n a0 R Φ Ψ listed a w → i ∈ Region.ready .any l.toArray listed →
      ∀ K : Act → World → Prop, (∀ v w', R w' → le w w' → Φ i v w' → (∀ j u, j < n → j ≠ i → Φ j u w → Ψ i j v u ∧ Ψ j i u v) → K (a.put o.dst v) w') → Want P l.toArray o a w K Q) 0 l)
    (hend : ∀ a w, RInv l.toArray n a0 R Φ Ψ (fullL n (l.toArray.size - n)) a w → Q .normal a w) : (Code.region id l.toArray true).wp P Q a0 w :=
  region_each n le R Φ Ψ hm hB h0 hper (by rw [List.take_of_length_le (by omega)]; exact hop) (fun a w I => by rw [List.drop_eq_nil_of_le (by omega)]; exact hend a w I)
theorem act_map {a : Act} {m : Nat} (h : a.tmps.size = m) : a.tmps = ((List.range m).map fun k => a.tmps.getD k undef).toArray := by
  apply Array.ext
  · simp [h]
  · intro i h1 h2
    simp [h1]
/-- The slots, one by one. -/
theorem RInv.act {listed : Array Bool} {a : Act} {w : World} (I : RInv ops n a0 R Φ Ψ listed a w) : ∃ f : Nat → Value, (∀ k, a.tmps.getD k undef = f k) ∧ a = ⟨((List.range a0.tmps.size).map f).toArray, a0.defers⟩ := by
  refine ⟨fun k => a.tmps.getD k undef, fun _ => rfl, ?_⟩
  have h := act_map I.size
  have hd := I.defers
  cases a
  simp only at h hd
  rw [hd, ← h]
theorem arr_ext {x y : Array Value} (h : x.size = y.size) (hg : ∀ k, k < x.size → x.getD k undef = y.getD k undef) : x = y := by
  apply Array.ext h
  intro k h1 h2
  have := hg k h1
  rw [Array.getD_eq_getD_getElem?, Array.getD_eq_getD_getElem?, Array.getElem?_eq_getElem h1, Array.getElem?_eq_getElem h2] at this
  exact this
def puts (f : Nat → Value) (ds : List Nat) (a : Act) : Act := ds.foldl (fun b d => b.put (some d) (f d)) a
theorem puts_size (f : Nat → Value) : ∀ (ds : List Nat) (a : Act), (puts f ds a).tmps.size = a.tmps.size ∧ (puts f ds a).defers = a.defers
  | [], a => ⟨rfl, rfl⟩
  | d :: ds, a => by
    have := puts_size f ds (a.put (some d) (f d))
    unfold puts at *
    rw [List.foldl_cons]
    rw [this.1, this.2]
    exact ⟨by simp [Act.put], rfl⟩
theorem puts_get (f : Nat → Value) : ∀ (ds : List Nat) (a : Act) (k : Nat), (puts f ds a).tmps.getD k undef = if k ∈ ds ∧ k < a.tmps.size then f k else a.tmps.getD k undef
  | [], a, k => by simp [puts]
  | d :: ds, a, k => by
    have ih := puts_get f ds (a.put (some d) (f d)) k
    unfold puts at *
    rw [List.foldl_cons, ih]
    have hs : (a.put (some d) (f d)).tmps.size = a.tmps.size := by simp [Act.put]
    rw [hs]
    by_cases hk : k ∈ ds ∧ k < a.tmps.size
    · rw [if_pos hk, if_pos ⟨List.mem_cons_of_mem _ hk.1, hk.2⟩]
    · rw [if_neg hk]
      by_cases hd : k = d
      · subst hd
        by_cases hlt : k < a.tmps.size
        · rw [put_same hlt, if_pos ⟨List.mem_cons_self .., hlt⟩]
        · rw [if_neg (fun h => hlt h.2)]
          have h1 : (a.put (some k) (f k)).tmps = a.tmps := by simp [Act.put, Array.setIfInBounds, hlt]
          rw [h1]
      · rw [put_other (Ne.symm hd), if_neg (fun h => by
          rcases List.mem_cons.1 h.1 with e | e
          · exact hd e
          · exact hk ⟨e, h.2⟩)]
/-- The slots behind the region: those ahead of it, and what its operations have laid. -/
theorem RInv.acts {listed : Array Bool} {a : Act} {w : World} (I : RInv ops n a0 R Φ Ψ listed a w) (ds : List Nat) (hds : ((List.range n).all fun i => match ops[i]? with
    | none => true
    | some o => match o.dst with
      | none => true
      | some d => ds.contains d) = true) : ∃ f : Nat → Value, (∀ d, a.tmps.getD d undef = f d) ∧ a = puts f ds a0 := by
  refine ⟨fun d => a.tmps.getD d undef, fun _ => rfl, ?_⟩
  obtain ⟨hs, hd⟩ := puts_size (fun d => a.tmps.getD d undef) ds a0
  have hg := puts_get (fun d => a.tmps.getD d undef) ds a0
  have ht : a.tmps = (puts (fun d => a.tmps.getD d undef) ds a0).tmps := by
    refine arr_ext (by rw [hs, I.size]) fun k h1 => ?_
    rw [hg k]
    by_cases hne : k ∈ ds ∧ k < a0.tmps.size
    · rw [if_pos hne]
    · rw [if_neg hne]
      refine I.rest k fun i o hi ho hdo => ?_
      have h3 := List.all_eq_true.1 hds i (List.mem_range.2 hi)
      simp only [ho, hdo] at h3
      exact hne ⟨by simpa using h3, by rw [← I.size]; exact h1⟩
  have hdf := I.defers
  rw [← hd] at hdf
  revert ht hdf
  generalize puts (fun d => a.tmps.getD d undef) ds a0 = b
  intro ht hdf
  cases a
  cases b
  simp only at ht hdf
  rw [ht, hdf]
theorem puts_list (f : Nat → Value) : ∀ (ds : List Nat) (l : List Value) (fs : List Deferred), puts f ds ⟨l.toArray, fs⟩ = ⟨(ds.foldl (fun l d => l.set d (f d)) l).toArray, fs⟩
  | [], l, fs => rfl
  | d :: ds, l, fs => by
    have := puts_list f ds (l.set d (f d)) fs
    unfold puts at *
    rw [List.foldl_cons, List.foldl_cons, ← this]
    congr 1
    simp [Act.put]
/-- .. as a list. -/
theorem RInv.acts3 {listed : Array Bool} {a : Act} {w : World} {l0 : List Value} {fs : List Deferred} (I : RInv ops n ⟨l0.toArray, fs⟩ R Φ Ψ listed a w) (ds : List Nat) (hds : ((List.range n).all fun i => match ops[i]? with
    | none => true
    | some o => match o.dst with
      | none => true
      | some d => ds.contains d) = true) : ∃ f : Nat → Value, (∀ d, a.tmps.getD d undef = f d) ∧ a = ⟨(ds.foldl (fun l d => l.set d (f d)) l0).toArray, fs⟩ := by
  obtain ⟨f, hf, ha⟩ := I.acts ds hds
  exact ⟨f, hf, by rw [ha, puts_list]⟩
/-- At the end all is known. -/
theorem RInv.done {k : Nat} {a : Act} {w : World} (I : RInv ops n a0 R Φ Ψ (fullL n k) a w) (j : Nat) (oj : Oper) (hj : j < n) (hoj : ops[j]? = some oj) : Φ j (valOf oj a) w :=
  I.known j oj hj hoj (by unfold fullL; rw [Array.getD_eq_getD_getElem?, List.getElem?_toArray, List.getElem?_append_left (by simpa using hj)]; simp [hj])
end
end Go.Proofs.YtfjiphibalhcgaaGreat.Rel
/-
  item.Read of a chunk that has an item (printed by wip/gen_read.py).
-/
namespace Go.Proofs.YtfjiphibalhcgaaGreat.Itm
open Go.RowKit Base Arena Cls Rel
set_option linter.unusedVariables false

section
variable {B : Nat} {w0 w w' : World} {L : Lay} {c : Conf} {s : St} {bs : List UInt8} {N H i x p k n : Nat}
theorem OS.get8 (S : OS B w0 w L c s bs N p k n) (K : Chk c s bs.length H i x p k n) (o : Nat) (ho : o + 1 ≤ 56) {V : Nat} (hV : V = rd bs (p + o) 1) :
    Calls Tryz.prog 135 #[.agg #[.pointer (some ⟨L.ga, 0, none⟩), .int .i64 (p : Int), .int .i64 (k : Int), .int .i64 (n : Int)], .int .i64 (o : Int)] w fun e w' => e = .returned (.int .u8 (V : Int)) ∧ Below w.heap.size w w' := by
  rw [hV]; exact get8C w L.ga L.ha c.cf.ps bs S.at_ p o k n (K.ck.there o 1 (by have := K.n64; omega))
theorem OS.get32 (S : OS B w0 w L c s bs N p k n) (K : Chk c s bs.length H i x p k n) (o : Nat) (ho : o + 4 ≤ 56) {V : Nat} (hV : V = rd bs (p + o) 4) :
    Calls Tryz.prog 115 #[.agg #[.pointer (some ⟨L.ga, 0, none⟩), .int .i64 (p : Int), .int .i64 (k : Int), .int .i64 (n : Int)], .int .i64 (o : Int)] w fun e w' => e = .returned (.int .u32 (V : Int)) ∧ Below w.heap.size w w' := by
  rw [hV]; exact get32C w L.ga L.ha c.cf.ps bs S.at_ p o k n (K.ck.there o 4 (by have := K.n64; omega))
end
theorem le_r (w : World) : Below w.heap.size w w := Below.refl _ _
/-- The two lists are not one. -/
def sep (x y i j : Nat) (v u : Value) : Prop := ∀ (b b' n n' c c' : Nat), i = x → j = y → v = .slice (some ⟨b, 0, none⟩) n c → u = .slice (some ⟨b', 0, none⟩) n' c' → b ≠ b'

structure RS (w0 w : World) (L : Lay) (c : Conf) (s : St) (bs : List UInt8) (N N1 p k n : Nat) : Prop where
  os : OS N w0 w L c s bs N1 p k n
  blk : Blk w N 103 zi
theorem RS.step {w0 w w' : World} {L : Lay} {c : Conf} {s : St} {bs : List UInt8} {N N1 p k n : Nat} (S : RS w0 w L c s bs N N1 p k n) (b : Below w.heap.size w w') : RS w0 w' L c s bs N N1 p k n := ⟨S.os.step b, S.blk.below b S.blk.lt⟩
theorem RS.drew {w0 w : World} {L : Lay} {c : Conf} {s : St} {bs : List UInt8} {N N1 p k n : Nat} (S : RS w0 w L c s bs N N1 p k n) : RS w0 w.drew L c s bs N N1 p k n := ⟨S.os.drewN 1, S.blk.drew⟩
theorem RS.big {w0 w : World} {L : Lay} {c : Conf} {s : St} {bs : List UInt8} {N N1 p k n : Nat} (S : RS w0 w L c s bs N N1 p k n) : N < w.heap.size := S.blk.lt
theorem BB.go {w w' : World} {t : TypeId} {b : Nat} {l : List UInt8} (h : BB w t b l) (k : Below w.heap.size w w') : BB w' t b l := (k.block b h.lt).trans h
theorem bb_far {w : World} {t : TypeId} {b : Nat} {l : List UInt8} (h : BB w t b l) {q : Addr} (hq : b ≠ q.block) (v : Value) : BB (w.setCell q v) t b l := by
  exact (Below.heap_setCell w q v b hq).trans h
theorem put8_far {w : World} {t : TypeId} {b N : Nat} {l : List UInt8} (B : BB w t b l) (hb : b ≠ N) (a1 a2 a3 a4 a5 a6 a7 a8 : Value) : BB (put8 w N a1 a2 a3 a4 a5 a6 a7 a8) t b l :=
  (bb_far (bb_far (bb_far (bb_far (bb_far (bb_far (bb_far (bb_far B (q := ⟨N, 0, none⟩) hb a1) (q := ⟨N, 1, none⟩) hb a2) (q := ⟨N, 2, none⟩) hb a3) (q := ⟨N, 3, none⟩) hb a4) (q := ⟨N, 4, none⟩) hb a5) (q := ⟨N, 5, none⟩) hb a6) (q := ⟨N, 6, none⟩) hb a7) (q := ⟨N, 7, none⟩) hb a8)
def readF (N V U V1 r40 r16 r24 r32 r45 r46 : Nat) (E0 E1 : List UInt8) (L : Lay) (p k n : Nat) : Nat → Value → World → Prop
  | 0, v, w => v = .agg #[.pointer (some ⟨L.ga, 0, none⟩), .int .i64 (p : Int), .int .i64 (k : Int), .int .i64 (n : Int)]
  | 1, v, w => v = .agg #[.pointer (some ⟨L.ga, 0, none⟩), .int .i64 (p : Int), .int .i64 (k : Int), .int .i64 (n : Int)]
  | 2, v, w => v = .int .i64 (V : Int)
  | 3, v, w => ∃ b, v = .slice (some ⟨b, 0, none⟩) V V ∧ N < b ∧ BB w 5 b E0
  | 4, v, w => v = .agg #[.pointer (some ⟨L.ga, 0, none⟩), .int .i64 (p : Int), .int .i64 (k : Int), .int .i64 (n : Int)]
  | 5, v, w => v = .agg #[.pointer (some ⟨L.ga, 0, none⟩), .int .i64 (p : Int), .int .i64 (k : Int), .int .i64 (n : Int)]
  | 6, v, w => v = .int .i64 (V : Int)
  | 7, v, w => v = .int .i64 (V1 : Int)
  | 8, v, w => v = .agg #[.pointer (some ⟨L.ga, 0, none⟩), .int .i64 (p : Int), .int .i64 (k : Int), .int .i64 (n : Int)]
  | 9, v, w => v = .int .i64 (U : Int)
  | 10, v, w => ∃ b, v = .slice (some ⟨b, 0, none⟩) U U ∧ N < b ∧ BB w 5 b E1
  | 11, v, w => v = .agg #[.pointer (some ⟨L.ga, 0, none⟩), .int .i64 (p : Int), .int .i64 (k : Int), .int .i64 (n : Int)]
  | 12, v, w => v = .int .u32 (r40 : Int)
  | 13, v, w => v = .int .u64 (r40 : Int)
  | 14, v, w => v = .agg #[.pointer (some ⟨L.ga, 0, none⟩), .int .i64 (p : Int), .int .i64 (k : Int), .int .i64 (n : Int)]
  | 15, v, w => v = .int .u64 (r16 : Int)
  | 16, v, w => v = .int .i64 (r16 : Int)
  | 17, v, w => v = .agg #[.pointer (some ⟨L.ga, 0, none⟩), .int .i64 (p : Int), .int .i64 (k : Int), .int .i64 (n : Int)]
  | 18, v, w => v = .int .u64 (r24 : Int)
  | 19, v, w => v = .int .i64 (r24 : Int)
  | 20, v, w => v = .agg #[.pointer (some ⟨L.ga, 0, none⟩), .int .i64 (p : Int), .int .i64 (k : Int), .int .i64 (n : Int)]
  | 21, v, w => v = .int .u64 (r32 : Int)
  | 22, v, w => v = .agg #[.pointer (some ⟨L.ga, 0, none⟩), .int .i64 (p : Int), .int .i64 (k : Int), .int .i64 (n : Int)]
  | 23, v, w => v = .int .u8 (r45 : Int)
  | 24, v, w => v = .int .i64 (r45 : Int)
  | 25, v, w => v = .agg #[.pointer (some ⟨L.ga, 0, none⟩), .int .i64 (p : Int), .int .i64 (k : Int), .int .i64 (n : Int)]
  | 26, v, w => v = .int .u8 (r46 : Int)
  | 27, v, w => v = .int .i64 (r46 : Int)
  | 28, v, w => ∃ b b', v = .agg #[.slice (some ⟨b, 0, none⟩) V V, .slice (some ⟨b', 0, none⟩) U U, .int .u64 (r40 : Int), .int .i64 (r16 : Int), .int .i64 (r24 : Int), .int .u64 (r32 : Int), .int .i64 (r45 : Int), .int .i64 (r46 : Int)] ∧ N < b ∧ N < b' ∧ b ≠ b' ∧ BB w 5 b E0 ∧ BB w 5 b' E1
  | _, _, _ => True
set_option maxRecDepth 100000 in
theorem readF_go {N V U V1 r40 r16 r24 r32 r45 r46 : Nat} {E0 E1 : List UInt8} {L : Lay} {p k n : Nat} : ∀ j u w w', readF N V U V1 r40 r16 r24 r32 r45 r46 E0 E1 L p k n j u w → Below w.heap.size w w' → readF N V U V1 r40 r16 r24 r32 r45 r46 E0 E1 L p k n j u w' := by
  intro j u w w' h b
  match j, h with
  | 0, h => exact h
  | 1, h => exact h
  | 2, h => exact h
  | 3, ⟨x, h1, h2, h3⟩ => exact ⟨x, h1, h2, BB.go h3 b⟩
  | 4, h => exact h
  | 5, h => exact h
  | 6, h => exact h
  | 7, h => exact h
  | 8, h => exact h
  | 9, h => exact h
  | 10, ⟨x, h1, h2, h3⟩ => exact ⟨x, h1, h2, BB.go h3 b⟩
  | 11, h => exact h
  | 12, h => exact h
  | 13, h => exact h
  | 14, h => exact h
  | 15, h => exact h
  | 16, h => exact h
  | 17, h => exact h
  | 18, h => exact h
  | 19, h => exact h
  | 20, h => exact h
  | 21, h => exact h
  | 22, h => exact h
  | 23, h => exact h
  | 24, h => exact h
  | 25, h => exact h
  | 26, h => exact h
  | 27, h => exact h
  | 28, ⟨x, x', h1, h2, h3, h4, h5, h6⟩ => exact ⟨x, x', h1, h2, h3, h4, BB.go h5 b, BB.go h6 b⟩
  | j + 29, _ => exact trivial
end Go.Proofs.YtfjiphibalhcgaaGreat.Itm
