/-
  Contracts and lemmas, joined: LruBegun, LruRowPlain, QueueSeq, QueueSeq2, RangeLaw, QueueSeq3, LruRow, QueueAllLaw0, LruPick, LruPickN, LruDead.
-/
import Derived.RangeFuncNested
import Derived.RangeFuncBound
import Derived.RangeFuncCalls
import Derived.RangeFuncLeaves
import Derived.RangeFuncBox
import Derived.Shelf.Abstract
import Derived.WalkKit
import Derived.OwnWalkIn
import Derived.TacticsInMore
import Derived.LoopNIn
import Derived.LoopIn
import Derived.Maps.AppendAt
import Derived.Sort.QuietTacIn
import Derived.Sort.CutIn
import Derived.Test.YtngehaiigbbknaaGreatJ6
import Derived.Test.YtngehaiigbbknaaGreatJ7
import Derived.Test.YtngehaiigbbknaaGreatJ9
import Derived.Test.YtngehaiigbbknaaGreatJ10
set_option linter.unusedSimpArgs false
set_option linter.unusedVariables false
set_option linter.unusedSectionVars false
set_option maxRecDepth 100000
/-
  The walk of begun.
-/
namespace Go.Proofs.YtngehaiigbbknaaGreat.Que
open Go.RowKit Base Arena Cls Itm
section
variable {N : Nat} {w : World} {W : W6} {c : Conf} {s : St} {bs : List UInt8} {Z : Nat -> Option Zd} {Ls Ld : Nat -> Nat -> List Nat} {r : RS} {laid told act : List Nat} {mk : Nat -> Nat} (h : WAt N w W c s bs Z Ls Ld r laid told act mk)
include h
theorem WAt.shares (hg : W.gm = none) (hd : W.dm = none) (a b : Int) : WAt N w { W with hot := a, warm := b } c s bs Z Ls Ld r laid told act mk := by
  have ef : ∀ i, ({ W with hot := a, warm := b } : W6).foot c s i = W.foot c s i := fun i => by cases i <;> rfl
  refine ⟨h.q, h.ref, h.doc, h.own, h.told, fun i j b hi hj => h.sep i j b (by rw [<- ef]; exact hi) (by rw [<- ef]; exact hj), h.tb, fun i b hb => h.base i b (by rw [<- ef]; exact hb), fun g e => ?_, fun d e => ?_, h.row, h.ad, h.mks⟩
  · rw [show ({ W with hot := a, warm := b } : W6).gm = W.gm from rfl, hg] at e; cases e
  · rw [show ({ W with hot := a, warm := b } : W6).dm = W.dm from rfl, hd] at e; cases e
theorem WAt.weak {N' : Nat} (hN : N' <= N) : WAt N' w W c s bs Z Ls Ld r laid told act mk := ⟨h.q, h.ref, h.doc, h.own, h.told, h.sep, h.tb, fun i b e => Nat.le_trans hN (h.base i b e), h.lru, h.dlr, h.row, h.ad, h.mks⟩
theorem WAt.setL (hg : W.gm = none) {g : Nat} (B : Blk w g 97 W.lc) (hf : ∀ i, ¬ W.foot c s i g) (hN : N <= g) : WAt N (w.setCell ⟨W.b, 2, none⟩ (.pointer (some ⟨g, 0, none⟩))) { W with gm := some g } c s bs Z Ls Ld r laid told act mk := by
  have o2 := only_cell1 (S := (· = W.b)) w W.b 2 (.pointer (some ⟨g, 0, none⟩)) rfl
  have ns : ∀ i b, i ≠ .own -> W.foot c s i b -> b ≠ W.b := fun i b hi hb e => hi (h.sep i .own b hb (.inl e))
  have gb : g ≠ W.b := fun e => hf .own (.inl e)
  have key : ∀ i b, ({ W with gm := some g } : W6).foot c s i b -> (i = .lru /\ b = g) \/ W.foot c s i b := fun i b hb => by
    cases i with
    | lru => exact .inl ⟨rfl, by injection (show some g = some b from hb) with e; exact e.symm⟩
    | _ => exact .inr hb
  obtain ⟨F, S, q⟩ := h.q
  refine ⟨⟨F, ⟨S.zs.only o2 fun b hb => ns .set b (by simp) hb, S.q.only o2 (ns .queue _ (by simp) (.inl rfl)) (ns .queue _ (by simp) (.inr rfl)), S.fq, S.fl⟩, q⟩, h.ref.only o2 fun b hb => ns .ref b (by simp) hb, h.doc.only o2 fun b hb => ns .doc b (by simp) hb, h.own.set_ 2 _, own_keptN h.told fun b e => o2.block b (own_blockN h.told e) (fun e2 => h.tb (e2 ▸ e)), fun i j b hi hj => ?_, h.tb, fun i b hb => ?_, fun g' e => ?_, fun d e => (o2.block _ (h.dlr d e).lt (ns .act d (by simp) (.inl e))).trans (h.dlr d e), own_keptN h.row fun b e => o2.block b (own_blockN h.row e) (ns .act b (by simp) (.inr e)), h.ad, h.mks⟩
  · rcases key i b hi with ⟨e1, h1⟩ | h1 <;> rcases key j b hj with ⟨e2, h2⟩ | h2
    · rw [e1, e2]
    · exact absurd (h1 ▸ h2) (hf j)
    · exact absurd (h2 ▸ h1) (hf i)
    · exact h.sep i j b h1 h2
  · rcases key i b hb with ⟨e1, h1⟩ | h1
    · rw [h1]; exact hN
    · exact h.base i b h1
  · obtain rfl : g = g' := by injection (show some g = some g' from e)
    exact (o2.block _ B.lt gb).trans B
theorem WAt.setM (hd : W.dm = none) {d : Nat} (B : Blk w d 99 W.dc) (hv : W.vA.ownBlock = none) (hf : ∀ i, ¬ W.foot c s i d) (hN : N <= d) : WAt N (w.setCell ⟨W.b, 5, none⟩ (.pointer (some ⟨d, 0, none⟩))) { W with dm := some d } c s bs Z Ls Ld r laid told act mk := by
  have o2 := only_cell1 (S := (· = W.b)) w W.b 5 (.pointer (some ⟨d, 0, none⟩)) rfl
  have ns : ∀ i b, i ≠ .own -> W.foot c s i b -> b ≠ W.b := fun i b hi hb e => hi (h.sep i .own b hb (.inl e))
  have gb : d ≠ W.b := fun e => hf .own (.inl e)
  have key : ∀ i b, ({ W with dm := some d } : W6).foot c s i b -> (i = .act /\ b = d) \/ W.foot c s i b := fun i b hb => by
    cases i with
    | act =>
      rcases hb with hb | hb
      · exact .inl ⟨rfl, by injection (show some d = some b from hb) with e; exact e.symm⟩
      · exact .inr (.inr hb)
    | _ => exact .inr hb
  obtain ⟨F, S, q⟩ := h.q
  refine ⟨⟨F, ⟨S.zs.only o2 fun b hb => ns .set b (by simp) hb, S.q.only o2 (ns .queue _ (by simp) (.inl rfl)) (ns .queue _ (by simp) (.inr rfl)), S.fq, S.fl⟩, q⟩, h.ref.only o2 fun b hb => ns .ref b (by simp) hb, h.doc.only o2 fun b hb => ns .doc b (by simp) hb, h.own.set_ 5 _, own_keptN h.told fun b e => o2.block b (own_blockN h.told e) (fun e2 => h.tb (e2 ▸ e)), fun i j b hi hj => ?_, h.tb, fun i b hb => ?_, fun g e => (o2.block _ (h.lru g e).lt (ns .lru g (by simp) e)).trans (h.lru g e), fun d' e => ?_, own_keptN h.row fun b e => o2.block b (own_blockN h.row e) (ns .act b (by simp) (.inr e)), fun d' e => ?_, h.mks⟩
  · rcases key i b hi with ⟨e1, h1⟩ | h1 <;> rcases key j b hj with ⟨e2, h2⟩ | h2
    · rw [e1, e2]
    · exact absurd (h1 ▸ h2) (hf j)
    · exact absurd (h2 ▸ h1) (hf i)
    · exact h.sep i j b h1 h2
  · rcases key i b hb with ⟨e1, h1⟩ | h1
    · rw [h1]; exact hN
    · exact h.base i b h1
  · obtain rfl : d = d' := by injection (show some d = some d' from e)
    exact (o2.block _ B.lt gb).trans B
  · show W.vA.ownBlock ≠ some d'
    rw [hv]
    intro e; cases e
end
theorem lruNewC (w : World) (g gq : Nat) (a b : Int) (h1 : 1 <= a) (h2 : 1 <= b) (h3 : a + b <= 90) : Calls Tryz.prog 12 #[.pointer (some ⟨g, 0, none⟩), .pointer (some ⟨gq, 0, none⟩), .int .i64 a, .int .i64 b] w fun e w' => e = .returned (.tuple #[.pointer (some ⟨w.heap.size, 0, none⟩), .int .i64 0]) /\
    w' = w.alloc (.cells #[.pointer (some ⟨g, 0, none⟩), .pointer (some ⟨gq, 0, none⟩), .int .i64 a, .int .i64 b] 97) := by
  have d1 : decide (a < 1) = false := decide_eq_false (by omega)
  have d2 : decide (b < 1) = false := decide_eq_false (by omega)
  have d3 : decide (90 < a) = false := decide_eq_false (by omega)
  have q1 : IntKind.i64.wrap (90 - a) = 90 - a := IntWalk.i64_in _ (by omega)
  have d4 : decide (90 - a < b) = false := decide_eq_false (by omega)
  go_enter Tryz.func12, Tryz.ntmps12
  go_wp2
  go_ret2
  exact ⟨rfl, rfl⟩
theorem rlruNewC (w : World) (g : Nat) (a b : Int) (h1 : 1 <= a) (h2 : 1 <= b) (h3 : a + b <= 90) : Calls Tryz.prog 13 #[.pointer (some ⟨g, 0, none⟩), .int .i64 a, .int .i64 b] w fun e w' => e = .returned (.tuple #[.pointer (some ⟨w.heap.size, 0, none⟩), .int .i64 0]) /\
    w' = w.alloc (.cells #[.pointer (some ⟨g, 0, none⟩), .int .i64 a, .int .i64 b, .slice none 0 0] 99) := by
  have d1 : decide (a < 1) = false := decide_eq_false (by omega)
  have d2 : decide (b < 1) = false := decide_eq_false (by omega)
  have d3 : decide (90 < a) = false := decide_eq_false (by omega)
  have d5 : decide (90 < b) = false := decide_eq_false (by omega)
  have q1 : IntKind.i64.wrap (a + b) = a + b := IntWalk.i64_in _ (by omega)
  have d4 : decide (90 < a + b) = false := decide_eq_false (by omega)
  go_enter Tryz.func13, Tryz.ntmps13
  go_wp2
  go_ret2
  exact ⟨rfl, rfl⟩
def hotN (a : Int) : Nat := 1 + (a % 89).toNat
def warmN (a b : Int) : Nat := 1 + (b % ((90 - hotN a : Nat) : Int)).toNat
theorem shares_in (a b : Int) : 1 <= hotN a /\ hotN a <= 89 /\ 1 <= warmN a b /\ hotN a + warmN a b <= 90 := by
  have h1 : hotN a <= 89 := by unfold hotN; omega
  have h2 : b % ((90 - hotN a : Nat) : Int) < ((90 - hotN a : Nat) : Int) := Int.emod_lt_of_pos _ (by omega)
  have h3 : 0 <= b % ((90 - hotN a : Nat) : Int) := Int.emod_nonneg _ (by omega)
  refine ⟨by unfold hotN; omega, h1, by unfold warmN; omega, ?_⟩
  unfold warmN
  omega
theorem sharedC (w : World) (a b : Int) (ha : Cls.In a) (hb : Cls.In b) : Calls Tryz.prog 17 #[.agg #[.int .i64 a, .int .i64 b]] w fun e w' => e = .returned (.agg #[.int .i64 (hotN a : Int), .int .i64 (warmN a b : Int)]) /\ Below w.heap.size w w' := by
  obtain ⟨s1, s2, s3, s4⟩ := shares_in a b
  have WA := Lib.hid (fun w => withinI (w := w) a 89 ha (by omega) (by omega))
  have WB := Lib.hid (fun w => withinI (w := w) b (90 - hotN a) hb (by omega) (by omega))
  have e1 : hotN a = 1 + (a % ((89 : Nat) : Int)).toNat := rfl
  have e2 : warmN a b = 1 + (b % ((90 - hotN a : Nat) : Int)).toNat := rfl
  generalize hA : (a % ((89 : Nat) : Int)).toNat = A at *
  generalize hotN a = H at *
  generalize hB : (b % ((90 - H : Nat) : Int)).toNat = B at *
  generalize warmN a b = V at *
  have q1 : IntKind.i64.wrap (1 + (A : Int)) = (H : Int) := by rw [IntWalk.i64_in _ (by omega)]; omega
  have q2 : IntKind.i64.wrap (90 - (H : Int)) = ((90 - H : Nat) : Int) := by rw [IntWalk.i64_in _ (by omega)]; omega
  have q3 : IntKind.i64.wrap (1 + (B : Int)) = (V : Int) := by rw [IntWalk.i64_in _ (by omega)]; omega
  generalize 90 - H = D at *
  obtain ⟨w1, hw1⟩ : ∃ w1, w1 = (w.alloc (.cells #[.int .i64 a, .int .i64 b] 38)).alloc (.cells #[.int .i64 0, .int .i64 0] 38) := ⟨_, rfl⟩
  have B1 : Blk w1 w.heap.size 38 #[.int .i64 a, .int .i64 b] := by rw [hw1]; exact (Blk.new w _ _).alloc _
  have C1 : Blk w1 (w.heap.size + 1) 38 #[.int .i64 0, .int .i64 0] := by rw [hw1]; exact blk_new' (World.size_alloc _ _)
  have b1 : Below w.heap.size w w1 := by rw [hw1]; exact ((Below.refl _ _).alloc (Nat.le_refl _) _).alloc (by rw [World.size_alloc]; omega) _
  have x0 := B1.cell 0
  have x1 := B1.cell 1
  have c0 := C1.cell 0
  have c1 := C1.cell 1
  have f0 := C1.frozen 0
  have f1 := C1.frozen 1
  replace hw1 := Lib.hid hw1
  replace b1 := Lib.hid b1
  replace hA := Lib.hid hA
  replace hB := Lib.hid hB
  clear ha hb s1 s2 s3 s4 e1 e2
  generalize hN : w.heap.size = N at *
  replace hN := Lib.hid hN
  rw [show ((89 : Nat) : Int) = 89 from rfl] at WA
  generalize hN1 : N + 1 = N1 at *
  have hle : N <= N1 := by omega
  go_enter Tryz.func17, Tryz.ntmps17
  go_upto_region 1 with fail
  rw [hN.out, hN1, <- hw1.out]
  go_wp2_with fail
  refine (WA.out _).mono ?_
  rintro e w' ⟨rfl, rfl⟩
  go_wp2_with fail
  refine (WB.out _).mono ?_
  rintro e w' ⟨rfl, rfl⟩
  go_wp2
  have C2 : Blk ((w1.setCell ⟨N1, 0, none⟩ (.int .i64 (H : Int))).setCell ⟨N1, 1, none⟩ (.int .i64 (V : Int))) N1 38 #[.int .i64 (H : Int), .int .i64 (V : Int)] := (C1.set_ 0 _).set_ 1 _
  have b2 : Below N w ((w1.setCell ⟨N1, 0, none⟩ (.int .i64 (H : Int))).setCell ⟨N1, 1, none⟩ (.int .i64 (V : Int))) := (b1.out.setCell (p := ⟨N1, 0, none⟩) hle _).setCell (p := ⟨N1, 1, none⟩) hle _
  exact bodyPost_ret (results_cell_row (P := Tryz.prog) rfl _ _ N1 38 _ (0, 0) _ rfl C2 Tryz.underlying38 rfl (by kernel_rfl)) rfl ⟨rfl, b2⟩
set_option maxHeartbeats 1600000 in
theorem begunC8 (w : World) (a b : Int) (ha : Cls.In a) (hb : Cls.In b) : Calls Tryz.prog 23 #[.agg #[.int .i64 a, .int .i64 b]] w fun e w' => Below w.heap.size w w' /\ ∃ (W : W6) (g d : Nat), e = .returned (.pointer (some ⟨W.b, 0, none⟩)) /\ W.gm = some g /\ W.dm = some d /\ W.hot = (hotN a : Int) /\ W.warm = (warmN a b : Int) /\
    WAt w.heap.size w' W qc (new0 qc.cf) (List.replicate (qc.cf.ps * qc.cf.np) 0) (fun _ => none) (fun _ _ => []) (fun _ _ => []) rnew0 [] [] [] (fun _ => 0) := by
  obtain ⟨s1, s2, s3, s4⟩ := shares_in a b
  have SC := fun w => sharedC w a b ha hb
  generalize hotN a = h at *
  generalize warmN a b = v at *
  have n1 := fun w => numC6 w 0
  have LN := fun w g gq => lruNewC w g gq (h : Int) (v : Int) (by omega) (by omega) (by omega)
  have RN := fun w g => rlruNewC w g (h : Int) (v : Int) (by omega) (by omega) (by omega)
  obtain ⟨w1, hw1⟩ : ∃ w1, w1 = w.alloc (.cells #[.int .i64 a, .int .i64 b] 38) := ⟨_, rfl⟩
  have B1 : Blk w1 w.heap.size 38 #[.int .i64 a, .int .i64 b] := by rw [hw1]; exact Blk.new w _ _
  have b1 : Below w.heap.size w w1 := by rw [hw1]; exact (Below.refl _ _).alloc (Nat.le_refl _) _
  have CC := Lib.hid (chunksC w1)
  replace SC := Lib.hid SC
  replace LN := Lib.hid LN
  replace RN := Lib.hid RN
  replace hw1 := Lib.hid hw1
  clear ha hb s1 s2 s3 s4
  generalize hN : w.heap.size = N at *
  replace hN := Lib.hid hN
  go_enter Tryz.func23, Tryz.ntmps23
  go_upto_region 1 with fail
  rw [hN.out, <- hw1.out]
  go_wp2_with fail
  refine CC.out.mono ?_
  rintro e w2 ⟨b2, W, rfl, eg, ed, ev, A2⟩
  have N1 : N <= w1.heap.size := by have := b1.size; rw [hN.out] at this; exact this
  have b12 := b1.trans (b2.mono (B' := N) N1)
  have B2 := B1.below b2 B1.lt
  have x0 := B2.cell 0
  have x1 := B2.cell 1
  replace b12 := Lib.hid b12
  replace A2 := Lib.hid A2
  replace eg := Lib.hid eg
  replace ed := Lib.hid ed
  replace ev := Lib.hid ev
  clear b1 b2 B1 B2 CC
  go_wp2_with fail
  refine (SC.out w2).mono ?_
  rintro e w3 ⟨rfl, b3⟩
  obtain ⟨w4, hw4⟩ : ∃ w4, w4 = w3.alloc (.cells #[.int .i64 (h : Int), .int .i64 (v : Int)] 38) := ⟨_, rfl⟩
  obtain ⟨M, hM⟩ : ∃ M, M = w3.heap.size := ⟨_, rfl⟩
  have B4 : Blk w4 M 38 #[.int .i64 (h : Int), .int .i64 (v : Int)] := by rw [hw4, hM]; exact Blk.new w3 _ _
  have c4 : Below w2.heap.size w2 w4 := by rw [hw4]; exact b3.alloc b3.size _
  have A4 := A2.out.below c4
  have b4 := b12.out.trans (c4.mono (B' := N) (Nat.le_trans N1 (by have := A2.out.hN0; exact this)))
  obtain ⟨y0, y1, y3, y4, y6⟩ := A4.cW
  obtain ⟨z2, z5⟩ := A4.cL
  rw [eg.out] at z2
  rw [ed.out] at z5
  unfold ptrO at z2 z5
  have x0 := B4.cell 0
  have x1 := B4.cell 1
  replace hw4 := Lib.hid hw4
  replace hM := Lib.hid hM
  replace b4 := Lib.hid b4
  replace A4 := Lib.hid A4
  clear b3 c4 A2 b12 SC
  go_upto_region 5 with fail
  rw [<- hM.out, <- hw4.out]
  go_cut [5, 6] from 14 to 29 (fun s5 s6 wx => ∃ g : Nat, s5 = .pointer (some ⟨g, 0, none⟩) /\ s6 = .int .i64 0 /\ Hid (Below w4.heap.size w4 wx /\ w4.heap.size <= g /\ Blk wx g 97 #[.pointer (some ⟨W.L.g, 0, none⟩), .pointer (some ⟨W.gq, 0, none⟩), .int .i64 (h : Int), .int .i64 (v : Int)]))
  case first =>
    obtain ⟨wd, hwd⟩ : ∃ wd, wd = w4.drew := ⟨_, rfl⟩
    have bd : Below w4.heap.size w4 wd := by rw [hwd]; exact below_drewN (Below.refl _ _) 1
    have Sd : wd.cell? ⟨W.b, 0, none⟩ = some (.pointer (some ⟨W.L.g, 0, none⟩)) /\ wd.cell? ⟨W.b, 1, none⟩ = some (.pointer (some ⟨W.gq, 0, none⟩)) /\ wd.cell? ⟨M, 0, none⟩ = some (.int .i64 (h : Int)) /\ wd.cell? ⟨M, 1, none⟩ = some (.int .i64 (v : Int)) := by rw [hwd]; exact ⟨y0, y1, x0, x1⟩
    replace bd := Lib.hid bd
    refine wp_region_noPanic ?_
    refine wp_region_held_drew (S := fun u => u.cell? ⟨W.b, 0, none⟩ = some (.pointer (some ⟨W.L.g, 0, none⟩)) /\ u.cell? ⟨W.b, 1, none⟩ = some (.pointer (some ⟨W.gq, 0, none⟩)) /\ u.cell? ⟨M, 0, none⟩ = some (.int .i64 (h : Int)) /\ u.cell? ⟨M, 1, none⟩ = some (.int .i64 (v : Int))) (by kernel_rfl) (by rw [<- hwd]; exact Sd) (fun hHeld => ?_)
    rw [<- hwd] at hHeld ⊢
    clear hwd
    refine tkh (i := 0) (v := ?_) rfl ?_ ?_
    rotate_left
    · try simp only [qA, qS, qZ]
      rintro w ⟨hS1, hS2, hS3, hS4⟩
      go_simp
      (try with_reducible rfl)
    try simp only [qA, qS, qZ, Act.put, qT, qO, qN]
    refine tkh (i := 1) (v := ?_) rfl ?_ ?_
    rotate_left
    · try simp only [qA, qS, qZ]
      rintro w ⟨hS1, hS2, hS3, hS4⟩
      go_simp
      (try with_reducible rfl)
    try simp only [qA, qS, qZ, Act.put, qT, qO, qN]
    refine tkh (i := 2) (v := ?_) rfl ?_ ?_
    rotate_left
    · try simp only [qA, qS, qZ]
      rintro w ⟨hS1, hS2, hS3, hS4⟩
      go_simp
      (try with_reducible rfl)
    try simp only [qA, qS, qZ, Act.put, qT, qO, qN]
    refine tkh (i := 3) (v := ?_) rfl ?_ ?_
    rotate_left
    · try simp only [qA, qS, qZ]
      rintro w ⟨hS1, hS2, hS3, hS4⟩
      go_simp
      (try with_reducible rfl)
    try simp only [qA, qS, qZ, Act.put, qT, qO, qN]
    refine tkh (i := 4) (v := ?_) rfl ?_ ?_
    rotate_left
    · try simp only [qA, qS, qZ]
      rintro w ⟨hS1, hS2, hS3, hS4⟩
      go_simp
      (try with_reducible rfl)
    try simp only [qA, qS, qZ, Act.put, qT, qO, qN]
    refine tkh (i := 5) (v := ?_) rfl ?_ ?_
    rotate_left
    · try simp only [qA, qS, qZ]
      rintro w ⟨hS1, hS2, hS3, hS4⟩
      go_simp
      (try with_reducible rfl)
    try simp only [qA, qS, qZ, Act.put, qT, qO, qN]
    refine tkh (i := 6) (v := ?_) rfl ?_ ?_
    rotate_left
    · try simp only [qA, qS, qZ]
      rintro w ⟨hS1, hS2, hS3, hS4⟩
      go_simp
      (try with_reducible rfl)
    try simp only [qA, qS, qZ, Act.put, qT, qO, qN]
    refine tkh (i := 7) (v := ?_) rfl ?_ ?_
    rotate_left
    · try simp only [qA, qS, qZ]
      rintro w ⟨hS1, hS2, hS3, hS4⟩
      go_simp
      (try with_reducible rfl)
    try simp only [qA, qS, qZ, Act.put, qT, qO, qN]
    refine tkh (i := 8) (v := ?_) rfl ?_ ?_
    rotate_left
    · try simp only [qA, qS, qZ]
      rintro w ⟨hS1, hS2, hS3, hS4⟩
      go_simp
      (try with_reducible rfl)
    try simp only [qA, qS, qZ, Act.put, qT, qO, qN]
    refine tkh (i := 9) (v := ?_) rfl ?_ ?_
    rotate_left
    · try simp only [qA, qS, qZ]
      rintro w ⟨hS1, hS2, hS3, hS4⟩
      go_simp
      (try with_reducible rfl)
    try simp only [qA, qS, qZ, Act.put, qT, qO, qN]
    refine tkh (i := 10) (v := ?_) rfl ?_ ?_
    rotate_left
    · try simp only [qA, qS, qZ]
      rintro w ⟨hS1, hS2, hS3, hS4⟩
      go_simp
      (try with_reducible rfl)
    try simp only [qA, qS, qZ, Act.put, qT, qO, qN]
    refine tkh (i := 11) (v := ?_) rfl ?_ ?_
    rotate_left
    · try simp only [qA, qS, qZ]
      rintro w ⟨hS1, hS2, hS3, hS4⟩
      go_simp
      (try with_reducible rfl)
    try simp only [qA, qS, qZ, Act.put, qT, qO, qN]
    refine wpAnyH_ready (rs := [12]) (by kernel_rfl) (by simp) ?_
    refine AllReadyH.cons (o := _) rfl (fun K hK => ?_) ?_
    · try simp only [qA, qS, qZ]
      go_simp
      go_at_call 12
      refine (LN.out _ _ _).mono ?_
      rintro e we ⟨rfl, hwe⟩
      have be : Below wd.heap.size wd we := by rw [hwe]; exact (Below.refl _ _).alloc (Nat.le_refl _) _
      have Be : Blk we wd.heap.size 97 #[.pointer (some ⟨W.L.g, 0, none⟩), .pointer (some ⟨W.gq, 0, none⟩), .int .i64 (h : Int), .int .i64 (v : Int)] := by rw [hwe]; exact Blk.new wd _ _
      have Se : we.cell? ⟨W.b, 0, none⟩ = some (.pointer (some ⟨W.L.g, 0, none⟩)) /\ we.cell? ⟨W.b, 1, none⟩ = some (.pointer (some ⟨W.gq, 0, none⟩)) /\ we.cell? ⟨M, 0, none⟩ = some (.int .i64 (h : Int)) /\ we.cell? ⟨M, 1, none⟩ = some (.int .i64 (v : Int)) := by
        obtain ⟨u0, u1, u2, u3⟩ := Sd
        exact ⟨(be.cell (World.block_lt_of_cell? _ _ u0)).trans u0, (be.cell (World.block_lt_of_cell? _ _ u1)).trans u1, (be.cell (World.block_lt_of_cell? _ _ u2)).trans u2, (be.cell (World.block_lt_of_cell? _ _ u3)).trans u3⟩
      have fin := Lib.hid (show Below w4.heap.size w4 we /\ w4.heap.size <= wd.heap.size /\ Blk we wd.heap.size 97 #[.pointer (some ⟨W.L.g, 0, none⟩), .pointer (some ⟨W.gq, 0, none⟩), .int .i64 (h : Int), .int .i64 (v : Int)] from ⟨bd.out.trans (be.mono bd.out.size), by have := bd.out.size; omega, Be⟩)
      clear be Be hwe
      go_wp2_with fail
      refine hK.out _ _ Se (fun hHeld => ?_)
      clear hK K hHeld
      try simp only [qA, qS, qZ, Act.put, qT, qO, qN]
      refine tkh (i := 13) (v := ?_) rfl ?_ ?_
      rotate_left
      · try simp only [qA, qS, qZ]
        rintro w ⟨hS1, hS2, hS3, hS4⟩
        go_simp
        (try with_reducible rfl)
      try simp only [qA, qS, qZ, Act.put, qT, qO, qN]
      refine tkh (i := 14) (v := ?_) rfl ?_ ?_
      rotate_left
      · try simp only [qA, qS, qZ]
        rintro w ⟨hS1, hS2, hS3, hS4⟩
        go_simp
        (try with_reducible rfl)
      try simp only [qA, qS, qZ, Act.put, qT, qO, qN]
      refine tkh (i := 15) (v := ?_) rfl ?_ ?_
      rotate_left
      · try simp only [qA, qS, qZ]
        rintro w ⟨hS1, hS2, hS3, hS4⟩
        go_simp
        (try with_reducible rfl)
      try simp only [qA, qS, qZ, Act.put, qT, qO, qN]
      refine tkh (i := 16) (v := ?_) rfl ?_ ?_
      rotate_left
      · try simp only [qA, qS, qZ]
        rintro w ⟨hS1, hS2, hS3, hS4⟩
        go_simp
        (try with_reducible rfl)
      try simp only [qA, qS, qZ, Act.put, qT, qO, qN]
      refine tkh (i := 17) (v := ?_) rfl ?_ ?_
      rotate_left
      · try simp only [qA, qS, qZ]
        rintro w ⟨hS1, hS2, hS3, hS4⟩
        go_simp
        (try with_reducible rfl)
      try simp only [qA, qS, qZ, Act.put, qT, qO, qN]
      refine wpAnyH_done (by kernel_rfl) ?_ _
      refine NoPanic.normal ?_
      go_wp2_with fail
      go_meet
      exact ⟨wd.heap.size, rfl, rfl, fin⟩
    exact AllReadyH.nil
  case rest =>
    obtain ⟨g, rfl, rfl, G⟩ := hcut
    rename World => w5
    obtain ⟨c5, hg5, BL⟩ := G.out
    have A5 := A4.out.below c5
    have B5 := B4.below c5 B4.lt
    have b5 := b4.out.trans (c5.mono (B' := N) (Nat.le_trans N1 (Nat.le_trans (A4.out.base .own W.b (.inl rfl)) (Nat.le_of_lt A4.out.own.lt))))
    obtain ⟨y0, y1, y3, y4, y6⟩ := A5.cW
    have x0 := B5.cell 0
    have x1 := B5.cell 1
    replace A5 := Lib.hid A5
    replace b5 := Lib.hid b5
    replace BL := Lib.hid BL
    replace c5 := Lib.hid c5
    go_upto_region 6 with fail
    go_cut [7, 8] from 30 to 41 (fun s7 s8 wx => ∃ g : Nat, s7 = .pointer (some ⟨g, 0, none⟩) /\ s8 = .int .i64 0 /\ Hid (Below w5.heap.size w5 wx /\ w5.heap.size <= g /\ Blk wx g 99 #[.pointer (some ⟨W.R.b, 0, none⟩), .int .i64 (h : Int), .int .i64 (v : Int), .slice none 0 0]))
    case first =>
      obtain ⟨wd, hwd⟩ : ∃ wd, wd = w5.drew := ⟨_, rfl⟩
      have bd : Below w5.heap.size w5 wd := by rw [hwd]; exact below_drewN (Below.refl _ _) 1
      have Sd : wd.cell? ⟨W.b, 4, none⟩ = some (.pointer (some ⟨W.R.b, 0, none⟩)) /\ wd.cell? ⟨M, 0, none⟩ = some (.int .i64 (h : Int)) /\ wd.cell? ⟨M, 1, none⟩ = some (.int .i64 (v : Int)) := by rw [hwd]; exact ⟨y4, x0, x1⟩
      replace bd := Lib.hid bd
      refine wp_region_noPanic ?_
      refine wp_region_held_drew (S := fun u => u.cell? ⟨W.b, 4, none⟩ = some (.pointer (some ⟨W.R.b, 0, none⟩)) /\ u.cell? ⟨M, 0, none⟩ = some (.int .i64 (h : Int)) /\ u.cell? ⟨M, 1, none⟩ = some (.int .i64 (v : Int))) (by kernel_rfl) (by rw [<- hwd]; exact Sd) (fun hHeld => ?_)
      rw [<- hwd] at hHeld ⊢
      clear hwd
      refine tkh (i := 0) (v := ?_) rfl ?_ ?_
      rotate_left
      · try simp only [qA, qS, qZ]
        rintro w ⟨hS1, hS2, hS3⟩
        go_simp
        (try with_reducible rfl)
      try simp only [qA, qS, qZ, Act.put, qT, qO, qN]
      refine tkh (i := 1) (v := ?_) rfl ?_ ?_
      rotate_left
      · try simp only [qA, qS, qZ]
        rintro w ⟨hS1, hS2, hS3⟩
        go_simp
        (try with_reducible rfl)
      try simp only [qA, qS, qZ, Act.put, qT, qO, qN]
      refine tkh (i := 2) (v := ?_) rfl ?_ ?_
      rotate_left
      · try simp only [qA, qS, qZ]
        rintro w ⟨hS1, hS2, hS3⟩
        go_simp
        (try with_reducible rfl)
      try simp only [qA, qS, qZ, Act.put, qT, qO, qN]
      refine tkh (i := 3) (v := ?_) rfl ?_ ?_
      rotate_left
      · try simp only [qA, qS, qZ]
        rintro w ⟨hS1, hS2, hS3⟩
        go_simp
        (try with_reducible rfl)
      try simp only [qA, qS, qZ, Act.put, qT, qO, qN]
      refine tkh (i := 4) (v := ?_) rfl ?_ ?_
      rotate_left
      · try simp only [qA, qS, qZ]
        rintro w ⟨hS1, hS2, hS3⟩
        go_simp
        (try with_reducible rfl)
      try simp only [qA, qS, qZ, Act.put, qT, qO, qN]
      refine tkh (i := 5) (v := ?_) rfl ?_ ?_
      rotate_left
      · try simp only [qA, qS, qZ]
        rintro w ⟨hS1, hS2, hS3⟩
        go_simp
        (try with_reducible rfl)
      try simp only [qA, qS, qZ, Act.put, qT, qO, qN]
      refine tkh (i := 6) (v := ?_) rfl ?_ ?_
      rotate_left
      · try simp only [qA, qS, qZ]
        rintro w ⟨hS1, hS2, hS3⟩
        go_simp
        (try with_reducible rfl)
      try simp only [qA, qS, qZ, Act.put, qT, qO, qN]
      refine tkh (i := 7) (v := ?_) rfl ?_ ?_
      rotate_left
      · try simp only [qA, qS, qZ]
        rintro w ⟨hS1, hS2, hS3⟩
        go_simp
        (try with_reducible rfl)
      try simp only [qA, qS, qZ, Act.put, qT, qO, qN]
      refine wpAnyH_ready (rs := [8]) (by kernel_rfl) (by simp) ?_
      refine AllReadyH.cons (o := _) rfl (fun K hK => ?_) ?_
      · try simp only [qA, qS, qZ]
        go_simp
        go_at_call 13
        refine (RN.out _ _).mono ?_
        rintro e we ⟨rfl, hwe⟩
        have be : Below wd.heap.size wd we := by rw [hwe]; exact (Below.refl _ _).alloc (Nat.le_refl _) _
        have Be : Blk we wd.heap.size 99 #[.pointer (some ⟨W.R.b, 0, none⟩), .int .i64 (h : Int), .int .i64 (v : Int), .slice none 0 0] := by rw [hwe]; exact Blk.new wd _ _
        have Se : we.cell? ⟨W.b, 4, none⟩ = some (.pointer (some ⟨W.R.b, 0, none⟩)) /\ we.cell? ⟨M, 0, none⟩ = some (.int .i64 (h : Int)) /\ we.cell? ⟨M, 1, none⟩ = some (.int .i64 (v : Int)) := by
          obtain ⟨u0, u1, u2⟩ := Sd
          exact ⟨(be.cell (World.block_lt_of_cell? _ _ u0)).trans u0, (be.cell (World.block_lt_of_cell? _ _ u1)).trans u1, (be.cell (World.block_lt_of_cell? _ _ u2)).trans u2⟩
        have fin := Lib.hid (show Below w5.heap.size w5 we /\ w5.heap.size <= wd.heap.size /\ Blk we wd.heap.size 99 #[.pointer (some ⟨W.R.b, 0, none⟩), .int .i64 (h : Int), .int .i64 (v : Int), .slice none 0 0] from ⟨bd.out.trans (be.mono bd.out.size), by have := bd.out.size; omega, Be⟩)
        clear be Be hwe
        go_wp2_with fail
        refine hK.out _ _ Se (fun hHeld => ?_)
        clear hK K hHeld
        try simp only [qA, qS, qZ, Act.put, qT, qO, qN]
        refine tkh (i := 9) (v := ?_) rfl ?_ ?_
        rotate_left
        · try simp only [qA, qS, qZ]
          rintro w ⟨hS1, hS2, hS3⟩
          go_simp
          (try with_reducible rfl)
        try simp only [qA, qS, qZ, Act.put, qT, qO, qN]
        refine tkh (i := 10) (v := ?_) rfl ?_ ?_
        rotate_left
        · try simp only [qA, qS, qZ]
          rintro w ⟨hS1, hS2, hS3⟩
          go_simp
          (try with_reducible rfl)
        try simp only [qA, qS, qZ, Act.put, qT, qO, qN]
        refine tkh (i := 11) (v := ?_) rfl ?_ ?_
        rotate_left
        · try simp only [qA, qS, qZ]
          rintro w ⟨hS1, hS2, hS3⟩
          go_simp
          (try with_reducible rfl)
        try simp only [qA, qS, qZ, Act.put, qT, qO, qN]
        refine tkh (i := 12) (v := ?_) rfl ?_ ?_
        rotate_left
        · try simp only [qA, qS, qZ]
          rintro w ⟨hS1, hS2, hS3⟩
          go_simp
          (try with_reducible rfl)
        try simp only [qA, qS, qZ, Act.put, qT, qO, qN]
        refine tkh (i := 13) (v := ?_) rfl ?_ ?_
        rotate_left
        · try simp only [qA, qS, qZ]
          rintro w ⟨hS1, hS2, hS3⟩
          go_simp
          (try with_reducible rfl)
        try simp only [qA, qS, qZ, Act.put, qT, qO, qN]
        refine wpAnyH_done (by kernel_rfl) ?_ _
        refine NoPanic.normal ?_
        go_wp2_with fail
        go_meet
        exact ⟨wd.heap.size, rfl, rfl, fin⟩
      exact AllReadyH.nil
    case rest =>
      obtain ⟨d, rfl, rfl, G2⟩ := hcut
      rename World => w6
      obtain ⟨c6, hg6, BD⟩ := G2.out
      have A6 := A5.out.below c6
      have BL6 := BL.out.below c6 BL.out.lt
      have b6 := b5.out.trans (c6.mono (B' := N) (Nat.le_trans N1 (Nat.le_trans (A5.out.base .own W.b (.inl rfl)) (Nat.le_of_lt A5.out.own.lt))))
      obtain ⟨z2, z5⟩ := A6.cL
      rw [eg.out] at z2
      rw [ed.out] at z5
      unfold ptrO at z2 z5
      have f2 := A6.own.frozen 2
      have f5 := A6.own.frozen 5
      have T1 := A6.shares eg.out ed.out (h : Int) (v : Int)
      have lt4 : ∀ i k, W.foot qc (new0 qc.cf) i k -> k < w4.heap.size := fun i k e => A4.out.lt i k e
      have hN4 : N <= w4.heap.size := by have := A4.out.base .own W.b (.inl rfl); have := A4.out.own.lt; omega
      have T2 := T1.setL eg.out (g := g) BL6 (fun i e => by
        have : W.foot qc (new0 qc.cf) i g := by cases i <;> exact e
        have := lt4 i g this; omega) (Nat.le_trans (by have := A4.out.hN0; exact this) hg5)
      have gb : d ≠ W.b := fun e => by have := A5.out.own.lt; omega
      have BD2 : Blk (w6.setCell ⟨W.b, 2, none⟩ (.pointer (some ⟨g, 0, none⟩))) d 99 (W6.dc { W with hot := (h : Int), warm := (v : Int), gm := some g }) := by
        unfold W6.dc
        rw [ev.out]
        exact BD.far (by exact gb) _
      have lt5 : ∀ i k, ({ W with hot := (h : Int), warm := (v : Int), gm := some g } : W6).foot qc (new0 qc.cf) i k -> k < w5.heap.size := fun i k e => by
        cases i with
        | lru =>
          have : g = k := by injection (show some g = some k from e)
          have := BL.out.lt
          omega
        | set => exact A5.out.lt .set k e
        | ref => exact A5.out.lt .ref k e
        | queue => exact A5.out.lt .queue k e
        | doc => exact A5.out.lt .doc k e
        | own => exact A5.out.lt .own k e
        | act => exact A5.out.lt .act k e
      have T3 := T2.setM (d := d) ed.out BD2 (by rw [show ({ W with hot := (h : Int), warm := (v : Int), gm := some g } : W6).vA = W.vA from rfl, ev.out]; rfl) (fun i e => by have := lt5 i d e; omega) (Nat.le_trans (by have := A5.out.hN0; exact this) hg6)
      have bz : Below N w ((w6.setCell ⟨W.b, 2, none⟩ (.pointer (some ⟨g, 0, none⟩))).setCell ⟨W.b, 5, none⟩ (.pointer (some ⟨d, 0, none⟩))) := (b6.setCell (p := ⟨W.b, 2, none⟩) (by show N <= W.b; have := A4.out.base .own W.b (.inl rfl); omega) _).setCell (p := ⟨W.b, 5, none⟩) (by show N <= W.b; have := A4.out.base .own W.b (.inl rfl); omega) _
      replace T3 := Lib.hid (T3.weak N1)
      replace bz := Lib.hid bz
      clear T1 T2 A6 BL6 BD BD2 c6 b6 lt4 lt5 y0 y1 y3 y4 y6 x0 x1
      go_wp2_with (first | (go_at_call 14; refine (n1 _).mono ?_; rintro e w' ⟨rfl, rfl⟩) | fail)
      go_ret
      exact ⟨bz.out, { W with hot := (h : Int), warm := (v : Int), gm := some g, dm := some d }, g, d, rfl, rfl, rfl, rfl, rfl, T3.out⟩
theorem free_short {s : St} (g : Cls.Good qc.cf s) (ok : qc.cf.Ok) {k : Nat} (hk : k < qc.cf.nc) : (s.free k).length <= 16384 := by
 refine nodup_le _ _ (g.nodup k hk) fun p hp => ?_
 obtain ⟨i, x, h1, -, -, -, h5, -, rfl, -⟩ := g.last ok hk hp
 obtain ⟨-, -, -, h6, -⟩ := place_of ok (i := i) hk h5
 have h9 : (i + 1) * qc.cf.ps <= 4 * 4096 := Nat.mul_le_mul (by have : qc.cf.np = 4 := qc_np; omega) (by decide)
 rw [Nat.succ_mul] at h9
 have := (ok.sz k hk).1
 omega
def oneL (k : Nat) (l : List Nat) : Nat -> Nat -> List Nat := fun a b => if a = 0 /\ b = k then l else []
theorem oneL_at (k : Nat) (l : List Nat) : oneL k l 0 k = l := if_pos ⟨rfl, rfl⟩
theorem oneL_upd (k : Nat) (l l' : List Nat) : updL (oneL k l) 0 k l' = oneL k l' := by
 funext a b
 unfold updL oneL
 split <;> rfl
theorem oneL_nil (k : Nat) : oneL k [] = fun _ _ => [] := by
 funext a b
 unfold oneL
 split <;> rfl
theorem oneL_no {k : Nat} {l : List Nat} {H : Nat} (h : H ∉ l) : stK 0 (oneL k l) H = 0 := by
 have key : ∀ j, H ∉ oneL k l 0 j := by
  intro j hm
  unfold oneL at hm
  split at hm
  ·exact h hm
  ·cases hm
 unfold stK
 rw [if_neg (key 0), if_neg (key 1), if_neg (key 2)]
structure RowI (s : St) (Z : Nat -> Option Zd) (told want : List Nat) : Prop where
 it : ∀ H ∈ told, ∃ i x p, findN qc.cf s H = some (i, x, p) /\ s.cls i = 0
 is : ∀ H ∈ told, (Z H).isSome = true
 sub : ∀ H ∈ want, H ∈ told
 nd : want.Nodup
def Rm (s : St) (i : Nat) : Prop := (i = 0 /\ s = new0 qc.cf) \/ (0 < i /\ (s.free 0).length + i = 64)
theorem Rm.room {s : St} {i : Nat} (ok : qc.cf.Ok) (h : Rm s i) (hi : i < 64) : ∃ s1, roomS qc.cf s 0 = some s1 /\ (s1.free 0).length + i = 64 := by
 rcases h with ⟨rfl, rfl⟩ | ⟨h1, h2⟩
 ·exact ⟨_, room_new ok 0, by decide⟩
 ·refine ⟨s, ?_, h2⟩
  unfold roomS
  split
  ·rename_i e
   rw [e] at h2
   simp at h2
   omega
  ·rfl
theorem Rm.take {s1 : St} {i p : Nat} (h : (s1.free 0).length + i = 64) (hi : i < 64) : Rm (takeS qc.cf s1 0 p) (i + 1) := by
 refine .inr ⟨by omega, ?_⟩
 show (upd s1.free 0 (s1.free 0).dropLast 0).length + (i + 1) = 64
 rw [upd_at, List.length_dropLast]
 omega
theorem RowI.z {s : St} {Z Z' : Nat -> Option Zd} {told want : List Nat} (h : RowI s Z told want) (hz : ∀ H, (Z' H).isSome = (Z H).isSome) : RowI s Z' told want :=
 ⟨h.it, fun H hH => (hz H).trans (h.is H hH), h.sub, h.nd⟩
theorem RowI.make {s s1 : St} {Z : Nat -> Option Zd} {told want : List Nat} (ok : qc.cf.Ok) (g : Cls.Good qc.cf s) (h : RowI s Z told want) (hr : roomS qc.cf s 0 = some s1) {l : List Nat} {p : Nat} (hp : s1.free 0 = l ++ [p]) {H0 : Nat}
  (h0 : H0 = hnd p (s1.gens (p / qc.cf.ps) (p % qc.cf.ps / qc.cf.sz 0))) :
  H0 ∉ told /\ RowI (takeS qc.cf s1 0 p) (upd Z H0 (some ⟨4, 0, 0⟩)) (told ++ [H0]) want := by
 obtain ⟨⟨i, x, f, c⟩, A, -⟩ := took_find ok g (by decide) hr hp h0
 have hn : H0 ∉ told := fun hm => by
  obtain ⟨i, x, p, hf, -⟩ := h.it H0 hm
  exact (A _ _ _ _ hf).2.2.1 rfl
 have it : ∀ H ∈ told ++ [H0], ∃ i x q, findN qc.cf (takeS qc.cf s1 0 p) H = some (i, x, q) /\ (takeS qc.cf s1 0 p).cls i = 0 := by
  intro H hH
  rcases List.mem_append.1 hH with hH | hH
  ·obtain ⟨i, x, q, hf, hc⟩ := h.it H hH
   exact ⟨i, x, q, (A _ _ _ _ hf).1, (A _ _ _ _ hf).2.1.trans hc⟩
  ·rw [List.mem_singleton] at hH
   subst hH
   exact ⟨i, x, p, f, c⟩
 have is : ∀ H ∈ told ++ [H0], (upd Z H0 (some ⟨4, 0, 0⟩) H).isSome = true := by
  intro H hH
  by_cases e : H = H0
  ·subst e; rw [upd_at]; rfl
  ·rw [upd_ne _ _ e]
   rcases List.mem_append.1 hH with hH | hH
   ·exact h.is H hH
   ·exact absurd (List.mem_singleton.1 hH) e
 exact ⟨hn, it, is, fun H hH => List.mem_append.2 (.inl (h.sub H hH)), h.nd⟩
theorem RowI.add {s : St} {Z : Nat -> Option Zd} {told want : List Nat} (h : RowI s Z told want) {H : Nat} (hH : H ∈ told) (hn : H ∉ want) : RowI s Z told (H :: want) /\ RowI s Z told (want ++ [H]) := by
 refine ⟨⟨h.it, h.is, fun x hx => ?_, List.nodup_cons.2 ⟨hn, h.nd⟩⟩, ⟨h.it, h.is, fun x hx => ?_, List.nodup_append.2 ⟨h.nd, by simp, fun a ha b hb e => ?_⟩⟩⟩
 ·rcases List.mem_cons.1 hx with rfl | hx
  ·exact hH
  ·exact h.sub x hx
 ·rcases List.mem_append.1 hx with hx | hx
  ·exact h.sub x hx
  ·rw [List.mem_singleton] at hx; exact hx ▸ hH
 ·rw [List.mem_singleton] at hb
  exact hn (hb ▸ e ▸ ha)
section
variable {s : St} {Z : Nat -> Option Zd} {told want : List Nat} (h : RowI s Z told want) {H : Nat} (hH : H ∈ told) {k : Nat} (hk : k < 3) {l : List Nat}
include h hH
theorem RowI.cl : clsN qc s H = 0 := by
 obtain ⟨i, x, p, hf, hc⟩ := h.it H hH
 unfold clsN
 rw [hf]
 exact hc
theorem RowI.lt (ok : qc.cf.Ok) (g : Cls.Good qc.cf s) : H < 18446744073709551616 := by
 obtain ⟨i, x, p, hf, hc⟩ := h.it H hH
 exact good_lt ok g hf
include hk
theorem RowI.push (hn : H ∉ l) (last : Bool) : pushN qc s Z (oneL k l) H ((k : Int) + 1) last = (0, oneL k (if last then l ++ [H] else H :: l)) := by
 obtain ⟨i, x, p, hf, hc⟩ := h.it H hH
 have ei : isN qc s Z H = true := by unfold isN; rw [hf, h.is H hH]; rfl
 unfold pushN
 rw [if_neg (by omega), if_neg (by rw [ei]; exact Bool.noConfusion), h.cl hH, if_neg (fun e => e (oneL_no hn)), show ((k : Int) + 1).toNat - 1 = k by omega]
 unfold putN
 rw [oneL_at, oneL_upd]
end
end Go.Proofs.YtngehaiigbbknaaGreat.Que
/-
  The queue's iterators: along.
-/
namespace Go.Proofs.YtngehaiigbbknaaGreat.Que
open Go.RowKit Base Arena Cls Itm Go.Shelf
attribute [local go_sem] Oper.semAt_some
abbrev HU := { H : Nat // H < 18446744073709551616 }
def hu (x : HU) : Array Value := #[.int .u64 (x.1 : Int)]
theorem grown_of_below {w w' : World} (h : Below w.heap.size w w') : w.grownBy w' none := ⟨h.os, h.tape, h.output, h.size, fun k hk _ => h.block k hk⟩
end Go.Proofs.YtngehaiigbbknaaGreat.Que
/-
  The queue's iterators: along's closure.
-/
namespace Go.Proofs.YtngehaiigbbknaaGreat.Que
open Go.RowKit Base Arena Cls Itm Go.Shelf
attribute [local go_sem] Oper.semAt_some
end Go.Proofs.YtngehaiigbbknaaGreat.Que
/-
  A range over a function whose iterator holds a range of its own: what a round keeps is told of all blocks but loops' records and rows of uint64. Nothing here names a function of the program.
-/
namespace Go.Proofs.YtngehaiigbbknaaGreat.Que
open Go.RowKit Base Arena Cls Itm Go.Shelf
def prot : Obj -> Bool
 | .loop _ => false
 | .cells _ t _ => decide (t ≠ 50)
 | _ => true
structure KeepP (D : Nat) (A B : World) : Prop where
 size : A.heap.size <= B.heap.size
 same : ∀ (b : Nat) (o : Obj), D <= b -> A.heap[b]? = some o -> prot o = true -> B.heap[b]? = some o
section
variable {P : Program} {n : Nat} {w : World}
end
attribute [local go_sem] Oper.semAt_some
def hv (x : HU) : Value := .int .u64 (x.1 : Int)
end Go.Proofs.YtngehaiigbbknaaGreat.Que
/-
  The program's Lru: the row of a class, ranged over.
-/
namespace Go.Proofs.YtngehaiigbbknaaGreat.Que
open Go.RowKit Base Arena Cls Itm Go.Shelf
attribute [local go_sem] Oper.semAt_some
theorem QI.prev_in {c : Conf} {s : St} {Z : Nat -> Option Zd} {F : QN} {Ls : Nat -> Nat -> List Nat} (q : QI c s Z F Ls) (ok : c.cf.Ok) (g : Cls.Good c.cf s) {x k H : Nat} (hx : x < c.nc) (hk : k < 3) {l1 l2 : List Nat} (hl : Ls x k = l1 ++ H :: l2) :
  prevN c s Ls H = l1.getLast?.getD 0 /\ (decide (prevN c s Ls H ≠ 0)) = decide (0 < l1.length) /\ H < 18446744073709551616 := by
 have hm : H ∈ Ls x k := by rw [hl]; simp
 obtain ⟨i, y, p, hf, hc⟩ := q.it x k H hx hk hm
 have ec : clsN c s H = x := by unfold clsN; rw [hf]; exact hc
 have h0 : stK (clsN c s H) Ls H ≠ 0 := fun e => stK_zero e k hk (by rw [ec]; exact hm)
 obtain ⟨k', i', y', p', hk', e, hf', ec', hx', hm'⟩ := q.of_stK ok g h0
 rw [<- ec', ec] at hm'
 obtain ⟨-, rfl⟩ := q.dj x k' x k H hx hk' hx hk hm' hm
 have hnd := q.nd x k' hx hk
 rw [hl] at hnd
 have n1 : H ∉ l1 := fun e => (List.nodup_append.1 hnd).2.2 H e H (List.mem_cons_self ..) rfl
 have en : prevN c s Ls H = l1.getLast?.getD 0 := by
  unfold prevN
  rw [if_neg h0, e, ec, Nat.add_sub_cancel, hl]
  unfold aheadN
  rw [idx_split n1, List.take_left]
 refine ⟨en, ?_, good_lt ok g hf⟩
 rw [en]
 cases hl1 : l1.getLast? with
 | none =>
  have : l1 = [] := List.getLast?_eq_none_iff.1 hl1
  subst this
  rfl
 | some a =>
  have ha0 : a ∈ l1 := List.mem_of_getLast? hl1
  have ha : a ≠ 0 := q.ne0 hx hk (show a ∈ Ls x k' by rw [hl]; exact List.mem_append_left _ ha0)
  have hp : 0 < l1.length := List.length_pos_of_mem ha0
  show decide (a ≠ 0) = decide (0 < l1.length)
  rw [decide_eq_true ha, decide_eq_true hp]
def revX (Ls : Nat -> Nat -> List Nat) (x k : Int) : List Nat := (lsN qc Ls x k).reverse
def rowX (Ls : Nat -> Nat -> List Nat) (x : Int) : List Nat := revX Ls x 3 ++ revX Ls x 2 ++ revX Ls x 1
structure KF (P : World -> Prop) (gq : Nat) (x k : Int) (R : List Nat) : Prop where
 small : R.length <= 134217729
 tc : ∀ w, P w -> Calls Tryz.prog 20 #[.pointer (some ⟨gq, 0, none⟩), .int .i64 x, .int .i64 k] w fun e w' => e = .returned (.tuple #[.int .u64 (R.head?.getD 0 : Int), .bool (decide (0 < R.length))]) /\ w = w'
 lc : ∀ w, P w -> Calls Tryz.prog 43 #[.pointer (some ⟨gq, 0, none⟩), .int .i64 x, .int .i64 k] w fun e w' => e = .returned (.int .i64 (R.length : Int)) /\ w = w'
 ac : ∀ w, P w -> ∀ (l1 : List Nat) (y : Nat) (l2 : List Nat), R = l1 ++ y :: l2 -> y < 18446744073709551616 /\ Calls Tryz.prog 47 #[.pointer (some ⟨gq, 0, none⟩), .int .u64 (y : Int)] w fun e w' => e = .returned (.tuple #[.int .u64 (l2.head?.getD 0 : Int), .bool (decide (0 < l2.length))]) /\ Below w.heap.size w w'
theorem KF.of {P : World -> Prop} {L : Lay} {s : St} {bs : List UInt8} {Z : Nat -> Option Zd} {gq gl : Nat} {Ls : Nat -> Nat -> List Nat} {w0 : World} (h : QW w0 L qc s bs Z gq gl Ls) (hP : ∀ w, P w -> QW w L qc s bs Z gq gl Ls) (x k : Int) : KF P gq x k (revX Ls x k) := by
 refine ⟨?_, fun w p => ?_, fun w p => ?_, fun w p l1 y l2 hl => ?_⟩
 ·unfold revX
  rw [List.length_reverse]
  unfold lsN
  split
  ·rename_i hv
   obtain ⟨F, S1, q⟩ := h
   rw [<- q.n _ _ (by omega) (by omega)]
   exact q.nB S1.okc S1.zs.good (by omega) (by omega)
  ·simp
 ·have := tailC (hP w p) x k
  unfold revX
  rw [List.head?_reverse, List.length_reverse]
  exact this
 ·have := lenC (hP w p) x k
  unfold revX
  rw [List.length_reverse]
  exact this
 ·have Q := hP w p
  have Q' := Q
  obtain ⟨F, S1, q⟩ := Q'
  unfold revX lsN at hl
  split at hl
  ·rename_i hv
   have hl' : Ls x.toNat (k.toNat - 1) = l2.reverse ++ y :: l1.reverse := by
    have := congrArg List.reverse hl
    rw [List.reverse_reverse] at this
    rw [this]
    simp
   obtain ⟨e1, e2, e3⟩ := q.prev_in S1.okc S1.zs.good (by omega) (by omega) hl'
   have := aheadC Q y e3
   rw [e2, e1, List.getLast?_reverse, List.length_reverse] at this
   exact ⟨e3, this⟩
  ·simp at hl
theorem only_drew {S : Nat -> Prop} {w w' : World} (o : Only S w w') (n : Nat) : Only S w (w'.drewN n) := o.below (below_drewN (Below.refl _ _) n) o.size
theorem kind_at0 (w : World) : Sem.run Tryz.prog (Instr.index 183 (.agg #[.int .i64 3, .int .i64 2, .int .i64 1]) (.int .i64 0)) w = .ok (.int .i64 3) w := by kernel_rfl
theorem kind_at1 (w : World) : Sem.run Tryz.prog (Instr.index 183 (.agg #[.int .i64 3, .int .i64 2, .int .i64 1]) (.int .i64 1)) w = .ok (.int .i64 2) w := by kernel_rfl
theorem kind_at2 (w : World) : Sem.run Tryz.prog (Instr.index 183 (.agg #[.int .i64 3, .int .i64 2, .int .i64 1]) (.int .i64 2)) w = .ok (.int .i64 1) w := by kernel_rfl
set_option maxHeartbeats 3200000 in
theorem row1_in {w : World} {L : Lay} {s : St} {bs : List UInt8} {Z : Nat -> Option Zd} {gq gl : Nat} {Ls : Nat -> Nat -> List Nat} {mk : Nat -> Nat} {g : Nat} {hot warm : Int} (h : LS w L s bs Z gq gl Ls mk g hot warm) (x : Int) (n : Nat) (hn : 2 <= n) (l Bl Bc : Nat)
  (S : Nat -> Prop) (hS : ∀ b, b < w.heap.size -> ¬ S b) (hB : ¬ S Bl /\ ¬ S Bc) (J Jx : List HU -> World -> Prop) (W : World) (hw : Below w.heap.size w W) (hJ : AbidesFrom W.heap.size J)
  (hY : ∀ pre (y : HU) W1, J pre W1 -> pre.length < (rowX Ls x).length -> YieldAt Fence.wide (n - 1) Tryz.prog l #[.int .u64 (y.1 : Int)] W1 fun e W' =>
   (e = .returned (.bool true) /\ J (pre ++ [y]) W' /\ Only S W1 W') \/ (e = .returned (.bool false) /\ Jx (pre ++ [y]) W'))
  (cl : W.cell? ⟨Bl, 0, none⟩ = some (.pointer (some ⟨g, 0, none⟩))) (cc : W.cell? ⟨Bc, 0, none⟩ = some (.int .i64 x)) (h0 : J [] W) :
  CallsIn Fence.wide n Tryz.prog 105 #[.func (.yield l) #[] #[], .pointer (some ⟨Bl, 0, none⟩), .pointer (some ⟨Bc, 0, none⟩)] W fun e W' => (∃ v, e = .returned v) /\
   ((∃ ys : List HU, ys.map (·.1) = rowX Ls x /\ J ys W') \/ (∃ pre : List HU, pre.map (·.1) <+: rowX Ls x /\ Jx pre W')) := by
 have LSw : ∀ wr, Only S W wr -> LS wr L s bs Z gq gl Ls mk g hot warm := fun wr o => h.below (hw.trans (o.toBelow fun k hk => ⟨by have := hw.size; omega, hS k hk⟩))
 have cells : ∀ wr, Only S W wr -> wr.cell? ⟨Bl, 0, none⟩ = some (.pointer (some ⟨g, 0, none⟩)) /\ wr.cell? ⟨Bc, 0, none⟩ = some (.int .i64 x) /\ wr.cell? ⟨g, 1, none⟩ = some (.pointer (some ⟨gq, 0, none⟩)) := fun wr o =>
  ⟨(World.cell?_of_block (a := ⟨Bl, 0, none⟩) (o.block Bl (World.block_lt_of_cell? W _ cl) hB.1)).trans cl, (World.cell?_of_block (a := ⟨Bc, 0, none⟩) (o.block Bc (World.block_lt_of_cell? W _ cc) hB.2)).trans cc, (LSw wr o).cells.2.1⟩
 have K3 := KF.of h.q (fun wr (o : Only S W wr) => (LSw wr o).q) x 3
 have K2 := KF.of h.q (fun wr (o : Only S W wr) => (LSw wr o).q) x 2
 have K1 := KF.of h.q (fun wr (o : Only S W wr) => (LSw wr o).q) x 1
 unfold rowX at hY ⊢
 generalize revX Ls x 3 = R3 at *
 generalize revX Ls x 2 = R2 at *
 generalize revX Ls x 1 = R1 at *
 have sm3 := K3.small
 have sm2 := K2.small
 have sm1 := K1.small
 replace K3 := Lib.hid K3
 replace K2 := Lib.hid K2
 replace K1 := Lib.hid K1
 replace cells := Lib.hid cells
 replace hY := Lib.hid hY
 replace hJ := Lib.hid hJ
 replace h0 := Lib.hid h0
 clear hS hB hw cl cc LSw h
 refine callsIn_of_wp Tryz.func105 rfl trivial ?_ rfl
 simp only [Tryz.ntmps105, List.size_toArray, List.length_cons, List.length_nil, Nat.reduceAdd, Nat.reduceSub, Array.replicate_succ, Array.replicate_zero, List.push_toArray, List.append_toArray, List.nil_append, List.cons_append]
 gi_wp2_with fail
 gi_loopw [10] (fun vi wr => ∃ pre : List HU, Hid (J pre wr) /\ Hid (Only S W wr) /\ ((vi = .int .i64 0 /\ Hid (pre.map (·.1) = [])) \/ (vi = .int .i64 1 /\ Hid (pre.map (·.1) = R3)) \/ (vi = .int .i64 2 /\ Hid (pre.map (·.1) = R3 ++ R2)) \/ (vi = .int .i64 3 /\ Hid (pre.map (·.1) = R3 ++ R2 ++ R1)))) (fun vi _ => 3 - (intOf vi).toNat)
 case atStart => exact ⟨[], h0, Lib.hid (Only.refl _ _), .inl ⟨rfl, Lib.hid rfl⟩⟩
 case round =>
  obtain ⟨pre0, hJ0, ho, ⟨rfl, hp0⟩ | ⟨rfl, hp0⟩ | ⟨rfl, hp0⟩ | ⟨rfl, hp0⟩⟩ := hrel
  ·have ix := kind_at0 wr
   have q9 : IntKind.i64.wrap (0 + 1) = 1 := rfl
   obtain ⟨cl1, cc1, cg1⟩ := cells.out wr ho.out
   have TC := Lib.hid (fun nq => K3.out.tc (wr.drewN nq) (only_drew ho.out nq))
   gi_upto_region 3 with fail
   refine wpIn_region_quiet_lit rfl (by kernel_rfl) (by kernel_rfl) ?_
   iterate 6 (quiet_step_in (fail))
   refine wpQuietIn_step (by intro _ _ _ _; trivial) (fun K hK => ?_)
   go_simp
   apply Exists.intro
   refine ⟨fun _ => ⟨fun _ => by omega, CallsIn.quiet_of_same ((callsIn_wide.2 (TC.out _)).mono fun _ _ ⟨a, b⟩ => ⟨a, b.symm⟩)⟩, hK _ ?_⟩
   clear hK K
   repeat (quiet_step_in (fail))
   refine wpQuietIn_nil ?_
   intro _ hw'
   obtain ⟨nq, hw''⟩ := hw'
   subst hw''
   obtain ⟨w2, hw2⟩ : ∃ w2, w2 = wr.drewN nq := ⟨_, rfl⟩
   rw [<- hw2]
   have o2 : Only S W w2 := by rw [hw2]; exact only_drew ho.out nq
   have J2 : J pre0 w2 := by rw [hw2]; exact hJ.out _ _ _ none hJ0.out (grown_of_below (below_drewN (Below.refl _ _) nq)) (fun r e => by cases e)
   obtain ⟨cl1, cc1, cg1⟩ := cells.out w2 o2
   have LC := Lib.hid (fun nq => K3.out.lc (w2.drewN nq) (only_drew o2 nq))
   replace o2 := Lib.hid o2
   replace J2 := Lib.hid J2
   replace hw2 := Lib.hid hw2
   clear TC hJ0 ho
   gi_upto_region 4 with fail
   refine wpIn_region_quiet_lit rfl (by kernel_rfl) (by kernel_rfl) ?_
   iterate 6 (quiet_step_in (fail))
   refine wpQuietIn_step (by intro _ _ _ _; trivial) (fun K hK => ?_)
   go_simp
   apply Exists.intro
   refine ⟨fun _ => ⟨fun _ => by omega, CallsIn.quiet_of_same ((callsIn_wide.2 (LC.out _)).mono fun _ _ ⟨a, b⟩ => ⟨a, b.symm⟩)⟩, hK _ ?_⟩
   clear hK K
   repeat (quiet_step_in (fail))
   refine wpQuietIn_nil ?_
   intro _ hw'
   obtain ⟨nq2, hw''⟩ := hw'
   subst hw''
   obtain ⟨w3, hw3⟩ : ∃ w3, w3 = w2.drewN nq2 := ⟨_, rfl⟩
   rw [<- hw3]
   have o3 := Lib.hid (show Only S W w3 by rw [hw3]; exact only_drew o2.out nq2)
   have J3 := Lib.hid (show J pre0 w3 by rw [hw3]; exact hJ.out _ _ _ none J2.out (grown_of_below (below_drewN (Below.refl _ _) nq2)) (fun r e => by cases e))
   replace hw3 := Lib.hid hw3
   clear LC J2 o2
   gi_wp2_with fail
   gi_loopw [6, 7, 8] (fun th tk tn wr => ∃ (pre : List HU) (done rest : List Nat), th = .int .u64 (rest.head?.getD 0 : Int) /\ tk = .bool (decide (0 < rest.length)) /\ tn = .int .i64 (rest.length : Int) /\ Hid (R3 = done ++ rest) /\ Hid (pre.map (·.1) = [] ++ done) /\ Hid (J pre wr) /\ Hid (Only S W wr)) (fun _ _ tn _ => (intOf tn).toNat)
   case atStart => exact ⟨pre0, [], R3, rfl, rfl, rfl, Lib.hid rfl, Lib.hid (by rw [hp0.out]; simp), J3, o3⟩
   case round =>
    obtain ⟨pre, done, rest, rfl, rfl, rfl, hx, hp, hJs, ho⟩ := hrel
    obtain ⟨cl1, cc1, cg1⟩ := cells.out wr ho.out
    cases rest with
    | nil =>
     have e1 : (([] : List Nat).head?.getD 0) = 0 := rfl
     have e2 : decide (0 < ([] : List Nat).length) = false := rfl
     have hpe := Lib.hid (show pre.map (·.1) = R3 by rw [hp.out, hx.out]; simp)
     rw [e1, e2]
     gi_wp2
     go_roundw
     case rel => exact ⟨pre, hJs, ho, .inr (.inl ⟨rfl, hpe⟩)⟩
     case measure => simp [intOf]
    | cons y rest =>
     obtain ⟨hy64, -⟩ := K3.out.ac wr ho.out _ _ _ hx.out
     have hfull : R3 ++ R2 ++ R1 = pre.map (·.1) ++ y :: (rest ++ (R2 ++ R1)) := by rw [hp.out, hx.out]; simp
     obtain ⟨fn, tmps, assign, body, hy, hR⟩ := hY.out pre ⟨y, hy64⟩ wr hJs.out (by rw [hfull, List.length_append, List.length_map, List.length_cons]; omega)
     dsimp only at hy
     have e1 : ((y :: rest).head?.getD 0) = y := rfl
     have e2 : decide (0 < (y :: rest).length) = true := by simp
     obtain ⟨m, hm⟩ : ∃ m, m = (y :: rest).length := ⟨_, rfl⟩
     have hm1 : m = rest.length + 1 := by rw [hm]; rfl
     rw [e1, e2, <- hm]
     have d1 : decide ((0 : Int) < (m : Int)) = true := decide_eq_true (by omega)
     have d2 : (0 : Int) < (m : Int) := by omega
     have q1 : IntKind.i64.wrap ((m : Int) - 1) = (rest.length : Int) := by
      have hl : R3.length = done.length + m := by rw [hx.out, List.length_append, <- hm]
      rw [IntWalk.i64_in _ (by omega)]; omega
     replace hm := Lib.hid hm
     replace hm1 := Lib.hid hm1
     replace hfull := Lib.hid hfull
     clear e1 e2
     gi_wp2
     refine ⟨fun _ => by omega, ?_⟩
     refine hR.mono ?_
     rintro e W3 (⟨rfl, hJ3, hk3⟩ | ⟨rfl, hJx3⟩)
     ·have o5 := ho.out.trans hk3 fun _ _ h => h
      obtain ⟨cl3, cc3, cg3⟩ := cells.out W3 o5
      have BB := Lib.hid (K3.out.ac W3 o5 _ _ _ hx.out).2
      replace hJ3 := Lib.hid hJ3
      replace o5 := Lib.hid o5
      clear hk3 hJs ho
      gi_wp2_with (first | (refine ⟨trivial, fun _ => by omega, ?_⟩; gi_at_call 47; refine (callsIn_wide.2 BB.out).mono ?_; rintro e w4 ⟨rfl, b4⟩) | (refine ⟨trivial, ?_⟩; gi_at_call 47; refine (callsIn_wide.2 BB.out).mono ?_; rintro e w4 ⟨rfl, b4⟩) | fail)
      go_roundw
      case rel => exact ⟨pre ++ [⟨y, hy64⟩], done ++ [y], rest, rfl, rfl, rfl, Lib.hid (by rw [hx.out]; simp), Lib.hid (by rw [List.map_append, hp.out]; simp), Lib.hid (hJ.out _ _ _ none hJ3.out (grown_of_below b4) (fun r e => by cases e)), Lib.hid (o5.out.below b4 o5.out.size)⟩
      case measure => simp [intOf]; have := hm1.out; omega
     ·gi_wp2
      refine bodyPost_ret (results_none rfl _ _ _) rfl ?_
      exact ⟨⟨_, rfl⟩, .inr ⟨pre ++ [⟨y, hy64⟩], ⟨rest ++ (R2 ++ R1), by rw [hfull.out, List.map_append]; simp⟩, hJx3⟩⟩
  ·have ix := kind_at1 wr
   have q9 : IntKind.i64.wrap (1 + 1) = 2 := rfl
   obtain ⟨cl1, cc1, cg1⟩ := cells.out wr ho.out
   have TC := Lib.hid (fun nq => K2.out.tc (wr.drewN nq) (only_drew ho.out nq))
   gi_upto_region 3 with fail
   refine wpIn_region_quiet_lit rfl (by kernel_rfl) (by kernel_rfl) ?_
   iterate 6 (quiet_step_in (fail))
   refine wpQuietIn_step (by intro _ _ _ _; trivial) (fun K hK => ?_)
   go_simp
   apply Exists.intro
   refine ⟨fun _ => ⟨fun _ => by omega, CallsIn.quiet_of_same ((callsIn_wide.2 (TC.out _)).mono fun _ _ ⟨a, b⟩ => ⟨a, b.symm⟩)⟩, hK _ ?_⟩
   clear hK K
   repeat (quiet_step_in (fail))
   refine wpQuietIn_nil ?_
   intro _ hw'
   obtain ⟨nq, hw''⟩ := hw'
   subst hw''
   obtain ⟨w2, hw2⟩ : ∃ w2, w2 = wr.drewN nq := ⟨_, rfl⟩
   rw [<- hw2]
   have o2 : Only S W w2 := by rw [hw2]; exact only_drew ho.out nq
   have J2 : J pre0 w2 := by rw [hw2]; exact hJ.out _ _ _ none hJ0.out (grown_of_below (below_drewN (Below.refl _ _) nq)) (fun r e => by cases e)
   obtain ⟨cl1, cc1, cg1⟩ := cells.out w2 o2
   have LC := Lib.hid (fun nq => K2.out.lc (w2.drewN nq) (only_drew o2 nq))
   replace o2 := Lib.hid o2
   replace J2 := Lib.hid J2
   replace hw2 := Lib.hid hw2
   clear TC hJ0 ho
   gi_upto_region 4 with fail
   refine wpIn_region_quiet_lit rfl (by kernel_rfl) (by kernel_rfl) ?_
   iterate 6 (quiet_step_in (fail))
   refine wpQuietIn_step (by intro _ _ _ _; trivial) (fun K hK => ?_)
   go_simp
   apply Exists.intro
   refine ⟨fun _ => ⟨fun _ => by omega, CallsIn.quiet_of_same ((callsIn_wide.2 (LC.out _)).mono fun _ _ ⟨a, b⟩ => ⟨a, b.symm⟩)⟩, hK _ ?_⟩
   clear hK K
   repeat (quiet_step_in (fail))
   refine wpQuietIn_nil ?_
   intro _ hw'
   obtain ⟨nq2, hw''⟩ := hw'
   subst hw''
   obtain ⟨w3, hw3⟩ : ∃ w3, w3 = w2.drewN nq2 := ⟨_, rfl⟩
   rw [<- hw3]
   have o3 := Lib.hid (show Only S W w3 by rw [hw3]; exact only_drew o2.out nq2)
   have J3 := Lib.hid (show J pre0 w3 by rw [hw3]; exact hJ.out _ _ _ none J2.out (grown_of_below (below_drewN (Below.refl _ _) nq2)) (fun r e => by cases e))
   replace hw3 := Lib.hid hw3
   clear LC J2 o2
   gi_wp2_with fail
   gi_loopw [6, 7, 8] (fun th tk tn wr => ∃ (pre : List HU) (done rest : List Nat), th = .int .u64 (rest.head?.getD 0 : Int) /\ tk = .bool (decide (0 < rest.length)) /\ tn = .int .i64 (rest.length : Int) /\ Hid (R2 = done ++ rest) /\ Hid (pre.map (·.1) = R3 ++ done) /\ Hid (J pre wr) /\ Hid (Only S W wr)) (fun _ _ tn _ => (intOf tn).toNat)
   case atStart => exact ⟨pre0, [], R2, rfl, rfl, rfl, Lib.hid rfl, Lib.hid (by rw [hp0.out]; simp), J3, o3⟩
   case round =>
    obtain ⟨pre, done, rest, rfl, rfl, rfl, hx, hp, hJs, ho⟩ := hrel
    obtain ⟨cl1, cc1, cg1⟩ := cells.out wr ho.out
    cases rest with
    | nil =>
     have e1 : (([] : List Nat).head?.getD 0) = 0 := rfl
     have e2 : decide (0 < ([] : List Nat).length) = false := rfl
     have hpe := Lib.hid (show pre.map (·.1) = R3 ++ R2 by rw [hp.out, hx.out]; simp)
     rw [e1, e2]
     gi_wp2
     go_roundw
     case rel => exact ⟨pre, hJs, ho, .inr (.inr (.inl ⟨rfl, hpe⟩))⟩
     case measure => simp [intOf]
    | cons y rest =>
     obtain ⟨hy64, -⟩ := K2.out.ac wr ho.out _ _ _ hx.out
     have hfull : R3 ++ R2 ++ R1 = pre.map (·.1) ++ y :: (rest ++ (R1)) := by rw [hp.out, hx.out]; simp
     obtain ⟨fn, tmps, assign, body, hy, hR⟩ := hY.out pre ⟨y, hy64⟩ wr hJs.out (by rw [hfull, List.length_append, List.length_map, List.length_cons]; omega)
     dsimp only at hy
     have e1 : ((y :: rest).head?.getD 0) = y := rfl
     have e2 : decide (0 < (y :: rest).length) = true := by simp
     obtain ⟨m, hm⟩ : ∃ m, m = (y :: rest).length := ⟨_, rfl⟩
     have hm1 : m = rest.length + 1 := by rw [hm]; rfl
     rw [e1, e2, <- hm]
     have d1 : decide ((0 : Int) < (m : Int)) = true := decide_eq_true (by omega)
     have d2 : (0 : Int) < (m : Int) := by omega
     have q1 : IntKind.i64.wrap ((m : Int) - 1) = (rest.length : Int) := by
      have hl : R2.length = done.length + m := by rw [hx.out, List.length_append, <- hm]
      rw [IntWalk.i64_in _ (by omega)]; omega
     replace hm := Lib.hid hm
     replace hm1 := Lib.hid hm1
     replace hfull := Lib.hid hfull
     clear e1 e2
     gi_wp2
     refine ⟨fun _ => by omega, ?_⟩
     refine hR.mono ?_
     rintro e W3 (⟨rfl, hJ3, hk3⟩ | ⟨rfl, hJx3⟩)
     ·have o5 := ho.out.trans hk3 fun _ _ h => h
      obtain ⟨cl3, cc3, cg3⟩ := cells.out W3 o5
      have BB := Lib.hid (K2.out.ac W3 o5 _ _ _ hx.out).2
      replace hJ3 := Lib.hid hJ3
      replace o5 := Lib.hid o5
      clear hk3 hJs ho
      gi_wp2_with (first | (refine ⟨trivial, fun _ => by omega, ?_⟩; gi_at_call 47; refine (callsIn_wide.2 BB.out).mono ?_; rintro e w4 ⟨rfl, b4⟩) | (refine ⟨trivial, ?_⟩; gi_at_call 47; refine (callsIn_wide.2 BB.out).mono ?_; rintro e w4 ⟨rfl, b4⟩) | fail)
      go_roundw
      case rel => exact ⟨pre ++ [⟨y, hy64⟩], done ++ [y], rest, rfl, rfl, rfl, Lib.hid (by rw [hx.out]; simp), Lib.hid (by rw [List.map_append, hp.out]; simp), Lib.hid (hJ.out _ _ _ none hJ3.out (grown_of_below b4) (fun r e => by cases e)), Lib.hid (o5.out.below b4 o5.out.size)⟩
      case measure => simp [intOf]; have := hm1.out; omega
     ·gi_wp2
      refine bodyPost_ret (results_none rfl _ _ _) rfl ?_
      exact ⟨⟨_, rfl⟩, .inr ⟨pre ++ [⟨y, hy64⟩], ⟨rest ++ (R1), by rw [hfull.out, List.map_append]; simp⟩, hJx3⟩⟩
  ·have ix := kind_at2 wr
   have q9 : IntKind.i64.wrap (2 + 1) = 3 := rfl
   obtain ⟨cl1, cc1, cg1⟩ := cells.out wr ho.out
   have TC := Lib.hid (fun nq => K1.out.tc (wr.drewN nq) (only_drew ho.out nq))
   gi_upto_region 3 with fail
   refine wpIn_region_quiet_lit rfl (by kernel_rfl) (by kernel_rfl) ?_
   iterate 6 (quiet_step_in (fail))
   refine wpQuietIn_step (by intro _ _ _ _; trivial) (fun K hK => ?_)
   go_simp
   apply Exists.intro
   refine ⟨fun _ => ⟨fun _ => by omega, CallsIn.quiet_of_same ((callsIn_wide.2 (TC.out _)).mono fun _ _ ⟨a, b⟩ => ⟨a, b.symm⟩)⟩, hK _ ?_⟩
   clear hK K
   repeat (quiet_step_in (fail))
   refine wpQuietIn_nil ?_
   intro _ hw'
   obtain ⟨nq, hw''⟩ := hw'
   subst hw''
   obtain ⟨w2, hw2⟩ : ∃ w2, w2 = wr.drewN nq := ⟨_, rfl⟩
   rw [<- hw2]
   have o2 : Only S W w2 := by rw [hw2]; exact only_drew ho.out nq
   have J2 : J pre0 w2 := by rw [hw2]; exact hJ.out _ _ _ none hJ0.out (grown_of_below (below_drewN (Below.refl _ _) nq)) (fun r e => by cases e)
   obtain ⟨cl1, cc1, cg1⟩ := cells.out w2 o2
   have LC := Lib.hid (fun nq => K1.out.lc (w2.drewN nq) (only_drew o2 nq))
   replace o2 := Lib.hid o2
   replace J2 := Lib.hid J2
   replace hw2 := Lib.hid hw2
   clear TC hJ0 ho
   gi_upto_region 4 with fail
   refine wpIn_region_quiet_lit rfl (by kernel_rfl) (by kernel_rfl) ?_
   iterate 6 (quiet_step_in (fail))
   refine wpQuietIn_step (by intro _ _ _ _; trivial) (fun K hK => ?_)
   go_simp
   apply Exists.intro
   refine ⟨fun _ => ⟨fun _ => by omega, CallsIn.quiet_of_same ((callsIn_wide.2 (LC.out _)).mono fun _ _ ⟨a, b⟩ => ⟨a, b.symm⟩)⟩, hK _ ?_⟩
   clear hK K
   repeat (quiet_step_in (fail))
   refine wpQuietIn_nil ?_
   intro _ hw'
   obtain ⟨nq2, hw''⟩ := hw'
   subst hw''
   obtain ⟨w3, hw3⟩ : ∃ w3, w3 = w2.drewN nq2 := ⟨_, rfl⟩
   rw [<- hw3]
   have o3 := Lib.hid (show Only S W w3 by rw [hw3]; exact only_drew o2.out nq2)
   have J3 := Lib.hid (show J pre0 w3 by rw [hw3]; exact hJ.out _ _ _ none J2.out (grown_of_below (below_drewN (Below.refl _ _) nq2)) (fun r e => by cases e))
   replace hw3 := Lib.hid hw3
   clear LC J2 o2
   gi_wp2_with fail
   gi_loopw [6, 7, 8] (fun th tk tn wr => ∃ (pre : List HU) (done rest : List Nat), th = .int .u64 (rest.head?.getD 0 : Int) /\ tk = .bool (decide (0 < rest.length)) /\ tn = .int .i64 (rest.length : Int) /\ Hid (R1 = done ++ rest) /\ Hid (pre.map (·.1) = (R3 ++ R2) ++ done) /\ Hid (J pre wr) /\ Hid (Only S W wr)) (fun _ _ tn _ => (intOf tn).toNat)
   case atStart => exact ⟨pre0, [], R1, rfl, rfl, rfl, Lib.hid rfl, Lib.hid (by rw [hp0.out]; simp), J3, o3⟩
   case round =>
    obtain ⟨pre, done, rest, rfl, rfl, rfl, hx, hp, hJs, ho⟩ := hrel
    obtain ⟨cl1, cc1, cg1⟩ := cells.out wr ho.out
    cases rest with
    | nil =>
     have e1 : (([] : List Nat).head?.getD 0) = 0 := rfl
     have e2 : decide (0 < ([] : List Nat).length) = false := rfl
     have hpe := Lib.hid (show pre.map (·.1) = R3 ++ R2 ++ R1 by rw [hp.out, hx.out]; simp)
     rw [e1, e2]
     gi_wp2
     go_roundw
     case rel => exact ⟨pre, hJs, ho, .inr (.inr (.inr ⟨rfl, hpe⟩))⟩
     case measure => simp [intOf]
    | cons y rest =>
     obtain ⟨hy64, -⟩ := K1.out.ac wr ho.out _ _ _ hx.out
     have hfull : R3 ++ R2 ++ R1 = pre.map (·.1) ++ y :: (rest ++ ([])) := by rw [hp.out, hx.out]; simp
     obtain ⟨fn, tmps, assign, body, hy, hR⟩ := hY.out pre ⟨y, hy64⟩ wr hJs.out (by rw [hfull, List.length_append, List.length_map, List.length_cons]; omega)
     dsimp only at hy
     have e1 : ((y :: rest).head?.getD 0) = y := rfl
     have e2 : decide (0 < (y :: rest).length) = true := by simp
     obtain ⟨m, hm⟩ : ∃ m, m = (y :: rest).length := ⟨_, rfl⟩
     have hm1 : m = rest.length + 1 := by rw [hm]; rfl
     rw [e1, e2, <- hm]
     have d1 : decide ((0 : Int) < (m : Int)) = true := decide_eq_true (by omega)
     have d2 : (0 : Int) < (m : Int) := by omega
     have q1 : IntKind.i64.wrap ((m : Int) - 1) = (rest.length : Int) := by
      have hl : R1.length = done.length + m := by rw [hx.out, List.length_append, <- hm]
      rw [IntWalk.i64_in _ (by omega)]; omega
     replace hm := Lib.hid hm
     replace hm1 := Lib.hid hm1
     replace hfull := Lib.hid hfull
     clear e1 e2
     gi_wp2
     refine ⟨fun _ => by omega, ?_⟩
     refine hR.mono ?_
     rintro e W3 (⟨rfl, hJ3, hk3⟩ | ⟨rfl, hJx3⟩)
     ·have o5 := ho.out.trans hk3 fun _ _ h => h
      obtain ⟨cl3, cc3, cg3⟩ := cells.out W3 o5
      have BB := Lib.hid (K1.out.ac W3 o5 _ _ _ hx.out).2
      replace hJ3 := Lib.hid hJ3
      replace o5 := Lib.hid o5
      clear hk3 hJs ho
      gi_wp2_with (first | (refine ⟨trivial, fun _ => by omega, ?_⟩; gi_at_call 47; refine (callsIn_wide.2 BB.out).mono ?_; rintro e w4 ⟨rfl, b4⟩) | (refine ⟨trivial, ?_⟩; gi_at_call 47; refine (callsIn_wide.2 BB.out).mono ?_; rintro e w4 ⟨rfl, b4⟩) | fail)
      go_roundw
      case rel => exact ⟨pre ++ [⟨y, hy64⟩], done ++ [y], rest, rfl, rfl, rfl, Lib.hid (by rw [hx.out]; simp), Lib.hid (by rw [List.map_append, hp.out]; simp), Lib.hid (hJ.out _ _ _ none hJ3.out (grown_of_below b4) (fun r e => by cases e)), Lib.hid (o5.out.below b4 o5.out.size)⟩
      case measure => simp [intOf]; have := hm1.out; omega
     ·gi_wp2
      refine bodyPost_ret (results_none rfl _ _ _) rfl ?_
      exact ⟨⟨_, rfl⟩, .inr ⟨pre ++ [⟨y, hy64⟩], ⟨rest ++ ([]), by rw [hfull.out, List.map_append]; simp⟩, hJx3⟩⟩
  ·gi_wp2
   go_end0
   exact ⟨⟨_, rfl⟩, .inl ⟨pre0, hp0.out, hJ0.out⟩⟩
end Go.Proofs.YtngehaiigbbknaaGreat.Que
/-
  What ranges over All need, that names no statement.
-/
namespace Go.Proofs.YtngehaiigbbknaaGreat.Que
open Go.RowKit Base Arena Cls Itm Go.Shelf
attribute [local go_sem] Oper.semAt_some
theorem ownFrom_only {β : Type} {B : Nat} {S : Nat -> Prop} {w : World} (hB : w.heap.size <= B) : OwnFrom B (fun (_ : β) W => Only S w W) := fun _ X Y row hs hg hr => hs.grown hg fun k e hk => by have := (hr k e).1; omega
end Go.Proofs.YtngehaiigbbknaaGreat.Que
/-
  The program's Lru: the row's iterator, for Pick.
-/
namespace Go.Proofs.YtngehaiigbbknaaGreat.Que
open Go.RowKit Base Arena Cls Itm Go.Shelf
attribute [local go_sem] Oper.semAt_some
theorem rowC0 (w : World) (g : Nat) (x : Int) : Calls Tryz.prog 69 #[.pointer (some ⟨g, 0, none⟩), .int .i64 x] w fun e w' =>
  e = .returned (.func (.func 105) #[] #[.pointer (some ⟨w.heap.size, 0, none⟩), .pointer (some ⟨w.heap.size + 1, 0, none⟩)]) /\
  w' = (w.alloc (.cells #[.pointer (some ⟨g, 0, none⟩)] 25)).alloc (.cells #[.int .i64 x] 3) := by
 go_enter Tryz.func69, Tryz.ntmps69
 go_wp2
 go_ret
 exact ⟨rfl, rfl⟩
theorem nil_funcB (w : World) : Sem.run Tryz.prog (binOp BinOp.neq 54 .nilFunc .nilFunc) w = .ok (.bool false) w := by kernel_rfl
theorem results_cells3 {P : Program} {fn : Func} {p q r : Tmp} {t1 t2 t3 : TypeId} (h : fn.results = #[.cell p t1, .cell q t2, .cell r t3]) (tmps : Array Value) (w : World) (g1 g2 g3 : Nat) (v1 v2 v3 : Value) (d1 d2 d3 : TypeDesc)
  (hp : tmps.getD p undef = .pointer (some ⟨g1, 0, none⟩)) (hq : tmps.getD q undef = .pointer (some ⟨g2, 0, none⟩)) (hr : tmps.getD r undef = .pointer (some ⟨g3, 0, none⟩))
  (c1 : w.cell? ⟨g1, 0, none⟩ = some v1) (c2 : w.cell? ⟨g2, 0, none⟩ = some v2) (c3 : w.cell? ⟨g3, 0, none⟩ = some v3)
  (u1 : P.underlying t1 = some d1) (u2 : P.underlying t2 = some d2) (u3 : P.underlying t3 = some d3)
  (n1 : (match d1 with | .struct _ | .array _ _ => true | _ => false) = false) (n2 : (match d2 with | .struct _ | .array _ _ => true | _ => false) = false) (n3 : (match d3 with | .struct _ | .array _ _ => true | _ => false) = false) :
  (results fn tmps).run P w = .ok (.tuple #[v1, v2, v3]) w := by
 have hp' : tmps[p]?.getD undef = .pointer (some ⟨g1, 0, none⟩) := by simpa using hp
 have hq' : tmps[q]?.getD undef = .pointer (some ⟨g2, 0, none⟩) := by simpa using hq
 have hr' : tmps[r]?.getD undef = .pointer (some ⟨g3, 0, none⟩) := by simpa using hr
 have a1 : (isAgg t1).run P w = .ok false w := by
  unfold isAgg
  rw [Sem.run_bind, run_underlying u1 w]
  cases d1 <;> simp_all
 have a2 : (isAgg t2).run P w = .ok false w := by
  unfold isAgg
  rw [Sem.run_bind, run_underlying u2 w]
  cases d2 <;> simp_all
 have a3 : (isAgg t3).run P w = .ok false w := by
  unfold isAgg
  rw [Sem.run_bind, run_underlying u3 w]
  cases d3 <;> simp_all
 simp [results, h, hp', hq', hr', asAddr, loadVar, Sem.run_bind, a1, a2, a3, c1, c2, c3, go_sem]
theorem row_seq {w : World} {L : Lay} {s : St} {bs : List UInt8} {Z : Nat -> Option Zd} {gq gl : Nat} {Ls : Nat -> Nat -> List Nat} {mk : Nat -> Nat} {g : Nat} {hot warm : Int} (h : LS w L s bs Z gq gl Ls mk g hot warm) (x : Int) (n : Nat) (hn : 2 <= n) (Bl Bc : Nat) (S : Nat -> Prop) (w0 : World) (hw : Below w.heap.size w w0) (hS : ∀ b, b < w.heap.size -> ¬ S b) (hB : ¬ S Bl /\ ¬ S Bc)
  (cl : w0.cell? ⟨Bl, 0, none⟩ = some (.pointer (some ⟨g, 0, none⟩))) (cc : w0.cell? ⟨Bc, 0, none⟩ = some (.int .i64 x)) :
  SeqStopsK Fence.wide n Tryz.prog 105 #[.pointer (some ⟨Bl, 0, none⟩), .pointer (some ⟨Bc, 0, none⟩)] (fun y : HU => #[Value.int .u64 (y.1 : Int)]) (Only S)
   (fun ys : List HU => ys.map (·.1) = rowX Ls x) (fun pre : List HU => pre.map (·.1) <+: rowX Ls x) (rowX Ls x).length w0 := fun l' J' Jx' W' hb' hJ' hJx' hY' h0' =>
 row1_in h x n hn l' Bl Bc S hS hB J' Jx' W' (hw.trans (hb'.mono hw.size)) hJ' hY' ((hb'.cell (p := ⟨Bl, 0, none⟩) (World.block_lt_of_cell? w0 _ cl)).trans cl) ((hb'.cell (p := ⟨Bc, 0, none⟩) (World.block_lt_of_cell? w0 _ cc)).trans cc) h0'
section
variable {w : World} {L : Lay} {s : St} {bs : List UInt8} {Z : Nat -> Option Zd} {gq gl : Nat} {Ls : Nat -> Nat -> List Nat} {mk : Nat -> Nat} {g : Nat} {hot warm : Int} (h : LS w L s bs Z gq gl Ls mk g hot warm)
include h
theorem LS.rowB (x : Int) : (rowX Ls x).length <= 402653187 := by
 have h1 := h.lenB x 1
 have h2 := h.lenB x 2
 have h3 := h.lenB x 3
 unfold rowX revX
 rw [List.length_append, List.length_append, List.length_reverse, List.length_reverse, List.length_reverse]
 unfold lenX at h1 h2 h3
 omega
end
end Go.Proofs.YtngehaiigbbknaaGreat.Que
/-
  Pick in plain numbers: who is looked at, and who is named.
-/
namespace Go.Proofs.YtngehaiigbbknaaGreat.Que
open Go.RowKit Base Arena Cls Itm
def seenN (D : Nat -> Bool) : Nat -> List Nat -> List Nat
 | 0, _ => []
 | _ + 1, [] => []
 | k + 1, y :: l => y :: (if D y = true then [] else seenN D k l)
def othN (own : Nat) (l : List Nat) : List Nat := l.filter (fun y => !decide (y = own))
def deadN (D : Nat -> Bool) (l : List Nat) : Bool := match l.getLast? with | some y => D y | none => false
def calmN (A : Nat -> Bool) (l : List Nat) : Nat := (l.find? (fun y => !A y)).getD (l.head?.getD 0)
def namedN (A D : Nat -> Bool) (l : List Nat) : Nat := if deadN D l = true then l.getLast?.getD 0 else calmN A l
theorem othN_app (own : Nat) (l m : List Nat) : othN own (l ++ m) = othN own l ++ othN own m := List.filter_append ..
theorem othN_own (own : Nat) (l : List Nat) (y : Nat) (h : y = own) : othN own (l ++ [y]) = othN own l := by
 rw [othN_app]
 subst h
 unfold othN
 simp
theorem othN_new (own : Nat) (l : List Nat) (y : Nat) (h : ¬ y = own) : othN own (l ++ [y]) = othN own l ++ [y] := by
 rw [othN_app]
 unfold othN
 simp [h]
theorem othN_len (own : Nat) (l : List Nat) : (othN own l).length <= l.length := List.length_filter_le _ _
theorem mem_othN {own : Nat} {l : List Nat} {y : Nat} (h : y ∈ othN own l) : y ∈ l /\ y ≠ own := by
 unfold othN at h
 simpa using h
theorem seenN_app {D : Nat -> Bool} : ∀ {a : List Nat} {k : Nat} (l : List Nat), (∀ y ∈ a, D y = false) -> a.length <= k -> seenN D k (a ++ l) = a ++ seenN D (k - a.length) l
 | [], k, l, _, _ => rfl
 | y :: a, 0, l, _, hk => by simp at hk
 | y :: a, k + 1, l, h, hk => by
  have e1 : D y = false := h y (List.mem_cons_self ..)
  have ih := seenN_app (k := k) l (fun z hz => h z (List.mem_cons_of_mem _ hz)) (by simpa using hk)
  show y :: (if D y = true then [] else seenN D k (a ++ l)) = _
  rw [e1, if_neg (by decide), ih, List.length_cons, Nat.add_sub_add_right]
  rfl
structure GoesP (D : Nat -> Bool) (own k : Nat) (pre : List Nat) : Prop where
 no : ∀ y ∈ othN own pre, D y = false
 lt : (othN own pre).length < k
theorem GoesP.done {D : Nat -> Bool} {own k : Nat} {pre : List Nat} (h : GoesP D own k pre) : seenN D k (othN own pre) = othN own pre := by
 have := seenN_app (k := k) [] h.no (Nat.le_of_lt h.lt)
 rw [List.append_nil] at this
 rw [this]
 cases hk : k - (othN own pre).length <;> simp [seenN]
theorem deadN_no {D : Nat -> Bool} {l : List Nat} (h : ∀ y ∈ l, D y = false) : deadN D l = false := by
 unfold deadN
 cases e : l.getLast? with
 | none => rfl
 | some y => exact h y (List.mem_of_getLast? e)
theorem seenN_full {D : Nat -> Bool} {own k : Nat} {pre l : List Nat} (h : ∀ y ∈ othN own pre, D y = false) (e : (othN own pre).length = k) : seenN D k (othN own (pre ++ l)) = othN own pre := by
 rw [othN_app, seenN_app _ h (Nat.le_of_eq e), e, Nat.sub_self]
 simp [seenN]
theorem seenN_dead {D : Nat -> Bool} {own k : Nat} {pre l : List Nat} {y : Nat} (h : GoesP D own k pre) (hy : ¬ y = own) (hd : D y = true) : seenN D k (othN own (pre ++ [y] ++ l)) = othN own pre ++ [y] := by
 have h1 := h.lt
 rw [othN_app, othN_new own pre y hy, List.append_assoc, seenN_app _ h.no (Nat.le_of_lt h1)]
 obtain ⟨j, hj⟩ : ∃ j, k - (othN own pre).length = j + 1 := ⟨k - (othN own pre).length - 1, by omega⟩
 rw [hj]
 show _ ++ (y :: (if D y = true then [] else seenN D j (othN own l))) = _
 rw [if_pos hd]
theorem namedN_dead {A D : Nat -> Bool} {l : List Nat} {y : Nat} (hd : D y = true) : namedN A D (l ++ [y]) = y /\ deadN D (l ++ [y]) = true := by
 have e : deadN D (l ++ [y]) = true := by unfold deadN; rw [List.getLast?_concat]; exact hd
 refine ⟨?_, e⟩
 unfold namedN
 rw [if_pos e, List.getLast?_concat]
 rfl
theorem namedN_no {A D : Nat -> Bool} {l : List Nat} (h : ∀ y ∈ l, D y = false) : namedN A D l = calmN A l /\ deadN D l = false := by
 have e := deadN_no h
 refine ⟨?_, e⟩
 unfold namedN
 rw [e, if_neg (by decide)]
def fstN (a : List Nat) : Nat := a.head?.getD 0
def cmN (A : Nat -> Bool) (a : List Nat) : Nat := (a.find? (fun y => !A y)).getD 0
theorem calmN_eq {A : Nat -> Bool} {a : List Nat} (h : ∀ z ∈ a, z ≠ 0) : calmN A a = if cmN A a = 0 then fstN a else cmN A a := by
 unfold calmN cmN fstN
 cases e : a.find? (fun y => !A y) with
 | none => simp
 | some b =>
  have hb : b ≠ 0 := h b (List.mem_of_find?_eq_some e)
  simp [hb]
section
variable {w : World} {L : Lay} {s : St} {bs : List UInt8} {Z : Nat -> Option Zd} {gq gl : Nat} {Ls : Nat -> Nat -> List Nat}
theorem row_ne0 (h : QW w L qc s bs Z gq gl Ls) (x : Int) : ∀ y ∈ rowX Ls x, y ≠ 0 := by
 obtain ⟨F, S, q⟩ := h
 have one : ∀ k : Int, ∀ y ∈ revX Ls x k, y ≠ 0 := fun k y hy => by
  unfold revX lsN at hy
  split at hy
  ·rename_i hv
   rw [List.mem_reverse] at hy
   exact q.ne0 (by omega) (by omega) hy
  ·simp at hy
 intro y hy
 unfold rowX at hy
 rw [List.mem_append, List.mem_append] at hy
 rcases hy with (h1 | h1) | h1
 ·exact one _ y h1
 ·exact one _ y h1
 ·exact one _ y h1
end
def IsU (X : World) (b : Nat) : Prop := ∃ cs fr, X.heap[b]? = some (.cells cs 50 fr)
theorem isU_not {X : World} {b : Nat} {cs : Array Value} {t : TypeId} {fr : Nat × Nat} (h : X.heap[b]? = some (.cells cs t fr)) (ht : t ≠ 50) : ¬ IsU X b := by
 rintro ⟨cs', fr', e⟩
 rw [h] at e
 injection e with e
 injection e with e1 e2 e3
 exact ht e2
theorem isU_cells {X : World} {b : Nat} {o : Obj} (h : X.heap[b]? = some o) (ho : o.isCells = false) : ¬ IsU X b := by
 rintro ⟨cs', fr', e⟩
 rw [h] at e
 injection e with e
 subst e
 cases ho
structure DeadFn (lo hi : Nat) (D : Nat -> Bool) (dv : Value) (J : List Nat -> World -> Prop) : Prop where
 le : lo <= hi
 stay : ∀ a X Y, J a X -> X.heap.size <= Y.heap.size -> (∀ b, b < X.heap.size -> (b < hi \/ IsU X b) -> Y.heap[b]? = X.heap[b]?) -> J a Y
 ask : (dv = .nilFunc /\ (∀ y, D y = false) /\ ∀ a y X, J a X -> J (a ++ [y]) X) \/ ∃ fd caps, dv = .func (.func fd) #[] caps /\ (∀ args w, (callFunc fd args).run Tryz.prog w = .ok (.enter fd args) w) /\
  ∀ a (y : Nat) X, y < 18446744073709551616 -> J a X -> hi <= X.heap.size -> a.length <= 402653187 -> Calls Tryz.prog fd (#[.int .u64 (y : Int)] ++ caps) X fun e X' => e = .returned (.bool (D y)) /\ J (a ++ [y]) X' /\ Only (fun b => lo <= b /\ (b < hi \/ IsU X b)) X X'
section
variable {lo hi : Nat} {D : Nat -> Bool} {dv : Value} {J : List Nat -> World -> Prop} (h : DeadFn lo hi D dv J)
include h
theorem DeadFn.below {a : List Nat} {X Y : World} (j : J a X) (b : Below X.heap.size X Y) : J a Y := h.stay a X Y j b.size fun k hk _ => b.block k hk
theorem DeadFn.set_ {a : List Nat} {X : World} (j : J a X) {b : Nat} {cs : Array Value} {t : TypeId} (B : X.heap[b]? = some (.cells cs t (0, 0))) (ht : t ≠ 50) (hb : hi <= b) (v : Value) : J a (X.setCell ⟨b, 0, none⟩ v) :=
 h.stay a X _ j (by simp) fun k hk hc => Below.heap_setCell _ _ _ _ (show k ≠ b from fun e => by
  subst e
  rcases hc with hc | hc
  ·omega
  ·exact isU_not B ht hc)
theorem DeadFn.own {β : Type} (B : Nat) (f : β -> List Nat) (hB : hi <= B) : OwnFrom B (fun (s : β) W => J (f s) W) := fun s X Y row hs hg hr =>
 h.stay _ X Y hs hg.size fun k hk hc => hg.block k hk fun e => by
  obtain ⟨h1, o, h2, h3⟩ := hr k e.symm
  rcases hc with hc | hc
  ·omega
  ·exact isU_cells h2 h3 hc
end
def NoU (M : Nat) (X : World) : Prop := ∀ b, M <= b -> b < M + 11 -> ¬ IsU X b
theorem NoU.of {M : Nat} {S : Nat -> Prop} {X Y : World} (h : NoU M X) (o : Only S X Y) (hs : ∀ b, M <= b -> b < M + 11 -> S b -> b = M + 6 \/ b = M + 7 \/ b = M + 8) (hM : M + 11 <= X.heap.size)
  {v6 v7 v8 : Value} (b6 : Boxed Y (M + 6) 3 v6) (b7 : Boxed Y (M + 7) 51 v7) (b8 : Boxed Y (M + 8) 51 v8) : NoU M Y := by
 intro b h1 h2
 by_cases hS : S b
 ·rcases hs b h1 h2 hS with rfl | rfl | rfl
  ·exact isU_not b6 (by decide)
  ·exact isU_not b7 (by decide)
  ·exact isU_not b8 (by decide)
 ·rintro ⟨cs, fr, e⟩
  exact h b h1 h2 ⟨cs, fr, (o.block b (by omega) hS).symm.trans e⟩
def PkS (lo M : Nat) (b : Nat) : Prop := lo <= b /\ b < M \/ b = M + 6 \/ b = M + 7 \/ b = M + 8 \/ M + 11 <= b
theorem pks_dead {lo M : Nat} {X X' : World} (n : NoU M X) (o : Only (fun b => lo <= b /\ (b < M \/ IsU X b)) X X') : Only (PkS lo M) X X' /\ KeepsFrom (M + 11) X X' := by
 constructor
 ·exact o.mono fun b hb ⟨h1, h2⟩ => by
   by_cases hM : b < M
   ·exact .inl ⟨h1, hM⟩
   ·rcases Nat.lt_or_ge b (M + 11) with h3 | h3
    ·exact absurd (h2.resolve_left hM) (n b (by omega) h3)
    ·exact .inr (.inr (.inr (.inr h3)))
 ·exact ⟨o.size, fun k ob hk ho hc => (o.block k (heap_lt ho) (fun ⟨h1, h2⟩ => by
   rcases h2 with h2 | h2
   ·omega
   ·exact isU_cells ho hc h2)).trans ho⟩
theorem pks_set {lo M : Nat} {X : World} {b : Nat} (hb : b = M + 6 \/ b = M + 7 \/ b = M + 8) (v : Value) : Only (PkS lo M) X (X.setCell ⟨b, 0, none⟩ v) /\ KeepsFrom (M + 11) X (X.setCell ⟨b, 0, none⟩ v) := by
 have o : Only (fun k => k = b) X (X.setCell ⟨b, 0, none⟩ v) := only_cell1 (S := fun k => k = b) X b 0 v rfl
 refine ⟨o.mono fun k _ e => ?_, ⟨o.size, fun k ob hk ho hc => (o.block k (heap_lt ho) (fun e => by omega)).trans ho⟩⟩
 subst e
 unfold PkS
 omega
theorem pks_below {lo M : Nat} {X Y : World} (b : Below X.heap.size X Y) : Only (PkS lo M) X Y /\ KeepsFrom (M + 11) X Y := ⟨below_any b, b.size, fun k ob hk ho hc => (b.block k (heap_lt ho)).trans ho⟩
theorem pks_trans {lo M : Nat} {X Y Z : World} (h : Only (PkS lo M) X Y /\ KeepsFrom (M + 11) X Y) (k : Only (PkS lo M) Y Z /\ KeepsFrom (M + 11) Y Z) : Only (PkS lo M) X Z /\ KeepsFrom (M + 11) X Z := ⟨h.1.trans k.1 fun _ _ e => e, h.2.trans k.2⟩
end Go.Proofs.YtngehaiigbbknaaGreat.Que
