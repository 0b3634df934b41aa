/-
  Contracts and lemmas, joined: QueueMoves, QueueSeq, QueueSeq2, RangeLaw.
-/
import Derived.RangeFuncNested
import Derived.RangeFuncBound
import Derived.RangeFuncCalls
import Derived.RangeFuncLeaves
import Derived.RangeFuncBox
import Derived.Shelf.Abstract
import Derived.WalkKit
import Derived.OwnWalkIn
import Derived.TacticsInMore
import Derived.LoopNIn
import Derived.LoopIn
import Derived.Maps.AppendAt
import Derived.Test.YtfjiphibalhcgaaGreatJ7
import Derived.Test.YtfjiphibalhcgaaGreatJ8
import Derived.Test.YtfjiphibalhcgaaGreatJ13
set_option linter.unusedSimpArgs false
set_option linter.unusedVariables false
/-
  The walk of moves.
-/
namespace Go.Proofs.YtfjiphibalhcgaaGreat.Que
open Go.RowKit Base Arena Cls Itm
set_option linter.unusedVariables false
set_option linter.unusedSectionVars false
set_option linter.unusedSimpArgs false

section
variable {N : Nat} {w : World} {W : W6} {s : St} {bs : List UInt8} {Z : Nat → Option Zd} {Ls : Nat → Nat → List Nat} {r : RS} {laid told : List Nat} {t : Nat} (h : WI N w W s bs Z Ls r laid told t) (ht : t ≤ 60000) (o : Op6) (ok : o.Ok)
include h ht ok
set_option maxRecDepth 100000 in
set_option maxHeartbeats 3200000 in
theorem movesPush (hd : o.dO = 4) : Calls Tryz.prog 48 #[.pointer (some ⟨W.b, 0, none⟩), .agg o.cells] w fun e w' => e = .returned (.bool true) ∧ GoesM N w w' W s bs Z r laid told t := by
  have hH := hdN_lt h.tlt ok
  have hO := otN_lt h.tlt o
  have T1 := took6_begin h.wat o
  obtain ⟨w1, hw1⟩ : ∃ w1, w1 = w.alloc (.cells o.cells 28) := ⟨_, rfl⟩
  rw [← hw1] at T1
  have b1 : Below w.heap.size w w1 := by rw [hw1]; exact (Below.refl _ _).alloc (Nat.le_refl _) _
  have HC := handleC (h.below b1) ht o ok
  have OC := fun w2 (b : Below w1.heap.size w1 w2) => otherC ((h.below b1).below b) ht o ok
  have hd6 := h.d6 ht
  obtain ⟨RR, Lx, hP⟩ : ∃ RR Lx, pushN qc s Z Ls (hdN told o) o.b false = (RR, Lx) := ⟨_, _, rfl⟩
  have PC : ∀ v, QW v W.L qc s bs Z W.gq W.gl Ls → Calls Tryz.prog 22 #[.pointer (some ⟨W.gq, 0, none⟩), .int .u64 (hdN told o : Int), .int .i64 o.b] v fun e v' => e = .returned (.int .i64 (RR : Int)) ∧ Did v v' W.L qc s bs Z W.gq W.gl (RR, Lx) := fun v q => by
    have := (pushC q _ hH o.b).1
    rw [hP] at this
    exact this
  have DC : ∀ v, D6 v W.R W.M qc s Z Ls r laid → Calls Tryz.prog 32 #[.pointer (some ⟨W.R.b, 0, none⟩), .int .u64 (hdN told o : Int), .int .i64 o.b, .bool false] v fun e v' => e = .returned (.int .i64 (RR : Int)) ∧ ∃ R', R'.b = W.R.b ∧ Went6 v v' W.R R' (3 * qc.nc) ∧ R6At v' R' W.M.b (3 * qc.nc) laid (rows6 Lx) := fun v d => by
    have := push6C d (hdN told o) o.b false
    rw [hP] at this
    exact this
  have fin : ∀ v bs' Z' R', R'.b = W.R.b → R'.gL = W.R.gL → Took6 N w.heap.size w v W s { W with R := R' } s bs' Z' Lx Lx r laid told o → Ed (Itp qc s Z) bs bs' → (∀ H, (Z' H).isSome = (Z H).isSome) → GoesM N w v W s bs Z r laid told t :=
    fun v bs' Z' R' eb gb T E dz => ⟨bs', Z', R', Lx, eb, gb, T.grew, E, dz, T.wat, h.rel, fun H i x p hf => by rw [dz H]; exact h.agr H i x p hf, E.1.trans h.bs, h.ch, h.la, h.tl, h.tlt, h.lg, h.ln, h.lt⟩
  have nR := fun w => numC6 w RR
  obtain ⟨x0, -, -, -, -⟩ := T1.cells
  rw [hd] at x0
  generalize hdN told o = H at *
  generalize otN told o = G at *
  replace HC := Lib.hid HC
  replace OC := Lib.hid OC
  replace PC := Lib.hid PC
  replace DC := Lib.hid DC
  replace fin := Lib.hid fin
  replace nR := Lib.hid nR
  replace hd6 := Lib.hid hd6
  replace hP := Lib.hid hP
  replace T1 := Lib.hid T1
  unfold Op6.cells at hw1 HC OC ⊢
  rw [hd] at hw1 HC OC ⊢
  have hdE := Lib.hid hd
  replace hw1 := Lib.hid hw1
  clear h ok ht b1 hH hO hd
  generalize hN : w.heap.size = N0 at *
  replace hN := Lib.hid hN
  go_enter Tryz.func48, Tryz.ntmps48
  go_upto_region 1 with fail
  rw [hN.out, ← hw1.out]
  have B1 := T1.out.op
  unfold Op6.cells at B1
  rw [hdE.out] at B1
  have q0 := B1.cell 0
  have q1 := B1.cell 1
  have q2 := B1.cell 2
  have q3 := B1.cell 3
  have q4 := B1.cell 4
  have q5 := B1.cell 5
  replace B1 := Lib.hid B1
  go_wp2_with fail
  refine HC.out.mono ?_
  rintro e w2 ⟨rfl, b2⟩
  have T2 := T1.out.step b2
  obtain ⟨x0, -, -, -, -⟩ := T2.cells
  rw [hdE.out] at x0
  replace T2 := Lib.hid T2
  clear HC T1 b2 OC q0 q1 q2 q3 q4 q5
  go_upto_region 4 with fail
  obtain ⟨w5, hw5⟩ : ∃ w5, w5 = w2.drew := ⟨_, rfl⟩
  have Tw5 : Took6 N N0 w w5 W s W s bs Z Ls Ls r laid told o := by rw [hw5]; exact T2.out.step (below_drewN (Below.refl _ _) 1)
  have Sw5 := Tw5.mv
  replace Tw5 := Lib.hid Tw5
  clear T2
  refine wp_region_noPanic ?_
  refine wp_region_held_drew (S := fun v => v.cell? ⟨W.b, 1, none⟩ = some (.pointer (some ⟨W.gq, 0, none⟩)) ∧ v.cell? ⟨W.b, 3, none⟩ = some (.pointer (some ⟨W.R.b, 0, none⟩)) ∧ v.cell? ⟨N0, 2, none⟩ = some (.int .i64 o.b)) (by kernel_rfl) (by rw [← hw5]; exact Sw5) (fun hHeld => ?_)
  rw [← hw5] at hHeld ⊢
  clear hw5
  refine wpAnyH_take (i := 0) (oi := _) (v := ?_) rfl (by kernel_rfl) (by kernel_rfl) (by kernel_rfl) (fun _ _ _ h => h) (Or.inl ⟨by rfl, ?_⟩) (by assumption) ?_
  rotate_left
  · try simp only [List.getElem_toArray, List.getElem_cons_succ, List.getElem_cons_zero]
    rintro w ⟨hS1, hS2, hS3⟩
    go_simp
    (try with_reducible rfl)
  try simp only [List.getElem_toArray, List.getElem_cons_succ, List.getElem_cons_zero, Act.put, List.setIfInBounds_toArray, List.set_cons_zero, List.set_cons_succ]
  refine wpAnyH_take (i := 1) (oi := _) (v := ?_) rfl (by kernel_rfl) (by kernel_rfl) (by kernel_rfl) (fun _ _ _ h => h) (Or.inl ⟨by rfl, ?_⟩) (by assumption) ?_
  rotate_left
  · try simp only [List.getElem_toArray, List.getElem_cons_succ, List.getElem_cons_zero]
    rintro w ⟨hS1, hS2, hS3⟩
    go_simp
    (try with_reducible rfl)
  try simp only [List.getElem_toArray, List.getElem_cons_succ, List.getElem_cons_zero, Act.put, List.setIfInBounds_toArray, List.set_cons_zero, List.set_cons_succ]
  refine wpAnyH_take (i := 2) (oi := _) (v := ?_) rfl (by kernel_rfl) (by kernel_rfl) (by kernel_rfl) (fun _ _ _ h => h) (Or.inl ⟨by rfl, ?_⟩) (by assumption) ?_
  rotate_left
  · try simp only [List.getElem_toArray, List.getElem_cons_succ, List.getElem_cons_zero]
    rintro w ⟨hS1, hS2, hS3⟩
    go_simp
    (try with_reducible rfl)
  try simp only [List.getElem_toArray, List.getElem_cons_succ, List.getElem_cons_zero, Act.put, List.setIfInBounds_toArray, List.set_cons_zero, List.set_cons_succ]
  refine wpAnyH_take (i := 3) (oi := _) (v := ?_) rfl (by kernel_rfl) (by kernel_rfl) (by kernel_rfl) (fun _ _ _ h => h) (Or.inl ⟨by rfl, ?_⟩) (by assumption) ?_
  rotate_left
  · try simp only [List.getElem_toArray, List.getElem_cons_succ, List.getElem_cons_zero]
    rintro w ⟨hS1, hS2, hS3⟩
    go_simp
    (try with_reducible rfl)
  try simp only [List.getElem_toArray, List.getElem_cons_succ, List.getElem_cons_zero, Act.put, List.setIfInBounds_toArray, List.set_cons_zero, List.set_cons_succ]
  refine wpAnyH_take (i := 4) (oi := _) (v := ?_) rfl (by kernel_rfl) (by kernel_rfl) (by kernel_rfl) (fun _ _ _ h => h) (Or.inl ⟨by rfl, ?_⟩) (by assumption) ?_
  rotate_left
  · try simp only [List.getElem_toArray, List.getElem_cons_succ, List.getElem_cons_zero]
    rintro w ⟨hS1, hS2, hS3⟩
    go_simp
    (try with_reducible rfl)
  try simp only [List.getElem_toArray, List.getElem_cons_succ, List.getElem_cons_zero, Act.put, List.setIfInBounds_toArray, List.set_cons_zero, List.set_cons_succ]
  refine wpAnyH_take (i := 5) (oi := _) (v := ?_) rfl (by kernel_rfl) (by kernel_rfl) (by kernel_rfl) (fun _ _ _ h => h) (Or.inl ⟨by rfl, ?_⟩) (by assumption) ?_
  rotate_left
  · try simp only [List.getElem_toArray, List.getElem_cons_succ, List.getElem_cons_zero]
    rintro w ⟨hS1, hS2, hS3⟩
    go_simp
    (try with_reducible rfl)
  try simp only [List.getElem_toArray, List.getElem_cons_succ, List.getElem_cons_zero, Act.put, List.setIfInBounds_toArray, List.set_cons_zero, List.set_cons_succ]
  refine wpAnyH_take (i := 6) (oi := _) (v := ?_) rfl (by kernel_rfl) (by kernel_rfl) (by kernel_rfl) (fun _ _ _ h => h) (Or.inl ⟨by rfl, ?_⟩) (by assumption) ?_
  rotate_left
  · try simp only [List.getElem_toArray, List.getElem_cons_succ, List.getElem_cons_zero]
    rintro w ⟨hS1, hS2, hS3⟩
    go_simp
    (try with_reducible rfl)
  try simp only [List.getElem_toArray, List.getElem_cons_succ, List.getElem_cons_zero, Act.put, List.setIfInBounds_toArray, List.set_cons_zero, List.set_cons_succ]
  refine wpAnyH_take (i := 9) (oi := _) (v := ?_) rfl (by kernel_rfl) (by kernel_rfl) (by kernel_rfl) (fun _ _ _ h => h) (Or.inl ⟨by rfl, ?_⟩) (by assumption) ?_
  rotate_left
  · try simp only [List.getElem_toArray, List.getElem_cons_succ, List.getElem_cons_zero]
    rintro w ⟨hS1, hS2, hS3⟩
    go_simp
    (try with_reducible rfl)
  try simp only [List.getElem_toArray, List.getElem_cons_succ, List.getElem_cons_zero, Act.put, List.setIfInBounds_toArray, List.set_cons_zero, List.set_cons_succ]
  refine wpAnyH_take (i := 10) (oi := _) (v := ?_) rfl (by kernel_rfl) (by kernel_rfl) (by kernel_rfl) (fun _ _ _ h => h) (Or.inl ⟨by rfl, ?_⟩) (by assumption) ?_
  rotate_left
  · try simp only [List.getElem_toArray, List.getElem_cons_succ, List.getElem_cons_zero]
    rintro w ⟨hS1, hS2, hS3⟩
    go_simp
    (try with_reducible rfl)
  try simp only [List.getElem_toArray, List.getElem_cons_succ, List.getElem_cons_zero, Act.put, List.setIfInBounds_toArray, List.set_cons_zero, List.set_cons_succ]
  refine wpAnyH_take (i := 11) (oi := _) (v := ?_) rfl (by kernel_rfl) (by kernel_rfl) (by kernel_rfl) (fun _ _ _ h => h) (Or.inl ⟨by rfl, ?_⟩) (by assumption) ?_
  rotate_left
  · try simp only [List.getElem_toArray, List.getElem_cons_succ, List.getElem_cons_zero]
    rintro w ⟨hS1, hS2, hS3⟩
    go_simp
    (try with_reducible rfl)
  try simp only [List.getElem_toArray, List.getElem_cons_succ, List.getElem_cons_zero, Act.put, List.setIfInBounds_toArray, List.set_cons_zero, List.set_cons_succ]
  refine wpAnyH_take (i := 12) (oi := _) (v := ?_) rfl (by kernel_rfl) (by kernel_rfl) (by kernel_rfl) (fun _ _ _ h => h) (Or.inl ⟨by rfl, ?_⟩) (by assumption) ?_
  rotate_left
  · try simp only [List.getElem_toArray, List.getElem_cons_succ, List.getElem_cons_zero]
    rintro w ⟨hS1, hS2, hS3⟩
    go_simp
    (try with_reducible rfl)
  try simp only [List.getElem_toArray, List.getElem_cons_succ, List.getElem_cons_zero, Act.put, List.setIfInBounds_toArray, List.set_cons_zero, List.set_cons_succ]
  refine wpAnyH_take (i := 13) (oi := _) (v := ?_) rfl (by kernel_rfl) (by kernel_rfl) (by kernel_rfl) (fun _ _ _ h => h) (Or.inl ⟨by rfl, ?_⟩) (by assumption) ?_
  rotate_left
  · try simp only [List.getElem_toArray, List.getElem_cons_succ, List.getElem_cons_zero]
    rintro w ⟨hS1, hS2, hS3⟩
    go_simp
    (try with_reducible rfl)
  try simp only [List.getElem_toArray, List.getElem_cons_succ, List.getElem_cons_zero, Act.put, List.setIfInBounds_toArray, List.set_cons_zero, List.set_cons_succ]
  refine wpAnyH_take (i := 14) (oi := _) (v := ?_) rfl (by kernel_rfl) (by kernel_rfl) (by kernel_rfl) (fun _ _ _ h => h) (Or.inl ⟨by rfl, ?_⟩) (by assumption) ?_
  rotate_left
  · try simp only [List.getElem_toArray, List.getElem_cons_succ, List.getElem_cons_zero]
    rintro w ⟨hS1, hS2, hS3⟩
    go_simp
    (try with_reducible rfl)
  try simp only [List.getElem_toArray, List.getElem_cons_succ, List.getElem_cons_zero, Act.put, List.setIfInBounds_toArray, List.set_cons_zero, List.set_cons_succ]
  refine wpAnyH_take (i := 15) (oi := _) (v := ?_) rfl (by kernel_rfl) (by kernel_rfl) (by kernel_rfl) (fun _ _ _ h => h) (Or.inl ⟨by rfl, ?_⟩) (by assumption) ?_
  rotate_left
  · try simp only [List.getElem_toArray, List.getElem_cons_succ, List.getElem_cons_zero]
    rintro w ⟨hS1, hS2, hS3⟩
    go_simp
    (try with_reducible rfl)
  try simp only [List.getElem_toArray, List.getElem_cons_succ, List.getElem_cons_zero, Act.put, List.setIfInBounds_toArray, List.set_cons_zero, List.set_cons_succ]
  clear hHeld
  refine wpAnyH_ready (rs := [7]) (by kernel_rfl) (by simp) ?_
  refine AllReadyH.cons (o := _) rfl (fun K hK => ?_) ?_
  · try simp only [List.getElem_toArray, List.getElem_cons_succ, List.getElem_cons_zero]
    go_simp
    go_at_call 22
    refine (PC.out w5 Tw5.out.wat.q).mono ?_
    rintro e v6 ⟨rfl, oP, bsP, ZP, edP, dzP, -, QP⟩
    have Tv6 := Tw5.out.turn oP QP
    have Sv6 := Tv6.mv
    replace Tv6 := Lib.hid Tv6
    replace edP := Lib.hid edP
    replace dzP := Lib.hid dzP
    clear oP QP
    go_wp2_with fail
    refine hK.out _ _ Sv6 (fun hHeld => ?_)
    clear hK K hHeld
    try simp only [List.getElem_toArray, List.getElem_cons_succ, List.getElem_cons_zero, Act.put, List.setIfInBounds_toArray, List.set_cons_zero, List.set_cons_succ]
    refine wpAnyH_ready (rs := [8]) (by kernel_rfl) (by simp) ?_
    refine AllReadyH.cons (o := _) rfl (fun K hK => ?_) ?_
    · try simp only [List.getElem_toArray, List.getElem_cons_succ, List.getElem_cons_zero]
      go_simp
      go_at_call 14
      refine (nR.out _).mono ?_
      rintro e w' ⟨rfl, rfl⟩
      go_wp2_with fail
      refine hK.out _ _ Sv6 (fun hHeld => ?_)
      clear hK K hHeld
      try simp only [List.getElem_toArray, List.getElem_cons_succ, List.getElem_cons_zero, Act.put, List.setIfInBounds_toArray, List.set_cons_zero, List.set_cons_succ]
      refine wpAnyH_ready (rs := [16]) (by kernel_rfl) (by simp) ?_
      refine AllReadyH.cons (o := _) rfl (fun K hK => ?_) ?_
      · try simp only [List.getElem_toArray, List.getElem_cons_succ, List.getElem_cons_zero]
        go_simp
        go_at_call 32
        refine (DC.out v6 (hd6.out.at_ Tv6.out.wat.doc Tv6.out.wat.ref)).mono ?_
        rintro e v8 ⟨rfl, RD, eb, WeD, DD⟩
        have Tv8 := Tv6.out.docL DD eb WeD
        have gb := Lib.hid WeD.gl
        have Sv8 := Tv8.mv
        simp only at Sv8
        rw [eb] at Sv8
        replace Tv8 := Lib.hid Tv8
        replace eb := Lib.hid eb
        clear WeD DD
        go_wp2_with fail
        refine hK.out _ _ Sv8 (fun hHeld => ?_)
        clear hK K hHeld
        try simp only [List.getElem_toArray, List.getElem_cons_succ, List.getElem_cons_zero, Act.put, List.setIfInBounds_toArray, List.set_cons_zero, List.set_cons_succ]
        refine wpAnyH_take (i := 17) (oi := _) (v := ?_) rfl (by kernel_rfl) (by kernel_rfl) (by kernel_rfl) (fun _ _ _ h => h) (Or.inl ⟨by rfl, ?_⟩) (by assumption) ?_
        rotate_left
        · try simp only [List.getElem_toArray, List.getElem_cons_succ, List.getElem_cons_zero]
          rintro w ⟨hS1, hS2, hS3⟩
          go_simp
          (try with_reducible rfl)
        try simp only [List.getElem_toArray, List.getElem_cons_succ, List.getElem_cons_zero, Act.put, List.setIfInBounds_toArray, List.set_cons_zero, List.set_cons_succ]
        refine wpAnyH_take (i := 18) (oi := _) (v := ?_) rfl (by kernel_rfl) (by kernel_rfl) (by kernel_rfl) (fun _ _ _ h => h) (Or.inl ⟨by rfl, ?_⟩) (by assumption) ?_
        rotate_left
        · try simp only [List.getElem_toArray, List.getElem_cons_succ, List.getElem_cons_zero]
          rintro w ⟨hS1, hS2, hS3⟩
          go_simp
          (try with_reducible rfl)
        try simp only [List.getElem_toArray, List.getElem_cons_succ, List.getElem_cons_zero, Act.put, List.setIfInBounds_toArray, List.set_cons_zero, List.set_cons_succ]
        refine wpAnyH_done (by kernel_rfl) ?_ _
        refine NoPanic.normal ?_
        have FF := Lib.hid (fin.out v8 bsP ZP RD eb.out gb.out Tv8.out edP.out dzP.out)
        go_wp2
        go_ret
        exact ⟨rfl, FF.out⟩
      exact AllReadyH.nil
    exact AllReadyH.nil
  exact AllReadyH.nil
set_option maxRecDepth 100000 in
set_option maxHeartbeats 3200000 in
theorem movesLast (hd : o.dO = 5) : Calls Tryz.prog 48 #[.pointer (some ⟨W.b, 0, none⟩), .agg o.cells] w fun e w' => e = .returned (.bool true) ∧ GoesM N w w' W s bs Z r laid told t := by
  have hH := hdN_lt h.tlt ok
  have hO := otN_lt h.tlt o
  have T1 := took6_begin h.wat o
  obtain ⟨w1, hw1⟩ : ∃ w1, w1 = w.alloc (.cells o.cells 28) := ⟨_, rfl⟩
  rw [← hw1] at T1
  have b1 : Below w.heap.size w w1 := by rw [hw1]; exact (Below.refl _ _).alloc (Nat.le_refl _) _
  have HC := handleC (h.below b1) ht o ok
  have OC := fun w2 (b : Below w1.heap.size w1 w2) => otherC ((h.below b1).below b) ht o ok
  have hd6 := h.d6 ht
  obtain ⟨RR, Lx, hP⟩ : ∃ RR Lx, pushN qc s Z Ls (hdN told o) o.b true = (RR, Lx) := ⟨_, _, rfl⟩
  have PC : ∀ v, QW v W.L qc s bs Z W.gq W.gl Ls → Calls Tryz.prog 23 #[.pointer (some ⟨W.gq, 0, none⟩), .int .u64 (hdN told o : Int), .int .i64 o.b] v fun e v' => e = .returned (.int .i64 (RR : Int)) ∧ Did v v' W.L qc s bs Z W.gq W.gl (RR, Lx) := fun v q => by
    have := (pushC q _ hH o.b).2
    rw [hP] at this
    exact this
  have DC : ∀ v, D6 v W.R W.M qc s Z Ls r laid → Calls Tryz.prog 32 #[.pointer (some ⟨W.R.b, 0, none⟩), .int .u64 (hdN told o : Int), .int .i64 o.b, .bool true] v fun e v' => e = .returned (.int .i64 (RR : Int)) ∧ ∃ R', R'.b = W.R.b ∧ Went6 v v' W.R R' (3 * qc.nc) ∧ R6At v' R' W.M.b (3 * qc.nc) laid (rows6 Lx) := fun v d => by
    have := push6C d (hdN told o) o.b true
    rw [hP] at this
    exact this
  have fin : ∀ v bs' Z' R', R'.b = W.R.b → R'.gL = W.R.gL → Took6 N w.heap.size w v W s { W with R := R' } s bs' Z' Lx Lx r laid told o → Ed (Itp qc s Z) bs bs' → (∀ H, (Z' H).isSome = (Z H).isSome) → GoesM N w v W s bs Z r laid told t :=
    fun v bs' Z' R' eb gb T E dz => ⟨bs', Z', R', Lx, eb, gb, T.grew, E, dz, T.wat, h.rel, fun H i x p hf => by rw [dz H]; exact h.agr H i x p hf, E.1.trans h.bs, h.ch, h.la, h.tl, h.tlt, h.lg, h.ln, h.lt⟩
  have nR := fun w => numC6 w RR
  obtain ⟨x0, -, -, -, -⟩ := T1.cells
  rw [hd] at x0
  generalize hdN told o = H at *
  generalize otN told o = G at *
  replace HC := Lib.hid HC
  replace OC := Lib.hid OC
  replace PC := Lib.hid PC
  replace DC := Lib.hid DC
  replace fin := Lib.hid fin
  replace nR := Lib.hid nR
  replace hd6 := Lib.hid hd6
  replace hP := Lib.hid hP
  replace T1 := Lib.hid T1
  unfold Op6.cells at hw1 HC OC ⊢
  rw [hd] at hw1 HC OC ⊢
  have hdE := Lib.hid hd
  replace hw1 := Lib.hid hw1
  clear h ok ht b1 hH hO hd
  generalize hN : w.heap.size = N0 at *
  replace hN := Lib.hid hN
  go_enter Tryz.func48, Tryz.ntmps48
  go_upto_region 1 with fail
  rw [hN.out, ← hw1.out]
  have B1 := T1.out.op
  unfold Op6.cells at B1
  rw [hdE.out] at B1
  have q0 := B1.cell 0
  have q1 := B1.cell 1
  have q2 := B1.cell 2
  have q3 := B1.cell 3
  have q4 := B1.cell 4
  have q5 := B1.cell 5
  replace B1 := Lib.hid B1
  go_wp2_with fail
  refine HC.out.mono ?_
  rintro e w2 ⟨rfl, b2⟩
  have T2 := T1.out.step b2
  obtain ⟨x0, -, -, -, -⟩ := T2.cells
  rw [hdE.out] at x0
  replace T2 := Lib.hid T2
  clear HC T1 b2 OC q0 q1 q2 q3 q4 q5
  go_upto_region 6 with fail
  obtain ⟨w5, hw5⟩ : ∃ w5, w5 = w2.drew := ⟨_, rfl⟩
  have Tw5 : Took6 N N0 w w5 W s W s bs Z Ls Ls r laid told o := by rw [hw5]; exact T2.out.step (below_drewN (Below.refl _ _) 1)
  have Sw5 := Tw5.mv
  replace Tw5 := Lib.hid Tw5
  clear T2
  refine wp_region_noPanic ?_
  refine wp_region_held_drew (S := fun v => v.cell? ⟨W.b, 1, none⟩ = some (.pointer (some ⟨W.gq, 0, none⟩)) ∧ v.cell? ⟨W.b, 3, none⟩ = some (.pointer (some ⟨W.R.b, 0, none⟩)) ∧ v.cell? ⟨N0, 2, none⟩ = some (.int .i64 o.b)) (by kernel_rfl) (by rw [← hw5]; exact Sw5) (fun hHeld => ?_)
  rw [← hw5] at hHeld ⊢
  clear hw5
  refine wpAnyH_take (i := 0) (oi := _) (v := ?_) rfl (by kernel_rfl) (by kernel_rfl) (by kernel_rfl) (fun _ _ _ h => h) (Or.inl ⟨by rfl, ?_⟩) (by assumption) ?_
  rotate_left
  · try simp only [List.getElem_toArray, List.getElem_cons_succ, List.getElem_cons_zero]
    rintro w ⟨hS1, hS2, hS3⟩
    go_simp
    (try with_reducible rfl)
  try simp only [List.getElem_toArray, List.getElem_cons_succ, List.getElem_cons_zero, Act.put, List.setIfInBounds_toArray, List.set_cons_zero, List.set_cons_succ]
  refine wpAnyH_take (i := 1) (oi := _) (v := ?_) rfl (by kernel_rfl) (by kernel_rfl) (by kernel_rfl) (fun _ _ _ h => h) (Or.inl ⟨by rfl, ?_⟩) (by assumption) ?_
  rotate_left
  · try simp only [List.getElem_toArray, List.getElem_cons_succ, List.getElem_cons_zero]
    rintro w ⟨hS1, hS2, hS3⟩
    go_simp
    (try with_reducible rfl)
  try simp only [List.getElem_toArray, List.getElem_cons_succ, List.getElem_cons_zero, Act.put, List.setIfInBounds_toArray, List.set_cons_zero, List.set_cons_succ]
  refine wpAnyH_take (i := 2) (oi := _) (v := ?_) rfl (by kernel_rfl) (by kernel_rfl) (by kernel_rfl) (fun _ _ _ h => h) (Or.inl ⟨by rfl, ?_⟩) (by assumption) ?_
  rotate_left
  · try simp only [List.getElem_toArray, List.getElem_cons_succ, List.getElem_cons_zero]
    rintro w ⟨hS1, hS2, hS3⟩
    go_simp
    (try with_reducible rfl)
  try simp only [List.getElem_toArray, List.getElem_cons_succ, List.getElem_cons_zero, Act.put, List.setIfInBounds_toArray, List.set_cons_zero, List.set_cons_succ]
  refine wpAnyH_take (i := 3) (oi := _) (v := ?_) rfl (by kernel_rfl) (by kernel_rfl) (by kernel_rfl) (fun _ _ _ h => h) (Or.inl ⟨by rfl, ?_⟩) (by assumption) ?_
  rotate_left
  · try simp only [List.getElem_toArray, List.getElem_cons_succ, List.getElem_cons_zero]
    rintro w ⟨hS1, hS2, hS3⟩
    go_simp
    (try with_reducible rfl)
  try simp only [List.getElem_toArray, List.getElem_cons_succ, List.getElem_cons_zero, Act.put, List.setIfInBounds_toArray, List.set_cons_zero, List.set_cons_succ]
  refine wpAnyH_take (i := 4) (oi := _) (v := ?_) rfl (by kernel_rfl) (by kernel_rfl) (by kernel_rfl) (fun _ _ _ h => h) (Or.inl ⟨by rfl, ?_⟩) (by assumption) ?_
  rotate_left
  · try simp only [List.getElem_toArray, List.getElem_cons_succ, List.getElem_cons_zero]
    rintro w ⟨hS1, hS2, hS3⟩
    go_simp
    (try with_reducible rfl)
  try simp only [List.getElem_toArray, List.getElem_cons_succ, List.getElem_cons_zero, Act.put, List.setIfInBounds_toArray, List.set_cons_zero, List.set_cons_succ]
  refine wpAnyH_take (i := 5) (oi := _) (v := ?_) rfl (by kernel_rfl) (by kernel_rfl) (by kernel_rfl) (fun _ _ _ h => h) (Or.inl ⟨by rfl, ?_⟩) (by assumption) ?_
  rotate_left
  · try simp only [List.getElem_toArray, List.getElem_cons_succ, List.getElem_cons_zero]
    rintro w ⟨hS1, hS2, hS3⟩
    go_simp
    (try with_reducible rfl)
  try simp only [List.getElem_toArray, List.getElem_cons_succ, List.getElem_cons_zero, Act.put, List.setIfInBounds_toArray, List.set_cons_zero, List.set_cons_succ]
  refine wpAnyH_take (i := 6) (oi := _) (v := ?_) rfl (by kernel_rfl) (by kernel_rfl) (by kernel_rfl) (fun _ _ _ h => h) (Or.inl ⟨by rfl, ?_⟩) (by assumption) ?_
  rotate_left
  · try simp only [List.getElem_toArray, List.getElem_cons_succ, List.getElem_cons_zero]
    rintro w ⟨hS1, hS2, hS3⟩
    go_simp
    (try with_reducible rfl)
  try simp only [List.getElem_toArray, List.getElem_cons_succ, List.getElem_cons_zero, Act.put, List.setIfInBounds_toArray, List.set_cons_zero, List.set_cons_succ]
  refine wpAnyH_take (i := 9) (oi := _) (v := ?_) rfl (by kernel_rfl) (by kernel_rfl) (by kernel_rfl) (fun _ _ _ h => h) (Or.inl ⟨by rfl, ?_⟩) (by assumption) ?_
  rotate_left
  · try simp only [List.getElem_toArray, List.getElem_cons_succ, List.getElem_cons_zero]
    rintro w ⟨hS1, hS2, hS3⟩
    go_simp
    (try with_reducible rfl)
  try simp only [List.getElem_toArray, List.getElem_cons_succ, List.getElem_cons_zero, Act.put, List.setIfInBounds_toArray, List.set_cons_zero, List.set_cons_succ]
  refine wpAnyH_take (i := 10) (oi := _) (v := ?_) rfl (by kernel_rfl) (by kernel_rfl) (by kernel_rfl) (fun _ _ _ h => h) (Or.inl ⟨by rfl, ?_⟩) (by assumption) ?_
  rotate_left
  · try simp only [List.getElem_toArray, List.getElem_cons_succ, List.getElem_cons_zero]
    rintro w ⟨hS1, hS2, hS3⟩
    go_simp
    (try with_reducible rfl)
  try simp only [List.getElem_toArray, List.getElem_cons_succ, List.getElem_cons_zero, Act.put, List.setIfInBounds_toArray, List.set_cons_zero, List.set_cons_succ]
  refine wpAnyH_take (i := 11) (oi := _) (v := ?_) rfl (by kernel_rfl) (by kernel_rfl) (by kernel_rfl) (fun _ _ _ h => h) (Or.inl ⟨by rfl, ?_⟩) (by assumption) ?_
  rotate_left
  · try simp only [List.getElem_toArray, List.getElem_cons_succ, List.getElem_cons_zero]
    rintro w ⟨hS1, hS2, hS3⟩
    go_simp
    (try with_reducible rfl)
  try simp only [List.getElem_toArray, List.getElem_cons_succ, List.getElem_cons_zero, Act.put, List.setIfInBounds_toArray, List.set_cons_zero, List.set_cons_succ]
  refine wpAnyH_take (i := 12) (oi := _) (v := ?_) rfl (by kernel_rfl) (by kernel_rfl) (by kernel_rfl) (fun _ _ _ h => h) (Or.inl ⟨by rfl, ?_⟩) (by assumption) ?_
  rotate_left
  · try simp only [List.getElem_toArray, List.getElem_cons_succ, List.getElem_cons_zero]
    rintro w ⟨hS1, hS2, hS3⟩
    go_simp
    (try with_reducible rfl)
  try simp only [List.getElem_toArray, List.getElem_cons_succ, List.getElem_cons_zero, Act.put, List.setIfInBounds_toArray, List.set_cons_zero, List.set_cons_succ]
  refine wpAnyH_take (i := 13) (oi := _) (v := ?_) rfl (by kernel_rfl) (by kernel_rfl) (by kernel_rfl) (fun _ _ _ h => h) (Or.inl ⟨by rfl, ?_⟩) (by assumption) ?_
  rotate_left
  · try simp only [List.getElem_toArray, List.getElem_cons_succ, List.getElem_cons_zero]
    rintro w ⟨hS1, hS2, hS3⟩
    go_simp
    (try with_reducible rfl)
  try simp only [List.getElem_toArray, List.getElem_cons_succ, List.getElem_cons_zero, Act.put, List.setIfInBounds_toArray, List.set_cons_zero, List.set_cons_succ]
  refine wpAnyH_take (i := 14) (oi := _) (v := ?_) rfl (by kernel_rfl) (by kernel_rfl) (by kernel_rfl) (fun _ _ _ h => h) (Or.inl ⟨by rfl, ?_⟩) (by assumption) ?_
  rotate_left
  · try simp only [List.getElem_toArray, List.getElem_cons_succ, List.getElem_cons_zero]
    rintro w ⟨hS1, hS2, hS3⟩
    go_simp
    (try with_reducible rfl)
  try simp only [List.getElem_toArray, List.getElem_cons_succ, List.getElem_cons_zero, Act.put, List.setIfInBounds_toArray, List.set_cons_zero, List.set_cons_succ]
  refine wpAnyH_take (i := 15) (oi := _) (v := ?_) rfl (by kernel_rfl) (by kernel_rfl) (by kernel_rfl) (fun _ _ _ h => h) (Or.inl ⟨by rfl, ?_⟩) (by assumption) ?_
  rotate_left
  · try simp only [List.getElem_toArray, List.getElem_cons_succ, List.getElem_cons_zero]
    rintro w ⟨hS1, hS2, hS3⟩
    go_simp
    (try with_reducible rfl)
  try simp only [List.getElem_toArray, List.getElem_cons_succ, List.getElem_cons_zero, Act.put, List.setIfInBounds_toArray, List.set_cons_zero, List.set_cons_succ]
  clear hHeld
  refine wpAnyH_ready (rs := [7]) (by kernel_rfl) (by simp) ?_
  refine AllReadyH.cons (o := _) rfl (fun K hK => ?_) ?_
  · try simp only [List.getElem_toArray, List.getElem_cons_succ, List.getElem_cons_zero]
    go_simp
    go_at_call 23
    refine (PC.out w5 Tw5.out.wat.q).mono ?_
    rintro e v6 ⟨rfl, oP, bsP, ZP, edP, dzP, -, QP⟩
    have Tv6 := Tw5.out.turn oP QP
    have Sv6 := Tv6.mv
    replace Tv6 := Lib.hid Tv6
    replace edP := Lib.hid edP
    replace dzP := Lib.hid dzP
    clear oP QP
    go_wp2_with fail
    refine hK.out _ _ Sv6 (fun hHeld => ?_)
    clear hK K hHeld
    try simp only [List.getElem_toArray, List.getElem_cons_succ, List.getElem_cons_zero, Act.put, List.setIfInBounds_toArray, List.set_cons_zero, List.set_cons_succ]
    refine wpAnyH_ready (rs := [8]) (by kernel_rfl) (by simp) ?_
    refine AllReadyH.cons (o := _) rfl (fun K hK => ?_) ?_
    · try simp only [List.getElem_toArray, List.getElem_cons_succ, List.getElem_cons_zero]
      go_simp
      go_at_call 14
      refine (nR.out _).mono ?_
      rintro e w' ⟨rfl, rfl⟩
      go_wp2_with fail
      refine hK.out _ _ Sv6 (fun hHeld => ?_)
      clear hK K hHeld
      try simp only [List.getElem_toArray, List.getElem_cons_succ, List.getElem_cons_zero, Act.put, List.setIfInBounds_toArray, List.set_cons_zero, List.set_cons_succ]
      refine wpAnyH_ready (rs := [16]) (by kernel_rfl) (by simp) ?_
      refine AllReadyH.cons (o := _) rfl (fun K hK => ?_) ?_
      · try simp only [List.getElem_toArray, List.getElem_cons_succ, List.getElem_cons_zero]
        go_simp
        go_at_call 32
        refine (DC.out v6 (hd6.out.at_ Tv6.out.wat.doc Tv6.out.wat.ref)).mono ?_
        rintro e v8 ⟨rfl, RD, eb, WeD, DD⟩
        have Tv8 := Tv6.out.docL DD eb WeD
        have gb := Lib.hid WeD.gl
        have Sv8 := Tv8.mv
        simp only at Sv8
        rw [eb] at Sv8
        replace Tv8 := Lib.hid Tv8
        replace eb := Lib.hid eb
        clear WeD DD
        go_wp2_with fail
        refine hK.out _ _ Sv8 (fun hHeld => ?_)
        clear hK K hHeld
        try simp only [List.getElem_toArray, List.getElem_cons_succ, List.getElem_cons_zero, Act.put, List.setIfInBounds_toArray, List.set_cons_zero, List.set_cons_succ]
        refine wpAnyH_take (i := 17) (oi := _) (v := ?_) rfl (by kernel_rfl) (by kernel_rfl) (by kernel_rfl) (fun _ _ _ h => h) (Or.inl ⟨by rfl, ?_⟩) (by assumption) ?_
        rotate_left
        · try simp only [List.getElem_toArray, List.getElem_cons_succ, List.getElem_cons_zero]
          rintro w ⟨hS1, hS2, hS3⟩
          go_simp
          (try with_reducible rfl)
        try simp only [List.getElem_toArray, List.getElem_cons_succ, List.getElem_cons_zero, Act.put, List.setIfInBounds_toArray, List.set_cons_zero, List.set_cons_succ]
        refine wpAnyH_take (i := 18) (oi := _) (v := ?_) rfl (by kernel_rfl) (by kernel_rfl) (by kernel_rfl) (fun _ _ _ h => h) (Or.inl ⟨by rfl, ?_⟩) (by assumption) ?_
        rotate_left
        · try simp only [List.getElem_toArray, List.getElem_cons_succ, List.getElem_cons_zero]
          rintro w ⟨hS1, hS2, hS3⟩
          go_simp
          (try with_reducible rfl)
        try simp only [List.getElem_toArray, List.getElem_cons_succ, List.getElem_cons_zero, Act.put, List.setIfInBounds_toArray, List.set_cons_zero, List.set_cons_succ]
        refine wpAnyH_done (by kernel_rfl) ?_ _
        refine NoPanic.normal ?_
        have FF := Lib.hid (fin.out v8 bsP ZP RD eb.out gb.out Tv8.out edP.out dzP.out)
        go_wp2
        go_ret
        exact ⟨rfl, FF.out⟩
      exact AllReadyH.nil
    exact AllReadyH.nil
  exact AllReadyH.nil
set_option maxRecDepth 100000 in
set_option maxHeartbeats 3200000 in
theorem movesDrop (hd : o.dO = 6) : Calls Tryz.prog 48 #[.pointer (some ⟨W.b, 0, none⟩), .agg o.cells] w fun e w' => e = .returned (.bool true) ∧ GoesM N w w' W s bs Z r laid told t := by
  have hH := hdN_lt h.tlt ok
  have hO := otN_lt h.tlt o
  have T1 := took6_begin h.wat o
  obtain ⟨w1, hw1⟩ : ∃ w1, w1 = w.alloc (.cells o.cells 28) := ⟨_, rfl⟩
  rw [← hw1] at T1
  have b1 : Below w.heap.size w w1 := by rw [hw1]; exact (Below.refl _ _).alloc (Nat.le_refl _) _
  have HC := handleC (h.below b1) ht o ok
  have OC := fun w2 (b : Below w1.heap.size w1 w2) => otherC ((h.below b1).below b) ht o ok
  have hd6 := h.d6 ht
  obtain ⟨RR, Lx, hP⟩ : ∃ RR Lx, dropN qc s Ls (hdN told o) = (RR, Lx) := ⟨_, _, rfl⟩
  have PC : ∀ v, QW v W.L qc s bs Z W.gq W.gl Ls → Calls Tryz.prog 24 #[.pointer (some ⟨W.gq, 0, none⟩), .int .u64 (hdN told o : Int)] v fun e v' => e = .returned (.int .i64 (RR : Int)) ∧ Did v v' W.L qc s bs Z W.gq W.gl (RR, Lx) := fun v q => by
    have := dropC q _ hH
    rw [hP] at this
    exact this
  have DC : ∀ v, D6 v W.R W.M qc s Z Ls r laid → Calls Tryz.prog 33 #[.pointer (some ⟨W.R.b, 0, none⟩), .int .u64 (hdN told o : Int)] v fun e v' => e = .returned (.int .i64 (RR : Int)) ∧ ∃ R', R'.b = W.R.b ∧ Went6 v v' W.R R' (3 * qc.nc) ∧ R6At v' R' W.M.b (3 * qc.nc) laid (rows6 Lx) := fun v d => by
    have := drop6C d (hdN told o)
    rw [hP] at this
    exact this
  have fin : ∀ v bs' Z' R', R'.b = W.R.b → R'.gL = W.R.gL → Took6 N w.heap.size w v W s { W with R := R' } s bs' Z' Lx Lx r laid told o → Ed (Itp qc s Z) bs bs' → (∀ H, (Z' H).isSome = (Z H).isSome) → GoesM N w v W s bs Z r laid told t :=
    fun v bs' Z' R' eb gb T E dz => ⟨bs', Z', R', Lx, eb, gb, T.grew, E, dz, T.wat, h.rel, fun H i x p hf => by rw [dz H]; exact h.agr H i x p hf, E.1.trans h.bs, h.ch, h.la, h.tl, h.tlt, h.lg, h.ln, h.lt⟩
  have nR := fun w => numC6 w RR
  obtain ⟨x0, -, -, -, -⟩ := T1.cells
  rw [hd] at x0
  generalize hdN told o = H at *
  generalize otN told o = G at *
  replace HC := Lib.hid HC
  replace OC := Lib.hid OC
  replace PC := Lib.hid PC
  replace DC := Lib.hid DC
  replace fin := Lib.hid fin
  replace nR := Lib.hid nR
  replace hd6 := Lib.hid hd6
  replace hP := Lib.hid hP
  replace T1 := Lib.hid T1
  unfold Op6.cells at hw1 HC OC ⊢
  rw [hd] at hw1 HC OC ⊢
  have hdE := Lib.hid hd
  replace hw1 := Lib.hid hw1
  clear h ok ht b1 hH hO hd
  generalize hN : w.heap.size = N0 at *
  replace hN := Lib.hid hN
  go_enter Tryz.func48, Tryz.ntmps48
  go_upto_region 1 with fail
  rw [hN.out, ← hw1.out]
  have B1 := T1.out.op
  unfold Op6.cells at B1
  rw [hdE.out] at B1
  have q0 := B1.cell 0
  have q1 := B1.cell 1
  have q2 := B1.cell 2
  have q3 := B1.cell 3
  have q4 := B1.cell 4
  have q5 := B1.cell 5
  replace B1 := Lib.hid B1
  go_wp2_with fail
  refine HC.out.mono ?_
  rintro e w2 ⟨rfl, b2⟩
  have T2 := T1.out.step b2
  obtain ⟨x0, -, -, -, -⟩ := T2.cells
  rw [hdE.out] at x0
  replace T2 := Lib.hid T2
  clear HC T1 b2 OC q0 q1 q2 q3 q4 q5
  go_upto_region 8 with fail
  obtain ⟨w5, hw5⟩ : ∃ w5, w5 = w2.drew := ⟨_, rfl⟩
  have Tw5 : Took6 N N0 w w5 W s W s bs Z Ls Ls r laid told o := by rw [hw5]; exact T2.out.step (below_drewN (Below.refl _ _) 1)
  have Sw5 := Tw5.mv
  replace Tw5 := Lib.hid Tw5
  clear T2
  refine wp_region_noPanic ?_
  refine wp_region_held_drew (S := fun v => v.cell? ⟨W.b, 1, none⟩ = some (.pointer (some ⟨W.gq, 0, none⟩)) ∧ v.cell? ⟨W.b, 3, none⟩ = some (.pointer (some ⟨W.R.b, 0, none⟩)) ∧ v.cell? ⟨N0, 2, none⟩ = some (.int .i64 o.b)) (by kernel_rfl) (by rw [← hw5]; exact Sw5) (fun hHeld => ?_)
  rw [← hw5] at hHeld ⊢
  clear hw5
  refine wpAnyH_take (i := 0) (oi := _) (v := ?_) rfl (by kernel_rfl) (by kernel_rfl) (by kernel_rfl) (fun _ _ _ h => h) (Or.inl ⟨by rfl, ?_⟩) (by assumption) ?_
  rotate_left
  · try simp only [List.getElem_toArray, List.getElem_cons_succ, List.getElem_cons_zero]
    rintro w ⟨hS1, hS2, hS3⟩
    go_simp
    (try with_reducible rfl)
  try simp only [List.getElem_toArray, List.getElem_cons_succ, List.getElem_cons_zero, Act.put, List.setIfInBounds_toArray, List.set_cons_zero, List.set_cons_succ]
  refine wpAnyH_take (i := 1) (oi := _) (v := ?_) rfl (by kernel_rfl) (by kernel_rfl) (by kernel_rfl) (fun _ _ _ h => h) (Or.inl ⟨by rfl, ?_⟩) (by assumption) ?_
  rotate_left
  · try simp only [List.getElem_toArray, List.getElem_cons_succ, List.getElem_cons_zero]
    rintro w ⟨hS1, hS2, hS3⟩
    go_simp
    (try with_reducible rfl)
  try simp only [List.getElem_toArray, List.getElem_cons_succ, List.getElem_cons_zero, Act.put, List.setIfInBounds_toArray, List.set_cons_zero, List.set_cons_succ]
  refine wpAnyH_take (i := 2) (oi := _) (v := ?_) rfl (by kernel_rfl) (by kernel_rfl) (by kernel_rfl) (fun _ _ _ h => h) (Or.inl ⟨by rfl, ?_⟩) (by assumption) ?_
  rotate_left
  · try simp only [List.getElem_toArray, List.getElem_cons_succ, List.getElem_cons_zero]
    rintro w ⟨hS1, hS2, hS3⟩
    go_simp
    (try with_reducible rfl)
  try simp only [List.getElem_toArray, List.getElem_cons_succ, List.getElem_cons_zero, Act.put, List.setIfInBounds_toArray, List.set_cons_zero, List.set_cons_succ]
  refine wpAnyH_take (i := 3) (oi := _) (v := ?_) rfl (by kernel_rfl) (by kernel_rfl) (by kernel_rfl) (fun _ _ _ h => h) (Or.inl ⟨by rfl, ?_⟩) (by assumption) ?_
  rotate_left
  · try simp only [List.getElem_toArray, List.getElem_cons_succ, List.getElem_cons_zero]
    rintro w ⟨hS1, hS2, hS3⟩
    go_simp
    (try with_reducible rfl)
  try simp only [List.getElem_toArray, List.getElem_cons_succ, List.getElem_cons_zero, Act.put, List.setIfInBounds_toArray, List.set_cons_zero, List.set_cons_succ]
  refine wpAnyH_take (i := 4) (oi := _) (v := ?_) rfl (by kernel_rfl) (by kernel_rfl) (by kernel_rfl) (fun _ _ _ h => h) (Or.inl ⟨by rfl, ?_⟩) (by assumption) ?_
  rotate_left
  · try simp only [List.getElem_toArray, List.getElem_cons_succ, List.getElem_cons_zero]
    rintro w ⟨hS1, hS2, hS3⟩
    go_simp
    (try with_reducible rfl)
  try simp only [List.getElem_toArray, List.getElem_cons_succ, List.getElem_cons_zero, Act.put, List.setIfInBounds_toArray, List.set_cons_zero, List.set_cons_succ]
  refine wpAnyH_take (i := 7) (oi := _) (v := ?_) rfl (by kernel_rfl) (by kernel_rfl) (by kernel_rfl) (fun _ _ _ h => h) (Or.inl ⟨by rfl, ?_⟩) (by assumption) ?_
  rotate_left
  · try simp only [List.getElem_toArray, List.getElem_cons_succ, List.getElem_cons_zero]
    rintro w ⟨hS1, hS2, hS3⟩
    go_simp
    (try with_reducible rfl)
  try simp only [List.getElem_toArray, List.getElem_cons_succ, List.getElem_cons_zero, Act.put, List.setIfInBounds_toArray, List.set_cons_zero, List.set_cons_succ]
  refine wpAnyH_take (i := 8) (oi := _) (v := ?_) rfl (by kernel_rfl) (by kernel_rfl) (by kernel_rfl) (fun _ _ _ h => h) (Or.inl ⟨by rfl, ?_⟩) (by assumption) ?_
  rotate_left
  · try simp only [List.getElem_toArray, List.getElem_cons_succ, List.getElem_cons_zero]
    rintro w ⟨hS1, hS2, hS3⟩
    go_simp
    (try with_reducible rfl)
  try simp only [List.getElem_toArray, List.getElem_cons_succ, List.getElem_cons_zero, Act.put, List.setIfInBounds_toArray, List.set_cons_zero, List.set_cons_succ]
  refine wpAnyH_take (i := 9) (oi := _) (v := ?_) rfl (by kernel_rfl) (by kernel_rfl) (by kernel_rfl) (fun _ _ _ h => h) (Or.inl ⟨by rfl, ?_⟩) (by assumption) ?_
  rotate_left
  · try simp only [List.getElem_toArray, List.getElem_cons_succ, List.getElem_cons_zero]
    rintro w ⟨hS1, hS2, hS3⟩
    go_simp
    (try with_reducible rfl)
  try simp only [List.getElem_toArray, List.getElem_cons_succ, List.getElem_cons_zero, Act.put, List.setIfInBounds_toArray, List.set_cons_zero, List.set_cons_succ]
  refine wpAnyH_take (i := 10) (oi := _) (v := ?_) rfl (by kernel_rfl) (by kernel_rfl) (by kernel_rfl) (fun _ _ _ h => h) (Or.inl ⟨by rfl, ?_⟩) (by assumption) ?_
  rotate_left
  · try simp only [List.getElem_toArray, List.getElem_cons_succ, List.getElem_cons_zero]
    rintro w ⟨hS1, hS2, hS3⟩
    go_simp
    (try with_reducible rfl)
  try simp only [List.getElem_toArray, List.getElem_cons_succ, List.getElem_cons_zero, Act.put, List.setIfInBounds_toArray, List.set_cons_zero, List.set_cons_succ]
  refine wpAnyH_take (i := 11) (oi := _) (v := ?_) rfl (by kernel_rfl) (by kernel_rfl) (by kernel_rfl) (fun _ _ _ h => h) (Or.inl ⟨by rfl, ?_⟩) (by assumption) ?_
  rotate_left
  · try simp only [List.getElem_toArray, List.getElem_cons_succ, List.getElem_cons_zero]
    rintro w ⟨hS1, hS2, hS3⟩
    go_simp
    (try with_reducible rfl)
  try simp only [List.getElem_toArray, List.getElem_cons_succ, List.getElem_cons_zero, Act.put, List.setIfInBounds_toArray, List.set_cons_zero, List.set_cons_succ]
  clear hHeld
  refine wpAnyH_ready (rs := [5]) (by kernel_rfl) (by simp) ?_
  refine AllReadyH.cons (o := _) rfl (fun K hK => ?_) ?_
  · try simp only [List.getElem_toArray, List.getElem_cons_succ, List.getElem_cons_zero]
    go_simp
    go_at_call 24
    refine (PC.out w5 Tw5.out.wat.q).mono ?_
    rintro e v6 ⟨rfl, oP, bsP, ZP, edP, dzP, -, QP⟩
    have Tv6 := Tw5.out.turn oP QP
    have Sv6 := Tv6.mv
    replace Tv6 := Lib.hid Tv6
    replace edP := Lib.hid edP
    replace dzP := Lib.hid dzP
    clear oP QP
    go_wp2_with fail
    refine hK.out _ _ Sv6 (fun hHeld => ?_)
    clear hK K hHeld
    try simp only [List.getElem_toArray, List.getElem_cons_succ, List.getElem_cons_zero, Act.put, List.setIfInBounds_toArray, List.set_cons_zero, List.set_cons_succ]
    refine wpAnyH_ready (rs := [6]) (by kernel_rfl) (by simp) ?_
    refine AllReadyH.cons (o := _) rfl (fun K hK => ?_) ?_
    · try simp only [List.getElem_toArray, List.getElem_cons_succ, List.getElem_cons_zero]
      go_simp
      go_at_call 14
      refine (nR.out _).mono ?_
      rintro e w' ⟨rfl, rfl⟩
      go_wp2_with fail
      refine hK.out _ _ Sv6 (fun hHeld => ?_)
      clear hK K hHeld
      try simp only [List.getElem_toArray, List.getElem_cons_succ, List.getElem_cons_zero, Act.put, List.setIfInBounds_toArray, List.set_cons_zero, List.set_cons_succ]
      refine wpAnyH_ready (rs := [12]) (by kernel_rfl) (by simp) ?_
      refine AllReadyH.cons (o := _) rfl (fun K hK => ?_) ?_
      · try simp only [List.getElem_toArray, List.getElem_cons_succ, List.getElem_cons_zero]
        go_simp
        go_at_call 33
        refine (DC.out v6 (hd6.out.at_ Tv6.out.wat.doc Tv6.out.wat.ref)).mono ?_
        rintro e v8 ⟨rfl, RD, eb, WeD, DD⟩
        have Tv8 := Tv6.out.docL DD eb WeD
        have gb := Lib.hid WeD.gl
        have Sv8 := Tv8.mv
        simp only at Sv8
        rw [eb] at Sv8
        replace Tv8 := Lib.hid Tv8
        replace eb := Lib.hid eb
        clear WeD DD
        go_wp2_with fail
        refine hK.out _ _ Sv8 (fun hHeld => ?_)
        clear hK K hHeld
        try simp only [List.getElem_toArray, List.getElem_cons_succ, List.getElem_cons_zero, Act.put, List.setIfInBounds_toArray, List.set_cons_zero, List.set_cons_succ]
        refine wpAnyH_take (i := 13) (oi := _) (v := ?_) rfl (by kernel_rfl) (by kernel_rfl) (by kernel_rfl) (fun _ _ _ h => h) (Or.inl ⟨by rfl, ?_⟩) (by assumption) ?_
        rotate_left
        · try simp only [List.getElem_toArray, List.getElem_cons_succ, List.getElem_cons_zero]
          rintro w ⟨hS1, hS2, hS3⟩
          go_simp
          (try with_reducible rfl)
        try simp only [List.getElem_toArray, List.getElem_cons_succ, List.getElem_cons_zero, Act.put, List.setIfInBounds_toArray, List.set_cons_zero, List.set_cons_succ]
        refine wpAnyH_take (i := 14) (oi := _) (v := ?_) rfl (by kernel_rfl) (by kernel_rfl) (by kernel_rfl) (fun _ _ _ h => h) (Or.inl ⟨by rfl, ?_⟩) (by assumption) ?_
        rotate_left
        · try simp only [List.getElem_toArray, List.getElem_cons_succ, List.getElem_cons_zero]
          rintro w ⟨hS1, hS2, hS3⟩
          go_simp
          (try with_reducible rfl)
        try simp only [List.getElem_toArray, List.getElem_cons_succ, List.getElem_cons_zero, Act.put, List.setIfInBounds_toArray, List.set_cons_zero, List.set_cons_succ]
        refine wpAnyH_done (by kernel_rfl) ?_ _
        refine NoPanic.normal ?_
        have FF := Lib.hid (fin.out v8 bsP ZP RD eb.out gb.out Tv8.out edP.out dzP.out)
        go_wp2
        go_ret
        exact ⟨rfl, FF.out⟩
      exact AllReadyH.nil
    exact AllReadyH.nil
  exact AllReadyH.nil
set_option maxRecDepth 100000 in
set_option maxHeartbeats 3200000 in
theorem movesSwap (hd : o.dO = 12) : Calls Tryz.prog 48 #[.pointer (some ⟨W.b, 0, none⟩), .agg o.cells] w fun e w' => e = .returned (.bool true) ∧ GoesM N w w' W s bs Z r laid told t := by
  have hH := hdN_lt h.tlt ok
  have hO := otN_lt h.tlt o
  have T1 := took6_begin h.wat o
  obtain ⟨w1, hw1⟩ : ∃ w1, w1 = w.alloc (.cells o.cells 28) := ⟨_, rfl⟩
  rw [← hw1] at T1
  have b1 : Below w.heap.size w w1 := by rw [hw1]; exact (Below.refl _ _).alloc (Nat.le_refl _) _
  have HC := handleC (h.below b1) ht o ok
  have OC := fun w2 (b : Below w1.heap.size w1 w2) => otherC ((h.below b1).below b) ht o ok
  have hd6 := h.d6 ht
  obtain ⟨RR, Lx, hP⟩ : ∃ RR Lx, swapN qc s Z Ls (hdN told o) (otN told o) = (RR, Lx) := ⟨_, _, rfl⟩
  have PC : ∀ v, QW v W.L qc s bs Z W.gq W.gl Ls → Calls Tryz.prog 35 #[.pointer (some ⟨W.gq, 0, none⟩), .int .u64 (hdN told o : Int), .int .u64 (otN told o : Int)] v fun e v' => e = .returned (.int .i64 (RR : Int)) ∧ Did v v' W.L qc s bs Z W.gq W.gl (RR, Lx) := fun v q => by
    have := swapC q _ _ hH hO
    rw [hP] at this
    exact this
  have DC : ∀ v, D6 v W.R W.M qc s Z Ls r laid → Calls Tryz.prog 37 #[.pointer (some ⟨W.R.b, 0, none⟩), .int .u64 (hdN told o : Int), .int .u64 (otN told o : Int)] v fun e v' => e = .returned (.int .i64 (RR : Int)) ∧ ∃ R', R'.b = W.R.b ∧ Went6 v v' W.R R' (3 * qc.nc) ∧ R6At v' R' W.M.b (3 * qc.nc) laid (rows6 Lx) := fun v d => by
    have := swap6C d (hdN told o) (otN told o)
    rw [hP] at this
    exact this
  have fin : ∀ v bs' Z' R', R'.b = W.R.b → R'.gL = W.R.gL → Took6 N w.heap.size w v W s { W with R := R' } s bs' Z' Lx Lx r laid told o → Ed (Itp qc s Z) bs bs' → (∀ H, (Z' H).isSome = (Z H).isSome) → GoesM N w v W s bs Z r laid told t :=
    fun v bs' Z' R' eb gb T E dz => ⟨bs', Z', R', Lx, eb, gb, T.grew, E, dz, T.wat, h.rel, fun H i x p hf => by rw [dz H]; exact h.agr H i x p hf, E.1.trans h.bs, h.ch, h.la, h.tl, h.tlt, h.lg, h.ln, h.lt⟩
  have nR := fun w => numC6 w RR
  obtain ⟨x0, -, -, -, -⟩ := T1.cells
  rw [hd] at x0
  generalize hdN told o = H at *
  generalize otN told o = G at *
  replace HC := Lib.hid HC
  replace OC := Lib.hid OC
  replace PC := Lib.hid PC
  replace DC := Lib.hid DC
  replace fin := Lib.hid fin
  replace nR := Lib.hid nR
  replace hd6 := Lib.hid hd6
  replace hP := Lib.hid hP
  replace T1 := Lib.hid T1
  unfold Op6.cells at hw1 HC OC ⊢
  rw [hd] at hw1 HC OC ⊢
  have hdE := Lib.hid hd
  replace hw1 := Lib.hid hw1
  clear h ok ht b1 hH hO hd
  generalize hN : w.heap.size = N0 at *
  replace hN := Lib.hid hN
  go_enter Tryz.func48, Tryz.ntmps48
  go_upto_region 1 with fail
  rw [hN.out, ← hw1.out]
  have B1 := T1.out.op
  unfold Op6.cells at B1
  rw [hdE.out] at B1
  have q0 := B1.cell 0
  have q1 := B1.cell 1
  have q2 := B1.cell 2
  have q3 := B1.cell 3
  have q4 := B1.cell 4
  have q5 := B1.cell 5
  replace B1 := Lib.hid B1
  go_wp2_with fail
  refine HC.out.mono ?_
  rintro e w2 ⟨rfl, b2⟩
  have T2 := T1.out.step b2
  have B2 := T2.op
  unfold Op6.cells at B2
  rw [hdE.out] at B2
  have q0 := B2.cell 0
  have q1 := B2.cell 1
  have q2 := B2.cell 2
  have q3 := B2.cell 3
  have q4 := B2.cell 4
  have q5 := B2.cell 5
  have OC2 := Lib.hid (OC.out w2 b2)
  replace B2 := Lib.hid B2
  replace T2 := Lib.hid T2
  clear HC T1 b2 x0 OC
  go_wp2_with fail
  refine OC2.out.mono ?_
  rintro e w3 ⟨rfl, b3⟩
  have T2 := T2.out.step b3
  obtain ⟨w2, hw2⟩ : ∃ w2, w2 = w3 := ⟨_, rfl⟩
  rw [← hw2] at T2 ⊢
  clear hw2 b3 OC2
  replace T2 := Lib.hid T2
  clear q0 q1 q2 q3 q4 q5
  go_upto_region 11 with fail
  obtain ⟨w5, hw5⟩ : ∃ w5, w5 = w2.drew := ⟨_, rfl⟩
  have Tw5 : Took6 N N0 w w5 W s W s bs Z Ls Ls r laid told o := by rw [hw5]; exact T2.out.step (below_drewN (Below.refl _ _) 1)
  have Sw5 := Tw5.mv
  replace Tw5 := Lib.hid Tw5
  clear T2
  refine wp_region_noPanic ?_
  refine wp_region_held_drew (S := fun v => v.cell? ⟨W.b, 1, none⟩ = some (.pointer (some ⟨W.gq, 0, none⟩)) ∧ v.cell? ⟨W.b, 3, none⟩ = some (.pointer (some ⟨W.R.b, 0, none⟩)) ∧ v.cell? ⟨N0, 2, none⟩ = some (.int .i64 o.b)) (by kernel_rfl) (by rw [← hw5]; exact Sw5) (fun hHeld => ?_)
  rw [← hw5] at hHeld ⊢
  clear hw5
  refine wpAnyH_take (i := 0) (oi := _) (v := ?_) rfl (by kernel_rfl) (by kernel_rfl) (by kernel_rfl) (fun _ _ _ h => h) (Or.inl ⟨by rfl, ?_⟩) (by assumption) ?_
  rotate_left
  · try simp only [List.getElem_toArray, List.getElem_cons_succ, List.getElem_cons_zero]
    rintro w ⟨hS1, hS2, hS3⟩
    go_simp
    (try with_reducible rfl)
  try simp only [List.getElem_toArray, List.getElem_cons_succ, List.getElem_cons_zero, Act.put, List.setIfInBounds_toArray, List.set_cons_zero, List.set_cons_succ]
  refine wpAnyH_take (i := 1) (oi := _) (v := ?_) rfl (by kernel_rfl) (by kernel_rfl) (by kernel_rfl) (fun _ _ _ h => h) (Or.inl ⟨by rfl, ?_⟩) (by assumption) ?_
  rotate_left
  · try simp only [List.getElem_toArray, List.getElem_cons_succ, List.getElem_cons_zero]
    rintro w ⟨hS1, hS2, hS3⟩
    go_simp
    (try with_reducible rfl)
  try simp only [List.getElem_toArray, List.getElem_cons_succ, List.getElem_cons_zero, Act.put, List.setIfInBounds_toArray, List.set_cons_zero, List.set_cons_succ]
  refine wpAnyH_take (i := 2) (oi := _) (v := ?_) rfl (by kernel_rfl) (by kernel_rfl) (by kernel_rfl) (fun _ _ _ h => h) (Or.inl ⟨by rfl, ?_⟩) (by assumption) ?_
  rotate_left
  · try simp only [List.getElem_toArray, List.getElem_cons_succ, List.getElem_cons_zero]
    rintro w ⟨hS1, hS2, hS3⟩
    go_simp
    (try with_reducible rfl)
  try simp only [List.getElem_toArray, List.getElem_cons_succ, List.getElem_cons_zero, Act.put, List.setIfInBounds_toArray, List.set_cons_zero, List.set_cons_succ]
  refine wpAnyH_take (i := 3) (oi := _) (v := ?_) rfl (by kernel_rfl) (by kernel_rfl) (by kernel_rfl) (fun _ _ _ h => h) (Or.inl ⟨by rfl, ?_⟩) (by assumption) ?_
  rotate_left
  · try simp only [List.getElem_toArray, List.getElem_cons_succ, List.getElem_cons_zero]
    rintro w ⟨hS1, hS2, hS3⟩
    go_simp
    (try with_reducible rfl)
  try simp only [List.getElem_toArray, List.getElem_cons_succ, List.getElem_cons_zero, Act.put, List.setIfInBounds_toArray, List.set_cons_zero, List.set_cons_succ]
  refine wpAnyH_take (i := 4) (oi := _) (v := ?_) rfl (by kernel_rfl) (by kernel_rfl) (by kernel_rfl) (fun _ _ _ h => h) (Or.inl ⟨by rfl, ?_⟩) (by assumption) ?_
  rotate_left
  · try simp only [List.getElem_toArray, List.getElem_cons_succ, List.getElem_cons_zero]
    rintro w ⟨hS1, hS2, hS3⟩
    go_simp
    (try with_reducible rfl)
  try simp only [List.getElem_toArray, List.getElem_cons_succ, List.getElem_cons_zero, Act.put, List.setIfInBounds_toArray, List.set_cons_zero, List.set_cons_succ]
  refine wpAnyH_take (i := 5) (oi := _) (v := ?_) rfl (by kernel_rfl) (by kernel_rfl) (by kernel_rfl) (fun _ _ _ h => h) (Or.inl ⟨by rfl, ?_⟩) (by assumption) ?_
  rotate_left
  · try simp only [List.getElem_toArray, List.getElem_cons_succ, List.getElem_cons_zero]
    rintro w ⟨hS1, hS2, hS3⟩
    go_simp
    (try with_reducible rfl)
  try simp only [List.getElem_toArray, List.getElem_cons_succ, List.getElem_cons_zero, Act.put, List.setIfInBounds_toArray, List.set_cons_zero, List.set_cons_succ]
  refine wpAnyH_take (i := 8) (oi := _) (v := ?_) rfl (by kernel_rfl) (by kernel_rfl) (by kernel_rfl) (fun _ _ _ h => h) (Or.inl ⟨by rfl, ?_⟩) (by assumption) ?_
  rotate_left
  · try simp only [List.getElem_toArray, List.getElem_cons_succ, List.getElem_cons_zero]
    rintro w ⟨hS1, hS2, hS3⟩
    go_simp
    (try with_reducible rfl)
  try simp only [List.getElem_toArray, List.getElem_cons_succ, List.getElem_cons_zero, Act.put, List.setIfInBounds_toArray, List.set_cons_zero, List.set_cons_succ]
  refine wpAnyH_take (i := 9) (oi := _) (v := ?_) rfl (by kernel_rfl) (by kernel_rfl) (by kernel_rfl) (fun _ _ _ h => h) (Or.inl ⟨by rfl, ?_⟩) (by assumption) ?_
  rotate_left
  · try simp only [List.getElem_toArray, List.getElem_cons_succ, List.getElem_cons_zero]
    rintro w ⟨hS1, hS2, hS3⟩
    go_simp
    (try with_reducible rfl)
  try simp only [List.getElem_toArray, List.getElem_cons_succ, List.getElem_cons_zero, Act.put, List.setIfInBounds_toArray, List.set_cons_zero, List.set_cons_succ]
  refine wpAnyH_take (i := 10) (oi := _) (v := ?_) rfl (by kernel_rfl) (by kernel_rfl) (by kernel_rfl) (fun _ _ _ h => h) (Or.inl ⟨by rfl, ?_⟩) (by assumption) ?_
  rotate_left
  · try simp only [List.getElem_toArray, List.getElem_cons_succ, List.getElem_cons_zero]
    rintro w ⟨hS1, hS2, hS3⟩
    go_simp
    (try with_reducible rfl)
  try simp only [List.getElem_toArray, List.getElem_cons_succ, List.getElem_cons_zero, Act.put, List.setIfInBounds_toArray, List.set_cons_zero, List.set_cons_succ]
  refine wpAnyH_take (i := 11) (oi := _) (v := ?_) rfl (by kernel_rfl) (by kernel_rfl) (by kernel_rfl) (fun _ _ _ h => h) (Or.inl ⟨by rfl, ?_⟩) (by assumption) ?_
  rotate_left
  · try simp only [List.getElem_toArray, List.getElem_cons_succ, List.getElem_cons_zero]
    rintro w ⟨hS1, hS2, hS3⟩
    go_simp
    (try with_reducible rfl)
  try simp only [List.getElem_toArray, List.getElem_cons_succ, List.getElem_cons_zero, Act.put, List.setIfInBounds_toArray, List.set_cons_zero, List.set_cons_succ]
  refine wpAnyH_take (i := 12) (oi := _) (v := ?_) rfl (by kernel_rfl) (by kernel_rfl) (by kernel_rfl) (fun _ _ _ h => h) (Or.inl ⟨by rfl, ?_⟩) (by assumption) ?_
  rotate_left
  · try simp only [List.getElem_toArray, List.getElem_cons_succ, List.getElem_cons_zero]
    rintro w ⟨hS1, hS2, hS3⟩
    go_simp
    (try with_reducible rfl)
  try simp only [List.getElem_toArray, List.getElem_cons_succ, List.getElem_cons_zero, Act.put, List.setIfInBounds_toArray, List.set_cons_zero, List.set_cons_succ]
  refine wpAnyH_take (i := 13) (oi := _) (v := ?_) rfl (by kernel_rfl) (by kernel_rfl) (by kernel_rfl) (fun _ _ _ h => h) (Or.inl ⟨by rfl, ?_⟩) (by assumption) ?_
  rotate_left
  · try simp only [List.getElem_toArray, List.getElem_cons_succ, List.getElem_cons_zero]
    rintro w ⟨hS1, hS2, hS3⟩
    go_simp
    (try with_reducible rfl)
  try simp only [List.getElem_toArray, List.getElem_cons_succ, List.getElem_cons_zero, Act.put, List.setIfInBounds_toArray, List.set_cons_zero, List.set_cons_succ]
  clear hHeld
  refine wpAnyH_ready (rs := [6]) (by kernel_rfl) (by simp) ?_
  refine AllReadyH.cons (o := _) rfl (fun K hK => ?_) ?_
  · try simp only [List.getElem_toArray, List.getElem_cons_succ, List.getElem_cons_zero]
    go_simp
    go_at_call 35
    refine (PC.out w5 Tw5.out.wat.q).mono ?_
    rintro e v6 ⟨rfl, oP, bsP, ZP, edP, dzP, -, QP⟩
    have Tv6 := Tw5.out.turn oP QP
    have Sv6 := Tv6.mv
    replace Tv6 := Lib.hid Tv6
    replace edP := Lib.hid edP
    replace dzP := Lib.hid dzP
    clear oP QP
    go_wp2_with fail
    refine hK.out _ _ Sv6 (fun hHeld => ?_)
    clear hK K hHeld
    try simp only [List.getElem_toArray, List.getElem_cons_succ, List.getElem_cons_zero, Act.put, List.setIfInBounds_toArray, List.set_cons_zero, List.set_cons_succ]
    refine wpAnyH_ready (rs := [7]) (by kernel_rfl) (by simp) ?_
    refine AllReadyH.cons (o := _) rfl (fun K hK => ?_) ?_
    · try simp only [List.getElem_toArray, List.getElem_cons_succ, List.getElem_cons_zero]
      go_simp
      go_at_call 14
      refine (nR.out _).mono ?_
      rintro e w' ⟨rfl, rfl⟩
      go_wp2_with fail
      refine hK.out _ _ Sv6 (fun hHeld => ?_)
      clear hK K hHeld
      try simp only [List.getElem_toArray, List.getElem_cons_succ, List.getElem_cons_zero, Act.put, List.setIfInBounds_toArray, List.set_cons_zero, List.set_cons_succ]
      refine wpAnyH_ready (rs := [14]) (by kernel_rfl) (by simp) ?_
      refine AllReadyH.cons (o := _) rfl (fun K hK => ?_) ?_
      · try simp only [List.getElem_toArray, List.getElem_cons_succ, List.getElem_cons_zero]
        go_simp
        go_at_call 37
        refine (DC.out v6 (hd6.out.at_ Tv6.out.wat.doc Tv6.out.wat.ref)).mono ?_
        rintro e v8 ⟨rfl, RD, eb, WeD, DD⟩
        have Tv8 := Tv6.out.docL DD eb WeD
        have gb := Lib.hid WeD.gl
        have Sv8 := Tv8.mv
        simp only at Sv8
        rw [eb] at Sv8
        replace Tv8 := Lib.hid Tv8
        replace eb := Lib.hid eb
        clear WeD DD
        go_wp2_with fail
        refine hK.out _ _ Sv8 (fun hHeld => ?_)
        clear hK K hHeld
        try simp only [List.getElem_toArray, List.getElem_cons_succ, List.getElem_cons_zero, Act.put, List.setIfInBounds_toArray, List.set_cons_zero, List.set_cons_succ]
        refine wpAnyH_take (i := 15) (oi := _) (v := ?_) rfl (by kernel_rfl) (by kernel_rfl) (by kernel_rfl) (fun _ _ _ h => h) (Or.inl ⟨by rfl, ?_⟩) (by assumption) ?_
        rotate_left
        · try simp only [List.getElem_toArray, List.getElem_cons_succ, List.getElem_cons_zero]
          rintro w ⟨hS1, hS2, hS3⟩
          go_simp
          (try with_reducible rfl)
        try simp only [List.getElem_toArray, List.getElem_cons_succ, List.getElem_cons_zero, Act.put, List.setIfInBounds_toArray, List.set_cons_zero, List.set_cons_succ]
        refine wpAnyH_take (i := 16) (oi := _) (v := ?_) rfl (by kernel_rfl) (by kernel_rfl) (by kernel_rfl) (fun _ _ _ h => h) (Or.inl ⟨by rfl, ?_⟩) (by assumption) ?_
        rotate_left
        · try simp only [List.getElem_toArray, List.getElem_cons_succ, List.getElem_cons_zero]
          rintro w ⟨hS1, hS2, hS3⟩
          go_simp
          (try with_reducible rfl)
        try simp only [List.getElem_toArray, List.getElem_cons_succ, List.getElem_cons_zero, Act.put, List.setIfInBounds_toArray, List.set_cons_zero, List.set_cons_succ]
        refine wpAnyH_done (by kernel_rfl) ?_ _
        refine NoPanic.normal ?_
        have FF := Lib.hid (fin.out v8 bsP ZP RD eb.out gb.out Tv8.out edP.out dzP.out)
        go_wp2
        go_ret
        exact ⟨rfl, FF.out⟩
      exact AllReadyH.nil
    exact AllReadyH.nil
  exact AllReadyH.nil
set_option maxRecDepth 100000 in
set_option maxHeartbeats 3200000 in
theorem movesShift (hd : o.dO = 7) : Calls Tryz.prog 48 #[.pointer (some ⟨W.b, 0, none⟩), .agg o.cells] w fun e w' => e = .returned (.bool true) ∧ GoesM N w w' W s bs Z r laid told t := by
  have hH := hdN_lt h.tlt ok
  have hO := otN_lt h.tlt o
  have T1 := took6_begin h.wat o
  obtain ⟨w1, hw1⟩ : ∃ w1, w1 = w.alloc (.cells o.cells 28) := ⟨_, rfl⟩
  rw [← hw1] at T1
  have b1 : Below w.heap.size w w1 := by rw [hw1]; exact (Below.refl _ _).alloc (Nat.le_refl _) _
  have HC := handleC (h.below b1) ht o ok
  have OC := fun w2 (b : Below w1.heap.size w1 w2) => otherC ((h.below b1).below b) ht o ok
  have hd6 := h.d6 ht
  obtain ⟨RR, Lx, hP⟩ : ∃ RR Lx, shiftN qc s Ls (hdN told o) o.b = (RR, Lx) := ⟨_, _, rfl⟩
  have PC : ∀ v, QW v W.L qc s bs Z W.gq W.gl Ls → Calls Tryz.prog 25 #[.pointer (some ⟨W.gq, 0, none⟩), .int .u64 (hdN told o : Int), .int .i64 o.b] v fun e v' => e = .returned (.int .i64 (RR : Int)) ∧ Did v v' W.L qc s bs Z W.gq W.gl (RR, Lx) := fun v q => by
    have := shiftC q _ hH o.b
    rw [hP] at this
    exact this
  have DC : ∀ v, D6 v W.R W.M qc s Z Ls r laid → Calls Tryz.prog 34 #[.pointer (some ⟨W.R.b, 0, none⟩), .int .u64 (hdN told o : Int), .int .i64 o.b] v fun e v' => e = .returned (.int .i64 (RR : Int)) ∧ ∃ R', R'.b = W.R.b ∧ Went6 v v' W.R R' (3 * qc.nc) ∧ R6At v' R' W.M.b (3 * qc.nc) laid (rows6 Lx) := fun v d => by
    have := shift6C d (hdN told o) o.b
    rw [hP] at this
    exact this
  have fin : ∀ v bs' Z' R', R'.b = W.R.b → R'.gL = W.R.gL → Took6 N w.heap.size w v W s { W with R := R' } s bs' Z' Lx Lx r laid told o → Ed (Itp qc s Z) bs bs' → (∀ H, (Z' H).isSome = (Z H).isSome) → GoesM N w v W s bs Z r laid told t :=
    fun v bs' Z' R' eb gb T E dz => ⟨bs', Z', R', Lx, eb, gb, T.grew, E, dz, T.wat, h.rel, fun H i x p hf => by rw [dz H]; exact h.agr H i x p hf, E.1.trans h.bs, h.ch, h.la, h.tl, h.tlt, h.lg, h.ln, h.lt⟩
  have nR := fun w => numC6 w RR
  obtain ⟨x0, -, -, -, -⟩ := T1.cells
  rw [hd] at x0
  generalize hdN told o = H at *
  generalize otN told o = G at *
  replace HC := Lib.hid HC
  replace OC := Lib.hid OC
  replace PC := Lib.hid PC
  replace DC := Lib.hid DC
  replace fin := Lib.hid fin
  replace nR := Lib.hid nR
  replace hd6 := Lib.hid hd6
  replace hP := Lib.hid hP
  replace T1 := Lib.hid T1
  unfold Op6.cells at hw1 HC OC ⊢
  rw [hd] at hw1 HC OC ⊢
  have hdE := Lib.hid hd
  replace hw1 := Lib.hid hw1
  clear h ok ht b1 hH hO hd
  generalize hN : w.heap.size = N0 at *
  replace hN := Lib.hid hN
  go_enter Tryz.func48, Tryz.ntmps48
  go_upto_region 1 with fail
  rw [hN.out, ← hw1.out]
  have B1 := T1.out.op
  unfold Op6.cells at B1
  rw [hdE.out] at B1
  have q0 := B1.cell 0
  have q1 := B1.cell 1
  have q2 := B1.cell 2
  have q3 := B1.cell 3
  have q4 := B1.cell 4
  have q5 := B1.cell 5
  replace B1 := Lib.hid B1
  go_wp2_with fail
  refine HC.out.mono ?_
  rintro e w2 ⟨rfl, b2⟩
  have T2 := T1.out.step b2
  obtain ⟨x0, -, -, -, -⟩ := T2.cells
  rw [hdE.out] at x0
  replace T2 := Lib.hid T2
  clear HC T1 b2 OC q0 q1 q2 q3 q4 q5
  go_upto_region 12 with fail
  obtain ⟨w5, hw5⟩ : ∃ w5, w5 = w2.drew := ⟨_, rfl⟩
  have Tw5 : Took6 N N0 w w5 W s W s bs Z Ls Ls r laid told o := by rw [hw5]; exact T2.out.step (below_drewN (Below.refl _ _) 1)
  have Sw5 := Tw5.mv
  replace Tw5 := Lib.hid Tw5
  clear T2
  refine wp_region_noPanic ?_
  refine wp_region_held_drew (S := fun v => v.cell? ⟨W.b, 1, none⟩ = some (.pointer (some ⟨W.gq, 0, none⟩)) ∧ v.cell? ⟨W.b, 3, none⟩ = some (.pointer (some ⟨W.R.b, 0, none⟩)) ∧ v.cell? ⟨N0, 2, none⟩ = some (.int .i64 o.b)) (by kernel_rfl) (by rw [← hw5]; exact Sw5) (fun hHeld => ?_)
  rw [← hw5] at hHeld ⊢
  clear hw5
  refine wpAnyH_take (i := 0) (oi := _) (v := ?_) rfl (by kernel_rfl) (by kernel_rfl) (by kernel_rfl) (fun _ _ _ h => h) (Or.inl ⟨by rfl, ?_⟩) (by assumption) ?_
  rotate_left
  · try simp only [List.getElem_toArray, List.getElem_cons_succ, List.getElem_cons_zero]
    rintro w ⟨hS1, hS2, hS3⟩
    go_simp
    (try with_reducible rfl)
  try simp only [List.getElem_toArray, List.getElem_cons_succ, List.getElem_cons_zero, Act.put, List.setIfInBounds_toArray, List.set_cons_zero, List.set_cons_succ]
  refine wpAnyH_take (i := 1) (oi := _) (v := ?_) rfl (by kernel_rfl) (by kernel_rfl) (by kernel_rfl) (fun _ _ _ h => h) (Or.inl ⟨by rfl, ?_⟩) (by assumption) ?_
  rotate_left
  · try simp only [List.getElem_toArray, List.getElem_cons_succ, List.getElem_cons_zero]
    rintro w ⟨hS1, hS2, hS3⟩
    go_simp
    (try with_reducible rfl)
  try simp only [List.getElem_toArray, List.getElem_cons_succ, List.getElem_cons_zero, Act.put, List.setIfInBounds_toArray, List.set_cons_zero, List.set_cons_succ]
  refine wpAnyH_take (i := 2) (oi := _) (v := ?_) rfl (by kernel_rfl) (by kernel_rfl) (by kernel_rfl) (fun _ _ _ h => h) (Or.inl ⟨by rfl, ?_⟩) (by assumption) ?_
  rotate_left
  · try simp only [List.getElem_toArray, List.getElem_cons_succ, List.getElem_cons_zero]
    rintro w ⟨hS1, hS2, hS3⟩
    go_simp
    (try with_reducible rfl)
  try simp only [List.getElem_toArray, List.getElem_cons_succ, List.getElem_cons_zero, Act.put, List.setIfInBounds_toArray, List.set_cons_zero, List.set_cons_succ]
  refine wpAnyH_take (i := 3) (oi := _) (v := ?_) rfl (by kernel_rfl) (by kernel_rfl) (by kernel_rfl) (fun _ _ _ h => h) (Or.inl ⟨by rfl, ?_⟩) (by assumption) ?_
  rotate_left
  · try simp only [List.getElem_toArray, List.getElem_cons_succ, List.getElem_cons_zero]
    rintro w ⟨hS1, hS2, hS3⟩
    go_simp
    (try with_reducible rfl)
  try simp only [List.getElem_toArray, List.getElem_cons_succ, List.getElem_cons_zero, Act.put, List.setIfInBounds_toArray, List.set_cons_zero, List.set_cons_succ]
  refine wpAnyH_take (i := 4) (oi := _) (v := ?_) rfl (by kernel_rfl) (by kernel_rfl) (by kernel_rfl) (fun _ _ _ h => h) (Or.inl ⟨by rfl, ?_⟩) (by assumption) ?_
  rotate_left
  · try simp only [List.getElem_toArray, List.getElem_cons_succ, List.getElem_cons_zero]
    rintro w ⟨hS1, hS2, hS3⟩
    go_simp
    (try with_reducible rfl)
  try simp only [List.getElem_toArray, List.getElem_cons_succ, List.getElem_cons_zero, Act.put, List.setIfInBounds_toArray, List.set_cons_zero, List.set_cons_succ]
  refine wpAnyH_take (i := 5) (oi := _) (v := ?_) rfl (by kernel_rfl) (by kernel_rfl) (by kernel_rfl) (fun _ _ _ h => h) (Or.inl ⟨by rfl, ?_⟩) (by assumption) ?_
  rotate_left
  · try simp only [List.getElem_toArray, List.getElem_cons_succ, List.getElem_cons_zero]
    rintro w ⟨hS1, hS2, hS3⟩
    go_simp
    (try with_reducible rfl)
  try simp only [List.getElem_toArray, List.getElem_cons_succ, List.getElem_cons_zero, Act.put, List.setIfInBounds_toArray, List.set_cons_zero, List.set_cons_succ]
  refine wpAnyH_take (i := 6) (oi := _) (v := ?_) rfl (by kernel_rfl) (by kernel_rfl) (by kernel_rfl) (fun _ _ _ h => h) (Or.inl ⟨by rfl, ?_⟩) (by assumption) ?_
  rotate_left
  · try simp only [List.getElem_toArray, List.getElem_cons_succ, List.getElem_cons_zero]
    rintro w ⟨hS1, hS2, hS3⟩
    go_simp
    (try with_reducible rfl)
  try simp only [List.getElem_toArray, List.getElem_cons_succ, List.getElem_cons_zero, Act.put, List.setIfInBounds_toArray, List.set_cons_zero, List.set_cons_succ]
  refine wpAnyH_take (i := 9) (oi := _) (v := ?_) rfl (by kernel_rfl) (by kernel_rfl) (by kernel_rfl) (fun _ _ _ h => h) (Or.inl ⟨by rfl, ?_⟩) (by assumption) ?_
  rotate_left
  · try simp only [List.getElem_toArray, List.getElem_cons_succ, List.getElem_cons_zero]
    rintro w ⟨hS1, hS2, hS3⟩
    go_simp
    (try with_reducible rfl)
  try simp only [List.getElem_toArray, List.getElem_cons_succ, List.getElem_cons_zero, Act.put, List.setIfInBounds_toArray, List.set_cons_zero, List.set_cons_succ]
  refine wpAnyH_take (i := 10) (oi := _) (v := ?_) rfl (by kernel_rfl) (by kernel_rfl) (by kernel_rfl) (fun _ _ _ h => h) (Or.inl ⟨by rfl, ?_⟩) (by assumption) ?_
  rotate_left
  · try simp only [List.getElem_toArray, List.getElem_cons_succ, List.getElem_cons_zero]
    rintro w ⟨hS1, hS2, hS3⟩
    go_simp
    (try with_reducible rfl)
  try simp only [List.getElem_toArray, List.getElem_cons_succ, List.getElem_cons_zero, Act.put, List.setIfInBounds_toArray, List.set_cons_zero, List.set_cons_succ]
  refine wpAnyH_take (i := 11) (oi := _) (v := ?_) rfl (by kernel_rfl) (by kernel_rfl) (by kernel_rfl) (fun _ _ _ h => h) (Or.inl ⟨by rfl, ?_⟩) (by assumption) ?_
  rotate_left
  · try simp only [List.getElem_toArray, List.getElem_cons_succ, List.getElem_cons_zero]
    rintro w ⟨hS1, hS2, hS3⟩
    go_simp
    (try with_reducible rfl)
  try simp only [List.getElem_toArray, List.getElem_cons_succ, List.getElem_cons_zero, Act.put, List.setIfInBounds_toArray, List.set_cons_zero, List.set_cons_succ]
  refine wpAnyH_take (i := 12) (oi := _) (v := ?_) rfl (by kernel_rfl) (by kernel_rfl) (by kernel_rfl) (fun _ _ _ h => h) (Or.inl ⟨by rfl, ?_⟩) (by assumption) ?_
  rotate_left
  · try simp only [List.getElem_toArray, List.getElem_cons_succ, List.getElem_cons_zero]
    rintro w ⟨hS1, hS2, hS3⟩
    go_simp
    (try with_reducible rfl)
  try simp only [List.getElem_toArray, List.getElem_cons_succ, List.getElem_cons_zero, Act.put, List.setIfInBounds_toArray, List.set_cons_zero, List.set_cons_succ]
  refine wpAnyH_take (i := 13) (oi := _) (v := ?_) rfl (by kernel_rfl) (by kernel_rfl) (by kernel_rfl) (fun _ _ _ h => h) (Or.inl ⟨by rfl, ?_⟩) (by assumption) ?_
  rotate_left
  · try simp only [List.getElem_toArray, List.getElem_cons_succ, List.getElem_cons_zero]
    rintro w ⟨hS1, hS2, hS3⟩
    go_simp
    (try with_reducible rfl)
  try simp only [List.getElem_toArray, List.getElem_cons_succ, List.getElem_cons_zero, Act.put, List.setIfInBounds_toArray, List.set_cons_zero, List.set_cons_succ]
  refine wpAnyH_take (i := 14) (oi := _) (v := ?_) rfl (by kernel_rfl) (by kernel_rfl) (by kernel_rfl) (fun _ _ _ h => h) (Or.inl ⟨by rfl, ?_⟩) (by assumption) ?_
  rotate_left
  · try simp only [List.getElem_toArray, List.getElem_cons_succ, List.getElem_cons_zero]
    rintro w ⟨hS1, hS2, hS3⟩
    go_simp
    (try with_reducible rfl)
  try simp only [List.getElem_toArray, List.getElem_cons_succ, List.getElem_cons_zero, Act.put, List.setIfInBounds_toArray, List.set_cons_zero, List.set_cons_succ]
  refine wpAnyH_take (i := 15) (oi := _) (v := ?_) rfl (by kernel_rfl) (by kernel_rfl) (by kernel_rfl) (fun _ _ _ h => h) (Or.inl ⟨by rfl, ?_⟩) (by assumption) ?_
  rotate_left
  · try simp only [List.getElem_toArray, List.getElem_cons_succ, List.getElem_cons_zero]
    rintro w ⟨hS1, hS2, hS3⟩
    go_simp
    (try with_reducible rfl)
  try simp only [List.getElem_toArray, List.getElem_cons_succ, List.getElem_cons_zero, Act.put, List.setIfInBounds_toArray, List.set_cons_zero, List.set_cons_succ]
  clear hHeld
  refine wpAnyH_ready (rs := [7]) (by kernel_rfl) (by simp) ?_
  refine AllReadyH.cons (o := _) rfl (fun K hK => ?_) ?_
  · try simp only [List.getElem_toArray, List.getElem_cons_succ, List.getElem_cons_zero]
    go_simp
    go_at_call 25
    refine (PC.out w5 Tw5.out.wat.q).mono ?_
    rintro e v6 ⟨rfl, oP, bsP, ZP, edP, dzP, -, QP⟩
    have Tv6 := Tw5.out.turn oP QP
    have Sv6 := Tv6.mv
    replace Tv6 := Lib.hid Tv6
    replace edP := Lib.hid edP
    replace dzP := Lib.hid dzP
    clear oP QP
    go_wp2_with fail
    refine hK.out _ _ Sv6 (fun hHeld => ?_)
    clear hK K hHeld
    try simp only [List.getElem_toArray, List.getElem_cons_succ, List.getElem_cons_zero, Act.put, List.setIfInBounds_toArray, List.set_cons_zero, List.set_cons_succ]
    refine wpAnyH_ready (rs := [8]) (by kernel_rfl) (by simp) ?_
    refine AllReadyH.cons (o := _) rfl (fun K hK => ?_) ?_
    · try simp only [List.getElem_toArray, List.getElem_cons_succ, List.getElem_cons_zero]
      go_simp
      go_at_call 14
      refine (nR.out _).mono ?_
      rintro e w' ⟨rfl, rfl⟩
      go_wp2_with fail
      refine hK.out _ _ Sv6 (fun hHeld => ?_)
      clear hK K hHeld
      try simp only [List.getElem_toArray, List.getElem_cons_succ, List.getElem_cons_zero, Act.put, List.setIfInBounds_toArray, List.set_cons_zero, List.set_cons_succ]
      refine wpAnyH_ready (rs := [16]) (by kernel_rfl) (by simp) ?_
      refine AllReadyH.cons (o := _) rfl (fun K hK => ?_) ?_
      · try simp only [List.getElem_toArray, List.getElem_cons_succ, List.getElem_cons_zero]
        go_simp
        go_at_call 34
        refine (DC.out v6 (hd6.out.at_ Tv6.out.wat.doc Tv6.out.wat.ref)).mono ?_
        rintro e v8 ⟨rfl, RD, eb, WeD, DD⟩
        have Tv8 := Tv6.out.docL DD eb WeD
        have gb := Lib.hid WeD.gl
        have Sv8 := Tv8.mv
        simp only at Sv8
        rw [eb] at Sv8
        replace Tv8 := Lib.hid Tv8
        replace eb := Lib.hid eb
        clear WeD DD
        go_wp2_with fail
        refine hK.out _ _ Sv8 (fun hHeld => ?_)
        clear hK K hHeld
        try simp only [List.getElem_toArray, List.getElem_cons_succ, List.getElem_cons_zero, Act.put, List.setIfInBounds_toArray, List.set_cons_zero, List.set_cons_succ]
        refine wpAnyH_take (i := 17) (oi := _) (v := ?_) rfl (by kernel_rfl) (by kernel_rfl) (by kernel_rfl) (fun _ _ _ h => h) (Or.inl ⟨by rfl, ?_⟩) (by assumption) ?_
        rotate_left
        · try simp only [List.getElem_toArray, List.getElem_cons_succ, List.getElem_cons_zero]
          rintro w ⟨hS1, hS2, hS3⟩
          go_simp
          (try with_reducible rfl)
        try simp only [List.getElem_toArray, List.getElem_cons_succ, List.getElem_cons_zero, Act.put, List.setIfInBounds_toArray, List.set_cons_zero, List.set_cons_succ]
        refine wpAnyH_take (i := 18) (oi := _) (v := ?_) rfl (by kernel_rfl) (by kernel_rfl) (by kernel_rfl) (fun _ _ _ h => h) (Or.inl ⟨by rfl, ?_⟩) (by assumption) ?_
        rotate_left
        · try simp only [List.getElem_toArray, List.getElem_cons_succ, List.getElem_cons_zero]
          rintro w ⟨hS1, hS2, hS3⟩
          go_simp
          (try with_reducible rfl)
        try simp only [List.getElem_toArray, List.getElem_cons_succ, List.getElem_cons_zero, Act.put, List.setIfInBounds_toArray, List.set_cons_zero, List.set_cons_succ]
        refine wpAnyH_done (by kernel_rfl) ?_ _
        refine NoPanic.normal ?_
        have FF := Lib.hid (fin.out v8 bsP ZP RD eb.out gb.out Tv8.out edP.out dzP.out)
        go_wp2
        go_ret
        exact ⟨rfl, FF.out⟩
      exact AllReadyH.nil
    exact AllReadyH.nil
  exact AllReadyH.nil
end
end Go.Proofs.YtfjiphibalhcgaaGreat.Que
/-
  The queue's iterators: along.
-/
namespace Go.Proofs.YtfjiphibalhcgaaGreat.Que
open Go.RowKit Base Arena Cls Itm Go.Shelf
set_option linter.unusedVariables false
set_option linter.unusedSectionVars false
attribute [local go_sem] Oper.semAt_some

/-- A handle's number. -/
abbrev HU := { H : Nat // H < 18446744073709551616 }
def hu (x : HU) : Array Value := #[.int .u64 (x.1 : Int)]
/-- What lies behind H in its list. -/
theorem QI.next_in {c : Conf} {s : St} {Z : Nat → Option Zd} {F : QN} {Ls : Nat → Nat → List Nat} (q : QI c s Z F Ls) (ok : c.cf.Ok) (g : Cls.Good c.cf s) {x k H : Nat} (hx : x < c.nc) (hk : k < 3) {l1 l2 : List Nat} (hl : Ls x k = l1 ++ H :: l2) :
    nextN c s Ls H = l2.head?.getD 0 ∧ (decide (nextN c s Ls H ≠ 0)) = decide (0 < l2.length) ∧ H < 18446744073709551616 := by
  have hm : H ∈ Ls x k := by rw [hl]; simp
  obtain ⟨i, y, p, hf, hc⟩ := q.it x k H hx hk hm
  have ec : clsN c s H = x := by unfold clsN; rw [hf]; exact hc
  have h0 : stK (clsN c s H) Ls H ≠ 0 := fun e => stK_zero e k hk (by rw [ec]; exact hm)
  obtain ⟨k', i', y', p', hk', e, hf', ec', hx', hm'⟩ := q.of_stK ok g h0
  rw [← ec', ec] at hm'
  obtain ⟨-, rfl⟩ := q.dj x k' x k H hx hk' hx hk hm' hm
  have hnd := q.nd x k' hx hk
  rw [hl] at hnd
  have n1 : H ∉ l1 := fun e => (List.nodup_append.1 hnd).2.2 H e H (List.mem_cons_self ..) rfl
  have en : nextN c s Ls H = l2.head?.getD 0 := by
    unfold nextN
    rw [if_neg h0, e, ec, Nat.add_sub_cancel, hl, behind_split n1]
  refine ⟨en, ?_, good_lt ok g hf⟩
  rw [en]
  cases l2 with
  | nil => rfl
  | cons a t =>
    have ha : a ≠ 0 := q.ne0 hx hk (show a ∈ Ls x k' by rw [hl]; simp)
    show decide (a ≠ 0) = decide (0 < (a :: t).length)
    rw [decide_eq_true ha, decide_eq_true (by simp)]
theorem grown_of_below {w w' : World} (h : Below w.heap.size w w') : w.grownBy w' none := ⟨h.os, h.tape, h.output, h.size, fun k hk _ => h.block k hk⟩
theorem QW.below {w w' : World} {L : Lay} {c : Conf} {s : St} {bs : List UInt8} {Z : Nat → Option Zd} {gq gl : Nat} {Ls : Nat → Nat → List Nat} (h : QW w L c s bs Z gq gl Ls) (b : Below w.heap.size w w') : QW w' L c s bs Z gq gl Ls := by
  obtain ⟨F, S, q⟩ := h
  exact ⟨F, S.below b, q⟩
/-- along. -/
theorem alongC (w : World) (gq : Nat) (x kind : Int) : Calls Tryz.prog 53 #[.pointer (some ⟨gq, 0, none⟩), .int .i64 x, .int .i64 kind] w fun e w' =>
    e = .returned (.func (.func 95) #[] #[.pointer (some ⟨w.heap.size, 0, none⟩), .pointer (some ⟨w.heap.size + 1, 0, none⟩), .pointer (some ⟨w.heap.size + 2, 0, none⟩)]) ∧
    w' = ((w.alloc (.cells #[.pointer (some ⟨gq, 0, none⟩)] 29)).alloc (.cells #[.int .i64 x] 3)).alloc (.cells #[.int .i64 kind] 3) := by
  go_enter Tryz.func53, Tryz.ntmps53
  go_wp2
  go_ret
  exact ⟨rfl, rfl⟩
theorem allC0 (w : World) (gq : Nat) (x kind : Int) : Calls Tryz.prog 17 #[.pointer (some ⟨gq, 0, none⟩), .int .i64 x, .int .i64 kind] w fun e w' =>
    e = .returned (.func (.func 52) #[] #[.pointer (some ⟨w.heap.size, 0, none⟩), .pointer (some ⟨w.heap.size + 1, 0, none⟩), .pointer (some ⟨w.heap.size + 2, 0, none⟩)]) ∧
    w' = ((w.alloc (.cells #[.pointer (some ⟨gq, 0, none⟩)] 29)).alloc (.cells #[.int .i64 x] 3)).alloc (.cells #[.int .i64 kind] 3) := by
  go_enter Tryz.func17, Tryz.ntmps17
  go_wp2
  go_ret
  exact ⟨rfl, rfl⟩
end Go.Proofs.YtfjiphibalhcgaaGreat.Que
/-
  The queue's iterators: along's closure.
-/
namespace Go.Proofs.YtfjiphibalhcgaaGreat.Que
open Go.RowKit Base Arena Cls Itm Go.Shelf
set_option linter.unusedVariables false
set_option linter.unusedSectionVars false
attribute [local go_sem] Oper.semAt_some

set_option maxRecDepth 100000 in
set_option maxHeartbeats 2000000 in
theorem along1_in {w : World} {L : Lay} {c : Conf} {s : St} {bs : List UInt8} {Z : Nat → Option Zd} {gq gl : Nat} {Ls : Nat → Nat → List Nat} (h : QW w L c s bs Z gq gl Ls) (x kind : Int) (n : Nat) (hn : 2 ≤ n) (l Bq Bc Bk : Nat)
    (S : Nat → Prop) (hS : ∀ b, b < w.heap.size → ¬ S b) (hB : ¬ S Bq ∧ ¬ S Bc ∧ ¬ S Bk) (J Jx : List HU → World → Prop) (W : World) (hw : Below w.heap.size w W) (hJ : AbidesFrom W.heap.size J)
    (hY : ∀ pre (y : HU) W1, J pre W1 → pre.length < (lsN c Ls x kind).length → YieldAt Fence.wide (n - 1) Tryz.prog l #[.int .u64 (y.1 : Int)] W1 fun e W' =>
      (e = .returned (.bool true) ∧ J (pre ++ [y]) W' ∧ Only S W1 W') ∨ (e = .returned (.bool false) ∧ Jx (pre ++ [y]) W'))
    (cq : W.cell? ⟨Bq, 0, none⟩ = some (.pointer (some ⟨gq, 0, none⟩))) (cc : W.cell? ⟨Bc, 0, none⟩ = some (.int .i64 x)) (ck : W.cell? ⟨Bk, 0, none⟩ = some (.int .i64 kind)) (h0 : J [] W) :
    CallsIn Fence.wide n Tryz.prog 95 #[.func (.yield l) #[] #[], .pointer (some ⟨Bq, 0, none⟩), .pointer (some ⟨Bc, 0, none⟩), .pointer (some ⟨Bk, 0, none⟩)] W fun e W' => (∃ v, e = .returned v) ∧
      ((∃ ys : List HU, ys.map (·.1) = lsN c Ls x kind ∧ J ys W') ∨ (∃ pre : List HU, pre.map (·.1) <+: lsN c Ls x kind ∧ Jx pre W')) := by
  have QS : ∀ wr, Only S W wr → QW wr L c s bs Z gq gl Ls := fun wr o => h.below (hw.trans (o.toBelow fun k hk => ⟨by have := hw.size; omega, hS k hk⟩))
  have cells : ∀ wr, Only S W wr → wr.cell? ⟨Bq, 0, none⟩ = some (.pointer (some ⟨gq, 0, none⟩)) ∧ wr.cell? ⟨Bc, 0, none⟩ = some (.int .i64 x) ∧ wr.cell? ⟨Bk, 0, none⟩ = some (.int .i64 kind) := fun wr o =>
    ⟨(World.cell?_of_block (a := ⟨Bq, 0, none⟩) (o.block Bq (World.block_lt_of_cell? W _ cq) hB.1)).trans cq, (World.cell?_of_block (a := ⟨Bc, 0, none⟩) (o.block Bc (World.block_lt_of_cell? W _ cc) hB.2.1)).trans cc, (World.cell?_of_block (a := ⟨Bk, 0, none⟩) (o.block Bk (World.block_lt_of_cell? W _ ck) hB.2.2)).trans ck⟩
  have HC := headC (QS W (Only.refl _ _)) x kind
  have LC := lenC (QS W (Only.refl _ _)) x kind
  have small : (lsN c Ls x kind).length ≤ 134217729 := by
    unfold lsN
    split
    · rename_i hv
      obtain ⟨F, S1, q⟩ := h
      rw [← q.n _ _ (by omega) (by omega)]
      exact q.nB S1.okc S1.zs.good (by omega) (by omega)
    · simp
  have BC : ∀ wr, Only S W wr → ∀ (l1 : List Nat) (y : Nat) (l2 : List Nat), lsN c Ls x kind = l1 ++ y :: l2 → y < 18446744073709551616 ∧ Calls Tryz.prog 61 #[.pointer (some ⟨gq, 0, none⟩), .int .u64 (y : Int)] wr fun e w' => e = .returned (.tuple #[.int .u64 (l2.head?.getD 0 : Int), .bool (decide (0 < l2.length))]) ∧ Below wr.heap.size wr w' := by
    intro wr o l1 y l2 hl
    have Q := QS wr o
    have Q' := Q
    obtain ⟨F, S1, q⟩ := Q'
    unfold lsN at hl
    split at hl
    · rename_i hv
      obtain ⟨e1, e2, e3⟩ := q.next_in S1.okc S1.zs.good (by omega) (by omega) hl
      have := behindC Q y e3
      rw [e2, e1] at this
      exact ⟨e3, this⟩
    · simp at hl
  generalize lsN c Ls x kind = LS at *
  obtain ⟨cq0, cc0, ck0⟩ := cells W (Only.refl _ _)
  replace h := Lib.hid h
  replace QS := Lib.hid QS
  replace cells := Lib.hid cells
  replace HC := Lib.hid HC
  replace LC := Lib.hid LC
  replace BC := Lib.hid BC
  replace hY := Lib.hid hY
  replace hJ := Lib.hid hJ
  replace h0 := Lib.hid h0
  clear hS hB hw cq cc ck
  refine callsIn_of_wp Tryz.func95 rfl trivial ?_ rfl
  simp only [Tryz.ntmps95, List.size_toArray, List.length_cons, List.length_nil, Nat.reduceAdd, Nat.reduceSub, Array.replicate_succ, Array.replicate_zero, List.push_toArray, List.append_toArray, List.nil_append, List.cons_append]
  gi_wp2_with (first | (refine ⟨trivial, fun _ => by omega, ?_⟩; gi_at_call 51; refine (callsIn_wide.2 HC.out).mono ?_; rintro e w' ⟨rfl, rfl⟩) | (refine ⟨trivial, fun _ => by omega, ?_⟩; gi_at_call 29; refine (callsIn_wide.2 LC.out).mono ?_; rintro e w' ⟨rfl, rfl⟩) | fail)
  gi_loopw [5, 6, 7] (fun th tk tn wr => ∃ (pre : List HU) (rest : List Nat), th = .int .u64 (rest.head?.getD 0 : Int) ∧ tk = .bool (decide (0 < rest.length)) ∧ tn = .int .i64 (rest.length : Int) ∧ Hid (LS = pre.map (·.1) ++ rest) ∧ Hid (J pre wr) ∧ Hid (Only S W wr)) (fun _ _ tn _ => (intOf tn).toNat)
  case atStart => exact ⟨[], LS, rfl, rfl, rfl, Lib.hid rfl, h0, Lib.hid (Only.refl _ _)⟩
  case round =>
    obtain ⟨pre, rest, rfl, rfl, rfl, hx, hJs, ho⟩ := hrel
    obtain ⟨cq1, cc1, ck1⟩ := cells.out wr ho.out
    cases rest with
    | nil =>
      have e1 : (([] : List Nat).head?.getD 0) = 0 := rfl
      have e2 : decide (0 < ([] : List Nat).length) = false := rfl
      rw [e1, e2]
      gi_wp2
      refine ⟨fun _ h => (by cases h), ?_⟩
      gi_wp2
      go_end0
      exact ⟨⟨_, rfl⟩, .inl ⟨pre, by rw [hx.out, List.append_nil], hJs.out⟩⟩
    | cons y rest =>
      obtain ⟨hy64, -⟩ := BC.out wr ho.out _ _ _ hx.out
      obtain ⟨fn, tmps, assign, body, hy, hR⟩ := hY.out pre ⟨y, hy64⟩ wr hJs.out (by rw [hx.out, List.length_append, List.length_map, List.length_cons]; omega)
      dsimp only at hy
      have e1 : ((y :: rest).head?.getD 0) = y := rfl
      have e2 : decide (0 < (y :: rest).length) = true := by simp
      obtain ⟨m, hm⟩ : ∃ m, m = (y :: rest).length := ⟨_, rfl⟩
      have hm1 : m = rest.length + 1 := by rw [hm]; rfl
      rw [e1, e2, ← hm]
      have d1 : decide ((0 : Int) < (m : Int)) = true := decide_eq_true (by omega)
      have d2 : (0 : Int) < (m : Int) := by omega
      have q1 : IntKind.i64.wrap ((m : Int) - 1) = (rest.length : Int) := by
        have hl : LS.length = pre.length + m := by rw [hx.out, List.length_append, List.length_map, ← hm]
        rw [IntWalk.i64_in _ (by omega)]; omega
      replace hm := Lib.hid hm
      replace hm1 := Lib.hid hm1
      clear e1 e2
      gi_wp2
      refine ⟨fun _ => by omega, ?_⟩
      refine hR.mono ?_
      rintro e W3 (⟨rfl, hJ3, hk3⟩ | ⟨rfl, hJx3⟩)
      · have o3 := ho.out.trans hk3 fun _ _ h => h
        obtain ⟨cq3, cc3, ck3⟩ := cells.out W3 o3
        have BB := Lib.hid (BC.out W3 o3 _ _ _ hx.out).2
        replace hJ3 := Lib.hid hJ3
        replace o3 := Lib.hid o3
        clear hk3 hJs ho
        gi_wp2_with (first | (refine ⟨trivial, fun _ => by omega, ?_⟩; gi_at_call 61; refine (callsIn_wide.2 BB.out).mono ?_; rintro e w4 ⟨rfl, b4⟩) | fail)
        go_roundw
        case rel => exact ⟨pre ++ [⟨y, hy64⟩], rest, rfl, rfl, rfl, Lib.hid (by rw [hx.out]; simp), Lib.hid (hJ.out _ _ _ none hJ3.out (grown_of_below b4) (fun r e => by cases e)), Lib.hid (o3.out.below b4 o3.out.size)⟩
        case measure => simp [intOf]; have := hm1.out; omega
      · gi_wp2
        go_end0
        exact ⟨⟨_, rfl⟩, .inr ⟨pre ++ [⟨y, hy64⟩], ⟨rest, by rw [hx.out]; simp⟩, hJx3⟩⟩
end Go.Proofs.YtfjiphibalhcgaaGreat.Que
/-
  A range over a function whose iterator holds a range of its own: what a round keeps is told of all blocks but loops' records and rows of uint64. Nothing here names a function of the program.
-/
namespace Go.Proofs.YtfjiphibalhcgaaGreat.Que
open Go.RowKit Base Arena Cls Itm Go.Shelf
set_option linter.unusedVariables false
set_option linter.unusedSectionVars false

/-- A block that a round leaves alone: no loop's record, no row of uint64. -/
def prot : Obj → Bool
  | .loop _ => false
  | .cells _ t _ => decide (t ≠ 26)
  | _ => true
structure KeepP (D : Nat) (A B : World) : Prop where
  size : A.heap.size ≤ B.heap.size
  same : ∀ (b : Nat) (o : Obj), D ≤ b → A.heap[b]? = some o → prot o = true → B.heap[b]? = some o
theorem KeepP.refl (D : Nat) (A : World) : KeepP D A A := ⟨Nat.le_refl _, fun _ _ _ h _ => h⟩
theorem KeepP.trans {D : Nat} {A B C : World} (h : KeepP D A B) (k : KeepP D B C) : KeepP D A C := ⟨Nat.le_trans h.size k.size, fun b o hb ho hp => k.same b o hb (h.same b o hb ho hp) hp⟩
theorem KeepP.below {D : Nat} {A B : World} (h : Below A.heap.size A B) : KeepP D A B := ⟨h.size, fun b o _ ho _ => (h.block b (heap_lt ho)).trans ho⟩
theorem KeepP.only {D : Nat} {S : Nat → Prop} {A B : World} (h : Only S A B) (hs : ∀ b o, D ≤ b → A.heap[b]? = some o → prot o = true → ¬ S b) : KeepP D A B := ⟨h.size, fun b o hb ho hp => (h.block b (heap_lt ho) (hs b o hb ho hp)).trans ho⟩
theorem KeepP.putLoop {D : Nat} (A : World) (l : Nat) {r : Loop} (o' : Obj) (h : A.heap[l]? = some (.loop r)) : KeepP D A (A.putObj l o') :=
  ⟨(grownBy_putObj' A l o').size, fun b o _ ho hp => (World.putObj_heap_other (fun e => by subst e; rw [h] at ho; cases ho; cases hp)).trans ho⟩
/-- How a round's body ends. -/
def roundEnd {α : Type} (D l : Nat) (I : List α → World → Prop) (Ix : Code → List α → World → Prop) (xs : List α) (W : World) : Exit → Act → World → Prop
  | .normal, _, W' => KeepP D W W' ∧ W'.heap[l]? = W.heap[l]? ∧ I xs W'
  | .ret, _, W' => KeepP D W W' ∧ W'.heap[l]? = W.heap[l]? ∧ Ix .ret xs W'
  | .exit id, _, W' => KeepP D W W' ∧ W'.heap[l]? = W.heap[l]? ∧ Ix (.exit id) xs W'
  | .goto t, _, W' => KeepP D W W' ∧ W'.heap[l]? = W.heap[l]? ∧ Ix (.goto t) xs W'
  | .panic _, _, _ => False
  | .outgrown, _, _ => False
/-- An iterator's contract, where the iterator holds a range of its own: what its rounds speak of abides the turn of whatever is no cells and was made since. -/
def SeqP {α : Type} (n : Nat) (P : Program) (g : Nat) (lb : Array Value) (encs : α → Array Value) (Kp : World → World → Prop) (S Sp : List α → Prop) (N : Nat) (w : World) : Prop :=
  ∀ (l : Nat) (J Jx : List α → World → Prop) (W : World), Below w.heap.size w W → OwnFrom W.heap.size J → OwnFrom W.heap.size Jx →
    (∀ pre x W1, J pre W1 → pre.length < N → YieldAt Fence.wide (n - 1) P l (encs x) W1 fun e W' =>
      (e = .returned (.bool true) ∧ J (pre ++ [x]) W' ∧ Kp W1 W') ∨ (e = .returned (.bool false) ∧ Jx (pre ++ [x]) W' ∧ Kp W1 W')) →
    J [] W →
    CallsIn Fence.wide n P g (#[.func (.yield l) #[] #[]] ++ lb) W fun e W' => (∃ v, e = .returned v) ∧ ((∃ xs, S xs ∧ J xs W') ∨ (∃ pre, Sp pre ∧ Jx pre W'))
section
variable {P : Program} {n : Nat} {w : World}
/-- The law. -/
theorem range_law {α : Type} {g : Operand} {ps : Array Tmp} {assign body : Code} {Q : Exit → Act → World → Prop} {a : Act} (h1 : 1 ≤ n) {gf : Nat} {lb : Array Value} (hg : a.eval g = .func (.func gf) #[] lb)
    (eg : ∀ args w, (callFunc gf args).run P w = .ok (.enter gf args) w) {encs : α → Array Value} {S Sp : List α → Prop} {N : Nat} (hseq : SeqP (n - 1) P gf lb encs (KeepP w.heap.size) S Sp N w) (hps : ∀ x, (encs x).size = ps.size)
    (I : List α → World → Prop) (Ix : Code → List α → World → Prop) (hI : OwnFrom w.heap.size I) (hIx : ∀ c, OwnFrom w.heap.size (Ix c)) (h0 : I [] w) (a₁ : α → Act)
    (hassign : ∀ (l : Nat) (x : α) (W : World) (K : Act → World → Prop), K (a₁ x) W →
      assign.wpIn (Fence.wide.inRound l) (n - 1 - 1) P (Exit.then K (fun _ _ _ => False)) { tmps := (ps.zip (encs x)).foldl (fun t (p, v) => t.setIfInBounds p v) a.tmps, defers := [] } W)
    (hbody : ∀ (l : Nat) (pre : List α) (x : α) (W : World), w.heap.size < l → l < W.heap.size → (∃ r, W.heap[l]? = some (.loop r)) → I pre W → pre.length < N → body.wpIn (Fence.wide.inRound l) (n - 1 - 1) P (roundEnd w.heap.size l I Ix (pre ++ [x]) W) (a₁ x) W)
    (hdone : ∀ (D : Nat) (xs : List α) (W : World), w.heap.size ≤ D → S xs → I xs W → W.heap[D]? = some (.deferred (some [])) → Q .normal { a with defers := { target := .collected D, args := #[] } :: a.defers } W)
    (hstop : ∀ (D : Nat) (c : Code) (pre : List α) (W : World), w.heap.size ≤ D → Sp pre → Ix c pre W → W.heap[D]? = some (.deferred (some [])) → c.wpIn Fence.wide n P Q { a with defers := { target := .collected D, args := #[] } :: a.defers } W) :
    (Code.rangeFunc g ps assign body).wpIn Fence.wide n P Q a w := by
  refine wpIn_rangeFunc ?_
  intro fn hfn
  rw [show Fence.wide.round = none from rfl]
  obtain ⟨M, hM⟩ : ∃ M, M = w.heap.size := ⟨_, rfl⟩
  obtain ⟨rec, hrec⟩ : ∃ rec : LoopState → Option Code → Loop, rec = fun st pe => { state := st, pending := pe, fn, tmps := a.tmps, params := ps, assign, body, defers := M } := ⟨_, rfl⟩
  obtain ⟨W1, hW1⟩ : ∃ W1, W1 = (w.alloc (.deferred (some []))).alloc (.loop (rec .ready none)) := ⟨_, rfl⟩
  have z1 : W1.heap.size = M + 2 := by rw [hW1, hM, World.size_alloc, World.size_alloc]
  have hD1 : W1.heap[M]? = some (.deferred (some [])) := by rw [hW1, hM]; exact (Below.heap_alloc _ _ _ (by simp)).trans (World.alloc_heap_new w _)
  have hL1 : W1.heap[M + 1]? = some (.loop (rec .ready none)) := by
    have := World.alloc_heap_new (w.alloc (.deferred (some []))) (.loop (rec .ready none))
    rw [World.size_alloc] at this
    rw [hW1, hM]; exact this
  have b1 : Below w.heap.size w W1 := by rw [hW1]; exact ((Below.refl _ w).alloc (Nat.le_refl _) _).alloc (by simp) _
  have i1 : I [] W1 := by rw [hW1]; exact hI.alloc _ (hI.alloc _ h0)
  rw [← hM] at hI hIx hseq hbody hdone hstop b1
  refine ⟨M + 1, [{ target := .collected M, args := #[] }], W1, { target := .fn (.func gf) lb, args := #[.func (.yield (M + 1)) #[] #[]] }, W1, gf, #[.func (.yield (M + 1)) #[] #[]] ++ lb, W1, ?_, ?_, ?_, ?_, fun _ => h1, ?_⟩
  · rw [hW1, hrec, hM]
    exact run_enterLoop_outer _ _ _ _ _
  · simp only [resolve, hg]
    simp [go_sem]
  · intro f' hf'
    trivial
  · simp [invoke, go_sem, eg]
  obtain ⟨Kn, hKn⟩ : ∃ Kn : LoopState → Option Code → World → Prop, Kn = fun st pe W => W.heap[M + 1]? = some (.loop (rec st pe)) ∧ W.heap[M]? = some (.deferred (some [])) := ⟨_, rfl⟩
  have kK : ∀ {st pe} {A B : World} {row : Option Nat}, Kn st pe A → A.grownBy B row → (∀ r, row = some r → W1.heap.size ≤ r ∧ ∃ o : Obj, A.heap[r]? = some o ∧ o.isCells = false) → Kn st pe B := by
    intro st pe A B row h hg' hr
    rw [hKn] at h ⊢
    have ne : ∀ k, k < M + 2 → some k ≠ row := fun k hk e => by have := (hr k e.symm).1; omega
    exact ⟨(hg'.block _ (heap_lt h.1) (ne _ (by omega))).trans h.1, (hg'.block _ (heap_lt h.2) (ne _ (by omega))).trans h.2⟩
  have rw_ : ∀ {A : World} {row : Option Nat}, (∀ r, row = some r → W1.heap.size ≤ r ∧ ∃ o : Obj, A.heap[r]? = some o ∧ o.isCells = false) → ∀ r, row = some r → M ≤ r ∧ ∃ o : Obj, A.heap[r]? = some o ∧ o.isCells = false := by
    intro A row hr r e
    obtain ⟨hB, o, ho, hw⟩ := hr r e
    exact ⟨by omega, o, ho, hw⟩
  -- a turn of the record
  have turn : ∀ {st pe st' pe'} {A : World}, Kn st pe A → Kn st' pe' (A.putObj (M + 1) (.loop (rec st' pe'))) := by
    intro st pe st' pe' A h
    rw [hKn] at h ⊢
    exact ⟨World.putObj_heap_same (heap_lt h.1), (World.putObj_heap_other (by omega)).trans h.2⟩
  refine (hseq (M + 1) (fun pre W => I pre W ∧ Kn .ready none W) (fun pre W => ∃ c, Ix c pre W ∧ Kn .done (some c) W) W1 (by rw [← hM]; exact b1)
    (fun s A B row hs hg' hr => ⟨hI s A B row hs.1 hg' (rw_ (A := A) hr), kK hs.2 hg' hr⟩)
    (fun s A B row hs hg' hr => by
      obtain ⟨c, hc, hk⟩ := hs
      exact ⟨c, hIx c s A B row hc hg' (rw_ (A := A) hr), kK hk hg' hr⟩) ?_ ⟨i1, by rw [hKn]; exact ⟨hL1, hD1⟩⟩).mono ?_
  · rintro pre x W ⟨hi, hk⟩ hlen
    have hl : W.heap[M + 1]? = some (.loop (rec .ready none)) := by rw [hKn] at hk; exact hk.1
    have hy := run_yield (P := P) (args := encs x) hl (by rw [hrec]; exact hps x)
    rw [hrec] at hy
    have hk2 : Kn .busy none (W.putObj (M + 1) (.loop (rec .busy none))) := turn hk
    have hl2 : (W.putObj (M + 1) (.loop (rec .busy none))).heap[M + 1]? = some (.loop (rec .busy none)) := by rw [hKn] at hk2; exact hk2.1
    refine ⟨fn, _, assign, body, hy, roundIn_of_wpIn hfn (hassign _ x W _ ⟨W.putObj (M + 1) (.loop (rec .busy none)), ?_, ?_⟩)⟩
    · have := run_beginRound (P := P) hl (by rw [hrec])
      rw [hrec] at this ⊢
      exact this
    refine wpIn_mono (hbody (M + 1) pre x _ (by omega) (heap_lt hl2) ⟨_, hl2⟩ (hI.putObj _ hi (by omega) hl rfl) hlen) ?_
    have fin : ∀ (jump : Option Code) (W3 : World), KeepP M (W.putObj (M + 1) (.loop (rec .busy none))) W3 → W3.heap[M + 1]? = (W.putObj (M + 1) (.loop (rec .busy none))).heap[M + 1]? →
        (Instr.endRound (M + 1) jump).run P W3 = .ok (.bool jump.isNone) (W3.putObj (M + 1) (.loop (rec (if jump.isNone then .ready else .done) jump))) ∧ W3.heap[M + 1]? = some (.loop (rec .busy none)) ∧ Kn (if jump.isNone then .ready else .done) jump (W3.putObj (M + 1) (.loop (rec (if jump.isNone then .ready else .done) jump))) := by
      intro jump W3 kp hl3
      have hl3 := hl3.trans hl2
      have hd3 : W3.heap[M]? = some (.deferred (some [])) := kp.same M _ (Nat.le_refl _) (by rw [hKn] at hk2; exact hk2.2) rfl
      have hr := run_endRound (P := P) jump (w := W3) (l := M + 1) (by rw [hrec] at hl3; exact hl3)
      refine ⟨by rw [hrec]; exact hr, hl3, ?_⟩
      have : Kn .busy none W3 := by rw [hKn]; exact ⟨hl3, hd3⟩
      exact turn this
    have out : ∀ (c : Code) (W3 : World), KeepP M (W.putObj (M + 1) (.loop (rec .busy none))) W3 → W3.heap[M + 1]? = (W.putObj (M + 1) (.loop (rec .busy none))).heap[M + 1]? → Ix c (pre ++ [x]) W3 →
        ∃ c' , Ix c' (pre ++ [x]) (W3.putObj (M + 1) (.loop (rec .done (some c)))) ∧ Kn .done (some c') (W3.putObj (M + 1) (.loop (rec .done (some c)))) := by
      intro c W3 kp hl3 hi3
      obtain ⟨-, hl4, hk4⟩ := fin (some c) W3 kp hl3
      exact ⟨c, (hIx c).putObj _ hi3 (by omega) hl4 rfl, hk4⟩
    have kall : ∀ (jump : Option Code) (W3 : World), KeepP M (W.putObj (M + 1) (.loop (rec .busy none))) W3 → W3.heap[M + 1]? = some (.loop (rec .busy none)) → KeepP M W (W3.putObj (M + 1) (.loop (rec (if jump.isNone then .ready else .done) jump))) := fun jump W3 kp hl4 =>
      ((KeepP.putLoop W (M + 1) _ hl).trans kp).trans (KeepP.putLoop W3 (M + 1) _ hl4)
    rintro e a3 W3 hp
    cases e with
    | normal =>
      obtain ⟨kp, hl3, hi3⟩ := hp
      obtain ⟨hr, hl4, hk4⟩ := fin none W3 kp hl3
      exact ⟨_, _, hr, .inl ⟨rfl, ⟨hI.putObj _ hi3 (by omega) hl4 rfl, hk4⟩, ((KeepP.putLoop W (M + 1) _ hl).trans kp).trans (KeepP.putLoop W3 (M + 1) _ hl4)⟩⟩
    | ret =>
      obtain ⟨kp, hl3, hi3⟩ := hp
      exact ⟨_, _, (fin (some .ret) W3 kp hl3).1, .inr ⟨rfl, out .ret W3 kp hl3 hi3, kall (some .ret) W3 kp (fin (some .ret) W3 kp hl3).2.1⟩⟩
    | exit id =>
      obtain ⟨kp, hl3, hi3⟩ := hp
      exact ⟨_, _, (fin (some (.exit id)) W3 kp hl3).1, .inr ⟨rfl, out (.exit id) W3 kp hl3 hi3, kall (some (.exit id)) W3 kp (fin (some (.exit id)) W3 kp hl3).2.1⟩⟩
    | goto t =>
      obtain ⟨kp, hl3, hi3⟩ := hp
      exact ⟨_, _, (fin (some (.goto t)) W3 kp hl3).1, .inr ⟨rfl, out (.goto t) W3 kp hl3 hi3, kall (some (.goto t)) W3 kp (fin (some (.goto t)) W3 kp hl3).2.1⟩⟩
    | panic ch => exact hp.elim
    | outgrown => exact hp.elim
  · rintro e W2 ⟨⟨v, rfl⟩, (⟨xs, hS, hi, hk⟩ | ⟨pre, hSp, c, hi, hk⟩)⟩
    · rw [hKn] at hk
      have hr := run_endLoop (P := P) hk.1 (by rw [hrec]; simp)
      rw [hrec] at hr
      exact ⟨none, _, hr, hdone M xs _ (Nat.le_refl _) hS (hI.putObj _ hi (by omega) hk.1 rfl) ((World.putObj_heap_other (by omega)).trans hk.2)⟩
    · rw [hKn] at hk
      have hr := run_endLoop (P := P) hk.1 (by rw [hrec]; simp)
      rw [hrec] at hr
      exact ⟨some c, _, hr, hstop M c pre _ (Nat.le_refl _) hSp ((hIx c).putObj _ hi (by omega) hk.1 rfl) ((World.putObj_heap_other (by omega)).trans hk.2)⟩
end
end Go.Proofs.YtfjiphibalhcgaaGreat.Que
