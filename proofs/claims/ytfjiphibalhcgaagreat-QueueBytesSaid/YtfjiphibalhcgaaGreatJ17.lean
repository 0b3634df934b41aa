/-
  Contracts and lemmas, joined: QueueBytesLaw.
-/
import Derived.Deep.CutBlock
import Derived.Test.YtfjiphibalhcgaaGreatJ16
set_option linter.unusedSimpArgs false
set_option linter.unusedVariables false
/-
  The law QueueBytes.
-/
namespace Go.Proofs.YtfjiphibalhcgaaGreat.Que
open Go.RowKit Base Arena Cls Itm
set_option linter.unusedVariables false
set_option linter.unusedSectionVars false

set_option maxRecDepth 100000 in
set_option maxHeartbeats 12800000 in
theorem queueBytesC (W : World) (a0 : Option Addr) (cap : Nat) (l : List Op6) (hP : ∀ (k : Nat) (hk : k < l.length), ORow W a0 k l[k]) (hl : l.length ≤ maxLen) :
    Calls Tryz.prog 9 #[.slice a0 l.length cap] W fun e w' => e = .returned (.bool true) ∧ Below W.heap.size W w' := by
  have WC := Lib.hid wakesC
  have BC := Lib.hid (begunC6 W)
  have HP := Lib.hid hP
  unfold maxLen at hl
  clear hP
  obtain ⟨N, hN⟩ : ∃ N, W.heap.size = N := ⟨_, rfl⟩
  rw [hN] at BC ⊢
  replace hN := Lib.hid hN
  go_enter Tryz.func9, Tryz.ntmps9
  go_wp2_with fail
  refine BC.out.mono ?_
  rintro e w1 ⟨b1, W1, rfl, A1⟩
  have G1 : Goer N W W1.b w1 0 := ⟨W1, _, _, _, _, _, _, _, rfl, b1, A1.hN0, WI.new A1⟩
  generalize W1.b = b at *
  replace G1 := Lib.hid G1
  clear b1 A1 BC
  go_wp2_with fail
  go_loopw [4] (fun vi wr => ∃ i : Nat, vi = .int .i64 (i : Int) ∧ i ≤ l.length ∧ i ≤ 60 ∧ Hid (Goer N W b wr i)) (fun vi _ => l.length - (intOf vi).toNat)
  case atStart => exact ⟨0, rfl, Nat.zero_le _, Nat.zero_le _, G1⟩
  case round =>
    obtain ⟨i, rfl, hi, hi2, G⟩ := hrel
    obtain ⟨W2, s2, bs2, Z2, Ls2, r2, laid2, told2, eb, hB, hNr, T⟩ := G.out
    clear G G1
    by_cases hlt : i < l.length ∧ i < 60
    · obtain ⟨h1, h2⟩ := hlt
      have d1 : decide ((i : Int) < (l.length : Int)) = true := decide_eq_true (by omega)
      have d1' : decide (i < l.length) = true := decide_eq_true h1
      have d2 : decide ((i : Int) < 60) = true := decide_eq_true (by omega)
      have q1 : IntKind.i64.wrap ((i : Int) + 1) = (i : Int) + 1 := IntWalk.i64_in _ (by omega)
      have i0 : (0 : Int) ≤ (i : Int) := by omega
      have i1 : (i : Int) < (l.length : Int) := by omega
      obtain ⟨b0, off, rfl, hbl, ok, O1⟩ := HP.out i h1
      have hbN : b0 < N := by rw [← hN.out]; exact hbl
      generalize l[i] = o at *
      obtain ⟨z0, z1, z2, z3, z4, z5⟩ := O1.below hB hbN
      obtain ⟨w1, hw1⟩ : ∃ w1, w1 = wr.alloc (.cells o.cells 28) := ⟨_, rfl⟩
      have B1 : Blk w1 wr.heap.size 28 o.cells := by rw [hw1]; exact Blk.new wr _ _
      have b1 : Below wr.heap.size wr w1 := by rw [hw1]; exact (Below.refl _ _).alloc (Nat.le_refl _) _
      have T1 := T.below b1
      have hB1 := Lib.hid (hB.trans (b1.mono hNr))
      have wasLt : ∀ j d, W2.foot qc s2 j d → d < w1.heap.size := fun j d e => T1.wat.lt j d e
      have hNs : N ≤ w1.heap.size := Nat.le_trans hNr b1.size
      have fM : ∀ j, ¬ W2.foot qc s2 j wr.heap.size := fun j e => by have := T.wat.lt j _ e; omega
      obtain ⟨M, hM⟩ : ∃ M, M = wr.heap.size := ⟨_, rfl⟩
      rw [← hM] at B1 fM
      unfold Op6.cells at hw1
      replace hw1 := Lib.hid hw1
      replace hM := Lib.hid hM
      replace wasLt := Lib.hid wasLt
      replace hNs := Lib.hid hNs
      obtain ⟨x0, x1, x2, x3, x4, x5⟩ := op6_cells B1
      have GN := fun w' (G : Goes N w1 w' W2 s2 (i + 1)) => Goer.next T1 hB1.out G
      rw [eb] at GN
      replace GN := Lib.hid GN
      clear HP T hB hbl O1 hNr b1
      go_upto_region 8 with fail
      rw [← hM.out, ← hw1.out]
      clear z0 z1 z2 z3 z4 z5 hw1
      by_cases hd13 : 1 ≤ o.dO ∧ o.dO ≤ 3
      · obtain ⟨e1, e3⟩ := hd13
        have g1 : decide (1 ≤ o.dO) = true := decide_eq_true e1
        have g3 : decide (o.dO ≤ 3) = true := decide_eq_true e3
        have DC := doesC T1 (by omega) o ok
        rw [eb] at DC
        unfold Op6.cells at DC
        replace DC := Lib.hid DC
        clear T1 B1 fM ok
        go_wp2_with fail
        refine DC.out.mono ?_
        rintro e w3 ⟨rfl, G⟩
        have G3 := Lib.hid (GN.out _ G)
        clear G DC GN x0 x1 x2 x3 x4 x5
        go_wp2
        go_roundw
        case rel => exact ⟨i + 1, by simp, by omega, by omega, G3⟩
        case measure => simp [intOf] <;> omega
      · have g13 : decide (1 ≤ o.dO) = false ∨ decide (1 ≤ o.dO) = true ∧ decide (o.dO ≤ 3) = false := by
          by_cases e : 1 ≤ o.dO
          · exact .inr ⟨decide_eq_true e, decide_eq_false (by omega)⟩
          · exact .inl (decide_eq_false e)
        have IC := imagesC T1.wat.set (T1.mv (by omega)).1
        rw [eb] at IC
        replace IC := Lib.hid IC
        go_cut [34] from 27 to 34 (fun s34 wx => s34 = .bool false ∧ w1 = wx)
        case first =>
          rcases g13 with g1 | ⟨g1, g3⟩
          · go_wp2_with fail
            go_meet
            exact ⟨rfl, rfl⟩
          · go_wp2_with fail
            go_meet
            exact ⟨rfl, rfl⟩
        case rest =>
          obtain ⟨rfl, rfl⟩ := hcut
          go_wp2_with fail
          refine IC.out.mono ?_
          rintro e w2 ⟨A, cpa, rfl, b2, own2⟩
          have T2 := T1.below b2
          have HC := handleC T2 (by omega) o ok
          have hH := hdN_lt T2.tlt ok
          have hG := otN_lt T2.tlt o
          rw [eb] at HC
          unfold Op6.cells at HC
          replace HC := Lib.hid HC
          have B2 := B1.below b2 B1.lt
          clear x0 x1 x2 x3 x4 x5
          obtain ⟨x0, x1, x2, x3, x4, x5⟩ := op6_cells B2
          replace T2 := Lib.hid T2
          replace B2 := Lib.hid B2
          replace b2 := Lib.hid b2
          replace own2 := Lib.hid own2
          clear IC T1 B1
          go_wp2_with fail
          refine HC.out.mono ?_
          rintro e w3 ⟨rfl, b3⟩
          have T3 := T2.out.below b3
          have B3 := B2.out.below b3 B2.out.lt
          have own3 := own_keptN own2.out fun d e => b3.block d (own_blockN own2.out e)
          have wb3 : ∀ d, (Value.slice A 16384 cpa).ownBlock = some d → ∀ j, ¬ W2.foot qc s2 j d := fun d e j hf => by
            have h1 := own_base own2.out e
            have h3 := wasLt.out j d hf
            omega
          have hB3 : Below N W w3 := hB1.out.trans ((b2.out.mono hNs.out).trans (b3.mono (Nat.le_trans hNs.out b2.out.size)))
          have OC := fun wv (b : Below w3.heap.size w3 wv) => otherC (T3.below b) (by omega) o ok
          have LK := looksC T3 (by omega) o.a o.b
          have NX := fun wv (b : Below w3.heap.size w3 wv) => lnextC (T3.below b) (by omega) (hdN told2 o) hH
          have AL := fun wv (b : Below w3.heap.size w3 wv) => allLawC (T3.below b) (by omega) o.a o.b
          rw [eb] at OC LK NX AL
          clear x0 x1 x2 x3 x4 x5
          obtain ⟨x0, x1, x2, x3, x4, x5⟩ := op6_cells B3
          generalize hdN told2 o = H at *
          generalize hoG : otN told2 o = G at *
          replace hoG := Lib.hid hoG
          replace T3 := Lib.hid T3
          obtain ⟨y0, y1, y3⟩ := T3.out.mv (by omega)
          rw [eb] at y0 y1 y3
          replace B3 := Lib.hid B3
          go_upto_block 2 with fail
          go_cut [8] from 46 to 160 (fun s8 wx => ∃ EE : Int, s8 = .int .i64 EE ∧ Hid (QBA N w3 wx W2 s2 bs2 r2 laid2 told2 i EE))
          case first =>
            by_cases e4 : o.dO = 4
            · obtain ⟨RR, BB⟩ := bothPush T3.out (by omega) hH o.b
              have t4 : (o.dO == 4) = true := by simpa using e4
              have u4 : decide (o.dO = 4) = true := decide_eq_true e4
              have t5 : (o.dO == 5) = false := by rw [beq_eq_false_iff_ne]; omega
              have u5 : decide (o.dO = 5) = false := decide_eq_false (by omega)
              have t6 : (o.dO == 6) = false := by rw [beq_eq_false_iff_ne]; omega
              have u6 : decide (o.dO = 6) = false := decide_eq_false (by omega)
              have t7 : (o.dO == 7) = false := by rw [beq_eq_false_iff_ne]; omega
              have u7 : decide (o.dO = 7) = false := decide_eq_false (by omega)
              have t12 : (o.dO == 12) = false := by rw [beq_eq_false_iff_ne]; omega
              have u12 : decide (o.dO = 12) = false := decide_eq_false (by omega)
              clear e4
              replace BB := Lib.hid BB
              clear LK NX AL
              go_upto_region 19 with fail
              obtain ⟨w5, hw5⟩ : ∃ w5, w5 = w3.drew := ⟨_, rfl⟩
              have b5 : Below w3.heap.size w3 w5 := by rw [hw5]; exact below_drewN (Below.refl _ _) 1
              have PB := BB.out w5 b5
              have B5 := Lib.hid (B3.out.below b5 B3.out.lt)
              have S5 : w5.cell? ⟨b, 1, none⟩ = some (.pointer (some ⟨W2.gq, 0, none⟩)) ∧ w5.cell? ⟨M, 2, none⟩ = some (.int .i64 o.b) := by
                obtain ⟨-, s1, -⟩ := (T3.out.below b5).mv (by omega)
                rw [eb] at s1
                exact ⟨s1, B5.out.cell 2⟩
              replace PB := Lib.hid PB
              clear b5 BB x0 x1 x2 x3 x4 x5 y0 y1 y3
              refine wp_region_noPanic ?_
              refine wp_region_held_drew (S := fun v => v.cell? ⟨b, 1, none⟩ = some (.pointer (some ⟨W2.gq, 0, none⟩)) ∧ v.cell? ⟨M, 2, none⟩ = some (.int .i64 o.b)) (by kernel_rfl) (by rw [← hw5]; exact S5) (fun hHeld => ?_)
              rw [← hw5] at hHeld ⊢
              clear hw5
              refine wpAnyH_take (i := 0) (oi := _) (v := ?_) rfl (by kernel_rfl) (by kernel_rfl) (by kernel_rfl) (fun _ _ _ h => h) (Or.inl ⟨by rfl, ?_⟩) (by assumption) ?_
              rotate_left
              · try simp only [List.getElem_toArray, List.getElem_cons_succ, List.getElem_cons_zero]
                rintro w ⟨hS1, hS2⟩
                go_simp
                (try with_reducible rfl)
              try simp only [List.getElem_toArray, List.getElem_cons_succ, List.getElem_cons_zero, Act.put, List.setIfInBounds_toArray, List.set_cons_zero, List.set_cons_succ]
              refine wpAnyH_take (i := 1) (oi := _) (v := ?_) rfl (by kernel_rfl) (by kernel_rfl) (by kernel_rfl) (fun _ _ _ h => h) (Or.inl ⟨by rfl, ?_⟩) (by assumption) ?_
              rotate_left
              · try simp only [List.getElem_toArray, List.getElem_cons_succ, List.getElem_cons_zero]
                rintro w ⟨hS1, hS2⟩
                go_simp
                (try with_reducible rfl)
              try simp only [List.getElem_toArray, List.getElem_cons_succ, List.getElem_cons_zero, Act.put, List.setIfInBounds_toArray, List.set_cons_zero, List.set_cons_succ]
              refine wpAnyH_take (i := 2) (oi := _) (v := ?_) rfl (by kernel_rfl) (by kernel_rfl) (by kernel_rfl) (fun _ _ _ h => h) (Or.inl ⟨by rfl, ?_⟩) (by assumption) ?_
              rotate_left
              · try simp only [List.getElem_toArray, List.getElem_cons_succ, List.getElem_cons_zero]
                rintro w ⟨hS1, hS2⟩
                go_simp
                (try with_reducible rfl)
              try simp only [List.getElem_toArray, List.getElem_cons_succ, List.getElem_cons_zero, Act.put, List.setIfInBounds_toArray, List.set_cons_zero, List.set_cons_succ]
              refine wpAnyH_take (i := 3) (oi := _) (v := ?_) rfl (by kernel_rfl) (by kernel_rfl) (by kernel_rfl) (fun _ _ _ h => h) (Or.inl ⟨by rfl, ?_⟩) (by assumption) ?_
              rotate_left
              · try simp only [List.getElem_toArray, List.getElem_cons_succ, List.getElem_cons_zero]
                rintro w ⟨hS1, hS2⟩
                go_simp
                (try with_reducible rfl)
              try simp only [List.getElem_toArray, List.getElem_cons_succ, List.getElem_cons_zero, Act.put, List.setIfInBounds_toArray, List.set_cons_zero, List.set_cons_succ]
              refine wpAnyH_take (i := 4) (oi := _) (v := ?_) rfl (by kernel_rfl) (by kernel_rfl) (by kernel_rfl) (fun _ _ _ h => h) (Or.inl ⟨by rfl, ?_⟩) (by assumption) ?_
              rotate_left
              · try simp only [List.getElem_toArray, List.getElem_cons_succ, List.getElem_cons_zero]
                rintro w ⟨hS1, hS2⟩
                go_simp
                (try with_reducible rfl)
              try simp only [List.getElem_toArray, List.getElem_cons_succ, List.getElem_cons_zero, Act.put, List.setIfInBounds_toArray, List.set_cons_zero, List.set_cons_succ]
              refine wpAnyH_take (i := 5) (oi := _) (v := ?_) rfl (by kernel_rfl) (by kernel_rfl) (by kernel_rfl) (fun _ _ _ h => h) (Or.inl ⟨by rfl, ?_⟩) (by assumption) ?_
              rotate_left
              · try simp only [List.getElem_toArray, List.getElem_cons_succ, List.getElem_cons_zero]
                rintro w ⟨hS1, hS2⟩
                go_simp
                (try with_reducible rfl)
              try simp only [List.getElem_toArray, List.getElem_cons_succ, List.getElem_cons_zero, Act.put, List.setIfInBounds_toArray, List.set_cons_zero, List.set_cons_succ]
              refine wpAnyH_take (i := 6) (oi := _) (v := ?_) rfl (by kernel_rfl) (by kernel_rfl) (by kernel_rfl) (fun _ _ _ h => h) (Or.inl ⟨by rfl, ?_⟩) (by assumption) ?_
              rotate_left
              · try simp only [List.getElem_toArray, List.getElem_cons_succ, List.getElem_cons_zero]
                rintro w ⟨hS1, hS2⟩
                go_simp
                (try with_reducible rfl)
              try simp only [List.getElem_toArray, List.getElem_cons_succ, List.getElem_cons_zero, Act.put, List.setIfInBounds_toArray, List.set_cons_zero, List.set_cons_succ]
              refine wpAnyH_ready (rs := [7]) (by kernel_rfl) (by simp) ?_
              refine AllReadyH.cons (o := _) rfl (fun K hK => ?_) ?_
              · try simp only [List.getElem_toArray, List.getElem_cons_succ, List.getElem_cons_zero]
                go_simp
                go_at_call 22
                refine PB.out.mono ?_
                rintro e v ⟨rfl, ⟨m0, m1, m3⟩, kv, -, DC⟩
                have Bv : Blk v M 28 o.cells := (kv M B5.out.lt fM).trans B5.out
                rw [eb] at m0 m1 m3
                have m2 := Bv.cell 2
                have v0 := Bv.cell 0
                have NU := Lib.hid (numC6 v RR)
                replace DC := Lib.hid DC
                have fv := Bv.lt
                replace Bv := Lib.hid Bv
                clear kv PB
                go_wp2_with fail
                have S6 : v.cell? ⟨b, 1, none⟩ = some (.pointer (some ⟨W2.gq, 0, none⟩)) ∧ v.cell? ⟨M, 2, none⟩ = some (.int .i64 o.b) := ⟨m1, m2⟩
                refine hK.out _ _ S6 (fun hHeld => ?_)
                clear hK K hHeld
                try simp only [List.getElem_toArray, List.getElem_cons_succ, List.getElem_cons_zero, Act.put, List.setIfInBounds_toArray, List.set_cons_zero, List.set_cons_succ]
                refine wpAnyH_ready (rs := [8]) (by kernel_rfl) (by simp) ?_
                refine AllReadyH.cons (o := _) rfl (fun K hK => ?_) ?_
                · try simp only [List.getElem_toArray, List.getElem_cons_succ, List.getElem_cons_zero]
                  go_simp
                  go_at_call 14
                  refine NU.out.mono ?_
                  rintro e w' ⟨rfl, rfl⟩
                  go_wp2_with fail
                  refine hK.out _ _ S6 (fun hHeld => ?_)
                  clear hK K hHeld
                  try simp only [List.getElem_toArray, List.getElem_cons_succ, List.getElem_cons_zero, Act.put, List.setIfInBounds_toArray, List.set_cons_zero, List.set_cons_succ]
                  refine wpAnyH_take (i := 9) (oi := _) (v := ?_) rfl (by kernel_rfl) (by kernel_rfl) (by kernel_rfl) (fun _ _ _ h => h) (Or.inl ⟨by rfl, ?_⟩) (by assumption) ?_
                  rotate_left
                  · try simp only [List.getElem_toArray, List.getElem_cons_succ, List.getElem_cons_zero]
                    rintro w ⟨hS1, hS2⟩
                    go_simp
                    (try with_reducible rfl)
                  try simp only [List.getElem_toArray, List.getElem_cons_succ, List.getElem_cons_zero, Act.put, List.setIfInBounds_toArray, List.set_cons_zero, List.set_cons_succ]
                  refine wpAnyH_done (by kernel_rfl) ?_ _
                  refine NoPanic.normal ?_
                  go_upto_region 20 with fail
                  obtain ⟨w7, hw7⟩ : ∃ w7, w7 = v.drew := ⟨_, rfl⟩
                  have b7 : Below v.heap.size v w7 := by rw [hw7]; exact below_drewN (Below.refl _ _) 1
                  have DC7 := Lib.hid (DC.out w7 b7)
                  have S7 : w7.cell? ⟨b, 3, none⟩ = some (.pointer (some ⟨W2.R.b, 0, none⟩)) ∧ w7.cell? ⟨M, 2, none⟩ = some (.int .i64 o.b) := ⟨by rw [hw7]; exact m3, by rw [hw7]; exact m2⟩
                  clear b7 DC S6 m0 m1 m2 m3 v0
                  refine wp_region_noPanic ?_
                  refine wp_region_held_drew (S := fun v => v.cell? ⟨b, 3, none⟩ = some (.pointer (some ⟨W2.R.b, 0, none⟩)) ∧ v.cell? ⟨M, 2, none⟩ = some (.int .i64 o.b)) (by kernel_rfl) (by rw [← hw7]; exact S7) (fun hHeld => ?_)
                  rw [← hw7] at hHeld ⊢
                  clear hw7
                  refine wpAnyH_take (i := 0) (oi := _) (v := ?_) rfl (by kernel_rfl) (by kernel_rfl) (by kernel_rfl) (fun _ _ _ h => h) (Or.inl ⟨by rfl, ?_⟩) (by assumption) ?_
                  rotate_left
                  · try simp only [List.getElem_toArray, List.getElem_cons_succ, List.getElem_cons_zero]
                    rintro w ⟨hS1, hS2⟩
                    go_simp
                    (try with_reducible rfl)
                  try simp only [List.getElem_toArray, List.getElem_cons_succ, List.getElem_cons_zero, Act.put, List.setIfInBounds_toArray, List.set_cons_zero, List.set_cons_succ]
                  refine wpAnyH_take (i := 1) (oi := _) (v := ?_) rfl (by kernel_rfl) (by kernel_rfl) (by kernel_rfl) (fun _ _ _ h => h) (Or.inl ⟨by rfl, ?_⟩) (by assumption) ?_
                  rotate_left
                  · try simp only [List.getElem_toArray, List.getElem_cons_succ, List.getElem_cons_zero]
                    rintro w ⟨hS1, hS2⟩
                    go_simp
                    (try with_reducible rfl)
                  try simp only [List.getElem_toArray, List.getElem_cons_succ, List.getElem_cons_zero, Act.put, List.setIfInBounds_toArray, List.set_cons_zero, List.set_cons_succ]
                  refine wpAnyH_take (i := 2) (oi := _) (v := ?_) rfl (by kernel_rfl) (by kernel_rfl) (by kernel_rfl) (fun _ _ _ h => h) (Or.inl ⟨by rfl, ?_⟩) (by assumption) ?_
                  rotate_left
                  · try simp only [List.getElem_toArray, List.getElem_cons_succ, List.getElem_cons_zero]
                    rintro w ⟨hS1, hS2⟩
                    go_simp
                    (try with_reducible rfl)
                  try simp only [List.getElem_toArray, List.getElem_cons_succ, List.getElem_cons_zero, Act.put, List.setIfInBounds_toArray, List.set_cons_zero, List.set_cons_succ]
                  refine wpAnyH_take (i := 3) (oi := _) (v := ?_) rfl (by kernel_rfl) (by kernel_rfl) (by kernel_rfl) (fun _ _ _ h => h) (Or.inl ⟨by rfl, ?_⟩) (by assumption) ?_
                  rotate_left
                  · try simp only [List.getElem_toArray, List.getElem_cons_succ, List.getElem_cons_zero]
                    rintro w ⟨hS1, hS2⟩
                    go_simp
                    (try with_reducible rfl)
                  try simp only [List.getElem_toArray, List.getElem_cons_succ, List.getElem_cons_zero, Act.put, List.setIfInBounds_toArray, List.set_cons_zero, List.set_cons_succ]
                  refine wpAnyH_take (i := 4) (oi := _) (v := ?_) rfl (by kernel_rfl) (by kernel_rfl) (by kernel_rfl) (fun _ _ _ h => h) (Or.inl ⟨by rfl, ?_⟩) (by assumption) ?_
                  rotate_left
                  · try simp only [List.getElem_toArray, List.getElem_cons_succ, List.getElem_cons_zero]
                    rintro w ⟨hS1, hS2⟩
                    go_simp
                    (try with_reducible rfl)
                  try simp only [List.getElem_toArray, List.getElem_cons_succ, List.getElem_cons_zero, Act.put, List.setIfInBounds_toArray, List.set_cons_zero, List.set_cons_succ]
                  refine wpAnyH_take (i := 5) (oi := _) (v := ?_) rfl (by kernel_rfl) (by kernel_rfl) (by kernel_rfl) (fun _ _ _ h => h) (Or.inl ⟨by rfl, ?_⟩) (by assumption) ?_
                  rotate_left
                  · try simp only [List.getElem_toArray, List.getElem_cons_succ, List.getElem_cons_zero]
                    rintro w ⟨hS1, hS2⟩
                    go_simp
                    (try with_reducible rfl)
                  try simp only [List.getElem_toArray, List.getElem_cons_succ, List.getElem_cons_zero, Act.put, List.setIfInBounds_toArray, List.set_cons_zero, List.set_cons_succ]
                  refine wpAnyH_take (i := 6) (oi := _) (v := ?_) rfl (by kernel_rfl) (by kernel_rfl) (by kernel_rfl) (fun _ _ _ h => h) (Or.inl ⟨by rfl, ?_⟩) (by assumption) ?_
                  rotate_left
                  · try simp only [List.getElem_toArray, List.getElem_cons_succ, List.getElem_cons_zero]
                    rintro w ⟨hS1, hS2⟩
                    go_simp
                    (try with_reducible rfl)
                  try simp only [List.getElem_toArray, List.getElem_cons_succ, List.getElem_cons_zero, Act.put, List.setIfInBounds_toArray, List.set_cons_zero, List.set_cons_succ]
                  refine wpAnyH_ready (rs := [7]) (by kernel_rfl) (by simp) ?_
                  refine AllReadyH.cons (o := _) rfl (fun K hK => ?_) ?_
                  · try simp only [List.getElem_toArray, List.getElem_cons_succ, List.getElem_cons_zero]
                    go_simp
                    go_at_call 32
                    refine DC7.out.mono ?_
                    rintro e v6 ⟨rfl, G6⟩
                    have G6 := QBA.of G6
                    have S8 : v6.cell? ⟨b, 3, none⟩ = some (.pointer (some ⟨W2.R.b, 0, none⟩)) ∧ v6.cell? ⟨M, 2, none⟩ = some (.int .i64 o.b) := by
                      obtain ⟨bs', Z', R', Ls', eR, GG, -, -, TT⟩ := G6
                      obtain ⟨-, -, s3⟩ := TT.mv (by omega)
                      rw [← eb, ← eR]
                      exact ⟨s3, (show Blk v6 M 28 o.cells from (GG.away B3.out.lt fM).1.trans B3.out).cell 2⟩
                    replace G6 := Lib.hid G6
                    go_wp2_with fail
                    refine hK.out _ _ S8 (fun hHeld => ?_)
                    clear hK K hHeld S8
                    try simp only [List.getElem_toArray, List.getElem_cons_succ, List.getElem_cons_zero, Act.put, List.setIfInBounds_toArray, List.set_cons_zero, List.set_cons_succ]
                    refine wpAnyH_done (by kernel_rfl) ?_ _
                    refine NoPanic.normal ?_
                    go_wp2_with fail
                    go_meet
                    exact ⟨_, rfl, G6⟩
                  exact AllReadyH.nil
                exact AllReadyH.nil
              exact AllReadyH.nil
            by_cases e5 : o.dO = 5
            · obtain ⟨RR, BB⟩ := bothLast T3.out (by omega) hH o.b
              have t5 : (o.dO == 5) = true := by simpa using e5
              have u5 : decide (o.dO = 5) = true := decide_eq_true e5
              have t4 : (o.dO == 4) = false := by rw [beq_eq_false_iff_ne]; omega
              have u4 : decide (o.dO = 4) = false := decide_eq_false (by omega)
              have t6 : (o.dO == 6) = false := by rw [beq_eq_false_iff_ne]; omega
              have u6 : decide (o.dO = 6) = false := decide_eq_false (by omega)
              have t7 : (o.dO == 7) = false := by rw [beq_eq_false_iff_ne]; omega
              have u7 : decide (o.dO = 7) = false := decide_eq_false (by omega)
              have t12 : (o.dO == 12) = false := by rw [beq_eq_false_iff_ne]; omega
              have u12 : decide (o.dO = 12) = false := decide_eq_false (by omega)
              clear e5
              replace BB := Lib.hid BB
              clear LK NX AL
              go_upto_region 22 with fail
              obtain ⟨w5, hw5⟩ : ∃ w5, w5 = w3.drew := ⟨_, rfl⟩
              have b5 : Below w3.heap.size w3 w5 := by rw [hw5]; exact below_drewN (Below.refl _ _) 1
              have PB := BB.out w5 b5
              have B5 := Lib.hid (B3.out.below b5 B3.out.lt)
              have S5 : w5.cell? ⟨b, 1, none⟩ = some (.pointer (some ⟨W2.gq, 0, none⟩)) ∧ w5.cell? ⟨M, 2, none⟩ = some (.int .i64 o.b) := by
                obtain ⟨-, s1, -⟩ := (T3.out.below b5).mv (by omega)
                rw [eb] at s1
                exact ⟨s1, B5.out.cell 2⟩
              replace PB := Lib.hid PB
              clear b5 BB x0 x1 x2 x3 x4 x5 y0 y1 y3
              refine wp_region_noPanic ?_
              refine wp_region_held_drew (S := fun v => v.cell? ⟨b, 1, none⟩ = some (.pointer (some ⟨W2.gq, 0, none⟩)) ∧ v.cell? ⟨M, 2, none⟩ = some (.int .i64 o.b)) (by kernel_rfl) (by rw [← hw5]; exact S5) (fun hHeld => ?_)
              rw [← hw5] at hHeld ⊢
              clear hw5
              refine wpAnyH_take (i := 0) (oi := _) (v := ?_) rfl (by kernel_rfl) (by kernel_rfl) (by kernel_rfl) (fun _ _ _ h => h) (Or.inl ⟨by rfl, ?_⟩) (by assumption) ?_
              rotate_left
              · try simp only [List.getElem_toArray, List.getElem_cons_succ, List.getElem_cons_zero]
                rintro w ⟨hS1, hS2⟩
                go_simp
                (try with_reducible rfl)
              try simp only [List.getElem_toArray, List.getElem_cons_succ, List.getElem_cons_zero, Act.put, List.setIfInBounds_toArray, List.set_cons_zero, List.set_cons_succ]
              refine wpAnyH_take (i := 1) (oi := _) (v := ?_) rfl (by kernel_rfl) (by kernel_rfl) (by kernel_rfl) (fun _ _ _ h => h) (Or.inl ⟨by rfl, ?_⟩) (by assumption) ?_
              rotate_left
              · try simp only [List.getElem_toArray, List.getElem_cons_succ, List.getElem_cons_zero]
                rintro w ⟨hS1, hS2⟩
                go_simp
                (try with_reducible rfl)
              try simp only [List.getElem_toArray, List.getElem_cons_succ, List.getElem_cons_zero, Act.put, List.setIfInBounds_toArray, List.set_cons_zero, List.set_cons_succ]
              refine wpAnyH_take (i := 2) (oi := _) (v := ?_) rfl (by kernel_rfl) (by kernel_rfl) (by kernel_rfl) (fun _ _ _ h => h) (Or.inl ⟨by rfl, ?_⟩) (by assumption) ?_
              rotate_left
              · try simp only [List.getElem_toArray, List.getElem_cons_succ, List.getElem_cons_zero]
                rintro w ⟨hS1, hS2⟩
                go_simp
                (try with_reducible rfl)
              try simp only [List.getElem_toArray, List.getElem_cons_succ, List.getElem_cons_zero, Act.put, List.setIfInBounds_toArray, List.set_cons_zero, List.set_cons_succ]
              refine wpAnyH_take (i := 3) (oi := _) (v := ?_) rfl (by kernel_rfl) (by kernel_rfl) (by kernel_rfl) (fun _ _ _ h => h) (Or.inl ⟨by rfl, ?_⟩) (by assumption) ?_
              rotate_left
              · try simp only [List.getElem_toArray, List.getElem_cons_succ, List.getElem_cons_zero]
                rintro w ⟨hS1, hS2⟩
                go_simp
                (try with_reducible rfl)
              try simp only [List.getElem_toArray, List.getElem_cons_succ, List.getElem_cons_zero, Act.put, List.setIfInBounds_toArray, List.set_cons_zero, List.set_cons_succ]
              refine wpAnyH_take (i := 4) (oi := _) (v := ?_) rfl (by kernel_rfl) (by kernel_rfl) (by kernel_rfl) (fun _ _ _ h => h) (Or.inl ⟨by rfl, ?_⟩) (by assumption) ?_
              rotate_left
              · try simp only [List.getElem_toArray, List.getElem_cons_succ, List.getElem_cons_zero]
                rintro w ⟨hS1, hS2⟩
                go_simp
                (try with_reducible rfl)
              try simp only [List.getElem_toArray, List.getElem_cons_succ, List.getElem_cons_zero, Act.put, List.setIfInBounds_toArray, List.set_cons_zero, List.set_cons_succ]
              refine wpAnyH_take (i := 5) (oi := _) (v := ?_) rfl (by kernel_rfl) (by kernel_rfl) (by kernel_rfl) (fun _ _ _ h => h) (Or.inl ⟨by rfl, ?_⟩) (by assumption) ?_
              rotate_left
              · try simp only [List.getElem_toArray, List.getElem_cons_succ, List.getElem_cons_zero]
                rintro w ⟨hS1, hS2⟩
                go_simp
                (try with_reducible rfl)
              try simp only [List.getElem_toArray, List.getElem_cons_succ, List.getElem_cons_zero, Act.put, List.setIfInBounds_toArray, List.set_cons_zero, List.set_cons_succ]
              refine wpAnyH_take (i := 6) (oi := _) (v := ?_) rfl (by kernel_rfl) (by kernel_rfl) (by kernel_rfl) (fun _ _ _ h => h) (Or.inl ⟨by rfl, ?_⟩) (by assumption) ?_
              rotate_left
              · try simp only [List.getElem_toArray, List.getElem_cons_succ, List.getElem_cons_zero]
                rintro w ⟨hS1, hS2⟩
                go_simp
                (try with_reducible rfl)
              try simp only [List.getElem_toArray, List.getElem_cons_succ, List.getElem_cons_zero, Act.put, List.setIfInBounds_toArray, List.set_cons_zero, List.set_cons_succ]
              refine wpAnyH_ready (rs := [7]) (by kernel_rfl) (by simp) ?_
              refine AllReadyH.cons (o := _) rfl (fun K hK => ?_) ?_
              · try simp only [List.getElem_toArray, List.getElem_cons_succ, List.getElem_cons_zero]
                go_simp
                go_at_call 23
                refine PB.out.mono ?_
                rintro e v ⟨rfl, ⟨m0, m1, m3⟩, kv, -, DC⟩
                have Bv : Blk v M 28 o.cells := (kv M B5.out.lt fM).trans B5.out
                rw [eb] at m0 m1 m3
                have m2 := Bv.cell 2
                have v0 := Bv.cell 0
                have NU := Lib.hid (numC6 v RR)
                replace DC := Lib.hid DC
                have fv := Bv.lt
                replace Bv := Lib.hid Bv
                clear kv PB
                go_wp2_with fail
                have S6 : v.cell? ⟨b, 1, none⟩ = some (.pointer (some ⟨W2.gq, 0, none⟩)) ∧ v.cell? ⟨M, 2, none⟩ = some (.int .i64 o.b) := ⟨m1, m2⟩
                refine hK.out _ _ S6 (fun hHeld => ?_)
                clear hK K hHeld
                try simp only [List.getElem_toArray, List.getElem_cons_succ, List.getElem_cons_zero, Act.put, List.setIfInBounds_toArray, List.set_cons_zero, List.set_cons_succ]
                refine wpAnyH_ready (rs := [8]) (by kernel_rfl) (by simp) ?_
                refine AllReadyH.cons (o := _) rfl (fun K hK => ?_) ?_
                · try simp only [List.getElem_toArray, List.getElem_cons_succ, List.getElem_cons_zero]
                  go_simp
                  go_at_call 14
                  refine NU.out.mono ?_
                  rintro e w' ⟨rfl, rfl⟩
                  go_wp2_with fail
                  refine hK.out _ _ S6 (fun hHeld => ?_)
                  clear hK K hHeld
                  try simp only [List.getElem_toArray, List.getElem_cons_succ, List.getElem_cons_zero, Act.put, List.setIfInBounds_toArray, List.set_cons_zero, List.set_cons_succ]
                  refine wpAnyH_take (i := 9) (oi := _) (v := ?_) rfl (by kernel_rfl) (by kernel_rfl) (by kernel_rfl) (fun _ _ _ h => h) (Or.inl ⟨by rfl, ?_⟩) (by assumption) ?_
                  rotate_left
                  · try simp only [List.getElem_toArray, List.getElem_cons_succ, List.getElem_cons_zero]
                    rintro w ⟨hS1, hS2⟩
                    go_simp
                    (try with_reducible rfl)
                  try simp only [List.getElem_toArray, List.getElem_cons_succ, List.getElem_cons_zero, Act.put, List.setIfInBounds_toArray, List.set_cons_zero, List.set_cons_succ]
                  refine wpAnyH_done (by kernel_rfl) ?_ _
                  refine NoPanic.normal ?_
                  go_upto_region 23 with fail
                  obtain ⟨w7, hw7⟩ : ∃ w7, w7 = v.drew := ⟨_, rfl⟩
                  have b7 : Below v.heap.size v w7 := by rw [hw7]; exact below_drewN (Below.refl _ _) 1
                  have DC7 := Lib.hid (DC.out w7 b7)
                  have S7 : w7.cell? ⟨b, 3, none⟩ = some (.pointer (some ⟨W2.R.b, 0, none⟩)) ∧ w7.cell? ⟨M, 2, none⟩ = some (.int .i64 o.b) := ⟨by rw [hw7]; exact m3, by rw [hw7]; exact m2⟩
                  clear b7 DC S6 m0 m1 m2 m3 v0
                  refine wp_region_noPanic ?_
                  refine wp_region_held_drew (S := fun v => v.cell? ⟨b, 3, none⟩ = some (.pointer (some ⟨W2.R.b, 0, none⟩)) ∧ v.cell? ⟨M, 2, none⟩ = some (.int .i64 o.b)) (by kernel_rfl) (by rw [← hw7]; exact S7) (fun hHeld => ?_)
                  rw [← hw7] at hHeld ⊢
                  clear hw7
                  refine wpAnyH_take (i := 0) (oi := _) (v := ?_) rfl (by kernel_rfl) (by kernel_rfl) (by kernel_rfl) (fun _ _ _ h => h) (Or.inl ⟨by rfl, ?_⟩) (by assumption) ?_
                  rotate_left
                  · try simp only [List.getElem_toArray, List.getElem_cons_succ, List.getElem_cons_zero]
                    rintro w ⟨hS1, hS2⟩
                    go_simp
                    (try with_reducible rfl)
                  try simp only [List.getElem_toArray, List.getElem_cons_succ, List.getElem_cons_zero, Act.put, List.setIfInBounds_toArray, List.set_cons_zero, List.set_cons_succ]
                  refine wpAnyH_take (i := 1) (oi := _) (v := ?_) rfl (by kernel_rfl) (by kernel_rfl) (by kernel_rfl) (fun _ _ _ h => h) (Or.inl ⟨by rfl, ?_⟩) (by assumption) ?_
                  rotate_left
                  · try simp only [List.getElem_toArray, List.getElem_cons_succ, List.getElem_cons_zero]
                    rintro w ⟨hS1, hS2⟩
                    go_simp
                    (try with_reducible rfl)
                  try simp only [List.getElem_toArray, List.getElem_cons_succ, List.getElem_cons_zero, Act.put, List.setIfInBounds_toArray, List.set_cons_zero, List.set_cons_succ]
                  refine wpAnyH_take (i := 2) (oi := _) (v := ?_) rfl (by kernel_rfl) (by kernel_rfl) (by kernel_rfl) (fun _ _ _ h => h) (Or.inl ⟨by rfl, ?_⟩) (by assumption) ?_
                  rotate_left
                  · try simp only [List.getElem_toArray, List.getElem_cons_succ, List.getElem_cons_zero]
                    rintro w ⟨hS1, hS2⟩
                    go_simp
                    (try with_reducible rfl)
                  try simp only [List.getElem_toArray, List.getElem_cons_succ, List.getElem_cons_zero, Act.put, List.setIfInBounds_toArray, List.set_cons_zero, List.set_cons_succ]
                  refine wpAnyH_take (i := 3) (oi := _) (v := ?_) rfl (by kernel_rfl) (by kernel_rfl) (by kernel_rfl) (fun _ _ _ h => h) (Or.inl ⟨by rfl, ?_⟩) (by assumption) ?_
                  rotate_left
                  · try simp only [List.getElem_toArray, List.getElem_cons_succ, List.getElem_cons_zero]
                    rintro w ⟨hS1, hS2⟩
                    go_simp
                    (try with_reducible rfl)
                  try simp only [List.getElem_toArray, List.getElem_cons_succ, List.getElem_cons_zero, Act.put, List.setIfInBounds_toArray, List.set_cons_zero, List.set_cons_succ]
                  refine wpAnyH_take (i := 4) (oi := _) (v := ?_) rfl (by kernel_rfl) (by kernel_rfl) (by kernel_rfl) (fun _ _ _ h => h) (Or.inl ⟨by rfl, ?_⟩) (by assumption) ?_
                  rotate_left
                  · try simp only [List.getElem_toArray, List.getElem_cons_succ, List.getElem_cons_zero]
                    rintro w ⟨hS1, hS2⟩
                    go_simp
                    (try with_reducible rfl)
                  try simp only [List.getElem_toArray, List.getElem_cons_succ, List.getElem_cons_zero, Act.put, List.setIfInBounds_toArray, List.set_cons_zero, List.set_cons_succ]
                  refine wpAnyH_take (i := 5) (oi := _) (v := ?_) rfl (by kernel_rfl) (by kernel_rfl) (by kernel_rfl) (fun _ _ _ h => h) (Or.inl ⟨by rfl, ?_⟩) (by assumption) ?_
                  rotate_left
                  · try simp only [List.getElem_toArray, List.getElem_cons_succ, List.getElem_cons_zero]
                    rintro w ⟨hS1, hS2⟩
                    go_simp
                    (try with_reducible rfl)
                  try simp only [List.getElem_toArray, List.getElem_cons_succ, List.getElem_cons_zero, Act.put, List.setIfInBounds_toArray, List.set_cons_zero, List.set_cons_succ]
                  refine wpAnyH_take (i := 6) (oi := _) (v := ?_) rfl (by kernel_rfl) (by kernel_rfl) (by kernel_rfl) (fun _ _ _ h => h) (Or.inl ⟨by rfl, ?_⟩) (by assumption) ?_
                  rotate_left
                  · try simp only [List.getElem_toArray, List.getElem_cons_succ, List.getElem_cons_zero]
                    rintro w ⟨hS1, hS2⟩
                    go_simp
                    (try with_reducible rfl)
                  try simp only [List.getElem_toArray, List.getElem_cons_succ, List.getElem_cons_zero, Act.put, List.setIfInBounds_toArray, List.set_cons_zero, List.set_cons_succ]
                  refine wpAnyH_ready (rs := [7]) (by kernel_rfl) (by simp) ?_
                  refine AllReadyH.cons (o := _) rfl (fun K hK => ?_) ?_
                  · try simp only [List.getElem_toArray, List.getElem_cons_succ, List.getElem_cons_zero]
                    go_simp
                    go_at_call 32
                    refine DC7.out.mono ?_
                    rintro e v6 ⟨rfl, G6⟩
                    have G6 := QBA.of G6
                    have S8 : v6.cell? ⟨b, 3, none⟩ = some (.pointer (some ⟨W2.R.b, 0, none⟩)) ∧ v6.cell? ⟨M, 2, none⟩ = some (.int .i64 o.b) := by
                      obtain ⟨bs', Z', R', Ls', eR, GG, -, -, TT⟩ := G6
                      obtain ⟨-, -, s3⟩ := TT.mv (by omega)
                      rw [← eb, ← eR]
                      exact ⟨s3, (show Blk v6 M 28 o.cells from (GG.away B3.out.lt fM).1.trans B3.out).cell 2⟩
                    replace G6 := Lib.hid G6
                    go_wp2_with fail
                    refine hK.out _ _ S8 (fun hHeld => ?_)
                    clear hK K hHeld S8
                    try simp only [List.getElem_toArray, List.getElem_cons_succ, List.getElem_cons_zero, Act.put, List.setIfInBounds_toArray, List.set_cons_zero, List.set_cons_succ]
                    refine wpAnyH_done (by kernel_rfl) ?_ _
                    refine NoPanic.normal ?_
                    go_wp2_with fail
                    go_meet
                    exact ⟨_, rfl, G6⟩
                  exact AllReadyH.nil
                exact AllReadyH.nil
              exact AllReadyH.nil
            by_cases e6 : o.dO = 6
            · obtain ⟨RR, BB⟩ := bothDrop T3.out (by omega) hH
              have t6 : (o.dO == 6) = true := by simpa using e6
              have u6 : decide (o.dO = 6) = true := decide_eq_true e6
              have t4 : (o.dO == 4) = false := by rw [beq_eq_false_iff_ne]; omega
              have u4 : decide (o.dO = 4) = false := decide_eq_false (by omega)
              have t5 : (o.dO == 5) = false := by rw [beq_eq_false_iff_ne]; omega
              have u5 : decide (o.dO = 5) = false := decide_eq_false (by omega)
              have t7 : (o.dO == 7) = false := by rw [beq_eq_false_iff_ne]; omega
              have u7 : decide (o.dO = 7) = false := decide_eq_false (by omega)
              have t12 : (o.dO == 12) = false := by rw [beq_eq_false_iff_ne]; omega
              have u12 : decide (o.dO = 12) = false := decide_eq_false (by omega)
              clear e6
              have PB := Lib.hid (BB w3 (Below.refl _ _))
              clear LK NX AL OC BB
              go_wp2_with fail
              refine PB.out.mono ?_
              rintro e v ⟨rfl, ⟨m0, m1, m3⟩, kv, -, DC⟩
              rw [eb] at m0 m1 m3
              have NU := Lib.hid (numC6 v RR)
              have DC := Lib.hid (DC v (Below.refl _ _))
              clear kv PB x0 x1 x2 x3 x4 x5 y0 y1 y3
              go_wp2_with fail
              refine NU.out.mono ?_
              rintro e w' ⟨rfl, rfl⟩
              go_wp2_with fail
              refine DC.out.mono ?_
              rintro e v6 ⟨rfl, G6⟩
              have G6 := Lib.hid (QBA.of G6)
              go_wp2_with fail
              go_meet
              exact ⟨_, rfl, G6⟩
            by_cases e7 : o.dO = 7
            · obtain ⟨RR, BB⟩ := bothShift T3.out (by omega) hH o.b
              have t7 : (o.dO == 7) = true := by simpa using e7
              have u7 : decide (o.dO = 7) = true := decide_eq_true e7
              have t4 : (o.dO == 4) = false := by rw [beq_eq_false_iff_ne]; omega
              have u4 : decide (o.dO = 4) = false := decide_eq_false (by omega)
              have t5 : (o.dO == 5) = false := by rw [beq_eq_false_iff_ne]; omega
              have u5 : decide (o.dO = 5) = false := decide_eq_false (by omega)
              have t6 : (o.dO == 6) = false := by rw [beq_eq_false_iff_ne]; omega
              have u6 : decide (o.dO = 6) = false := decide_eq_false (by omega)
              have t12 : (o.dO == 12) = false := by rw [beq_eq_false_iff_ne]; omega
              have u12 : decide (o.dO = 12) = false := decide_eq_false (by omega)
              clear e7
              replace BB := Lib.hid BB
              clear LK NX AL
              go_upto_region 28 with fail
              obtain ⟨w5, hw5⟩ : ∃ w5, w5 = w3.drew := ⟨_, rfl⟩
              have b5 : Below w3.heap.size w3 w5 := by rw [hw5]; exact below_drewN (Below.refl _ _) 1
              have PB := BB.out w5 b5
              have B5 := Lib.hid (B3.out.below b5 B3.out.lt)
              have S5 : w5.cell? ⟨b, 1, none⟩ = some (.pointer (some ⟨W2.gq, 0, none⟩)) ∧ w5.cell? ⟨M, 2, none⟩ = some (.int .i64 o.b) := by
                obtain ⟨-, s1, -⟩ := (T3.out.below b5).mv (by omega)
                rw [eb] at s1
                exact ⟨s1, B5.out.cell 2⟩
              replace PB := Lib.hid PB
              clear b5 BB x0 x1 x2 x3 x4 x5 y0 y1 y3
              refine wp_region_noPanic ?_
              refine wp_region_held_drew (S := fun v => v.cell? ⟨b, 1, none⟩ = some (.pointer (some ⟨W2.gq, 0, none⟩)) ∧ v.cell? ⟨M, 2, none⟩ = some (.int .i64 o.b)) (by kernel_rfl) (by rw [← hw5]; exact S5) (fun hHeld => ?_)
              rw [← hw5] at hHeld ⊢
              clear hw5
              refine wpAnyH_take (i := 0) (oi := _) (v := ?_) rfl (by kernel_rfl) (by kernel_rfl) (by kernel_rfl) (fun _ _ _ h => h) (Or.inl ⟨by rfl, ?_⟩) (by assumption) ?_
              rotate_left
              · try simp only [List.getElem_toArray, List.getElem_cons_succ, List.getElem_cons_zero]
                rintro w ⟨hS1, hS2⟩
                go_simp
                (try with_reducible rfl)
              try simp only [List.getElem_toArray, List.getElem_cons_succ, List.getElem_cons_zero, Act.put, List.setIfInBounds_toArray, List.set_cons_zero, List.set_cons_succ]
              refine wpAnyH_take (i := 1) (oi := _) (v := ?_) rfl (by kernel_rfl) (by kernel_rfl) (by kernel_rfl) (fun _ _ _ h => h) (Or.inl ⟨by rfl, ?_⟩) (by assumption) ?_
              rotate_left
              · try simp only [List.getElem_toArray, List.getElem_cons_succ, List.getElem_cons_zero]
                rintro w ⟨hS1, hS2⟩
                go_simp
                (try with_reducible rfl)
              try simp only [List.getElem_toArray, List.getElem_cons_succ, List.getElem_cons_zero, Act.put, List.setIfInBounds_toArray, List.set_cons_zero, List.set_cons_succ]
              refine wpAnyH_take (i := 2) (oi := _) (v := ?_) rfl (by kernel_rfl) (by kernel_rfl) (by kernel_rfl) (fun _ _ _ h => h) (Or.inl ⟨by rfl, ?_⟩) (by assumption) ?_
              rotate_left
              · try simp only [List.getElem_toArray, List.getElem_cons_succ, List.getElem_cons_zero]
                rintro w ⟨hS1, hS2⟩
                go_simp
                (try with_reducible rfl)
              try simp only [List.getElem_toArray, List.getElem_cons_succ, List.getElem_cons_zero, Act.put, List.setIfInBounds_toArray, List.set_cons_zero, List.set_cons_succ]
              refine wpAnyH_take (i := 3) (oi := _) (v := ?_) rfl (by kernel_rfl) (by kernel_rfl) (by kernel_rfl) (fun _ _ _ h => h) (Or.inl ⟨by rfl, ?_⟩) (by assumption) ?_
              rotate_left
              · try simp only [List.getElem_toArray, List.getElem_cons_succ, List.getElem_cons_zero]
                rintro w ⟨hS1, hS2⟩
                go_simp
                (try with_reducible rfl)
              try simp only [List.getElem_toArray, List.getElem_cons_succ, List.getElem_cons_zero, Act.put, List.setIfInBounds_toArray, List.set_cons_zero, List.set_cons_succ]
              refine wpAnyH_take (i := 4) (oi := _) (v := ?_) rfl (by kernel_rfl) (by kernel_rfl) (by kernel_rfl) (fun _ _ _ h => h) (Or.inl ⟨by rfl, ?_⟩) (by assumption) ?_
              rotate_left
              · try simp only [List.getElem_toArray, List.getElem_cons_succ, List.getElem_cons_zero]
                rintro w ⟨hS1, hS2⟩
                go_simp
                (try with_reducible rfl)
              try simp only [List.getElem_toArray, List.getElem_cons_succ, List.getElem_cons_zero, Act.put, List.setIfInBounds_toArray, List.set_cons_zero, List.set_cons_succ]
              refine wpAnyH_take (i := 5) (oi := _) (v := ?_) rfl (by kernel_rfl) (by kernel_rfl) (by kernel_rfl) (fun _ _ _ h => h) (Or.inl ⟨by rfl, ?_⟩) (by assumption) ?_
              rotate_left
              · try simp only [List.getElem_toArray, List.getElem_cons_succ, List.getElem_cons_zero]
                rintro w ⟨hS1, hS2⟩
                go_simp
                (try with_reducible rfl)
              try simp only [List.getElem_toArray, List.getElem_cons_succ, List.getElem_cons_zero, Act.put, List.setIfInBounds_toArray, List.set_cons_zero, List.set_cons_succ]
              refine wpAnyH_take (i := 6) (oi := _) (v := ?_) rfl (by kernel_rfl) (by kernel_rfl) (by kernel_rfl) (fun _ _ _ h => h) (Or.inl ⟨by rfl, ?_⟩) (by assumption) ?_
              rotate_left
              · try simp only [List.getElem_toArray, List.getElem_cons_succ, List.getElem_cons_zero]
                rintro w ⟨hS1, hS2⟩
                go_simp
                (try with_reducible rfl)
              try simp only [List.getElem_toArray, List.getElem_cons_succ, List.getElem_cons_zero, Act.put, List.setIfInBounds_toArray, List.set_cons_zero, List.set_cons_succ]
              refine wpAnyH_ready (rs := [7]) (by kernel_rfl) (by simp) ?_
              refine AllReadyH.cons (o := _) rfl (fun K hK => ?_) ?_
              · try simp only [List.getElem_toArray, List.getElem_cons_succ, List.getElem_cons_zero]
                go_simp
                go_at_call 25
                refine PB.out.mono ?_
                rintro e v ⟨rfl, ⟨m0, m1, m3⟩, kv, -, DC⟩
                have Bv : Blk v M 28 o.cells := (kv M B5.out.lt fM).trans B5.out
                rw [eb] at m0 m1 m3
                have m2 := Bv.cell 2
                have v0 := Bv.cell 0
                have NU := Lib.hid (numC6 v RR)
                replace DC := Lib.hid DC
                have fv := Bv.lt
                replace Bv := Lib.hid Bv
                clear kv PB
                go_wp2_with fail
                have S6 : v.cell? ⟨b, 1, none⟩ = some (.pointer (some ⟨W2.gq, 0, none⟩)) ∧ v.cell? ⟨M, 2, none⟩ = some (.int .i64 o.b) := ⟨m1, m2⟩
                refine hK.out _ _ S6 (fun hHeld => ?_)
                clear hK K hHeld
                try simp only [List.getElem_toArray, List.getElem_cons_succ, List.getElem_cons_zero, Act.put, List.setIfInBounds_toArray, List.set_cons_zero, List.set_cons_succ]
                refine wpAnyH_ready (rs := [8]) (by kernel_rfl) (by simp) ?_
                refine AllReadyH.cons (o := _) rfl (fun K hK => ?_) ?_
                · try simp only [List.getElem_toArray, List.getElem_cons_succ, List.getElem_cons_zero]
                  go_simp
                  go_at_call 14
                  refine NU.out.mono ?_
                  rintro e w' ⟨rfl, rfl⟩
                  go_wp2_with fail
                  refine hK.out _ _ S6 (fun hHeld => ?_)
                  clear hK K hHeld
                  try simp only [List.getElem_toArray, List.getElem_cons_succ, List.getElem_cons_zero, Act.put, List.setIfInBounds_toArray, List.set_cons_zero, List.set_cons_succ]
                  refine wpAnyH_take (i := 9) (oi := _) (v := ?_) rfl (by kernel_rfl) (by kernel_rfl) (by kernel_rfl) (fun _ _ _ h => h) (Or.inl ⟨by rfl, ?_⟩) (by assumption) ?_
                  rotate_left
                  · try simp only [List.getElem_toArray, List.getElem_cons_succ, List.getElem_cons_zero]
                    rintro w ⟨hS1, hS2⟩
                    go_simp
                    (try with_reducible rfl)
                  try simp only [List.getElem_toArray, List.getElem_cons_succ, List.getElem_cons_zero, Act.put, List.setIfInBounds_toArray, List.set_cons_zero, List.set_cons_succ]
                  refine wpAnyH_done (by kernel_rfl) ?_ _
                  refine NoPanic.normal ?_
                  go_upto_region 29 with fail
                  obtain ⟨w7, hw7⟩ : ∃ w7, w7 = v.drew := ⟨_, rfl⟩
                  have b7 : Below v.heap.size v w7 := by rw [hw7]; exact below_drewN (Below.refl _ _) 1
                  have DC7 := Lib.hid (DC.out w7 b7)
                  have S7 : w7.cell? ⟨b, 3, none⟩ = some (.pointer (some ⟨W2.R.b, 0, none⟩)) ∧ w7.cell? ⟨M, 2, none⟩ = some (.int .i64 o.b) := ⟨by rw [hw7]; exact m3, by rw [hw7]; exact m2⟩
                  clear b7 DC S6 m0 m1 m2 m3 v0
                  refine wp_region_noPanic ?_
                  refine wp_region_held_drew (S := fun v => v.cell? ⟨b, 3, none⟩ = some (.pointer (some ⟨W2.R.b, 0, none⟩)) ∧ v.cell? ⟨M, 2, none⟩ = some (.int .i64 o.b)) (by kernel_rfl) (by rw [← hw7]; exact S7) (fun hHeld => ?_)
                  rw [← hw7] at hHeld ⊢
                  clear hw7
                  refine wpAnyH_take (i := 0) (oi := _) (v := ?_) rfl (by kernel_rfl) (by kernel_rfl) (by kernel_rfl) (fun _ _ _ h => h) (Or.inl ⟨by rfl, ?_⟩) (by assumption) ?_
                  rotate_left
                  · try simp only [List.getElem_toArray, List.getElem_cons_succ, List.getElem_cons_zero]
                    rintro w ⟨hS1, hS2⟩
                    go_simp
                    (try with_reducible rfl)
                  try simp only [List.getElem_toArray, List.getElem_cons_succ, List.getElem_cons_zero, Act.put, List.setIfInBounds_toArray, List.set_cons_zero, List.set_cons_succ]
                  refine wpAnyH_take (i := 1) (oi := _) (v := ?_) rfl (by kernel_rfl) (by kernel_rfl) (by kernel_rfl) (fun _ _ _ h => h) (Or.inl ⟨by rfl, ?_⟩) (by assumption) ?_
                  rotate_left
                  · try simp only [List.getElem_toArray, List.getElem_cons_succ, List.getElem_cons_zero]
                    rintro w ⟨hS1, hS2⟩
                    go_simp
                    (try with_reducible rfl)
                  try simp only [List.getElem_toArray, List.getElem_cons_succ, List.getElem_cons_zero, Act.put, List.setIfInBounds_toArray, List.set_cons_zero, List.set_cons_succ]
                  refine wpAnyH_take (i := 2) (oi := _) (v := ?_) rfl (by kernel_rfl) (by kernel_rfl) (by kernel_rfl) (fun _ _ _ h => h) (Or.inl ⟨by rfl, ?_⟩) (by assumption) ?_
                  rotate_left
                  · try simp only [List.getElem_toArray, List.getElem_cons_succ, List.getElem_cons_zero]
                    rintro w ⟨hS1, hS2⟩
                    go_simp
                    (try with_reducible rfl)
                  try simp only [List.getElem_toArray, List.getElem_cons_succ, List.getElem_cons_zero, Act.put, List.setIfInBounds_toArray, List.set_cons_zero, List.set_cons_succ]
                  refine wpAnyH_take (i := 3) (oi := _) (v := ?_) rfl (by kernel_rfl) (by kernel_rfl) (by kernel_rfl) (fun _ _ _ h => h) (Or.inl ⟨by rfl, ?_⟩) (by assumption) ?_
                  rotate_left
                  · try simp only [List.getElem_toArray, List.getElem_cons_succ, List.getElem_cons_zero]
                    rintro w ⟨hS1, hS2⟩
                    go_simp
                    (try with_reducible rfl)
                  try simp only [List.getElem_toArray, List.getElem_cons_succ, List.getElem_cons_zero, Act.put, List.setIfInBounds_toArray, List.set_cons_zero, List.set_cons_succ]
                  refine wpAnyH_take (i := 4) (oi := _) (v := ?_) rfl (by kernel_rfl) (by kernel_rfl) (by kernel_rfl) (fun _ _ _ h => h) (Or.inl ⟨by rfl, ?_⟩) (by assumption) ?_
                  rotate_left
                  · try simp only [List.getElem_toArray, List.getElem_cons_succ, List.getElem_cons_zero]
                    rintro w ⟨hS1, hS2⟩
                    go_simp
                    (try with_reducible rfl)
                  try simp only [List.getElem_toArray, List.getElem_cons_succ, List.getElem_cons_zero, Act.put, List.setIfInBounds_toArray, List.set_cons_zero, List.set_cons_succ]
                  refine wpAnyH_take (i := 5) (oi := _) (v := ?_) rfl (by kernel_rfl) (by kernel_rfl) (by kernel_rfl) (fun _ _ _ h => h) (Or.inl ⟨by rfl, ?_⟩) (by assumption) ?_
                  rotate_left
                  · try simp only [List.getElem_toArray, List.getElem_cons_succ, List.getElem_cons_zero]
                    rintro w ⟨hS1, hS2⟩
                    go_simp
                    (try with_reducible rfl)
                  try simp only [List.getElem_toArray, List.getElem_cons_succ, List.getElem_cons_zero, Act.put, List.setIfInBounds_toArray, List.set_cons_zero, List.set_cons_succ]
                  refine wpAnyH_take (i := 6) (oi := _) (v := ?_) rfl (by kernel_rfl) (by kernel_rfl) (by kernel_rfl) (fun _ _ _ h => h) (Or.inl ⟨by rfl, ?_⟩) (by assumption) ?_
                  rotate_left
                  · try simp only [List.getElem_toArray, List.getElem_cons_succ, List.getElem_cons_zero]
                    rintro w ⟨hS1, hS2⟩
                    go_simp
                    (try with_reducible rfl)
                  try simp only [List.getElem_toArray, List.getElem_cons_succ, List.getElem_cons_zero, Act.put, List.setIfInBounds_toArray, List.set_cons_zero, List.set_cons_succ]
                  refine wpAnyH_ready (rs := [7]) (by kernel_rfl) (by simp) ?_
                  refine AllReadyH.cons (o := _) rfl (fun K hK => ?_) ?_
                  · try simp only [List.getElem_toArray, List.getElem_cons_succ, List.getElem_cons_zero]
                    go_simp
                    go_at_call 34
                    refine DC7.out.mono ?_
                    rintro e v6 ⟨rfl, G6⟩
                    have G6 := QBA.of G6
                    have S8 : v6.cell? ⟨b, 3, none⟩ = some (.pointer (some ⟨W2.R.b, 0, none⟩)) ∧ v6.cell? ⟨M, 2, none⟩ = some (.int .i64 o.b) := by
                      obtain ⟨bs', Z', R', Ls', eR, GG, -, -, TT⟩ := G6
                      obtain ⟨-, -, s3⟩ := TT.mv (by omega)
                      rw [← eb, ← eR]
                      exact ⟨s3, (show Blk v6 M 28 o.cells from (GG.away B3.out.lt fM).1.trans B3.out).cell 2⟩
                    replace G6 := Lib.hid G6
                    go_wp2_with fail
                    refine hK.out _ _ S8 (fun hHeld => ?_)
                    clear hK K hHeld S8
                    try simp only [List.getElem_toArray, List.getElem_cons_succ, List.getElem_cons_zero, Act.put, List.setIfInBounds_toArray, List.set_cons_zero, List.set_cons_succ]
                    refine wpAnyH_done (by kernel_rfl) ?_ _
                    refine NoPanic.normal ?_
                    go_wp2_with fail
                    go_meet
                    exact ⟨_, rfl, G6⟩
                  exact AllReadyH.nil
                exact AllReadyH.nil
              exact AllReadyH.nil
            by_cases e12 : o.dO = 12
            · obtain ⟨RR, BB⟩ := bothSwap T3.out (by omega) hH hG
              have t12 : (o.dO == 12) = true := by simpa using e12
              have u12 : decide (o.dO = 12) = true := decide_eq_true e12
              have t4 : (o.dO == 4) = false := by rw [beq_eq_false_iff_ne]; omega
              have u4 : decide (o.dO = 4) = false := decide_eq_false (by omega)
              have t5 : (o.dO == 5) = false := by rw [beq_eq_false_iff_ne]; omega
              have u5 : decide (o.dO = 5) = false := decide_eq_false (by omega)
              have t6 : (o.dO == 6) = false := by rw [beq_eq_false_iff_ne]; omega
              have u6 : decide (o.dO = 6) = false := decide_eq_false (by omega)
              have t7 : (o.dO == 7) = false := by rw [beq_eq_false_iff_ne]; omega
              have u7 : decide (o.dO = 7) = false := decide_eq_false (by omega)
              clear e12
              clear LK NX AL
              replace BB := Lib.hid BB
              replace OC := Lib.hid OC
              go_upto_region 31 with fail
              obtain ⟨w5, hw5⟩ : ∃ w5, w5 = w3.drew := ⟨_, rfl⟩
              have b5 : Below w3.heap.size w3 w5 := by rw [hw5]; exact below_drewN (Below.refl _ _) 1
              have OC5 := Lib.hid (OC.out w5 b5)
              have B5 := Lib.hid (B3.out.below b5 B3.out.lt)
              have S5 : w5.cell? ⟨b, 1, none⟩ = some (.pointer (some ⟨W2.gq, 0, none⟩)) ∧ w5.cell? ⟨M, 0, none⟩ = some (.int .i64 o.dO) ∧ w5.cell? ⟨M, 1, none⟩ = some (.int .i64 o.a) ∧ w5.cell? ⟨M, 2, none⟩ = some (.int .i64 o.b) ∧ w5.cell? ⟨M, 3, none⟩ = some (.int .i64 o.c) ∧ w5.cell? ⟨M, 4, none⟩ = some (.int .u64 (o.h : Int)) ∧ w5.cell? ⟨M, 5, none⟩ = some (.bool o.raw) := by
                obtain ⟨-, s1, -⟩ := (T3.out.below b5).mv (by omega)
                rw [eb] at s1
                exact ⟨s1, op6_cells B5.out⟩
              replace b5 := Lib.hid b5
              clear x0 x1 x2 x3 x4 x5 y0 y1 y3 OC
              refine wp_region_noPanic ?_
              refine wp_region_held_drew (S := fun v => v.cell? ⟨b, 1, none⟩ = some (.pointer (some ⟨W2.gq, 0, none⟩)) ∧ v.cell? ⟨M, 0, none⟩ = some (.int .i64 o.dO) ∧ v.cell? ⟨M, 1, none⟩ = some (.int .i64 o.a) ∧ v.cell? ⟨M, 2, none⟩ = some (.int .i64 o.b) ∧ v.cell? ⟨M, 3, none⟩ = some (.int .i64 o.c) ∧ v.cell? ⟨M, 4, none⟩ = some (.int .u64 (o.h : Int)) ∧ v.cell? ⟨M, 5, none⟩ = some (.bool o.raw)) (by kernel_rfl) (by rw [← hw5]; exact S5) (fun hHeld => ?_)
              rw [← hw5] at hHeld ⊢
              clear hw5
              refine wpAnyH_take (i := 0) (oi := _) (v := ?_) rfl (by kernel_rfl) (by kernel_rfl) (by kernel_rfl) (fun _ _ _ h => h) (Or.inl ⟨by rfl, ?_⟩) (by assumption) ?_
              rotate_left
              · try simp only [List.getElem_toArray, List.getElem_cons_succ, List.getElem_cons_zero]
                rintro w ⟨hS1, hS2, hS3, hS4, hS5, hS6, hS7⟩
                go_simp
                (try with_reducible rfl)
              try simp only [List.getElem_toArray, List.getElem_cons_succ, List.getElem_cons_zero, Act.put, List.setIfInBounds_toArray, List.set_cons_zero, List.set_cons_succ]
              refine wpAnyH_take (i := 1) (oi := _) (v := ?_) rfl (by kernel_rfl) (by kernel_rfl) (by kernel_rfl) (fun _ _ _ h => h) (Or.inl ⟨by rfl, ?_⟩) (by assumption) ?_
              rotate_left
              · try simp only [List.getElem_toArray, List.getElem_cons_succ, List.getElem_cons_zero]
                rintro w ⟨hS1, hS2, hS3, hS4, hS5, hS6, hS7⟩
                go_simp
                (try with_reducible rfl)
              try simp only [List.getElem_toArray, List.getElem_cons_succ, List.getElem_cons_zero, Act.put, List.setIfInBounds_toArray, List.set_cons_zero, List.set_cons_succ]
              refine wpAnyH_take (i := 2) (oi := _) (v := ?_) rfl (by kernel_rfl) (by kernel_rfl) (by kernel_rfl) (fun _ _ _ h => h) (Or.inl ⟨by rfl, ?_⟩) (by assumption) ?_
              rotate_left
              · try simp only [List.getElem_toArray, List.getElem_cons_succ, List.getElem_cons_zero]
                rintro w ⟨hS1, hS2, hS3, hS4, hS5, hS6, hS7⟩
                go_simp
                (try with_reducible rfl)
              try simp only [List.getElem_toArray, List.getElem_cons_succ, List.getElem_cons_zero, Act.put, List.setIfInBounds_toArray, List.set_cons_zero, List.set_cons_succ]
              refine wpAnyH_take (i := 3) (oi := _) (v := ?_) rfl (by kernel_rfl) (by kernel_rfl) (by kernel_rfl) (fun _ _ _ h => h) (Or.inl ⟨by rfl, ?_⟩) (by assumption) ?_
              rotate_left
              · try simp only [List.getElem_toArray, List.getElem_cons_succ, List.getElem_cons_zero]
                rintro w ⟨hS1, hS2, hS3, hS4, hS5, hS6, hS7⟩
                go_simp
                (try with_reducible rfl)
              try simp only [List.getElem_toArray, List.getElem_cons_succ, List.getElem_cons_zero, Act.put, List.setIfInBounds_toArray, List.set_cons_zero, List.set_cons_succ]
              refine wpAnyH_take (i := 4) (oi := _) (v := ?_) rfl (by kernel_rfl) (by kernel_rfl) (by kernel_rfl) (fun _ _ _ h => h) (Or.inl ⟨by rfl, ?_⟩) (by assumption) ?_
              rotate_left
              · try simp only [List.getElem_toArray, List.getElem_cons_succ, List.getElem_cons_zero]
                rintro w ⟨hS1, hS2, hS3, hS4, hS5, hS6, hS7⟩
                go_simp
                (try with_reducible rfl)
              try simp only [List.getElem_toArray, List.getElem_cons_succ, List.getElem_cons_zero, Act.put, List.setIfInBounds_toArray, List.set_cons_zero, List.set_cons_succ]
              refine wpAnyH_take (i := 5) (oi := _) (v := ?_) rfl (by kernel_rfl) (by kernel_rfl) (by kernel_rfl) (fun _ _ _ h => h) (Or.inl ⟨by rfl, ?_⟩) (by assumption) ?_
              rotate_left
              · try simp only [List.getElem_toArray, List.getElem_cons_succ, List.getElem_cons_zero]
                rintro w ⟨hS1, hS2, hS3, hS4, hS5, hS6, hS7⟩
                go_simp
                (try with_reducible rfl)
              try simp only [List.getElem_toArray, List.getElem_cons_succ, List.getElem_cons_zero, Act.put, List.setIfInBounds_toArray, List.set_cons_zero, List.set_cons_succ]
              refine wpAnyH_take (i := 6) (oi := _) (v := ?_) rfl (by kernel_rfl) (by kernel_rfl) (by kernel_rfl) (fun _ _ _ h => h) (Or.inl ⟨by rfl, ?_⟩) (by assumption) ?_
              rotate_left
              · try simp only [List.getElem_toArray, List.getElem_cons_succ, List.getElem_cons_zero]
                rintro w ⟨hS1, hS2, hS3, hS4, hS5, hS6, hS7⟩
                go_simp
                (try with_reducible rfl)
              try simp only [List.getElem_toArray, List.getElem_cons_succ, List.getElem_cons_zero, Act.put, List.setIfInBounds_toArray, List.set_cons_zero, List.set_cons_succ]
              refine wpAnyH_ready (rs := [7]) (by kernel_rfl) (by simp) ?_
              refine AllReadyH.cons (o := _) rfl (fun K hK => ?_) ?_
              · try simp only [List.getElem_toArray, List.getElem_cons_succ, List.getElem_cons_zero]
                go_simp
                go_at_call 36
                refine OC5.out.mono ?_
                rintro e w6 ⟨rfl, b6⟩
                have b56 := b5.out.trans (b6.mono b5.out.size)
                have B6 := B5.out.below b6 B5.out.lt
                have S6 : w6.cell? ⟨b, 1, none⟩ = some (.pointer (some ⟨W2.gq, 0, none⟩)) ∧ w6.cell? ⟨M, 0, none⟩ = some (.int .i64 o.dO) ∧ w6.cell? ⟨M, 1, none⟩ = some (.int .i64 o.a) ∧ w6.cell? ⟨M, 2, none⟩ = some (.int .i64 o.b) ∧ w6.cell? ⟨M, 3, none⟩ = some (.int .i64 o.c) ∧ w6.cell? ⟨M, 4, none⟩ = some (.int .u64 (o.h : Int)) ∧ w6.cell? ⟨M, 5, none⟩ = some (.bool o.raw) := by
                  obtain ⟨-, s1, -⟩ := (T3.out.below b56).mv (by omega)
                  rw [eb] at s1
                  exact ⟨s1, op6_cells B6⟩
                have PB := Lib.hid (BB.out w6 b56)
                replace B6 := Lib.hid B6
                clear b6 b56 BB OC5 B5 b5
                go_wp2_with fail
                refine hK.out _ _ S6 (fun hHeld => ?_)
                clear hK K hHeld
                try simp only [List.getElem_toArray, List.getElem_cons_succ, List.getElem_cons_zero, Act.put, List.setIfInBounds_toArray, List.set_cons_zero, List.set_cons_succ]
                refine wpAnyH_ready (rs := [8]) (by kernel_rfl) (by simp) ?_
                refine AllReadyH.cons (o := _) rfl (fun K hK => ?_) ?_
                · try simp only [List.getElem_toArray, List.getElem_cons_succ, List.getElem_cons_zero]
                  go_simp
                  go_at_call 35
                  refine PB.out.mono ?_
                  rintro e v ⟨rfl, ⟨m0, m1, m3⟩, kv, TV, DC⟩
                  have Bv : Blk v M 28 o.cells := (kv M B6.out.lt fM).trans B6.out
                  rw [eb] at m0 m1 m3
                  have NU := Lib.hid (numC6 v RR)
                  have S7 : v.cell? ⟨b, 1, none⟩ = some (.pointer (some ⟨W2.gq, 0, none⟩)) ∧ v.cell? ⟨M, 0, none⟩ = some (.int .i64 o.dO) ∧ v.cell? ⟨M, 1, none⟩ = some (.int .i64 o.a) ∧ v.cell? ⟨M, 2, none⟩ = some (.int .i64 o.b) ∧ v.cell? ⟨M, 3, none⟩ = some (.int .i64 o.c) ∧ v.cell? ⟨M, 4, none⟩ = some (.int .u64 (o.h : Int)) ∧ v.cell? ⟨M, 5, none⟩ = some (.bool o.raw) := ⟨m1, op6_cells Bv⟩
                  replace DC := Lib.hid DC
                  replace TV := Lib.hid TV
                  replace Bv := Lib.hid Bv
                  clear kv PB
                  go_wp2_with fail
                  refine hK.out _ _ S7 (fun hHeld => ?_)
                  clear hK K hHeld
                  try simp only [List.getElem_toArray, List.getElem_cons_succ, List.getElem_cons_zero, Act.put, List.setIfInBounds_toArray, List.set_cons_zero, List.set_cons_succ]
                  refine wpAnyH_ready (rs := [9]) (by kernel_rfl) (by simp) ?_
                  refine AllReadyH.cons (o := _) rfl (fun K hK => ?_) ?_
                  · try simp only [List.getElem_toArray, List.getElem_cons_succ, List.getElem_cons_zero]
                    go_simp
                    go_at_call 14
                    refine NU.out.mono ?_
                    rintro e w' ⟨rfl, rfl⟩
                    go_wp2_with fail
                    refine hK.out _ _ S7 (fun hHeld => ?_)
                    clear hK K hHeld
                    try simp only [List.getElem_toArray, List.getElem_cons_succ, List.getElem_cons_zero, Act.put, List.setIfInBounds_toArray, List.set_cons_zero, List.set_cons_succ]
                    refine wpAnyH_take (i := 10) (oi := _) (v := ?_) rfl (by kernel_rfl) (by kernel_rfl) (by kernel_rfl) (fun _ _ _ h => h) (Or.inl ⟨by rfl, ?_⟩) (by assumption) ?_
                    rotate_left
                    · try simp only [List.getElem_toArray, List.getElem_cons_succ, List.getElem_cons_zero]
                      rintro w ⟨hS1, hS2, hS3, hS4, hS5, hS6, hS7⟩
                      go_simp
                      (try with_reducible rfl)
                    try simp only [List.getElem_toArray, List.getElem_cons_succ, List.getElem_cons_zero, Act.put, List.setIfInBounds_toArray, List.set_cons_zero, List.set_cons_succ]
                    refine wpAnyH_done (by kernel_rfl) ?_ _
                    refine NoPanic.normal ?_
                    obtain ⟨x0, x1, x2, x3, x4, x5⟩ := op6_cells Bv.out
                    go_upto_region 32 with fail
                    clear S7
                    obtain ⟨w7, hw7⟩ : ∃ w7, w7 = v.drew := ⟨_, rfl⟩
                    have b7 : Below v.heap.size v w7 := by rw [hw7]; exact below_drewN (Below.refl _ _) 1
                    have B7 := Bv.out.below b7 Bv.out.lt
                    have OC7 : Calls Tryz.prog 36 #[.pointer (some ⟨b, 0, none⟩), .agg #[.int .i64 o.dO, .int .i64 o.a, .int .i64 o.b, .int .i64 o.c, .int .u64 (o.h : Int), .bool o.raw]] w7 fun e w' => e = .returned (.int .u64 (G : Int)) ∧ Below w7.heap.size w7 w' := by
                      obtain ⟨bs5, Z5, L5, TV5⟩ := TV.out
                      have := otherW (TV5.below b7) (by have := T3.out.tl; omega) o ok
                      rw [hoG.out, eb] at this
                      exact this
                    have S7 : w7.cell? ⟨b, 3, none⟩ = some (.pointer (some ⟨W2.R.b, 0, none⟩)) ∧ w7.cell? ⟨M, 0, none⟩ = some (.int .i64 o.dO) ∧ w7.cell? ⟨M, 1, none⟩ = some (.int .i64 o.a) ∧ w7.cell? ⟨M, 2, none⟩ = some (.int .i64 o.b) ∧ w7.cell? ⟨M, 3, none⟩ = some (.int .i64 o.c) ∧ w7.cell? ⟨M, 4, none⟩ = some (.int .u64 (o.h : Int)) ∧ w7.cell? ⟨M, 5, none⟩ = some (.bool o.raw) := ⟨by rw [hw7]; exact m3, op6_cells B7⟩
                    replace OC7 := Lib.hid OC7
                    replace b7 := Lib.hid b7
                    replace B7 := Lib.hid B7
                    clear x0 x1 x2 x3 x4 x5 m0 m1 m3 TV Bv S6
                    refine wp_region_noPanic ?_
                    refine wp_region_held_drew (S := fun v => v.cell? ⟨b, 3, none⟩ = some (.pointer (some ⟨W2.R.b, 0, none⟩)) ∧ v.cell? ⟨M, 0, none⟩ = some (.int .i64 o.dO) ∧ v.cell? ⟨M, 1, none⟩ = some (.int .i64 o.a) ∧ v.cell? ⟨M, 2, none⟩ = some (.int .i64 o.b) ∧ v.cell? ⟨M, 3, none⟩ = some (.int .i64 o.c) ∧ v.cell? ⟨M, 4, none⟩ = some (.int .u64 (o.h : Int)) ∧ v.cell? ⟨M, 5, none⟩ = some (.bool o.raw)) (by kernel_rfl) (by rw [← hw7]; exact S7) (fun hHeld => ?_)
                    rw [← hw7] at hHeld ⊢
                    clear hw7
                    refine wpAnyH_take (i := 0) (oi := _) (v := ?_) rfl (by kernel_rfl) (by kernel_rfl) (by kernel_rfl) (fun _ _ _ h => h) (Or.inl ⟨by rfl, ?_⟩) (by assumption) ?_
                    rotate_left
                    · try simp only [List.getElem_toArray, List.getElem_cons_succ, List.getElem_cons_zero]
                      rintro w ⟨hS1, hS2, hS3, hS4, hS5, hS6, hS7⟩
                      go_simp
                      (try with_reducible rfl)
                    try simp only [List.getElem_toArray, List.getElem_cons_succ, List.getElem_cons_zero, Act.put, List.setIfInBounds_toArray, List.set_cons_zero, List.set_cons_succ]
                    refine wpAnyH_take (i := 1) (oi := _) (v := ?_) rfl (by kernel_rfl) (by kernel_rfl) (by kernel_rfl) (fun _ _ _ h => h) (Or.inl ⟨by rfl, ?_⟩) (by assumption) ?_
                    rotate_left
                    · try simp only [List.getElem_toArray, List.getElem_cons_succ, List.getElem_cons_zero]
                      rintro w ⟨hS1, hS2, hS3, hS4, hS5, hS6, hS7⟩
                      go_simp
                      (try with_reducible rfl)
                    try simp only [List.getElem_toArray, List.getElem_cons_succ, List.getElem_cons_zero, Act.put, List.setIfInBounds_toArray, List.set_cons_zero, List.set_cons_succ]
                    refine wpAnyH_take (i := 2) (oi := _) (v := ?_) rfl (by kernel_rfl) (by kernel_rfl) (by kernel_rfl) (fun _ _ _ h => h) (Or.inl ⟨by rfl, ?_⟩) (by assumption) ?_
                    rotate_left
                    · try simp only [List.getElem_toArray, List.getElem_cons_succ, List.getElem_cons_zero]
                      rintro w ⟨hS1, hS2, hS3, hS4, hS5, hS6, hS7⟩
                      go_simp
                      (try with_reducible rfl)
                    try simp only [List.getElem_toArray, List.getElem_cons_succ, List.getElem_cons_zero, Act.put, List.setIfInBounds_toArray, List.set_cons_zero, List.set_cons_succ]
                    refine wpAnyH_take (i := 3) (oi := _) (v := ?_) rfl (by kernel_rfl) (by kernel_rfl) (by kernel_rfl) (fun _ _ _ h => h) (Or.inl ⟨by rfl, ?_⟩) (by assumption) ?_
                    rotate_left
                    · try simp only [List.getElem_toArray, List.getElem_cons_succ, List.getElem_cons_zero]
                      rintro w ⟨hS1, hS2, hS3, hS4, hS5, hS6, hS7⟩
                      go_simp
                      (try with_reducible rfl)
                    try simp only [List.getElem_toArray, List.getElem_cons_succ, List.getElem_cons_zero, Act.put, List.setIfInBounds_toArray, List.set_cons_zero, List.set_cons_succ]
                    refine wpAnyH_take (i := 4) (oi := _) (v := ?_) rfl (by kernel_rfl) (by kernel_rfl) (by kernel_rfl) (fun _ _ _ h => h) (Or.inl ⟨by rfl, ?_⟩) (by assumption) ?_
                    rotate_left
                    · try simp only [List.getElem_toArray, List.getElem_cons_succ, List.getElem_cons_zero]
                      rintro w ⟨hS1, hS2, hS3, hS4, hS5, hS6, hS7⟩
                      go_simp
                      (try with_reducible rfl)
                    try simp only [List.getElem_toArray, List.getElem_cons_succ, List.getElem_cons_zero, Act.put, List.setIfInBounds_toArray, List.set_cons_zero, List.set_cons_succ]
                    refine wpAnyH_take (i := 5) (oi := _) (v := ?_) rfl (by kernel_rfl) (by kernel_rfl) (by kernel_rfl) (fun _ _ _ h => h) (Or.inl ⟨by rfl, ?_⟩) (by assumption) ?_
                    rotate_left
                    · try simp only [List.getElem_toArray, List.getElem_cons_succ, List.getElem_cons_zero]
                      rintro w ⟨hS1, hS2, hS3, hS4, hS5, hS6, hS7⟩
                      go_simp
                      (try with_reducible rfl)
                    try simp only [List.getElem_toArray, List.getElem_cons_succ, List.getElem_cons_zero, Act.put, List.setIfInBounds_toArray, List.set_cons_zero, List.set_cons_succ]
                    refine wpAnyH_take (i := 6) (oi := _) (v := ?_) rfl (by kernel_rfl) (by kernel_rfl) (by kernel_rfl) (fun _ _ _ h => h) (Or.inl ⟨by rfl, ?_⟩) (by assumption) ?_
                    rotate_left
                    · try simp only [List.getElem_toArray, List.getElem_cons_succ, List.getElem_cons_zero]
                      rintro w ⟨hS1, hS2, hS3, hS4, hS5, hS6, hS7⟩
                      go_simp
                      (try with_reducible rfl)
                    try simp only [List.getElem_toArray, List.getElem_cons_succ, List.getElem_cons_zero, Act.put, List.setIfInBounds_toArray, List.set_cons_zero, List.set_cons_succ]
                    refine wpAnyH_ready (rs := [7]) (by kernel_rfl) (by simp) ?_
                    refine AllReadyH.cons (o := _) rfl (fun K hK => ?_) ?_
                    · try simp only [List.getElem_toArray, List.getElem_cons_succ, List.getElem_cons_zero]
                      go_simp
                      go_at_call 36
                      refine OC7.out.mono ?_
                      rintro e w8 ⟨rfl, b8⟩
                      have b78 := b7.out.trans (b8.mono b7.out.size)
                      have DC8 := Lib.hid (DC.out w8 b78)
                      have B8 := B7.out.below b8 B7.out.lt
                      have S8 : w8.cell? ⟨b, 3, none⟩ = some (.pointer (some ⟨W2.R.b, 0, none⟩)) ∧ w8.cell? ⟨M, 0, none⟩ = some (.int .i64 o.dO) ∧ w8.cell? ⟨M, 1, none⟩ = some (.int .i64 o.a) ∧ w8.cell? ⟨M, 2, none⟩ = some (.int .i64 o.b) ∧ w8.cell? ⟨M, 3, none⟩ = some (.int .i64 o.c) ∧ w8.cell? ⟨M, 4, none⟩ = some (.int .u64 (o.h : Int)) ∧ w8.cell? ⟨M, 5, none⟩ = some (.bool o.raw) := ⟨(b8.cell (p := ⟨b, 3, none⟩) (World.block_lt_of_cell? _ _ S7.1)).trans S7.1, op6_cells B8⟩
                      clear b7 b78 DC b8 OC7
                      go_wp2_with fail
                      refine hK.out _ _ S8 (fun hHeld => ?_)
                      clear hK K hHeld
                      try simp only [List.getElem_toArray, List.getElem_cons_succ, List.getElem_cons_zero, Act.put, List.setIfInBounds_toArray, List.set_cons_zero, List.set_cons_succ]
                      refine wpAnyH_ready (rs := [8]) (by kernel_rfl) (by simp) ?_
                      refine AllReadyH.cons (o := _) rfl (fun K hK => ?_) ?_
                      · try simp only [List.getElem_toArray, List.getElem_cons_succ, List.getElem_cons_zero]
                        go_simp
                        go_at_call 37
                        refine DC8.out.mono ?_
                        rintro e v6 ⟨rfl, G6⟩
                        have G6 := QBA.of G6
                        have S9 : v6.cell? ⟨b, 3, none⟩ = some (.pointer (some ⟨W2.R.b, 0, none⟩)) ∧ v6.cell? ⟨M, 0, none⟩ = some (.int .i64 o.dO) ∧ v6.cell? ⟨M, 1, none⟩ = some (.int .i64 o.a) ∧ v6.cell? ⟨M, 2, none⟩ = some (.int .i64 o.b) ∧ v6.cell? ⟨M, 3, none⟩ = some (.int .i64 o.c) ∧ v6.cell? ⟨M, 4, none⟩ = some (.int .u64 (o.h : Int)) ∧ v6.cell? ⟨M, 5, none⟩ = some (.bool o.raw) := by
                          obtain ⟨bs', Z', R', Ls', eR, GG, -, -, TT⟩ := G6
                          obtain ⟨-, -, s3⟩ := TT.mv (by omega)
                          rw [← eb, ← eR]
                          exact ⟨s3, op6_cells (show Blk v6 M 28 o.cells from (GG.away B3.out.lt fM).1.trans B3.out)⟩
                        replace G6 := Lib.hid G6
                        go_wp2_with fail
                        refine hK.out _ _ S9 (fun hHeld => ?_)
                        clear hK K hHeld S9
                        try simp only [List.getElem_toArray, List.getElem_cons_succ, List.getElem_cons_zero, Act.put, List.setIfInBounds_toArray, List.set_cons_zero, List.set_cons_succ]
                        refine wpAnyH_done (by kernel_rfl) ?_ _
                        refine NoPanic.normal ?_
                        go_wp2_with fail
                        go_meet
                        exact ⟨_, rfl, G6⟩
                      exact AllReadyH.nil
                    exact AllReadyH.nil
                  exact AllReadyH.nil
                exact AllReadyH.nil
              exact AllReadyH.nil
            · skip
              have t4 : (o.dO == 4) = false := by rw [beq_eq_false_iff_ne]; omega
              have u4 : decide (o.dO = 4) = false := decide_eq_false (by omega)
              have t5 : (o.dO == 5) = false := by rw [beq_eq_false_iff_ne]; omega
              have u5 : decide (o.dO = 5) = false := decide_eq_false (by omega)
              have t6 : (o.dO == 6) = false := by rw [beq_eq_false_iff_ne]; omega
              have u6 : decide (o.dO = 6) = false := decide_eq_false (by omega)
              have t7 : (o.dO == 7) = false := by rw [beq_eq_false_iff_ne]; omega
              have u7 : decide (o.dO = 7) = false := decide_eq_false (by omega)
              have t12 : (o.dO == 12) = false := by rw [beq_eq_false_iff_ne]; omega
              have u12 : decide (o.dO = 12) = false := decide_eq_false (by omega)
              replace LK := Lib.hid LK
              replace NX := Lib.hid NX
              replace AL := Lib.hid AL
              go_wp2_with fail
              refine LK.out.mono ?_
              rintro e v1 ⟨rfl, c1⟩
              have NX1 := Lib.hid (NX.out v1 c1)
              have B4 := B3.out.below c1 B3.out.lt
              have T4 := T3.out.below c1
              obtain ⟨x0, x1, x2, x3, x4, x5⟩ := op6_cells B4
              replace c1 := Lib.hid c1
              replace T4 := Lib.hid T4
              replace B4 := Lib.hid B4
              go_wp2_with fail
              refine NX1.out.mono ?_
              rintro e v2 ⟨rfl, c2⟩
              have c3 := c1.out.trans (c2.mono c1.out.size)
              have AL1 := Lib.hid (AL.out v2 c3)
              have B5 := B4.out.below c2 B4.out.lt
              obtain ⟨x0, x1, x2, x3, x4, x5⟩ := op6_cells B5
              replace c3 := Lib.hid c3
              replace c2 := Lib.hid c2
              go_wp2_with fail
              refine AL1.out.mono ?_
              rintro e v3 ⟨rfl, c4⟩
              have G6 := Lib.hid (QBA.stay T3.out (c3.out.trans (c4.mono c3.out.size)))
              clear c4
              go_wp2_with fail
              go_meet
              exact ⟨_, rfl, G6⟩
          case rest =>
            obtain ⟨EE, rfl, Q⟩ := hcut
            rename World => wx
            obtain ⟨bs', Z', R', Ls', eR, GG, hE, hne, TT⟩ := Q.out
            have IC := imagesC TT.wat.set (TT.mv (by omega)).1
            rw [show ({ W2 with R := R' } : W6).b = b from eb] at IC
            have ownx := own_keptN own3 fun d e => (GG.away (own_blockN own3 e) (wb3 d e)).1
            have l16 : bs2.length = 16384 := T2.out.bs.trans (by decide)
            have l16' : bs'.length = 16384 := TT.bs.trans (by decide)
            have hsz : w1.heap.size ≤ wx.heap.size := Nat.le_trans b2.out.size (Nat.le_trans b3.size GG.only.size)
            have GG0 := (((Grew.refl qc w1 W2 s2).step b2.out).step b3).trans GG
            replace IC := Lib.hid IC
            replace GG := Lib.hid GG
            replace GG0 := Lib.hid GG0
            replace TT := Lib.hid TT
            replace hE := Lib.hid hE
            replace hne := Lib.hid hne
            replace ownx := Lib.hid ownx
            replace l16 := Lib.hid l16
            replace l16' := Lib.hid l16'
            replace hsz := Lib.hid hsz
            replace eb := Lib.hid eb
            clear Q x0 x1 x2 x3 x4 x5 y0 y1 y3 OC LK NX AL own3 wb3 eR B3 b3 B2 T2 T3 own2 b2
            go_wp2_with fail
            refine IC.out.mono ?_
            rintro e w4 ⟨A4, cpb, rfl, b4, own4⟩
            have T4 := TT.out.below b4
            have ra := own_keptN ownx.out fun d e => b4.block d (own_blockN ownx.out e)
            have rb := own_weak own4 hsz.out
            have AC := apartC T4 (by omega) ra rb hE.out
            rw [show ({ W2 with R := R' } : W6).b = b from eb.out] at AC
            have EQ : EE ≠ 0 → ∀ v, Below w4.heap.size w4 v → Calls Tryz.prog 42 #[.slice A 16384 cpa, .slice A4 16384 cpb] v fun e v' => e = .returned (.bool true) ∧ v = v' := by
              intro he v bv
              have ra5 := own_keptN ra fun d e => bv.block d (own_blockN ra e)
              have rb5 := own_keptN rb fun d e => bv.block d (own_blockN rb e)
              rw [hne.out he] at rb5
              obtain ⟨A1, c1, e1, B1⟩ := own_bytes ra5
              obtain ⟨A2, c2, e2, B2⟩ := own_bytes rb5
              injection e1 with e11 e12 e13
              injection e2 with e21 e22 e23
              have := Book.eqC A1 A2 c1 c2 v.heap.size _ _ v B1 B2
              rw [l16.out, beq_self_eq_true, ← e11, ← e21, ← e13, ← e23] at this
              exact this
            have G4 := GG0.out.step b4
            replace EQ := Lib.hid EQ
            replace AC := Lib.hid AC
            replace G4 := Lib.hid G4
            replace T4 := Lib.hid T4
            clear own4 ra rb IC b4 GG0 GG hsz ownx
            by_cases he : EE = 0
            · have f0 : (EE == 0) = true := by simpa using he
              have f1 : (EE != 0) = false := by simp [he]
              have f2 : decide (EE = 0) = true := decide_eq_true he
              go_wp2_with fail
              refine AC.out.mono ?_
              rintro e w5 ⟨rfl, b5⟩
              have G5 := Lib.hid (GN.out w5 ⟨{ W2 with R := R' }, s2, bs', Z', Ls', r2, laid2, told2, rfl, G4.out.step b5, (T4.out.below b5).more (Nat.le_succ _)⟩)
              clear b5 G4 T4 AC
              go_wp2
              go_roundw
              case rel => exact ⟨i + 1, by simp, by omega, by omega, G5⟩
              case measure => simp [intOf] <;> omega
            · have f0 : (EE == 0) = false := by simpa using he
              have f1 : (EE != 0) = true := by simp [he]
              have f2 : decide (EE = 0) = false := decide_eq_false he
              have EQ2 := Lib.hid (EQ.out he)
              go_wp2_with fail
              refine AC.out.mono ?_
              rintro e w5 ⟨rfl, b5⟩
              have EQ5 := Lib.hid (EQ2.out w5 b5)
              have G5 := Lib.hid (GN.out w5 ⟨{ W2 with R := R' }, s2, bs', Z', Ls', r2, laid2, told2, rfl, G4.out.step b5, (T4.out.below b5).more (Nat.le_succ _)⟩)
              clear b5 G4 T4 AC
              go_wp2_with fail
              refine EQ5.out.mono ?_
              rintro e w6 ⟨rfl, rfl⟩
              go_wp2
              go_roundw
              case rel => exact ⟨i + 1, by simp, by omega, by omega, G5⟩
              case measure => simp [intOf] <;> omega
    replace hB := Lib.hid hB
    replace hNr := Lib.hid hNr
    clear T eb HP
    rcases Nat.lt_or_ge i l.length with h1 | h1
    · have d1 : decide ((i : Int) < (l.length : Int)) = true := decide_eq_true (by omega)
      have d1' : decide (i < l.length) = true := decide_eq_true h1
      have d2 : decide ((i : Int) < 60) = false := decide_eq_false (by omega)
      clear hlt
      go_wp2_with fail
      refine (WC.out _).mono ?_
      rintro e w7 ⟨rfl, b7⟩
      have hB7 := Lib.hid (hB.out.trans (b7.mono hNr.out))
      clear b7
      go_wp2
      go_ret
      exact ⟨rfl, hB7.out⟩
    · have d1 : decide ((i : Int) < (l.length : Int)) = false := decide_eq_false (by omega)
      have d1' : decide (i < l.length) = false := decide_eq_false (by omega)
      clear hlt
      go_wp2_with fail
      refine (WC.out _).mono ?_
      rintro e w7 ⟨rfl, b7⟩
      have hB7 := Lib.hid (hB.out.trans (b7.mono hNr.out))
      clear b7
      go_wp2
      go_ret
      exact ⟨rfl, hB7.out⟩
end Go.Proofs.YtfjiphibalhcgaaGreat.Que
