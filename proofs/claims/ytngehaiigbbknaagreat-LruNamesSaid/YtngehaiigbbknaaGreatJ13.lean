/-
  Contracts and lemmas, joined: LruWakes, LruNamesC.
-/
import Derived.Test.YtngehaiigbbknaaGreatJ12
set_option linter.unusedSimpArgs false
set_option linter.unusedVariables false
/-
  The walk of wakes.
-/
namespace Go.Proofs.YtngehaiigbbknaaGreat.Que
open Go.RowKit Base Arena Cls Itm
set_option linter.unusedVariables false
set_option linter.unusedSectionVars false

theorem three_rev {l : List Nat} (h : l.length = 3) : ∃ c b a, l = [c, b, a] ∧ l.reverse = [a, b, c] := by
  match l, h with
  | [c, b, a], _ => exact ⟨c, b, a, rfl, rfl⟩
/-- What is held may be chosen anew. -/
theorem wpAnyH_weak {P : Program} {md : Region.Mode} {ops : Array Oper} {Q : Exit → Act → World → Prop} {S S' : World → Prop} (hS : ∀ w, S' w → S w) : ∀ (fuel : Nat) (listed : Array Bool) (a : Act) (w : World), wpAnyH P md ops Q S' fuel listed a w → wpAnyH P md ops Q S fuel listed a w
  | 0, _, _, _, h => h
  | fuel + 1, _, _, _, h => ⟨h.1, fun i hi => wpOp_mono (fun a' w' h' => ⟨hS w' h'.1, wpAnyH_weak hS fuel _ a' w' h'.2⟩) (h.2 i hi)⟩
set_option maxRecDepth 100000 in
set_option maxHeartbeats 3200000 in
theorem wakesC (w : World) : Calls Tryz.prog 15 #[] w fun e w' => e = .returned (.bool true) ∧ Below w.heap.size w w' := by
  have BC := begunC8 w 33 33 (by unfold Cls.In; decide) (by unfold Cls.In; decide)
  have n1 := fun w => numC6 w 0
  obtain ⟨N, hN⟩ : ∃ N, N = w.heap.size := ⟨_, rfl⟩
  rw [← hN] at BC ⊢
  replace hN := Lib.hid hN
  replace BC := Lib.hid BC
  go_enter Tryz.func15, Tryz.ntmps15
  go_wp2_with fail
  refine BC.out.mono ?_
  rintro e w1 ⟨b1, W, g, d, rfl, hg, hd, hh, hw, A1⟩
  have R1 : WLx N w w1 W g d [] [] := ⟨_, _, _, _, _, _, _, b1, by rw [← tri_one, oneL_nil]; exact A1, ⟨by simp, by simp, by simp, by simp⟩, rel_new _, .inl ⟨rfl, rfl⟩, by simp, by show 0 ≤ _; omega, by simp, by simp, hg, hd, by rw [hh]; rfl, by rw [hw]; rfl, by simp⟩
  replace R1 := Lib.hid R1
  clear b1 hg hd hh hw A1 BC
  obtain ⟨b, hb⟩ : ∃ b, b = W.b := ⟨_, rfl⟩
  rw [← hb]
  replace hb := Lib.hid hb
  go_wp2_with fail
  go_loopw [2] (fun vi wr => ∃ (i : Nat) (W' : W6) (l : List Nat), vi = .int .i64 (i : Int) ∧ i ≤ 3 ∧ Hid (W'.b = b) ∧ Hid (l.length = i) ∧ Hid (WLx N w wr W' g d l.reverse l)) (fun vi _ => 3 - (intOf vi).toNat)
  case atStart => exact ⟨0, W, [], rfl, Nat.zero_le _, Lib.hid hb.out.symm, Lib.hid rfl, R1⟩
  case round =>
    obtain ⟨i, W', l, rfl, hi, eb, hl, R⟩ := hrel
    clear R1
    by_cases hin : i < 3
    · have d1 : decide ((i : Int) < 3) = true := decide_eq_true (by omega)
      have q1 : IntKind.i64.wrap ((i : Int) + 1) = (i : Int) + 1 := IntWalk.i64_in _ (by omega)
      have bd : Below wr.heap.size wr wr.drew := below_drewN (Below.refl _ _) 1
      have MC := (R.out.below bd).make (by rw [List.length_reverse, hl.out]; omega)
      rw [eb.out] at MC
      obtain ⟨i2, hi2⟩ : ∃ i2, i2 = i + 1 := ⟨_, rfl⟩
      have key : ∀ w3 W3 H, W3.b = b → H ∉ l.reverse → WLx N w w3 W3 g d (l.reverse ++ [H]) l → ∃ gT cT, (w3.cell? ⟨b, 2, none⟩ = some (.pointer (some ⟨g, 0, none⟩)) ∧ w3.cell? ⟨b, 6, none⟩ = some (.slice (some ⟨gT, 0, none⟩) i2 cT) ∧ w3.cell? ⟨gT, i, none⟩ = some (.int .u64 (H : Int))) ∧
          Calls Tryz.prog 36 #[.pointer (some ⟨g, 0, none⟩), .int .u64 (H : Int)] w3 fun e w' => e = .returned (.int .i64 0) ∧ WLx N w w' W3 g d (H :: l).reverse (H :: l) ∧ (w'.cell? ⟨b, 2, none⟩ = some (.pointer (some ⟨g, 0, none⟩)) ∧ w'.cell? ⟨b, 6, none⟩ = some (.slice (some ⟨gT, 0, none⟩) i2 cT) ∧ w'.cell? ⟨gT, i, none⟩ = some (.int .u64 (H : Int))) := by
        intro w3 W3 H eb3 hnH R3
        have key2 : ∀ v (k : List Nat), WLx N w v W3 g d (l.reverse ++ [H]) k → v.cell? ⟨b, 2, none⟩ = some (.pointer (some ⟨g, 0, none⟩)) ∧ v.cell? ⟨b, 6, none⟩ = some W3.vT ∧ ∃ gT cT, W3.vT = .slice (some ⟨gT, 0, none⟩) i2 cT ∧ v.cell? ⟨gT, i, none⟩ = some (.int .u64 (H : Int)) := by
          intro v k Rv
          obtain ⟨c2, c6, T3, -, -⟩ := Rv.cW
          rw [eb3] at c2 c6
          obtain ⟨gT, cT, hvT, u3⟩ := own_uv (i := i) (x := H) T3 (by rw [List.getElem?_append_right (by rw [List.length_reverse, hl.out]; exact Nat.le_refl _), List.length_reverse, hl.out, Nat.sub_self]; rfl)
          rw [List.length_append, List.length_singleton, List.length_reverse, hl.out, ← hi2] at hvT
          exact ⟨c2, c6, gT, cT, hvT, u3⟩
        obtain ⟨c2, c6, gT, cT, hvT, u3⟩ := key2 w3 l R3
        refine ⟨gT, cT, ⟨c2, by rw [c6, hvT], u3⟩, ?_⟩
        have EC := R3.enter (H := H) (by simp) (fun e => hnH (by simpa using e))
        refine EC.mono ?_
        rintro e w' ⟨rfl, R4⟩
        obtain ⟨k2, k6, gT', cT', hv', u4⟩ := key2 w' _ R4
        have e5 := hvT.symm.trans hv'
        injection e5 with e6 e7 e8
        injection e6 with e6
        injection e6 with e6
        rw [List.reverse_cons]
        exact ⟨rfl, R4, k2, by rw [k6, hvT], by rw [e6]; exact u4⟩
      have q2 : ((i2 : Int) != (i : Int) + 1) = false := by rw [bne_eq_false_iff_eq]; omega
      have q3 : ((i2 : Int) == (i : Int) + 1) = true := by rw [beq_iff_eq]; omega
      have q4 : decide ((i2 : Int) = (i : Int) + 1) = true := decide_eq_true (by omega)
      have i0 : (0 : Int) ≤ (i : Int) := by omega
      have i1 : (i : Int) < (i2 : Int) := by omega
      replace MC := Lib.hid MC
      replace key := Lib.hid key
      replace hi2 := Lib.hid hi2
      clear R bd
      go_upto_region 7 with fail
      go_cut [47] from 18 to 47 (fun s47 wx => s47 = .bool false ∧ ∃ (W3 : W6) (H : Nat), Hid (W3.b = b) ∧ Hid (WLx N w wx W3 g d (H :: l).reverse (H :: l)))
      case first =>
        refine wp_region_noPanic ?_
        refine wp_region_held_drew (S := fun _ => True) (by kernel_rfl) trivial (fun hHeld => ?_)
        refine wpAnyH_take (i := 0) (oi := _) (v := ?_) rfl (by kernel_rfl) (by kernel_rfl) (by kernel_rfl) (fun _ _ _ h => h) (Or.inl ⟨by rfl, ?_⟩) (by assumption) ?_
        rotate_left
        · try simp only [List.getElem_toArray, List.getElem_cons_succ, List.getElem_cons_zero]
          rintro w -
          go_simp
          (try with_reducible rfl)
        try simp only [List.getElem_toArray, List.getElem_cons_succ, List.getElem_cons_zero, Act.put, List.setIfInBounds_toArray, List.set_cons_zero, List.set_cons_succ]
        refine wpAnyH_take (i := 1) (oi := _) (v := ?_) rfl (by kernel_rfl) (by kernel_rfl) (by kernel_rfl) (fun _ _ _ h => h) (Or.inl ⟨by rfl, ?_⟩) (by assumption) ?_
        rotate_left
        · try simp only [List.getElem_toArray, List.getElem_cons_succ, List.getElem_cons_zero]
          rintro w -
          go_simp
          (try with_reducible rfl)
        try simp only [List.getElem_toArray, List.getElem_cons_succ, List.getElem_cons_zero, Act.put, List.setIfInBounds_toArray, List.set_cons_zero, List.set_cons_succ]
        refine wpAnyH_ready (rs := [2]) (by kernel_rfl) (by simp) ?_
        refine AllReadyH.cons (o := _) rfl (fun K hK => ?_) ?_
        · try simp only [List.getElem_toArray, List.getElem_cons_succ, List.getElem_cons_zero]
          go_simp
          go_at_call 42
          refine MC.out.mono ?_
          rintro e w3 ⟨rfl, W3, H, eb3, hnH, R3⟩
          obtain ⟨gT, cT, S3, EC⟩ := key.out w3 W3 H eb3 hnH R3
          replace EC := Lib.hid EC
          replace eb3 := Lib.hid eb3
          clear R3 MC key hnH
          go_wp2_with fail
          refine hK.out _ _ trivial (fun hHeld => ?_)
          clear hK K hHeld
          try simp only [List.getElem_toArray, List.getElem_cons_succ, List.getElem_cons_zero, Act.put, List.setIfInBounds_toArray, List.set_cons_zero, List.set_cons_succ]
          refine wpAnyH_weak (S' := fun v => v.cell? ⟨b, 2, none⟩ = some (.pointer (some ⟨g, 0, none⟩)) ∧ v.cell? ⟨b, 6, none⟩ = some (.slice (some ⟨gT, 0, none⟩) i2 cT) ∧ v.cell? ⟨gT, i, none⟩ = some (.int .u64 (H : Int))) (fun _ _ => trivial) _ _ _ _ ?_
          refine wpAnyH_take (i := 3) (oi := _) (v := ?_) rfl (by kernel_rfl) (by kernel_rfl) (by kernel_rfl) (fun _ _ _ h => h) (Or.inl ⟨by rfl, ?_⟩) (by assumption) ?_
          rotate_left
          · try simp only [List.getElem_toArray, List.getElem_cons_succ, List.getElem_cons_zero]
            rintro w ⟨hS1, hS2, hS3⟩
            go_simp
            (try with_reducible rfl)
          try simp only [List.getElem_toArray, List.getElem_cons_succ, List.getElem_cons_zero, Act.put, List.setIfInBounds_toArray, List.set_cons_zero, List.set_cons_succ]
          refine wpAnyH_take (i := 4) (oi := _) (v := ?_) rfl (by kernel_rfl) (by kernel_rfl) (by kernel_rfl) (fun _ _ _ h => h) (Or.inl ⟨by rfl, ?_⟩) (by assumption) ?_
          rotate_left
          · try simp only [List.getElem_toArray, List.getElem_cons_succ, List.getElem_cons_zero]
            rintro w ⟨hS1, hS2, hS3⟩
            go_simp
            (try with_reducible rfl)
          try simp only [List.getElem_toArray, List.getElem_cons_succ, List.getElem_cons_zero, Act.put, List.setIfInBounds_toArray, List.set_cons_zero, List.set_cons_succ]
          refine wpAnyH_take (i := 5) (oi := _) (v := ?_) rfl (by kernel_rfl) (by kernel_rfl) (by kernel_rfl) (fun _ _ _ h => h) (Or.inl ⟨by rfl, ?_⟩) (by assumption) ?_
          rotate_left
          · try simp only [List.getElem_toArray, List.getElem_cons_succ, List.getElem_cons_zero]
            rintro w ⟨hS1, hS2, hS3⟩
            go_simp
            (try with_reducible rfl)
          try simp only [List.getElem_toArray, List.getElem_cons_succ, List.getElem_cons_zero, Act.put, List.setIfInBounds_toArray, List.set_cons_zero, List.set_cons_succ]
          refine wpAnyH_take (i := 6) (oi := _) (v := ?_) rfl (by kernel_rfl) (by kernel_rfl) (by kernel_rfl) (fun _ _ _ h => h) (Or.inl ⟨by rfl, ?_⟩) (by assumption) ?_
          rotate_left
          · try simp only [List.getElem_toArray, List.getElem_cons_succ, List.getElem_cons_zero]
            rintro w ⟨hS1, hS2, hS3⟩
            go_simp
            (try with_reducible rfl)
          try simp only [List.getElem_toArray, List.getElem_cons_succ, List.getElem_cons_zero, Act.put, List.setIfInBounds_toArray, List.set_cons_zero, List.set_cons_succ]
          refine wpAnyH_take (i := 7) (oi := _) (v := ?_) rfl (by kernel_rfl) (by kernel_rfl) (by kernel_rfl) (fun _ _ _ h => h) (Or.inl ⟨by rfl, ?_⟩) (by assumption) ?_
          rotate_left
          · try simp only [List.getElem_toArray, List.getElem_cons_succ, List.getElem_cons_zero]
            rintro w ⟨hS1, hS2, hS3⟩
            go_simp
            (try with_reducible rfl)
          try simp only [List.getElem_toArray, List.getElem_cons_succ, List.getElem_cons_zero, Act.put, List.setIfInBounds_toArray, List.set_cons_zero, List.set_cons_succ]
          refine wpAnyH_take (i := 8) (oi := _) (v := ?_) rfl (by kernel_rfl) (by kernel_rfl) (by kernel_rfl) (fun _ _ _ h => h) (Or.inl ⟨by rfl, ?_⟩) (by assumption) ?_
          rotate_left
          · try simp only [List.getElem_toArray, List.getElem_cons_succ, List.getElem_cons_zero]
            rintro w ⟨hS1, hS2, hS3⟩
            go_simp
            (try with_reducible rfl)
          try simp only [List.getElem_toArray, List.getElem_cons_succ, List.getElem_cons_zero, Act.put, List.setIfInBounds_toArray, List.set_cons_zero, List.set_cons_succ]
          refine wpAnyH_take (i := 9) (oi := _) (v := ?_) rfl (by kernel_rfl) (by kernel_rfl) (by kernel_rfl) (fun _ _ _ h => h) (Or.inl ⟨by rfl, ?_⟩) (by assumption) ?_
          rotate_left
          · try simp only [List.getElem_toArray, List.getElem_cons_succ, List.getElem_cons_zero]
            rintro w ⟨hS1, hS2, hS3⟩
            go_simp
            (try with_reducible rfl)
          try simp only [List.getElem_toArray, List.getElem_cons_succ, List.getElem_cons_zero, Act.put, List.setIfInBounds_toArray, List.set_cons_zero, List.set_cons_succ]
          refine wpAnyH_take (i := 10) (oi := _) (v := ?_) rfl (by kernel_rfl) (by kernel_rfl) (by kernel_rfl) (fun _ _ _ h => h) (Or.inl ⟨by rfl, ?_⟩) (by assumption) ?_
          rotate_left
          · try simp only [List.getElem_toArray, List.getElem_cons_succ, List.getElem_cons_zero]
            rintro w ⟨hS1, hS2, hS3⟩
            go_simp
            (try with_reducible rfl)
          try simp only [List.getElem_toArray, List.getElem_cons_succ, List.getElem_cons_zero, Act.put, List.setIfInBounds_toArray, List.set_cons_zero, List.set_cons_succ]
          refine wpAnyH_take (i := 11) (oi := _) (v := ?_) rfl (by kernel_rfl) (by kernel_rfl) (by kernel_rfl) (fun _ _ _ h => h) (Or.inl ⟨by rfl, ?_⟩) (by assumption) ?_
          rotate_left
          · try simp only [List.getElem_toArray, List.getElem_cons_succ, List.getElem_cons_zero]
            rintro w ⟨hS1, hS2, hS3⟩
            go_simp
            (try with_reducible rfl)
          try simp only [List.getElem_toArray, List.getElem_cons_succ, List.getElem_cons_zero, Act.put, List.setIfInBounds_toArray, List.set_cons_zero, List.set_cons_succ]
          refine wpAnyH_take (i := 12) (oi := _) (v := ?_) rfl (by kernel_rfl) (by kernel_rfl) (by kernel_rfl) (fun _ _ _ h => h) (Or.inl ⟨by rfl, ?_⟩) (by assumption) ?_
          rotate_left
          · try simp only [List.getElem_toArray, List.getElem_cons_succ, List.getElem_cons_zero]
            rintro w ⟨hS1, hS2, hS3⟩
            go_simp
            (try with_reducible rfl)
          try simp only [List.getElem_toArray, List.getElem_cons_succ, List.getElem_cons_zero, Act.put, List.setIfInBounds_toArray, List.set_cons_zero, List.set_cons_succ]
          refine wpAnyH_take (i := 13) (oi := _) (v := ?_) rfl (by kernel_rfl) (by kernel_rfl) (by kernel_rfl) (fun _ _ _ h => h) (Or.inl ⟨by rfl, ?_⟩) (by assumption) ?_
          rotate_left
          · try simp only [List.getElem_toArray, List.getElem_cons_succ, List.getElem_cons_zero]
            rintro w ⟨hS1, hS2, hS3⟩
            go_simp
            (try with_reducible rfl)
          try simp only [List.getElem_toArray, List.getElem_cons_succ, List.getElem_cons_zero, Act.put, List.setIfInBounds_toArray, List.set_cons_zero, List.set_cons_succ]
          refine wpAnyH_take (i := 14) (oi := _) (v := ?_) rfl (by kernel_rfl) (by kernel_rfl) (by kernel_rfl) (fun _ _ _ h => h) (Or.inl ⟨by rfl, ?_⟩) (by assumption) ?_
          rotate_left
          · try simp only [List.getElem_toArray, List.getElem_cons_succ, List.getElem_cons_zero]
            rintro w ⟨hS1, hS2, hS3⟩
            go_simp
            (try with_reducible rfl)
          try simp only [List.getElem_toArray, List.getElem_cons_succ, List.getElem_cons_zero, Act.put, List.setIfInBounds_toArray, List.set_cons_zero, List.set_cons_succ]
          refine wpAnyH_take (i := 15) (oi := _) (v := ?_) rfl (by kernel_rfl) (by kernel_rfl) (by kernel_rfl) (fun _ _ _ h => h) (Or.inl ⟨by rfl, ?_⟩) (by assumption) ?_
          rotate_left
          · try simp only [List.getElem_toArray, List.getElem_cons_succ, List.getElem_cons_zero]
            rintro w ⟨hS1, hS2, hS3⟩
            go_simp
            (try with_reducible rfl)
          try simp only [List.getElem_toArray, List.getElem_cons_succ, List.getElem_cons_zero, Act.put, List.setIfInBounds_toArray, List.set_cons_zero, List.set_cons_succ]
          refine wpAnyH_take (i := 16) (oi := _) (v := ?_) rfl (by kernel_rfl) (by kernel_rfl) (by kernel_rfl) (fun _ _ _ h => h) (Or.inl ⟨by rfl, ?_⟩) (by assumption) ?_
          rotate_left
          · try simp only [List.getElem_toArray, List.getElem_cons_succ, List.getElem_cons_zero]
            rintro w ⟨hS1, hS2, hS3⟩
            go_simp
            (try with_reducible rfl)
          try simp only [List.getElem_toArray, List.getElem_cons_succ, List.getElem_cons_zero, Act.put, List.setIfInBounds_toArray, List.set_cons_zero, List.set_cons_succ]
          refine wpAnyH_take (i := 17) (oi := _) (v := ?_) rfl (by kernel_rfl) (by kernel_rfl) (by kernel_rfl) (fun _ _ _ h => h) (Or.inl ⟨by rfl, ?_⟩) (by assumption) ?_
          rotate_left
          · try simp only [List.getElem_toArray, List.getElem_cons_succ, List.getElem_cons_zero]
            rintro w ⟨hS1, hS2, hS3⟩
            go_simp
            (try with_reducible rfl)
          try simp only [List.getElem_toArray, List.getElem_cons_succ, List.getElem_cons_zero, Act.put, List.setIfInBounds_toArray, List.set_cons_zero, List.set_cons_succ]
          refine wpAnyH_take (i := 18) (oi := _) (v := ?_) rfl (by kernel_rfl) (by kernel_rfl) (by kernel_rfl) (fun _ _ _ h => h) (Or.inl ⟨by rfl, ?_⟩) (by assumption) ?_
          rotate_left
          · try simp only [List.getElem_toArray, List.getElem_cons_succ, List.getElem_cons_zero]
            rintro w ⟨hS1, hS2, hS3⟩
            go_simp
            (try with_reducible rfl)
          try simp only [List.getElem_toArray, List.getElem_cons_succ, List.getElem_cons_zero, Act.put, List.setIfInBounds_toArray, List.set_cons_zero, List.set_cons_succ]
          refine wpAnyH_take (i := 19) (oi := _) (v := ?_) rfl (by kernel_rfl) (by kernel_rfl) (by kernel_rfl) (fun _ _ _ h => h) (Or.inl ⟨by rfl, ?_⟩) (by assumption) ?_
          rotate_left
          · try simp only [List.getElem_toArray, List.getElem_cons_succ, List.getElem_cons_zero]
            rintro w ⟨hS1, hS2, hS3⟩
            go_simp
            (try with_reducible rfl)
          try simp only [List.getElem_toArray, List.getElem_cons_succ, List.getElem_cons_zero, Act.put, List.setIfInBounds_toArray, List.set_cons_zero, List.set_cons_succ]
          refine wpAnyH_take (i := 20) (oi := _) (v := ?_) rfl (by kernel_rfl) (by kernel_rfl) (by kernel_rfl) (fun _ _ _ h => h) (Or.inl ⟨by rfl, ?_⟩) (by assumption) ?_
          rotate_left
          · try simp only [List.getElem_toArray, List.getElem_cons_succ, List.getElem_cons_zero]
            rintro w ⟨hS1, hS2, hS3⟩
            go_simp
            (try with_reducible rfl)
          try simp only [List.getElem_toArray, List.getElem_cons_succ, List.getElem_cons_zero, Act.put, List.setIfInBounds_toArray, List.set_cons_zero, List.set_cons_succ]
          refine wpAnyH_take (i := 21) (oi := _) (v := ?_) rfl (by kernel_rfl) (by kernel_rfl) (by kernel_rfl) (fun _ _ _ h => h) (Or.inl ⟨by rfl, ?_⟩) (by assumption) ?_
          rotate_left
          · try simp only [List.getElem_toArray, List.getElem_cons_succ, List.getElem_cons_zero]
            rintro w ⟨hS1, hS2, hS3⟩
            go_simp
            (try with_reducible rfl)
          try simp only [List.getElem_toArray, List.getElem_cons_succ, List.getElem_cons_zero, Act.put, List.setIfInBounds_toArray, List.set_cons_zero, List.set_cons_succ]
          refine wpAnyH_take (i := 22) (oi := _) (v := ?_) rfl (by kernel_rfl) (by kernel_rfl) (by kernel_rfl) (fun _ _ _ h => h) (Or.inl ⟨by rfl, ?_⟩) (by assumption) ?_
          rotate_left
          · try simp only [List.getElem_toArray, List.getElem_cons_succ, List.getElem_cons_zero]
            rintro w ⟨hS1, hS2, hS3⟩
            go_simp
            (try with_reducible rfl)
          try simp only [List.getElem_toArray, List.getElem_cons_succ, List.getElem_cons_zero, Act.put, List.setIfInBounds_toArray, List.set_cons_zero, List.set_cons_succ]
          refine wpAnyH_take (i := 23) (oi := _) (v := ?_) rfl (by kernel_rfl) (by kernel_rfl) (by kernel_rfl) (fun _ _ _ h => h) (Or.inl ⟨by rfl, ?_⟩) (by assumption) ?_
          rotate_left
          · try simp only [List.getElem_toArray, List.getElem_cons_succ, List.getElem_cons_zero]
            rintro w ⟨hS1, hS2, hS3⟩
            go_simp
            (try with_reducible rfl)
          try simp only [List.getElem_toArray, List.getElem_cons_succ, List.getElem_cons_zero, Act.put, List.setIfInBounds_toArray, List.set_cons_zero, List.set_cons_succ]
          refine wpAnyH_take (i := 24) (oi := _) (v := ?_) rfl (by kernel_rfl) (by kernel_rfl) (by kernel_rfl) (fun _ _ _ h => h) (Or.inl ⟨by rfl, ?_⟩) (by assumption) ?_
          rotate_left
          · try simp only [List.getElem_toArray, List.getElem_cons_succ, List.getElem_cons_zero]
            rintro w ⟨hS1, hS2, hS3⟩
            go_simp
            (try with_reducible rfl)
          try simp only [List.getElem_toArray, List.getElem_cons_succ, List.getElem_cons_zero, Act.put, List.setIfInBounds_toArray, List.set_cons_zero, List.set_cons_succ]
          refine wpAnyH_take (i := 25) (oi := _) (v := ?_) rfl (by kernel_rfl) (by kernel_rfl) (by kernel_rfl) (fun _ _ _ h => h) (Or.inl ⟨by rfl, ?_⟩) (by assumption) ?_
          rotate_left
          · try simp only [List.getElem_toArray, List.getElem_cons_succ, List.getElem_cons_zero]
            rintro w ⟨hS1, hS2, hS3⟩
            go_simp
            (try with_reducible rfl)
          try simp only [List.getElem_toArray, List.getElem_cons_succ, List.getElem_cons_zero, Act.put, List.setIfInBounds_toArray, List.set_cons_zero, List.set_cons_succ]
          refine wpAnyH_ready (rs := [26]) (by kernel_rfl) (by simp) ?_
          refine AllReadyH.cons (o := _) rfl (fun K hK => ?_) ?_
          · try simp only [List.getElem_toArray, List.getElem_cons_succ, List.getElem_cons_zero]
            go_simp
            go_at_call 36
            refine EC.out.mono ?_
            rintro e w4 ⟨rfl, R4, S4⟩
            replace R4 := Lib.hid R4
            clear EC
            go_wp2_with fail
            refine hK.out _ _ S4 (fun hHeld => ?_)
            clear hK K hHeld
            try simp only [List.getElem_toArray, List.getElem_cons_succ, List.getElem_cons_zero, Act.put, List.setIfInBounds_toArray, List.set_cons_zero, List.set_cons_succ]
            refine wpAnyH_ready (rs := [27]) (by kernel_rfl) (by simp) ?_
            refine AllReadyH.cons (o := _) rfl (fun K hK => ?_) ?_
            · try simp only [List.getElem_toArray, List.getElem_cons_succ, List.getElem_cons_zero]
              go_simp
              go_at_call 14
              refine (n1 _).mono ?_
              rintro e w' ⟨rfl, rfl⟩
              go_wp2_with fail
              refine hK.out _ _ S4 (fun hHeld => ?_)
              clear hK K hHeld
              try simp only [List.getElem_toArray, List.getElem_cons_succ, List.getElem_cons_zero, Act.put, List.setIfInBounds_toArray, List.set_cons_zero, List.set_cons_succ]
              refine wpAnyH_take (i := 28) (oi := _) (v := ?_) rfl (by kernel_rfl) (by kernel_rfl) (by kernel_rfl) (fun _ _ _ h => h) (Or.inl ⟨by rfl, ?_⟩) (by assumption) ?_
              rotate_left
              · try simp only [List.getElem_toArray, List.getElem_cons_succ, List.getElem_cons_zero]
                rintro w ⟨hS1, hS2, hS3⟩
                go_simp
                (try with_reducible rfl)
              try simp only [List.getElem_toArray, List.getElem_cons_succ, List.getElem_cons_zero, Act.put, List.setIfInBounds_toArray, List.set_cons_zero, List.set_cons_succ]
              refine wpAnyH_take (i := 29) (oi := _) (v := ?_) rfl (by kernel_rfl) (by kernel_rfl) (by kernel_rfl) (fun _ _ _ h => h) (Or.inl ⟨by rfl, ?_⟩) (by assumption) ?_
              rotate_left
              · try simp only [List.getElem_toArray, List.getElem_cons_succ, List.getElem_cons_zero]
                rintro w ⟨hS1, hS2, hS3⟩
                go_simp
                (try with_reducible rfl)
              try simp only [List.getElem_toArray, List.getElem_cons_succ, List.getElem_cons_zero, Act.put, List.setIfInBounds_toArray, List.set_cons_zero, List.set_cons_succ]
              refine wpAnyH_done (by kernel_rfl) ?_ _
              refine NoPanic.normal ?_
              clear S3 S4
              go_wp2_with fail
              go_meet
              exact ⟨rfl, W3, H, eb3, R4⟩
            exact AllReadyH.nil
          exact AllReadyH.nil
        exact AllReadyH.nil
      case rest =>
        obtain ⟨rfl, W3, H, eb3, R4⟩ := hcut
        rename World => w4
        go_wp2
        go_roundw
        case rel => exact ⟨i + 1, W3, H :: l, by simp, by omega, eb3, Lib.hid (by rw [List.length_cons, hl.out]), R4⟩
        case measure => simp [intOf] <;> omega
    · obtain rfl : i = 3 := by omega
      have d1 : decide (((3 : Nat) : Int) < 3) = false := by decide
      obtain ⟨c, m, a, rfl, hr3⟩ := three_rev hl.out
      have R' := R.out
      rw [hr3] at R'
      have BL := R'.balance
      rw [eb.out] at BL
      obtain ⟨c2, -, -, -, -⟩ := R'.cW
      rw [eb.out] at c2
      obtain ⟨a64, a0⟩ := R'.lt (H := a) (by simp)
      obtain ⟨-, m0⟩ := R'.lt (H := m) (by simp)
      obtain ⟨-, c0⟩ := R'.lt (H := c) (by simp)
      replace BL := Lib.hid BL
      replace eb := Lib.hid eb.out
      replace a0 := Lib.hid a0
      replace m0 := Lib.hid m0
      replace c0 := Lib.hid c0
      clear R R' hr3 hl
      go_wp2_with fail
      refine BL.out.mono ?_
      rintro e w2 ⟨rfl, b2, s, bs, Z, mk, L, gq, gl, S2, ea, hN2, k2, k6, T2, bl2⟩
      (try rw [eb.out] at k2)
      (try rw [eb.out] at k6)
      have PC := pickC S2 0 0 5 (by unfold Cls.In; decide)
      rw [tri_row, show ([m, a].reverse ++ ([] : List Nat).reverse ++ [c].reverse) = [a, m, c] from rfl, pick_three a0.out m0.out c0.out (actB_even ea)] at PC
      have LC := fun v (bv : Below w2.heap.size w2 v) => lenC3 (S2.below bv) 0
      obtain ⟨t1, t2, t3⟩ := tri_len [c] [] [m, a]
      rw [t1, t2, t3] at LC
      obtain ⟨gT, cT, hvT, u0⟩ := own_uv (i := 0) (x := a) T2 rfl
      rw [hvT, show [a, m, c].length = 3 from rfl] at k6
      replace PC := Lib.hid PC
      replace LC := Lib.hid LC
      replace b2 := Lib.hid b2
      replace hvT := Lib.hid hvT
      clear S2 T2 ea t1 t2 t3 BL c2
      go_wp2_with fail
      refine PC.out.mono ?_
      rintro e w3 ⟨rfl, b3⟩
      have k2' := (b3.cell (p := ⟨b, 2, none⟩) (World.block_lt_of_cell? _ _ k2)).trans k2
      have k6' := (b3.cell (p := ⟨b, 6, none⟩) (World.block_lt_of_cell? _ _ k6)).trans k6
      have u0' := (b3.cell (p := ⟨gT, 0, none⟩) (World.block_lt_of_cell? _ _ u0)).trans u0
      have LC3 := Lib.hid (LC.out w3 b3)
      have b13 := b2.out.trans (b3.mono hN2)
      have hN3 := Nat.le_trans hN2 b3.size
      replace b13 := Lib.hid b13
      clear k2 k6 u0 b3 b2 PC LC
      go_wp2_with fail
      refine LC3.out.mono ?_
      rintro e w4 ⟨rfl, b4⟩
      have k6 := (b4.cell (p := ⟨b, 6, none⟩) (World.block_lt_of_cell? _ _ k6')).trans k6'
      have u0 := (b4.cell (p := ⟨gT, 0, none⟩) (World.block_lt_of_cell? _ _ u0')).trans u0'
      have b14 := Lib.hid (b13.out.trans (b4.mono hN3))
      clear k2' k6' u0' b4 b13
      go_wp2
      go_ret
      exact ⟨rfl, b14.out⟩
end Go.Proofs.YtngehaiigbbknaaGreat.Que
/-
  The walk of LruNames.
-/
namespace Go.Proofs.YtngehaiigbbknaaGreat.Que
open Go.RowKit Base Arena Cls Itm
set_option linter.unusedVariables false

theorem lruNamesC (w : World) : Calls Tryz.prog 4 #[] w fun e w' => e = .returned (.bool true) ∧ Below w.heap.size w w' := by
  have n1 := fun w n => numC6 w n
  have WC := fun w => wakesC w
  go_enter Tryz.func4, Tryz.ntmps4
  go_wp2_with (first | (go_at_call 14; refine (n1 _ _).mono ?_; rintro e w' ⟨rfl, rfl⟩) | (go_at_call 15; refine (WC _).mono ?_; rintro e w' ⟨rfl, b⟩))
  go_ret
  exact ⟨rfl, b⟩
end Go.Proofs.YtngehaiigbbknaaGreat.Que
