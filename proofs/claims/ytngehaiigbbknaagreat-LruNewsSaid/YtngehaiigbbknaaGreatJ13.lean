/-
  Contracts and lemmas, joined: LruWakes, LruNamesC, ClassArg, LruNewsLaw, LruNewsArg.
-/
import Derived.Test.YtngehaiigbbknaaGreatJ1
import Derived.Test.YtngehaiigbbknaaGreatJ2
import Derived.Test.YtngehaiigbbknaaGreatJ12
set_option linter.unusedSimpArgs false
set_option linter.unusedVariables false
/-
  The walk of wakes.
-/
namespace Go.Proofs.YtngehaiigbbknaaGreat.Que
open Go.RowKit Base Arena Cls Itm
set_option linter.unusedVariables false
set_option linter.unusedSectionVars false

theorem three_rev {l : List Nat} (h : l.length = 3) : ∃ c b a, l = [c, b, a] ∧ l.reverse = [a, b, c] := by
  match l, h with
  | [c, b, a], _ => exact ⟨c, b, a, rfl, rfl⟩
/-- What is held may be chosen anew. -/
theorem wpAnyH_weak {P : Program} {md : Region.Mode} {ops : Array Oper} {Q : Exit → Act → World → Prop} {S S' : World → Prop} (hS : ∀ w, S' w → S w) : ∀ (fuel : Nat) (listed : Array Bool) (a : Act) (w : World), wpAnyH P md ops Q S' fuel listed a w → wpAnyH P md ops Q S fuel listed a w
  | 0, _, _, _, h => h
  | fuel + 1, _, _, _, h => ⟨h.1, fun i hi => wpOp_mono (fun a' w' h' => ⟨hS w' h'.1, wpAnyH_weak hS fuel _ a' w' h'.2⟩) (h.2 i hi)⟩
set_option maxRecDepth 100000 in
set_option maxHeartbeats 3200000 in
theorem wakesC (w : World) : Calls Tryz.prog 15 #[] w fun e w' => e = .returned (.bool true) ∧ Below w.heap.size w w' := by
  have BC := begunC8 w 33 33 (by unfold Cls.In; decide) (by unfold Cls.In; decide)
  have n1 := fun w => numC6 w 0
  obtain ⟨N, hN⟩ : ∃ N, N = w.heap.size := ⟨_, rfl⟩
  rw [← hN] at BC ⊢
  replace hN := Lib.hid hN
  replace BC := Lib.hid BC
  go_enter Tryz.func15, Tryz.ntmps15
  go_wp2_with fail
  refine BC.out.mono ?_
  rintro e w1 ⟨b1, W, g, d, rfl, hg, hd, hh, hw, A1⟩
  have R1 : WLx N w w1 W g d [] [] := ⟨_, _, _, _, _, _, _, b1, by rw [← tri_one, oneL_nil]; exact A1, ⟨by simp, by simp, by simp, by simp⟩, rel_new _, .inl ⟨rfl, rfl⟩, by simp, by show 0 ≤ _; omega, by simp, by simp, hg, hd, by rw [hh]; rfl, by rw [hw]; rfl, by simp⟩
  replace R1 := Lib.hid R1
  clear b1 hg hd hh hw A1 BC
  obtain ⟨b, hb⟩ : ∃ b, b = W.b := ⟨_, rfl⟩
  rw [← hb]
  replace hb := Lib.hid hb
  go_wp2_with fail
  go_loopw [2] (fun vi wr => ∃ (i : Nat) (W' : W6) (l : List Nat), vi = .int .i64 (i : Int) ∧ i ≤ 3 ∧ Hid (W'.b = b) ∧ Hid (l.length = i) ∧ Hid (WLx N w wr W' g d l.reverse l)) (fun vi _ => 3 - (intOf vi).toNat)
  case atStart => exact ⟨0, W, [], rfl, Nat.zero_le _, Lib.hid hb.out.symm, Lib.hid rfl, R1⟩
  case round =>
    obtain ⟨i, W', l, rfl, hi, eb, hl, R⟩ := hrel
    clear R1
    by_cases hin : i < 3
    · have d1 : decide ((i : Int) < 3) = true := decide_eq_true (by omega)
      have q1 : IntKind.i64.wrap ((i : Int) + 1) = (i : Int) + 1 := IntWalk.i64_in _ (by omega)
      have bd : Below wr.heap.size wr wr.drew := below_drewN (Below.refl _ _) 1
      have MC := (R.out.below bd).make (by rw [List.length_reverse, hl.out]; omega)
      rw [eb.out] at MC
      obtain ⟨i2, hi2⟩ : ∃ i2, i2 = i + 1 := ⟨_, rfl⟩
      have key : ∀ w3 W3 H, W3.b = b → H ∉ l.reverse → WLx N w w3 W3 g d (l.reverse ++ [H]) l → ∃ gT cT, (w3.cell? ⟨b, 2, none⟩ = some (.pointer (some ⟨g, 0, none⟩)) ∧ w3.cell? ⟨b, 6, none⟩ = some (.slice (some ⟨gT, 0, none⟩) i2 cT) ∧ w3.cell? ⟨gT, i, none⟩ = some (.int .u64 (H : Int))) ∧
          Calls Tryz.prog 36 #[.pointer (some ⟨g, 0, none⟩), .int .u64 (H : Int)] w3 fun e w' => e = .returned (.int .i64 0) ∧ WLx N w w' W3 g d (H :: l).reverse (H :: l) ∧ (w'.cell? ⟨b, 2, none⟩ = some (.pointer (some ⟨g, 0, none⟩)) ∧ w'.cell? ⟨b, 6, none⟩ = some (.slice (some ⟨gT, 0, none⟩) i2 cT) ∧ w'.cell? ⟨gT, i, none⟩ = some (.int .u64 (H : Int))) := by
        intro w3 W3 H eb3 hnH R3
        have key2 : ∀ v (k : List Nat), WLx N w v W3 g d (l.reverse ++ [H]) k → v.cell? ⟨b, 2, none⟩ = some (.pointer (some ⟨g, 0, none⟩)) ∧ v.cell? ⟨b, 6, none⟩ = some W3.vT ∧ ∃ gT cT, W3.vT = .slice (some ⟨gT, 0, none⟩) i2 cT ∧ v.cell? ⟨gT, i, none⟩ = some (.int .u64 (H : Int)) := by
          intro v k Rv
          obtain ⟨c2, c6, T3, -, -⟩ := Rv.cW
          rw [eb3] at c2 c6
          obtain ⟨gT, cT, hvT, u3⟩ := own_uv (i := i) (x := H) T3 (by rw [List.getElem?_append_right (by rw [List.length_reverse, hl.out]; exact Nat.le_refl _), List.length_reverse, hl.out, Nat.sub_self]; rfl)
          rw [List.length_append, List.length_singleton, List.length_reverse, hl.out, ← hi2] at hvT
          exact ⟨c2, c6, gT, cT, hvT, u3⟩
        obtain ⟨c2, c6, gT, cT, hvT, u3⟩ := key2 w3 l R3
        refine ⟨gT, cT, ⟨c2, by rw [c6, hvT], u3⟩, ?_⟩
        have EC := R3.enter (H := H) (by simp) (fun e => hnH (by simpa using e))
        refine EC.mono ?_
        rintro e w' ⟨rfl, R4⟩
        obtain ⟨k2, k6, gT', cT', hv', u4⟩ := key2 w' _ R4
        have e5 := hvT.symm.trans hv'
        injection e5 with e6 e7 e8
        injection e6 with e6
        injection e6 with e6
        rw [List.reverse_cons]
        exact ⟨rfl, R4, k2, by rw [k6, hvT], by rw [e6]; exact u4⟩
      have q2 : ((i2 : Int) != (i : Int) + 1) = false := by rw [bne_eq_false_iff_eq]; omega
      have q3 : ((i2 : Int) == (i : Int) + 1) = true := by rw [beq_iff_eq]; omega
      have q4 : decide ((i2 : Int) = (i : Int) + 1) = true := decide_eq_true (by omega)
      have i0 : (0 : Int) ≤ (i : Int) := by omega
      have i1 : (i : Int) < (i2 : Int) := by omega
      replace MC := Lib.hid MC
      replace key := Lib.hid key
      replace hi2 := Lib.hid hi2
      clear R bd
      go_upto_region 7 with fail
      go_cut [47] from 18 to 47 (fun s47 wx => s47 = .bool false ∧ ∃ (W3 : W6) (H : Nat), Hid (W3.b = b) ∧ Hid (WLx N w wx W3 g d (H :: l).reverse (H :: l)))
      case first =>
        refine wp_region_noPanic ?_
        refine wp_region_held_drew (S := fun _ => True) (by kernel_rfl) trivial (fun hHeld => ?_)
        refine wpAnyH_take (i := 0) (oi := _) (v := ?_) rfl (by kernel_rfl) (by kernel_rfl) (by kernel_rfl) (fun _ _ _ h => h) (Or.inl ⟨by rfl, ?_⟩) (by assumption) ?_
        rotate_left
        · try simp only [List.getElem_toArray, List.getElem_cons_succ, List.getElem_cons_zero]
          rintro w -
          go_simp
          (try with_reducible rfl)
        try simp only [List.getElem_toArray, List.getElem_cons_succ, List.getElem_cons_zero, Act.put, List.setIfInBounds_toArray, List.set_cons_zero, List.set_cons_succ]
        refine wpAnyH_take (i := 1) (oi := _) (v := ?_) rfl (by kernel_rfl) (by kernel_rfl) (by kernel_rfl) (fun _ _ _ h => h) (Or.inl ⟨by rfl, ?_⟩) (by assumption) ?_
        rotate_left
        · try simp only [List.getElem_toArray, List.getElem_cons_succ, List.getElem_cons_zero]
          rintro w -
          go_simp
          (try with_reducible rfl)
        try simp only [List.getElem_toArray, List.getElem_cons_succ, List.getElem_cons_zero, Act.put, List.setIfInBounds_toArray, List.set_cons_zero, List.set_cons_succ]
        refine wpAnyH_ready (rs := [2]) (by kernel_rfl) (by simp) ?_
        refine AllReadyH.cons (o := _) rfl (fun K hK => ?_) ?_
        · try simp only [List.getElem_toArray, List.getElem_cons_succ, List.getElem_cons_zero]
          go_simp
          go_at_call 42
          refine MC.out.mono ?_
          rintro e w3 ⟨rfl, W3, H, eb3, hnH, R3⟩
          obtain ⟨gT, cT, S3, EC⟩ := key.out w3 W3 H eb3 hnH R3
          replace EC := Lib.hid EC
          replace eb3 := Lib.hid eb3
          clear R3 MC key hnH
          go_wp2_with fail
          refine hK.out _ _ trivial (fun hHeld => ?_)
          clear hK K hHeld
          try simp only [List.getElem_toArray, List.getElem_cons_succ, List.getElem_cons_zero, Act.put, List.setIfInBounds_toArray, List.set_cons_zero, List.set_cons_succ]
          refine wpAnyH_weak (S' := fun v => v.cell? ⟨b, 2, none⟩ = some (.pointer (some ⟨g, 0, none⟩)) ∧ v.cell? ⟨b, 6, none⟩ = some (.slice (some ⟨gT, 0, none⟩) i2 cT) ∧ v.cell? ⟨gT, i, none⟩ = some (.int .u64 (H : Int))) (fun _ _ => trivial) _ _ _ _ ?_
          refine wpAnyH_take (i := 3) (oi := _) (v := ?_) rfl (by kernel_rfl) (by kernel_rfl) (by kernel_rfl) (fun _ _ _ h => h) (Or.inl ⟨by rfl, ?_⟩) (by assumption) ?_
          rotate_left
          · try simp only [List.getElem_toArray, List.getElem_cons_succ, List.getElem_cons_zero]
            rintro w ⟨hS1, hS2, hS3⟩
            go_simp
            (try with_reducible rfl)
          try simp only [List.getElem_toArray, List.getElem_cons_succ, List.getElem_cons_zero, Act.put, List.setIfInBounds_toArray, List.set_cons_zero, List.set_cons_succ]
          refine wpAnyH_take (i := 4) (oi := _) (v := ?_) rfl (by kernel_rfl) (by kernel_rfl) (by kernel_rfl) (fun _ _ _ h => h) (Or.inl ⟨by rfl, ?_⟩) (by assumption) ?_
          rotate_left
          · try simp only [List.getElem_toArray, List.getElem_cons_succ, List.getElem_cons_zero]
            rintro w ⟨hS1, hS2, hS3⟩
            go_simp
            (try with_reducible rfl)
          try simp only [List.getElem_toArray, List.getElem_cons_succ, List.getElem_cons_zero, Act.put, List.setIfInBounds_toArray, List.set_cons_zero, List.set_cons_succ]
          refine wpAnyH_take (i := 5) (oi := _) (v := ?_) rfl (by kernel_rfl) (by kernel_rfl) (by kernel_rfl) (fun _ _ _ h => h) (Or.inl ⟨by rfl, ?_⟩) (by assumption) ?_
          rotate_left
          · try simp only [List.getElem_toArray, List.getElem_cons_succ, List.getElem_cons_zero]
            rintro w ⟨hS1, hS2, hS3⟩
            go_simp
            (try with_reducible rfl)
          try simp only [List.getElem_toArray, List.getElem_cons_succ, List.getElem_cons_zero, Act.put, List.setIfInBounds_toArray, List.set_cons_zero, List.set_cons_succ]
          refine wpAnyH_take (i := 6) (oi := _) (v := ?_) rfl (by kernel_rfl) (by kernel_rfl) (by kernel_rfl) (fun _ _ _ h => h) (Or.inl ⟨by rfl, ?_⟩) (by assumption) ?_
          rotate_left
          · try simp only [List.getElem_toArray, List.getElem_cons_succ, List.getElem_cons_zero]
            rintro w ⟨hS1, hS2, hS3⟩
            go_simp
            (try with_reducible rfl)
          try simp only [List.getElem_toArray, List.getElem_cons_succ, List.getElem_cons_zero, Act.put, List.setIfInBounds_toArray, List.set_cons_zero, List.set_cons_succ]
          refine wpAnyH_take (i := 7) (oi := _) (v := ?_) rfl (by kernel_rfl) (by kernel_rfl) (by kernel_rfl) (fun _ _ _ h => h) (Or.inl ⟨by rfl, ?_⟩) (by assumption) ?_
          rotate_left
          · try simp only [List.getElem_toArray, List.getElem_cons_succ, List.getElem_cons_zero]
            rintro w ⟨hS1, hS2, hS3⟩
            go_simp
            (try with_reducible rfl)
          try simp only [List.getElem_toArray, List.getElem_cons_succ, List.getElem_cons_zero, Act.put, List.setIfInBounds_toArray, List.set_cons_zero, List.set_cons_succ]
          refine wpAnyH_take (i := 8) (oi := _) (v := ?_) rfl (by kernel_rfl) (by kernel_rfl) (by kernel_rfl) (fun _ _ _ h => h) (Or.inl ⟨by rfl, ?_⟩) (by assumption) ?_
          rotate_left
          · try simp only [List.getElem_toArray, List.getElem_cons_succ, List.getElem_cons_zero]
            rintro w ⟨hS1, hS2, hS3⟩
            go_simp
            (try with_reducible rfl)
          try simp only [List.getElem_toArray, List.getElem_cons_succ, List.getElem_cons_zero, Act.put, List.setIfInBounds_toArray, List.set_cons_zero, List.set_cons_succ]
          refine wpAnyH_take (i := 9) (oi := _) (v := ?_) rfl (by kernel_rfl) (by kernel_rfl) (by kernel_rfl) (fun _ _ _ h => h) (Or.inl ⟨by rfl, ?_⟩) (by assumption) ?_
          rotate_left
          · try simp only [List.getElem_toArray, List.getElem_cons_succ, List.getElem_cons_zero]
            rintro w ⟨hS1, hS2, hS3⟩
            go_simp
            (try with_reducible rfl)
          try simp only [List.getElem_toArray, List.getElem_cons_succ, List.getElem_cons_zero, Act.put, List.setIfInBounds_toArray, List.set_cons_zero, List.set_cons_succ]
          refine wpAnyH_take (i := 10) (oi := _) (v := ?_) rfl (by kernel_rfl) (by kernel_rfl) (by kernel_rfl) (fun _ _ _ h => h) (Or.inl ⟨by rfl, ?_⟩) (by assumption) ?_
          rotate_left
          · try simp only [List.getElem_toArray, List.getElem_cons_succ, List.getElem_cons_zero]
            rintro w ⟨hS1, hS2, hS3⟩
            go_simp
            (try with_reducible rfl)
          try simp only [List.getElem_toArray, List.getElem_cons_succ, List.getElem_cons_zero, Act.put, List.setIfInBounds_toArray, List.set_cons_zero, List.set_cons_succ]
          refine wpAnyH_take (i := 11) (oi := _) (v := ?_) rfl (by kernel_rfl) (by kernel_rfl) (by kernel_rfl) (fun _ _ _ h => h) (Or.inl ⟨by rfl, ?_⟩) (by assumption) ?_
          rotate_left
          · try simp only [List.getElem_toArray, List.getElem_cons_succ, List.getElem_cons_zero]
            rintro w ⟨hS1, hS2, hS3⟩
            go_simp
            (try with_reducible rfl)
          try simp only [List.getElem_toArray, List.getElem_cons_succ, List.getElem_cons_zero, Act.put, List.setIfInBounds_toArray, List.set_cons_zero, List.set_cons_succ]
          refine wpAnyH_take (i := 12) (oi := _) (v := ?_) rfl (by kernel_rfl) (by kernel_rfl) (by kernel_rfl) (fun _ _ _ h => h) (Or.inl ⟨by rfl, ?_⟩) (by assumption) ?_
          rotate_left
          · try simp only [List.getElem_toArray, List.getElem_cons_succ, List.getElem_cons_zero]
            rintro w ⟨hS1, hS2, hS3⟩
            go_simp
            (try with_reducible rfl)
          try simp only [List.getElem_toArray, List.getElem_cons_succ, List.getElem_cons_zero, Act.put, List.setIfInBounds_toArray, List.set_cons_zero, List.set_cons_succ]
          refine wpAnyH_take (i := 13) (oi := _) (v := ?_) rfl (by kernel_rfl) (by kernel_rfl) (by kernel_rfl) (fun _ _ _ h => h) (Or.inl ⟨by rfl, ?_⟩) (by assumption) ?_
          rotate_left
          · try simp only [List.getElem_toArray, List.getElem_cons_succ, List.getElem_cons_zero]
            rintro w ⟨hS1, hS2, hS3⟩
            go_simp
            (try with_reducible rfl)
          try simp only [List.getElem_toArray, List.getElem_cons_succ, List.getElem_cons_zero, Act.put, List.setIfInBounds_toArray, List.set_cons_zero, List.set_cons_succ]
          refine wpAnyH_take (i := 14) (oi := _) (v := ?_) rfl (by kernel_rfl) (by kernel_rfl) (by kernel_rfl) (fun _ _ _ h => h) (Or.inl ⟨by rfl, ?_⟩) (by assumption) ?_
          rotate_left
          · try simp only [List.getElem_toArray, List.getElem_cons_succ, List.getElem_cons_zero]
            rintro w ⟨hS1, hS2, hS3⟩
            go_simp
            (try with_reducible rfl)
          try simp only [List.getElem_toArray, List.getElem_cons_succ, List.getElem_cons_zero, Act.put, List.setIfInBounds_toArray, List.set_cons_zero, List.set_cons_succ]
          refine wpAnyH_take (i := 15) (oi := _) (v := ?_) rfl (by kernel_rfl) (by kernel_rfl) (by kernel_rfl) (fun _ _ _ h => h) (Or.inl ⟨by rfl, ?_⟩) (by assumption) ?_
          rotate_left
          · try simp only [List.getElem_toArray, List.getElem_cons_succ, List.getElem_cons_zero]
            rintro w ⟨hS1, hS2, hS3⟩
            go_simp
            (try with_reducible rfl)
          try simp only [List.getElem_toArray, List.getElem_cons_succ, List.getElem_cons_zero, Act.put, List.setIfInBounds_toArray, List.set_cons_zero, List.set_cons_succ]
          refine wpAnyH_take (i := 16) (oi := _) (v := ?_) rfl (by kernel_rfl) (by kernel_rfl) (by kernel_rfl) (fun _ _ _ h => h) (Or.inl ⟨by rfl, ?_⟩) (by assumption) ?_
          rotate_left
          · try simp only [List.getElem_toArray, List.getElem_cons_succ, List.getElem_cons_zero]
            rintro w ⟨hS1, hS2, hS3⟩
            go_simp
            (try with_reducible rfl)
          try simp only [List.getElem_toArray, List.getElem_cons_succ, List.getElem_cons_zero, Act.put, List.setIfInBounds_toArray, List.set_cons_zero, List.set_cons_succ]
          refine wpAnyH_take (i := 17) (oi := _) (v := ?_) rfl (by kernel_rfl) (by kernel_rfl) (by kernel_rfl) (fun _ _ _ h => h) (Or.inl ⟨by rfl, ?_⟩) (by assumption) ?_
          rotate_left
          · try simp only [List.getElem_toArray, List.getElem_cons_succ, List.getElem_cons_zero]
            rintro w ⟨hS1, hS2, hS3⟩
            go_simp
            (try with_reducible rfl)
          try simp only [List.getElem_toArray, List.getElem_cons_succ, List.getElem_cons_zero, Act.put, List.setIfInBounds_toArray, List.set_cons_zero, List.set_cons_succ]
          refine wpAnyH_take (i := 18) (oi := _) (v := ?_) rfl (by kernel_rfl) (by kernel_rfl) (by kernel_rfl) (fun _ _ _ h => h) (Or.inl ⟨by rfl, ?_⟩) (by assumption) ?_
          rotate_left
          · try simp only [List.getElem_toArray, List.getElem_cons_succ, List.getElem_cons_zero]
            rintro w ⟨hS1, hS2, hS3⟩
            go_simp
            (try with_reducible rfl)
          try simp only [List.getElem_toArray, List.getElem_cons_succ, List.getElem_cons_zero, Act.put, List.setIfInBounds_toArray, List.set_cons_zero, List.set_cons_succ]
          refine wpAnyH_take (i := 19) (oi := _) (v := ?_) rfl (by kernel_rfl) (by kernel_rfl) (by kernel_rfl) (fun _ _ _ h => h) (Or.inl ⟨by rfl, ?_⟩) (by assumption) ?_
          rotate_left
          · try simp only [List.getElem_toArray, List.getElem_cons_succ, List.getElem_cons_zero]
            rintro w ⟨hS1, hS2, hS3⟩
            go_simp
            (try with_reducible rfl)
          try simp only [List.getElem_toArray, List.getElem_cons_succ, List.getElem_cons_zero, Act.put, List.setIfInBounds_toArray, List.set_cons_zero, List.set_cons_succ]
          refine wpAnyH_take (i := 20) (oi := _) (v := ?_) rfl (by kernel_rfl) (by kernel_rfl) (by kernel_rfl) (fun _ _ _ h => h) (Or.inl ⟨by rfl, ?_⟩) (by assumption) ?_
          rotate_left
          · try simp only [List.getElem_toArray, List.getElem_cons_succ, List.getElem_cons_zero]
            rintro w ⟨hS1, hS2, hS3⟩
            go_simp
            (try with_reducible rfl)
          try simp only [List.getElem_toArray, List.getElem_cons_succ, List.getElem_cons_zero, Act.put, List.setIfInBounds_toArray, List.set_cons_zero, List.set_cons_succ]
          refine wpAnyH_take (i := 21) (oi := _) (v := ?_) rfl (by kernel_rfl) (by kernel_rfl) (by kernel_rfl) (fun _ _ _ h => h) (Or.inl ⟨by rfl, ?_⟩) (by assumption) ?_
          rotate_left
          · try simp only [List.getElem_toArray, List.getElem_cons_succ, List.getElem_cons_zero]
            rintro w ⟨hS1, hS2, hS3⟩
            go_simp
            (try with_reducible rfl)
          try simp only [List.getElem_toArray, List.getElem_cons_succ, List.getElem_cons_zero, Act.put, List.setIfInBounds_toArray, List.set_cons_zero, List.set_cons_succ]
          refine wpAnyH_take (i := 22) (oi := _) (v := ?_) rfl (by kernel_rfl) (by kernel_rfl) (by kernel_rfl) (fun _ _ _ h => h) (Or.inl ⟨by rfl, ?_⟩) (by assumption) ?_
          rotate_left
          · try simp only [List.getElem_toArray, List.getElem_cons_succ, List.getElem_cons_zero]
            rintro w ⟨hS1, hS2, hS3⟩
            go_simp
            (try with_reducible rfl)
          try simp only [List.getElem_toArray, List.getElem_cons_succ, List.getElem_cons_zero, Act.put, List.setIfInBounds_toArray, List.set_cons_zero, List.set_cons_succ]
          refine wpAnyH_take (i := 23) (oi := _) (v := ?_) rfl (by kernel_rfl) (by kernel_rfl) (by kernel_rfl) (fun _ _ _ h => h) (Or.inl ⟨by rfl, ?_⟩) (by assumption) ?_
          rotate_left
          · try simp only [List.getElem_toArray, List.getElem_cons_succ, List.getElem_cons_zero]
            rintro w ⟨hS1, hS2, hS3⟩
            go_simp
            (try with_reducible rfl)
          try simp only [List.getElem_toArray, List.getElem_cons_succ, List.getElem_cons_zero, Act.put, List.setIfInBounds_toArray, List.set_cons_zero, List.set_cons_succ]
          refine wpAnyH_take (i := 24) (oi := _) (v := ?_) rfl (by kernel_rfl) (by kernel_rfl) (by kernel_rfl) (fun _ _ _ h => h) (Or.inl ⟨by rfl, ?_⟩) (by assumption) ?_
          rotate_left
          · try simp only [List.getElem_toArray, List.getElem_cons_succ, List.getElem_cons_zero]
            rintro w ⟨hS1, hS2, hS3⟩
            go_simp
            (try with_reducible rfl)
          try simp only [List.getElem_toArray, List.getElem_cons_succ, List.getElem_cons_zero, Act.put, List.setIfInBounds_toArray, List.set_cons_zero, List.set_cons_succ]
          refine wpAnyH_take (i := 25) (oi := _) (v := ?_) rfl (by kernel_rfl) (by kernel_rfl) (by kernel_rfl) (fun _ _ _ h => h) (Or.inl ⟨by rfl, ?_⟩) (by assumption) ?_
          rotate_left
          · try simp only [List.getElem_toArray, List.getElem_cons_succ, List.getElem_cons_zero]
            rintro w ⟨hS1, hS2, hS3⟩
            go_simp
            (try with_reducible rfl)
          try simp only [List.getElem_toArray, List.getElem_cons_succ, List.getElem_cons_zero, Act.put, List.setIfInBounds_toArray, List.set_cons_zero, List.set_cons_succ]
          refine wpAnyH_ready (rs := [26]) (by kernel_rfl) (by simp) ?_
          refine AllReadyH.cons (o := _) rfl (fun K hK => ?_) ?_
          · try simp only [List.getElem_toArray, List.getElem_cons_succ, List.getElem_cons_zero]
            go_simp
            go_at_call 36
            refine EC.out.mono ?_
            rintro e w4 ⟨rfl, R4, S4⟩
            replace R4 := Lib.hid R4
            clear EC
            go_wp2_with fail
            refine hK.out _ _ S4 (fun hHeld => ?_)
            clear hK K hHeld
            try simp only [List.getElem_toArray, List.getElem_cons_succ, List.getElem_cons_zero, Act.put, List.setIfInBounds_toArray, List.set_cons_zero, List.set_cons_succ]
            refine wpAnyH_ready (rs := [27]) (by kernel_rfl) (by simp) ?_
            refine AllReadyH.cons (o := _) rfl (fun K hK => ?_) ?_
            · try simp only [List.getElem_toArray, List.getElem_cons_succ, List.getElem_cons_zero]
              go_simp
              go_at_call 14
              refine (n1 _).mono ?_
              rintro e w' ⟨rfl, rfl⟩
              go_wp2_with fail
              refine hK.out _ _ S4 (fun hHeld => ?_)
              clear hK K hHeld
              try simp only [List.getElem_toArray, List.getElem_cons_succ, List.getElem_cons_zero, Act.put, List.setIfInBounds_toArray, List.set_cons_zero, List.set_cons_succ]
              refine wpAnyH_take (i := 28) (oi := _) (v := ?_) rfl (by kernel_rfl) (by kernel_rfl) (by kernel_rfl) (fun _ _ _ h => h) (Or.inl ⟨by rfl, ?_⟩) (by assumption) ?_
              rotate_left
              · try simp only [List.getElem_toArray, List.getElem_cons_succ, List.getElem_cons_zero]
                rintro w ⟨hS1, hS2, hS3⟩
                go_simp
                (try with_reducible rfl)
              try simp only [List.getElem_toArray, List.getElem_cons_succ, List.getElem_cons_zero, Act.put, List.setIfInBounds_toArray, List.set_cons_zero, List.set_cons_succ]
              refine wpAnyH_take (i := 29) (oi := _) (v := ?_) rfl (by kernel_rfl) (by kernel_rfl) (by kernel_rfl) (fun _ _ _ h => h) (Or.inl ⟨by rfl, ?_⟩) (by assumption) ?_
              rotate_left
              · try simp only [List.getElem_toArray, List.getElem_cons_succ, List.getElem_cons_zero]
                rintro w ⟨hS1, hS2, hS3⟩
                go_simp
                (try with_reducible rfl)
              try simp only [List.getElem_toArray, List.getElem_cons_succ, List.getElem_cons_zero, Act.put, List.setIfInBounds_toArray, List.set_cons_zero, List.set_cons_succ]
              refine wpAnyH_done (by kernel_rfl) ?_ _
              refine NoPanic.normal ?_
              clear S3 S4
              go_wp2_with fail
              go_meet
              exact ⟨rfl, W3, H, eb3, R4⟩
            exact AllReadyH.nil
          exact AllReadyH.nil
        exact AllReadyH.nil
      case rest =>
        obtain ⟨rfl, W3, H, eb3, R4⟩ := hcut
        rename World => w4
        go_wp2
        go_roundw
        case rel => exact ⟨i + 1, W3, H :: l, by simp, by omega, eb3, Lib.hid (by rw [List.length_cons, hl.out]), R4⟩
        case measure => simp [intOf] <;> omega
    · obtain rfl : i = 3 := by omega
      have d1 : decide (((3 : Nat) : Int) < 3) = false := by decide
      obtain ⟨c, m, a, rfl, hr3⟩ := three_rev hl.out
      have R' := R.out
      rw [hr3] at R'
      have BL := R'.balance
      rw [eb.out] at BL
      obtain ⟨c2, -, -, -, -⟩ := R'.cW
      rw [eb.out] at c2
      obtain ⟨a64, a0⟩ := R'.lt (H := a) (by simp)
      obtain ⟨-, m0⟩ := R'.lt (H := m) (by simp)
      obtain ⟨-, c0⟩ := R'.lt (H := c) (by simp)
      replace BL := Lib.hid BL
      replace eb := Lib.hid eb.out
      replace a0 := Lib.hid a0
      replace m0 := Lib.hid m0
      replace c0 := Lib.hid c0
      clear R R' hr3 hl
      go_wp2_with fail
      refine BL.out.mono ?_
      rintro e w2 ⟨rfl, b2, s, bs, Z, mk, L, gq, gl, S2, ea, hN2, k2, k6, T2, bl2⟩
      (try rw [eb.out] at k2)
      (try rw [eb.out] at k6)
      have PC := pickC S2 0 0 5 (by unfold Cls.In; decide)
      rw [tri_row, show ([m, a].reverse ++ ([] : List Nat).reverse ++ [c].reverse) = [a, m, c] from rfl, pick_three a0.out m0.out c0.out (actB_even ea)] at PC
      have LC := fun v (bv : Below w2.heap.size w2 v) => lenC3 (S2.below bv) 0
      obtain ⟨t1, t2, t3⟩ := tri_len [c] [] [m, a]
      rw [t1, t2, t3] at LC
      obtain ⟨gT, cT, hvT, u0⟩ := own_uv (i := 0) (x := a) T2 rfl
      rw [hvT, show [a, m, c].length = 3 from rfl] at k6
      replace PC := Lib.hid PC
      replace LC := Lib.hid LC
      replace b2 := Lib.hid b2
      replace hvT := Lib.hid hvT
      clear S2 T2 ea t1 t2 t3 BL c2
      go_wp2_with fail
      refine PC.out.mono ?_
      rintro e w3 ⟨rfl, b3⟩
      have k2' := (b3.cell (p := ⟨b, 2, none⟩) (World.block_lt_of_cell? _ _ k2)).trans k2
      have k6' := (b3.cell (p := ⟨b, 6, none⟩) (World.block_lt_of_cell? _ _ k6)).trans k6
      have u0' := (b3.cell (p := ⟨gT, 0, none⟩) (World.block_lt_of_cell? _ _ u0)).trans u0
      have LC3 := Lib.hid (LC.out w3 b3)
      have b13 := b2.out.trans (b3.mono hN2)
      have hN3 := Nat.le_trans hN2 b3.size
      replace b13 := Lib.hid b13
      clear k2 k6 u0 b3 b2 PC LC
      go_wp2_with fail
      refine LC3.out.mono ?_
      rintro e w4 ⟨rfl, b4⟩
      have k6 := (b4.cell (p := ⟨b, 6, none⟩) (World.block_lt_of_cell? _ _ k6')).trans k6'
      have u0 := (b4.cell (p := ⟨gT, 0, none⟩) (World.block_lt_of_cell? _ _ u0')).trans u0'
      have b14 := Lib.hid (b13.out.trans (b4.mono hN3))
      clear k2' k6' u0' b4 b13
      go_wp2
      go_ret
      exact ⟨rfl, b14.out⟩
end Go.Proofs.YtngehaiigbbknaaGreat.Que
/-
  The walk of LruNames.
-/
namespace Go.Proofs.YtngehaiigbbknaaGreat.Que
open Go.RowKit Base Arena Cls Itm
set_option linter.unusedVariables false

end Go.Proofs.YtngehaiigbbknaaGreat.Que
/-
  What the arguments of the laws of classes are: a config, a list of numbers.
-/
namespace Go.Proofs.YtngehaiigbbknaaGreat.ClsArg
open Go.ChangeShapes Go.WideShapes Go.ChangeAt Go.RowKit LawFrame Go.Deep
set_option linter.unusedVariables false

variable {H : Type} {enc : TypeId × Value → H}
end Go.Proofs.YtngehaiigbbknaaGreat.ClsArg
/-
  The law LruNews.
-/
namespace Go.Proofs.YtngehaiigbbknaaGreat.Que
open Go.RowKit Base Arena Cls Itm
set_option linter.unusedVariables false
set_option linter.unusedSectionVars false

set_option maxRecDepth 100000 in
theorem newNilS (w : World) (gq : Nat) (a b : Int) : Calls Tryz.prog 12 #[.pointer none, .pointer (some ⟨gq, 0, none⟩), .int .i64 a, .int .i64 b] w fun e w' => e = .returned (.tuple #[.pointer none, .int .i64 1]) ∧ w = w' := by
  go_enter Tryz.func12, Tryz.ntmps12
  go_wp2
  go_ret2
  exact ⟨rfl, rfl⟩
set_option maxRecDepth 100000 in
theorem newNilQ (w : World) (g : Nat) (a b : Int) : Calls Tryz.prog 12 #[.pointer (some ⟨g, 0, none⟩), .pointer none, .int .i64 a, .int .i64 b] w fun e w' => e = .returned (.tuple #[.pointer none, .int .i64 1]) ∧ w = w' := by
  go_enter Tryz.func12, Tryz.ntmps12
  go_wp2
  go_ret2
  exact ⟨rfl, rfl⟩
set_option maxRecDepth 100000 in
theorem newBad (w : World) (g gq : Nat) (a b : Int) (hn : ¬ (1 ≤ a ∧ 1 ≤ b ∧ a + b ≤ 90)) : Calls Tryz.prog 12 #[.pointer (some ⟨g, 0, none⟩), .pointer (some ⟨gq, 0, none⟩), .int .i64 a, .int .i64 b] w fun e w' => e = .returned (.tuple #[.pointer none, .int .i64 1]) ∧ w = w' := by
  by_cases h0 : a < 1
  · have d0 : decide (a < 1) = true := decide_eq_true h0
    go_enter Tryz.func12, Tryz.ntmps12
    go_wp2
    go_ret2
    exact ⟨rfl, rfl⟩
  have d0 : decide (a < 1) = false := decide_eq_false h0
  by_cases h1 : b < 1
  · have d1 : decide (b < 1) = true := decide_eq_true h1
    go_enter Tryz.func12, Tryz.ntmps12
    go_wp2
    go_ret2
    exact ⟨rfl, rfl⟩
  have d1 : decide (b < 1) = false := decide_eq_false h1
  by_cases h2 : 90 < a
  · have d2 : decide (90 < a) = true := decide_eq_true h2
    go_enter Tryz.func12, Tryz.ntmps12
    go_wp2
    go_ret2
    exact ⟨rfl, rfl⟩
  have d2 : decide (90 < a) = false := decide_eq_false h2
  have q1 : IntKind.i64.wrap (90 - a) = 90 - a := IntWalk.i64_in _ (by omega)
  have d3 : decide (90 - a < b) = true := decide_eq_true (by omega)
  go_enter Tryz.func12, Tryz.ntmps12
  go_wp2
  go_ret2
  exact ⟨rfl, rfl⟩
set_option maxRecDepth 100000 in
theorem rnewBad (w : World) (g : Nat) (a b : Int) (hn : ¬ (1 ≤ a ∧ 1 ≤ b ∧ a + b ≤ 90)) : Calls Tryz.prog 13 #[.pointer (some ⟨g, 0, none⟩), .int .i64 a, .int .i64 b] w fun e w' => e = .returned (.tuple #[.pointer none, .int .i64 1]) ∧ w = w' := by
  by_cases h0 : a < 1
  · have d0 : decide (a < 1) = true := decide_eq_true h0
    go_enter Tryz.func13, Tryz.ntmps13
    go_wp2
    go_ret2
    exact ⟨rfl, rfl⟩
  have d0 : decide (a < 1) = false := decide_eq_false h0
  by_cases h1 : b < 1
  · have d1 : decide (b < 1) = true := decide_eq_true h1
    go_enter Tryz.func13, Tryz.ntmps13
    go_wp2
    go_ret2
    exact ⟨rfl, rfl⟩
  have d1 : decide (b < 1) = false := decide_eq_false h1
  by_cases h2 : 90 < a
  · have d2 : decide (90 < a) = true := decide_eq_true h2
    go_enter Tryz.func13, Tryz.ntmps13
    go_wp2
    go_ret2
    exact ⟨rfl, rfl⟩
  have d2 : decide (90 < a) = false := decide_eq_false h2
  by_cases h3 : 90 < b
  · have d3 : decide (90 < b) = true := decide_eq_true h3
    go_enter Tryz.func13, Tryz.ntmps13
    go_wp2
    go_ret2
    exact ⟨rfl, rfl⟩
  have d3 : decide (90 < b) = false := decide_eq_false h3
  have q1 : IntKind.i64.wrap (a + b) = a + b := IntWalk.i64_in _ (by omega)
  have d4 : decide (90 < a + b) = true := decide_eq_true (by omega)
  go_enter Tryz.func13, Tryz.ntmps13
  go_wp2
  go_ret2
  exact ⟨rfl, rfl⟩
def SRow (W : World) (a0 : Option Addr) (k : Nat) (p : Int × Int) : Prop := ∃ b off, a0 = some (⟨b, off, none⟩ : Addr) ∧ b < W.heap.size ∧ (Cls.In p.1 ∧ Cls.In p.2) ∧ W.cell? ⟨b, off + k * 2, none⟩ = some (.int .i64 p.1) ∧ W.cell? ⟨b, off + k * 2 + 1, none⟩ = some (.int .i64 p.2)
set_option maxRecDepth 100000 in
set_option maxHeartbeats 3200000 in
theorem lruNewsC (W : World) (a0 : Option Addr) (cap : Nat) (l : List (Int × Int)) (hP : ∀ (k : Nat) (hk : k < l.length), SRow W a0 k l[k]) (hl : l.length ≤ maxLen) :
    Calls Tryz.prog 3 #[.slice a0 l.length cap] W fun e w' => e = .returned (.bool true) ∧ Below W.heap.size W w' := by
  have WC := Lib.hid wakesC
  have CC := Lib.hid (chunksC W)
  have n0 := fun w => numC6 w 0
  have n1 := fun w => numC6 w 1
  have HP := Lib.hid hP
  unfold maxLen at hl
  clear hP
  obtain ⟨N, hN⟩ : ∃ N, W.heap.size = N := ⟨_, rfl⟩
  rw [hN] at CC ⊢
  replace hN := Lib.hid hN
  go_enter Tryz.func3, Tryz.ntmps3
  go_wp2_with fail
  refine CC.out.mono ?_
  rintro e w1 ⟨b1, V, rfl, -, -, -, A1⟩
  have KP : ∀ wr, Below w1.heap.size w1 wr → Below N W wr ∧ wr.cell? ⟨V.b, 0, none⟩ = some (.pointer (some ⟨V.L.g, 0, none⟩)) ∧ wr.cell? ⟨V.b, 1, none⟩ = some (.pointer (some ⟨V.gq, 0, none⟩)) ∧ wr.cell? ⟨V.b, 4, none⟩ = some (.pointer (some ⟨V.R.b, 0, none⟩)) := fun wr b => by
    obtain ⟨y0, y1, -, y4, -⟩ := (A1.below b).cW
    exact ⟨b1.trans (b.mono A1.hN0), y0, y1, y4⟩
  have G1 : Below w1.heap.size w1 w1 := Below.refl _ _
  replace KP := Lib.hid KP
  replace G1 := Lib.hid G1
  have hN1 := Lib.hid A1.hN0
  clear b1 A1 CC
  go_wp2_with fail
  go_loopw [4] (fun vi wr => ∃ i : Nat, vi = .int .i64 (i : Int) ∧ i ≤ l.length ∧ i ≤ 60 ∧ Hid (Below w1.heap.size w1 wr)) (fun vi _ => l.length - (intOf vi).toNat)
  case atStart => exact ⟨0, rfl, Nat.zero_le _, Nat.zero_le _, G1⟩
  case round =>
    obtain ⟨i, rfl, hi, hi2, G⟩ := hrel
    clear G1
    obtain ⟨hB, y0, y1, y4⟩ := KP.out wr G.out
    have hNr : N ≤ wr.heap.size := Nat.le_trans hN1.out G.out.size
    by_cases hlt : i < l.length ∧ i < 60
    · obtain ⟨h1, h2⟩ := hlt
      have d1 : decide ((i : Int) < (l.length : Int)) = true := decide_eq_true (by omega)
      have d1' : decide (i < l.length) = true := decide_eq_true h1
      have d2 : decide ((i : Int) < 60) = true := decide_eq_true (by omega)
      have q1 : IntKind.i64.wrap ((i : Int) + 1) = (i : Int) + 1 := IntWalk.i64_in _ (by omega)
      have i0 : (0 : Int) ≤ (i : Int) := by omega
      have i1 : (i : Int) < (l.length : Int) := by omega
      obtain ⟨p0, off, rfl, hbl, -, x0, x1⟩ := HP.out i h1
      have hbN : p0 < N := by rw [← hN.out]; exact hbl
      obtain ⟨⟨h, v⟩, hp⟩ : ∃ q, q = l[i] := ⟨_, rfl⟩
      rw [← hp] at x0 x1
      have XK : ∀ u, Below wr.heap.size wr u → u.cell? ⟨p0, off + i * 2, none⟩ = some (.int .i64 h) ∧ u.cell? ⟨p0, off + i * 2 + 1, none⟩ = some (.int .i64 v) := fun u bu =>
        ⟨((hB.trans (bu.mono hNr)).cell (p := ⟨p0, off + i * 2, none⟩) hbN).trans x0, ((hB.trans (bu.mono hNr)).cell (p := ⟨p0, off + i * 2 + 1, none⟩) hbN).trans x1⟩
      obtain ⟨c0, c1⟩ := XK wr (Below.refl _ _)
      replace XK := Lib.hid XK
      have NS := Lib.hid (fun (u : World) (n : Nat) => newNilS (u.drewN n) V.gq h v)
      have NQ := Lib.hid (fun (u : World) (n : Nat) => newNilQ (u.drewN n) V.L.g h v)
      clear HP hB hbl x0 x1 hbN hp
      by_cases ok : 1 ≤ h ∧ 1 ≤ v ∧ h + v ≤ 90
      · have LN := Lib.hid (fun u => lruNewC u V.L.g V.gq h v ok.1 ok.2.1 ok.2.2)
        have RN := Lib.hid (fun u => rlruNewC u V.R.b h v ok.1 ok.2.1 ok.2.2)
        clear ok
        go_upto_region 7 with fail
        obtain ⟨wd, hwd⟩ : ∃ wd, wd = wr.drew := ⟨_, rfl⟩
        have bd : Below wr.heap.size wr wd := by rw [hwd]; exact below_drewN (Below.refl _ _) 1
        have Sd : wd.cell? ⟨V.b, 0, none⟩ = some (.pointer (some ⟨V.L.g, 0, none⟩)) ∧ wd.cell? ⟨V.b, 1, none⟩ = some (.pointer (some ⟨V.gq, 0, none⟩)) ∧ wd.cell? ⟨p0, off + i * 2, none⟩ = some (.int .i64 h) ∧ wd.cell? ⟨p0, off + i * 2 + 1, none⟩ = some (.int .i64 v) := by rw [hwd]; exact ⟨y0, y1, c0, c1⟩
        replace bd := Lib.hid bd
        refine wp_region_noPanic ?_
        refine wp_region_held_drew (S := fun u => u.cell? ⟨V.b, 0, none⟩ = some (.pointer (some ⟨V.L.g, 0, none⟩)) ∧ u.cell? ⟨V.b, 1, none⟩ = some (.pointer (some ⟨V.gq, 0, none⟩)) ∧ u.cell? ⟨p0, off + i * 2, none⟩ = some (.int .i64 h) ∧ u.cell? ⟨p0, off + i * 2 + 1, none⟩ = some (.int .i64 v)) (by kernel_rfl) (by rw [← hwd]; exact Sd) (fun hHeld => ?_)
        rw [← hwd] at hHeld ⊢
        clear hwd
        refine wpAnyH_take (i := 0) (oi := _) (v := ?_) rfl (by kernel_rfl) (by kernel_rfl) (by kernel_rfl) (fun _ _ _ h => h) (Or.inl ⟨by rfl, ?_⟩) (by assumption) ?_
        rotate_left
        · try simp only [List.getElem_toArray, List.getElem_cons_succ, List.getElem_cons_zero]
          rintro w ⟨hS1, hS2, hS3, hS4⟩
          go_simp
          (try with_reducible rfl)
        try simp only [List.getElem_toArray, List.getElem_cons_succ, List.getElem_cons_zero, Act.put, List.setIfInBounds_toArray, List.set_cons_zero, List.set_cons_succ]
        refine wpAnyH_take (i := 1) (oi := _) (v := ?_) rfl (by kernel_rfl) (by kernel_rfl) (by kernel_rfl) (fun _ _ _ h => h) (Or.inl ⟨by rfl, ?_⟩) (by assumption) ?_
        rotate_left
        · try simp only [List.getElem_toArray, List.getElem_cons_succ, List.getElem_cons_zero]
          rintro w ⟨hS1, hS2, hS3, hS4⟩
          go_simp
          (try with_reducible rfl)
        try simp only [List.getElem_toArray, List.getElem_cons_succ, List.getElem_cons_zero, Act.put, List.setIfInBounds_toArray, List.set_cons_zero, List.set_cons_succ]
        refine wpAnyH_take (i := 2) (oi := _) (v := ?_) rfl (by kernel_rfl) (by kernel_rfl) (by kernel_rfl) (fun _ _ _ h => h) (Or.inl ⟨by rfl, ?_⟩) (by assumption) ?_
        rotate_left
        · try simp only [List.getElem_toArray, List.getElem_cons_succ, List.getElem_cons_zero]
          rintro w ⟨hS1, hS2, hS3, hS4⟩
          go_simp
          (try with_reducible rfl)
        try simp only [List.getElem_toArray, List.getElem_cons_succ, List.getElem_cons_zero, Act.put, List.setIfInBounds_toArray, List.set_cons_zero, List.set_cons_succ]
        refine wpAnyH_take (i := 3) (oi := _) (v := ?_) rfl (by kernel_rfl) (by kernel_rfl) (by kernel_rfl) (fun _ _ _ h => h) (Or.inl ⟨by rfl, ?_⟩) (by assumption) ?_
        rotate_left
        · try simp only [List.getElem_toArray, List.getElem_cons_succ, List.getElem_cons_zero]
          rintro w ⟨hS1, hS2, hS3, hS4⟩
          go_simp
          (try with_reducible rfl)
        try simp only [List.getElem_toArray, List.getElem_cons_succ, List.getElem_cons_zero, Act.put, List.setIfInBounds_toArray, List.set_cons_zero, List.set_cons_succ]
        refine wpAnyH_take (i := 4) (oi := _) (v := ?_) rfl (by kernel_rfl) (by kernel_rfl) (by kernel_rfl) (fun _ _ _ h => h) (Or.inl ⟨by rfl, ?_⟩) (by assumption) ?_
        rotate_left
        · try simp only [List.getElem_toArray, List.getElem_cons_succ, List.getElem_cons_zero]
          rintro w ⟨hS1, hS2, hS3, hS4⟩
          go_simp
          (try with_reducible rfl)
        try simp only [List.getElem_toArray, List.getElem_cons_succ, List.getElem_cons_zero, Act.put, List.setIfInBounds_toArray, List.set_cons_zero, List.set_cons_succ]
        refine wpAnyH_take (i := 5) (oi := _) (v := ?_) rfl (by kernel_rfl) (by kernel_rfl) (by kernel_rfl) (fun _ _ _ h => h) (Or.inl ⟨by rfl, ?_⟩) (by assumption) ?_
        rotate_left
        · try simp only [List.getElem_toArray, List.getElem_cons_succ, List.getElem_cons_zero]
          rintro w ⟨hS1, hS2, hS3, hS4⟩
          go_simp
          (try with_reducible rfl)
        try simp only [List.getElem_toArray, List.getElem_cons_succ, List.getElem_cons_zero, Act.put, List.setIfInBounds_toArray, List.set_cons_zero, List.set_cons_succ]
        refine wpAnyH_take (i := 6) (oi := _) (v := ?_) rfl (by kernel_rfl) (by kernel_rfl) (by kernel_rfl) (fun _ _ _ h => h) (Or.inl ⟨by rfl, ?_⟩) (by assumption) ?_
        rotate_left
        · try simp only [List.getElem_toArray, List.getElem_cons_succ, List.getElem_cons_zero]
          rintro w ⟨hS1, hS2, hS3, hS4⟩
          go_simp
          (try with_reducible rfl)
        try simp only [List.getElem_toArray, List.getElem_cons_succ, List.getElem_cons_zero, Act.put, List.setIfInBounds_toArray, List.set_cons_zero, List.set_cons_succ]
        refine wpAnyH_take (i := 7) (oi := _) (v := ?_) rfl (by kernel_rfl) (by kernel_rfl) (by kernel_rfl) (fun _ _ _ h => h) (Or.inl ⟨by rfl, ?_⟩) (by assumption) ?_
        rotate_left
        · try simp only [List.getElem_toArray, List.getElem_cons_succ, List.getElem_cons_zero]
          rintro w ⟨hS1, hS2, hS3, hS4⟩
          go_simp
          (try with_reducible rfl)
        try simp only [List.getElem_toArray, List.getElem_cons_succ, List.getElem_cons_zero, Act.put, List.setIfInBounds_toArray, List.set_cons_zero, List.set_cons_succ]
        refine wpAnyH_take (i := 8) (oi := _) (v := ?_) rfl (by kernel_rfl) (by kernel_rfl) (by kernel_rfl) (fun _ _ _ h => h) (Or.inl ⟨by rfl, ?_⟩) (by assumption) ?_
        rotate_left
        · try simp only [List.getElem_toArray, List.getElem_cons_succ, List.getElem_cons_zero]
          rintro w ⟨hS1, hS2, hS3, hS4⟩
          go_simp
          (try with_reducible rfl)
        try simp only [List.getElem_toArray, List.getElem_cons_succ, List.getElem_cons_zero, Act.put, List.setIfInBounds_toArray, List.set_cons_zero, List.set_cons_succ]
        refine wpAnyH_take (i := 9) (oi := _) (v := ?_) rfl (by kernel_rfl) (by kernel_rfl) (by kernel_rfl) (fun _ _ _ h => h) (Or.inl ⟨by rfl, ?_⟩) (by assumption) ?_
        rotate_left
        · try simp only [List.getElem_toArray, List.getElem_cons_succ, List.getElem_cons_zero]
          rintro w ⟨hS1, hS2, hS3, hS4⟩
          go_simp
          (try with_reducible rfl)
        try simp only [List.getElem_toArray, List.getElem_cons_succ, List.getElem_cons_zero, Act.put, List.setIfInBounds_toArray, List.set_cons_zero, List.set_cons_succ]
        refine wpAnyH_take (i := 10) (oi := _) (v := ?_) rfl (by kernel_rfl) (by kernel_rfl) (by kernel_rfl) (fun _ _ _ h => h) (Or.inl ⟨by rfl, ?_⟩) (by assumption) ?_
        rotate_left
        · try simp only [List.getElem_toArray, List.getElem_cons_succ, List.getElem_cons_zero]
          rintro w ⟨hS1, hS2, hS3, hS4⟩
          go_simp
          (try with_reducible rfl)
        try simp only [List.getElem_toArray, List.getElem_cons_succ, List.getElem_cons_zero, Act.put, List.setIfInBounds_toArray, List.set_cons_zero, List.set_cons_succ]
        refine wpAnyH_take (i := 11) (oi := _) (v := ?_) rfl (by kernel_rfl) (by kernel_rfl) (by kernel_rfl) (fun _ _ _ h => h) (Or.inl ⟨by rfl, ?_⟩) (by assumption) ?_
        rotate_left
        · try simp only [List.getElem_toArray, List.getElem_cons_succ, List.getElem_cons_zero]
          rintro w ⟨hS1, hS2, hS3, hS4⟩
          go_simp
          (try with_reducible rfl)
        try simp only [List.getElem_toArray, List.getElem_cons_succ, List.getElem_cons_zero, Act.put, List.setIfInBounds_toArray, List.set_cons_zero, List.set_cons_succ]
        refine wpAnyH_take (i := 12) (oi := _) (v := ?_) rfl (by kernel_rfl) (by kernel_rfl) (by kernel_rfl) (fun _ _ _ h => h) (Or.inl ⟨by rfl, ?_⟩) (by assumption) ?_
        rotate_left
        · try simp only [List.getElem_toArray, List.getElem_cons_succ, List.getElem_cons_zero]
          rintro w ⟨hS1, hS2, hS3, hS4⟩
          go_simp
          (try with_reducible rfl)
        try simp only [List.getElem_toArray, List.getElem_cons_succ, List.getElem_cons_zero, Act.put, List.setIfInBounds_toArray, List.set_cons_zero, List.set_cons_succ]
        refine wpAnyH_take (i := 13) (oi := _) (v := ?_) rfl (by kernel_rfl) (by kernel_rfl) (by kernel_rfl) (fun _ _ _ h => h) (Or.inl ⟨by rfl, ?_⟩) (by assumption) ?_
        rotate_left
        · try simp only [List.getElem_toArray, List.getElem_cons_succ, List.getElem_cons_zero]
          rintro w ⟨hS1, hS2, hS3, hS4⟩
          go_simp
          (try with_reducible rfl)
        try simp only [List.getElem_toArray, List.getElem_cons_succ, List.getElem_cons_zero, Act.put, List.setIfInBounds_toArray, List.set_cons_zero, List.set_cons_succ]
        refine wpAnyH_take (i := 14) (oi := _) (v := ?_) rfl (by kernel_rfl) (by kernel_rfl) (by kernel_rfl) (fun _ _ _ h => h) (Or.inl ⟨by rfl, ?_⟩) (by assumption) ?_
        rotate_left
        · try simp only [List.getElem_toArray, List.getElem_cons_succ, List.getElem_cons_zero]
          rintro w ⟨hS1, hS2, hS3, hS4⟩
          go_simp
          (try with_reducible rfl)
        try simp only [List.getElem_toArray, List.getElem_cons_succ, List.getElem_cons_zero, Act.put, List.setIfInBounds_toArray, List.set_cons_zero, List.set_cons_succ]
        refine wpAnyH_take (i := 15) (oi := _) (v := ?_) rfl (by kernel_rfl) (by kernel_rfl) (by kernel_rfl) (fun _ _ _ h => h) (Or.inl ⟨by rfl, ?_⟩) (by assumption) ?_
        rotate_left
        · try simp only [List.getElem_toArray, List.getElem_cons_succ, List.getElem_cons_zero]
          rintro w ⟨hS1, hS2, hS3, hS4⟩
          go_simp
          (try with_reducible rfl)
        try simp only [List.getElem_toArray, List.getElem_cons_succ, List.getElem_cons_zero, Act.put, List.setIfInBounds_toArray, List.set_cons_zero, List.set_cons_succ]
        refine wpAnyH_take (i := 16) (oi := _) (v := ?_) rfl (by kernel_rfl) (by kernel_rfl) (by kernel_rfl) (fun _ _ _ h => h) (Or.inl ⟨by rfl, ?_⟩) (by assumption) ?_
        rotate_left
        · try simp only [List.getElem_toArray, List.getElem_cons_succ, List.getElem_cons_zero]
          rintro w ⟨hS1, hS2, hS3, hS4⟩
          go_simp
          (try with_reducible rfl)
        try simp only [List.getElem_toArray, List.getElem_cons_succ, List.getElem_cons_zero, Act.put, List.setIfInBounds_toArray, List.set_cons_zero, List.set_cons_succ]
        refine wpAnyH_take (i := 17) (oi := _) (v := ?_) rfl (by kernel_rfl) (by kernel_rfl) (by kernel_rfl) (fun _ _ _ h => h) (Or.inl ⟨by rfl, ?_⟩) (by assumption) ?_
        rotate_left
        · try simp only [List.getElem_toArray, List.getElem_cons_succ, List.getElem_cons_zero]
          rintro w ⟨hS1, hS2, hS3, hS4⟩
          go_simp
          (try with_reducible rfl)
        try simp only [List.getElem_toArray, List.getElem_cons_succ, List.getElem_cons_zero, Act.put, List.setIfInBounds_toArray, List.set_cons_zero, List.set_cons_succ]
        refine wpAnyH_ready (rs := [18]) (by kernel_rfl) (by simp) ?_
        refine AllReadyH.cons (o := _) rfl (fun K hK => ?_) ?_
        · try simp only [List.getElem_toArray, List.getElem_cons_succ, List.getElem_cons_zero]
          go_simp
          go_at_call 12
          refine (LN.out _).mono ?_
          rintro e w5 ⟨rfl, hwe⟩
          have be : Below wd.heap.size wd w5 := by rw [hwe]; exact (Below.refl _ _).alloc (Nat.le_refl _) _
          have Se : w5.cell? ⟨V.b, 0, none⟩ = some (.pointer (some ⟨V.L.g, 0, none⟩)) ∧ w5.cell? ⟨V.b, 1, none⟩ = some (.pointer (some ⟨V.gq, 0, none⟩)) ∧ w5.cell? ⟨p0, off + i * 2, none⟩ = some (.int .i64 h) ∧ w5.cell? ⟨p0, off + i * 2 + 1, none⟩ = some (.int .i64 v) := by
            obtain ⟨u0, u1, u2, u3⟩ := Sd
            exact ⟨(be.cell (World.block_lt_of_cell? _ _ u0)).trans u0, (be.cell (World.block_lt_of_cell? _ _ u1)).trans u1, (be.cell (World.block_lt_of_cell? _ _ u2)).trans u2, (be.cell (World.block_lt_of_cell? _ _ u3)).trans u3⟩
          have Bw5 := bd.out.trans (be.mono bd.out.size)
          replace Bw5 := Lib.hid Bw5
          clear be bd hwe Sd
          go_wp2_with fail
          refine hK.out _ _ Se (fun hHeld => ?_)
          clear hK K hHeld
          try simp only [List.getElem_toArray, List.getElem_cons_succ, List.getElem_cons_zero, Act.put, List.setIfInBounds_toArray, List.set_cons_zero, List.set_cons_succ]
          refine wpAnyH_take (i := 19) (oi := _) (v := ?_) rfl (by kernel_rfl) (by kernel_rfl) (by kernel_rfl) (fun _ _ _ h => h) (Or.inl ⟨by rfl, ?_⟩) (by assumption) ?_
          rotate_left
          · try simp only [List.getElem_toArray, List.getElem_cons_succ, List.getElem_cons_zero]
            rintro w ⟨hS1, hS2, hS3, hS4⟩
            go_simp
            (try with_reducible rfl)
          try simp only [List.getElem_toArray, List.getElem_cons_succ, List.getElem_cons_zero, Act.put, List.setIfInBounds_toArray, List.set_cons_zero, List.set_cons_succ]
          refine wpAnyH_take (i := 20) (oi := _) (v := ?_) rfl (by kernel_rfl) (by kernel_rfl) (by kernel_rfl) (fun _ _ _ h => h) (Or.inl ⟨by rfl, ?_⟩) (by assumption) ?_
          rotate_left
          · try simp only [List.getElem_toArray, List.getElem_cons_succ, List.getElem_cons_zero]
            rintro w ⟨hS1, hS2, hS3, hS4⟩
            go_simp
            (try with_reducible rfl)
          try simp only [List.getElem_toArray, List.getElem_cons_succ, List.getElem_cons_zero, Act.put, List.setIfInBounds_toArray, List.set_cons_zero, List.set_cons_succ]
          refine wpAnyH_take (i := 21) (oi := _) (v := ?_) rfl (by kernel_rfl) (by kernel_rfl) (by kernel_rfl) (fun _ _ _ h => h) (Or.inl ⟨by rfl, ?_⟩) (by assumption) ?_
          rotate_left
          · try simp only [List.getElem_toArray, List.getElem_cons_succ, List.getElem_cons_zero]
            rintro w ⟨hS1, hS2, hS3, hS4⟩
            go_simp
            (try with_reducible rfl)
          try simp only [List.getElem_toArray, List.getElem_cons_succ, List.getElem_cons_zero, Act.put, List.setIfInBounds_toArray, List.set_cons_zero, List.set_cons_succ]
          refine wpAnyH_take (i := 22) (oi := _) (v := ?_) rfl (by kernel_rfl) (by kernel_rfl) (by kernel_rfl) (fun _ _ _ h => h) (Or.inl ⟨by rfl, ?_⟩) (by assumption) ?_
          rotate_left
          · try simp only [List.getElem_toArray, List.getElem_cons_succ, List.getElem_cons_zero]
            rintro w ⟨hS1, hS2, hS3, hS4⟩
            go_simp
            (try with_reducible rfl)
          try simp only [List.getElem_toArray, List.getElem_cons_succ, List.getElem_cons_zero, Act.put, List.setIfInBounds_toArray, List.set_cons_zero, List.set_cons_succ]
          refine wpAnyH_take (i := 23) (oi := _) (v := ?_) rfl (by kernel_rfl) (by kernel_rfl) (by kernel_rfl) (fun _ _ _ h => h) (Or.inl ⟨by rfl, ?_⟩) (by assumption) ?_
          rotate_left
          · try simp only [List.getElem_toArray, List.getElem_cons_succ, List.getElem_cons_zero]
            rintro w ⟨hS1, hS2, hS3, hS4⟩
            go_simp
            (try with_reducible rfl)
          try simp only [List.getElem_toArray, List.getElem_cons_succ, List.getElem_cons_zero, Act.put, List.setIfInBounds_toArray, List.set_cons_zero, List.set_cons_succ]
          refine wpAnyH_done (by kernel_rfl) ?_ _
          refine NoPanic.normal ?_
          clear Se
          obtain ⟨gP, hgP⟩ : ∃ gP, gP = wd.heap.size := ⟨_, rfl⟩
          rw [← hgP]
          clear hgP y0 y1 y4 c0 c1
          obtain ⟨-, y0, y1, y4⟩ := KP.out w5 (G.out.trans (Bw5.out.mono G.out.size))
          obtain ⟨c0, c1⟩ := XK.out w5 Bw5.out
          go_upto_region 8 with fail
          clear LN
          obtain ⟨wd, hwd⟩ : ∃ wd, wd = w5.drew := ⟨_, rfl⟩
          have bd : Below w5.heap.size w5 wd := by rw [hwd]; exact below_drewN (Below.refl _ _) 1
          have Sd : wd.cell? ⟨V.b, 4, none⟩ = some (.pointer (some ⟨V.R.b, 0, none⟩)) ∧ wd.cell? ⟨p0, off + i * 2, none⟩ = some (.int .i64 h) ∧ wd.cell? ⟨p0, off + i * 2 + 1, none⟩ = some (.int .i64 v) := by rw [hwd]; exact ⟨y4, c0, c1⟩
          replace bd := Lib.hid bd
          refine wp_region_noPanic ?_
          refine wp_region_held_drew (S := fun u => u.cell? ⟨V.b, 4, none⟩ = some (.pointer (some ⟨V.R.b, 0, none⟩)) ∧ u.cell? ⟨p0, off + i * 2, none⟩ = some (.int .i64 h) ∧ u.cell? ⟨p0, off + i * 2 + 1, none⟩ = some (.int .i64 v)) (by kernel_rfl) (by rw [← hwd]; exact Sd) (fun hHeld => ?_)
          rw [← hwd] at hHeld ⊢
          clear hwd
          refine wpAnyH_take (i := 0) (oi := _) (v := ?_) rfl (by kernel_rfl) (by kernel_rfl) (by kernel_rfl) (fun _ _ _ h => h) (Or.inl ⟨by rfl, ?_⟩) (by assumption) ?_
          rotate_left
          · try simp only [List.getElem_toArray, List.getElem_cons_succ, List.getElem_cons_zero]
            rintro w ⟨hS1, hS2, hS3⟩
            go_simp
            (try with_reducible rfl)
          try simp only [List.getElem_toArray, List.getElem_cons_succ, List.getElem_cons_zero, Act.put, List.setIfInBounds_toArray, List.set_cons_zero, List.set_cons_succ]
          refine wpAnyH_take (i := 1) (oi := _) (v := ?_) rfl (by kernel_rfl) (by kernel_rfl) (by kernel_rfl) (fun _ _ _ h => h) (Or.inl ⟨by rfl, ?_⟩) (by assumption) ?_
          rotate_left
          · try simp only [List.getElem_toArray, List.getElem_cons_succ, List.getElem_cons_zero]
            rintro w ⟨hS1, hS2, hS3⟩
            go_simp
            (try with_reducible rfl)
          try simp only [List.getElem_toArray, List.getElem_cons_succ, List.getElem_cons_zero, Act.put, List.setIfInBounds_toArray, List.set_cons_zero, List.set_cons_succ]
          refine wpAnyH_take (i := 2) (oi := _) (v := ?_) rfl (by kernel_rfl) (by kernel_rfl) (by kernel_rfl) (fun _ _ _ h => h) (Or.inl ⟨by rfl, ?_⟩) (by assumption) ?_
          rotate_left
          · try simp only [List.getElem_toArray, List.getElem_cons_succ, List.getElem_cons_zero]
            rintro w ⟨hS1, hS2, hS3⟩
            go_simp
            (try with_reducible rfl)
          try simp only [List.getElem_toArray, List.getElem_cons_succ, List.getElem_cons_zero, Act.put, List.setIfInBounds_toArray, List.set_cons_zero, List.set_cons_succ]
          refine wpAnyH_take (i := 3) (oi := _) (v := ?_) rfl (by kernel_rfl) (by kernel_rfl) (by kernel_rfl) (fun _ _ _ h => h) (Or.inl ⟨by rfl, ?_⟩) (by assumption) ?_
          rotate_left
          · try simp only [List.getElem_toArray, List.getElem_cons_succ, List.getElem_cons_zero]
            rintro w ⟨hS1, hS2, hS3⟩
            go_simp
            (try with_reducible rfl)
          try simp only [List.getElem_toArray, List.getElem_cons_succ, List.getElem_cons_zero, Act.put, List.setIfInBounds_toArray, List.set_cons_zero, List.set_cons_succ]
          refine wpAnyH_take (i := 4) (oi := _) (v := ?_) rfl (by kernel_rfl) (by kernel_rfl) (by kernel_rfl) (fun _ _ _ h => h) (Or.inl ⟨by rfl, ?_⟩) (by assumption) ?_
          rotate_left
          · try simp only [List.getElem_toArray, List.getElem_cons_succ, List.getElem_cons_zero]
            rintro w ⟨hS1, hS2, hS3⟩
            go_simp
            (try with_reducible rfl)
          try simp only [List.getElem_toArray, List.getElem_cons_succ, List.getElem_cons_zero, Act.put, List.setIfInBounds_toArray, List.set_cons_zero, List.set_cons_succ]
          refine wpAnyH_take (i := 5) (oi := _) (v := ?_) rfl (by kernel_rfl) (by kernel_rfl) (by kernel_rfl) (fun _ _ _ h => h) (Or.inl ⟨by rfl, ?_⟩) (by assumption) ?_
          rotate_left
          · try simp only [List.getElem_toArray, List.getElem_cons_succ, List.getElem_cons_zero]
            rintro w ⟨hS1, hS2, hS3⟩
            go_simp
            (try with_reducible rfl)
          try simp only [List.getElem_toArray, List.getElem_cons_succ, List.getElem_cons_zero, Act.put, List.setIfInBounds_toArray, List.set_cons_zero, List.set_cons_succ]
          refine wpAnyH_take (i := 6) (oi := _) (v := ?_) rfl (by kernel_rfl) (by kernel_rfl) (by kernel_rfl) (fun _ _ _ h => h) (Or.inl ⟨by rfl, ?_⟩) (by assumption) ?_
          rotate_left
          · try simp only [List.getElem_toArray, List.getElem_cons_succ, List.getElem_cons_zero]
            rintro w ⟨hS1, hS2, hS3⟩
            go_simp
            (try with_reducible rfl)
          try simp only [List.getElem_toArray, List.getElem_cons_succ, List.getElem_cons_zero, Act.put, List.setIfInBounds_toArray, List.set_cons_zero, List.set_cons_succ]
          refine wpAnyH_take (i := 7) (oi := _) (v := ?_) rfl (by kernel_rfl) (by kernel_rfl) (by kernel_rfl) (fun _ _ _ h => h) (Or.inl ⟨by rfl, ?_⟩) (by assumption) ?_
          rotate_left
          · try simp only [List.getElem_toArray, List.getElem_cons_succ, List.getElem_cons_zero]
            rintro w ⟨hS1, hS2, hS3⟩
            go_simp
            (try with_reducible rfl)
          try simp only [List.getElem_toArray, List.getElem_cons_succ, List.getElem_cons_zero, Act.put, List.setIfInBounds_toArray, List.set_cons_zero, List.set_cons_succ]
          refine wpAnyH_take (i := 8) (oi := _) (v := ?_) rfl (by kernel_rfl) (by kernel_rfl) (by kernel_rfl) (fun _ _ _ h => h) (Or.inl ⟨by rfl, ?_⟩) (by assumption) ?_
          rotate_left
          · try simp only [List.getElem_toArray, List.getElem_cons_succ, List.getElem_cons_zero]
            rintro w ⟨hS1, hS2, hS3⟩
            go_simp
            (try with_reducible rfl)
          try simp only [List.getElem_toArray, List.getElem_cons_succ, List.getElem_cons_zero, Act.put, List.setIfInBounds_toArray, List.set_cons_zero, List.set_cons_succ]
          refine wpAnyH_take (i := 9) (oi := _) (v := ?_) rfl (by kernel_rfl) (by kernel_rfl) (by kernel_rfl) (fun _ _ _ h => h) (Or.inl ⟨by rfl, ?_⟩) (by assumption) ?_
          rotate_left
          · try simp only [List.getElem_toArray, List.getElem_cons_succ, List.getElem_cons_zero]
            rintro w ⟨hS1, hS2, hS3⟩
            go_simp
            (try with_reducible rfl)
          try simp only [List.getElem_toArray, List.getElem_cons_succ, List.getElem_cons_zero, Act.put, List.setIfInBounds_toArray, List.set_cons_zero, List.set_cons_succ]
          refine wpAnyH_take (i := 10) (oi := _) (v := ?_) rfl (by kernel_rfl) (by kernel_rfl) (by kernel_rfl) (fun _ _ _ h => h) (Or.inl ⟨by rfl, ?_⟩) (by assumption) ?_
          rotate_left
          · try simp only [List.getElem_toArray, List.getElem_cons_succ, List.getElem_cons_zero]
            rintro w ⟨hS1, hS2, hS3⟩
            go_simp
            (try with_reducible rfl)
          try simp only [List.getElem_toArray, List.getElem_cons_succ, List.getElem_cons_zero, Act.put, List.setIfInBounds_toArray, List.set_cons_zero, List.set_cons_succ]
          refine wpAnyH_take (i := 11) (oi := _) (v := ?_) rfl (by kernel_rfl) (by kernel_rfl) (by kernel_rfl) (fun _ _ _ h => h) (Or.inl ⟨by rfl, ?_⟩) (by assumption) ?_
          rotate_left
          · try simp only [List.getElem_toArray, List.getElem_cons_succ, List.getElem_cons_zero]
            rintro w ⟨hS1, hS2, hS3⟩
            go_simp
            (try with_reducible rfl)
          try simp only [List.getElem_toArray, List.getElem_cons_succ, List.getElem_cons_zero, Act.put, List.setIfInBounds_toArray, List.set_cons_zero, List.set_cons_succ]
          refine wpAnyH_take (i := 12) (oi := _) (v := ?_) rfl (by kernel_rfl) (by kernel_rfl) (by kernel_rfl) (fun _ _ _ h => h) (Or.inl ⟨by rfl, ?_⟩) (by assumption) ?_
          rotate_left
          · try simp only [List.getElem_toArray, List.getElem_cons_succ, List.getElem_cons_zero]
            rintro w ⟨hS1, hS2, hS3⟩
            go_simp
            (try with_reducible rfl)
          try simp only [List.getElem_toArray, List.getElem_cons_succ, List.getElem_cons_zero, Act.put, List.setIfInBounds_toArray, List.set_cons_zero, List.set_cons_succ]
          refine wpAnyH_take (i := 13) (oi := _) (v := ?_) rfl (by kernel_rfl) (by kernel_rfl) (by kernel_rfl) (fun _ _ _ h => h) (Or.inl ⟨by rfl, ?_⟩) (by assumption) ?_
          rotate_left
          · try simp only [List.getElem_toArray, List.getElem_cons_succ, List.getElem_cons_zero]
            rintro w ⟨hS1, hS2, hS3⟩
            go_simp
            (try with_reducible rfl)
          try simp only [List.getElem_toArray, List.getElem_cons_succ, List.getElem_cons_zero, Act.put, List.setIfInBounds_toArray, List.set_cons_zero, List.set_cons_succ]
          refine wpAnyH_ready (rs := [14]) (by kernel_rfl) (by simp) ?_
          refine AllReadyH.cons (o := _) rfl (fun K hK => ?_) ?_
          · try simp only [List.getElem_toArray, List.getElem_cons_succ, List.getElem_cons_zero]
            go_simp
            go_at_call 13
            refine (RN.out _).mono ?_
            rintro e w6 ⟨rfl, hwe⟩
            have be : Below wd.heap.size wd w6 := by rw [hwe]; exact (Below.refl _ _).alloc (Nat.le_refl _) _
            have Se : w6.cell? ⟨V.b, 4, none⟩ = some (.pointer (some ⟨V.R.b, 0, none⟩)) ∧ w6.cell? ⟨p0, off + i * 2, none⟩ = some (.int .i64 h) ∧ w6.cell? ⟨p0, off + i * 2 + 1, none⟩ = some (.int .i64 v) := by
              obtain ⟨u0, u1, u2⟩ := Sd
              exact ⟨(be.cell (World.block_lt_of_cell? _ _ u0)).trans u0, (be.cell (World.block_lt_of_cell? _ _ u1)).trans u1, (be.cell (World.block_lt_of_cell? _ _ u2)).trans u2⟩
            have Bw6 := bd.out.trans (be.mono bd.out.size)
            replace Bw6 := Lib.hid Bw6
            clear be bd hwe Sd
            go_wp2_with fail
            refine hK.out _ _ Se (fun hHeld => ?_)
            clear hK K hHeld
            try simp only [List.getElem_toArray, List.getElem_cons_succ, List.getElem_cons_zero, Act.put, List.setIfInBounds_toArray, List.set_cons_zero, List.set_cons_succ]
            refine wpAnyH_take (i := 15) (oi := _) (v := ?_) rfl (by kernel_rfl) (by kernel_rfl) (by kernel_rfl) (fun _ _ _ h => h) (Or.inl ⟨by rfl, ?_⟩) (by assumption) ?_
            rotate_left
            · try simp only [List.getElem_toArray, List.getElem_cons_succ, List.getElem_cons_zero]
              rintro w ⟨hS1, hS2, hS3⟩
              go_simp
              (try with_reducible rfl)
            try simp only [List.getElem_toArray, List.getElem_cons_succ, List.getElem_cons_zero, Act.put, List.setIfInBounds_toArray, List.set_cons_zero, List.set_cons_succ]
            refine wpAnyH_take (i := 16) (oi := _) (v := ?_) rfl (by kernel_rfl) (by kernel_rfl) (by kernel_rfl) (fun _ _ _ h => h) (Or.inl ⟨by rfl, ?_⟩) (by assumption) ?_
            rotate_left
            · try simp only [List.getElem_toArray, List.getElem_cons_succ, List.getElem_cons_zero]
              rintro w ⟨hS1, hS2, hS3⟩
              go_simp
              (try with_reducible rfl)
            try simp only [List.getElem_toArray, List.getElem_cons_succ, List.getElem_cons_zero, Act.put, List.setIfInBounds_toArray, List.set_cons_zero, List.set_cons_succ]
            refine wpAnyH_take (i := 17) (oi := _) (v := ?_) rfl (by kernel_rfl) (by kernel_rfl) (by kernel_rfl) (fun _ _ _ h => h) (Or.inl ⟨by rfl, ?_⟩) (by assumption) ?_
            rotate_left
            · try simp only [List.getElem_toArray, List.getElem_cons_succ, List.getElem_cons_zero]
              rintro w ⟨hS1, hS2, hS3⟩
              go_simp
              (try with_reducible rfl)
            try simp only [List.getElem_toArray, List.getElem_cons_succ, List.getElem_cons_zero, Act.put, List.setIfInBounds_toArray, List.set_cons_zero, List.set_cons_succ]
            refine wpAnyH_take (i := 18) (oi := _) (v := ?_) rfl (by kernel_rfl) (by kernel_rfl) (by kernel_rfl) (fun _ _ _ h => h) (Or.inl ⟨by rfl, ?_⟩) (by assumption) ?_
            rotate_left
            · try simp only [List.getElem_toArray, List.getElem_cons_succ, List.getElem_cons_zero]
              rintro w ⟨hS1, hS2, hS3⟩
              go_simp
              (try with_reducible rfl)
            try simp only [List.getElem_toArray, List.getElem_cons_succ, List.getElem_cons_zero, Act.put, List.setIfInBounds_toArray, List.set_cons_zero, List.set_cons_succ]
            refine wpAnyH_take (i := 19) (oi := _) (v := ?_) rfl (by kernel_rfl) (by kernel_rfl) (by kernel_rfl) (fun _ _ _ h => h) (Or.inl ⟨by rfl, ?_⟩) (by assumption) ?_
            rotate_left
            · try simp only [List.getElem_toArray, List.getElem_cons_succ, List.getElem_cons_zero]
              rintro w ⟨hS1, hS2, hS3⟩
              go_simp
              (try with_reducible rfl)
            try simp only [List.getElem_toArray, List.getElem_cons_succ, List.getElem_cons_zero, Act.put, List.setIfInBounds_toArray, List.set_cons_zero, List.set_cons_succ]
            refine wpAnyH_done (by kernel_rfl) ?_ _
            refine NoPanic.normal ?_
            clear Se
            obtain ⟨gD, hgD⟩ : ∃ gD, gD = wd.heap.size := ⟨_, rfl⟩
            rw [← hgD]
            clear hgD y0 y1 y4 c0 c1 RN
            have B6 := Bw5.out.trans (Bw6.out.mono Bw5.out.size)
            have G6 := G.out.trans (B6.mono G.out.size)
            obtain ⟨-, y0, y1, y4⟩ := KP.out w6 G6
            obtain ⟨c0, c1⟩ := XK.out w6 B6
            replace G6 := Lib.hid G6
            clear Bw5 Bw6 B6
            go_upto_region 11 with (first | (go_at_call 14; refine (n0 _).mono ?_; rintro e w' ⟨rfl, rfl⟩) | fail)
            go_quiet (first | (go_at_call 12; with_reducible exact quiet_left (NS.out _ _)) | fail)
            rename Nat => nq_w7
            obtain ⟨w7, hw_w7⟩ : ∃ w7, w7 = w6.drewN nq_w7 := ⟨_, rfl⟩
            rw [← hw_w7]
            have G7 : Below w1.heap.size w1 w7 := by rw [hw_w7]; exact below_drewN G6.out nq_w7
            have Z7 : w7.cell? ⟨p0, off + i * 2, none⟩ = some (.int .i64 h) ∧ w7.cell? ⟨p0, off + i * 2 + 1, none⟩ = some (.int .i64 v) := by rw [hw_w7]; exact ⟨c0, c1⟩
            clear y0 y1 y4 c0 c1
            obtain ⟨-, y0, y1, y4⟩ := KP.out w7 G7
            obtain ⟨c0, c1⟩ := Z7
            replace G7 := Lib.hid G7
            replace hw_w7 := Lib.hid hw_w7
            clear G6
            go_upto_region 12 with fail
            go_quiet (first | (go_at_call 12; with_reducible exact quiet_left (NQ.out _ _)) | fail)
            rename Nat => nq_w8
            obtain ⟨w8, hw_w8⟩ : ∃ w8, w8 = w7.drewN nq_w8 := ⟨_, rfl⟩
            rw [← hw_w8]
            have G8 := Lib.hid (show Below w1.heap.size w1 w8 by rw [hw_w8]; exact below_drewN G7.out nq_w8)
            replace hw_w8 := Lib.hid hw_w8
            clear y0 y1 y4 c0 c1 G7
            go_wp2_with (first | (go_at_call 14; refine (n1 _).mono ?_; rintro e w' ⟨rfl, rfl⟩) | fail)
            go_roundw
            case rel => exact ⟨i + 1, by simp, by omega, by omega, G8⟩
            case measure => simp [intOf] <;> omega
          exact AllReadyH.nil
        exact AllReadyH.nil
      · have LN := Lib.hid (fun (u : World) (n : Nat) => newBad (u.drewN n) V.L.g V.gq h v ok)
        have RN := Lib.hid (fun (u : World) (n : Nat) => rnewBad (u.drewN n) V.R.b h v ok)
        clear ok
        go_upto_region 7 with fail
        go_quiet (first | (go_at_call 12; with_reducible exact quiet_left (LN.out _ _)) | fail)
        rename Nat => nq_w5
        obtain ⟨w5, hw_w5⟩ : ∃ w5, w5 = wr.drewN nq_w5 := ⟨_, rfl⟩
        rw [← hw_w5]
        have G5 : Below w1.heap.size w1 w5 := by rw [hw_w5]; exact below_drewN G.out nq_w5
        have Zw5 : w5.cell? ⟨p0, off + i * 2, none⟩ = some (.int .i64 h) ∧ w5.cell? ⟨p0, off + i * 2 + 1, none⟩ = some (.int .i64 v) := by rw [hw_w5]; exact ⟨c0, c1⟩
        clear y0 y1 y4 c0 c1
        obtain ⟨-, y0, y1, y4⟩ := KP.out w5 G5
        obtain ⟨c0, c1⟩ := Zw5
        replace G5 := Lib.hid G5
        replace hw_w5 := Lib.hid hw_w5
        go_upto_region 8 with fail
        go_quiet (first | (go_at_call 13; with_reducible exact quiet_left (RN.out _ _)) | fail)
        rename Nat => nq_w6
        obtain ⟨w6, hw_w6⟩ : ∃ w6, w6 = w5.drewN nq_w6 := ⟨_, rfl⟩
        rw [← hw_w6]
        have G6 : Below w1.heap.size w1 w6 := by rw [hw_w6]; exact below_drewN G5.out nq_w6
        have Zw6 : w6.cell? ⟨p0, off + i * 2, none⟩ = some (.int .i64 h) ∧ w6.cell? ⟨p0, off + i * 2 + 1, none⟩ = some (.int .i64 v) := by rw [hw_w6]; exact ⟨c0, c1⟩
        clear y0 y1 y4 c0 c1
        obtain ⟨-, y0, y1, y4⟩ := KP.out w6 G6
        obtain ⟨c0, c1⟩ := Zw6
        replace G6 := Lib.hid G6
        replace hw_w6 := Lib.hid hw_w6
        go_upto_region 11 with (first | (go_at_call 14; refine (n1 _).mono ?_; rintro e w' ⟨rfl, rfl⟩) | fail)
        go_quiet (first | (go_at_call 12; with_reducible exact quiet_left (NS.out _ _)) | fail)
        rename Nat => nq_w7
        obtain ⟨w7, hw_w7⟩ : ∃ w7, w7 = w6.drewN nq_w7 := ⟨_, rfl⟩
        rw [← hw_w7]
        have G7 : Below w1.heap.size w1 w7 := by rw [hw_w7]; exact below_drewN G6.out nq_w7
        have Z7 : w7.cell? ⟨p0, off + i * 2, none⟩ = some (.int .i64 h) ∧ w7.cell? ⟨p0, off + i * 2 + 1, none⟩ = some (.int .i64 v) := by rw [hw_w7]; exact ⟨c0, c1⟩
        clear y0 y1 y4 c0 c1
        obtain ⟨-, y0, y1, y4⟩ := KP.out w7 G7
        obtain ⟨c0, c1⟩ := Z7
        replace G7 := Lib.hid G7
        replace hw_w7 := Lib.hid hw_w7
        clear G6
        go_upto_region 12 with fail
        go_quiet (first | (go_at_call 12; with_reducible exact quiet_left (NQ.out _ _)) | fail)
        rename Nat => nq_w8
        obtain ⟨w8, hw_w8⟩ : ∃ w8, w8 = w7.drewN nq_w8 := ⟨_, rfl⟩
        rw [← hw_w8]
        have G8 := Lib.hid (show Below w1.heap.size w1 w8 by rw [hw_w8]; exact below_drewN G7.out nq_w8)
        replace hw_w8 := Lib.hid hw_w8
        clear y0 y1 y4 c0 c1 G7
        go_wp2_with (first | (go_at_call 14; refine (n1 _).mono ?_; rintro e w' ⟨rfl, rfl⟩) | fail)
        go_roundw
        case rel => exact ⟨i + 1, by simp, by omega, by omega, G8⟩
        case measure => simp [intOf] <;> omega
    · rcases Nat.lt_or_ge i l.length with h1 | h1
      · have d1 : decide ((i : Int) < (l.length : Int)) = true := decide_eq_true (by omega)
        have d1' : decide (i < l.length) = true := decide_eq_true h1
        have d2 : decide ((i : Int) < 60) = false := decide_eq_false (by omega)
        replace hB := Lib.hid hB
        replace hNr := Lib.hid hNr
        clear hlt G y0 y1 y4
        go_wp2_with fail
        refine (WC.out _).mono ?_
        rintro e w7 ⟨rfl, b7⟩
        have hB7 := Lib.hid (hB.out.trans (b7.mono hNr.out))
        clear b7
        go_wp2
        go_ret
        exact ⟨rfl, hB7.out⟩
      · have d1 : decide ((i : Int) < (l.length : Int)) = false := decide_eq_false (by omega)
        have d1' : decide (i < l.length) = false := decide_eq_false (by omega)
        replace hB := Lib.hid hB
        replace hNr := Lib.hid hNr
        clear hlt G y0 y1 y4
        go_wp2_with fail
        refine (WC.out _).mono ?_
        rintro e w7 ⟨rfl, b7⟩
        have hB7 := Lib.hid (hB.out.trans (b7.mono hNr.out))
        clear b7
        go_wp2
        go_ret
        exact ⟨rfl, hB7.out⟩
end Go.Proofs.YtngehaiigbbknaaGreat.Que
/-
  What the argument is that holds shares.
-/
namespace Go.Proofs.YtngehaiigbbknaaGreat.LruArg
open Go.ChangeShapes Go.WideShapes Go.ChangeAt Go.RowKit LawFrame Go.Deep ClsArg
set_option linter.unusedVariables false

variable {H : Type} {enc : TypeId × Value → H}
set_option maxRecDepth 100000 in
theorem shares_at {W : World} {fuel len cap : Nat} {A : Option Addr} {x : DataW H × List MemPlace} (h : DataW.trod enc Tryz.prog W 0 (fun _ => true) true fuel 22 [.slice A len cap] = some x) :
    ∃ l : List (Int × Int), l.length = len ∧ len ≤ cap ∧ cap ≤ maxLen ∧ ∀ (k : Nat) (hk : k < l.length), Que.SRow W A k l[k] := by
  obtain ⟨hl, hm, hi⟩ := fields_at Tryz.underlying22 Tryz.underlying38 (by kernel_rfl) (by kernel_rfl) (by decide) h
  obtain ⟨l, hlen, hP⟩ := list_of (fun k (p : Int × Int) => Que.SRow W A k p) len (by
    intro k hk
    obtain ⟨b, off, n, rfl, hb, hfi⟩ := hi k hk
    obtain ⟨v0, y0, hc0, ht0⟩ := hfi 0 _ rfl
    obtain ⟨v1, y1, hc1, ht1⟩ := hfi 1 _ rfl
    obtain ⟨x0, e0, -, wx0⟩ := DataW.trod_int Tryz.underlying3 ht0
    obtain ⟨x1, e1, -, wx1⟩ := DataW.trod_int Tryz.underlying3 ht1
    simp only [List.cons.injEq, and_true] at e0 e1
    subst e0 e1
    exact ⟨⟨x0, x1⟩, b, off, rfl, hb, ⟨i64_bd wx0, i64_bd wx1⟩, hc0, hc1⟩)
  exact ⟨l, hlen, hl, hm, fun k hk => hP k hk⟩
end Go.Proofs.YtngehaiigbbknaaGreat.LruArg
