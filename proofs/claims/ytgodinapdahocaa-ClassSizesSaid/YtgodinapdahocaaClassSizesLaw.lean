/-
  The walk of the law ClassSizes.
-/
import Derived.Test.YtgodinapdahocaaClassSet
import Derived.Test.YtgodinapdahocaaClassWakes
namespace Go.Proofs.Ytgodinapdahocaa.Cls
open Go.RowKit Base MapG
set_option linter.unusedVariables false

/-- What is known of the sizes of a config that is right. -/
structure SzFacts (c : Conf) : Prop where
  nc1 : 1 ≤ c.nc
  nc2 : c.nc ≤ 62
  first : (c.sz 0 : Int) = c.mc
  last1 : c.il ≤ (c.sz (c.nc - 1) : Int)
  last2 : (c.sz (c.nc - 1) : Int) ≤ c.il + 7
  s8 : ∀ i, c.sz i % 8 = 0
  big : ∀ i, c.sz i ≤ 1048576
  ge : ∀ i, 64 ≤ c.sz i
  more : ∀ i, i + 1 < c.nc → c.sz i + 8 ≤ c.sz (i + 1)
  near : ∀ i, 100 * c.sz (i + 1) < c.sz i * c.fa.toNat + 800
  reach : ∀ i, i + 1 < c.nc - 1 → c.sz i * c.fa.toNat ≤ 100 * c.sz (i + 1)
  top : ∀ i, c.sz i ≤ c.sz (c.nc - 1)
  fa : c.fa = (c.fa.toNat : Int)
  fa2 : c.fa.toNat ≤ 400
  il2 : c.il ≤ 1048576
  il1 : 64 ≤ c.il
theorem szFacts {c : Conf} (hr : refN c = 0) : SzFacts c := by
  obtain ⟨hR, h62, -⟩ := refN_zero hr
  have hn := hR.nice
  have hc := cntN_ok (lim c.il.toNat) c.fa.toNat c.mc.toNat
  have hN := szs_nice hn
  have hL := lim_le c.il.toNat
  have a1 := hR.mc1
  have a2 := hR.il1
  have a3 := hR.il2
  have a4 := hR.fa1
  have a5 := hR.fa2
  have a6 := hR.ps
  unfold Page9 at a6
  have hlast : c.sz (c.nc - 1) = lim c.il.toNat := by
    rcases hc.top with h | h
    · exact Nat.le_antisymm (hN _).2.2 h
    · exact absurd (show 62 < c.nc by show 62 < cntN _ _ _; omega) h62
  have hlow : ∀ i, i + 1 < c.nc → c.sz i < lim c.il.toNat := fun i hi => hc.low i hi
  have hbig := hn.Lb
  refine ⟨hc.pos, by omega, ?_, ?_, ?_, fun i => (hN i).1, fun i => Nat.le_trans (hN i).2.2 hbig, fun i => (hN i).2.1, fun i hi => szs_more hn i (hlow i hi), fun i => ?_, fun i hi => ?_, fun i => ?_, by omega, by omega, by omega, by omega⟩
  · show ((c.mc.toNat : Nat) : Int) = c.mc; omega
  · rw [hlast]; omega
  · rw [hlast]; omega
  · have h1 := tgt_ge c.fa.toNat (c.sz i)
    have h2 : c.sz (i + 1) ≤ tgt c.fa.toNat (c.sz i) := Nat.min_le_right _ _
    omega
  · have h1 := tgt_ge c.fa.toNat (c.sz i)
    have h2 : c.sz (i + 1) = min (lim c.il.toNat) (tgt c.fa.toNat (c.sz i)) := rfl
    have h3 := hlow (i + 1) (by omega)
    omega
  · rw [hlast]; exact (hN i).2.2
structure SzAt (W w : World) (b : Nat) (L : Lay) (c : Conf) : Prop where
  bel : Below W.heap.size W w
  box : Blk w b 27 c.cells
  set : SetAt w L c (new0 c.cf) (List.replicate (c.cf.ps * c.cf.np) 0)
theorem SzAt.drewN {W w : World} {b : Nat} {L : Lay} {c : Conf} (h : SzAt W w b L c) (m : Nat) : SzAt W (w.drewN m) b L c := ⟨below_drewN h.bel m, h.box, h.set.drewN m⟩
theorem SzAt.chunk {W w : World} {b : Nat} {L : Lay} {c : Conf} (h : SzAt W w b L c) (k : Nat) (hk : k < c.nc) :
    Calls Try.prog 21 #[.pointer (some ⟨L.g, 0, none⟩), .int .i64 (k : Int)] w fun e w' => e = .returned (.int .i64 (c.sz k : Int)) ∧ w = w' := by
  have := chunkSizeC w L c _ _ h.set (k : Int)
  rwa [if_pos ⟨by omega, by omega⟩, Int.toNat_natCast] at this
theorem SzAt.last {W w : World} {b : Nat} {L : Lay} {c : Conf} (h : SzAt W w b L c) (hk : 1 ≤ c.nc) :
    Calls Try.prog 21 #[.pointer (some ⟨L.g, 0, none⟩), .int .i64 ((c.nc : Int) - 1)] w fun e w' => e = .returned (.int .i64 (c.sz (c.nc - 1) : Int)) ∧ w = w' := by
  have := chunkSizeC w L c _ _ h.set ((c.nc : Int) - 1)
  rwa [if_pos ⟨by omega, by omega⟩, show ((c.nc : Int) - 1).toNat = c.nc - 1 by omega] at this
def NumC (W : World) (a0 : Option Addr) (k : Nat) (n : Int) : Prop := ∃ b off, a0 = some (⟨b, off, none⟩ : Addr) ∧ b < W.heap.size ∧ W.cell? ⟨b, off + k, none⟩ = some (.int .i64 n)
set_option maxRecDepth 100000 in
set_option maxHeartbeats 3200000 in
theorem sizesLawC (W : World) (c : Conf) (a0 : Option Addr) (cap : Nat) (l : List Int) (hP : ∀ k (hk : k < l.length), NumC W a0 k l[k]) (hl : l.length ≤ maxLen) :
    Calls Try.prog 5 #[.agg c.cells, .slice a0 l.length cap] W fun e w' => e = .returned (.bool true) ∧ Below W.heap.size W w' := by
  have WC := Lib.hid wakesC
  have n1 := Lib.hid numC
  have HP := Lib.hid hP
  unfold maxLen at hl
  obtain ⟨w1, hw1⟩ : ∃ w1, w1 = W.alloc (.cells c.cells 27) := ⟨_, rfl⟩
  have B1 : Blk w1 W.heap.size 27 c.cells := by rw [hw1]; exact Blk.new W _ _
  have b1 : Below W.heap.size W w1 := by rw [hw1]; exact (Below.refl _ _).alloc (Nat.le_refl _) _
  have s1 : w1.heap.size = W.heap.size + 1 := by rw [hw1]; exact World.size_alloc _ _
  obtain ⟨x0, x1, x2, x3, x4, x5, x6⟩ := conf_cells B1
  have G1 := goodC w1 c
  unfold Conf.cells at G1 hw1 ⊢
  replace G1 := Lib.hid G1
  replace hw1 := Lib.hid hw1
  replace B1 := Lib.hid B1
  clear hP
  obtain ⟨N, hN⟩ : ∃ N, W.heap.size = N := ⟨_, rfl⟩
  rw [hN] at x0 x1 x2 x3 x4 x5 x6 b1 B1 s1 ⊢
  replace hN := Lib.hid hN
  go_enter Try.func5, Try.ntmps5
  go_upto_region 1 with fail
  rw [hN.out, ← hw1.out]
  go_wp2_with fail
  refine G1.out.mono ?_
  rintro e w2 ⟨b2, ⟨h0, rfl⟩ | ⟨-, hr, L, rfl, M, F⟩⟩
  · have bb2 := Lib.hid (b1.trans (b2.mono (show N ≤ w1.heap.size by omega)))
    have hs := b2.size
    clear G1 B1 b1 b2 x0 x1 x2 x3 x4 x5 x6 hw1
    go_wp2_with (first | (go_at_call 12; refine (WC.out _).mono ?_; rintro e w9 ⟨rfl, b9⟩; replace b9 := Lib.hid b9) | fail)
    go_ret
    exact ⟨rfl, bb2.out.trans (b9.out.mono (by omega))⟩
  have SF := szFacts hr
  have hs2 := b2.size
  have NA : SzAt W w2 N L c := ⟨by rw [hN.out]; exact b1.trans (b2.mono (show N ≤ w1.heap.size by omega)), B1.out.below b2 (by omega), M⟩
  have C2 := Lib.hid (classesC w2 L c _ _ M)
  have a1 := SF.nc1
  have a2 := SF.nc2
  have a3 := SF.last1
  have a4 := SF.last2
  have a5 := SF.il1
  have a6 := SF.il2
  have KA := fun m => chunkSizeC (w2.drewN m) L c _ _ (M.drewN m) 0
  rw [if_pos ⟨by omega, by omega⟩, show ((0 : Int)).toNat = 0 from rfl, SF.first] at KA
  have KB := fun m => chunkSizeC (w2.drewN m) L c _ _ (M.drewN m) ((c.nc : Int) - 1)
  rw [if_pos ⟨by omega, by omega⟩, show ((c.nc : Int) - 1).toNat = c.nc - 1 by omega] at KB
  have KC := fun m => chunkSizeC (w2.drewN m) L c _ _ (M.drewN m) (c.nc : Int)
  rw [if_neg (fun h => by omega)] at KC
  have KD := fun m => chunkSizeC (w2.drewN m) L c _ _ (M.drewN m) (-1)
  rw [if_neg (fun h => by omega)] at KD
  replace KA := Lib.hid KA
  replace KB := Lib.hid KB
  replace KC := Lib.hid KC
  replace KD := Lib.hid KD
  obtain ⟨-, -, -, y3, y4, -, -⟩ := conf_cells NA.box
  have c1 : decide ((c.nc : Int) < 1) = false := decide_eq_false (by omega)
  have c1' : decide (c.nc < 1) = false := decide_eq_false (by omega)
  have c1'' : decide (c.nc = 0) = false := decide_eq_false (by omega)
  have c2 : decide (62 < (c.nc : Int)) = false := decide_eq_false (by omega)
  have c2' : decide (62 < c.nc) = false := decide_eq_false (by omega)
  have q1 : IntKind.i64.wrap ((c.nc : Int) - 1) = (c.nc : Int) - 1 := IntWalk.i64_in _ (by omega)
  have q2 : IntKind.i64.wrap (c.il + 7) = c.il + 7 := IntWalk.i64_in _ (by omega)
  have c3 : decide ((c.sz (c.nc - 1) : Int) < c.il) = false := decide_eq_false (by omega)
  have c4 : decide (c.il + 7 < (c.sz (c.nc - 1) : Int)) = false := decide_eq_false (by omega)
  replace NA := Lib.hid NA
  replace SF := Lib.hid SF
  clear G1 B1 b1 b2 x0 x1 x2 x3 x4 x5 x6 hw1 M F hr
  generalize hX : c.sz (c.nc - 1) = X at *
  replace hX := Lib.hid hX
  go_wp2_with fail
  refine C2.out.mono ?_
  rintro e w' ⟨rfl, rfl⟩
  go_upto_region 5 with fail
  go_quiet ((first
    | (go_at_call 21; with_reducible exact quiet_left (KA.out _))
    | (go_at_call 21; with_reducible exact quiet_left (KB.out _))
    | (go_at_call 21; with_reducible exact quiet_left (KC.out _))
    | (go_at_call 21; with_reducible exact quiet_left (KD.out _))))
  have NA2 := Lib.hid (NA.out.drewN nq)
  clear NA KA KB KC KD C2 y3 y4
  go_wp2
  go_loopw [8] (fun v ws => ∃ i : Nat, v = .int .i64 (i : Int) ∧ i ≤ c.nc ∧ Hid (SzAt W ws N L c)) (fun v _ => c.nc - (intOf v).toNat)
  case atStart => exact ⟨0, rfl, Nat.zero_le _, NA2⟩
  case round =>
    obtain ⟨i, rfl, hi, NA⟩ := hrel
    clear NA2
    have q3 : IntKind.i64.wrap ((i : Int) + 1) = (i : Int) + 1 := IntWalk.i64_in _ (by omega)
    by_cases hin : i < c.nc
    · have e1 : decide ((i : Int) < (c.nc : Int)) = true := decide_eq_true (by omega)
      have K1 := chunkSizeC wr L c _ _ NA.out.set (i : Int)
      rw [if_pos ⟨by omega, by omega⟩, Int.toNat_natCast] at K1
      replace K1 := Lib.hid K1
      have t8 : ((c.sz i : Int)).tmod 8 = 0 := by
        have := SF.out.s8 i
        rw [Int.tmod_eq_emod_of_nonneg (by omega)]; omega
      have bb := SF.out.big i
      have gg := SF.out.ge i
      rcases Nat.eq_zero_or_pos i with hz | hz
      · subst hz
        generalize hY : c.sz 0 = Y at *
        replace hY := Lib.hid hY
        go_upto_region 10 with fail
        go_wp2_with fail
        refine K1.out.mono ?_
        rintro e w' ⟨rfl, rfl⟩
        clear K1
        go_upto_region 13 with fail
        go_quiet (fail)
        rename Nat => nq1
        go_upto_region 15 with fail
        go_quiet (fail)
        rename Nat => nq2
        have NA' := Lib.hid (NA.out.drewN (nq1 + nq2))
        clear NA
        go_wp2
        go_roundw
        case rel => exact ⟨1, rfl, by omega, NA'⟩
        case measure => simp [intOf] <;> omega
      · obtain ⟨j, rfl⟩ : ∃ j, i = j + 1 := ⟨i - 1, by omega⟩
        have KJ := fun w' (h : SzAt W w' N L c) => h.chunk j (by omega)
        have KJ0 := KJ wr NA.out
        have f1 := SF.out.more j hin
        have f2 := SF.out.near j
        have f3 := SF.out.reach j
        have f4 := SF.out.big j
        have f5 := SF.out.ge j
        have f6 := SF.out.fa
        have f7 := SF.out.fa2
        obtain ⟨-, -, y2, -, -, -, -⟩ := conf_cells NA.out.box
        obtain ⟨P, hPP⟩ : ∃ P, P = c.sz j * c.fa.toNat := ⟨_, rfl⟩
        have hPb : P ≤ 1048576 * 400 := by rw [hPP]; exact Nat.mul_le_mul f4 f7
        have hmul : (c.sz j : Int) * c.fa = (P : Int) := by rw [f6, hPP, Int.natCast_mul]
        rw [← hPP] at f2 f3
        have i0 : IntKind.i64.wrap ((j : Int) + 1 - 1) = (j : Int) := by rw [IntWalk.i64_in _ (by omega)]; omega
        have i0' : IntKind.i64.wrap (j : Int) = (j : Int) := IntWalk.i64_in _ (by omega)
        have g0 : decide (0 < (j : Int) + 1) = true := decide_eq_true (by omega)
        have g1 : IntKind.i64.wrap ((c.sz j : Int) + 8) = (c.sz j : Int) + 8 := IntWalk.i64_in _ (by omega)
        have g2 : decide ((c.sz (j + 1) : Int) < (c.sz j : Int) + 8) = false := decide_eq_false (by omega)
        have g3 : IntKind.i64.wrap (100 * (c.sz (j + 1) : Int)) = 100 * (c.sz (j + 1) : Int) := IntWalk.i64_in _ (by omega)
        have g4 : IntKind.i64.wrap ((c.sz j : Int) * c.fa) = (P : Int) := by rw [hmul]; exact IntWalk.i64_in _ (by omega)
        have g5 : IntKind.i64.wrap ((c.sz (j + 1) : Int) - 8) = (c.sz (j + 1) : Int) - 8 := IntWalk.i64_in _ (by omega)
        have g6 : IntKind.i64.wrap (100 * ((c.sz (j + 1) : Int) - 8)) = 100 * ((c.sz (j + 1) : Int) - 8) := IntWalk.i64_in _ (by omega)
        have g7 : decide ((P : Int) ≤ 100 * ((c.sz (j + 1) : Int) - 8)) = false := decide_eq_false (by omega)
        rw [Int.natCast_add, show ((1 : Nat) : Int) = 1 from rfl] at K1 q3 e1
        by_cases hmid : j + 1 < c.nc - 1
        · have f3 := f3 hmid
          have g8 : decide (100 * (c.sz (j + 1) : Int) < (P : Int)) = false := decide_eq_false (by omega)
          have g9 : decide ((j : Int) + 1 < (c.nc : Int) - 1) = true := decide_eq_true (by omega)
          have g10 : ((j : Int) + 1 == (c.nc : Int) - 1) = false := by rw [beq_eq_false_iff_ne]; omega
          generalize hY : c.sz j = Y at *
          generalize hZ : c.sz (j + 1) = Z at *
          replace hY := Lib.hid hY
          replace hZ := Lib.hid hZ
          replace hPP := Lib.hid hPP
          replace KJ := Lib.hid KJ
          replace KJ0 := Lib.hid KJ0
          clear f1 f2 f3 f4 f5 f6 f7 hmul
          go_upto_region 10 with fail
          go_wp2_with fail
          refine K1.out.mono ?_
          rintro e w' ⟨rfl, rfl⟩
          clear K1
          go_wp2_with fail
          refine KJ0.out.mono ?_
          rintro e w' ⟨rfl, rfl⟩
          clear KJ0
          go_upto_region 13 with fail
          go_quiet ((first | (go_at_call 21; with_reducible exact quiet_left (KJ.out _ (NA.out.drewN _)))))
          rename Nat => nq1
          go_upto_region 15 with fail
          go_quiet (fail)
          rename Nat => nq2
          have NA' := Lib.hid (NA.out.drewN (nq1 + nq2))
          clear NA
          go_wp2
          go_roundw
          case rel => exact ⟨j + 1 + 1, by simp, by omega, NA'⟩
          case measure => simp [intOf] <;> omega
        · have g9 : decide ((j : Int) + 1 < (c.nc : Int) - 1) = false := decide_eq_false (by omega)
          have g10 : ((j : Int) + 1 == (c.nc : Int) - 1) = true := by rw [beq_iff_eq]; omega
          generalize hY : c.sz j = Y at *
          generalize hZ : c.sz (j + 1) = Z at *
          replace hY := Lib.hid hY
          replace hZ := Lib.hid hZ
          replace hPP := Lib.hid hPP
          replace KJ := Lib.hid KJ
          replace KJ0 := Lib.hid KJ0
          clear f1 f2 f3 f4 f5 f6 f7 hmul
          go_upto_region 10 with fail
          go_wp2_with fail
          refine K1.out.mono ?_
          rintro e w' ⟨rfl, rfl⟩
          clear K1
          go_wp2_with fail
          refine KJ0.out.mono ?_
          rintro e w' ⟨rfl, rfl⟩
          clear KJ0
          go_upto_region 13 with fail
          go_quiet (fail)
          rename Nat => nq1
          obtain ⟨w3, hw3⟩ : ∃ w3, w3 = wr.drewN nq1 := ⟨_, rfl⟩
          have NA1 := NA.out.drewN nq1
          rw [← hw3] at NA1
          have y2' : w3.cell? ⟨N, 2, none⟩ = some (.int .i64 c.fa) := by rw [hw3]; exact y2
          replace NA1 := Lib.hid NA1
          replace hw3 := Lib.hid hw3
          clear y2 NA
          go_upto_region 15 with fail
          rw [← hw3.out]
          go_quiet ((first | (go_at_call 21; with_reducible exact quiet_left (KJ.out _ (NA1.out.drewN _)))))
          rename Nat => nq2
          have NA' := Lib.hid (NA1.out.drewN nq2)
          clear NA1
          go_wp2
          go_roundw
          case rel => exact ⟨j + 1 + 1, by simp, by omega, NA'⟩
          case measure => simp [intOf] <;> omega
    · obtain rfl : i = c.nc := by omega
      have e1 : decide ((c.nc : Int) < (c.nc : Int)) = false := by simp
      clear q3
      go_wp2
      go_loopw [10] (fun v ws => ∃ k : Nat, v = .int .i64 (k : Int) ∧ k ≤ l.length ∧ Hid (SzAt W ws N L c)) (fun v _ => l.length - (intOf v).toNat)
      case atStart => exact ⟨0, rfl, Nat.zero_le _, NA⟩
      case round =>
        obtain ⟨k, rfl, hk, NA⟩ := hrel
        by_cases hlt : k < l.length ∧ k < 100
        · obtain ⟨hk1, hk2⟩ := hlt
          have d1 : decide ((k : Int) < (l.length : Int)) = true := decide_eq_true (by omega)
          have d1' : decide (k < l.length) = true := decide_eq_true (by omega)
          have d2 : decide ((k : Int) < 100) = true := decide_eq_true (by omega)
          have q3 : IntKind.i64.wrap ((k : Int) + 1) = (k : Int) + 1 := IntWalk.i64_in _ (by omega)
          have k0 : (0 : Int) ≤ (k : Int) := by omega
          have k1 : (k : Int) < (l.length : Int) := by omega
          obtain ⟨b, off, rfl, hbl, xk⟩ := HP.out k hk1
          replace xk := (NA.out.bel.cell (p := ⟨b, off + k, none⟩) hbl).trans xk
          generalize l[k] = n at *
          have F1 := Lib.hid (forC wr L c _ _ NA.out.set n)
          have KB := fun m => chunkSizeC (wr.drewN m) L c _ _ (NA.out.set.drewN m) ((c.nc : Int) - 1)
          rw [if_pos ⟨by omega, by omega⟩, show ((c.nc : Int) - 1).toNat = c.nc - 1 by omega, hX.out] at KB
          replace KB := Lib.hid KB
          clear hbl HP
          go_wp2_with fail
          refine F1.out.mono ?_
          rintro e w' ⟨a, b', rfl, hF, rfl⟩
          clear F1
          rcases hF with ⟨h1, rfl, rfl⟩ | ⟨h1, rfl, j, rfl, hj, hle, hlow⟩ | ⟨h1, rfl, rfl, hall⟩
          · have e2 : decide (n < 1) = true := decide_eq_true (by omega)
            clear h1 KB
            go_wp2_with (first | (go_at_call 11; refine (n1.out _ _).mono ?_; rintro e w' ⟨rfl, rfl⟩) | fail)
            go_roundw
            case rel => exact ⟨k + 1, by simp, by omega, NA⟩
            case measure => simp [intOf] <;> omega
          · have e2 : decide (n < 1) = false := decide_eq_false (by omega)
            have hXt := SF.out.top j
            rw [hX.out] at hXt
            have e3 : decide ((X : Int) < n) = false := decide_eq_false (by omega)
            have j0 : decide ((j : Int) < 0) = false := by simp
            have j1 : decide ((c.nc : Int) ≤ (j : Int)) = false := decide_eq_false (by omega)
            have j1' : decide (c.nc ≤ j) = false := decide_eq_false (by omega)
            have e4 : decide ((c.sz j : Int) < n) = false := decide_eq_false (by omega)
            have KJ := fun w' (h : SzAt W w' N L c) => h.chunk j hj
            have i0' : IntKind.i64.wrap (j : Int) = (j : Int) := IntWalk.i64_in _ (by omega)
            go_upto_region 26 with fail
            go_quiet ((first | (go_at_call 21; with_reducible exact quiet_left (KB.out _))))
            rename Nat => nq1
            have NA1 := Lib.hid (NA.out.drewN nq1)
            obtain ⟨w3, hw3⟩ : ∃ w3, w3 = wr.drewN nq1 := ⟨_, rfl⟩
            rw [← hw3] at NA1
            have NU := Lib.hid (fun m => n1.out (w3.drewN m) 0)
            have xk3 : w3.cell? ⟨b, off + k, none⟩ = some (.int .i64 n) := by rw [hw3]; exact xk
            replace hw3 := Lib.hid hw3
            clear KB xk NA
            rcases Nat.eq_zero_or_pos j with hz | hz
            · subst hz
              generalize hY : c.sz 0 = Y at *
              replace hY := Lib.hid hY
              replace KJ := Lib.hid KJ
              replace hlow := Lib.hid hlow
              rw [show ((0 : Nat) : Int) = 0 from rfl] at *
              go_upto_region 21 with fail
              rw [← hw3.out]
              go_quiet ((first
                | (go_at_call 11; with_reducible exact quiet_left (NU.out _))
                | (go_at_call 21; with_reducible exact quiet_left (KJ.out _ (NA1.out.drewN _)))))
              rename Nat => nq2
              have NA' := Lib.hid (NA1.out.drewN nq2)
              clear NA1 KJ NU xk3
              go_wp2
              go_roundw
              case rel => exact ⟨k + 1, by simp, by omega, NA'⟩
              case measure => simp [intOf] <;> omega
            · obtain ⟨i, rfl⟩ : ∃ i, j = i + 1 := ⟨j - 1, by omega⟩
              have KI := Lib.hid fun w' (h : SzAt W w' N L c) => h.chunk i (by omega)
              have hlt := hlow i (Nat.lt_succ_self i)
              have e5 : decide (n ≤ (c.sz i : Int)) = false := decide_eq_false (by omega)
              have g0 : decide (0 < (i : Int) + 1) = true := decide_eq_true (by omega)
              have i1 : IntKind.i64.wrap ((i : Int) + 1 - 1) = (i : Int) := by rw [IntWalk.i64_in _ (by omega)]; omega
              have i1' : IntKind.i64.wrap (i : Int) = (i : Int) := IntWalk.i64_in _ (by omega)
              rw [Int.natCast_add, show ((1 : Nat) : Int) = 1 from rfl] at KJ i0' j0 j1
              replace KJ := Lib.hid KJ
              clear hlow hlt hle
              go_upto_region 21 with fail
              rw [← hw3.out]
              go_quiet ((first
                | (go_at_call 11; with_reducible exact quiet_left (NU.out _))
                | (go_at_call 21; with_reducible exact quiet_left (KJ.out _ (NA1.out.drewN _)))
                | (go_at_call 21; with_reducible exact quiet_left (KI.out _ (NA1.out.drewN _)))))
              rename Nat => nq2
              have NA' := Lib.hid (NA1.out.drewN nq2)
              clear NA1 KJ KI NU xk3
              go_wp2
              go_roundw
              case rel => exact ⟨k + 1, by simp, by omega, NA'⟩
              case measure => simp [intOf] <;> omega
          · have e2 : decide (n < 1) = false := decide_eq_false (by omega)
            have e3 : decide ((X : Int) < n) = true := by
              have := hall (c.nc - 1) (by omega)
              rw [hX.out] at this
              simp; omega
            clear h1 hall
            go_upto_region 26 with fail
            go_quiet ((first | (go_at_call 21; with_reducible exact quiet_left (KB.out _))))
            have NA' := Lib.hid (NA.out.drewN nq)
            clear NA KB xk
            go_wp2_with (first | (go_at_call 11; refine (n1.out _ _).mono ?_; rintro e w' ⟨rfl, rfl⟩) | fail)
            go_roundw
            case rel => exact ⟨k + 1, by simp, by omega, NA'⟩
            case measure => simp [intOf] <;> omega
        · have d1 : decide ((k : Int) < (l.length : Int)) = true ∧ decide (k < l.length) = true ∧ decide ((k : Int) < 100) = false ∨ decide ((k : Int) < (l.length : Int)) = false ∧ decide (k < l.length) = false := by
            by_cases hk1 : k < l.length
            · have : ¬ k < 100 := fun h => hlt ⟨hk1, h⟩
              exact .inl ⟨by simp; omega, by simp; omega, by simp; omega⟩
            · exact .inr ⟨by simp; omega, by simp; omega⟩
          have bN := NA.out.bel
          rw [hN.out] at bN
          have hs := bN.size
          have bN' := Lib.hid bN
          rcases d1 with ⟨d1, d1', d2⟩ | ⟨d1, d1'⟩
          all_goals
            clear HP n1 bN NA
            go_wp2_with fail
            refine (WC.out _).mono ?_
            rintro e w9 ⟨rfl, b9⟩
            have bf := Lib.hid (bN'.out.trans (b9.mono (by rw [← hN.out]; exact hs)))
            go_wp2
            go_ret
            exact ⟨rfl, bf.out⟩
end Go.Proofs.Ytgodinapdahocaa.Cls
