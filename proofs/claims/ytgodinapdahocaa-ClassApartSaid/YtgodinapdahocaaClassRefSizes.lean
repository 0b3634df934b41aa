/-
  The walk of the document's Sizes.
-/
import Derived.Test.YtgodinapdahocaaClassSizes
namespace Go.Proofs.Ytgodinapdahocaa.Cls
open Go.RowKit Base
set_option linter.unusedVariables false

set_option maxRecDepth 100000 in
set_option maxHeartbeats 3200000 in
theorem refSizesC (c : Conf) (h : Right c) (w : World) : Calls Try.prog 17 #[.agg c.rcells] w fun e w' => ∃ v, e = .returned v ∧ w'.ownsRow w.heap.size 3 1 v c.nc (((List.range c.nc).map c.sz).map iv) ∧ Below w.heap.size w w' := by
  obtain ⟨ps, np, fa, mc, il, hot, warm⟩ := c
  obtain ⟨w1, hw1, b1, hs1, -, -, x2, x3, x4⟩ := boxedRef w ⟨ps, np, fa, mc, il, hot, warm⟩
  have f1 := h.fa1
  have f2 := h.fa2
  have f3 := h.mc1
  have f4 := h.il1
  have f5 := h.il2
  have f6 := h.ps
  have hn := h.nice
  unfold Conf.rcells at hw1 ⊢
  unfold Conf.nc Conf.sz
  simp only at hw1 x2 x3 x4 f1 f2 f3 f4 f5 f6 hn ⊢
  unfold Page9 at f6
  obtain ⟨F, rfl⟩ : ∃ F : Nat, fa = (F : Int) := ⟨fa.toNat, by omega⟩
  obtain ⟨M, rfl⟩ : ∃ M : Nat, mc = (M : Int) := ⟨mc.toNat, by omega⟩
  obtain ⟨I, rfl⟩ : ∃ I : Nat, il = (I : Int) := ⟨il.toNat, by omega⟩
  simp only [Int.toNat_natCast] at hn ⊢
  have hI : I ≤ 1048576 := by omega
  obtain ⟨L, hL⟩ : ∃ L, L = lim I := ⟨_, rfl⟩
  rw [← hL] at hn ⊢
  have hLb := hn.Lb
  have fin : ∀ k, Cnt L F M k → k = cntN L F M := fun k hk => hk.eq
  have NN := szs_nice hn
  have TL := tgt_le hn
  have TM := tgt_more hn
  have SL := fun i n => step_lt (L := L) (F := F) (m := M) i n
  clear f1 f2 f3 f4 f5 f6 h
  replace hn := Lib.hid hn
  replace hL := Lib.hid hL
  replace fin := Lib.hid fin
  replace hw1 := Lib.hid hw1
  generalize hN : w.heap.size = N at *
  replace hN := Lib.hid hN
  go_enter Try.func17, Try.ntmps17
  go_upto_region 1 with fail
  rw [hN.out, ← hw1.out]
  go_wp2_with fail
  go_loop [3] (fun s => ∃ x : Nat, I ≤ x ∧ x ≤ L ∧ s = .int .i64 (x : Int)) (fun s => L - (intOf s).toNat)
  case atStart => exact ⟨I, Nat.le_refl _, by rw [hL.out]; exact (lim_le I).1, rfl⟩
  case round =>
    obtain ⟨x, hx1, hx2, rfl⟩ := hrel
    have l1 := hL.out
    unfold lim at l1
    have t8 : (x : Int).tmod 8 = ((x % 8 : Nat) : Int) := by rw [Int.tmod_eq_emod_of_nonneg (by omega)]; rfl
    by_cases h8 : x % 8 = 0
    · obtain rfl : x = L := by omega
      rw [h8] at t8
      clear l1 hx1 hx2
      have S0 : N < w1.heap.size := by omega
      have O1 := own_one w1 (N + 1) M (by omega)
      rw [hs1] at O1
      replace O1 := Lib.hid O1
      go_wp2_with fail
      go_loopw [4] (fun v wr => ∃ k, 1 ≤ k ∧ k ≤ 63 ∧ (∀ j, j + 1 < k → szs x F M j < x) ∧ wr.ownsRow (N + 1) 3 1 v k ((szL x F M k).map iv) ∧ Below (N + 1) w1 wr ∧ N + 1 ≤ wr.heap.size) (fun v _ => 63 - vlen v)
      case atStart => exact ⟨1, by omega, by omega, fun j hj => by omega, O1.out, (Below.refl _ _).alloc (by omega) _, by rw [World.size_alloc]; omega⟩
      case round =>
        obtain ⟨k, hk1, hk2, hlow, own, hb, hsz⟩ := hrel
        obtain ⟨j, rfl⟩ : ∃ j, k = j + 1 := ⟨k - 1, by omega⟩
        obtain ⟨g, cap, rfl, cg, hgN, hgl⟩ := own_iv own (szL_at x F M (j + 1) j (Nat.lt_succ_self j))
        have hF : wr.cell? ⟨N, 2, none⟩ = some (.int .i64 (F : Int)) := (hb.cell (p := ⟨N, 2, none⟩) (Nat.lt_succ_self N)).trans x2
        obtain ⟨n8, n64, nL⟩ := NN j
        have nT := TL j
        have nM := TM j
        have nS := SL j
        have hsucc := szL_succ x F M (j + 1)
        have hnx : szs x F M (j + 1) = nxt x F (szs x F M j) := rfl
        generalize hsj : szs x F M j = s at *
        have eA : IntKind.i64.wrap ((j : Int) + 1 - 1) = (j : Int) := by rw [Int.add_sub_cancel]; exact IntWalk.i64_in _ (by omega)
        by_cases h1 : s < x
        · have d1 : decide ((s : Int) < (x : Int)) = true := by simp; omega
          by_cases h2 : j + 1 ≤ 62
          · have d2 : decide ((j : Int) + 1 ≤ 62) = true := by simp; omega
            have e8 : IntKind.i64.wrap ((s : Int) + 8) = (s : Int) + 8 := IntWalk.i64_in _ (by omega)
            obtain ⟨T, hT⟩ : ∃ T, T = tgt F s := ⟨_, rfl⟩
            have hT8 := tgt8 F s
            rw [← hT] at nT nM nS hT8
            obtain ⟨y, hy⟩ : ∃ y, y = s * F := ⟨_, rfl⟩
            have g1 : (s : Int) * (F : Int) = (y : Int) := by rw [hy]; exact (Int.natCast_mul s F).symm
            have hyb : y < 500000000 := by
              have h5 := tgt_ge F s
              rw [← hT, ← hy] at h5
              omega
            have g2 : IntKind.i64.wrap (y : Int) = (y : Int) := IntWalk.i64_in _ (by omega)
            rw [← hy] at nS
            obtain ⟨X, hX⟩ : ∃ X, X = nxt x F s := ⟨_, rfl⟩
            have hXT : X = min x T := by rw [hX, hT]; rfl
            have hlow2 : ∀ i, i + 1 < j + 1 + 1 → szs x F M i < x := fun i hi => by
              rcases Nat.lt_or_ge (i + 1) (j + 1) with h3 | h3
              · exact hlow i h3
              · obtain rfl : i = j := by omega
                rw [hsj]; omega
            rw [hnx, ← hX] at hsucc
            replace hlow2 := Lib.hid hlow2
            replace hsucc := Lib.hid hsucc
            replace hX := Lib.hid hX
            replace hT := Lib.hid hT
            replace hy := Lib.hid hy
            replace nS := Lib.hid nS
            replace own := Lib.hid own
            replace hb := Lib.hid hb
            clear hnx hlow NN TL TM SL
            go_wp2_with fail
            rename World => w2
            go_loopw [5] (fun sn wx => ∃ n m : Nat, n % 8 = 0 ∧ s + 8 ≤ n ∧ n ≤ T ∧ sn = .int .i64 (n : Int) ∧ w2.drewN m = wx) (fun sn _ => T - (intOf sn).toNat)
            case atStart => exact ⟨s + 8, 0, by omega, Nat.le_refl _, nM, by go_num, rfl⟩
            case round =>
              obtain ⟨n, m, m8, nlo, nhi, rfl, hm⟩ := hrel
              have nS2 := nS.out n m8 nhi
              have cg' : wr.cell? ⟨g, j, none⟩ = some (.int .i64 (s : Int)) := by rw [← hm]; exact cg
              have hF' : wr.cell? ⟨N, 2, none⟩ = some (.int .i64 (F : Int)) := by rw [← hm]; exact hF
              have q1 : IntKind.i64.wrap (100 * (n : Int)) = 100 * (n : Int) := IntWalk.i64_in _ (by omega)
              by_cases h3 : n < T
              · have d3 : decide (100 * (n : Int) < (y : Int)) = true := by have := nS2.2 h3; simp; omega
                have e9 : IntKind.i64.wrap ((n : Int) + 8) = (n : Int) + 8 := IntWalk.i64_in _ (by omega)
                replace hm := Lib.hid hm
                clear cg hF nS2
                go_wp2_with fail
                go_quiet (fail)
                go_wp2
                go_roundw
                case rel => exact ⟨n + 8, _, by omega, by omega, by omega, by go_num, by rw [← hm.out]; exact (World.drewN_drewN _ _ _).symm⟩
                case measure => simp [intOf]; omega
              · obtain rfl : n = T := by omega
                have d3 : decide (100 * (n : Int) < (y : Int)) = false := by
                  have h5 := nS2.1
                  simp
                  omega
                replace hm := Lib.hid hm
                clear cg hF nS2
                go_wp2_with fail
                go_quiet (fail)
                have own4 : (wr.drewN nq).ownsRow (N + 1) 3 1 (.slice (some ⟨g, 0, none⟩) (j + 1) cap) (j + 1) ((szL x F M (j + 1)).map iv) := by rw [← hm.out]; exact own.out
                have hb4 : Below (N + 1) w1 (wr.drewN nq) := by rw [← hm.out]; exact below_drewN (below_drewN hb.out m) nq
                have hsz4 : N + 1 ≤ (wr.drewN nq).heap.size := by rw [← hm.out]; exact hsz
                clear cg' hF'
                generalize wr.drewN nq = w4 at *
                by_cases h6 : x < n
                · have d6 : decide ((x : Int) < (n : Int)) = true := by simp; omega
                  have hXe : X = x := by omega
                  clear hXT
                  subst hXe
                  go_wp2_with (at_builtin; refine wpList_app rfl _ _ _ rfl eiI (N + 1) _ _ _ rfl (own4.alloc _) (w4.heap.size + 1) (some ⟨w4.heap.size, 0, none⟩) 1 1 ([X].map iv) rfl ?c1 ?c2 ?c3 ?c4 ?c5 ?_)
                  case c1 => first | exact reads_one w4 X | (rw [hXe]; exact reads_one w4 X)
                  case c2 => exact iv_one _
                  case c3 => unfold maxLen; omega
                  case c4 => omega
                  case c5 => rw [World.size_alloc]; omega
                  intro v2 w5 hown2 hg2 _
                  have hb5 : Below (N + 1) w1 w5 := (hb4.alloc hsz4 _).grown hg2 (by rw [World.size_alloc]; omega) (fun j hj => (own4.lt j hj).1)
                  have hown3 : w5.ownsRow (N + 1) 3 1 v2 (j + 1 + 1) ((szL X F M (j + 1 + 1)).map iv) := by
                    rw [hsucc.out, List.map_append]
                    exact hown2
                  have hs3 : N + 1 ≤ w5.heap.size := Nat.le_trans (by rw [World.size_alloc]; omega) hg2.size
                  replace hown3 := Lib.hid hown3
                  replace hb5 := Lib.hid hb5
                  clear hown2 hg2 own4 hb4
                  go_wp2
                  go_roundw
                  case rel => exact ⟨j + 1 + 1, by omega, by omega, hlow2.out, hown3.out, hb5.out, hs3⟩
                  case measure =>
                    obtain ⟨A3, c3, rfl⟩ := own_is hown3.out
                    simp [vlen]
                    omega
                · have d6 : decide ((x : Int) < (n : Int)) = false := by simp; omega
                  have hXe : X = n := by omega
                  clear hXT
                  subst hXe
                  go_wp2_with (at_builtin; refine wpList_app rfl _ _ _ rfl eiI (N + 1) _ _ _ rfl (own4.alloc _) (w4.heap.size + 1) (some ⟨w4.heap.size, 0, none⟩) 1 1 ([X].map iv) rfl ?c1 ?c2 ?c3 ?c4 ?c5 ?_)
                  case c1 => first | exact reads_one w4 X | (rw [hXe]; exact reads_one w4 X)
                  case c2 => exact iv_one _
                  case c3 => unfold maxLen; omega
                  case c4 => omega
                  case c5 => rw [World.size_alloc]; omega
                  intro v2 w5 hown2 hg2 _
                  have hb5 : Below (N + 1) w1 w5 := (hb4.alloc hsz4 _).grown hg2 (by rw [World.size_alloc]; omega) (fun j hj => (own4.lt j hj).1)
                  have hown3 : w5.ownsRow (N + 1) 3 1 v2 (j + 1 + 1) ((szL x F M (j + 1 + 1)).map iv) := by
                    rw [hsucc.out, List.map_append]
                    exact hown2
                  have hs3 : N + 1 ≤ w5.heap.size := Nat.le_trans (by rw [World.size_alloc]; omega) hg2.size
                  replace hown3 := Lib.hid hown3
                  replace hb5 := Lib.hid hb5
                  clear hown2 hg2 own4 hb4
                  go_wp2
                  go_roundw
                  case rel => exact ⟨j + 1 + 1, by omega, by omega, hlow2.out, hown3.out, hb5.out, hs3⟩
                  case measure =>
                    obtain ⟨A3, c3, rfl⟩ := own_is hown3.out
                    simp [vlen]
                    omega
          · have d2 : decide ((j : Int) + 1 ≤ 62) = false := by simp; omega
            have hk := fin.out (j + 1) ⟨by omega, by omega, hlow, .inr (by omega)⟩
            replace own := Lib.hid (show wr.ownsRow (N + 1) 3 1 (.slice (some ⟨g, 0, none⟩) (j + 1) cap) (cntN x F M) ((szL x F M (cntN x F M)).map iv) by rw [← hk]; exact own)
            replace hk := Lib.hid hk
            replace hb := Lib.hid hb
            clear hsucc hnx hlow
            go_wp2
            go_ret
            exact ⟨_, rfl, own_weak own.out (Nat.le_succ N), b1.trans (hb.out.mono (Nat.le_succ N))⟩
        · have d1 : decide ((s : Int) < (x : Int)) = false := by simp; omega
          have hk := fin.out (j + 1) ⟨by omega, by omega, hlow, .inl (by rw [Nat.add_sub_cancel, hsj]; omega)⟩
          replace own := Lib.hid (show wr.ownsRow (N + 1) 3 1 (.slice (some ⟨g, 0, none⟩) (j + 1) cap) (cntN x F M) ((szL x F M (cntN x F M)).map iv) by rw [← hk]; exact own)
          replace hk := Lib.hid hk
          replace hb := Lib.hid hb
          clear hsucc hnx hlow
          go_wp2
          go_ret
          exact ⟨_, rfl, own_weak own.out (Nat.le_succ N), b1.trans (hb.out.mono (Nat.le_succ N))⟩
    · have hz : (((x % 8 : Nat) : Int) != 0) = true := by simp; omega
      have hz' : (((x % 8 : Nat) : Int) == 0) = false := by simp; omega
      have hz'' : decide (((x % 8 : Nat) : Int) = 0) = false := by simp; omega
      have hlt : x + 1 ≤ L := by omega
      generalize x % 8 = z at *
      clear l1
      go_wp2
      go_round
      case rel => exact ⟨x + 1, by omega, hlt, by go_num⟩
      case measure => simp [intOf]; omega
end Go.Proofs.Ytgodinapdahocaa.Cls
