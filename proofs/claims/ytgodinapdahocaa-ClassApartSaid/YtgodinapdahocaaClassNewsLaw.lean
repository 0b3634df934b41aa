/-
  The walk of the law ClassNews.
-/
import Derived.Test.YtgodinapdahocaaClassTold
import Derived.Test.YtgodinapdahocaaClassWakes
namespace Go.Proofs.Ytgodinapdahocaa.Cls
open Go.RowKit Base MapG
set_option linter.unusedVariables false

def RowC (W : World) (a0 : Option Addr) (k : Nat) (c : Conf) : Prop := ∃ b off, a0 = some (⟨b, off, none⟩ : Addr) ∧ b < W.heap.size ∧
  W.cell? ⟨b, off + k * 7, none⟩ = some (.int .i64 c.ps) ∧ W.cell? ⟨b, off + k * 7 + 1, none⟩ = some (.int .i64 c.np) ∧ W.cell? ⟨b, off + k * 7 + 2, none⟩ = some (.int .i64 c.fa) ∧ W.cell? ⟨b, off + k * 7 + 3, none⟩ = some (.int .i64 c.mc) ∧
  W.cell? ⟨b, off + k * 7 + 4, none⟩ = some (.int .i64 c.il) ∧ W.cell? ⟨b, off + k * 7 + 5, none⟩ = some (.int .i64 c.hot) ∧ W.cell? ⟨b, off + k * 7 + 6, none⟩ = some (.int .i64 c.warm)
/-- What the law knows of a config that is right, in the midst of its questions. -/
structure NewsAt (W w : World) (b : Nat) (L : Lay) (c : Conf) (vS : Value) : Prop where
  bel : Below W.heap.size W w
  box : Blk w b 27 c.cells
  set : SetAt w L c (new0 c.cf) (List.replicate (c.cf.ps * c.cf.np) 0)
  szs : w.ownsRow 0 3 1 vS c.nc (((List.range c.nc).map c.sz).map iv)
theorem NewsAt.drewN {W w : World} {b : Nat} {L : Lay} {c : Conf} {vS : Value} (h : NewsAt W w b L c vS) (m : Nat) : NewsAt W (w.drewN m) b L c vS :=
  ⟨below_drewN h.bel m, h.box, h.set.drewN m, own_kept h.szs fun _ _ => rfl⟩
theorem NewsAt.below {W w w' : World} {b : Nat} {L : Lay} {c : Conf} {vS : Value} (h : NewsAt W w b L c vS) (k : Below w.heap.size w w') : NewsAt W w' b L c vS :=
  ⟨h.bel.trans (k.mono h.bel.size), h.box.below k h.box.lt, h.set.kept fun b hb => k.block b (h.set.lt hb), own_kept h.szs fun b e => k.block b (own_block h.szs e)⟩
theorem quiet_more {P : Program} {f : FuncId} {args : Array Value} {w : World} {n : Nat} {v : Value}
    (h : Calls P f args (w.drewN n) fun e w' => e = .returned v ∧ ∃ m, (w.drewN n).drewN m = w') : Calls P f args (w.drewN n) fun e w'' => e = .returned v ∧ ∃ m, w'' = w.drewN m :=
  h.mono fun _ _ ⟨he, m, hm⟩ => ⟨he, n + m, by rw [← hm, World.drewN_drewN]⟩
theorem quota_new (c : Conf) (k : Nat) (hk : k < c.nc) : quotaN c.cf (new0 c.cf) (k : Int) = c.cf.np * c.cf.n k := by
  unfold quotaN
  rw [if_pos ⟨by omega, by have : c.cf.nc = c.nc := rfl; omega⟩, Int.toNat_natCast]
  show (0 + c.cf.np) * _ = _
  rw [Nat.zero_add]
set_option maxRecDepth 100000 in
set_option maxHeartbeats 3200000 in
theorem newsC (W : World) (a0 : Option Addr) (cap : Nat) (l : List Conf) (hP : ∀ k (hk : k < l.length), RowC W a0 k l[k]) (hl : l.length ≤ maxLen) :
    Calls Try.prog 4 #[.slice a0 l.length cap] W fun e w' => e = .returned (.bool true) ∧ Below W.heap.size W w' := by
  have WC := Lib.hid wakesC
  have HC := Lib.hid heavyC
  have NC := Lib.hid newC
  have CC := Lib.hid configC
  have RC := Lib.hid refusedC
  have SC := Lib.hid refSizesC
  have n1 := Lib.hid numC
  have HP := Lib.hid hP
  obtain ⟨N, hN⟩ : ∃ N, N = W.heap.size := ⟨_, rfl⟩
  rw [← hN]
  have hN' := Lib.hid hN
  clear hP hN
  unfold maxLen at hl
  go_enter Try.func4, Try.ntmps4
  go_wp2
  go_loopw [3] (fun v wr => ∃ k : Nat, v = .int .i64 (k : Int) ∧ k ≤ l.length ∧ Hid (Below N W wr)) (fun v _ => l.length - (intOf v).toNat)
  case atStart => exact ⟨0, rfl, Nat.zero_le _, Lib.hid (Below.refl _ _)⟩
  case round =>
    obtain ⟨k, rfl, hk, hb⟩ := hrel
    by_cases hlt : k < l.length ∧ k < 40
    · obtain ⟨hk1, hk2⟩ := hlt
      have d1 : decide ((k : Int) < (l.length : Int)) = true := by simp; omega
      have d1' : decide (k < l.length) = true := by simp; omega
      have d2 : decide ((k : Int) < 40) = true := by simp; omega
      have q1 : IntKind.i64.wrap ((k : Int) + 1) = (k : Int) + 1 := IntWalk.i64_in _ (by omega)
      have k0 : (0 : Int) ≤ (k : Int) := by omega
      have k1 : (k : Int) < (l.length : Int) := by omega
      obtain ⟨b, off, rfl, hbl, x0, x1, x2, x3, x4, x5, x6⟩ := HP.out k hk1
      have hbN : b < N := by rw [hN'.out]; exact hbl
      replace x0 := (hb.out.cell (p := ⟨b, off + k * 7, none⟩) hbN).trans x0
      replace x1 := (hb.out.cell (p := ⟨b, off + k * 7 + 1, none⟩) hbN).trans x1
      replace x2 := (hb.out.cell (p := ⟨b, off + k * 7 + 2, none⟩) hbN).trans x2
      replace x3 := (hb.out.cell (p := ⟨b, off + k * 7 + 3, none⟩) hbN).trans x3
      replace x4 := (hb.out.cell (p := ⟨b, off + k * 7 + 4, none⟩) hbN).trans x4
      replace x5 := (hb.out.cell (p := ⟨b, off + k * 7 + 5, none⟩) hbN).trans x5
      replace x6 := (hb.out.cell (p := ⟨b, off + k * 7 + 6, none⟩) hbN).trans x6
      generalize l[k] = c at *
      have hNs : N ≤ wr.heap.size := by have := hb.out.size; have := hN'.out; omega
      obtain ⟨w1, hw1⟩ : ∃ w1, w1 = wr.alloc (.cells c.cells 27) := ⟨_, rfl⟩
      have B1 : Blk w1 wr.heap.size 27 c.cells := by rw [hw1]; exact Blk.new wr _ _
      have b1 : Below N W w1 := by rw [hw1]; exact hb.out.alloc hNs _
      unfold Conf.cells at hw1
      replace hw1 := Lib.hid hw1
      replace B1 := Lib.hid B1
      replace b1 := Lib.hid b1
      clear HP
      go_upto_region 5 with fail
      rw [← hw1.out]
      obtain ⟨y0, y1, y2, y3, y4, y5, y6⟩ := conf_cells B1.out
      have hs1 : wr.heap.size < w1.heap.size := B1.out.lt
      have H1 := HC.out w1 c
      unfold Conf.cells at H1
      replace H1 := Lib.hid H1
      clear x0 x1 x2 x3 x4 x5 x6 hw1
      go_wp2_with fail
      refine H1.out.mono ?_
      rintro e w2 ⟨rfl, b2⟩
      have B2 := B1.out.below b2 hs1
      have bb2 := Lib.hid (b1.out.trans (b2.mono (show N ≤ w1.heap.size by omega)))
      have hs2 := b2.size
      clear H1 B1 b1 b2 y0 y1 y2 y3 y4 y5 y6 hb
      by_cases hh : heavyB c = true
      · rw [hh]
        clear B2 hh hs1 hs2
        go_wp2
        go_roundw
        case rel => exact ⟨k + 1, by simp, by omega, bb2⟩
        case measure => simp [intOf] <;> omega
      have hh' : heavyB c = false := by simpa using hh
      rw [hh']
      clear hh hh'
      obtain ⟨y0, y1, y2, y3, y4, y5, y6⟩ := conf_cells B2
      have N2 := NC.out w2 c
      unfold Conf.cells at N2
      replace N2 := Lib.hid N2
      replace B2 := Lib.hid B2
      go_wp2_with fail
      refine N2.out.mono ?_
      rintro e w3 ⟨b3, hcase⟩
      have hs3 := b3.size
      have B3 := B2.out.below b3 (by omega)
      have bb3 := Lib.hid (bb2.out.trans (b3.mono (show N ≤ w2.heap.size by omega)))
      clear N2 B2 bb2 b3 y0 y1 y2 y3 y4 y5 y6
      obtain ⟨y0, y1, y2, y3, y4, y5, y6⟩ := conf_cells B3
      have C3 := CC.out c w3
      have R3 := fun w => RC.out c w
      unfold Conf.cells Conf.rcells at C3
      unfold Conf.rcells at R3
      replace C3 := Lib.hid C3
      replace B3 := Lib.hid B3
      rcases hcase with ⟨hr, rfl⟩ | ⟨hr, L, rfl, M, F⟩
      · rcases refN_three hr with e | e | e
        all_goals
         rw [e] at R3 ⊢
         replace R3 := Lib.hid R3
         clear e hr
         go_wp2_with fail
         refine C3.out.mono ?_
         rintro e w4 ⟨rfl, b4⟩
         have hs4 := b4.size
         have bb4 := Lib.hid (bb3.out.trans (b4.mono (show N ≤ w3.heap.size by omega)))
         clear C3 B3 bb3 b4 y0 y1 y2 y3 y4 y5 y6
         go_wp2_with fail
         refine (R3.out _).mono ?_
         rintro e w5 ⟨rfl, b5⟩
         have bb5 := Lib.hid (bb4.out.trans (b5.mono (show N ≤ w4.heap.size by omega)))
         clear R3 bb4 b5
         go_wp2_with (first | (go_at_call 11; refine (n1.out _ _).mono ?_; rintro e w' ⟨rfl, rfl⟩) | fail)
         go_roundw
         case rel => exact ⟨k + 1, by simp, by omega, bb5⟩
         case measure => simp [intOf] <;> omega
      rw [hr] at R3
      replace R3 := Lib.hid R3
      have hR := (refN_zero hr).1
      have hRh := Lib.hid hR
      replace M := Lib.hid M
      replace F := Lib.hid F
      go_wp2_with fail
      refine C3.out.mono ?_
      rintro e w4 ⟨rfl, b4⟩
      have hs4 := b4.size
      have B4 := B3.out.below b4 (by omega)
      have bb4 := Lib.hid (bb3.out.trans (b4.mono (show N ≤ w3.heap.size by omega)))
      have M4 := Lib.hid (M.out.kept fun b hb => b4.block b (M.out.lt hb))
      clear C3 B3 bb3 b4 M y0 y1 y2 y3 y4 y5 y6
      replace B4 := Lib.hid B4
      go_wp2_with fail
      refine (R3.out _).mono ?_
      rintro e w5 ⟨rfl, b5⟩
      have hs5 := b5.size
      have B5 := B4.out.below b5 (by omega)
      have bb5 := Lib.hid (bb4.out.trans (b5.mono (show N ≤ w4.heap.size by omega)))
      have M5 := Lib.hid (M4.out.kept fun b hb => b5.block b (M4.out.lt hb))
      clear R3 bb4 b5 M4 B4
      obtain ⟨y0, y1, y2, y3, y4, y5, y6⟩ := conf_cells B5
      replace B5 := Lib.hid B5
      have C5 := CC.out c w5
      unfold Conf.cells Conf.rcells at C5
      replace C5 := Lib.hid C5
      go_wp2_with (first | (go_at_call 11; refine (n1.out _ _).mono ?_; rintro e w' ⟨rfl, rfl⟩) | fail)
      refine C5.out.mono ?_
      rintro e w6 ⟨rfl, b6⟩
      have hs6 := b6.size
      have B6 := B5.out.below b6 (by omega)
      have bb6 := Lib.hid (bb5.out.trans (b6.mono (show N ≤ w5.heap.size by omega)))
      have M6 := Lib.hid (M5.out.kept fun b hb => b6.block b (M5.out.lt hb))
      clear C5 B5 bb5 b6 M5 y0 y1 y2 y3 y4 y5 y6
      have S6 := SC.out c hRh.out w6
      unfold Conf.rcells at S6
      replace S6 := Lib.hid S6
      replace B6 := Lib.hid B6
      go_wp2_with fail
      refine S6.out.mono ?_
      rintro e w7 ⟨v, rfl, own, b7⟩
      have hs7 := b7.size
      have B7 := B6.out.below b7 (by omega)
      have bb7 := Lib.hid (bb6.out.trans (b7.mono (show N ≤ w6.heap.size by omega)))
      have M7 := Lib.hid (M6.out.kept fun b hb => b7.block b (M6.out.lt hb))
      obtain ⟨AS, cS, rfl⟩ := own_is own
      replace own := Lib.hid own
      clear S6 bb6 b7 M6 B6
      obtain ⟨y0, y1, y2, y3, y4, y5, y6⟩ := conf_cells B7
      replace B7 := Lib.hid B7
      have bW : Below W.heap.size W w7 := by rw [← hN'.out]; exact bb7.out
      have own0 := own_weak own.out (Nat.zero_le _)
      have NA : NewsAt W w7 wr.heap.size L c (.slice AS c.nc cS) := ⟨bW, B7.out, M7.out, own0⟩
      have K1 := Lib.hid (classesC w7.drew L c _ _ M7.out.drew)
      have K2 := freePagesC w7.drew L c _ _ M7.out.drew
      rw [show (new0 c.cf).spare = c.cf.np from rfl, ← hR.npE] at K2
      replace K2 := Lib.hid K2
      have K3 := cfgC w7.drew L c _ _ M7.out.drew
      unfold Conf.cells at K3
      replace K3 := Lib.hid K3
      replace NA := Lib.hid NA
      replace hR := Lib.hid hR
      clear bW own0 own bb7
      go_upto_region 12 with fail
      go_cut [67] from 50 to 67 (fun s67 wx => s67 = .bool false ∧ Hid (NewsAt W wx wr.heap.size L c (.slice AS c.nc cS)))
      case first =>
        go_region_law ((go_simp; first
          | (go_at_call 18; refine K1.out.mono ?_; rintro e w' ⟨rfl, rfl⟩)
          | (go_at_call 19; refine K2.out.mono ?_; rintro e w' ⟨rfl, rfl⟩)
          | (go_at_call 20; refine K3.out.mono ?_; rintro e w8 ⟨rfl, b8⟩; obtain ⟨z0, z1, z2, z3, z4, z5, z6⟩ := conf_cells (B7.out.below ((Below.refl _ w7).drew.trans b8) (show wr.heap.size < w7.heap.size by omega)))))
        all_goals
          have NA8 := Lib.hid (NA.out.below ((Below.refl _ w7).drew.trans b8))
          clear K1 K2 K3 M7 B7 NA b8
          go_wp2_with fail
          go_meet
          exact ⟨rfl, NA8⟩
      case rest =>
        obtain ⟨rfl, NA⟩ := hcut
        have ok := (okOf hr).1
        obtain ⟨gs, cp', hsl, -, -, -⟩ := own_iv (i := 0) NA.out.szs (by rw [List.getElem?_map, List.getElem?_range (show 0 < c.nc from ok.nc)]; rfl)
        injection hsl with hA1 hA2 hA3
        subst hA1 hA3
        have hpsE := Lib.hid hR.out.psE
        have hnpE := Lib.hid hR.out.npE
        replace ok := Lib.hid ok
        clear y0 y1 y2 y3 y4 y5 y6 K1 K2 K3 M7 B7
        go_wp2_with fail
        go_loopw [9] (fun v ws => ∃ j : Nat, v = .int .i64 (j : Int) ∧ j ≤ c.nc ∧ Hid (NewsAt W ws wr.heap.size L c (.slice (some ⟨gs, 0, none⟩) c.nc cS))) (fun v _ => c.nc - (intOf v).toNat)
        case atStart => exact ⟨0, rfl, Nat.zero_le _, NA⟩
        case round =>
          obtain ⟨j, rfl, hj, NA⟩ := hrel
          by_cases hjn : j < c.nc
          · have e1 : decide ((j : Int) < (c.nc : Int)) = true := by simp; omega
            have j0 : (0 : Int) ≤ (j : Int) := by omega
            have j1 : (j : Int) < (c.nc : Int) := by omega
            have hnc : c.nc ≤ 62 := ok.out.ncb
            have q2 : IntKind.i64.wrap ((j : Int) + 1) = (j : Int) + 1 := IntWalk.i64_in _ (by omega)
            obtain ⟨y0, y1, y2, y3, y4, y5, y6⟩ := conf_cells NA.out.box
            obtain ⟨g', cp', hsl, cz, -, -⟩ := own_iv (i := j) (x := c.sz j) NA.out.szs (by rw [List.getElem?_map, List.getElem?_range hjn]; rfl)
            injection hsl with hA1
            injection hA1 with hA1
            injection hA1 with hA1
            subst hA1
            have bsz := (ok.out.sz j hjn).1
            have bn := n_pos ok.out hjn
            have bnp := ok.out.npb
            have z0 : ¬ (c.sz j : Int) = 0 := by have : 64 ≤ c.sz j := bsz; omega
            have q3 : (c.ps).tdiv (c.sz j : Int) = (c.cf.n j : Int) := by rw [hpsE.out]; exact tdivN _ _
            have q4 : IntKind.i64.wrap (c.cf.n j : Int) = (c.cf.n j : Int) := IntWalk.i64_in _ (by omega)
            obtain ⟨V, hV⟩ : ∃ V, V = c.cf.np * c.cf.n j := ⟨_, rfl⟩
            have hVb : V ≤ 1024 * 16384 := by rw [hV]; exact Nat.mul_le_mul bnp bn.2
            have q5 : IntKind.i64.wrap (c.np * (c.cf.n j : Int)) = (V : Int) := by rw [hnpE.out, ← Int.natCast_mul, ← hV]; exact IntWalk.i64_in _ (by omega)
            have K1 := fun m => chunkSizeC (wr.drewN m) L c _ _ (NA.out.set.drewN m) (j : Int)
            rw [if_pos ⟨j0, j1⟩, Int.toNat_natCast] at K1
            have K2 := fun m => quotaC (wr.drewN m) L c _ _ (NA.out.set.drewN m) new0_good (j : Int)
            rw [quota_new c j hjn, ← hV] at K2
            replace K1 := Lib.hid K1
            replace K2 := Lib.hid K2
            replace hV := Lib.hid hV
            clear y2 y3 y4 y5 y6 bsz bn bnp
            go_upto_region 17 with fail
            go_quiet ((first
              | (go_at_call 21; with_reducible exact quiet_left (K1.out _))
              | (go_at_call 22; with_reducible exact quiet_more (K2.out _))))
            have NA' := Lib.hid (NA.out.drewN nq)
            clear K1 K2 y0 y1 cz
            go_wp2
            go_roundw
            case rel => exact ⟨j + 1, by simp, by omega, NA'⟩
            case measure => simp [intOf] <;> omega
          · obtain rfl : j = c.nc := by omega
            have e1 : decide ((c.nc : Int) < (c.nc : Int)) = false := by simp
            have bbf : Hid (Below N W wr) := by rw [hN'.out]; exact Lib.hid NA.out.bel
            clear NA
            go_wp2
            go_roundw
            case rel => exact ⟨k + 1, by simp, by omega, bbf⟩
            case measure => simp [intOf] <;> omega
    · have d1 : decide ((k : Int) < (l.length : Int)) = true ∧ decide (k < l.length) = true ∧ decide ((k : Int) < 40) = false ∨ decide ((k : Int) < (l.length : Int)) = false ∧ decide (k < l.length) = false := by
        by_cases hk1 : k < l.length
        · have : ¬ k < 40 := fun h => hlt ⟨hk1, h⟩
          exact .inl ⟨by simp; omega, by simp; omega, by simp; omega⟩
        · exact .inr ⟨by simp; omega, by simp; omega⟩
      rcases d1 with ⟨d1, d1', d2⟩ | ⟨d1, d1'⟩
      all_goals
        clear HP HC NC CC RC SC n1
        go_wp2_with fail
        refine (WC.out _).mono ?_
        rintro e w9 ⟨rfl, b9⟩
        have bf := Lib.hid (hb.out.trans (b9.mono (show N ≤ wr.heap.size by have := hb.out.size; have := hN'.out; omega)))
        go_wp2
        go_ret
        exact ⟨rfl, bf.out⟩
end Go.Proofs.Ytgodinapdahocaa.Cls
