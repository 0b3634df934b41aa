/-
  The walk of the law ClassFills.
-/
import Derived.Test.YtgodinapdahocaaClassFillPlain2
import Derived.Test.YtgodinapdahocaaClassAsk
import Derived.Test.YtgodinapdahocaaClassSet
import Derived.Test.YtgodinapdahocaaClassWakes
namespace Go.Proofs.Ytgodinapdahocaa.Cls
open Go.RowKit Base MapG
set_option linter.unusedVariables false

theorem eiH : EI Try.prog 48 50 (.int .u64 0) 1 8 := EI.mk' Try.underlying48 (by kernel_rfl) rfl (by decide)
theorem tmod_emod' (i n : Int) : i.tmod n % n = i % n := by
  have h := Int.tmod_add_mul_tdiv i n
  conv => rhs; rw [← h]
  rw [Int.add_mul_emod_self_left]
theorem withinC (i : Int) (n : Nat) (hi : In i) (hn : 1 ≤ n) (hn2 : n ≤ 1073741824) (w : World) :
    Calls Try.prog 25 #[.int .i64 i, .int .i64 (n : Int)] w fun e w' => e = .returned (.int .i64 (((i % (n : Int)).toNat : Nat) : Int)) ∧ w = w' := by
  obtain ⟨h1, h2⟩ := hi
  have t1 := Int.tmod_lt_of_pos i (show 0 < (n : Int) by omega)
  have t2 := Int.lt_tmod_of_pos i (show 0 < (n : Int) by omega)
  have t3 := Int.emod_nonneg (i.tmod n) (show (n : Int) ≠ 0 by omega)
  have t4 := Int.emod_lt_of_pos (i.tmod n) (show 0 < (n : Int) by omega)
  have he := Lib.hid (show (i.tmod n + n) % n = i % n by have := Int.add_mul_emod_self_left (i.tmod n) n 1; rw [Int.mul_one] at this; rw [this]; exact tmod_emod' i n)
  have hz : (n : Int) ≠ 0 := by omega
  have h0 := Int.emod_nonneg i (show (n : Int) ≠ 0 by omega)
  rw [Int.toNat_of_nonneg h0]
  clear h0
  go_enter Try.func25, Try.ntmps25
  go_wp2
  go_ret
  exact ⟨by rw [← he.out]; rfl, rfl⟩
theorem within_lt (i : Int) {n : Nat} (hn : 1 ≤ n) : (i % (n : Int)).toNat < n := by
  have h0 := Int.emod_nonneg i (show (n : Int) ≠ 0 by omega)
  have h1 := Int.emod_lt_of_pos i (show 0 < (n : Int) by omega)
  omega
theorem own_at {w : World} {N n i : Nat} {e : TypeId} {v x : Value} {l : List Value} (h : w.ownsRow N e 1 v n l) (hx : l[i]? = some x) : ∃ g c, v = .slice (some ⟨g, 0, none⟩) n c ∧ w.cell? ⟨g, i, none⟩ = some x := by
  have hl := h.1
  have hi : i < l.length := (List.getElem?_eq_some_iff.1 hx).1
  rcases h.2 with ⟨rfl, h0⟩ | ⟨g, cap, cur, rfl, hB, hg, h1, h2, h3, h4⟩
  · omega
  · refine ⟨g, cap, rfl, ?_⟩
    rw [cell_of_row w g i cur _ (0, 0) hg]
    rw [← h4, List.getElem?_take] at hx
    split at hx
    · simpa using hx
    · cases hx
def hv0 (d : Cf) (k j : Nat) : Value := .int .u64 (hnd (placeN d k j) 0 : Int)
/-- In the midst of the filling. -/
structure FillAt (N : Nat) (W w : World) (L : Lay) (c : Conf) (k t : Nat) (s : St) (bs : List UInt8) (v : Value) : Prop where
  bel : Below N W w
  sz : N ≤ w.heap.size
  set : SetAt w L c s bs
  fl : Fl c.cf k t t s
  row : w.ownsRow N 50 1 v t ((List.range t).map (hv0 c.cf k))
  away : ∀ b, v.ownBlock = some b → ¬ Foot L c s b
  foot : ∀ b, Foot L c s b → N ≤ b
theorem FillAt.drewN {N : Nat} {W w : World} {L : Lay} {c : Conf} {k t : Nat} {s : St} {bs : List UInt8} {v : Value} (h : FillAt N W w L c k t s bs v) (m : Nat) : FillAt N W (w.drewN m) L c k t s bs v :=
  ⟨below_drewN h.bel m, h.sz, h.set.drewN m, h.fl, own_kept h.row fun _ _ => rfl, h.away, h.foot⟩
def lastN (d : Cf) (k : Nat) : Nat → Int
  | 0 => -1
  | t + 1 => placeN d k t
theorem lastN_lt {d : Cf} (ok : d.Ok) {k : Nat} (hk : k < d.nc) : ∀ t, lastN d k t < (placeN d k t : Int)
  | 0 => by show (-1 : Int) < ((placeN d k 0 : Nat) : Int); omega
  | t + 1 => by
    have := placeN_lt ok hk (show t < t + 1 from Nat.lt_succ_self t)
    show ((placeN d k t : Nat) : Int) < ((placeN d k (t + 1) : Nat) : Int)
    omega
set_option maxRecDepth 100000 in
set_option maxHeartbeats 3200000 in
theorem fillsC (W : World) (c : Conf) (which back : Int) (hw : In which) (hbk : In back) :
    Calls Try.prog 6 #[.agg c.cells, .int .i64 which, .int .i64 back] W fun e w' => e = .returned (.bool true) ∧ Below W.heap.size W w' := by
  have WC := Lib.hid wakesC
  have n1 := Lib.hid numC
  obtain ⟨w1, hw1⟩ : ∃ w1, w1 = W.alloc (.cells c.cells 27) := ⟨_, rfl⟩
  have B1 : Blk w1 W.heap.size 27 c.cells := by rw [hw1]; exact Blk.new W _ _
  have b1 : Below W.heap.size W w1 := by rw [hw1]; exact (Below.refl _ _).alloc (Nat.le_refl _) _
  have s1 : w1.heap.size = W.heap.size + 1 := by rw [hw1]; exact World.size_alloc _ _
  obtain ⟨x0, x1, x2, x3, x4, x5, x6⟩ := conf_cells B1
  have G1 := goodC w1 c
  unfold Conf.cells at G1 hw1 ⊢
  replace G1 := Lib.hid G1
  replace hw1 := Lib.hid hw1
  replace B1 := Lib.hid B1
  obtain ⟨N, hN⟩ : ∃ N, W.heap.size = N := ⟨_, rfl⟩
  rw [hN] at x0 x1 x2 x3 x4 x5 x6 b1 B1 s1 ⊢
  replace hN := Lib.hid hN
  replace hw := Lib.hid hw
  replace hbk := Lib.hid hbk
  go_enter Try.func6, Try.ntmps6
  go_upto_region 1 with fail
  rw [hN.out, ← hw1.out]
  go_wp2_with fail
  refine G1.out.mono ?_
  rintro e w2 ⟨b2, ⟨h0, rfl⟩ | ⟨-, hr, L, rfl, M, F⟩⟩
  · have bb2 := Lib.hid (b1.trans (b2.mono (show N ≤ w1.heap.size by omega)))
    have hs := b2.size
    clear G1 B1 b1 b2 x0 x1 x2 x3 x4 x5 x6 hw1
    go_wp2_with (first | (go_at_call 12; refine (WC.out _).mono ?_; rintro e w9 ⟨rfl, b9⟩; replace b9 := Lib.hid b9) | fail)
    go_ret
    exact ⟨rfl, bb2.out.trans (b9.out.mono (by omega))⟩
  have ok := (okOf hr).1
  have hnc : 1 ≤ c.nc := ok.nc
  have hnc2 : c.nc ≤ 62 := ok.ncb
  have hs2 := b2.size
  have bb2 : Below N W w2 := b1.trans (b2.mono (show N ≤ w1.heap.size by omega))
  have C2 := Lib.hid (classesC w2 L c _ _ M)
  have WI := Lib.hid (withinC which c.nc hw.out hnc (by omega))
  have hk := within_lt which hnc
  generalize (which % (c.nc : Int)).toNat = k at *
  have hkd : k < c.cf.nc := hk
  have Q2 := quotaC w2 L c _ _ M new0_good (k : Int)
  have eQ : quotaN c.cf (new0 c.cf) (k : Int) = c.cf.np * c.cf.n k := by
    unfold quotaN
    rw [if_pos ⟨by omega, by omega⟩, Int.toNat_natCast]
    show (0 + c.cf.np) * _ = _
    rw [Nat.zero_add]
  rw [eQ] at Q2
  obtain ⟨Q, hQ⟩ : ∃ Q, Q = c.cf.np * c.cf.n k := ⟨_, rfl⟩
  rw [← hQ] at Q2
  have hQ1 : 1 ≤ Q := by rw [hQ]; exact Nat.mul_pos (by have := ok.np; omega) (by have := (n_pos ok hkd).1; omega)
  have hQb : Q ≤ 1024 * 16384 := by rw [hQ]; exact Nat.mul_le_mul ok.npb (n_pos ok hkd).2
  replace Q2 := Lib.hid Q2
  clear G1 B1 b1 b2 x0 x1 x2 x3 x4 x5 x6 hw1 eQ
  go_wp2_with fail
  refine C2.out.mono ?_
  rintro e w' ⟨rfl, rfl⟩
  go_wp2_with fail
  refine (WI.out _).mono ?_
  rintro e w' ⟨rfl, rfl⟩
  go_wp2_with fail
  refine Q2.out.mono ?_
  rintro e w3 ⟨rfl, m3, hw3⟩
  have FA : FillAt N W w3 L c k 0 (new0 c.cf) (List.replicate (c.cf.ps * c.cf.np) 0) (.slice none 0 0) := by
    rw [← hw3]
    exact ⟨below_drewN bb2 m3, by have : w2.heap.size = (w2.drewN m3).heap.size := rfl; omega, M.drewN m3, fl_new _ _, own_nil _ _ _, fun b e => (by cases e), fun b hb => by have := F b hb; omega⟩
  replace FA := Lib.hid FA
  replace hw3 := Lib.hid hw3
  replace ok := Lib.hid ok
  replace hQ := Lib.hid hQ
  clear C2 WI Q2 M F bb2 hr
  by_cases hbig : 3000 < Q
  · have d1 : decide (3000 < (Q : Int)) = true := decide_eq_true (by omega)
    have d1' : decide (3000 < Q) = true := decide_eq_true (by omega)
    go_wp2_with fail
    refine (WC.out _).mono ?_
    rintro e w9 ⟨rfl, b9⟩
    have bf := Lib.hid (FA.out.bel.trans (b9.mono FA.out.sz))
    go_wp2
    go_ret
    exact ⟨rfl, bf.out⟩
  have d1 : decide (3000 < (Q : Int)) = false := decide_eq_false (by omega)
  have d1' : decide (3000 < Q) = false := decide_eq_false (by omega)
  go_wp2_with fail
  go_loopw [11, 12, 13] (fun va vl vi wr => ∃ (t : Nat) (A : Option Addr) (cp : Nat) (L1 : Lay) (s : St) (bs : List UInt8), vi = .int .i64 (t : Int) ∧ va = .slice A t cp ∧ vl = .int .i64 (lastN c.cf k t) ∧ t ≤ Q ∧ Hid (L1.g = L.g) ∧
    Hid (FillAt N W wr L1 c k t s bs (.slice A t cp))) (fun _ _ vi _ => Q - (intOf vi).toNat)
  case atStart => exact ⟨0, none, 0, L, _, _, rfl, rfl, rfl, Nat.zero_le _, Lib.hid rfl, FA⟩
  case round =>
    obtain ⟨t, A, cp, L1, s, bs, rfl, rfl, rfl, ht, hLg, FR⟩ := hrel
    clear FA
    by_cases htq : t < Q
    · have e1 : decide ((t : Int) < (Q : Int)) = true := decide_eq_true (by omega)
      have q1 : IntKind.i64.wrap ((t : Int) + 1) = (t : Int) + 1 := IntWalk.i64_in _ (by omega)
      have htq' : t < c.cf.np * c.cf.n k := by rw [← hQ.out]; exact htq
      obtain ⟨s1, hroom, f1⟩ := FR.out.fl.room ok.out hkd htq'
      obtain ⟨l, hl, f2⟩ := f1.take ok.out hkd htq'
      have T := takeYes wr L1 c s bs FR.out.set FR.out.fl.good k hk s1 hroom l (placeN c.cf k t) hl
      rw [f1.gens, hLg.out] at T
      obtain ⟨bs2, hbs2⟩ : ∃ b, b = takeB bs (placeN c.cf k t) 0 := ⟨_, rfl⟩
      rw [← hbs2] at T
      replace hbs2 := Lib.hid hbs2
      have hps := placeN_small ok.out hkd htq'
      have hlast := lastN_lt ok.out hkd t
      obtain ⟨fd, fi, fo, fc, -, -⟩ := f2.find ok.out hkd (Nat.lt_succ_self t) (Nat.le_refl _) htq'
      obtain ⟨s2, hs2⟩ : ∃ s2, s2 = takeS c.cf s1 k (placeN c.cf k t) := ⟨_, rfl⟩
      rw [← hs2] at T f2 fd fo fc
      obtain ⟨Hh, hHh⟩ : ∃ Hh, Hh = hnd (placeN c.cf k t) 0 := ⟨_, rfl⟩
      rw [← hHh] at T fd
      have hHb : Hh < 18446744073709551616 := by rw [hHh]; unfold hnd; omega
      have hlastS : lastN c.cf k (t + 1) = (placeN c.cf k t : Int) := rfl
      generalize hPe : placeN c.cf k t = P at *
      replace hPe := Lib.hid hPe
      generalize lastN c.cf k t = Lt at *
      have e2 : decide ((P : Int) ≤ Lt) = false := decide_eq_false (by omega)
      replace T := Lib.hid T
      replace f2 := Lib.hid f2
      replace fd := Lib.hid fd
      replace hHh := Lib.hid hHh
      replace hlastS := Lib.hid hlastS
      replace hs2 := Lib.hid hs2
      clear hroom f1 hl hlast hps fi fo
      go_wp2_with fail
      refine T.out.mono ?_
      rintro e w4 ⟨rfl, L2, e2g, H2, W2⟩
      have AC := atC w4 L2 c s2 _ H2 f2.out.good Hh hHb
      rw [fd.out] at AC
      unfold atV at AC
      simp only at AC
      rw [fc, e2g] at AC
      obtain ⟨bb4, F4, hs4⟩ := W2.below FR.out.foot FR.out.sz
      have own4 := kept_row W2.only FR.out.row FR.out.away
      have aw4 : ∀ b, (Value.slice A t cp).ownBlock = some b → ¬ Foot L2 c s2 b := fun b e hf => (W2.foot b hf).elim (FR.out.away b e) fun h => by have := own_block FR.out.row e; omega
      have bel4 := FR.out.bel.trans bb4
      have e2g' := Lib.hid e2g
      replace AC := Lib.hid AC
      replace H2 := Lib.hid H2
      replace own4 := Lib.hid own4
      replace aw4 := Lib.hid aw4
      replace bel4 := Lib.hid bel4
      replace F4 := Lib.hid F4
      clear T W2 bb4 FR e2g fc fd
      go_wp2_with fail
      refine AC.out.mono ?_
      rintro e w5 ⟨rfl, m5, hw5⟩
      have H5 : SetAt w5 L2 c s2 bs2 := by rw [← hw5]; exact H2.out.drewN m5
      have own5 : w5.ownsRow N 50 1 (.slice A t cp) t ((List.range t).map (hv0 c.cf k)) := by rw [← hw5]; exact own_kept own4.out fun _ _ => rfl
      have bel5 : Below N W w5 := by rw [← hw5]; exact below_drewN bel4.out m5
      have hs5 : N ≤ w5.heap.size := by rw [← hw5]; exact hs4
      replace hw5 := Lib.hid hw5
      replace H5 := Lib.hid H5
      replace bel5 := Lib.hid bel5
      clear AC H2 own4 bel4
      go_wp2_with (first | (go_at_call 11; refine (n1.out _ _).mono ?_; rintro e w' ⟨rfl, rfl⟩) | (at_builtin; refine wpList_app rfl _ _ _ rfl eiH N _ _ _ rfl (own5.alloc _) (w5.heap.size + 1) (some ⟨w5.heap.size, 0, none⟩) 1 1 [.int .u64 (Hh : Int)] rfl ?c1 ?c2 ?c3 ?c4 ?c5 ?_))
      case c1 => exact reads_v w5 _ _
      case c2 => intro u hu; rw [List.mem_singleton] at hu; subst hu; rfl
      case c3 => unfold maxLen; omega
      case c4 => omega
      case c5 => rw [World.size_alloc]; omega
      intro VV w6 own6 hg6 hat6
      obtain ⟨A6, cp6, rfl⟩ := own_is own6
      have o6 : Only (fun k => (Value.slice A t cp).ownBlock = some k) w5 w6 := ((Only.refl _ w5).alloc _).grown hg6 (fun k e _ => e)
      have H6 : SetAt w6 L2 c s2 bs2 := H5.out.only o6 fun b hb e => aw4.out b e hb
      have bel6 : Below N W w6 := (bel5.out.alloc hs5 _).grown hg6 (by rw [World.size_alloc]; omega) (fun j e => own_base own5 e)
      have hs6 : N ≤ w6.heap.size := Nat.le_trans hs5 o6.size
      have aw6 : ∀ b, (Value.slice A6 (t + 1) cp6).ownBlock = some b → ¬ Foot L2 c s2 b := fun b e hf => by
        rcases hat6 with h6 | h6
        · exact aw4.out b (h6 ▸ e) hf
        · rw [h6] at e
          injection e with e
          have := H5.out.lt hf
          have hsz : (w5.alloc (.cells #[.int .u64 (Hh : Int)] 50)).heap.size = w5.heap.size + 1 := World.size_alloc _ _
          omega
      have row6 : w6.ownsRow N 50 1 (.slice A6 (t + 1) cp6) (t + 1) ((List.range (t + 1)).map (hv0 c.cf k)) := by
        rw [List.range_succ, List.map_append]
        have : List.map (hv0 c.cf k) [t] = [.int .u64 (Hh : Int)] := by
          show [Value.int .u64 ((hnd (placeN c.cf k t) 0 : Nat) : Int)] = _
          rw [hPe.out, hHh.out]
        rw [this]
        exact own6
      have F6 : Hid (FillAt N W w6 L2 c k (t + 1) s2 bs2 (.slice A6 (t + 1) cp6)) := Lib.hid ⟨bel6, hs6, H6, f2.out, row6, aw6, F4.out⟩
      rw [← hlastS.out]
      clear own6 hg6 hat6 o6 H6 bel6 aw6 row6 own5 H5 bel5 aw4 F4
      go_wp2
      go_roundw
      case rel => exact ⟨t + 1, A6, cp6, L2, s2, bs2, by simp, rfl, rfl, by omega, e2g', F6⟩
      case measure => simp [intOf] <;> omega
    · obtain rfl : Q = t := by omega
      have e1 : decide ((Q : Int) < (Q : Int)) = false := by simp
      have fl := FR.out.fl
      rw [hQ.out] at fl
      obtain ⟨hfr, hown, hroomN, hsp, hrsk, hrs⟩ := fl.full ok.out hkd
      have qk : quotaN c.cf s (k : Int) = Q := by
        unfold quotaN
        rw [if_pos ⟨by omega, by omega⟩, Int.toNat_natCast, hrsk, hsp, hQ.out, Nat.add_zero]
      have qo : ∀ j, j < c.nc → j ≠ k → quotaN c.cf s (j : Int) = 0 := fun j hj hne => by
        unfold quotaN
        rw [if_pos ⟨by omega, by have : c.cf.nc = c.nc := rfl; omega⟩, Int.toNat_natCast, hrs j hj hne, hsp, Nat.zero_add, Nat.zero_mul]
      replace fl := Lib.hid fl
      replace hroomN := Lib.hid hroomN
      replace qk := Lib.hid qk
      replace qo := Lib.hid qo
      clear hfr hown hsp hrsk hrs
      go_wp2_with fail
      clear e1
      go_loopw [19] (fun v ws => ∃ j : Nat, v = .int .i64 (j : Int) ∧ j ≤ c.nc ∧ Hid (FillAt N W ws L1 c k Q s bs (.slice A Q cp))) (fun v _ => c.nc - (intOf v).toNat)
      case atStart => exact ⟨0, rfl, Nat.zero_le _, FR⟩
      case round =>
        obtain ⟨j, rfl, hj, FR⟩ := hrel
        have C1 := classesC wr L1 c _ _ FR.out.set
        rw [hLg.out] at C1
        replace C1 := Lib.hid C1
        by_cases hjn : j < c.nc
        · have e1 : decide ((j : Int) < (c.nc : Int)) = true := decide_eq_true (by omega)
          have q1 : IntKind.i64.wrap ((j : Int) + 1) = (j : Int) + 1 := IntWalk.i64_in _ (by omega)
          have TN := takeNo wr L1 c s bs FR.out.set j hjn (hroomN.out j)
          have QC := quotaC wr L1 c s bs FR.out.set FR.out.fl.good (j : Int)
          rw [hLg.out] at TN QC
          replace TN := Lib.hid TN
          by_cases hjk : j = k
          · subst hjk
            rw [qk.out] at QC
            replace QC := Lib.hid QC
            have e2 : decide (0 < (Q : Int)) = true := decide_eq_true (by omega)
            have e2' : decide (0 < Q) = true := decide_eq_true (by omega)
            go_wp2_with fail
            refine C1.out.mono ?_
            rintro e w' ⟨rfl, rfl⟩
            go_wp2_with fail
            refine TN.out.mono ?_
            rintro e w' ⟨rfl, rfl⟩
            go_wp2_with (first | (go_at_call 11; refine (n1.out _ _).mono ?_; rintro e w' ⟨rfl, rfl⟩) | fail)
            refine QC.out.mono ?_
            rintro e w5 ⟨rfl, m5, hw5⟩
            have F5 := Lib.hid (FR.out.drewN m5)
            rw [hw5] at F5
            clear hw5 FR C1 TN QC
            go_wp2
            go_roundw
            case rel => exact ⟨j + 1, by simp, by omega, F5⟩
            case measure => simp [intOf] <;> omega
          · rw [qo.out j hjn hjk, show ((0 : Nat) : Int) = 0 from rfl] at QC
            replace QC := Lib.hid QC
            go_wp2_with fail
            refine C1.out.mono ?_
            rintro e w' ⟨rfl, rfl⟩
            go_wp2_with fail
            refine TN.out.mono ?_
            rintro e w' ⟨rfl, rfl⟩
            go_wp2_with (first | (go_at_call 11; refine (n1.out _ _).mono ?_; rintro e w' ⟨rfl, rfl⟩) | fail)
            refine QC.out.mono ?_
            rintro e w5 ⟨rfl, m5, hw5⟩
            have F5 := Lib.hid (FR.out.drewN m5)
            rw [hw5] at F5
            clear hw5 FR C1 TN QC
            go_wp2
            go_roundw
            case rel => exact ⟨j + 1, by simp, by omega, F5⟩
            case measure => simp [intOf] <;> omega
        · obtain rfl : c.nc = j := by omega
          have e1 : decide ((c.nc : Int) < (c.nc : Int)) = false := by simp
          clear qk qo hroomN
          have WI := Lib.hid (withinC back Q hbk.out hQ1 (by omega))
          have hb := within_lt back hQ1
          generalize (back % (Q : Int)).toNat = b at *
          have hb' : b < c.cf.np * c.cf.n k := by rw [← hQ.out]; exact hb
          obtain ⟨ga, cp', hsl, ca⟩ := own_at (i := b) (x := hv0 c.cf k b) FR.out.row (by rw [List.getElem?_map, List.getElem?_range hb]; rfl)
          injection hsl with hA1 hA2 hA3
          subst hA1 hA3
          have b0 : (0 : Int) ≤ (b : Int) := by omega
          have b1 : (b : Int) < (Q : Int) := by omega
          obtain ⟨fd, fi, fo, fc, fx, ft⟩ := FR.out.fl.find ok.out hkd hb (Nat.le_refl _) hb'
          obtain ⟨i, hi⟩ : ∃ i, i = b / c.cf.n k := ⟨_, rfl⟩
          obtain ⟨x, hx⟩ : ∃ x, x = b % c.cf.n k := ⟨_, rfl⟩
          obtain ⟨g1, g2, g3, g4, g5, g6, g7, g8, g9⟩ := fl.out.again ok.out hkd hb' hi hx
          rw [← hi, ← hx] at fd
          rw [← hi] at fc
          have hps := placeN_small ok.out hkd hb'
          have hn1 := hnd_next (placeN c.cf k b) 0
          have hcell : hv0 c.cf k b = .int .u64 (hnd (placeN c.cf k b) 0 : Int) := rfl
          rw [hcell] at ca
          have hH0 : hnd (placeN c.cf k b) 0 < 4294967296 := by unfold hnd; omega
          rw [show (0 + 1 : Nat) = 1 from rfl] at hn1
          generalize hHh : hnd (placeN c.cf k b) 0 = Hh at *
          generalize hPe : placeN c.cf k b = P at *
          rw [← hQ.out] at g8
          have T0 := atC wr L1 c s bs FR.out.set FR.out.fl.good Hh (by omega)
          rw [fd] at T0
          unfold atV at T0
          simp only at T0
          rw [fc, hLg.out] at T0
          replace T0 := Lib.hid T0
          replace hi := Lib.hid hi
          replace hx := Lib.hid hx
          replace hHh := Lib.hid hHh
          replace hPe := Lib.hid hPe
          replace hcell := Lib.hid hcell
          have g1 := Lib.hid g1
          have g5 := Lib.hid g5
          replace fd := Lib.hid fd
          replace fl := Lib.hid fl
          rw [hn1] at g6
          have hn1' := hn1
          replace hn1 := Lib.hid hn1
          replace g6 := Lib.hid g6
          have u1 : IntKind.u64.wrap ((Hh : Int) + 4294967296) = (Hh : Int) + 4294967296 := IntWalk.u64_in _ (by omega)
          have bel := FR.out.bel
          have sz := FR.out.sz
          have foot := Lib.hid FR.out.foot
          have set := Lib.hid FR.out.set
          have good := Lib.hid FR.out.fl.good
          replace bel := Lib.hid bel
          clear FR
          go_wp2_with fail
          refine C1.out.mono ?_
          rintro e w' ⟨rfl, rfl⟩
          go_wp2_with fail
          refine (WI.out _).mono ?_
          rintro e w' ⟨rfl, rfl⟩
          go_wp2_with fail
          refine T0.out.mono ?_
          rintro e w5 ⟨rfl, m5, hw5⟩
          have H5 : SetAt w5 L1 c s bs := by rw [← hw5]; exact set.out.drewN m5
          have bel5 : Below N W w5 := by rw [← hw5]; exact below_drewN bel.out m5
          have sz5 : N ≤ w5.heap.size := by rw [← hw5]; exact sz
          have T1 := giveYes w5 L1 c s bs H5 good.out Hh (by omega) i x P fd.out
          rw [hLg.out] at T1
          replace T1 := Lib.hid T1
          replace hw5 := Lib.hid hw5
          replace bel5 := Lib.hid bel5
          clear H5 C1 WI T0 bel set good ca
          go_wp2_with fail
          refine T1.out.mono ?_
          rintro e w6 ⟨rfl, L6, e6, H6, W6⟩
          obtain ⟨bb6, F6, sz6⟩ := W6.below foot.out sz5
          have bel6 := Lib.hid (bel5.out.trans bb6)
          have T2 := takeYes w6 L6 c (giveS c.cf s i x) bs H6 g1.out k hk _ g3 [] P g2
          have g4' : (giveS c.cf s i x).gens (P / c.cf.ps) (P % c.cf.ps / c.sz k) = 1 := g4
          rw [g4', e6, hn1', Int.natCast_add, show ((4294967296 : Nat) : Int) = 4294967296 from rfl] at T2
          replace T2 := Lib.hid T2
          replace F6 := Lib.hid F6
          clear T1 H6 W6 bb6 bel5 g2 g3 g4 g4' foot
          go_wp2_with fail
          refine T2.out.mono ?_
          rintro e w7 ⟨rfl, L7, e7, H7, W7⟩
          obtain ⟨bb7, F7, sz7⟩ := W7.below F6.out sz6
          have bel7 := Lib.hid (bel6.out.trans bb7)
          have T3 := atC w7 L7 c _ _ H7 g5.out (Hh + 4294967296) (by omega)
          rw [g6.out] at T3
          unfold atV at T3
          simp only at T3
          rw [g7, e7, Int.natCast_add, show ((4294967296 : Nat) : Int) = 4294967296 from rfl] at T3
          replace T3 := Lib.hid T3
          have HD := Lib.hid (fun m => H7.drewN m)
          clear T2 W7 bb7 bel6 F6 F7 H7 g6
          go_wp2_with fail
          refine T3.out.mono ?_
          rintro e w8 ⟨rfl, m8, hw8⟩
          have H8 := HD.out m8
          rw [hw8] at H8
          have TK := takenC w8 L7 c _ _ H8 (k : Int)
          rw [if_pos ⟨by omega, by omega⟩, Int.toNat_natCast, g8, e7] at TK
          have TF := freeC w8 L7 c _ _ H8 (k : Int)
          rw [if_pos ⟨by omega, by omega⟩, Int.toNat_natCast, g9, e7] at TF
          replace TK := Lib.hid TK
          replace TF := Lib.hid TF
          have bel8 : Hid (Below N W w8) := by rw [← hw8]; exact Lib.hid (below_drewN bel7.out m8)
          have sz8 : N ≤ w8.heap.size := by rw [← hw8]; exact sz7
          clear hw8 HD H8 T3 bel7 g8 g9 g7
          go_wp2_with (first | (go_at_call 11; refine (n1.out _ _).mono ?_; rintro e w' ⟨rfl, rfl⟩) | (go_at_call 29; refine TK.out.mono ?_; rintro e w' ⟨rfl, rfl⟩) |
            (go_at_call 30; refine TF.out.mono ?_; rintro e w' ⟨rfl, rfl⟩) | (go_at_call 12; refine (WC.out _).mono ?_; rintro e w9 ⟨rfl, b9⟩; replace b9 := Lib.hid b9) | fail)
          go_ret
          exact ⟨rfl, bel8.out.trans (b9.out.mono sz8)⟩
end Go.Proofs.Ytgodinapdahocaa.Cls
