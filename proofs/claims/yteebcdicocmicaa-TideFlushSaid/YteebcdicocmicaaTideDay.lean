/-
  The walk of the statement's day.
-/
import Derived.Test.YteebcdicocmicaaTideFlushFns
import Derived.Deep.RegionLaw
import Derived.Deep.RegionHeld3
import Derived.Deep.DrawnRows
namespace Go.Proofs.Yteebcdicocmicaa.Clk
open Go.RowKit Base
set_option linter.unusedVariables false
attribute [local go_sem ↓] Go.wp_at_zero Go.wp_at_succ

theorem eiB : EI Try.prog 37 45 (.agg #[.int .u64 0, .bool false]) 2 16 := EI.mk' Try.underlying37 (by kernel_rfl) rfl (by decide)
/-- The statement's world between two days. -/
structure DW (w : World) (B T g : Nat) (n : Nat) (now : Int) : Prop where
  ex : ∃ (hv : Value) (c : Nat) (comes pend : Int), FW w B T g hv (thL n c) (c : Int) now now comes pend ∧ Rel now comes pend ∧ c ≤ n
  sz : n < 1000000
  n1 : 1 ≤ now
theorem f3_below {w w' : World} {B T g : Nat} {hv : Value} {L : List (Nat × Bool)} {cut now nowc comes pend : Int} (F : FW w B T g hv L cut now nowc comes pend) (o : Only (F3 T g hv) w w') (hB : B ≤ w.heap.size) : Below B w w' :=
  o.toBelow (fun k hk => ⟨by omega, fun hc => by
    have := F.lo
    rcases hc with h | h | h
    · omega
    · omega
    · have := (F.row.lt k h).1; omega⟩)
theorem inc_wrap (n : Nat) (h : n < 1000000) : IntKind.u64.wrap ((n : Int) + 1) = ((n + 1 : Nat) : Int) := by simp [IntKind.wrap, IntKind.bits, IntKind.signed]; omega
theorem within_bd (n m : Int) (hm : 0 < m) : 0 ≤ n % m ∧ n % m < m := ⟨Int.emod_nonneg _ (by omega), Int.emod_lt_of_pos _ hm⟩

set_option maxRecDepth 100000 in
set_option maxHeartbeats 6400000 in
theorem dayC (w : World) (B T g n : Nat) (now : Int) (D : DW w B T g n now) (hn : n < 900000) (hnow : now ≤ 900000000000) (dw N : Int) (far : Bool) (hN : -9223372036854775808 ≤ N ∧ N < 9223372036854775808) :
    Calls Try.prog 17 #[.pointer (some ⟨T, 0, none⟩), .agg #[.int .i64 dw, .int .i64 N, .bool far]] w fun e w' => e = .returned (.bool true) ∧
      ∃ (n' : Nat) (now' : Int), DW w' B T g n' now' ∧ n' ≤ n + 1 ∧ now' ≤ now + 1000000 ∧ Below B w w' := by
  obtain ⟨⟨hv, c, comes, pend, F, hR, hc⟩, hsz, hn1⟩ := D
  have hB : B ≤ w.heap.size := by have := F.lo; have := F.head.lt; omega
  obtain ⟨w1, hw1⟩ : ∃ w1, w1 = w.alloc (.cells #[.int .i64 dw, .int .i64 N, .bool far] 42) := ⟨_, rfl⟩
  have hb1 : Below w.heap.size w w1 := by rw [hw1]; exact (Below.refl _ _).alloc (Nat.le_refl _) _
  have bx : Blk w1 w.heap.size 42 #[.int .i64 dw, .int .i64 N, .bool far] := by rw [hw1]; exact Blk.new _ _ _
  have F1 := F.below hb1
  have B1 : Below B w w1 := hb1.mono hB
  have hBs : B ≤ w1.heap.size := by have := B1.size; omega
  obtain ⟨k0, k1, k2, k3, k4⟩ := F1.cells
  have hlen : (thL n c).length = n := thM_len _ _ _
  rw [hlen] at k2
  have x0 := bx.cell 0
  have x1 := bx.cell 1
  have x2 := bx.cell 2
  simp only [List.getElem?_toArray, List.getElem?_cons_zero, List.getElem?_cons_succ] at x0 x1 x2
  have z2 := F1.head.frozen 2
  have z4 := F1.head.frozen 4
  have hTl : T < w1.heap.size := F1.head.lt
  have hM : w.heap.size < w1.heap.size := bx.lt
  have hMT : ¬ w.heap.size = T := Blk.ne_ bx F1.head (by decide)
  have hMg : ¬ w.heap.size = g := Blk.ne_ bx F1.ck (by decide)
  have hTg := F1.Tg
  generalize hNN : w.heap.size = M at *
  replace hNN := Lib.hid hNN
  replace hw1 := Lib.hid hw1
  replace F1 := Lib.hid F1
  replace B1 := Lib.hid B1
  replace hlen := Lib.hid hlen
  replace bx := Lib.hid bx
  clear F hb1
  have WI := Lib.hid withinC
  by_cases d1 : dw = 1
  · subst d1
    obtain ⟨n1, hn1'⟩ : ∃ n1, n1 = n + 1 := ⟨_, rfl⟩
    have hiw := inc_wrap n hsz
    rw [← hn1'] at hiw
    obtain ⟨w2, hw2⟩ : ∃ w2, w2 = w1.setCell ⟨T, 2, none⟩ (.int .u64 (n1 : Int)) := ⟨_, rfl⟩
    obtain ⟨T2, R2, C2⟩ := F1.out.setT 2 (.int .u64 (n1 : Int)) rfl
    rw [← hw2] at T2 R2 C2
    rw [hlen.out] at R2
    have o2 : Only (F3 T g hv) w1 w2 := by rw [hw2]; exact (only_set w1 T 2 _).mono (fun _ _ h => .inl h)
    replace hw2 := Lib.hid hw2
    replace hn1' := Lib.hid hn1'
    go_enter Try.func17, Try.ntmps17
    go_upto_region 1 with fail
    rw [hNN.out, ← hw1.out]
    go_upto_region 4 with fail
    rw [← hw2.out]
    have d0 : w2.cell? ⟨T, 1, none⟩ = some hv := T2.cell 1
    have d2 : w2.cell? ⟨T, 2, none⟩ = some (.int .u64 (n1 : Int)) := T2.cell 2
    have fz := T2.frozen 1
    have hg2 : T < w2.heap.size := T2.lt
    have hgo : ¬ hv.ownBlock = some T := F1.out.hT
    have hgg : ¬ hv.ownBlock = some g := F1.out.hg
    have hgl : g < w2.heap.size := Blk.lt C2
    obtain ⟨ie, hie, hz0, hz1, hz2⟩ := eiB.info
    have bx0 : ∀ W : World, W.heap.size = w2.heap.size → Reads (W.alloc (.cells #[.int .u64 (n1 : Int), .bool false] 45)) (w2.heap.size + 1) 2 (some ⟨w2.heap.size, 0, none⟩) 1 [.int .u64 (n1 : Int), .bool false] := by
      intro W hW
      refine ⟨rfl, fun _ => ⟨_, rfl, by simp, fun j u hu => ?_⟩⟩
      have hb := (Blk.new W 45 #[.int .u64 (n1 : Int), .bool false]).cell j
      rw [hW] at hb
      rw [add_explicit, Nat.zero_add, hb, ← hu]
      simp
    replace bx0 := Lib.hid bx0
    have one : ∀ u ∈ [Value.int .u64 (n1 : Int), .bool false], u.oneCell' = true := by intro u hu; simp at hu; rcases hu with rfl | rfl <;> rfl
    replace one := Lib.hid one
    have hBw2 : B ≤ w2.heap.size := by have := o2.size; omega
    replace o2 := Lib.hid o2
    replace T2 := Lib.hid T2
    replace C2 := Lib.hid C2
    clear k0 k1 k2 k3 k4 x0 x1 x2 z2 z4 hiw
    go_wp2
    go_region_law
      ((refine step_append_new _ (by rfl) _ _ _ (by rfl) B 45 ie _ 2 16 Try.underlying37 hie hz0 hz1 hz2 rfl (by decide) hv n (pairs (thL n c)) (by rfl) (R2.alloc _) (w2.heap.size + 1) (some ⟨w2.heap.size, 0, none⟩) 1 1 [.int .u64 (n1 : Int), .bool false] (by rfl) (bx0.out _ (by simp)) one.out (by unfold maxLen; omega) (by omega) (by simp; omega) (by omega) ?_; intro b3 c3 w3 own3 hgrow hat3 hlt3; have r0 : w3.cell? ⟨T, 1, none⟩ = some hv := (hgrow.cell_far _ (by simp; omega) (Ne.symm hgo)).trans (by rw [Tide.cel_alloc w2 _ T 1 hg2]; exact d0); have r1 : w3.frozen? ⟨T, 1, none⟩ = false := (hgrow.frozen_far _ (by simp; omega) (Ne.symm hgo)).trans ((Tide.frz_alloc w2 _ T 1 hg2).trans fz)))
    all_goals
      have T3 : Blk w3 T 39 _ := (hgrow.block T (by simp; omega) (fun e => hgo e.symm)).trans ((Below.heap_alloc w2 _ T hg2).trans T2.out)
      have C3 : Ck w3 g now pend (c : Int) := (hgrow.block g (by simp; omega) (fun e => hgg e.symm)).trans ((Below.heap_alloc w2 _ g hgl).trans C2.out)
      have hTb : ¬ T = b3 := fun e => row_ne own3 T3 (by decide) (by rw [e]; rfl)
      have o3 : Below B w w3 := (B1.out.trans (f3_below F1.out o2.out hBs)).trans ((below_drewN ((Below.refl B w2).alloc hBw2 _) 1).grown hgrow (by simp; omega) (fun k hk => (R2.lt k hk).1))
      have hnl : (thL n1 c).length = n1 := thM_len _ _ _
      have fin : DW (w3.setCell ⟨T, 1, none⟩ (.slice (some ⟨b3, 0, none⟩) (n + 1) c3)) B T g n1 now := by
        have e1 : thL n1 c = thL n c ++ [(n1, false)] := by rw [hn1'.out]; exact thL_next n c hc
        refine ⟨⟨.slice (some ⟨b3, 0, none⟩) (n + 1) c3, c, comes, pend, ⟨?_, ?_, Blk.far C3 (p := ⟨T, 1, none⟩) (fun e => hTg e.symm) _, F1.out.lo⟩, hR, by have := hn1'.out; omega⟩, by have := hn1'.out; omega, hn1⟩
        · rw [hnl]
          exact Blk.set_ T3 1 (.slice (some ⟨b3, 0, none⟩) (n + 1) c3)
        · have e2 : pairs (thL n1 c) = pairs (thL n c) ++ [.int .u64 (n1 : Int), .bool false] := by rw [e1, pairs_append]; simp [pairs]
          rw [hnl, e2, hn1'.out]
          rw [hn1'.out] at own3
          exact row_only own3 (only_set w3 T 1 _) (fun b hb e => by simp [Value.ownBlock] at hb; omega)
      have bfin : Below B w (w3.setCell ⟨T, 1, none⟩ (.slice (some ⟨b3, 0, none⟩) (n + 1) c3)) := o3.trans (only_below (only_set w3 T 1 _) F1.out.lo.1 (by have := o3.size; rw [hNN.out] at this; omega))
      replace fin := Lib.hid fin
      replace bfin := Lib.hid bfin
      clear own3 hgrow hat3 hlt3 r0 r1 T3 C3 o3
      go_wp2
      go_ret
      exact ⟨rfl, n1, now, fin.out, by have := hn1'.out; omega, by omega, bfin.out⟩
  have e1 : (dw == 1) = false := beq_eq_false_iff_ne.2 d1
  by_cases d2 : dw = 2
  · subst d2
    have b3 := within_bd N 3 (by omega)
    have b6 := within_bd N 1000000 (by omega)
    obtain ⟨by_, hby, hb1, hb2⟩ : ∃ by_ : Int, (by_ = if far then 1 + N % 1000000 else 1 + N % 3) ∧ 1 ≤ by_ ∧ by_ ≤ 1000000 := by
      cases far
      · exact ⟨1 + N % 3, rfl, by omega, by omega⟩
      · exact ⟨1 + N % 1000000, rfl, by omega, by omega⟩
    have CO := Lib.hid (comesC w1 B T g hv n c now comes pend by_ F1.out hR hc (by omega) hn1 hb1 (by omega))
    have W3 := Lib.hid (WI.out N 1 3 w1 hN (by omega) (by omega) (by omega) (by omega))
    have W6 := Lib.hid (WI.out N 1 1000000 w1 hN (by omega) (by omega) (by omega) (by omega))
    have fin : ∀ (w2 : World) (c' : Nat) (comes' pend' : Int), FW w2 B T g hv (thL n c') (c' : Int) (now + by_) (now + by_) comes' pend' → Rel (now + by_) comes' pend' → c' ≤ n → Only (F3 T g hv) w1 w2 → DW w2 B T g n (now + by_) ∧ Below B w w2 := fun w2 c' m' p' f r h o =>
      ⟨⟨⟨hv, c', m', p', f, r, h⟩, hsz, by omega⟩, B1.out.trans (f3_below F1.out o hBs)⟩
    replace fin := Lib.hid fin
    clear b3 b6 k0 k1 k2 k3 k4 z2 z4
    go_enter Try.func17, Try.ntmps17
    go_upto_region 1 with fail
    rw [hNN.out, ← hw1.out]
    cases far with
    | false =>
      have hby' := Lib.hid (show 1 + N % (3 - 1 + 1) = by_ from hby.symm)
      clear hby
      go_wp2_with fail
      refine W3.out.mono ?_
      rintro e w' ⟨rfl, rfl⟩
      rw [hby'.out]
      go_wp2_with fail
      refine CO.out.mono ?_
      rintro e w2 ⟨rfl, c', m', p', f2, r2, h2, o2⟩
      have fin2 := Lib.hid (fin.out w2 c' m' p' f2 r2 h2 o2)
      clear f2 r2 h2 o2 x0 x1 x2
      go_wp2
      go_ret
      exact ⟨rfl, n, _, fin2.out.1, by omega, by omega, fin2.out.2⟩
    | true =>
      have hby' := Lib.hid (show 1 + N % (1000000 - 1 + 1) = by_ from hby.symm)
      clear hby
      go_wp2_with fail
      refine W3.out.mono ?_
      rintro e w' ⟨rfl, rfl⟩
      go_wp2_with fail
      refine W6.out.mono ?_
      rintro e w' ⟨rfl, rfl⟩
      rw [hby'.out]
      go_wp2_with fail
      refine CO.out.mono ?_
      rintro e w2 ⟨rfl, c', m', p', f2, r2, h2, o2⟩
      have fin2 := Lib.hid (fin.out w2 c' m' p' f2 r2 h2 o2)
      clear f2 r2 h2 o2 x0 x1 x2
      go_wp2
      go_ret
      exact ⟨rfl, n, _, fin2.out.1, by omega, by omega, fin2.out.2⟩
  have e2 : (dw == 2) = false := beq_eq_false_iff_ne.2 d2
  by_cases d3 : dw = 3
  · subst d3
    have b9 := within_bd N (9 - 0 + 1) (by omega)
    obtain ⟨t, ht⟩ : ∃ t, t = 0 + N % (9 - 0 + 1) := ⟨_, rfl⟩
    have ht1 : 0 ≤ t := by omega
    have ht2 : t < 10 := by omega
    have W9 := Lib.hid (fun w => WI.out N 0 9 w hN (by omega) (by omega) (by omega) (by omega))
    have FL := flushC w1.drew g now pend (c : Int) (0 - t) (n : Int) (Blk.drewN F1.out.ck 1) hn1 (by omega)
    have ep : pendF now (0 - t) = 0 := if_pos (by omega)
    have ec : cutF (c : Int) (0 - t) n = n := by unfold cutF; rw [if_pos (by omega)]; split <;> omega
    rw [ep, ec] at FL
    rw [show 0 - t = IntKind.i64.wrap (-t) by rw [IntWalk.i64_in (-t) (by omega)]; omega] at FL
    replace FL := Lib.hid FL
    replace ht := Lib.hid ht
    clear b9 ep ec z2 k3
    go_enter Try.func17, Try.ntmps17
    go_upto_region 1 with fail
    rw [hNN.out, ← hw1.out]
    go_upto_region 11 with fail
    go_region_held3 (fun w' => w'.cell? ⟨T, 0, none⟩ = some (.pointer (some ⟨g, 0, none⟩)) ∧ w'.cell? ⟨T, 2, none⟩ = some (.int .u64 (n : Int)) ∧ w'.cell? ⟨M, 1, none⟩ = some (.int .i64 N)) (first | (go_keep; done) | exact ⟨(cell_only o2 hTl hTg).trans k0, (cell_only o2 hTl hTg).trans k2, (cell_only o2 hM hMg).trans x1⟩)
      (first | (go_at_call 27; refine (W9.out _).mono ?_; rintro e w' ⟨rfl, rfl⟩; rw [← ht.out]) | (go_at_call 23; refine FL.out.mono ?_; rintro e w2 ⟨rfl, ck2, o2⟩))
    all_goals
      have o2' : Only (· = g) w1 w2 := (Only.refl (· = g) w1).drew.trans o2 (fun _ _ h => h)
      have F2 := F1.out.clock o2' ck2
      have FW2 := Lib.hid (flushW w2 B T g hv n c n now now comes 0 F2 (by omega))
      replace o2' := Lib.hid o2'
      clear o2 ck2 F2 k0 k1 k2 k4 x0 x1 x2 z4
      go_wp2_with fail
      refine FW2.out.mono ?_
      rintro e w3 ⟨rfl, f3, o3⟩
      obtain ⟨k0, k1, k2, k3, k4⟩ := f3.cells
      have z4 := f3.head.frozen 4
      have fin : DW (w3.setCell ⟨T, 4, none⟩ (.int .i64 0)) B T g n now := ⟨⟨hv, n, 0, 0, f3.setComes 0, .inl ⟨rfl, rfl⟩, Nat.le_refl _⟩, hsz, hn1⟩
      have bfin : Below B w (w3.setCell ⟨T, 4, none⟩ (.int .i64 0)) := B1.out.trans (f3_below F1.out (((o2'.out.mono (T := F3 T g hv) (fun _ _ h => .inr (.inl h))).trans o3 (fun _ _ h => .inr (.inr h))).trans (only_set w3 T 4 _) (fun _ _ h => .inl h)) hBs)
      replace fin := Lib.hid fin
      replace bfin := Lib.hid bfin
      clear f3 o3 FW2
      go_wp2
      go_ret
      exact ⟨rfl, n, now, fin.out, by omega, by omega, bfin.out⟩
  have e3 : (dw == 3) = false := beq_eq_false_iff_ne.2 d3
  by_cases d4 : dw = 4
  · subst d4
    have b6 := within_bd N 6 (by omega)
    have b62 := within_bd N 4611686018427387904 (by omega)
    obtain ⟨t, ht, ht1, ht2⟩ : ∃ t : Int, (t = if far then 1 + N % 4611686018427387904 else 1 + N % 6) ∧ 1 ≤ t ∧ t ≤ 4611686018427387904 := by
      cases far
      · exact ⟨1 + N % 6, rfl, by omega, by omega⟩
      · exact ⟨1 + N % 4611686018427387904, rfl, by omega, by omega⟩
    have W6 := Lib.hid (WI.out N 1 6 w1 hN (by omega) (by omega) (by omega) (by omega))
    have W62 := Lib.hid (WI.out N 1 4611686018427387904 w1 hN (by omega) (by omega) (by omega) (by omega))
    have FL := flushC w1.drew g now pend (c : Int) t (n : Int) (Blk.drewN F1.out.ck 1) hn1 (by omega)
    have ec : cutF (c : Int) t n = c := if_neg (by omega)
    rw [ec] at FL
    have hR2 : Rel now (now + t) (pendF now t) := by
      unfold pendF Rel
      rw [if_neg (by omega)]
      split <;> omega
    have hwr : IntKind.i64.wrap (now + t) = now + t := IntWalk.i64_in _ (by omega)
    obtain ⟨s, hs⟩ : ∃ s, s = now + t := ⟨_, rfl⟩
    rw [← hs] at hwr hR2
    have fin : ∀ (w2 : World), Only (· = g) w1 w2 → Ck w2 g now (pendF now t) c → FW w2 B T g hv (thL n c) (c : Int) now now comes (pendF now t) ∧ DW (w2.setCell ⟨T, 4, none⟩ (.int .i64 s)) B T g n now ∧ Below B w (w2.setCell ⟨T, 4, none⟩ (.int .i64 s)) := fun w2 o ck =>
      have f := F1.out.clock o ck
      ⟨f, ⟨⟨hv, c, s, _, f.setComes s, hR2, hc⟩, hsz, hn1⟩, B1.out.trans (f3_below F1.out ((o.mono (T := F3 T g hv) (fun _ _ h => .inr (.inl h))).trans (only_set w2 T 4 _) (fun _ _ h => .inl h)) hBs)⟩
    generalize pendF now t = pt at *
    replace fin := Lib.hid fin
    replace FL := Lib.hid FL
    replace hs := Lib.hid hs
    replace hR2 := Lib.hid hR2
    clear b6 b62 ec z2 z4
    go_enter Try.func17, Try.ntmps17
    go_upto_region 1 with fail
    rw [hNN.out, ← hw1.out]
    cases far with
    | false =>
      have hby' := Lib.hid (show 1 + N % (6 - 1 + 1) = t from ht.symm)
      clear ht ht1 ht2
      go_wp2_with fail
      refine W6.out.mono ?_
      rintro e w' ⟨rfl, rfl⟩
      rw [hby'.out]
      go_upto_region 18 with fail
      go_still_tail 9, (by kernel_rfl)
      change wpList _ _ _ _ _ w1.drew
      go_wp2_with fail
      refine FL.out.mono ?_
      rintro e w2 ⟨rfl, ck2, o2⟩
      have o2' : Only (· = g) w1 w2 := (Only.refl (· = g) w1).drew.trans o2 (fun _ _ h => h)
      obtain ⟨f2, d2, b2⟩ := fin.out w2 o2' ck2
      obtain ⟨k0, k1, k2, k3, k4⟩ := f2.cells
      have z4 := f2.head.frozen 4
      have fin2 := Lib.hid (And.intro d2 b2)
      rw [hs.out] at hwr
      clear f2 d2 b2 o2 o2' ck2 x0 x1 x2
      go_wp2
      go_ret
      rw [← hs.out]
      exact ⟨rfl, n, now, fin2.out.1, by omega, by omega, fin2.out.2⟩
    | true =>
      have hby' := Lib.hid (show 1 + N % (4611686018427387904 - 1 + 1) = t from ht.symm)
      clear ht ht1 ht2
      go_wp2_with fail
      refine W6.out.mono ?_
      rintro e w' ⟨rfl, rfl⟩
      go_wp2_with fail
      refine W62.out.mono ?_
      rintro e w' ⟨rfl, rfl⟩
      rw [hby'.out]
      go_upto_region 18 with fail
      go_still_tail 9, (by kernel_rfl)
      change wpList _ _ _ _ _ w1.drew
      go_wp2_with fail
      refine FL.out.mono ?_
      rintro e w2 ⟨rfl, ck2, o2⟩
      have o2' : Only (· = g) w1 w2 := (Only.refl (· = g) w1).drew.trans o2 (fun _ _ h => h)
      obtain ⟨f2, d2, b2⟩ := fin.out w2 o2' ck2
      obtain ⟨k0, k1, k2, k3, k4⟩ := f2.cells
      have z4 := f2.head.frozen 4
      have fin2 := Lib.hid (And.intro d2 b2)
      rw [hs.out] at hwr
      clear f2 d2 b2 o2 o2' ck2 x0 x1 x2
      go_wp2
      go_ret
      rw [← hs.out]
      exact ⟨rfl, n, now, fin2.out.1, by omega, by omega, fin2.out.2⟩
  have e4 : (dw == 4) = false := beq_eq_false_iff_ne.2 d4
  have fin := Lib.hid (show DW w1 B T g n now from ⟨⟨hv, c, comes, pend, F1.out, hR, hc⟩, hsz, hn1⟩)
  clear d1 d2 d3 d4 k0 k1 k2 k3 k4 z2 z4
  go_enter Try.func17, Try.ntmps17
  go_upto_region 1 with fail
  rw [hNN.out, ← hw1.out]
  go_wp2
  go_ret
  exact ⟨rfl, n, now, fin.out, by omega, by omega, B1.out⟩
end Go.Proofs.Yteebcdicocmicaa.Clk
