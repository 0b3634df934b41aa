/-
  The walk of pair.lays where it writes; and of Over.
-/
import Derived.Test.YtnjobnccknpaeaaExactLays
import Derived.Test.YtnjobnccknpaeaaBookLend
import Derived.StillTailTactics
namespace Go.Proofs.Ytnjobnccknpaeaa.Exact
open Go.RowKit Base Arena Held Book
set_option linter.unusedVariables false

theorem overC (w : World) (g cap n : Nat) (cur : Array Value) (hg : w.heap[g]? = some (.cells cur 5 (0, 0))) (hn : n ≤ cur.size) (hn2 : n ≤ 1000000000000000000) :
    Calls Try.prog 61 #[.slice (some ⟨g, 0, none⟩) n cap] w fun e w' => e = .returned (.tuple #[]) ∧ Only (· = g) w w' := by
  go_enter Try.func61, Try.ntmps61
  go_wp2_with fail
  go_loopw [2] (fun s wr => ∃ (k : Nat) (c2 : Array Value), k ≤ n ∧ s = .int .i64 (k : Int) ∧ wr.heap[g]? = some (.cells c2 5 (0, 0)) ∧ c2.size = cur.size ∧ Only (· = g) w wr) (fun s _ => n - (intOf s).toNat)
  case atStart => exact ⟨0, cur, Nat.zero_le _, rfl, hg, rfl, Only.refl _ _⟩
  case round =>
    obtain ⟨k, c2, hk, rfl, hg2, hc2, o⟩ := hrel
    clear hg
    by_cases hlt : k < n
    · have hkc : k < c2.size := by omega
      have cz : wr.cell? ⟨g, k, none⟩ = some (c2[k]) := by rw [cell_of_row wr g k _ _ (0, 0) hg2]; exact Array.getElem?_eq_getElem hkc
      have cf := Blk.frozen hg2 k
      have b3 := Blk.set_ hg2 k (.int .u8 238)
      have o3 := o.setCell (p := ⟨g, k, none⟩) (fun _ => rfl) (.int .u8 238)
      generalize c2[k] = z at *
      replace b3 := Lib.hid b3
      replace hg2 := Lib.hid hg2
      replace hc2 := Lib.hid hc2
      go_wp2
      go_roundw
      case rel => exact ⟨k + 1, _, by omega, by go_num, b3.out, by rw [Array.size_setIfInBounds]; exact hc2.out, o3⟩
      case measure => simp [intOf]; omega
    · obtain rfl : k = n := by omega
      go_wp2
      (try simp only [Exit.inBlock, Exit.then])
      exact bodyPost_end (results_none (by rfl) _ _ _) rfl ⟨rfl, o⟩

set_option maxRecDepth 100000 in
set_option maxHeartbeats 1600000 in
theorem laysWrite (w : World) {p N ga ha gr hr hh page : Nat} {l : List UInt8} {G : Nat → Prop} (P : Pair2 w p N ga ha gr hr hh page l l G) (o : Op) (hd : o.d = 4) (ok : o.Ok w N) :
    Calls Try.prog 32 #[.pointer (some ⟨p, 0, none⟩), .agg o.cells] w fun e w' => e = .returned (.bool true) ∧ ∃ l', l'.length = l.length ∧ Pair2 w' p N ga ha gr hr hh page l' l' G ∧ Only (fun b => b = ha ∨ b = hr) w w' := by
  obtain ⟨d, which, pl, tt, n, width, v, A, q, c, own⟩ := o
  obtain ⟨i1, i2, i3, i4, i5, i6, hv, hq, hb⟩ := ok
  simp only at hd i1 i2 i3 i4 i5 i6 hv hq hb
  subst hd
  unfold Op.cells
  simp only
  obtain ⟨w1, hw1, b1, hs1, x0, -, x2, -, -, -, -, x7, -⟩ := boxed w ⟨4, which, pl, tt, n, width, v, A, q, c, own⟩
  unfold Op.cells at hw1
  simp only at x0 x2 x7 hw1
  have P1 := P.below b1
  have hbx : w.heap.size < w1.heap.size := by omega
  have hNw : N ≤ w.heap.size := by have := P.lo.1; have := heap_lt P.head; omega
  have hb1 : Bytes w1 N A q := Row.below hb (b1.mono hNw)
  have hha : ha < w.heap.size := P.a.bytes.lt
  replace hw1 := Lib.hid hw1
  have LC := Lib.hid (lendC A c q w1 (Row.more hb1 (by omega)) hq)
  have hll : (layL page l pl q.length q).length = l.length := layL_len (by simp)
  have hqm : q.length ≤ maxLen := by unfold maxLen; omega
  have WJ := fun W g cap (P : Pair2 W p N ga ha gr hr hh page l l G) (hL : Lent W g cap q) => writeJ P pl i1 (some ⟨g, 0, none⟩) cap (g + 1) q (hL.bytes (Nat.lt_succ_self g)) hqm
  have RJ := fun W (P : Pair2 W p N ga ha gr hr hh page (layL page l pl q.length q) l G) (hB : Bytes W N A q) => refWriteJ P pl i1 A c N q hB hqm (fun hne b off hA hc => by
    obtain ⟨b2, o2, e2, h2, -⟩ := hB (by rw [List.length_map]; exact List.length_pos_iff.2 hne)
    rw [hA] at e2
    injection e2 with e2
    injection e2 with e2
    have := P.lo.2.2.2.2
    omega)
  have hn0 : ∀ W, Calls Try.prog 10 #[.int .i64 (cd page l.length pl q.length)] W fun e w' => e = .returned (.int .i64 (cd page l.length pl q.length)) ∧ W = w' := fun W => numC _ (by unfold cd inI64; split <;> omega) W
  generalize cd page l.length pl q.length = C at *
  generalize layL page l pl q.length q = l' at *
  replace hll := Lib.hid hll
  replace WJ := Lib.hid WJ
  replace RJ := Lib.hid RJ
  replace hn0 := Lib.hid hn0
  replace hb1 := Lib.hid hb1
  go_enter Try.func32, Try.ntmps32
  go_upto_region 1 with fail
  rw [← hw1.out]
  go_wp2_with fail
  refine LC.out.mono ?_
  rintro e w2 ⟨g, cap, rfl, hg, hL, b2⟩
  have hgw : w.heap.size < g := by omega
  have P2 := P1.below b2
  have x2' : w2.cell? ⟨w.heap.size, 2, none⟩ = some (.int .i64 pl) := (b2.cell (p := ⟨w.heap.size, 2, none⟩) hbx).trans x2
  have x7' : w2.cell? ⟨w.heap.size, 7, none⟩ = some (.slice A q.length c) := (b2.cell (p := ⟨w.heap.size, 7, none⟩) hbx).trans x7
  have hb2 := Lib.hid (Row.below hb1.out (b2.mono (by omega)))
  have hs2 : w1.heap.size ≤ w2.heap.size := b2.size
  have o2 : Only (fun b => b = ha ∨ b = hr) w w2 := ((Only.refl _ w).below b1 (Nat.le_refl _)).below b2 (by omega)
  clear LC x2 x7 x0 P1 b2 hb1
  obtain ⟨k0, k1, -⟩ := P2.cells
  have WC := Lib.hid (WJ.out w2.drew g cap (P2.drewN 1) (hL.keep rfl))
  clear WJ
  replace hL := Lib.hid hL
  replace o2 := Lib.hid o2
  go_wp2_with fail
  go_still_tail 7, (by kernel_rfl)
  change wpList _ _ _ _ _ w2.drew
  go_wp2_with fail
  refine WC.out.mono ?_
  rintro e w3 ⟨rfl, P3, o3⟩
  have hbb : ∀ i, w3.cell? ⟨w.heap.size, i, none⟩ = w2.cell? ⟨w.heap.size, i, none⟩ := fun i => World.cell?_of_block (a := ⟨w.heap.size, i, none⟩) (o3.block w.heap.size (by show _ < w2.heap.size; omega) (by omega))
  have x2'' := (hbb 2).trans x2'
  have x7'' := (hbb 7).trans x7'
  have hL3 : Lent w3 g cap q := hL.out.keep (o3.block g hL.out.lt (by omega))
  have hb3 : Bytes w3 N A q := Row.keep hb2.out fun a ha' => World.cell?_of_block (o3.block a.block (by show _ < w2.heap.size; omega) (by have := P.lo.2.2.1; omega))
  have o3' : Only (fun b => b = ha ∨ b = hr) w w3 := (o2.out.drewN 1).trans o3 (fun x _ h => .inl h)
  clear hbb x2' x7' WC hb2 k0 k1 o2 o3 hL P2
  have IC := Lib.hid (intactC g cap A c N q w3 hL3 hb3 hq)
  go_wp2_with fail
  refine IC.out.mono ?_
  rintro e w4 ⟨rfl, m, hw4⟩
  have P4 : Pair2 w4 p N ga ha gr hr hh page l' l G := by rw [← hw4]; exact P3.drewN m
  have hb4 : Bytes w4 N A q := by rw [← hw4]; exact hb3
  have o4 : Only (fun b => b = ha ∨ b = hr) w w4 := by rw [← hw4]; exact o3'.drewN m
  have y2 : w4.cell? ⟨w.heap.size, 2, none⟩ = some (.int .i64 pl) := by rw [← hw4]; exact x2''
  have y7 : w4.cell? ⟨w.heap.size, 7, none⟩ = some (.slice A q.length c) := by rw [← hw4]; exact x7''
  have hL4 : Lent w4 g cap q := by rw [← hw4]; exact hL3
  have hs4 : w.heap.size < w4.heap.size := by have := o4.size; have := P4.lt; have : g < w4.heap.size := hL4.lt; omega
  clear x2'' x7'' IC hL3 hb3 o3' P3 hw4
  obtain ⟨cur, hgc, hl1, hl2, hl3, -⟩ := hL4
  have OV := Lib.hid (overC w4 g cap q.length cur hgc (by omega) (by omega))
  replace P4 := Lib.hid P4
  replace o4 := Lib.hid o4
  replace hb4 := Lib.hid hb4
  go_wp2_with fail
  refine OV.out.mono ?_
  rintro e w5 ⟨rfl, o5⟩
  have hgl : g < w4.heap.size := heap_lt hgc
  have P5 : Pair2 w5 p N ga ha gr hr hh page l' l G := P4.out.keep fun b hf => o5.block b (P4.out.lt b hf).2 (by
    rintro rfl
    have := (P.lt b hf).2
    omega)
  have z2 : w5.cell? ⟨w.heap.size, 2, none⟩ = some (.int .i64 pl) := (World.cell?_of_block (a := ⟨w.heap.size, 2, none⟩) (o5.block w.heap.size hs4 (by omega))).trans y2
  have z7 : w5.cell? ⟨w.heap.size, 7, none⟩ = some (.slice A q.length c) := (World.cell?_of_block (a := ⟨w.heap.size, 7, none⟩) (o5.block w.heap.size hs4 (by omega))).trans y7
  have hb5 : Bytes w5 N A q := Row.keep hb4.out fun a ha' => World.cell?_of_block (o5.block a.block (by omega) (by omega))
  have o6 : Only (fun b => b = ha ∨ b = hr) w w5 := o4.out.trans o5 (fun x hx h => by omega)
  have RC := Lib.hid (RJ.out w5.drew (P5.drewN 1) hb5)
  clear OV P4 o4 hb4 y2 y7 hgc RJ o5 hb5
  obtain ⟨-, k1, -⟩ := P5.cells
  replace o6 := Lib.hid o6
  replace P5 := Lib.hid P5
  go_wp2_with fail
  have NC := Lib.hid ((hn0.out w5.drew).mono (fun e w' ⟨h1, h2⟩ => (⟨h1, h2.symm⟩ : e = _ ∧ w' = w5.drew)))
  go_still_tail 12, (by kernel_rfl)
  still_call NC.out
  repeat still_step
  try refine wpStill_nil ?_
  change wpList _ _ _ _ _ w5.drew
  go_wp2_with fail
  refine RC.out.mono ?_
  rintro e w6 ⟨rfl, P6, o7⟩
  have fin : Only (fun b => b = ha ∨ b = hr) w w6 := (o6.out.drewN 1).trans o7 (fun x _ h => .inr h)
  replace fin := Lib.hid fin
  replace P6 := Lib.hid P6
  clear RC NC o7 z2 z7 k1
  go_wp2
  go_ret
  exact ⟨rfl, l', hll.out, P6.out, fin.out⟩
end Go.Proofs.Ytnjobnccknpaeaa.Exact
