/-
  The walk of pair.lays where it fills, where it moves, and where it does nothing.
-/
import Derived.Test.YtnjobnccknpaeaaExactLays2
import Derived.StillTailTactics
namespace Go.Proofs.Ytnjobnccknpaeaa.Exact
open Go.RowKit Base Arena Held
set_option linter.unusedVariables false

set_option maxRecDepth 100000 in
set_option maxHeartbeats 1600000 in
theorem laysFill (w : World) {p N ga ha gr hr hh page : Nat} {l : List UInt8} {G : Nat → Prop} (P : Pair2 w p N ga ha gr hr hh page l l G) (o : Op) (hd : o.d = 5) (ok : o.Ok w N) :
    Calls Try.prog 32 #[.pointer (some ⟨p, 0, none⟩), .agg o.cells] w fun e w' => e = .returned (.bool true) ∧ ∃ l', l'.length = l.length ∧ Pair2 w' p N ga ha gr hr hh page l' l' G ∧ Only (fun b => b = ha ∨ b = hr) w w' := by
  obtain ⟨d, which, pl, tt, n, width, v, A, q, c, own⟩ := o
  obtain ⟨i1, i2, i3, i4, i5, i6, hv, hq, hb⟩ := ok
  simp only at hd i1 i2 i3 i4 i5 i6 hv hq hb
  subst hd
  unfold Op.cells
  simp only
  obtain ⟨w1, hw1, b1, hs1, x0, -, x2, -, x4, -, x6, -, -⟩ := boxed w ⟨5, which, pl, tt, n, width, v, A, q, c, own⟩
  unfold Op.cells at hw1
  simp only at x0 x2 x4 x6 hw1
  have P1 := P.below b1
  have hha : ha < w.heap.size := P.a.bytes.lt
  replace hw1 := Lib.hid hw1
  have hll : (layL page l pl n (List.replicate n.toNat (UInt8.ofNat v))).length = l.length := layL_len (by simp)
  have WJ := fun W (P : Pair2 W p N ga ha gr hr hh page l l G) => fillJ P pl n (UInt8.ofNat v) i1 i3
  have RJ := fun W (P : Pair2 W p N ga ha gr hr hh page (layL page l pl n (List.replicate n.toNat (UInt8.ofNat v))) l G) => refFillJ P pl n (UInt8.ofNat v) i1 i3
  have hn0 : ∀ W, Calls Try.prog 10 #[.int .i64 (cd page l.length pl n)] W fun e w' => e = .returned (.int .i64 (cd page l.length pl n)) ∧ W = w' := fun W => numC _ (by unfold cd inI64; split <;> omega) W
  have hby : IntKind.u8.wrap (v : Int) = ((UInt8.ofNat v).toNat : Int) := byte_of v
  generalize cd page l.length pl n = C at *
  generalize layL page l pl n (List.replicate n.toNat (UInt8.ofNat v)) = l' at *
  generalize UInt8.ofNat v = y at *
  replace hll := Lib.hid hll
  replace WJ := Lib.hid WJ
  replace RJ := Lib.hid RJ
  replace hn0 := Lib.hid hn0
  go_enter Try.func32, Try.ntmps32
  go_upto_region 1 with fail
  rw [← hw1.out]
  obtain ⟨k0, k1, -⟩ := P1.cells
  have WC := Lib.hid (WJ.out w1.drew (P1.drewN 1))
  clear WJ
  go_wp2_with fail
  go_still_tail 11, (by kernel_rfl)
  change wpList _ _ _ _ _ w1.drew
  go_wp2_with fail
  refine WC.out.mono ?_
  rintro e w2 ⟨rfl, P2, o2⟩
  have hbb : ∀ i, w2.cell? ⟨w.heap.size, i, none⟩ = w1.cell? ⟨w.heap.size, i, none⟩ := fun i => World.cell?_of_block (a := ⟨w.heap.size, i, none⟩) (o2.block w.heap.size (by show _ < w1.heap.size; omega) (by omega))
  have z2 := (hbb 2).trans x2
  have z4 := (hbb 4).trans x4
  have z6 := (hbb 6).trans x6
  have o3 : Only (fun b => b = ha ∨ b = hr) w w2 := (((Only.refl _ w).below b1 (Nat.le_refl _)).drewN 1).trans o2 (fun x _ h => .inl h)
  have RC := Lib.hid (RJ.out w2.drew (P2.drewN 1))
  clear hbb x0 x2 x4 x6 k0 k1 WC o2 b1 RJ P1
  obtain ⟨-, k1, -⟩ := P2.cells
  replace o3 := Lib.hid o3
  replace P2 := Lib.hid P2
  go_wp2_with fail
  have NC := Lib.hid ((hn0.out w2.drew).mono (fun e w' ⟨h1, h2⟩ => (⟨h1, h2.symm⟩ : e = _ ∧ w' = w2.drew)))
  go_still_tail 13, (by kernel_rfl)
  still_call NC.out
  repeat still_step
  try refine wpStill_nil ?_
  change wpList _ _ _ _ _ w2.drew
  go_wp2_with fail
  refine RC.out.mono ?_
  rintro e w6 ⟨rfl, P6, o7⟩
  have fin : Only (fun b => b = ha ∨ b = hr) w w6 := (o3.out.drewN 1).trans o7 (fun x _ h => .inr h)
  replace fin := Lib.hid fin
  replace P6 := Lib.hid P6
  clear RC NC o7 z2 z4 z6 k1
  go_wp2
  go_ret
  exact ⟨rfl, l', hll.out, P6.out, fin.out⟩

set_option maxRecDepth 100000 in
set_option maxHeartbeats 1600000 in
theorem laysMove (w : World) {p N ga ha gr hr hh page : Nat} {l : List UInt8} {G : Nat → Prop} (P : Pair2 w p N ga ha gr hr hh page l l G) (o : Op) (hd : o.d = 6) (ok : o.Ok w N) :
    Calls Try.prog 32 #[.pointer (some ⟨p, 0, none⟩), .agg o.cells] w fun e w' => e = .returned (.bool true) ∧ ∃ l', l'.length = l.length ∧ Pair2 w' p N ga ha gr hr hh page l' l' G ∧ Only (fun b => b = ha ∨ b = hr) w w' := by
  obtain ⟨d, which, pl, tt, n, width, v, A, q, c, own⟩ := o
  obtain ⟨i1, i2, i3, i4, i5, i6, hv, hq, hb⟩ := ok
  simp only at hd i1 i2 i3 i4 i5 i6 hv hq hb
  subst hd
  unfold Op.cells
  simp only
  obtain ⟨w1, hw1, b1, hs1, x0, -, x2, x3, x4, -, -, -, -⟩ := boxed w ⟨6, which, pl, tt, n, width, v, A, q, c, own⟩
  unfold Op.cells at hw1
  simp only at x0 x2 x3 x4 hw1
  have P1 := P.below b1
  have hha : ha < w.heap.size := P.a.bytes.lt
  replace hw1 := Lib.hid hw1
  have hll : (mvL page l tt pl n).length = l.length := mvL_len
  have WJ := fun W (P : Pair2 W p N ga ha gr hr hh page l l G) => moveJ P tt pl n i2 i1 i3
  have RJ := fun W (P : Pair2 W p N ga ha gr hr hh page (mvL page l tt pl n) l G) => refMoveJ P tt pl n i2 i1 i3
  have hn0 : ∀ W, Calls Try.prog 10 #[.int .i64 (mvC page l.length tt pl n)] W fun e w' => e = .returned (.int .i64 (mvC page l.length tt pl n)) ∧ W = w' := fun W => numC _ (by unfold mvC cd inI64; split <;> (try split) <;> omega) W
  generalize mvC page l.length tt pl n = C at *
  generalize mvL page l tt pl n = l' at *
  replace hll := Lib.hid hll
  replace WJ := Lib.hid WJ
  replace RJ := Lib.hid RJ
  replace hn0 := Lib.hid hn0
  go_enter Try.func32, Try.ntmps32
  go_upto_region 1 with fail
  rw [← hw1.out]
  obtain ⟨k0, k1, -⟩ := P1.cells
  have WC := Lib.hid (WJ.out w1.drew (P1.drewN 1))
  clear WJ
  go_wp2_with fail
  go_still_tail 10, (by kernel_rfl)
  change wpList _ _ _ _ _ w1.drew
  go_wp2_with fail
  refine WC.out.mono ?_
  rintro e w2 ⟨rfl, P2, o2⟩
  have hbb : ∀ i, w2.cell? ⟨w.heap.size, i, none⟩ = w1.cell? ⟨w.heap.size, i, none⟩ := fun i => World.cell?_of_block (a := ⟨w.heap.size, i, none⟩) (o2.block w.heap.size (by show _ < w1.heap.size; omega) (by omega))
  have z2 := (hbb 2).trans x2
  have z4 := (hbb 4).trans x4
  have z3 := (hbb 3).trans x3
  have o3 : Only (fun b => b = ha ∨ b = hr) w w2 := (((Only.refl _ w).below b1 (Nat.le_refl _)).drewN 1).trans o2 (fun x _ h => .inl h)
  have RC := Lib.hid (RJ.out w2.drew (P2.drewN 1))
  clear hbb x0 x2 x3 x4 k0 k1 WC o2 b1 RJ P1
  obtain ⟨-, k1, -⟩ := P2.cells
  replace o3 := Lib.hid o3
  replace P2 := Lib.hid P2
  go_wp2_with fail
  have NC := Lib.hid ((hn0.out w2.drew).mono (fun e w' ⟨h1, h2⟩ => (⟨h1, h2.symm⟩ : e = _ ∧ w' = w2.drew)))
  go_still_tail 12, (by kernel_rfl)
  still_call NC.out
  repeat still_step
  try refine wpStill_nil ?_
  change wpList _ _ _ _ _ w2.drew
  go_wp2_with fail
  refine RC.out.mono ?_
  rintro e w6 ⟨rfl, P6, o7⟩
  have fin : Only (fun b => b = ha ∨ b = hr) w w6 := (o3.out.drewN 1).trans o7 (fun x _ h => .inr h)
  replace fin := Lib.hid fin
  replace P6 := Lib.hid P6
  clear RC NC o7 z2 z3 z4 k1
  go_wp2
  go_ret
  exact ⟨rfl, l', hll.out, P6.out, fin.out⟩

set_option maxRecDepth 100000 in
set_option maxHeartbeats 1600000 in
theorem laysOther (w : World) {p N ga ha gr hr hh page : Nat} {l : List UInt8} {G : Nat → Prop} (P : Pair2 w p N ga ha gr hr hh page l l G) (o : Op) (hd : o.d ≠ 2 ∧ o.d ≠ 4 ∧ o.d ≠ 5 ∧ o.d ≠ 6) :
    Calls Try.prog 32 #[.pointer (some ⟨p, 0, none⟩), .agg o.cells] w fun e w' => e = .returned (.bool true) ∧ ∃ l', l'.length = l.length ∧ Pair2 w' p N ga ha gr hr hh page l' l' G ∧ Only (fun b => b = ha ∨ b = hr) w w' := by
  obtain ⟨d, which, pl, tt, n, width, v, A, q, c, own⟩ := o
  obtain ⟨h2, h4, h5, h6⟩ := hd
  simp only at h2 h4 h5 h6
  unfold Op.cells
  simp only
  obtain ⟨w1, hw1, b1, hs1, x0, -⟩ := boxed w ⟨d, which, pl, tt, n, width, v, A, q, c, own⟩
  unfold Op.cells at hw1
  simp only at x0 hw1
  have P1 := P.below b1
  have o1 : Only (fun b => b = ha ∨ b = hr) w w1 := (Only.refl _ w).below b1 (Nat.le_refl _)
  replace hw1 := Lib.hid hw1
  go_enter Try.func32, Try.ntmps32
  go_upto_region 1 with fail
  rw [← hw1.out]
  clear b1
  replace o1 := Lib.hid o1
  replace P1 := Lib.hid P1
  go_wp2
  go_ret
  exact ⟨rfl, l, rfl, P1.out, o1.out⟩

theorem laysC (w : World) {p N ga ha gr hr hh page : Nat} {l : List UInt8} {G : Nat → Prop} (P : Pair2 w p N ga ha gr hr hh page l l G) (o : Op) (ok : o.Ok w N) :
    Calls Try.prog 32 #[.pointer (some ⟨p, 0, none⟩), .agg o.cells] w fun e w' => e = .returned (.bool true) ∧ ∃ l', l'.length = l.length ∧ Pair2 w' p N ga ha gr hr hh page l' l' G ∧ Only (fun b => b = ha ∨ b = hr) w w' := by
  by_cases h2 : o.d = 2
  · exact laysPut w P o h2 ok
  by_cases h4 : o.d = 4
  · exact laysWrite w P o h4 ok
  by_cases h5 : o.d = 5
  · exact laysFill w P o h5 ok
  by_cases h6 : o.d = 6
  · exact laysMove w P o h6 ok
  exact laysOther w P o ⟨h2, h4, h5, h6⟩
end Go.Proofs.Ytnjobnccknpaeaa.Exact
