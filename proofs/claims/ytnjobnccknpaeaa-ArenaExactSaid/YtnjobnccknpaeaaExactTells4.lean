/-
  The walk of pair.tells, one theorem for each kind of call.
-/
import Derived.Test.YtnjobnccknpaeaaExactTells
import Derived.Test.YtnjobnccknpaeaaBookLend
import Derived.Deep.RegionHeld3
import Derived.Deep.DrawnRows
namespace Go.Proofs.Ytnjobnccknpaeaa.Exact
open Go.RowKit Base Arena Held Book
set_option linter.unusedVariables false

set_option maxRecDepth 100000 in
set_option maxHeartbeats 1600000 in
theorem tellsPage (w : World) {p N ga ha gr hr hh page : Nat} {l : List UInt8} {G : Nat → Prop} (P : Pair2 w p N ga ha gr hr hh page l l G) (o : Op) (hd : o.d = 8) (ok : o.Ok w N) :
    Calls Try.prog 33 #[.pointer (some ⟨p, 0, none⟩), .agg o.cells] w fun e w' => e = .returned (.bool true) ∧ ∃ G', Pair2 w' p N ga ha gr hr hh page l l G' ∧ Only G w w' ∧ ∀ b, G' b → G b ∨ w.heap.size ≤ b := by
  obtain ⟨d, which, pl, tt, n, width, v, A, q, c, own⟩ := o
  obtain ⟨i1, i2, i3, i4, i5, i6, hv, hq, hb⟩ := ok
  simp only at hd i1 i2 i3 i4 i5 i6 hv hq hb
  subst hd
  unfold Op.cells
  simp only
  obtain ⟨w1, hw1, b1, hs1, x0, -, x2, -⟩ := boxed w ⟨8, which, pl, tt, n, width, v, A, q, c, own⟩
  unfold Op.cells at hw1
  simp only at x0 x2 hw1
  have P1 := P.below b1
  have o1 : Only G w w1 := (Only.refl _ w).below b1 (Nat.le_refl _)
  replace hw1 := Lib.hid hw1
  have hLl : (pgL page l pl).length ≤ 1073741824 := Nat.le_trans pgL_le P.a.small
  have GJ := fun (W : World) (P : Pair2 W p N ga ha gr hr hh page l l G) => pageJ P pl i1
  have RJ := fun (W : World) (P : Pair2 W p N ga ha gr hr hh page l l G) => refWholeJ P pl i1
  have NJ := Lib.hid (numC (pgC page l.length pl) (by unfold pgC inI64; split <;> omega))
  generalize pgC page l.length pl = C at *
  generalize pgL page l pl = L at *
  replace GJ := Lib.hid GJ
  replace RJ := Lib.hid RJ
  go_enter Try.func33, Try.ntmps33
  go_upto_region 1 with fail
  rw [← hw1.out]
  obtain ⟨k0, -⟩ := P1.cells
  have G1 := Lib.hid (GJ.out w1.drew (P1.drewN 1))
  clear GJ
  go_wp2_with fail
  have hp1 : p < w1.heap.size := heap_lt P1.head
  have hbx : w.heap.size < w1.heap.size := by omega
  go_region_held3 (fun w' => w'.cell? ⟨p, 0, none⟩ = some (.pointer (some ⟨ga, 0, none⟩)) ∧ w'.cell? ⟨w.heap.size, 2, none⟩ = some (.int .i64 pl)) (first | (go_keep; done) | exact ⟨(b2.cell (p := ⟨p, 0, none⟩) hp1).trans k0, (b2.cell (p := ⟨w.heap.size, 2, none⟩) hbx).trans x2⟩)
    (first | (go_at_call 53; refine G1.out.mono ?_; rintro e w2 ⟨A1, rfl, B2, b2⟩))
  have b2' : Below w1.heap.size w1 w2 := ⟨b2.os, b2.tape, b2.output, b2.size, b2.block⟩
  have P2 := P1.below b2'
  have hbx : w.heap.size < w1.heap.size := by omega
  have y2 := (b2'.cell (p := ⟨w.heap.size, 2, none⟩) hbx).trans x2
  have b02 : Below w.heap.size w w2 := b1.trans (b2'.mono (by omega))
  have hs12 : w1.heap.size ≤ w2.heap.size := b2'.size
  have B2' : BRow w2 w.heap.size (.slice A1 L.length L.length) L := by
    rcases B2 with h | ⟨g, h1, h2, h3⟩
    · exact .inl h
    · exact .inr ⟨g, h1, by have : w1.heap.size ≤ g := h2; omega, h3⟩
  clear x0 x2 k0 G1 B2 b2 b2' P1 b1
  obtain ⟨-, k1, -⟩ := P2.cells
  have R1 := Lib.hid (RJ.out w2.drew (P2.drewN 1))
  clear RJ
  replace B2' := Lib.hid B2'
  replace P2 := Lib.hid P2
  replace o1 := Lib.hid o1
  replace hw1 := Lib.hid hw1
  go_wp2_with fail
  have hp2 : p < w2.heap.size := heap_lt P2.out.head
  have hbx2 : w.heap.size < w2.heap.size := by omega
  go_region_held3 (fun w' => w'.cell? ⟨p, 1, none⟩ = some (.pointer (some ⟨gr, 0, none⟩)) ∧ w'.cell? ⟨w.heap.size, 2, none⟩ = some (.int .i64 pl)) (first | (go_keep; done) | exact ⟨(b3.cell (p := ⟨p, 1, none⟩) hp2).trans k1, (b3.cell (p := ⟨w.heap.size, 2, none⟩) hbx2).trans y2⟩)
    (first | (go_at_call 69; refine R1.out.mono ?_; rintro e w3 ⟨A3, c3, rfl, q3, hA3, b3⟩))
  have b3' : Below w2.heap.size w2 w3 := ⟨b3.os, b3.tape, b3.output, b3.size, b3.block⟩
  have hA3' : ∀ b off, A3 = some ⟨b, off, none⟩ → w.heap.size ≤ b := fun b off h => by
    have h1 : w2.heap.size ≤ b := hA3 b off h
    omega
  have b03 : Below w.heap.size w w3 := b02.trans (b3'.mono (by omega))
  have B3 : BRow w3 w.heap.size (.slice A1 L.length L.length) L := B2'.out.keep fun g hg => b3'.block g (B2'.out.lt g hg).2
  have P3 := P2.out.below b3'
  obtain ⟨-, -, k2⟩ := P3.cells
  have EJ : Calls Try.prog 23 #[.slice A1 L.length L.length, .slice A3 L.length c3] w3 fun e w' => e = .returned (.bool true) ∧ w3 = w' := by
    obtain ⟨A4, h4, h5⟩ := B3.bytes
    injection h4 with h4
    subst h4
    refine (eqC A1 A3 L.length c3 w3.heap.size L L w3 h5 q3).mono ?_
    rintro e w' ⟨rfl, rfl⟩
    exact ⟨by simp, rfl⟩
  have AJ := Lib.hid (addJ P b03 L A1 A3 c3 B3 hLl q3 hA3')
  replace EJ := Lib.hid EJ
  clear R1 b3 b3' hA3 hA3' b02 b03 B2' B3 P2 P3 o1 q3 k1 y2
  go_wp2_with fail
  refine (NJ.out _).mono ?_
  rintro e w' ⟨rfl, rfl⟩
  go_wp2_with fail
  refine EJ.out.mono ?_
  rintro e w' ⟨rfl, rfl⟩
  go_wp2_with fail
  refine AJ.out.mono ?_
  rintro e w4 ⟨rfl, G4, P4, o4, s4⟩
  replace P4 := Lib.hid P4
  replace o4 := Lib.hid o4
  replace s4 := Lib.hid s4
  clear AJ EJ NJ k2 hLl
  go_wp2
  go_ret
  exact ⟨rfl, G4, P4.out, o4.out, s4.out⟩

end Go.Proofs.Ytnjobnccknpaeaa.Exact
