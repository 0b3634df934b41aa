/-
  The walk of pair.tells, one theorem for each kind of call.
-/
import Derived.Test.YtnjobnccknpaeaaExactTells
import Derived.Test.YtnjobnccknpaeaaBookLend
import Derived.Deep.RegionHeld3
import Derived.Deep.DrawnRows
namespace Go.Proofs.Ytnjobnccknpaeaa.Exact
open Go.RowKit Base Arena Held Book
set_option linter.unusedVariables false

set_option maxRecDepth 100000 in
set_option maxHeartbeats 1600000 in
theorem tellsSame (w : World) {p N ga ha gr hr hh page : Nat} {l : List UInt8} {G : Nat → Prop} (P : Pair2 w p N ga ha gr hr hh page l l G) (o : Op) (hd : o.d = 7) (ok : o.Ok w N) :
    Calls Try.prog 33 #[.pointer (some ⟨p, 0, none⟩), .agg o.cells] w fun e w' => e = .returned (.bool true) ∧ ∃ G', Pair2 w' p N ga ha gr hr hh page l l G' ∧ Only G w w' ∧ ∀ b, G' b → G b ∨ w.heap.size ≤ b := by
  obtain ⟨d, which, pl, tt, n, width, v, A, q, c, own⟩ := o
  obtain ⟨i1, i2, i3, i4, i5, i6, hv, hq, hb⟩ := ok
  simp only at hd i1 i2 i3 i4 i5 i6 hv hq hb
  subst hd
  unfold Op.cells
  simp only
  obtain ⟨w1, hw1, b1, hs1, x0, -, x2, -, -, -, -, x7, -⟩ := boxed w ⟨7, which, pl, tt, n, width, v, A, q, c, own⟩
  unfold Op.cells at hw1
  simp only at x0 x2 x7 hw1
  have P1 := P.below b1
  have o1 : Only G w w1 := (Only.refl _ w).below b1 (Nat.le_refl _)
  replace hw1 := Lib.hid hw1
  have hbx : w.heap.size < w1.heap.size := by omega
  have hNw : N ≤ w.heap.size := by have := P.lo.1; have := heap_lt P.head; omega
  have hb1 : Bytes w1 N A q := Row.below hb (b1.mono hNw)
  have LC := Lib.hid (lendC A c q w1 (Row.more hb1 (by omega)) hq)
  have hqm : q.length ≤ maxLen := by unfold maxLen; omega
  have hLl : (rdL page l pl (q.length : Int)).length ≤ 1073741824 := Nat.le_trans rdL_le P.a.small
  have RJ := fun (W : World) (P : Pair2 W p N ga ha gr hr hh page l l G) => refReadJ P pl (q.length : Int) i1 (by unfold inI64; omega)
  generalize rdL page l pl (q.length : Int) = L at *
  generalize cd page l.length pl (q.length : Int) = C at *
  replace RJ := Lib.hid RJ
  replace hLl := Lib.hid hLl
  replace hqm := Lib.hid hqm
  replace hb1 := Lib.hid hb1
  go_enter Try.func33, Try.ntmps33
  go_upto_region 1 with fail
  rw [← hw1.out]
  go_wp2_with fail
  refine LC.out.mono ?_
  rintro e w2 ⟨g, cap, rfl, hg, hL, b2⟩
  have P2 := P1.below b2
  have y2 := (b2.cell (p := ⟨w.heap.size, 2, none⟩) hbx).trans x2
  have y7 := (b2.cell (p := ⟨w.heap.size, 7, none⟩) hbx).trans x7
  have hb2 := Lib.hid (Row.below hb1.out (b2.mono (by omega)))
  have b02 : Below w.heap.size w w2 := b1.trans (b2.mono (by omega))
  have hs2 : w1.heap.size ≤ w2.heap.size := b2.size
  clear LC x2 x7 x0 P1 b2 hb1 b1 o1
  obtain ⟨-, k1, -⟩ := P2.cells
  have R1 := Lib.hid (RJ.out w2.drew (P2.drewN 1))
  clear RJ
  replace hL := Lib.hid hL
  replace P2 := Lib.hid P2
  go_wp2_with fail
  have hp2 : p < w2.heap.size := heap_lt P2.out.head
  have hbx2 : w.heap.size < w2.heap.size := by omega
  go_region_held3 (fun w' => w'.cell? ⟨p, 1, none⟩ = some (.pointer (some ⟨gr, 0, none⟩)) ∧ w'.cell? ⟨w.heap.size, 2, none⟩ = some (.int .i64 pl) ∧ w'.cell? ⟨w.heap.size, 7, none⟩ = some (.slice A q.length c)) (first | (go_keep; done) | exact ⟨(b3.cell (p := ⟨p, 1, none⟩) hp2).trans k1, (b3.cell (p := ⟨w.heap.size, 2, none⟩) hbx2).trans y2, (b3.cell (p := ⟨w.heap.size, 7, none⟩) hbx2).trans y7⟩)
    (first | (go_at_call 66; refine R1.out.mono ?_; rintro e w3 ⟨A3, c3, rfl, q3, hA3, b3⟩))
  have b3' : Below w2.heap.size w2 w3 := ⟨b3.os, b3.tape, b3.output, b3.size, b3.block⟩
  have hgl : g < w2.heap.size := hL.out.lt
  have L3 : Lent w3 g cap q := hL.out.keep (b3'.block g hgl)
  have b03 : Below w.heap.size w w3 := b02.trans (b3'.mono (by omega))
  have P3 := P2.out.below b3'
  have z2 := (b3'.cell (p := ⟨w.heap.size, 2, none⟩) (by show _ < w2.heap.size; omega)).trans y2
  have z7 := (b3'.cell (p := ⟨w.heap.size, 7, none⟩) (by show _ < w2.heap.size; omega)).trans y7
  have hb3 : Bytes w3 N A q := Row.below hb2.out (b3'.mono (by omega))
  obtain ⟨k0, k1', -⟩ := P3.cells
  have S1 : ∀ n, Calls Try.prog 27 #[.pointer (some ⟨ga, 0, none⟩), .int .i64 pl, .slice (some ⟨g, 0, none⟩) q.length cap] (w3.drewN n) fun e w' => e = .returned (.bool (smB page l pl q)) ∧ ∃ m, w' = w3.drewN m :=
    fun n => quietD (sameJ (P3.drewN n) pl i1 (some ⟨g, 0, none⟩) cap (g + 1) q (L3.bytes (Nat.lt_succ_self g)) hqm.out)
  have S2 : ∀ n, Calls Try.prog 68 #[.pointer (some ⟨gr, 0, none⟩), .int .i64 pl, .slice A q.length c] (w3.drewN n) fun e w' => e = .returned (.bool (smB page l pl q)) ∧ ∃ m, w' = w3.drewN m :=
    fun n => quietD (refSameJ (P3.drewN n) pl i1 A c N q hb3 hqm.out)
  have hLm : L.length ≤ maxLen := by have := hLl.out; unfold maxLen; omega
  have S3 : ∀ n, Calls Try.prog 27 #[.pointer (some ⟨ga, 0, none⟩), .int .i64 pl, .slice A3 L.length c3] (w3.drewN n) fun e w' => e = .returned (.bool (smB page l pl L)) ∧ ∃ m, w' = w3.drewN m :=
    fun n => quietD (sameJ (P3.drewN n) pl i1 A3 c3 w3.heap.size L q3 hLm)
  have S4 : ∀ n, Calls Try.prog 68 #[.pointer (some ⟨gr, 0, none⟩), .int .i64 pl, .slice A3 L.length c3] (w3.drewN n) fun e w' => e = .returned (.bool (smB page l pl L)) ∧ ∃ m, w' = w3.drewN m :=
    fun n => quietD (refSameJ (P3.drewN n) pl i1 A3 c3 w3.heap.size L q3 hLm)
  generalize smB page l pl q = u1 at *
  generalize smB page l pl L = u2 at *
  replace S1 := Lib.hid S1
  replace S2 := Lib.hid S2
  replace S3 := Lib.hid S3
  replace S4 := Lib.hid S4
  replace P3 := Lib.hid P3
  replace L3 := Lib.hid L3
  replace hb3 := Lib.hid hb3
  replace b03 := Lib.hid b03
  clear k1 R1 P2 hL hb2 b02 b3 b3' y2 y7 hA3 q3 hLm
  go_wp2_with fail
  go_quiet ((first
    | (go_at_call 27; with_reducible exact (S1.out _))
    | (go_at_call 27; with_reducible exact (S3.out _))
    | (go_at_call 68; with_reducible exact (S2.out _))
    | (go_at_call 68; with_reducible exact (S4.out _))))
  have P4 := Lib.hid (P3.out.drewN nq)
  have o4 : Only G w (w3.drewN nq) := ((Only.refl _ w).below b03.out (Nat.le_refl _)).drewN nq
  have v7 : (w3.drewN nq).cell? ⟨w.heap.size, 7, none⟩ = some (.slice A q.length c) := z7
  have IC := Lib.hid (intactC g cap A c N q (w3.drewN nq) (L3.out.keep rfl) hb3.out hq)
  clear z2 z7 S1 S2 S3 S4 k0 k1' L3 hb3 P3 b03
  generalize w3.drewN nq = w4 at *
  replace o4 := Lib.hid o4
  go_wp2_with fail
  refine IC.out.mono ?_
  rintro e w5 ⟨rfl, m, hw5⟩
  have P5 : Pair2 w5 p N ga ha gr hr hh page l l G := by rw [← hw5]; exact P4.out.drewN m
  have o5 : Only G w w5 := by rw [← hw5]; exact o4.out.drewN m
  replace P5 := Lib.hid P5
  replace o5 := Lib.hid o5
  clear hw5 IC P4 o4 v7
  go_wp2
  go_ret
  exact ⟨rfl, G, P5.out, o5.out, fun b h => .inl h⟩

end Go.Proofs.Ytnjobnccknpaeaa.Exact
