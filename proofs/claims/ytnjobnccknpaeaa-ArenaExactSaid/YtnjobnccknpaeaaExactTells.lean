/-
  The walk of pair.tells, one theorem for each kind of call.
-/
import Derived.Test.YtnjobnccknpaeaaExactLays
import Derived.Test.YtnjobnccknpaeaaExactTold
import Derived.Test.YtnjobnccknpaeaaBookLend
import Derived.StillTailTactics
namespace Go.Proofs.Ytnjobnccknpaeaa.Exact
open Go.RowKit Base Arena Held Book
set_option linter.unusedVariables false

theorem quietD {P : Program} {f : FuncId} {args : Array Value} {w : World} {n : Nat} {v : Value}
    (h : Calls P f args (w.drewN n) fun e w' => e = .returned v ∧ ∃ m, (w.drewN n).drewN m = w') : Calls P f args (w.drewN n) fun e w'' => e = .returned v ∧ ∃ m, w'' = w.drewN m :=
  h.mono fun _ _ ⟨he, m, hm⟩ => ⟨he, n + m, by rw [← hm, World.drewN_drewN]⟩

set_option maxRecDepth 100000 in
set_option maxHeartbeats 1600000 in
theorem tellsGet (w : World) {p N ga ha gr hr hh page : Nat} {l : List UInt8} {G : Nat → Prop} (P : Pair2 w p N ga ha gr hr hh page l l G) (o : Op) (hd : o.d = 1) (ok : o.Ok w N) :
    Calls Try.prog 33 #[.pointer (some ⟨p, 0, none⟩), .agg o.cells] w fun e w' => e = .returned (.bool true) ∧ ∃ G', Pair2 w' p N ga ha gr hr hh page l l G' ∧ Only G w w' ∧ ∀ b, G' b → G b ∨ w.heap.size ≤ b := by
  obtain ⟨d, which, pl, tt, n, width, v, A, q, c, own⟩ := o
  obtain ⟨i1, i2, i3, i4, i5, i6, hv, hq, hb⟩ := ok
  simp only at hd i1 i2 i3 i4 i5 i6 hv hq hb
  subst hd
  unfold Op.cells
  simp only
  obtain ⟨w1, hw1, b1, hs1, x0, -, x2, -, -, x5, -, -, x8⟩ := boxed w ⟨1, which, pl, tt, n, width, v, A, q, c, own⟩
  unfold Op.cells at hw1
  simp only at x0 x2 x5 x8 hw1
  have P1 := P.below b1
  have o1 : Only G w w1 := (Only.refl _ w).below b1 (Nat.le_refl _)
  replace hw1 := Lib.hid hw1
  have WO := Lib.hid (widthOfC width i4)
  have hk := widthN_wide width
  generalize widthN width = k at *
  have hkw : Wide k := hk
  have GJ : ∀ (W : World), Pair2 W p N ga ha gr hr hh page l l G → ∀ n, Calls Try.prog 14 #[.pointer (some ⟨ga, 0, none⟩), .int .i64 pl, .int .i64 (k : Int), .bool own] (W.drewN n) fun e w' =>
      e = .returned (.tuple #[.int .u64 (gtN page l pl k : Int), .int .i64 (cd page l.length pl k)]) ∧ ∃ m, w' = W.drewN m := fun W P n => quietD (getJ (P.drewN n) k hkw own pl i1)
  have RJ : ∀ (W : World), Pair2 W p N ga ha gr hr hh page l l G → ∀ n, Calls Try.prog 65 #[.pointer (some ⟨gr, 0, none⟩), .int .i64 pl, .int .i64 (k : Int)] (W.drewN n) fun e w' =>
      e = .returned (.tuple #[.int .u64 (gtN page l pl k : Int), .int .i64 (cd page l.length pl k)]) ∧ ∃ m, w' = W.drewN m := fun W P n => quietD (refGetJ (P.drewN n) k hkw pl i1)
  generalize cd page l.length pl k = C at *
  generalize gtN page l pl k = z at *
  clear hk hkw
  replace GJ := Lib.hid GJ
  replace RJ := Lib.hid RJ
  go_enter Try.func33, Try.ntmps33
  go_upto_region 1 with fail
  rw [← hw1.out]
  obtain ⟨k0, k1, -⟩ := P1.cells
  replace P1 := Lib.hid P1
  replace o1 := Lib.hid o1
  clear b1 hs1
  go_wp2_with fail
  have G1 := Lib.hid (GJ.out _ P1.out)
  go_quiet ((first
    | (go_at_call 11; with_reducible exact quiet_left (WO.out _))
    | (go_at_call 14; with_reducible exact (G1.out _))))
  have P2 := Lib.hid (P1.out.drewN nq)
  have o2 := Lib.hid (o1.out.drewN nq)
  have y2 : (w1.drewN nq).cell? ⟨w.heap.size, 2, none⟩ = some (.int .i64 pl) := x2
  have y5 : (w1.drewN nq).cell? ⟨w.heap.size, 5, none⟩ = some (.int .i64 width) := x5
  have y1 : (w1.drewN nq).cell? ⟨p, 1, none⟩ = some (.pointer (some ⟨gr, 0, none⟩)) := k1
  clear x0 x2 x5 x8 k0 k1 P1 o1 GJ G1 hw1
  generalize w1.drewN nq = w2 at *
  have R1 := Lib.hid (RJ.out _ P2.out)
  clear RJ
  go_wp2_with fail
  go_quiet ((first
    | (go_at_call 11; with_reducible exact quiet_left (WO.out _))
    | (go_at_call 65; with_reducible exact (R1.out _))))
  have P3 := Lib.hid (P2.out.drewN nq)
  have o3 := Lib.hid (o2.out.drewN nq)
  clear y2 y5 y1 P2 o2 R1 WO
  generalize w2.drewN nq = w3 at *
  go_wp2
  go_ret
  exact ⟨rfl, G, P3.out, o3.out, fun b h => .inl h⟩

set_option maxRecDepth 100000 in
set_option maxHeartbeats 1600000 in
theorem tellsOther (w : World) {p N ga ha gr hr hh page : Nat} {l : List UInt8} {G : Nat → Prop} (P : Pair2 w p N ga ha gr hr hh page l l G) (o : Op) (hd : o.d ≠ 1 ∧ o.d ≠ 3 ∧ o.d ≠ 7 ∧ o.d ≠ 8) :
    Calls Try.prog 33 #[.pointer (some ⟨p, 0, none⟩), .agg o.cells] w fun e w' => e = .returned (.bool true) ∧ ∃ G', Pair2 w' p N ga ha gr hr hh page l l G' ∧ Only G w w' ∧ ∀ b, G' b → G b ∨ w.heap.size ≤ b := by
  obtain ⟨d, which, pl, tt, n, width, v, A, q, c, own⟩ := o
  obtain ⟨h2, h4, h5, h6⟩ := hd
  simp only at h2 h4 h5 h6
  unfold Op.cells
  simp only
  obtain ⟨w1, hw1, b1, hs1, x0, -⟩ := boxed w ⟨d, which, pl, tt, n, width, v, A, q, c, own⟩
  unfold Op.cells at hw1
  simp only at x0 hw1
  have P1 := P.below b1
  have o1 : Only G w w1 := (Only.refl _ w).below b1 (Nat.le_refl _)
  replace hw1 := Lib.hid hw1
  go_enter Try.func33, Try.ntmps33
  go_upto_region 1 with fail
  rw [← hw1.out]
  clear b1
  replace o1 := Lib.hid o1
  replace P1 := Lib.hid P1
  go_wp2
  go_ret
  exact ⟨rfl, G, P1.out, o1.out, fun b h => .inl h⟩

end Go.Proofs.Ytnjobnccknpaeaa.Exact
