/-
  PROVED: ArenaApartSaid: for every row of a call the law ArenaApart returns true; the argument reads as it did. No condition.
-/
import Derived.Test.YtnjobnccknpaeaaAgg
import Derived.Test.YtnjobnccknpaeaaArenaApartWalk
namespace Go.Proofs.Ytnjobnccknpaeaa.arenaApart
open Go.ChangeShapes Go.WideShapes Go.ChangeAt Go.RowKit LawFrame Go.Deep
set_option linter.unusedVariables false

set_option maxRecDepth 100000 in
theorem contract {H : Type} {enc : TypeId × Value → H} (W : World) (args : Array Value) (ds : List (DataW H)) (p : List MemPlace)
    (hval : ∀ (j : Nat) t v, Try.f5.params[j]? = some t → args[j]? = some v → Value.okWide Try.prog W .any 0 t v)
    (hA : DataW.TrodAll enc Try.prog W 0 (fun _ => true) true Try.f5.params.toList args.toList ds p) (hlt : ∀ x ∈ p, x.block < W.heap.size) :
    Calls Try.prog 5 args W fun e W' => e = .returned (.bool true) ∧ Below W.heap.size W W' := by
  rw [Try.params5] at hA hval
  obtain ⟨v0, d0, rfl, rfl, h0⟩ := trodAll_one hA
  obtain ⟨c0, c1, c2, c3, c4, c5, c6, c7, c8, y0, y1, y2, y3, y4, y5, y6, y7, y8, n, rfl, -, t0, t1, t2, t3, t4, t5, t6, t7, t8⟩ := LawFrame.open_agg9 Try.underlying40 (by kernel_rfl) (by kernel_rfl) (hval 0 40 v0 rfl rfl) h0
  obtain ⟨x0, e0, -, w0⟩ := DataW.trod_int Try.underlying3 t0
  obtain ⟨x1, e1, -, w1⟩ := DataW.trod_int Try.underlying3 t1
  obtain ⟨x2, e2, -, w2⟩ := DataW.trod_int Try.underlying3 t2
  obtain ⟨x3, e3, -, w3⟩ := DataW.trod_int Try.underlying3 t3
  obtain ⟨x4, e4, -, w4⟩ := DataW.trod_int Try.underlying3 t4
  obtain ⟨x5, e5, -, w5⟩ := DataW.trod_int Try.underlying3 t5
  obtain ⟨x6, e6, -, w6⟩ := DataW.trod_int Try.underlying22 t6
  simp only [List.cons.injEq, and_true] at e0 e1 e2 e3 e4 e5 e6
  subst e0 e1 e2 e3 e4 e5 e6
  obtain ⟨v, rfl, hv⟩ := u64_nat w6
  by_cases h4 : x0 = 4
  · subst h4
    exact Arena.apart4 W x1 x2 x3 x4 x5 v _ _ (i64_bd w1) (i64_bd w2) (i64_bd w3) (i64_bd w4) (i64_bd w5)
  by_cases h5 : x0 = 5
  · subst h5
    exact Arena.apart5 W x1 x2 x3 x4 x5 v _ _ (i64_bd w1) (i64_bd w2) (i64_bd w3) (i64_bd w4) (i64_bd w5)
  exact Arena.apartE W x0 x1 x2 x3 x4 x5 v _ _ (i64_bd w1) (i64_bd w2) (i64_bd w3) (i64_bd w4) (i64_bd w5) h4 h5

set_option maxRecDepth 100000 in
theorem lifted (os : Os) (started : os.Started) (H : Type) (enc : TypeId × Value → H) :
    ReturnsInHanded {} Try.checked os 5 .any (Rows.arenaApartSpec.pre6 enc Try.prog Try.f5 Rows.arenaApartRow.domain false) (Rows.arenaApartSpec.post enc Try.prog Try.f5 false true false false) := by
  refine returnsInHanded_of_change (C := Try.checked) own started (by kernel_rfl) Try.func5
    (ChangeSpec.witness6 (enc := enc) (C := Try.checked) false ⟨#[], #[.agg #[.int .i64 0, .int .i64 0, .int .i64 0, .int .i64 0, .int .i64 0, .int .i64 0, .int .u64 0, .slice none 0 0, .bool false]], []⟩ 8 (by kernel_rfl) (by kernel_rfl) (by kernel_rfl) (by kernel_rfl)) ?_
  intro W base args ds gs before hval hW _ _
  have hW' := hW
  obtain ⟨p, q, hA, hV, rfl, hfz, hnd⟩ := hW
  refine (contract W args ds p hval hA (fun x hx => hW'.lt x (List.mem_append_left _ hx))).mono fun e W' ⟨he, hb⟩ => ?_
  subst he
  exact ⟨_, rfl, post_of_law (tb := 4) (n := 1) laid (by kernel_rfl) rfl rfl Try.underlying4 rfl (fun ds h => match ds, h with | [_], _ => rfl) hW' hb⟩

theorem proved : Rows.ArenaApartSaid :=
  OpenClaim.holds_of_wide 5 Try.f5 rfl rfl rfl rfl rfl rfl rfl ⟨rfl, rfl, rfl, rfl, rfl⟩ rfl rfl rfl rfl rfl (by kernel_rfl) Try.func5 (by kernel_rfl)
    (of_decide_eq_true (by kernel_rfl)) (by unfold Func.isWrapper; first | (rw [if_pos (by decide +kernel)]; kernel_rfl) | (rw [if_neg (by decide +kernel)]; exact ⟨rfl, rfl⟩))
    (fun os started H enc _ => lifted os started H enc)
#print axioms proved
end Go.Proofs.Ytnjobnccknpaeaa.arenaApart
