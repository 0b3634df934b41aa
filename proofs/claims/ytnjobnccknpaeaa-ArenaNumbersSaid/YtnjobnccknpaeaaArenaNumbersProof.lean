/-
  PROVED: ArenaNumbersSaid: for every place, width, number, neighbours and kind of type the law ArenaNumbers returns true; the argument reads as it did. No condition.
-/
import Derived.Test.YtnjobnccknpaeaaAgg
import Derived.Test.YtnjobnccknpaeaaArenaNumbersWalk4
import Derived.Test.YtnjobnccknpaeaaArenaNumbersWalk8
namespace Go.Proofs.Ytnjobnccknpaeaa.arenaNumbers
open Go.ChangeShapes Go.WideShapes Go.ChangeAt Go.RowKit LawFrame Go.Deep
set_option linter.unusedVariables false

set_option maxRecDepth 100000 in
theorem contract {H : Type} {enc : TypeId × Value → H} (W : World) (args : Array Value) (ds : List (DataW H)) (p : List MemPlace)
    (hval : ∀ (j : Nat) t v, Try.f3.params[j]? = some t → args[j]? = some v → Value.okWide Try.prog W .any 0 t v)
    (hA : DataW.TrodAll enc Try.prog W 0 (fun _ => true) true Try.f3.params.toList args.toList ds p) (hlt : ∀ x ∈ p, x.block < W.heap.size) :
    Calls Try.prog 3 args W fun e W' => e = .returned (.bool true) ∧ Below W.heap.size W W' := by
  rw [Try.params3] at hA hval
  obtain ⟨v0, d0, rfl, rfl, h0⟩ := trodAll_one hA
  obtain ⟨c0, c1, c2, c3, c4, y0, y1, y2, y3, y4, n, rfl, -, t0, t1, t2, t3, t4⟩ := LawFrame.open_agg5 Try.underlying24 (by kernel_rfl) (by kernel_rfl) (hval 0 24 v0 rfl rfl) h0
  obtain ⟨x0, e0, -, w0⟩ := DataW.trod_int Try.underlying3 t0
  obtain ⟨x1, e1, -, w1⟩ := DataW.trod_int Try.underlying3 t1
  obtain ⟨x2, e2, -, w2⟩ := DataW.trod_int Try.underlying22 t2
  obtain ⟨x3, e3, -, w3⟩ := DataW.trod_int Try.underlying22 t3
  obtain ⟨x4, e4, -⟩ := DataW.trod_bool Try.underlying4 t4
  simp only [List.cons.injEq, and_true] at e0 e1 e2 e3 e4
  subst e0 e1 e2 e3 e4
  obtain ⟨v, rfl, hv⟩ := u64_nat w2
  obtain ⟨a, rfl, ha⟩ := u64_nat w3
  have hw : Arena.Wide (Arena.widthN x1) := Arena.widthN_wide x1
  rcases hw with h | h | h | h
  · exact Arena.num1 W x0 x1 v a x4 (i64_bd w0) (i64_bd w1) h hv ha
  · exact Arena.num2 W x0 x1 v a x4 (i64_bd w0) (i64_bd w1) h hv ha
  · exact Arena.num4 W x0 x1 v a x4 (i64_bd w0) (i64_bd w1) h hv ha
  · exact Arena.num8 W x0 x1 v a x4 (i64_bd w0) (i64_bd w1) h hv ha

set_option maxRecDepth 100000 in
theorem lifted (os : Os) (started : os.Started) (H : Type) (enc : TypeId × Value → H) :
    ReturnsInHanded {} Try.checked os 3 .any (Rows.arenaNumbersSpec.pre6 enc Try.prog Try.f3 Rows.arenaNumbersRow.domain false) (Rows.arenaNumbersSpec.post enc Try.prog Try.f3 false true false false) := by
  refine returnsInHanded_of_change (C := Try.checked) own started (by kernel_rfl) Try.func3
    (ChangeSpec.witness6 (enc := enc) (C := Try.checked) false ⟨#[], #[.agg #[.int .i64 0, .int .i64 0, .int .u64 0, .int .u64 0, .bool false]], []⟩ 8 (by kernel_rfl) (by kernel_rfl) (by kernel_rfl) (by kernel_rfl)) ?_
  intro W base args ds gs before hval hW _ _
  have hW' := hW
  obtain ⟨p, q, hA, hV, rfl, hfz, hnd⟩ := hW
  refine (contract W args ds p hval hA (fun x hx => hW'.lt x (List.mem_append_left _ hx))).mono fun e W' ⟨he, hb⟩ => ?_
  subst he
  exact ⟨_, rfl, post_of_law (tb := 4) (n := 1) laid (by kernel_rfl) rfl rfl Try.underlying4 rfl (fun ds h => match ds, h with | [_], _ => rfl) hW' hb⟩

theorem proved : Rows.ArenaNumbersSaid :=
  OpenClaim.holds_of_wide 3 Try.f3 rfl rfl rfl rfl rfl rfl rfl ⟨rfl, rfl, rfl, rfl, rfl⟩ rfl rfl rfl rfl rfl (by kernel_rfl) Try.func3 (by kernel_rfl)
    (of_decide_eq_true (by kernel_rfl)) (by unfold Func.isWrapper; first | (rw [if_pos (by decide +kernel)]; kernel_rfl) | (rw [if_neg (by decide +kernel)]; exact ⟨rfl, rfl⟩))
    (fun os started H enc _ => lifted os started H enc)
#print axioms proved
end Go.Proofs.Ytnjobnccknpaeaa.arenaNumbers
