/-
  PROVED: TideOrderSaid: for every list of puts the law TideOrder returns true; the argument reads as it did. No condition.
-/
import Derived.Test.YteebcdicocmicaaFrame
import Derived.Test.YteebcdicocmicaaTideOrderLaw
namespace Go.Proofs.Yteebcdicocmicaa.tideOrder
open Go.ChangeShapes Go.WideShapes Go.ChangeAt Go.RowKit LawFrame
set_option linter.unusedVariables false

set_option maxRecDepth 100000 in
theorem contract {H : Type} {enc : TypeId × Value → H} (W : World) (args : Array Value) (ds : List (DataW H)) (p : List MemPlace)
    (hval : ∀ (j : Nat) t v, Try.f7.params[j]? = some t → args[j]? = some v → Value.okWide Try.prog W .any 0 t v)
    (hA : DataW.TrodAll enc Try.prog W 0 (fun _ => true) true Try.f7.params.toList args.toList ds p) (hlt : ∀ x ∈ p, x.block < W.heap.size) :
    Calls Try.prog 7 args W fun e W' => e = .returned (.bool true) ∧ Below W.heap.size W W' := by
  rw [Try.params7] at hA hval
  obtain ⟨v0, d0, rfl, rfl, h0⟩ := trodAll_one hA
  obtain ⟨a0, len, cap, rfl⟩ := okWide_slice Try.underlying62 (hval 0 62 v0 rfl rfl)
  obtain ⟨fuel, hf⟩ := h0
  obtain ⟨hl, hm, hi⟩ := fields_at Try.underlying62 Try.underlying67 (by kernel_rfl) (by kernel_rfl) (by decide) hf
  obtain ⟨l, hlen, hP⟩ := list_of (fun k (t : Tide.Pt) => ∃ b off, a0 = some (⟨b, off, none⟩ : Addr) ∧ b < W.heap.size ∧ Tide.i64ok t.h ∧ Tide.i64ok t.e ∧
      W.cell? ⟨b, off + k * 2, none⟩ = some (.int .i64 t.h) ∧ W.cell? ⟨b, off + k * 2 + 1, none⟩ = some (.int .i64 t.e)) len (by
      intro k hk
      obtain ⟨b, off, n, rfl, hb, hfi⟩ := hi k hk
      obtain ⟨v0, y0, hc0, ht0⟩ := hfi 0 _ rfl
      obtain ⟨v1, y1, hc1, ht1⟩ := hfi 1 _ rfl
      obtain ⟨x0, e0, -, wx0⟩ := DataW.trod_int Try.underlying3 ht0
      obtain ⟨x1, e1, -, wx1⟩ := DataW.trod_int Try.underlying3 ht1
      simp only [List.cons.injEq, and_true] at e0 e1
      subst e0 e1
      exact ⟨⟨x0, x1⟩, b, off, rfl, hb, i64_bd wx0, i64_bd wx1, hc0, hc1⟩)
  subst hlen
  exact Tide.orderLawC W a0 cap l hP (by omega)

set_option maxRecDepth 100000 in
theorem lifted (os : Os) (started : os.Started) (H : Type) (enc : TypeId × Value → H) :
    ReturnsInHanded {} Try.checked os 7 .any (Rows.tideOrderSpec.pre6 enc Try.prog Try.f7 Rows.tideOrderRow.domain false) (Rows.tideOrderSpec.post enc Try.prog Try.f7 false true false false) := by
  refine returnsInHanded_of_change (C := Try.checked) own started (by kernel_rfl) Try.func7
    (ChangeSpec.witness6 (enc := enc) (C := Try.checked) false ⟨#[], #[.slice none 0 0], []⟩ 8 (by kernel_rfl) (by kernel_rfl) (by kernel_rfl) (by kernel_rfl)) ?_
  intro W base args ds gs before hval hW _ _
  have hW' := hW
  obtain ⟨p, q, hA, hV, rfl, hfz, hnd⟩ := hW
  refine (contract W args ds p hval hA (fun x hx => hW'.lt x (List.mem_append_left _ hx))).mono fun e W' ⟨he, hb⟩ => ?_
  subst he
  exact ⟨_, rfl, post_of_law (tb := 4) (n := 1) laid (by kernel_rfl) rfl rfl Try.underlying4 rfl (fun ds h => match ds, h with | [_], _ => rfl) hW' hb⟩

theorem proved : Rows.TideOrderSaid :=
  OpenClaim.holds_of_wide 7 Try.f7 rfl rfl rfl rfl rfl rfl rfl ⟨rfl, rfl, rfl, rfl, rfl⟩ rfl rfl rfl rfl rfl (by kernel_rfl) Try.func7 (by kernel_rfl)
    (of_decide_eq_true (by kernel_rfl)) (by unfold Func.isWrapper; first | (rw [if_pos (by decide +kernel)]; kernel_rfl) | (rw [if_neg (by decide +kernel)]; exact ⟨rfl, rfl⟩))
    (fun os started H enc _ => lifted os started H enc)
#print axioms proved
end Go.Proofs.Yteebcdicocmicaa.tideOrder
