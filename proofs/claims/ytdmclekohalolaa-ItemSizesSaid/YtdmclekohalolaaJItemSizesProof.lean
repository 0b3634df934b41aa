/-
  PROVED: ItemSizesSaid: for every list of lengths and keys the law ItemSizes returns true; the argument reads as it did. No condition (each list of bytes is below 2^47 by the form's own reach).
-/
import Derived.Test.YtdmclekohalolaaJ8
namespace Go.Proofs.Ytdmclekohalolaa.itemSizes
open Go.ChangeShapes Go.WideShapes Go.ChangeAt Go.RowKit LawFrame Go.Deep
set_option linter.unusedVariables false

set_option maxRecDepth 100000 in
theorem contract {H : Type} {enc : TypeId × Value → H} (W : World) (args : Array Value) (ds : List (DataW H)) (p : List MemPlace)
    (hval : ∀ (j : Nat) t v, Try.f4.params[j]? = some t → args[j]? = some v → Value.okWide Try.prog W .any 0 t v)
    (hA : DataW.TrodAll enc Try.prog W 0 (fun _ => true) true Try.f4.params.toList args.toList ds p) (hlt : ∀ x ∈ p, x.block < W.heap.size) (hz : ∀ (j : Nat) (t : TypeId) (d : DataW H), Try.f4.params[j]? = some t → ds[j]? = some d → ∀ n ∈ d.weights Try.prog t, n ≤ reachBytes) :
    Calls Try.prog 4 args W fun e W' => e = .returned (.bool true) ∧ Below W.heap.size W W' := by
  rw [Try.params4] at hA hval hz
  obtain ⟨v0, d0, rfl, rfl, fuel, h0⟩ := trodAll_one hA
  have hz0 := hz 0 25 d0 rfl rfl
  obtain ⟨a0, len, cap, rfl⟩ := okWide_slice Try.underlying25 (hval 0 25 v0 rfl rfl)
  obtain ⟨hl, hm, hi⟩ := fields_weight Try.underlying25 Try.underlying30 (by kernel_rfl) (by kernel_rfl) (by decide) h0
  obtain ⟨l, rfl, hP⟩ := list_of (fun k (z : Itm.Sz) => Itm.RowZ W a0 k z) len (by
    intro k hk
    obtain ⟨b, off, n, rfl, hb, hfi⟩ := hi k hk
    obtain ⟨v0, y0, hc0, ht0, -⟩ := hfi 0 _ rfl
    obtain ⟨v1, y1, hc1, ht1, -⟩ := hfi 1 _ rfl
    obtain ⟨v2, y2, hc2, ht2, hbk⟩ := hfi 2 _ rfl
    obtain ⟨x0, e0, -, w0⟩ := DataW.trod_int Try.underlying3 ht0
    obtain ⟨x1, e1, -, w1⟩ := DataW.trod_int Try.underlying3 ht1
    obtain ⟨A7, c7, l7, rfl, hl7, hb7⟩ := bytes_form ht2 (fun m hm => hz0 m (hbk m hm))
    simp only [List.cons.injEq, and_true] at e0 e1
    subst e0 e1
    exact ⟨⟨x0, x1, l7⟩, b, off, A7, c7, rfl, hb, hc0, hc1, hc2, hb7, hl7⟩)
  exact Itm.itemSizesC W a0 cap l (by omega) hP

set_option maxRecDepth 100000 in
theorem lifted (os : Os) (started : os.Started) (H : Type) (enc : TypeId × Value → H) :
    ReturnsInHanded {} Try.checked os 4 .any (Rows.itemSizesSpec.pre6 enc Try.prog Try.f4 Rows.itemSizesRow.domain false) (Rows.itemSizesSpec.post enc Try.prog Try.f4 false true false false) := by
  refine returnsInHanded_of_change_sized (C := Try.checked) own started (by kernel_rfl) Try.func4
    (ChangeSpec.witness6 (enc := enc) (C := Try.checked) false ⟨#[], #[.slice none 0 0], []⟩ 8 (by kernel_rfl) (by kernel_rfl) (by kernel_rfl) (by kernel_rfl)) ?_
  intro W base args ds gs before hval hW _ hz _
  have hW' := hW
  obtain ⟨p, q, hA, hV, rfl, hfz, hnd⟩ := hW
  refine (contract W args ds p hval hA (fun x hx => hW'.lt x (List.mem_append_left _ hx)) (fun j t d ht hd => reach_of hz (by rw [Array.getElem?_toList]; exact ht) hd)).mono fun e W' ⟨he, hb⟩ => ?_
  subst he
  exact ⟨_, rfl, post_of_law (tb := 4) (n := 1) laid (by kernel_rfl) rfl rfl Try.underlying4 rfl (fun ds h => match ds, h with | [_], _ => rfl) hW' hb⟩

theorem proved : Rows.ItemSizesSaid :=
  OpenClaim.holds_of_wide 4 Try.f4 rfl rfl rfl rfl rfl rfl rfl ⟨rfl, rfl, rfl, rfl, rfl⟩ rfl rfl rfl rfl rfl (by kernel_rfl) Try.func4 (by kernel_rfl)
    (of_decide_eq_true (by kernel_rfl)) (by unfold Func.isWrapper; first | (rw [if_pos (by decide +kernel)]; kernel_rfl) | (rw [if_neg (by decide +kernel)]; exact ⟨rfl, rfl⟩))
    (fun os started H enc _ => lifted os started H enc)
#print axioms proved
end Go.Proofs.Ytdmclekohalolaa.itemSizes
