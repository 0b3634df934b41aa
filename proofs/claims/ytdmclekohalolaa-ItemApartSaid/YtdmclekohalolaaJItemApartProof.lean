/-
  PROVED: ItemApartSaid: for every item the law ItemApart returns true; the argument reads as it did. No condition (each list of bytes is below 2^47 by the form's own reach).
-/
import Derived.Test.YtdmclekohalolaaJ9
import Derived.Test.YtdmclekohalolaaJ13
namespace Go.Proofs.Ytdmclekohalolaa.itemApart
open Go.ChangeShapes Go.WideShapes Go.ChangeAt Go.RowKit LawFrame Go.Deep
set_option linter.unusedVariables false

set_option maxRecDepth 100000 in
theorem contract {H : Type} {enc : TypeId × Value → H} (W : World) (args : Array Value) (ds : List (DataW H)) (p : List MemPlace)
    (hval : ∀ (j : Nat) t v, Try.f7.params[j]? = some t → args[j]? = some v → Value.okWide Try.prog W .any 0 t v)
    (hA : DataW.TrodAll enc Try.prog W 0 (fun _ => true) true Try.f7.params.toList args.toList ds p) (hlt : ∀ x ∈ p, x.block < W.heap.size) (hz : ∀ (j : Nat) (t : TypeId) (d : DataW H), Try.f7.params[j]? = some t → ds[j]? = some d → ∀ n ∈ d.weights Try.prog t, n ≤ reachBytes) :
    Calls Try.prog 7 args W fun e W' => e = .returned (.bool true) ∧ Below W.heap.size W W' := by
  rw [Try.params7] at hA hval hz
  obtain ⟨v0, d0, rfl, rfl, fuel, h0⟩ := trodAll_one hA
  have hz0 := hz 0 39 d0 rfl rfl
  obtain ⟨cs, rfl, hsz⟩ := okWide_struct Try.underlying39 (hval 0 39 v0 rfl rfl)
  obtain ⟨c, Ak, Av, An, ck, cv, cn, hc, ok, kB, vB, nB, hv, hn⟩ := ItmArg.laid_at h0 hz0
  obtain ⟨lc⟩ := cs
  obtain rfl : lc = (c.cells Ak Av An ck cv cn).toList := hc
  exact Itm.itemApartC W c ok Ak Av An ck cv cn kB vB hv

set_option maxRecDepth 100000 in
theorem lifted (os : Os) (started : os.Started) (H : Type) (enc : TypeId × Value → H) :
    ReturnsInHanded {} Try.checked os 7 .any (Rows.itemApartSpec.pre6 enc Try.prog Try.f7 Rows.itemApartRow.domain false) (Rows.itemApartSpec.post enc Try.prog Try.f7 false true false false) := by
  refine returnsInHanded_of_change_sized (C := Try.checked) own started (by kernel_rfl) Try.func7
    (ChangeSpec.witness6 (enc := enc) (C := Try.checked) false ⟨#[], #[.agg #[.int .i64 0, .int .i64 0, .slice none 0 0, .slice none 0 0, .slice none 0 0, .int .u64 0, .int .u64 0, .int .i64 0, .int .i64 0, .int .i64 0, .int .i64 0]], []⟩ 8 (by kernel_rfl) (by kernel_rfl) (by kernel_rfl) (by kernel_rfl)) ?_
  intro W base args ds gs before hval hW _ hz _
  have hW' := hW
  obtain ⟨p, q, hA, hV, rfl, hfz, hnd⟩ := hW
  refine (contract W args ds p hval hA (fun x hx => hW'.lt x (List.mem_append_left _ hx)) (fun j t d ht hd => reach_of hz (by rw [Array.getElem?_toList]; exact ht) hd)).mono fun e W' ⟨he, hb⟩ => ?_
  subst he
  exact ⟨_, rfl, post_of_law (tb := 4) (n := 1) laid (by kernel_rfl) rfl rfl Try.underlying4 rfl (fun ds h => match ds, h with | [_], _ => rfl) hW' hb⟩

theorem proved : Rows.ItemApartSaid :=
  OpenClaim.holds_of_wide 7 Try.f7 rfl rfl rfl rfl rfl rfl rfl ⟨rfl, rfl, rfl, rfl, rfl⟩ rfl rfl rfl rfl rfl (by kernel_rfl) Try.func7 (by kernel_rfl)
    (of_decide_eq_true (by kernel_rfl)) (by unfold Func.isWrapper; first | (rw [if_pos (by decide +kernel)]; kernel_rfl) | (rw [if_neg (by decide +kernel)]; exact ⟨rfl, rfl⟩))
    (fun os started H enc _ => lifted os started H enc)
#print axioms proved
end Go.Proofs.Ytdmclekohalolaa.itemApart
