/-
  PROVED: ClassNewsSaid: for every list of configs the law ClassNews returns true; the argument reads as it did. No condition.
-/
import Derived.Test.YtgodinapdahocaaFrame
import Derived.Test.YtgodinapdahocaaClassNewsLaw
namespace Go.Proofs.Ytgodinapdahocaa.classNews
open Go.ChangeShapes Go.WideShapes Go.ChangeAt Go.RowKit LawFrame
set_option linter.unusedVariables false

set_option maxRecDepth 100000 in
theorem contract {H : Type} {enc : TypeId × Value → H} (W : World) (args : Array Value) (ds : List (DataW H)) (p : List MemPlace)
    (hval : ∀ (j : Nat) t v, Try.f4.params[j]? = some t → args[j]? = some v → Value.okWide Try.prog W .any 0 t v)
    (hA : DataW.TrodAll enc Try.prog W 0 (fun _ => true) true Try.f4.params.toList args.toList ds p) (hlt : ∀ x ∈ p, x.block < W.heap.size) :
    Calls Try.prog 4 args W fun e W' => e = .returned (.bool true) ∧ Below W.heap.size W W' := by
  rw [Try.params4] at hA hval
  obtain ⟨v0, d0, rfl, rfl, h0⟩ := trodAll_one hA
  obtain ⟨a0, len, cap, rfl⟩ := okWide_slice Try.underlying25 (hval 0 25 v0 rfl rfl)
  obtain ⟨fuel, hf⟩ := h0
  obtain ⟨hl, hm, hi⟩ := fields_at Try.underlying25 Try.underlying27 (by kernel_rfl) (by kernel_rfl) (by decide) hf
  obtain ⟨l, hlen, hP⟩ := list_of (fun k (c : Cls.Conf) => Cls.RowC W a0 k c) len (by
      intro k hk
      obtain ⟨b, off, n, rfl, hb, hfi⟩ := hi k hk
      obtain ⟨v0, y0, hc0, ht0⟩ := hfi 0 _ rfl
      obtain ⟨v1, y1, hc1, ht1⟩ := hfi 1 _ rfl
      obtain ⟨v2, y2, hc2, ht2⟩ := hfi 2 _ rfl
      obtain ⟨v3, y3, hc3, ht3⟩ := hfi 3 _ rfl
      obtain ⟨v4, y4, hc4, ht4⟩ := hfi 4 _ rfl
      obtain ⟨v5, y5, hc5, ht5⟩ := hfi 5 _ rfl
      obtain ⟨v6, y6, hc6, ht6⟩ := hfi 6 _ rfl
      obtain ⟨x0, e0, -, wx0⟩ := DataW.trod_int Try.underlying3 ht0
      obtain ⟨x1, e1, -, wx1⟩ := DataW.trod_int Try.underlying3 ht1
      obtain ⟨x2, e2, -, wx2⟩ := DataW.trod_int Try.underlying3 ht2
      obtain ⟨x3, e3, -, wx3⟩ := DataW.trod_int Try.underlying3 ht3
      obtain ⟨x4, e4, -, wx4⟩ := DataW.trod_int Try.underlying3 ht4
      obtain ⟨x5, e5, -, wx5⟩ := DataW.trod_int Try.underlying3 ht5
      obtain ⟨x6, e6, -, wx6⟩ := DataW.trod_int Try.underlying3 ht6
      simp only [List.cons.injEq, and_true] at e0 e1 e2 e3 e4 e5 e6
      subst e0 e1 e2 e3 e4 e5 e6
      exact ⟨⟨x0, x1, x2, x3, x4, x5, x6⟩, b, off, rfl, hb, hc0, hc1, hc2, hc3, hc4, hc5, hc6⟩)
  subst hlen
  exact Cls.newsC W a0 cap l hP (by omega)

set_option maxRecDepth 100000 in
theorem lifted (os : Os) (started : os.Started) (H : Type) (enc : TypeId × Value → H) :
    ReturnsInHanded {} Try.checked os 4 .any (Rows.classNewsSpec.pre6 enc Try.prog Try.f4 Rows.classNewsRow.domain false) (Rows.classNewsSpec.post enc Try.prog Try.f4 false true false false) := by
  refine returnsInHanded_of_change (C := Try.checked) own started (by kernel_rfl) Try.func4
    (ChangeSpec.witness6 (enc := enc) (C := Try.checked) false ⟨#[], #[.slice none 0 0], []⟩ 8 (by kernel_rfl) (by kernel_rfl) (by kernel_rfl) (by kernel_rfl)) ?_
  intro W base args ds gs before hval hW _ _
  have hW' := hW
  obtain ⟨p, q, hA, hV, rfl, hfz, hnd⟩ := hW
  refine (contract W args ds p hval hA (fun x hx => hW'.lt x (List.mem_append_left _ hx))).mono fun e W' ⟨he, hb⟩ => ?_
  subst he
  exact ⟨_, rfl, post_of_law (tb := 4) (n := 1) laid (by kernel_rfl) rfl rfl Try.underlying4 rfl (fun ds h => match ds, h with | [_], _ => rfl) hW' hb⟩

theorem proved : Rows.ClassNewsSaid :=
  OpenClaim.holds_of_wide 4 Try.f4 rfl rfl rfl rfl rfl rfl rfl ⟨rfl, rfl, rfl, rfl, rfl⟩ rfl rfl rfl rfl rfl (by kernel_rfl) Try.func4 (by kernel_rfl)
    (of_decide_eq_true (by kernel_rfl)) (by unfold Func.isWrapper; first | (rw [if_pos (by decide +kernel)]; kernel_rfl) | (rw [if_neg (by decide +kernel)]; exact ⟨rfl, rfl⟩))
    (fun os started H enc _ => lifted os started H enc)
#print axioms proved
end Go.Proofs.Ytgodinapdahocaa.classNews
