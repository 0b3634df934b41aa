/-
  PROVED: HashSumsSaid: for every list of rows of bytes the law HashSums returns true; the argument reads as it did. No condition.
-/
import Derived.Test.YtbcohjddnelldaaFrame
import Derived.Test.YtbcohjddnelldaaHashSumsWalk
namespace Go.Proofs.Ytbcohjddnelldaa.hashSums
open Go.ChangeShapes Go.WideShapes Go.ChangeAt Go.RowKit LawFrame HashS
set_option linter.unusedVariables false

theorem contract {H : Type} {enc : TypeId × Value → H} (W : World) (args : Array Value) (ds : List (DataW H)) (p : List MemPlace)
    (hval : ∀ (j : Nat) t v, Try.f3.params[j]? = some t → args[j]? = some v → Value.okWide Try.prog W .any 0 t v)
    (hA : DataW.TrodAll enc Try.prog W 0 (fun _ => true) true Try.f3.params.toList args.toList ds p) (hlt : ∀ x ∈ p, x.block < W.heap.size) :
    Calls Try.prog 3 args W fun e W' => e = .returned (.bool true) ∧ Below W.heap.size W W' := by
  rw [Try.params3] at hA hval
  obtain ⟨v0, d0, rfl, rfl, h0⟩ := trodAll_one hA
  obtain ⟨a0, len, cap, rfl⟩ := okWide_slice Try.underlying22 (hval 0 22 v0 rfl rfl)
  obtain ⟨fuel, hf⟩ := h0
  obtain ⟨hl, hm, hat⟩ := slice_at (C := 1) Try.underlying22 (by kernel_rfl) (by decide) hf
  obtain ⟨ls, rfl, hP⟩ := list_of (fun k (l : List UInt8) => ∃ b off A' c', a0 = some ⟨b, off, none⟩ ∧ b < W.heap.size ∧
    W.cell? ⟨b, off + k, none⟩ = some (.slice A' l.length c') ∧ l.length ≤ c' ∧ c' ≤ maxLen ∧ Base.Bytes W W.heap.size A' l) len (by
    intro k hk
    obtain ⟨b, off, n, cs', y, rfl, hb, hcl, hc, hy⟩ := hat k (by omega)
    match cs', hcl with
    | [v], _ =>
      have h0 := hc 0 _ rfl
      rw [Nat.mul_one, Nat.add_zero] at h0
      rcases DataW.trod_slice Try.underlying23 hy with ⟨hcs, -⟩ | ⟨a, len', cap', -, -, -, -, hcs, -⟩
      all_goals
        simp only [List.cons.injEq, and_true] at hcs
        subst hcs
        obtain ⟨l, hll, h1, h2, h3⟩ := bytes_of Try.underlying23 Try.underlying5 (by kernel_rfl) hy
        exact ⟨l, b, off, _, _, rfl, hb, by rw [hll]; exact h0, by omega, h2, h3⟩)
  exact lawC a0 cap ls W hP (by omega)

set_option maxRecDepth 100000 in
theorem lifted (os : Os) (started : os.Started) (H : Type) (enc : TypeId × Value → H) :
    ReturnsInHanded {} Try.checked os 3 .any (Rows.hashSumsSpec.pre6 enc Try.prog Try.f3 Rows.hashSumsRow.domain false) (Rows.hashSumsSpec.post enc Try.prog Try.f3 false true false false) := by
  refine returnsInHanded_of_change (C := Try.checked) own started (by kernel_rfl) Try.func3
    (ChangeSpec.witness6 (enc := enc) (C := Try.checked) false ⟨#[], #[.slice none 0 0], []⟩ 8 (by kernel_rfl) (by kernel_rfl) (by kernel_rfl) (by kernel_rfl)) ?_
  intro W base args ds gs before hval hW _ _
  have hW' := hW
  obtain ⟨p, q, hA, hV, rfl, hfz, hnd⟩ := hW
  refine (contract W args ds p hval hA (fun x hx => hW'.lt x (List.mem_append_left _ hx))).mono fun e W' ⟨he, hb⟩ => ?_
  subst he
  exact ⟨_, rfl, post_of_law (tb := 4) (n := 1) laid (by kernel_rfl) rfl rfl Try.underlying4 rfl (fun ds h => match ds, h with | [_], _ => rfl) hW' hb⟩

theorem proved : Rows.HashSumsSaid :=
  OpenClaim.holds_of_wide 3 Try.f3 rfl rfl rfl rfl rfl rfl rfl ⟨rfl, rfl, rfl, rfl, rfl⟩ rfl rfl rfl rfl rfl (by kernel_rfl) Try.func3 (by kernel_rfl)
    (of_decide_eq_true (by kernel_rfl)) (by unfold Func.isWrapper; first | (rw [if_pos (by decide +kernel)]; kernel_rfl) | (rw [if_neg (by decide +kernel)]; exact ⟨rfl, rfl⟩))
    (fun os started H enc _ => lifted os started H enc)
#print axioms proved
end Go.Proofs.Ytbcohjddnelldaa.hashSums
