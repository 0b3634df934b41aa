/-
  PROVED: HashMixesSaid: for every list of turns the law HashMixes returns true; the argument reads as it did. No condition.
-/
import Derived.Test.YtbcohjddnelldaaFrame
import Derived.Test.YtbcohjddnelldaaHashMixesWalk
namespace Go.Proofs.Ytbcohjddnelldaa.hashMixes
open Go.ChangeShapes Go.WideShapes Go.ChangeAt Go.RowKit LawFrame HashM HashPlain
set_option linter.unusedVariables false

theorem contract {H : Type} {enc : TypeId × Value → H} (W : World) (args : Array Value) (ds : List (DataW H)) (p : List MemPlace)
    (hval : ∀ (j : Nat) t v, Try.f5.params[j]? = some t → args[j]? = some v → Value.okWide Try.prog W .any 0 t v)
    (hA : DataW.TrodAll enc Try.prog W 0 (fun _ => true) true Try.f5.params.toList args.toList ds p) (hlt : ∀ x ∈ p, x.block < W.heap.size) :
    Calls Try.prog 5 args W fun e W' => e = .returned (.bool true) ∧ Below W.heap.size W W' := by
  rw [Try.params5] at hA hval
  obtain ⟨v0, d0, rfl, rfl, h0⟩ := trodAll_one hA
  obtain ⟨a0, len, cap, rfl⟩ := okWide_slice Try.underlying33 (hval 0 33 v0 rfl rfl)
  obtain ⟨fuel, hf⟩ := h0
  rcases open_slice_fields Try.underlying33 Try.underlying35 (by kernel_rfl) (by kernel_rfl) hf with ⟨hcs, hx⟩ | ⟨a, len', cap', m, D, Pl, hcs, hb, hl, hm, hmm, hx, hi⟩
  · obtain ⟨rfl, rfl, rfl⟩ : a0 = none ∧ len = 0 ∧ cap = 0 := by simpa [Value.cells] using hcs
    exact lawC none 0 [] W (fun k hk => absurd hk (by simp)) (by simp [maxLen])
  · obtain ⟨rfl, rfl, rfl⟩ : a0 = some a ∧ len = len' ∧ cap = cap' := by simpa [Value.cells] using hcs
    have hmm' : m = cap := by simpa using hmm
    obtain ⟨l, hlen, hP⟩ := list_of (fun k (t : Nat × Int) => ∃ b off, some a = some (⟨b, off, none⟩ : Addr) ∧ b < W.heap.size ∧
      W.cell? ⟨b, off + k * 2, none⟩ = some (.int .u64 (t.1 : Int)) ∧ W.cell? ⟨b, off + k * 2 + 1, none⟩ = some (.int .i64 t.2) ∧ t.1 < M64 ∧ -9223372036854775808 ≤ t.2 ∧ t.2 < 9223372036854775808) len (by
      intro k hk
      have hsp : a = ⟨a.block, a.off, none⟩ := by
        obtain ⟨ys, n, -, -, -, hfi⟩ := hi 0 (by omega)
        obtain ⟨v, y, hc, -, -⟩ := hfi 0 _ rfl
        exact Base.spot_none (by simpa [Addr.add] using hc)
      obtain ⟨ys, n, -, -, -, hfi⟩ := hi k (by omega)
      obtain ⟨v0, y0, hc0, -, ht0⟩ := hfi 0 _ rfl
      obtain ⟨v1, y1, hc1, -, ht1⟩ := hfi 1 _ rfl
      obtain ⟨x0, e0, -, wx0⟩ := DataW.trod_int Try.underlying25 ht0
      obtain ⟨x1, e1, -, wx1⟩ := DataW.trod_int Try.underlying3 ht1
      simp only [List.cons.injEq, and_true] at e0 e1
      subst e0 e1
      obtain ⟨h, rfl, hh⟩ := u64_nat wx0
      rw [hsp, Base.add_explicit] at hc0 hc1
      exact ⟨(h, x1), a.block, a.off, by rw [← hsp], World.block_lt_of_cell? W ⟨a.block, _, none⟩ hc0, hc0, hc1, hh, i64_bd wx1⟩)
    subst hlen
    exact lawC (some a) cap l W hP (by omega)

set_option maxRecDepth 100000 in
theorem lifted (os : Os) (started : os.Started) (H : Type) (enc : TypeId × Value → H) :
    ReturnsInHanded {} Try.checked os 5 .any (Rows.hashMixesSpec.pre6 enc Try.prog Try.f5 Rows.hashMixesRow.domain false) (Rows.hashMixesSpec.post enc Try.prog Try.f5 false true false false) := by
  refine returnsInHanded_of_change (C := Try.checked) own started (by kernel_rfl) Try.func5
    (ChangeSpec.witness6 (enc := enc) (C := Try.checked) false ⟨#[], #[.slice none 0 0], []⟩ 8 (by kernel_rfl) (by kernel_rfl) (by kernel_rfl) (by kernel_rfl)) ?_
  intro W base args ds gs before hval hW _ _
  have hW' := hW
  obtain ⟨p, q, hA, hV, rfl, hfz, hnd⟩ := hW
  refine (contract W args ds p hval hA (fun x hx => hW'.lt x (List.mem_append_left _ hx))).mono fun e W' ⟨he, hb⟩ => ?_
  subst he
  exact ⟨_, rfl, post_of_law (tb := 4) (n := 1) laid (by kernel_rfl) rfl rfl Try.underlying4 rfl (fun ds h => match ds, h with | [_], _ => rfl) hW' hb⟩

theorem proved : Rows.HashMixesSaid :=
  OpenClaim.holds_of_wide 5 Try.f5 rfl rfl rfl rfl rfl rfl rfl ⟨rfl, rfl, rfl, rfl, rfl⟩ rfl rfl rfl rfl rfl (by kernel_rfl) Try.func5 (by kernel_rfl)
    (of_decide_eq_true (by kernel_rfl)) (by unfold Func.isWrapper; first | (rw [if_pos (by decide +kernel)]; kernel_rfl) | (rw [if_neg (by decide +kernel)]; exact ⟨rfl, rfl⟩))
    (fun os started H enc _ => lifted os started H enc)
#print axioms proved
end Go.Proofs.Ytbcohjddnelldaa.hashMixes
