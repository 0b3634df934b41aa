/-
  PROVED: ArenaNewsSaid: for every list of pairs of numbers the law ArenaNews returns true; the argument reads as it did. No condition.
-/
import Derived.Test.YtnjobnccknpaeaaFrame
import Derived.Test.YtnjobnccknpaeaaArenaNewsLaw
namespace Go.Proofs.Ytnjobnccknpaeaa.arenaNews
open Go.ChangeShapes Go.WideShapes Go.ChangeAt Go.RowKit LawFrame
set_option linter.unusedVariables false

theorem trod_array2 {H : Type} {enc : TypeId × Value → H} {P : Program} {w : World} {base : Nat} {spare : Nat → Bool} {held : Bool} {t e : TypeId} {fuel : Nat} {c0 c1 : Value} {x : DataW H × List MemPlace} (ht : P.underlying t = some (.array 2 e)) (hce : P.cellsOf e = 1)
    (h : DataW.trod enc P w base spare held fuel t [c0, c1] = some x) :
    ∃ y0 y1 n, DataW.trod enc P w base spare held n e [c0] = some y0 ∧ DataW.trod enc P w base spare held n e [c1] = some y1 := by
  cases fuel with
  | zero => simp [DataW.trod] at h
  | succ n =>
    unfold DataW.trod at h
    rw [ht] at h
    have r2 : List.range 2 = [0, 1] := rfl
    simp [r2, hce] at h
    obtain ⟨_, h⟩ := h
    cases h0 : DataW.trod enc P w base spare held n e [c0] with
    | none => simp [h0] at h
    | some y0 =>
      cases h1 : DataW.trod enc P w base spare held n e [c1] with
      | none => simp [h0, h1] at h
      | some y1 => exact ⟨y0, y1, n, h0, h1⟩

set_option maxRecDepth 100000 in
theorem contract {H : Type} {enc : TypeId × Value → H} (W : World) (args : Array Value) (ds : List (DataW H)) (p : List MemPlace)
    (hval : ∀ (j : Nat) t v, Try.f6.params[j]? = some t → args[j]? = some v → Value.okWide Try.prog W .any 0 t v)
    (hA : DataW.TrodAll enc Try.prog W 0 (fun _ => true) true Try.f6.params.toList args.toList ds p) (hlt : ∀ x ∈ p, x.block < W.heap.size) :
    Calls Try.prog 6 args W fun e W' => e = .returned (.bool true) ∧ Below W.heap.size W W' := by
  rw [Try.params6] at hA hval
  obtain ⟨v0, d0, rfl, rfl, h0⟩ := trodAll_one hA
  obtain ⟨a0, len, cap, rfl⟩ := okWide_slice Try.underlying51 (hval 0 51 v0 rfl rfl)
  obtain ⟨fuel, hf⟩ := h0
  obtain ⟨hl, hm, hi⟩ := slice_at Try.underlying51 (show Try.prog.cellsOf 52 = 2 by kernel_rfl) (by decide) hf
  obtain ⟨l, hlen, hP⟩ := list_of (fun k (t : Int × Int) => ∃ b off, a0 = some (⟨b, off, none⟩ : Addr) ∧ b < W.heap.size ∧ Arena.inI64 t.1 ∧ Arena.inI64 t.2 ∧
      W.cell? ⟨b, off + k * 2, none⟩ = some (.int .i64 t.1) ∧ W.cell? ⟨b, off + k * 2 + 1, none⟩ = some (.int .i64 t.2)) len (by
      intro k hk
      obtain ⟨b, off, n, cs, y, rfl, hb, hcl, hc, ht⟩ := hi k (by omega)
      obtain ⟨c0, c1, rfl⟩ : ∃ c0 c1, cs = [c0, c1] := by
        match cs, hcl with
        | [c0, c1], _ => exact ⟨c0, c1, rfl⟩
      obtain ⟨y0, y1, n', h0, h1⟩ := trod_array2 Try.underlying52 (show Try.prog.cellsOf 3 = 1 by kernel_rfl) ht
      obtain ⟨x0, e0, -, wx0⟩ := DataW.trod_int Try.underlying3 h0
      obtain ⟨x1, e1, -, wx1⟩ := DataW.trod_int Try.underlying3 h1
      simp only [List.cons.injEq, and_true] at e0 e1
      subst e0 e1
      exact ⟨(x0, x1), b, off, rfl, hb, i64_bd wx0, i64_bd wx1, hc 0 _ rfl, hc 1 _ rfl⟩)
  subst hlen
  exact Arena.newsC W a0 cap l hP (by omega)

set_option maxRecDepth 100000 in
theorem lifted (os : Os) (started : os.Started) (H : Type) (enc : TypeId × Value → H) :
    ReturnsInHanded {} Try.checked os 6 .any (Rows.arenaNewsSpec.pre6 enc Try.prog Try.f6 Rows.arenaNewsRow.domain false) (Rows.arenaNewsSpec.post enc Try.prog Try.f6 false true false false) := by
  refine returnsInHanded_of_change (C := Try.checked) own started (by kernel_rfl) Try.func6
    (ChangeSpec.witness6 (enc := enc) (C := Try.checked) false ⟨#[], #[.slice none 0 0], []⟩ 8 (by kernel_rfl) (by kernel_rfl) (by kernel_rfl) (by kernel_rfl)) ?_
  intro W base args ds gs before hval hW _ _
  have hW' := hW
  obtain ⟨p, q, hA, hV, rfl, hfz, hnd⟩ := hW
  refine (contract W args ds p hval hA (fun x hx => hW'.lt x (List.mem_append_left _ hx))).mono fun e W' ⟨he, hb⟩ => ?_
  subst he
  exact ⟨_, rfl, post_of_law (tb := 4) (n := 1) laid (by kernel_rfl) rfl rfl Try.underlying4 rfl (fun ds h => match ds, h with | [_], _ => rfl) hW' hb⟩

theorem proved : Rows.ArenaNewsSaid :=
  OpenClaim.holds_of_wide 6 Try.f6 rfl rfl rfl rfl rfl rfl rfl ⟨rfl, rfl, rfl, rfl, rfl⟩ rfl rfl rfl rfl rfl (by kernel_rfl) Try.func6 (by kernel_rfl)
    (of_decide_eq_true (by kernel_rfl)) (by unfold Func.isWrapper; first | (rw [if_pos (by decide +kernel)]; kernel_rfl) | (rw [if_neg (by decide +kernel)]; exact ⟨rfl, rfl⟩))
    (fun os started H enc _ => lifted os started H enc)
#print axioms proved
end Go.Proofs.Ytnjobnccknpaeaa.arenaNews
