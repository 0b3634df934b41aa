/-
  PROVED: ItemCopiesSaid: for every item, class and other item the law ItemCopies returns true; the argument reads as it did. No condition (each list of bytes is below 2^47 by the form's own reach).
-/
import Derived.Test.YtdmclekohalolaaJ9
import Derived.Test.YtdmclekohalolaaJ12
namespace Go.Proofs.Ytdmclekohalolaa.itemCopies
open Go.ChangeShapes Go.WideShapes Go.ChangeAt Go.RowKit LawFrame Go.Deep
set_option linter.unusedVariables false

set_option maxRecDepth 100000 in
theorem contract {H : Type} {enc : TypeId × Value → H} (W : World) (args : Array Value) (ds : List (DataW H)) (p : List MemPlace)
    (hval : ∀ (j : Nat) t v, Try.f6.params[j]? = some t → args[j]? = some v → Value.okWide Try.prog W .any 0 t v)
    (hA : DataW.TrodAll enc Try.prog W 0 (fun _ => true) true Try.f6.params.toList args.toList ds p) (hlt : ∀ x ∈ p, x.block < W.heap.size) (hz : ∀ (j : Nat) (t : TypeId) (d : DataW H), Try.f6.params[j]? = some t → ds[j]? = some d → ∀ n ∈ d.weights Try.prog t, n ≤ reachBytes) :
    Calls Try.prog 6 args W fun e W' => e = .returned (.bool true) ∧ Below W.heap.size W W' := by
  rw [Try.params6] at hA hval hz
  obtain ⟨v0, d0, rfl, rfl, fuel, h0⟩ := trodAll_one hA
  have hz0 := hz 0 65 d0 rfl rfl
  obtain ⟨cs, rfl, hsz⟩ := okWide_struct Try.underlying65 (hval 0 65 v0 rfl rfl)
  obtain ⟨n, hl, hfi⟩ := ItmArg.struct_weight Try.underlying65 h0
  have ki : Try.prog.cellsOf 3 = 1 := by kernel_rfl
  have kb : Try.prog.cellsOf 4 = 1 := by kernel_rfl
  have kl : Try.prog.cellsOf 39 = 11 := by kernel_rfl
  obtain ⟨lc⟩ := cs
  match lc, hl.trans (show Try.prog.cellsOf 65 = 24 by kernel_rfl) with
  | [a0, a1, a2, a3, a4, a5, a6, a7, a8, a9, a10, a11, b0, b1, b2, b3, b4, b5, b6, b7, b8, b9, b10, b11], _ =>
    obtain ⟨y0, t0, k0⟩ := hfi 0 _ rfl
    obtain ⟨y1, t1, -⟩ := hfi 1 _ rfl
    obtain ⟨y2, t2, k2⟩ := hfi 2 _ rfl
    obtain ⟨y3, t3, -⟩ := hfi 3 _ rfl
    simp [ki, kb, kl, Value.cells] at t0 t1 t2 t3
    obtain ⟨c, Ak, Av, An, ck, cv, cn, hc, ok, kB, vB, nB, hv, hn⟩ := ItmArg.laid_at t0 (fun m hm => hz0 m (k0 m hm))
    obtain ⟨c', Bk, Bv, Bn, dk, dv, dn, hc', ok', kB', vB', nB', hv', hn'⟩ := ItmArg.laid_at t2 (fun m hm => hz0 m (k2 m hm))
    obtain ⟨x1, e1, -, w1⟩ := DataW.trod_int Try.underlying3 t1
    obtain ⟨x3, e3, -⟩ := DataW.trod_bool Try.underlying4 t3
    simp only [List.cons.injEq, and_true] at e1 e3
    simp only [Itm.LaidA.cells, List.cons.injEq, and_true] at hc hc'
    obtain ⟨rfl, rfl, rfl, rfl, rfl, rfl, rfl, rfl, rfl, rfl, rfl⟩ := hc
    obtain ⟨rfl, rfl, rfl, rfl, rfl, rfl, rfl, rfl, rfl, rfl, rfl⟩ := hc'
    subst e1 e3
    exact Itm.itemCopiesC W c c' ok ok' x1 (i64_bd w1) x3 Ak Av An Bk Bv Bn ck cv cn dk dv dn kB vB hv kB' vB' hv'

set_option maxRecDepth 100000 in
theorem lifted (os : Os) (started : os.Started) (H : Type) (enc : TypeId × Value → H) :
    ReturnsInHanded {} Try.checked os 6 .any (Rows.itemCopiesSpec.pre6 enc Try.prog Try.f6 Rows.itemCopiesRow.domain false) (Rows.itemCopiesSpec.post enc Try.prog Try.f6 false true false false) := by
  refine returnsInHanded_of_change_sized (C := Try.checked) own started (by kernel_rfl) Try.func6
    (ChangeSpec.witness6 (enc := enc) (C := Try.checked) false ⟨#[], #[.agg #[.int .i64 0, .int .i64 0, .slice none 0 0, .slice none 0 0, .slice none 0 0, .int .u64 0, .int .u64 0, .int .i64 0, .int .i64 0, .int .i64 0, .int .i64 0, .int .i64 0, .int .i64 0, .int .i64 0, .slice none 0 0, .slice none 0 0, .slice none 0 0, .int .u64 0, .int .u64 0, .int .i64 0, .int .i64 0, .int .i64 0, .int .i64 0, .bool false]], []⟩ 8 (by kernel_rfl) (by kernel_rfl) (by kernel_rfl) (by kernel_rfl)) ?_
  intro W base args ds gs before hval hW _ hz _
  have hW' := hW
  obtain ⟨p, q, hA, hV, rfl, hfz, hnd⟩ := hW
  refine (contract W args ds p hval hA (fun x hx => hW'.lt x (List.mem_append_left _ hx)) (fun j t d ht hd => reach_of hz (by rw [Array.getElem?_toList]; exact ht) hd)).mono fun e W' ⟨he, hb⟩ => ?_
  subst he
  exact ⟨_, rfl, post_of_law (tb := 4) (n := 1) laid (by kernel_rfl) rfl rfl Try.underlying4 rfl (fun ds h => match ds, h with | [_], _ => rfl) hW' hb⟩

theorem proved : Rows.ItemCopiesSaid :=
  OpenClaim.holds_of_wide 6 Try.f6 rfl rfl rfl rfl rfl rfl rfl ⟨rfl, rfl, rfl, rfl, rfl⟩ rfl rfl rfl rfl rfl (by kernel_rfl) Try.func6 (by kernel_rfl)
    (of_decide_eq_true (by kernel_rfl)) (by unfold Func.isWrapper; first | (rw [if_pos (by decide +kernel)]; kernel_rfl) | (rw [if_neg (by decide +kernel)]; exact ⟨rfl, rfl⟩))
    (fun os started H enc _ => lifted os started H enc)
#print axioms proved
end Go.Proofs.Ytdmclekohalolaa.itemCopies
