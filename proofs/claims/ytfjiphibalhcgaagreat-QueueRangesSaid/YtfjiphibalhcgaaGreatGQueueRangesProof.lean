/-
  PROVED: QueueRangesSaid: for every list of operations, class, kind and row of visits the law QueueRanges returns true; the argument reads as it did. No condition.
-/
import Derived.Test.YtfjiphibalhcgaaGreatG1
import Derived.Test.YtfjiphibalhcgaaGreatG12
import Derived.Test.YtfjiphibalhcgaaGreatG14
namespace Go.Proofs.YtfjiphibalhcgaaGreat.queueRanges
open Go.ChangeShapes Go.WideShapes Go.ChangeAt Go.RowKit LawFrame ClsArg Go.Deep
set_option linter.unusedVariables false

variable {H : Type} {enc : TypeId × Value → H}
theorem slice_row {P : Program} {w : World} {t e : TypeId} {fuel : Nat} {c : Value} {x : DataW H × List MemPlace} (ht : P.underlying t = some (.slice e)) (h : DataW.trod enc P w 0 (fun _ => true) true fuel t [c] = some x) : ∃ A len cap, c = .slice A len cap := by
  rcases DataW.trod_slice ht h with ⟨hcs, -⟩ | ⟨a, len', cap', -, -, -, -, hcs, -⟩
  · injection hcs with h1
    exact ⟨_, _, _, h1⟩
  · injection hcs with h1
    exact ⟨_, _, _, h1⟩
/-- A struct's fields. -/
theorem struct_all {P : Program} {w : World} {e : TypeId} {fs : Array Field} {fuel : Nat} {cs : List Value} {x : DataW H × List MemPlace} (he : P.underlying e = some (.struct fs))
    (h : DataW.trod enc P w 0 (fun _ => true) true fuel e cs = some x) :
    ∃ n, cs.length = P.cellsOf e ∧ ∀ (j : Nat) (f : Field), fs[j]? = some f → ∃ (y : DataW H × List MemPlace), DataW.trod enc P w 0 (fun _ => true) true n f.type ((cs.drop f.offset).take (P.cellsOf f.type)) = some y := by
  obtain ⟨ys, n', hn', hy, hlen, hyl, hf⟩ := DataW.trod_struct he h
  refine ⟨n', hlen, fun j f hj => ?_⟩
  have hjl : j < fs.size := (Array.getElem?_eq_some_iff.1 hj).1
  have hys : ys[j]? = some (ys[j]'(by omega)) := List.getElem?_eq_getElem (by omega)
  exact ⟨_, (hf j f hj).trans hys⟩
set_option maxRecDepth 100000 in
/-- A list of visits. -/
theorem visits_at {W : World} {fuel len cap : Nat} {A : Option Addr} {x : DataW H × List MemPlace} (h : DataW.trod enc Tryz.prog W 0 (fun _ => true) true fuel 36 [.slice A len cap] = some x) :
    ∃ l : List Que.Vis, l.length = len ∧ len ≤ cap ∧ cap ≤ maxLen ∧ ∀ (k : Nat) (hk : k < l.length), Que.VRow W A k l[k] := by
  obtain ⟨hl, hm, hi⟩ := fields_at Tryz.underlying36 Tryz.underlying52 (by kernel_rfl) (by kernel_rfl) (by decide) h
  obtain ⟨l, hlen, hP⟩ := list_of (fun k (p : Que.Vis) => Que.VRow W A k p) len (by
    intro k hk
    obtain ⟨b, off, n, rfl, hb, hfi⟩ := hi k hk
    obtain ⟨v0, y0, hc0, ht0⟩ := hfi 0 _ rfl
    obtain ⟨v1, y1, hc1, ht1⟩ := hfi 1 _ rfl
    obtain ⟨v2, y2, hc2, ht2⟩ := hfi 2 _ rfl
    obtain ⟨v3, y3, hc3, ht3⟩ := hfi 3 _ rfl
    obtain ⟨v4, y4, hc4, ht4⟩ := hfi 4 _ rfl
    obtain ⟨x0, e0, -, wx0⟩ := DataW.trod_int Tryz.underlying3 ht0
    obtain ⟨x1, e1, -, wx1⟩ := DataW.trod_int Tryz.underlying3 ht1
    obtain ⟨x2, e2, -, wx2⟩ := DataW.trod_int Tryz.underlying3 ht2
    obtain ⟨x3, e3, -⟩ := DataW.trod_bool Tryz.underlying4 ht3
    obtain ⟨x4, e4, -⟩ := DataW.trod_bool Tryz.underlying4 ht4
    simp only [List.cons.injEq, and_true] at e0 e1 e2 e3 e4
    subst e0 e1 e2 e3 e4
    exact ⟨⟨x0, x1, x2, x3, x4⟩, b, off, rfl, hb, ⟨i64_bd wx0, i64_bd wx1, i64_bd wx2⟩, hc0, hc1, hc2, hc3, hc4⟩)
  exact ⟨l, hlen, hl, hm, fun k hk => hP k hk⟩
set_option maxRecDepth 100000 in
theorem rangeArg {W : World} {v : Value} {x : DataW H × List MemPlace} {fuel : Nat} (hv : Value.okWide Tryz.prog W .any 0 38 v)
    (hf : DataW.trod enc Tryz.prog W 0 (fun _ => true) true fuel 38 v.cells.toList = some x) :
    ∃ (a b : Int) (a0 Ad : Option Addr) (cap cd : Nat) (l : List Que.Op6) (ds : List Que.Vis), v = .agg #[.slice a0 l.length cap, .int .i64 a, .int .i64 b, .slice Ad ds.length cd] ∧ Cls.In a ∧ Cls.In b ∧ l.length ≤ maxLen ∧ ds.length ≤ maxLen ∧
      (∀ (k : Nat) (hk : k < l.length), Que.ORow W a0 k l[k]) ∧ ∀ (k : Nat) (hk : k < ds.length), Que.VRow W Ad k ds[k] := by
  obtain ⟨cs, rfl, hsz⟩ := okWide_struct Tryz.underlying38 hv
  obtain ⟨lc⟩ := cs
  have hf : DataW.trod enc Tryz.prog W 0 (fun _ => true) true fuel 38 lc = some x := hf
  obtain ⟨n, hl, hfi⟩ := struct_all Tryz.underlying38 hf
  have hl5 : lc.length = 4 := hl.trans (show Tryz.prog.cellsOf 38 = 4 by kernel_rfl)
  match lc, hl5 with
  | [c0, c1, c2, c3], _ =>
    obtain ⟨y0, t0⟩ := hfi 0 _ rfl
    obtain ⟨y1, t1⟩ := hfi 1 _ rfl
    obtain ⟨y2, t2⟩ := hfi 2 _ rfl
    obtain ⟨y3, t3⟩ := hfi 3 _ rfl
    have kL : Tryz.prog.cellsOf 22 = 1 := by kernel_rfl
    have kI : Tryz.prog.cellsOf 3 = 1 := by kernel_rfl
    have kB : Tryz.prog.cellsOf 36 = 1 := by kernel_rfl
    simp [kL, kI, kB] at t0 t1 t2 t3
    obtain ⟨x0, e0, -, w0⟩ := DataW.trod_int Tryz.underlying3 t1
    obtain ⟨x1, e1, -, w1⟩ := DataW.trod_int Tryz.underlying3 t2
    simp only [List.cons.injEq, and_true] at e0 e1
    subst e0 e1
    obtain ⟨A2, len2, cap2, rfl⟩ := slice_row Tryz.underlying22 t0
    obtain ⟨A3, len3, cap3, rfl⟩ := slice_row Tryz.underlying36 t3
    obtain ⟨l2, hlen2, hl2, hm2, hP2⟩ := QueArg.ops6_at t0
    obtain ⟨l3, hlen3, hl3, hm3, hP3⟩ := visits_at t3
    subst hlen2 hlen3
    exact ⟨x0, x1, A2, A3, cap2, cap3, l2, l3, rfl, i64_bd w0, i64_bd w1, by omega, by omega, hP2, hP3⟩

set_option maxRecDepth 100000 in
theorem contract {H : Type} {enc : TypeId × Value → H} (W : World) (args : Array Value) (ds : List (DataW H)) (p : List MemPlace)
    (hval : ∀ (j : Nat) t v, Tryz.f4.params[j]? = some t → args[j]? = some v → Value.okWide Tryz.prog W .any 0 t v)
    (hA : DataW.TrodAll enc Tryz.prog W 0 (fun _ => true) true Tryz.f4.params.toList args.toList ds p) (hlt : ∀ x ∈ p, x.block < W.heap.size) :
    Calls Tryz.prog 4 args W fun e W' => e = .returned (.bool true) ∧ Below W.heap.size W W' := by
  rw [Tryz.params4] at hA hval
  obtain ⟨v0, d0, rfl, rfl, ⟨n0, h0⟩⟩ := trodAll_one hA
  obtain ⟨a, b, a0, Ad, cap, cd, l, ds, rfl, ha, hb, hl, hds, hP, hD⟩ := rangeArg (hval 0 38 v0 rfl rfl) h0
  exact Que.queueRangesC W a0 cap l hP hl a b ha hb Ad cd ds hD hds

set_option maxRecDepth 100000 in
theorem lifted (os : Os) (started : os.Started) (H : Type) (enc : TypeId × Value → H) :
    ReturnsInHanded {} Tryz.checked os 4 .any (Rows.queueRangesSpec.pre6 enc Tryz.prog Tryz.f4 Rows.queueRangesRow.domain false) (Rows.queueRangesSpec.post enc Tryz.prog Tryz.f4 false true false false) := by
  refine returnsInHanded_of_change (C := Tryz.checked) own started (by kernel_rfl) Tryz.func4
    (ChangeSpec.witness6 (enc := enc) (C := Tryz.checked) false ⟨#[], #[.agg #[.slice none 0 0, .int .i64 0, .int .i64 0, .slice none 0 0]], []⟩ 8 (by kernel_rfl) (by kernel_rfl) (by kernel_rfl) (by kernel_rfl)) ?_
  intro W base args ds gs before hval hW _ _
  have hW' := hW
  obtain ⟨p, q, hA, hV, rfl, hfz, hnd⟩ := hW
  refine (contract W args ds p hval hA (fun x hx => hW'.lt x (List.mem_append_left _ hx))).mono fun e W' ⟨he, hb⟩ => ?_
  subst he
  exact ⟨_, rfl, post_of_law (tb := 4) (n := 1) laid (by kernel_rfl) rfl rfl Tryz.underlying4 rfl (fun ds h => match ds, h with | [_], _ => rfl) hW' hb⟩

theorem proved : Rows.QueueRangesSaid :=
  OpenClaim.holds_of_wide 4 Tryz.f4 rfl rfl rfl rfl rfl rfl rfl ⟨rfl, rfl, rfl, rfl, rfl⟩ rfl rfl rfl rfl rfl (by kernel_rfl) Tryz.func4 (by kernel_rfl)
    (of_decide_eq_true (by kernel_rfl)) (by unfold Func.isWrapper; first | (rw [if_pos (by decide +kernel)]; kernel_rfl) | (rw [if_neg (by decide +kernel)]; exact ⟨rfl, rfl⟩))
    (fun os started H enc _ => lifted os started H enc)
#print axioms proved
end Go.Proofs.YtfjiphibalhcgaaGreat.queueRanges
