/-
  What the arguments of the laws of classes are: a config, a list of numbers.
-/
import Derived.Test.YtgodinapdahocaaFrame
import Derived.Test.YtgodinapdahocaaClassConf
namespace Go.Proofs.Ytgodinapdahocaa.ClsArg
open Go.ChangeShapes Go.WideShapes Go.ChangeAt Go.RowKit LawFrame Go.Deep
set_option linter.unusedVariables false

variable {H : Type} {enc : TypeId × Value → H}
/-- A struct whose fields have one cell each, field by field. -/
theorem struct_at {P : Program} {w : World} {e : TypeId} {fs : Array Field} {fuel : Nat} {cs : List Value} {x : DataW H × List MemPlace} (he : P.underlying e = some (.struct fs))
    (hone : oneCellFields P fs = true) (hC : P.cellsOf e = fs.size) (h : DataW.trod enc P w 0 (fun _ => true) true fuel e cs = some x) :
    ∃ n, cs.length = fs.size ∧ ∀ (j : Nat) (f : Field), fs[j]? = some f → ∃ (v : Value) (y : DataW H × List MemPlace), cs[j]? = some v ∧ DataW.trod enc P w 0 (fun _ => true) true n f.type [v] = some y := by
  obtain ⟨ys, n', hn', hy, hlen, hyl, hf⟩ := DataW.trod_struct he h
  have hcl : cs.length = fs.size := by rw [← hC]; exact hlen
  refine ⟨n', hcl, fun j f hj => ?_⟩
  obtain ⟨ho, hk⟩ := hone_of hone j f hj
  have hjl : j < fs.size := (Array.getElem?_eq_some_iff.1 hj).1
  have h1 := hf j f hj
  rw [ho, hk] at h1
  have hone' : (cs.drop j).take 1 = [cs[j]'(by omega)] := by
    rw [List.drop_eq_getElem_cons (by omega)]
    rfl
  rw [hone'] at h1
  have hys : ys[j]? = some (ys[j]'(by omega)) := List.getElem?_eq_getElem (by omega)
  exact ⟨_, _, List.getElem?_eq_getElem (by omega), h1.trans hys⟩
set_option maxRecDepth 100000 in
theorem confArg {W : World} {v : Value} {x : DataW H × List MemPlace} {fuel : Nat} (hv : Value.okWide Try.prog W .any 0 27 v)
    (hf : DataW.trod enc Try.prog W 0 (fun _ => true) true fuel 27 v.cells.toList = some x) : ∃ c : Cls.Conf, v = .agg c.cells ∧ c.In := by
  obtain ⟨cs, rfl, hsz⟩ := okWide_struct Try.underlying27 hv
  obtain ⟨n, hl, hfi⟩ := struct_at Try.underlying27 (by kernel_rfl) (by kernel_rfl) hf
  obtain ⟨v0, y0, hc0, ht0⟩ := hfi 0 _ rfl
  obtain ⟨v1, y1, hc1, ht1⟩ := hfi 1 _ rfl
  obtain ⟨v2, y2, hc2, ht2⟩ := hfi 2 _ rfl
  obtain ⟨v3, y3, hc3, ht3⟩ := hfi 3 _ rfl
  obtain ⟨v4, y4, hc4, ht4⟩ := hfi 4 _ rfl
  obtain ⟨v5, y5, hc5, ht5⟩ := hfi 5 _ rfl
  obtain ⟨v6, y6, hc6, ht6⟩ := hfi 6 _ rfl
  obtain ⟨x0, e0, -, wx0⟩ := DataW.trod_int Try.underlying3 ht0
  obtain ⟨x1, e1, -, wx1⟩ := DataW.trod_int Try.underlying3 ht1
  obtain ⟨x2, e2, -, wx2⟩ := DataW.trod_int Try.underlying3 ht2
  obtain ⟨x3, e3, -, wx3⟩ := DataW.trod_int Try.underlying3 ht3
  obtain ⟨x4, e4, -, wx4⟩ := DataW.trod_int Try.underlying3 ht4
  obtain ⟨x5, e5, -, wx5⟩ := DataW.trod_int Try.underlying3 ht5
  obtain ⟨x6, e6, -, wx6⟩ := DataW.trod_int Try.underlying3 ht6
  simp only [List.cons.injEq, and_true] at e0 e1 e2 e3 e4 e5 e6
  subst e0 e1 e2 e3 e4 e5 e6
  refine ⟨⟨x0, x1, x2, x3, x4, x5, x6⟩, ?_, ⟨i64_bd wx0, i64_bd wx1, i64_bd wx2, i64_bd wx3, i64_bd wx4, i64_bd wx5, i64_bd wx6⟩⟩
  obtain ⟨lc⟩ := cs
  match lc, hl with
  | [c0, c1, c2, c3, c4, c5, c6], _ =>
    have g : ∀ {a b : Value}, some a = some b → a = b := fun h => by injection h
    have f0 : c0 = .int .i64 x0 := g hc0
    have f1 : c1 = .int .i64 x1 := g hc1
    have f2 : c2 = .int .i64 x2 := g hc2
    have f3 : c3 = .int .i64 x3 := g hc3
    have f4 : c4 = .int .i64 x4 := g hc4
    have f5 : c5 = .int .i64 x5 := g hc5
    have f6 : c6 = .int .i64 x6 := g hc6
    subst f0 f1 f2 f3 f4 f5 f6
    rfl
/-- A list of numbers. -/
theorem ints_at {W : World} {fuel len cap : Nat} {A : Option Addr} {x : DataW H × List MemPlace} (h : DataW.trod enc Try.prog W 0 (fun _ => true) true fuel 36 [.slice A len cap] = some x) :
    ∃ l : List Int, l.length = len ∧ len ≤ cap ∧ cap ≤ maxLen ∧ ∀ k (hk : k < l.length), ∃ b off, A = some (⟨b, off, none⟩ : Addr) ∧ b < W.heap.size ∧ W.cell? ⟨b, off + k, none⟩ = some (.int .i64 l[k]) := by
  obtain ⟨hl, hm, hat⟩ := slice_at Try.underlying36 (show Try.prog.cellsOf 3 = 1 by kernel_rfl) (by decide) h
  obtain ⟨l, hlen, hP⟩ := list_of (fun k (n : Int) => ∃ b off, A = some (⟨b, off, none⟩ : Addr) ∧ b < W.heap.size ∧ W.cell? ⟨b, off + k, none⟩ = some (.int .i64 n)) len (by
    intro k hk
    obtain ⟨b, off, n, cs', y, rfl, hb, hcl, hc, hy⟩ := hat k (by omega)
    obtain ⟨z, rfl, -, wz⟩ := DataW.trod_int Try.underlying3 hy
    have h0 := hc 0 _ rfl
    rw [Nat.mul_one, Nat.add_zero] at h0
    exact ⟨z, b, off, rfl, hb, h0⟩)
  exact ⟨l, hlen, hl, hm, hP⟩
end Go.Proofs.Ytgodinapdahocaa.ClsArg
