/-
  PROVED: LruOverSaid: for all shares, every two lists of operations and every number that tells who is dead the law LruOver returns true; the argument reads as it did. No condition.
-/
import Derived.Test.YtngehaiigbbknaaGreatK1
import Derived.Test.YtngehaiigbbknaaGreatK15
import Derived.Test.YtngehaiigbbknaaGreatK16
namespace Go.Proofs.YtngehaiigbbknaaGreat.lruOver
open Go.ChangeShapes Go.WideShapes Go.ChangeAt Go.RowKit LawFrame ClsArg
set_option linter.unusedVariables false

variable {H : Type} {enc : TypeId × Value → H}
theorem slice_of {P : Program} {w : World} {t e : TypeId} {fuel : Nat} {c : Value} {x : DataW H × List MemPlace} (ht : P.underlying t = some (.slice e)) (h : DataW.trod enc P w 0 (fun _ => true) true fuel t [c] = some x) : ∃ A len cap, c = .slice A len cap := by
  rcases DataW.trod_slice ht h with ⟨hcs, -⟩ | ⟨a, len', cap', -, -, -, -, hcs, -⟩
  · injection hcs with h1
    exact ⟨_, _, _, h1⟩
  · injection hcs with h1
    exact ⟨_, _, _, h1⟩
/-- A struct's fields. -/
theorem struct_any {P : Program} {w : World} {e : TypeId} {fs : Array Field} {fuel : Nat} {cs : List Value} {x : DataW H × List MemPlace} (he : P.underlying e = some (.struct fs))
    (h : DataW.trod enc P w 0 (fun _ => true) true fuel e cs = some x) :
    ∃ n, cs.length = P.cellsOf e ∧ ∀ (j : Nat) (f : Field), fs[j]? = some f → ∃ (y : DataW H × List MemPlace), DataW.trod enc P w 0 (fun _ => true) true n f.type ((cs.drop f.offset).take (P.cellsOf f.type)) = some y := by
  obtain ⟨ys, n', hn', hy, hlen, hyl, hf⟩ := DataW.trod_struct he h
  refine ⟨n', hlen, fun j f hj => ?_⟩
  have hjl : j < fs.size := (Array.getElem?_eq_some_iff.1 hj).1
  have hys : ys[j]? = some (ys[j]'(by omega)) := List.getElem?_eq_getElem (by omega)
  exact ⟨_, (hf j f hj).trans hys⟩
set_option maxRecDepth 100000 in
theorem overArg {W : World} {v : Value} {x : DataW H × List MemPlace} {fuel : Nat} (hv : Value.okWide Tryz.prog W .any 0 62 v)
    (hf : DataW.trod enc Tryz.prog W 0 (fun _ => true) true fuel 62 v.cells.toList = some x) :
    ∃ (a b d : Int) (a0 a1 : Option Addr) (cap0 cap1 : Nat) (l0 l1 : List Que.Op6), v = .agg #[.int .i64 a, .int .i64 b, .slice a0 l0.length cap0, .slice a1 l1.length cap1, .int .i64 d] ∧ Cls.In a ∧ Cls.In b ∧ Cls.In d ∧ l0.length ≤ maxLen ∧ l1.length ≤ maxLen ∧
      (∀ (k : Nat) (hk : k < l0.length), Que.ORow W a0 k l0[k]) ∧ ∀ (k : Nat) (hk : k < l1.length), Que.ORow W a1 k l1[k] := by
  obtain ⟨cs, rfl, hsz⟩ := okWide_struct Tryz.underlying62 hv
  obtain ⟨lc⟩ := cs
  have hf : DataW.trod enc Tryz.prog W 0 (fun _ => true) true fuel 62 lc = some x := hf
  obtain ⟨n, hl, hfi⟩ := struct_any Tryz.underlying62 hf
  have hl5 : lc.length = 5 := hl.trans (show Tryz.prog.cellsOf 62 = 5 by kernel_rfl)
  match lc, hl5 with
  | [c0, c1, c2, c3, c4], _ =>
    obtain ⟨y0, t0⟩ := hfi 0 _ rfl
    obtain ⟨y1, t1⟩ := hfi 1 _ rfl
    obtain ⟨y2, t2⟩ := hfi 2 _ rfl
    obtain ⟨y3, t3⟩ := hfi 3 _ rfl
    have kS : Tryz.prog.cellsOf 38 = 2 := by kernel_rfl
    have kL : Tryz.prog.cellsOf 44 = 1 := by kernel_rfl
    have kI : Tryz.prog.cellsOf 3 = 1 := by kernel_rfl
    simp [kS, kL, kI] at t0 t1 t2 t3
    obtain ⟨m, -, hgi⟩ := struct_any Tryz.underlying38 t0
    obtain ⟨z0, u0⟩ := hgi 0 _ rfl
    obtain ⟨z1, u1⟩ := hgi 1 _ rfl
    simp [kI] at u0 u1
    obtain ⟨x0, e0, -, w0⟩ := DataW.trod_int Tryz.underlying3 u0
    obtain ⟨x1, e1, -, w1⟩ := DataW.trod_int Tryz.underlying3 u1
    obtain ⟨x4, e4, -, w4⟩ := DataW.trod_int Tryz.underlying3 t3
    simp only [List.cons.injEq, and_true] at e0 e1 e4
    subst e0 e1 e4
    obtain ⟨A2, len2, cap2, rfl⟩ := slice_of Tryz.underlying44 t1
    obtain ⟨A3, len3, cap3, rfl⟩ := slice_of Tryz.underlying44 t2
    obtain ⟨l2, hlen2, hl2, hm2, hP2⟩ := LrArg.ops8_at t1
    obtain ⟨l3, hlen3, hl3, hm3, hP3⟩ := LrArg.ops8_at t2
    subst hlen2 hlen3
    exact ⟨x0, x1, x4, A2, A3, cap2, cap3, l2, l3, rfl, i64_bd w0, i64_bd w1, i64_bd w4, by omega, by omega, hP2, hP3⟩

set_option maxRecDepth 100000 in
theorem contract {H : Type} {enc : TypeId × Value → H} (W : World) (args : Array Value) (ds : List (DataW H)) (p : List MemPlace)
    (hval : ∀ (j : Nat) t v, Tryz.f7.params[j]? = some t → args[j]? = some v → Value.okWide Tryz.prog W .any 0 t v)
    (hA : DataW.TrodAll enc Tryz.prog W 0 (fun _ => true) true Tryz.f7.params.toList args.toList ds p) (hlt : ∀ x ∈ p, x.block < W.heap.size) :
    Calls Tryz.prog 7 args W fun e W' => e = .returned (.bool true) ∧ Below W.heap.size W W' := by
  rw [Tryz.params7] at hA hval
  obtain ⟨v0, d0, rfl, rfl, ⟨n0, h0⟩⟩ := trodAll_one hA
  obtain ⟨a, b, d, a0, a1, cap0, cap1, l0, l1, rfl, ha, hb, hd, hl0, hl1, hP0, hP1⟩ := overArg (hval 0 62 v0 rfl rfl) h0
  exact Que.lruOverC W a b ha hb a0 cap0 l0 hP0 hl0 a1 cap1 l1 hP1 hl1 d hd

set_option maxRecDepth 100000 in
theorem lifted (os : Os) (started : os.Started) (H : Type) (enc : TypeId × Value → H) :
    ReturnsInHanded {} Tryz.checked os 7 .any (Rows.lruOverSpec.pre6 enc Tryz.prog Tryz.f7 Rows.lruOverRow.domain false) (Rows.lruOverSpec.post enc Tryz.prog Tryz.f7 false true false false) := by
  refine returnsInHanded_of_change (C := Tryz.checked) own started (by kernel_rfl) Tryz.func7
    (ChangeSpec.witness6 (enc := enc) (C := Tryz.checked) false ⟨#[], #[.agg #[.int .i64 0, .int .i64 0, .slice none 0 0, .slice none 0 0, .int .i64 0]], []⟩ 8 (by kernel_rfl) (by kernel_rfl) (by kernel_rfl) (by kernel_rfl)) ?_
  intro W base args ds gs before hval hW _ _
  have hW' := hW
  obtain ⟨p, q, hA, hV, rfl, hfz, hnd⟩ := hW
  refine (contract W args ds p hval hA (fun x hx => hW'.lt x (List.mem_append_left _ hx))).mono fun e W' ⟨he, hb⟩ => ?_
  subst he
  exact ⟨_, rfl, post_of_law (tb := 4) (n := 1) laid (by kernel_rfl) rfl rfl Tryz.underlying4 rfl (fun ds h => match ds, h with | [_], _ => rfl) hW' hb⟩

theorem proved : Rows.LruOverSaid :=
  OpenClaim.holds_of_wide 7 Tryz.f7 rfl rfl rfl rfl rfl rfl rfl ⟨rfl, rfl, rfl, rfl, rfl⟩ rfl rfl rfl rfl rfl (by kernel_rfl) Tryz.func7 (by kernel_rfl)
    (of_decide_eq_true (by kernel_rfl)) (by unfold Func.isWrapper; first | (rw [if_pos (by decide +kernel)]; kernel_rfl) | (rw [if_neg (by decide +kernel)]; exact ⟨rfl, rfl⟩))
    (fun os started H enc _ => lifted os started H enc)
#print axioms proved
end Go.Proofs.YtngehaiigbbknaaGreat.lruOver
