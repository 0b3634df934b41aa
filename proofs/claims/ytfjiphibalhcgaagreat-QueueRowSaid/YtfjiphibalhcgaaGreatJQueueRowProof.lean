/-
  PROVED: QueueRowSaid: for every number of items, kind, place and list of bools the law QueueRow returns true; the argument reads as it did. No condition.
-/
import Derived.Test.YtfjiphibalhcgaaGreatJ1
import Derived.Test.YtfjiphibalhcgaaGreatJ12
namespace Go.Proofs.YtfjiphibalhcgaaGreat.queueRow
open Go.ChangeShapes Go.WideShapes Go.ChangeAt Go.RowKit LawFrame Go.Deep
set_option linter.unusedVariables false

set_option maxRecDepth 100000 in
theorem row_at {H : Type} {enc : TypeId × Value → H} {W : World} {fuel : Nat} {cs : List Value} {x : DataW H × List MemPlace}
    (h : DataW.trod enc Tryz.prog W 0 (fun _ => true) true fuel 63 cs = some x) :
    ∃ (n0 kd sh : Int) (A : Option Addr) (cap : Nat) (l : List Bool), cs = [.int .i64 n0, .int .i64 kd, .int .i64 sh, .slice A l.length cap] ∧ Cls.In n0 ∧ Cls.In kd ∧ Cls.In sh ∧ l.length ≤ maxLen ∧ ∀ j (hj : j < l.length), Que.BoolAt W A j l[j] := by
  obtain ⟨ys, n', hn', hy, hlen, hyl, hfi⟩ := DataW.trod_struct Tryz.underlying63 h
  match cs, hlen.trans (show Tryz.prog.cellsOf 63 = 4 by kernel_rfl) with
  | [c0, c1, c2, c3], _ =>
    have ki : Tryz.prog.cellsOf 3 = 1 := by kernel_rfl
    have kb : Tryz.prog.cellsOf 61 = 1 := by kernel_rfl
    have t0 := hfi 0 _ rfl
    have t1 := hfi 1 _ rfl
    have t2 := hfi 2 _ rfl
    have t3 := hfi 3 _ rfl
    simp [ki, kb] at t0 t1 t2 t3
    obtain ⟨x0, e0, -, w0⟩ := DataW.trod_int Tryz.underlying3 (t0.trans (List.getElem?_eq_getElem (by rw [hyl]; decide)))
    obtain ⟨x1, e1, -, w1⟩ := DataW.trod_int Tryz.underlying3 (t1.trans (List.getElem?_eq_getElem (by rw [hyl]; decide)))
    obtain ⟨x2, e2, -, w2⟩ := DataW.trod_int Tryz.underlying3 (t2.trans (List.getElem?_eq_getElem (by rw [hyl]; decide)))
    simp only [List.cons.injEq, and_true] at e0 e1 e2
    subst e0 e1 e2
    have h3 := t3.trans (List.getElem?_eq_getElem (by rw [hyl]; decide))
    have e3 : ∃ A len cap, c3 = .slice A len cap := by
      rcases open_slice Tryz.underlying61 h3 with ⟨hcs, -⟩ | ⟨a, len', cap', m, n', D, Pl, hcs, -⟩
      · simp only [List.cons.injEq, and_true] at hcs
        exact ⟨_, _, _, hcs⟩
      · simp only [List.cons.injEq, and_true] at hcs
        exact ⟨_, _, _, hcs⟩
    obtain ⟨A, len, cap, rfl⟩ := e3
    obtain ⟨hl, hm, hat⟩ := slice_at Tryz.underlying61 (show Tryz.prog.cellsOf 4 = 1 by kernel_rfl) (by decide) h3
    obtain ⟨l, hll, hP⟩ := list_of (fun k (b : Bool) => Que.BoolAt W A k b) len (by
      intro k hk
      obtain ⟨b, off, n, cs', y, rfl, hb, hcl, hc, hy⟩ := hat k (by omega)
      obtain ⟨z, rfl, -⟩ := DataW.trod_bool Tryz.underlying4 hy
      have h0 := hc 0 _ rfl
      rw [Nat.mul_one, Nat.add_zero] at h0
      exact ⟨z, b, off, rfl, hb, h0⟩)
    subst hll
    exact ⟨x0, x1, x2, A, cap, l, rfl, i64_bd w0, i64_bd w1, i64_bd w2, by omega, hP⟩
set_option maxRecDepth 100000 in
theorem contract {H : Type} {enc : TypeId × Value → H} (W : World) (args : Array Value) (ds : List (DataW H)) (p : List MemPlace)
    (hval : ∀ (j : Nat) t v, Tryz.f7.params[j]? = some t → args[j]? = some v → Value.okWide Tryz.prog W .any 0 t v)
    (hA : DataW.TrodAll enc Tryz.prog W 0 (fun _ => true) true Tryz.f7.params.toList args.toList ds p) (hlt : ∀ x ∈ p, x.block < W.heap.size) :
    Calls Tryz.prog 7 args W fun e W' => e = .returned (.bool true) ∧ Below W.heap.size W W' := by
  rw [Tryz.params7] at hA hval
  obtain ⟨v0, d0, rfl, rfl, ⟨fuel, h0⟩⟩ := trodAll_one hA
  obtain ⟨cs, rfl, hsz⟩ := okWide_struct Tryz.underlying63 (hval 0 63 v0 rfl rfl)
  obtain ⟨a, b, c, A, cap, l, e, ha, hb, hc, hl, hP⟩ := row_at h0
  have e : cs.toList = _ := e
  obtain rfl : cs = #[.int .i64 a, .int .i64 b, .int .i64 c, .slice A l.length cap] := by rw [← e]
  exact Que.rowC W a b c ha hb hc A cap l (by unfold maxLen at hl; omega) hP

set_option maxRecDepth 100000 in
theorem lifted (os : Os) (started : os.Started) (H : Type) (enc : TypeId × Value → H) :
    ReturnsInHanded {} Tryz.checked os 7 .any (Rows.queueRowSpec.pre6 enc Tryz.prog Tryz.f7 Rows.queueRowRow.domain false) (Rows.queueRowSpec.post enc Tryz.prog Tryz.f7 false true false false) := by
  refine returnsInHanded_of_change (C := Tryz.checked) own started (by kernel_rfl) Tryz.func7
    (ChangeSpec.witness6 (enc := enc) (C := Tryz.checked) false ⟨#[], #[.agg #[.int .i64 0, .int .i64 0, .int .i64 0, .slice none 0 0]], []⟩ 8 (by kernel_rfl) (by kernel_rfl) (by kernel_rfl) (by kernel_rfl)) ?_
  intro W base args ds gs before hval hW _ _
  have hW' := hW
  obtain ⟨p, q, hA, hV, rfl, hfz, hnd⟩ := hW
  refine (contract W args ds p hval hA (fun x hx => hW'.lt x (List.mem_append_left _ hx))).mono fun e W' ⟨he, hb⟩ => ?_
  subst he
  exact ⟨_, rfl, post_of_law (tb := 4) (n := 1) laid (by kernel_rfl) rfl rfl Tryz.underlying4 rfl (fun ds h => match ds, h with | [_], _ => rfl) hW' hb⟩

theorem proved : Rows.QueueRowSaid :=
  OpenClaim.holds_of_wide 7 Tryz.f7 rfl rfl rfl rfl rfl rfl rfl ⟨rfl, rfl, rfl, rfl, rfl⟩ rfl rfl rfl rfl rfl (by kernel_rfl) Tryz.func7 (by kernel_rfl)
    (of_decide_eq_true (by kernel_rfl)) (by unfold Func.isWrapper; first | (rw [if_pos (by decide +kernel)]; kernel_rfl) | (rw [if_neg (by decide +kernel)]; exact ⟨rfl, rfl⟩))
    (fun os started H enc _ => lifted os started H enc)
#print axioms proved
end Go.Proofs.YtfjiphibalhcgaaGreat.queueRow
