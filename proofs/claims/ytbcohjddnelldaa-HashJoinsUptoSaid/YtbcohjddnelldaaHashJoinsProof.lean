/-
  PROVED: HashJoinsUptoSaid: for every two rows of bytes, place and turn, together of bulk at most 1048576, the law HashJoins returns true; the argument reads as it did.
-/
import Derived.Test.YtbcohjddnelldaaBulk
import Derived.Test.YtbcohjddnelldaaHashJoinsWalk
import Derived.Lib.SmallJoins
import Derived.JoinedCond
namespace Go.Proofs.Ytbcohjddnelldaa.hashJoins
open Go.ChangeShapes Go.WideShapes Go.ChangeAt Go.RowKit LawFrame HashJ Go.Joins
set_option linter.unusedVariables false

theorem contract {H : Type} {enc : TypeId × Value → H} (W : World) (args : Array Value) (ds : List (DataW H)) (p : List MemPlace)
    (hval : ∀ (j : Nat) t v, Try.f4.params[j]? = some t → args[j]? = some v → Value.okWide Try.prog W .any 0 t v)
    (hA : DataW.TrodAll enc Try.prog W 0 (fun _ => true) true Try.f4.params.toList args.toList ds p) (hlt : ∀ x ∈ p, x.block < W.heap.size) (hk : Rows.uptoSmall H ds = true) :
    Calls Try.prog 4 args W fun e W' => e = .returned (.bool true) ∧ Below W.heap.size W W' := by
  rw [Try.params4] at hA hval
  obtain ⟨v0, d0, rfl, rfl, h0⟩ := trodAll_one hA
  obtain ⟨c0, c1, c2, c3, y0, y1, y2, y3, m, rfl, rfl, rfl, hy0, hy1, hy2, hy3⟩ := open_agg4 Try.underlying30 (by kernel_rfl) (by kernel_rfl) (hval 0 30 v0 rfl rfl) h0
  have hk' := bulks.bound hk
  simp only [Rows.uptoBulkAll, Rows.uptoBulk] at hk'
  have form : ∀ {n : Nat} {v : Value} {y : DataW H × List MemPlace}, DataW.trod enc Try.prog W 0 (fun _ => true) true n 23 [v] = some y → ∃ A c, ∃ l : List UInt8, v = .slice A l.length c ∧ l.length < Rows.uptoBulk y.1 ∧ Base.Bytes W W.heap.size A l := by
    intro n v y hy
    rcases DataW.trod_slice Try.underlying23 hy with ⟨hcs, -⟩ | ⟨a, len', cap', -, -, -, -, hcs, -⟩
    all_goals
      simp only [List.cons.injEq, and_true] at hcs
      subst hcs
      obtain ⟨l, hll, h1, h2, h3⟩ := bytes_of Try.underlying23 Try.underlying5 (by kernel_rfl) hy
      have hbk := bulks.slice_bulk Try.underlying23 hy
      exact ⟨_, _, l, by rw [hll], by omega, h3⟩
  obtain ⟨A, ca, a, rfl, ba, hBa⟩ := form hy0
  obtain ⟨B, cb, b, rfl, bb, hBb⟩ := form hy1
  obtain ⟨x2, e2, -, wx2⟩ := DataW.trod_int Try.underlying3 hy2
  obtain ⟨x3, e3, -, wx3⟩ := DataW.trod_int Try.underlying5 hy3
  simp only [List.cons.injEq, and_true] at e2 e3
  subst e2 e3
  obtain ⟨u, rfl⟩ := u8_byte wx3
  exact lawC A B ca cb a b x2 u W hBa hBb (by omega) (i64_bd wx2)

set_option maxRecDepth 100000 in
theorem lifted (os : Os) (started : os.Started) (H : Type) (enc : TypeId × Value → H) (F : Stop.Interp) :
    ReturnsInHanded {} Try.checked os 4 .any ((Rows.OpenSpec.upto Rows.hashJoinsSpec).pre6 enc Try.prog Try.f4 Rows.hashJoinsUptoRow.domain false) (((Rows.OpenSpec.upto Rows.hashJoinsSpec).at F).post enc Try.prog Try.f4 false true false false) := by
  refine returnsInHanded_of_cond (C := Try.checked) (s := Rows.OpenSpec.upto Rows.hashJoinsSpec) (k := Rows.uptoSmall) rfl own started (by kernel_rfl) Try.func4
    (OpenSpec.witness (enc := enc) (C := Try.checked) (s := Rows.OpenSpec.upto Rows.hashJoinsSpec) (k := Rows.uptoSmall) rfl false ⟨#[], #[.agg #[.slice none 0 0, .slice none 0 0, .int .i64 0, .int .u8 0]], []⟩ 8 (by kernel_rfl) (by kernel_rfl) (by kernel_rfl)
      (x := ([.agg [.nil, .nil, .lit (.int .i64 0), .lit (.int .u8 0)]], [], [])) (by kernel_rfl) rfl (by kernel_rfl)) ?_
  intro W base args ds gs before hval hW _ hk _
  have hW' := hW
  obtain ⟨p, q, hA, hV, rfl, hfz, hnd⟩ := hW
  obtain ⟨rfl, rfl⟩ := trodVars_none hV
  rw [List.append_nil] at hk
  refine (contract W args ds p hval hA (fun x hx => hW'.lt x (List.mem_append_left _ hx)) hk).mono fun e W' ⟨he, hb⟩ => ?_
  subst he
  exact ⟨_, rfl, post_of_law (tb := 4) (n := 1) laid (by kernel_rfl) rfl rfl Try.underlying4 rfl (fun ds h => match ds, h with | [_], _ => rfl) hW' hb⟩

theorem proved : Rows.HashJoinsUptoSaid :=
  OpenClaim.holds_of_cond 4 Try.f4 rfl rfl rfl rfl rfl rfl rfl ⟨rfl, rfl, rfl, rfl, rfl⟩ rfl rfl rfl rfl rfl (by kernel_rfl) Try.func4 (by kernel_rfl)
    (of_decide_eq_true (by kernel_rfl)) (by unfold Func.isWrapper; first | (rw [if_pos (by decide +kernel)]; kernel_rfl) | (rw [if_neg (by decide +kernel)]; exact ⟨rfl, rfl⟩))
    (fun os started H enc _ F => lifted os started H enc F)
#print axioms proved
end Go.Proofs.Ytbcohjddnelldaa.hashJoins
