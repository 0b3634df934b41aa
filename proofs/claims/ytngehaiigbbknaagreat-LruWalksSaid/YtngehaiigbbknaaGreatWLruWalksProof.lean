/-
  PROVED: LruWalksSaid: for all shares, every list of operations, every class and row of visits the law LruWalks returns true; the argument reads as it did. No condition.
-/
import Derived.Test.YtngehaiigbbknaaGreatW1
import Derived.Test.YtngehaiigbbknaaGreatW16
import Derived.Test.YtngehaiigbbknaaGreatW17
namespace Go.Proofs.YtngehaiigbbknaaGreat.lruWalks
open Go.ChangeShapes Go.WideShapes Go.ChangeAt Go.RowKit LawFrame ClsArg Go.Deep
set_option linter.unusedVariables false

variable {H : Type} {enc : TypeId × Value → H}
theorem slice_row {P : Program} {w : World} {t e : TypeId} {fuel : Nat} {c : Value} {x : DataW H × List MemPlace} (ht : P.underlying t = some (.slice e)) (h : DataW.trod enc P w 0 (fun _ => true) true fuel t [c] = some x) : ∃ A len cap, c = .slice A len cap := by
  rcases DataW.trod_slice ht h with ⟨hcs, -⟩ | ⟨a, len', cap', -, -, -, -, hcs, -⟩
  · injection hcs with h1
    exact ⟨_, _, _, h1⟩
  · injection hcs with h1
    exact ⟨_, _, _, h1⟩
/-- A struct's fields. -/
theorem struct_all {P : Program} {w : World} {e : TypeId} {fs : Array Field} {fuel : Nat} {cs : List Value} {x : DataW H × List MemPlace} (he : P.underlying e = some (.struct fs))
    (h : DataW.trod enc P w 0 (fun _ => true) true fuel e cs = some x) :
    ∃ n, cs.length = P.cellsOf e ∧ ∀ (j : Nat) (f : Field), fs[j]? = some f → ∃ (y : DataW H × List MemPlace), DataW.trod enc P w 0 (fun _ => true) true n f.type ((cs.drop f.offset).take (P.cellsOf f.type)) = some y := by
  obtain ⟨ys, n', hn', hy, hlen, hyl, hf⟩ := DataW.trod_struct he h
  refine ⟨n', hlen, fun j f hj => ?_⟩
  have hjl : j < fs.size := (Array.getElem?_eq_some_iff.1 hj).1
  have hys : ys[j]? = some (ys[j]'(by omega)) := List.getElem?_eq_getElem (by omega)
  exact ⟨_, (hf j f hj).trans hys⟩
/-- A list of visits. -/
theorem visits_at {W : World} {fuel len cap : Nat} {A : Option Addr} {x : DataW H × List MemPlace} (h : DataW.trod enc Tryz.prog W 0 (fun _ => true) true fuel 77 [.slice A len cap] = some x) :
    ∃ l : List Int, l.length = len ∧ len ≤ cap ∧ cap ≤ maxLen ∧ ∀ k (hk : k < l.length), Cls.In l[k] ∧ ∃ b off, A = some (⟨b, off, none⟩ : Addr) ∧ b < W.heap.size ∧ W.cell? ⟨b, off + k, none⟩ = some (.int .i64 l[k]) := by
  obtain ⟨hl, hm, hat⟩ := slice_at Tryz.underlying77 (show Tryz.prog.cellsOf 3 = 1 by kernel_rfl) (by decide) h
  obtain ⟨l, hlen, hP⟩ := list_of (fun k (n : Int) => Cls.In n ∧ ∃ b off, A = some (⟨b, off, none⟩ : Addr) ∧ b < W.heap.size ∧ W.cell? ⟨b, off + k, none⟩ = some (.int .i64 n)) len (by
    intro k hk
    obtain ⟨b, off, n, cs', y, rfl, hb, hcl, hc, hy⟩ := hat k (by omega)
    obtain ⟨z, rfl, -, wz⟩ := DataW.trod_int Tryz.underlying3 hy
    have h0 := hc 0 _ rfl
    rw [Nat.mul_one, Nat.add_zero] at h0
    exact ⟨z, i64_bd wz, b, off, rfl, hb, h0⟩)
  exact ⟨l, hlen, hl, hm, hP⟩
set_option maxRecDepth 100000 in
theorem walkArg {W : World} {v : Value} {x : DataW H × List MemPlace} {fuel : Nat} (hv : Value.okWide Tryz.prog W .any 0 79 v)
    (hf : DataW.trod enc Tryz.prog W 0 (fun _ => true) true fuel 79 v.cells.toList = some x) :
    ∃ (a b c : Int) (a0 Ad : Option Addr) (cap cd : Nat) (l : List Que.Op6) (ds : List Int), v = .agg #[.int .i64 a, .int .i64 b, .slice a0 l.length cap, .int .i64 c, .slice Ad ds.length cd] ∧ Cls.In a ∧ Cls.In b ∧ Cls.In c ∧ l.length ≤ maxLen ∧ ds.length ≤ maxLen ∧
      (∀ (k : Nat) (hk : k < l.length), Que.ORow W a0 k l[k]) ∧ ∀ k (hk : k < ds.length), Cls.In ds[k] ∧ ∃ b off, Ad = some (⟨b, off, none⟩ : Addr) ∧ b < W.heap.size ∧ W.cell? ⟨b, off + k, none⟩ = some (.int .i64 ds[k]) := by
  obtain ⟨cs, rfl, hsz⟩ := okWide_struct Tryz.underlying79 hv
  obtain ⟨lc⟩ := cs
  have hf : DataW.trod enc Tryz.prog W 0 (fun _ => true) true fuel 79 lc = some x := hf
  obtain ⟨n, hl, hfi⟩ := struct_all Tryz.underlying79 hf
  have hl5 : lc.length = 5 := hl.trans (show Tryz.prog.cellsOf 79 = 5 by kernel_rfl)
  match lc, hl5 with
  | [c0, c1, c2, c3, c4], _ =>
    obtain ⟨y0, t0⟩ := hfi 0 _ rfl
    obtain ⟨y1, t1⟩ := hfi 1 _ rfl
    obtain ⟨y2, t2⟩ := hfi 2 _ rfl
    obtain ⟨y3, t3⟩ := hfi 3 _ rfl
    have kS : Tryz.prog.cellsOf 38 = 2 := by kernel_rfl
    have kL : Tryz.prog.cellsOf 44 = 1 := by kernel_rfl
    have kI : Tryz.prog.cellsOf 3 = 1 := by kernel_rfl
    have kB : Tryz.prog.cellsOf 77 = 1 := by kernel_rfl
    simp [kS, kL, kI, kB] at t0 t1 t2 t3
    obtain ⟨m, -, hgi⟩ := struct_all Tryz.underlying38 t0
    obtain ⟨z0, u0⟩ := hgi 0 _ rfl
    obtain ⟨z1, u1⟩ := hgi 1 _ rfl
    simp [kI] at u0 u1
    obtain ⟨x0, e0, -, w0⟩ := DataW.trod_int Tryz.underlying3 u0
    obtain ⟨x1, e1, -, w1⟩ := DataW.trod_int Tryz.underlying3 u1
    obtain ⟨x2, e2, -, w2⟩ := DataW.trod_int Tryz.underlying3 t2
    simp only [List.cons.injEq, and_true] at e0 e1 e2
    subst e0 e1 e2
    obtain ⟨A2, len2, cap2, rfl⟩ := slice_row Tryz.underlying44 t1
    obtain ⟨A3, len3, cap3, rfl⟩ := slice_row Tryz.underlying77 t3
    obtain ⟨l2, hlen2, hl2, hm2, hP2⟩ := LrArg.ops8_at t1
    obtain ⟨l3, hlen3, hl3, hm3, hP3⟩ := visits_at t3
    subst hlen2 hlen3
    exact ⟨x0, x1, x2, A2, A3, cap2, cap3, l2, l3, rfl, i64_bd w0, i64_bd w1, i64_bd w2, by omega, by omega, hP2, fun k hk => hP3 k hk⟩

set_option maxRecDepth 100000 in
theorem contract {H : Type} {enc : TypeId × Value → H} (W : World) (args : Array Value) (ds : List (DataW H)) (p : List MemPlace)
    (hval : ∀ (j : Nat) t v, Tryz.f10.params[j]? = some t → args[j]? = some v → Value.okWide Tryz.prog W .any 0 t v)
    (hA : DataW.TrodAll enc Tryz.prog W 0 (fun _ => true) true Tryz.f10.params.toList args.toList ds p) (hlt : ∀ x ∈ p, x.block < W.heap.size) :
    Calls Tryz.prog 10 args W fun e W' => e = .returned (.bool true) ∧ Below W.heap.size W W' := by
  rw [Tryz.params10] at hA hval
  obtain ⟨v0, d0, rfl, rfl, ⟨n0, h0⟩⟩ := trodAll_one hA
  obtain ⟨a, b, c, a0, Ad, cap, cd, l, ds, rfl, ha, hb, hc, hl, hds, hP, hD⟩ := walkArg (hval 0 79 v0 rfl rfl) h0
  exact Que.lruWalksC W a b ha hb a0 cap l hP hl c hc Ad cd ds (fun j d hj => by
    obtain ⟨hjl, e⟩ := List.getElem?_eq_some_iff.1 hj
    obtain ⟨h1, g, off, e1, e2, e3⟩ := hD j hjl
    rw [e] at h1 e3
    exact ⟨h1, g, off, e1, e2, e3⟩) hds

set_option maxRecDepth 100000 in
theorem lifted (os : Os) (started : os.Started) (H : Type) (enc : TypeId × Value → H) :
    ReturnsInHanded {} Tryz.checked os 10 .any (Rows.lruWalksSpec.pre6 enc Tryz.prog Tryz.f10 Rows.lruWalksRow.domain false) (Rows.lruWalksSpec.post enc Tryz.prog Tryz.f10 false true false false) := by
  refine returnsInHanded_of_change (C := Tryz.checked) own started (by kernel_rfl) Tryz.func10
    (ChangeSpec.witness6 (enc := enc) (C := Tryz.checked) false ⟨#[], #[.agg #[.int .i64 0, .int .i64 0, .slice none 0 0, .int .i64 0, .slice none 0 0]], []⟩ 8 (by kernel_rfl) (by kernel_rfl) (by kernel_rfl) (by kernel_rfl)) ?_
  intro W base args ds gs before hval hW _ _
  have hW' := hW
  obtain ⟨p, q, hA, hV, rfl, hfz, hnd⟩ := hW
  refine (contract W args ds p hval hA (fun x hx => hW'.lt x (List.mem_append_left _ hx))).mono fun e W' ⟨he, hb⟩ => ?_
  subst he
  exact ⟨_, rfl, post_of_law (tb := 4) (n := 1) laid (by kernel_rfl) rfl rfl Tryz.underlying4 rfl (fun ds h => match ds, h with | [_], _ => rfl) hW' hb⟩

theorem proved : Rows.LruWalksSaid :=
  OpenClaim.holds_of_wide 10 Tryz.f10 rfl rfl rfl rfl rfl rfl rfl ⟨rfl, rfl, rfl, rfl, rfl⟩ rfl rfl rfl rfl rfl (by kernel_rfl) Tryz.func10 (by kernel_rfl)
    (of_decide_eq_true (by kernel_rfl)) (by unfold Func.isWrapper; first | (rw [if_pos (by decide +kernel)]; kernel_rfl) | (rw [if_neg (by decide +kernel)]; exact ⟨rfl, rfl⟩))
    (fun os started H enc _ => lifted os started H enc)
#print axioms proved
end Go.Proofs.YtngehaiigbbknaaGreat.lruWalks
