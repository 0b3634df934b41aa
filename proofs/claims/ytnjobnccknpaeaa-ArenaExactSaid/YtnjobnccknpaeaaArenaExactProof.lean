/-
  PROVED: ArenaExactSaid: for every script the law ArenaExact returns true; the argument reads as it did. No condition (each list of bytes is below 2^47 by the form's own reach).
-/
import Derived.Test.YtnjobnccknpaeaaFrame
import Derived.Test.YtnjobnccknpaeaaExactLaw
import Derived.SizedLaws
import Derived.Deep.Strs
namespace Go.Proofs.Ytnjobnccknpaeaa.arenaExact
open Go.ChangeShapes Go.WideShapes Go.ChangeAt Go.RowKit LawFrame Go.Deep
set_option linter.unusedVariables false

theorem trod_array2 {H : Type} {enc : TypeId × Value → H} {P : Program} {w : World} {base : Nat} {spare : Nat → Bool} {held : Bool} {t e : TypeId} {fuel : Nat} {c0 c1 : Value} {x : DataW H × List MemPlace} (ht : P.underlying t = some (.array 2 e)) (hce : P.cellsOf e = 1)
    (h : DataW.trod enc P w base spare held fuel t [c0, c1] = some x) :
    ∃ y0 y1 n, DataW.trod enc P w base spare held n e [c0] = some y0 ∧ DataW.trod enc P w base spare held n e [c1] = some y1 := by
  cases fuel with
  | zero => simp [DataW.trod] at h
  | succ n =>
    unfold DataW.trod at h
    rw [ht] at h
    have r2 : List.range 2 = [0, 1] := rfl
    simp [r2, hce] at h
    obtain ⟨_, h⟩ := h
    cases h0 : DataW.trod enc P w base spare held n e [c0] with
    | none => simp [h0] at h
    | some y0 =>
      cases h1 : DataW.trod enc P w base spare held n e [c1] with
      | none => simp [h0, h1] at h
      | some y1 => exact ⟨y0, y1, n, h0, h1⟩
theorem reach_of {H : Type} {P : Program} {ts vs : List TypeId} {ds gs : List (DataW H)} (hz : (DataW.weightsEach P (ts ++ vs) (ds ++ gs)).all (· ≤ reachBytes) = true) {j : Nat} {t : TypeId} {d : DataW H} (ht : ts[j]? = some t) (hd : ds[j]? = some d) :
    ∀ n ∈ d.weights P t, n ≤ reachBytes := fun n hn => by
  have := List.all_eq_true.1 hz n (DataW.weights_mem_each (j := j) (by rw [List.getElem?_append_left (List.getElem?_eq_some_iff.1 ht).1]; exact ht) (by rw [List.getElem?_append_left (List.getElem?_eq_some_iff.1 hd).1]; exact hd) n hn)
  simpa using this
theorem weights_all {H : Type} {P : Program} {e : TypeId} {l : List (DataW H)} {d : DataW H} (hd : d ∈ l) : ∀ n ∈ d.weights P e, n ∈ DataW.weightsAll P e l := by
  induction l with
  | nil => cases hd
  | cons x r ih =>
    intro n hn
    simp only [DataW.weightsAll, List.mem_append]
    rcases List.mem_cons.1 hd with h | h
    · subst h
      exact .inl hn
    · exact .inr (ih h n hn)
/-- A slice of structs whose fields have one cell each, field by field; a field's weights are among the slice's. -/
theorem fields_weight {H : Type} {enc : TypeId × Value → H} {P : Program} {w : World} {t e : TypeId} {fs : Array Field} {fuel len cap : Nat} {A : Option Addr} {x : DataW H × List MemPlace} (ht : P.underlying t = some (.slice e)) (he : P.underlying e = some (.struct fs))
    (hone : oneCellFields P fs = true) (hC : P.cellsOf e = fs.size) (hpos : 0 < fs.size) (h : DataW.trod enc P w 0 (fun _ => true) true fuel t [.slice A len cap] = some x) :
    len ≤ cap ∧ cap ≤ maxLen ∧ ∀ k, k < len → ∃ b off n, A = some ⟨b, off, none⟩ ∧ b < w.heap.size ∧
      ∀ (j : Nat) (f : Field), fs[j]? = some f → ∃ v y, w.cell? ⟨b, off + (k * fs.size + j), none⟩ = some v ∧ DataW.trod enc P w 0 (fun _ => true) true n f.type [v] = some y ∧ ∀ m ∈ y.1.weights P f.type, m ∈ x.1.weights P t := by
  rcases open_slice_fields ht he hone hC h with ⟨hcs, -⟩ | ⟨a, len', cap', m, D, Pl, hcs, hb, hl, hm, hmm, hx, hi⟩
  · simp only [List.cons.injEq, Value.slice.injEq, and_true] at hcs
    obtain ⟨rfl, rfl, rfl⟩ := hcs
    exact ⟨Nat.le_refl _, by simp [maxLen], fun k hk => absurd hk (by omega)⟩
  · simp only [List.cons.injEq, Value.slice.injEq, and_true] at hcs
    obtain ⟨rfl, rfl, rfl⟩ := hcs
    have hmc : m = cap := by simpa using hmm
    subst hmc
    refine ⟨hl, hm, fun k hk => ?_⟩
    obtain ⟨ys0, n0, -, -, -, hf0⟩ := hi 0 (by omega)
    obtain ⟨v0, y0, hc0, -, -⟩ := hf0 0 fs[0] (Array.getElem?_eq_getElem hpos)
    have hsp : a = ⟨a.block, a.off, none⟩ := Base.spot_none (by simpa [Addr.add] using hc0)
    obtain ⟨ys, n, hD, -, -, hfi⟩ := hi k (by omega)
    refine ⟨a.block, a.off, n, by rw [← hsp], World.block_lt_of_cell? w a (by simpa [Addr.add] using hc0), fun j f hj => ?_⟩
    obtain ⟨v, y, hc, hy, hty⟩ := hfi j f hj
    rw [hsp, Base.add_explicit] at hc
    refine ⟨v, y, hc, hty, fun z hzz => ?_⟩
    have hys : (ys.map (·.1))[j]? = some y.1 := by rw [List.getElem?_map, hy]; rfl
    have hft : (fs.toList.map (·.type))[j]? = some f.type := by rw [List.getElem?_map, Array.getElem?_toList, hj]; rfl
    have h1 := DataW.weights_mem_each (P := P) hft hys z hzz
    have h2 : z ∈ (D k).weights P e := by
      rw [hD]
      simp only [DataW.weights, he]
      exact h1
    have h3 : z ∈ DataW.weightsAll P e ((List.range len).map D) := weights_all (List.mem_map_of_mem (List.mem_range.2 hk)) z h2
    rw [hx]
    show z ∈ (DataW.slice ((List.range len).map D) ((List.range (m - len)).map fun j => D (len + j))).weights P t
    simp only [DataW.weights, ht, List.mem_cons, List.mem_append]
    exact .inr (.inl h3)
theorem bytes_form {H : Type} {enc : TypeId × Value → H} {W : World} {n : Nat} {v : Value} {y : DataW H × List MemPlace} (hy : DataW.trod enc Try.prog W 0 (fun _ => true) true n 38 [v] = some y) (hk : ∀ m ∈ y.1.weights Try.prog 38, m ≤ reachBytes) :
    ∃ A c, ∃ l : List UInt8, v = .slice A l.length c ∧ l.length ≤ 140737488351232 ∧ Base.Bytes W W.heap.size A l := by
  rcases DataW.trod_slice Try.underlying38 hy with ⟨hcs, -⟩ | ⟨a, len', cap', elems, rest, n', -, hcs, hyy, -, -, -, hlen, -⟩
  · simp only [List.cons.injEq, and_true] at hcs
    subst hcs
    exact ⟨_, _, [], rfl, by simp, Base.Row.nil_ _ _ _⟩
  · simp only [List.cons.injEq, and_true] at hcs
    subst hcs
    obtain ⟨l, hll, h1, h2, h3⟩ := bytes_of Try.underlying38 Try.underlying5 (by kernel_rfl) hy
    have hb1 : Try.prog.bytesOf 5 = 1 := by kernel_rfl
    have h4 := hk ((elems.length + rest.length) * Try.prog.bytesOf 5) (by
      rw [hyy]
      simp [DataW.weights, Try.underlying38])
    rw [hb1] at h4
    unfold reachBytes at h4
    exact ⟨_, _, l, by rw [hll], by omega, h3⟩
theorem ops_form {H : Type} {enc : TypeId × Value → H} {W : World} {n : Nat} {v : Value} {y : DataW H × List MemPlace} (hy : DataW.trod enc Try.prog W 0 (fun _ => true) true n 62 [v] = some y) (hk : ∀ m ∈ y.1.weights Try.prog 62, m ≤ reachBytes) :
    ∃ A c, ∃ l : List Exact.Op, v = .slice A l.length c ∧ l.length ≤ maxLen ∧ Exact.OpsAt W W.heap.size A l := by
  obtain ⟨A, len, cap, rfl⟩ : ∃ A len cap, v = .slice A len cap := by
    rcases DataW.trod_slice Try.underlying62 hy with ⟨hcs, -⟩ | ⟨a, len', cap', -, -, -, -, hcs, -⟩
    all_goals
      simp only [List.cons.injEq, and_true] at hcs
      exact ⟨_, _, _, hcs⟩
  have hk0 := hk
  obtain ⟨hl, hm, hi⟩ := fields_weight Try.underlying62 Try.underlying40 (by kernel_rfl) (by kernel_rfl) (by decide) hy
  obtain ⟨l, rfl, hP⟩ := list_of (fun k (o : Exact.Op) => o.Ok W W.heap.size ∧ ∃ b off, A = some (⟨b, off, none⟩ : Addr) ∧ b < W.heap.size ∧ ∀ j u, o.cells[j]? = some u → W.cell? ⟨b, off + k * 9 + j, none⟩ = some u) len (by
    intro k hk
    obtain ⟨b, off, n, rfl, hb, hfi⟩ := hi k hk
    obtain ⟨v0, y0, hc0, ht0, -⟩ := hfi 0 _ rfl
    obtain ⟨v1, y1, hc1, ht1, -⟩ := hfi 1 _ rfl
    obtain ⟨v2, y2, hc2, ht2, -⟩ := hfi 2 _ rfl
    obtain ⟨v3, y3, hc3, ht3, -⟩ := hfi 3 _ rfl
    obtain ⟨v4, y4, hc4, ht4, -⟩ := hfi 4 _ rfl
    obtain ⟨v5, y5, hc5, ht5, -⟩ := hfi 5 _ rfl
    obtain ⟨v6, y6, hc6, ht6, -⟩ := hfi 6 _ rfl
    obtain ⟨v7, y7, hc7, ht7, hbk⟩ := hfi 7 _ rfl
    obtain ⟨v8, y8, hc8, ht8, -⟩ := hfi 8 _ rfl
    obtain ⟨x0, e0, -, w0⟩ := DataW.trod_int Try.underlying3 ht0
    obtain ⟨x1, e1, -, w1⟩ := DataW.trod_int Try.underlying3 ht1
    obtain ⟨x2, e2, -, w2⟩ := DataW.trod_int Try.underlying3 ht2
    obtain ⟨x3, e3, -, w3⟩ := DataW.trod_int Try.underlying3 ht3
    obtain ⟨x4, e4, -, w4⟩ := DataW.trod_int Try.underlying3 ht4
    obtain ⟨x5, e5, -, w5⟩ := DataW.trod_int Try.underlying3 ht5
    obtain ⟨x6, e6, -, w6⟩ := DataW.trod_int Try.underlying22 ht6
    obtain ⟨x8, e8, -⟩ := DataW.trod_bool Try.underlying4 ht8
    obtain ⟨A7, c7, l7, rfl, hl7, hb7⟩ := bytes_form ht7 (fun m hm => hk0 m (hbk m hm))
    simp only [List.cons.injEq, and_true] at e0 e1 e2 e3 e4 e5 e6 e8
    subst e0 e1 e2 e3 e4 e5 e6 e8
    obtain ⟨z, rfl, hz⟩ := u64_nat w6
    refine ⟨⟨x0, x1, x2, x3, x4, x5, z, A7, l7, c7, x8⟩, ⟨i64_bd w2, i64_bd w3, i64_bd w4, i64_bd w5, i64_bd w1, i64_bd w0, hz, ?_, hb7⟩, b, off, rfl, hb, ?_⟩
    · exact hl7
    · intro j u hj
      have e : ∀ i, off + k * 9 + i = off + (k * 9 + i) := fun i => Nat.add_assoc _ _ _
      rw [e]
      match j, hj with
      | 0, hj => injection hj with hj; subst hj; exact hc0
      | 1, hj => injection hj with hj; subst hj; exact hc1
      | 2, hj => injection hj with hj; subst hj; exact hc2
      | 3, hj => injection hj with hj; subst hj; exact hc3
      | 4, hj => injection hj with hj; subst hj; exact hc4
      | 5, hj => injection hj with hj; subst hj; exact hc5
      | 6, hj => injection hj with hj; subst hj; exact hc6
      | 7, hj => injection hj with hj; subst hj; exact hc7
      | 8, hj => injection hj with hj; subst hj; exact hc8
      | j + 9, hj => simp [Exact.Op.cells] at hj)
  exact ⟨A, cap, l, rfl, by omega, hP⟩

set_option maxRecDepth 100000 in
theorem contract {H : Type} {enc : TypeId × Value → H} (W : World) (args : Array Value) (ds : List (DataW H)) (p : List MemPlace)
    (hval : ∀ (j : Nat) t v, Try.f8.params[j]? = some t → args[j]? = some v → Value.okWide Try.prog W .any 0 t v)
    (hA : DataW.TrodAll enc Try.prog W 0 (fun _ => true) true Try.f8.params.toList args.toList ds p) (hlt : ∀ x ∈ p, x.block < W.heap.size) (hz : ∀ (j : Nat) (t : TypeId) (d : DataW H), Try.f8.params[j]? = some t → ds[j]? = some d → ∀ n ∈ d.weights Try.prog t, n ≤ reachBytes) :
    Calls Try.prog 8 args W fun e W' => e = .returned (.bool true) ∧ Below W.heap.size W W' := by
  rw [Try.params8] at hA hval hz
  obtain ⟨v0, d0, rfl, rfl, h0⟩ := trodAll_one hA
  have hz0 := hz 0 64 d0 rfl rfl
  obtain ⟨cs, rfl, hsz⟩ := okWide_struct Try.underlying64 (hval 0 64 v0 rfl rfl)
  obtain ⟨lc⟩ := cs
  match lc, hsz.trans (show Try.prog.cellsOf 64 = 5 by kernel_rfl) with
  | [c0, c1, c2, c3, c4], _ =>
    obtain ⟨fuel, hf⟩ := h0
    obtain ⟨y0, y1, y2, n, hx, -, t0, t1, t2⟩ := trod_struct3 Try.underlying64 hf
    have k2 : Try.prog.cellsOf 52 = 2 := by kernel_rfl
    have k1 : Try.prog.cellsOf 62 = 1 := by kernel_rfl
    simp [Value.cells, k1, k2] at t0 t1 t2
    obtain ⟨u0, u1, n1, s0, s1⟩ := trod_array2 Try.underlying52 (show Try.prog.cellsOf 3 = 1 by kernel_rfl) t0
    obtain ⟨u2, u3, n2, s2, s3⟩ := trod_array2 Try.underlying52 (show Try.prog.cellsOf 3 = 1 by kernel_rfl) t1
    obtain ⟨x0, e0, -, w0⟩ := DataW.trod_int Try.underlying3 s0
    obtain ⟨x1, e1, -, w1⟩ := DataW.trod_int Try.underlying3 s1
    obtain ⟨x2, e2, -, w2⟩ := DataW.trod_int Try.underlying3 s2
    obtain ⟨x3, e3, -, w3⟩ := DataW.trod_int Try.underlying3 s3
    simp only [List.cons.injEq, and_true] at e0 e1 e2 e3
    subst e0 e1 e2 e3
    simp only [Prod.mk.injEq] at hx
    obtain ⟨rfl, -⟩ := hx
    obtain ⟨A, c, l, rfl, hl, hT⟩ := ops_form t2 (fun m hm => hz0 m (by
      simp only [DataW.weights, Try.underlying64]
      exact DataW.weights_mem_each (j := 2) rfl rfl m hm))
    exact Exact.exactC W x0 x1 x2 x3 (i64_bd w0) (i64_bd w1) (i64_bd w2) (i64_bd w3) A c l hT hl

set_option maxRecDepth 100000 in
theorem lifted (os : Os) (started : os.Started) (H : Type) (enc : TypeId × Value → H) :
    ReturnsInHanded {} Try.checked os 8 .any (Rows.arenaExactSpec.pre6 enc Try.prog Try.f8 Rows.arenaExactRow.domain false) (Rows.arenaExactSpec.post enc Try.prog Try.f8 false true false false) := by
  refine returnsInHanded_of_change_sized (C := Try.checked) own started (by kernel_rfl) Try.func8
    (ChangeSpec.witness6 (enc := enc) (C := Try.checked) false ⟨#[], #[.agg #[.int .i64 0, .int .i64 0, .int .i64 0, .int .i64 0, .slice none 0 0]], []⟩ 8 (by kernel_rfl) (by kernel_rfl) (by kernel_rfl) (by kernel_rfl)) ?_
  intro W base args ds gs before hval hW _ hz _
  have hW' := hW
  obtain ⟨p, q, hA, hV, rfl, hfz, hnd⟩ := hW
  refine (contract W args ds p hval hA (fun x hx => hW'.lt x (List.mem_append_left _ hx)) (fun j t d ht hd => reach_of hz (by rw [Array.getElem?_toList]; exact ht) hd)).mono fun e W' ⟨he, hb⟩ => ?_
  subst he
  exact ⟨_, rfl, post_of_law (tb := 4) (n := 1) laid (by kernel_rfl) rfl rfl Try.underlying4 rfl (fun ds h => match ds, h with | [_], _ => rfl) hW' hb⟩

theorem proved : Rows.ArenaExactSaid :=
  OpenClaim.holds_of_wide 8 Try.f8 rfl rfl rfl rfl rfl rfl rfl ⟨rfl, rfl, rfl, rfl, rfl⟩ rfl rfl rfl rfl rfl (by kernel_rfl) Try.func8 (by kernel_rfl)
    (of_decide_eq_true (by kernel_rfl)) (by unfold Func.isWrapper; first | (rw [if_pos (by decide +kernel)]; kernel_rfl) | (rw [if_neg (by decide +kernel)]; exact ⟨rfl, rfl⟩))
    (fun os started H enc _ => lifted os started H enc)
#print axioms proved
end Go.Proofs.Ytnjobnccknpaeaa.arenaExact
