/-
  The frame of a law's row: where a call returns true and nothing that was there before it has changed, the row's post holds. Nothing here names the program.
-/
import Derived.Test.YtgodinapdahocaaRows
import Derived.WalkKit
import Derived.ProofKit
import Derived.Carry
import Derived.ChangeSame
import Derived.Deep.Slices
import Derived.Deep.Fields
import Derived.Test.YtgodinapdahocaaBase
namespace Go.Proofs.Ytgodinapdahocaa.LawFrame
open Go.ChangeShapes Go.WideShapes Go.ChangeAt Go.RowKit

theorem own : ownKnob Try.prog.godebug = none := by kernel_rfl
theorem laid : laidOutB Try.prog = true := by kernel_rfl

/-- A list out of facts about each index. -/
theorem list_of {α : Type} (P : Nat → α → Prop) : ∀ (n : Nat), (∀ i, i < n → ∃ a, P i a) → ∃ l : List α, l.length = n ∧ ∀ i (hi : i < l.length), P i l[i]
  | 0, _ => ⟨[], rfl, fun i hi => absurd hi (by simp)⟩
  | n + 1, h => by
    obtain ⟨l, hl, hp⟩ := list_of P n (fun i hi => h i (by omega))
    obtain ⟨a, ha⟩ := h n (by omega)
    refine ⟨l ++ [a], by simp [hl], fun i hi => ?_⟩
    rcases Nat.lt_or_ge i n with h1 | h1
    · rw [List.getElem_append_left (by omega)]
      exact hp i (by omega)
    · have e : i = n := by simp [hl] at hi; omega
      subst e
      rw [List.getElem_append_right (by omega)]
      simpa [hl] using ha

section
variable {H : Type} {enc : TypeId × Value → H} {P : Program}

theorem trodAll_stays (hl : laidOutB P = true) {W W' : World} (hb : Below W.heap.size W W') : ∀ {ts : List TypeId} {vs : List Value} {ds : List (DataW H)} {ps : List MemPlace},
    ts.all (fun t => P.readableRec t && decide (t < P.types.size)) = true → DataW.TrodAll enc P W 0 (fun _ => true) true ts vs ds ps → (∀ x ∈ ps, x.block < W.heap.size) →
    DataW.TrodAll enc P W' 0 (fun b => decide (b < W.heap.size)) true ts vs ds ps
  | [], _, _, _, _, h, _ => by
    obtain ⟨rfl, rfl, rfl⟩ := trodAll_nil h
    exact trodAll_mk0
  | t :: ts, _, _, _, ha, h, hlt => by
    obtain ⟨v, vs1, d, ds1, a, b, rfl, rfl, rfl, h1, h2⟩ := trodAll_cons h
    simp only [List.all_cons, Bool.and_eq_true, decide_eq_true_eq] at ha
    exact ⟨a, b, Below.trod hl ha.1.1 ha.1.2 h1 hb (fun x hx => hlt x (List.mem_append_left _ hx)),
      trodAll_stays hl hb ha.2 h2 (fun x hx => hlt x (List.mem_append_right _ hx)), rfl⟩

theorem trodAll_len {w : World} {base : Nat} {spare : Nat → Bool} {held : Bool} : ∀ {ts : List TypeId} {vs : List Value} {ds : List (DataW H)} {ps : List MemPlace},
    DataW.TrodAll enc P w base spare held ts vs ds ps → ds.length = ts.length
  | [], _, _, _, h => by obtain ⟨rfl, rfl, rfl⟩ := trodAll_nil h; rfl
  | t :: ts, _, _, _, h => by
    obtain ⟨v, vs1, d, ds1, a, b, rfl, rfl, rfl, h1, h2⟩ := trodAll_cons h
    simp only [List.length_cons, trodAll_len h2]

/-- The row's post of a law that named no variable: it returned true, and below the old heap's size nothing has changed. -/
theorem post_of_law {f : Func} {s : ChangeSpec} {fresh : Bool} {W W' : World} {args : Array Value} {ds gs : List (DataW H)} {before : List MemPlace} {tb : TypeId} {n : Nat}
    (hl : laidOutB P = true) (hr : f.params.toList.all (fun t => P.readableRec t && decide (t < P.types.size)) = true) (hn : f.params.size = n) (htb : f.resultTypes = #[tb]) (hub : P.underlying tb = some .bool)
    (hv : s.vars = []) (hfn : ∀ ds : List (DataW H), ds.length = n → s.fn H ds = { results := [.lit (.bool true)], args := ds })
    (hW : DataW.Whole enc P f.params.toList s.vars false W args.toList ds gs before) (hb : Below W.heap.size W W') :
    s.post enc P f false fresh false false W args (.bool true) W' := by
  have hW' := hW
  obtain ⟨p, q, hA, hV, rfl, hfz, hnd⟩ := hW
  have hV' := hV
  rw [hv] at hV'
  obtain ⟨rfl, rfl⟩ := trodVars_none hV'
  have hlen : ds.length = n := by rw [trodAll_len hA, Array.length_toList, hn]
  have e := hfn (ds ++ []) (by simpa using hlen)
  refine ⟨ds, [], p ++ [], [], p, [], hW', ?_, ?_, ?_, ?_, fun h => by cases h⟩
  · rw [e, htb]
    exact trodAll_mk1 (shut_bool hub _)
  · rw [e]
    simp only [List.append_nil]
    exact trodAll_stays hl hb hr hA (fun x hx => hW'.lt x (by simpa using hx))
  · rw [e, hv]
    rfl
  · exact World.keptBut_mono (fun x hx => ⟨hx, .inr (.inl (by simpa using hx))⟩) (hb.frame (· ∈ p ++ []))
end
section
open Go.Deep
section
variable {H : Type} {enc : TypeId × Value → H} {P : Program} {w : World} {base : Nat} {spare : Nat → Bool} {held : Bool}
theorem open_slice_fields {t e : TypeId} {fs : Array Field} {fuel : Nat} {cs : List Value} {x : DataW H × List MemPlace} (ht : P.underlying t = some (.slice e)) (he : P.underlying e = some (.struct fs))
    (hone : oneCellFields P fs = true) (hC : P.cellsOf e = fs.size) (h : DataW.trod enc P w base spare held fuel t cs = some x) :
    (cs = [.slice none 0 0] ∧ x = (.nil, [])) ∨
    ∃ (a : Addr) (len cap m : Nat) (D : Nat → DataW H) (Pl : Nat → List MemPlace), cs = [.slice (some a) len cap] ∧ base ≤ a.block ∧ len ≤ cap ∧ cap ≤ maxLen ∧ m = (if spare a.block then cap else len) ∧
      x = (.slice ((List.range len).map D) ((List.range (m - len)).map fun j => D (len + j)), MemPlace.row a (m * fs.size) ++ (List.range m).flatMap Pl) ∧
      ∀ i, i < m → ∃ (ys : List (DataW H × List MemPlace)) (n : Nat), D i = .agg (ys.map (·.1)) ∧ Pl i = ys.flatMap (·.2) ∧ ys.length = fs.size ∧
        ∀ (j : Nat) (f : Field), fs[j]? = some f → ∃ (v : Value) (y : DataW H × List MemPlace), w.cell? (a.add (i * fs.size + j)) = some v ∧ ys[j]? = some y ∧ DataW.trod enc P w base spare held n f.type [v] = some y := by
  rcases open_slice ht h with h0 | ⟨a, len, cap, m, n, D, Pl, hcs, hb, hl, hm, hmm, hx, hi⟩
  · exact .inl h0
  · refine .inr ⟨a, len, cap, m, D, Pl, hcs, hb, hl, hm, hmm, by rw [hC] at hx; exact hx, fun i him => ?_⟩
    obtain ⟨cs', hc, ht'⟩ := hi i him
    rw [hC] at hc
    obtain ⟨ys, n', hn', hy, hlen, hyl, hf⟩ := DataW.trod_struct he ht'
    obtain ⟨_, hcl, hat⟩ := World.cells?_some hc
    simp only [Prod.mk.injEq] at hy
    refine ⟨ys, n', hy.1, hy.2, hyl, fun j f hj => ?_⟩
    obtain ⟨ho, hk⟩ := hone_of hone j f hj
    have hjl : j < fs.size := (Array.getElem?_eq_some_iff.1 hj).1
    have hcell := hat j hjl
    have hv : cs'[j]? = some (cs'[j]'(by omega)) := List.getElem?_eq_getElem (by omega)
    have h1 := hf j f hj
    rw [ho, hk] at h1
    have hone' : (cs'.drop j).take 1 = [cs'[j]'(by omega)] := by
      rw [List.drop_eq_getElem_cons (by omega)]
      rfl
    rw [hone'] at h1
    have hys : ys[j]? = some (ys[j]'(by omega)) := List.getElem?_eq_getElem (by omega)
    refine ⟨_, _, ?_, hys, h1.trans hys⟩
    rw [← Go.Deep.add_add, hcell, hv]
end

theorem u64_nat {n : Int} (w : (Lit.int .u64 n).wf = true) : ∃ h : Nat, n = (h : Int) ∧ h < 18446744073709551616 := by
  simp [Lit.wf, IntKind.min, IntKind.max, IntKind.signed, IntKind.bits] at w
  exact ⟨n.toNat, by omega, by omega⟩
theorem i64_bd {n : Int} (w : (Lit.int .i64 n).wf = true) : -9223372036854775808 ≤ n ∧ n < 9223372036854775808 := by
  simp [Lit.wf, IntKind.min, IntKind.max, IntKind.signed, IntKind.bits] at w
  omega
theorem u8_byte {n : Int} (w : (Lit.int .u8 n).wf = true) : ∃ b : UInt8, n = (b.toNat : Int) := by
  simp [Lit.wf, IntKind.min, IntKind.max, IntKind.signed, IntKind.bits] at w
  exact ⟨UInt8.ofNat n.toNat, by rw [UInt8.toNat_ofNat']; omega⟩
variable {H : Type} {enc : TypeId × Value → H} {P : Program} {w : World}
theorem slice_at {t e : TypeId} {C fuel len cap : Nat} {A : Option Addr} {x : DataW H × List MemPlace} (ht : P.underlying t = some (.slice e)) (hC : P.cellsOf e = C) (hpos : 0 < C)
    (h : DataW.trod enc P w 0 (fun _ => true) true fuel t [.slice A len cap] = some x) : len ≤ cap ∧ cap ≤ maxLen ∧ ∀ k, k < cap → ∃ b off n cs' y, A = some ⟨b, off, none⟩ ∧ b < w.heap.size ∧ cs'.length = C ∧
      (∀ j u, cs'[j]? = some u → w.cell? ⟨b, off + (k * C + j), none⟩ = some u) ∧ DataW.trod enc P w 0 (fun _ => true) true n e cs' = some y := by
  rcases open_slice ht h with ⟨hcs, -⟩ | ⟨a, len', cap', m, n, D, Pl, hcs, hb, hl, hm, hmm, hx, hi⟩
  · simp only [List.cons.injEq, Value.slice.injEq, and_true] at hcs
    obtain ⟨rfl, rfl, rfl⟩ := hcs
    exact ⟨Nat.le_refl _, by simp [maxLen], fun k hk => absurd hk (by omega)⟩
  · simp only [List.cons.injEq, Value.slice.injEq, and_true] at hcs
    obtain ⟨rfl, rfl, rfl⟩ := hcs
    have hmc : m = cap := by simpa using hmm
    subst hmc
    have at_ : ∀ k, k < m → ∃ cs', cs'.length = C ∧ (∀ j u, cs'[j]? = some u → w.cell? (a.add (k * C + j)) = some u) ∧ ∃ y, DataW.trod enc P w 0 (fun _ => true) true n e cs' = some y := by
      intro k hk
      obtain ⟨cs', hc, ht'⟩ := hi k hk
      rw [hC] at hc
      obtain ⟨_, hcl, hat⟩ := World.cells?_some hc
      refine ⟨cs', hcl, fun j u hu => ?_, _, ht'⟩
      have hj : j < cs'.length := (List.getElem?_eq_some_iff.1 hu).1
      have := hat j (by omega)
      rw [← Go.Deep.add_add, this, hu]
    refine ⟨hl, hm, fun k hk => ?_⟩
    obtain ⟨cs0, hl0, hc0, -⟩ := at_ 0 (by omega)
    have h00 := hc0 0 cs0[0] (List.getElem?_eq_getElem (by omega))
    have hsp : a = ⟨a.block, a.off, none⟩ := Base.spot_none (by simpa [Addr.add] using h00)
    obtain ⟨cs', hcl, hc, y, hy⟩ := at_ k hk
    have hblk : a.block < w.heap.size := World.block_lt_of_cell? w a (by simpa [Addr.add] using h00)
    refine ⟨a.block, a.off, n, cs', y, by rw [← hsp], hblk, hcl, fun j u hu => ?_, hy⟩
    have := hc j u hu
    rwa [hsp, Base.add_explicit] at this
theorem bytes_of {t e : TypeId} {fuel len cap : Nat} {A : Option Addr} {x : DataW H × List MemPlace} (ht : P.underlying t = some (.slice e)) (he : P.underlying e = some (.int .u8)) (hC : P.cellsOf e = 1)
    (h : DataW.trod enc P w 0 (fun _ => true) true fuel t [.slice A len cap] = some x) : ∃ l : List UInt8, l.length = len ∧ len ≤ cap ∧ cap ≤ maxLen ∧ Base.Bytes w w.heap.size A l := by
  obtain ⟨hl, hm, hat⟩ := slice_at ht hC (by decide) h
  obtain ⟨l, hlen, hP⟩ := list_of (fun k (b : UInt8) => ∃ bb off, A = some ⟨bb, off, none⟩ ∧ bb < w.heap.size ∧ w.cell? ⟨bb, off + k, none⟩ = some (Base.bv b)) len (by
    intro k hk
    obtain ⟨b, off, n, cs', y, rfl, hb, hcl, hc, hy⟩ := hat k (by omega)
    obtain ⟨z, rfl, -, wz⟩ := DataW.trod_int he hy
    obtain ⟨u, rfl⟩ := u8_byte wz
    have h0 := hc 0 _ rfl
    rw [Nat.mul_one, Nat.add_zero] at h0
    exact ⟨u, b, off, rfl, hb, h0⟩)
  refine ⟨l, hlen, hl, hm, fun hx => ?_⟩
  rw [List.length_map] at hx
  obtain ⟨b, off, rfl, hb, -⟩ := hP 0 hx
  refine ⟨b, off, rfl, hb, fun j v hv => ?_⟩
  rw [List.getElem?_map] at hv
  cases hj : l[j]? with
  | none => rw [hj] at hv; cases hv
  | some u =>
    rw [hj] at hv
    injection hv with hv
    subst hv
    obtain ⟨hjl, hju⟩ := List.getElem?_eq_some_iff.1 hj
    obtain ⟨b', off', e, -, hc⟩ := hP j hjl
    injection e with e
    injection e with e1 e2
    subst e1 e2
    rw [hju] at hc
    exact hc
/-- A slice of structs whose fields have one cell each, field by field. -/
theorem fields_at {t e : TypeId} {fs : Array Field} {fuel len cap : Nat} {A : Option Addr} {x : DataW H × List MemPlace} (ht : P.underlying t = some (.slice e)) (he : P.underlying e = some (.struct fs))
    (hone : oneCellFields P fs = true) (hC : P.cellsOf e = fs.size) (hpos : 0 < fs.size) (h : DataW.trod enc P w 0 (fun _ => true) true fuel t [.slice A len cap] = some x) :
    len ≤ cap ∧ cap ≤ maxLen ∧ ∀ k, k < len → ∃ b off n, A = some ⟨b, off, none⟩ ∧ b < w.heap.size ∧
      ∀ (j : Nat) (f : Field), fs[j]? = some f → ∃ v y, w.cell? ⟨b, off + (k * fs.size + j), none⟩ = some v ∧ DataW.trod enc P w 0 (fun _ => true) true n f.type [v] = some y := by
  rcases open_slice_fields ht he hone hC h with ⟨hcs, -⟩ | ⟨a, len', cap', m, D, Pl, hcs, hb, hl, hm, hmm, hx, hi⟩
  · simp only [List.cons.injEq, Value.slice.injEq, and_true] at hcs
    obtain ⟨rfl, rfl, rfl⟩ := hcs
    exact ⟨Nat.le_refl _, by simp [maxLen], fun k hk => absurd hk (by omega)⟩
  · simp only [List.cons.injEq, Value.slice.injEq, and_true] at hcs
    obtain ⟨rfl, rfl, rfl⟩ := hcs
    have hmc : m = cap := by simpa using hmm
    subst hmc
    refine ⟨hl, hm, fun k hk => ?_⟩
    obtain ⟨ys0, n0, -, -, -, hf0⟩ := hi 0 (by omega)
    obtain ⟨v0, y0, hc0, -, -⟩ := hf0 0 fs[0] (Array.getElem?_eq_getElem hpos)
    have hsp : a = ⟨a.block, a.off, none⟩ := Base.spot_none (by simpa [Addr.add] using hc0)
    obtain ⟨ys, n, -, -, -, hfi⟩ := hi k (by omega)
    refine ⟨a.block, a.off, n, by rw [← hsp], World.block_lt_of_cell? w a (by simpa [Addr.add] using hc0), fun j f hj => ?_⟩
    obtain ⟨v, y, hc, -, ht⟩ := hfi j f hj
    rw [hsp, Base.add_explicit] at hc
    exact ⟨v, y, hc, ht⟩
end
end Go.Proofs.Ytgodinapdahocaa.LawFrame
