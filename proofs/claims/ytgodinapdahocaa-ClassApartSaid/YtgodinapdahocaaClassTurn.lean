/-
  A Set in memory: what one store makes of it.
-/
import Derived.Test.YtgodinapdahocaaClassMem
namespace Go.Proofs.Ytgodinapdahocaa.Cls
open Go.RowKit Base MapG
set_option linter.unusedVariables false

section
variable {w w' : World} {L : Lay} {c : Conf} {s : St} {bs : List UInt8}
theorem SetAt.headB (h : SetAt w L c s bs) : Blk w L.g 95 (hv L c s) := h.parts .head
theorem SetAt.sizesB (h : SetAt w L c s bs) : Grid w L.gs 3 c.nc 1 (fun i _ => iv (c.sz i)) := h.parts .sizes
theorem SetAt.pagesB (h : SetAt w L c s bs) : Grid w L.gp 104 c.cf.np 7 (pv c.cf L s) := h.parts .pages
theorem SetAt.rowsB (h : SetAt w L c s bs) : Grid w L.gr 97 c.nc 4 (rv L s) := h.parts .rows
theorem SetAt.gensB (h : SetAt w L c s bs) {i : Nat} (hi : i < c.cf.np) (ho : s.own i = true) : Grid w (L.G i) 107 (c.cf.n (s.cls i)) 1 (gv (s.gens i)) := h.parts (.gens i) ⟨hi, ho⟩
theorem SetAt.tknB (h : SetAt w L c s bs) {i : Nat} (hi : i < c.cf.np) (ho : s.own i = true) : Grid w (L.T i) 4 (c.cf.n (s.cls i)) 1 (tv (s.tkn i)) := h.parts (.tkn i) ⟨hi, ho⟩
theorem SetAt.freeB (h : SetAt w L c s bs) {k : Nat} (hk : k < c.nc) : w.ownsRow 0 3 1 (L.F k) (s.free k).length ((s.free k).map iv) := h.parts (.free k) hk
theorem SetAt.oldB (h : SetAt w L c s bs) {i : Nat} (hi : i < c.cf.np) : OldAt w (L.O i) (s.om i) (s.old i) := h.parts (.old i) hi
theorem SetAt.arena (h : SetAt w L c s bs) (ok : c.cf.Ok) : Arena.At w L.ga L.ha c.cf.ps bs := by
  refine ⟨?_, h.parts .bytes, by have := ok.ps; omega, ?_, by have := ok.psb; omega⟩
  · have := h.parts .arena
    unfold PartAt Blk at this
    rw [h.len]
    exact this
  · rw [h.len]
    have := Nat.mul_le_mul ok.psb ok.npb
    omega
/-- The arena's bytes turn. -/
theorem SetAt.laid (h : SetAt w L c s bs) {bs' : List UInt8} (o : Only (· = L.ha) w w') (hb : BB w' 5 L.ha bs') (hl : bs'.length = bs.length) : SetAt w' L c s bs' :=
  h.turn .bytes o (fun b e _ => by subst e; rfl) hb (by intro q hq hp; cases q <;> first | exact hp | exact absurd rfl hq) (by intro q hq b e; cases q <;> first | exact e | exact absurd rfl hq) (fun b e => .inl e) hl
theorem only_cell (w : World) (g i : Nat) (v : Value) : Only (· = g) w (w.setCell ⟨g, i, none⟩ v) := (Only.refl (· = g) w).setCell (p := ⟨g, i, none⟩) (fun _ => rfl) v
theorem SetAt.setSpare (h : SetAt w L c s bs) (n : Nat) : SetAt (w.setCell ⟨L.g, 11, none⟩ (.int .i64 (n : Int))) L c { s with spare := n } bs := by
  refine h.turn .head (only_cell w L.g 11 _) (fun b e _ => by subst e; rfl) ?_ (by intro q hq hp; cases q <;> first | exact hp | exact absurd rfl hq) (by intro q hq b e; cases q <;> first | exact e | exact absurd rfl hq) (fun b e => .inl e) rfl
  have := h.headB.set_ 11 (.int .i64 (n : Int))
  exact this
theorem pv_held (d : Cf) (L : Lay) (s : St) (i x : Nat) (a b : Nat) (hb : b < 7) : put2 (pv d L s) i 5 (.int .i64 (x : Int)) a b = pv d L { s with held := upd s.held i x } a b := by
  unfold put2
  by_cases h : a = i ∧ b = 5
  · obtain ⟨rfl, rfl⟩ := h
    rw [if_pos ⟨rfl, rfl⟩]; simp [pv, upd]
  · rw [if_neg h]
    obtain rfl | rfl | rfl | rfl | rfl | rfl | rfl : b = 0 ∨ b = 1 ∨ b = 2 ∨ b = 3 ∨ b = 4 ∨ b = 5 ∨ b = 6 := by omega
    all_goals first | rfl | skip
    have : a ≠ i := fun e => h ⟨e, rfl⟩
    simp [pv, upd, this]
theorem SetAt.setHeld (h : SetAt w L c s bs) (i x : Nat) (hi : i < c.cf.np) : SetAt (w.setCell ⟨L.gp, i * 7 + 5, none⟩ (.int .i64 (x : Int))) L c { s with held := upd s.held i x } bs :=
  h.turn .pages (only_cell w L.gp _ _) (fun b e _ => by subst e; rfl) ((h.pagesB.set i 5 hi (by omega) _).congr fun a b _ hb => pv_held c.cf L s i x a b hb) (by intro q hq hp; cases q <;> first | exact hp | exact absurd rfl hq) (by intro q hq b e; cases q <;> first | exact e | exact absurd rfl hq) (fun b e => .inl e) rfl
theorem pv_lvs (d : Cf) (L : Lay) (s : St) (i : Nat) (x : Bool) (a b : Nat) (hb : b < 7) : put2 (pv d L s) i 1 (.bool x) a b = pv d L { s with lvs := upd s.lvs i x } a b := by
  unfold put2
  by_cases h : a = i ∧ b = 1
  · obtain ⟨rfl, rfl⟩ := h
    rw [if_pos ⟨rfl, rfl⟩]; simp [pv, upd]
  · rw [if_neg h]
    obtain rfl | rfl | rfl | rfl | rfl | rfl | rfl : b = 0 ∨ b = 1 ∨ b = 2 ∨ b = 3 ∨ b = 4 ∨ b = 5 ∨ b = 6 := by omega
    all_goals first | rfl | skip
    have : a ≠ i := fun e => h ⟨e, rfl⟩
    simp [pv, upd, this]
theorem SetAt.setLvs (h : SetAt w L c s bs) (i : Nat) (x : Bool) (hi : i < c.cf.np) : SetAt (w.setCell ⟨L.gp, i * 7 + 1, none⟩ (.bool x)) L c { s with lvs := upd s.lvs i x } bs :=
  h.turn .pages (only_cell w L.gp _ _) (fun b e _ => by subst e; rfl) ((h.pagesB.set i 1 hi (by omega) _).congr fun a b _ hb => pv_lvs c.cf L s i x a b hb) (by intro q hq hp; cases q <;> first | exact hp | exact absurd rfl hq) (by intro q hq b e; cases q <;> first | exact e | exact absurd rfl hq) (fun b e => .inl e) rfl
theorem rv_set (L : Lay) (s : St) (k j x : Nat) (a b : Nat) (hb : b < 4) (hj : j = 1 ∨ j = 2 ∨ j = 3) : put2 (rv L s) k j (.int .i64 (x : Int)) a b =
    rv L { s with rt := if j = 1 then upd s.rt k x else s.rt, rp := if j = 2 then upd s.rp k x else s.rp, rs := if j = 3 then upd s.rs k x else s.rs } a b := by
  unfold put2
  by_cases h : a = k ∧ b = j
  · obtain ⟨rfl, rfl⟩ := h
    rw [if_pos ⟨rfl, rfl⟩]
    rcases hj with rfl | rfl | rfl <;> simp [rv, upd]
  · rw [if_neg h]
    obtain rfl | rfl | rfl | rfl : b = 0 ∨ b = 1 ∨ b = 2 ∨ b = 3 := by omega
    · rfl
    all_goals
      rcases hj with rfl | rfl | rfl
      all_goals first | rfl | skip
      all_goals
        have : a ≠ k := fun e => h ⟨e, rfl⟩
        simp [rv, upd, this]
theorem SetAt.setRt (h : SetAt w L c s bs) (k x : Nat) (hk : k < c.nc) : SetAt (w.setCell ⟨L.gr, k * 4 + 1, none⟩ (.int .i64 (x : Int))) L c { s with rt := upd s.rt k x } bs :=
  h.turn .rows (only_cell w L.gr _ _) (fun b e _ => by subst e; rfl) ((h.rowsB.set k 1 hk (by omega) _).congr fun a b _ hb => rv_set L s k 1 x a b hb (by omega)) (by intro q hq hp; cases q <;> first | exact hp | exact absurd rfl hq) (by intro q hq b e; cases q <;> first | exact e | exact absurd rfl hq) (fun b e => .inl e) rfl
theorem SetAt.setRp (h : SetAt w L c s bs) (k x : Nat) (hk : k < c.nc) : SetAt (w.setCell ⟨L.gr, k * 4 + 2, none⟩ (.int .i64 (x : Int))) L c { s with rp := upd s.rp k x } bs :=
  h.turn .rows (only_cell w L.gr _ _) (fun b e _ => by subst e; rfl) ((h.rowsB.set k 2 hk (by omega) _).congr fun a b _ hb => rv_set L s k 2 x a b hb (by omega)) (by intro q hq hp; cases q <;> first | exact hp | exact absurd rfl hq) (by intro q hq b e; cases q <;> first | exact e | exact absurd rfl hq) (fun b e => .inl e) rfl
theorem SetAt.setRs (h : SetAt w L c s bs) (k x : Nat) (hk : k < c.nc) : SetAt (w.setCell ⟨L.gr, k * 4 + 3, none⟩ (.int .i64 (x : Int))) L c { s with rs := upd s.rs k x } bs :=
  h.turn .rows (only_cell w L.gr _ _) (fun b e _ => by subst e; rfl) ((h.rowsB.set k 3 hk (by omega) _).congr fun a b _ hb => rv_set L s k 3 x a b hb (by omega)) (by intro q hq hp; cases q <;> first | exact hp | exact absurd rfl hq) (by intro q hq b e; cases q <;> first | exact e | exact absurd rfl hq) (fun b e => .inl e) rfl
theorem SetAt.setGen (h : SetAt w L c s bs) (i x v : Nat) (hi : i < c.cf.np) (ho : s.own i = true) (hx : x < c.cf.n (s.cls i)) :
    SetAt (w.setCell ⟨L.G i, x, none⟩ (.int .u32 (v : Int))) L c { s with gens := upd s.gens i (upd (s.gens i) x v) } bs := by
  refine h.turn (.gens i) (only_cell w (L.G i) _ _) (fun b e _ => by subst e; exact if_pos ⟨hi, ho⟩) (fun _ => ((h.gensB hi ho).set1 x hx _).congr fun a b _ _ => ?_) ?_ (by intro q hq b e; cases q <;> first | exact e | exact absurd rfl hq) (fun b e => .inl e) rfl
  · unfold put2 gv
    simp only [upd_at]
    unfold upd
    by_cases he : a = x
    · rw [if_pos he, if_pos ⟨he, by omega⟩]
    · rw [if_neg he, if_neg (fun e => he e.1)]
  · intro q hq hp
    cases q with
    | gens j =>
      have hj : j ≠ i := fun e => hq (by rw [e])
      intro hh
      show Grid _ _ _ _ _ (gv (upd s.gens i _ j))
      rw [upd_ne _ _ hj]
      exact hp hh
    | _ => exact hp
theorem SetAt.setTkn (h : SetAt w L c s bs) (i x : Nat) (v : Bool) (hi : i < c.cf.np) (ho : s.own i = true) (hx : x < c.cf.n (s.cls i)) :
    SetAt (w.setCell ⟨L.T i, x, none⟩ (.bool v)) L c { s with tkn := upd s.tkn i (upd (s.tkn i) x v) } bs := by
  refine h.turn (.tkn i) (only_cell w (L.T i) _ _) (fun b e _ => by subst e; exact if_pos ⟨hi, ho⟩) (fun _ => ((h.tknB hi ho).set1 x hx _).congr fun a b _ _ => ?_) ?_ (by intro q hq b e; cases q <;> first | exact e | exact absurd rfl hq) (fun b e => .inl e) rfl
  · unfold put2 tv
    simp only [upd_at]
    unfold upd
    by_cases he : a = x
    · rw [if_pos he, if_pos ⟨he, by omega⟩]
    · rw [if_neg he, if_neg (fun e => he e.1)]
  · intro q hq hp
    cases q with
    | tkn j =>
      have hj : j ≠ i := fun e => hq (by rw [e])
      intro hh
      show Grid _ _ _ _ _ (tv (upd s.tkn i _ j))
      rw [upd_ne _ _ hj]
      exact hp hh
    | _ => exact hp
/-- A class has another row of free places. -/
theorem SetAt.setFree (h : SetAt w L c s bs) {S : Nat → Prop} (k : Nat) (hk : k < c.nc) (v : Value) (l : List Nat) (w1 : World) (o : Only S w w1) (hS : ∀ b, S b → b < w.heap.size → (L.F k).ownBlock = some b)
    (hv : w1.ownsRow 0 3 1 v l.length (l.map iv)) (hb : ∀ b, v.ownBlock = some b → (L.F k).ownBlock = some b ∨ w.heap.size ≤ b) :
    SetAt (w1.setCell ⟨L.gr, k * 4, none⟩ v) { L with F := upd L.F k v } c { s with free := upd s.free k l } bs := by
  have hrl : L.gr < w.heap.size := h.rowsB.lt
  have hFr : ∀ b, (L.F k).ownBlock = some b → b ≠ L.gr := by
    intro b e he
    have := h.inj (.free k) .rows b ((if_pos hk).trans e) (by rw [he]; rfl)
    cases this
  have hr1 : Grid w1 L.gr 97 c.nc 4 (rv L s) := h.rowsB.only o fun e => hFr _ (hS _ e hrl) rfl
  have hvb : ∀ b, v.ownBlock = some b → b ≠ L.gr := by
    intro b e he
    rcases hb b e with h1 | h1
    · exact hFr b h1 he
    · omega
  have hset := hr1.set k 0 hk (by omega) v
  rw [Nat.add_zero] at hset
  have hv2 : (w1.setCell ⟨L.gr, k * 4, none⟩ v).ownsRow 0 3 1 v l.length (l.map iv) := own_kept hv fun b e => Below.heap_setCell w1 _ v b (hvb b e)
  refine h.turns (fun p => p = .rows ∨ p = .free k) (S := fun b => S b ∨ b = L.gr) ((o.mono fun x _ hx => .inl hx).setCell (fun _ => .inr rfl) v) ?_ ?_ ?_ ?_ ?_ rfl
  · rintro b (h1 | h1) hlt
    · exact ⟨.free k, .inr rfl, (if_pos hk).trans (hS b h1 hlt)⟩
    · subst h1; exact ⟨.rows, .inl rfl, rfl⟩
  · rintro p (rfl | rfl)
    · refine hset.congr fun a b _ hb4 => ?_
      unfold put2
      by_cases he : a = k ∧ b = 0
      · obtain ⟨rfl, rfl⟩ := he
        rw [if_pos ⟨rfl, rfl⟩]
        exact (upd_at L.F a v).symm
      · rw [if_neg he]
        obtain rfl | rfl | rfl | rfl : b = 0 ∨ b = 1 ∨ b = 2 ∨ b = 3 := by omega
        · exact (upd_ne L.F v (fun e => he ⟨e, rfl⟩)).symm
        all_goals rfl
    · intro _
      show World.ownsRow _ 0 _ 1 (upd L.F k v k) (upd s.free k l k).length ((upd s.free k l k).map iv)
      rw [upd_at, upd_at]
      exact hv2
  · intro q hq hp
    cases q with
    | free j =>
      have hj : j ≠ k := fun e => hq (.inr (by rw [e]))
      intro hh
      show World.ownsRow _ 0 _ 1 (upd L.F k v j) (upd s.free k l j).length ((upd s.free k l j).map iv)
      rw [upd_ne _ _ hj, upd_ne _ _ hj]
      exact hp hh
    | rows => exact absurd (.inl rfl) hq
    | _ => exact hp
  · intro q hq b e
    cases q with
    | free j =>
      have hj : j ≠ k := fun e => hq (.inr (by rw [e]))
      by_cases hjn : j < c.cf.nc
      · rw [Lay.blk, if_pos hjn] at e ⊢
        have e2 : (upd L.F k v j).ownBlock = some b := e
        rwa [upd_ne _ _ hj] at e2
      · rw [Lay.blk, if_neg hjn] at e; cases e
    | rows => exact absurd (.inl rfl) hq
    | _ => exact e
  · rintro p b (rfl | rfl) e
    · exact .inl e
    · have hk' : k < c.cf.nc := hk
      rw [Lay.blk, if_pos hk'] at e ⊢
      have e2 : (upd L.F k v k).ownBlock = some b := e
      rw [upd_at] at e2
      rcases hb b e2 with h1 | h1
      · exact .inl h1
      · refine .inr ⟨h1, ?_⟩
        rintro q (rfl | rfl) eq
        · injection eq with eq
          have : L.gr = b := eq
          omega
        · rfl
end
end Go.Proofs.Ytgodinapdahocaa.Cls
