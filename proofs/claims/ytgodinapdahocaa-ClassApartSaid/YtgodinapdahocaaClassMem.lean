/-
  A Set of classes in memory.
-/
import Derived.Test.YtgodinapdahocaaClassSizes
import Derived.Test.YtgodinapdahocaaClassState
import Derived.Test.YtgodinapdahocaaClassAr
import Derived.Test.YtgodinapdahocaaMapG
namespace Go.Proofs.Ytgodinapdahocaa.Cls
open Go.RowKit Base MapG
set_option linter.unusedVariables false

/-- Block g, of type ty, holds n rows of k cells each. -/
structure Grid (w : World) (g : Nat) (ty : TypeId) (n k : Nat) (f : Nat → Nat → Value) : Prop where
  blk : ∃ cur, Blk w g ty cur
  cell : ∀ i j, i < n → j < k → w.cell? ⟨g, i * k + j, none⟩ = some (f i j)
def put2 (f : Nat → Nat → Value) (i j : Nat) (v : Value) : Nat → Nat → Value := fun a b => if a = i ∧ b = j then v else f a b
theorem grid_inj {a b i j k : Nat} (hb : b < k) (hj : j < k) (h : a * k + b = i * k + j) : a = i ∧ b = j := by
  rcases Nat.lt_trichotomy a i with h1 | h1 | h1
  · have := Nat.mul_le_mul_right k (show a + 1 ≤ i from h1)
    rw [Nat.succ_mul] at this
    omega
  · subst h1; exact ⟨rfl, by omega⟩
  · have := Nat.mul_le_mul_right k (show i + 1 ≤ a from h1)
    rw [Nat.succ_mul] at this
    omega
section
variable {w w' : World} {g : Nat} {ty : TypeId} {n k : Nat} {f : Nat → Nat → Value}
theorem Grid.lt (h : Grid w g ty n k f) : g < w.heap.size := by obtain ⟨cur, h1⟩ := h.blk; exact h1.lt
theorem Grid.frozen (h : Grid w g ty n k f) (i : Nat) : w.frozen? ⟨g, i, none⟩ = false := by obtain ⟨cur, h1⟩ := h.blk; exact h1.frozen i
theorem Grid.kept (h : Grid w g ty n k f) (hb : w'.heap[g]? = w.heap[g]?) : Grid w' g ty n k f := by
  obtain ⟨cur, h1⟩ := h.blk
  exact ⟨⟨cur, hb.trans h1⟩, fun i j hi hj => (World.cell?_of_block (a := ⟨g, i * k + j, none⟩) hb).trans (h.cell i j hi hj)⟩
theorem Grid.only {S : Nat → Prop} (h : Grid w g ty n k f) (o : Only S w w') (hs : ¬ S g) : Grid w' g ty n k f := h.kept (o.block g h.lt hs)
theorem Grid.congr {f' : Nat → Nat → Value} (h : Grid w g ty n k f) (e : ∀ i j, i < n → j < k → f i j = f' i j) : Grid w g ty n k f' :=
  ⟨h.blk, fun i j hi hj => (h.cell i j hi hj).trans (by rw [e i j hi hj])⟩
theorem Grid.set (h : Grid w g ty n k f) (i j : Nat) (hi : i < n) (hj : j < k) (v : Value) : Grid (w.setCell ⟨g, i * k + j, none⟩ v) g ty n k (put2 f i j v) := by
  obtain ⟨cur, h1⟩ := h.blk
  have h2 := h1.set_ (i * k + j) v
  refine ⟨⟨_, h2⟩, fun a b ha hb => ?_⟩
  rw [h2.cell, Array.getElem?_setIfInBounds]
  have h3 := h.cell a b ha hb
  rw [h1.cell] at h3
  unfold put2
  by_cases he : a = i ∧ b = j
  · obtain ⟨rfl, rfl⟩ := he
    rw [if_pos rfl, if_pos (Array.getElem?_eq_some_iff.1 h3).1, if_pos ⟨rfl, rfl⟩]
  · rw [if_neg (fun e => he (grid_inj hb hj e.symm)), if_neg he]
    exact h3
theorem Grid.cell1 (h : Grid w g ty n 1 f) (i : Nat) (hi : i < n) : w.cell? ⟨g, i, none⟩ = some (f i 0) := by
  have := h.cell i 0 hi (Nat.lt_succ_self 0)
  rwa [Nat.mul_one, Nat.add_zero] at this
theorem Grid.set1 (h : Grid w g ty n 1 f) (i : Nat) (hi : i < n) (v : Value) : Grid (w.setCell ⟨g, i, none⟩ v) g ty n 1 (put2 f i 0 v) := by
  have := h.set i 0 hi (Nat.lt_succ_self 0) v
  rwa [Nat.mul_one, Nat.add_zero] at this
theorem Grid.drew (h : Grid w g ty n k f) : Grid w.drew g ty n k f := h.kept rfl
theorem Grid.drewN (h : Grid w g ty n k f) (m : Nat) : Grid (w.drewN m) g ty n k f := h.kept rfl
theorem ne_ty {a b : Nat} {s t : TypeId} (ha : ∃ cur, Blk w a s cur) (hb : ∃ cur, Blk w b t cur) (h : s ≠ t) : a ≠ b := by
  obtain ⟨x, hx⟩ := ha
  obtain ⟨y, hy⟩ := hb
  exact hx.ne_ hy h
end
/-- What a make lays. -/
theorem madeCells_at (z : Array Value) (n : Nat) : ∀ i j, i < n → j < z.size → (madeCells z (n * z.size))[i * z.size + j]? = z[j]? := by
  intro i j hi hj
  unfold madeCells
  have h1 : i * z.size + j < n * z.size := by
    have := Nat.mul_le_mul_right z.size (show i + 1 ≤ n from hi)
    rw [Nat.succ_mul] at this
    omega
  simp [h1, Nat.mul_add_mod_self_right, Nat.mod_eq_of_lt hj]
  rw [getElem!_pos z j hj, Array.getElem?_eq_getElem hj]

/-- Where the parts of a Set lie. -/
structure Lay where
  g : Nat
  ga : Nat
  ha : Nat
  gs : Nat
  sc : Nat
  gp : Nat
  gr : Nat
  G : Nat → Nat
  T : Nat → Nat
  F : Nat → Value
  O : Nat → Option Nat
inductive Part where
  | head
  | arena
  | bytes
  | sizes
  | pages
  | rows
  | gens (i : Nat)
  | tkn (i : Nat)
  | free (k : Nat)
  | old (i : Nat)
  deriving DecidableEq
def Conf.cf (c : Conf) : Cf := ⟨c.ps.toNat, c.np.toNat, c.nc, c.sz⟩
def Lay.blk (L : Lay) (d : Cf) (s : St) : Part → Option Nat
  | .head => some L.g
  | .arena => some L.ga
  | .bytes => some L.ha
  | .sizes => some L.gs
  | .pages => some L.gp
  | .rows => some L.gr
  | .gens i => if i < d.np ∧ s.own i = true then some (L.G i) else none
  | .tkn i => if i < d.np ∧ s.own i = true then some (L.T i) else none
  | .free k => if k < d.nc then (L.F k).ownBlock else none
  | .old i => if i < d.np then L.O i else none
def rowV (d : Cf) (s : St) (X : Nat → Nat) (i : Nat) : Value := if s.own i then .slice (some ⟨X i, 0, none⟩) (d.n (s.cls i)) (d.n (s.cls i)) else .slice none 0 0
/-- The cells of a page, of a row. -/
def pv (d : Cf) (L : Lay) (s : St) (i : Nat) : Nat → Value
  | 0 => .bool (s.own i)
  | 1 => .bool (s.lvs i)
  | 2 => .int .i64 (s.cls i : Int)
  | 3 => rowV d s L.G i
  | 4 => rowV d s L.T i
  | 5 => .int .i64 (s.held i : Int)
  | _ => .map (L.O i)
def rv (L : Lay) (s : St) (k : Nat) : Nat → Value
  | 0 => L.F k
  | 1 => .int .i64 (s.rt k : Int)
  | 2 => .int .i64 (s.rp k : Int)
  | _ => .int .i64 (s.rs k : Int)
def OldAt (w : World) (O : Option Nat) (n : Nat) (f : Nat → Nat) : Prop :=
  match O with
  | none => n = 0 ∧ ∀ x, f x = 0
  | some b => ∃ p, MapG w b n p ∧ ∀ x, (p x).getD 0 = f x
def hv (L : Lay) (c : Conf) (s : St) : Array Value :=
  #[.int .i64 c.ps, .int .i64 c.np, .int .i64 c.fa, .int .i64 c.mc, .int .i64 c.il, .int .i64 c.hot, .int .i64 c.warm, .pointer (some ⟨L.ga, 0, none⟩),
    .slice (some ⟨L.gs, 0, none⟩) c.nc L.sc, .slice (some ⟨L.gp, 0, none⟩) c.cf.np c.cf.np, .slice (some ⟨L.gr, 0, none⟩) c.nc c.nc, .int .i64 (s.spare : Int)]
def gv (f : Nat → Nat) : Nat → Nat → Value := fun x _ => .int .u32 (f x : Int)
def tv (f : Nat → Bool) : Nat → Nat → Value := fun x _ => .bool (f x)
def PartAt (w : World) (L : Lay) (c : Conf) (s : St) (bs : List UInt8) : Part → Prop
  | .head => Blk w L.g 95 (hv L c s)
  | .arena => Blk w L.ga 132 #[.int .i64 (c.cf.ps : Int), .slice (some ⟨L.ha, 0, none⟩) (c.cf.ps * c.cf.np) (c.cf.ps * c.cf.np)]
  | .bytes => BB w 5 L.ha bs
  | .sizes => Grid w L.gs 3 c.nc 1 (fun i _ => iv (c.sz i))
  | .pages => Grid w L.gp 104 c.cf.np 7 (pv c.cf L s)
  | .rows => Grid w L.gr 97 c.nc 4 (rv L s)
  | .gens i => i < c.cf.np ∧ s.own i = true → Grid w (L.G i) 107 (c.cf.n (s.cls i)) 1 (gv (s.gens i))
  | .tkn i => i < c.cf.np ∧ s.own i = true → Grid w (L.T i) 4 (c.cf.n (s.cls i)) 1 (tv (s.tkn i))
  | .free k => k < c.cf.nc → w.ownsRow 0 3 1 (L.F k) (s.free k).length ((s.free k).map iv)
  | .old i => i < c.cf.np → OldAt w (L.O i) (s.om i) (s.old i)
structure SetAt (w : World) (L : Lay) (c : Conf) (s : St) (bs : List UInt8) : Prop where
  parts : ∀ p, PartAt w L c s bs p
  inj : ∀ p q b, L.blk c.cf s p = some b → L.blk c.cf s q = some b → p = q
  len : bs.length = c.cf.ps * c.cf.np
  ok : refN c = 0
/-- The blocks of a Set. -/
def Foot (L : Lay) (c : Conf) (s : St) (b : Nat) : Prop := ∃ p, L.blk c.cf s p = some b

theorem own_block {w : World} {N n : Nat} {e : TypeId} {v : Value} {xs : List Value} {b : Nat} (h : w.ownsRow N e 1 v n xs) (hb : v.ownBlock = some b) : b < w.heap.size := by
  rcases h.2 with ⟨rfl, _⟩ | ⟨g, cap, cur, rfl, hB, hg, _⟩
  · cases hb
  · have : g = b := by simpa [Value.ownBlock] using hb
    subst this
    exact heap_lt hg
theorem own_kept {w w' : World} {N n : Nat} {e : TypeId} {v : Value} {xs : List Value} (h : w.ownsRow N e 1 v n xs) (hb : ∀ b, v.ownBlock = some b → w'.heap[b]? = w.heap[b]?) : w'.ownsRow N e 1 v n xs := by
  refine ⟨h.1, ?_⟩
  rcases h.2 with h1 | ⟨g, cap, cur, rfl, hB, hg, h2⟩
  · exact .inl h1
  · exact .inr ⟨g, cap, cur, rfl, hB, (hb g rfl).trans hg, h2⟩
theorem OldAt.kept {w w' : World} {O : Option Nat} {n : Nat} {f : Nat → Nat} (h : OldAt w O n f) (hb : ∀ b, O = some b → w'.heap[b]? = w.heap[b]?) : OldAt w' O n f := by
  cases O with
  | none => exact h
  | some b =>
    obtain ⟨p, h1, h2⟩ := h
    exact ⟨p, h1.kept (hb b rfl), h2⟩
section
variable {w w' : World} {L L' : Lay} {c : Conf} {s s' : St} {bs bs' : List UInt8}
theorem PartAt.kept {p : Part} (h : PartAt w L c s bs p) (hb : ∀ b, L.blk c.cf s p = some b → w'.heap[b]? = w.heap[b]?) : PartAt w' L c s bs p := by
  cases p with
  | head => exact (hb _ rfl).trans h
  | arena => exact (hb _ rfl).trans h
  | bytes => exact (hb _ rfl).trans h
  | sizes => exact Grid.kept h (hb _ rfl)
  | pages => exact Grid.kept h (hb _ rfl)
  | rows => exact Grid.kept h (hb _ rfl)
  | gens i => exact fun hi => Grid.kept (h hi) (hb _ (if_pos hi))
  | tkn i => exact fun hi => Grid.kept (h hi) (hb _ (if_pos hi))
  | free k => exact fun hk => own_kept (h hk) (fun b e => hb b ((if_pos hk).trans e))
  | old i => exact fun hi => OldAt.kept (h hi) (fun b e => hb b ((if_pos hi).trans e))
theorem PartAt.lt {p : Part} (h : PartAt w L c s bs p) {b : Nat} (hb : L.blk c.cf s p = some b) : b < w.heap.size := by
  cases p with
  | head => injection hb with hb; subst hb; exact Blk.lt h
  | arena => injection hb with hb; subst hb; exact Blk.lt h
  | bytes => injection hb with hb; subst hb; exact BB.lt h
  | sizes => injection hb with hb; subst hb; exact Grid.lt h
  | pages => injection hb with hb; subst hb; exact Grid.lt h
  | rows => injection hb with hb; subst hb; exact Grid.lt h
  | gens i =>
    by_cases hi : i < c.cf.np ∧ s.own i = true
    · rw [Lay.blk, if_pos hi] at hb; injection hb with hb; subst hb; exact (h hi).lt
    · rw [Lay.blk, if_neg hi] at hb; cases hb
  | tkn i =>
    by_cases hi : i < c.cf.np ∧ s.own i = true
    · rw [Lay.blk, if_pos hi] at hb; injection hb with hb; subst hb; exact (h hi).lt
    · rw [Lay.blk, if_neg hi] at hb; cases hb
  | free k =>
    by_cases hi : k < c.cf.nc
    · rw [Lay.blk, if_pos hi] at hb; exact own_block (h hi) hb
    · rw [Lay.blk, if_neg hi] at hb; cases hb
  | old i =>
    by_cases hi : i < c.cf.np
    · rw [Lay.blk, if_pos hi] at hb
      have h1 := h hi
      rw [hb] at h1
      obtain ⟨p, h2, -⟩ := h1
      exact h2.lt
    · rw [Lay.blk, if_neg hi] at hb; cases hb
theorem SetAt.lt (h : SetAt w L c s bs) {b : Nat} (hb : Foot L c s b) : b < w.heap.size := by
  obtain ⟨p, hp⟩ := hb
  exact (h.parts p).lt hp
theorem SetAt.kept (h : SetAt w L c s bs) (hb : ∀ b, Foot L c s b → w'.heap[b]? = w.heap[b]?) : SetAt w' L c s bs :=
  ⟨fun p => (h.parts p).kept fun b e => hb b ⟨p, e⟩, h.inj, h.len, h.ok⟩
theorem SetAt.only {S : Nat → Prop} (h : SetAt w L c s bs) (o : Only S w w') (hs : ∀ b, Foot L c s b → ¬ S b) : SetAt w' L c s bs :=
  h.kept fun b hb => o.block b (h.lt hb) (hs b hb)
theorem SetAt.drewN (h : SetAt w L c s bs) (n : Nat) : SetAt (w.drewN n) L c s bs := h.kept fun _ _ => rfl
theorem SetAt.drew (h : SetAt w L c s bs) : SetAt w.drew L c s bs := h.kept fun _ _ => rfl
theorem SetAt.alloc (h : SetAt w L c s bs) (o : Obj) : SetAt (w.alloc o) L c s bs := h.kept fun b hb => Below.heap_alloc w o b (h.lt hb)
/-- Some parts turn. -/
theorem SetAt.turns (P : Part → Prop) {S : Nat → Prop} (h : SetAt w L c s bs) (o : Only S w w') (hs : ∀ b, S b → b < w.heap.size → ∃ p, P p ∧ L.blk c.cf s p = some b)
    (hp : ∀ p, P p → PartAt w' L' c s' bs' p) (hq : ∀ q, ¬ P q → PartAt w L c s bs q → PartAt w L' c s' bs' q)
    (hat : ∀ q, ¬ P q → ∀ b, L'.blk c.cf s' q = some b → L.blk c.cf s q = some b)
    (hin : ∀ p b, P p → L'.blk c.cf s' p = some b → L.blk c.cf s p = some b ∨ (w.heap.size ≤ b ∧ ∀ q, P q → L'.blk c.cf s' q = some b → q = p)) (hl : bs'.length = bs.length) : SetAt w' L' c s' bs' := by
  have lt1 : ∀ p b, L.blk c.cf s p = some b → b < w.heap.size := fun p b e => (h.parts p).lt e
  refine ⟨fun q => ?_, fun p q b e1 e2 => ?_, hl.trans h.len, h.ok⟩
  · by_cases hP : P q
    · exact hp q hP
    · refine (hq q hP (h.parts q)).kept fun b e => ?_
      have e' := hat q hP b e
      refine o.block b (lt1 q b e') fun hS => ?_
      obtain ⟨p, hp1, hp2⟩ := hs b hS (lt1 q b e')
      have := h.inj p q b hp2 e'
      subst this
      exact hP hp1
  · by_cases h1 : P p
    · rcases hin p b h1 e1 with h3 | ⟨h3, h4⟩
      · by_cases h2 : P q
        · rcases hin q b h2 e2 with h5 | ⟨h5, -⟩
          · exact h.inj p q b h3 h5
          · have := lt1 p b h3; omega
        · exact h.inj p q b h3 (hat q h2 b e2)
      · by_cases h2 : P q
        · exact (h4 q h2 e2).symm
        · have := lt1 q b (hat q h2 b e2); omega
    · have h3 := hat p h1 b e1
      by_cases h2 : P q
      · rcases hin q b h2 e2 with h5 | ⟨h5, -⟩
        · exact h.inj p q b h3 h5
        · have := lt1 p b h3; omega
      · exact h.inj p q b h3 (hat q h2 b e2)
/-- One part turns, in its place. -/
theorem SetAt.turn (p : Part) {S : Nat → Prop} (h : SetAt w L c s bs) (o : Only S w w') (hs : ∀ b, S b → b < w.heap.size → L.blk c.cf s p = some b)
    (hp : PartAt w' L' c s' bs' p) (hq : ∀ q, q ≠ p → PartAt w L c s bs q → PartAt w L' c s' bs' q)
    (hat : ∀ q, q ≠ p → ∀ b, L'.blk c.cf s' q = some b → L.blk c.cf s q = some b)
    (hin : ∀ b, L'.blk c.cf s' p = some b → L.blk c.cf s p = some b ∨ w.heap.size ≤ b) (hl : bs'.length = bs.length) : SetAt w' L' c s' bs' :=
  h.turns (· = p) o (fun b hS hlt => ⟨p, rfl, hs b hS hlt⟩) (fun q e => by subst e; exact hp) hq hat
    (fun q b e hb => by subst e; exact (hin b hb).imp id fun h1 => ⟨h1, fun q e _ => e⟩) hl
end
end Go.Proofs.Ytgodinapdahocaa.Cls
