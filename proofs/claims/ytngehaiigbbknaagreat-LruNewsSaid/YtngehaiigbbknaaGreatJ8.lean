/-
  Contracts and lemmas, joined: QueueNew, Ref2Mem, Ref2New, Ref6At, Ref6Mem, Ref6Lay, LruSetup, Ref2Ask, Ref2At, Ref2Put, Ref2Page, Ref2Take, Ref2Give, QueueSwap.
-/
import Derived.Deep.RegionHeld3
import Derived.Deep.AppendLies
import Derived.StillTailTactics
import Derived.Test.YtngehaiigbbknaaGreatJ3
import Derived.Test.YtngehaiigbbknaaGreatJ4
import Derived.Test.YtngehaiigbbknaaGreatJ7
set_option linter.unusedSimpArgs false
set_option linter.unusedVariables false
/-
  The walk of queue.New.
-/
namespace Go.Proofs.YtngehaiigbbknaaGreat.Que
open Go.RowKit Base Arena Cls Itm
set_option linter.unusedVariables false
set_option linter.unusedSectionVars false

def zThree : Value := .agg #[.int .u64 0, .int .u64 0, .int .i64 0, .int .u64 0, .int .u64 0, .int .i64 0, .int .u64 0, .int .u64 0, .int .i64 0]
theorem eiQ : EI Tryz.prog 138 159 zThree 9 72 := EI.mk' Tryz.underlying138 (by kernel_rfl) rfl (by decide)
theorem grid_three (w : World) (n : Nat) : Grid (w.alloc (.cells (madeCells zThree.cells (n * 9)) 159)) w.heap.size 159 n 9 (qcv ⟨fun _ _ => 0, fun _ _ => 0, fun _ _ => 0⟩) :=
  (Grid.made w 159 zThree.cells n (fun j => (zThree.cells[j]?).getD (.int .i64 0)) fun j hj => by
    have hj : j < 9 := hj
    obtain rfl | rfl | rfl | rfl | rfl | rfl | rfl | rfl | rfl : j = 0 ∨ j = 1 ∨ j = 2 ∨ j = 3 ∨ j = 4 ∨ j = 5 ∨ j = 6 ∨ j = 7 ∨ j = 8 := by omega
    all_goals rfl).congr fun i j _ hj => by
    have hj : j < 9 := hj
    obtain rfl | rfl | rfl | rfl | rfl | rfl | rfl | rfl | rfl : j = 0 ∨ j = 1 ∨ j = 2 ∨ j = 3 ∨ j = 4 ∨ j = 5 ∨ j = 6 ∨ j = 7 ∨ j = 8 := by omega
    all_goals rfl
theorem new_none {d : Cf} {H : Nat} : findN d (new0 d) H = none := by
  cases h : findN d (new0 d) H with
  | none => rfl
  | some v =>
    obtain ⟨i, x, p⟩ := v
    obtain ⟨-, h2, -⟩ := findN_some new0_good h
    cases h2
set_option maxRecDepth 100000 in
theorem newC (w : World) (L : Lay) (c : Conf) (s : St) (bs : List UInt8) (h : SetAt w L c s bs) :
    Calls Tryz.prog 40 #[.pointer (some ⟨L.g, 0, none⟩)] w fun e w' => ∃ gq gl, e = .returned (.tuple #[.pointer (some ⟨gq, 0, none⟩), .int .i64 0]) ∧ Below w.heap.size w w' ∧ w.heap.size ≤ gq ∧ w.heap.size ≤ gl ∧ QAt w' L c gq gl ⟨fun _ _ => 0, fun _ _ => 0, fun _ _ => 0⟩ := by
  have CC := Lib.hid (classesC w L c s bs h)
  have hnc : c.cf.nc ≤ 62 := h.okc.ncb
  have ec : c.cf.nc = c.nc := rfl
  have mQ : ∀ W : World, (Instr.makeSlice 138 (.int .i64 (c.nc : Int)) (.int .i64 (c.nc : Int))).run Tryz.prog W = .ok (.slice (some ⟨W.heap.size, 0, none⟩) c.nc c.nc) (W.alloc (.cells (madeCells zThree.cells (c.nc * 9)) 159)) :=
    fun W => eiQ.make .i64 .i64 c.nc c.nc (Nat.le_refl _) (by omega) (by omega) W
  have gQ := Lib.hid (grid_three w c.nc)
  have sP := Lib.hid (World.size_alloc w (.cells (madeCells zThree.cells (c.nc * 9)) 159))
  generalize hP : Obj.cells (madeCells zThree.cells (c.nc * 9)) 159 = P at *
  replace hP := Lib.hid hP
  clear h ec hnc
  go_enter Tryz.func40, Tryz.ntmps40
  go_wp2_with fail
  refine CC.out.mono ?_
  rintro e w1 ⟨rfl, rfl⟩
  clear CC
  go_wp2_with fail
  go_ret2
  refine ⟨w.heap.size + 1, w.heap.size, rfl, ?_, by omega, by omega, ⟨?_, ?_⟩⟩
  · exact ((Below.refl _ w).alloc (Nat.le_refl _) P).alloc (by rw [sP.out]; omega) _
  · have := Blk.new (w.alloc P) 141 #[.pointer (some ⟨L.g, 0, none⟩), .slice (some ⟨w.heap.size, 0, none⟩) c.nc c.nc]
    rw [sP.out] at this
    exact this
  · have := gQ.out
    exact this.only (S := fun _ => False) ((Only.refl _ _).alloc _) (fun h => h)
/-- A new queue over a new Set. -/
theorem QW.new {w : World} {L : Lay} {c : Conf} {bs : List UInt8} {gq gl : Nat} (M : SetAt w L c (new0 c.cf) bs) (q : QAt w L c gq gl ⟨fun _ _ => 0, fun _ _ => 0, fun _ _ => 0⟩) (f1 : ¬ Foot L c (new0 c.cf) gq) (f2 : ¬ Foot L c (new0 c.cf) gl) :
    QW w L c (new0 c.cf) bs (fun _ => none) gq gl (fun _ _ => []) := by
  refine ⟨_, ⟨⟨M, new0_good, ?_⟩, q, f1, f2⟩, ?_⟩
  · refine ⟨fun H i x p hH hf => ?_, fun H z hz => ?_, fun H z hf hz => ?_⟩
    · rw [new_none] at hf; cases hf
    · cases hz
    · cases hz
  · refine ⟨fun _ _ _ _ => trivial, fun _ _ _ _ => rfl, fun _ _ _ _ => rfl, fun _ _ _ _ => rfl, fun x k h _ _ hh => ?_, fun _ _ _ _ => List.nodup_nil, fun x k x' k' h _ _ _ _ hh => ?_, fun H z hf hz => ?_⟩
    · cases hh
    · cases hh
    · cases hz
end Go.Proofs.YtngehaiigbbknaaGreat.Que
/-
  The document's Set in memory.
-/
namespace Go.Proofs.YtngehaiigbbknaaGreat.Cls
open Go.RowKit Base
set_option linter.unusedVariables false

/-- Where its parts lie. -/
structure RL where
  b : Nat
  gs : Nat
  cS : Nat
  go : Nat
  cO : Nat
  gg : Nat
  cG : Nat
  vC : Value
  gr : Nat
  cR : Nat
  F : Nat → Value
inductive RP where
  | head
  | sizes
  | own
  | lvs
  | ch
  | rows
  | row (k : Nat)
  deriving DecidableEq
def RL.blk (M : RL) (nc : Nat) : RP → Option Nat
  | .head => some M.b
  | .sizes => some M.gs
  | .own => some M.go
  | .lvs => some M.gg
  | .ch => M.vC.ownBlock
  | .rows => some M.gr
  | .row k => if k < nc then (M.F k).ownBlock else none
def ownV : Option Nat → Value
  | some k => .int .i64 (k : Int)
  | none => .int .i64 (-1)
def RC.cells (x : RC) : List Value := [.int .i64 (x.place : Int), .int .i64 (x.cls : Int), .int .u64 (x.gen : Int), .bool x.tk, .bool x.gone]
def chV (l : List RC) : List Value := l.flatMap RC.cells
theorem chV_at {l : List RC} {j : Nat} {x : RC} (h : l[j]? = some x) : ∀ i, i < 5 → (chV l)[j * 5 + i]? = x.cells[i]? := by
  induction l generalizing j with
  | nil => cases h
  | cons y l ih =>
    intro i hi
    have e : chV (y :: l) = y.cells ++ chV l := rfl
    have hy : y.cells.length = 5 := rfl
    rw [e]
    cases j with
    | zero =>
      injection h with h
      subst h
      rw [List.getElem?_append_left (by rw [hy]; omega)]
      congr 1
      omega
    | succ j =>
      rw [List.getElem?_append_right (by rw [hy]; omega), hy, show (j + 1) * 5 + i - 5 = j * 5 + i by omega]
      exact ih h i hi
theorem chV_app (l : List RC) (x : RC) : chV (l ++ [x]) = chV l ++ x.cells := by simp [chV]
theorem chV_set {l : List RC} {j : Nat} {x y : RC} (h : l[j]? = some x) (i : Nat) (hi : i < 5) (v : Value) (he : y.cells = x.cells.set i v) : chV (l.set j y) = (chV l).set (j * 5 + i) v := by
  induction l generalizing j with
  | nil => cases h
  | cons z l ih =>
    have e : chV (z :: l) = z.cells ++ chV l := rfl
    have hz : z.cells.length = 5 := rfl
    cases j with
    | zero =>
      injection h with h
      subst h
      rw [List.set_cons_zero, e, show chV (y :: l) = y.cells ++ chV l from rfl, he, List.set_append_left _ _ (by rw [hz]; omega)]
      congr 2
      omega
    | succ j =>
      rw [List.set_cons_succ, e, show chV (z :: l.set j y) = z.cells ++ chV (l.set j y) from rfl, ih h, List.set_append_right _ _ (by rw [hz]; omega), hz, show (j + 1) * 5 + i - 5 = j * 5 + i by omega]
theorem modify_set {l : List RC} {j : Nat} {x : RC} (h : l[j]? = some x) (f : RC → RC) : l.modify j f = l.set j (f x) := by
  apply List.ext_getElem?
  intro n
  rw [get_modify, List.getElem?_set]
  split
  · rename_i e
    subst e
    rw [h, if_pos (List.getElem?_eq_some_iff.1 h).1]
    rfl
  · rfl
def RPartAt (w : World) (M : RL) (c : Conf) (r : RS) : RP → Prop
  | .head => Blk w M.b 137 (rset c (.slice (some ⟨M.gs, 0, none⟩) c.nc M.cS) (.slice (some ⟨M.go, 0, none⟩) c.cf.np M.cO) (.slice (some ⟨M.gg, 0, none⟩) c.cf.np M.cG) M.vC (.slice (some ⟨M.gr, 0, none⟩) c.nc M.cR))
  | .sizes => Grid w M.gs 3 c.nc 1 (fun i _ => iv (c.sz i))
  | .own => Grid w M.go 3 c.cf.np 1 (fun i _ => ownV (r.own i))
  | .lvs => Grid w M.gg 4 c.cf.np 1 (fun i _ => .bool (r.lvs i))
  | .ch => w.ownsRow 0 197 5 M.vC r.ch.length (chV r.ch)
  | .rows => Grid w M.gr 77 c.nc 1 (fun k _ => M.F k)
  | .row k => k < c.nc → w.ownsRow 0 3 1 (M.F k) (r.rows k).length ((r.rows k).map iv)
structure RSetAt (w : World) (M : RL) (c : Conf) (r : RS) : Prop where
  parts : ∀ p, RPartAt w M c r p
  inj : ∀ p q b, M.blk c.nc p = some b → M.blk c.nc q = some b → p = q
  ok : refN c = 0
  caps : c.cf.np ≤ M.cO ∧ M.cO ≤ maxLen ∧ c.cf.np ≤ M.cG ∧ M.cG ≤ maxLen ∧ c.nc ≤ M.cR ∧ M.cR ≤ maxLen ∧ c.nc ≤ M.cS
/-- Its blocks. -/
def RFoot (M : RL) (c : Conf) (b : Nat) : Prop := ∃ p, M.blk c.nc p = some b
theorem own_blockN {w : World} {N n size : Nat} {e : TypeId} {v : Value} {xs : List Value} {b : Nat} (h : w.ownsRow N e size v n xs) (hb : v.ownBlock = some b) : b < w.heap.size := (h.lt b hb).2
theorem own_keptN {w w' : World} {N n size : Nat} {e : TypeId} {v : Value} {xs : List Value} (h : w.ownsRow N e size v n xs) (hb : ∀ b, v.ownBlock = some b → w'.heap[b]? = w.heap[b]?) : w'.ownsRow N e size v n xs := by
  refine ⟨h.1, ?_⟩
  rcases h.2 with h1 | ⟨g, cap, cur, rfl, hB, hg, h2⟩
  · exact .inl h1
  · exact .inr ⟨g, cap, cur, rfl, hB, (hb g rfl).trans hg, h2⟩
/-- One cell of an owned row is another. -/
theorem own_put {w : World} {N n size g cap : Nat} {e : TypeId} {xs : List Value} (h : w.ownsRow N e size (.slice (some ⟨g, 0, none⟩) n cap) n xs) (i : Nat) (hi : i < n * size) (v : Value) :
    (w.setCell ⟨g, i, none⟩ v).ownsRow N e size (.slice (some ⟨g, 0, none⟩) n cap) n (xs.set i v) := by
  refine ⟨by rw [List.length_set]; exact h.1, ?_⟩
  rcases h.2 with ⟨h1, -⟩ | ⟨g', cap', cur, hv, hB, hg, h3, h4, h5, h6⟩
  · cases h1
  · simp only [Value.slice.injEq, Option.some.injEq, Addr.mk.injEq, and_true, true_and] at hv
    obtain ⟨rfl, rfl⟩ := hv
    refine .inr ⟨g, cap, cur.setIfInBounds i v, rfl, hB, Blk.set_ hg i v, h3, h4, by rw [Array.size_setIfInBounds]; exact h5, ?_⟩
    rw [Array.toList_setIfInBounds, List.take_set, h6]
section
variable {w w' : World} {M M' : RL} {c : Conf} {r r' : RS}
theorem RPartAt.kept {p : RP} (h : RPartAt w M c r p) (hb : ∀ b, M.blk c.nc p = some b → w'.heap[b]? = w.heap[b]?) : RPartAt w' M c r p := by
  cases p with
  | head => exact (hb _ rfl).trans h
  | sizes => exact Grid.kept h (hb _ rfl)
  | own => exact Grid.kept h (hb _ rfl)
  | lvs => exact Grid.kept h (hb _ rfl)
  | ch => exact own_keptN h (fun b e => hb b e)
  | rows => exact Grid.kept h (hb _ rfl)
  | row k => exact fun hk => own_kept (h hk) (fun b e => hb b ((if_pos hk).trans e))
theorem RPartAt.lt {p : RP} (h : RPartAt w M c r p) {b : Nat} (hb : M.blk c.nc p = some b) : b < w.heap.size := by
  cases p with
  | head => injection hb with hb; subst hb; exact Blk.lt h
  | sizes => injection hb with hb; subst hb; exact Grid.lt h
  | own => injection hb with hb; subst hb; exact Grid.lt h
  | lvs => injection hb with hb; subst hb; exact Grid.lt h
  | ch => exact own_blockN h hb
  | rows => injection hb with hb; subst hb; exact Grid.lt h
  | row k =>
    by_cases hi : k < c.nc
    · rw [RL.blk, if_pos hi] at hb; exact own_block (h hi) hb
    · rw [RL.blk, if_neg hi] at hb; cases hb
theorem RSetAt.lt (h : RSetAt w M c r) {b : Nat} (hb : RFoot M c b) : b < w.heap.size := by
  obtain ⟨p, hp⟩ := hb
  exact (h.parts p).lt hp
theorem RSetAt.kept (h : RSetAt w M c r) (hb : ∀ b, RFoot M c b → w'.heap[b]? = w.heap[b]?) : RSetAt w' M c r :=
  ⟨fun p => (h.parts p).kept fun b e => hb b ⟨p, e⟩, h.inj, h.ok, h.caps⟩
theorem RSetAt.only {S : Nat → Prop} (h : RSetAt w M c r) (o : Only S w w') (hs : ∀ b, RFoot M c b → ¬ S b) : RSetAt w' M c r :=
  h.kept fun b hb => o.block b (h.lt hb) (hs b hb)
theorem RSetAt.drewN (h : RSetAt w M c r) (n : Nat) : RSetAt (w.drewN n) M c r := h.kept fun _ _ => rfl
theorem RSetAt.drew (h : RSetAt w M c r) : RSetAt w.drew M c r := h.kept fun _ _ => rfl
theorem RSetAt.alloc (h : RSetAt w M c r) (o : Obj) : RSetAt (w.alloc o) M c r := h.kept fun b hb => Below.heap_alloc w o b (h.lt hb)
/-- Some parts turn. -/
theorem RSetAt.turns (P : RP → Prop) {S : Nat → Prop} (h : RSetAt w M c r) (o : Only S w w') (hs : ∀ b, S b → b < w.heap.size → ∃ p, P p ∧ M.blk c.nc p = some b)
    (hp : ∀ p, P p → RPartAt w' M' c r' p) (hq : ∀ q, ¬ P q → RPartAt w M c r q → RPartAt w M' c r' q)
    (hat : ∀ q, ¬ P q → ∀ b, M'.blk c.nc q = some b → M.blk c.nc q = some b)
    (hin : ∀ p b, P p → M'.blk c.nc p = some b → M.blk c.nc p = some b ∨ (w.heap.size ≤ b ∧ ∀ q, P q → M'.blk c.nc q = some b → q = p))
    (hc : M'.cO = M.cO ∧ M'.cG = M.cG ∧ M'.cR = M.cR ∧ M'.cS = M.cS) : RSetAt w' M' c r' := by
  have lt1 : ∀ p b, M.blk c.nc p = some b → b < w.heap.size := fun p b e => (h.parts p).lt e
  refine ⟨fun q => ?_, fun p q b e1 e2 => ?_, h.ok, by rw [hc.1, hc.2.1, hc.2.2.1, hc.2.2.2]; exact h.caps⟩
  · by_cases hP : P q
    · exact hp q hP
    · refine (hq q hP (h.parts q)).kept fun b e => ?_
      have e' := hat q hP b e
      refine o.block b (lt1 q b e') fun hS => ?_
      obtain ⟨p, hp1, hp2⟩ := hs b hS (lt1 q b e')
      have := h.inj p q b hp2 e'
      subst this
      exact hP hp1
  · by_cases h1 : P p
    · rcases hin p b h1 e1 with h3 | ⟨h3, h4⟩
      · by_cases h2 : P q
        · rcases hin q b h2 e2 with h5 | ⟨h5, -⟩
          · exact h.inj p q b h3 h5
          · have := lt1 p b h3; omega
        · exact h.inj p q b h3 (hat q h2 b e2)
      · by_cases h2 : P q
        · exact (h4 q h2 e2).symm
        · have := lt1 q b (hat q h2 b e2); omega
    · have h3 := hat p h1 b e1
      by_cases h2 : P q
      · rcases hin q b h2 e2 with h5 | ⟨h5, -⟩
        · exact h.inj p q b h3 h5
        · have := lt1 p b h3; omega
      · exact h.inj p q b h3 (hat q h2 b e2)
/-- One part turns, in its place. -/
theorem RSetAt.turn (p : RP) {S : Nat → Prop} (h : RSetAt w M c r) (o : Only S w w') (hs : ∀ b, S b → b < w.heap.size → M.blk c.nc p = some b)
    (hp : RPartAt w' M' c r' p) (hq : ∀ q, q ≠ p → RPartAt w M c r q → RPartAt w M' c r' q)
    (hat : ∀ q, q ≠ p → ∀ b, M'.blk c.nc q = some b → M.blk c.nc q = some b)
    (hin : ∀ b, M'.blk c.nc p = some b → M.blk c.nc p = some b ∨ w.heap.size ≤ b) (hc : M'.cO = M.cO ∧ M'.cG = M.cG ∧ M'.cR = M.cR ∧ M'.cS = M.cS) : RSetAt w' M' c r' :=
  h.turns (· = p) o (fun b hS hlt => ⟨p, rfl, hs b hS hlt⟩) (fun q e => by subst e; exact hp) hq hat
    (fun q b e hb => by subst e; exact (hin b hb).imp id fun h1 => ⟨h1, fun q e _ => e⟩) hc
theorem RSetAt.okc (h : RSetAt w M c r) : c.cf.Ok := (okOf h.ok).1
theorem RSetAt.right (h : RSetAt w M c r) : Right c := (okOf h.ok).2
theorem RSetAt.headB (h : RSetAt w M c r) : Blk w M.b 137 (rset c (.slice (some ⟨M.gs, 0, none⟩) c.nc M.cS) (.slice (some ⟨M.go, 0, none⟩) c.cf.np M.cO) (.slice (some ⟨M.gg, 0, none⟩) c.cf.np M.cG) M.vC (.slice (some ⟨M.gr, 0, none⟩) c.nc M.cR)) := h.parts .head
theorem RSetAt.ownB (h : RSetAt w M c r) : Grid w M.go 3 c.cf.np 1 (fun i _ => ownV (r.own i)) := h.parts .own
theorem RSetAt.sizesB (h : RSetAt w M c r) : Grid w M.gs 3 c.nc 1 (fun i _ => iv (c.sz i)) := h.parts .sizes
theorem RSetAt.chB (h : RSetAt w M c r) : w.ownsRow 0 197 5 M.vC r.ch.length (chV r.ch) := h.parts .ch
theorem RSetAt.rowsB (h : RSetAt w M c r) : Grid w M.gr 77 c.nc 1 (fun k _ => M.F k) := h.parts .rows
theorem RSetAt.rowB (h : RSetAt w M c r) {k : Nat} (hk : k < c.nc) : w.ownsRow 0 3 1 (M.F k) (r.rows k).length ((r.rows k).map iv) := h.parts (.row k) hk
theorem RSetAt.cPs (h : RSetAt w M c r) : w.cell? ⟨M.b, 0, none⟩ = some (.int .i64 (c.cf.ps : Int)) := by rw [h.headB.cell 0, ← h.right.psE]; rfl
theorem RSetAt.cSizes (h : RSetAt w M c r) : w.cell? ⟨M.b, 5, none⟩ = some (.slice (some ⟨M.gs, 0, none⟩) c.nc M.cS) := by rw [h.headB.cell 5]; rfl
theorem RSetAt.cOwn (h : RSetAt w M c r) : w.cell? ⟨M.b, 6, none⟩ = some (.slice (some ⟨M.go, 0, none⟩) c.cf.np M.cO) := by rw [h.headB.cell 6]; rfl
theorem RSetAt.cCh (h : RSetAt w M c r) : w.cell? ⟨M.b, 8, none⟩ = some M.vC := by rw [h.headB.cell 8]; rfl
theorem RSetAt.cRows (h : RSetAt w M c r) : w.cell? ⟨M.b, 9, none⟩ = some (.slice (some ⟨M.gr, 0, none⟩) c.nc M.cR) := by rw [h.headB.cell 9]; rfl
theorem RSetAt.sz (h : RSetAt w M c r) {k : Nat} (hk : k < c.nc) : w.cell? ⟨M.gs, k, none⟩ = some (.int .i64 (c.sz k : Int)) := h.sizesB.cell1 k hk
theorem RSetAt.ow (h : RSetAt w M c r) {i : Nat} (hi : i < c.cf.np) : w.cell? ⟨M.go, i, none⟩ = some (ownV (r.own i)) := h.ownB.cell1 i hi
theorem RSetAt.rw_ (h : RSetAt w M c r) {k : Nat} (hk : k < c.nc) : w.cell? ⟨M.gr, k, none⟩ = some (M.F k) := h.rowsB.cell1 k hk
/-- The chunks' slice, and a chunk's cells. -/
theorem RSetAt.chs (h : RSetAt w M c r) : ∃ A cp, M.vC = .slice A r.ch.length cp ∧ r.ch.length ≤ cp := by
  rcases h.chB.2 with ⟨h1, h2⟩ | ⟨g, cap, cur, h1, -, -, h3, -⟩
  · exact ⟨none, 0, by rw [h2]; exact h1, by omega⟩
  · exact ⟨_, _, h1, h3⟩
theorem RSetAt.chAt (h : RSetAt w M c r) {j : Nat} {x : RC} (hj : r.ch[j]? = some x) : ∃ g cp, M.vC = .slice (some ⟨g, 0, none⟩) r.ch.length cp ∧ w.cell? ⟨g, j * 5, none⟩ = some (.int .i64 (x.place : Int)) ∧ w.cell? ⟨g, j * 5 + 1, none⟩ = some (.int .i64 (x.cls : Int)) ∧
    w.cell? ⟨g, j * 5 + 2, none⟩ = some (.int .u64 (x.gen : Int)) ∧ w.cell? ⟨g, j * 5 + 3, none⟩ = some (.bool x.tk) ∧ w.cell? ⟨g, j * 5 + 4, none⟩ = some (.bool x.gone) ∧ (∀ i, w.frozen? ⟨g, i, none⟩ = false) ∧ j < r.ch.length := by
  have hjl : j < r.ch.length := (List.getElem?_eq_some_iff.1 hj).1
  rcases h.chB.2 with ⟨h1, h2⟩ | ⟨g, cap, cur, h1, hB, hg, h3, h4, h5, h6⟩
  · omega
  · have key : ∀ i u, i < 5 → x.cells[i]? = some u → w.cell? ⟨g, j * 5 + i, none⟩ = some u := fun i u hi hu => by
      have e := chV_at hj i hi
      rw [hu, ← h6, List.getElem?_take, if_pos (by omega)] at e
      rw [cell_of_row w g _ cur _ (0, 0) hg, ← Array.getElem?_toList]
      exact e
    exact ⟨g, cap, h1, key 0 _ (by omega) rfl, key 1 _ (by omega) rfl, key 2 _ (by omega) rfl, key 3 _ (by omega) rfl, key 4 _ (by omega) rfl, fun i => Blk.frozen hg i, hjl⟩
end
end Go.Proofs.YtngehaiigbbknaaGreat.Cls
/-
  The document's Set as New leaves it.
-/
namespace Go.Proofs.YtngehaiigbbknaaGreat.Cls
open Go.RowKit Base MapG
set_option linter.unusedVariables false

theorem own_rep {w : World} {N n cp : Nat} {e : TypeId} {A : Option Addr} {xs : List Value} {f : Nat → Value} (hn : 1 ≤ n) (h : w.ownsRow N e 1 (.slice A n cp) n xs) (hx : ∀ i, i < n → xs[i]? = some (f i)) :
    ∃ g, A = some ⟨g, 0, none⟩ ∧ N ≤ g ∧ n ≤ cp ∧ cp ≤ maxLen ∧ Grid w g e n 1 (fun i _ => f i) := by
  have hl := h.1
  rcases h.2 with ⟨hv, h0⟩ | ⟨g, cap, cur, hv, hB, hg, h1, h2, h3, h4⟩
  · omega
  · injection hv with e1 e2 e3
    subst e1 e3
    refine ⟨g, rfl, hB, h1, h2, ⟨cur, hg⟩, fun i j hi hj => ?_⟩
    obtain rfl : j = 0 := by omega
    rw [Nat.mul_one, Nat.add_zero, cell_of_row w g i cur _ (0, 0) hg]
    have h5 := hx i hi
    rw [← h4, List.getElem?_take] at h5
    split at h5
    · simpa using h5
    · cases h5
theorem RSetAt.new {w : World} {N b : Nat} {c : Conf} (hr : refN c = 0) (np1 : 1 ≤ c.cf.np) (nc1 : 1 ≤ c.nc) (h : RAt w N b c c.cf.np c.nc) : ∃ M : RL, M.b = b ∧ RSetAt w M c rnew0 ∧ ∀ d, RFoot M c d → N ≤ d := by
  obtain ⟨hb, vS, A, cp, A', cp', A2, cp2, B, oS, hS, oO, oG, oR⟩ := h
  obtain ⟨AS, cS, rfl⟩ := own_is oS
  obtain ⟨gs, rfl, s1, s2, s3, gS⟩ := own_rep (f := fun i => iv (c.sz i)) nc1 oS (fun i hi => by rw [List.getElem?_map, List.getElem?_map, List.getElem?_range hi]; rfl)
  obtain ⟨go, rfl, o1, o2, o3, gO⟩ := own_rep (f := fun _ => Value.int .i64 (-1)) np1 oO (fun i hi => by rw [List.getElem?_replicate, if_pos hi])
  obtain ⟨gg, rfl, g1, g2, g3, gG⟩ := own_rep (f := fun _ => Value.bool false) np1 oG (fun i hi => by rw [List.getElem?_replicate, if_pos hi])
  obtain ⟨gr, rfl, r1, r2, r3, gR⟩ := own_rep (f := fun _ => Value.slice none 0 0) nc1 oR (fun i hi => by rw [List.getElem?_replicate, if_pos hi])
  have hgs : gs < b := hS gs rfl
  have n1 : b ≠ gs := ne_ty ⟨_, B⟩ gS.blk (by decide)
  have n2 : b ≠ go := ne_ty ⟨_, B⟩ gO.blk (by decide)
  have n3 : b ≠ gg := ne_ty ⟨_, B⟩ gG.blk (by decide)
  have n4 : b ≠ gr := ne_ty ⟨_, B⟩ gR.blk (by decide)
  have n5 : gs ≠ go := by omega
  have n6 : gs ≠ gg := ne_ty gS.blk gG.blk (by decide)
  have n7 : gs ≠ gr := ne_ty gS.blk gR.blk (by decide)
  have n8 : go ≠ gg := ne_ty gO.blk gG.blk (by decide)
  have n9 : go ≠ gr := ne_ty gO.blk gR.blk (by decide)
  have n10 : gg ≠ gr := ne_ty gG.blk gR.blk (by decide)
  refine ⟨⟨b, gs, cS, go, cp, gg, cp', .slice none 0 0, gr, cp2, fun _ => .slice none 0 0⟩, rfl, ⟨fun p => ?_, fun p q d hp hq => ?_, hr, o2, o3, g2, g3, r2, r3, s2⟩, fun d ⟨p, hp⟩ => ?_⟩
  · cases p with
    | head => exact B
    | sizes => exact gS
    | own => exact gO
    | lvs => exact gG
    | ch => exact ⟨rfl, .inl ⟨rfl, rfl⟩⟩
    | rows => exact gR
    | row k => exact fun _ => ⟨rfl, .inl ⟨rfl, rfl⟩⟩
  · have rn : ∀ k, (RL.blk ⟨b, gs, cS, go, cp, gg, cp', .slice none 0 0, gr, cp2, fun _ => .slice none 0 0⟩ c.nc (.row k)) = none := fun k => by
      show (if k < c.nc then none else none) = none
      split <;> rfl
    cases p with
    | ch => cases hp
    | row k => rw [rn] at hp; cases hp
    | _ =>
      cases q with
      | ch => cases hq
      | row k => rw [rn] at hq; cases hq
      | _ =>
        injection hp with hp
        injection hq with hq
        simp only at hp hq
        first | rfl | (exfalso; omega)
  · cases p with
    | head =>
      have hp : b = d := by injection hp
      omega
    | sizes =>
      have hp : gs = d := by injection hp
      omega
    | own => injection hp with hp; simp only at hp; omega
    | lvs => injection hp with hp; simp only at hp; omega
    | ch => cases hp
    | rows => injection hp with hp; simp only at hp; omega
    | row k =>
      have : (if k < c.nc then (none : Option Nat) else none) = some d := hp
      split at this <;> cases this
end Go.Proofs.YtngehaiigbbknaaGreat.Cls
/-
  The document's queue: where a handle stands in a list.
-/
namespace Go.Proofs.YtngehaiigbbknaaGreat.Que
open Go.RowKit Base Arena Cls Itm
set_option linter.unusedVariables false
set_option linter.unusedSectionVars false

def uv (x : Nat) : Value := .int .u64 (x : Int)
def atN (l : List Nat) (H : Nat) : Int := if H ∈ l then (l.idxOf H : Int) else -1
theorem own_uv {w : World} {N n i x : Nat} {v : Value} {l : List Nat} (h : w.ownsRow N 50 1 v n (l.map uv)) (hx : l[i]? = some x) : ∃ g c, v = .slice (some ⟨g, 0, none⟩) n c ∧ w.cell? ⟨g, i, none⟩ = some (.int .u64 (x : Int)) := by
  have hl := h.1
  have hi : i < l.length := (List.getElem?_eq_some_iff.1 hx).1
  rw [List.length_map] at hl
  rcases h.2 with ⟨rfl, h0⟩ | ⟨g, cap, cur, rfl, hB, hg, h1, h2, h3, h4⟩
  · omega
  · refine ⟨g, cap, rfl, ?_⟩
    rw [cell_of_row w g i cur _ (0, 0) hg]
    have h5 : (l.map uv)[i]? = some (uv x) := by rw [List.getElem?_map, hx]; rfl
    rw [← h4, List.getElem?_take] at h5
    split at h5
    · simpa [uv] using h5
    · cases h5
theorem atN_no {l : List Nat} {H : Nat} (h : ∀ j, j < l.length → l[j]? ≠ some H) : atN l H = -1 := by
  unfold atN
  rw [if_neg fun hm => ?_]
  obtain ⟨j, hj⟩ := List.mem_iff_getElem?.1 hm
  exact h j (List.getElem?_eq_some_iff.1 hj).1 hj
theorem atN_yes {l : List Nat} {H i : Nat} (hi : l[i]? = some H) (h : ∀ j, j < i → l[j]? ≠ some H) : atN l H = (i : Int) := by
  have hil := (List.getElem?_eq_some_iff.1 hi).1
  have hg := (List.getElem?_eq_some_iff.1 hi).2
  have e : l = l.take i ++ H :: l.drop (i + 1) := by
    rw [← hg, List.getElem_cons_drop, List.take_append_drop]
  have hn : H ∉ l.take i := fun hm => by
    obtain ⟨j, hj⟩ := List.mem_iff_getElem?.1 hm
    rw [List.getElem?_take] at hj
    split at hj
    · rename_i hlt; exact h j hlt hj
    · cases hj
  unfold atN
  rw [if_pos (List.mem_of_getElem? hi)]
  have := idx_split (l2 := l.drop (i + 1)) hn
  rw [← e, List.length_take] at this
  omega
set_option maxRecDepth 100000 in
theorem atC6 (w : World) (N cp : Nat) (A : Option Addr) (l : List Nat) (h : w.ownsRow N 50 1 (.slice A l.length cp) l.length (l.map uv)) (hlen : l.length ≤ 1073741824) (H : Nat) :
    Calls Tryz.prog 96 #[.slice A l.length cp, .int .u64 (H : Int)] w fun e w' => e = .returned (.int .i64 (atN l H)) ∧ w = w' := by
  replace h := Lib.hid h
  go_enter Tryz.func96, Tryz.ntmps96
  go_wp2
  go_loopw [5] (fun v wr => ∃ i : Nat, v = .int .i64 (i : Int) ∧ i ≤ l.length ∧ w = wr ∧ Hid (∀ j, j < i → l[j]? ≠ some H)) (fun v _ => l.length + 1 - (intOf v).toNat)
  case atStart => exact ⟨0, rfl, Nat.zero_le _, rfl, Lib.hid (fun j hj => absurd hj (by omega))⟩
  case round =>
    obtain ⟨i, rfl, hi, rfl, hno⟩ := hrel
    by_cases hil : i < l.length
    · have hx : l[i]? = some l[i] := List.getElem?_eq_getElem hil
      generalize l[i] = x at *
      obtain ⟨g, cp', hv, y⟩ := own_uv h.out hx
      injection hv with hv1 hv2 hv3
      subst hv1 hv3
      have k0 : (0 : Int) ≤ (i : Int) := by omega
      have k1 : (i : Int) < (l.length : Int) := by omega
      have d1 : decide ((i : Int) < (l.length : Int)) = true := decide_eq_true (by omega)
      have qi : IntKind.i64.wrap ((i : Int) + 1) = ((i + 1 : Nat) : Int) := by rw [IntWalk.i64_in _ (by omega)]; rfl
      by_cases he : x = H
      · have d2 : ((x : Int) == (H : Int)) = true := by rw [beq_iff_eq]; omega
        have d3 : decide ((x : Int) = (H : Int)) = true := decide_eq_true (by omega)
        have hf := Lib.hid (atN_yes (he ▸ hx) hno.out)
        replace he := Lib.hid he
        replace hx := Lib.hid hx
        go_wp2
        go_ret
        exact ⟨by rw [hf.out]; rfl, rfl⟩
      · have d2 : ((x : Int) == (H : Int)) = false := by rw [beq_eq_false_iff_ne]; omega
        have d3 : decide ((x : Int) = (H : Int)) = false := decide_eq_false (by omega)
        have hno' := Lib.hid (show ∀ j, j < i + 1 → l[j]? ≠ some H from fun j hj => by
          rcases Nat.lt_or_ge j i with h1 | h1
          · exact hno.out j h1
          · obtain rfl : j = i := by omega
            rw [hx]
            intro e
            injection e with e
            exact he e)
        replace he := Lib.hid he
        replace hx := Lib.hid hx
        go_wp2
        go_roundw
        case rel => exact ⟨i + 1, rfl, by omega, trivial, hno'⟩
        case measure => simp [intOf] <;> omega
    · obtain rfl : i = l.length := by omega
      have d1 : decide ((l.length : Int) < (l.length : Int)) = false := by simp
      have hf := Lib.hid (atN_no hno.out)
      go_wp2
      go_ret
      exact ⟨by rw [hf.out]; rfl, rfl⟩
end Go.Proofs.YtngehaiigbbknaaGreat.Que
/-
  The document's queue in memory: which handles have items, the lists.
-/
namespace Go.Proofs.YtngehaiigbbknaaGreat.Que
open Go.RowKit Base Arena Cls Itm
set_option linter.unusedVariables false
set_option linter.unusedSectionVars false

structure R6 where
  b : Nat
  vL : Value
  gL : Nat
  F : Nat → Value
inductive P6 where
  | head
  | laid
  | grid
  | row (k : Nat)
  deriving DecidableEq
def R6.blk (R : R6) (n : Nat) : P6 → Option Nat
  | .head => some R.b
  | .laid => R.vL.ownBlock
  | .grid => some R.gL
  | .row k => if k < n then (R.F k).ownBlock else none
def r6v (mb : Nat) (R : R6) (n : Nat) : Array Value := #[.pointer (some ⟨mb, 0, none⟩), R.vL, .slice (some ⟨R.gL, 0, none⟩) n n]
def P6At (w : World) (R : R6) (mb n : Nat) (laid : List Nat) (lists : Nat → List Nat) : P6 → Prop
  | .head => Blk w R.b 144 (r6v mb R n)
  | .laid => w.ownsRow 0 50 1 R.vL laid.length (laid.map uv)
  | .grid => Grid w R.gL 34 n 1 (fun k _ => R.F k)
  | .row k => k < n → w.ownsRow 0 50 1 (R.F k) (lists k).length ((lists k).map uv)
structure R6At (w : World) (R : R6) (mb n : Nat) (laid : List Nat) (lists : Nat → List Nat) : Prop where
  parts : ∀ p, P6At w R mb n laid lists p
  inj : ∀ p q b, R.blk n p = some b → R.blk n q = some b → p = q
def F6 (R : R6) (n : Nat) (b : Nat) : Prop := ∃ p, R.blk n p = some b
section
variable {w w' : World} {R : R6} {mb n : Nat} {laid : List Nat} {lists : Nat → List Nat} (h : R6At w R mb n laid lists)
include h
theorem R6At.head : Blk w R.b 144 (r6v mb R n) := h.parts .head
theorem R6At.laidR : w.ownsRow 0 50 1 R.vL laid.length (laid.map uv) := h.parts .laid
theorem R6At.grid : Grid w R.gL 34 n 1 (fun k _ => R.F k) := h.parts .grid
theorem R6At.row {k : Nat} (hk : k < n) : w.ownsRow 0 50 1 (R.F k) (lists k).length ((lists k).map uv) := h.parts (.row k) hk
theorem R6At.c0 : w.cell? ⟨R.b, 0, none⟩ = some (.pointer (some ⟨mb, 0, none⟩)) := h.head.cell 0
theorem R6At.c1 : w.cell? ⟨R.b, 1, none⟩ = some R.vL := h.head.cell 1
theorem R6At.c2 : w.cell? ⟨R.b, 2, none⟩ = some (.slice (some ⟨R.gL, 0, none⟩) n n) := h.head.cell 2
theorem R6At.lt {b : Nat} (hb : F6 R n b) : b < w.heap.size := by
  obtain ⟨p, hp⟩ := hb
  cases p with
  | head => injection hp with hp; subst hp; exact h.head.lt
  | laid => exact own_blockN h.laidR hp
  | grid => injection hp with hp; subst hp; exact h.grid.lt
  | row k =>
    by_cases hk : k < n
    · rw [R6.blk, if_pos hk] at hp; exact own_blockN (h.row hk) hp
    · rw [R6.blk, if_neg hk] at hp; cases hp
theorem R6At.kept (hb : ∀ b, F6 R n b → w'.heap[b]? = w.heap[b]?) : R6At w' R mb n laid lists := by
  refine ⟨fun p => ?_, h.inj⟩
  cases p with
  | head => exact (hb _ ⟨.head, rfl⟩).trans h.head
  | laid => exact own_keptN h.laidR fun b e => hb b ⟨.laid, e⟩
  | grid => exact h.grid.kept (hb _ ⟨.grid, rfl⟩)
  | row k => exact fun hk => own_keptN (h.row hk) fun b e => hb b ⟨.row k, by rw [R6.blk, if_pos hk]; exact e⟩
theorem R6At.only {S : Nat → Prop} (o : Only S w w') (hs : ∀ b, F6 R n b → ¬ S b) : R6At w' R mb n laid lists := h.kept fun b hb => o.block b (h.lt hb) (hs b hb)
theorem R6At.below (b : Below w.heap.size w w') : R6At w' R mb n laid lists := h.kept fun d hd => b.block d (h.lt hd)
end
/-- What a call leaves of it. -/
structure Went6 (w w' : World) (R R' : R6) (n : Nat) : Prop where
  only : Only (F6 R n) w w'
  foot : ∀ b, F6 R' n b → F6 R n b ∨ w.heap.size ≤ b
  gl : R'.gL = R.gL
theorem eiU : EI Tryz.prog 142 34 (.slice none 0 0) 1 24 := EI.mk' Tryz.underlying142 (by kernel_rfl) rfl (by decide)
set_option maxRecDepth 100000 in
/-- New: no item, no list has one. -/
theorem new6C (w : World) (M : RL) (c : Conf) (r : RS) (h : RSetAt w M c r) (hnc : c.nc ≤ 62) : Calls Tryz.prog 41 #[.pointer (some ⟨M.b, 0, none⟩)] w fun e w' =>
    ∃ R, e = .returned (.pointer (some ⟨R.b, 0, none⟩)) ∧ Below w.heap.size w w' ∧ (∀ b, F6 R (3 * c.nc) b → w.heap.size ≤ b) ∧ R6At w' R M.b (3 * c.nc) [] (fun _ => []) := by
  have c5 := h.cSizes
  have q1 : (3 : Int) * (c.nc : Int) = ((3 * c.nc : Nat) : Int) := by omega
  have q2 : IntKind.i64.wrap ((3 : Int) * (c.nc : Int)) = ((3 * c.nc : Nat) : Int) := by rw [q1]; exact IntWalk.i64_in _ (by omega)
  clear h q1
  obtain ⟨m, hm⟩ : ∃ m, m = 3 * c.nc := ⟨_, rfl⟩
  rw [← hm] at q2 ⊢
  have mQ : ∀ W : World, (Instr.makeSlice 142 (.int .i64 (m : Int)) (.int .i64 (m : Int))).run Tryz.prog W = .ok (.slice (some ⟨W.heap.size, 0, none⟩) m m) (W.alloc (.cells (madeCells (Value.slice none 0 0).cells (m * 1)) 34)) :=
    fun W => eiU.make .i64 .i64 m m (Nat.le_refl _) (by omega) (by omega) W
  have gQ : Hid (Grid (w.alloc (.cells (madeCells (Value.slice none 0 0).cells (m * 1)) 34)) w.heap.size 34 m 1 (fun _ _ => .slice none 0 0)) := Lib.hid (Grid.made w 34 (Value.slice none 0 0).cells m (fun _ => .slice none 0 0) fun j hj => by
    have hj : j < 1 := hj
    obtain rfl : j = 0 := by omega
    rfl)
  have sP := Lib.hid (World.size_alloc w (.cells (madeCells (Value.slice none 0 0).cells (m * 1)) 34))
  generalize Obj.cells (madeCells (Value.slice none 0 0).cells (m * 1)) 34 = P at *
  replace hm := Lib.hid hm
  go_enter Tryz.func41, Tryz.ntmps41
  go_wp2_with fail
  go_ret
  have B := Blk.new (w.alloc P) 144 #[.pointer (some ⟨M.b, 0, none⟩), .slice none 0 0, .slice (some ⟨w.heap.size, 0, none⟩) m m]
  rw [sP.out] at B
  have rn : ∀ k, (R6.blk ⟨w.heap.size + 1, .slice none 0 0, w.heap.size, fun _ => .slice none 0 0⟩ m (.row k)) = none := fun k => by
    show (if k < m then none else none) = none
    split <;> rfl
  refine ⟨⟨w.heap.size + 1, .slice none 0 0, w.heap.size, fun _ => .slice none 0 0⟩, rfl, ?_, fun d ⟨p, hp⟩ => ?_, fun p => ?_, fun p q d hp hq => ?_⟩
  · exact ((Below.refl _ w).alloc (Nat.le_refl _) P).alloc (by rw [sP.out]; omega) _
  · cases p with
    | head =>
      have hp : w.heap.size + 1 = d := by injection hp
      omega
    | laid => cases hp
    | grid =>
      have hp : w.heap.size = d := by injection hp
      omega
    | row k => rw [rn] at hp; cases hp
  · cases p with
    | head => exact B
    | laid => exact ⟨rfl, .inl ⟨rfl, rfl⟩⟩
    | grid => exact gQ.out.only (S := fun _ => False) ((Only.refl _ _).alloc _) (fun h => h)
    | row k => exact fun _ => ⟨rfl, .inl ⟨rfl, rfl⟩⟩
  · cases p with
    | laid => cases hp
    | row k => rw [rn] at hp; cases hp
    | head =>
      have hp : w.heap.size + 1 = d := by injection hp
      cases q with
      | laid => cases hq
      | row k => rw [rn] at hq; cases hq
      | head => rfl
      | grid =>
        have hq : w.heap.size = d := by injection hq
        omega
    | grid =>
      have hp : w.heap.size = d := by injection hp
      cases q with
      | laid => cases hq
      | row k => rw [rn] at hq; cases hq
      | grid => rfl
      | head =>
        have hq : w.heap.size + 1 = d := by injection hq
        omega
end Go.Proofs.YtngehaiigbbknaaGreat.Que
/-
  The document's queue: an item is laid.
-/
namespace Go.Proofs.YtngehaiigbbknaaGreat.Que
open Go.RowKit Base Arena Cls Itm
set_option linter.unusedVariables false
set_option linter.unusedSectionVars false

theorem eiL : EI Tryz.prog 34 50 (.int .u64 0) 1 8 := EI.mk' Tryz.underlying34 (by kernel_rfl) rfl (by decide)
theorem only_cell1 {S : Nat → Prop} (w : World) (g i : Nat) (v : Value) (hg : S g) : Only S w (w.setCell ⟨g, i, none⟩ v) := (Only.refl S w).setCell (p := ⟨g, i, none⟩) (fun _ => hg) v
theorem R6At.newLaid {w w6 : World} {R : R6} {mb n : Nat} {laid : List Nat} {lists : Nat → List Nat} (h : R6At w R mb n laid lists) {v' : Value} {H : Nat} (o : Only (fun b => R.vL.ownBlock = some b) w w6)
    (own6 : w6.ownsRow 0 50 1 v' (laid.length + 1) (laid.map uv ++ [uv H])) (hat : ∀ b, v'.ownBlock = some b → R.vL.ownBlock = some b ∨ w.heap.size ≤ b) :
    R6At (w6.setCell ⟨R.b, 1, none⟩ v') { R with vL := v' } mb n (laid ++ [H]) lists ∧ Went6 w (w6.setCell ⟨R.b, 1, none⟩ v') R { R with vL := v' } n := by
  have nb : ∀ p b, p ≠ .laid → R.blk n p = some b → ¬ (R.vL.ownBlock = some b) := fun p b hp hb e => hp (h.inj p .laid b hb e)
  have hv : ∀ p b, p ≠ .laid → R.blk n p = some b → ¬ (v'.ownBlock = some b) := fun p b hp hb e => by
    rcases hat b e with h1 | h1
    · exact nb p b hp hb h1
    · have := h.lt ⟨p, hb⟩; omega
  have B6 : Blk w6 R.b 144 (r6v mb R n) := (o.block _ h.head.lt (nb .head _ (by decide) rfl)).trans h.head
  have o2 := only_cell1 (S := (· = R.b)) w6 R.b 1 v' rfl
  have far : ∀ b, b < w6.heap.size → b ≠ R.b → (w6.setCell ⟨R.b, 1, none⟩ v').heap[b]? = w6.heap[b]? := fun b hb hne => o2.block b hb hne
  have ne : ∀ p b, p ≠ .head → R.blk n p = some b → b ≠ R.b := fun p b hp hb e => hp (h.inj p .head b hb (by rw [e]; rfl))
  have kp : ∀ p b, p ≠ .head → p ≠ .laid → R.blk n p = some b → (w6.setCell ⟨R.b, 1, none⟩ v').heap[b]? = w.heap[b]? := fun p b h1 h2 hb =>
    (far b (Nat.lt_of_lt_of_le (h.lt ⟨p, hb⟩) o.size) (ne p b h1 hb)).trans (o.block b (h.lt ⟨p, hb⟩) (nb p b h2 hb))
  have hbl : ∀ p, p ≠ .laid → R6.blk { R with vL := v' } n p = R.blk n p := fun p hp => by
    cases p with
    | laid => exact absurd rfl hp
    | _ => rfl
  refine ⟨⟨fun p => ?_, fun p q b hp hq => ?_⟩, ?_, fun b ⟨p, hp⟩ => ?_, rfl⟩
  · cases p with
    | head => exact B6.set_ 1 v'
    | laid =>
      have e : (laid ++ [H]).map uv = laid.map uv ++ [uv H] := List.map_append
      show World.ownsRow _ 0 _ 1 v' (laid ++ [H]).length ((laid ++ [H]).map uv)
      rw [e, List.length_append]
      exact own_keptN own6 fun b e => far b (own_blockN own6 e) fun e2 => hv .head b (by decide) (by rw [e2]; rfl) e
    | grid => exact h.grid.kept (kp .grid _ (by decide) (by decide) rfl)
    | row k => exact fun hk => own_keptN (h.row hk) fun b e => kp (.row k) b (by simp) (by simp) (by rw [R6.blk, if_pos hk]; exact e)
  · by_cases p0 : p = .laid
    · subst p0
      by_cases q0 : q = .laid
      · exact q0.symm
      · rw [hbl q q0] at hq
        exact absurd hp (hv q b q0 hq)
    · rw [hbl p p0] at hp
      by_cases q0 : q = .laid
      · subst q0
        exact absurd hq (hv p b p0 hp)
      · rw [hbl q q0] at hq
        exact h.inj p q b hp hq
  · refine (o.mono fun b _ e => ⟨.laid, e⟩).trans (only_cell1 (S := F6 R n) w6 R.b 1 v' ⟨.head, rfl⟩) fun _ _ h => h
  · by_cases p0 : p = .laid
    · subst p0
      exact (hat b hp).imp (fun e => ⟨.laid, e⟩) id
    · rw [hbl p p0] at hp
      exact .inl ⟨p, hp⟩
section
variable (w : World) (R : R6) (mb n : Nat) (laid : List Nat) (lists : Nat → List Nat) (h : R6At w R mb n laid lists) (hlen : laid.length + 1 ≤ 1073741824) (H : Nat)
include h hlen
set_option maxRecDepth 100000 in
theorem lay6In (hm : H ∈ laid) : Calls Tryz.prog 84 #[.pointer (some ⟨R.b, 0, none⟩), .int .u64 (H : Int)] w fun e w' => e = .returned (.tuple #[]) ∧ w = w' := by
  have c1 := h.c1
  obtain ⟨A, cp, hv⟩ := own_is h.laidR
  have own := h.laidR
  rw [hv] at c1 own
  have AC := atC6 w 0 cp A laid own (by omega) H
  unfold atN at AC
  rw [if_pos hm] at AC
  have d1 : decide ((laid.idxOf H : Int) < 0) = false := decide_eq_false (by omega)
  generalize laid.idxOf H = ix at *
  replace AC := Lib.hid AC
  clear h own hv hm
  go_enter Tryz.func84, Tryz.ntmps84
  go_wp2_with fail
  refine AC.out.mono ?_
  rintro e w1 ⟨rfl, rfl⟩
  go_wp2
  go_end0
  exact ⟨rfl, rfl⟩
set_option maxRecDepth 100000 in
theorem lay6Out (hm : H ∉ laid) : Calls Tryz.prog 84 #[.pointer (some ⟨R.b, 0, none⟩), .int .u64 (H : Int)] w fun e w' => e = .returned (.tuple #[]) ∧ ∃ R', R'.b = R.b ∧ Went6 w w' R R' n ∧ R6At w' R' mb n (laid ++ [H]) lists := by
  have c1 := h.c1
  have fz := h.head.frozen 1
  have z1 : ∀ o, (w.alloc o).frozen? ⟨R.b, 1, none⟩ = false := fun o => (h.head.alloc o).frozen 1
  obtain ⟨A, cp, hv⟩ := own_is h.laidR
  have own := h.laidR
  have hb := h.head
  rw [hv] at c1 own
  have AC := atC6 w 0 cp A laid own (by omega) H
  unfold atN at AC
  rw [if_neg hm] at AC
  replace AC := Lib.hid AC
  replace h := Lib.hid h
  replace hv := Lib.hid hv
  replace own := Lib.hid own
  clear hm
  go_enter Tryz.func84, Tryz.ntmps84
  go_wp2_with fail
  refine AC.out.mono ?_
  rintro e w1 ⟨rfl, rfl⟩
  clear AC
  go_wp2_with (at_builtin; refine wpList_app rfl _ _ _ rfl eiL 0 _ _ _ rfl (own.out.alloc _) (w.heap.size + 1) (some ⟨w.heap.size, 0, none⟩) 1 1 [.int .u64 (H : Int)] rfl ?c1 ?c2 ?c3 ?c4 ?c5 ?_)
  case c1 => exact reads_v w _ _
  case c2 => intro u hu; rw [List.mem_singleton] at hu; subst hu; rfl
  case c3 => unfold maxLen; omega
  case c4 => omega
  case c5 => exact Nat.zero_le _
  intro VV w6 own6 hg6 hat6
  obtain ⟨A6, cp6, rfl⟩ := own_is own6
  have o6 : Only (fun k => R.vL.ownBlock = some k) w w6 := ((Only.refl _ w).alloc _).grown hg6 (fun k e _ => by rw [hv.out]; exact e)
  have hat : ∀ b, (Value.slice A6 (laid.length + 1) cp6).ownBlock = some b → R.vL.ownBlock = some b ∨ w.heap.size ≤ b := fun b e => by
    rcases hat6 with h6 | h6
    · rw [hv.out, ← h6]; exact .inl e
    · rw [h6] at e
      injection e with e
      exact .inr (by omega)
  have T := Lib.hid (h.out.newLaid o6 own6 hat)
  have B6 : Blk w6 R.b 144 (r6v mb R n) := (o6.block _ hb.lt (fun e => by have := h.out.inj .head .laid R.b rfl e; cases this)).trans hb
  have r1 := B6.cell 1
  have r2 := B6.frozen 1
  clear own6 hg6 hat6 o6 hat z1 c1 fz own hb
  go_wp2
  go_end0
  exact ⟨rfl, { R with vL := .slice A6 (laid.length + 1) cp6 }, rfl, T.out.2, T.out.1⟩
end
end Go.Proofs.YtngehaiigbbknaaGreat.Que
/-
  The statements' setup.
-/
namespace Go.Proofs.YtngehaiigbbknaaGreat.Que
open Go.RowKit Base Arena Cls Itm
set_option linter.unusedVariables false
set_option linter.unusedSectionVars false

/-- Four pages of 4096 bytes, chunks of 64, 128, 256. -/
def qc : Conf := ⟨4096, 4, 200, 64, 256, 0, 0⟩
theorem qc_ref : refN qc = 0 := by kernel_rfl
theorem qc_nc : qc.nc = 3 := by kernel_rfl
theorem qc_np : qc.cf.np = 4 := by kernel_rfl
theorem numC6 (w : World) (n : Int) : Calls Tryz.prog 14 #[.int .i64 n] w fun e w' => e = .returned (.int .i64 n) ∧ w = w' := by
  go_enter Tryz.func14, Tryz.ntmps14
  go_wp2
  go_ret
  exact ⟨rfl, rfl⟩
end Go.Proofs.YtngehaiigbbknaaGreat.Que
/-
  The walks of the document's Is, Handle, Find, At and gen.
-/
namespace Go.Proofs.YtngehaiigbbknaaGreat.Cls
open Go.RowKit Base
set_option linter.unusedVariables false

section
variable {w : World} {M : RL} {c : Conf} {r : RS} (h : RSetAt w M c r)
include h
theorem risC (k : Int) : Calls Tryz.prog 119 #[.pointer (some ⟨M.b, 0, none⟩), .int .i64 k] w fun e w' => e = .returned (.bool (decide (0 ≤ k ∧ k < (c.nc : Int)))) ∧ w = w' := by
  have c8 := h.cSizes
  clear h
  by_cases h0 : 0 ≤ k
  · have d0 : decide (0 ≤ k) = true := decide_eq_true h0
    have e : decide (0 ≤ k ∧ k < (c.nc : Int)) = decide (k < (c.nc : Int)) := by simp [h0]
    rw [e]
    clear e
    go_enter Tryz.func119, Tryz.ntmps119
    go_wp2
    go_ret
    exact ⟨rfl, rfl⟩
  · have d0 : decide (0 ≤ k) = false := decide_eq_false h0
    have e : decide (0 ≤ k ∧ k < (c.nc : Int)) = false := by simp; omega
    rw [e]
    clear e
    go_enter Tryz.func119, Tryz.ntmps119
    go_wp2
    go_ret
    exact ⟨rfl, rfl⟩
theorem rhandleC {j : Nat} {x : RC} (hj : r.ch[j]? = some x) (hp : x.place ≤ 1073741824) (hg : x.gen < 4294967296) : Calls Tryz.prog 121 #[.pointer (some ⟨M.b, 0, none⟩), .int .i64 (j : Int)] w fun e w' => e = .returned (.int .u64 (x.name : Int)) ∧ ∃ m, w.drewN m = w' := by
  have c8 := h.cCh
  obtain ⟨g, cp, hv, y0, -, y2, -, -, -, hjl⟩ := h.chAt hj
  rw [hv] at c8
  have k0 : (0 : Int) ≤ (j : Int) := by omega
  have k1 : (j : Int) < (r.ch.length : Int) := by omega
  unfold RC.name
  generalize x.place = p at *
  generalize x.gen = G at *
  have q1 : ((p : Int)).tdiv 8 = ((p / 8 : Nat) : Int) := by rw [Int.tdiv_eq_ediv_of_nonneg (by omega)]; omega
  have q2 : IntKind.i64.wrap ((p / 8 : Nat) : Int) = ((p / 8 : Nat) : Int) := IntWalk.i64_in _ (by omega)
  have q3 : IntKind.i64.wrap (((p / 8 : Nat) : Int) + 1) = ((p / 8 : Nat) : Int) + 1 := IntWalk.i64_in _ (by omega)
  have q4 : IntKind.u64.wrap (((p / 8 : Nat) : Int) + 1) = ((p / 8 : Nat) : Int) + 1 := IntWalk.u64_in _ (by omega)
  have q6 : IntKind.u64.wrap ((G : Int) * 4294967296) = (G : Int) * 4294967296 := IntWalk.u64_in _ (by omega)
  have q7 : IntKind.u64.wrap ((G : Int) * 4294967296 + (((p / 8 : Nat) : Int) + 1)) = (hnd p G : Int) := by rw [IntWalk.u64_in _ (by omega)]; unfold hnd; omega
  generalize hq : p / 8 = q at *
  generalize hnd p G = H at *
  generalize r.ch.length = len at *
  clear hq h hv hj hjl
  go_enter Tryz.func121, Tryz.ntmps121
  go_wp2_with fail
  go_quiet (fail)
  go_wp2
  go_ret
  exact ⟨rfl, by repeat (first | exact drew_here _ | refine drew_more ?_)⟩
end
end Go.Proofs.YtngehaiigbbknaaGreat.Cls
/-
  The walks of the document's At, Of and gen.
-/
namespace Go.Proofs.YtngehaiigbbknaaGreat.Cls
open Go.RowKit Base
set_option linter.unusedVariables false

set_option maxRecDepth 100000 in
set_option maxHeartbeats 1600000 in
theorem rgenC (w : World) (M : RL) (c : Conf) (r : RS) (h : RSetAt w M c r) (hlen : r.ch.length ≤ 1073741824) (p : Nat) : Calls Tryz.prog 153 #[.pointer (some ⟨M.b, 0, none⟩), .int .i64 (p : Int)] w fun e w' => e = .returned (.int .u64 (rgen r.ch p : Int)) ∧ w = w' := by
  have c8 := h.cCh
  obtain ⟨A, cp, hv, -⟩ := h.chs
  rw [hv] at c8
  have q0 : IntKind.i64.wrap ((r.ch.length : Int) - 1) = (r.ch.length : Int) - 1 := IntWalk.i64_in _ (by omega)
  replace hv := Lib.hid hv
  replace h := Lib.hid h
  go_enter Tryz.func153, Tryz.ntmps153
  go_wp2
  clear c8
  go_loopw [5] (fun v wr => ∃ k : Nat, v = .int .i64 ((k : Int) - 1) ∧ k ≤ r.ch.length ∧ w = wr ∧ Hid (∀ j, k ≤ j → ∀ y : RC, r.ch[j]? = some y → y.place ≠ p)) (fun v _ => (intOf v + 1).toNat)
  case atStart => exact ⟨r.ch.length, rfl, Nat.le_refl _, rfl, Lib.hid (fun j hj y hy => by have := (List.getElem?_eq_some_iff.1 hy).1; omega)⟩
  case round =>
    obtain ⟨k, rfl, hk, rfl, hno⟩ := hrel
    cases k with
    | zero =>
      have d1 : decide ((0 : Int) ≤ ((0 : Nat) : Int) - 1) = false := by decide
      have hf := Lib.hid (rgen_none (l := r.ch) (p := p) fun x hx => by
        obtain ⟨j, hj, rfl⟩ := List.getElem_of_mem hx
        exact hno.out j (Nat.zero_le _) _ (List.getElem?_eq_getElem hj))
      go_wp2
      go_ret
      exact ⟨by rw [hf.out]; rfl, rfl⟩
    | succ k =>
      have e1 : ((k + 1 : Nat) : Int) - 1 = (k : Int) := by omega
      rw [e1]
      have hx : r.ch[k]? = some r.ch[k] := List.getElem?_eq_getElem (by omega)
      generalize r.ch[k] = x at *
      have c8 := h.out.cCh
      obtain ⟨g, cp2, hv2, y0, -, y2, -, -, -, -⟩ := h.out.chAt hx
      rw [hv2] at c8
      have k0 : (0 : Int) ≤ (k : Int) := by omega
      have k1 : (k : Int) < (r.ch.length : Int) := by omega
      have d1 : decide ((0 : Int) ≤ (k : Int)) = true := decide_eq_true (by omega)
      have qi : IntKind.i64.wrap ((k : Int) - 1) = (k : Int) - 1 := IntWalk.i64_in _ (by omega)
      replace hv2 := Lib.hid hv2
      by_cases hp : x.place = p
      · have hf := Lib.hid (show rgen r.ch p = x.gen by rw [← hp]; exact rgen_last hx fun j hj y hy => by rw [hp]; exact hno.out j (by omega) y hy)
        have d2 : ((x.place : Int) == (p : Int)) = true := by rw [beq_iff_eq]; omega
        have d3 : decide ((x.place : Int) = (p : Int)) = true := decide_eq_true (by omega)
        generalize (x.place : Int) = pp at *
        replace hx := Lib.hid hx
        replace hp := Lib.hid hp
        go_wp2
        go_ret
        exact ⟨by rw [hf.out]; rfl, rfl⟩
      · have hno' := Lib.hid (show ∀ j, k ≤ j → ∀ y : RC, r.ch[j]? = some y → y.place ≠ p from fun j hj y hy => by
          rcases Nat.lt_or_ge k j with h1 | h1
          · exact hno.out j (by omega) y hy
          · obtain rfl : j = k := by omega
            rw [hx] at hy
            injection hy with hy
            subst hy
            exact hp)
        have d2 : ((x.place : Int) == (p : Int)) = false := by rw [beq_eq_false_iff_ne]; omega
        have d3 : decide ((x.place : Int) = (p : Int)) = false := decide_eq_false (by omega)
        generalize (x.place : Int) = pp at *
        replace hx := Lib.hid hx
        clear hno hp
        go_wp2
        go_roundw
        case rel => exact ⟨k, rfl, by omega, trivial, hno'⟩
        case measure => simp [intOf] <;> omega
end Go.Proofs.YtngehaiigbbknaaGreat.Cls
/-
  The document's Set in memory: what one store makes of it.
-/
namespace Go.Proofs.YtngehaiigbbknaaGreat.Cls
open Go.RowKit Base
set_option linter.unusedVariables false

theorem eiCh : EI Tryz.prog 134 197 (.agg #[.int .i64 0, .int .i64 0, .int .u64 0, .bool false, .bool false]) 5 32 := EI.mk' Tryz.underlying134 (by kernel_rfl) rfl (by decide)
section
variable {w w1 : World} {M : RL} {c : Conf} {r : RS}
theorem RSetAt.setOwn (h : RSetAt w M c r) (i : Nat) (o : Option Nat) (hi : i < c.cf.np) : RSetAt (w.setCell ⟨M.go, i, none⟩ (ownV o)) M c { r with own := upd r.own i o } := by
  refine h.turn .own (only_cell w M.go _ _) (fun b e _ => by subst e; rfl) ((h.ownB.set1 i hi _).congr fun a b _ hb => ?_) (by intro q hq hp; cases q <;> first | exact hp | exact absurd rfl hq) (by intro q hq b e; cases q <;> first | exact e | exact absurd rfl hq) (fun b e => .inl e) ⟨rfl, rfl, rfl, rfl⟩
  unfold put2 upd
  by_cases he : a = i
  · rw [if_pos ⟨he, by omega⟩]; simp [he]
  · rw [if_neg (fun e => he e.1)]; simp [he]
/-- A chunk's cell. -/
theorem RSetAt.setCh (h : RSetAt w M c r) {j : Nat} {x : RC} (hx : r.ch[j]? = some x) (f : RC → RC) (i : Nat) (hi : i < 5) (v : Value) (hf : (f x).cells = x.cells.set i v) {g cp : Nat} (hv : M.vC = .slice (some ⟨g, 0, none⟩) r.ch.length cp) :
    RSetAt (w.setCell ⟨g, j * 5 + i, none⟩ v) M c { r with ch := r.ch.modify j f } := by
  have hjl := (List.getElem?_eq_some_iff.1 hx).1
  refine h.turn .ch (only_cell w g _ _) (fun b e _ => by subst e; show M.vC.ownBlock = _; rw [hv]; rfl) ?_ (by intro q hq hp; cases q <;> first | exact hp | exact absurd rfl hq) (by intro q hq b e; cases q <;> first | exact e | exact absurd rfl hq) (fun b e => .inl e) ⟨rfl, rfl, rfl, rfl⟩
  show World.ownsRow _ 0 _ 5 M.vC (r.ch.modify j f).length (chV (r.ch.modify j f))
  have := h.chB
  rw [hv] at this ⊢
  rw [List.length_modify, modify_set hx, chV_set hx i hi v hf]
  exact own_put this _ (by omega) v
/-- The chunks' slice is another. -/
theorem RSetAt.newCh (h : RSetAt w M c r) {S : Nat → Prop} (v : Value) (l : List RC) (o : Only S w w1) (hS : ∀ b, S b → b < w.heap.size → M.vC.ownBlock = some b)
    (hv : w1.ownsRow 0 197 5 v l.length (chV l)) (hb : ∀ b, v.ownBlock = some b → M.vC.ownBlock = some b ∨ w.heap.size ≤ b) :
    RSetAt (w1.setCell ⟨M.b, 8, none⟩ v) { M with vC := v } c { r with ch := l } := by
  have hrl : M.b < w.heap.size := h.headB.lt
  have hFr : ∀ b, M.vC.ownBlock = some b → b ≠ M.b := by
    intro b e he
    have := h.inj .ch .head b e (by rw [he]; rfl)
    cases this
  have hr1 := o.at_ h.headB (fun e => hFr _ (hS _ e hrl) rfl)
  have hvb : ∀ b, v.ownBlock = some b → b ≠ M.b := by
    intro b e he
    rcases hb b e with h1 | h1
    · exact hFr b h1 he
    · omega
  have hset : Blk (w1.setCell ⟨M.b, 8, none⟩ v) M.b _ _ := Blk.set_ hr1 8 v
  have hv2 : (w1.setCell ⟨M.b, 8, none⟩ v).ownsRow 0 197 5 v l.length (chV l) := own_keptN hv fun b e => Below.heap_setCell w1 _ v b (hvb b e)
  refine h.turns (fun p => p = .head ∨ p = .ch) (S := fun b => S b ∨ b = M.b) ((o.mono fun x _ hx => .inl hx).setCell (fun _ => .inr rfl) v) ?_ ?_ ?_ ?_ ?_ ⟨rfl, rfl, rfl, rfl⟩
  · rintro b (h1 | h1) hlt
    · exact ⟨.ch, .inr rfl, hS b h1 hlt⟩
    · subst h1; exact ⟨.head, .inl rfl, rfl⟩
  · rintro p (rfl | rfl)
    · exact hset
    · exact hv2
  · intro q hq hp
    cases q with
    | head => exact absurd (.inl rfl) hq
    | ch => exact absurd (.inr rfl) hq
    | _ => exact hp
  · intro q hq b e
    cases q with
    | head => exact absurd (.inl rfl) hq
    | ch => exact absurd (.inr rfl) hq
    | _ => exact e
  · rintro p b (rfl | rfl) e
    · exact .inl e
    · rcases hb b e with h1 | h1
      · exact .inl h1
      · refine .inr ⟨h1, ?_⟩
        rintro q (rfl | rfl) e2
        · injection e2 with e2
          have : M.b = b := e2
          omega
        · rfl
/-- A class's row is another. -/
theorem RSetAt.newRow (h : RSetAt w M c r) {S : Nat → Prop} (k : Nat) (hk : k < c.nc) (v : Value) (l : List Nat) (o : Only S w w1) (hS : ∀ b, S b → b < w.heap.size → (M.F k).ownBlock = some b)
    (hv : w1.ownsRow 0 3 1 v l.length (l.map iv)) (hb : ∀ b, v.ownBlock = some b → (M.F k).ownBlock = some b ∨ w.heap.size ≤ b) :
    RSetAt (w1.setCell ⟨M.gr, k, none⟩ v) { M with F := upd M.F k v } c { r with rows := upd r.rows k l } := by
  have hrl : M.gr < w.heap.size := h.rowsB.lt
  have hFr : ∀ b, (M.F k).ownBlock = some b → b ≠ M.gr := by
    intro b e he
    have := h.inj (.row k) .rows b ((if_pos hk).trans e) (by rw [he]; rfl)
    cases this
  have hr1 : Grid w1 M.gr 77 c.nc 1 (fun k _ => M.F k) := h.rowsB.only o fun e => hFr _ (hS _ e hrl) rfl
  have hvb : ∀ b, v.ownBlock = some b → b ≠ M.gr := by
    intro b e he
    rcases hb b e with h1 | h1
    · exact hFr b h1 he
    · omega
  have hset := hr1.set1 k hk v
  have hv2 : (w1.setCell ⟨M.gr, k, none⟩ v).ownsRow 0 3 1 v l.length (l.map iv) := own_kept hv fun b e => Below.heap_setCell w1 _ v b (hvb b e)
  refine h.turns (fun p => p = .rows ∨ p = .row k) (S := fun b => S b ∨ b = M.gr) ((o.mono fun x _ hx => .inl hx).setCell (fun _ => .inr rfl) v) ?_ ?_ ?_ ?_ ?_ ⟨rfl, rfl, rfl, rfl⟩
  · rintro b (h1 | h1) hlt
    · exact ⟨.row k, .inr rfl, (if_pos hk).trans (hS b h1 hlt)⟩
    · subst h1; exact ⟨.rows, .inl rfl, rfl⟩
  · rintro p (rfl | rfl)
    · refine hset.congr fun a b _ hb4 => ?_
      unfold put2
      by_cases he : a = k
      · subst he
        rw [if_pos ⟨rfl, by omega⟩]
        exact (upd_at M.F a v).symm
      · rw [if_neg (fun e => he e.1)]
        exact (upd_ne M.F v he).symm
    · intro _
      show World.ownsRow _ 0 _ 1 (upd M.F k v k) (upd r.rows k l k).length ((upd r.rows k l k).map iv)
      rw [upd_at, upd_at]
      exact hv2
  · intro q hq hp
    cases q with
    | row j =>
      have hj : j ≠ k := fun e => hq (.inr (by rw [e]))
      intro hh
      show World.ownsRow _ 0 _ 1 (upd M.F k v j) (upd r.rows k l j).length ((upd r.rows k l j).map iv)
      rw [upd_ne _ _ hj, upd_ne _ _ hj]
      exact hp hh
    | rows => exact absurd (.inl rfl) hq
    | _ => exact hp
  · intro q hq b e
    cases q with
    | row j =>
      have hj : j ≠ k := fun e => hq (.inr (by rw [e]))
      by_cases hjn : j < c.nc
      · rw [RL.blk, if_pos hjn] at e ⊢
        have e2 : (upd M.F k v j).ownBlock = some b := e
        rwa [upd_ne _ _ hj] at e2
      · rw [RL.blk, if_neg hjn] at e; cases e
    | rows => exact absurd (.inl rfl) hq
    | _ => exact e
  · rintro p b (rfl | rfl) e
    · exact .inl e
    · rw [RL.blk, if_pos hk] at e
      have e2 : (upd M.F k v k).ownBlock = some b := e
      rw [upd_at] at e2
      rcases hb b e2 with h1 | h1
      · exact .inl ((if_pos hk).trans h1)
      · refine .inr ⟨h1, ?_⟩
        rintro q (rfl | rfl) e3
        · injection e3 with e3
          have : M.gr = b := e3
          omega
        · rfl
end
/-- What becomes of the Set's blocks: as Went. -/
structure RWent (w w' : World) (M M' : RL) (c : Conf) : Prop where
  only : Only (RFoot M c) w w'
  foot : ∀ b, RFoot M' c b → RFoot M c b ∨ w.heap.size ≤ b
  b : M'.b = M.b
theorem RWent.refl (w : World) (M : RL) (c : Conf) : RWent w w M M c := ⟨Only.refl _ _, fun _ h => .inl h, rfl⟩
theorem RWent.trans {w w1 w2 : World} {M M1 M2 : RL} {c : Conf} (h : RWent w w1 M M1 c) (k : RWent w1 w2 M1 M2 c) : RWent w w2 M M2 c :=
  ⟨h.only.trans k.only fun x hx hf => (h.foot x hf).resolve_right (by omega), fun b hb => (k.foot b hb).elim (h.foot b) fun hb => .inr (Nat.le_trans h.only.size hb), k.b.trans h.b⟩
theorem RWent.drewN {w w1 : World} {M M1 : RL} {c : Conf} (h : RWent w w1 M M1 c) (n : Nat) : RWent w (w1.drewN n) M M1 c :=
  ⟨⟨h.only.os, h.only.tape, h.only.output, h.only.size, h.only.block⟩, h.foot, h.b⟩
theorem RWent.below {w w' : World} {M M' : RL} {c : Conf} (h : RWent w w' M M' c) {N : Nat} (F : ∀ b, RFoot M c b → N ≤ b) (hN : N ≤ w.heap.size) : Below N w w' ∧ (∀ b, RFoot M' c b → N ≤ b) ∧ N ≤ w'.heap.size :=
  ⟨⟨h.only.os, h.only.tape, h.only.output, h.only.size, fun k hk => h.only.block k (by omega) fun hf => by have := F k hf; omega⟩, fun b hf => (h.foot b hf).elim (F b) fun h1 => by omega, Nat.le_trans hN h.only.size⟩
theorem RWent.same {w w' : World} {M : RL} {c : Conf} (o : Only (RFoot M c) w w') : RWent w w' M M c := ⟨o, fun _ h => .inl h, rfl⟩
theorem RSetAt.wentCh {w w1 : World} {M : RL} {c : Conf} {r : RS} (h : RSetAt w M c r) {S : Nat → Prop} (v : Value) (o : Only S w w1) (hS : ∀ b, S b → b < w.heap.size → M.vC.ownBlock = some b)
    (hb : ∀ b, v.ownBlock = some b → M.vC.ownBlock = some b ∨ w.heap.size ≤ b) : RWent w (w1.setCell ⟨M.b, 8, none⟩ v) M { M with vC := v } c := by
  refine ⟨(o.mono fun x hx hs => ⟨.ch, hS x hs hx⟩).setCell (fun _ => ⟨.head, rfl⟩) v, fun b ⟨p, hp⟩ => ?_, rfl⟩
  cases p with
  | ch => exact (hb b hp).imp (fun h1 => ⟨.ch, h1⟩) id
  | head => exact .inl ⟨.head, hp⟩
  | sizes => exact .inl ⟨.sizes, hp⟩
  | own => exact .inl ⟨.own, hp⟩
  | lvs => exact .inl ⟨.lvs, hp⟩
  | rows => exact .inl ⟨.rows, hp⟩
  | row k => exact .inl ⟨.row k, hp⟩
theorem RSetAt.wentRow {w w1 : World} {M : RL} {c : Conf} {r : RS} (h : RSetAt w M c r) {S : Nat → Prop} (k : Nat) (hk : k < c.nc) (v : Value) (o : Only S w w1) (hS : ∀ b, S b → b < w.heap.size → (M.F k).ownBlock = some b)
    (hb : ∀ b, v.ownBlock = some b → (M.F k).ownBlock = some b ∨ w.heap.size ≤ b) : RWent w (w1.setCell ⟨M.gr, k, none⟩ v) M { M with F := upd M.F k v } c := by
  refine ⟨(o.mono fun x hx hs => ⟨.row k, (if_pos hk).trans (hS x hs hx)⟩).setCell (fun _ => ⟨.rows, rfl⟩) v, fun b ⟨p, hp⟩ => ?_, rfl⟩
  cases p with
  | row j =>
    by_cases hjn : j < c.nc
    · rw [RL.blk, if_pos hjn] at hp
      have hp' : (upd M.F k v j).ownBlock = some b := hp
      by_cases e : j = k
      · subst e
        rw [upd_at] at hp'
        exact (hb b hp').imp (fun h1 => ⟨.row j, (if_pos hjn).trans h1⟩) id
      · rw [upd_ne _ _ e] at hp'
        exact .inl ⟨.row j, (if_pos hjn).trans hp'⟩
    · rw [RL.blk, if_neg hjn] at hp; cases hp
  | ch => exact .inl ⟨.ch, hp⟩
  | head => exact .inl ⟨.head, hp⟩
  | sizes => exact .inl ⟨.sizes, hp⟩
  | own => exact .inl ⟨.own, hp⟩
  | lvs => exact .inl ⟨.lvs, hp⟩
  | rows => exact .inl ⟨.rows, hp⟩
/-- A cell stored, in a fresh block, reads. -/
theorem reads_cells (w : World) (l : List Value) (e : TypeId) (hl : l.length = 5) : Reads (w.alloc (.cells l.toArray e)) (w.heap.size + 1) 5 (some ⟨w.heap.size, 0, none⟩) 1 l :=
  ⟨by omega, fun _ => ⟨_, rfl, Nat.lt_succ_self _, fun j u hj => by
    rw [add_explicit, Nat.zero_add, cell_of_row (w.alloc _) w.heap.size j _ e (0, 0) (heap_alloc_new w _)]
    simpa using hj⟩⟩
end Go.Proofs.YtngehaiigbbknaaGreat.Cls
/-
  The walk of the document's page.
-/
namespace Go.Proofs.YtngehaiigbbknaaGreat.Cls
open Go.RowKit Base
set_option linter.unusedVariables false

theorem rcuts_succ (d : Cf) (l : List RC) (k i x : Nat) : rcuts d l k i (x + 1) = rcuts d l k i x ++ [⟨i * d.ps + x * d.sz k, k, rgen l (i * d.ps + x * d.sz k), false, false⟩] := by
  unfold rcuts
  rw [List.range_succ, List.map_append]
  rfl
theorem rcuts_gen {d : Cf} (ok : d.Ok) {k : Nat} (hk : k < d.nc) (l : List RC) (i x : Nat) : rgen (l ++ rcuts d l k i x) (i * d.ps + x * d.sz k) = rgen l (i * d.ps + x * d.sz k) := by
  refine rgen_apps _ _ _ fun z hz hp => ?_
  obtain ⟨y, hy, rfl⟩ := List.getElem_of_mem hz
  have hy2 : y < x := by rw [rcuts_len] at hy; exact hy
  have h2 : (rcuts d l k i x)[y]? = some (rcuts d l k i x)[y] := List.getElem?_eq_getElem hy
  rw [rcuts_at, if_pos hy2] at h2
  injection h2 with h2
  rw [← h2] at hp
  have hp : i * d.ps + y * d.sz k = i * d.ps + x * d.sz k := hp
  have hz := (ok.sz k hk).1
  have : y * d.sz k = x * d.sz k := by omega
  have := Nat.eq_of_mul_eq_mul_right (by omega) this
  omega
theorem ownV_ge (o : Option Nat) : ∃ z : Int, ownV o = .int .i64 z ∧ (decide (0 ≤ z) = o.isSome) := by
  cases o with
  | none => exact ⟨-1, rfl, rfl⟩
  | some k => exact ⟨(k : Int), rfl, by simp⟩
theorem down_at (len n y : Nat) (hy : y < n) : (((List.range n).map (len + ·)).reverse)[n - (y + 1)]? = some (len + y) := by
  rw [List.getElem?_reverse (by simp; omega), List.getElem?_map, List.length_map, List.length_range, show n - 1 - (n - (y + 1)) = y by omega, List.getElem?_range hy]
  rfl
theorem down_take (len n y : Nat) (hy : y < n) : (((List.range n).map (len + ·)).reverse).take (n - y) = (((List.range n).map (len + ·)).reverse).take (n - (y + 1)) ++ [len + y] := by
  have e : n - y = (n - (y + 1)) + 1 := by omega
  rw [e, List.take_add_one, down_at len n y hy]
  rfl
set_option maxRecDepth 100000 in
set_option maxHeartbeats 6400000 in
theorem rpageYes (w : World) (M : RL) (c : Conf) (r : RS) (h : RSetAt w M c r) (hlen : r.ch.length + 16384 ≤ 1073741824) (k : Nat) (hk : k < c.nc) (hrl : (r.rows k).length + 16384 ≤ 1073741824) (i : Nat) (hi : i < c.cf.np) (hno : r.own i = none) (hlow : ∀ j, j < i → (r.own j).isSome = true) :
    Calls Tryz.prog 120 #[.pointer (some ⟨M.b, 0, none⟩), .int .i64 (k : Int)] w fun e w' => e = .returned (.bool true) ∧ ∃ M', RSetAt w' M' c (rpage c.cf r k i) ∧ RWent w w' M M' c := by
  have c6 := h.cOwn
  have hnp := h.okc.npb
  have ok := h.okc
  have hkc : k < c.cf.nc := hk
  obtain ⟨sz1, sz2, sz3⟩ := ok.sz k hkc
  obtain ⟨n1, n2⟩ := n_pos ok hkc
  have psb := ok.psb
  replace ok := Lib.hid ok
  replace h := Lib.hid h
  replace hlow := Lib.hid hlow
  replace hno := Lib.hid hno
  go_enter Tryz.func120, Tryz.ntmps120
  go_wp2
  go_loopw [5] (fun v wr => ∃ p : Nat, v = .int .i64 (p : Int) ∧ p ≤ i ∧ w = wr) (fun v _ => i + 1 - (intOf v).toNat)
  case atStart => exact ⟨0, rfl, Nat.zero_le _, rfl⟩
  case round =>
    obtain ⟨p, rfl, hp, rfl⟩ := hrel
    have d1 : decide ((p : Int) < (c.cf.np : Int)) = true := decide_eq_true (by omega)
    have k0 : (0 : Int) ≤ (p : Int) := by omega
    have k1 : (p : Int) < (c.cf.np : Int) := by omega
    by_cases hlt : p < i
    · have qi : IntKind.i64.wrap ((p : Int) + 1) = ((p + 1 : Nat) : Int) := by rw [IntWalk.i64_in _ (by omega)]; rfl
      have y := h.out.ow (i := p) (by omega)
      obtain ⟨z, hz, dz⟩ := ownV_ge (r.own p)
      rw [hz] at y
      rw [hlow.out p hlt] at dz
      replace hz := Lib.hid hz
      go_wp2
      go_roundw
      case rel => exact ⟨p + 1, rfl, by omega, trivial⟩
      case measure => simp [intOf] <;> omega
    · obtain rfl : p = i := by omega
      have y := h.out.ow hi
      rw [hno.out] at y
      have fz : ∀ j, w.frozen? ⟨M.go, j, none⟩ = false := fun j => by obtain ⟨cur, h1⟩ := h.out.ownB.blk; exact h1.frozen j
      have fz1 := fz p
      clear fz
      have H1 := Lib.hid (h.out.setOwn p (some k) hi)
      have W1 := Lib.hid (RWent.same (M := M) (c := c) (only_at (S := RFoot M c) w M.go p (ownV (some k)) ⟨.own, rfl⟩))
      obtain ⟨w1, hw1⟩ : ∃ w1, w1 = w.setCell ⟨M.go, p, none⟩ (ownV (some k)) := ⟨_, rfl⟩
      rw [← hw1] at H1 W1
      unfold ownV at hw1 y
      simp only at hw1 y
      replace hw1 := Lib.hid hw1
      clear hlt
      go_upto_region 6 with fail
      rw [← hw1.out]
      clear hw1 fz1 y c6
      have hcp := H1.out.cPs
      have hcs := H1.out.cSizes
      have hsz := H1.out.sz hk
      have j0 : (0 : Int) ≤ (k : Int) := by omega
      have j1 : (k : Int) < (c.nc : Int) := by omega
      have z0 : ¬ ((c.sz k : Nat) : Int) = 0 := by have : c.cf.sz k = c.sz k := rfl; omega
      have q1 : ((c.cf.ps : Nat) : Int).tdiv ((c.sz k : Nat) : Int) = ((c.cf.n k : Nat) : Int) := tdivN _ _
      have q2 : IntKind.i64.wrap ((c.cf.n k : Nat) : Int) = ((c.cf.n k : Nat) : Int) := IntWalk.i64_in _ (by omega)
      go_quiet (fail)
      rename Nat => nq
      obtain ⟨w2, hw2⟩ : ∃ w2, w1.drewN nq = w2 := ⟨_, rfl⟩
      have H2 : Hid (RSetAt w2 M c { r with own := upd r.own p (some k) }) := by rw [← hw2]; exact Lib.hid (H1.out.drewN nq)
      have W2 : Hid (RWent w w2 M M c) := by rw [← hw2]; exact Lib.hid (W1.out.drewN nq)
      have c8 := H2.out.cCh
      obtain ⟨A, cp, hv, -⟩ := H2.out.chs
      rw [hv] at c8
      replace hv := Lib.hid hv
      rw [hw2]
      clear hw2 H1 W1 hcp hcs hsz q1 z0
      dsimp only at c8
      go_wp2
      clear c8
      generalize hn : c.cf.n k = n at *
      obtain ⟨len, hL⟩ : ∃ len, len = r.ch.length := ⟨_, rfl⟩
      rw [← hL]
      replace hn := Lib.hid hn
      go_loopw [8] (fun v wr => ∃ (x : Nat) (M1 : RL), v = .int .i64 (x : Int) ∧ x ≤ n ∧ Hid (RSetAt wr M1 c { r with own := upd r.own p (some k), ch := r.ch ++ rcuts c.cf r.ch k p x }) ∧ Hid (RWent w wr M M1 c)) (fun v _ => n - (intOf v).toNat)
      case atStart =>
        refine ⟨0, M, rfl, Nat.zero_le _, ?_, W2⟩
        have e : r.ch ++ rcuts c.cf r.ch k p 0 = r.ch := by simp [rcuts]
        rw [e]
        exact H2
      case round =>
        clear H2 W2 hv
        obtain ⟨x, M1, rfl, hx, R, Wr⟩ := hrel
        by_cases hxn : x < n
        · have d2 : decide ((x : Int) < (n : Int)) = true := decide_eq_true (by omega)
          have hxk : x < c.cf.n k := by rw [hn.out]; exact hxn
          obtain ⟨pp1, pp2⟩ := place_page ok.out (i := p) hkc hxk
          have pnp : (p + 1) * c.cf.ps ≤ 1024 * 1048576 := Nat.mul_le_mul (by omega) psb
          have hrg := rcuts_gen ok.out hkc r.ch p x
          have hsuc := rcuts_succ c.cf r.ch k p x
          have hszE : c.cf.sz k = c.sz k := rfl
          rw [hszE] at pp1 pp2 hrg hsuc
          obtain ⟨P1, hP1⟩ : ∃ P1, P1 = p * c.cf.ps := ⟨_, rfl⟩
          obtain ⟨X1, hX1⟩ : ∃ X1, X1 = x * c.sz k := ⟨_, rfl⟩
          obtain ⟨AT, hAT⟩ : ∃ AT, AT = P1 + X1 := ⟨_, rfl⟩
          rw [← hP1, ← hX1, ← hAT] at pp1 pp2 hrg hsuc
          have qa : IntKind.i64.wrap ((p : Int) * ((c.cf.ps : Nat) : Int)) = (P1 : Int) := by rw [← Int.natCast_mul, ← hP1]; exact IntWalk.i64_in _ (by omega)
          have qb : IntKind.i64.wrap ((x : Int) * ((c.sz k : Nat) : Int)) = (X1 : Int) := by rw [← Int.natCast_mul, ← hX1]; exact IntWalk.i64_in _ (by omega)
          have qc : IntKind.i64.wrap ((P1 : Int) + (X1 : Int)) = (AT : Int) := by rw [hAT]; exact IntWalk.i64_in _ (by omega)
          have qx : IntKind.i64.wrap ((x : Int) + 1) = ((x + 1 : Nat) : Int) := by rw [IntWalk.i64_in _ (by omega)]; rfl
          have hcp := R.out.cPs
          have hcs := R.out.cSizes
          have hsz := R.out.sz hk
          have eb := Wr.out.b
          rw [eb] at hcp hcs
          replace eb := Lib.hid eb
          replace hsuc := Lib.hid hsuc
          replace hrg := Lib.hid hrg
          clear hP1 hX1 hAT pp1 pp2 pnp hszE
          go_upto_region 11 with fail
          go_quiet (fail)
          rename Nat => nq2
          obtain ⟨wa, hwa⟩ : ∃ wa, wr.drewN nq2 = wa := ⟨_, rfl⟩
          have R2 := R.out.drewN nq2
          have Wa := Wr.out.drewN nq2
          rw [hwa] at R2 Wa
          go_upto_region 12 with fail
          rw [hwa]
          clear hwa R Wr hcp hcs hsz qa qb qc
          have hchl : (r.ch ++ rcuts c.cf r.ch k p x).length = len + x := by rw [List.length_append, rcuts_len, hL]
          have GC := rgenC wa.drew M1 c _ R2.drew (by show (r.ch ++ rcuts c.cf r.ch k p x).length ≤ _; omega) AT
          dsimp only at GC
          rw [hrg.out, eb.out] at GC
          have c8 := R2.cCh
          have own := R2.chB
          obtain ⟨A1, cp1, hv1, -⟩ := R2.chs
          dsimp only at own hv1
          rw [hchl] at own hv1
          rw [hv1] at c8 own
          have g0 := R2.cPs
          rw [eb.out] at c8 g0
          have hblt : M.b < wa.heap.size := by rw [← eb.out]; exact R2.headB.lt
          have hown : some M.b ≠ (Value.slice A1 (len + x) cp1).ownBlock := by
            rw [← hv1, ← eb.out]
            intro e
            have := R2.inj .head .ch M1.b rfl e.symm
            cases this
          have z8 := R2.headB.frozen 8
          rw [eb.out] at z8
          obtain ⟨G, hG⟩ : ∃ G, G = rgen r.ch AT := ⟨_, rfl⟩
          rw [← hG] at GC hsuc
          obtain ⟨ie, hie, hz0, hz1, hz2⟩ := eiCh.info
          obtain ⟨nw, hnw⟩ : ∃ nw : RC, nw = ⟨AT, k, G, false, false⟩ := ⟨_, rfl⟩
          have one : ∀ u ∈ nw.cells, u.oneCell' = true := by
            rw [hnw]
            intro u hu
            simp only [RC.cells, List.mem_cons, List.not_mem_nil, or_false] at hu
            rcases hu with rfl | rfl | rfl | rfl | rfl <;> rfl
          have bx0 : ∀ W : World, W.heap.size = wa.heap.size → Reads (W.alloc (.cells #[.int .i64 (AT : Int), .int .i64 (k : Int), .int .u64 (G : Int), .bool false, .bool false] 197)) (wa.heap.size + 1) 5 (some ⟨wa.heap.size, 0, none⟩) 1 nw.cells := by
            intro W hW
            have := reads_cells W nw.cells 197 rfl
            rw [hW] at this
            rw [hnw] at this ⊢
            exact this
          have hlb : len + 16384 ≤ 1073741824 := by rw [hL]; exact hlen
          have hx16 : x < 16384 := by omega
          replace GC := Lib.hid GC
          replace one := Lib.hid one
          replace bx0 := Lib.hid bx0
          replace R2 := Lib.hid R2
          replace Wa := Lib.hid Wa
          replace hv1 := Lib.hid hv1
          replace hL := Lib.hid hL
          replace hchl := Lib.hid hchl
          replace hG := Lib.hid hG
          replace hnw := Lib.hid hnw
          have c8' := (cel_alloc wa (.cells #[.int .i64 (AT : Int), .int .i64 (k : Int), .int .u64 (G : Int), .bool false, .bool false] 197) M.b 8 hblt).trans c8
          go_region_law ((first | (go_simp; go_at_call 153; refine GC.out.mono ?_; rintro e w' ⟨rfl, rfl⟩) | (refine step_append_new _ (by rfl) _ _ _ (by rfl) 0 197 ie _ 5 32 Tryz.underlying134 hie hz0 hz1 hz2 rfl (by decide) (.slice A1 (len + x) cp1) (len + x) _ (by rfl) (own.alloc _) (wa.heap.size + 1) (some ⟨wa.heap.size, 0, none⟩) 1 1 nw.cells (by rfl) (bx0.out _ (by simp)) one.out (by unfold maxLen; omega) (by omega) (Nat.zero_le _) (by omega) ?_; intro b3 c3 w3 own3 hgrow hat3 hlt3; have r1 : w3.frozen? ⟨M.b, 8, none⟩ = false := (hgrow.frozen_far _ (by simp; omega) hown).trans ((frz_alloc wa _ M.b 8 hblt).trans z8); have r2 : w3.cell? ⟨M.b, 8, none⟩ = some (.slice A1 (len + x) cp1) := (hgrow.cell_far _ (by simp; omega) hown).trans ((cel_alloc wa _ M.b 8 hblt).trans c8); have d0 : w3.cell? ⟨M.b, 0, none⟩ = some (.int .i64 ((c.cf.ps : Nat) : Int)) := (hgrow.cell_far _ (by simp; omega) hown).trans ((cel_alloc wa _ M.b 0 hblt).trans g0))))
          all_goals
            have oW : Only (fun b => M1.vC.ownBlock = some b) wa w3 := ((Only.refl _ wa).alloc _).drew.grown hgrow (fun j e _ => by rw [hv1.out]; exact e)
            have own4 : w3.ownsRow 0 197 5 (.slice (some ⟨b3, 0, none⟩) (len + x + 1) c3) (r.ch ++ rcuts c.cf r.ch k p (x + 1)).length (chV (r.ch ++ rcuts c.cf r.ch k p (x + 1))) := by
              have e1 : (r.ch ++ rcuts c.cf r.ch k p (x + 1)) = (r.ch ++ rcuts c.cf r.ch k p x) ++ [nw] := by rw [hsuc.out, hnw.out, List.append_assoc]
              rw [e1, chV_app, List.length_append, hchl.out]
              exact own3
            have hb4 : ∀ b, (Value.slice (some ⟨b3, 0, none⟩) (len + x + 1) c3).ownBlock = some b → M1.vC.ownBlock = some b ∨ wa.heap.size ≤ b := fun b e => by
              have e2 : b3 = b := by simpa [Value.ownBlock] using e
              subst e2
              rcases hat3 with h3 | h3
              · rw [hv1.out]; exact .inl h3
              · exact .inr (by rw [h3]; simp)
            have G4 := R2.out.newCh (.slice (some ⟨b3, 0, none⟩) (len + x + 1) c3) _ oW (fun b e _ => e) own4 hb4
            have W4 := Wa.out.trans (R2.out.wentCh (.slice (some ⟨b3, 0, none⟩) (len + x + 1) c3) oW (fun b e _ => e) hb4)
            rw [eb.out] at G4 W4
            obtain ⟨w4, hw4⟩ : ∃ w4, w4 = w3.setCell ⟨M.b, 8, none⟩ (.slice (some ⟨b3, 0, none⟩) (len + x + 1) c3) := ⟨_, rfl⟩
            rw [← hw4] at G4 W4 ⊢
            replace G4 := Lib.hid G4
            replace W4 := Lib.hid W4
            clear hw4 r1 r2 d0 own3 hgrow hat3 hlt3 oW own4 hb4 c8 c8' g0 z8 own R2 Wa GC bx0 one
            go_wp2
            go_roundw
            case rel => exact ⟨x + 1, _, rfl, by omega, G4, W4⟩
            case measure => simp [intOf] <;> omega
        · obtain rfl : x = n := by omega
          have d2 : decide ((x : Int) < (x : Int)) = false := by simp
          have q3 : IntKind.i64.wrap ((x : Int) - 1) = (x : Int) - 1 := IntWalk.i64_in _ (by omega)
          clear hxn
          go_wp2_with fail
          go_loopw [10] (fun v ws => ∃ (y : Nat) (M2 : RL), v = .int .i64 ((y : Int) - 1) ∧ y ≤ x ∧ Hid (RSetAt ws M2 c { r with own := upd r.own p (some k), ch := r.ch ++ rcuts c.cf r.ch k p x, rows := upd r.rows k (r.rows k ++ (((List.range x).map (len + ·)).reverse).take (x - y)) }) ∧ Hid (RWent w ws M M2 c)) (fun v _ => (intOf v + 1).toNat)
          case atStart =>
            refine ⟨x, M1, rfl, Nat.le_refl _, ?_, Wr⟩
            have e : upd r.rows k (r.rows k ++ (((List.range x).map (len + ·)).reverse).take (x - x)) = r.rows := by rw [Nat.sub_self, List.take_zero, List.append_nil, upd_self]
            rw [e]
            exact R
          case round =>
            clear R Wr
            obtain ⟨y, M2, rfl, hy, R, Wr⟩ := hrel
            rename World => ws
            cases y with
            | zero =>
              have d3 : decide ((0 : Int) ≤ ((0 : Nat) : Int) - 1) = false := by decide
              have RF : Hid (RSetAt ws M2 c (rpage c.cf r k p)) := by
                have e : rpage c.cf r k p = { r with own := upd r.own p (some k), ch := r.ch ++ rcuts c.cf r.ch k p x, rows := upd r.rows k (r.rows k ++ (((List.range x).map (len + ·)).reverse).take (x - 0)) } := by
                  unfold rpage
                  rw [hn.out, Nat.sub_zero, List.take_of_length_le (by simp), hL]
                rw [e]; exact R
              go_wp2
              go_ret
              exact ⟨rfl, M2, RF.out, Wr.out⟩
            | succ y =>
              have e1 : ((y + 1 : Nat) : Int) - 1 = (y : Int) := by omega
              rw [e1]
              have d3 : decide ((0 : Int) ≤ (y : Int)) = true := decide_eq_true (by omega)
              have qy : IntKind.i64.wrap ((y : Int) - 1) = (y : Int) - 1 := IntWalk.i64_in _ (by omega)
              have hlb : len + 16384 ≤ 1073741824 := by rw [hL]; exact hlen
              have hyx : y < x := by omega
              have hx16 : x ≤ 16384 := by omega
              have qd : IntKind.i64.wrap ((len : Int) + (y : Int)) = ((len + y : Nat) : Int) := by rw [IntWalk.i64_in _ (by omega)]; omega
              have hdt := Lib.hid (down_take len x y hyx)
              have eb := Wr.out.b
              have c9 := R.out.cRows
              rw [eb] at c9
              have rk := R.out.rw_ hk
              have own := R.out.rowB hk
              dsimp only at own
              rw [upd_at] at own
              obtain ⟨Z, hZ⟩ : ∃ Z, Z = r.rows k ++ (((List.range x).map (len + ·)).reverse).take (x - (y + 1)) := ⟨_, rfl⟩
              rw [← hZ] at own
              have hZl : Z.length ≤ (r.rows k).length + 16384 := by rw [hZ, List.length_append, List.length_take]; omega
              have hFs : ∃ A2 cp2, M2.F k = .slice A2 Z.length cp2 := by
                obtain ⟨A2, cp2, h2⟩ := own_is own
                exact ⟨A2, cp2, h2⟩
              obtain ⟨A2, cp2, hF2⟩ := hFs
              rw [hF2] at rk own
              have hglt : M2.gr < ws.heap.size := R.out.rowsB.lt
              have hblt : M.b < ws.heap.size := by rw [← eb]; exact R.out.headB.lt
              have zf : ws.frozen? ⟨M2.gr, k, none⟩ = false := by obtain ⟨cur, h1⟩ := R.out.rowsB.blk; exact h1.frozen k
              have hownG : some M2.gr ≠ (Value.slice A2 Z.length cp2).ownBlock := by
                rw [← hF2]
                intro e
                have := R.out.inj .rows (.row k) M2.gr rfl ((if_pos hk).trans e.symm)
                cases this
              have hownB : some M.b ≠ (Value.slice A2 Z.length cp2).ownBlock := by
                rw [← hF2, ← eb]
                intro e
                have := R.out.inj .head (.row k) M2.b rfl ((if_pos hk).trans e.symm)
                cases this
              obtain ⟨ie, hie, hz0, hz1, hz2⟩ := eiI.info
              have one := iv_one [len + y]
              have bx0 : ∀ W : World, W.heap.size = ws.heap.size → Reads (W.alloc (.cells #[.int .i64 ((len + y : Nat) : Int)] 3)) (ws.heap.size + 1) 1 (some ⟨ws.heap.size, 0, none⟩) 1 ([len + y].map iv) := by
                intro W hW
                have := reads_one W (len + y)
                rwa [hW] at this
              generalize len + y = LY at *
              replace one := Lib.hid one
              replace bx0 := Lib.hid bx0
              replace hF2 := Lib.hid hF2
              replace hZ := Lib.hid hZ
              replace eb := Lib.hid eb
              replace hL := Lib.hid hL
              have rk' := (cel_alloc ws (.cells #[.int .i64 (LY : Int)] 3) M2.gr k hglt).trans rk
              have c9' := (cel_alloc ws (.cells #[.int .i64 (LY : Int)] 3) M.b 9 hblt).trans c9
              go_upto_region 16 with fail
              go_region_law ((refine step_append_new _ (by rfl) _ _ _ (by rfl) 0 3 ie _ 1 8 Tryz.underlying77 hie hz0 hz1 hz2 rfl (by decide) (.slice A2 Z.length cp2) Z.length _ (by rfl) (own.alloc _) (ws.heap.size + 1) (some ⟨ws.heap.size, 0, none⟩) 1 1 ([LY].map iv) (by rfl) (bx0.out _ (by simp)) one.out (by unfold maxLen; omega) (by omega) (Nat.zero_le _) (by omega) ?_; intro b3 c3 w3 own3 hgrow hat3 hlt3; have r1 : w3.frozen? ⟨M2.gr, k, none⟩ = false := (hgrow.frozen_far _ (by simp; omega) hownG).trans ((frz_alloc ws _ M2.gr k hglt).trans zf); have r2 : w3.cell? ⟨M2.gr, k, none⟩ = some (.slice A2 Z.length cp2) := (hgrow.cell_far _ (by simp; omega) hownG).trans ((cel_alloc ws _ M2.gr k hglt).trans rk); have d9 : w3.cell? ⟨M.b, 9, none⟩ = some (.slice (some ⟨M2.gr, 0, none⟩) c.nc M2.cR) := (hgrow.cell_far _ (by simp; omega) hownB).trans ((cel_alloc ws _ M.b 9 hblt).trans c9)))
              all_goals
                have oW : Only (fun b => (M2.F k).ownBlock = some b) ws w3 := ((Only.refl _ ws).alloc _).drew.grown hgrow (fun j e _ => by rw [hF2.out]; exact e)
                have own4 : w3.ownsRow 0 3 1 (.slice (some ⟨b3, 0, none⟩) (Z.length + 1) c3) (Z ++ [LY]).length ((Z ++ [LY]).map iv) := by
                  rw [List.length_append, List.map_append]
                  exact own3
                have hb4 : ∀ b, (Value.slice (some ⟨b3, 0, none⟩) (Z.length + 1) c3).ownBlock = some b → (M2.F k).ownBlock = some b ∨ ws.heap.size ≤ b := fun b e => by
                  have e2 : b3 = b := by simpa [Value.ownBlock] using e
                  subst e2
                  rcases hat3 with h3 | h3
                  · rw [hF2.out]; exact .inl h3
                  · exact .inr (by rw [h3]; simp)
                have G4 := R.out.newRow k hk (.slice (some ⟨b3, 0, none⟩) (Z.length + 1) c3) _ oW (fun b e _ => e) own4 hb4
                have W4 := Wr.out.trans (R.out.wentRow k hk (.slice (some ⟨b3, 0, none⟩) (Z.length + 1) c3) oW (fun b e _ => e) hb4)
                have e5 : Z ++ [LY] = r.rows k ++ (((List.range x).map (len + ·)).reverse).take (x - y) := by rw [hdt.out, hZ.out, List.append_assoc]
                dsimp only at G4
                rw [upd_upd, e5] at G4
                obtain ⟨w4, hw4⟩ : ∃ w4, w4 = w3.setCell ⟨M2.gr, k, none⟩ (.slice (some ⟨b3, 0, none⟩) (Z.length + 1) c3) := ⟨_, rfl⟩
                rw [← hw4] at G4 W4 ⊢
                replace G4 := Lib.hid G4
                replace W4 := Lib.hid W4
                clear hw4 r1 r2 d9 own3 hgrow hat3 hlt3 oW own4 hb4 c9 c9' rk rk' zf own R Wr bx0 one e5
                go_wp2
                go_roundw
                case rel => exact ⟨y, _, rfl, by omega, G4, W4⟩
                case measure => simp [intOf] <;> omega
end Go.Proofs.YtngehaiigbbknaaGreat.Cls
/-
  The walk of the document's Take.
-/
namespace Go.Proofs.YtngehaiigbbknaaGreat.Cls
open Go.RowKit Base
set_option linter.unusedVariables false

def rlow (d : Cf) (r : RS) : Option Nat := lowFrom (fun i => (r.own i).isSome) d.np 0
/-- The document's state in which a class has a free chunk, if there is room. -/
def rroomS (d : Cf) (r : RS) (k : Nat) : Option RS :=
  match r.rows k with
  | [] => match rlow d r with
    | some i => some (rpage d r k i)
    | none => none
  | _ :: _ => some r
theorem lowFrom_congr {f g : Nat → Bool} : ∀ {n i : Nat}, (∀ j, i ≤ j → j < i + n → f j = g j) → lowFrom f n i = lowFrom g n i
  | 0, _, _ => rfl
  | n + 1, i, h => by
    unfold lowFrom
    rw [h i (by omega) (by omega), lowFrom_congr (n := n) (i := i + 1) fun j h1 h2 => h j (by omega) (by omega)]
section
variable {d : Cf} (ok : d.Ok) {s : St} (g : Good d s) {r : RS} (h : Rel d s r)
include h
theorem Rel.low : rlow d r = Cls.low d s := by
  unfold rlow Cls.low
  refine lowFrom_congr fun j _ hj => ?_
  rw [h.own j (by omega)]
  cases s.own j <;> rfl
include ok g
theorem Rel.room {k : Nat} (hk : k < d.nc) : (roomS d s k = none → rroomS d r k = none) ∧ ∀ s1, roomS d s k = some s1 → ∃ r1, rroomS d r k = some r1 ∧ Rel d s1 r1 := by
  have hl := h.row_len hk
  have e := h.low
  unfold roomS rroomS
  cases hf : s.free k with
  | nil =>
    have hr : r.rows k = [] := List.eq_nil_of_length_eq_zero (by rw [hl, hf]; rfl)
    rw [hr]
    simp only
    rw [e]
    cases hlow : Cls.low d s with
    | none => exact ⟨fun _ => rfl, fun s1 h1 => (by cases h1)⟩
    | some i =>
      refine ⟨fun h1 => (by cases h1), fun s1 h1 => ?_⟩
      injection h1 with h1
      subst h1
      obtain ⟨a1, a2, -⟩ := low_some hlow
      exact ⟨_, rfl, h.page ok g hk a1 a2⟩
  | cons a t =>
    obtain ⟨b, u, hr⟩ : ∃ b u, r.rows k = b :: u := by
      cases hr : r.rows k with
      | nil => rw [hr, hf] at hl; simp at hl
      | cons b u => exact ⟨b, u, rfl⟩
    rw [hr]
    refine ⟨fun h1 => (by cases h1), fun s1 h1 => ?_⟩
    injection h1 with h1
    subst h1
    exact ⟨r, rfl, h⟩
end
theorem rlow_some {d : Cf} {r : RS} {i : Nat} (h : rlow d r = some i) : i < d.np ∧ r.own i = none ∧ ∀ j, j < i → (r.own j).isSome = true := by
  obtain ⟨-, a, b, e⟩ := lowFrom_some h
  refine ⟨by omega, ?_, fun j hj => e j (by omega) hj⟩
  cases hb : r.own i with
  | none => rfl
  | some x => rw [hb] at b; cases b
set_option maxRecDepth 100000 in
set_option maxHeartbeats 3200000 in
theorem rtakeYes (w : World) (M : RL) (c : Conf) (r : RS) (h : RSetAt w M c r) (hlen : r.ch.length + 16384 ≤ 1073741824) (k : Nat) (hk : k < c.nc) (hrl : (r.rows k).length + 16384 ≤ 1073741824) (r1 : RS) (hr : rroomS c.cf r k = some r1)
    (l : List Nat) (j : Nat) (x : RC) (hj : r1.rows k = l ++ [j]) (hx : r1.ch[j]? = some x) (hp : x.place ≤ 1073741824) (hg : x.gen < 4294967296) :
    Calls Tryz.prog 82 #[.pointer (some ⟨M.b, 0, none⟩), .int .i64 (k : Int)] w fun e w' => e = .returned (.tuple #[.int .u64 (x.name : Int), .int .i64 0]) ∧ ∃ M', RSetAt w' M' c (rtake r1 k j) ∧ RWent w w' M M' c := by
  have IC := risC h (k : Int)
  rw [decide_eq_true (show (0 : Int) ≤ (k : Int) ∧ (k : Int) < (c.nc : Int) by omega)] at IC
  replace IC := Lib.hid IC
  have HW : (∃ a t, r.rows k = a :: t) ∧ r1 = r ∨ r.rows k = [] ∧ (Calls Tryz.prog 120 #[.pointer (some ⟨M.b, 0, none⟩), .int .i64 (k : Int)] w fun e w' => e = .returned (.bool true) ∧ ∃ M', RSetAt w' M' c r1 ∧ RWent w w' M M' c) := by
    unfold rroomS at hr
    split at hr
    · rename_i he
      split at hr
      · rename_i i hlow
        injection hr with hr
        subst hr
        obtain ⟨a1, a2, a3⟩ := rlow_some hlow
        exact .inr ⟨he, rpageYes w M c r h hlen k hk hrl i a1 a2 a3⟩
      · cases hr
    · rename_i a t he
      injection hr with hr
      exact .inl ⟨⟨a, t, he⟩, hr.symm⟩
  have c9 := h.cRows
  have rk := h.rw_ hk
  have own := h.rowB hk
  have hS := Lib.hid h
  have hnc := h.okc.ncb
  have hncE : c.cf.nc = c.nc := rfl
  rw [hncE] at hnc
  have hll : l.length + 1 ≤ 1073741824 := by
    have e : (l ++ [j]).length ≤ (r.rows k).length + 16384 := by
      rw [← hj]
      unfold rroomS at hr
      split at hr
      · split at hr
        · injection hr with hr
          rw [← hr]
          show (upd r.rows k _ k).length ≤ _
          rw [upd_at, List.length_append]
          have := (n_pos h.okc (show k < c.cf.nc from hk)).2
          simp
          omega
        · cases hr
      · injection hr with hr
        rw [← hr]; omega
    rw [List.length_append] at e
    simp only [List.length_singleton] at e
    omega
  clear hr h
  have k0 : (0 : Int) ≤ (k : Int) := by omega
  have k1 : (k : Int) < (c.nc : Int) := by omega
  replace hj := Lib.hid hj
  replace hx := Lib.hid hx
  go_enter Tryz.func82, Tryz.ntmps82
  go_wp2_with fail
  refine IC.out.mono ?_
  rintro e w' ⟨rfl, rfl⟩
  go_upto_region 3 with fail
  go_cut [26] from 12 to 26 (fun s26 wx => s26 = .bool false ∧ ∃ M1, Hid (RSetAt wx M1 c r1) ∧ Hid (RWent w wx M M1 c))
  case first =>
    rcases HW with ⟨⟨a, t, he⟩, rfl⟩ | ⟨he, PC⟩
    · rw [he] at own
      obtain ⟨A, cp, hF⟩ := own_is own
      rw [hF] at rk
      have hln : decide (((t.length + 1 : Nat) : Int) = 0) = false := by simp; omega
      have hln2 : (((a :: t).length : Nat)) = t.length + 1 := rfl
      rw [hln2] at rk
      clear own hF hln2 he
      go_wp2_with fail
      go_meet
      exact ⟨rfl, M, hS, Lib.hid (RWent.refl _ _ _)⟩
    · rw [he] at own
      obtain ⟨A, cp, hF⟩ := own_is own
      rw [hF] at rk
      replace PC := Lib.hid PC
      clear own hF he
      go_wp2_with fail
      refine PC.out.mono ?_
      rintro e w1 ⟨rfl, M1, H1, W1⟩
      replace H1 := Lib.hid H1
      replace W1 := Lib.hid W1
      go_wp2_with fail
      go_meet
      exact ⟨rfl, M1, H1, W1⟩
  case rest =>
    obtain ⟨rfl, M1, H1, W1⟩ := hcut
    have eb := W1.out.b
    have c9 := H1.out.cRows
    have rk := H1.out.rw_ hk
    have own1 := H1.out.rowB hk
    rw [hj.out, List.length_append, List.length_singleton] at own1
    obtain ⟨b, cap, hF, cl, hcap, hbl⟩ := own_iv (x := j) (i := l.length) own1 (by simp)
    rw [hF] at own1 rk
    have hcap' : l.length + 1 ≤ cap := by
      rcases own1.2 with ⟨h1, h2⟩ | ⟨g', cap', cur, h1, -, -, h3, -⟩
      · omega
      · simp only [Value.slice.injEq] at h1; omega
    have own2 := own_drop (x := iv j) (by rw [List.map_append] at own1; exact own1)
    have q1 : IntKind.i64.wrap (((l.length + 1 : Nat) : Int) - 1) = (l.length : Int) := by rw [IntWalk.i64_in _ (by omega)]; omega
    have l0 : (0 : Int) ≤ (l.length : Int) := by omega
    have l1 : (l.length : Int) < ((l.length + 1 : Nat) : Int) := by omega
    have l2 : (l.length : Int) ≤ (cap : Int) := by omega
    have l3 : l.length ≤ cap := by omega
    have zf : wc.frozen? ⟨M1.gr, k, none⟩ = false := by obtain ⟨cur, h1⟩ := H1.out.rowsB.blk; exact h1.frozen k
    rw [eb] at c9
    replace eb := Lib.hid eb
    replace own2 := Lib.hid own2
    replace hF := Lib.hid hF
    clear own1 own hcap
    go_wp2_with fail
    have oW : Only (fun _ => False) wc wc := Only.refl _ _
    have hb4 : ∀ d, (Value.slice (some ⟨b, 0, none⟩) l.length cap).ownBlock = some d → (M1.F k).ownBlock = some d ∨ wc.heap.size ≤ d := fun d e => .inl (by rw [hF.out]; exact e)
    have G3 := H1.out.newRow k hk (.slice (some ⟨b, 0, none⟩) l.length cap) l oW (fun b e _ => e.elim) own2.out hb4
    have W3 := W1.out.trans (H1.out.wentRow k hk (.slice (some ⟨b, 0, none⟩) l.length cap) oW (fun b e _ => e.elim) hb4)
    obtain ⟨w3, hw3⟩ : ∃ w3, w3 = (wc.setCell ⟨M1.gr, k, none⟩ (.slice (some ⟨b, 0, none⟩) l.length cap)).drew := ⟨_, rfl⟩
    replace G3 := G3.drew
    replace W3 := W3.drewN 1
    have G4 : RSetAt w3 { M1 with F := upd M1.F k (.slice (some ⟨b, 0, none⟩) l.length cap) } c { r1 with rows := upd r1.rows k l } := by rw [hw3]; exact G3
    have W4 : RWent w w3 M { M1 with F := upd M1.F k (.slice (some ⟨b, 0, none⟩) l.length cap) } c := by rw [hw3]; exact W3
    clear G3 W3
    replace hw3 := Lib.hid hw3
    obtain ⟨g, cp, hv, y0, -, y2, y3, -, fzc, hjl⟩ := G4.chAt (x := x) hx.out
    have c8 := G4.cCh
    dsimp only at hv c8 hjl
    rw [hv, eb.out] at c8
    have j0 : (0 : Int) ≤ (j : Int) := by omega
    have j1 : (j : Int) < (r1.ch.length : Int) := by omega
    have fz3 := fzc (j * 5 + 3)
    have G5 := G4.setCh (x := x) hx.out RC.taken 3 (by omega) (.bool true) rfl hv
    have W5 := W4.trans (RWent.same (M := { M1 with F := upd M1.F k (.slice (some ⟨b, 0, none⟩) l.length cap) }) (c := c) (only_at (S := RFoot _ c) w3 g (j * 5 + 3) (.bool true) ⟨.ch, by show M1.vC.ownBlock = _; rw [hv]; rfl⟩))
    obtain ⟨w5, hw5⟩ : ∃ w5, w5 = w3.setCell ⟨g, j * 5 + 3, none⟩ (.bool true) := ⟨_, rfl⟩
    rw [← hw5] at G5 W5
    have hx5 : (r1.ch.modify j RC.taken)[j]? = some x.taken := by rw [get_modify, if_pos rfl, hx.out]; rfl
    have HC := rhandleC G5 (x := x.taken) hx5 hp hg
    have hnm : x.taken.name = x.name := rfl
    rw [hnm] at HC
    dsimp only at HC
    rw [eb.out] at HC
    have GF : RSetAt w5 { M1 with F := upd M1.F k (.slice (some ⟨b, 0, none⟩) l.length cap) } c (rtake r1 k j) := by
      have e : rtake r1 k j = { r1 with rows := upd r1.rows k l, ch := r1.ch.modify j RC.taken } := by unfold rtake; rw [hj.out, List.dropLast_concat]
      rw [e]; exact G5
    replace GF := Lib.hid GF
    replace W5 := Lib.hid W5
    replace HC := Lib.hid HC
    replace hw5 := Lib.hid hw5
    replace hv := Lib.hid hv
    clear fzc G5 hx5 hnm G4 W4 own2 oW hb4
    go_still_tail 15, (by kernel_rfl)
    change wpList _ _ _ _ _ wc.drew
    go_upto_region 8 with fail
    rw [← hw3.out]
    clear hw3 c9 rk cl zf
    go_upto_region 9 with fail
    rw [← hw5.out]
    clear hw5 c8 y0 y2 y3 fz3
    go_wp2_with fail
    refine HC.out.mono ?_
    rintro e w6 ⟨rfl, m, hm⟩
    have GE : RSetAt w6 { M1 with F := upd M1.F k (.slice (some ⟨b, 0, none⟩) l.length cap) } c (rtake r1 k j) := by rw [← hm]; exact GF.out.drewN m
    have WE : RWent w w6 M { M1 with F := upd M1.F k (.slice (some ⟨b, 0, none⟩) l.length cap) } c := by rw [← hm]; exact W5.out.drewN m
    replace GE := Lib.hid GE
    replace WE := Lib.hid WE
    clear hm GF W5 HC
    go_wp2
    go_ret2
    exact ⟨rfl, _, GE.out, WE.out⟩
end Go.Proofs.YtngehaiigbbknaaGreat.Cls
/-
  The walk of the document's Give.
-/
namespace Go.Proofs.YtngehaiigbbknaaGreat.Cls
open Go.RowKit Base
set_option linter.unusedVariables false

end Go.Proofs.YtngehaiigbbknaaGreat.Cls
/-
  The queue's Swap, by its rows of handles.
-/
namespace Go.Proofs.YtngehaiigbbknaaGreat.Que
open Go.RowKit Base Arena Cls Itm
set_option linter.unusedVariables false
set_option linter.unusedSectionVars false

section
variable {w : World} {L : Lay} {c : Conf} {s : St} {bs : List UInt8} {Z : Nat → Option Zd} {gq gl : Nat} {Ls : Nat → Nat → List Nat} (h : QW w L c s bs Z gq gl Ls)
include h
end
end Go.Proofs.YtngehaiigbbknaaGreat.Que
