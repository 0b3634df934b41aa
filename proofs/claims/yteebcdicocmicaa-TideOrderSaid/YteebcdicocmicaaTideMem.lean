/-
  The wheel in memory: its block, its row of entries, its map; the walk of lay.
-/
import Derived.Test.YteebcdicocmicaaTideLeaf
import Derived.Test.YteebcdicocmicaaMapI
import Derived.StillTailTactics
namespace Go.Proofs.Yteebcdicocmicaa.Tide
open Go.RowKit Base MapI
set_option linter.unusedVariables false

def eC (a : E) : List Value := [.int .u64 (a.h : Int), .int .i64 a.x, .int .u64 (a.t : Int)]
def flat (L : List E) : List Value := L.flatMap eC
theorem flat_len (L : List E) : (flat L).length = L.length * 3 := by
  induction L with
  | nil => rfl
  | cons a L ih => simp only [flat, List.flatMap_cons, List.length_append, List.length_cons] at *; rw [ih]; simp [eC]; omega
theorem flat_append (L M : List E) : flat (L ++ M) = flat L ++ flat M := by simp [flat]
theorem flat_at (L : List E) : ∀ (i : Nat) (hi : i < L.length), (flat L)[i * 3]? = some (.int .u64 ((gE L i).h : Int)) ∧ (flat L)[i * 3 + 1]? = some (.int .i64 (gE L i).x) ∧ (flat L)[i * 3 + 2]? = some (.int .u64 ((gE L i).t : Int)) := by
  induction L with
  | nil => intro i hi; simp at hi
  | cons a L ih =>
    intro i hi
    cases i with
    | zero => exact ⟨rfl, rfl, rfl⟩
    | succ i =>
      have hlen : (eC a).length = 3 := rfl
      have e : flat (a :: L) = eC a ++ flat L := rfl
      obtain ⟨h1, h2, h3⟩ := ih i (by simpa using hi)
      have g : gE (a :: L) (i + 1) = gE L i := rfl
      rw [e, g, List.getElem?_append_right (by omega), List.getElem?_append_right (by omega), List.getElem?_append_right (by omega), hlen,
        show (i + 1) * 3 - 3 = i * 3 by omega, show (i + 1) * 3 + 1 - 3 = i * 3 + 1 by omega, show (i + 1) * 3 + 2 - 3 = i * 3 + 2 by omega]
      exact ⟨h1, h2, h3⟩
theorem flat_set (L : List E) (i : Nat) (hi : i < L.length) (a : E) : flat (L.set i a) = (((flat L).set (i * 3) (.int .u64 (a.h : Int))).set (i * 3 + 1) (.int .i64 a.x)).set (i * 3 + 2) (.int .u64 (a.t : Int)) := by
  induction L generalizing i with
  | nil => simp at hi
  | cons b L ih =>
    cases i with
    | zero => rfl
    | succ i =>
      have hlen : (eC b).length = 3 := rfl
      have e : flat (b :: L) = eC b ++ flat L := rfl
      have e2 : flat ((b :: L).set (i + 1) a) = eC b ++ flat (L.set i a) := rfl
      rw [e2, ih i (by simpa using hi), e, List.set_append_right _ _ (by omega), List.set_append_right _ _ (by omega), List.set_append_right _ _ (by omega), hlen,
        show (i + 1) * 3 - 3 = i * 3 by omega, show (i + 1) * 3 + 1 - 3 = i * 3 + 1 by omega, show (i + 1) * 3 + 2 - 3 = i * 3 + 2 by omega]

/-- Block b is a row of entries, room for c, that begins with L. -/
def HR (w : World) (b c : Nat) (L : List E) : Prop := ∃ cur, w.heap[b]? = some (.cells cur 118 (0, 0)) ∧ L.length ≤ c ∧ c ≤ maxLen ∧ cur.size = c * 3 ∧ cur.toList.take (L.length * 3) = flat L
section
variable {w : World} {b c : Nat} {L : List E}
theorem HR.lt (h : HR w b c L) : b < w.heap.size := by obtain ⟨cur, h1, _⟩ := h; exact heap_lt h1
theorem HR.kept {w' : World} (h : HR w b c L) (hb : w'.heap[b]? = w.heap[b]?) : HR w' b c L := by
  obtain ⟨cur, h1, h2⟩ := h
  exact ⟨cur, hb.trans h1, h2⟩
theorem HR.only {w' : World} {S : Nat → Prop} (h : HR w b c L) (o : Only S w w') (hs : ¬ S b) : HR w' b c L := h.kept (o.block b h.lt hs)
theorem HR.cells (h : HR w b c L) (i : Nat) (hi : i < L.length) : w.cell? ⟨b, i * 3, none⟩ = some (.int .u64 ((gE L i).h : Int)) ∧ w.cell? ⟨b, i * 3 + 1, none⟩ = some (.int .i64 (gE L i).x) ∧ w.cell? ⟨b, i * 3 + 2, none⟩ = some (.int .u64 ((gE L i).t : Int)) := by
  obtain ⟨cur, h1, h2, h3, h4, h5⟩ := h
  have key : ∀ j, j < L.length * 3 → w.cell? ⟨b, j, none⟩ = (flat L)[j]? := by
    intro j hj
    rw [cell_of_row w b j cur 118 (0, 0) h1, ← h5, List.getElem?_take, if_pos hj]
    simp
  obtain ⟨a1, a2, a3⟩ := flat_at L i hi
  exact ⟨(key _ (by omega)).trans a1, (key _ (by omega)).trans a2, (key _ (by omega)).trans a3⟩
theorem HR.frozen (h : HR w b c L) (i : Nat) : w.frozen? ⟨b, i, none⟩ = false := by
  obtain ⟨cur, h1, _⟩ := h
  simp [World.frozen?, h1]
theorem HR.set (h : HR w b c L) (i : Nat) (hi : i < L.length) (a : E) :
    HR (((w.setCell ⟨b, i * 3, none⟩ (.int .u64 (a.h : Int))).setCell ⟨b, i * 3 + 1, none⟩ (.int .i64 a.x)).setCell ⟨b, i * 3 + 2, none⟩ (.int .u64 (a.t : Int))) b c (L.set i a) := by
  obtain ⟨cur, h1, h2, h3, h4, h5⟩ := h
  have hb1 : Blk w b 118 cur := h1
  refine ⟨_, ((hb1.set_ _ _).set_ _ _).set_ _ _, by simpa using h2, h3, by simpa using h4, ?_⟩
  rw [flat_set L i hi a, ← h5]
  simp only [Array.toList_setIfInBounds, List.length_set]
  rw [List.take_set, List.take_set, List.take_set]
theorem HR.of_own {base : Nat} {v : Value} (h : w.ownsRow base 118 3 v L.length (flat L)) (hn : 0 < L.length) : ∃ b c, v = .slice (some ⟨b, 0, none⟩) L.length c ∧ base ≤ b ∧ HR w b c L := by
  rcases h.2 with ⟨_, h0⟩ | ⟨g, cap, cur, rfl, hb, hg, hnc, hcm, hcs, ht⟩
  · omega
  · exact ⟨g, cap, rfl, hb, cur, hg, hnc, hcm, hcs, ht⟩
theorem HR.own (h : HR w b c L) {base : Nat} (hb : base ≤ b) : w.ownsRow base 118 3 (.slice (some ⟨b, 0, none⟩) L.length c) L.length (flat L) := by
  obtain ⟨cur, h1, h2, h3, h4, h5⟩ := h
  exact ⟨flat_len L, .inr ⟨b, c, cur, rfl, hb, h1, h2, h3, h4, h5⟩⟩
theorem HR.shrink (h : HR w b c L) (k : Nat) : HR w b c (L.take k) := by
  obtain ⟨cur, h1, h2, h3, h4, h5⟩ := h
  refine ⟨cur, h1, by rw [List.length_take]; omega, h3, h4, ?_⟩
  have e2 : flat L = flat (L.take k) ++ flat (L.drop k) := by rw [← flat_append, List.take_append_drop]
  have e3 : (flat (L.take k) ++ flat (L.drop k)).take ((L.take k).length * 3) = flat (L.take k) := by
    rw [List.take_append_of_le_length (Nat.le_of_eq (flat_len _).symm), List.take_of_length_le (Nat.le_of_eq (flat_len _))]
  have e : flat (L.take k) = (flat L).take ((L.take k).length * 3) := (congrArg (fun z => z.take ((L.take k).length * 3)) e2).trans e3 |>.symm
  rw [e, ← h5, List.take_take, List.length_take]
  congr 1
  omega
end

/-- Block g is a wheel: its row of entries (block b, room for c) holds L, its map (block m) is f, the last turn is t. -/
structure WM (w : World) (g b c m n t : Nat) (L : List E) (f : Nat → Option Nat) : Prop where
  head : w.heap[g]? = some (.cells #[.slice (some ⟨b, 0, none⟩) L.length c, .map (some m), .int .u64 (t : Int)] 116 (0, 0))
  row : HR w b c L
  map : MapI w m n f
section
variable {w : World} {g b c m n t : Nat} {L : List E} {f : Nat → Option Nat}
theorem WM.gb (h : WM w g b c m n t L f) : g ≠ b := by
  rintro rfl
  obtain ⟨cur, h1, _⟩ := h.row
  rw [h.head] at h1
  injection h1 with h1
  injection h1 with _ h3
  exact absurd h3 (by decide)
theorem WM.gm (h : WM w g b c m n t L f) : g ≠ m := by
  rintro rfl
  obtain ⟨D, ⟨es, clock, h1, _⟩, _⟩ := h.map
  rw [h.head] at h1
  cases h1
theorem WM.bm (h : WM w g b c m n t L f) : b ≠ m := by
  rintro rfl
  obtain ⟨D, ⟨es, clock, h1, _⟩, _⟩ := h.map
  obtain ⟨cur, h2, _⟩ := h.row
  rw [h2] at h1
  cases h1
theorem WM.c0 (h : WM w g b c m n t L f) : w.cell? ⟨g, 0, none⟩ = some (.slice (some ⟨b, 0, none⟩) L.length c) := by rw [cell_of_row w g 0 _ 116 (0, 0) h.head]; rfl
theorem WM.c1 (h : WM w g b c m n t L f) : w.cell? ⟨g, 1, none⟩ = some (.map (some m)) := by rw [cell_of_row w g 1 _ 116 (0, 0) h.head]; rfl
theorem WM.c2 (h : WM w g b c m n t L f) : w.cell? ⟨g, 2, none⟩ = some (.int .u64 (t : Int)) := by rw [cell_of_row w g 2 _ 116 (0, 0) h.head]; rfl
theorem WM.small (h : WM w g b c m n t L f) : L.length ≤ c ∧ c ≤ maxLen := by obtain ⟨cur, h1, h2, h3, _⟩ := h.row; exact ⟨h2, h3⟩
theorem WM.keep {w' : World} (h : WM w g b c m n t L f) {S : Nat → Prop} (o : Only S w w') (h1 : ¬ S g) (h2 : ¬ S b) (h3 : ¬ S m) : WM w' g b c m n t L f :=
  ⟨o.at_ h.head h1, h.row.only o h2, h.map.only o h3⟩
theorem WM.below {w' : World} (h : WM w g b c m n t L f) (o : Below w.heap.size w w') : WM w' g b c m n t L f :=
  h.keep (Only.of_below o (Nat.le_refl _) (fun _ => False)) (fun h => h) (fun h => h) (fun h => h)
end
def Foot (b m : Nat) : Nat → Prop := fun k => k = b ∨ k = m

set_option maxHeartbeats 1600000 in
set_option maxRecDepth 100000 in
theorem layC (w : World) (g b c m n t i : Nat) (L : List E) (f : Nat → Option Nat) (a : E) (h : WM w g b c m n t L f) (hi : i < L.length) (ha : a.h < M64) (hn : n < maxLen) :
    Calls Try.prog 48 #[.pointer (some ⟨g, 0, none⟩), .int .i64 (i : Int), eV a] w fun e w' => e = .returned (.tuple #[]) ∧ WM w' g b c m (n + 1) t (L.set i a) (put f a.h i) ∧ Only (Foot b m) w w' := by
  obtain ⟨w1, hw1⟩ : ∃ w1, w1 = w.alloc (.cells #[.int .u64 (a.h : Int), .int .i64 a.x, .int .u64 (a.t : Int)] 118) := ⟨_, rfl⟩
  have hb1 : Below w.heap.size w w1 := by rw [hw1]; exact (Below.refl _ _).alloc (Nat.le_refl _) _
  have bx : Blk w1 w.heap.size 118 #[.int .u64 (a.h : Int), .int .i64 a.x, .int .u64 (a.t : Int)] := by rw [hw1]; exact Blk.new _ _ _
  have b0 := bx.cell 0
  have b1 := bx.cell 1
  have b2 := bx.cell 2
  simp only [List.getElem?_toArray, List.getElem?_cons_zero, List.getElem?_cons_succ] at b0 b1 b2
  have h1 := h.below hb1
  have hs := h.row.lt
  have hgw := heap_lt h.head
  have hmw := h.map.lt
  generalize hN : w.heap.size = N at *
  have H := Lib.hid h1
  have c0 := h1.c0
  have c1 := h1.c1
  obtain ⟨hs1, hs2⟩ := h1.small
  have hgb := h1.gb
  have hbm := h1.bm
  obtain ⟨k0, k1, k2⟩ := h1.row.cells i hi
  have z0 := h1.row.frozen (i * 3)
  have z1 := h1.row.frozen (i * 3 + 1)
  have z2 := h1.row.frozen (i * 3 + 2)
  have hlen : (i : Int) < L.length := by omega
  have hi0 : (0 : Int) ≤ i := by omega
  unfold maxLen at hs2
  replace hN := Lib.hid hN
  replace hw1 := Lib.hid hw1
  replace bx := Lib.hid bx
  replace h := Lib.hid h
  clear h1
  unfold eV
  go_enter Try.func48, Try.ntmps48
  go_wp2
  rw [hN.out, ← hw1.out]
  go_region
  obtain ⟨w2, hw2⟩ : ∃ w2, w2 = (((w1.setCell ⟨b, i * 3, none⟩ (.int .u64 (a.h : Int))).setCell ⟨b, i * 3 + 1, none⟩ (.int .i64 a.x)).setCell ⟨b, i * 3 + 2, none⟩ (.int .u64 (a.t : Int))).drew := ⟨_, rfl⟩
  rw [← hw2]
  have o2 : Only (· = b) w1 w2 := by
    rw [hw2]
    exact ((((Only.refl (· = b) w1).setCell (p := ⟨b, i * 3, none⟩) (fun _ => rfl) _).setCell (p := ⟨b, i * 3 + 1, none⟩) (fun _ => rfl) _).setCell (p := ⟨b, i * 3 + 2, none⟩) (fun _ => rfl) _).drew
  have H2 : WM w2 g b c m n t (L.set i a) f := by
    refine ⟨?_, ?_, H.out.map.only o2 (fun e => hbm e.symm)⟩
    · have := o2.at_ H.out.head hgb
      simpa using this
    · rw [hw2]
      exact (H.out.row.set i hi a).kept rfl
  have b0' : w2.cell? ⟨N, 0, none⟩ = some (.int .u64 (a.h : Int)) := (World.cell?_of_block (a := ⟨N, 0, none⟩) (o2.block N bx.out.lt (by show ¬ N = b; omega))).trans b0
  have c1' := H2.c1
  replace hw2 := Lib.hid hw2
  have hmap := Lib.hid H2.map
  clear b0 b1 b2 c0 c1 k0 k1 k2 z0 z1 z2
  go_wp2
  go_still_tail 7, (by kernel_rfl)
  change wpList _ _ _ _ _ w2.drew
  have hi63 : i < 9223372036854775808 := by omega
  go_wp2_with (at_mapUpdate; refine wp_put _ rfl _ _ _ rfl m n f rfl hmap.out.drew hn a.h i rfl rfl ha hi63 ?_)
  intro w3 m3 o3 s3
  have H3 : WM w3 g b c m (n + 1) t (L.set i a) (put f a.h i) := by
    have e := Only.trans (Only.refl (· = m) w2).drew o3 (fun _ _ h => h)
    exact ⟨e.at_ H2.head H2.gm, H2.row.only e H2.bm, m3⟩
  have O3 : Only (Foot b m) w w3 := by
    have e : Only (Foot b m) w w2 := (Only.of_below hb1 (by rw [hN.out]; exact Nat.le_refl _) (Foot b m)).trans o2 (fun _ _ h => .inl h)
    exact e.drew.trans o3 (fun _ _ h => .inr h)
  clear H2 m3 o3 o2
  replace s3 := Lib.hid s3
  go_wp2
  go_end0
  exact ⟨rfl, H3, O3⟩
end Go.Proofs.Yteebcdicocmicaa.Tide
