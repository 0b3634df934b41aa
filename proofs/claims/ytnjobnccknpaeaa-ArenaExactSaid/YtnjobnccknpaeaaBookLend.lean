/-
  Walks of the statements' own helpers Lend, Intact, markAt, and of the reference's Eq.
-/
import Derived.Test.YtnjobnccknpaeaaRows
import Derived.Test.YtnjobnccknpaeaaBase
namespace Go.Proofs.Ytnjobnccknpaeaa.Book
open Go.RowKit Base
set_option linter.unusedVariables false

theorem eiBytes : EI Try.prog 38 5 (.int .u8 0) 1 1 := EI.mk' Try.underlying38 (by kernel_rfl) rfl (by decide)

theorem eqC (A A' : Option Addr) (c c' B : Nat) (a b : List UInt8) (w : World) (ha : Bytes w B A a) (hb : Bytes w B A' b) :
    Calls Try.prog 23 #[.slice A a.length c, .slice A' b.length c'] w fun e w' => e = .returned (.bool (a == b)) ∧ w = w' := by
  have h1 := conv_string (c := c) ha Try.underlying38 Try.underlying5 9 Try.underlying9
  have h2 := conv_string (c := c') hb Try.underlying38 Try.underlying5 9 Try.underlying9
  go_enter Try.func23, Try.ntmps23
  go_wp2
  go_ret
  exact ⟨rfl, rfl⟩

/-- The marks that stand behind what is lent. -/
def mk (k : Nat) : UInt8 := UInt8.ofNat (165 - k)
def marks (n : Nat) : List UInt8 := (List.range n).map mk
theorem mk_nat (k : Nat) (hk : k < 70) : (mk k).toNat = 165 - k := by unfold mk; rw [UInt8.toNat_ofNat']; omega
theorem marks_succ (k : Nat) : marks (k + 1) = marks k ++ [mk k] := by simp [marks, List.range_succ]
theorem marks_len (k : Nat) : (marks k).length = k := by simp [marks]
theorem marks_at (k n : Nat) (h : k < n) : (marks n)[k]? = some (mk k) := by simp [marks, h]

theorem markC (k : Nat) (hk : k < 70) (w : World) : Calls Try.prog 83 #[.int .i64 (k : Int)] w fun e w' => e = .returned (.int .u8 ((mk k).toNat : Int)) ∧ w = w' := by
  have h := mk_nat k hk
  have h2 := Lib.hid (show ((mk k).toNat : Int) = 165 - (k : Int) by omega)
  clear h
  go_enter Try.func83, Try.ntmps83
  go_wp2
  go_ret
  exact ⟨ret_int (by rw [h2.out]), rfl⟩

/-- What Lend hands out: the slice of l in block g, its room at least 70 more, the marks behind it. -/
def Lent (w : World) (g cap : Nat) (l : List UInt8) : Prop := ∃ cur : Array Value, w.heap[g]? = some (.cells cur 5 (0, 0)) ∧ l.length + 70 ≤ cap ∧ cap ≤ maxLen ∧ cur.size = cap ∧
  cur.toList.take (l.length + 70) = (l ++ marks 70).map bv

theorem lent_of {w : World} {base : Nat} {v : Value} {l : List UInt8} (h : w.ownsRow base 5 1 v (l.length + 70) ((l ++ marks 70).map bv)) :
    ∃ g cap, v = .slice (some ⟨g, 0, none⟩) (l.length + 70) cap ∧ base ≤ g ∧ Lent w g cap l := by
  rcases h.2 with ⟨_, h0⟩ | ⟨g, cap, cur, rfl, hb, hg, hn, hc, hs, ht⟩
  · omega
  · exact ⟨g, cap, rfl, hb, cur, hg, hn, hc, by simpa using hs, by simpa using ht⟩
theorem Lent.cell {w : World} {g cap : Nat} {l : List UInt8} (h : Lent w g cap l) (k : Nat) (b : UInt8) (hk : (l ++ marks 70)[k]? = some b) : w.cell? ⟨g, k, none⟩ = some (.int .u8 (b.toNat : Int)) := by
  obtain ⟨cur, hg, hn, hc, hs, ht⟩ := h
  rw [cell_of_row w g k cur 5 (0, 0) hg]
  have hl : k < l.length + 70 := by
    have := (List.getElem?_eq_some_iff.1 hk).1
    simpa [marks_len] using this
  have h2 : (cur.toList.take (l.length + 70))[k]? = some (bv b) := by rw [ht, List.getElem?_map, hk]; rfl
  rw [List.getElem?_take, if_pos hl] at h2
  rw [← Array.getElem?_toList]
  exact h2
theorem Lent.lt {w : World} {g cap : Nat} {l : List UInt8} (h : Lent w g cap l) : g < w.heap.size := by
  obtain ⟨cur, hg, -⟩ := h
  exact (Array.getElem?_eq_some_iff.1 hg).1
theorem Lent.bytes {w : World} {g cap B : Nat} {l : List UInt8} (h : Lent w g cap l) (hB : g < B) : Bytes w B (some ⟨g, 0, none⟩) l := by
  intro hl
  refine ⟨g, 0, rfl, hB, fun j v hv => ?_⟩
  rw [List.getElem?_map] at hv
  cases hb : l[j]? with
  | none => rw [hb] at hv; cases hv
  | some b =>
    rw [hb] at hv
    injection hv with hv
    subst hv
    rw [Nat.zero_add]
    exact h.cell j b (by rw [List.getElem?_append_left (List.getElem?_eq_some_iff.1 hb).1]; exact hb)
theorem Lent.keep {w w' : World} {g cap : Nat} {l : List UInt8} (h : Lent w g cap l) (hk : w'.heap[g]? = w.heap[g]?) : Lent w' g cap l := by
  obtain ⟨cur, hg, r⟩ := h
  exact ⟨cur, hk.trans hg, r⟩

set_option maxHeartbeats 400000 in
theorem lendC (A : Option Addr) (c : Nat) (l : List UInt8) (w : World) (hb : Bytes w w.heap.size A l) (hl : l.length ≤ 140737488351232) :
    Calls Try.prog 59 #[.slice A l.length c] w fun e w' => ∃ g cap, e = .returned (.slice (some ⟨g, 0, none⟩) l.length cap) ∧ w.heap.size ≤ g ∧ Lent w' g cap l ∧ Below w.heap.size w w' := by
  have hmk : ∀ w : World, (Instr.makeSlice 38 (.int .i64 0) (.int .i64 ((l.length : Int) + 70))).run Try.prog w = .ok (.slice (some ⟨w.heap.size, 0, none⟩) 0 (l.length + 70)) (w.alloc (.cells (madeCells (Value.int .u8 0).cells ((l.length + 70) * 1)) 5)) :=
    fun w => EI.make eiBytes .i64 .i64 0 (l.length + 70) (by omega) (by omega) (by omega) w
  have hr := hb.reads
  have h1 := bv_one l
  have hown0 : (w.alloc (.cells (madeCells (Value.int .u8 0).cells ((l.length + 70) * 1)) 5)).ownsRow w.heap.size 5 1 (.slice (some ⟨w.heap.size, 0, none⟩) 0 (l.length + 70)) 0 [] :=
    World.ownsRow_made w _ _ (Nat.le_refl _) (by unfold maxLen; omega) (by simp [madeCells])
  have hr0 := hr.alloc (Nat.le_refl _) (.cells (madeCells (Value.int .u8 0).cells ((l.length + 70) * 1)) 5)
  have hbel0 : Below w.heap.size w (w.alloc (.cells (madeCells (Value.int .u8 0).cells ((l.length + 70) * 1)) 5)) := (Below.refl _ _).alloc (Nat.le_refl _) _
  generalize hO : Obj.cells (madeCells (Value.int .u8 0).cells ((l.length + 70) * 1)) 5 = O at *
  have hO := Lib.hid hO
  go_enter Try.func59, Try.ntmps59
  go_wp2_with (at_builtin; refine wpList_app rfl _ _ _ rfl eiBytes w.heap.size _ _ _ rfl hown0 w.heap.size A l.length c (l.map bv) rfl hr0 h1 ?c1 ?c2 ?c3 ?_)
  case c1 => unfold maxLen; omega
  case c2 => omega
  case c3 => simp
  intro v1 w1 hown1 hg1 _
  have hbel1 : Below w.heap.size w w1 := hbel0.grown hg1 (by simp) (fun k hk => by simp [Value.ownBlock] at hk; omega)
  clear hg1 hr0 hbel0 hown0 hO hr hmk
  have hown2 : w1.ownsRow w.heap.size 5 1 v1 (l.length + 0) ((l ++ marks 0).map bv) := by simpa [marks] using hown1
  clear hown1
  go_wp2
  go_loopw [3, 4] (fun v i wr => ∃ k : Nat, k ≤ 70 ∧ i = .int .i64 k ∧ wr.ownsRow w.heap.size 5 1 v (l.length + k) ((l ++ marks k).map bv) ∧ Below w.heap.size w wr) (fun _ i _ => 70 - (intOf i).toNat)
  case atStart => exact ⟨0, by omega, rfl, hown2, hbel1⟩
  case round =>
    obtain ⟨k, hk, rfl, hown, hbel⟩ := hrel
    clear hown2 hbel1
    by_cases hlt : k < 70
    · have hms := Lib.hid (marks_succ k)
      have hbz := hbel.size
      go_wp2_with (first
        | (go_at_call 83; refine (markC k hlt _).mono ?_; rintro e w' ⟨rfl, rfl⟩)
        | (at_builtin; refine wpList_app rfl _ _ _ rfl eiBytes w.heap.size _ _ _ rfl (hown.alloc _) (wr.heap.size + 1) (some ⟨wr.heap.size, 0, none⟩) 1 1 [bv (mk k)] rfl ?c1 ?c2 ?c3 ?c4 ?c5 ?_))
      case c1 => exact ⟨rfl, fun _ => ⟨_, rfl, by show wr.heap.size < _; omega, fun j u hj => by match j, hj with | 0, hj => simp at hj; subst hj; simp [Addr.add, bv]⟩⟩
      case c2 => intro u hu; simp at hu; subst hu; rfl
      case c3 => unfold maxLen; omega
      case c4 => omega
      case c5 => simp; omega
      intro v2 w2 hown2 hg2 _
      have hbel2 : Below w.heap.size w w2 := (hbel.alloc hbz _).grown hg2 (by simp; omega) (fun j hj => (hown.lt j hj).1)
      have hown3 : w2.ownsRow w.heap.size 5 1 v2 (l.length + (k + 1)) ((l ++ marks (k + 1)).map bv) := by
        rw [hms.out]; simpa [Nat.add_assoc] using hown2
      clear hown2 hg2 hown hms
      go_wp2
      go_roundw
      case rel => exact ⟨k + 1, by omega, by go_num, hown3, hbel2⟩
      case measure => simp [intOf]; omega
    · obtain rfl : k = 70 := by omega
      obtain ⟨g, cap, rfl, hg, hlent⟩ := lent_of hown
      have hcap : l.length + 70 ≤ cap := by obtain ⟨_, _, h, _⟩ := hlent; exact h
      go_wp2
      go_ret
      exact ⟨g, cap, rfl, hg, hlent, hbel⟩

/-- What was lent is intact: the bytes and the marks are what they were. -/
theorem intactC (g cap : Nat) (A : Option Addr) (c B : Nat) (l : List UInt8) (w : World) (hL : Lent w g cap l) (hb : Bytes w B A l) (hl : l.length ≤ 140737488351232) :
    Calls Try.prog 60 #[.slice (some ⟨g, 0, none⟩) l.length cap, .slice A l.length c] w fun e w' => e = .returned (.bool true) ∧ ∃ n, w.drewN n = w' := by
  have hcap : l.length + 70 ≤ cap := by obtain ⟨_, _, h, _⟩ := hL; exact h
  have hb2 := hL.bytes (Nat.lt_succ_self g)
  go_enter Try.func60, Try.ntmps60
  go_wp2_with fail
  refine (eqC (some ⟨g, 0, none⟩) A cap c _ l l w (hb2.more (Nat.le_max_left _ B)) (hb.more (Nat.le_max_right _ _))).mono ?_
  rintro e w' ⟨rfl, rfl⟩
  go_wp2
  go_loopw [6] (fun i wr => ∃ k n : Nat, k ≤ 70 ∧ i = .int .i64 k ∧ w.drewN n = wr) (fun i _ => 70 - (intOf i).toNat)
  case atStart => exact ⟨0, 0, by omega, rfl, rfl⟩
  case round =>
    obtain ⟨k, n, hk, rfl, hwr⟩ := hrel
    by_cases hlt : k < 70
    · have hc : wr.cell? ⟨g, l.length + k, none⟩ = some (.int .u8 ((mk k).toNat : Int)) := by
        rw [← hwr]; exact hL.cell _ _ (by rw [List.getElem?_append_right (by omega)]; simpa using marks_at k 70 hlt)
      have hwr := Lib.hid hwr
      go_wp2_with fail
      have s1 : IntKind.i64.wrap ((l.length : Int) + (k : Int)) = (l.length : Int) + k := IntWalk.i64_in _ (by omega)
      have s2 : 0 ≤ (l.length : Int) + (k : Int) := by omega
      have s3 : ((l.length : Int) + (k : Int)).toNat = l.length + k := by omega
      go_quiet ((go_at_call 83; exact quiet_left (markC k hlt _)))
      clear s1 s2 s3
      go_wp2
      go_roundw
      case rel => exact ⟨k + 1, _, by omega, by go_num, by rw [← hwr.out, World.drewN_drewN]⟩
      case measure => simp [intOf]; omega
    · obtain rfl : k = 70 := by omega
      have hwr := Lib.hid hwr
      go_wp2
      go_ret
      exact ⟨rfl, n, hwr.out⟩
end Go.Proofs.Ytnjobnccknpaeaa.Book
