/-
  The walks of the document's Copy, Eq, Read, Same, Move, Whole.
-/
import Derived.Test.YtnjobnccknpaeaaArenaRef3
namespace Go.Proofs.Ytnjobnccknpaeaa.Arena
open Go.RowKit Base
set_option linter.unusedVariables false

theorem refEqC (A A' : Option Addr) (c c' B : Nat) (a b : List UInt8) (w : World) (ha : Bytes w B A a) (hb : Bytes w B A' b) :
    Calls Try.prog 23 #[.slice A a.length c, .slice A' b.length c'] w fun e w' => e = .returned (.bool (a == b)) ∧ w = w' := by
  have h1 := conv_string (c := c) ha Try.underlying38 Try.underlying5 9 Try.underlying9
  have h2 := conv_string (c := c') hb Try.underlying38 Try.underlying5 9 Try.underlying9
  go_enter Try.func23, Try.ntmps23
  go_wp2
  go_ret
  exact ⟨rfl, rfl⟩
theorem copyC (w : World) (A : Option Addr) (c B : Nat) (l : List UInt8) (hb : Bytes w B A l) (hB : B ≤ w.heap.size) (hl : l.length ≤ 1073741824) :
    Calls Try.prog 22 #[.slice A l.length c] w fun e w' => ∃ v, e = .returned v ∧ w'.ownsRow w.heap.size 5 1 v l.length (l.map bv) ∧ Below w.heap.size w w' := by
  have hmk : (Instr.makeSlice 38 (.int .i64 0) (.int .i64 (l.length : Int))).run Try.prog w = .ok (.slice (some ⟨w.heap.size, 0, none⟩) 0 l.length) (w.alloc (.cells (madeCells (Value.int .u8 0).cells (l.length * 1)) 5)) :=
    EI.make eiBytes .i64 .i64 0 l.length (by omega) (by omega) (by omega) w
  have own0 : (w.alloc (.cells (madeCells (Value.int .u8 0).cells (l.length * 1)) 5)).ownsRow w.heap.size 5 1 (.slice (some ⟨w.heap.size, 0, none⟩) 0 l.length) 0 [] :=
    World.ownsRow_made w _ l.length (Nat.le_refl _) (by unfold maxLen; omega) (by rw [show (Value.int .u8 0).cells = #[Value.int .u8 0] from rfl, made_one]; simp)
  have hbel : Below w.heap.size w (w.alloc (.cells (madeCells (Value.int .u8 0).cells (l.length * 1)) 5)) := (Below.refl _ _).alloc (Nat.le_refl _) _
  have hb2 : Reads (w.alloc (.cells (madeCells (Value.int .u8 0).cells (l.length * 1)) 5)) B 1 A l.length (l.map bv) := hb.reads.alloc hB _
  have hsz : w.heap.size ≤ (w.alloc (.cells (madeCells (Value.int .u8 0).cells (l.length * 1)) 5)).heap.size := by rw [World.size_alloc]; omega
  generalize hO : Obj.cells (madeCells (Value.int .u8 0).cells (l.length * 1)) 5 = O at *
  clear hO
  go_enter Try.func22, Try.ntmps22
  go_wp2_with (at_builtin; refine wpList_app rfl _ _ 38 rfl eiBytes w.heap.size (.slice (some ⟨w.heap.size, 0, none⟩) 0 l.length) 0 [] rfl own0 B A l.length c (l.map bv) rfl hb2 (bv_one l) (by unfold maxLen; omega) (by omega) hsz ?_)
  intro v1 w1 hown1 hgrow hob
  have hb3 : Below w.heap.size w w1 := hbel.grown hgrow hsz (fun k hk => (own0.lt k hk).1)
  replace hown1 := Lib.hid hown1
  clear hgrow hob own0 hb2
  go_wp2
  go_ret
  exact ⟨_, rfl, hown1.out, hb3⟩
theorem refReadNo (w : World) (g h page : Nat) (l : List UInt8) (a : AtR w g h page l) (at_ n : Int) (ha : inI64 at_) (hn : inI64 n) (hno : ¬ There page l.length at_ n) :
    Calls Try.prog 66 #[.pointer (some ⟨g, 0, none⟩), .int .i64 at_, .int .i64 n] w fun e w' => e = .returned (.tuple #[.slice none 0 0, .int .i64 20]) ∧ ∃ m, w.drewN m = w' := by
  have C := Lib.hid (refThereNot w g h page l a at_ n ha hn hno)
  clear hno a
  go_enter Try.func66, Try.ntmps66
  go_wp2_with fail
  refine C.out.mono ?_
  rintro e w' ⟨rfl, m, rfl⟩
  go_wp2
  go_ret2
  exact ⟨rfl, m, rfl⟩
set_option maxRecDepth 100000 in
theorem refReadYes (w : World) (g h page : Nat) (l : List UInt8) (a : AtR w g h page l) (p n : Nat) (hy : There page l.length (p : Int) (n : Int)) :
    Calls Try.prog 66 #[.pointer (some ⟨g, 0, none⟩), .int .i64 (p : Int), .int .i64 (n : Int)] w fun e w' =>
      ∃ v, e = .returned (.tuple #[v, .int .i64 0]) ∧ w'.ownsRow w.heap.size 5 1 v n (((l.drop p).take n).map bv) ∧ Below w.heap.size w w' := by
  have C := Lib.hid (refThereYes w g h page l a p n hy)
  obtain ⟨q1, q2, q3, q4⟩ := hy
  have hs := a.small
  go_enter Try.func66, Try.ntmps66
  go_wp2_with fail
  refine C.out.mono ?_
  rintro e w0 ⟨rfl, m, hw0⟩
  have a0 : AtR w0 g h page l := by rw [← hw0]; exact a.drewN m
  have b0 : Below w.heap.size w w0 := by rw [← hw0]; exact below_drewN (Below.refl _ _) m
  have hs0 : w0.heap.size = w.heap.size := by rw [← hw0]; rfl
  clear C a hw0
  replace hs0 := Lib.hid hs0
  have c1 := a0.cell1
  have hpl : ((l.drop p).take n).length = n := by simp; omega
  have CP : ∀ (o c : Nat), (0 < n → o = p) → Calls Try.prog 22 #[.slice (some ⟨h, o, none⟩) n c] w0 fun e w' => ∃ v, e = .returned v ∧ w'.ownsRow w0.heap.size 5 1 v n (((l.drop p).take n).map bv) ∧ Below w0.heap.size w0 w' := by
    intro o c ho
    have hb := BB.piece a0.bytes (h + 1) p n (Nat.lt_succ_self _) (by omega) (some ⟨h, o, none⟩) (fun h0 => by rw [ho h0])
    have := copyC w0 (some ⟨h, o, none⟩) c (h + 1) _ hb a0.bytes.lt (by rw [hpl]; omega)
    rwa [hpl] at this
  replace CP := Lib.hid CP
  replace hpl := Lib.hid hpl
  clear a0
  go_wp2_with fail
  all_goals
    refine (CP.out _ _ (by omega)).mono ?_
    rintro e w1 ⟨v, rfl, ho1, b1⟩
    rw [hs0.out] at ho1 b1
    have b2 := b0.trans b1
    replace ho1 := Lib.hid ho1
    clear CP b0 b1
    go_wp2
    go_ret2
    exact ⟨_, rfl, ho1.out, b2⟩
theorem refSameNo (w : World) (g h page : Nat) (l : List UInt8) (a : AtR w g h page l) (at_ : Int) (ha : inI64 at_) (A : Option Addr) (n c : Nat) (hn : n ≤ maxLen) (hno : ¬ There page l.length at_ n) :
    Calls Try.prog 68 #[.pointer (some ⟨g, 0, none⟩), .int .i64 at_, .slice A n c] w fun e w' => e = .returned (.bool false) ∧ ∃ m, w.drewN m = w' := by
  unfold maxLen at hn
  have C := Lib.hid (refThereNot w g h page l a at_ n ha ⟨by omega, by omega⟩ hno)
  clear hno a
  go_enter Try.func68, Try.ntmps68
  go_wp2_with fail
  refine C.out.mono ?_
  rintro e w' ⟨rfl, m, rfl⟩
  go_wp2
  go_ret
  exact ⟨rfl, m, rfl⟩
set_option maxRecDepth 100000 in
theorem refSameYes (w : World) (g h page : Nat) (l : List UInt8) (a : AtR w g h page l) (p : Nat) (A : Option Addr) (c B : Nat) (q : List UInt8) (hq : Bytes w B A q) (hy : There page l.length (p : Int) q.length) :
    Calls Try.prog 68 #[.pointer (some ⟨g, 0, none⟩), .int .i64 (p : Int), .slice A q.length c] w fun e w' => e = .returned (.bool ((l.drop p).take q.length == q)) ∧ ∃ m, w.drewN m = w' := by
  have C := Lib.hid (refThereYes w g h page l a p q.length hy)
  obtain ⟨q1, q2, q3, q4⟩ := hy
  have hs := a.small
  have hpl : ((l.drop p).take q.length).length = q.length := by simp; omega
  go_enter Try.func68, Try.ntmps68
  go_wp2_with fail
  refine C.out.mono ?_
  rintro e w0 ⟨rfl, m, hw0⟩
  have a0 : AtR w0 g h page l := by rw [← hw0]; exact a.drewN m
  have hq0 : Bytes w0 B A q := by rw [← hw0]; exact hq
  clear C a
  replace hw0 := Lib.hid hw0
  have c1 := a0.cell1
  have EQ : ∀ (o c' : Nat), (0 < q.length → o = p) → Calls Try.prog 23 #[.slice (some ⟨h, o, none⟩) q.length c', .slice A q.length c] w0 fun e w' => e = .returned (.bool ((l.drop p).take q.length == q)) ∧ w0 = w' := by
    intro o c' ho
    have hb := BB.piece a0.bytes (max (h + 1) B) p q.length (Nat.lt_of_lt_of_le (Nat.lt_succ_self h) (Nat.le_max_left _ _)) (by omega) (some ⟨h, o, none⟩) (fun h0 => by rw [ho h0])
    have := refEqC (some ⟨h, o, none⟩) A c' c _ _ q w0 hb (Row.more hq0 (Nat.le_max_right _ _))
    rwa [hpl] at this
  replace EQ := Lib.hid EQ
  replace hpl := Lib.hid hpl
  generalize hr : ((l.drop p).take q.length == q) = r at *
  replace hr := Lib.hid hr
  clear a0 hq0
  go_wp2_with fail
  all_goals
    refine (EQ.out _ _ (by omega)).mono ?_
    rintro e w' ⟨rfl, rfl⟩
    go_wp2
    go_ret
    exact ⟨by rw [hr.out]; rfl, m, hw0.out⟩
theorem refMoveNo (w : World) (g h page : Nat) (l : List UInt8) (a : AtR w g h page l) (t f n : Int) (ht : inI64 t) (hf : inI64 f) (hn : inI64 n) (hno : ¬ (There page l.length t n ∧ There page l.length f n)) :
    Calls Try.prog 64 #[.pointer (some ⟨g, 0, none⟩), .int .i64 t, .int .i64 f, .int .i64 n] w fun e w' => e = .returned (.int .i64 20) ∧ ∃ m, w.drewN m = w' := by
  by_cases h1 : There page l.length t n
  · have h2 : ¬ There page l.length f n := fun h => hno ⟨h1, h⟩
    have C1 := Lib.hid (refThereYes w g h page l a t n h1)
    have C2 := Lib.hid (fun m => refThereNot (w.drewN m) g h page l (a.drewN m) f n hf hn h2)
    clear hno h1 h2 a
    go_enter Try.func64, Try.ntmps64
    go_wp2_with fail
    refine C1.out.mono ?_
    rintro e w' ⟨rfl, m, rfl⟩
    go_wp2_with fail
    refine (C2.out m).mono ?_
    rintro e w' ⟨rfl, m2, hm2⟩
    replace hm2 := Lib.hid hm2
    go_wp2
    go_ret
    exact ⟨rfl, m + m2, by rw [← hm2.out]; exact (World.drewN_drewN _ _ _).symm⟩
  · have C1 := Lib.hid (refThereNot w g h page l a t n ht hn h1)
    clear hno h1 a
    go_enter Try.func64, Try.ntmps64
    go_wp2_with fail
    refine C1.out.mono ?_
    rintro e w' ⟨rfl, m, rfl⟩
    go_wp2
    go_ret
    exact ⟨rfl, m, rfl⟩
end Go.Proofs.Ytnjobnccknpaeaa.Arena
