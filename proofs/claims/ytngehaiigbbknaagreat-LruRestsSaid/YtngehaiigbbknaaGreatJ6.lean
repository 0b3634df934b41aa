/-
  Contracts and lemmas, joined: QueuePlain, ItemLengths, QueueCore, QueueJoin, QueueLay, QueueStands, QueueFree, QueueTold, QueueDrop, QueueRel, QueueAll, QueueNext, ItemTell, RegRel, ItemRead.
-/
import Derived.Lib.QuietBelow
import Derived.BigQuiet
import Derived.StillTail
import Derived.Deep.Quiet
import Derived.Deep.Draws
import Derived.Handy
import Derived.Test.YtngehaiigbbknaaGreatJ4
import Derived.Test.YtngehaiigbbknaaGreatJ5
set_option linter.unusedSimpArgs false
set_option linter.unusedVariables false
set_option linter.unusedSectionVars false
set_option maxRecDepth 100000
/-
  Lists of items that hang together, in plain numbers: what a list's links say, and how they change where one is laid, taken out, exchanged.
-/
namespace Go.Proofs.YtngehaiigbbknaaGreat.Que
open Cls
def Chain (Z : Nat -> Option Zd) (k : Nat) : Nat -> List Nat -> Nat -> Prop
 | _, [], _ => True
 | p, h :: t, n => Z h = some ⟨k, p, t.head?.getD n⟩ /\ Chain Z k h t n
def zb (Z : Nat -> Option Zd) (x y : Nat) : Nat -> Option Zd := if x = 0 then Z else upd Z x ((Z x).map fun z => ⟨z.st, z.a, y⟩)
def za (Z : Nat -> Option Zd) (x y : Nat) : Nat -> Option Zd := if x = 0 then Z else upd Z x ((Z x).map fun z => ⟨z.st, y, z.b⟩)
theorem zb_ne {Z : Nat -> Option Zd} {x y h : Nat} (hn : h ≠ x) : zb Z x y h = Z h := by
 unfold zb
 split
 ·rfl
 ·exact upd_ne _ _ hn
theorem za_ne {Z : Nat -> Option Zd} {x y h : Nat} (hn : h ≠ x) : za Z x y h = Z h := by
 unfold za
 split
 ·rfl
 ·exact upd_ne _ _ hn
theorem zb_at {Z : Nat -> Option Zd} {x y : Nat} {z : Zd} (hx : x ≠ 0) (hz : Z x = some z) : zb Z x y x = some ⟨z.st, z.a, y⟩ := by
 unfold zb
 rw [if_neg hx, upd_at, hz]
 rfl
theorem za_at {Z : Nat -> Option Zd} {x y : Nat} {z : Zd} (hx : x ≠ 0) (hz : Z x = some z) : za Z x y x = some ⟨z.st, y, z.b⟩ := by
 unfold za
 rw [if_neg hx, upd_at, hz]
 rfl
theorem Chain.congr {Z Z' : Nat -> Option Zd} {k : Nat} : ∀ {l : List Nat} {p n : Nat}, Chain Z k p l n -> (∀ h ∈ l, Z' h = Z h) -> Chain Z' k p l n
 | [], _, _, _, _ => trivial
 | h :: t, p, n, hc, he => ⟨by rw [he h (List.mem_cons_self ..)]; exact hc.1, Chain.congr hc.2 fun x hx => he x (List.mem_cons_of_mem _ hx)⟩
theorem chain_app {Z : Nat -> Option Zd} {k : Nat} : ∀ {l1 l2 : List Nat} {p n : Nat}, Chain Z k p (l1 ++ l2) n ↔ Chain Z k p l1 (l2.head?.getD n) /\ Chain Z k (l1.getLast?.getD p) l2 n
 | [], l2, p, n => by simp [Chain]
 | h :: t, l2, p, n => by
  have ih := chain_app (Z := Z) (k := k) (l1 := t) (l2 := l2) (p := h) (n := n)
  have e1 : (t ++ l2).head?.getD n = t.head?.getD (l2.head?.getD n) := by cases t <;> rfl
  have e2 : (h :: t).getLast?.getD p = t.getLast?.getD h := by
   cases t with
   | nil => rfl
   | cons x u => rw [List.getLast?_cons_cons]; cases hx : (x :: u).getLast? with
    | none => simp at hx
    | some y => rfl
  rw [List.cons_append, e2]
  show (Z h = some ⟨k, p, (t ++ l2).head?.getD n⟩ /\ Chain Z k h (t ++ l2) n) ↔ ((Z h = some ⟨k, p, t.head?.getD (l2.head?.getD n)⟩ /\ Chain Z k h t (l2.head?.getD n)) /\ Chain Z k (t.getLast?.getD h) l2 n)
  rw [ih, e1, and_assoc]
theorem Chain.last {Z : Nat -> Option Zd} {k : Nat} {l : List Nat} {p n : Nat} (h : Chain Z k p l n) (hd : l.Nodup) (h0 : ∀ x ∈ l, x ≠ 0) (n' : Nat) : Chain (zb Z (l.getLast?.getD 0) n') k p l n' := by
 rcases List.eq_nil_or_concat l with rfl | ⟨l1, x, rfl⟩
 ·trivial
 ·rw [List.concat_eq_append] at h hd h0 ⊢
  have e : (l1 ++ [x]).getLast?.getD 0 = x := by rw [List.getLast?_concat]; rfl
  rw [e]
  rw [chain_app] at h ⊢
  have hx0 := h0 x (by simp)
  have hxn : ∀ y ∈ l1, y ≠ x := fun y hy e => by
   subst e
   have := (List.nodup_append.1 hd).2.2 y hy y (by simp)
   exact this rfl
  refine ⟨h.1.congr fun y hy => zb_ne (hxn y hy), ?_, trivial⟩
  have := zb_at (y := n') hx0 h.2.1
  exact this
theorem Chain.first {Z : Nat -> Option Zd} {k : Nat} {l : List Nat} {p n : Nat} (h : Chain Z k p l n) (hd : l.Nodup) (h0 : ∀ x ∈ l, x ≠ 0) (p' : Nat) : Chain (za Z (l.head?.getD 0) p') k p' l n := by
 cases l with
 | nil => trivial
 | cons x t =>
  have hx0 := h0 x (by simp)
  have hxn : ∀ y ∈ t, y ≠ x := fun y hy e => by
   subst e
   exact (List.nodup_cons.1 hd).1 hy
  refine ⟨?_, h.2.congr fun y hy => za_ne (hxn y hy)⟩
  exact za_at (y := p') hx0 h.1
def jZ (Z : Nat -> Option Zd) (a b : Nat) : Nat -> Option Zd := za (zb Z a b) b a
theorem jZ_ne {Z : Nat -> Option Zd} {a b h : Nat} (ha : h ≠ a) (hb : h ≠ b) : jZ Z a b h = Z h := (za_ne hb).trans (zb_ne ha)
theorem zb_some {Z : Nat -> Option Zd} {x y h : Nat} : (zb Z x y h).isSome = (Z h).isSome := by
 unfold zb
 split
 ·rfl
 ·by_cases e : h = x
  ·subst e; rw [upd_at]; cases Z h <;> rfl
  ·rw [upd_ne _ _ e]
theorem za_some {Z : Nat -> Option Zd} {x y h : Nat} : (za Z x y h).isSome = (Z h).isSome := by
 unfold za
 split
 ·rfl
 ·by_cases e : h = x
  ·subst e; rw [upd_at]; cases Z h <;> rfl
  ·rw [upd_ne _ _ e]
theorem jZ_some {Z : Nat -> Option Zd} {a b h : Nat} : (jZ Z a b h).isSome = (Z h).isSome := za_some.trans zb_some
theorem last_mem {l : List Nat} (h : l.getLast?.getD 0 ≠ 0) : l.getLast?.getD 0 ∈ l := by
 rcases List.eq_nil_or_concat l with rfl | ⟨l1, x, rfl⟩
 ·exact absurd rfl h
 ·rw [List.concat_eq_append, List.getLast?_concat]
  simp
theorem head_mem {l : List Nat} (h : l.head?.getD 0 ≠ 0) : l.head?.getD 0 ∈ l := by
 cases l with
 | nil => exact absurd rfl h
 | cons x t => exact List.mem_cons_self ..
theorem last_in {l : List Nat} : l.getLast?.getD 0 = 0 \/ l.getLast?.getD 0 ∈ l := (Nat.eq_zero_or_pos _).imp id fun h => last_mem (by omega)
theorem head_in {l : List Nat} : l.head?.getD 0 = 0 \/ l.head?.getD 0 ∈ l := (Nat.eq_zero_or_pos _).imp id fun h => head_mem (by omega)
theorem chain_join {Z : Nat -> Option Zd} {k : Nat} {l1 l2 : List Nat} {m m' n : Nat} (h1 : Chain Z k 0 l1 m) (h2 : Chain Z k m' l2 n) (hn : l2.head?.getD n = l2.head?.getD 0) (hd : (l1 ++ l2).Nodup) (h0 : ∀ x ∈ l1 ++ l2, x ≠ 0) :
  Chain (jZ Z (l1.getLast?.getD 0) (l2.head?.getD 0)) k 0 (l1 ++ l2) n := by
 obtain ⟨d1, d2, d3⟩ := List.nodup_append.1 hd
 have z1 : ∀ x ∈ l1, x ≠ 0 := fun x hx => h0 x (List.mem_append.2 (.inl hx))
 have z2 : ∀ x ∈ l2, x ≠ 0 := fun x hx => h0 x (List.mem_append.2 (.inr hx))
 rw [chain_app, hn]
 constructor
 ·refine (h1.last d1 z1 (l2.head?.getD 0)).congr fun y hy => za_ne fun e => ?_
  rcases head_in (l := l2) with h | h
  ·exact z1 y hy (e.trans h)
  ·exact d3 y hy _ h e
 ·have h2' : Chain (zb Z (l1.getLast?.getD 0) (l2.head?.getD 0)) k m' l2 n := h2.congr fun y hy => zb_ne fun e => by
   rcases last_in (l := l1) with h | h
   ·exact z2 y hy (e.trans h)
   ·exact d3 _ h y hy e.symm
  exact h2'.first d2 z2 _
def layZ (Z : Nat -> Option Zd) (h k a b : Nat) : Nat -> Option Zd := jZ (jZ (upd Z h (some ⟨k, a, b⟩)) a h) h b
theorem layZ_ne {Z : Nat -> Option Zd} {h k a b y : Nat} (h1 : y ≠ h) (h2 : y ≠ a) (h3 : y ≠ b) : layZ Z h k a b y = Z y :=
 (jZ_ne h1 h3).trans ((jZ_ne h2 h1).trans (upd_ne _ _ h1))
theorem chain_lay {Z : Nat -> Option Zd} {k : Nat} {l1 l2 : List Nat} {h : Nat} (hc : Chain Z k 0 (l1 ++ l2) 0) (hd : (l1 ++ l2).Nodup) (h0 : ∀ x ∈ l1 ++ l2, x ≠ 0) (hh : h ≠ 0) (hn : h ∉ l1 ++ l2) :
  Chain (layZ Z h k (l1.getLast?.getD 0) (l2.head?.getD 0)) k 0 (l1 ++ h :: l2) 0 := by
 obtain ⟨d1, d2, d3⟩ := List.nodup_append.1 hd
 obtain ⟨c1, c2⟩ := chain_app.1 hc
 have n1 : h ∉ l1 := fun e => hn (List.mem_append.2 (.inl e))
 have n2 : h ∉ l2 := fun e => hn (List.mem_append.2 (.inr e))
 have z1 : ∀ x ∈ l1, x ≠ 0 := fun x hx => h0 x (List.mem_append.2 (.inl hx))
 have z2 : ∀ x ∈ l2, x ≠ 0 := fun x hx => h0 x (List.mem_append.2 (.inr hx))
 have e1 : Chain (upd Z h (some ⟨k, l1.getLast?.getD 0, l2.head?.getD 0⟩)) k 0 l1 (l2.head?.getD 0) := c1.congr fun y hy => upd_ne _ _ (fun e => n1 (e ▸ hy))
 have e2 : Chain (upd Z h (some ⟨k, l1.getLast?.getD 0, l2.head?.getD 0⟩)) k (l1.getLast?.getD 0) l2 0 := c2.congr fun y hy => upd_ne _ _ (fun e => n2 (e ▸ hy))
 have e3 : Chain (upd Z h (some ⟨k, l1.getLast?.getD 0, l2.head?.getD 0⟩)) k (l1.getLast?.getD 0) [h] (l2.head?.getD 0) := ⟨upd_at _ _ _, trivial⟩
 have f1 := chain_join e1 e3 rfl (List.nodup_append.2 ⟨d1, by simp, fun y hy z hz e => by
  rw [List.mem_singleton] at hz; subst hz; subst e; exact n1 hy⟩) (fun x hx => by
   rcases List.mem_append.1 hx with hx | hx
   ·exact z1 x hx
   ·rw [List.mem_singleton] at hx; subst hx; exact hh)
 have f2 : Chain (jZ (upd Z h (some ⟨k, l1.getLast?.getD 0, l2.head?.getD 0⟩)) (l1.getLast?.getD 0) h) k (l1.getLast?.getD 0) l2 0 := e2.congr fun y hy => jZ_ne (fun e => by
   rcases last_in (l := l1) with h | h
   ·exact z2 y hy (e.trans h)
   ·exact d3 _ h y hy e.symm) (fun e => n2 (e ▸ hy))
 have f3 := chain_join f1 f2 rfl (by
  rw [List.append_assoc]
  refine List.nodup_append.2 ⟨d1, ?_, fun y hy z hz e => ?_⟩
  ·exact List.nodup_cons.2 ⟨n2, d2⟩
  ·subst e
   rcases List.mem_cons.1 hz with e | hz
   ·subst e; exact n1 hy
   ·exact d3 y hy y hz rfl) (fun x hx => by
   rw [List.append_assoc] at hx
   rcases List.mem_append.1 hx with hx | hx
   ·exact z1 x hx
   ·rcases List.mem_cons.1 hx with e | hx
    ·subst e; exact hh
    ·exact z2 x hx)
 have e : (l1 ++ [h]).getLast?.getD 0 = h := by rw [List.getLast?_concat]; rfl
 rw [e, List.append_assoc] at f3
 exact f3
def outZ (Z : Nat -> Option Zd) (h a b : Nat) : Nat -> Option Zd := upd (jZ Z a b) h (some ⟨4, 0, 0⟩)
theorem outZ_ne {Z : Nat -> Option Zd} {h a b y : Nat} (h1 : y ≠ h) (h2 : y ≠ a) (h3 : y ≠ b) : outZ Z h a b y = Z y := (upd_ne _ _ h1).trans (jZ_ne h2 h3)
theorem chain_out {Z : Nat -> Option Zd} {k : Nat} {l1 l2 : List Nat} {h : Nat} (hc : Chain Z k 0 (l1 ++ h :: l2) 0) (hd : (l1 ++ h :: l2).Nodup) (h0 : ∀ x ∈ l1 ++ h :: l2, x ≠ 0) :
  Z h = some ⟨k, l1.getLast?.getD 0, l2.head?.getD 0⟩ /\ Chain (outZ Z h (l1.getLast?.getD 0) (l2.head?.getD 0)) k 0 (l1 ++ l2) 0 := by
 obtain ⟨d1, d2, d3⟩ := List.nodup_append.1 hd
 obtain ⟨n2, d2⟩ := List.nodup_cons.1 d2
 obtain ⟨c1, c2, c3⟩ := chain_app.1 hc
 have n1 : h ∉ l1 := fun e => d3 h e h (List.mem_cons_self ..) rfl
 refine ⟨c2, ?_⟩
 have f := chain_join c1 c3 rfl (List.nodup_append.2 ⟨d1, d2, fun y hy z hz => d3 y hy z (List.mem_cons_of_mem _ hz)⟩) (fun x hx => h0 x (by
  rcases List.mem_append.1 hx with hx | hx
  ·exact List.mem_append.2 (.inl hx)
  ·exact List.mem_append.2 (.inr (List.mem_cons_of_mem _ hx))))
 exact f.congr fun y hy => upd_ne _ _ (fun e => by
  subst e
  rcases List.mem_append.1 hy with hy | hy
  ·exact n1 hy
  ·exact n2 hy)
end Go.Proofs.YtngehaiigbbknaaGreat.Que
/-
  The walk of item.Lengths.
-/
namespace Go.Proofs.YtngehaiigbbknaaGreat.Itm
open Go.RowKit Base Arena Cls
section
variable (w : World) (L : Lay) (c : Conf) (s : St) (bs : List UInt8) (h : SetAt w L c s bs) (g : Cls.Good c.cf s)
include h g
theorem lengthsNo (H : Nat) (hH : H < 18446744073709551616) (hf : findN c.cf s H = none) : Calls Tryz.prog 142 #[.pointer (some ⟨L.g, 0, none⟩), .int .u64 (H : Int)] w fun e w' => e = .returned (.tuple #[.int .i64 0, .int .i64 0, .int .i64 20]) /\ Below w.heap.size w w' := by
 have OC := openNo w L c s bs h g H hH hf
 rw [zc_eq] at OC
 replace OC := Lib.hid OC
 clear h g hf
 go_enter Tryz.func142, Tryz.ntmps142
 go_wp2_with fail
 refine OC.out.mono ?_
 rintro e w2 ⟨rfl, b2⟩
 replace b2 := Lib.hid b2
 go_wp2
 go_ret3
 exact ⟨rfl, b2.out.alloc b2.out.size _⟩
theorem lengthsNone {H i x p k n : Nat} (K : Chk c s bs.length H i x p k n) (h44 : rd bs (p + 44) 1 = 0) : Calls Tryz.prog 142 #[.pointer (some ⟨L.g, 0, none⟩), .int .u64 (H : Int)] w fun e w' => e = .returned (.tuple #[.int .i64 0, .int .i64 0, .int .i64 0]) /\ Below w.heap.size w w' := by
 have OC := openK w L c s bs h g K
 rw [kv_eq] at OC
 obtain ⟨V, hV⟩ : ∃ V, V = rd bs (p + 44) 1 := ⟨_, rfl⟩
 have d1 : decide ((V : Int) = 0) = true := decide_eq_true (by omega)
 have d2 : ((V : Int) == 0) = true := by rw [beq_iff_eq]; omega
 replace OC := Lib.hid OC
 replace hV := Lib.hid hV
 replace h := Lib.hid h
 replace K := Lib.hid K
 clear g h44
 go_enter Tryz.func142, Tryz.ntmps142
 go_wp2_with fail
 refine OC.out.mono ?_
 rintro e w2 ⟨rfl, b2⟩
 obtain ⟨w3, hw3⟩ : ∃ w3, w3 = w2.alloc (.cells #[.pointer (some ⟨L.ga, 0, none⟩), .int .i64 (p : Int), .int .i64 (k : Int), .int .i64 (n : Int)] 200) := ⟨_, rfl⟩
 have S : OS w.heap.size w w3 L c s bs w2.heap.size p k n := by rw [hw3]; exact OS.op p k n h.out b2 b2 b2.size
 obtain ⟨y0, y1, y2, y3⟩ := S.cells
 have KC := Lib.hid (S.key K.out hV.out)
 replace S := Lib.hid S
 replace hw3 := Lib.hid hw3
 clear b2 OC
 generalize hN2 : w2.heap.size = N1 at *
 replace hN2 := Lib.hid hN2
 go_upto_region 2 with fail
 rw [hN2.out, <- hw3.out]
 clear hN2 hw3
 go_wp2_with fail
 refine KC.out.mono ?_
 rintro e w4 ⟨rfl, b4⟩
 replace S := S.out.step b4
 obtain ⟨y0, y1, y2, y3⟩ := S.cells
 replace S := Lib.hid S
 clear KC b4 K hV h
 go_wp2
 go_ret3
 exact ⟨rfl, S.out.below⟩
theorem lengthsYes {H i x p k n : Nat} (K : Chk c s bs.length H i x p k n) (h44 : rd bs (p + 44) 1 ≠ 0) : Calls Tryz.prog 142 #[.pointer (some ⟨L.g, 0, none⟩), .int .u64 (H : Int)] w fun e w' => e = .returned (.tuple #[.int .i64 ((rd bs (p + 44) 1 : Nat) : Int), .int .i64 ((rd bs (p + 48) 4 : Nat) : Int), .int .i64 0]) /\ Below w.heap.size w w' := by
 have OC := openK w L c s bs h g K
 rw [kv_eq] at OC
 obtain ⟨V, hV⟩ : ∃ V, V = rd bs (p + 44) 1 := ⟨_, rfl⟩
 obtain ⟨U, hU⟩ : ∃ U, U = rd bs (p + 48) 4 := ⟨_, rfl⟩
 have d1 : decide ((V : Int) = 0) = false := decide_eq_false (by omega)
 have d2 : ((V : Int) == 0) = false := by rw [beq_eq_false_iff_ne]; omega
 rw [<- hV, <- hU]
 replace OC := Lib.hid OC
 replace hV := Lib.hid hV
 replace hU := Lib.hid hU
 replace h := Lib.hid h
 replace K := Lib.hid K
 clear g h44
 go_enter Tryz.func142, Tryz.ntmps142
 go_wp2_with fail
 refine OC.out.mono ?_
 rintro e w2 ⟨rfl, b2⟩
 obtain ⟨w3, hw3⟩ : ∃ w3, w3 = w2.alloc (.cells #[.pointer (some ⟨L.ga, 0, none⟩), .int .i64 (p : Int), .int .i64 (k : Int), .int .i64 (n : Int)] 200) := ⟨_, rfl⟩
 have S : OS w.heap.size w w3 L c s bs w2.heap.size p k n := by rw [hw3]; exact OS.op p k n h.out b2 b2 b2.size
 obtain ⟨y0, y1, y2, y3⟩ := S.cells
 have KC := Lib.hid (S.key K.out hV.out)
 replace S := Lib.hid S
 replace hw3 := Lib.hid hw3
 clear b2 OC
 generalize hN2 : w2.heap.size = N1 at *
 replace hN2 := Lib.hid hN2
 go_upto_region 2 with fail
 rw [hN2.out, <- hw3.out]
 clear hN2 hw3
 go_wp2_with fail
 refine KC.out.mono ?_
 rintro e w4 ⟨rfl, b4⟩
 replace S := S.out.step b4
 obtain ⟨yy0, yy1, yy2, yy3⟩ := S.cells
 have y0 := fun p : Regrown => cell_regrown yy0 p.d p.os
 have y1 := fun p : Regrown => cell_regrown yy1 p.d p.os
 have y2 := fun p : Regrown => cell_regrown yy2 p.d p.os
 have y3 := fun p : Regrown => cell_regrown yy3 p.d p.os
 have KC2 := Lib.hid (fun p : Regrown => (S.step (below_regrown w4 p.d p.os)).key K.out hV.out)
 have VC := Lib.hid (fun p : Regrown => (S.step (below_regrown w4 p.d p.os)).value K.out hU.out)
 replace S := Lib.hid S
 clear KC b4 yy0 yy1 yy2 yy3
 go_upto_region 4 with fail
 refine wp_region_quiet_below (by kernel_rfl) (by kernel_rfl) ?_
 repeat (go_big_quiet_step ((first | (go_at_call 133; exact Calls.regrown_of (KC2.out _)) | (go_at_call 159; exact Calls.regrown_of (VC.out _)))))
 refine wpQuiet_nil ?_
 intro _ hw'
 obtain ⟨⟨dq, osq⟩, hw''⟩ := hw'
 subst hw''
 have S5 := Lib.hid (S.out.step (below_regrown w4 dq osq))
 clear y0 y1 y2 y3 KC2 VC S
 generalize Go.Sort.grow (redrawn w4 dq) osq = wf at *
 go_wp2
 go_ret3
 exact ⟨rfl, S5.out.below⟩
end
end Go.Proofs.YtngehaiigbbknaaGreat.Itm
/-
  The queue: its lists with the chunks; which list, who is in it, neighbours.
-/
namespace Go.Proofs.YtngehaiigbbknaaGreat.Que
open Go.RowKit Base Arena Cls Itm
structure QS (w : World) (L : Lay) (c : Conf) (s : St) (bs : List UInt8) (Z : Nat -> Option Zd) (gq gl : Nat) (F : QN) : Prop where
  zs : ZS w L c s bs Z
  q : QAt w L c gq gl F
  fq : ¬ Foot L c s gq
  fl : ¬ Foot L c s gl
def It (c : Conf) (s : St) (Z : Nat -> Option Zd) (H : Nat) : Prop := (∃ i x p, findN c.cf s H = some (i, x, p)) /\ ∃ z, Z H = some z
def Two (L : Lay) (gl : Nat) : Nat -> Prop := fun b => b = L.ha \/ b = gl
theorem good_lt {c : Conf} (ok : c.cf.Ok) {s : St} (g : Cls.Good c.cf s) {H i x p : Nat} (h : findN c.cf s H = some (i, x, p)) : H < 18446744073709551616 := by
  obtain ⟨t, e⟩ := Tkn.of ok g h
  rw [e]
  exact (t.hlt ok g).1
section
variable {w w' : World} {L : Lay} {c : Conf} {s : St} {bs : List UInt8} {Z : Nat -> Option Zd} {gq gl : Nat} {F : QN} (h : QS w L c s bs Z gq gl F)
include h
theorem QS.okc : c.cf.Ok := h.zs.set.okc
theorem QS.below (b : Below w.heap.size w w') : QS w' L c s bs Z gq gl F := ⟨h.zs.step b, h.q.below b, h.fq, h.fl⟩
theorem QS.drewN (n : Nat) : QS (w.drewN n) L c s bs Z gq gl F := ⟨h.zs.drewN n, h.q.drewN n, h.fq, h.fl⟩
theorem QS.ha_ne : gq ≠ L.ha /\ gl ≠ L.ha := ⟨fun e => h.fq (by rw [e]; exact ⟨.bytes, rfl⟩), fun e => h.fl (by rw [e]; exact ⟨.bytes, rfl⟩)⟩
theorem QS.bytes {bs' : List UInt8} {Z' : Nat -> Option Zd} (o : Only (· = L.ha) w w') (h' : ZS w' L c s bs' Z') : QS w' L c s bs' Z' gq gl F :=
  ⟨h', h.q.only o h.ha_ne.1 h.ha_ne.2, h.fq, h.fl⟩
theorem QS.cell {F' : QN} {j : Nat} {v : Value} (q' : QAt (w.setCell ⟨gl, j, none⟩ v) L c gq gl F') : QS (w.setCell ⟨gl, j, none⟩ v) L c s bs Z gq gl F' /\ Only (Two L gl) w (w.setCell ⟨gl, j, none⟩ v) :=
  ⟨⟨h.zs.only (only_cell w gl j v) (fun b hb e => h.fl (e ▸ hb)), q', h.fq, h.fl⟩, (Only.refl (Two L gl) w).setCell (p := ⟨gl, j, none⟩) (fun _ => .inr rfl) v⟩
end
theorem two_bytes {w w' : World} {L : Lay} {gl : Nat} (o : Only (· = L.ha) w w') : Only (Two L gl) w w' := o.mono fun b _ hb => .inl hb
theorem isKindC (w : World) (k : Int) : Calls Tryz.prog 87 #[.int .i64 k] w fun e w' => e = .returned (.bool (decide (1 <= k /\ k <= 3))) /\ w = w' := by
  by_cases h0 : 1 <= k
  · by_cases h1 : k <= 3
    · rw [decide_eq_true ⟨h0, h1⟩]
      go_enter Tryz.func87, Tryz.ntmps87
      go_wp2
      go_ret
      exact ⟨rfl, rfl⟩
    · rw [decide_eq_false (fun e => h1 e.2)]
      go_enter Tryz.func87, Tryz.ntmps87
      go_wp2
      go_ret
      exact ⟨rfl, rfl⟩
  · rw [decide_eq_false (fun e => h0 e.1)]
    go_enter Tryz.func87, Tryz.ntmps87
    go_wp2
    go_ret
    exact ⟨rfl, rfl⟩
section
variable {w : World} {L : Lay} {c : Conf} {gq gl : Nat} {F : QN} (q : QAt w L c gq gl F)
include q
theorem listNo (x kind : Int) (hn : ¬ (0 <= x /\ x < (c.nc : Int) /\ 1 <= kind /\ kind <= 3)) : Calls Tryz.prog 45 #[.pointer (some ⟨gq, 0, none⟩), .int .i64 x, .int .i64 kind] w fun e w' => e = .returned (.pointer none) /\ w = w' := by
  have c1 := q.c1
  have IK := fun w => isKindC w kind
  clear q
  by_cases h0 : x < 0
  · clear IK hn
    go_enter Tryz.func45, Tryz.ntmps45
    go_wp2
    go_ret
    exact ⟨rfl, rfl⟩
  · by_cases h1 : (c.nc : Int) <= x
    · clear IK hn
      go_enter Tryz.func45, Tryz.ntmps45
      go_wp2
      go_ret
      exact ⟨rfl, rfl⟩
    · have h2 : ¬ (1 <= kind /\ kind <= 3) := fun e => hn ⟨by omega, by omega, e⟩
      rw [decide_eq_false h2] at IK
      replace IK := Lib.hid IK
      clear hn h2
      go_enter Tryz.func45, Tryz.ntmps45
      go_wp2_with (first | (go_at_call 87; refine (IK.out _).mono ?_; rintro e w' ⟨rfl, rfl⟩) | fail)
      go_ret
      exact ⟨rfl, rfl⟩
theorem listYes (x k : Nat) (hx : x < c.nc) (hk : k < 3) (hnc : c.nc < 1048576) : Calls Tryz.prog 45 #[.pointer (some ⟨gq, 0, none⟩), .int .i64 (x : Int), .int .i64 ((k : Int) + 1)] w fun e w' => e = .returned (.pointer (some ⟨gl, x * 9 + k * 3, none⟩)) /\ w = w' := by
  have c1 := q.c1
  have IK := fun w => isKindC w ((k : Int) + 1)
  rw [decide_eq_true (show 1 <= (k : Int) + 1 /\ (k : Int) + 1 <= 3 by omega)] at IK
  replace IK := Lib.hid IK
  clear q
  have x0 : (0 : Int) <= (x : Int) := by omega
  have x1 : (x : Int) < (c.nc : Int) := by omega
  have k0 : (0 : Int) <= (k : Int) := by omega
  have k1 : (k : Int) < 3 := by omega
  have s1 : IntKind.i64.wrap ((k : Int) + 1 - 1) = (k : Int) := by
    rw [show (k : Int) + 1 - 1 = (k : Int) by omega]; exact IntWalk.i64_in _ (by omega)
  go_enter Tryz.func45, Tryz.ntmps45
  go_wp2_with (first | (go_at_call 87; refine (IK.out _).mono ?_; rintro e w' ⟨rfl, rfl⟩) | fail)
  go_ret
  exact ⟨rfl, rfl⟩
end
def jH (F : QN) (x k a b : Nat) : QN := if a = 0 then F.setHd x k b else F
def jF (F : QN) (x k a b : Nat) : QN := if b = 0 then (jH F x k a b).setTl x k a else jH F x k a b
theorem zb_it {c : Conf} {s : St} {Z : Nat -> Option Zd} {x y H : Nat} (h : It c s Z H) : It c s (zb Z x y) H := ⟨h.1, Option.isSome_iff_exists.1 (zb_some.trans (Option.isSome_iff_exists.2 h.2))⟩
theorem It.goodl {c : Conf} {s : St} {Z : Nat -> Option Zd} {H : Nat} (ok : c.cf.Ok) (g : Cls.Good c.cf s) (h : H = 0 \/ It c s Z H) : GoodL c.cf s H := by
 rcases h with h | ⟨⟨i, x, p, h⟩, -⟩
 ·exact .inl h
 ·exact .inr ⟨good_lt ok g h, i, x, p, h⟩
section
variable {w : World} {L : Lay} {c : Conf} {s : St} {bs : List UInt8} {Z : Nat -> Option Zd} {gq gl : Nat} {F : QN} (h : QS w L c s bs Z gq gl F)
include h
theorem QS.setB {a b : Nat} (ha : It c s Z a) (a0 : a ≠ 0) (hb : b = 0 \/ It c s Z b) : Calls Tryz.prog 109 #[.pointer (some ⟨L.g, 0, none⟩), .int .u64 (a : Int), .int .i64 2, .int .u64 (b : Int)] w fun e w' => e = .returned (.int .i64 0) /\ Only (Two L gl) w w' /\ ∃ bs', Ed (Itp c s Z) bs bs' /\ QS w' L c s bs' (zb Z a b) gq gl F := by
 obtain ⟨⟨i, x, p, hf⟩, z, hz⟩ := ha
 have e : zb Z a b = upd Z a (some ⟨z.st, z.a, b⟩) := by unfold zb; rw [if_neg a0, hz]; rfl
 rw [e]
 exact (zSetB h.zs (good_lt h.okc h.zs.good hf) hf z hz b (It.goodl h.okc h.zs.good hb)).mono fun e w' ⟨h1, h2, bs', h3, h4⟩ => ⟨h1, two_bytes h2, bs', h3, h.bytes h2 h4⟩
theorem QS.setA {a b : Nat} (ha : It c s Z a) (a0 : a ≠ 0) (hb : b = 0 \/ It c s Z b) : Calls Tryz.prog 109 #[.pointer (some ⟨L.g, 0, none⟩), .int .u64 (a : Int), .int .i64 1, .int .u64 (b : Int)] w fun e w' => e = .returned (.int .i64 0) /\ Only (Two L gl) w w' /\ ∃ bs', Ed (Itp c s Z) bs bs' /\ QS w' L c s bs' (za Z a b) gq gl F := by
 obtain ⟨⟨i, x, p, hf⟩, z, hz⟩ := ha
 have e : za Z a b = upd Z a (some ⟨z.st, b, z.b⟩) := by unfold za; rw [if_neg a0, hz]; rfl
 rw [e]
 exact (zSetA h.zs (good_lt h.okc h.zs.good hf) hf z hz b (It.goodl h.okc h.zs.good hb)).mono fun e w' ⟨h1, h2, bs', h3, h4⟩ => ⟨h1, two_bytes h2, bs', h3, h.bytes h2 h4⟩
end
theorem two_trans {L : Lay} {gl : Nat} {a b c : World} (h : Only (Two L gl) a b) (k : Only (Two L gl) b c) : Only (Two L gl) a c := h.trans k fun _ _ h => h
theorem eq0 {a : Nat} (h : a = 0) : decide ((a : Int) = 0) = true /\ ((a : Int) == 0) = true := ⟨decide_eq_true (by omega), by rw [beq_iff_eq]; omega⟩
theorem ne0 {a : Nat} (h : ¬ a = 0) : decide ((a : Int) = 0) = false /\ ((a : Int) == 0) = false := ⟨decide_eq_false (by omega), by rw [beq_eq_false_iff_ne]; omega⟩
section
variable {w : World} {L : Lay} {c : Conf} {s : St} {bs : List UInt8} {Z : Nat -> Option Zd} {gq gl : Nat} {F : QN} (h : QS w L c s bs Z gq gl F) {x k : Nat} (hx : x < c.nc) (hk : k < 3) (a b : Nat) (ha : a = 0 \/ It c s Z a) (hb : b = 0 \/ It c s Z b)
include h hx hk ha hb
theorem joinYY (a0 : a = 0) (b0 : b = 0) : Calls Tryz.prog 108 #[.pointer (some ⟨gq, 0, none⟩), .pointer (some ⟨gl, x * 9 + k * 3, none⟩), .int .u64 (a : Int), .int .u64 (b : Int)] w fun e w' => e = .returned (.tuple #[]) /\ Only (Two L gl) w w' /\ ∃ bs', Ed (Itp c s Z) bs bs' /\ QS w' L c s bs' (jZ Z a b) gq gl (jF F x k a b) := by
 obtain ⟨d1, d2⟩ := eq0 a0
 obtain ⟨d3, d4⟩ := eq0 b0
 have q0 := h.q.c0
 have p1 := h.q.qhd hx hk
 have p2 := h.q.grid.frozen (x * 9 + k * 3)
 obtain ⟨w1, hw1⟩ : ∃ w1, w1 = w.setCell ⟨gl, x * 9 + k * 3, none⟩ (.int .u64 (b : Int)) := ⟨_, rfl⟩
 have S1 : QS w1 L c s bs (zb Z a b) gq gl (jH F x k a b) /\ Only (Two L gl) w w1 := by
  rw [hw1]
  have e : zb Z a b = Z := by unfold zb; rw [if_pos a0]
  have e2 : jH F x k a b = F.setHd x k b := by unfold jH; rw [if_pos a0]
  rw [e, e2]
  exact h.cell (h.q.setHd hx hk b)
 replace S1 := Lib.hid S1
 replace hw1 := Lib.hid hw1
 replace h := Lib.hid h
 replace ha := Lib.hid ha
 replace hb := Lib.hid hb
 replace a0 := Lib.hid a0
 replace b0 := Lib.hid b0
 go_enter Tryz.func108, Tryz.ntmps108
 go_upto_region 3 with fail
 rw [<- hw1.out]
 obtain ⟨S, o1⟩ := S1.out
 have E1 := Lib.hid (Ed.refl (Itp c s Z) bs)
 obtain ⟨bs1, hbs⟩ : ∃ b, b = bs := ⟨_, rfl⟩
 rw [<- hbs] at S
 replace E1 : RowKit.Hid (Ed (Itp c s Z) bs bs1) := Lib.hid (by rw [hbs]; exact E1.out)
 clear p1 p2 S1 hw1 hbs q0
 have q0 := S.q.c0
 have p1 := S.q.qtl hx hk
 have p2 := S.q.grid.frozen (x * 9 + k * 3 + 1)
 obtain ⟨w2, hw2⟩ : ∃ w2, w2 = w1.setCell ⟨gl, x * 9 + k * 3 + 1, none⟩ (.int .u64 (a : Int)) := ⟨_, rfl⟩
 have S2 : QS w2 L c s bs1 (jZ Z a b) gq gl (jF F x k a b) /\ Only (Two L gl) w1 w2 := by
  rw [hw2]
  have e : jZ Z a b = zb Z a b := by unfold jZ za; rw [if_pos b0.out]
  have e2 : jF F x k a b = (jH F x k a b).setTl x k a := by unfold jF; rw [if_pos b0.out]
  rw [e, e2]
  exact S.cell (S.q.setTl hx hk a)
 replace S2 := Lib.hid S2
 replace hw2 := Lib.hid hw2
 replace S := Lib.hid S
 replace o1 := Lib.hid o1
 go_wp2_with fail
 go_end0
 rw [<- hw2.out]
 exact ⟨rfl, two_trans o1.out S2.out.2, bs1, E1.out, S2.out.1⟩
theorem joinYN (a0 : a = 0) (b0 : ¬ b = 0) : Calls Tryz.prog 108 #[.pointer (some ⟨gq, 0, none⟩), .pointer (some ⟨gl, x * 9 + k * 3, none⟩), .int .u64 (a : Int), .int .u64 (b : Int)] w fun e w' => e = .returned (.tuple #[]) /\ Only (Two L gl) w w' /\ ∃ bs', Ed (Itp c s Z) bs bs' /\ QS w' L c s bs' (jZ Z a b) gq gl (jF F x k a b) := by
 obtain ⟨d1, d2⟩ := eq0 a0
 obtain ⟨d3, d4⟩ := ne0 b0
 have q0 := h.q.c0
 have p1 := h.q.qhd hx hk
 have p2 := h.q.grid.frozen (x * 9 + k * 3)
 obtain ⟨w1, hw1⟩ : ∃ w1, w1 = w.setCell ⟨gl, x * 9 + k * 3, none⟩ (.int .u64 (b : Int)) := ⟨_, rfl⟩
 have S1 : QS w1 L c s bs (zb Z a b) gq gl (jH F x k a b) /\ Only (Two L gl) w w1 := by
  rw [hw1]
  have e : zb Z a b = Z := by unfold zb; rw [if_pos a0]
  have e2 : jH F x k a b = F.setHd x k b := by unfold jH; rw [if_pos a0]
  rw [e, e2]
  exact h.cell (h.q.setHd hx hk b)
 replace S1 := Lib.hid S1
 replace hw1 := Lib.hid hw1
 replace h := Lib.hid h
 replace ha := Lib.hid ha
 replace hb := Lib.hid hb
 replace a0 := Lib.hid a0
 replace b0 := Lib.hid b0
 go_enter Tryz.func108, Tryz.ntmps108
 go_upto_region 3 with fail
 rw [<- hw1.out]
 obtain ⟨S, o1⟩ := S1.out
 have E1 := Lib.hid (Ed.refl (Itp c s Z) bs)
 obtain ⟨bs1, hbs⟩ : ∃ b, b = bs := ⟨_, rfl⟩
 rw [<- hbs] at S
 replace E1 : RowKit.Hid (Ed (Itp c s Z) bs bs1) := Lib.hid (by rw [hbs]; exact E1.out)
 clear p1 p2 S1 hw1 hbs q0
 have q0 := S.q.c0
 have C2 := Lib.hid (S.setA (zb_it (hb.out.resolve_left b0.out)) b0.out (ha.out.imp id zb_it))
 replace S := Lib.hid S
 replace o1 := Lib.hid o1
 go_wp2_with fail
 refine C2.out.mono ?_
 rintro e w2 ⟨rfl, o2, bs2, E2, S2⟩
 rw [itp_congr (fun H => zb_some)] at E2
 have e2 : jF F x k a b = jH F x k a b := by unfold jF; rw [if_neg b0.out]
 replace e2 := Lib.hid e2
 replace S2 := Lib.hid S2
 replace E2 := Lib.hid E2
 replace o2 := Lib.hid o2
 go_wp2_with fail
 go_end0
 rw [e2.out]
 exact ⟨rfl, two_trans o1.out o2.out, bs2, E1.out.trans E2.out, S2.out⟩
theorem joinNY (a0 : ¬ a = 0) (b0 : b = 0) : Calls Tryz.prog 108 #[.pointer (some ⟨gq, 0, none⟩), .pointer (some ⟨gl, x * 9 + k * 3, none⟩), .int .u64 (a : Int), .int .u64 (b : Int)] w fun e w' => e = .returned (.tuple #[]) /\ Only (Two L gl) w w' /\ ∃ bs', Ed (Itp c s Z) bs bs' /\ QS w' L c s bs' (jZ Z a b) gq gl (jF F x k a b) := by
 obtain ⟨d1, d2⟩ := ne0 a0
 obtain ⟨d3, d4⟩ := eq0 b0
 have q0 := h.q.c0
 have C1 := Lib.hid (h.setB (ha.resolve_left a0) a0 hb)
 have ej : jH F x k a b = F := by unfold jH; rw [if_neg a0]
 replace ej := Lib.hid ej
 replace h := Lib.hid h
 replace ha := Lib.hid ha
 replace hb := Lib.hid hb
 replace a0 := Lib.hid a0
 replace b0 := Lib.hid b0
 go_enter Tryz.func108, Tryz.ntmps108
 go_wp2_with fail
 refine C1.out.mono ?_
 rintro e w1 ⟨rfl, o1, bs1, E1, S⟩
 rw [<- ej.out] at S
 replace E1 := Lib.hid E1
 clear C1 q0
 have q0 := S.q.c0
 have p1 := S.q.qtl hx hk
 have p2 := S.q.grid.frozen (x * 9 + k * 3 + 1)
 obtain ⟨w2, hw2⟩ : ∃ w2, w2 = w1.setCell ⟨gl, x * 9 + k * 3 + 1, none⟩ (.int .u64 (a : Int)) := ⟨_, rfl⟩
 have S2 : QS w2 L c s bs1 (jZ Z a b) gq gl (jF F x k a b) /\ Only (Two L gl) w1 w2 := by
  rw [hw2]
  have e : jZ Z a b = zb Z a b := by unfold jZ za; rw [if_pos b0.out]
  have e2 : jF F x k a b = (jH F x k a b).setTl x k a := by unfold jF; rw [if_pos b0.out]
  rw [e, e2]
  exact S.cell (S.q.setTl hx hk a)
 replace S2 := Lib.hid S2
 replace hw2 := Lib.hid hw2
 replace S := Lib.hid S
 replace o1 := Lib.hid o1
 go_wp2_with fail
 go_end0
 rw [<- hw2.out]
 exact ⟨rfl, two_trans o1.out S2.out.2, bs1, E1.out, S2.out.1⟩
theorem joinNN (a0 : ¬ a = 0) (b0 : ¬ b = 0) : Calls Tryz.prog 108 #[.pointer (some ⟨gq, 0, none⟩), .pointer (some ⟨gl, x * 9 + k * 3, none⟩), .int .u64 (a : Int), .int .u64 (b : Int)] w fun e w' => e = .returned (.tuple #[]) /\ Only (Two L gl) w w' /\ ∃ bs', Ed (Itp c s Z) bs bs' /\ QS w' L c s bs' (jZ Z a b) gq gl (jF F x k a b) := by
 obtain ⟨d1, d2⟩ := ne0 a0
 obtain ⟨d3, d4⟩ := ne0 b0
 have q0 := h.q.c0
 have C1 := Lib.hid (h.setB (ha.resolve_left a0) a0 hb)
 have ej : jH F x k a b = F := by unfold jH; rw [if_neg a0]
 replace ej := Lib.hid ej
 replace h := Lib.hid h
 replace ha := Lib.hid ha
 replace hb := Lib.hid hb
 replace a0 := Lib.hid a0
 replace b0 := Lib.hid b0
 go_enter Tryz.func108, Tryz.ntmps108
 go_wp2_with fail
 refine C1.out.mono ?_
 rintro e w1 ⟨rfl, o1, bs1, E1, S⟩
 rw [<- ej.out] at S
 replace E1 := Lib.hid E1
 clear C1 q0
 have q0 := S.q.c0
 have C2 := Lib.hid (S.setA (zb_it (hb.out.resolve_left b0.out)) b0.out (ha.out.imp id zb_it))
 replace S := Lib.hid S
 replace o1 := Lib.hid o1
 go_wp2_with fail
 refine C2.out.mono ?_
 rintro e w2 ⟨rfl, o2, bs2, E2, S2⟩
 rw [itp_congr (fun H => zb_some)] at E2
 have e2 : jF F x k a b = jH F x k a b := by unfold jF; rw [if_neg b0.out]
 replace e2 := Lib.hid e2
 replace S2 := Lib.hid S2
 replace E2 := Lib.hid E2
 replace o2 := Lib.hid o2
 go_wp2_with fail
 go_end0
 rw [e2.out]
 exact ⟨rfl, two_trans o1.out o2.out, bs2, E1.out.trans E2.out, S2.out⟩
theorem joinC : Calls Tryz.prog 108 #[.pointer (some ⟨gq, 0, none⟩), .pointer (some ⟨gl, x * 9 + k * 3, none⟩), .int .u64 (a : Int), .int .u64 (b : Int)] w fun e w' => e = .returned (.tuple #[]) /\ Only (Two L gl) w w' /\ ∃ bs', Ed (Itp c s Z) bs bs' /\ QS w' L c s bs' (jZ Z a b) gq gl (jF F x k a b) := by
 by_cases a0 : a = 0
 ·by_cases b0 : b = 0
  ·exact joinYY h hx hk a b ha hb a0 b0
  ·exact joinYN h hx hk a b ha hb a0 b0
 ·by_cases b0 : b = 0
  ·exact joinNY h hx hk a b ha hb a0 b0
  ·exact joinNN h hx hk a b ha hb a0 b0
end
theorem upd_it {c : Conf} {s : St} {Z : Nat -> Option Zd} {x H : Nat} {z : Zd} (h : It c s Z H) : It c s (upd Z x (some z)) H := by
 refine ⟨h.1, ?_⟩
 by_cases e : H = x
 ·subst e; exact ⟨z, upd_at _ _ _⟩
 ·rw [upd_ne _ _ e]; exact h.2
theorem upd_upd {α : Type} (f : Nat -> α) (x : Nat) (a b : α) : upd (upd f x a) x b = upd f x b := by
 funext y
 by_cases e : y = x
 ·subst e; rw [upd_at, upd_at]
 ·rw [upd_ne _ _ e, upd_ne _ _ e, upd_ne _ _ e]
theorem upd_some {Z : Nat -> Option Zd} {x : Nat} {z : Zd} (h : ∃ z, Z x = some z) (H : Nat) : (upd Z x (some z) H).isSome = (Z H).isSome := by
 by_cases e : H = x
 ·subst e; obtain ⟨z, h⟩ := h; rw [upd_at, h]; rfl
 ·rw [upd_ne _ _ e]
theorem jZ_it {c : Conf} {s : St} {Z : Nat -> Option Zd} {a b H : Nat} (h : It c s Z H) : It c s (jZ Z a b) H := ⟨h.1, Option.isSome_iff_exists.1 (jZ_some.trans (Option.isSome_iff_exists.2 h.2))⟩
theorem jF_n (F : QN) (x k a b : Nat) : (jF F x k a b).n = F.n := by
 unfold jF jH
 split <;> split <;> rfl
def lF (F : QN) (x k h a b : Nat) : QN := (jF (jF F x k a h) x k h b).setN x k (F.n x k + 1)
section
variable {w : World} {L : Lay} {c : Conf} {s : St} {bs : List UInt8} {Z : Nat -> Option Zd} {gq gl : Nat} {F : QN} (h : QS w L c s bs Z gq gl F)
include h
theorem QS.putA {H b : Nat} {z : Zd} (hh : It c s Z H) (hz : Z H = some z) (hb : b = 0 \/ It c s Z b) : Calls Tryz.prog 109 #[.pointer (some ⟨L.g, 0, none⟩), .int .u64 (H : Int), .int .i64 1, .int .u64 (b : Int)] w fun e w' => e = .returned (.int .i64 0) /\ Only (Two L gl) w w' /\ ∃ bs', Ed (Itp c s Z) bs bs' /\ QS w' L c s bs' (upd Z H (some ⟨z.st, b, z.b⟩)) gq gl F := by
 obtain ⟨⟨i, x, p, hf⟩, -⟩ := hh
 exact (zSetA h.zs (good_lt h.okc h.zs.good hf) hf z hz b (It.goodl h.okc h.zs.good hb)).mono fun e w' ⟨h1, h2, bs', h3, h4⟩ => ⟨h1, two_bytes h2, bs', h3, h.bytes h2 h4⟩
theorem QS.putB {H b : Nat} {z : Zd} (hh : It c s Z H) (hz : Z H = some z) (hb : b = 0 \/ It c s Z b) : Calls Tryz.prog 109 #[.pointer (some ⟨L.g, 0, none⟩), .int .u64 (H : Int), .int .i64 2, .int .u64 (b : Int)] w fun e w' => e = .returned (.int .i64 0) /\ Only (Two L gl) w w' /\ ∃ bs', Ed (Itp c s Z) bs bs' /\ QS w' L c s bs' (upd Z H (some ⟨z.st, z.a, b⟩)) gq gl F := by
 obtain ⟨⟨i, x, p, hf⟩, -⟩ := hh
 exact (zSetB h.zs (good_lt h.okc h.zs.good hf) hf z hz b (It.goodl h.okc h.zs.good hb)).mono fun e w' ⟨h1, h2, bs', h3, h4⟩ => ⟨h1, two_bytes h2, bs', h3, h.bytes h2 h4⟩
theorem QS.putS {H : Nat} {z : Zd} (hh : It c s Z H) (hz : Z H = some z) (v : Int) (k : Nat) (hv : v = (k : Int)) (k1 : 1 <= k) (k4 : k <= 4) : Calls Tryz.prog 110 #[.pointer (some ⟨L.g, 0, none⟩), .int .u64 (H : Int), .int .i64 v] w fun e w' => e = .returned (.int .i64 0) /\ Only (Two L gl) w w' /\ ∃ bs', Ed (Itp c s Z) bs bs' /\ QS w' L c s bs' (upd Z H (some ⟨k, z.a, z.b⟩)) gq gl F := by
 obtain ⟨⟨i, x, p, hf⟩, -⟩ := hh
 subst hv
 exact (zSetS h.zs (good_lt h.okc h.zs.good hf) hf z hz k k1 k4).mono fun e w' ⟨h1, h2, bs', h3, h4⟩ => ⟨h1, two_bytes h2, bs', h3, h.bytes h2 h4⟩
end
section
variable {w : World} {L : Lay} {c : Conf} {s : St} {bs : List UInt8} {Z : Nat -> Option Zd} {gq gl : Nat} {F : QN} (h : QS w L c s bs Z gq gl F) {x k : Nat} (hx : x < c.nc) (hk : k < 3) (H a b : Nat) (hH : It c s Z H) (ha : a = 0 \/ It c s Z a) (hb : b = 0 \/ It c s Z b) (hn : F.n x k < 1073741824)
include h hx hk hH ha hb hn
theorem layC : Calls Tryz.prog 103 #[.pointer (some ⟨gq, 0, none⟩), .pointer (some ⟨gl, x * 9 + k * 3, none⟩), .int .u64 (H : Int), .int .i64 ((k : Int) + 1), .int .u64 (a : Int), .int .u64 (b : Int)] w fun e w' => e = .returned (.tuple #[]) /\ Only (Two L gl) w w' /\ ∃ bs', Ed (Itp c s Z) bs bs' /\ QS w' L c s bs' (layZ Z H (k + 1) a b) gq gl (lF F x k H a b) := by
 have q0 := h.q.c0
 obtain ⟨z, hz⟩ := hH.2
 have C1 := Lib.hid (h.putA hH hz ha)
 replace hH := Lib.hid hH
 replace ha := Lib.hid ha
 replace hb := Lib.hid hb
 replace hz := Lib.hid hz
 replace hn := Lib.hid hn
 clear h
 go_enter Tryz.func103, Tryz.ntmps103
 go_wp2_with fail
 refine C1.out.mono ?_
 rintro e w1 ⟨rfl, o1, bs1, E1, S⟩
 have hz1 := Lib.hid (upd_at Z H (some ⟨z.st, a, z.b⟩))
 have q0 := S.q.c0
 have C2 := Lib.hid (S.putB (upd_it hH.out) hz1.out (hb.out.imp id upd_it))
 replace E1 := Lib.hid E1
 replace o1 := Lib.hid o1
 clear C1 S
 go_wp2_with fail
 refine C2.out.mono ?_
 rintro e w2 ⟨rfl, o2, bs2, E2, S⟩
 rw [itp_congr (upd_some hH.out.2)] at E2
 simp only [upd_upd] at S
 replace E2 := Lib.hid (E1.out.trans E2)
 replace o2 := Lib.hid (two_trans o1.out o2)
 have hz2 := Lib.hid (upd_at Z H (some ⟨z.st, a, b⟩))
 have q0 := S.q.c0
 have C3 := Lib.hid (S.putS (upd_it hH.out) hz2.out ((k : Int) + 1) (k + 1) (by omega) (by omega) (by omega))
 clear C2 S E1 o1 hz1
 go_wp2_with fail
 refine C3.out.mono ?_
 rintro e w3 ⟨rfl, o3, bs3, E3, S⟩
 rw [itp_congr (upd_some hH.out.2)] at E3
 simp only [upd_upd] at S
 replace E3 := Lib.hid (E2.out.trans E3)
 replace o3 := Lib.hid (two_trans o2.out o3)
 have C4 := Lib.hid (joinC S hx hk a H (ha.out.imp id upd_it) (.inr (upd_it hH.out)))
 clear C3 S E2 o2 hz2 q0
 go_wp2_with fail
 refine C4.out.mono ?_
 rintro e w4 ⟨rfl, o4, bs4, E4, S⟩
 rw [itp_congr (upd_some hH.out.2)] at E4
 replace E4 := Lib.hid (E3.out.trans E4)
 replace o4 := Lib.hid (two_trans o3.out o4)
 have C5 := Lib.hid (joinC S hx hk H b (.inr (jZ_it (upd_it hH.out))) (hb.out.imp id fun h => jZ_it (upd_it h)))
 clear C4 S E3 o3
 go_wp2_with fail
 refine C5.out.mono ?_
 rintro e w5 ⟨rfl, o5, bs5, E5, S⟩
 rw [itp_congr (fun H => jZ_some), itp_congr (upd_some hH.out.2)] at E5
 replace E5 := Lib.hid (E4.out.trans E5)
 replace o5 := Lib.hid (two_trans o4.out o5)
 have en : (jF (jF F x k a H) x k H b).n x k = F.n x k := by rw [jF_n, jF_n]
 have p1 := S.q.qn hx hk
 rw [en] at p1
 have p2 := S.q.grid.frozen (x * 9 + k * 3 + 2)
 have s1 : IntKind.i64.wrap ((F.n x k : Int) + 1) = (F.n x k : Int) + 1 := IntWalk.i64_in _ (by have := hn.out; omega)
 have S6 := Lib.hid (S.cell (S.q.setN hx hk (F.n x k + 1)))
 replace S := Lib.hid S
 clear C5 E4 o4 en
 go_wp2_with fail
 go_end0
 exact ⟨rfl, two_trans o5.out S6.out.2, bs5, E5.out, S6.out.1⟩
end
section
variable {w : World} {L : Lay} {c : Conf} {s : St} {bs : List UInt8} {Z : Nat -> Option Zd} {gq gl : Nat} {F : QN} (h : QS w L c s bs Z gq gl F)
include h
theorem standsNo (H : Nat) (hH : H < 18446744073709551616) (hf : findN c.cf s H = none) : Calls Tryz.prog 106 #[.pointer (some ⟨gq, 0, none⟩), .int .u64 (H : Int)] w fun e w' => e = .returned (.pointer none) /\ Below w.heap.size w w' := by
 have AC := atC w L c s bs h.zs.set h.zs.good H hH
 rw [hf] at AC
 simp only [atV] at AC
 have q0 := h.q.c0
 replace AC := Lib.hid AC
 clear h hf
 go_enter Tryz.func106, Tryz.ntmps106
 go_wp2_with fail
 refine AC.out.mono ?_
 rintro e w1 ⟨rfl, m, rfl⟩
 go_wp2
 go_ret
 exact ⟨rfl, below_drewN (Below.refl _ _) _⟩
theorem standsOut (H : Nat) {i x p : Nat} (hf : findN c.cf s H = some (i, x, p)) (hz : zst (Z H) = 0 \/ 4 <= zst (Z H)) : Calls Tryz.prog 106 #[.pointer (some ⟨gq, 0, none⟩), .int .u64 (H : Int)] w fun e w' => e = .returned (.pointer none) /\ Below w.heap.size w w' := by
 have hH := good_lt h.okc h.zs.good hf
 have AC := atC w L c s bs h.zs.set h.zs.good H hH
 rw [hf] at AC
 simp only [atV] at AC
 have q0 := h.q.c0
 have SC := Lib.hid (fun m => zStateYes (h.zs.drewN m) hH hf)
 have LC := Lib.hid (fun w' (q : QAt w' L c gq gl F) => listNo q (s.cls i : Int) (zst (Z H) : Int) (by omega))
 have b0 := Lib.hid (fun m => below_drewN (Below.refl w.heap.size w) m)
 replace AC := Lib.hid AC
 replace h := Lib.hid h
 replace hf := Lib.hid hf
 clear hz
 go_enter Tryz.func106, Tryz.ntmps106
 go_wp2_with fail
 refine AC.out.mono ?_
 rintro e w1 ⟨rfl, m, hm⟩
 have SC := SC.out m
 have b1 := b0.out m
 have S := h.out.drewN m
 rw [hm] at SC b1 S
 have q0 := S.q.c0
 replace SC := Lib.hid SC
 replace b1 := Lib.hid b1
 replace S := Lib.hid S
 replace hm := Lib.hid hm
 clear AC b0
 go_wp2_with fail
 refine SC.out.mono ?_
 rintro e w2 ⟨rfl, b2⟩
 have LC := Lib.hid (LC.out w2 (S.out.below b2).q)
 replace b2 := Lib.hid (b1.out.trans (b2.mono b1.out.size))
 clear SC S b1
 go_wp2_with fail
 refine LC.out.mono ?_
 rintro e w3 ⟨rfl, rfl⟩
 go_wp2
 go_ret
 exact ⟨rfl, b2.out⟩
theorem standsIn (H : Nat) {i x p k : Nat} (hf : findN c.cf s H = some (i, x, p)) (hk : k < 3) (hz : zst (Z H) = k + 1) : Calls Tryz.prog 106 #[.pointer (some ⟨gq, 0, none⟩), .int .u64 (H : Int)] w fun e w' => e = .returned (.pointer (some ⟨gl, s.cls i * 9 + k * 3, none⟩)) /\ Below w.heap.size w w' := by
 have hH := good_lt h.okc h.zs.good hf
 have AC := atC w L c s bs h.zs.set h.zs.good H hH
 rw [hf] at AC
 simp only [atV] at AC
 have q0 := h.q.c0
 have SC := (fun m => zStateYes (h.zs.drewN m) hH hf)
 rw [hz, show ((k + 1 : Nat) : Int) = (k : Int) + 1 by omega] at SC
 replace SC := Lib.hid SC
 have kN := (Tkn.of h.okc h.zs.good hf).1.kN
 have nb : c.cf.nc <= 62 := h.okc.ncb
 have LC := Lib.hid (fun w' (q : QAt w' L c gq gl F) => listYes q (s.cls i) k kN hk (by have : c.cf.nc = c.nc := rfl; omega))
 have b0 := Lib.hid (fun m => below_drewN (Below.refl w.heap.size w) m)
 replace AC := Lib.hid AC
 replace h := Lib.hid h
 replace hf := Lib.hid hf
 clear hz kN nb
 go_enter Tryz.func106, Tryz.ntmps106
 go_wp2_with fail
 refine AC.out.mono ?_
 rintro e w1 ⟨rfl, m, hm⟩
 have SC := SC.out m
 have b1 := b0.out m
 have S := h.out.drewN m
 rw [hm] at SC b1 S
 have q0 := S.q.c0
 replace SC := Lib.hid SC
 replace b1 := Lib.hid b1
 replace S := Lib.hid S
 replace hm := Lib.hid hm
 clear AC b0
 go_wp2_with fail
 refine SC.out.mono ?_
 rintro e w2 ⟨rfl, b2⟩
 have LC := Lib.hid (LC.out w2 (S.out.below b2).q)
 replace b2 := Lib.hid (b1.out.trans (b2.mono b1.out.size))
 clear SC S b1
 go_wp2_with fail
 refine LC.out.mono ?_
 rintro e w3 ⟨rfl, rfl⟩
 go_wp2
 go_ret
 exact ⟨rfl, b2.out⟩
end
section
variable {w : World} {L : Lay} {c : Conf} {s : St} {bs : List UInt8} {Z : Nat -> Option Zd} {gq gl : Nat} {F : QN} (h : QS w L c s bs Z gq gl F)
include h
theorem zLengthsNo (H : Nat) (hH : H < 18446744073709551616) (hf : findN c.cf s H = none \/ (∃ i x p, findN c.cf s H = some (i, x, p)) /\ Z H = none) : Calls Tryz.prog 142 #[.pointer (some ⟨L.g, 0, none⟩), .int .u64 (H : Int)] w fun e w' => (e = .returned (.tuple #[.int .i64 0, .int .i64 0, .int .i64 20]) \/ e = .returned (.tuple #[.int .i64 0, .int .i64 0, .int .i64 0])) /\ Below w.heap.size w w' := by
 rcases hf with hf | ⟨⟨i, x, p, hf⟩, hz⟩
 ·exact (lengthsNo w L c s bs h.zs.set h.zs.good H hH hf).mono fun e w' h => ⟨.inl h.1, h.2⟩
 ·have ha := h.zs.lk.at_ H i x p hH hf
  rw [hz] at ha
  exact (lengthsNone w L c s bs h.zs.set h.zs.good (Chk.of h.zs.set h.zs.good hH hf) ha).mono fun e w' h => ⟨.inr h.1, h.2⟩
theorem zLengthsYes (H : Nat) (hi : It c s Z H) : Calls Tryz.prog 142 #[.pointer (some ⟨L.g, 0, none⟩), .int .u64 (H : Int)] w fun e w' => (∃ a b : Nat, a ≠ 0 /\ e = .returned (.tuple #[.int .i64 (a : Int), .int .i64 (b : Int), .int .i64 0])) /\ Below w.heap.size w w' := by
 obtain ⟨⟨i, x, p, hf⟩, z, hz⟩ := hi
 have hH := good_lt h.okc h.zs.good hf
 have ha := h.zs.lk.at_ H i x p hH hf
 rw [hz] at ha
 exact (lengthsYes w L c s bs h.zs.set h.zs.good (Chk.of h.zs.set h.zs.good hH hf) ha.1).mono fun e w' h => ⟨⟨_, _, ha.1, h.1⟩, h.2⟩
theorem freeArg (H : Nat) (k : Int) (hk : ¬ (1 <= k /\ k <= 3)) : Calls Tryz.prog 102 #[.pointer (some ⟨gq, 0, none⟩), .int .u64 (H : Int), .int .i64 k] w fun e w' => e = .returned (.tuple #[.pointer none, .int .i64 1]) /\ w = w' := by
 have IK := isKindC w k
 rw [decide_eq_false hk] at IK
 replace IK := Lib.hid IK
 clear h hk
 go_enter Tryz.func102, Tryz.ntmps102
 go_wp2_with fail
 refine IK.out.mono ?_
 rintro e w1 ⟨rfl, rfl⟩
 go_wp2
 go_ret2
 exact ⟨rfl, rfl⟩
theorem freeNo (H : Nat) (hH : H < 18446744073709551616) (k : Nat) (hk : k < 3) (hf : findN c.cf s H = none \/ (∃ i x p, findN c.cf s H = some (i, x, p)) /\ Z H = none) : Calls Tryz.prog 102 #[.pointer (some ⟨gq, 0, none⟩), .int .u64 (H : Int), .int .i64 ((k : Int) + 1)] w fun e w' => e = .returned (.tuple #[.pointer none, .int .i64 20]) /\ Below w.heap.size w w' := by
 have IK := isKindC w ((k : Int) + 1)
 rw [decide_eq_true (show 1 <= (k : Int) + 1 /\ (k : Int) + 1 <= 3 by omega)] at IK
 replace IK := Lib.hid IK
 have q0 := h.q.c0
 have LC := Lib.hid (zLengthsNo h H hH hf)
 clear h hk hf
 go_enter Tryz.func102, Tryz.ntmps102
 go_wp2_with fail
 refine IK.out.mono ?_
 rintro e w1 ⟨rfl, rfl⟩
 go_wp2_with fail
 refine LC.out.mono ?_
 rintro e w1 ⟨rfl | rfl, b1⟩
 all_goals
  replace b1 := Lib.hid b1
  go_wp2
  go_ret2
  exact ⟨rfl, b1.out⟩
theorem freeTwice (H : Nat) (k : Nat) (hk : k < 3) (hi : It c s Z H) {i x p j : Nat} (hf : findN c.cf s H = some (i, x, p)) (hj : j < 3) (hz : zst (Z H) = j + 1) : Calls Tryz.prog 102 #[.pointer (some ⟨gq, 0, none⟩), .int .u64 (H : Int), .int .i64 ((k : Int) + 1)] w fun e w' => e = .returned (.tuple #[.pointer none, .int .i64 8]) /\ Below w.heap.size w w' := by
 have IK := isKindC w ((k : Int) + 1)
 rw [decide_eq_true (show 1 <= (k : Int) + 1 /\ (k : Int) + 1 <= 3 by omega)] at IK
 replace IK := Lib.hid IK
 have q0 := h.q.c0
 have LC := Lib.hid (zLengthsYes h H hi)
 replace h := Lib.hid h
 replace hi := Lib.hid hi
 replace hf := Lib.hid hf
 replace hj := Lib.hid hj
 replace hz := Lib.hid hz
 go_enter Tryz.func102, Tryz.ntmps102
 go_wp2_with fail
 refine IK.out.mono ?_
 rintro e w1 ⟨rfl, rfl⟩
 go_wp2_with fail
 refine LC.out.mono ?_
 rintro e w1 ⟨⟨va, vb, va0, rfl⟩, b1⟩
 obtain ⟨d1, d2⟩ := ne0 va0
 have S := h.out.below b1
 have SC := Lib.hid (standsIn S H hf.out hj.out hz.out)
 replace b1 := Lib.hid b1
 replace S := Lib.hid S
 clear LC IK q0 va0
 go_wp2_with fail
 refine SC.out.mono ?_
 rintro e w2 ⟨rfl, b2⟩
 replace S := S.out.below b2
 replace b2 := Lib.hid (b1.out.trans (b2.mono b1.out.size))
 clear SC b1
 replace S := Lib.hid S
 go_wp2
 go_ret2
 exact ⟨rfl, b2.out⟩
theorem freeYes (H : Nat) (k : Nat) (hk : k < 3) (hi : It c s Z H) {i x p : Nat} (hf : findN c.cf s H = some (i, x, p)) (hz : zst (Z H) = 0 \/ 4 <= zst (Z H)) : Calls Tryz.prog 102 #[.pointer (some ⟨gq, 0, none⟩), .int .u64 (H : Int), .int .i64 ((k : Int) + 1)] w fun e w' => e = .returned (.tuple #[.pointer (some ⟨gl, s.cls i * 9 + k * 3, none⟩), .int .i64 0]) /\ Below w.heap.size w w' := by
 have hH := good_lt h.okc h.zs.good hf
 have kN := (Tkn.of h.okc h.zs.good hf).1.kN
 have nb : c.cf.nc <= 62 := h.okc.ncb
 have YC := Lib.hid (fun w' (q : QAt w' L c gq gl F) => listYes q (s.cls i) k kN hk (by have : c.cf.nc = c.nc := rfl; omega))
 have IK := isKindC w ((k : Int) + 1)
 rw [decide_eq_true (show 1 <= (k : Int) + 1 /\ (k : Int) + 1 <= 3 by omega)] at IK
 replace IK := Lib.hid IK
 have q0 := h.q.c0
 have LC := Lib.hid (zLengthsYes h H hi)
 replace h := Lib.hid h
 replace hi := Lib.hid hi
 replace hf := Lib.hid hf
 replace hz := Lib.hid hz
 clear kN nb
 go_enter Tryz.func102, Tryz.ntmps102
 go_wp2_with fail
 refine IK.out.mono ?_
 rintro e w1 ⟨rfl, rfl⟩
 go_wp2_with fail
 refine LC.out.mono ?_
 rintro e w1 ⟨⟨va, vb, va0, rfl⟩, b1⟩
 obtain ⟨d1, d2⟩ := ne0 va0
 have S := h.out.below b1
 have SC := Lib.hid (standsOut S H hf.out hz.out)
 replace b1 := Lib.hid b1
 replace S := Lib.hid S
 clear LC IK q0 va0
 go_wp2_with fail
 refine SC.out.mono ?_
 rintro e w2 ⟨rfl, b2⟩
 replace S := S.out.below b2
 replace b2 := Lib.hid (b1.out.trans (b2.mono b1.out.size))
 clear SC b1
 have q0 := S.q.c0
 have AC := atC w2 L c s bs S.zs.set S.zs.good H hH
 rw [hf.out] at AC
 simp only [atV] at AC
 replace AC := Lib.hid AC
 replace S := Lib.hid S
 go_wp2_with fail
 refine AC.out.mono ?_
 rintro e w3 ⟨rfl, m, hm⟩
 have b3 := below_drewN b2.out m
 have S3 := S.out.drewN m
 rw [hm] at b3 S3
 have YC := Lib.hid (YC.out w3 S3.q)
 replace b3 := Lib.hid b3
 replace hm := Lib.hid hm
 clear AC S S3 b2 q0
 go_wp2_with fail
 refine YC.out.mono ?_
 rintro e w4 ⟨rfl, rfl⟩
 go_wp2
 go_ret2
 exact ⟨rfl, b3.out⟩
end
section
variable {w : World} {L : Lay} {c : Conf} {gq gl : Nat} {F : QN} (q : QAt w L c gq gl F)
include q
theorem headNo (x kind : Int) (hn : ¬ (0 <= x /\ x < (c.nc : Int) /\ 1 <= kind /\ kind <= 3)) : Calls Tryz.prog 63 #[.pointer (some ⟨gq, 0, none⟩), .int .i64 x, .int .i64 kind] w fun e w' => e = .returned (.tuple #[.int .u64 0, .bool false]) /\ w = w' := by
 have LC := Lib.hid (listNo q x kind hn)
 clear q hn
 go_enter Tryz.func63, Tryz.ntmps63
 go_wp2_with fail
 refine LC.out.mono ?_
 rintro e w1 ⟨rfl, rfl⟩
 go_wp2
 go_ret2
 exact ⟨rfl, rfl⟩
theorem headZero (x k : Nat) (hx : x < c.nc) (hk : k < 3) (hnc : c.nc <= 62) (hn : F.n x k = 0) : Calls Tryz.prog 63 #[.pointer (some ⟨gq, 0, none⟩), .int .i64 (x : Int), .int .i64 ((k : Int) + 1)] w fun e w' => e = .returned (.tuple #[.int .u64 0, .bool false]) /\ w = w' := by
 have LC := Lib.hid (listYes q x k hx hk (by omega))
 have p1 := q.qn hx hk
 obtain ⟨d1, d2⟩ := eq0 hn
 clear q hn
 go_enter Tryz.func63, Tryz.ntmps63
 go_wp2_with fail
 refine LC.out.mono ?_
 rintro e w1 ⟨rfl, rfl⟩
 go_wp2
 go_ret2
 exact ⟨rfl, rfl⟩
theorem headYes (x k : Nat) (hx : x < c.nc) (hk : k < 3) (hnc : c.nc <= 62) (hn : F.n x k ≠ 0) : Calls Tryz.prog 63 #[.pointer (some ⟨gq, 0, none⟩), .int .i64 (x : Int), .int .i64 ((k : Int) + 1)] w fun e w' => e = .returned (.tuple #[.int .u64 (F.hd x k : Int), .bool true]) /\ w = w' := by
 have LC := Lib.hid (listYes q x k hx hk (by omega))
 have p1 := q.qn hx hk
 have p2 := q.qhd hx hk
 obtain ⟨d1, d2⟩ := ne0 hn
 clear q hn
 go_enter Tryz.func63, Tryz.ntmps63
 go_wp2_with fail
 refine LC.out.mono ?_
 rintro e w1 ⟨rfl, rfl⟩
 go_wp2
 go_ret2
 exact ⟨rfl, rfl⟩
theorem tailNo (x kind : Int) (hn : ¬ (0 <= x /\ x < (c.nc : Int) /\ 1 <= kind /\ kind <= 3)) : Calls Tryz.prog 20 #[.pointer (some ⟨gq, 0, none⟩), .int .i64 x, .int .i64 kind] w fun e w' => e = .returned (.tuple #[.int .u64 0, .bool false]) /\ w = w' := by
 have LC := Lib.hid (listNo q x kind hn)
 clear q hn
 go_enter Tryz.func20, Tryz.ntmps20
 go_wp2_with fail
 refine LC.out.mono ?_
 rintro e w1 ⟨rfl, rfl⟩
 go_wp2
 go_ret2
 exact ⟨rfl, rfl⟩
theorem tailZero (x k : Nat) (hx : x < c.nc) (hk : k < 3) (hnc : c.nc <= 62) (hn : F.n x k = 0) : Calls Tryz.prog 20 #[.pointer (some ⟨gq, 0, none⟩), .int .i64 (x : Int), .int .i64 ((k : Int) + 1)] w fun e w' => e = .returned (.tuple #[.int .u64 0, .bool false]) /\ w = w' := by
 have LC := Lib.hid (listYes q x k hx hk (by omega))
 have p1 := q.qn hx hk
 obtain ⟨d1, d2⟩ := eq0 hn
 clear q hn
 go_enter Tryz.func20, Tryz.ntmps20
 go_wp2_with fail
 refine LC.out.mono ?_
 rintro e w1 ⟨rfl, rfl⟩
 go_wp2
 go_ret2
 exact ⟨rfl, rfl⟩
theorem tailYes (x k : Nat) (hx : x < c.nc) (hk : k < 3) (hnc : c.nc <= 62) (hn : F.n x k ≠ 0) : Calls Tryz.prog 20 #[.pointer (some ⟨gq, 0, none⟩), .int .i64 (x : Int), .int .i64 ((k : Int) + 1)] w fun e w' => e = .returned (.tuple #[.int .u64 (F.tl x k : Int), .bool true]) /\ w = w' := by
 have LC := Lib.hid (listYes q x k hx hk (by omega))
 have p1 := q.qn hx hk
 have p2 := q.qtl hx hk
 obtain ⟨d1, d2⟩ := ne0 hn
 clear q hn
 go_enter Tryz.func20, Tryz.ntmps20
 go_wp2_with fail
 refine LC.out.mono ?_
 rintro e w1 ⟨rfl, rfl⟩
 go_wp2
 go_ret2
 exact ⟨rfl, rfl⟩
theorem lenNo (x kind : Int) (hn : ¬ (0 <= x /\ x < (c.nc : Int) /\ 1 <= kind /\ kind <= 3)) : Calls Tryz.prog 43 #[.pointer (some ⟨gq, 0, none⟩), .int .i64 x, .int .i64 kind] w fun e w' => e = .returned (.int .i64 0) /\ w = w' := by
 have LC := Lib.hid (listNo q x kind hn)
 clear q hn
 go_enter Tryz.func43, Tryz.ntmps43
 go_wp2_with fail
 refine LC.out.mono ?_
 rintro e w1 ⟨rfl, rfl⟩
 go_wp2
 go_ret
 exact ⟨rfl, rfl⟩
theorem lenYes (x k : Nat) (hx : x < c.nc) (hk : k < 3) (hnc : c.nc <= 62) : Calls Tryz.prog 43 #[.pointer (some ⟨gq, 0, none⟩), .int .i64 (x : Int), .int .i64 ((k : Int) + 1)] w fun e w' => e = .returned (.int .i64 (F.n x k : Int)) /\ w = w' := by
 have LC := Lib.hid (listYes q x k hx hk (by omega))
 have p1 := q.qn hx hk
 clear q
 go_enter Tryz.func43, Tryz.ntmps43
 go_wp2_with fail
 refine LC.out.mono ?_
 rintro e w1 ⟨rfl, rfl⟩
 go_wp2
 go_ret
 exact ⟨rfl, rfl⟩
end
def dF (F : QN) (x k a b : Nat) : QN := (jF F x k a b).setN x k (F.n x k - 1)
section
variable {w : World} {L : Lay} {c : Conf} {s : St} {bs : List UInt8} {Z : Nat -> Option Zd} {gq gl : Nat} {F : QN} (h : QS w L c s bs Z gq gl F)
include h
theorem zLinksC (H : Nat) (hi : It c s Z H) (z : Zd) (hz : Z H = some z) :
  (Calls Tryz.prog 107 #[.pointer (some ⟨L.g, 0, none⟩), .int .u64 (H : Int), .int .i64 1] w fun e w' => e = .returned (.tuple #[.int .u64 (z.a : Int), .int .i64 0]) /\ Below w.heap.size w w') /\
  (Calls Tryz.prog 107 #[.pointer (some ⟨L.g, 0, none⟩), .int .u64 (H : Int), .int .i64 2] w fun e w' => e = .returned (.tuple #[.int .u64 (z.b : Int), .int .i64 0]) /\ Below w.heap.size w w') := by
 obtain ⟨⟨i, x, p, hf⟩, -⟩ := hi
 exact zLinkYes h.zs (good_lt h.okc h.zs.good hf) hf z hz
theorem pushYes (H : Nat) (k : Nat) (hk : k < 3) (hi : It c s Z H) {i x p : Nat} (hf : findN c.cf s H = some (i, x, p)) (hz : zst (Z H) = 0 \/ 4 <= zst (Z H)) (hn : F.n (s.cls i) k < 1073741824) (ha : F.hd (s.cls i) k = 0 \/ It c s Z (F.hd (s.cls i) k)) :
  Calls Tryz.prog 60 #[.pointer (some ⟨gq, 0, none⟩), .int .u64 (H : Int), .int .i64 ((k : Int) + 1)] w fun e w' => e = .returned (.int .i64 0) /\ ∃ w1, Below w.heap.size w w1 /\ Only (Two L gl) w1 w' /\ ∃ bs', Ed (Itp c s Z) bs bs' /\ QS w' L c s bs' (layZ Z H (k + 1) 0 (F.hd (s.cls i) k)) gq gl (lF F (s.cls i) k H 0 (F.hd (s.cls i) k)) := by
 have FC := Lib.hid (freeYes h H k hk hi hf hz)
 have kN : s.cls i < c.nc := (Tkn.of h.okc h.zs.good hf).1.kN
 replace h := Lib.hid h
 replace hi := Lib.hid hi
 replace hf := Lib.hid hf
 replace hn := Lib.hid hn
 replace ha := Lib.hid ha
 replace kN := Lib.hid kN
 clear hz
 go_enter Tryz.func60, Tryz.ntmps60
 go_wp2_with fail
 refine FC.out.mono ?_
 rintro e w1 ⟨rfl, b1⟩
 have S := h.out.below b1
 have LC := Lib.hid (layC S kN.out hk H 0 (F.hd (s.cls i) k) hi.out (.inl rfl) ha.out hn.out)
 have p1 := S.q.qhd kN.out hk
 replace b1 := Lib.hid b1
 clear FC S
 go_wp2_with fail
 refine LC.out.mono ?_
 rintro e w2 ⟨rfl, o2, bs2, E2, S2⟩
 replace o2 := Lib.hid o2
 replace E2 := Lib.hid E2
 replace S2 := Lib.hid S2
 go_wp2
 go_ret
 exact ⟨rfl, w1, b1.out, o2.out, bs2, E2.out, S2.out⟩
theorem dropNo (H : Nat) (SC : Calls Tryz.prog 106 #[.pointer (some ⟨gq, 0, none⟩), .int .u64 (H : Int)] w fun e w' => e = .returned (.pointer none) /\ Below w.heap.size w w') :
  Calls Tryz.prog 72 #[.pointer (some ⟨gq, 0, none⟩), .int .u64 (H : Int)] w fun e w' => e = .returned (.int .i64 20) /\ Below w.heap.size w w' := by
 replace SC := Lib.hid SC
 clear h
 go_enter Tryz.func72, Tryz.ntmps72
 go_wp2_with fail
 refine SC.out.mono ?_
 rintro e w1 ⟨rfl, b1⟩
 replace b1 := Lib.hid b1
 go_wp2
 go_ret
 exact ⟨rfl, b1.out⟩
theorem dropYes (H : Nat) (k : Nat) (hk : k < 3) {i x p : Nat} (hf : findN c.cf s H = some (i, x, p)) (z : Zd) (hz : Z H = some z) (hk1 : z.st = k + 1) (ha : z.a = 0 \/ It c s Z z.a) (hb : z.b = 0 \/ It c s Z z.b) (hn : 1 <= F.n (s.cls i) k) (hn2 : F.n (s.cls i) k < 1073741824) :
  Calls Tryz.prog 72 #[.pointer (some ⟨gq, 0, none⟩), .int .u64 (H : Int)] w fun e w' => e = .returned (.int .i64 0) /\ ∃ w1, Below w.heap.size w w1 /\ Only (Two L gl) w1 w' /\ ∃ bs', Ed (Itp c s Z) bs bs' /\ QS w' L c s bs' (outZ Z H z.a z.b) gq gl (dF F (s.cls i) k z.a z.b) := by
 have hI : It c s Z H := ⟨⟨i, x, p, hf⟩, z, hz⟩
 have SC := Lib.hid (standsIn h H hf hk (by rw [hz]; exact hk1))
 have kN : s.cls i < c.nc := (Tkn.of h.okc h.zs.good hf).1.kN
 replace h := Lib.hid h
 replace hI := Lib.hid hI
 replace hf := Lib.hid hf
 replace hn := Lib.hid hn
 replace hn2 := Lib.hid hn2
 replace ha := Lib.hid ha
 replace hb := Lib.hid hb
 replace hz := Lib.hid hz
 replace kN := Lib.hid kN
 clear hk1
 go_enter Tryz.func72, Tryz.ntmps72
 go_wp2_with fail
 refine SC.out.mono ?_
 rintro e w1 ⟨rfl, b1⟩
 have S := h.out.below b1
 have q0 := S.q.c0
 have C1 := Lib.hid (zLinksC S H hI.out z hz.out).1
 replace b1 := Lib.hid b1
 clear SC
 replace S := Lib.hid S
 go_wp2_with fail
 refine C1.out.mono ?_
 rintro e w2 ⟨rfl, b2⟩
 replace S := S.out.below b2
 have q0 := S.q.c0
 have C2 := Lib.hid (zLinksC S H hI.out z hz.out).2
 replace b2 := Lib.hid (b1.out.trans (b2.mono b1.out.size))
 replace S := Lib.hid S
 clear C1 b1
 go_wp2_with fail
 refine C2.out.mono ?_
 rintro e w3 ⟨rfl, b3⟩
 replace S := S.out.below b3
 have JC := Lib.hid (joinC S kN.out hk z.a z.b ha.out hb.out)
 replace b3 := Lib.hid (b2.out.trans (b3.mono b2.out.size))
 clear C2 b2 S q0
 go_wp2_with fail
 refine JC.out.mono ?_
 rintro e w4 ⟨rfl, o4, bs4, E4, S⟩
 obtain ⟨z4, hz4⟩ := (jZ_it (a := z.a) (b := z.b) hI.out).2
 have C3 := Lib.hid (S.putA (jZ_it hI.out) hz4 (b := 0) (.inl rfl))
 have q0 := S.q.c0
 replace o4 := Lib.hid o4
 replace E4 := Lib.hid E4
 replace hz4 := Lib.hid hz4
 clear JC S
 go_wp2_with fail
 refine C3.out.mono ?_
 rintro e w5 ⟨rfl, o5, bs5, E5, S⟩
 rw [itp_congr (fun H => jZ_some)] at E5
 have hz5 := Lib.hid (upd_at (jZ Z z.a z.b) H (some ⟨z4.st, 0, z4.b⟩))
 have C4 := Lib.hid (S.putB (upd_it (jZ_it hI.out)) hz5.out (b := 0) (.inl rfl))
 have q0 := S.q.c0
 replace o5 := Lib.hid (two_trans o4.out o5)
 replace E5 := Lib.hid (E4.out.trans E5)
 clear C3 S o4 E4
 go_wp2_with fail
 refine C4.out.mono ?_
 rintro e w6 ⟨rfl, o6, bs6, E6, S⟩
 rw [itp_congr (upd_some (jZ_it hI.out).2), itp_congr (fun H => jZ_some)] at E6
 simp only [upd_upd] at S
 have hz6 := Lib.hid (upd_at (jZ Z z.a z.b) H (some ⟨z4.st, 0, 0⟩))
 have C5 := Lib.hid (S.putS (upd_it (jZ_it hI.out)) hz6.out 4 4 rfl (by omega) (by omega))
 have q0 := S.q.c0
 replace o6 := Lib.hid (two_trans o5.out o6)
 replace E6 := Lib.hid (E5.out.trans E6)
 clear C4 S o5 E5 hz5
 go_wp2_with fail
 refine C5.out.mono ?_
 rintro e w7 ⟨rfl, o7, bs7, E7, S⟩
 rw [itp_congr (upd_some (jZ_it hI.out).2), itp_congr (fun H => jZ_some)] at E7
 simp only [upd_upd] at S
 replace o7 := Lib.hid (two_trans o6.out o7)
 replace E7 := Lib.hid (E6.out.trans E7)
 have p1 := S.q.qn kN.out hk
 rw [jF_n] at p1
 have p2 := S.q.grid.frozen (s.cls i * 9 + k * 3 + 2)
 have e1 : (F.n (s.cls i) k : Int) - 1 = ((F.n (s.cls i) k - 1 : Nat) : Int) := by have := hn.out; omega
 have s1 : IntKind.i64.wrap ((F.n (s.cls i) k : Int) - 1) = ((F.n (s.cls i) k - 1 : Nat) : Int) := by
  rw [e1]; exact IntWalk.i64_in _ (by have := hn2.out; omega)
 have S8 := Lib.hid (S.cell (S.q.setN kN.out hk (F.n (s.cls i) k - 1)))
 replace S := Lib.hid S
 clear C5 o6 E6 hz6 q0 e1
 go_wp2_with fail
 go_ret
 exact ⟨rfl, w3, b3.out, two_trans o7.out S8.out.2, bs7, E7.out, S8.out.1⟩
end
structure QI (c : Conf) (s : St) (Z : Nat -> Option Zd) (F : QN) (Ls : Nat -> Nat -> List Nat) : Prop where
  ch : ∀ x k, x < c.nc -> k < 3 -> Chain Z (k + 1) 0 (Ls x k) 0
  hd : ∀ x k, x < c.nc -> k < 3 -> F.hd x k = (Ls x k).head?.getD 0
  tl : ∀ x k, x < c.nc -> k < 3 -> F.tl x k = (Ls x k).getLast?.getD 0
  n : ∀ x k, x < c.nc -> k < 3 -> F.n x k = (Ls x k).length
  it : ∀ x k h, x < c.nc -> k < 3 -> h ∈ Ls x k -> ∃ i y p, findN c.cf s h = some (i, y, p) /\ s.cls i = x
  nd : ∀ x k, x < c.nc -> k < 3 -> (Ls x k).Nodup
  dj : ∀ x k x' k' h, x < c.nc -> k < 3 -> x' < c.nc -> k' < 3 -> h ∈ Ls x k -> h ∈ Ls x' k' -> x = x' /\ k = k'
  out : ∀ H z, (∃ i x p, findN c.cf s H = some (i, x, p)) -> Z H = some z -> (∀ x k, x < c.nc -> k < 3 -> H ∉ Ls x k) -> z = ⟨4, 0, 0⟩
def updL (Ls : Nat -> Nat -> List Nat) (x k : Nat) (l : List Nat) : Nat -> Nat -> List Nat := fun a b => if a = x /\ b = k then l else Ls a b
theorem updL_at (Ls : Nat -> Nat -> List Nat) (x k : Nat) (l : List Nat) : updL Ls x k l x k = l := if_pos ⟨rfl, rfl⟩
theorem updL_ne {Ls : Nat -> Nat -> List Nat} {x k a b : Nat} {l : List Nat} (h : ¬ (a = x /\ b = k)) : updL Ls x k l a b = Ls a b := if_neg h
theorem updF_at (f : Nat -> Nat -> Nat) (x k v : Nat) : updF f x k v x k = v := if_pos ⟨rfl, rfl⟩
theorem updF_ne {f : Nat -> Nat -> Nat} {x k a b v : Nat} (h : ¬ (a = x /\ b = k)) : updF f x k v a b = f a b := if_neg h
theorem jF_hd_ne {F : QN} {x k a b x' k' : Nat} (e : ¬ (x' = x /\ k' = k)) : (jF F x k a b).hd x' k' = F.hd x' k' := by
  unfold jF jH
  split <;> split <;> first | rfl | exact updF_ne e
theorem jF_tl_ne {F : QN} {x k a b x' k' : Nat} (e : ¬ (x' = x /\ k' = k)) : (jF F x k a b).tl x' k' = F.tl x' k' := by
  unfold jF jH
  split <;> split <;> first | rfl | exact updF_ne e
theorem jF_hd (F : QN) (x k a b : Nat) : (jF F x k a b).hd x k = if a = 0 then b else F.hd x k := by
  unfold jF jH
  split <;> split <;> first | rfl | exact updF_at _ _ _ _
theorem jF_tl (F : QN) (x k a b : Nat) : (jF F x k a b).tl x k = if b = 0 then a else F.tl x k := by
  unfold jF jH
  split <;> split <;> first | rfl | exact updF_at _ _ _ _
theorem chain_some {Z : Nat -> Option Zd} {k : Nat} : ∀ {l : List Nat} {p n : Nat}, Chain Z k p l n -> ∀ h ∈ l, ∃ a b, Z h = some ⟨k, a, b⟩
  | [], _, _, _, h, hh => by cases hh
  | x :: t, p, n, hc, h, hh => by
    rcases List.mem_cons.1 hh with rfl | hh
    · exact ⟨_, _, hc.1⟩
    · exact chain_some hc.2 h hh
section
variable {c : Conf} {s : St} (ok : c.cf.Ok) (g : Cls.Good c.cf s)
include ok g
theorem good_mod {H H' i x p i' x' p' : Nat} (h : findN c.cf s H = some (i, x, p)) (h' : findN c.cf s H' = some (i', x', p')) (e : H % 4294967296 = H' % 4294967296) : H = H' := by
  obtain ⟨t, eH⟩ := Tkn.of ok g h
  obtain ⟨t', eH'⟩ := Tkn.of ok g h'
  obtain ⟨-, -, -, p8, -⟩ := t.fit ok
  obtain ⟨-, -, -, p8', -⟩ := t'.fit ok
  obtain ⟨-, -, h3, -, -⟩ := t.hlt ok g
  obtain ⟨-, -, h3', -, -⟩ := t'.hlt ok g
  rw [<- eH] at h3
  rw [<- eH'] at h3'
  have hp : p = p' := by omega
  subst hp
  obtain ⟨-, -, -, eG⟩ := t.same ok t'
  rw [eH, eH', eG]
theorem good_short (l : List Nat) (hd : l.Nodup) (hl : ∀ h ∈ l, ∃ i x p, findN c.cf s h = some (i, x, p)) : l.length <= 134217729 := by
  have h1 : (l.map (· % 4294967296)).Nodup := by
    unfold List.Nodup
    rw [List.pairwise_map]
    refine List.Pairwise.imp_of_mem ?_ hd
    intro a b ha hb hab e
    obtain ⟨i, x, p, hf⟩ := hl a ha
    obtain ⟨i', x', p', hf'⟩ := hl b hb
    exact hab (good_mod ok g hf hf' e)
  have h2 := nodup_le 134217729 _ h1 (by
    intro y hy
    obtain ⟨a, ha, rfl⟩ := List.mem_map.1 hy
    obtain ⟨i, x, p, hf⟩ := hl a ha
    obtain ⟨t, eH⟩ := Tkn.of ok g hf
    obtain ⟨-, -, h3, -, h5⟩ := t.hlt ok g
    rw [<- eH] at h3
    show a % 4294967296 < 134217729
    omega)
  rw [List.length_map] at h2
  exact h2
end
section
variable {c : Conf} {s : St} {Z : Nat -> Option Zd} {F : QN} {Ls : Nat -> Nat -> List Nat} (q : QI c s Z F Ls)
include q
theorem QI.ne0 {x k h : Nat} (hx : x < c.nc) (hk : k < 3) (hh : h ∈ Ls x k) : h ≠ 0 := by
  obtain ⟨i, y, p, hf, -⟩ := q.it x k h hx hk hh
  exact good_ne hf
theorem QI.is {x k h : Nat} (hx : x < c.nc) (hk : k < 3) (hh : h ∈ Ls x k) : It c s Z h := by
  obtain ⟨i, y, p, hf, -⟩ := q.it x k h hx hk hh
  obtain ⟨a, b, hz⟩ := chain_some (q.ch x k hx hk) h hh
  exact ⟨⟨i, y, p, hf⟩, _, hz⟩
theorem QI.hdI {x k : Nat} (hx : x < c.nc) (hk : k < 3) : F.hd x k = 0 \/ It c s Z (F.hd x k) := by
  rw [q.hd x k hx hk]
  exact head_in.imp id (q.is hx hk)
theorem QI.nB (ok : c.cf.Ok) (g : Cls.Good c.cf s) {x k : Nat} (hx : x < c.nc) (hk : k < 3) : F.n x k <= 134217729 := by
  rw [q.n x k hx hk]
  exact good_short ok g _ (q.nd x k hx hk) fun h hh => by
    obtain ⟨i, y, p, hf, -⟩ := q.it x k h hx hk hh
    exact ⟨i, y, p, hf⟩
theorem QI.lay (ok : c.cf.Ok) (g : Cls.Good c.cf s) {x k H : Nat} (hx : x < c.nc) (hk : k < 3) {i y p : Nat} (hf : findN c.cf s H = some (i, y, p)) (hc : s.cls i = x) (hout : ∀ x k, x < c.nc -> k < 3 -> H ∉ Ls x k) (l1 l2 : List Nat) (hl : Ls x k = l1 ++ l2) :
    QI c s (layZ Z H (k + 1) (l1.getLast?.getD 0) (l2.head?.getD 0)) (lF F x k H (l1.getLast?.getD 0) (l2.head?.getD 0)) (updL Ls x k (l1 ++ H :: l2)) := by
  have h0 := good_ne hf
  have hnd := q.nd x k hx hk
  have hch := q.ch x k hx hk
  have hhd := q.hd x k hx hk
  have htl := q.tl x k hx hk
  have hz0 : ∀ y ∈ l1 ++ l2, y ≠ 0 := fun y hy => q.ne0 hx hk (hl ▸ hy)
  have hno := hout x k hx hk
  have m1 : ∀ y ∈ l1, y ∈ Ls x k := fun y hy => by rw [hl]; exact List.mem_append.2 (.inl hy)
  have m2 : ∀ y ∈ l2, y ∈ Ls x k := fun y hy => by rw [hl]; exact List.mem_append.2 (.inr hy)
  have far : ∀ x' k' y, x' < c.nc -> k' < 3 -> ¬ (x' = x /\ k' = k) -> y ∈ Ls x' k' -> layZ Z H (k + 1) (l1.getLast?.getD 0) (l2.head?.getD 0) y = Z y := by
    intro x' k' y hx' hk' hne hy
    refine layZ_ne (fun e => hout x' k' hx' hk' (e ▸ hy)) (fun e => ?_) (fun e => ?_)
    · rcases last_in (l := l1) with h | h
      · exact q.ne0 hx' hk' hy (e.trans h)
      · exact hne (q.dj x' k' x k y hx' hk' hx hk hy (e ▸ m1 _ h))
    · rcases head_in (l := l2) with h | h
      · exact q.ne0 hx' hk' hy (e.trans h)
      · exact hne (q.dj x' k' x k y hx' hk' hx hk hy (e ▸ m2 _ h))
  have hn : F.n x k = (Ls x k).length := q.n x k hx hk
  rw [hl] at hnd hch hhd htl hno hn
  constructor
  · intro x' k' hx' hk'
    by_cases e : x' = x /\ k' = k
    · obtain ⟨rfl, rfl⟩ := e
      rw [updL_at]
      exact chain_lay hch hnd hz0 h0 hno
    · rw [updL_ne e]
      exact (q.ch x' k' hx' hk').congr fun y hy => far x' k' y hx' hk' e hy
  · intro x' k' hx' hk'
    by_cases e : x' = x /\ k' = k
    · obtain ⟨rfl, rfl⟩ := e
      rw [updL_at]
      show (jF (jF F x' k' _ H) x' k' H _).hd x' k' = _
      rw [jF_hd, if_neg h0, jF_hd]
      cases l1 with
      | nil => rfl
      | cons a t =>
        have hne : ((a :: t).getLast?.getD 0) ≠ 0 := fun e => by
          have : (a :: t).getLast?.getD 0 ∈ a :: t := by
            rw [List.getLast?_eq_some_getLast (by simp)]
            exact List.getLast_mem _
          rw [e] at this
          exact hz0 0 (List.mem_append.2 (.inl this)) rfl
        rw [if_neg hne]
        exact hhd
    · rw [updL_ne e, <- q.hd x' k' hx' hk']
      exact (jF_hd_ne e).trans (jF_hd_ne e)
  · intro x' k' hx' hk'
    by_cases e : x' = x /\ k' = k
    · obtain ⟨rfl, rfl⟩ := e
      rw [updL_at]
      show (jF (jF F x' k' _ H) x' k' H _).tl x' k' = _
      rw [jF_tl, jF_tl, if_neg h0]
      cases l2 with
      | nil =>
        rw [if_pos (show (([] : List Nat).head?.getD 0) = 0 from rfl), List.getLast?_concat]
        rfl
      | cons a t =>
        have hne : ((a :: t).head?.getD 0) ≠ 0 := hz0 a (by simp)
        rw [if_neg hne]
        have e2 : (l1 ++ H :: a :: t).getLast?.getD 0 = (l1 ++ a :: t).getLast?.getD 0 := by
          rw [List.getLast?_append, List.getLast?_append, List.getLast?_cons_cons]
        rw [e2, <- htl]
    · rw [updL_ne e, <- q.tl x' k' hx' hk']
      exact (jF_tl_ne e).trans (jF_tl_ne e)
  · intro x' k' hx' hk'
    by_cases e : x' = x /\ k' = k
    · obtain ⟨rfl, rfl⟩ := e
      rw [updL_at]
      refine (updF_at _ _ _ _).trans ?_
      rw [hn]
      simp only [List.length_append, List.length_cons]
      omega
    · rw [updL_ne e, <- q.n x' k' hx' hk']
      refine (updF_ne e).trans ?_
      rw [jF_n, jF_n]
  · intro x' k' y' hx' hk' hy
    by_cases e : x' = x /\ k' = k
    · obtain ⟨rfl, rfl⟩ := e
      rw [updL_at] at hy
      rcases List.mem_append.1 hy with hy | hy
      · exact q.it x' k' y' hx hk (m1 _ hy)
      · rcases List.mem_cons.1 hy with rfl | hy
        · exact ⟨i, y, p, hf, hc⟩
        · exact q.it x' k' y' hx hk (m2 _ hy)
    · rw [updL_ne e] at hy
      exact q.it x' k' y' hx' hk' hy
  · intro x' k' hx' hk'
    by_cases e : x' = x /\ k' = k
    · obtain ⟨rfl, rfl⟩ := e
      rw [updL_at]
      obtain ⟨d1, d2, d3⟩ := List.nodup_append.1 hnd
      refine List.nodup_append.2 ⟨d1, List.nodup_cons.2 ⟨fun e => hno (List.mem_append.2 (.inr e)), d2⟩, fun a ha b hb e => ?_⟩
      rcases List.mem_cons.1 hb with rfl | hb
      · exact hno (List.mem_append.2 (.inl (e ▸ ha)))
      · exact d3 a ha b hb e
    · rw [updL_ne e]; exact q.nd x' k' hx' hk'
  · intro x1 k1 x2 k2 y' hx1 hk1 hx2 hk2 h1 h2
    have key : ∀ a b, a < c.nc -> b < 3 -> y' ∈ updL Ls x k (l1 ++ H :: l2) a b -> y' = H /\ a = x /\ b = k \/ y' ≠ H /\ y' ∈ Ls a b := by
      intro a b ha hb hy
      by_cases e : a = x /\ b = k
      · obtain ⟨rfl, rfl⟩ := e
        rw [updL_at] at hy
        by_cases eH : y' = H
        · exact .inl ⟨eH, rfl, rfl⟩
        · refine .inr ⟨eH, ?_⟩
          rcases List.mem_append.1 hy with hy | hy
          · exact m1 _ hy
          · rcases List.mem_cons.1 hy with hy | hy
            · exact absurd hy eH
            · exact m2 _ hy
      · rw [updL_ne e] at hy
        exact .inr ⟨fun eH => hout a b ha hb (eH ▸ hy), hy⟩
    rcases key x1 k1 hx1 hk1 h1 with ⟨a1, a2, a3⟩ | ⟨a1, a2⟩ <;> rcases key x2 k2 hx2 hk2 h2 with ⟨b1, b2, b3⟩ | ⟨b1, b2⟩
    · exact ⟨a2.trans b2.symm, a3.trans b3.symm⟩
    · exact absurd a1 b1
    · exact absurd b1 a1
    · exact q.dj x1 k1 x2 k2 y' hx1 hk1 hx2 hk2 a2 b2
  · intro H' z hf' hz' hno'
    have hne : H' ≠ H := fun e => hno' x k hx hk (by rw [updL_at, e]; simp)
    have hno2 : ∀ a b, a < c.nc -> b < 3 -> H' ∉ Ls a b := by
      intro a b ha hb hy
      by_cases e : a = x /\ b = k
      · obtain ⟨rfl, rfl⟩ := e
        refine hno' a b ha hb ?_
        rw [updL_at]
        rw [hl] at hy
        rcases List.mem_append.1 hy with hy | hy
        · exact List.mem_append.2 (.inl hy)
        · exact List.mem_append.2 (.inr (List.mem_cons_of_mem _ hy))
      · exact hno' a b ha hb (by rw [updL_ne e]; exact hy)
    have h0' : H' ≠ 0 := by obtain ⟨i, x, p, hf'⟩ := hf'; exact good_ne hf'
    rw [layZ_ne hne (fun e => by
      rcases last_in (l := l1) with h | h
      · exact h0' (e.trans h)
      · exact hno2 x k hx hk (e ▸ m1 _ h)) (fun e => by
      rcases head_in (l := l2) with h | h
      · exact h0' (e.trans h)
      · exact hno2 x k hx hk (e ▸ m2 _ h))] at hz'
    exact q.out H' z hf' hz' hno2
theorem QI.drop {x k H : Nat} (hx : x < c.nc) (hk : k < 3) (l1 l2 : List Nat) (hl : Ls x k = l1 ++ H :: l2) :
    Z H = some ⟨k + 1, l1.getLast?.getD 0, l2.head?.getD 0⟩ /\ QI c s (outZ Z H (l1.getLast?.getD 0) (l2.head?.getD 0)) (dF F x k (l1.getLast?.getD 0) (l2.head?.getD 0)) (updL Ls x k (l1 ++ l2)) := by
  have hnd := q.nd x k hx hk
  have hch := q.ch x k hx hk
  have hhd := q.hd x k hx hk
  have htl := q.tl x k hx hk
  have hz0 : ∀ y ∈ l1 ++ H :: l2, y ≠ 0 := fun y hy => q.ne0 hx hk (hl ▸ hy)
  have m1 : ∀ y ∈ l1, y ∈ Ls x k := fun y hy => by rw [hl]; exact List.mem_append.2 (.inl hy)
  have m2 : ∀ y ∈ l2, y ∈ Ls x k := fun y hy => by rw [hl]; exact List.mem_append.2 (.inr (List.mem_cons_of_mem _ hy))
  have mH : H ∈ Ls x k := by rw [hl]; simp
  have far : ∀ x' k' y, x' < c.nc -> k' < 3 -> ¬ (x' = x /\ k' = k) -> y ∈ Ls x' k' -> outZ Z H (l1.getLast?.getD 0) (l2.head?.getD 0) y = Z y := by
    intro x' k' y hx' hk' hne hy
    refine outZ_ne (fun e => hne (q.dj x' k' x k y hx' hk' hx hk hy (e ▸ mH))) (fun e => ?_) (fun e => ?_)
    · rcases last_in (l := l1) with h | h
      · exact q.ne0 hx' hk' hy (e.trans h)
      · exact hne (q.dj x' k' x k y hx' hk' hx hk hy (e ▸ m1 _ h))
    · rcases head_in (l := l2) with h | h
      · exact q.ne0 hx' hk' hy (e.trans h)
      · exact hne (q.dj x' k' x k y hx' hk' hx hk hy (e ▸ m2 _ h))
  have hn : F.n x k = (Ls x k).length := q.n x k hx hk
  rw [hl] at hnd hch hhd htl hn
  obtain ⟨hZ, hC⟩ := chain_out hch hnd hz0
  obtain ⟨d1, d2, d3⟩ := List.nodup_append.1 hnd
  obtain ⟨d4, d5⟩ := List.nodup_cons.1 d2
  refine ⟨hZ, ?_⟩
  constructor
  · intro x' k' hx' hk'
    by_cases e : x' = x /\ k' = k
    · obtain ⟨rfl, rfl⟩ := e
      rw [updL_at]
      exact hC
    · rw [updL_ne e]
      exact (q.ch x' k' hx' hk').congr fun y hy => far x' k' y hx' hk' e hy
  · intro x' k' hx' hk'
    by_cases e : x' = x /\ k' = k
    · obtain ⟨rfl, rfl⟩ := e
      rw [updL_at]
      show (jF F x' k' _ _).hd x' k' = _
      rw [jF_hd]
      cases l1 with
      | nil => rfl
      | cons a t =>
        have hne : ((a :: t).getLast?.getD 0) ≠ 0 := fun e => by
          have : (a :: t).getLast?.getD 0 ∈ a :: t := by
            rw [List.getLast?_eq_some_getLast (by simp)]
            exact List.getLast_mem _
          rw [e] at this
          exact hz0 0 (List.mem_append.2 (.inl this)) rfl
        rw [if_neg hne]
        exact hhd
    · rw [updL_ne e, <- q.hd x' k' hx' hk']
      exact jF_hd_ne e
  · intro x' k' hx' hk'
    by_cases e : x' = x /\ k' = k
    · obtain ⟨rfl, rfl⟩ := e
      rw [updL_at]
      show (jF F x' k' _ _).tl x' k' = _
      rw [jF_tl]
      cases l2 with
      | nil =>
        rw [if_pos (show (([] : List Nat).head?.getD 0) = 0 from rfl), List.append_nil]
      | cons a t =>
        have hne : ((a :: t).head?.getD 0) ≠ 0 := hz0 a (by simp)
        rw [if_neg hne]
        have e2 : (l1 ++ H :: a :: t).getLast?.getD 0 = (l1 ++ a :: t).getLast?.getD 0 := by
          rw [List.getLast?_append, List.getLast?_append, List.getLast?_cons_cons]
        rw [<- e2, <- htl]
    · rw [updL_ne e, <- q.tl x' k' hx' hk']
      exact jF_tl_ne e
  · intro x' k' hx' hk'
    by_cases e : x' = x /\ k' = k
    · obtain ⟨rfl, rfl⟩ := e
      rw [updL_at]
      refine (updF_at _ _ _ _).trans ?_
      rw [hn]
      simp only [List.length_append, List.length_cons]
      omega
    · rw [updL_ne e, <- q.n x' k' hx' hk']
      refine (updF_ne e).trans ?_
      rw [jF_n]
  · intro x' k' y' hx' hk' hy
    by_cases e : x' = x /\ k' = k
    · obtain ⟨rfl, rfl⟩ := e
      rw [updL_at] at hy
      rcases List.mem_append.1 hy with hy | hy
      · exact q.it x' k' y' hx hk (m1 _ hy)
      · exact q.it x' k' y' hx hk (m2 _ hy)
    · rw [updL_ne e] at hy
      exact q.it x' k' y' hx' hk' hy
  · intro x' k' hx' hk'
    by_cases e : x' = x /\ k' = k
    · obtain ⟨rfl, rfl⟩ := e
      rw [updL_at]
      exact List.nodup_append.2 ⟨d1, d5, fun a ha b hb => d3 a ha b (List.mem_cons_of_mem _ hb)⟩
    · rw [updL_ne e]; exact q.nd x' k' hx' hk'
  · intro x1 k1 x2 k2 y' hx1 hk1 hx2 hk2 h1 h2
    have key : ∀ a b, a < c.nc -> b < 3 -> y' ∈ updL Ls x k (l1 ++ l2) a b -> y' ∈ Ls a b := by
      intro a b ha hb hy
      by_cases e : a = x /\ b = k
      · obtain ⟨rfl, rfl⟩ := e
        rw [updL_at] at hy
        rcases List.mem_append.1 hy with hy | hy
        · exact m1 _ hy
        · exact m2 _ hy
      · rw [updL_ne e] at hy; exact hy
    exact q.dj x1 k1 x2 k2 y' hx1 hk1 hx2 hk2 (key _ _ hx1 hk1 h1) (key _ _ hx2 hk2 h2)
  · intro H' z hf' hz' hno'
    by_cases hne : H' = H
    · subst hne
      unfold outZ at hz'
      rw [upd_at] at hz'
      injection hz' with hz'
      exact hz'.symm
    have hno2 : ∀ a b, a < c.nc -> b < 3 -> H' ∉ Ls a b := by
      intro a b ha hb hy
      by_cases e : a = x /\ b = k
      · obtain ⟨rfl, rfl⟩ := e
        refine hno' a b ha hb ?_
        rw [updL_at]
        rw [hl] at hy
        rcases List.mem_append.1 hy with hy | hy
        · exact List.mem_append.2 (.inl hy)
        · rcases List.mem_cons.1 hy with hy | hy
          · exact absurd hy hne
          · exact List.mem_append.2 (.inr hy)
      · exact hno' a b ha hb (by rw [updL_ne e]; exact hy)
    have h0' : H' ≠ 0 := by obtain ⟨i, x, p, hf'⟩ := hf'; exact good_ne hf'
    rw [outZ_ne hne (fun e => by
      rcases last_in (l := l1) with h | h
      · exact h0' (e.trans h)
      · exact hno2 x k hx hk (e ▸ m1 _ h)) (fun e => by
      rcases head_in (l := l2) with h | h
      · exact h0' (e.trans h)
      · exact hno2 x k hx hk (e ▸ m2 _ h))] at hz'
    exact q.out H' z hf' hz' hno2
end
def QW (w : World) (L : Lay) (c : Conf) (s : St) (bs : List UInt8) (Z : Nat -> Option Zd) (gq gl : Nat) (Ls : Nat -> Nat -> List Nat) : Prop := ∃ F, QS w L c s bs Z gq gl F /\ QI c s Z F Ls
def stK (x : Nat) (Ls : Nat -> Nat -> List Nat) (H : Nat) : Nat := if H ∈ Ls x 0 then 1 else if H ∈ Ls x 1 then 2 else if H ∈ Ls x 2 then 3 else 0
def clsN (c : Conf) (s : St) (H : Nat) : Nat := match findN c.cf s H with
 | some (i, _, _) => s.cls i
 | none => 0
def isN (c : Conf) (s : St) (Z : Nat -> Option Zd) (H : Nat) : Bool := (findN c.cf s H).isSome && (Z H).isSome
def putN (x : Nat) (Ls : Nat -> Nat -> List Nat) (H k : Nat) (last : Bool) : Nat -> Nat -> List Nat := updL Ls x k (if last then Ls x k ++ [H] else H :: Ls x k)
def pushN (c : Conf) (s : St) (Z : Nat -> Option Zd) (Ls : Nat -> Nat -> List Nat) (H : Nat) (kind : Int) (last : Bool) : Nat × (Nat -> Nat -> List Nat) :=
 if ¬ (1 <= kind /\ kind <= 3) then (1, Ls) else if isN c s Z H = false then (20, Ls) else if stK (clsN c s H) Ls H ≠ 0 then (8, Ls) else (0, putN (clsN c s H) Ls H (kind.toNat - 1) last)
def outN (x : Nat) (Ls : Nat -> Nat -> List Nat) (H : Nat) : Nat -> Nat -> List Nat := updL Ls x (stK x Ls H - 1) ((Ls x (stK x Ls H - 1)).erase H)
def dropN (c : Conf) (s : St) (Ls : Nat -> Nat -> List Nat) (H : Nat) : Nat × (Nat -> Nat -> List Nat) := if stK (clsN c s H) Ls H = 0 then (20, Ls) else (0, outN (clsN c s H) Ls H)
def Did (w w' : World) (L : Lay) (c : Conf) (s : St) (bs : List UInt8) (Z : Nat -> Option Zd) (gq gl : Nat) (r : Nat × (Nat -> Nat -> List Nat)) : Prop :=
 Only (Two L gl) w w' /\ ∃ bs' Z', Ed (Itp c s Z) bs bs' /\ (∀ H, (Z' H).isSome = (Z H).isSome) /\ (r.1 ≠ 0 -> bs' = bs) /\ QW w' L c s bs' Z' gq gl r.2
theorem below_two {w w' : World} {L : Lay} {gl : Nat} (h : Below w.heap.size w w') : Only (Two L gl) w w' := ⟨h.os, h.tape, h.output, h.size, fun i hi _ => h.block i hi⟩
theorem stK_zero {x : Nat} {Ls : Nat -> Nat -> List Nat} {H : Nat} (h : stK x Ls H = 0) : ∀ k, k < 3 -> H ∉ Ls x k := by
 intro k hk
 unfold stK at h
 split at h
 ·omega
 split at h
 ·omega
 split at h
 ·omega
 obtain rfl | rfl | rfl : k = 0 \/ k = 1 \/ k = 2 := by omega
 all_goals assumption
theorem stK_pos {x : Nat} {Ls : Nat -> Nat -> List Nat} {H : Nat} (h : stK x Ls H ≠ 0) : ∃ k, k < 3 /\ stK x Ls H = k + 1 /\ H ∈ Ls x k := by
 unfold stK at h ⊢
 split
 ·exact ⟨0, by omega, rfl, by assumption⟩
 split
 ·exact ⟨1, by omega, rfl, by assumption⟩
 split
 ·exact ⟨2, by omega, rfl, by assumption⟩
 ·rename_i h1 h2 h3
  rw [if_neg h1, if_neg h2, if_neg h3] at h
  exact absurd rfl h
section
variable {c : Conf} {s : St} {Z : Nat -> Option Zd} {F : QN} {Ls : Nat -> Nat -> List Nat} (q : QI c s Z F Ls)
include q
theorem QI.of_stK (ok : c.cf.Ok) (g : Cls.Good c.cf s) {H : Nat} (h : stK (clsN c s H) Ls H ≠ 0) : ∃ k i y p, k < 3 /\ stK (clsN c s H) Ls H = k + 1 /\ findN c.cf s H = some (i, y, p) /\ clsN c s H = s.cls i /\ s.cls i < c.nc /\ H ∈ Ls (s.cls i) k := by
 obtain ⟨k, hk, e, hm⟩ := stK_pos h
 cases hf : findN c.cf s H with
 | none =>
  have e0 : clsN c s H = 0 := by unfold clsN; rw [hf]
  rw [e0] at hm
  by_cases h0 : 0 < c.nc
  ·obtain ⟨i, y, p, hf', -⟩ := q.it 0 k H h0 hk hm
   rw [hf] at hf'; cases hf'
  ·exact absurd ok.nc h0
 | some v =>
  obtain ⟨i, y, p⟩ := v
  have e0 : clsN c s H = s.cls i := by unfold clsN; rw [hf]
  exact ⟨k, i, y, p, hk, e, rfl, e0, (Tkn.of ok g hf).1.kN, e0 ▸ hm⟩
theorem QI.not_stK {H : Nat} (h : stK (clsN c s H) Ls H = 0) : ∀ x k, x < c.nc -> k < 3 -> H ∉ Ls x k := by
 intro x k hx hk hm
 obtain ⟨i, y, p, hf, hc⟩ := q.it x k H hx hk hm
 have e0 : clsN c s H = x := by unfold clsN; rw [hf]; exact hc
 rw [e0] at h
 exact stK_zero h k hk hm
theorem QI.split {x k H : Nat} (hx : x < c.nc) (hk : k < 3) (hm : H ∈ Ls x k) : ∃ l1 l2, Ls x k = l1 ++ H :: l2 /\ (Ls x k).erase H = l1 ++ l2 /\ Z H = some ⟨k + 1, l1.getLast?.getD 0, l2.head?.getD 0⟩ := by
 obtain ⟨l1, l2, hl⟩ := List.append_of_mem hm
 have hnd := q.nd x k hx hk
 refine ⟨l1, l2, hl, ?_, (q.drop hx hk l1 l2 hl).1⟩
 rw [hl] at hnd ⊢
 have n1 : H ∉ l1 := fun e => (List.nodup_append.1 hnd).2.2 H e H (List.mem_cons_self ..) rfl
 rw [List.erase_append_right _ n1, List.erase_cons_head]
theorem QI.free {H : Nat} {i y p : Nat} (hf : findN c.cf s H = some (i, y, p)) (hn : ∀ x k, x < c.nc -> k < 3 -> H ∉ Ls x k) : zst (Z H) = 0 \/ 4 <= zst (Z H) := by
 cases hz : Z H with
 | none => exact .inl rfl
 | some z =>
  rw [q.out H z ⟨i, y, p, hf⟩ hz hn]
  exact .inr (Nat.le_refl 4)
end
section
variable {w : World} {L : Lay} {c : Conf} {s : St} {bs : List UInt8} {Z : Nat -> Option Zd} {gq gl : Nat} {Ls : Nat -> Nat -> List Nat} (h : QW w L c s bs Z gq gl Ls)
include h
theorem QW.same {w' : World} {R : Nat} (b : Below w.heap.size w w') : Did w w' L c s bs Z gq gl (R, Ls) := by
 obtain ⟨F, S, q⟩ := h
 exact ⟨below_two b, bs, Z, Ed.refl _ _, fun _ => rfl, fun _ => rfl, F, S.below b, q⟩
theorem standsC (H : Nat) (hH : H < 18446744073709551616) : Calls Tryz.prog 106 #[.pointer (some ⟨gq, 0, none⟩), .int .u64 (H : Int)] w fun e w' => e = .returned (.pointer (if stK (clsN c s H) Ls H = 0 then none else some ⟨gl, clsN c s H * 9 + (stK (clsN c s H) Ls H - 1) * 3, none⟩)) /\ Below w.heap.size w w' := by
 obtain ⟨F, S, q⟩ := h
 by_cases h0 : stK (clsN c s H) Ls H = 0
 ·rw [if_pos h0]
  cases hf : findN c.cf s H with
  | none => exact standsNo S H hH hf
  | some v =>
   obtain ⟨i, y, p⟩ := v
   exact standsOut S H hf (q.free hf (q.not_stK h0))
 ·rw [if_neg h0]
  obtain ⟨k, i, y, p, hk, e, hf, ec, hx, hm⟩ := q.of_stK S.okc S.zs.good h0
  obtain ⟨l1, l2, hl, -, hz⟩ := q.split hx hk hm
  rw [e, ec, Nat.add_sub_cancel]
  exact standsIn S H hf hk (by rw [hz]; rfl)
theorem qFreeC (H : Nat) (hH : H < 18446744073709551616) (kind : Int) (last : Bool) (R : Nat) (hR : (pushN c s Z Ls H kind last).1 = R) (r0 : R ≠ 0) : Calls Tryz.prog 102 #[.pointer (some ⟨gq, 0, none⟩), .int .u64 (H : Int), .int .i64 kind] w fun e w' => e = .returned (.tuple #[.pointer none, .int .i64 (R : Int)]) /\ Below w.heap.size w w' := by
 obtain ⟨F, S, q⟩ := h
 unfold pushN at hR
 by_cases hk : 1 <= kind /\ kind <= 3
 ·rw [if_neg (Classical.not_not.2 hk)] at hR
  obtain ⟨k, hk3, rfl⟩ : ∃ k : Nat, k < 3 /\ kind = (k : Int) + 1 := ⟨kind.toNat - 1, by omega, by omega⟩
  by_cases hi : isN c s Z H = false
  ·rw [if_pos hi] at hR
   subst hR
   refine freeNo S H hH k hk3 ?_
   unfold isN at hi
   rcases Bool.and_eq_false_iff.1 hi with h | h
   ·exact .inl (Option.isSome_eq_false_iff.1 h |> Option.isNone_iff_eq_none.1)
   ·cases hf : findN c.cf s H with
    | none => exact .inl rfl
    | some v => exact .inr ⟨⟨v.1, v.2.1, v.2.2, rfl⟩, Option.isSome_eq_false_iff.1 h |> Option.isNone_iff_eq_none.1⟩
  ·rw [if_neg hi] at hR
   by_cases hs : stK (clsN c s H) Ls H ≠ 0
   ·rw [if_pos hs] at hR
    subst hR
    obtain ⟨j, i, y, p, hj, e, hf, ec, hx, hm⟩ := q.of_stK S.okc S.zs.good hs
    obtain ⟨l1, l2, hl, -, hz⟩ := q.split hx hj hm
    exact freeTwice S H k hk3 ⟨⟨i, y, p, hf⟩, _, hz⟩ hf hj (by rw [hz]; rfl)
   ·rw [if_neg hs] at hR
    exact absurd hR.symm r0
 ·rw [if_pos hk] at hR
  subst hR
  exact (freeArg S H kind hk).mono fun e w' ⟨h1, h2⟩ => ⟨h1, h2 ▸ Below.refl _ _⟩
theorem dropC (H : Nat) (hH : H < 18446744073709551616) :
  Calls Tryz.prog 72 #[.pointer (some ⟨gq, 0, none⟩), .int .u64 (H : Int)] w fun e w' => e = .returned (.int .i64 ((dropN c s Ls H).1 : Int)) /\ Did w w' L c s bs Z gq gl (dropN c s Ls H) := by
 have hw := h
 have SC := standsC h H hH
 obtain ⟨F, S, q⟩ := h
 unfold dropN
 by_cases h0 : stK (clsN c s H) Ls H = 0
 ·rw [if_pos h0] at SC ⊢
  refine (dropNo S H SC).mono ?_
  rintro e w' ⟨rfl, b⟩
  exact ⟨rfl, hw.same b⟩
 ·rw [if_neg h0]
  obtain ⟨k, i, y, p, hk, e, hf, ec, hx, hm⟩ := q.of_stK S.okc S.zs.good h0
  obtain ⟨l1, l2, hl, he, hz⟩ := q.split hx hk hm
  have hD := (q.drop hx hk l1 l2 hl).2
  have hb := q.nB S.okc S.zs.good hx hk
  have hn := q.n _ _ hx hk
  have m1 : ∀ y ∈ l1, y ∈ Ls (s.cls i) k := fun y hy => by rw [hl]; exact List.mem_append.2 (.inl hy)
  have m2 : ∀ y ∈ l2, y ∈ Ls (s.cls i) k := fun y hy => by rw [hl]; exact List.mem_append.2 (.inr (List.mem_cons_of_mem _ hy))
  refine (dropYes S H k hk hf _ hz rfl (last_in.imp id fun h => q.is hx hk (m1 _ h)) (head_in.imp id fun h => q.is hx hk (m2 _ h)) (by rw [hn, hl, List.length_append, List.length_cons]; omega) (by omega)).mono ?_
  rintro e2 w' ⟨rfl, w1, b1, o1, bs', E1, S1⟩
  refine ⟨rfl, two_trans (below_two b1) o1, bs', _, E1, fun H' => (upd_some (jZ_it ⟨⟨i, y, p, hf⟩, _, hz⟩).2 H').trans jZ_some, fun h => absurd rfl h, _, S1, ?_⟩
  show QI c s _ _ (outN (clsN c s H) Ls H)
  unfold outN
  rw [e, ec, Nat.add_sub_cancel, he]
  exact hD
end
theorem isN_it {c : Conf} {s : St} {Z : Nat -> Option Zd} {H : Nat} (h : It c s Z H) : isN c s Z H = true := by
 obtain ⟨⟨i, x, p, hf⟩, z, hz⟩ := h
 unfold isN
 rw [hf, hz]
 rfl
theorem pushN_congr {c : Conf} {s : St} {Z Z' : Nat -> Option Zd} (h : ∀ H, (Z' H).isSome = (Z H).isSome) (Ls : Nat -> Nat -> List Nat) (H : Nat) (kind : Int) (last : Bool) : pushN c s Z' Ls H kind last = pushN c s Z Ls H kind last := by
 unfold pushN isN
 rw [h H]
def shiftN (c : Conf) (s : St) (Ls : Nat -> Nat -> List Nat) (H : Nat) (kind : Int) : Nat × (Nat -> Nat -> List Nat) :=
 if ¬ (1 <= kind /\ kind <= 3) then (1, Ls) else if stK (clsN c s H) Ls H = 0 then (20, Ls) else (0, putN (clsN c s H) (outN (clsN c s H) Ls H) H (kind.toNat - 1) false)
def aheadN (l : List Nat) (H : Nat) : Nat := (l.take (l.idxOf H)).getLast?.getD 0
def behindN (l : List Nat) (H : Nat) : Nat := (l.drop (l.idxOf H + 1)).head?.getD 0
def prevN (c : Conf) (s : St) (Ls : Nat -> Nat -> List Nat) (H : Nat) : Nat := if stK (clsN c s H) Ls H = 0 then 0 else aheadN (Ls (clsN c s H) (stK (clsN c s H) Ls H - 1)) H
def nextN (c : Conf) (s : St) (Ls : Nat -> Nat -> List Nat) (H : Nat) : Nat := if stK (clsN c s H) Ls H = 0 then 0 else behindN (Ls (clsN c s H) (stK (clsN c s H) Ls H - 1)) H
theorem idx_split {l1 l2 : List Nat} {H : Nat} (h : H ∉ l1) : (l1 ++ H :: l2).idxOf H = l1.length := by
 rw [List.idxOf_append, if_neg h, List.idxOf_cons_self]
 simp
theorem ahead_split {l1 l2 : List Nat} {H : Nat} (h : H ∉ l1) : aheadN (l1 ++ H :: l2) H = l1.getLast?.getD 0 := by
 unfold aheadN
 rw [idx_split h, List.take_left]
theorem behind_split {l1 l2 : List Nat} {H : Nat} (h : H ∉ l1) : behindN (l1 ++ H :: l2) H = l2.head?.getD 0 := by
 unfold behindN
 rw [idx_split h, List.append_cons, List.drop_left' (by simp)]
section
variable {c : Conf} {s : St} {Z : Nat -> Option Zd} {F : QN} {Ls : Nat -> Nat -> List Nat} (q : QI c s Z F Ls)
include q
theorem QI.out0 (ok : c.cf.Ok) (g : Cls.Good c.cf s) {H : Nat} (h : stK (clsN c s H) Ls H ≠ 0) : stK (clsN c s H) (outN (clsN c s H) Ls H) H = 0 := by
 obtain ⟨k, i, y, p, hk, e, hf, ec, hx, hm⟩ := q.of_stK ok g h
 obtain ⟨l1, l2, hl, he, hz⟩ := q.split hx hk hm
 have hnd := q.nd _ _ hx hk
 rw [hl] at hnd
 obtain ⟨d1, d2, d3⟩ := List.nodup_append.1 hnd
 have n1 : H ∉ l1 := fun e => d3 H e H (List.mem_cons_self ..) rfl
 have n2 : H ∉ l2 := (List.nodup_cons.1 d2).1
 have key : ∀ j, j < 3 -> H ∉ outN (clsN c s H) Ls H (clsN c s H) j := by
  intro j hj hm'
  unfold outN at hm'
  rw [e, ec, Nat.add_sub_cancel, he] at hm'
  by_cases hjk : j = k
  ·subst hjk
   rw [updL_at] at hm'
   exact (List.mem_append.1 hm').elim n1 n2
  ·rw [updL_ne (fun e => hjk e.2)] at hm'
   exact hjk (q.dj _ _ _ _ H hx hj hx hk hm' hm).2
 unfold stK
 rw [if_neg (key 0 (by omega)), if_neg (key 1 (by omega)), if_neg (key 2 (by omega))]
theorem QI.links {H : Nat} (ok : c.cf.Ok) (g : Cls.Good c.cf s) (h : stK (clsN c s H) Ls H ≠ 0) : ∃ z, Z H = some z /\ It c s Z H /\ z.st = stK (clsN c s H) Ls H /\ z.a = prevN c s Ls H /\ z.b = nextN c s Ls H := by
 obtain ⟨k, i, y, p, hk, e, hf, ec, hx, hm⟩ := q.of_stK ok g h
 obtain ⟨l1, l2, hl, he, hz⟩ := q.split hx hk hm
 have hnd := q.nd _ _ hx hk
 rw [hl] at hnd
 have n1 : H ∉ l1 := fun e => (List.nodup_append.1 hnd).2.2 H e H (List.mem_cons_self ..) rfl
 refine ⟨_, hz, ⟨⟨i, y, p, hf⟩, _, hz⟩, e.symm, ?_, ?_⟩
 ·unfold prevN
  rw [if_neg h, e, ec, Nat.add_sub_cancel, hl, ahead_split n1]
 ·unfold nextN
  rw [if_neg h, e, ec, Nat.add_sub_cancel, hl, behind_split n1]
end
theorem did_trans {w w1 w2 : World} {L : Lay} {c : Conf} {s : St} {bs bs1 bs2 : List UInt8} {Z Z1 Z2 : Nat -> Option Zd} {gl : Nat}
  (o1 : Only (Two L gl) w w1) (o2 : Only (Two L gl) w1 w2) (E1 : Ed (Itp c s Z) bs bs1) (d1 : ∀ H, (Z1 H).isSome = (Z H).isSome) (E2 : Ed (Itp c s Z1) bs1 bs2) (d2 : ∀ H, (Z2 H).isSome = (Z1 H).isSome) :
  Only (Two L gl) w w2 /\ Ed (Itp c s Z) bs bs2 /\ (∀ H, (Z2 H).isSome = (Z H).isSome) := by
 rw [itp_congr d1] at E2
 exact ⟨two_trans o1 o2, E1.trans E2, fun H => (d2 H).trans (d1 H)⟩
section
variable {w : World} {L : Lay} {c : Conf} {s : St} {bs : List UInt8} {Z : Nat -> Option Zd} {gq gl : Nat} {Ls : Nat -> Nat -> List Nat} (h : QW w L c s bs Z gq gl Ls)
include h
theorem nextC (H : Nat) (hH : H < 18446744073709551616) (j : Int) (T : Nat) (hj : j = 1 /\ T = prevN c s Ls H \/ j = 2 /\ T = nextN c s Ls H) :
  Calls Tryz.prog 89 #[.pointer (some ⟨gq, 0, none⟩), .int .u64 (H : Int), .int .i64 j] w fun e w' => e = .returned (.tuple #[.int .u64 (T : Int), .bool (decide (T ≠ 0))]) /\ Below w.heap.size w w' := by
 have SC := standsC h H hH
 by_cases h0 : stK (clsN c s H) Ls H = 0
 ·have hT : T = 0 := by
   rcases hj with ⟨-, rfl⟩ | ⟨-, rfl⟩
   ·unfold prevN; rw [if_pos h0]
   ·unfold nextN; rw [if_pos h0]
  subst hT
  rw [if_pos h0] at SC
  replace SC := Lib.hid SC
  clear h hj h0
  go_enter Tryz.func89, Tryz.ntmps89
  go_wp2_with fail
  refine SC.out.mono ?_
  rintro e w1 ⟨rfl, b1⟩
  replace b1 := Lib.hid b1
  go_wp2
  go_ret2
  exact ⟨rfl, b1.out⟩
 ·rw [if_neg h0] at SC
  obtain ⟨F, S, q⟩ := h
  obtain ⟨z, hz, hI, -, ea, eb⟩ := q.links S.okc S.zs.good h0
  have LC : ∀ w1, QS w1 L c s bs Z gq gl F -> Calls Tryz.prog 107 #[.pointer (some ⟨L.g, 0, none⟩), .int .u64 (H : Int), .int .i64 j] w1 fun e w' => e = .returned (.tuple #[.int .u64 (T : Int), .int .i64 0]) /\ Below w1.heap.size w1 w' := by
   intro w1 S1
   obtain ⟨A, B⟩ := zLinksC S1 H hI z hz
   rcases hj with ⟨rfl, rfl⟩ | ⟨rfl, rfl⟩
   ·rw [ea] at A; exact A
   ·rw [eb] at B; exact B
  replace LC := Lib.hid LC
  replace SC := Lib.hid SC
  replace S := Lib.hid S
  clear q hz hI ea eb hj h0
  by_cases t0 : T = 0
  ·subst t0
   go_enter Tryz.func89, Tryz.ntmps89
   go_wp2_with fail
   refine SC.out.mono ?_
   rintro e w1 ⟨rfl, b1⟩
   have S1 := S.out.below b1
   have q0 := S1.q.c0
   have LC := Lib.hid (LC.out w1 S1)
   replace b1 := Lib.hid b1
   clear SC S1 S
   go_wp2_with fail
   refine LC.out.mono ?_
   rintro e w2 ⟨rfl, b2⟩
   replace b2 := Lib.hid (b1.out.trans (b2.mono b1.out.size))
   go_wp2
   go_ret2
   exact ⟨rfl, b2.out⟩
  ·obtain ⟨d1, d2⟩ := ne0 t0
   rw [decide_eq_true t0]
   go_enter Tryz.func89, Tryz.ntmps89
   go_wp2_with fail
   refine SC.out.mono ?_
   rintro e w1 ⟨rfl, b1⟩
   have S1 := S.out.below b1
   have q0 := S1.q.c0
   have LC := Lib.hid (LC.out w1 S1)
   replace b1 := Lib.hid b1
   clear SC S1 S
   go_wp2_with fail
   refine LC.out.mono ?_
   rintro e w2 ⟨rfl, b2⟩
   replace b2 := Lib.hid (b1.out.trans (b2.mono b1.out.size))
   go_wp2
   go_ret2
   exact ⟨rfl, b2.out⟩
theorem aheadC (H : Nat) (hH : H < 18446744073709551616) : Calls Tryz.prog 47 #[.pointer (some ⟨gq, 0, none⟩), .int .u64 (H : Int)] w fun e w' => e = .returned (.tuple #[.int .u64 (prevN c s Ls H : Int), .bool (decide (prevN c s Ls H ≠ 0))]) /\ Below w.heap.size w w' := by
 have NC := nextC h H hH 1 _ (.inl ⟨rfl, rfl⟩)
 generalize prevN c s Ls H = T at *
 obtain ⟨B, hB⟩ : ∃ B, B = decide (T ≠ 0) := ⟨_, rfl⟩
 rw [<- hB] at NC ⊢
 clear hB
 replace NC := Lib.hid NC
 clear h
 go_enter Tryz.func47, Tryz.ntmps47
 go_wp2_with fail
 refine NC.out.mono ?_
 rintro e w1 ⟨rfl, b1⟩
 replace b1 := Lib.hid b1
 go_wp2
 go_ret2
 exact ⟨rfl, b1.out⟩
end
def lsN (c : Conf) (Ls : Nat -> Nat -> List Nat) (x kind : Int) : List Nat := if 0 <= x /\ x < (c.nc : Int) /\ 1 <= kind /\ kind <= 3 then Ls x.toNat (kind.toNat - 1) else []
section
variable {w : World} {L : Lay} {c : Conf} {s : St} {bs : List UInt8} {Z : Nat -> Option Zd} {gq gl : Nat} {Ls : Nat -> Nat -> List Nat} (h : QW w L c s bs Z gq gl Ls) (x kind : Int)
include h
theorem headC : Calls Tryz.prog 63 #[.pointer (some ⟨gq, 0, none⟩), .int .i64 x, .int .i64 kind] w fun e w' => e = .returned (.tuple #[.int .u64 ((lsN c Ls x kind).head?.getD 0 : Int), .bool (decide (0 < (lsN c Ls x kind).length))]) /\ w = w' := by
 obtain ⟨F, S, q⟩ := h
 unfold lsN
 by_cases hv : 0 <= x /\ x < (c.nc : Int) /\ 1 <= kind /\ kind <= 3
 ·rw [if_pos hv]
  obtain ⟨X, hX, rfl⟩ : ∃ X : Nat, X < c.nc /\ x = (X : Int) := ⟨x.toNat, by omega, by omega⟩
  obtain ⟨k, hk, rfl⟩ : ∃ k : Nat, k < 3 /\ kind = (k : Int) + 1 := ⟨kind.toNat - 1, by omega, by omega⟩
  have e1 : ((k : Int) + 1).toNat - 1 = k := by omega
  rw [Int.toNat_natCast, e1]
  by_cases h0 : F.n X k = 0
  ·have hl : Ls X k = [] := List.length_eq_zero_iff.1 ((q.n X k hX hk).symm.trans h0)
   rw [hl]
   exact headZero S.q X k hX hk S.okc.ncb h0
  ·have := headYes S.q X k hX hk S.okc.ncb h0
   rw [q.hd X k hX hk] at this
   rw [decide_eq_true (by rw [<- q.n X k hX hk]; omega)]
   exact this
 ·rw [if_neg hv]
  exact headNo S.q x kind hv
theorem tailC : Calls Tryz.prog 20 #[.pointer (some ⟨gq, 0, none⟩), .int .i64 x, .int .i64 kind] w fun e w' => e = .returned (.tuple #[.int .u64 ((lsN c Ls x kind).getLast?.getD 0 : Int), .bool (decide (0 < (lsN c Ls x kind).length))]) /\ w = w' := by
 obtain ⟨F, S, q⟩ := h
 unfold lsN
 by_cases hv : 0 <= x /\ x < (c.nc : Int) /\ 1 <= kind /\ kind <= 3
 ·rw [if_pos hv]
  obtain ⟨X, hX, rfl⟩ : ∃ X : Nat, X < c.nc /\ x = (X : Int) := ⟨x.toNat, by omega, by omega⟩
  obtain ⟨k, hk, rfl⟩ : ∃ k : Nat, k < 3 /\ kind = (k : Int) + 1 := ⟨kind.toNat - 1, by omega, by omega⟩
  have e1 : ((k : Int) + 1).toNat - 1 = k := by omega
  rw [Int.toNat_natCast, e1]
  by_cases h0 : F.n X k = 0
  ·have hl : Ls X k = [] := List.length_eq_zero_iff.1 ((q.n X k hX hk).symm.trans h0)
   rw [hl]
   exact tailZero S.q X k hX hk S.okc.ncb h0
  ·have := tailYes S.q X k hX hk S.okc.ncb h0
   rw [q.tl X k hX hk] at this
   rw [decide_eq_true (by rw [<- q.n X k hX hk]; omega)]
   exact this
 ·rw [if_neg hv]
  exact tailNo S.q x kind hv
theorem lenC : Calls Tryz.prog 43 #[.pointer (some ⟨gq, 0, none⟩), .int .i64 x, .int .i64 kind] w fun e w' => e = .returned (.int .i64 ((lsN c Ls x kind).length : Int)) /\ w = w' := by
 obtain ⟨F, S, q⟩ := h
 unfold lsN
 by_cases hv : 0 <= x /\ x < (c.nc : Int) /\ 1 <= kind /\ kind <= 3
 ·rw [if_pos hv]
  obtain ⟨X, hX, rfl⟩ : ∃ X : Nat, X < c.nc /\ x = (X : Int) := ⟨x.toNat, by omega, by omega⟩
  obtain ⟨k, hk, rfl⟩ : ∃ k : Nat, k < 3 /\ kind = (k : Int) + 1 := ⟨kind.toNat - 1, by omega, by omega⟩
  have e1 : ((k : Int) + 1).toNat - 1 = k := by omega
  rw [Int.toNat_natCast, e1, <- q.n X k hX hk]
  exact lenYes S.q X k hX hk S.okc.ncb
 ·rw [if_neg hv]
  exact lenNo S.q x kind hv
end
end Go.Proofs.YtngehaiigbbknaaGreat.Que
/-
  item.Read of no set.
-/
namespace Go.Proofs.YtngehaiigbbknaaGreat.Itm
open Go.RowKit Base Arena Cls
def zi : Array Value := #[.slice none 0 0, .slice none 0 0, .int .u64 0, .int .i64 0, .int .i64 0, .int .u64 0, .int .i64 0, .int .i64 0]
end Go.Proofs.YtngehaiigbbknaaGreat.Itm
/-
  A region that draws its order, of operations that read, draw or make memory: one obligation an operation, under what is known of the operations that it waits for; then a tail in one forced order. Nothing here names the program.
-/
namespace Go.Proofs.YtngehaiigbbknaaGreat.Rel
open Go
def valOf (o : Oper) (a : Act) : Value := match o.dst with | some d => a.tmps.getD d undef | none => undef
section
variable {P : Program} {ops : Array Oper} {Q : Exit -> Act -> World -> Prop} {n : Nat} {a0 : Act} {R : World -> Prop} {le : World -> World -> Prop} {Φ : Nat -> Value -> World -> Prop} {Ψ : Nat -> Nat -> Value -> Value -> Prop}
structure RInv (ops : Array Oper) (n : Nat) (a0 : Act) (R : World -> Prop) (Φ : Nat -> Value -> World -> Prop) (Ψ : Nat -> Nat -> Value -> Value -> Prop) (listed : Array Bool) (a : Act) (w : World) : Prop where
 head : HeadInv .any ops n listed
 world : R w
 size : a.tmps.size = a0.tmps.size
 defers : a.defers = a0.defers
 rest : ∀ k, (∀ i o, i < n -> ops[i]? = some o -> o.dst ≠ some k) -> a.tmps.getD k undef = a0.tmps.getD k undef
 known : ∀ i o, i < n -> ops[i]? = some o -> listed.getD i false = true -> Φ i (valOf o a) w
 pairs : ∀ i j oi oj, i < n -> j < n -> i ≠ j -> ops[i]? = some oi -> ops[j]? = some oj -> listed.getD i false = true -> listed.getD j false = true -> Ψ i j (valOf oi a) (valOf oj a) /\ Ψ j i (valOf oj a) (valOf oi a)
end
end Go.Proofs.YtngehaiigbbknaaGreat.Rel
/-
  item.Read of a chunk that has an item (printed by wip/gen_read.py).
-/
namespace Go.Proofs.YtngehaiigbbknaaGreat.Itm
open Go.RowKit Base Arena Cls Rel
section
variable {B : Nat} {w0 w w' : World} {L : Lay} {c : Conf} {s : St} {bs : List UInt8} {N H i x p k n : Nat}
end
def sep (x y i j : Nat) (v u : Value) : Prop := ∀ (b b' n n' c c' : Nat), i = x -> j = y -> v = .slice (some ⟨b, 0, none⟩) n c -> u = .slice (some ⟨b', 0, none⟩) n' c' -> b ≠ b'
structure RS (w0 w : World) (L : Lay) (c : Conf) (s : St) (bs : List UInt8) (N N1 p k n : Nat) : Prop where
 os : OS N w0 w L c s bs N1 p k n
 blk : Blk w N 151 zi
end Go.Proofs.YtngehaiigbbknaaGreat.Itm
