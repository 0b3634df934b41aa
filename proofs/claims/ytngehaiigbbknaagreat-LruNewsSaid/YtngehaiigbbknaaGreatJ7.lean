/-
  Contracts and lemmas, joined: QueueAll, QueueNext, ItemTell, RegRel, ItemRead, ItemSame, ItemBegun, ItemBegun2, ClassTake2, ItemWakes, ItemTwo, Ref2Plain, Ref2Rel, Ref2Turn, QueueTook, QueueLaid.
-/
import Derived.StillTail
import Derived.Deep.Quiet
import Derived.Deep.Draws
import Derived.Handy
import Derived.Deep.WholeRow
import Derived.Test.YtngehaiigbbknaaGreatJ3
import Derived.Test.YtngehaiigbbknaaGreatJ4
import Derived.Test.YtngehaiigbbknaaGreatJ5
import Derived.Test.YtngehaiigbbknaaGreatJ6
set_option linter.unusedSimpArgs false
set_option linter.unusedVariables false
/-
  The queue's calls, by its rows of handles.
-/
namespace Go.Proofs.YtngehaiigbbknaaGreat.Que
open Go.RowKit Base Arena Cls Itm
set_option linter.unusedVariables false
set_option linter.unusedSectionVars false

/-- The queue's lists are Ls. -/
def QW (w : World) (L : Lay) (c : Conf) (s : St) (bs : List UInt8) (Z : Nat → Option Zd) (gq gl : Nat) (Ls : Nat → Nat → List Nat) : Prop := ∃ F, QS w L c s bs Z gq gl F ∧ QI c s Z F Ls
/-- The number of the list in which H stands; 0: in none. -/
def stK (x : Nat) (Ls : Nat → Nat → List Nat) (H : Nat) : Nat := if H ∈ Ls x 0 then 1 else if H ∈ Ls x 1 then 2 else if H ∈ Ls x 2 then 3 else 0
def clsN (c : Conf) (s : St) (H : Nat) : Nat := match findN c.cf s H with
  | some (i, _, _) => s.cls i
  | none => 0
/-- Is it an item's? -/
def isN (c : Conf) (s : St) (Z : Nat → Option Zd) (H : Nat) : Bool := (findN c.cf s H).isSome && (Z H).isSome
def putN (x : Nat) (Ls : Nat → Nat → List Nat) (H k : Nat) (last : Bool) : Nat → Nat → List Nat := updL Ls x k (if last then Ls x k ++ [H] else H :: Ls x k)
def pushN (c : Conf) (s : St) (Z : Nat → Option Zd) (Ls : Nat → Nat → List Nat) (H : Nat) (kind : Int) (last : Bool) : Nat × (Nat → Nat → List Nat) :=
  if ¬ (1 ≤ kind ∧ kind ≤ 3) then (1, Ls) else if isN c s Z H = false then (20, Ls) else if stK (clsN c s H) Ls H ≠ 0 then (8, Ls) else (0, putN (clsN c s H) Ls H (kind.toNat - 1) last)
def outN (x : Nat) (Ls : Nat → Nat → List Nat) (H : Nat) : Nat → Nat → List Nat := updL Ls x (stK x Ls H - 1) ((Ls x (stK x Ls H - 1)).erase H)
def dropN (c : Conf) (s : St) (Ls : Nat → Nat → List Nat) (H : Nat) : Nat × (Nat → Nat → List Nat) := if stK (clsN c s H) Ls H = 0 then (20, Ls) else (0, outN (clsN c s H) Ls H)
/-- Behind a call: what it changed. -/
def Did (w w' : World) (L : Lay) (c : Conf) (s : St) (bs : List UInt8) (Z : Nat → Option Zd) (gq gl : Nat) (r : Nat × (Nat → Nat → List Nat)) : Prop :=
  Only (Two L gl) w w' ∧ ∃ bs' Z', Ed (Itp c s Z) bs bs' ∧ (∀ H, (Z' H).isSome = (Z H).isSome) ∧ (r.1 ≠ 0 → bs' = bs) ∧ QW w' L c s bs' Z' gq gl r.2
theorem below_two {w w' : World} {L : Lay} {gl : Nat} (h : Below w.heap.size w w') : Only (Two L gl) w w' := ⟨h.os, h.tape, h.output, h.size, fun i hi _ => h.block i hi⟩
theorem stK_zero {x : Nat} {Ls : Nat → Nat → List Nat} {H : Nat} (h : stK x Ls H = 0) : ∀ k, k < 3 → H ∉ Ls x k := by
  intro k hk
  unfold stK at h
  split at h
  · omega
  split at h
  · omega
  split at h
  · omega
  obtain rfl | rfl | rfl : k = 0 ∨ k = 1 ∨ k = 2 := by omega
  all_goals assumption
theorem stK_pos {x : Nat} {Ls : Nat → Nat → List Nat} {H : Nat} (h : stK x Ls H ≠ 0) : ∃ k, k < 3 ∧ stK x Ls H = k + 1 ∧ H ∈ Ls x k := by
  unfold stK at h ⊢
  split
  · exact ⟨0, by omega, rfl, by assumption⟩
  split
  · exact ⟨1, by omega, rfl, by assumption⟩
  split
  · exact ⟨2, by omega, rfl, by assumption⟩
  · rename_i h1 h2 h3
    rw [if_neg h1, if_neg h2, if_neg h3] at h
    exact absurd rfl h
section
variable {c : Conf} {s : St} {Z : Nat → Option Zd} {F : QN} {Ls : Nat → Nat → List Nat} (q : QI c s Z F Ls)
include q
theorem QI.of_stK (ok : c.cf.Ok) (g : Cls.Good c.cf s) {H : Nat} (h : stK (clsN c s H) Ls H ≠ 0) : ∃ k i y p, k < 3 ∧ stK (clsN c s H) Ls H = k + 1 ∧ findN c.cf s H = some (i, y, p) ∧ clsN c s H = s.cls i ∧ s.cls i < c.nc ∧ H ∈ Ls (s.cls i) k := by
  obtain ⟨k, hk, e, hm⟩ := stK_pos h
  cases hf : findN c.cf s H with
  | none =>
    have e0 : clsN c s H = 0 := by unfold clsN; rw [hf]
    rw [e0] at hm
    by_cases h0 : 0 < c.nc
    · obtain ⟨i, y, p, hf', -⟩ := q.it 0 k H h0 hk hm
      rw [hf] at hf'; cases hf'
    · exact absurd ok.nc h0
  | some v =>
    obtain ⟨i, y, p⟩ := v
    have e0 : clsN c s H = s.cls i := by unfold clsN; rw [hf]
    exact ⟨k, i, y, p, hk, e, rfl, e0, (Tkn.of ok g hf).1.kN, e0 ▸ hm⟩
theorem QI.not_stK {H : Nat} (h : stK (clsN c s H) Ls H = 0) : ∀ x k, x < c.nc → k < 3 → H ∉ Ls x k := by
  intro x k hx hk hm
  obtain ⟨i, y, p, hf, hc⟩ := q.it x k H hx hk hm
  have e0 : clsN c s H = x := by unfold clsN; rw [hf]; exact hc
  rw [e0] at h
  exact stK_zero h k hk hm
theorem QI.split {x k H : Nat} (hx : x < c.nc) (hk : k < 3) (hm : H ∈ Ls x k) : ∃ l1 l2, Ls x k = l1 ++ H :: l2 ∧ (Ls x k).erase H = l1 ++ l2 ∧ Z H = some ⟨k + 1, l1.getLast?.getD 0, l2.head?.getD 0⟩ := by
  obtain ⟨l1, l2, hl⟩ := List.append_of_mem hm
  have hnd := q.nd x k hx hk
  refine ⟨l1, l2, hl, ?_, (q.drop hx hk l1 l2 hl).1⟩
  rw [hl] at hnd ⊢
  have n1 : H ∉ l1 := fun e => (List.nodup_append.1 hnd).2.2 H e H (List.mem_cons_self ..) rfl
  rw [List.erase_append_right _ n1, List.erase_cons_head]
theorem QI.free {H : Nat} {i y p : Nat} (hf : findN c.cf s H = some (i, y, p)) (hn : ∀ x k, x < c.nc → k < 3 → H ∉ Ls x k) : zst (Z H) = 0 ∨ 4 ≤ zst (Z H) := by
  cases hz : Z H with
  | none => exact .inl rfl
  | some z =>
    rw [q.out H z ⟨i, y, p, hf⟩ hz hn]
    exact .inr (Nat.le_refl 4)
end
section
variable {w : World} {L : Lay} {c : Conf} {s : St} {bs : List UInt8} {Z : Nat → Option Zd} {gq gl : Nat} {Ls : Nat → Nat → List Nat} (h : QW w L c s bs Z gq gl Ls)
include h
theorem QW.same {w' : World} {R : Nat} (b : Below w.heap.size w w') : Did w w' L c s bs Z gq gl (R, Ls) := by
  obtain ⟨F, S, q⟩ := h
  exact ⟨below_two b, bs, Z, Ed.refl _ _, fun _ => rfl, fun _ => rfl, F, S.below b, q⟩
theorem standsC (H : Nat) (hH : H < 18446744073709551616) : Calls Tryz.prog 106 #[.pointer (some ⟨gq, 0, none⟩), .int .u64 (H : Int)] w fun e w' => e = .returned (.pointer (if stK (clsN c s H) Ls H = 0 then none else some ⟨gl, clsN c s H * 9 + (stK (clsN c s H) Ls H - 1) * 3, none⟩)) ∧ Below w.heap.size w w' := by
  obtain ⟨F, S, q⟩ := h
  by_cases h0 : stK (clsN c s H) Ls H = 0
  · rw [if_pos h0]
    cases hf : findN c.cf s H with
    | none => exact standsNo S H hH hf
    | some v =>
      obtain ⟨i, y, p⟩ := v
      exact standsOut S H hf (q.free hf (q.not_stK h0))
  · rw [if_neg h0]
    obtain ⟨k, i, y, p, hk, e, hf, ec, hx, hm⟩ := q.of_stK S.okc S.zs.good h0
    obtain ⟨l1, l2, hl, -, hz⟩ := q.split hx hk hm
    rw [e, ec, Nat.add_sub_cancel]
    exact standsIn S H hf hk (by rw [hz]; rfl)
theorem qFreeC (H : Nat) (hH : H < 18446744073709551616) (kind : Int) (last : Bool) (R : Nat) (hR : (pushN c s Z Ls H kind last).1 = R) (r0 : R ≠ 0) : Calls Tryz.prog 102 #[.pointer (some ⟨gq, 0, none⟩), .int .u64 (H : Int), .int .i64 kind] w fun e w' => e = .returned (.tuple #[.pointer none, .int .i64 (R : Int)]) ∧ Below w.heap.size w w' := by
  obtain ⟨F, S, q⟩ := h
  unfold pushN at hR
  by_cases hk : 1 ≤ kind ∧ kind ≤ 3
  · rw [if_neg (Classical.not_not.2 hk)] at hR
    obtain ⟨k, hk3, rfl⟩ : ∃ k : Nat, k < 3 ∧ kind = (k : Int) + 1 := ⟨kind.toNat - 1, by omega, by omega⟩
    by_cases hi : isN c s Z H = false
    · rw [if_pos hi] at hR
      subst hR
      refine freeNo S H hH k hk3 ?_
      unfold isN at hi
      rcases Bool.and_eq_false_iff.1 hi with h | h
      · exact .inl (Option.isSome_eq_false_iff.1 h |> Option.isNone_iff_eq_none.1)
      · cases hf : findN c.cf s H with
        | none => exact .inl rfl
        | some v => exact .inr ⟨⟨v.1, v.2.1, v.2.2, rfl⟩, Option.isSome_eq_false_iff.1 h |> Option.isNone_iff_eq_none.1⟩
    · rw [if_neg hi] at hR
      by_cases hs : stK (clsN c s H) Ls H ≠ 0
      · rw [if_pos hs] at hR
        subst hR
        obtain ⟨j, i, y, p, hj, e, hf, ec, hx, hm⟩ := q.of_stK S.okc S.zs.good hs
        obtain ⟨l1, l2, hl, -, hz⟩ := q.split hx hj hm
        exact freeTwice S H k hk3 ⟨⟨i, y, p, hf⟩, _, hz⟩ hf hj (by rw [hz]; rfl)
      · rw [if_neg hs] at hR
        exact absurd hR.symm r0
  · rw [if_pos hk] at hR
    subst hR
    exact (freeArg S H kind hk).mono fun e w' ⟨h1, h2⟩ => ⟨h1, h2 ▸ Below.refl _ _⟩
theorem dropC (H : Nat) (hH : H < 18446744073709551616) :
    Calls Tryz.prog 72 #[.pointer (some ⟨gq, 0, none⟩), .int .u64 (H : Int)] w fun e w' => e = .returned (.int .i64 ((dropN c s Ls H).1 : Int)) ∧ Did w w' L c s bs Z gq gl (dropN c s Ls H) := by
  have hw := h
  have SC := standsC h H hH
  obtain ⟨F, S, q⟩ := h
  unfold dropN
  by_cases h0 : stK (clsN c s H) Ls H = 0
  · rw [if_pos h0] at SC ⊢
    refine (dropNo S H SC).mono ?_
    rintro e w' ⟨rfl, b⟩
    exact ⟨rfl, hw.same b⟩
  · rw [if_neg h0]
    obtain ⟨k, i, y, p, hk, e, hf, ec, hx, hm⟩ := q.of_stK S.okc S.zs.good h0
    obtain ⟨l1, l2, hl, he, hz⟩ := q.split hx hk hm
    have hD := (q.drop hx hk l1 l2 hl).2
    have hb := q.nB S.okc S.zs.good hx hk
    have hn := q.n _ _ hx hk
    have m1 : ∀ y ∈ l1, y ∈ Ls (s.cls i) k := fun y hy => by rw [hl]; exact List.mem_append.2 (.inl hy)
    have m2 : ∀ y ∈ l2, y ∈ Ls (s.cls i) k := fun y hy => by rw [hl]; exact List.mem_append.2 (.inr (List.mem_cons_of_mem _ hy))
    refine (dropYes S H k hk hf _ hz rfl (last_in.imp id fun h => q.is hx hk (m1 _ h)) (head_in.imp id fun h => q.is hx hk (m2 _ h)) (by rw [hn, hl, List.length_append, List.length_cons]; omega) (by omega)).mono ?_
    rintro e2 w' ⟨rfl, w1, b1, o1, bs', E1, S1⟩
    refine ⟨rfl, two_trans (below_two b1) o1, bs', _, E1, fun H' => (upd_some (jZ_it ⟨⟨i, y, p, hf⟩, _, hz⟩).2 H').trans jZ_some, fun h => absurd rfl h, _, S1, ?_⟩
    show QI c s _ _ (outN (clsN c s H) Ls H)
    unfold outN
    rw [e, ec, Nat.add_sub_cancel, he]
    exact hD
end
end Go.Proofs.YtngehaiigbbknaaGreat.Que
/-
  The queue's Shift, Ahead, Behind, Head, Tail, Len, by its rows of handles.
-/
namespace Go.Proofs.YtngehaiigbbknaaGreat.Que
open Go.RowKit Base Arena Cls Itm
set_option linter.unusedVariables false
set_option linter.unusedSectionVars false

theorem isN_it {c : Conf} {s : St} {Z : Nat → Option Zd} {H : Nat} (h : It c s Z H) : isN c s Z H = true := by
  obtain ⟨⟨i, x, p, hf⟩, z, hz⟩ := h
  unfold isN
  rw [hf, hz]
  rfl
theorem pushN_congr {c : Conf} {s : St} {Z Z' : Nat → Option Zd} (h : ∀ H, (Z' H).isSome = (Z H).isSome) (Ls : Nat → Nat → List Nat) (H : Nat) (kind : Int) (last : Bool) : pushN c s Z' Ls H kind last = pushN c s Z Ls H kind last := by
  unfold pushN isN
  rw [h H]
def shiftN (c : Conf) (s : St) (Ls : Nat → Nat → List Nat) (H : Nat) (kind : Int) : Nat × (Nat → Nat → List Nat) :=
  if ¬ (1 ≤ kind ∧ kind ≤ 3) then (1, Ls) else if stK (clsN c s H) Ls H = 0 then (20, Ls) else (0, putN (clsN c s H) (outN (clsN c s H) Ls H) H (kind.toNat - 1) false)
def aheadN (l : List Nat) (H : Nat) : Nat := (l.take (l.idxOf H)).getLast?.getD 0
def behindN (l : List Nat) (H : Nat) : Nat := (l.drop (l.idxOf H + 1)).head?.getD 0
/-- The neighbours of H. -/
def prevN (c : Conf) (s : St) (Ls : Nat → Nat → List Nat) (H : Nat) : Nat := if stK (clsN c s H) Ls H = 0 then 0 else aheadN (Ls (clsN c s H) (stK (clsN c s H) Ls H - 1)) H
def nextN (c : Conf) (s : St) (Ls : Nat → Nat → List Nat) (H : Nat) : Nat := if stK (clsN c s H) Ls H = 0 then 0 else behindN (Ls (clsN c s H) (stK (clsN c s H) Ls H - 1)) H
theorem idx_split {l1 l2 : List Nat} {H : Nat} (h : H ∉ l1) : (l1 ++ H :: l2).idxOf H = l1.length := by
  rw [List.idxOf_append, if_neg h, List.idxOf_cons_self]
  simp
theorem ahead_split {l1 l2 : List Nat} {H : Nat} (h : H ∉ l1) : aheadN (l1 ++ H :: l2) H = l1.getLast?.getD 0 := by
  unfold aheadN
  rw [idx_split h, List.take_left]
theorem behind_split {l1 l2 : List Nat} {H : Nat} (h : H ∉ l1) : behindN (l1 ++ H :: l2) H = l2.head?.getD 0 := by
  unfold behindN
  rw [idx_split h, List.append_cons, List.drop_left' (by simp)]
section
variable {c : Conf} {s : St} {Z : Nat → Option Zd} {F : QN} {Ls : Nat → Nat → List Nat} (q : QI c s Z F Ls)
include q
theorem QI.out0 (ok : c.cf.Ok) (g : Cls.Good c.cf s) {H : Nat} (h : stK (clsN c s H) Ls H ≠ 0) : stK (clsN c s H) (outN (clsN c s H) Ls H) H = 0 := by
  obtain ⟨k, i, y, p, hk, e, hf, ec, hx, hm⟩ := q.of_stK ok g h
  obtain ⟨l1, l2, hl, he, hz⟩ := q.split hx hk hm
  have hnd := q.nd _ _ hx hk
  rw [hl] at hnd
  obtain ⟨d1, d2, d3⟩ := List.nodup_append.1 hnd
  have n1 : H ∉ l1 := fun e => d3 H e H (List.mem_cons_self ..) rfl
  have n2 : H ∉ l2 := (List.nodup_cons.1 d2).1
  have key : ∀ j, j < 3 → H ∉ outN (clsN c s H) Ls H (clsN c s H) j := by
    intro j hj hm'
    unfold outN at hm'
    rw [e, ec, Nat.add_sub_cancel, he] at hm'
    by_cases hjk : j = k
    · subst hjk
      rw [updL_at] at hm'
      exact (List.mem_append.1 hm').elim n1 n2
    · rw [updL_ne (fun e => hjk e.2)] at hm'
      exact hjk (q.dj _ _ _ _ H hx hj hx hk hm' hm).2
  unfold stK
  rw [if_neg (key 0 (by omega)), if_neg (key 1 (by omega)), if_neg (key 2 (by omega))]
theorem QI.links {H : Nat} (ok : c.cf.Ok) (g : Cls.Good c.cf s) (h : stK (clsN c s H) Ls H ≠ 0) : ∃ z, Z H = some z ∧ It c s Z H ∧ z.st = stK (clsN c s H) Ls H ∧ z.a = prevN c s Ls H ∧ z.b = nextN c s Ls H := by
  obtain ⟨k, i, y, p, hk, e, hf, ec, hx, hm⟩ := q.of_stK ok g h
  obtain ⟨l1, l2, hl, he, hz⟩ := q.split hx hk hm
  have hnd := q.nd _ _ hx hk
  rw [hl] at hnd
  have n1 : H ∉ l1 := fun e => (List.nodup_append.1 hnd).2.2 H e H (List.mem_cons_self ..) rfl
  refine ⟨_, hz, ⟨⟨i, y, p, hf⟩, _, hz⟩, e.symm, ?_, ?_⟩
  · unfold prevN
    rw [if_neg h, e, ec, Nat.add_sub_cancel, hl, ahead_split n1]
  · unfold nextN
    rw [if_neg h, e, ec, Nat.add_sub_cancel, hl, behind_split n1]
end
theorem did_trans {w w1 w2 : World} {L : Lay} {c : Conf} {s : St} {bs bs1 bs2 : List UInt8} {Z Z1 Z2 : Nat → Option Zd} {gl : Nat}
    (o1 : Only (Two L gl) w w1) (o2 : Only (Two L gl) w1 w2) (E1 : Ed (Itp c s Z) bs bs1) (d1 : ∀ H, (Z1 H).isSome = (Z H).isSome) (E2 : Ed (Itp c s Z1) bs1 bs2) (d2 : ∀ H, (Z2 H).isSome = (Z1 H).isSome) :
    Only (Two L gl) w w2 ∧ Ed (Itp c s Z) bs bs2 ∧ (∀ H, (Z2 H).isSome = (Z H).isSome) := by
  rw [itp_congr d1] at E2
  exact ⟨two_trans o1 o2, E1.trans E2, fun H => (d2 H).trans (d1 H)⟩
section
variable {w : World} {L : Lay} {c : Conf} {s : St} {bs : List UInt8} {Z : Nat → Option Zd} {gq gl : Nat} {Ls : Nat → Nat → List Nat} (h : QW w L c s bs Z gq gl Ls)
include h
set_option maxRecDepth 100000 in
theorem nextC (H : Nat) (hH : H < 18446744073709551616) (j : Int) (T : Nat) (hj : j = 1 ∧ T = prevN c s Ls H ∨ j = 2 ∧ T = nextN c s Ls H) :
    Calls Tryz.prog 89 #[.pointer (some ⟨gq, 0, none⟩), .int .u64 (H : Int), .int .i64 j] w fun e w' => e = .returned (.tuple #[.int .u64 (T : Int), .bool (decide (T ≠ 0))]) ∧ Below w.heap.size w w' := by
  have SC := standsC h H hH
  by_cases h0 : stK (clsN c s H) Ls H = 0
  · have hT : T = 0 := by
      rcases hj with ⟨-, rfl⟩ | ⟨-, rfl⟩
      · unfold prevN; rw [if_pos h0]
      · unfold nextN; rw [if_pos h0]
    subst hT
    rw [if_pos h0] at SC
    replace SC := Lib.hid SC
    clear h hj h0
    go_enter Tryz.func89, Tryz.ntmps89
    go_wp2_with fail
    refine SC.out.mono ?_
    rintro e w1 ⟨rfl, b1⟩
    replace b1 := Lib.hid b1
    go_wp2
    go_ret2
    exact ⟨rfl, b1.out⟩
  · rw [if_neg h0] at SC
    obtain ⟨F, S, q⟩ := h
    obtain ⟨z, hz, hI, -, ea, eb⟩ := q.links S.okc S.zs.good h0
    have LC : ∀ w1, QS w1 L c s bs Z gq gl F → Calls Tryz.prog 107 #[.pointer (some ⟨L.g, 0, none⟩), .int .u64 (H : Int), .int .i64 j] w1 fun e w' => e = .returned (.tuple #[.int .u64 (T : Int), .int .i64 0]) ∧ Below w1.heap.size w1 w' := by
      intro w1 S1
      obtain ⟨A, B⟩ := zLinksC S1 H hI z hz
      rcases hj with ⟨rfl, rfl⟩ | ⟨rfl, rfl⟩
      · rw [ea] at A; exact A
      · rw [eb] at B; exact B
    replace LC := Lib.hid LC
    replace SC := Lib.hid SC
    replace S := Lib.hid S
    clear q hz hI ea eb hj h0
    by_cases t0 : T = 0
    · subst t0
      go_enter Tryz.func89, Tryz.ntmps89
      go_wp2_with fail
      refine SC.out.mono ?_
      rintro e w1 ⟨rfl, b1⟩
      have S1 := S.out.below b1
      have q0 := S1.q.c0
      have LC := Lib.hid (LC.out w1 S1)
      replace b1 := Lib.hid b1
      clear SC S1 S
      go_wp2_with fail
      refine LC.out.mono ?_
      rintro e w2 ⟨rfl, b2⟩
      replace b2 := Lib.hid (b1.out.trans (b2.mono b1.out.size))
      go_wp2
      go_ret2
      exact ⟨rfl, b2.out⟩
    · obtain ⟨d1, d2⟩ := ne0 t0
      rw [decide_eq_true t0]
      go_enter Tryz.func89, Tryz.ntmps89
      go_wp2_with fail
      refine SC.out.mono ?_
      rintro e w1 ⟨rfl, b1⟩
      have S1 := S.out.below b1
      have q0 := S1.q.c0
      have LC := Lib.hid (LC.out w1 S1)
      replace b1 := Lib.hid b1
      clear SC S1 S
      go_wp2_with fail
      refine LC.out.mono ?_
      rintro e w2 ⟨rfl, b2⟩
      replace b2 := Lib.hid (b1.out.trans (b2.mono b1.out.size))
      go_wp2
      go_ret2
      exact ⟨rfl, b2.out⟩
theorem aheadC (H : Nat) (hH : H < 18446744073709551616) : Calls Tryz.prog 47 #[.pointer (some ⟨gq, 0, none⟩), .int .u64 (H : Int)] w fun e w' => e = .returned (.tuple #[.int .u64 (prevN c s Ls H : Int), .bool (decide (prevN c s Ls H ≠ 0))]) ∧ Below w.heap.size w w' := by
  have NC := nextC h H hH 1 _ (.inl ⟨rfl, rfl⟩)
  generalize prevN c s Ls H = T at *
  obtain ⟨B, hB⟩ : ∃ B, B = decide (T ≠ 0) := ⟨_, rfl⟩
  rw [← hB] at NC ⊢
  clear hB
  replace NC := Lib.hid NC
  clear h
  go_enter Tryz.func47, Tryz.ntmps47
  go_wp2_with fail
  refine NC.out.mono ?_
  rintro e w1 ⟨rfl, b1⟩
  replace b1 := Lib.hid b1
  go_wp2
  go_ret2
  exact ⟨rfl, b1.out⟩
end
/-- The list of any class and kind. -/
def lsN (c : Conf) (Ls : Nat → Nat → List Nat) (x kind : Int) : List Nat := if 0 ≤ x ∧ x < (c.nc : Int) ∧ 1 ≤ kind ∧ kind ≤ 3 then Ls x.toNat (kind.toNat - 1) else []
section
variable {w : World} {L : Lay} {c : Conf} {s : St} {bs : List UInt8} {Z : Nat → Option Zd} {gq gl : Nat} {Ls : Nat → Nat → List Nat} (h : QW w L c s bs Z gq gl Ls) (x kind : Int)
include h
theorem tailC : Calls Tryz.prog 20 #[.pointer (some ⟨gq, 0, none⟩), .int .i64 x, .int .i64 kind] w fun e w' => e = .returned (.tuple #[.int .u64 ((lsN c Ls x kind).getLast?.getD 0 : Int), .bool (decide (0 < (lsN c Ls x kind).length))]) ∧ w = w' := by
  obtain ⟨F, S, q⟩ := h
  unfold lsN
  by_cases hv : 0 ≤ x ∧ x < (c.nc : Int) ∧ 1 ≤ kind ∧ kind ≤ 3
  · rw [if_pos hv]
    obtain ⟨X, hX, rfl⟩ : ∃ X : Nat, X < c.nc ∧ x = (X : Int) := ⟨x.toNat, by omega, by omega⟩
    obtain ⟨k, hk, rfl⟩ : ∃ k : Nat, k < 3 ∧ kind = (k : Int) + 1 := ⟨kind.toNat - 1, by omega, by omega⟩
    have e1 : ((k : Int) + 1).toNat - 1 = k := by omega
    rw [Int.toNat_natCast, e1]
    by_cases h0 : F.n X k = 0
    · have hl : Ls X k = [] := List.length_eq_zero_iff.1 ((q.n X k hX hk).symm.trans h0)
      rw [hl]
      exact tailZero S.q X k hX hk S.okc.ncb h0
    · have := tailYes S.q X k hX hk S.okc.ncb h0
      rw [q.tl X k hX hk] at this
      rw [decide_eq_true (by rw [← q.n X k hX hk]; omega)]
      exact this
  · rw [if_neg hv]
    exact tailNo S.q x kind hv
theorem lenC : Calls Tryz.prog 43 #[.pointer (some ⟨gq, 0, none⟩), .int .i64 x, .int .i64 kind] w fun e w' => e = .returned (.int .i64 ((lsN c Ls x kind).length : Int)) ∧ w = w' := by
  obtain ⟨F, S, q⟩ := h
  unfold lsN
  by_cases hv : 0 ≤ x ∧ x < (c.nc : Int) ∧ 1 ≤ kind ∧ kind ≤ 3
  · rw [if_pos hv]
    obtain ⟨X, hX, rfl⟩ : ∃ X : Nat, X < c.nc ∧ x = (X : Int) := ⟨x.toNat, by omega, by omega⟩
    obtain ⟨k, hk, rfl⟩ : ∃ k : Nat, k < 3 ∧ kind = (k : Int) + 1 := ⟨kind.toNat - 1, by omega, by omega⟩
    have e1 : ((k : Int) + 1).toNat - 1 = k := by omega
    rw [Int.toNat_natCast, e1, ← q.n X k hX hk]
    exact lenYes S.q X k hX hk S.okc.ncb
  · rw [if_neg hv]
    exact lenNo S.q x kind hv
end
end Go.Proofs.YtngehaiigbbknaaGreat.Que
/-
  item.Read of no set.
-/
namespace Go.Proofs.YtngehaiigbbknaaGreat.Itm
open Go.RowKit Base Arena Cls
set_option linter.unusedVariables false

def zi : Array Value := #[.slice none 0 0, .slice none 0 0, .int .u64 0, .int .i64 0, .int .i64 0, .int .u64 0, .int .i64 0, .int .i64 0]
end Go.Proofs.YtngehaiigbbknaaGreat.Itm
/-
  A region that draws its order, of operations that read, draw or make memory: one obligation an operation, under what is known of the operations that it waits for; then a tail in one forced order. Nothing here names the program.
-/
namespace Go.Proofs.YtngehaiigbbknaaGreat.Rel
open Go
set_option linter.unusedVariables false

/-- An operation's value. -/
def valOf (o : Oper) (a : Act) : Value := match o.dst with | some d => a.tmps.getD d undef | none => undef
/-- The operations' slots are there, and unlike. -/
def dstsB (ops : Array Oper) (n m : Nat) : Bool := (List.range n).all fun i => match ops[i]? with
  | none => false
  | some o => match o.dst with
    | none => false
    | some d => decide (d < m) && (List.range n).all fun j => decide (i = j) || match ops[j]? with
      | none => true
      | some o' => decide (o'.dst ≠ some d)
def fullL (n k : Nat) : Array Bool := (List.replicate n true ++ List.replicate k false).toArray
theorem dsts_spec {ops : Array Oper} {n m : Nat} (h : dstsB ops n m = true) {i : Nat} {o : Oper} (hi : i < n) (ho : ops[i]? = some o) :
    ∃ d, o.dst = some d ∧ d < m ∧ ∀ j o', j < n → j ≠ i → ops[j]? = some o' → o'.dst ≠ some d := by
  have h1 := List.all_eq_true.1 h i (List.mem_range.2 hi)
  rw [ho] at h1
  cases hd : o.dst with
  | none => simp [hd] at h1
  | some d =>
    simp only [hd, Bool.and_eq_true, decide_eq_true_eq] at h1
    refine ⟨d, rfl, h1.1, fun j o' hj hji ho' => ?_⟩
    have h2 := List.all_eq_true.1 h1.2 j (List.mem_range.2 hj)
    simp only [ho', Bool.or_eq_true, decide_eq_true_eq] at h2
    rcases h2 with h2 | h2
    · exact absurd h2.symm hji
    · exact h2
section
variable {P : Program} {ops : Array Oper} {Q : Exit → Act → World → Prop} {n : Nat} {a0 : Act} {R : World → Prop} {le : World → World → Prop} {Φ : Nat → Value → World → Prop} {Ψ : Nat → Nat → Value → Value → Prop}
structure RInv (ops : Array Oper) (n : Nat) (a0 : Act) (R : World → Prop) (Φ : Nat → Value → World → Prop) (Ψ : Nat → Nat → Value → Value → Prop) (listed : Array Bool) (a : Act) (w : World) : Prop where
  head : HeadInv .any ops n listed
  world : R w
  size : a.tmps.size = a0.tmps.size
  defers : a.defers = a0.defers
  rest : ∀ k, (∀ i o, i < n → ops[i]? = some o → o.dst ≠ some k) → a.tmps.getD k undef = a0.tmps.getD k undef
  known : ∀ i o, i < n → ops[i]? = some o → listed.getD i false = true → Φ i (valOf o a) w
  pairs : ∀ i j oi oj, i < n → j < n → i ≠ j → ops[i]? = some oi → ops[j]? = some oj → listed.getD i false = true → listed.getD j false = true → Ψ i j (valOf oi a) (valOf oj a) ∧ Ψ j i (valOf oj a) (valOf oi a)
theorem put_same {a : Act} {d : Nat} {v : Value} (h : d < a.tmps.size) : (a.put (some d) v).tmps.getD d undef = v := by simp [Act.put, h]
theorem put_other {a : Act} {d k : Nat} {v : Value} (h : d ≠ k) : (a.put (some d) v).tmps.getD k undef = a.tmps.getD k undef := by simp [Act.put, Array.getElem?_setIfInBounds_ne h]
theorem RInv.put {listed : Array Bool} {a : Act} {w w' : World} {i : Nat} {o : Oper} {v : Value} (hd : dstsB ops n a0.tmps.size = true) (I : RInv ops n a0 R Φ Ψ listed a w) (hi : i ∈ Region.ready .any ops listed) (hin : i < n) (ho : ops[i]? = some o)
    (hR : R w') (hper : ∀ j u, Φ j u w → Φ j u w') (hv : Φ i v w') (hp : ∀ j u, j < n → j ≠ i → Φ j u w → Ψ i j v u ∧ Ψ j i u v) : RInv ops n a0 R Φ Ψ (listed.setIfInBounds i true) (a.put o.dst v) w' := by
  obtain ⟨d, hdo, hdm, hdu⟩ := dsts_spec hd hin ho
  have hds : d < a.tmps.size := by rw [I.size]; exact hdm
  have vi : valOf o (a.put o.dst v) = v := by unfold valOf; rw [hdo]; exact put_same hds
  have vj : ∀ j oj, j < n → j ≠ i → ops[j]? = some oj → valOf oj (a.put o.dst v) = valOf oj a := by
    intro j oj hj hji hoj
    obtain ⟨dj, hdj, -, -⟩ := dsts_spec hd hj hoj
    unfold valOf
    rw [hdj, hdo]
    exact put_other (fun e => hdu j oj hj hji hoj (by rw [hdj, e]))
  refine ⟨I.head.set hi hin, hR, ?_, ?_, ?_, ?_, ?_⟩
  · rw [hdo]; simp [Act.put]; exact I.size
  · rw [hdo]; exact I.defers
  · intro k hk
    rw [← I.rest k hk, hdo]
    exact put_other (fun e => hk i o hin ho (by rw [hdo, e]))
  · intro j oj hj hoj hl
    by_cases hji : j = i
    · subst hji
      have : oj = o := Option.some.inj (hoj.symm.trans ho)
      subst this
      rw [vi]; exact hv
    · rw [vj j oj hj hji hoj]
      rw [getD_set_ne false (Ne.symm hji)] at hl
      exact hper _ _ (I.known j oj hj hoj hl)
  · intro j k oj ok hj hk hjk hoj hok hlj hlk
    by_cases hji : j = i
    · subst hji
      have : oj = o := Option.some.inj (hoj.symm.trans ho)
      subst this
      rw [vi, vj k ok hk (Ne.symm hjk) hok]
      rw [getD_set_ne false hjk] at hlk
      exact hp k _ hk (Ne.symm hjk) (I.known k ok hk hok hlk)
    · rw [getD_set_ne false (Ne.symm hji)] at hlj
      by_cases hki : k = i
      · subst hki
        have : ok = o := Option.some.inj (hok.symm.trans ho)
        subst this
        rw [vi, vj j oj hj hji hoj]
        exact (hp j _ hj hji (I.known j oj hj hoj hlj)).symm
      · rw [getD_set_ne false (Ne.symm hki)] at hlk
        rw [vj j oj hj hji hoj, vj k ok hk hki hok]
        exact I.pairs j k oj ok hj hk hjk hoj hok hlj hlk
theorem act_map {a : Act} {m : Nat} (h : a.tmps.size = m) : a.tmps = ((List.range m).map fun k => a.tmps.getD k undef).toArray := by
  apply Array.ext
  · simp [h]
  · intro i h1 h2
    simp [h1]
/-- The slots, one by one. -/
theorem RInv.act {listed : Array Bool} {a : Act} {w : World} (I : RInv ops n a0 R Φ Ψ listed a w) : ∃ f : Nat → Value, (∀ k, a.tmps.getD k undef = f k) ∧ a = ⟨((List.range a0.tmps.size).map f).toArray, a0.defers⟩ := by
  refine ⟨fun k => a.tmps.getD k undef, fun _ => rfl, ?_⟩
  have h := act_map I.size
  have hd := I.defers
  cases a
  simp only at h hd
  rw [hd, ← h]
theorem arr_ext {x y : Array Value} (h : x.size = y.size) (hg : ∀ k, k < x.size → x.getD k undef = y.getD k undef) : x = y := by
  apply Array.ext h
  intro k h1 h2
  have := hg k h1
  rw [Array.getD_eq_getD_getElem?, Array.getD_eq_getD_getElem?, Array.getElem?_eq_getElem h1, Array.getElem?_eq_getElem h2] at this
  exact this
def puts (f : Nat → Value) (ds : List Nat) (a : Act) : Act := ds.foldl (fun b d => b.put (some d) (f d)) a
theorem puts_size (f : Nat → Value) : ∀ (ds : List Nat) (a : Act), (puts f ds a).tmps.size = a.tmps.size ∧ (puts f ds a).defers = a.defers
  | [], a => ⟨rfl, rfl⟩
  | d :: ds, a => by
    have := puts_size f ds (a.put (some d) (f d))
    unfold puts at *
    rw [List.foldl_cons]
    rw [this.1, this.2]
    exact ⟨by simp [Act.put], rfl⟩
theorem puts_get (f : Nat → Value) : ∀ (ds : List Nat) (a : Act) (k : Nat), (puts f ds a).tmps.getD k undef = if k ∈ ds ∧ k < a.tmps.size then f k else a.tmps.getD k undef
  | [], a, k => by simp [puts]
  | d :: ds, a, k => by
    have ih := puts_get f ds (a.put (some d) (f d)) k
    unfold puts at *
    rw [List.foldl_cons, ih]
    have hs : (a.put (some d) (f d)).tmps.size = a.tmps.size := by simp [Act.put]
    rw [hs]
    by_cases hk : k ∈ ds ∧ k < a.tmps.size
    · rw [if_pos hk, if_pos ⟨List.mem_cons_of_mem _ hk.1, hk.2⟩]
    · rw [if_neg hk]
      by_cases hd : k = d
      · subst hd
        by_cases hlt : k < a.tmps.size
        · rw [put_same hlt, if_pos ⟨List.mem_cons_self .., hlt⟩]
        · rw [if_neg (fun h => hlt h.2)]
          have h1 : (a.put (some k) (f k)).tmps = a.tmps := by simp [Act.put, Array.setIfInBounds, hlt]
          rw [h1]
      · rw [put_other (Ne.symm hd), if_neg (fun h => by
          rcases List.mem_cons.1 h.1 with e | e
          · exact hd e
          · exact hk ⟨e, h.2⟩)]
/-- The slots behind the region: those ahead of it, and what its operations have laid. -/
theorem RInv.acts {listed : Array Bool} {a : Act} {w : World} (I : RInv ops n a0 R Φ Ψ listed a w) (ds : List Nat) (hds : ((List.range n).all fun i => match ops[i]? with
    | none => true
    | some o => match o.dst with
      | none => true
      | some d => ds.contains d) = true) : ∃ f : Nat → Value, (∀ d, a.tmps.getD d undef = f d) ∧ a = puts f ds a0 := by
  refine ⟨fun d => a.tmps.getD d undef, fun _ => rfl, ?_⟩
  obtain ⟨hs, hd⟩ := puts_size (fun d => a.tmps.getD d undef) ds a0
  have hg := puts_get (fun d => a.tmps.getD d undef) ds a0
  have ht : a.tmps = (puts (fun d => a.tmps.getD d undef) ds a0).tmps := by
    refine arr_ext (by rw [hs, I.size]) fun k h1 => ?_
    rw [hg k]
    by_cases hne : k ∈ ds ∧ k < a0.tmps.size
    · rw [if_pos hne]
    · rw [if_neg hne]
      refine I.rest k fun i o hi ho hdo => ?_
      have h3 := List.all_eq_true.1 hds i (List.mem_range.2 hi)
      simp only [ho, hdo] at h3
      exact hne ⟨by simpa using h3, by rw [← I.size]; exact h1⟩
  have hdf := I.defers
  rw [← hd] at hdf
  revert ht hdf
  generalize puts (fun d => a.tmps.getD d undef) ds a0 = b
  intro ht hdf
  cases a
  cases b
  simp only at ht hdf
  rw [ht, hdf]
/-- At the end all is known. -/
theorem RInv.done {k : Nat} {a : Act} {w : World} (I : RInv ops n a0 R Φ Ψ (fullL n k) a w) (j : Nat) (oj : Oper) (hj : j < n) (hoj : ops[j]? = some oj) : Φ j (valOf oj a) w :=
  I.known j oj hj hoj (by unfold fullL; rw [Array.getD_eq_getD_getElem?, List.getElem?_toArray, List.getElem?_append_left (by simpa using hj)]; simp [hj])
end
end Go.Proofs.YtngehaiigbbknaaGreat.Rel
/-
  item.Read of a chunk that has an item (printed by wip/gen_read.py).
-/
namespace Go.Proofs.YtngehaiigbbknaaGreat.Itm
open Go.RowKit Base Arena Cls Rel
set_option linter.unusedVariables false

section
variable {B : Nat} {w0 w w' : World} {L : Lay} {c : Conf} {s : St} {bs : List UInt8} {N H i x p k n : Nat}
end
/-- The two lists are not one. -/
def sep (x y i j : Nat) (v u : Value) : Prop := ∀ (b b' n n' c c' : Nat), i = x → j = y → v = .slice (some ⟨b, 0, none⟩) n c → u = .slice (some ⟨b', 0, none⟩) n' c' → b ≠ b'

structure RS (w0 w : World) (L : Lay) (c : Conf) (s : St) (bs : List UInt8) (N N1 p k n : Nat) : Prop where
  os : OS N w0 w L c s bs N1 p k n
  blk : Blk w N 151 zi
theorem RS.step {w0 w w' : World} {L : Lay} {c : Conf} {s : St} {bs : List UInt8} {N N1 p k n : Nat} (S : RS w0 w L c s bs N N1 p k n) (b : Below w.heap.size w w') : RS w0 w' L c s bs N N1 p k n := ⟨S.os.step b, S.blk.below b S.blk.lt⟩
theorem RS.drew {w0 w : World} {L : Lay} {c : Conf} {s : St} {bs : List UInt8} {N N1 p k n : Nat} (S : RS w0 w L c s bs N N1 p k n) : RS w0 w.drew L c s bs N N1 p k n := ⟨S.os.drewN 1, S.blk.drew⟩
theorem BB.go {w w' : World} {t : TypeId} {b : Nat} {l : List UInt8} (h : BB w t b l) (k : Below w.heap.size w w') : BB w' t b l := (k.block b h.lt).trans h
end Go.Proofs.YtngehaiigbbknaaGreat.Itm
/-
  item.Same, bytes.Equal (printed by wip/gen_same.py).
-/
namespace Go.Proofs.YtngehaiigbbknaaGreat.Itm
open Go.RowKit Base Arena Cls Rel
set_option linter.unusedVariables false

/-- .. and a list of bytes of the caller's. -/
structure RK (B : Nat) (w0 w : World) (L : Lay) (c : Conf) (s : St) (bs : List UInt8) (N p k n : Nat) (A : Option Addr) (l : List UInt8) : Prop where
  os : OS B w0 w L c s bs N p k n
  by_ : Bytes w w.heap.size A l
theorem bytes_go {w w' : World} {A : Option Addr} {l : List UInt8} (h : Bytes w w.heap.size A l) (b : Below w.heap.size w w') : Bytes w' w'.heap.size A l :=
  fun hl => let ⟨d, off, h1, h2, h3⟩ := h hl
  ⟨d, off, h1, Nat.lt_of_lt_of_le h2 b.size, fun j v hj => (b.cell (p := ⟨d, off + j, none⟩) h2).trans (h3 j v hj)⟩
theorem RK.step {B : Nat} {w0 w w' : World} {L : Lay} {c : Conf} {s : St} {bs : List UInt8} {N p k n : Nat} {A : Option Addr} {l : List UInt8} (S : RK B w0 w L c s bs N p k n A l) (b : Below w.heap.size w w') : RK B w0 w' L c s bs N p k n A l := ⟨S.os.step b, bytes_go S.by_ b⟩
theorem RK.drew {B : Nat} {w0 w : World} {L : Lay} {c : Conf} {s : St} {bs : List UInt8} {N p k n : Nat} {A : Option Addr} {l : List UInt8} (S : RK B w0 w L c s bs N p k n A l) : RK B w0 w.drew L c s bs N p k n A l := ⟨S.os.drewN 1, S.by_⟩
section
variable (w : World) (L : Lay) (c : Conf) (s : St) (bs : List UInt8) (h : SetAt w L c s bs) (g : Cls.Good c.cf s)
include h g
end
end Go.Proofs.YtngehaiigbbknaaGreat.Itm
/-
  The statements' configurations; Within.
-/
namespace Go.Proofs.YtngehaiigbbknaaGreat.Itm
open Go.RowKit Base Arena Cls
set_option linter.unusedVariables false

theorem tmod_emod2 (i n : Int) : (i.tmod n) % n = i % n := by
  have h := Int.mul_tdiv_add_tmod i n
  conv => rhs; rw [← h]
  rw [Int.add_comm, Int.add_mul_emod_self_left]
theorem withinI (i : Int) (n : Nat) (hi : Cls.In i) (hn : 1 ≤ n) (hn2 : n ≤ 1073741824) (w : World) :
    Calls Tryz.prog 31 #[.int .i64 i, .int .i64 (n : Int)] w fun e w' => e = .returned (.int .i64 (((i % (n : Int)).toNat : Nat) : Int)) ∧ w = w' := by
  obtain ⟨h1, h2⟩ := hi
  have t1 := Int.tmod_lt_of_pos i (show 0 < (n : Int) by omega)
  have t2 := Int.lt_tmod_of_pos i (show 0 < (n : Int) by omega)
  have t3 := Int.emod_nonneg (i.tmod n) (show (n : Int) ≠ 0 by omega)
  have t4 := Int.emod_lt_of_pos (i.tmod n) (show 0 < (n : Int) by omega)
  have he := Lib.hid (show (i.tmod n + n) % n = i % n by have := Int.add_mul_emod_self_left (i.tmod n) n 1; rw [Int.mul_one] at this; rw [this]; exact tmod_emod2 i n)
  have hz : (n : Int) ≠ 0 := by omega
  have h0 := Int.emod_nonneg i (show (n : Int) ≠ 0 by omega)
  rw [Int.toNat_of_nonneg h0]
  clear h0
  go_enter Tryz.func31, Tryz.ntmps31
  go_wp2
  go_ret
  exact ⟨by rw [← he.out]; rfl, rfl⟩
theorem blk_new' {w : World} {n : Nat} (h : w.heap.size = n) {t : TypeId} {cs : Array Value} : Blk (w.alloc (.cells cs t)) n t cs := by subst h; exact Blk.new w t cs
end Go.Proofs.YtngehaiigbbknaaGreat.Itm
/-
  The walk of begun.
-/
namespace Go.Proofs.YtngehaiigbbknaaGreat.Itm
open Go.RowKit Base Arena Cls
set_option linter.unusedVariables false

end Go.Proofs.YtngehaiigbbknaaGreat.Itm
/-
  The walk of Take.
-/
namespace Go.Proofs.YtngehaiigbbknaaGreat.Cls
open Go.RowKit Base MapG
set_option linter.unusedVariables false

/-- The bytes of a chunk that is taken. -/
def takeB (bs : List UInt8) (p g : Nat) : List UInt8 := lay (lay bs p (List.replicate 56 0)) (p + 12) (Arena.putB 4 g)
set_option maxRecDepth 100000 in
set_option maxHeartbeats 3200000 in
theorem takeYes (w : World) (L : Lay) (c : Conf) (s : St) (bs : List UInt8) (h : SetAt w L c s bs) (g : Good c.cf s) (k : Nat) (hk : k < c.nc) (s1 : St) (hr : roomS c.cf s k = some s1) (l : List Nat) (p : Nat) (hp : s1.free k = l ++ [p]) :
    Calls Tryz.prog 81 #[.pointer (some ⟨L.g, 0, none⟩), .int .i64 (k : Int)] w fun e w' =>
      e = .returned (.tuple #[.int .u64 (hnd p (s1.gens (p / c.cf.ps) (p % c.cf.ps / c.sz k)) : Int), .int .i64 0]) ∧
      ∃ L', L'.g = L.g ∧ SetAt w' L' c (takeS c.cf s1 k p) (takeB bs p (s1.gens (p / c.cf.ps) (p % c.cf.ps / c.sz k))) ∧ Went w w' L L' c s (takeS c.cf s1 k p) := by
  have IC := isC h (k : Int)
  rw [decide_eq_true (show (0 : Int) ≤ (k : Int) ∧ (k : Int) < (c.nc : Int) by omega)] at IC
  replace IC := Lib.hid IC
  have ok := h.okc
  have g1 := (room_good ok g hk hr).1
  have HW : (∃ a t, s.free k = a :: t) ∧ s1 = s ∨ s.free k = [] ∧ (Calls Tryz.prog 115 #[.pointer (some ⟨L.g, 0, none⟩), .int .i64 (k : Int)] w fun e w' => e = .returned (.bool true) ∧
      ∃ L', L'.g = L.g ∧ L'.gr = L.gr ∧ SetAt w' L' c s1 bs ∧ Went w w' L L' c s s1) := by
    unfold roomS at hr
    split at hr
    · rename_i he
      split at hr
      · rename_i i hlow
        injection hr with hr
        subst hr
        obtain ⟨a1, a2, a3⟩ := low_some hlow
        exact .inr ⟨he, widenYes w L c s bs h g k i hk a1 a2 a3⟩
      · cases hr
    · rename_i a t he
      injection hr with hr
      exact .inl ⟨⟨a, t, he⟩, hr.symm⟩
  have c10 := h.cRows
  have r0 := h.r0 hk
  have own := h.freeB hk
  have hS := Lib.hid h
  have hfl := g.short ok hk
  clear hr h
  have k0 : (0 : Int) ≤ (k : Int) := by omega
  have k1 : (k : Int) < (c.nc : Int) := by omega
  go_enter Tryz.func81, Tryz.ntmps81
  go_wp2_with fail
  refine IC.out.mono ?_
  rintro e w' ⟨rfl, rfl⟩
  go_upto_region 4 with fail
  go_cut [31] from 20 to 31 (fun s31 wx => s31 = .bool false ∧ ∃ L1, L1.g = L.g ∧ L1.gr = L.gr ∧ SetAt wx L1 c s1 bs ∧ Went w wx L L1 c s s1)
  case first =>
    rcases HW with ⟨⟨a, t, he⟩, rfl⟩ | ⟨he, WC⟩
    · rw [he] at own
      obtain ⟨A, cp, hF⟩ := own_is own
      rw [hF] at r0
      have hln : decide (((t.length + 1 : Nat) : Int) = 0) = false := by simp; omega
      have hln2 : (((a :: t).length : Nat)) = t.length + 1 := rfl
      rw [hln2] at r0
      clear own hF hln2
      go_wp2_with fail
      go_meet
      exact ⟨rfl, L, rfl, rfl, hS.out, Went.refl _ _ _ _⟩
    · rw [he] at own
      obtain ⟨A, cp, hF⟩ := own_is own
      rw [hF] at r0
      replace WC := Lib.hid WC
      clear own hF
      go_wp2_with fail
      refine WC.out.mono ?_
      rintro e w1 ⟨rfl, L1, e1, e2, H1, W1⟩
      go_wp2_with fail
      go_meet
      exact ⟨rfl, L1, e1, e2, H1, W1⟩
  case rest =>
    obtain ⟨rfl, L1, eg, egr, H1, W1⟩ := hcut
    obtain ⟨i, x, h1, h2, h3, h4, h5, h6, hpe, e1, e2⟩ := g1.last ok hk (p := p) (by rw [hp]; simp)
    have e2' : p % c.cf.ps / c.sz k = x := e2
    have hTake : takeS c.cf s1 k p = { s1 with free := upd s1.free k l, rt := upd s1.rt k (s1.rt k + 1), tkn := upd s1.tkn i (upd (s1.tkn i) x true), held := upd s1.held i (s1.held i + 1) } := by
      unfold takeS
      rw [e1, e2, hp, List.dropLast_concat]
    have own1 := H1.freeB hk
    rw [hp, List.length_append, List.length_singleton] at own1
    obtain ⟨b, cap, hF, cp, -, hbl⟩ := own_iv (x := p) (i := l.length) own1 (by simp)
    rw [hF] at own1
    have own2 := own_drop (x := iv p) (by rw [List.map_append] at own1; exact own1)
    have hll : l.length + 1 ≤ 1073741824 := by
      have := g1.short ok hk
      rw [hp, List.length_append, List.length_singleton] at this
      exact this
    have r0' : wc.cell? ⟨L.gr, k * 4, none⟩ = some (.slice (some ⟨b, 0, none⟩) (l.length + 1) cap) := by rw [← egr, H1.r0 hk, hF]
    have hrt : s1.rt k ≤ 16777216 := by
      rw [g1.rt k hk]
      have : ∀ n, sumTo (fun j => if s1.own j && s1.cls j == k then s1.held j else 0) n ≤ n * 16384 := by
        intro n
        induction n with
        | zero => exact Nat.le_refl _
        | succ n ih =>
          simp only [sumTo]
          have : (if s1.own n && s1.cls n == k then s1.held n else 0) ≤ 16384 := by
            split
            · rename_i hh
              have ho : s1.own n = true := by revert hh; cases s1.own n <;> simp
              have hn := g1.top n ho
              rw [g1.held n hn ho]
              exact Nat.le_trans cnt_le (n_pos ok (g1.cls n hn ho)).2
            · omega
          omega
      have h9 := this c.cf.np
      have := ok.npb
      omega
    have hld : s1.held i ≤ 16384 := by
      rw [g1.held i h1 h2]
      exact Nat.le_trans cnt_le (by rw [h3]; exact (n_pos ok hk).2)
    have hgen := g1.gen i x
    have hpb : p ≤ 1073741824 - 64 ∧ p < c.cf.ps * c.cf.np := by
      have := there_of ok hk h1 h5 0 64 (by omega)
      rw [Nat.add_zero, ← hpe] at this
      obtain ⟨-, -, t3, -⟩ := this
      have := Nat.mul_le_mul ok.psb ok.npb
      omega
    have th1 := there_of ok hk h1 h5 0 56 (by omega)
    have th2 := there_of ok hk h1 h5 12 4 (by omega)
    rw [Nat.add_zero, ← hpe] at th1
    rw [← hpe] at th2
    have hn2 := (n_pos ok hk).2
    have q1 : IntKind.i64.wrap (((l.length + 1 : Nat) : Int) - 1) = (l.length : Int) := by rw [IntWalk.i64_in _ (by omega)]; omega
    have q1' : IntKind.i64.wrap ((l.length : Int) + 1 - 1) = (l.length : Int) := by rw [IntWalk.i64_in _ (by omega)]; omega
    have l0 : (0 : Int) ≤ (l.length : Int) := by omega
    have q1w : IntKind.i64.wrap (l.length : Int) = (l.length : Int) := IntWalk.i64_in _ (by omega)
    have l1 : (l.length : Int) < ((l.length + 1 : Nat) : Int) := by omega
    have l1' : (l.length : Int) < (l.length : Int) + 1 := by omega
    have l2 : l.length < l.length + 1 := Nat.lt_succ_self _
    have hcap : l.length + 1 ≤ cap := by
      rcases own1.2 with ⟨hv, -⟩ | ⟨g', cap', cur, hv, -, -, hc, -⟩
      · cases hv
      · injection hv with _ _ e; omega
    have hc1 : (l.length : Int) ≤ (cap : Int) := by omega
    have hc2 : l.length ≤ cap := by omega
    have HC := Lib.hid fun W => handleC W p (s1.gens i x) (by omega) hgen
    replace hpe := Lib.hid hpe
    replace hTake := Lib.hid hTake
    replace H1 := Lib.hid H1
    replace W1 := Lib.hid W1
    replace ok := Lib.hid ok
    replace own1 := Lib.hid own1
    replace own2 := Lib.hid own2
    replace e2' := Lib.hid e2'
    replace e2 := Lib.hid e2
    replace e1 := Lib.hid e1
    replace hp := Lib.hid hp
    replace hF := Lib.hid hF
    clear HW own r0 c10 IC hS
    go_upto_region 6 with fail
    go_quiet (fail)
    go_upto_region 7 with fail
    obtain ⟨w2, hw2⟩ : ∃ w2, w2 = wc.drewN nq := ⟨_, rfl⟩
    rw [← hw2]
    have H2 : SetAt w2 L1 c s1 bs := by rw [hw2]; exact H1.out.drewN nq
    have W2 : Went w w2 L L1 c s s1 := by rw [hw2]; exact W1.out.next ((Only.refl _ _).drewN nq) (fun _ => rfl)
    have own3 : w2.ownsRow 0 3 1 (.slice (some ⟨b, 0, none⟩) l.length cap) l.length (l.map iv) := by rw [hw2]; exact own2.out
    have r0 : w2.cell? ⟨L.gr, k * 4, none⟩ = some (.slice (some ⟨b, 0, none⟩) (l.length + 1) cap) := by rw [hw2]; exact r0'
    have z0 : w2.frozen? ⟨L.gr, k * 4, none⟩ = false := by rw [← egr]; exact H2.fzR _
    replace hw2 := Lib.hid hw2
    replace H2 := Lib.hid H2
    replace W2 := Lib.hid W2
    replace own3 := Lib.hid own3
    clear H1 W1 own1 own2 r0' cp hw2
    go_still_tail 14, (by kernel_rfl)
    change wpList _ _ _ _ _ w2.drew
    go_upto_region 8 with fail
    obtain ⟨L3, hL3⟩ : ∃ L3, L3 = ({ L1 with F := upd L1.F k (.slice (some ⟨b, 0, none⟩) l.length cap) } : Lay) := ⟨_, rfl⟩
    obtain ⟨w3, hw3⟩ : ∃ w3, w3 = (w2.setCell ⟨L.gr, k * 4, none⟩ (.slice (some ⟨b, 0, none⟩) l.length cap)).drew := ⟨_, rfl⟩
    rw [← hw3]
    obtain ⟨s3, hs3⟩ : ∃ s3, s3 = ({ s1 with free := upd s1.free k l } : St) := ⟨_, rfl⟩
    have hFb : (L1.F k).ownBlock = some b := by rw [hF.out]; rfl
    have H3 : SetAt w3 L3 c s3 bs := by
      rw [hw3, hL3, hs3, ← egr]
      exact (H2.out.setFree k hk (.slice (some ⟨b, 0, none⟩) l.length cap) l w2 (Only.refl (fun b' => (L1.F k).ownBlock = some b') _) (fun _ e _ => e) own3.out (fun b' e => .inl (by rw [hFb]; exact e))).drew
    have W3 : Went w w3 L L3 c s s3 := by
      rw [hw3, hL3, hs3, ← egr]
      refine W2.out.next ((Only.refl _ w2).setCell (p := ⟨L1.gr, k * 4, none⟩) (fun _ => ⟨.rows, rfl⟩) _).drew fun q => ?_
      cases q with
      | free j =>
        by_cases hj : j = k
        · subst hj
          show (if j < c.cf.nc then (upd L1.F j (Value.slice (some ⟨b, 0, none⟩) l.length cap) j).ownBlock else none) = (if j < c.cf.nc then (L1.F j).ownBlock else none)
          rw [upd_at, hFb]; rfl
        · show (if j < c.cf.nc then (upd L1.F k (Value.slice (some ⟨b, 0, none⟩) l.length cap) j).ownBlock else none) = (if j < c.cf.nc then (L1.F j).ownBlock else none)
          rw [upd_ne _ _ hj]
      | _ => rfl
    have e3g : L3.g = L.g := by rw [hL3]; exact eg
    have e3r : L3.gr = L.gr := by rw [hL3]; exact egr
    have t1 : s3.own = s1.own := by rw [hs3]
    have t2 : s3.cls = s1.cls := by rw [hs3]
    have t3 : s3.tkn = s1.tkn := by rw [hs3]
    have t4 : s3.held = s1.held := by rw [hs3]
    have t5 : s3.rt = s1.rt := by rw [hs3]
    have t6 : s3.gens = s1.gens := by rw [hs3]
    have r1 := H3.r1 hk
    have z1 := H3.fzR (k * 4 + 1)
    rw [e3r] at r1 z1
    rw [t5] at r1
    replace hs3 := Lib.hid hs3
    replace hL3 := Lib.hid hL3
    replace hw3 := Lib.hid hw3
    replace H3 := Lib.hid H3
    replace W3 := Lib.hid W3
    clear H2 W2 own3 r0 z0 hFb
    have q2 : IntKind.i64.wrap ((s1.rt k : Int) + 1) = (s1.rt k : Int) + 1 := IntWalk.i64_in _ (by omega)
    go_upto_region 9 with fail
    obtain ⟨w4, hw4⟩ : ∃ w4, w4 = w3.setCell ⟨L.gr, k * 4 + 1, none⟩ (.int .i64 ((s1.rt k : Int) + 1)) := ⟨_, rfl⟩
    rw [← hw4]
    have H4 : SetAt w4 L3 c { s3 with rt := upd s3.rt k (s1.rt k + 1) } bs := by
      rw [hw4, ← e3r, show ((s1.rt k : Int) + 1) = ((s1.rt k + 1 : Nat) : Int) by omega]
      exact H3.out.setRt k (s1.rt k + 1) hk
    have W4 : Went w w4 L L3 c s { s3 with rt := upd s3.rt k (s1.rt k + 1) } := by
      rw [hw4, ← e3r]
      exact W3.out.next (only_at w3 _ _ _ ⟨.rows, rfl⟩) (fun q => by cases q <;> rfl)
    have d0 := H4.cPs
    have d8 := H4.cSizes
    have d9 := H4.cPages
    have d7 := H4.cArena
    rw [e3g] at d0 d7 d8 d9
    have dz := H4.sz hk
    have i0 : (0 : Int) ≤ (i : Int) := by omega
    have i1 : (i : Int) < (c.cf.np : Int) := by omega
    have x0 : (0 : Int) ≤ (x : Int) := by omega
    have x1 : (x : Int) < (c.cf.n k : Int) := by have : x < c.cf.n k := h5; omega
    have b5 := ok.out.ps
    have b6 := (ok.out.sz k hk).1
    have z2 : ¬ (c.cf.ps : Int) = 0 := by omega
    have z3 : ¬ (c.sz k : Int) = 0 := by have : 64 ≤ c.sz k := b6; omega
    have q3 : ((p : Int)).tdiv (c.cf.ps : Int) = (i : Int) := by rw [tdivN, e1.out]
    have q4 : IntKind.i64.wrap (i : Int) = (i : Int) := IntWalk.i64_in _ (by have := ok.out.npb; omega)
    obtain ⟨r, hr⟩ : ∃ r, r = p % c.cf.ps := ⟨_, rfl⟩
    have hrb : r ≤ p := by rw [hr]; exact Nat.mod_le _ _
    have q5 : ((p : Int)).tmod (c.cf.ps : Int) = (r : Int) := by rw [tmodN, hr]
    have q6 : IntKind.i64.wrap (r : Int) = (r : Int) := IntWalk.i64_in _ (by omega)
    have q7 : ((r : Int)).tdiv (c.sz k : Int) = (x : Int) := by rw [tdivN, hr]; exact congrArg _ e2.out
    have q8 : IntKind.i64.wrap (x : Int) = (x : Int) := IntWalk.i64_in _ (by omega)
    replace hr := Lib.hid hr
    replace hw4 := Lib.hid hw4
    replace H4 := Lib.hid H4
    replace W4 := Lib.hid W4
    clear H3 W3 r1 z1 q2
    go_quiet (fail)
    rename Nat => nq1
    go_upto_region 10 with fail
    go_quiet (fail)
    rename Nat => nq2
    go_upto_region 11 with fail
    obtain ⟨w5, hw5⟩ : ∃ w5, w5 = (w4.drewN nq1).drewN nq2 := ⟨_, rfl⟩
    rw [← hw5]
    have H5 : SetAt w5 L3 c { s3 with rt := upd s3.rt k (s1.rt k + 1) } bs := by rw [hw5]; exact (H4.out.drewN _).drewN _
    have W5 : Went w w5 L L3 c s { s3 with rt := upd s3.rt k (s1.rt k + 1) } := by rw [hw5]; exact W4.out.next (((Only.refl _ _).drewN _).drewN _) (fun _ => rfl)
    replace hw5 := Lib.hid hw5
    have ho5 : ({ s3 with rt := upd s3.rt k (s1.rt k + 1) } : St).own i = true := by rw [t1]; exact h2
    have hc5 : ({ s3 with rt := upd s3.rt k (s1.rt k + 1) } : St).cls i = k := by rw [t2]; exact h3
    have p4 := H5.p4 h1 ho5
    rw [hc5] at p4
    have tk := H5.tk h1 ho5 (x := x) (by rw [hc5]; exact h5)
    have zt : w5.frozen? ⟨L3.T i, x, none⟩ = false := (H5.tknB h1 ho5).frozen x
    have H6 := H5.setTkn i x true h1 ho5 (by rw [hc5]; exact h5)
    have W6 := W5.next (L2 := L3) (s2 := { s3 with rt := upd s3.rt k (s1.rt k + 1), tkn := upd s3.tkn i (upd (s3.tkn i) x true) }) (only_at w5 (L3.T i) x (.bool true) ⟨.tkn i, if_pos ⟨h1, ho5⟩⟩) (fun q => by cases q <;> rfl)
    obtain ⟨w6, hw6⟩ : ∃ w6, w6 = w5.setCell ⟨L3.T i, x, none⟩ (.bool true) := ⟨_, rfl⟩
    rw [← hw6] at H6 W6
    replace H5 := Lib.hid H5
    replace W5 := Lib.hid W5
    replace H6 := Lib.hid H6
    replace W6 := Lib.hid W6
    clear d0 d7 d8 d9 dz H4 W4
    clear hr
    go_upto_region 12 with fail
    rw [← hw6]
    obtain ⟨s6, hs6⟩ : ∃ s6, s6 = ({ s3 with rt := upd s3.rt k (s1.rt k + 1), tkn := upd s3.tkn i (upd (s3.tkn i) x true) } : St) := ⟨_, rfl⟩
    have H6' : SetAt w6 L3 c s6 bs := by rw [hs6]; exact H6.out
    have W6' : Went w w6 L L3 c s s6 := by rw [hs6]; exact W6.out
    have u4 : s6.held = s1.held := by rw [hs6]; exact t4
    have u6 : s6.gens = s1.gens := by rw [hs6]; exact t6
    have u1 : s6.own i = true := by rw [hs6]; exact ho5
    have u2 : s6.cls i = k := by rw [hs6]; exact hc5
    have p5 := H6'.p5 h1
    have z5 := H6'.fzP (i * 7 + 5)
    rw [u4] at p5
    have q9 : IntKind.i64.wrap ((s1.held i : Int) + 1) = (s1.held i : Int) + 1 := IntWalk.i64_in _ (by omega)
    obtain ⟨s7, hs7⟩ : ∃ s7, s7 = ({ s6 with held := upd s6.held i (s1.held i + 1) } : St) := ⟨_, rfl⟩
    have H7 : SetAt (w6.setCell ⟨L3.gp, i * 7 + 5, none⟩ (.int .i64 ((s1.held i : Int) + 1))) L3 c s7 bs := by
      rw [show ((s1.held i : Int) + 1) = ((s1.held i + 1 : Nat) : Int) by omega, hs7]
      exact H6'.setHeld i (s1.held i + 1) h1
    have W7 : Went w (w6.setCell ⟨L3.gp, i * 7 + 5, none⟩ (.int .i64 ((s1.held i : Int) + 1))) L L3 c s s7 := by
      rw [hs7]
      exact W6'.next (only_at w6 L3.gp (i * 7 + 5) _ ⟨.pages, rfl⟩) (fun q => by cases q <;> rfl)
    obtain ⟨w7, hw7⟩ : ∃ w7, w7 = w6.setCell ⟨L3.gp, i * 7 + 5, none⟩ (.int .i64 ((s1.held i : Int) + 1)) := ⟨_, rfl⟩
    rw [← hw7] at H7 W7
    have v1 : s7.own i = true := by rw [hs7]; exact u1
    have v2 : s7.cls i = k := by rw [hs7]; exact u2
    have v6 : s7.gens = s1.gens := by rw [hs7]; exact u6
    have e7 : takeS c.cf s1 k p = s7 := by
      rw [hTake.out, hs7, hs6, hs3.out]
    replace hw7 := Lib.hid hw7
    replace H7 := Lib.hid H7
    replace W7 := Lib.hid W7
    replace e7 := Lib.hid e7
    clear H5 W5 H6 W6 H6' W6' p4 tk zt hw6 ho5 hc5 hs6 hs7 hTake hs3 hL3 hw5 hw4 hw3 u1 u2 u4 u6 t1 t2 t3 t4 t5 t6 q3 q5 q6 q7
    go_upto_region 13 with fail
    rw [← hw7.out]
    have d7 := H7.out.cArena
    rw [e3g] at d7
    have A7 := H7.out.arena ok.out
    have F7 := Arena.fillYes w7 L3.ga L3.ha c.cf.ps bs A7 (p : Int) 56 0 (by rw [H7.out.len]; exact th1)
    rw [show ((((0 : UInt8)).toNat : Nat) : Int) = 0 from rfl] at F7
    replace F7 := Lib.hid F7
    clear A7 p5 z5 q9
    go_wp2_with fail
    refine F7.out.mono ?_
    rintro e w8 ⟨rfl, A8, o8, hs8⟩
    obtain ⟨bs8, hb8⟩ : ∃ b, b = lay bs p (List.replicate 56 0) := ⟨_, rfl⟩
    have A8' : Arena.At w8 L3.ga L3.ha c.cf.ps bs8 := by rw [hb8]; exact A8
    have hb8l : bs8.length = bs.length := by
      rw [hb8]
      refine lay_len _ _ _ ?_
      have := th1
      rw [← H7.out.len] at this
      obtain ⟨-, -, a3, -⟩ := this
      rw [List.length_replicate]
      omega
    have H8 : SetAt w8 L3 c s7 bs8 := H7.out.laid o8 A8'.bytes hb8l
    have W8 : Went w w8 L L3 c s s7 := W7.out.next (o8.mono fun b _ e => ⟨.bytes, by rw [e]; rfl⟩) (fun q => rfl)
    replace hb8 := Lib.hid hb8
    have d7 := H8.cArena
    rw [e3g] at d7
    have p3 := H8.p3 h1 v1
    rw [v2] at p3
    have gn := H8.gen h1 v1 (x := x) (by rw [v2]; exact h5)
    rw [v6] at gn
    have q10 : IntKind.i64.wrap ((p : Int) + 12) = (p : Int) + 12 := IntWalk.i64_in _ (by omega)
    have th3 : Arena.There c.cf.ps bs8.length ((p : Int) + 12) 4 := by
      have := th2
      rw [← H7.out.len, ← hb8l] at this
      exact this
    have P8 := Arena.putYes_u32 w8.drew L3.ga L3.ha c.cf.ps bs8 (H8.drew.arena ok.out) ((p : Int) + 12) (s1.gens i x) hgen th3
    replace P8 := Lib.hid P8
    replace H8 := Lib.hid H8
    replace W8 := Lib.hid W8
    clear A8 A8' o8 hs8 F7 H7 W7 hw7
    go_upto_region 14 with fail
    go_still_tail 13, (by kernel_rfl)
    change wpList _ _ _ _ _ w8.drew
    go_wp2_with fail
    refine P8.out.mono ?_
    rintro e w9 ⟨rfl, A9, o9, hs9⟩
    obtain ⟨bs9, hb9⟩ : ∃ b, b = lay bs8 (p + 12) (Arena.putB 4 (s1.gens i x)) := ⟨_, rfl⟩
    have e12 : ((p : Int) + 12).toNat = p + 12 := by omega
    have A9' : Arena.At w9 L3.ga L3.ha c.cf.ps bs9 := by rw [hb9, ← e12]; exact A9
    have hb9l : bs9.length = bs8.length := by
      rw [hb9]
      refine lay_len _ _ _ ?_
      obtain ⟨-, -, a3, -⟩ := th3
      rw [Arena.putB_len]
      omega
    have H9 : SetAt w9 L3 c s7 bs9 := H8.out.drew.laid o9 A9'.bytes hb9l
    have W9 : Went w w9 L L3 c s s7 := W8.out.next ((Only.refl _ _).drew.trans o9 (fun b _ e => ⟨.bytes, by rw [e]; rfl⟩)) (fun q => rfl)
    have p3 := H9.p3 h1 v1
    rw [v2] at p3
    have gn := H9.gen h1 v1 (x := x) (by rw [v2]; exact h5)
    rw [v6] at gn
    have hb : bs9 = takeB bs p (s1.gens (p / c.cf.ps) (p % c.cf.ps / c.sz k)) := by
      rw [hb9, hb8.out, e1.out, e2'.out]; rfl
    rw [hb, ← e7.out] at H9
    rw [← e7.out] at W9
    have hpg : hnd p (s1.gens (p / c.cf.ps) (p % c.cf.ps / c.sz k)) = hnd p (s1.gens i x) := by rw [e1.out, e2'.out]
    replace hpg := Lib.hid hpg
    replace H9 := Lib.hid H9
    replace W9 := Lib.hid W9
    replace hb := Lib.hid hb
    replace hb9 := Lib.hid hb9
    clear H8 W8 P8 A9 A9' o9 hs9 e12 hb9l d7 q10 hb
    go_wp2_with fail
    refine (HC.out _).mono ?_
    rintro e w' ⟨rfl, rfl⟩
    go_wp2
    go_ret2
    have hret : Ending.returned (.tuple #[.int .u64 (hnd p (s1.gens i x) : Int), .int .i64 0]) = .returned (.tuple #[.int .u64 (hnd p (s1.gens (p / c.cf.ps) (p % c.cf.ps / c.sz k)) : Int), .int .i64 0]) := by rw [hpg.out]
    exact ⟨hret, L3, e3g, H9.out, W9.out⟩
end Go.Proofs.YtngehaiigbbknaaGreat.Cls
/-
  The walks of wakes and of ItemNames.
-/
namespace Go.Proofs.YtngehaiigbbknaaGreat.Itm
open Go.RowKit Base Arena Cls
set_option linter.unusedVariables false

theorem take_gen {bs : List UInt8} {p g : Nat} (h : p + 56 ≤ bs.length) : ((takeB bs p g).drop (p + 12)).take 4 = putB 4 g := by
  have e : (lay bs p (List.replicate 56 0)).length = bs.length := lay_len _ _ _ (by simpa using h)
  have := piece_lay (lay bs p (List.replicate 56 0)) (p + 12) (putB 4 g) (by rw [putB_len]; omega)
  rw [putB_len] at this
  exact this
theorem take_len {bs : List UInt8} {p g : Nat} (h : p + 56 ≤ bs.length) : (takeB bs p g).length = bs.length := by
  have e : (lay bs p (List.replicate 56 0)).length = bs.length := lay_len _ _ _ (by simpa using h)
  unfold takeB
  rw [putlen _ _ _ _ (by omega), e]
end Go.Proofs.YtngehaiigbbknaaGreat.Itm
/-
  Two chunks of a new Set, as they are taken.
-/
namespace Go.Proofs.YtngehaiigbbknaaGreat.Itm
open Go.RowKit Base Arena Cls
set_option linter.unusedVariables false

theorem zero_at {bs : List UInt8} {p : Nat} (h : p + 56 ≤ bs.length) : rd (lay bs p (List.replicate 56 0)) (p + 44) 1 = 0 := by
  have : ((lay bs p (List.replicate 56 0)).drop (p + 44)).take 1 = [0] := by
    apply List.ext_getElem?
    intro j
    rw [piece_get]
    split
    · rename_i hj
      obtain rfl : j = 0 := by omega
      rw [lay_get _ _ _ (by simpa using h), if_pos (by simp)]
      rw [List.getElem?_replicate, if_pos (by omega)]
      rfl
    · rename_i hj
      rw [List.getElem?_eq_none (by simp; omega)]
  unfold rd
  rw [this]
  rfl
theorem take_zero {bs : List UInt8} {p g : Nat} (h : p + 56 ≤ bs.length) : rd (takeB bs p g) (p + 44) 1 = 0 := by
  have e : (lay bs p (List.replicate 56 0)).length = bs.length := lay_len _ _ _ (by simpa using h)
  unfold takeB
  rw [rd_out _ _ _ _ _ (by rw [putB_len]; omega) (by rw [putB_len]; omega)]
  exact zero_at h
/-- What stands away from a chunk that is taken. -/
theorem take_far {bs : List UInt8} {p g a n : Nat} (h : p + 56 ≤ bs.length) (ha : a + n ≤ p ∨ p + 56 ≤ a) : ((takeB bs p g).drop a).take n = (bs.drop a).take n := by
  have e : (lay bs p (List.replicate 56 0)).length = bs.length := lay_len _ _ _ (by simpa using h)
  unfold takeB
  rw [piece_out _ _ _ _ _ (by rw [putB_len]; omega) (by rw [putB_len]; omega), piece_out _ _ _ _ _ (by simpa using h) (by simpa using ha)]
end Go.Proofs.YtngehaiigbbknaaGreat.Itm
/-
  The document's Set in plain numbers: its state, what Take and Give make of it, and how it goes with the program's.
-/
namespace Go.Proofs.YtngehaiigbbknaaGreat.Cls

/-- A chunk as the document keeps it. -/
structure RC where
  place : Nat
  cls : Nat
  gen : Nat
  tk : Bool
  gone : Bool
structure RS where
  own : Nat → Option Nat
  lvs : Nat → Bool
  ch : List RC
  rows : Nat → List Nat
def rnew0 : RS := ⟨fun _ => none, fun _ => false, [], fun _ => []⟩
def RC.name (x : RC) : Nat := hnd x.place x.gen
/-- The generation of the last chunk that begins at a place. -/
def rgen (l : List RC) (p : Nat) : Nat := ((l.reverse.find? fun x => x.place == p).map (·.gen)).getD 0
def rcuts (d : Cf) (l : List RC) (k i : Nat) (n : Nat) : List RC := (List.range n).map fun x => ⟨i * d.ps + x * d.sz k, k, rgen l (i * d.ps + x * d.sz k), false, false⟩
def rpage (d : Cf) (r : RS) (k i : Nat) : RS := { r with
  own := upd r.own i (some k), ch := r.ch ++ rcuts d r.ch k i (d.n k), rows := upd r.rows k (r.rows k ++ ((List.range (d.n k)).map (r.ch.length + ·)).reverse) }
def RC.taken (x : RC) : RC := { x with tk := true }
def rtake (r : RS) (k j : Nat) : RS := { r with ch := r.ch.modify j RC.taken, rows := upd r.rows k (r.rows k).dropLast }
theorem rgen_app (l : List RC) (x : RC) (p : Nat) : rgen (l ++ [x]) p = if x.place = p then x.gen else rgen l p := by
  unfold rgen
  rw [List.reverse_append, List.reverse_singleton, List.singleton_append, List.find?_cons]
  by_cases h : x.place = p
  · rw [if_pos h, show (x.place == p) = true by simpa using h]; rfl
  · rw [if_neg h, show (x.place == p) = false by simpa using h]
theorem rgen_none {l : List RC} {p : Nat} (h : ∀ x ∈ l, x.place ≠ p) : rgen l p = 0 := by
  unfold rgen
  rw [List.find?_eq_none.2]
  · rfl
  · intro x hx
    simpa using h x (List.mem_reverse.1 hx)
theorem rgen_apps (l m : List RC) (p : Nat) (h : ∀ x ∈ m, x.place ≠ p) : rgen (l ++ m) p = rgen l p := by
  unfold rgen
  rw [List.reverse_append, List.find?_append, List.find?_eq_none.2, Option.none_or]
  intro x hx
  simpa using h x (List.mem_reverse.1 hx)
/-- The last chunk of a place tells its generation. -/
theorem rgen_last {l : List RC} {j : Nat} {x : RC} (hj : l[j]? = some x) (hl : ∀ j', j < j' → ∀ y, l[j']? = some y → y.place ≠ x.place) : rgen l x.place = x.gen := by
  have e : l = l.take (j + 1) ++ l.drop (j + 1) := (List.take_append_drop _ _).symm
  rw [e, rgen_apps, List.take_add_one, hj]
  · show rgen (l.take j ++ [x]) x.place = x.gen
    rw [rgen_app, if_pos rfl]
  · intro y hy
    obtain ⟨n, hn, hy'⟩ := List.getElem_of_mem hy
    refine hl (j + 1 + n) (by omega) y ?_
    rw [← hy', List.getElem_drop, List.getElem?_eq_getElem]

/-- The document's Set goes with the program's. -/
structure Rel (d : Cf) (s : St) (r : RS) : Prop where
  own : ∀ i, i < d.np → r.own i = if s.own i then some (s.cls i) else none
  lvs : ∀ i, i < d.np → r.lvs i = s.lvs i
  has : ∀ i x, i < d.np → s.own i = true → x < d.n (s.cls i) → ∃ j : Nat, r.ch[j]? = some ⟨i * d.ps + x * d.sz (s.cls i), s.cls i, s.gens i x, s.tkn i x, false⟩
  live : ∀ (j : Nat) (y : RC), r.ch[j]? = some y → y.gone = false → ∃ i x, i < d.np ∧ s.own i = true ∧ x < d.n (s.cls i) ∧ y = ⟨i * d.ps + x * d.sz (s.cls i), s.cls i, s.gens i x, s.tkn i x, false⟩
  gone : ∀ (j : Nat) (y : RC), r.ch[j]? = some y → y.gone = true → y.tk = false
  last : ∀ (j j' : Nat) (y y' : RC), j < j' → r.ch[j]? = some y → r.ch[j']? = some y' → y.place = y'.place → y.gone = true
  row : ∀ k, k < d.nc → (r.rows k).map (fun j => r.ch[j]?.map (fun y => (y.place, y.gone))) = (s.free k).map fun p => some (p, false)
  pl : ∀ (j : Nat) (y : RC), r.ch[j]? = some y → y.place < d.np * d.ps
  old : ∀ i o, i < d.np → o < d.ps → rgen r.ch (i * d.ps + o) = if s.own i = true ∧ o % d.sz (s.cls i) = 0 ∧ o / d.sz (s.cls i) < d.n (s.cls i) then s.gens i (o / d.sz (s.cls i)) else s.old i o
theorem rel_new (d : Cf) : Rel d (new0 d) rnew0 where
  own := fun _ _ => rfl
  lvs := fun _ _ => rfl
  has := fun _ _ _ h => by cases h
  live := fun _ _ h => by cases h
  gone := fun _ _ h => by cases h
  last := fun _ _ _ _ _ h => by cases h
  row := fun _ _ => rfl
  pl := fun _ _ h => by cases h
  old := fun _ _ _ _ => by simp [new0, rnew0, rgen]
section
variable {d : Cf} (ok : d.Ok) {s : St} (g : Good d s) {r : RS} (h : Rel d s r)
include h
/-- A taken chunk's place names one page and chunk; two chunks of one place that are not gone are one. -/
theorem Rel.uniq {j j' : Nat} {y y' : RC} (h1 : r.ch[j]? = some y) (h2 : r.ch[j']? = some y') (g1 : y.gone = false) (g2 : y'.gone = false) (e : y.place = y'.place) : j = j' := by
  rcases Nat.lt_trichotomy j j' with hl | hl | hl
  · rw [h.last j j' y y' hl h1 h2 e] at g1; cases g1
  · exact hl
  · rw [h.last j' j y' y hl h2 h1 e.symm] at g2; cases g2
include ok g
end
end Go.Proofs.YtngehaiigbbknaaGreat.Cls
/-
  How Take and Give of the document's Set go with the program's, in plain numbers.
-/
namespace Go.Proofs.YtngehaiigbbknaaGreat.Cls

theorem rgen_skip (a b : List RC) (y : RC) (p : Nat) (h : y.place ≠ p) : rgen (a ++ y :: b) p = rgen (a ++ b) p := by
  unfold rgen
  have hy : (y.place == p) = false := by simpa using h
  simp only [List.reverse_append, List.reverse_cons, List.find?_append, List.find?_cons, hy, List.find?_nil, Option.or_none]
theorem modify_cut (l : List RC) (j : Nat) (f : RC → RC) {y : RC} (hj : l[j]? = some y) : l = l.take j ++ y :: l.drop (j + 1) ∧ l.modify j f = l.take j ++ f y :: l.drop (j + 1) := by
  obtain ⟨hl, he⟩ := List.getElem?_eq_some_iff.1 hj
  have e : l = l.take j ++ y :: l.drop (j + 1) := by
    rw [← he, List.getElem_cons_drop, List.take_append_drop]
  refine ⟨e, ?_⟩
  apply List.ext_getElem?
  intro n
  rw [List.getElem?_modify]
  by_cases h1 : j = n
  · subst h1
    rw [hj, List.getElem?_append_right (by simp; omega)]
    simp [Nat.min_eq_left (Nat.le_of_lt hl)]
  · simp only [if_neg h1, Option.map_id_fun', id_eq]
    rw [List.getElem?_append]
    split
    · rename_i h2
      simp only [List.length_take] at h2
      rw [List.getElem?_take, if_pos (by omega)]
      cases l[n]? <;> rfl
    · rename_i h2
      simp only [List.length_take] at h2
      have e2 : n - (l.take j).length = (n - j - 1) + 1 := by simp only [List.length_take, Nat.min_eq_left (Nat.le_of_lt hl)] at h2 ⊢; omega
      have e3 : j + 1 + (n - j - 1) = n := by simp only [Nat.min_eq_left (Nat.le_of_lt hl)] at h2; omega
      rw [e2, List.getElem?_cons_succ, List.getElem?_drop, e3]
      cases l[n]? <;> rfl
theorem rgen_modify (l : List RC) (j : Nat) (f : RC → RC) {y : RC} (hj : l[j]? = some y) (hf : (f y).place = y.place) (hl : ∀ j', j < j' → ∀ z, l[j']? = some z → z.place ≠ y.place) (p : Nat) :
    rgen (l.modify j f) p = if p = y.place then (f y).gen else rgen l p := by
  obtain ⟨e1, e2⟩ := modify_cut l j f hj
  split
  · rename_i h
    subst h
    rw [← hf]
    refine rgen_last (j := j) ?_ fun j' hj' z hz => ?_
    · rw [List.getElem?_modify_eq, hj]; rfl
    · rw [List.getElem?_modify_ne _ _ (by omega)] at hz
      rw [hf]
      exact hl j' hj' z hz
  · rename_i h
    rw [e2, rgen_skip _ _ _ _ (by rw [hf]; exact fun e => h e.symm)]
    conv => rhs; rw [e1]
    rw [rgen_skip _ _ _ _ (fun e => h e.symm)]
/-- The places of a new page's chunks, the highest first. -/
theorem freesTo_all {d : Cf} {s : St} {i : Nat} : ∀ n, (∀ x, x < n → s.tkn i x = false) → freesTo d s i n = ((List.range n).map fun x => i * d.ps + x * d.sz (s.cls i)).reverse
  | 0, _ => rfl
  | n + 1, h => by
    unfold freesTo
    rw [if_neg (by rw [h n (by omega)]; simp), freesTo_all n (fun x hx => h x (by omega)), List.range_succ, List.map_append, List.reverse_append]
    rfl
theorem rcuts_at (d : Cf) (l : List RC) (k i n x : Nat) : (rcuts d l k i n)[x]? = if x < n then some ⟨i * d.ps + x * d.sz k, k, rgen l (i * d.ps + x * d.sz k), false, false⟩ else none := by
  unfold rcuts
  rw [List.getElem?_map]
  split
  · rename_i h; rw [List.getElem?_range h]; rfl
  · rename_i h; rw [List.getElem?_eq_none (by simp; omega)]; rfl
theorem rcuts_len (d : Cf) (l : List RC) (k i n : Nat) : (rcuts d l k i n).length = n := by simp [rcuts]
/-- A chunk's place is in its page. -/
theorem place_page {d : Cf} (ok : d.Ok) {k i x : Nat} (hk : k < d.nc) (hx : x < d.n k) : i * d.ps ≤ i * d.ps + x * d.sz k ∧ i * d.ps + x * d.sz k < (i + 1) * d.ps := by
  obtain ⟨-, -, -, p4, -⟩ := place_of ok (i := i) hk hx
  have := (ok.sz k hk).1
  rw [Nat.succ_mul]
  omega
section
variable {d : Cf} (ok : d.Ok) {s : St} (g : Good d s) {r : RS} (h : Rel d s r)
include h
theorem Rel.row_at {k : Nat} (hk : k < d.nc) {j : Nat} (hj : j ∈ r.rows k) : ∃ y, r.ch[j]? = some y ∧ y.gone = false ∧ y.place ∈ s.free k := by
  have e := h.row k hk
  have hm : (r.ch[j]?.map fun y => (y.place, y.gone)) ∈ (s.free k).map fun p => some (p, false) := by
    rw [← e]
    exact List.mem_map_of_mem (f := fun j => r.ch[j]?.map fun y => (y.place, y.gone)) hj
  obtain ⟨p, hp, he⟩ := List.mem_map.1 hm
  cases hc : r.ch[j]? with
  | none => rw [hc] at he; cases he
  | some y =>
    rw [hc] at he
    simp only [Option.map_some, Option.some.injEq, Prod.mk.injEq] at he
    exact ⟨y, rfl, he.2.symm, by rw [← he.1]; exact hp⟩
theorem Rel.row_len {k : Nat} (hk : k < d.nc) : (r.rows k).length = (s.free k).length := by
  have := congrArg List.length (h.row k hk)
  simpa using this
include ok g
/-- A page comes to a class. -/
theorem Rel.page {k i : Nat} (hk : k < d.nc) (hi : i < d.np) (ho : s.own i = false) : Rel d (widenS d s k i) (rpage d r k i) := by
  have hcl : (widenS d s k i).cls = upd s.cls i k := rfl
  have how : (widenS d s k i).own = upd s.own i true := rfl
  have hgn : (widenS d s k i).gens = upd s.gens i (fun x => if x < d.n k then s.old i (x * d.sz k) else 0) := rfl
  have htk : (widenS d s k i).tkn = upd s.tkn i (fun _ => false) := rfl
  have hol : (widenS d s k i).old = s.old := rfl
  have hlv : (widenS d s k i).lvs = s.lvs := rfl
  have hrl : ∀ x, x < d.n k → rgen r.ch (i * d.ps + x * d.sz k) = s.old i (x * d.sz k) := fun x hx => by
    obtain ⟨-, p2⟩ := place_page ok (i := i) hk hx
    rw [Nat.succ_mul] at p2
    rw [h.old i (x * d.sz k) hi (by omega), if_neg (by rw [ho]; simp)]
  have hlen : ∀ {j : Nat} {y : RC}, r.ch[j]? = some y → j < r.ch.length := fun hj => (List.getElem?_eq_some_iff.1 hj).1
  have hold : ∀ {j : Nat} {y : RC}, r.ch[j]? = some y → (r.ch ++ rcuts d r.ch k i (d.n k))[j]? = some y := fun hj => by rw [List.getElem?_append_left (hlen hj)]; exact hj
  have hcase : ∀ {j : Nat} {y : RC}, (r.ch ++ rcuts d r.ch k i (d.n k))[j]? = some y → r.ch[j]? = some y ∨ r.ch.length ≤ j ∧ ∃ x, j = r.ch.length + x ∧ x < d.n k ∧ y = ⟨i * d.ps + x * d.sz k, k, s.old i (x * d.sz k), false, false⟩ := fun {j y} hj => by
    rw [List.getElem?_append] at hj
    split at hj
    · exact .inl hj
    · rename_i hl
      rw [rcuts_at] at hj
      split at hj
      · rename_i hx
        injection hj with hj
        refine .inr ⟨by omega, j - r.ch.length, by omega, hx, ?_⟩
        rw [← hj, hrl _ hx]
      · cases hj
  have hnew : ∀ {x : Nat}, x < d.n k → (r.ch ++ rcuts d r.ch k i (d.n k))[r.ch.length + x]? = some ⟨i * d.ps + x * d.sz k, k, s.old i (x * d.sz k), false, false⟩ := fun {x} hx => by
    rw [List.getElem?_append_right (by omega), Nat.add_sub_cancel_left, rcuts_at, if_pos hx, hrl x hx]
  have hlive : ∀ (j : Nat) (y : RC), r.ch[j]? = some y → y.gone = false → y.place / d.ps ≠ i := fun j y hj hg => by
    obtain ⟨i', x, b1, b2, b3, b4⟩ := h.live j y hj hg
    obtain ⟨p1, -⟩ := place_of ok (i := i') (g.cls i' b1 b2) b3
    rw [b4]
    show (i' * d.ps + x * d.sz (s.cls i')) / d.ps ≠ i
    rw [p1]
    intro e
    subst e
    rw [ho] at b2
    cases b2
  have hnp : ∀ {x : Nat}, x < d.n k → (i * d.ps + x * d.sz k) / d.ps = i := fun hx => (place_of ok hk hx).1
  refine ⟨fun i' hi' => ?_, fun i' hi' => h.lvs i' hi', fun i' x hi' ho' hx => ?_, fun j y hj hg => ?_, fun j y hj hg => ?_, fun j j' y y' hjj hj hj' hp => ?_, fun k' hk' => ?_, fun j y hj => ?_, fun i' o hi' ho' => ?_⟩
  · show upd r.own i (some k) i' = if upd s.own i true i' then some (upd s.cls i k i') else none
    unfold upd
    split
    · rfl
    · exact h.own i' hi'
  · show ∃ j : Nat, (r.ch ++ rcuts d r.ch k i (d.n k))[j]? = _
    rw [how] at ho'
    rw [hcl] at hx ⊢
    rw [hgn, htk]
    by_cases e : i' = i
    · subst e
      rw [upd_at] at hx
      exact ⟨r.ch.length + x, by rw [hnew hx, upd_at, upd_at, upd_at, if_pos hx]⟩
    · rw [upd_ne _ _ e] at ho' hx
      obtain ⟨j, hj⟩ := h.has i' x hi' ho' hx
      exact ⟨j, by rw [hold hj, upd_ne _ _ e, upd_ne _ _ e, upd_ne _ _ e]⟩
  · rw [how, hcl, hgn, htk]
    rcases hcase hj with hj | ⟨-, x, -, hx, rfl⟩
    · obtain ⟨i', x, b1, b2, b3, b4⟩ := h.live j y hj hg
      have e : i' ≠ i := fun e => by subst e; rw [ho] at b2; cases b2
      exact ⟨i', x, b1, by rw [upd_ne _ _ e]; exact b2, by rw [upd_ne _ _ e]; exact b3, by rw [upd_ne _ _ e, upd_ne _ _ e, upd_ne _ _ e]; exact b4⟩
    · exact ⟨i, x, hi, upd_at _ _ _, by rw [upd_at]; exact hx, by rw [upd_at, upd_at, upd_at, if_pos hx]⟩
  · rcases hcase hj with hj | ⟨-, x, -, hx, rfl⟩
    · exact h.gone j y hj hg
    · cases hg
  · rcases hcase hj with hj1 | ⟨hl, x, rfl, hx, rfl⟩
    · rcases hcase hj' with hj2 | ⟨-, x', -, hx', rfl⟩
      · exact h.last j j' y y' hjj hj1 hj2 hp
      · cases hg : y.gone with
        | true => rfl
        | false =>
          have := hlive j y hj1 hg
          rw [hp] at this
          exact absurd (hnp hx') this
    · rcases hcase hj' with hj2 | ⟨-, x', rfl, hx', rfl⟩
      · have := hlen hj2; omega
      · obtain ⟨-, e⟩ := place_inj ok hk hx hx' hp
        omega
  · show (upd r.rows k (r.rows k ++ ((List.range (d.n k)).map (r.ch.length + ·)).reverse) k').map (fun j => (r.ch ++ rcuts d r.ch k i (d.n k))[j]?.map fun y => (y.place, y.gone)) = (upd s.free ((widen1 d s k i).cls i) (s.free ((widen1 d s k i).cls i) ++ frees d (widen1 d s k i) i) k').map _
    have hc1 : (widen1 d s k i).cls i = k := upd_at _ _ _
    have hsame : ∀ m, m < d.nc → (r.rows m).map (fun j => (r.ch ++ rcuts d r.ch k i (d.n k))[j]?.map fun y => (y.place, y.gone)) = (s.free m).map fun p => some (p, false) := fun m hm => by
      rw [← h.row m hm]
      refine List.map_congr_left fun j hj => ?_
      obtain ⟨y, hy, -⟩ := h.row_at hm hj
      rw [hy, hold hy]
    rw [hc1]
    by_cases e : k' = k
    · subst e
      rw [upd_at, upd_at, List.map_append, List.map_append, hsame k' hk]
      congr 1
      unfold frees
      rw [hc1, freesTo_all _ (fun x hx => by show upd s.tkn i (fun _ => false) i x = false; rw [upd_at]), hc1, List.map_reverse, List.map_reverse, List.map_map, List.map_map]
      congr 1
      refine List.map_congr_left fun x hx => ?_
      have hx := List.mem_range.1 hx
      simp only [Function.comp_apply]
      rw [hnew hx]
      rfl
    · rw [upd_ne _ _ e, upd_ne _ _ e]
      exact hsame k' hk'
  · rcases hcase hj with hj | ⟨-, x, -, hx, rfl⟩
    · exact h.pl j y hj
    · obtain ⟨-, p2⟩ := place_page ok (i := i) hk hx
      have := Nat.mul_le_mul_right d.ps (show i + 1 ≤ d.np from hi)
      show i * d.ps + x * d.sz k < d.np * d.ps
      omega
  · show rgen (r.ch ++ rcuts d r.ch k i (d.n k)) (i' * d.ps + o) = _
    rw [how, hcl, hgn, hol]
    by_cases e : i' = i
    · subst e
      rw [upd_at, upd_at, upd_at]
      have hro : rgen r.ch (i' * d.ps + o) = s.old i' o := by rw [h.old i' o hi' ho', if_neg (by rw [ho]; simp)]
      have hz := (ok.sz k hk).1
      split
      · rename_i hc
        obtain ⟨-, c2, c3⟩ := hc
        have e2 : o / d.sz k * d.sz k = o := Nat.div_mul_cancel (Nat.dvd_of_mod_eq_zero c2)
        generalize o / d.sz k = x0 at *
        have hn := hnew c3
        rw [e2] at hn
        have := rgen_last hn (fun j' hj' z hz' hp => by
          rcases hcase hz' with h1 | ⟨-, x', rfl, hx', rfl⟩
          · have := hlen h1; omega
          · have hp' : i' * d.ps + x' * d.sz k = i' * d.ps + x0 * d.sz k := by rw [e2]; exact hp
            obtain ⟨-, e3⟩ := place_inj ok hk hx' c3 hp'
            omega)
        rw [if_pos c3, e2]
        exact this
      · rename_i hc
        rw [rgen_apps, hro]
        intro z hz' hp
        obtain ⟨x', hx', rfl⟩ := List.getElem_of_mem hz'
        have hx2 : x' < d.n k := by rw [rcuts_len] at hx'; exact hx'
        have h2 : (rcuts d r.ch k i' (d.n k))[x']? = some (rcuts d r.ch k i' (d.n k))[x'] := List.getElem?_eq_getElem hx'
        rw [rcuts_at, if_pos hx2] at h2
        injection h2 with h2
        rw [← h2] at hp
        have hp : i' * d.ps + x' * d.sz k = i' * d.ps + o := hp
        have : o = x' * d.sz k := by omega
        exact hc ⟨rfl, by rw [this, Nat.mul_mod_left], by rw [this, Nat.mul_div_cancel _ (by omega)]; exact hx2⟩
    · rw [upd_ne _ _ e, upd_ne _ _ e, upd_ne _ _ e, rgen_apps, h.old i' o hi' ho']
      intro z hz' hp
      obtain ⟨x', hx', rfl⟩ := List.getElem_of_mem hz'
      have hx2 : x' < d.n k := by rw [rcuts_len] at hx'; exact hx'
      have h2 : (rcuts d r.ch k i (d.n k))[x']? = some (rcuts d r.ch k i (d.n k))[x'] := List.getElem?_eq_getElem hx'
      rw [rcuts_at, if_pos hx2] at h2
      injection h2 with h2
      rw [← h2] at hp
      have hp : i * d.ps + x' * d.sz k = i' * d.ps + o := hp
      obtain ⟨q1, q2⟩ := place_page ok (i := i) hk hx2
      rcases Nat.lt_trichotomy i i' with hl | hl | hl
      · have := Nat.mul_le_mul_right d.ps (show i + 1 ≤ i' from hl); omega
      · exact e hl.symm
      · have := Nat.mul_le_mul_right d.ps (show i' + 1 ≤ i from hl)
        rw [Nat.succ_mul] at this
        omega
end
end Go.Proofs.YtngehaiigbbknaaGreat.Cls
/-
  How Take and Give of the document's Set go with the program's: the chunk itself.
-/
namespace Go.Proofs.YtngehaiigbbknaaGreat.Cls

theorem upd2_ne {α : Type} (f : Nat → Nat → α) {i x a b : Nat} (v : α) (h : ¬ (a = i ∧ b = x)) : upd f i (upd (f i) x v) a b = f a b := by
  by_cases e : a = i
  · subst e
    rw [upd_at, upd_ne _ _ (fun e => h ⟨rfl, e⟩)]
  · rw [upd_ne _ _ e]
theorem upd2_at {α : Type} (f : Nat → Nat → α) (i x : Nat) (v : α) : upd f i (upd (f i) x v) i x = v := by rw [upd_at, upd_at]
theorem get_modify (l : List RC) (j n : Nat) (f : RC → RC) : (l.modify j f)[n]? = if j = n then l[n]?.map f else l[n]? := by
  rw [List.getElem?_modify]
  split
  · rfl
  · cases l[n]? <;> rfl
theorem rows_modify (ch : List RC) (j : Nat) {f : RC → RC} (hf : ∀ y, (f y).place = y.place ∧ (f y).gone = y.gone) (l : List Nat) :
    l.map (fun n => (ch.modify j f)[n]?.map fun y => (y.place, y.gone)) = l.map (fun n => ch[n]?.map fun y => (y.place, y.gone)) := by
  refine List.map_congr_left fun m _ => ?_
  rw [get_modify]
  split
  · cases ch[m]? with
    | none => rfl
    | some y => simp only [Option.map_some, (hf y).1, (hf y).2]
  · rfl
section
variable {d : Cf} (ok : d.Ok) {s : St} (g : Good d s) {r : RS} (h : Rel d s r)
include h
include ok g
/-- A chunk's own fields are other ones. -/
theorem Rel.change {i x j : Nat} {f : RC → RC} (hi : i < d.np) (ho : s.own i = true) (hx : x < d.n (s.cls i)) (hj : r.ch[j]? = some ⟨i * d.ps + x * d.sz (s.cls i), s.cls i, s.gens i x, s.tkn i x, false⟩)
    (s' : St) (h1 : s'.own = s.own) (h2 : s'.lvs = s.lvs) (h3 : s'.cls = s.cls) (h4 : s'.old = s.old) (ht : ∀ a b, ¬ (a = i ∧ b = x) → s'.tkn a b = s.tkn a b) (hg : ∀ a b, ¬ (a = i ∧ b = x) → s'.gens a b = s.gens a b)
    (hf : f ⟨i * d.ps + x * d.sz (s.cls i), s.cls i, s.gens i x, s.tkn i x, false⟩ = ⟨i * d.ps + x * d.sz (s.cls i), s.cls i, s'.gens i x, s'.tkn i x, false⟩)
    (rows' : Nat → List Nat) (hr : ∀ k, k < d.nc → (rows' k).map (fun n => (r.ch.modify j f)[n]?.map fun y => (y.place, y.gone)) = (s'.free k).map fun p => some (p, false)) :
    Rel d s' { r with ch := r.ch.modify j f, rows := rows' } := by
  have hup : ∀ {n : Nat} {y : RC}, (r.ch.modify j f)[n]? = some y → n = j ∧ y = ⟨i * d.ps + x * d.sz (s.cls i), s.cls i, s'.gens i x, s'.tkn i x, false⟩ ∨ n ≠ j ∧ r.ch[n]? = some y := fun {n y} hn => by
    rw [get_modify] at hn
    split at hn
    · rename_i e
      subst e
      rw [hj] at hn
      simp only [Option.map_some, Option.some.injEq] at hn
      exact .inl ⟨rfl, by rw [← hn, hf]⟩
    · rename_i e
      exact .inr ⟨fun e' => e e'.symm, hn⟩
  have hne : ∀ {n : Nat}, n ≠ j → (r.ch.modify j f)[n]? = r.ch[n]? := fun hn => by rw [get_modify, if_neg (fun e => hn e.symm)]
  have hat : (r.ch.modify j f)[j]? = some ⟨i * d.ps + x * d.sz (s.cls i), s.cls i, s'.gens i x, s'.tkn i x, false⟩ := by rw [get_modify, if_pos rfl, hj]; simp only [Option.map_some, hf]
  have hinj : ∀ {a b : Nat}, a < d.np → s.own a = true → b < d.n (s.cls a) → a * d.ps + b * d.sz (s.cls a) = i * d.ps + x * d.sz (s.cls i) → a = i ∧ b = x := fun {a b} ha hoa hb e => by
    obtain ⟨p1, -⟩ := place_of ok (i := a) (g.cls a ha hoa) hb
    obtain ⟨q1, -⟩ := place_of ok (i := i) (g.cls i hi ho) hx
    rw [e, q1] at p1
    subst p1
    obtain ⟨-, e2⟩ := place_inj ok (g.cls i hi ho) hb hx e
    exact ⟨rfl, e2⟩
  refine ⟨fun a ha => ?_, fun a ha => ?_, fun a b ha hoa hb => ?_, fun n y hn hgn => ?_, fun n y hn hgn => ?_, fun n n' y y' hnn hn hn' hp => ?_, hr, fun n y hn => ?_, fun a o ha hoo => ?_⟩
  · rw [h1, h3]; exact h.own a ha
  · rw [h2]; exact h.lvs a ha
  · rw [h3] at hb ⊢
    rw [h1] at hoa
    by_cases e : a = i ∧ b = x
    · obtain ⟨rfl, rfl⟩ := e
      exact ⟨j, hat⟩
    · obtain ⟨n, hn⟩ := h.has a b ha hoa hb
      have hnj : n ≠ j := fun e' => by
        subst e'
        rw [hj] at hn
        injection hn with hn
        injection hn with hn
        exact e (hinj ha hoa hb hn.symm)
      exact ⟨n, by rw [hne hnj, ht a b e, hg a b e]; exact hn⟩
  · rw [h1, h3]
    rcases hup hn with ⟨rfl, rfl⟩ | ⟨hnj, hn⟩
    · exact ⟨i, x, hi, ho, hx, rfl⟩
    · obtain ⟨a, b, b1, b2, b3, b4⟩ := h.live n y hn hgn
      refine ⟨a, b, b1, b2, b3, ?_⟩
      have e : ¬ (a = i ∧ b = x) := fun ⟨e1, e2⟩ => by
        subst e1 e2
        exact hnj (h.uniq hn hj hgn rfl (by rw [b4]))
      rw [ht a b e, hg a b e]
      exact b4
  · rcases hup hn with ⟨rfl, rfl⟩ | ⟨hnj, hn⟩
    · cases hgn
    · exact h.gone n y hn hgn
  · rcases hup hn with ⟨e1, e2⟩ | ⟨hnj, hn1⟩
    · rcases hup hn' with ⟨e3, e4⟩ | ⟨hnj', hn2⟩
      · omega
      · have := h.last j n' _ y' (by omega) hj hn2 (by rw [← hp, e2])
        cases this
    · rcases hup hn' with ⟨e3, e4⟩ | ⟨hnj', hn2⟩
      · exact h.last n j y _ (by omega) hn1 hj (by rw [hp, e4])
      · exact h.last n n' y y' hnn hn1 hn2 hp
  · rcases hup hn with ⟨rfl, rfl⟩ | ⟨hnj, hn⟩
    · have := h.pl _ _ hj
      exact this
    · exact h.pl n y hn
  · show rgen (r.ch.modify j f) (a * d.ps + o) = _
    rw [rgen_modify r.ch j f hj (by rw [hf]) (fun j' hj' z hz hp => by have := h.last j j' _ z hj' hj hz hp.symm; cases this) (a * d.ps + o), h1, h3, h4, hf]
    obtain ⟨z1, z2, z3⟩ := ok.sz _ (g.cls i hi ho)
    split
    · rename_i e0
      have e : a * d.ps + o = i * d.ps + x * d.sz (s.cls i) := e0
      obtain ⟨q1, q2, q3, -⟩ := place_of ok (i := i) (g.cls i hi ho) hx
      have e1 : a = i := by rw [← q1, ← e, Nat.add_comm, Nat.add_mul_div_right _ _ (by have := ok.ps; omega), Nat.div_eq_of_lt hoo, Nat.zero_add]
      subst e1
      have e2 : o = x * d.sz (s.cls a) := by omega
      rw [if_pos ⟨ho, by rw [e2, Nat.mul_mod_left], by rw [e2, q3]; exact hx⟩, e2, q3]
    · rename_i e
      rw [h.old a o ha hoo]
      split
      · rename_i hc
        obtain ⟨c1, c2, c3⟩ := hc
        rw [hg a (o / d.sz (s.cls a)) (fun ⟨e1, e2⟩ => by
          subst e1
          apply e
          rw [← e2, Nat.div_mul_cancel (Nat.dvd_of_mod_eq_zero c2)])]
      · rfl
/-- Take, where the class has a free chunk. -/
theorem Rel.take {k p : Nat} {l : List Nat} (hk : k < d.nc) (hl : s.free k = l ++ [p]) :
    ∃ l' j, r.rows k = l' ++ [j] ∧ r.ch[j]? = some ⟨p, k, s.gens (p / d.ps) (p % d.ps / d.sz k), false, false⟩ ∧ Rel d (takeS d s k p) (rtake r k j) := by
  obtain ⟨i, x, a1, a2, a3, a4, a5, a6, a7, a8, a9⟩ := g.last ok hk (show p ∈ s.free k by rw [hl]; simp)
  have hlen := h.row_len hk
  have hne : r.rows k ≠ [] := fun e => by rw [e, hl] at hlen; simp at hlen
  obtain ⟨l', j, hr⟩ : ∃ l' j, r.rows k = l' ++ [j] := ⟨(r.rows k).dropLast, (r.rows k).getLast hne, (List.dropLast_concat_getLast hne).symm⟩
  have hrow := h.row k hk
  rw [hr, hl, List.map_append, List.map_append, List.map_singleton, List.map_singleton] at hrow
  have hll : l'.length = l.length := by rw [hr, hl] at hlen; simpa using hlen
  obtain ⟨hr1, hr2⟩ := List.append_inj hrow (by simpa using hll)
  simp only [List.cons.injEq, and_true] at hr2
  obtain ⟨y, hy⟩ : ∃ y, r.ch[j]? = some y := by
    cases hc : r.ch[j]? with
    | none => rw [hc] at hr2; cases hr2
    | some y => exact ⟨y, rfl⟩
  rw [hy] at hr2
  simp only [Option.map_some, Option.some.injEq, Prod.mk.injEq] at hr2
  obtain ⟨i', x', b1, b2, b3, b4⟩ := h.live j y hy hr2.2
  subst a3
  have hpl : i' * d.ps + x' * d.sz (s.cls i') = i * d.ps + x * d.sz (s.cls i) := by rw [← a7, ← hr2.1, b4]
  obtain ⟨p1, -⟩ := place_of ok (i := i') (g.cls i' b1 b2) b3
  rw [hpl, ← a7, a8] at p1
  subst p1
  obtain ⟨-, e2⟩ := place_inj ok hk b3 a5 hpl
  subst e2
  rw [b4] at hy
  refine ⟨l', j, hr, by rw [a8, a9, hy, a6, a7], ?_⟩
  refine Rel.change ok g h a1 a2 a5 hy (f := RC.taken) (takeS d s (s.cls i) p) rfl rfl rfl rfl (fun a b hab => ?_) (fun a b _ => rfl) ?_ (upd r.rows (s.cls i) (r.rows (s.cls i)).dropLast) (fun k' hk' => ?_)
  · show upd s.tkn (p / d.ps) (upd (s.tkn (p / d.ps)) (p % d.ps / d.sz (s.cls i)) true) a b = s.tkn a b
    rw [a8, a9]
    exact upd2_ne _ _ hab
  · show (⟨_, _, _, true, _⟩ : RC) = ⟨_, _, _, upd s.tkn (p / d.ps) (upd (s.tkn (p / d.ps)) (p % d.ps / d.sz (s.cls i)) true) i x', _⟩
    rw [a8, a9, upd2_at]
    rfl
  · show (upd r.rows (s.cls i) (r.rows (s.cls i)).dropLast k').map _ = (upd s.free (s.cls i) (s.free (s.cls i)).dropLast k').map _
    by_cases e : k' = s.cls i
    · subst e
      rw [upd_at, upd_at, rows_modify _ _ (f := RC.taken) (fun y => ⟨rfl, rfl⟩), hr, hl, List.dropLast_concat, List.dropLast_concat]
      exact hr1
    · rw [upd_ne _ _ e, upd_ne _ _ e, rows_modify _ _ (f := RC.taken) (fun y => ⟨rfl, rfl⟩)]
      exact h.row k' hk'
end
end Go.Proofs.YtngehaiigbbknaaGreat.Cls
/-
  The queue where a chunk is taken and where an item is laid.
-/
namespace Go.Proofs.YtngehaiigbbknaaGreat.Que
open Go.RowKit Base Arena Cls Itm
set_option linter.unusedVariables false
set_option linter.unusedSectionVars false

theorem tkn_widen_back {d : Cf} {s : St} {i x p k G c j : Nat} (h : Tkn d (widenS d s c j) i x p k G) : Tkn d s i x p k G := by
  by_cases hij : i = j
  · have ht := h.tk
    simp only [widenS, joinS, widen1, upd, if_pos hij] at ht
    cases ht
  · obtain ⟨h1, h2, h3, h4, h5, h6, h7, h8⟩ := h
    simp only [widenS, joinS, widen1, upd, if_neg hij] at h2 h3 h6 h7
    exact ⟨h1, h2, h3, h4, h5, h6, h7, h8⟩
theorem tkn_room_back {d : Cf} {s s1 : St} {i x p k G c : Nat} (hr : roomS d s c = some s1) (h : Tkn d s1 i x p k G) : Tkn d s i x p k G := by
  unfold roomS at hr
  split at hr
  · split at hr
    · cases hr
      exact tkn_widen_back h
    · cases hr
  · cases hr
    exact h
section
variable {d : Cf} (ok : d.Ok) {s s1 : St} (g : Cls.Good d s) {k : Nat} (hk : k < d.nc) (hr : roomS d s k = some s1) {l : List Nat} {p : Nat} (hp : s1.free k = l ++ [p])
include ok g hk hr hp
theorem took_back {i x q c G : Nat} (t : Tkn d (takeS d s1 k p) i x q c G) : q = p ∨ Tkn d s i x q c G := by
  obtain ⟨g', T, h3, h4⟩ := took ok g hk hr hp
  by_cases e : i = p / d.ps ∧ x = p % d.ps / d.sz k
  · obtain ⟨rfl, rfl⟩ := e
    left
    have e1 := t.pE
    have e2 := T.pE
    have e3 : c = k := t.cl.symm.trans T.cl
    rw [e3] at e1
    omega
  · right
    refine tkn_room_back hr ⟨t.iN, t.ow, t.cl, t.kN, t.xN, ?_, t.ge, t.pE⟩
    have := t.tk
    simp only [takeS] at this
    rwa [upd2_ne _ _ e] at this
theorem took_find {H0 : Nat} (h0 : H0 = hnd p (s1.gens (p / d.ps) (p % d.ps / d.sz k))) :
    (∃ i x, findN d (takeS d s1 k p) H0 = some (i, x, p) ∧ (takeS d s1 k p).cls i = k) ∧
    (∀ H i x q, findN d s H = some (i, x, q) → findN d (takeS d s1 k p) H = some (i, x, q) ∧ (takeS d s1 k p).cls i = s.cls i ∧ H ≠ H0 ∧ q ≠ p) ∧
    (∀ H i x q, findN d (takeS d s1 k p) H = some (i, x, q) → H = H0 ∨ H ≠ H0 ∧ findN d s H = some (i, x, q)) := by
  obtain ⟨g', T, h3, h4⟩ := took ok g hk hr hp
  have A : ∀ H i x q, findN d s H = some (i, x, q) → findN d (takeS d s1 k p) H = some (i, x, q) ∧ (takeS d s1 k p).cls i = s.cls i ∧ H ≠ H0 ∧ q ≠ p := by
    intro H i x q hf
    obtain ⟨t, e⟩ := Tkn.of ok g hf
    obtain ⟨t', hne⟩ := h4 t
    refine ⟨by rw [e]; exact t'.find ok, t'.cl, fun e0 => hne ?_, hne⟩
    obtain ⟨-, -, a3, -, -⟩ := t.hlt ok g
    obtain ⟨-, -, b3, -, -⟩ := T.hlt ok g'
    obtain ⟨-, -, -, p8, -⟩ := t.fit ok
    obtain ⟨-, -, -, p8', -⟩ := T.fit ok
    rw [← e, e0] at a3
    rw [← h0] at b3
    omega
  refine ⟨⟨_, _, by rw [h0]; exact T.find ok, T.cl⟩, A, fun H i x q hf => ?_⟩
  obtain ⟨t, e⟩ := Tkn.of ok g' hf
  rcases took_back ok g hk hr hp t with rfl | t1
  · left
    rw [e, h0]
    obtain ⟨-, -, -, eG⟩ := t.same ok T
    rw [eG]
  · right
    have hf' : findN d s H = some (i, x, q) := by rw [e]; exact t1.find ok
    exact ⟨(A H i x q hf').2.2.1, hf'⟩
end
section
variable {c : Conf} (ok : c.cf.Ok) {s s1 : St} (g : Cls.Good c.cf s) {k : Nat} (hk : k < c.cf.nc) (hr : roomS c.cf s k = some s1) {l : List Nat} {p : Nat} (hp : s1.free k = l ++ [p]) {H0 : Nat} (h0 : H0 = hnd p (s1.gens (p / c.cf.ps) (p % c.cf.ps / c.cf.sz k)))
include ok g hk hr hp h0
theorem GoodL.take {T : Nat} (h : GoodL c.cf s T) : GoodL c.cf (takeS c.cf s1 k p) T := by
  rcases h with h | ⟨h1, i, x, q, h2⟩
  · exact .inl h
  · exact .inr ⟨h1, i, x, q, ((took_find ok g hk hr hp h0).2.1 T i x q h2).1⟩
theorem Lk.take {bs : List UInt8} {Z : Nat → Option Zd} (hb : bs.length = c.cf.ps * c.cf.np) (h : Lk c s bs Z) (G : Nat) : Lk c (takeS c.cf s1 k p) (takeB bs p G) (upd Z H0 none) := by
  obtain ⟨⟨i0, x0, f0, -⟩, A, B⟩ := took_find ok g hk hr hp h0
  have g' := (took ok g hk hr hp).1
  obtain ⟨t0, -⟩ := Tkn.of ok g' f0
  have hfit : p + 64 ≤ bs.length := by
    obtain ⟨a1, a2, a3, a4, a5⟩ := t0.fit ok
    have := (ok.sz _ t0.kN).1
    rw [hb, Nat.mul_comm]
    omega
  refine ⟨fun H i x q hH hf => ?_, fun H z hz => ?_, fun H z hf hz => ?_⟩
  · rcases B H i x q hf with rfl | ⟨hne, hf'⟩
    · rw [upd_at]
      have e : q = p := by rw [f0] at hf; simp only [Option.some.injEq, Prod.mk.injEq] at hf; exact hf.2.2.symm
      subst e
      exact take_zero (by omega)
    · rw [upd_ne _ _ hne]
      have ha := h.at_ H i x q hH hf'
      have hd := good_apart ok g' f0 hf (fun e => hne e.symm)
      have key : ∀ a m, a + m ≤ 64 → rd (takeB bs p G) (q + a) m = rd bs (q + a) m := fun a m ham => by
        unfold rd
        rw [take_far (by omega) (by omega)]
      cases hZ : Z H with
      | none => rw [hZ] at ha; unfold ZAt at ha ⊢; rw [key 44 1 (by omega)]; exact ha
      | some z => rw [hZ] at ha; unfold ZAt at ha ⊢; rw [key 44 1 (by omega), key 45 1 (by omega), key 4 4 (by omega), key 8 4 (by omega)]; exact ha
  · by_cases e : H = H0
    · subst e; rw [upd_at] at hz; cases hz
    · rw [upd_ne _ _ e] at hz; exact h.st H z hz
  · by_cases e : H = H0
    · subst e; rw [upd_at] at hz; cases hz
    · rw [upd_ne _ _ e] at hz
      obtain ⟨i, x, q, hf⟩ := hf
      rcases B H i x q hf with e' | ⟨-, hf'⟩
      · exact absurd e' e
      · obtain ⟨a, b⟩ := h.lk H z ⟨i, x, q, hf'⟩ hz
        exact ⟨GoodL.take ok g hk hr hp h0 a, GoodL.take ok g hk hr hp h0 b⟩
theorem QI.take {Z : Nat → Option Zd} {F : QN} {Ls : Nat → Nat → List Nat} (q : QI c s Z F Ls) : QI c (takeS c.cf s1 k p) (upd Z H0 none) F Ls := by
  obtain ⟨⟨i0, x0, f0, -⟩, A, B⟩ := took_find ok g hk hr hp h0
  refine ⟨fun x j hx hj => (q.ch x j hx hj).congr fun y hy => upd_ne _ _ ?_, q.hd, q.tl, q.n, fun x j y hx hj hy => ?_, q.nd, q.dj, fun H z hf hz hn => ?_⟩
  · obtain ⟨i, a, b, hf, -⟩ := q.it x j y hx hj hy
    exact (A _ _ _ _ hf).2.2.1
  · obtain ⟨i, a, b, hf, hc⟩ := q.it x j y hx hj hy
    exact ⟨i, a, b, (A _ _ _ _ hf).1, (A _ _ _ _ hf).2.1.trans hc⟩
  · by_cases e : H = H0
    · subst e; rw [upd_at] at hz; cases hz
    · rw [upd_ne _ _ e] at hz
      obtain ⟨i, x, y, hf⟩ := hf
      rcases B H i x y hf with e' | ⟨-, hf'⟩
      · exact absurd e' e
      · exact q.out H z ⟨i, x, y, hf'⟩ hz hn
/-- A chunk was taken. -/
theorem QW.take {w w' : World} {L L' : Lay} {bs : List UInt8} {Z : Nat → Option Zd} {gq gl : Nat} {Ls : Nat → Nat → List Nat} (hb : bs.length = c.cf.ps * c.cf.np) (h : QW w L c s bs Z gq gl Ls) (G : Nat) (eg : L'.g = L.g)
    (M : SetAt w' L' c (takeS c.cf s1 k p) (takeB bs p G)) (W : Went w w' L L' c s (takeS c.cf s1 k p)) : QW w' L' c (takeS c.cf s1 k p) (takeB bs p G) (upd Z H0 none) gq gl Ls := by
  obtain ⟨F, S, q⟩ := h
  have Q1 := (S.q.only W.only S.fq S.fl).head
  have Q2 := (S.q.only W.only S.fq S.fl).grid
  rw [← eg] at Q1
  refine ⟨F, ⟨⟨M, (took ok g hk hr hp).1, Lk.take ok g hk hr hp h0 hb S.zs.lk G⟩, ⟨Q1, Q2⟩, fun hf => ?_, fun hf => ?_⟩, QI.take ok g hk hr hp h0 q⟩
  · rcases W.foot gq hf with h1 | h1
    · exact S.fq h1
    · have := S.q.ltq; omega
  · rcases W.foot gl hf with h1 | h1
    · exact S.fl h1
    · have := S.q.ltl; omega
end
end Go.Proofs.YtngehaiigbbknaaGreat.Que
/-
  The queue where an item is laid into a chunk that had none.
-/
namespace Go.Proofs.YtngehaiigbbknaaGreat.Que
open Go.RowKit Base Arena Cls Itm
set_option linter.unusedVariables false
set_option linter.unusedSectionVars false

section
variable {c : Conf} {s : St} {Z : Nat → Option Zd} {F : QN} {Ls : Nat → Nat → List Nat}
theorem QI.laid (q : QI c s Z F Ls) {H : Nat} (hn : ∀ x k, x < c.nc → k < 3 → H ∉ Ls x k) : QI c s (upd Z H (some ⟨4, 0, 0⟩)) F Ls := by
  refine ⟨fun x j hx hj => (q.ch x j hx hj).congr fun y hy => upd_ne _ _ (fun e => hn x j hx hj (e ▸ hy)), q.hd, q.tl, q.n, q.it, q.nd, q.dj, fun H' z hf hz hn' => ?_⟩
  by_cases e : H' = H
  · subst e; rw [upd_at] at hz; injection hz with hz; exact hz.symm
  · rw [upd_ne _ _ e] at hz; exact q.out H' z hf hz hn'
theorem Lk.laid (ok : c.cf.Ok) (g : Cls.Good c.cf s) {bs : List UInt8} (h : Lk c s bs Z) {H i x p k n : Nat} (K : Chk c s bs.length H i x p k n) (t : Itm.It) (F : t.Fine) (hfit : 58 + t.key.length + t.val.length ≤ n) (gen : Nat) (hg : (bs.drop (p + 12)).take 4 = putB 4 gen) :
    Lk c s (itemB bs p k t) (upd Z H (some ⟨t.st, 0, 0⟩)) := by
  have hall := K.ck.all
  obtain ⟨k1, k2⟩ := legal_len F.legal
  have f4 := F.st4
  have e := itemB_enc bs p k gen t (by omega) hg
  have hl := Whole.enc_len ⟨0, 0, 0, gen, k, t⟩
  have HH : Has (itemB bs p k t) p ⟨0, 0, 0, gen, k, t⟩ := by rw [e]; exact Has.lay_ bs p _ (by show p + (58 + t.key.length + t.val.length) ≤ bs.length; omega)
  refine ⟨fun H' i' x' p' hH' hf => ?_, fun H' z hz => ?_, fun H' z hf hz => ?_⟩
  · by_cases eH : H' = H
    · subst eH
      have e2 : p' = p := by rw [K.hf] at hf; simp only [Option.some.injEq, Prod.mk.injEq] at hf; exact hf.2.2.symm
      subst e2
      rw [upd_at]
      refine ⟨?_, ?_, ?_, ?_⟩
      · rw [HH.key_len (by show t.key.length < 256; omega)]; show t.key.length ≠ 0; omega
      · exact HH.st (by show t.st < 256; omega)
      · exact HH.l1_ (by show 0 < 4294967296; omega)
      · exact HH.l2_ (by show 0 < 4294967296; omega)
    · rw [upd_ne _ _ eH, e]
      have ha := h.at_ H' i' x' p' hH' hf
      obtain ⟨tk, e1⟩ := Tkn.of ok g K.hf
      obtain ⟨tk', e2⟩ := Tkn.of ok g hf
      have hp : p ≠ p' := by
        rintro rfl
        obtain ⟨-, -, -, eG⟩ := tk.same ok tk'
        exact eH (by rw [e1, e2, eG])
      have hs : c.cf.sz (s.cls i) = n := by rw [K.hk]; exact K.sz
      have hd : p + n ≤ p' ∨ p' + 64 ≤ p := by
        have z' := (ok.sz _ tk'.kN).1
        rcases tk.apart ok tk' hp with h1 | h1
        · left; rw [hs] at h1; exact h1
        · right; omega
      have hl' : (Whole.enc ⟨0, 0, 0, gen, k, t⟩).length = 58 + t.key.length + t.val.length := hl
      have key : ∀ a m, a + m ≤ 64 → rd (lay bs p (Whole.enc ⟨0, 0, 0, gen, k, t⟩)) (p' + a) m = rd bs (p' + a) m := fun a m ham => rd_out _ _ _ _ _ (by rw [hl']; omega) (by rw [hl']; omega)
      cases hZ : Z H' with
      | none => rw [hZ] at ha; unfold ZAt at ha ⊢; rw [key 44 1 (by omega)]; exact ha
      | some z => rw [hZ] at ha; unfold ZAt at ha ⊢; rw [key 44 1 (by omega), key 45 1 (by omega), key 4 4 (by omega), key 8 4 (by omega)]; exact ha
  · by_cases eH : H' = H
    · subst eH; rw [upd_at] at hz; injection hz with hz; subst hz; show t.st < 256; omega
    · rw [upd_ne _ _ eH] at hz; exact h.st H' z hz
  · by_cases eH : H' = H
    · subst eH; rw [upd_at] at hz; injection hz with hz; subst hz; exact ⟨.inl rfl, .inl rfl⟩
    · rw [upd_ne _ _ eH] at hz; exact h.lk H' z hf hz
end
theorem laidC {w : World} {L : Lay} {c : Conf} {s : St} {bs : List UInt8} {Z : Nat → Option Zd} {gq gl : Nat} {Ls : Nat → Nat → List Nat} (h : QW w L c s bs Z gq gl Ls) {H i x p : Nat} (hf : findN c.cf s H = some (i, x, p)) (hn : ∀ x k, x < c.nc → k < 3 → H ∉ Ls x k)
    (t : Itm.It) (F : t.Fine) (st4 : t.st = 4) (hfit : 58 + t.key.length + t.val.length ≤ c.sz (s.cls i)) (gen : Nat) (hg : (bs.drop (p + 12)).take 4 = putB 4 gen) (Ak Av : Option Addr) (ck cv B : Nat) (hK : Bytes w B Ak t.key) (hV : Bytes w B Av t.val)
    (ak : ∀ b off, Ak = some ⟨b, off, none⟩ → b ≠ L.ha) (av : t.val ≠ [] → ∀ b off, Av = some ⟨b, off, none⟩ → b ≠ L.ha) :
    Calls Tryz.prog 85 #[.pointer (some ⟨L.g, 0, none⟩), .int .u64 (H : Int), .agg (t.cells Ak Av ck cv)] w fun e w' => e = .returned (.int .i64 0) ∧ Only (Two L gl) w w' ∧ QW w' L c s (itemB bs p (s.cls i) t) (upd Z H (some ⟨4, 0, 0⟩)) gq gl Ls := by
  obtain ⟨Fq, S, q⟩ := h
  have ok := S.okc
  have hH := good_lt ok S.zs.good hf
  have K := Chk.of S.zs.set S.zs.good hH hf
  have hnc : c.cf.nc ≤ 62 := ok.ncb
  have e : c.cf.nc = c.nc := rfl
  refine (itemLayYes w L c s bs S.zs.set S.zs.good H hH i x p hf K.kn (by omega) K.ck t F hfit Ak Av ck cv B hK hV ak av).mono ?_
  rintro e2 w' ⟨rfl, M, o⟩
  have lk := Lk.laid ok S.zs.good S.zs.lk K t F hfit gen hg
  rw [st4] at lk
  exact ⟨rfl, two_bytes o, Fq, S.bytes o ⟨M, S.zs.good, lk⟩, q.laid hn⟩
end Go.Proofs.YtngehaiigbbknaaGreat.Que
