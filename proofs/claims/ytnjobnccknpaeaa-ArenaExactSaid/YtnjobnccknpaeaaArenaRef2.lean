/-
  The walks of the document's Fill, Write, Get, Put.
-/
import Derived.Test.YtnjobnccknpaeaaArenaRef
import Derived.StillTailTactics
namespace Go.Proofs.Ytnjobnccknpaeaa.Arena
open Go.RowKit Base
set_option linter.unusedVariables false

theorem refThereYes (w : World) (g h page : Nat) (l : List UInt8) (a : AtR w g h page l) (at_ n : Int) (hy : There page l.length at_ n) :
    Calls Try.prog 82 #[.pointer (some ⟨g, 0, none⟩), .int .i64 at_, .int .i64 n] w fun e w' => e = .returned (.bool true) ∧ ∃ m, w.drewN m = w' := by
  have hs := a.small
  have := refThereC w g h page l a at_ n (by obtain ⟨h1, h2, h3, -⟩ := hy; unfold inI64; omega) (by obtain ⟨h1, h2, h3, -⟩ := hy; unfold inI64; omega)
  rwa [show there page l.length at_ n = true from decide_eq_true hy] at this
theorem refThereNot (w : World) (g h page : Nat) (l : List UInt8) (a : AtR w g h page l) (at_ n : Int) (ha : inI64 at_) (hn : inI64 n) (hno : ¬ There page l.length at_ n) :
    Calls Try.prog 82 #[.pointer (some ⟨g, 0, none⟩), .int .i64 at_, .int .i64 n] w fun e w' => e = .returned (.bool false) ∧ ∃ m, w.drewN m = w' := by
  have := refThereC w g h page l a at_ n ha hn
  rwa [show there page l.length at_ n = false from decide_eq_false hno] at this

theorem refFillNo (w : World) (g h page : Nat) (l : List UInt8) (a : AtR w g h page l) (at_ n : Int) (b : UInt8) (ha : inI64 at_) (hn : inI64 n) (hno : ¬ There page l.length at_ n) :
    Calls Try.prog 63 #[.pointer (some ⟨g, 0, none⟩), .int .i64 at_, .int .i64 n, .int .u8 (b.toNat : Int)] w fun e w' => e = .returned (.int .i64 20) ∧ ∃ m, w.drewN m = w' := by
  have C := Lib.hid (refThereNot w g h page l a at_ n ha hn hno)
  clear hno a
  go_enter Try.func63, Try.ntmps63
  go_wp2_with fail
  refine C.out.mono ?_
  rintro e w' ⟨rfl, m, rfl⟩
  go_wp2
  go_ret
  exact ⟨rfl, m, rfl⟩
set_option maxRecDepth 100000 in
theorem refFillYes (w : World) (g h page : Nat) (l : List UInt8) (a : AtR w g h page l) (at_ n : Int) (b : UInt8) (hy : There page l.length at_ n) :
    Calls Try.prog 63 #[.pointer (some ⟨g, 0, none⟩), .int .i64 at_, .int .i64 n, .int .u8 (b.toNat : Int)] w fun e w' =>
      e = .returned (.int .i64 0) ∧ AtR w' g h page (lay l at_.toNat (List.replicate n.toNat b)) ∧ Only (· = h) w w' ∧ w'.heap.size = w.heap.size := by
  have C := Lib.hid (refThereYes w g h page l a at_ n hy)
  obtain ⟨q1, q2, q3, q4⟩ := hy
  have hs := a.small
  obtain ⟨p, rfl⟩ := Int.eq_ofNat_of_zero_le q1
  obtain ⟨N, rfl⟩ := Int.eq_ofNat_of_zero_le q2
  simp only [Int.toNat_natCast] at C ⊢
  go_enter Try.func63, Try.ntmps63
  go_wp2_with fail
  refine C.out.mono ?_
  rintro e w0 ⟨rfl, m, hw0⟩
  have a0 : AtR w0 g h page l := by rw [← hw0]; exact a.drewN m
  have ho0 : Only (· = h) w w0 := by rw [← hw0]; exact (Only.refl _ _).drewN m
  have hs0 : w0.heap.size = w.heap.size := by rw [← hw0]; rfl
  clear C hw0 a
  replace hs0 := Lib.hid hs0
  go_wp2_with fail
  go_loopw [9] (fun i wr => ∃ k : Nat, k ≤ N ∧ i = .int .i64 (k : Int) ∧ AtR wr g h page (lay l p (List.replicate k b)) ∧ Only (· = h) w wr ∧ Hid (wr.heap.size = w.heap.size)) (fun i _ => N - (intOf i).toNat)
  case atStart => exact ⟨0, by omega, rfl, by simpa [lay] using a0, ho0, hs0⟩
  case round =>
    obtain ⟨k, hk, rfl, ak, hok, hsk⟩ := hrel
    clear a0 ho0 hs0
    by_cases hlt : k < N
    · have hll : (lay l p (List.replicate k b)).length = l.length := lay_len _ _ _ (by simp; omega)
      have c1 := ak.cell1
      have hbk := ak.bytes
      have c2 := hbk.cell (p + k) (by omega)
      have c3 := hbk.frozen (p + k)
      have hset := hbk.set (p + k) b
      have hl2 : ((lay l p (List.replicate k b)).set (p + k) b).length = (lay l p (List.replicate k b)).length := List.length_set
      rw [lay_rep l p k b (by omega)] at hset hl2
      have ho1 : Only (· = h) wr (wr.setCell ⟨h, p + k, none⟩ (.int .u8 (b.toNat : Int))) := (Only.refl (· = h) wr).setCell (fun _ => rfl) _
      have a1 := ak.turn ho1 hset hl2
      have ho2 := hok.trans ho1 (fun _ _ h => h)
      rw [hll] at c1
      generalize ((lay l p (List.replicate k b))[p + k]).toNat = z at c2
      replace hll := Lib.hid hll
      clear hset hl2 hbk ak ho1
      replace a1 := Lib.hid a1
      go_wp2
      go_roundw
      case rel => exact ⟨k + 1, by omega, by go_num, a1.out, ho2, Lib.hid ((World.size_setCell _ _ _).trans hsk.out)⟩
      case measure => simp [intOf]; omega
    · obtain rfl : k = N := by omega
      go_wp2
      go_ret
      exact ⟨rfl, ak, hok, hsk.out⟩
theorem refWriteNo (w : World) (g h page : Nat) (l : List UInt8) (a : AtR w g h page l) (at_ : Int) (ha : inI64 at_) (A : Option Addr) (n c : Nat) (hn : n ≤ maxLen) (hno : ¬ There page l.length at_ n) :
    Calls Try.prog 62 #[.pointer (some ⟨g, 0, none⟩), .int .i64 at_, .slice A n c] w fun e w' => e = .returned (.int .i64 20) ∧ ∃ m, w.drewN m = w' := by
  unfold maxLen at hn
  have C := Lib.hid (refThereNot w g h page l a at_ n ha ⟨by omega, by omega⟩ hno)
  clear hno a
  go_enter Try.func62, Try.ntmps62
  go_wp2_with fail
  refine C.out.mono ?_
  rintro e w' ⟨rfl, m, rfl⟩
  go_wp2
  go_ret
  exact ⟨rfl, m, rfl⟩
theorem lay_take (l : List UInt8) (p : Nat) (q : List UInt8) (k : Nat) (x : UInt8) (hx : q[k]? = some x) (h : p + q.length ≤ l.length) : (lay l p (q.take k)).set (p + k) x = lay l p (q.take (k + 1)) := by
  have hk : k < q.length := (List.getElem?_eq_some_iff.1 hx).1
  have hxv : q[k] = x := (List.getElem?_eq_some_iff.1 hx).2
  have ht : q.take (k + 1) = q.take k ++ [x] := by rw [List.take_add_one, List.getElem?_eq_getElem hk, hxv]; rfl
  have h1 : (l.take p).length = p := by simp; omega
  have h2 : (q.take k).length = k := by simp; omega
  unfold lay
  rw [ht, List.append_assoc, List.set_append, if_neg (by omega), h1, show p + k - p = k by omega, List.set_append, if_neg (by omega), h2, Nat.sub_self]
  have hd : l.drop (p + k) = l[p + k]'(by omega) :: l.drop (p + k + 1) := List.drop_eq_getElem_cons (by omega)
  rw [hd, List.set_cons_zero]
  simp [h2, Nat.add_assoc]
set_option maxRecDepth 100000 in
theorem refWriteYes (w : World) (g h page : Nat) (l : List UInt8) (a : AtR w g h page l) (at_ : Int) (A : Option Addr) (c B : Nat) (q : List UInt8) (hp : Bytes w B A q) (hAh : q ≠ [] → ∀ b off, A = some ⟨b, off, none⟩ → b ≠ h) (hy : There page l.length at_ q.length) :
    Calls Try.prog 62 #[.pointer (some ⟨g, 0, none⟩), .int .i64 at_, .slice A q.length c] w fun e w' =>
      e = .returned (.int .i64 0) ∧ AtR w' g h page (lay l at_.toNat q) ∧ Only (· = h) w w' ∧ w'.heap.size = w.heap.size := by
  have C := Lib.hid (refThereYes w g h page l a at_ q.length hy)
  obtain ⟨q1, q2, q3, q4⟩ := hy
  have hs := a.small
  obtain ⟨p, rfl⟩ := Int.eq_ofNat_of_zero_le q1
  simp only [Int.toNat_natCast] at C ⊢
  go_enter Try.func62, Try.ntmps62
  go_wp2_with fail
  refine C.out.mono ?_
  rintro e w0 ⟨rfl, m, hw0⟩
  have a0 : AtR w0 g h page l := by rw [← hw0]; exact a.drewN m
  have ho0 : Only (· = h) w w0 := by rw [← hw0]; exact (Only.refl _ _).drewN m
  have hs0 : w0.heap.size = w.heap.size := by rw [← hw0]; rfl
  clear C hw0 a
  replace hs0 := Lib.hid hs0
  go_wp2_with fail
  go_loopw [7] (fun i wr => ∃ k : Nat, k ≤ q.length ∧ i = .int .i64 (k : Int) ∧ AtR wr g h page (lay l p (q.take k)) ∧ Only (· = h) w wr ∧ Hid (wr.heap.size = w.heap.size)) (fun i _ => q.length - (intOf i).toNat)
  case atStart => exact ⟨0, by omega, rfl, by simpa [lay] using a0, ho0, hs0⟩
  case round =>
    obtain ⟨k, hk, rfl, ak, hok, hsk⟩ := hrel
    clear a0 ho0 hs0
    by_cases hlt : k < q.length
    · have hll : (lay l p (q.take k)).length = l.length := lay_len _ _ _ (by simp; omega)
      obtain ⟨b1, o1, hA1, hb1, cq⟩ := hp.at_ k hlt
      have hne := hAh (by rintro rfl; simp at hlt) b1 o1 hA1
      subst hA1
      have hblt : b1 < w.heap.size := World.block_lt_of_cell? w _ cq
      replace cq := (World.cell?_of_block (a := ⟨b1, o1 + k, none⟩) (hok.block b1 hblt hne)).trans cq
      have c1 := ak.cell1
      have hbk := ak.bytes
      have c2 := hbk.cell (p + k) (by omega)
      have c3 := hbk.frozen (p + k)
      have hset := hbk.set (p + k) (q[k])
      have hl2 : ((lay l p (q.take k)).set (p + k) (q[k])).length = (lay l p (q.take k)).length := List.length_set
      rw [lay_take l p q k (q[k]) (List.getElem?_eq_getElem hlt) (by omega)] at hset hl2
      have ho1 : Only (· = h) wr (wr.setCell ⟨h, p + k, none⟩ (.int .u8 ((q[k]).toNat : Int))) := (Only.refl (· = h) wr).setCell (fun _ => rfl) _
      have a1 := ak.turn ho1 hset hl2
      have ho2 := hok.trans ho1 (fun _ _ h => h)
      rw [hll] at c1
      generalize ((lay l p (q.take k))[p + k]).toNat = z at c2
      generalize (q[k]).toNat = x at *
      replace hll := Lib.hid hll
      clear hset hl2 hbk ak ho1
      replace a1 := Lib.hid a1
      have w1 : IntKind.i64.wrap ((p : Int) + (k : Int)) = (p : Int) + k := IntWalk.i64_in _ (by omega)
      have i1 : (0 : Int) ≤ (p : Int) + k := by omega
      have i2 : (p : Int) + k < (l.length : Int) := by omega
      have i3 : (k : Int) < (q.length : Int) := by omega
      have i4 : ((p : Int) + (k : Int)).toNat = p + k := by omega
      go_wp2_with fail
      go_still_tail 12, (by kernel_rfl)
      change wpList _ _ _ _ _ wr.drew
      go_wp2
      go_roundw
      case rel => exact ⟨k + 1, by omega, by go_num, a1.out.drewN 1, ho2.drewN 1, Lib.hid ((World.size_setCell _ _ _).trans hsk.out)⟩
      case measure => simp [intOf]; omega
    · obtain rfl : k = q.length := by omega
      rw [List.take_length] at ak
      go_wp2
      go_ret
      exact ⟨rfl, ak, hok, hsk.out⟩
end Go.Proofs.Ytnjobnccknpaeaa.Arena
