/-
  The walks of the arena's Fill, Move, Same, Page, and of bytes.Equal.
-/
import Derived.Test.YtnjobnccknpaeaaArenaOps
import Derived.StillTailTactics
import Derived.Deep.RegionHeld3
namespace Go.Proofs.Ytnjobnccknpaeaa.Arena
open Go.RowKit Base
set_option linter.unusedVariables false

theorem lay_rep (l : List UInt8) (p k : Nat) (b : UInt8) (h : p + k < l.length) : (lay l p (List.replicate k b)).set (p + k) b = lay l p (List.replicate (k + 1) b) := by
  have hl : (l.take p ++ List.replicate k b).length = p + k := by simp; omega
  simp only [lay, List.length_replicate]
  rw [List.drop_eq_getElem_cons h, List.set_append_right _ _ (by omega), hl, Nat.sub_self, List.set_cons_zero, List.replicate_succ', ← List.append_assoc, List.append_assoc _ [b], Nat.add_assoc]
  rfl

theorem fillNo (w : World) (g h page : Nat) (l : List UInt8) (a : At w g h page l) (at_ n : Int) (b : UInt8) (ha : inI64 at_) (hn : inI64 n) (hno : ¬ There page l.length at_ n) :
    Calls Try.prog 19 #[.pointer (some ⟨g, 0, none⟩), .int .i64 at_, .int .i64 n, .int .u8 (b.toNat : Int)] w fun e w' => e = .returned (.int .i64 20) ∧ ∃ m, w.drewN m = w' := by
  have C := Lib.hid (thereNo w g h page l a at_ n ha hn hno)
  go_enter Try.func19, Try.ntmps19
  go_wp2_with fail
  refine C.out.mono ?_
  rintro e w' ⟨rfl, m, rfl⟩
  go_wp2
  go_ret
  exact ⟨rfl, _, rfl⟩
theorem fillYes (w : World) (g h page : Nat) (l : List UInt8) (a : At w g h page l) (at_ n : Int) (b : UInt8) (hy : There page l.length at_ n) :
    Calls Try.prog 19 #[.pointer (some ⟨g, 0, none⟩), .int .i64 at_, .int .i64 n, .int .u8 (b.toNat : Int)] w fun e w' =>
      e = .returned (.int .i64 0) ∧ At w' g h page (lay l at_.toNat (List.replicate n.toNat b)) ∧ Only (· = h) w w' ∧ w'.heap.size = w.heap.size := by
  have C := Lib.hid (thereYes w g h page l a at_ n hy)
  obtain ⟨q1, q2, q3, q4⟩ := hy
  have hs := a.small
  have hb := a.bytes
  obtain ⟨p, rfl⟩ := Int.eq_ofNat_of_zero_le q1
  obtain ⟨N, rfl⟩ := Int.eq_ofNat_of_zero_le q2
  simp only [Int.toNat_natCast] at C ⊢
  go_enter Try.func19, Try.ntmps19
  go_wp2_with fail
  refine C.out.mono ?_
  rintro e w0 ⟨A', rfl, hA, m, hw0⟩
  have hb0 : BB w0 5 h l := by rw [← hw0]; exact hb
  have ho0 : Only (· = h) w w0 := by rw [← hw0]; exact (Only.refl _ _).drewN m
  have hs0 : w0.heap.size = w.heap.size := by rw [← hw0]; rfl
  replace hA : 0 < N → A' = some ⟨h, p, none⟩ := fun h0 => hA (by omega)
  clear C hw0
  replace hs0 := Lib.hid hs0
  go_wp2
  go_loopw [23] (fun i wr => ∃ k : Nat, k ≤ N ∧ i = .int .i64 k ∧ BB wr 5 h (lay l p (List.replicate k b)) ∧ Only (· = h) w wr ∧ Hid (wr.heap.size = w.heap.size)) (fun i _ => N - (intOf i).toNat)
  case atStart => exact ⟨0, by omega, rfl, by simpa [lay] using hb0, ho0, hs0⟩
  case round =>
    obtain ⟨k, hk, rfl, hbk, hok, hsk⟩ := hrel
    by_cases hlt : k < N
    · obtain rfl := hA (by omega)
      have hll : (lay l p (List.replicate k b)).length = l.length := lay_len _ _ _ (by simp; omega)
      have c1 := hbk.cell (p + k) (by omega)
      have c2 := hbk.frozen (p + k)
      have hset := hbk.set (p + k) b
      rw [lay_rep l p k b (by omega)] at hset
      generalize ((lay l p (List.replicate k b))[p + k]).toNat = z at c1
      have ho1 : Only (· = h) w (wr.setCell ⟨h, p + k, none⟩ (.int .u8 (b.toNat : Int))) := hok.setCell (fun _ => rfl) _
      replace hll := Lib.hid hll
      go_wp2
      go_roundw
      case rel => exact ⟨k + 1, by omega, by go_num, hset, ho1, Lib.hid ((World.size_setCell _ _ _).trans hsk.out)⟩
      case measure => simp [intOf]; omega
    · obtain rfl : k = N := by omega
      go_wp2
      go_ret
      exact ⟨rfl, a.turn hok hbk (lay_len _ _ _ (by simp; omega)), hok, hsk.out⟩

theorem moveNo (w : World) (g h page : Nat) (l : List UInt8) (a : At w g h page l) (to from_ n : Int) (ht : inI64 to) (hf : inI64 from_) (hn : inI64 n) (hno : ¬ (There page l.length to n ∧ There page l.length from_ n)) :
    Calls Try.prog 21 #[.pointer (some ⟨g, 0, none⟩), .int .i64 to, .int .i64 from_, .int .i64 n] w fun e w' => e = .returned (.int .i64 20) ∧ ∃ m, w.drewN m = w' := by
  have C1 : ∀ m, (There page l.length to n → Calls Try.prog 54 #[.pointer (some ⟨g, 0, none⟩), .int .i64 to, .int .i64 n] (w.drewN m) fun e w' => ∃ A, e = .returned (.tuple #[.slice A n.toNat n.toNat, .bool true]) ∧ (0 < n → A = some ⟨h, to.toNat, none⟩) ∧ ∃ k, (w.drewN m).drewN k = w') ∧
      (¬ There page l.length to n → Calls Try.prog 54 #[.pointer (some ⟨g, 0, none⟩), .int .i64 to, .int .i64 n] (w.drewN m) fun e w' => e = .returned (.tuple #[.slice none 0 0, .bool false]) ∧ ∃ k, (w.drewN m).drewN k = w') :=
    fun m => ⟨fun hy => thereYes (w.drewN m) g h page l (a.keep rfl rfl) to n hy, fun hy => thereNo (w.drewN m) g h page l (a.keep rfl rfl) to n ht hn hy⟩
  have C2 : ∀ m, (There page l.length from_ n → Calls Try.prog 54 #[.pointer (some ⟨g, 0, none⟩), .int .i64 from_, .int .i64 n] (w.drewN m) fun e w' => ∃ A, e = .returned (.tuple #[.slice A n.toNat n.toNat, .bool true]) ∧ (0 < n → A = some ⟨h, from_.toNat, none⟩) ∧ ∃ k, (w.drewN m).drewN k = w') ∧
      (¬ There page l.length from_ n → Calls Try.prog 54 #[.pointer (some ⟨g, 0, none⟩), .int .i64 from_, .int .i64 n] (w.drewN m) fun e w' => e = .returned (.tuple #[.slice none 0 0, .bool false]) ∧ ∃ k, (w.drewN m).drewN k = w') :=
    fun m => ⟨fun hy => thereYes (w.drewN m) g h page l (a.keep rfl rfl) from_ n hy, fun hy => thereNo (w.drewN m) g h page l (a.keep rfl rfl) from_ n hf hn hy⟩
  replace C1 := Lib.hid C1
  replace C2 := Lib.hid C2
  replace hno := Lib.hid hno
  by_cases y1 : There page l.length to n
  · have y2 : ¬ There page l.length from_ n := fun h => hno.out ⟨y1, h⟩
    replace y1 := Lib.hid y1
    replace y2 := Lib.hid y2
    go_enter Try.func21, Try.ntmps21
    go_wp2_with fail
    refine ((C1.out 0).1 y1.out).mono ?_
    rintro e w' ⟨A, rfl, hA, m, rfl⟩
    rw [World.drewN_drewN]
    go_wp2_with fail
    refine ((C2.out _).2 y2.out).mono ?_
    rintro e w' ⟨rfl, m2, rfl⟩
    go_wp2
    go_ret
    exact ⟨rfl, _, rfl⟩
  · replace y1 := Lib.hid y1
    by_cases y2 : There page l.length from_ n
    · replace y2 := Lib.hid y2
      go_enter Try.func21, Try.ntmps21
      go_wp2_with fail
      refine ((C1.out 0).2 y1.out).mono ?_
      rintro e w' ⟨rfl, m, rfl⟩
      rw [World.drewN_drewN]
      go_wp2_with fail
      refine ((C2.out _).1 y2.out).mono ?_
      rintro e w' ⟨A, rfl, hA, m2, rfl⟩
      go_wp2
      go_ret
      exact ⟨rfl, _, rfl⟩
    · replace y2 := Lib.hid y2
      go_enter Try.func21, Try.ntmps21
      go_wp2_with fail
      refine ((C1.out 0).2 y1.out).mono ?_
      rintro e w' ⟨rfl, m, rfl⟩
      rw [World.drewN_drewN]
      go_wp2_with fail
      refine ((C2.out _).2 y2.out).mono ?_
      rintro e w' ⟨rfl, m2, rfl⟩
      go_wp2
      go_ret
      exact ⟨rfl, _, rfl⟩

theorem moveYes (w : World) (g h page : Nat) (l : List UInt8) (a : At w g h page l) (to from_ n : Int) (y1 : There page l.length to n) (y2 : There page l.length from_ n) :
    Calls Try.prog 21 #[.pointer (some ⟨g, 0, none⟩), .int .i64 to, .int .i64 from_, .int .i64 n] w fun e w' =>
      e = .returned (.int .i64 0) ∧ At w' g h page (lay l to.toNat ((l.drop from_.toNat).take n.toNat)) ∧ Only (· = h) w w' ∧ w'.heap.size = w.heap.size := by
  have C1 := Lib.hid (thereYes w g h page l a to n y1)
  have C2 : ∀ m, Calls Try.prog 54 #[.pointer (some ⟨g, 0, none⟩), .int .i64 from_, .int .i64 n] (w.drewN m) fun e w' => ∃ A, e = .returned (.tuple #[.slice A n.toNat n.toNat, .bool true]) ∧ (0 < n → A = some ⟨h, from_.toNat, none⟩) ∧ ∃ k, (w.drewN m).drewN k = w' :=
    fun m => thereYes (w.drewN m) g h page l (a.keep rfl rfl) from_ n y2
  replace C2 := Lib.hid C2
  obtain ⟨q1, q2, q3, -⟩ := y1
  obtain ⟨r1, -, r3, -⟩ := y2
  have hs := a.small
  have hb := a.bytes
  have hlen : ((l.drop from_.toNat).take n.toNat).length = n.toNat := by simp; omega
  obtain ⟨N, rfl⟩ := Int.eq_ofNat_of_zero_le q2
  simp only [Int.toNat_natCast] at C1 C2 hlen ⊢
  generalize hsrc : (l.drop from_.toNat).take N = src at *
  replace hsrc := Lib.hid hsrc
  replace hlen := Lib.hid hlen
  go_enter Try.func21, Try.ntmps21
  go_wp2_with fail
  refine C1.out.mono ?_
  rintro e w' ⟨A, rfl, hA, m, rfl⟩
  go_wp2_with fail
  refine (C2.out m).mono ?_
  rintro e w' ⟨A2, rfl, hA2, m2, hw2⟩
  have hb2 : BB w' 5 h l := by rw [← hw2]; exact hb
  have hsrcB : Bytes w' (h + 1) A2 src := by
    rw [← hsrc.out]; exact hb2.piece (h + 1) _ N (Nat.lt_succ_self h) (by omega) A2 (fun h0 => hA2 (by omega))
  have ho2 : Only (· = h) w w' := by rw [← hw2]; exact ((Only.refl _ _).drewN m).drewN m2
  have hs2 : Hid (w'.heap.size = w.heap.size) := by rw [← hw2]; rfl
  clear hw2
  go_wp2_with ((refine wpList_copyB rfl _ _ _ _ rfl _ Try.underlying38 u8size _ _ _ _ _ _ rfl rfl h to.toNat 5 l src hb2 (by have := hlen.out; simp; omega) (fun h0 => hA (by have := hlen.out; omega)) hsrcB (by have := hlen.out; omega) ?_; intro w1 hb1 ho1 hs1))
  go_ret
  have ho3 := ho2.trans ho1 (fun _ _ h => h)
  exact ⟨rfl, a.turn ho3 hb1 (lay_len _ _ _ (by have := hlen.out; omega)), ho3, hs1.trans hs2.out⟩

theorem equalC (A A' : Option Addr) (c c' B : Nat) (a b : List UInt8) (w : World) (ha : Bytes w B A a) (hb : Bytes w B A' b) :
    Calls Try.prog 56 #[.slice A a.length c, .slice A' b.length c'] w fun e w' => e = .returned (.bool (a == b)) ∧ w = w' := by
  have h1 := conv_string (c := c) ha Try.underlying38 Try.underlying5 9 Try.underlying9
  have h2 := conv_string (c := c') hb Try.underlying38 Try.underlying5 9 Try.underlying9
  go_enter Try.func56, Try.ntmps56
  go_wp2
  go_ret
  exact ⟨rfl, rfl⟩

theorem sameNo (w : World) (g h page : Nat) (l : List UInt8) (a : At w g h page l) (at_ : Int) (ha : inI64 at_) (A : Option Addr) (n c : Nat) (hn : n ≤ maxLen) (hno : ¬ There page l.length at_ n) :
    Calls Try.prog 27 #[.pointer (some ⟨g, 0, none⟩), .int .i64 at_, .slice A n c] w fun e w' => e = .returned (.bool false) ∧ ∃ m, w.drewN m = w' := by
  unfold maxLen at hn
  have C := Lib.hid (thereNo w g h page l a at_ n ha ⟨by omega, by omega⟩ hno)
  go_enter Try.func27, Try.ntmps27
  go_wp2_with fail
  refine C.out.mono ?_
  rintro e w' ⟨rfl, m, rfl⟩
  go_wp2
  go_ret
  exact ⟨rfl, _, rfl⟩
theorem sameYes (w : World) (g h page : Nat) (l : List UInt8) (a : At w g h page l) (at_ : Int) (A : Option Addr) (c B : Nat) (p : List UInt8) (hp : Bytes w B A p) (hy : There page l.length at_ p.length) :
    Calls Try.prog 27 #[.pointer (some ⟨g, 0, none⟩), .int .i64 at_, .slice A p.length c] w fun e w' =>
      e = .returned (.bool ((l.drop at_.toNat).take p.length == p)) ∧ ∃ m, w.drewN m = w' := by
  have C := Lib.hid (thereYes w g h page l a at_ p.length hy)
  obtain ⟨q1, q2, q3, q4⟩ := hy
  have hs := a.small
  have hb := a.bytes
  have hlen : ((l.drop at_.toNat).take p.length).length = p.length := by simp; omega
  have E : ∀ (m : Nat) (A' : Option Addr), (0 < p.length → A' = some ⟨h, at_.toNat, none⟩) → Calls Try.prog 56 #[.slice A' p.length p.length, .slice A p.length c] (w.drewN m) fun e w' => e = .returned (.bool ((l.drop at_.toNat).take p.length == p)) ∧ w.drewN m = w' := by
    intro m A' hA
    have := equalC A' A p.length c (max (h + 1) B) _ p (w.drewN m) (BB.piece (w := w.drewN m) hb _ at_.toNat p.length (Nat.lt_of_lt_of_le (Nat.lt_succ_self h) (Nat.le_max_left _ _)) (by omega) A' hA) (Row.more hp (Nat.le_max_right _ _))
    rwa [hlen] at this
  replace E := Lib.hid E
  generalize ((l.drop at_.toNat).take p.length == p) = r at *
  clear hlen
  go_enter Try.func27, Try.ntmps27
  go_wp2_with fail
  refine C.out.mono ?_
  rintro e w' ⟨A', rfl, hA, m, rfl⟩
  go_wp2_with fail
  refine (E.out m A' (fun h0 => hA (by omega))).mono ?_
  rintro e w' ⟨rfl, rfl⟩
  go_wp2
  go_ret
  exact ⟨rfl, _, rfl⟩

theorem pageNo (w : World) (g h page : Nat) (l : List UInt8) (a : At w g h page l) (i : Int) (hi : inI64 i) (hno : i < 0 ∨ ((l.length / page : Nat) : Int) ≤ i) :
    Calls Try.prog 53 #[.pointer (some ⟨g, 0, none⟩), .int .i64 i] w fun e w' => e = .returned (.tuple #[.slice none 0 0, .int .i64 20]) ∧ ∃ m, w.drewN m = w' := by
  have C := Lib.hid (pagesC w g h page l a)
  generalize l.length / page = q at *
  by_cases h0 : i < 0
  · go_enter Try.func53, Try.ntmps53
    go_wp2
    go_ret2
    exact ⟨rfl, 0, rfl⟩
  · have h1 : (q : Int) ≤ i := by omega
    clear hno
    go_enter Try.func53, Try.ntmps53
    go_wp2_with fail
    refine C.out.mono ?_
    rintro e w' ⟨rfl, m, rfl⟩
    go_wp2
    go_ret2
    exact ⟨rfl, _, rfl⟩
set_option maxRecDepth 100000 in
theorem pageYes (w : World) (g h page : Nat) (l : List UInt8) (a : At w g h page l) (k : Nat) (hk : k < l.length / page) :
    Calls Try.prog 53 #[.pointer (some ⟨g, 0, none⟩), .int .i64 (k : Int)] w fun e w' =>
      e = .returned (.tuple #[.slice (some ⟨w.heap.size, 0, none⟩) page page, .int .i64 0]) ∧ BB w' 5 w.heap.size ((l.drop (k * page)).take page) ∧ Below w.heap.size w w' ∧ w'.heap.size = w.heap.size + 1 := by
  have C := Lib.hid (pagesC w g h page l a)
  have hs := a.small
  have hps := a.psmall
  have hp := a.pos
  have hmul : k * page + page ≤ l.length := by
    have h1 : (k + 1) * page ≤ l.length / page * page := Nat.mul_le_mul_right _ hk
    have h2 := Nat.div_mul_le_self l.length page
    rw [Nat.add_mul, Nat.one_mul] at h1
    omega
  have hy : There page l.length ((k : Int) * page) page := by
    refine ⟨by rw [← Int.natCast_mul]; omega, by omega, by rw [← Int.natCast_mul]; omega, .inr ?_⟩
    rw [Int.mul_emod_left]; omega
  have R : ∀ m, Calls Try.prog 20 #[.pointer (some ⟨g, 0, none⟩), .int .i64 ((k : Int) * page), .int .i64 (page : Int)] (w.drewN m) fun e w' =>
      e = .returned (.tuple #[.slice (some ⟨w.heap.size, 0, none⟩) page page, .int .i64 0]) ∧ BB w' 5 w.heap.size ((l.drop (k * page)).take page) ∧ Below w.heap.size (w.drewN m) w' ∧ w'.heap.size = w.heap.size + 1 := by
    intro m
    have := readYes (w.drewN m) g h page l (a.keep rfl rfl) _ _ hy
    rw [← Int.natCast_mul] at this ⊢
    simp only [Int.toNat_natCast] at this
    exact this
  replace R := Lib.hid R
  have hm1 : 0 ≤ (k : Int) * page := hy.1
  have hm2 : (k : Int) * page ≤ 1073741824 := by have := hy.2.2.1; omega
  have hk2 : (k : Int) < ((l.length / page : Nat) : Int) := by omega
  clear hy hmul hk
  have c0 := a.cell0
  generalize l.length / page = q at *
  go_enter Try.func53, Try.ntmps53
  go_wp2_with fail
  refine C.out.mono ?_
  rintro e w' ⟨rfl, m, rfl⟩
  go_wp2_with fail
  have w1 : IntKind.i64.wrap ((k : Int) * (page : Int)) = (k : Int) * page := IntWalk.i64_in _ (by omega)
  have cW : (w.drewN m).cell? ⟨g, 0, none⟩ = some (.int .i64 (page : Int)) := c0
  have RW := Lib.hid (R.out (m + 1))
  rw [show w.drewN (m + 1) = (w.drewN m).drew from rfl] at RW
  clear R c0
  have hWf : (w.drewN m).heap = w.heap ∧ (w.drewN m).os = w.os ∧ (w.drewN m).tape = w.tape ∧ (w.drewN m).output = w.output := ⟨rfl, rfl, rfl, rfl⟩
  generalize w.drewN m = W at *
  have hgl := heap_lt a.head
  have hWw : W.heap = w.heap ∧ W.os = w.os ∧ W.tape = w.tape ∧ W.output = w.output := hWf
  replace hWw := Lib.hid hWw
  clear hWf
  have hglW : g < W.heap.size := by rw [hWw.out.1]; exact hgl
  go_region_held3 (fun w' => w'.cell? ⟨g, 0, none⟩ = some (.int .i64 (page : Int)))
    (first
      | go_keep
      | (rw [hbel.cell (p := ⟨g, 0, none⟩) hgl]; exact cW))
    ((first
      | (go_at_call 20; refine RW.out.mono ?_; rintro e w' ⟨rfl, hb1, hbel, hsz⟩)))
  go_wp2
  go_ret2
  exact ⟨rfl, hb1, ⟨hbel.os.trans hWw.out.2.1, hbel.tape.trans hWw.out.2.2.1, hbel.output.trans hWw.out.2.2.2, (hWw.out.1 ▸ hbel.size), fun k hk => (hbel.block k hk).trans (by show W.heap[k]? = _; rw [hWw.out.1])⟩, hsz⟩
end Go.Proofs.Ytnjobnccknpaeaa.Arena
