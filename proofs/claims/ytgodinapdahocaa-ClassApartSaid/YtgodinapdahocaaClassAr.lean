/-
  The arena's walks, cut to what this program has (wip/gen_cut.py, of ArenaOps, ArenaOps2, ArenaOnes, ArenaNew, ArenaWidth, ArenaNum, ArenaPut).
-/
import Derived.Test.YtgodinapdahocaaArenaThere
import Derived.StillTailTactics
import Derived.Deep.RegionHeld3
import Derived.Laws.BitsAllLaws
import Derived.Laws.Bits64b
namespace Go.Proofs.Ytgodinapdahocaa.Arena
open Go.RowKit Base
set_option linter.unusedVariables false

theorem eiBytes : EI Try.prog 62 5 (.int .u8 0) 1 1 := EI.mk' Try.underlying62 (by kernel_rfl) rfl (by decide)
theorem u8size : (Try.prog.info? 5).map (·.size) = some 1 := by kernel_rfl
theorem made_one (z : Value) (n : Nat) : madeCells #[z] n = Array.replicate n z := by
  apply Array.ext
  · simp [madeCells]
  · intro i h1 h2
    simp [madeCells, Nat.mod_one]
theorem bb_made (w : World) (n : Nat) : BB (w.alloc (.cells (madeCells (Value.int .u8 0).cells (n * 1)) 5)) 5 w.heap.size (List.replicate n 0) := by
  unfold BB
  rw [heap_alloc_new, show (Value.int .u8 0).cells = #[Value.int .u8 0] from rfl, made_one, Nat.mul_one]
  simp [bv]

theorem pageSizeC (w : World) (g h page : Nat) (l : List UInt8) (a : At w g h page l) :
    Calls Try.prog 78 #[.pointer (some ⟨g, 0, none⟩)] w fun e w' => e = .returned (.int .i64 (page : Int)) ∧ w = w' := by
  have c0 := a.cell0
  go_enter Try.func78, Try.ntmps78
  go_wp2
  go_ret
  exact ⟨rfl, rfl⟩
theorem lenC (w : World) (g h page : Nat) (l : List UInt8) (a : At w g h page l) :
    Calls Try.prog 71 #[.pointer (some ⟨g, 0, none⟩)] w fun e w' => e = .returned (.int .i64 (l.length : Int)) ∧ w = w' := by
  have c1 := a.cell1
  have hs := a.small
  go_enter Try.func71, Try.ntmps71
  go_wp2
  go_ret
  exact ⟨rfl, rfl⟩
theorem toldC (w : World) (A : Option Addr) (c B : Nat) (l : List UInt8) (hb : Bytes w B A l) (hB : B ≤ w.heap.size) (hl : l.length ≤ 1073741824) :
    Calls Try.prog 112 #[.slice A l.length c] w fun e w' => e = .returned (.slice (some ⟨w.heap.size, 0, none⟩) l.length l.length) ∧ BB w' 5 w.heap.size l ∧ Below w.heap.size w w' ∧ w'.heap.size = w.heap.size + 1 := by
  have hmk : ∀ w : World, (Instr.makeSlice 62 (.int .i64 (l.length : Int)) (.int .i64 (l.length : Int))).run Try.prog w = .ok (.slice (some ⟨w.heap.size, 0, none⟩) l.length l.length) (w.alloc (.cells (madeCells (Value.int .u8 0).cells (l.length * 1)) 5)) :=
    fun w => EI.make eiBytes .i64 .i64 l.length l.length (by omega) (by omega) (by omega) w
  have hm := bb_made w l.length
  have hbel : Below w.heap.size w (w.alloc (.cells (madeCells (Value.int .u8 0).cells (l.length * 1)) 5)) := (Below.refl _ _).alloc (Nat.le_refl _) _
  have hb2 : Bytes (w.alloc (.cells (madeCells (Value.int .u8 0).cells (l.length * 1)) 5)) B A l := Row.alloc hb hB _
  have hsz : (w.alloc (.cells (madeCells (Value.int .u8 0).cells (l.length * 1)) 5)).heap.size = w.heap.size + 1 := World.size_alloc _ _
  generalize hO : Obj.cells (madeCells (Value.int .u8 0).cells (l.length * 1)) 5 = O at *
  clear hO
  replace hsz := Lib.hid hsz
  go_enter Try.func112, Try.ntmps112
  go_wp2_with ((refine wpList_copyB rfl _ _ _ _ rfl _ Try.underlying62 u8size _ _ _ _ _ _ rfl rfl w.heap.size 0 5 (List.replicate l.length 0) l hm (by simp) (fun _ => rfl) hb2 (by simp) ?_; intro w1 hb1 ho1 hs1))
  go_ret
  refine ⟨rfl, ?_, hbel.trans (ho1.toBelow (fun k hk => ⟨by have := hsz.out; omega, by show ¬ k = _; omega⟩)), hs1.trans hsz.out⟩
  have e : lay (List.replicate l.length 0) 0 l = l := by simp [lay]
  rwa [e] at hb1

/-- A refusal: the error's number is 20, and nothing has changed. -/
theorem readNo (w : World) (g h page : Nat) (l : List UInt8) (a : At w g h page l) (at_ n : Int) (ha : inI64 at_) (hn : inI64 n) (hno : ¬ There page l.length at_ n) :
    Calls Try.prog 85 #[.pointer (some ⟨g, 0, none⟩), .int .i64 at_, .int .i64 n] w fun e w' => e = .returned (.tuple #[.slice none 0 0, .int .i64 20]) ∧ ∃ m, w.drewN m = w' := by
  have C := Lib.hid (thereNo w g h page l a at_ n ha hn hno)
  go_enter Try.func85, Try.ntmps85
  go_wp2_with fail
  refine C.out.mono ?_
  rintro e w' ⟨rfl, m, rfl⟩
  go_wp2
  go_ret2
  exact ⟨rfl, _, rfl⟩
theorem readYes (w : World) (g h page : Nat) (l : List UInt8) (a : At w g h page l) (at_ n : Int) (hy : There page l.length at_ n) :
    Calls Try.prog 85 #[.pointer (some ⟨g, 0, none⟩), .int .i64 at_, .int .i64 n] w fun e w' =>
      e = .returned (.tuple #[.slice (some ⟨w.heap.size, 0, none⟩) n.toNat n.toNat, .int .i64 0]) ∧ BB w' 5 w.heap.size ((l.drop at_.toNat).take n.toNat) ∧ Below w.heap.size w w' ∧ w'.heap.size = w.heap.size + 1 := by
  have C := Lib.hid (thereYes w g h page l a at_ n hy)
  obtain ⟨q1, q2, q3, q4⟩ := hy
  have hs := a.small
  have hlen : ((l.drop at_.toNat).take n.toNat).length = n.toNat := by simp; omega
  have hb := a.bytes
  have hlt := hb.lt
  have T : ∀ (m : Nat) (A : Option Addr), (0 < n → A = some ⟨h, at_.toNat, none⟩) → Calls Try.prog 112 #[.slice A n.toNat n.toNat] (w.drewN m) fun e w' =>
      e = .returned (.slice (some ⟨w.heap.size, 0, none⟩) n.toNat n.toNat) ∧ BB w' 5 w.heap.size ((l.drop at_.toNat).take n.toNat) ∧ Below w.heap.size (w.drewN m) w' ∧ w'.heap.size = w.heap.size + 1 := by
    intro m A hA
    have hp := BB.piece (w := w.drewN m) hb w.heap.size at_.toNat n.toNat hlt (by omega) A (fun h0 => hA (by omega))
    have := toldC (w.drewN m) A n.toNat w.heap.size _ hp (Nat.le_refl _) (by omega)
    rw [hlen] at this
    exact this
  replace T := Lib.hid T
  go_enter Try.func85, Try.ntmps85
  go_wp2_with fail
  refine C.out.mono ?_
  rintro e w' ⟨A, rfl, hA, m, rfl⟩
  go_wp2_with fail
  refine (T.out m A hA).mono ?_
  rintro e w1 ⟨rfl, hb1, hbel, hsz⟩
  replace hsz := Lib.hid hsz
  go_wp2
  go_ret2
  exact ⟨rfl, hb1, ⟨hbel.os, hbel.tape, hbel.output, hbel.size, hbel.block⟩, hsz.out⟩

theorem writeNo (w : World) (g h page : Nat) (l : List UInt8) (a : At w g h page l) (at_ : Int) (ha : inI64 at_) (A : Option Addr) (n c : Nat) (hn : n ≤ maxLen) (hno : ¬ There page l.length at_ n) :
    Calls Try.prog 92 #[.pointer (some ⟨g, 0, none⟩), .int .i64 at_, .slice A n c] w fun e w' => e = .returned (.int .i64 20) ∧ ∃ m, w.drewN m = w' := by
  unfold maxLen at hn
  have C := Lib.hid (thereNo w g h page l a at_ n ha ⟨by omega, by omega⟩ hno)
  go_enter Try.func92, Try.ntmps92
  go_wp2_with fail
  refine C.out.mono ?_
  rintro e w' ⟨rfl, m, rfl⟩
  go_wp2
  go_ret
  exact ⟨rfl, _, rfl⟩
theorem writeYes (w : World) (g h page : Nat) (l : List UInt8) (a : At w g h page l) (at_ : Int) (A : Option Addr) (c B : Nat) (p : List UInt8) (hp : Bytes w B A p) (hy : There page l.length at_ p.length) :
    Calls Try.prog 92 #[.pointer (some ⟨g, 0, none⟩), .int .i64 at_, .slice A p.length c] w fun e w' =>
      e = .returned (.int .i64 0) ∧ At w' g h page (lay l at_.toNat p) ∧ Only (· = h) w w' ∧ w'.heap.size = w.heap.size := by
  have C := Lib.hid (thereYes w g h page l a at_ p.length hy)
  obtain ⟨q1, q2, q3, q4⟩ := hy
  have hs := a.small
  have hb := a.bytes
  go_enter Try.func92, Try.ntmps92
  go_wp2_with fail
  refine C.out.mono ?_
  rintro e w' ⟨A', rfl, hA, m, rfl⟩
  replace hA : 0 < p.length → A' = some ⟨h, at_.toNat, none⟩ := fun h0 => hA (by omega)
  have hbm : BB (w.drewN m) 5 h l := hb
  have hpm : Bytes (w.drewN m) B A p := hp
  go_wp2_with ((refine wpList_copyB rfl _ _ _ _ rfl _ Try.underlying62 u8size _ _ _ _ _ _ rfl rfl h at_.toNat 5 l p hbm (by simp) hA hpm (by omega) ?_; intro w1 hb1 ho1 hs1))
  go_ret
  refine ⟨rfl, a.turn ⟨ho1.os, ho1.tape, ho1.output, ho1.size, ho1.block⟩ hb1 (lay_len _ _ _ (by omega)), ⟨ho1.os, ho1.tape, ho1.output, ho1.size, ho1.block⟩, hs1⟩

theorem lay_rep (l : List UInt8) (p k : Nat) (b : UInt8) (h : p + k < l.length) : (lay l p (List.replicate k b)).set (p + k) b = lay l p (List.replicate (k + 1) b) := by
  have hl : (l.take p ++ List.replicate k b).length = p + k := by simp; omega
  simp only [lay, List.length_replicate]
  rw [List.drop_eq_getElem_cons h, List.set_append_right _ _ (by omega), hl, Nat.sub_self, List.set_cons_zero, List.replicate_succ', ← List.append_assoc, List.append_assoc _ [b], Nat.add_assoc]
  rfl

theorem fillNo (w : World) (g h page : Nat) (l : List UInt8) (a : At w g h page l) (at_ n : Int) (b : UInt8) (ha : inI64 at_) (hn : inI64 n) (hno : ¬ There page l.length at_ n) :
    Calls Try.prog 50 #[.pointer (some ⟨g, 0, none⟩), .int .i64 at_, .int .i64 n, .int .u8 (b.toNat : Int)] w fun e w' => e = .returned (.int .i64 20) ∧ ∃ m, w.drewN m = w' := by
  have C := Lib.hid (thereNo w g h page l a at_ n ha hn hno)
  go_enter Try.func50, Try.ntmps50
  go_wp2_with fail
  refine C.out.mono ?_
  rintro e w' ⟨rfl, m, rfl⟩
  go_wp2
  go_ret
  exact ⟨rfl, _, rfl⟩
theorem fillYes (w : World) (g h page : Nat) (l : List UInt8) (a : At w g h page l) (at_ n : Int) (b : UInt8) (hy : There page l.length at_ n) :
    Calls Try.prog 50 #[.pointer (some ⟨g, 0, none⟩), .int .i64 at_, .int .i64 n, .int .u8 (b.toNat : Int)] w fun e w' =>
      e = .returned (.int .i64 0) ∧ At w' g h page (lay l at_.toNat (List.replicate n.toNat b)) ∧ Only (· = h) w w' ∧ w'.heap.size = w.heap.size := by
  have C := Lib.hid (thereYes w g h page l a at_ n hy)
  obtain ⟨q1, q2, q3, q4⟩ := hy
  have hs := a.small
  have hb := a.bytes
  obtain ⟨p, rfl⟩ := Int.eq_ofNat_of_zero_le q1
  obtain ⟨N, rfl⟩ := Int.eq_ofNat_of_zero_le q2
  simp only [Int.toNat_natCast] at C ⊢
  go_enter Try.func50, Try.ntmps50
  go_wp2_with fail
  refine C.out.mono ?_
  rintro e w0 ⟨A', rfl, hA, m, hw0⟩
  have hb0 : BB w0 5 h l := by rw [← hw0]; exact hb
  have ho0 : Only (· = h) w w0 := by rw [← hw0]; exact (Only.refl _ _).drewN m
  have hs0 : w0.heap.size = w.heap.size := by rw [← hw0]; rfl
  replace hA : 0 < N → A' = some ⟨h, p, none⟩ := fun h0 => hA (by omega)
  clear C hw0
  replace hs0 := Lib.hid hs0
  go_wp2
  go_loopw [23] (fun i wr => ∃ k : Nat, k ≤ N ∧ i = .int .i64 k ∧ BB wr 5 h (lay l p (List.replicate k b)) ∧ Only (· = h) w wr ∧ Hid (wr.heap.size = w.heap.size)) (fun i _ => N - (intOf i).toNat)
  case atStart => exact ⟨0, by omega, rfl, by simpa [lay] using hb0, ho0, hs0⟩
  case round =>
    obtain ⟨k, hk, rfl, hbk, hok, hsk⟩ := hrel
    by_cases hlt : k < N
    · obtain rfl := hA (by omega)
      have hll : (lay l p (List.replicate k b)).length = l.length := lay_len _ _ _ (by simp; omega)
      have c1 := hbk.cell (p + k) (by omega)
      have c2 := hbk.frozen (p + k)
      have hset := hbk.set (p + k) b
      rw [lay_rep l p k b (by omega)] at hset
      generalize ((lay l p (List.replicate k b))[p + k]).toNat = z at c1
      have ho1 : Only (· = h) w (wr.setCell ⟨h, p + k, none⟩ (.int .u8 (b.toNat : Int))) := hok.setCell (fun _ => rfl) _
      replace hll := Lib.hid hll
      go_wp2
      go_roundw
      case rel => exact ⟨k + 1, by omega, by go_num, hset, ho1, Lib.hid ((World.size_setCell _ _ _).trans hsk.out)⟩
      case measure => simp [intOf]; omega
    · obtain rfl : k = N := by omega
      go_wp2
      go_ret
      exact ⟨rfl, a.turn hok hbk (lay_len _ _ _ (by simp; omega)), hok, hsk.out⟩

theorem equalC (A A' : Option Addr) (c c' B : Nat) (a b : List UInt8) (w : World) (ha : Bytes w B A a) (hb : Bytes w B A' b) :
    Calls Try.prog 104 #[.slice A a.length c, .slice A' b.length c'] w fun e w' => e = .returned (.bool (a == b)) ∧ w = w' := by
  have h1 := conv_string (c := c) ha Try.underlying62 Try.underlying5 9 Try.underlying9
  have h2 := conv_string (c := c') hb Try.underlying62 Try.underlying5 9 Try.underlying9
  go_enter Try.func104, Try.ntmps104
  go_wp2
  go_ret
  exact ⟨rfl, rfl⟩

theorem sameNo (w : World) (g h page : Nat) (l : List UInt8) (a : At w g h page l) (at_ : Int) (ha : inI64 at_) (A : Option Addr) (n c : Nat) (hn : n ≤ maxLen) (hno : ¬ There page l.length at_ n) :
    Calls Try.prog 72 #[.pointer (some ⟨g, 0, none⟩), .int .i64 at_, .slice A n c] w fun e w' => e = .returned (.bool false) ∧ ∃ m, w.drewN m = w' := by
  unfold maxLen at hn
  have C := Lib.hid (thereNo w g h page l a at_ n ha ⟨by omega, by omega⟩ hno)
  go_enter Try.func72, Try.ntmps72
  go_wp2_with fail
  refine C.out.mono ?_
  rintro e w' ⟨rfl, m, rfl⟩
  go_wp2
  go_ret
  exact ⟨rfl, _, rfl⟩
theorem sameYes (w : World) (g h page : Nat) (l : List UInt8) (a : At w g h page l) (at_ : Int) (A : Option Addr) (c B : Nat) (p : List UInt8) (hp : Bytes w B A p) (hy : There page l.length at_ p.length) :
    Calls Try.prog 72 #[.pointer (some ⟨g, 0, none⟩), .int .i64 at_, .slice A p.length c] w fun e w' =>
      e = .returned (.bool ((l.drop at_.toNat).take p.length == p)) ∧ ∃ m, w.drewN m = w' := by
  have C := Lib.hid (thereYes w g h page l a at_ p.length hy)
  obtain ⟨q1, q2, q3, q4⟩ := hy
  have hs := a.small
  have hb := a.bytes
  have hlen : ((l.drop at_.toNat).take p.length).length = p.length := by simp; omega
  have E : ∀ (m : Nat) (A' : Option Addr), (0 < p.length → A' = some ⟨h, at_.toNat, none⟩) → Calls Try.prog 104 #[.slice A' p.length p.length, .slice A p.length c] (w.drewN m) fun e w' => e = .returned (.bool ((l.drop at_.toNat).take p.length == p)) ∧ w.drewN m = w' := by
    intro m A' hA
    have := equalC A' A p.length c (max (h + 1) B) _ p (w.drewN m) (BB.piece (w := w.drewN m) hb _ at_.toNat p.length (Nat.lt_of_lt_of_le (Nat.lt_succ_self h) (Nat.le_max_left _ _)) (by omega) A' hA) (Row.more hp (Nat.le_max_right _ _))
    rwa [hlen] at this
  replace E := Lib.hid E
  generalize ((l.drop at_.toNat).take p.length == p) = r at *
  clear hlen
  go_enter Try.func72, Try.ntmps72
  go_wp2_with fail
  refine C.out.mono ?_
  rintro e w' ⟨A', rfl, hA, m, rfl⟩
  go_wp2_with fail
  refine (E.out m A' (fun h0 => hA (by omega))).mono ?_
  rintro e w' ⟨rfl, rfl⟩
  go_wp2
  go_ret
  exact ⟨rfl, _, rfl⟩


set_option maxRecDepth 100000 in
theorem ones0 (w : World) : Calls Try.prog 106 #[.int .u64 4096] w fun e w' => e = .returned (.int .i64 1) ∧ w = w' := by
  have b0 : bits .and .u64 2048 6148914691236517205 = 0 := by kernel_rfl
  have b1 : bits .and .u64 4096 6148914691236517205 = 4096 := by kernel_rfl
  have b2 : bits .and .u64 1024 3689348814741910323 = 0 := by kernel_rfl
  have b3 : bits .and .u64 4096 3689348814741910323 = 4096 := by kernel_rfl
  have b4 : bits .and .u64 4352 1085102592571150095 = 256 := by kernel_rfl
  have b5 : bits .and .i64 257 127 = 1 := by kernel_rfl
  go_enter Try.func106, Try.ntmps106
  go_wp2
  go_ret
  exact ⟨rfl, rfl⟩
set_option maxRecDepth 100000 in
theorem ones1 (w : World) : Calls Try.prog 106 #[.int .u64 8192] w fun e w' => e = .returned (.int .i64 1) ∧ w = w' := by
  have b0 : bits .and .u64 4096 6148914691236517205 = 4096 := by kernel_rfl
  have b1 : bits .and .u64 8192 6148914691236517205 = 0 := by kernel_rfl
  have b2 : bits .and .u64 1024 3689348814741910323 = 0 := by kernel_rfl
  have b3 : bits .and .u64 4096 3689348814741910323 = 4096 := by kernel_rfl
  have b4 : bits .and .u64 4352 1085102592571150095 = 256 := by kernel_rfl
  have b5 : bits .and .i64 257 127 = 1 := by kernel_rfl
  go_enter Try.func106, Try.ntmps106
  go_wp2
  go_ret
  exact ⟨rfl, rfl⟩
set_option maxRecDepth 100000 in
theorem ones2 (w : World) : Calls Try.prog 106 #[.int .u64 16384] w fun e w' => e = .returned (.int .i64 1) ∧ w = w' := by
  have b0 : bits .and .u64 8192 6148914691236517205 = 0 := by kernel_rfl
  have b1 : bits .and .u64 16384 6148914691236517205 = 16384 := by kernel_rfl
  have b2 : bits .and .u64 4096 3689348814741910323 = 4096 := by kernel_rfl
  have b3 : bits .and .u64 16384 3689348814741910323 = 0 := by kernel_rfl
  have b4 : bits .and .u64 4352 1085102592571150095 = 256 := by kernel_rfl
  have b5 : bits .and .i64 257 127 = 1 := by kernel_rfl
  go_enter Try.func106, Try.ntmps106
  go_wp2
  go_ret
  exact ⟨rfl, rfl⟩
set_option maxRecDepth 100000 in
theorem ones3 (w : World) : Calls Try.prog 106 #[.int .u64 32768] w fun e w' => e = .returned (.int .i64 1) ∧ w = w' := by
  have b0 : bits .and .u64 16384 6148914691236517205 = 16384 := by kernel_rfl
  have b1 : bits .and .u64 32768 6148914691236517205 = 0 := by kernel_rfl
  have b2 : bits .and .u64 4096 3689348814741910323 = 4096 := by kernel_rfl
  have b3 : bits .and .u64 16384 3689348814741910323 = 0 := by kernel_rfl
  have b4 : bits .and .u64 4352 1085102592571150095 = 256 := by kernel_rfl
  have b5 : bits .and .i64 257 127 = 1 := by kernel_rfl
  go_enter Try.func106, Try.ntmps106
  go_wp2
  go_ret
  exact ⟨rfl, rfl⟩
set_option maxRecDepth 100000 in
theorem ones4 (w : World) : Calls Try.prog 106 #[.int .u64 65536] w fun e w' => e = .returned (.int .i64 1) ∧ w = w' := by
  have b0 : bits .and .u64 32768 6148914691236517205 = 0 := by kernel_rfl
  have b1 : bits .and .u64 65536 6148914691236517205 = 65536 := by kernel_rfl
  have b2 : bits .and .u64 16384 3689348814741910323 = 0 := by kernel_rfl
  have b3 : bits .and .u64 65536 3689348814741910323 = 65536 := by kernel_rfl
  have b4 : bits .and .u64 69632 1085102592571150095 = 65536 := by kernel_rfl
  have b5 : bits .and .i64 65793 127 = 1 := by kernel_rfl
  go_enter Try.func106, Try.ntmps106
  go_wp2
  go_ret
  exact ⟨rfl, rfl⟩
set_option maxRecDepth 100000 in
theorem ones5 (w : World) : Calls Try.prog 106 #[.int .u64 131072] w fun e w' => e = .returned (.int .i64 1) ∧ w = w' := by
  have b0 : bits .and .u64 65536 6148914691236517205 = 65536 := by kernel_rfl
  have b1 : bits .and .u64 131072 6148914691236517205 = 0 := by kernel_rfl
  have b2 : bits .and .u64 16384 3689348814741910323 = 0 := by kernel_rfl
  have b3 : bits .and .u64 65536 3689348814741910323 = 65536 := by kernel_rfl
  have b4 : bits .and .u64 69632 1085102592571150095 = 65536 := by kernel_rfl
  have b5 : bits .and .i64 65793 127 = 1 := by kernel_rfl
  go_enter Try.func106, Try.ntmps106
  go_wp2
  go_ret
  exact ⟨rfl, rfl⟩
set_option maxRecDepth 100000 in
theorem ones6 (w : World) : Calls Try.prog 106 #[.int .u64 262144] w fun e w' => e = .returned (.int .i64 1) ∧ w = w' := by
  have b0 : bits .and .u64 131072 6148914691236517205 = 0 := by kernel_rfl
  have b1 : bits .and .u64 262144 6148914691236517205 = 262144 := by kernel_rfl
  have b2 : bits .and .u64 65536 3689348814741910323 = 65536 := by kernel_rfl
  have b3 : bits .and .u64 262144 3689348814741910323 = 0 := by kernel_rfl
  have b4 : bits .and .u64 69632 1085102592571150095 = 65536 := by kernel_rfl
  have b5 : bits .and .i64 65793 127 = 1 := by kernel_rfl
  go_enter Try.func106, Try.ntmps106
  go_wp2
  go_ret
  exact ⟨rfl, rfl⟩
set_option maxRecDepth 100000 in
theorem ones7 (w : World) : Calls Try.prog 106 #[.int .u64 524288] w fun e w' => e = .returned (.int .i64 1) ∧ w = w' := by
  have b0 : bits .and .u64 262144 6148914691236517205 = 262144 := by kernel_rfl
  have b1 : bits .and .u64 524288 6148914691236517205 = 0 := by kernel_rfl
  have b2 : bits .and .u64 65536 3689348814741910323 = 65536 := by kernel_rfl
  have b3 : bits .and .u64 262144 3689348814741910323 = 0 := by kernel_rfl
  have b4 : bits .and .u64 69632 1085102592571150095 = 65536 := by kernel_rfl
  have b5 : bits .and .i64 65793 127 = 1 := by kernel_rfl
  go_enter Try.func106, Try.ntmps106
  go_wp2
  go_ret
  exact ⟨rfl, rfl⟩
set_option maxRecDepth 100000 in
theorem ones8 (w : World) : Calls Try.prog 106 #[.int .u64 1048576] w fun e w' => e = .returned (.int .i64 1) ∧ w = w' := by
  have b0 : bits .and .u64 524288 6148914691236517205 = 0 := by kernel_rfl
  have b1 : bits .and .u64 1048576 6148914691236517205 = 1048576 := by kernel_rfl
  have b2 : bits .and .u64 262144 3689348814741910323 = 0 := by kernel_rfl
  have b3 : bits .and .u64 1048576 3689348814741910323 = 1048576 := by kernel_rfl
  have b4 : bits .and .u64 1114112 1085102592571150095 = 65536 := by kernel_rfl
  have b5 : bits .and .i64 65793 127 = 1 := by kernel_rfl
  go_enter Try.func106, Try.ntmps106
  go_wp2
  go_ret
  exact ⟨rfl, rfl⟩


/-- The page sizes that are right. -/
def RightPage (p : Nat) : Prop := p = 4096 ∨ p = 8192 ∨ p = 16384 ∨ p = 32768 ∨ p = 65536 ∨ p = 131072 ∨ p = 262144 ∨ p = 524288 ∨ p = 1048576
theorem ones64C (p : Nat) (hp : RightPage p) (w : World) : Calls Try.prog 106 #[.int .u64 (p : Int)] w fun e w' => e = .returned (.int .i64 1) ∧ w = w' := by
  rcases hp with rfl | rfl | rfl | rfl | rfl | rfl | rfl | rfl | rfl
  · exact ones0 w
  · exact ones1 w
  · exact ones2 w
  · exact ones3 w
  · exact ones4 w
  · exact ones5 w
  · exact ones6 w
  · exact ones7 w
  · exact ones8 w
theorem RightPage.bd {p : Nat} (h : RightPage p) : 4096 ≤ p ∧ p ≤ 1048576 := by unfold RightPage at h; omega
theorem onesC (p : Nat) (hp : RightPage p) (w : World) : Calls Try.prog 73 #[.int .u64 (p : Int)] w fun e w' => e = .returned (.int .i64 1) ∧ w = w' := by
  have C := Lib.hid (ones64C p hp w)
  have hb := hp.bd
  clear hp
  go_enter Try.func73, Try.ntmps73
  go_wp2_with fail
  refine C.out.mono ?_
  rintro e w' ⟨rfl, rfl⟩
  go_wp2
  go_ret
  exact ⟨rfl, rfl⟩

set_option maxRecDepth 100000 in
theorem newYes (w : World) (p n : Nat) (hp : RightPage p) (h1 : 1 ≤ n) (h2 : n ≤ 1024) :
    Calls Try.prog 45 #[.int .i64 (p : Int), .int .i64 (n : Int)] w fun e w' =>
      e = .returned (.tuple #[.pointer (some ⟨w.heap.size + 1, 0, none⟩), .int .i64 0]) ∧ At w' (w.heap.size + 1) w.heap.size p (List.replicate (p * n) 0) ∧ Below w.heap.size w w' ∧ w'.heap.size = w.heap.size + 2 := by
  have C := Lib.hid (onesC p hp w)
  have hb := hp.bd
  have hpn : p * n ≤ 1073741824 := by
    have := Nat.mul_le_mul hb.2 h2
    omega
  have hmk : ∀ w : World, (Instr.makeSlice 62 (.int .i64 ((p : Int) * (n : Int))) (.int .i64 ((p : Int) * (n : Int)))).run Try.prog w = .ok (.slice (some ⟨w.heap.size, 0, none⟩) (p * n) (p * n)) (w.alloc (.cells (madeCells (Value.int .u8 0).cells (p * n * 1)) 5)) := by
    intro w
    have := EI.make eiBytes .i64 .i64 (p * n) (p * n) (by omega) (by omega) (by omega) w
    rw [Int.natCast_mul] at this
    exact this
  have hm := bb_made w (p * n)
  have hbel : Below w.heap.size w (w.alloc (.cells (madeCells (Value.int .u8 0).cells (p * n * 1)) 5)) := (Below.refl _ _).alloc (Nat.le_refl _) _
  have hsz := Lib.hid (World.size_alloc w (.cells (madeCells (Value.int .u8 0).cells (p * n * 1)) 5))
  have hlt := Lib.hid hm.lt
  have hq : ((p : Int) * (n : Int)) ≤ 1073741824 := by rw [← Int.natCast_mul]; omega
  have hq0 : 0 ≤ ((p : Int) * (n : Int)) := by rw [← Int.natCast_mul]; omega
  have hat : At ((w.alloc (.cells (madeCells (Value.int .u8 0).cells (p * n * 1)) 5)).alloc (.cells #[.int .i64 (p : Int), .slice (some ⟨w.heap.size, 0, none⟩) (p * n) (p * n)] 132)) (w.heap.size + 1) w.heap.size p (List.replicate (p * n) 0) := by
    refine ⟨?_, ?_, by omega, by simpa using hpn, by omega⟩
    · have := heap_alloc_new (w.alloc (.cells (madeCells (Value.int .u8 0).cells (p * n * 1)) 5)) (.cells #[.int .i64 (p : Int), .slice (some ⟨w.heap.size, 0, none⟩) (p * n) (p * n)] 132)
      rw [World.size_alloc] at this
      rw [this]
      simp
    · exact (Below.heap_alloc _ _ _ (by simp)).trans hm
  replace hat := Lib.hid hat
  generalize hO : Obj.cells (madeCells (Value.int .u8 0).cells (p * n * 1)) 5 = O at *
  clear hO hm
  go_enter Try.func45, Try.ntmps45
  go_wp2_with fail
  refine C.out.mono ?_
  rintro e w' ⟨rfl, rfl⟩
  go_wp2
  go_ret2
  exact ⟨rfl, hat.out, hbel.alloc (by rw [hsz.out]; exact Nat.le_succ _) _, by rw [World.size_alloc, hsz.out]⟩
set_option maxRecDepth 100000 in
theorem width_u32 (w : World) : Calls Try.prog 76 #[] w fun e w' => e = .returned (.int .i64 4) ∧ w = w' := by
  go_enter Try.func76, Try.ntmps76
  go_wp2
  go_rounds 5
  go_ret
  exact ⟨rfl, rfl⟩

def beN (l : List UInt8) : Nat := l.foldl (fun n c => n * 256 + c.toNat) 0
theorem beN_snoc (l : List UInt8) (c : UInt8) : beN (l ++ [c]) = beN l * 256 + c.toNat := by simp [beN, List.foldl_append]
theorem beN_take (l : List UInt8) (k : Nat) (hk : k < l.length) : beN (l.take (k + 1)) = beN (l.take k) * 256 + (l[k]).toNat := by rw [List.take_succ_eq_append_getElem hk, beN_snoc]
theorem beN_take' (l : List UInt8) (k : Nat) (z : UInt8) (hk : l[k]? = some z) : beN (l.take (k + 1)) = beN (l.take k) * 256 + z.toNat := by
  obtain ⟨hl, rfl⟩ := List.getElem?_eq_some_iff.1 hk
  exact beN_take l k hl
theorem beN_lt (l : List UInt8) : beN l < 256 ^ l.length := by
  rw [← List.reverse_reverse l]
  induction l.reverse with
  | nil => decide
  | cons b r ih =>
    rw [List.reverse_cons, beN_snoc, List.length_append, List.length_singleton, Nat.pow_succ]
    have := b.toNat_lt
    omega
def putB : Nat → Nat → List UInt8
  | 0, _ => []
  | w + 1, n => putB w (n / 256) ++ [UInt8.ofNat n]
theorem putB_succ (w n : Nat) : putB (w + 1) n = putB w (n / 256) ++ [UInt8.ofNat n] := rfl
theorem putB_len (w : Nat) : ∀ n, (putB w n).length = w := by
  induction w with
  | zero => intro n; rfl
  | succ w ih => intro n; rw [putB_succ, List.length_append, ih]; rfl
theorem ofNat_toNat (n : Nat) : (UInt8.ofNat n).toNat = n % 256 := by rw [UInt8.toNat_ofNat']
theorem beN_putB (w : Nat) : ∀ n, beN (putB w n) = n % 256 ^ w := by
  induction w with
  | zero => intro n; simp [putB, beN, Nat.mod_one]
  | succ w ih =>
    intro n
    rw [putB_succ, beN_snoc, ih, ofNat_toNat, Nat.pow_succ, Nat.mul_comm (256 ^ w) 256, Nat.mod_mul]
    omega
theorem lay_cons (l : List UInt8) (p r : Nat) (done : List UInt8) (b : UInt8) (h : p + (r + 1) + done.length ≤ l.length) : (lay l (p + (r + 1)) done).set (p + r) b = lay l (p + r) (b :: done) := by
  simp only [lay, List.length_cons]
  rw [show p + (r + 1) = p + r + 1 by omega, List.take_succ_eq_append_getElem (show p + r < l.length by omega), List.append_assoc, List.append_assoc,
    List.set_append_right _ _ (by simp; omega), List.singleton_append]
  have e : p + r - (l.take (p + r)).length = 0 := by simp; omega
  rw [e, List.set_cons_zero, List.append_assoc, List.cons_append]
  congr 4
  omega
theorem step_mod (x c M : Nat) : (x % M * 256 + c) % M = (x * 256 + c) % M := by
  rw [Nat.add_mod, Nat.mul_mod, Nat.mod_mod, ← Nat.mul_mod, ← Nat.add_mod]

theorem or_low (q c : Nat) (hc : c < 256) : (q * 256) ||| c = q * 256 + c := by
  have := Nat.two_pow_add_eq_or_of_lt (i := 8) (b := c) hc q
  rw [Nat.mul_comm q 256]
  exact this.symm
theorem get_u8 (n c : Nat) (hn : n < 256) (hc : c < 256) : bits .or .u8 (IntKind.u8.wrap (IntKind.u8.wrap ((n : Int) * 128) * 2)) (c : Int) = (((n * 256 + c) % 256 : Nat) : Int) := by
  have e : IntKind.u8.wrap (IntKind.u8.wrap ((n : Int) * 128) * 2) = ((0 : Nat) : Int) := by rw [IntKind.wrap_u8', IntKind.wrap_u8']; omega
  rw [e, u8_or_nat 0 c (by decide) hc, Nat.zero_or]
  congr 1
  omega
theorem get_u16 (n c : Nat) (hn : n < 65536) (hc : c < 256) : bits .or .u16 (IntKind.u16.wrap (IntKind.u16.wrap ((n : Int) * 128) * 2)) (c : Int) = (((n * 256 + c) % 65536 : Nat) : Int) := by
  have e : IntKind.u16.wrap (IntKind.u16.wrap ((n : Int) * 128) * 2) = ((n % 256 * 256 : Nat) : Int) := by rw [IntKind.wrap_u16, IntKind.wrap_u16]; omega
  rw [e, u16_or_nat _ c (by omega) (by omega), or_low _ _ hc]
  congr 1
  omega
theorem get_u32 (n c : Nat) (hn : n < 4294967296) (hc : c < 256) : bits .or .u32 (IntKind.u32.wrap (IntKind.u32.wrap ((n : Int) * 128) * 2)) (c : Int) = (((n * 256 + c) % 4294967296 : Nat) : Int) := by
  have e : IntKind.u32.wrap (IntKind.u32.wrap ((n : Int) * 128) * 2) = ((n % 16777216 * 256 : Nat) : Int) := by rw [IntKind.wrap_u32', IntKind.wrap_u32']; omega
  rw [e, u32_or_nat _ c (by omega) (by omega), or_low _ _ hc]
  congr 1
  omega
theorem get_u64 (n c : Nat) (hn : n < 18446744073709551616) (hc : c < 256) : bits .or .u64 (IntKind.u64.wrap (IntKind.u64.wrap ((n : Int) * 128) * 2)) (c : Int) = (((n * 256 + c) % 18446744073709551616 : Nat) : Int) := by
  have e : IntKind.u64.wrap (IntKind.u64.wrap ((n : Int) * 128) * 2) = ((n % 72057594037927936 * 256 : Nat) : Int) := by rw [IntKind.wrap_u64, IntKind.wrap_u64]; omega
  rw [e, u64_or_nat _ c (by omega) (by omega), or_low _ _ hc]
  congr 1
  omega
theorem get_u8e (n c : Nat) (hn : n < 256) (hc : c < 256) : bits .or .u8 ((n : Int) * 128 % 256 * 2 % 256) (c : Int) = (((n * 256 + c) % 256 : Nat) : Int) := by
  have h := get_u8 n c hn hc
  rwa [IntKind.wrap_u8', IntKind.wrap_u8'] at h
theorem get_u16e (n c : Nat) (hn : n < 65536) (hc : c < 256) : bits .or .u16 ((n : Int) * 128 % 65536 * 2 % 65536) (c : Int) = (((n * 256 + c) % 65536 : Nat) : Int) := by
  have h := get_u16 n c hn hc
  rwa [IntKind.wrap_u16, IntKind.wrap_u16] at h
theorem get_u32e (n c : Nat) (hn : n < 4294967296) (hc : c < 256) : bits .or .u32 ((n : Int) * 128 % 4294967296 * 2 % 4294967296) (c : Int) = (((n * 256 + c) % 4294967296 : Nat) : Int) := by
  have h := get_u32 n c hn hc
  rwa [IntKind.wrap_u32', IntKind.wrap_u32'] at h
theorem get_u64e (n c : Nat) (hn : n < 18446744073709551616) (hc : c < 256) : bits .or .u64 ((n : Int) * 128 % 18446744073709551616 * 2 % 18446744073709551616) (c : Int) = (((n * 256 + c) % 18446744073709551616 : Nat) : Int) := by
  have h := get_u64 n c hn hc
  rwa [IntKind.wrap_u64, IntKind.wrap_u64] at h
theorem byte_of (x : Nat) : IntKind.u8.wrap (x : Int) = ((UInt8.ofNat x).toNat : Int) := by rw [IntKind.wrap_u8', ofNat_toNat]; omega
theorem div_lt (x M : Nat) (h : x < M) : x / 256 < M := Nat.lt_of_le_of_lt (Nat.div_le_self _ _) h
theorem div_any (x : Nat) : (x : Int) / 128 / 2 = ((x / 256 : Nat) : Int) := by omega
theorem div_u8 (x : Nat) (_ : x < 256) : (x : Int) / 128 / 2 = ((x / 256 : Nat) : Int) := div_any x
theorem div_u16 (x : Nat) (_ : x < 65536) : (x : Int) / 128 / 2 = ((x / 256 : Nat) : Int) := div_any x
theorem div_u32 (x : Nat) (_ : x < 4294967296) : (x : Int) / 128 / 2 = ((x / 256 : Nat) : Int) := div_any x
theorem div_u64 (x : Nat) (_ : x < 18446744073709551616) : (x : Int) / 128 / 2 = ((x / 256 : Nat) : Int) := div_any x
theorem putNo_u32 (w : World) (g h page : Nat) (l : List UInt8) (a : At w g h page l) (at_ : Int) (n : Nat) (ha : inI64 at_) (hno : ¬ There page l.length at_ 4) :
    Calls Try.prog 51 #[.pointer (some ⟨g, 0, none⟩), .int .i64 at_, .int .u32 (n : Int)] w fun e w' => e = .returned (.int .i64 20) ∧ ∃ m, w.drewN m = w' := by
  have C := Lib.hid (thereNo w g h page l a at_ 4 ha (by unfold inI64; omega) hno)
  have E := Lib.hid width_u32
  go_enter Try.func51, Try.ntmps51
  go_wp2_with fail
  refine (E.out _).mono ?_
  rintro e w' ⟨rfl, rfl⟩
  go_wp2_with fail
  refine C.out.mono ?_
  rintro e w' ⟨rfl, m, rfl⟩
  go_wp2
  go_ret
  exact ⟨rfl, _, rfl⟩
theorem putNil_u32 (w : World) (at_ : Int) (n : Nat) :
    Calls Try.prog 51 #[.pointer none, .int .i64 at_, .int .u32 (n : Int)] w fun e w' => e = .returned (.int .i64 1) ∧ w = w' := by
  go_enter Try.func51, Try.ntmps51
  go_wp2
  go_ret
  exact ⟨rfl, rfl⟩
set_option maxHeartbeats 400000 in
theorem putYes_u32 (w : World) (g h page : Nat) (l : List UInt8) (a : At w g h page l) (at_ : Int) (n : Nat) (hn : n < 4294967296) (hy : There page l.length at_ 4) :
    Calls Try.prog 51 #[.pointer (some ⟨g, 0, none⟩), .int .i64 at_, .int .u32 (n : Int)] w fun e w' => e = .returned (.int .i64 0) ∧ At w' g h page (lay l at_.toNat (putB 4 n)) ∧ Only (· = h) w w' ∧ w'.heap.size = w.heap.size := by
  have C := Lib.hid (thereYes w g h page l a at_ 4 hy)
  have E := Lib.hid width_u32
  obtain ⟨q1, q2, q3, q4⟩ := hy
  have hs := a.small
  have hb := a.bytes
  obtain ⟨p, rfl⟩ := Int.eq_ofNat_of_zero_le q1
  simp only [Int.toNat_natCast] at C ⊢
  generalize hB : putB 4 n = fin at *
  have hfl : fin.length = 4 := by rw [← hB, putB_len]
  replace hfl := Lib.hid hfl
  go_enter Try.func51, Try.ntmps51
  go_wp2_with fail
  refine (E.out _).mono ?_
  rintro e w' ⟨rfl, rfl⟩
  go_wp2_with fail
  refine C.out.mono ?_
  rintro e w0 ⟨A, rfl, hA, m, hw0⟩
  obtain rfl := hA (by omega)
  have hb0 : BB w0 5 h l := by rw [← hw0]; exact hb
  have ho0 : Only (· = h) w w0 := by rw [← hw0]; exact (Only.refl _ _).drewN m
  have hs0 : Hid (w0.heap.size = w.heap.size) := by rw [← hw0]; rfl
  clear hw0 C E hA
  replace hB := Lib.hid hB
  go_wp2
  go_loopw [2, 9] (fun v i wr => ∃ (r x : Nat) (done : List UInt8), r + done.length = 4 ∧ x < 4294967296 ∧ i = .int .i64 ((r : Int) - 1) ∧ v = .int .u32 (x : Int) ∧ Hid (putB r x ++ done = fin) ∧ BB wr 5 h (lay l (p + r) done) ∧ Only (· = h) w wr ∧ Hid (wr.heap.size = w.heap.size)) (fun _ i _ => (intOf i + 1).toNat)
  case atStart => exact ⟨4, n, [], rfl, hn, by go_num, rfl, by rw [List.append_nil]; exact hB, by rw [lay_nil]; exact hb0, ho0, hs0⟩
  case round =>
    obtain ⟨r, x, done, hr, hx, rfl, rfl, hfx, hbr, hor, hsr⟩ := hrel
    rcases Nat.eq_zero_or_pos r with hz | hz
    · subst hz
      have hd0 : lay l (p + 0) done = lay l p fin := by rw [← hfx.out]; rfl
      rw [hd0] at hbr
      clear hd0
      go_wp2
      go_ret
      exact ⟨rfl, a.turn hor hbr (lay_len _ _ _ (by rw [hfl.out]; omega)), hor, hsr.out⟩
    · obtain ⟨r, rfl⟩ : ∃ r', r = r' + 1 := ⟨r - 1, by omega⟩
      have hll : (lay l (p + (r + 1)) done).length = l.length := lay_len _ _ _ (by omega)
      have c1 := hbr.cell (p + r) (by omega)
      have c2 := hbr.frozen (p + r)
      have hset := hbr.set (p + r) (UInt8.ofNat x)
      rw [lay_cons l p r done _ (by omega)] at hset
      have hbyte := byte_of x
      have hdiv := div_u32 x hx
      have hlt2 := div_lt x 4294967296 hx
      have hor1 : Only (· = h) w (wr.setCell ⟨h, p + r, none⟩ (.int .u8 ((UInt8.ofNat x).toNat : Int))) := hor.setCell (fun _ => rfl) _
      have hfx' : Hid (putB r (x / 256) ++ (UInt8.ofNat x :: done) = fin) := Lib.hid (by rw [← hfx.out, putB_succ]; simp)
      generalize ((lay l (p + (r + 1)) done)[p + r]).toNat = z at c1
      replace hll := Lib.hid hll
      have hi1 : ((((r + 1 : Nat) : Int)) - 1) = (r : Int) := by omega
      rw [hi1]
      clear hi1
      generalize (UInt8.ofNat x).toNat = bb at *
      generalize hxd : x / 256 = xd at *
      replace hxd := Lib.hid hxd
      go_wp2
      go_roundw
      case rel => exact ⟨r, xd, _, by simp only [List.length_cons]; omega, hlt2, by go_num, by go_num, hfx', hset, hor1, Lib.hid ((World.size_setCell _ _ _).trans hsr.out)⟩
      case measure => simp [intOf] <;> omega
end Go.Proofs.Ytgodinapdahocaa.Arena
