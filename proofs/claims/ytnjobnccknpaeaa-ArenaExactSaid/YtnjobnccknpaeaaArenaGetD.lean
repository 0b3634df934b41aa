/-
  The walks of the helper get: at each width the number that stands there, refused where it is not there, and of no arena. (printed by a small program of mine)
-/
import Derived.Test.YtnjobnccknpaeaaArenaPutD
namespace Go.Proofs.Ytnjobnccknpaeaa.Arena
open Go.RowKit Base
set_option linter.unusedVariables false

theorem getDYes_tiny (w : World) (g h page : Nat) (l : List UInt8) (a : At w g h page l) (at_ : Int) (hy : There page l.length at_ 1) :
    Calls Try.prog 14 #[.pointer (some ⟨g, 0, none⟩), .int .i64 at_, .int .i64 1, .bool true] w fun e w' => e = .returned (.tuple #[.int .u64 ((beN ((l.drop at_.toNat).take 1) : Nat) : Int), .int .i64 0]) ∧ ∃ m, w.drewN m = w' := by
  have P := Lib.hid (getYes_tiny w g h page l a at_ hy)
  have hfin := beN_lt ((l.drop at_.toNat).take 1)
  have hlen : ((l.drop at_.toNat).take 1).length ≤ 1 := List.length_take_le _ _
  have hlt : beN ((l.drop at_.toNat).take 1) < 18446744073709551616 := Nat.lt_of_lt_of_le hfin (Nat.le_trans (Nat.pow_le_pow_right (by decide) hlen) (by decide))
  clear hfin hlen
  have n0 := Lib.hid (numC 0 (by unfold inI64; omega))
  generalize beN ((l.drop at_.toNat).take 1) = r at *
  go_enter Try.func14, Try.ntmps14
  go_wp2_with fail
  refine P.out.mono ?_
  rintro e w1 ⟨rfl, m, rfl⟩
  go_wp2_with fail
  refine (n0.out _).mono ?_
  rintro e w' ⟨rfl, rfl⟩
  go_wp2
  go_ret2
  exact ⟨rfl, _, rfl⟩
theorem getDNil_tiny (w : World) (at_ : Int) :
    Calls Try.prog 14 #[.pointer none, .int .i64 at_, .int .i64 1, .bool true] w fun e w' => e = .returned (.tuple #[.int .u64 0, .int .i64 1]) ∧ w = w' := by
  have P := Lib.hid (getNil_tiny w at_)
  have n1 := Lib.hid (numC 1 (by unfold inI64; omega))
  go_enter Try.func14, Try.ntmps14
  go_wp2_with fail
  refine P.out.mono ?_
  rintro e w1 ⟨rfl, rfl⟩
  go_wp2_with fail
  refine (n1.out _).mono ?_
  rintro e w' ⟨rfl, rfl⟩
  go_wp2
  go_ret2
  exact ⟨rfl, rfl⟩
theorem getDNo_tiny (w : World) (g h page : Nat) (l : List UInt8) (a : At w g h page l) (at_ : Int) (ha : inI64 at_) (hno : ¬ There page l.length at_ 1) :
    Calls Try.prog 14 #[.pointer (some ⟨g, 0, none⟩), .int .i64 at_, .int .i64 1, .bool true] w fun e w' => e = .returned (.tuple #[.int .u64 0, .int .i64 20]) ∧ ∃ m, w.drewN m = w' := by
  have P := Lib.hid (getNo_tiny w g h page l a at_ ha hno)
  have n1 := Lib.hid (numC 20 (by unfold inI64; omega))
  go_enter Try.func14, Try.ntmps14
  go_wp2_with fail
  refine P.out.mono ?_
  rintro e w1 ⟨rfl, m, rfl⟩
  go_wp2_with fail
  refine (n1.out _).mono ?_
  rintro e w' ⟨rfl, rfl⟩
  go_wp2
  go_ret2
  exact ⟨rfl, _, rfl⟩
theorem getDYes_u8 (w : World) (g h page : Nat) (l : List UInt8) (a : At w g h page l) (at_ : Int) (hy : There page l.length at_ 1) :
    Calls Try.prog 14 #[.pointer (some ⟨g, 0, none⟩), .int .i64 at_, .int .i64 1, .bool false] w fun e w' => e = .returned (.tuple #[.int .u64 ((beN ((l.drop at_.toNat).take 1) : Nat) : Int), .int .i64 0]) ∧ ∃ m, w.drewN m = w' := by
  have P := Lib.hid (getYes_u8 w g h page l a at_ hy)
  have hfin := beN_lt ((l.drop at_.toNat).take 1)
  have hlen : ((l.drop at_.toNat).take 1).length ≤ 1 := List.length_take_le _ _
  have hlt : beN ((l.drop at_.toNat).take 1) < 18446744073709551616 := Nat.lt_of_lt_of_le hfin (Nat.le_trans (Nat.pow_le_pow_right (by decide) hlen) (by decide))
  clear hfin hlen
  have n0 := Lib.hid (numC 0 (by unfold inI64; omega))
  generalize beN ((l.drop at_.toNat).take 1) = r at *
  go_enter Try.func14, Try.ntmps14
  go_wp2_with fail
  refine P.out.mono ?_
  rintro e w1 ⟨rfl, m, rfl⟩
  go_wp2_with fail
  refine (n0.out _).mono ?_
  rintro e w' ⟨rfl, rfl⟩
  go_wp2
  go_ret2
  exact ⟨rfl, _, rfl⟩
theorem getDNil_u8 (w : World) (at_ : Int) :
    Calls Try.prog 14 #[.pointer none, .int .i64 at_, .int .i64 1, .bool false] w fun e w' => e = .returned (.tuple #[.int .u64 0, .int .i64 1]) ∧ w = w' := by
  have P := Lib.hid (getNil_u8 w at_)
  have n1 := Lib.hid (numC 1 (by unfold inI64; omega))
  go_enter Try.func14, Try.ntmps14
  go_wp2_with fail
  refine P.out.mono ?_
  rintro e w1 ⟨rfl, rfl⟩
  go_wp2_with fail
  refine (n1.out _).mono ?_
  rintro e w' ⟨rfl, rfl⟩
  go_wp2
  go_ret2
  exact ⟨rfl, rfl⟩
theorem getDNo_u8 (w : World) (g h page : Nat) (l : List UInt8) (a : At w g h page l) (at_ : Int) (ha : inI64 at_) (hno : ¬ There page l.length at_ 1) :
    Calls Try.prog 14 #[.pointer (some ⟨g, 0, none⟩), .int .i64 at_, .int .i64 1, .bool false] w fun e w' => e = .returned (.tuple #[.int .u64 0, .int .i64 20]) ∧ ∃ m, w.drewN m = w' := by
  have P := Lib.hid (getNo_u8 w g h page l a at_ ha hno)
  have n1 := Lib.hid (numC 20 (by unfold inI64; omega))
  go_enter Try.func14, Try.ntmps14
  go_wp2_with fail
  refine P.out.mono ?_
  rintro e w1 ⟨rfl, m, rfl⟩
  go_wp2_with fail
  refine (n1.out _).mono ?_
  rintro e w' ⟨rfl, rfl⟩
  go_wp2
  go_ret2
  exact ⟨rfl, _, rfl⟩
theorem getDYes_half (w : World) (g h page : Nat) (l : List UInt8) (a : At w g h page l) (at_ : Int) (hy : There page l.length at_ 2) :
    Calls Try.prog 14 #[.pointer (some ⟨g, 0, none⟩), .int .i64 at_, .int .i64 2, .bool true] w fun e w' => e = .returned (.tuple #[.int .u64 ((beN ((l.drop at_.toNat).take 2) : Nat) : Int), .int .i64 0]) ∧ ∃ m, w.drewN m = w' := by
  have P := Lib.hid (getYes_half w g h page l a at_ hy)
  have hfin := beN_lt ((l.drop at_.toNat).take 2)
  have hlen : ((l.drop at_.toNat).take 2).length ≤ 2 := List.length_take_le _ _
  have hlt : beN ((l.drop at_.toNat).take 2) < 18446744073709551616 := Nat.lt_of_lt_of_le hfin (Nat.le_trans (Nat.pow_le_pow_right (by decide) hlen) (by decide))
  clear hfin hlen
  have n0 := Lib.hid (numC 0 (by unfold inI64; omega))
  generalize beN ((l.drop at_.toNat).take 2) = r at *
  go_enter Try.func14, Try.ntmps14
  go_wp2_with fail
  refine P.out.mono ?_
  rintro e w1 ⟨rfl, m, rfl⟩
  go_wp2_with fail
  refine (n0.out _).mono ?_
  rintro e w' ⟨rfl, rfl⟩
  go_wp2
  go_ret2
  exact ⟨rfl, _, rfl⟩
theorem getDNil_half (w : World) (at_ : Int) :
    Calls Try.prog 14 #[.pointer none, .int .i64 at_, .int .i64 2, .bool true] w fun e w' => e = .returned (.tuple #[.int .u64 0, .int .i64 1]) ∧ w = w' := by
  have P := Lib.hid (getNil_half w at_)
  have n1 := Lib.hid (numC 1 (by unfold inI64; omega))
  go_enter Try.func14, Try.ntmps14
  go_wp2_with fail
  refine P.out.mono ?_
  rintro e w1 ⟨rfl, rfl⟩
  go_wp2_with fail
  refine (n1.out _).mono ?_
  rintro e w' ⟨rfl, rfl⟩
  go_wp2
  go_ret2
  exact ⟨rfl, rfl⟩
theorem getDNo_half (w : World) (g h page : Nat) (l : List UInt8) (a : At w g h page l) (at_ : Int) (ha : inI64 at_) (hno : ¬ There page l.length at_ 2) :
    Calls Try.prog 14 #[.pointer (some ⟨g, 0, none⟩), .int .i64 at_, .int .i64 2, .bool true] w fun e w' => e = .returned (.tuple #[.int .u64 0, .int .i64 20]) ∧ ∃ m, w.drewN m = w' := by
  have P := Lib.hid (getNo_half w g h page l a at_ ha hno)
  have n1 := Lib.hid (numC 20 (by unfold inI64; omega))
  go_enter Try.func14, Try.ntmps14
  go_wp2_with fail
  refine P.out.mono ?_
  rintro e w1 ⟨rfl, m, rfl⟩
  go_wp2_with fail
  refine (n1.out _).mono ?_
  rintro e w' ⟨rfl, rfl⟩
  go_wp2
  go_ret2
  exact ⟨rfl, _, rfl⟩
theorem getDYes_u16 (w : World) (g h page : Nat) (l : List UInt8) (a : At w g h page l) (at_ : Int) (hy : There page l.length at_ 2) :
    Calls Try.prog 14 #[.pointer (some ⟨g, 0, none⟩), .int .i64 at_, .int .i64 2, .bool false] w fun e w' => e = .returned (.tuple #[.int .u64 ((beN ((l.drop at_.toNat).take 2) : Nat) : Int), .int .i64 0]) ∧ ∃ m, w.drewN m = w' := by
  have P := Lib.hid (getYes_u16 w g h page l a at_ hy)
  have hfin := beN_lt ((l.drop at_.toNat).take 2)
  have hlen : ((l.drop at_.toNat).take 2).length ≤ 2 := List.length_take_le _ _
  have hlt : beN ((l.drop at_.toNat).take 2) < 18446744073709551616 := Nat.lt_of_lt_of_le hfin (Nat.le_trans (Nat.pow_le_pow_right (by decide) hlen) (by decide))
  clear hfin hlen
  have n0 := Lib.hid (numC 0 (by unfold inI64; omega))
  generalize beN ((l.drop at_.toNat).take 2) = r at *
  go_enter Try.func14, Try.ntmps14
  go_wp2_with fail
  refine P.out.mono ?_
  rintro e w1 ⟨rfl, m, rfl⟩
  go_wp2_with fail
  refine (n0.out _).mono ?_
  rintro e w' ⟨rfl, rfl⟩
  go_wp2
  go_ret2
  exact ⟨rfl, _, rfl⟩
theorem getDNil_u16 (w : World) (at_ : Int) :
    Calls Try.prog 14 #[.pointer none, .int .i64 at_, .int .i64 2, .bool false] w fun e w' => e = .returned (.tuple #[.int .u64 0, .int .i64 1]) ∧ w = w' := by
  have P := Lib.hid (getNil_u16 w at_)
  have n1 := Lib.hid (numC 1 (by unfold inI64; omega))
  go_enter Try.func14, Try.ntmps14
  go_wp2_with fail
  refine P.out.mono ?_
  rintro e w1 ⟨rfl, rfl⟩
  go_wp2_with fail
  refine (n1.out _).mono ?_
  rintro e w' ⟨rfl, rfl⟩
  go_wp2
  go_ret2
  exact ⟨rfl, rfl⟩
theorem getDNo_u16 (w : World) (g h page : Nat) (l : List UInt8) (a : At w g h page l) (at_ : Int) (ha : inI64 at_) (hno : ¬ There page l.length at_ 2) :
    Calls Try.prog 14 #[.pointer (some ⟨g, 0, none⟩), .int .i64 at_, .int .i64 2, .bool false] w fun e w' => e = .returned (.tuple #[.int .u64 0, .int .i64 20]) ∧ ∃ m, w.drewN m = w' := by
  have P := Lib.hid (getNo_u16 w g h page l a at_ ha hno)
  have n1 := Lib.hid (numC 20 (by unfold inI64; omega))
  go_enter Try.func14, Try.ntmps14
  go_wp2_with fail
  refine P.out.mono ?_
  rintro e w1 ⟨rfl, m, rfl⟩
  go_wp2_with fail
  refine (n1.out _).mono ?_
  rintro e w' ⟨rfl, rfl⟩
  go_wp2
  go_ret2
  exact ⟨rfl, _, rfl⟩
theorem getDYes_word (w : World) (g h page : Nat) (l : List UInt8) (a : At w g h page l) (at_ : Int) (hy : There page l.length at_ 4) :
    Calls Try.prog 14 #[.pointer (some ⟨g, 0, none⟩), .int .i64 at_, .int .i64 4, .bool true] w fun e w' => e = .returned (.tuple #[.int .u64 ((beN ((l.drop at_.toNat).take 4) : Nat) : Int), .int .i64 0]) ∧ ∃ m, w.drewN m = w' := by
  have P := Lib.hid (getYes_word w g h page l a at_ hy)
  have hfin := beN_lt ((l.drop at_.toNat).take 4)
  have hlen : ((l.drop at_.toNat).take 4).length ≤ 4 := List.length_take_le _ _
  have hlt : beN ((l.drop at_.toNat).take 4) < 18446744073709551616 := Nat.lt_of_lt_of_le hfin (Nat.le_trans (Nat.pow_le_pow_right (by decide) hlen) (by decide))
  clear hfin hlen
  have n0 := Lib.hid (numC 0 (by unfold inI64; omega))
  generalize beN ((l.drop at_.toNat).take 4) = r at *
  go_enter Try.func14, Try.ntmps14
  go_wp2_with fail
  refine P.out.mono ?_
  rintro e w1 ⟨rfl, m, rfl⟩
  go_wp2_with fail
  refine (n0.out _).mono ?_
  rintro e w' ⟨rfl, rfl⟩
  go_wp2
  go_ret2
  exact ⟨rfl, _, rfl⟩
theorem getDNil_word (w : World) (at_ : Int) :
    Calls Try.prog 14 #[.pointer none, .int .i64 at_, .int .i64 4, .bool true] w fun e w' => e = .returned (.tuple #[.int .u64 0, .int .i64 1]) ∧ w = w' := by
  have P := Lib.hid (getNil_word w at_)
  have n1 := Lib.hid (numC 1 (by unfold inI64; omega))
  go_enter Try.func14, Try.ntmps14
  go_wp2_with fail
  refine P.out.mono ?_
  rintro e w1 ⟨rfl, rfl⟩
  go_wp2_with fail
  refine (n1.out _).mono ?_
  rintro e w' ⟨rfl, rfl⟩
  go_wp2
  go_ret2
  exact ⟨rfl, rfl⟩
theorem getDNo_word (w : World) (g h page : Nat) (l : List UInt8) (a : At w g h page l) (at_ : Int) (ha : inI64 at_) (hno : ¬ There page l.length at_ 4) :
    Calls Try.prog 14 #[.pointer (some ⟨g, 0, none⟩), .int .i64 at_, .int .i64 4, .bool true] w fun e w' => e = .returned (.tuple #[.int .u64 0, .int .i64 20]) ∧ ∃ m, w.drewN m = w' := by
  have P := Lib.hid (getNo_word w g h page l a at_ ha hno)
  have n1 := Lib.hid (numC 20 (by unfold inI64; omega))
  go_enter Try.func14, Try.ntmps14
  go_wp2_with fail
  refine P.out.mono ?_
  rintro e w1 ⟨rfl, m, rfl⟩
  go_wp2_with fail
  refine (n1.out _).mono ?_
  rintro e w' ⟨rfl, rfl⟩
  go_wp2
  go_ret2
  exact ⟨rfl, _, rfl⟩
theorem getDYes_u32 (w : World) (g h page : Nat) (l : List UInt8) (a : At w g h page l) (at_ : Int) (hy : There page l.length at_ 4) :
    Calls Try.prog 14 #[.pointer (some ⟨g, 0, none⟩), .int .i64 at_, .int .i64 4, .bool false] w fun e w' => e = .returned (.tuple #[.int .u64 ((beN ((l.drop at_.toNat).take 4) : Nat) : Int), .int .i64 0]) ∧ ∃ m, w.drewN m = w' := by
  have P := Lib.hid (getYes_u32 w g h page l a at_ hy)
  have hfin := beN_lt ((l.drop at_.toNat).take 4)
  have hlen : ((l.drop at_.toNat).take 4).length ≤ 4 := List.length_take_le _ _
  have hlt : beN ((l.drop at_.toNat).take 4) < 18446744073709551616 := Nat.lt_of_lt_of_le hfin (Nat.le_trans (Nat.pow_le_pow_right (by decide) hlen) (by decide))
  clear hfin hlen
  have n0 := Lib.hid (numC 0 (by unfold inI64; omega))
  generalize beN ((l.drop at_.toNat).take 4) = r at *
  go_enter Try.func14, Try.ntmps14
  go_wp2_with fail
  refine P.out.mono ?_
  rintro e w1 ⟨rfl, m, rfl⟩
  go_wp2_with fail
  refine (n0.out _).mono ?_
  rintro e w' ⟨rfl, rfl⟩
  go_wp2
  go_ret2
  exact ⟨rfl, _, rfl⟩
theorem getDNil_u32 (w : World) (at_ : Int) :
    Calls Try.prog 14 #[.pointer none, .int .i64 at_, .int .i64 4, .bool false] w fun e w' => e = .returned (.tuple #[.int .u64 0, .int .i64 1]) ∧ w = w' := by
  have P := Lib.hid (getNil_u32 w at_)
  have n1 := Lib.hid (numC 1 (by unfold inI64; omega))
  go_enter Try.func14, Try.ntmps14
  go_wp2_with fail
  refine P.out.mono ?_
  rintro e w1 ⟨rfl, rfl⟩
  go_wp2_with fail
  refine (n1.out _).mono ?_
  rintro e w' ⟨rfl, rfl⟩
  go_wp2
  go_ret2
  exact ⟨rfl, rfl⟩
theorem getDNo_u32 (w : World) (g h page : Nat) (l : List UInt8) (a : At w g h page l) (at_ : Int) (ha : inI64 at_) (hno : ¬ There page l.length at_ 4) :
    Calls Try.prog 14 #[.pointer (some ⟨g, 0, none⟩), .int .i64 at_, .int .i64 4, .bool false] w fun e w' => e = .returned (.tuple #[.int .u64 0, .int .i64 20]) ∧ ∃ m, w.drewN m = w' := by
  have P := Lib.hid (getNo_u32 w g h page l a at_ ha hno)
  have n1 := Lib.hid (numC 20 (by unfold inI64; omega))
  go_enter Try.func14, Try.ntmps14
  go_wp2_with fail
  refine P.out.mono ?_
  rintro e w1 ⟨rfl, m, rfl⟩
  go_wp2_with fail
  refine (n1.out _).mono ?_
  rintro e w' ⟨rfl, rfl⟩
  go_wp2
  go_ret2
  exact ⟨rfl, _, rfl⟩
theorem getDYes_long (w : World) (g h page : Nat) (l : List UInt8) (a : At w g h page l) (at_ : Int) (hy : There page l.length at_ 8) :
    Calls Try.prog 14 #[.pointer (some ⟨g, 0, none⟩), .int .i64 at_, .int .i64 8, .bool true] w fun e w' => e = .returned (.tuple #[.int .u64 ((beN ((l.drop at_.toNat).take 8) : Nat) : Int), .int .i64 0]) ∧ ∃ m, w.drewN m = w' := by
  have P := Lib.hid (getYes_long w g h page l a at_ hy)
  have hfin := beN_lt ((l.drop at_.toNat).take 8)
  have hlen : ((l.drop at_.toNat).take 8).length ≤ 8 := List.length_take_le _ _
  have hlt : beN ((l.drop at_.toNat).take 8) < 18446744073709551616 := Nat.lt_of_lt_of_le hfin (Nat.le_trans (Nat.pow_le_pow_right (by decide) hlen) (by decide))
  clear hfin hlen
  have n0 := Lib.hid (numC 0 (by unfold inI64; omega))
  generalize beN ((l.drop at_.toNat).take 8) = r at *
  go_enter Try.func14, Try.ntmps14
  go_wp2_with fail
  refine P.out.mono ?_
  rintro e w1 ⟨rfl, m, rfl⟩
  go_wp2_with fail
  refine (n0.out _).mono ?_
  rintro e w' ⟨rfl, rfl⟩
  go_wp2
  go_ret2
  exact ⟨rfl, _, rfl⟩
theorem getDNil_long (w : World) (at_ : Int) :
    Calls Try.prog 14 #[.pointer none, .int .i64 at_, .int .i64 8, .bool true] w fun e w' => e = .returned (.tuple #[.int .u64 0, .int .i64 1]) ∧ w = w' := by
  have P := Lib.hid (getNil_long w at_)
  have n1 := Lib.hid (numC 1 (by unfold inI64; omega))
  go_enter Try.func14, Try.ntmps14
  go_wp2_with fail
  refine P.out.mono ?_
  rintro e w1 ⟨rfl, rfl⟩
  go_wp2_with fail
  refine (n1.out _).mono ?_
  rintro e w' ⟨rfl, rfl⟩
  go_wp2
  go_ret2
  exact ⟨rfl, rfl⟩
theorem getDNo_long (w : World) (g h page : Nat) (l : List UInt8) (a : At w g h page l) (at_ : Int) (ha : inI64 at_) (hno : ¬ There page l.length at_ 8) :
    Calls Try.prog 14 #[.pointer (some ⟨g, 0, none⟩), .int .i64 at_, .int .i64 8, .bool true] w fun e w' => e = .returned (.tuple #[.int .u64 0, .int .i64 20]) ∧ ∃ m, w.drewN m = w' := by
  have P := Lib.hid (getNo_long w g h page l a at_ ha hno)
  have n1 := Lib.hid (numC 20 (by unfold inI64; omega))
  go_enter Try.func14, Try.ntmps14
  go_wp2_with fail
  refine P.out.mono ?_
  rintro e w1 ⟨rfl, m, rfl⟩
  go_wp2_with fail
  refine (n1.out _).mono ?_
  rintro e w' ⟨rfl, rfl⟩
  go_wp2
  go_ret2
  exact ⟨rfl, _, rfl⟩
theorem getDYes_u64 (w : World) (g h page : Nat) (l : List UInt8) (a : At w g h page l) (at_ : Int) (hy : There page l.length at_ 8) :
    Calls Try.prog 14 #[.pointer (some ⟨g, 0, none⟩), .int .i64 at_, .int .i64 8, .bool false] w fun e w' => e = .returned (.tuple #[.int .u64 ((beN ((l.drop at_.toNat).take 8) : Nat) : Int), .int .i64 0]) ∧ ∃ m, w.drewN m = w' := by
  have P := Lib.hid (getYes_u64 w g h page l a at_ hy)
  have hfin := beN_lt ((l.drop at_.toNat).take 8)
  have hlen : ((l.drop at_.toNat).take 8).length ≤ 8 := List.length_take_le _ _
  have hlt : beN ((l.drop at_.toNat).take 8) < 18446744073709551616 := Nat.lt_of_lt_of_le hfin (Nat.le_trans (Nat.pow_le_pow_right (by decide) hlen) (by decide))
  clear hfin hlen
  have n0 := Lib.hid (numC 0 (by unfold inI64; omega))
  generalize beN ((l.drop at_.toNat).take 8) = r at *
  go_enter Try.func14, Try.ntmps14
  go_wp2_with fail
  refine P.out.mono ?_
  rintro e w1 ⟨rfl, m, rfl⟩
  go_wp2_with fail
  refine (n0.out _).mono ?_
  rintro e w' ⟨rfl, rfl⟩
  go_wp2
  go_ret2
  exact ⟨rfl, _, rfl⟩
theorem getDNil_u64 (w : World) (at_ : Int) :
    Calls Try.prog 14 #[.pointer none, .int .i64 at_, .int .i64 8, .bool false] w fun e w' => e = .returned (.tuple #[.int .u64 0, .int .i64 1]) ∧ w = w' := by
  have P := Lib.hid (getNil_u64 w at_)
  have n1 := Lib.hid (numC 1 (by unfold inI64; omega))
  go_enter Try.func14, Try.ntmps14
  go_wp2_with fail
  refine P.out.mono ?_
  rintro e w1 ⟨rfl, rfl⟩
  go_wp2_with fail
  refine (n1.out _).mono ?_
  rintro e w' ⟨rfl, rfl⟩
  go_wp2
  go_ret2
  exact ⟨rfl, rfl⟩
theorem getDNo_u64 (w : World) (g h page : Nat) (l : List UInt8) (a : At w g h page l) (at_ : Int) (ha : inI64 at_) (hno : ¬ There page l.length at_ 8) :
    Calls Try.prog 14 #[.pointer (some ⟨g, 0, none⟩), .int .i64 at_, .int .i64 8, .bool false] w fun e w' => e = .returned (.tuple #[.int .u64 0, .int .i64 20]) ∧ ∃ m, w.drewN m = w' := by
  have P := Lib.hid (getNo_u64 w g h page l a at_ ha hno)
  have n1 := Lib.hid (numC 20 (by unfold inI64; omega))
  go_enter Try.func14, Try.ntmps14
  go_wp2_with fail
  refine P.out.mono ?_
  rintro e w1 ⟨rfl, m, rfl⟩
  go_wp2_with fail
  refine (n1.out _).mono ?_
  rintro e w' ⟨rfl, rfl⟩
  go_wp2
  go_ret2
  exact ⟨rfl, _, rfl⟩
theorem getDYes (k : Nat) (hk : Wide k) (own : Bool) (w : World) (g h page : Nat) (l : List UInt8) (a : At w g h page l) (at_ : Int) (hy : There page l.length at_ k) :
    Calls Try.prog 14 #[.pointer (some ⟨g, 0, none⟩), .int .i64 at_, .int .i64 (k : Int), .bool own] w fun e w' => e = .returned (.tuple #[.int .u64 ((beN ((l.drop at_.toNat).take k) : Nat) : Int), .int .i64 0]) ∧ ∃ m, w.drewN m = w' := by
  rcases hk with rfl | rfl | rfl | rfl
  · cases own
    · exact getDYes_u8 w g h page l a at_ hy
    · exact getDYes_tiny w g h page l a at_ hy
  · cases own
    · exact getDYes_u16 w g h page l a at_ hy
    · exact getDYes_half w g h page l a at_ hy
  · cases own
    · exact getDYes_u32 w g h page l a at_ hy
    · exact getDYes_word w g h page l a at_ hy
  · cases own
    · exact getDYes_u64 w g h page l a at_ hy
    · exact getDYes_long w g h page l a at_ hy
theorem getDNil (k : Nat) (hk : Wide k) (own : Bool) (w : World) (at_ : Int) :
    Calls Try.prog 14 #[.pointer none, .int .i64 at_, .int .i64 (k : Int), .bool own] w fun e w' => e = .returned (.tuple #[.int .u64 0, .int .i64 1]) ∧ w = w' := by
  rcases hk with rfl | rfl | rfl | rfl
  · cases own
    · exact getDNil_u8 w at_
    · exact getDNil_tiny w at_
  · cases own
    · exact getDNil_u16 w at_
    · exact getDNil_half w at_
  · cases own
    · exact getDNil_u32 w at_
    · exact getDNil_word w at_
  · cases own
    · exact getDNil_u64 w at_
    · exact getDNil_long w at_
theorem getDNo (k : Nat) (hk : Wide k) (own : Bool) (w : World) (g h page : Nat) (l : List UInt8) (a : At w g h page l) (at_ : Int) (ha : inI64 at_) (hno : ¬ There page l.length at_ k) :
    Calls Try.prog 14 #[.pointer (some ⟨g, 0, none⟩), .int .i64 at_, .int .i64 (k : Int), .bool own] w fun e w' => e = .returned (.tuple #[.int .u64 0, .int .i64 20]) ∧ ∃ m, w.drewN m = w' := by
  rcases hk with rfl | rfl | rfl | rfl
  · cases own
    · exact getDNo_u8 w g h page l a at_ ha hno
    · exact getDNo_tiny w g h page l a at_ ha hno
  · cases own
    · exact getDNo_u16 w g h page l a at_ ha hno
    · exact getDNo_half w g h page l a at_ ha hno
  · cases own
    · exact getDNo_u32 w g h page l a at_ ha hno
    · exact getDNo_word w g h page l a at_ ha hno
  · cases own
    · exact getDNo_u64 w g h page l a at_ ha hno
    · exact getDNo_long w g h page l a at_ ha hno
end Go.Proofs.Ytnjobnccknpaeaa.Arena
