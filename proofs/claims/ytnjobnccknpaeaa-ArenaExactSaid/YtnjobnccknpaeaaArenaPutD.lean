/-
  The walks of the helper put: at each width the number is laid, refused where it is not there, and of no arena. (printed by a small program of mine)
-/
import Derived.Test.YtnjobnccknpaeaaArenaWakes
namespace Go.Proofs.Ytnjobnccknpaeaa.Arena
open Go.RowKit Base
set_option linter.unusedVariables false

theorem conv_u8 (v : Nat) : IntKind.u8.wrap (v : Int) = ((v % 256 : Nat) : Int) := by rw [IntKind.wrap_u8']; omega
theorem conv_u16 (v : Nat) : IntKind.u16.wrap (v : Int) = ((v % 65536 : Nat) : Int) := by rw [IntKind.wrap_u16]; omega
theorem conv_u32 (v : Nat) : IntKind.u32.wrap (v : Int) = ((v % 4294967296 : Nat) : Int) := by rw [IntKind.wrap_u32']; omega
theorem conv_u64 (v : Nat) (h : v < 18446744073709551616) : IntKind.u64.wrap (v : Int) = ((v % 18446744073709551616 : Nat) : Int) := by rw [IntKind.wrap_u64]; omega
theorem putB_mod (w : Nat) : ∀ n, putB w (n % 256 ^ w) = putB w n := by
  induction w with
  | zero => intro n; rfl
  | succ w ih =>
    intro n
    rw [putB_succ, putB_succ]
    have e1 : n % 256 ^ (w + 1) / 256 = n / 256 % 256 ^ w := by rw [Nat.pow_succ, Nat.mod_mul_left_div_self]
    have e2 : UInt8.ofNat (n % 256 ^ (w + 1)) = UInt8.ofNat n := by
      apply UInt8.toNat_inj.1
      rw [ofNat_toNat, ofNat_toNat, Nat.pow_succ, Nat.mul_comm, Nat.mod_mul_right_mod]
    rw [e1, ih, e2]
theorem putDYes_tiny (w : World) (g h page : Nat) (l : List UInt8) (a : At w g h page l) (at_ : Int) (v : Nat) (hv : v < 18446744073709551616) (hy : There page l.length at_ 1) :
    Calls Try.prog 13 #[.pointer (some ⟨g, 0, none⟩), .int .i64 at_, .int .i64 1, .int .u64 (v : Int), .bool true] w fun e w' => e = .returned (.int .i64 0) ∧ At w' g h page (lay l at_.toNat (putB 1 v)) ∧ Only (· = h) w w' ∧ w'.heap.size = w.heap.size := by
  have P := putYes_tiny w g h page l a at_ (v % 256) (Nat.mod_lt _ (by decide)) hy
  rw [show putB 1 (v % 256) = putB 1 v from putB_mod 1 v] at P
  have hc : IntKind.u8.wrap (v : Int) = ((v % 256 : Nat) : Int) := conv_u8 v
  have n0 := Lib.hid (numC 0 (by unfold inI64; omega))
  have h0 : ((v % 256 : Nat) : Int) = (v : Int) % 256 := by omega
  rw [h0] at P hc
  replace P := Lib.hid P
  clear h0
  go_enter Try.func13, Try.ntmps13
  go_wp2_with fail
  refine P.out.mono ?_
  rintro e w1 ⟨rfl, a1, ho1, hs1⟩
  replace hs1 := Lib.hid hs1
  go_wp2_with fail
  refine (n0.out _).mono ?_
  rintro e w' ⟨rfl, rfl⟩
  go_wp2
  go_ret
  exact ⟨rfl, a1, ho1, hs1.out⟩
theorem putDNil_tiny (w : World) (at_ : Int) (v : Nat) (hv : v < 18446744073709551616) :
    Calls Try.prog 13 #[.pointer none, .int .i64 at_, .int .i64 1, .int .u64 (v : Int), .bool true] w fun e w' => e = .returned (.int .i64 1) ∧ w = w' := by
  have P := putNil_tiny w at_ (v % 256)
  have hc : IntKind.u8.wrap (v : Int) = ((v % 256 : Nat) : Int) := conv_u8 v
  have n1 := Lib.hid (numC 1 (by unfold inI64; omega))
  have h0 : ((v % 256 : Nat) : Int) = (v : Int) % 256 := by omega
  rw [h0] at P hc
  replace P := Lib.hid P
  clear h0
  go_enter Try.func13, Try.ntmps13
  go_wp2_with fail
  refine P.out.mono ?_
  rintro e w1 ⟨rfl, rfl⟩
  go_wp2_with fail
  refine (n1.out _).mono ?_
  rintro e w' ⟨rfl, rfl⟩
  go_wp2
  go_ret
  exact ⟨rfl, rfl⟩
theorem putDNo_tiny (w : World) (g h page : Nat) (l : List UInt8) (a : At w g h page l) (at_ : Int) (ha : inI64 at_) (v : Nat) (hv : v < 18446744073709551616) (hno : ¬ There page l.length at_ 1) :
    Calls Try.prog 13 #[.pointer (some ⟨g, 0, none⟩), .int .i64 at_, .int .i64 1, .int .u64 (v : Int), .bool true] w fun e w' => e = .returned (.int .i64 20) ∧ ∃ m, w.drewN m = w' := by
  have P := putNo_tiny w g h page l a at_ (v % 256) ha hno
  have hc : IntKind.u8.wrap (v : Int) = ((v % 256 : Nat) : Int) := conv_u8 v
  have n1 := Lib.hid (numC 20 (by unfold inI64; omega))
  have h0 : ((v % 256 : Nat) : Int) = (v : Int) % 256 := by omega
  rw [h0] at P hc
  replace P := Lib.hid P
  clear h0
  go_enter Try.func13, Try.ntmps13
  go_wp2_with fail
  refine P.out.mono ?_
  rintro e w1 ⟨rfl, m, rfl⟩
  go_wp2_with fail
  refine (n1.out _).mono ?_
  rintro e w' ⟨rfl, rfl⟩
  go_wp2
  go_ret
  exact ⟨rfl, _, rfl⟩
theorem putDYes_u8 (w : World) (g h page : Nat) (l : List UInt8) (a : At w g h page l) (at_ : Int) (v : Nat) (hv : v < 18446744073709551616) (hy : There page l.length at_ 1) :
    Calls Try.prog 13 #[.pointer (some ⟨g, 0, none⟩), .int .i64 at_, .int .i64 1, .int .u64 (v : Int), .bool false] w fun e w' => e = .returned (.int .i64 0) ∧ At w' g h page (lay l at_.toNat (putB 1 v)) ∧ Only (· = h) w w' ∧ w'.heap.size = w.heap.size := by
  have P := putYes_u8 w g h page l a at_ (v % 256) (Nat.mod_lt _ (by decide)) hy
  rw [show putB 1 (v % 256) = putB 1 v from putB_mod 1 v] at P
  have hc : IntKind.u8.wrap (v : Int) = ((v % 256 : Nat) : Int) := conv_u8 v
  have n0 := Lib.hid (numC 0 (by unfold inI64; omega))
  have h0 : ((v % 256 : Nat) : Int) = (v : Int) % 256 := by omega
  rw [h0] at P hc
  replace P := Lib.hid P
  clear h0
  go_enter Try.func13, Try.ntmps13
  go_wp2_with fail
  refine P.out.mono ?_
  rintro e w1 ⟨rfl, a1, ho1, hs1⟩
  replace hs1 := Lib.hid hs1
  go_wp2_with fail
  refine (n0.out _).mono ?_
  rintro e w' ⟨rfl, rfl⟩
  go_wp2
  go_ret
  exact ⟨rfl, a1, ho1, hs1.out⟩
theorem putDNil_u8 (w : World) (at_ : Int) (v : Nat) (hv : v < 18446744073709551616) :
    Calls Try.prog 13 #[.pointer none, .int .i64 at_, .int .i64 1, .int .u64 (v : Int), .bool false] w fun e w' => e = .returned (.int .i64 1) ∧ w = w' := by
  have P := putNil_u8 w at_ (v % 256)
  have hc : IntKind.u8.wrap (v : Int) = ((v % 256 : Nat) : Int) := conv_u8 v
  have n1 := Lib.hid (numC 1 (by unfold inI64; omega))
  have h0 : ((v % 256 : Nat) : Int) = (v : Int) % 256 := by omega
  rw [h0] at P hc
  replace P := Lib.hid P
  clear h0
  go_enter Try.func13, Try.ntmps13
  go_wp2_with fail
  refine P.out.mono ?_
  rintro e w1 ⟨rfl, rfl⟩
  go_wp2_with fail
  refine (n1.out _).mono ?_
  rintro e w' ⟨rfl, rfl⟩
  go_wp2
  go_ret
  exact ⟨rfl, rfl⟩
theorem putDNo_u8 (w : World) (g h page : Nat) (l : List UInt8) (a : At w g h page l) (at_ : Int) (ha : inI64 at_) (v : Nat) (hv : v < 18446744073709551616) (hno : ¬ There page l.length at_ 1) :
    Calls Try.prog 13 #[.pointer (some ⟨g, 0, none⟩), .int .i64 at_, .int .i64 1, .int .u64 (v : Int), .bool false] w fun e w' => e = .returned (.int .i64 20) ∧ ∃ m, w.drewN m = w' := by
  have P := putNo_u8 w g h page l a at_ (v % 256) ha hno
  have hc : IntKind.u8.wrap (v : Int) = ((v % 256 : Nat) : Int) := conv_u8 v
  have n1 := Lib.hid (numC 20 (by unfold inI64; omega))
  have h0 : ((v % 256 : Nat) : Int) = (v : Int) % 256 := by omega
  rw [h0] at P hc
  replace P := Lib.hid P
  clear h0
  go_enter Try.func13, Try.ntmps13
  go_wp2_with fail
  refine P.out.mono ?_
  rintro e w1 ⟨rfl, m, rfl⟩
  go_wp2_with fail
  refine (n1.out _).mono ?_
  rintro e w' ⟨rfl, rfl⟩
  go_wp2
  go_ret
  exact ⟨rfl, _, rfl⟩
theorem putDYes_half (w : World) (g h page : Nat) (l : List UInt8) (a : At w g h page l) (at_ : Int) (v : Nat) (hv : v < 18446744073709551616) (hy : There page l.length at_ 2) :
    Calls Try.prog 13 #[.pointer (some ⟨g, 0, none⟩), .int .i64 at_, .int .i64 2, .int .u64 (v : Int), .bool true] w fun e w' => e = .returned (.int .i64 0) ∧ At w' g h page (lay l at_.toNat (putB 2 v)) ∧ Only (· = h) w w' ∧ w'.heap.size = w.heap.size := by
  have P := putYes_half w g h page l a at_ (v % 65536) (Nat.mod_lt _ (by decide)) hy
  rw [show putB 2 (v % 65536) = putB 2 v from putB_mod 2 v] at P
  have hc : IntKind.u16.wrap (v : Int) = ((v % 65536 : Nat) : Int) := conv_u16 v
  have n0 := Lib.hid (numC 0 (by unfold inI64; omega))
  have h0 : ((v % 65536 : Nat) : Int) = (v : Int) % 65536 := by omega
  rw [h0] at P hc
  replace P := Lib.hid P
  clear h0
  go_enter Try.func13, Try.ntmps13
  go_wp2_with fail
  refine P.out.mono ?_
  rintro e w1 ⟨rfl, a1, ho1, hs1⟩
  replace hs1 := Lib.hid hs1
  go_wp2_with fail
  refine (n0.out _).mono ?_
  rintro e w' ⟨rfl, rfl⟩
  go_wp2
  go_ret
  exact ⟨rfl, a1, ho1, hs1.out⟩
theorem putDNil_half (w : World) (at_ : Int) (v : Nat) (hv : v < 18446744073709551616) :
    Calls Try.prog 13 #[.pointer none, .int .i64 at_, .int .i64 2, .int .u64 (v : Int), .bool true] w fun e w' => e = .returned (.int .i64 1) ∧ w = w' := by
  have P := putNil_half w at_ (v % 65536)
  have hc : IntKind.u16.wrap (v : Int) = ((v % 65536 : Nat) : Int) := conv_u16 v
  have n1 := Lib.hid (numC 1 (by unfold inI64; omega))
  have h0 : ((v % 65536 : Nat) : Int) = (v : Int) % 65536 := by omega
  rw [h0] at P hc
  replace P := Lib.hid P
  clear h0
  go_enter Try.func13, Try.ntmps13
  go_wp2_with fail
  refine P.out.mono ?_
  rintro e w1 ⟨rfl, rfl⟩
  go_wp2_with fail
  refine (n1.out _).mono ?_
  rintro e w' ⟨rfl, rfl⟩
  go_wp2
  go_ret
  exact ⟨rfl, rfl⟩
theorem putDNo_half (w : World) (g h page : Nat) (l : List UInt8) (a : At w g h page l) (at_ : Int) (ha : inI64 at_) (v : Nat) (hv : v < 18446744073709551616) (hno : ¬ There page l.length at_ 2) :
    Calls Try.prog 13 #[.pointer (some ⟨g, 0, none⟩), .int .i64 at_, .int .i64 2, .int .u64 (v : Int), .bool true] w fun e w' => e = .returned (.int .i64 20) ∧ ∃ m, w.drewN m = w' := by
  have P := putNo_half w g h page l a at_ (v % 65536) ha hno
  have hc : IntKind.u16.wrap (v : Int) = ((v % 65536 : Nat) : Int) := conv_u16 v
  have n1 := Lib.hid (numC 20 (by unfold inI64; omega))
  have h0 : ((v % 65536 : Nat) : Int) = (v : Int) % 65536 := by omega
  rw [h0] at P hc
  replace P := Lib.hid P
  clear h0
  go_enter Try.func13, Try.ntmps13
  go_wp2_with fail
  refine P.out.mono ?_
  rintro e w1 ⟨rfl, m, rfl⟩
  go_wp2_with fail
  refine (n1.out _).mono ?_
  rintro e w' ⟨rfl, rfl⟩
  go_wp2
  go_ret
  exact ⟨rfl, _, rfl⟩
theorem putDYes_u16 (w : World) (g h page : Nat) (l : List UInt8) (a : At w g h page l) (at_ : Int) (v : Nat) (hv : v < 18446744073709551616) (hy : There page l.length at_ 2) :
    Calls Try.prog 13 #[.pointer (some ⟨g, 0, none⟩), .int .i64 at_, .int .i64 2, .int .u64 (v : Int), .bool false] w fun e w' => e = .returned (.int .i64 0) ∧ At w' g h page (lay l at_.toNat (putB 2 v)) ∧ Only (· = h) w w' ∧ w'.heap.size = w.heap.size := by
  have P := putYes_u16 w g h page l a at_ (v % 65536) (Nat.mod_lt _ (by decide)) hy
  rw [show putB 2 (v % 65536) = putB 2 v from putB_mod 2 v] at P
  have hc : IntKind.u16.wrap (v : Int) = ((v % 65536 : Nat) : Int) := conv_u16 v
  have n0 := Lib.hid (numC 0 (by unfold inI64; omega))
  have h0 : ((v % 65536 : Nat) : Int) = (v : Int) % 65536 := by omega
  rw [h0] at P hc
  replace P := Lib.hid P
  clear h0
  go_enter Try.func13, Try.ntmps13
  go_wp2_with fail
  refine P.out.mono ?_
  rintro e w1 ⟨rfl, a1, ho1, hs1⟩
  replace hs1 := Lib.hid hs1
  go_wp2_with fail
  refine (n0.out _).mono ?_
  rintro e w' ⟨rfl, rfl⟩
  go_wp2
  go_ret
  exact ⟨rfl, a1, ho1, hs1.out⟩
theorem putDNil_u16 (w : World) (at_ : Int) (v : Nat) (hv : v < 18446744073709551616) :
    Calls Try.prog 13 #[.pointer none, .int .i64 at_, .int .i64 2, .int .u64 (v : Int), .bool false] w fun e w' => e = .returned (.int .i64 1) ∧ w = w' := by
  have P := putNil_u16 w at_ (v % 65536)
  have hc : IntKind.u16.wrap (v : Int) = ((v % 65536 : Nat) : Int) := conv_u16 v
  have n1 := Lib.hid (numC 1 (by unfold inI64; omega))
  have h0 : ((v % 65536 : Nat) : Int) = (v : Int) % 65536 := by omega
  rw [h0] at P hc
  replace P := Lib.hid P
  clear h0
  go_enter Try.func13, Try.ntmps13
  go_wp2_with fail
  refine P.out.mono ?_
  rintro e w1 ⟨rfl, rfl⟩
  go_wp2_with fail
  refine (n1.out _).mono ?_
  rintro e w' ⟨rfl, rfl⟩
  go_wp2
  go_ret
  exact ⟨rfl, rfl⟩
theorem putDNo_u16 (w : World) (g h page : Nat) (l : List UInt8) (a : At w g h page l) (at_ : Int) (ha : inI64 at_) (v : Nat) (hv : v < 18446744073709551616) (hno : ¬ There page l.length at_ 2) :
    Calls Try.prog 13 #[.pointer (some ⟨g, 0, none⟩), .int .i64 at_, .int .i64 2, .int .u64 (v : Int), .bool false] w fun e w' => e = .returned (.int .i64 20) ∧ ∃ m, w.drewN m = w' := by
  have P := putNo_u16 w g h page l a at_ (v % 65536) ha hno
  have hc : IntKind.u16.wrap (v : Int) = ((v % 65536 : Nat) : Int) := conv_u16 v
  have n1 := Lib.hid (numC 20 (by unfold inI64; omega))
  have h0 : ((v % 65536 : Nat) : Int) = (v : Int) % 65536 := by omega
  rw [h0] at P hc
  replace P := Lib.hid P
  clear h0
  go_enter Try.func13, Try.ntmps13
  go_wp2_with fail
  refine P.out.mono ?_
  rintro e w1 ⟨rfl, m, rfl⟩
  go_wp2_with fail
  refine (n1.out _).mono ?_
  rintro e w' ⟨rfl, rfl⟩
  go_wp2
  go_ret
  exact ⟨rfl, _, rfl⟩
theorem putDYes_word (w : World) (g h page : Nat) (l : List UInt8) (a : At w g h page l) (at_ : Int) (v : Nat) (hv : v < 18446744073709551616) (hy : There page l.length at_ 4) :
    Calls Try.prog 13 #[.pointer (some ⟨g, 0, none⟩), .int .i64 at_, .int .i64 4, .int .u64 (v : Int), .bool true] w fun e w' => e = .returned (.int .i64 0) ∧ At w' g h page (lay l at_.toNat (putB 4 v)) ∧ Only (· = h) w w' ∧ w'.heap.size = w.heap.size := by
  have P := putYes_word w g h page l a at_ (v % 4294967296) (Nat.mod_lt _ (by decide)) hy
  rw [show putB 4 (v % 4294967296) = putB 4 v from putB_mod 4 v] at P
  have hc : IntKind.u32.wrap (v : Int) = ((v % 4294967296 : Nat) : Int) := conv_u32 v
  have n0 := Lib.hid (numC 0 (by unfold inI64; omega))
  have h0 : ((v % 4294967296 : Nat) : Int) = (v : Int) % 4294967296 := by omega
  rw [h0] at P hc
  replace P := Lib.hid P
  clear h0
  go_enter Try.func13, Try.ntmps13
  go_wp2_with fail
  refine P.out.mono ?_
  rintro e w1 ⟨rfl, a1, ho1, hs1⟩
  replace hs1 := Lib.hid hs1
  go_wp2_with fail
  refine (n0.out _).mono ?_
  rintro e w' ⟨rfl, rfl⟩
  go_wp2
  go_ret
  exact ⟨rfl, a1, ho1, hs1.out⟩
theorem putDNil_word (w : World) (at_ : Int) (v : Nat) (hv : v < 18446744073709551616) :
    Calls Try.prog 13 #[.pointer none, .int .i64 at_, .int .i64 4, .int .u64 (v : Int), .bool true] w fun e w' => e = .returned (.int .i64 1) ∧ w = w' := by
  have P := putNil_word w at_ (v % 4294967296)
  have hc : IntKind.u32.wrap (v : Int) = ((v % 4294967296 : Nat) : Int) := conv_u32 v
  have n1 := Lib.hid (numC 1 (by unfold inI64; omega))
  have h0 : ((v % 4294967296 : Nat) : Int) = (v : Int) % 4294967296 := by omega
  rw [h0] at P hc
  replace P := Lib.hid P
  clear h0
  go_enter Try.func13, Try.ntmps13
  go_wp2_with fail
  refine P.out.mono ?_
  rintro e w1 ⟨rfl, rfl⟩
  go_wp2_with fail
  refine (n1.out _).mono ?_
  rintro e w' ⟨rfl, rfl⟩
  go_wp2
  go_ret
  exact ⟨rfl, rfl⟩
theorem putDNo_word (w : World) (g h page : Nat) (l : List UInt8) (a : At w g h page l) (at_ : Int) (ha : inI64 at_) (v : Nat) (hv : v < 18446744073709551616) (hno : ¬ There page l.length at_ 4) :
    Calls Try.prog 13 #[.pointer (some ⟨g, 0, none⟩), .int .i64 at_, .int .i64 4, .int .u64 (v : Int), .bool true] w fun e w' => e = .returned (.int .i64 20) ∧ ∃ m, w.drewN m = w' := by
  have P := putNo_word w g h page l a at_ (v % 4294967296) ha hno
  have hc : IntKind.u32.wrap (v : Int) = ((v % 4294967296 : Nat) : Int) := conv_u32 v
  have n1 := Lib.hid (numC 20 (by unfold inI64; omega))
  have h0 : ((v % 4294967296 : Nat) : Int) = (v : Int) % 4294967296 := by omega
  rw [h0] at P hc
  replace P := Lib.hid P
  clear h0
  go_enter Try.func13, Try.ntmps13
  go_wp2_with fail
  refine P.out.mono ?_
  rintro e w1 ⟨rfl, m, rfl⟩
  go_wp2_with fail
  refine (n1.out _).mono ?_
  rintro e w' ⟨rfl, rfl⟩
  go_wp2
  go_ret
  exact ⟨rfl, _, rfl⟩
theorem putDYes_u32 (w : World) (g h page : Nat) (l : List UInt8) (a : At w g h page l) (at_ : Int) (v : Nat) (hv : v < 18446744073709551616) (hy : There page l.length at_ 4) :
    Calls Try.prog 13 #[.pointer (some ⟨g, 0, none⟩), .int .i64 at_, .int .i64 4, .int .u64 (v : Int), .bool false] w fun e w' => e = .returned (.int .i64 0) ∧ At w' g h page (lay l at_.toNat (putB 4 v)) ∧ Only (· = h) w w' ∧ w'.heap.size = w.heap.size := by
  have P := putYes_u32 w g h page l a at_ (v % 4294967296) (Nat.mod_lt _ (by decide)) hy
  rw [show putB 4 (v % 4294967296) = putB 4 v from putB_mod 4 v] at P
  have hc : IntKind.u32.wrap (v : Int) = ((v % 4294967296 : Nat) : Int) := conv_u32 v
  have n0 := Lib.hid (numC 0 (by unfold inI64; omega))
  have h0 : ((v % 4294967296 : Nat) : Int) = (v : Int) % 4294967296 := by omega
  rw [h0] at P hc
  replace P := Lib.hid P
  clear h0
  go_enter Try.func13, Try.ntmps13
  go_wp2_with fail
  refine P.out.mono ?_
  rintro e w1 ⟨rfl, a1, ho1, hs1⟩
  replace hs1 := Lib.hid hs1
  go_wp2_with fail
  refine (n0.out _).mono ?_
  rintro e w' ⟨rfl, rfl⟩
  go_wp2
  go_ret
  exact ⟨rfl, a1, ho1, hs1.out⟩
theorem putDNil_u32 (w : World) (at_ : Int) (v : Nat) (hv : v < 18446744073709551616) :
    Calls Try.prog 13 #[.pointer none, .int .i64 at_, .int .i64 4, .int .u64 (v : Int), .bool false] w fun e w' => e = .returned (.int .i64 1) ∧ w = w' := by
  have P := putNil_u32 w at_ (v % 4294967296)
  have hc : IntKind.u32.wrap (v : Int) = ((v % 4294967296 : Nat) : Int) := conv_u32 v
  have n1 := Lib.hid (numC 1 (by unfold inI64; omega))
  have h0 : ((v % 4294967296 : Nat) : Int) = (v : Int) % 4294967296 := by omega
  rw [h0] at P hc
  replace P := Lib.hid P
  clear h0
  go_enter Try.func13, Try.ntmps13
  go_wp2_with fail
  refine P.out.mono ?_
  rintro e w1 ⟨rfl, rfl⟩
  go_wp2_with fail
  refine (n1.out _).mono ?_
  rintro e w' ⟨rfl, rfl⟩
  go_wp2
  go_ret
  exact ⟨rfl, rfl⟩
theorem putDNo_u32 (w : World) (g h page : Nat) (l : List UInt8) (a : At w g h page l) (at_ : Int) (ha : inI64 at_) (v : Nat) (hv : v < 18446744073709551616) (hno : ¬ There page l.length at_ 4) :
    Calls Try.prog 13 #[.pointer (some ⟨g, 0, none⟩), .int .i64 at_, .int .i64 4, .int .u64 (v : Int), .bool false] w fun e w' => e = .returned (.int .i64 20) ∧ ∃ m, w.drewN m = w' := by
  have P := putNo_u32 w g h page l a at_ (v % 4294967296) ha hno
  have hc : IntKind.u32.wrap (v : Int) = ((v % 4294967296 : Nat) : Int) := conv_u32 v
  have n1 := Lib.hid (numC 20 (by unfold inI64; omega))
  have h0 : ((v % 4294967296 : Nat) : Int) = (v : Int) % 4294967296 := by omega
  rw [h0] at P hc
  replace P := Lib.hid P
  clear h0
  go_enter Try.func13, Try.ntmps13
  go_wp2_with fail
  refine P.out.mono ?_
  rintro e w1 ⟨rfl, m, rfl⟩
  go_wp2_with fail
  refine (n1.out _).mono ?_
  rintro e w' ⟨rfl, rfl⟩
  go_wp2
  go_ret
  exact ⟨rfl, _, rfl⟩
theorem putDYes_long (w : World) (g h page : Nat) (l : List UInt8) (a : At w g h page l) (at_ : Int) (v : Nat) (hv : v < 18446744073709551616) (hy : There page l.length at_ 8) :
    Calls Try.prog 13 #[.pointer (some ⟨g, 0, none⟩), .int .i64 at_, .int .i64 8, .int .u64 (v : Int), .bool true] w fun e w' => e = .returned (.int .i64 0) ∧ At w' g h page (lay l at_.toNat (putB 8 v)) ∧ Only (· = h) w w' ∧ w'.heap.size = w.heap.size := by
  have P := putYes_long w g h page l a at_ v hv hy
  have n0 := Lib.hid (numC 0 (by unfold inI64; omega))
  replace P := Lib.hid P
  go_enter Try.func13, Try.ntmps13
  go_wp2_with fail
  refine P.out.mono ?_
  rintro e w1 ⟨rfl, a1, ho1, hs1⟩
  replace hs1 := Lib.hid hs1
  go_wp2_with fail
  refine (n0.out _).mono ?_
  rintro e w' ⟨rfl, rfl⟩
  go_wp2
  go_ret
  exact ⟨rfl, a1, ho1, hs1.out⟩
theorem putDNil_long (w : World) (at_ : Int) (v : Nat) (hv : v < 18446744073709551616) :
    Calls Try.prog 13 #[.pointer none, .int .i64 at_, .int .i64 8, .int .u64 (v : Int), .bool true] w fun e w' => e = .returned (.int .i64 1) ∧ w = w' := by
  have P := putNil_long w at_ v
  have n1 := Lib.hid (numC 1 (by unfold inI64; omega))
  replace P := Lib.hid P
  go_enter Try.func13, Try.ntmps13
  go_wp2_with fail
  refine P.out.mono ?_
  rintro e w1 ⟨rfl, rfl⟩
  go_wp2_with fail
  refine (n1.out _).mono ?_
  rintro e w' ⟨rfl, rfl⟩
  go_wp2
  go_ret
  exact ⟨rfl, rfl⟩
theorem putDNo_long (w : World) (g h page : Nat) (l : List UInt8) (a : At w g h page l) (at_ : Int) (ha : inI64 at_) (v : Nat) (hv : v < 18446744073709551616) (hno : ¬ There page l.length at_ 8) :
    Calls Try.prog 13 #[.pointer (some ⟨g, 0, none⟩), .int .i64 at_, .int .i64 8, .int .u64 (v : Int), .bool true] w fun e w' => e = .returned (.int .i64 20) ∧ ∃ m, w.drewN m = w' := by
  have P := putNo_long w g h page l a at_ v ha hno
  have n1 := Lib.hid (numC 20 (by unfold inI64; omega))
  replace P := Lib.hid P
  go_enter Try.func13, Try.ntmps13
  go_wp2_with fail
  refine P.out.mono ?_
  rintro e w1 ⟨rfl, m, rfl⟩
  go_wp2_with fail
  refine (n1.out _).mono ?_
  rintro e w' ⟨rfl, rfl⟩
  go_wp2
  go_ret
  exact ⟨rfl, _, rfl⟩
theorem putDYes_u64 (w : World) (g h page : Nat) (l : List UInt8) (a : At w g h page l) (at_ : Int) (v : Nat) (hv : v < 18446744073709551616) (hy : There page l.length at_ 8) :
    Calls Try.prog 13 #[.pointer (some ⟨g, 0, none⟩), .int .i64 at_, .int .i64 8, .int .u64 (v : Int), .bool false] w fun e w' => e = .returned (.int .i64 0) ∧ At w' g h page (lay l at_.toNat (putB 8 v)) ∧ Only (· = h) w w' ∧ w'.heap.size = w.heap.size := by
  have P := putYes_u64 w g h page l a at_ v hv hy
  have n0 := Lib.hid (numC 0 (by unfold inI64; omega))
  replace P := Lib.hid P
  go_enter Try.func13, Try.ntmps13
  go_wp2_with fail
  refine P.out.mono ?_
  rintro e w1 ⟨rfl, a1, ho1, hs1⟩
  replace hs1 := Lib.hid hs1
  go_wp2_with fail
  refine (n0.out _).mono ?_
  rintro e w' ⟨rfl, rfl⟩
  go_wp2
  go_ret
  exact ⟨rfl, a1, ho1, hs1.out⟩
theorem putDNil_u64 (w : World) (at_ : Int) (v : Nat) (hv : v < 18446744073709551616) :
    Calls Try.prog 13 #[.pointer none, .int .i64 at_, .int .i64 8, .int .u64 (v : Int), .bool false] w fun e w' => e = .returned (.int .i64 1) ∧ w = w' := by
  have P := putNil_u64 w at_ v
  have n1 := Lib.hid (numC 1 (by unfold inI64; omega))
  replace P := Lib.hid P
  go_enter Try.func13, Try.ntmps13
  go_wp2_with fail
  refine P.out.mono ?_
  rintro e w1 ⟨rfl, rfl⟩
  go_wp2_with fail
  refine (n1.out _).mono ?_
  rintro e w' ⟨rfl, rfl⟩
  go_wp2
  go_ret
  exact ⟨rfl, rfl⟩
theorem putDNo_u64 (w : World) (g h page : Nat) (l : List UInt8) (a : At w g h page l) (at_ : Int) (ha : inI64 at_) (v : Nat) (hv : v < 18446744073709551616) (hno : ¬ There page l.length at_ 8) :
    Calls Try.prog 13 #[.pointer (some ⟨g, 0, none⟩), .int .i64 at_, .int .i64 8, .int .u64 (v : Int), .bool false] w fun e w' => e = .returned (.int .i64 20) ∧ ∃ m, w.drewN m = w' := by
  have P := putNo_u64 w g h page l a at_ v ha hno
  have n1 := Lib.hid (numC 20 (by unfold inI64; omega))
  replace P := Lib.hid P
  go_enter Try.func13, Try.ntmps13
  go_wp2_with fail
  refine P.out.mono ?_
  rintro e w1 ⟨rfl, m, rfl⟩
  go_wp2_with fail
  refine (n1.out _).mono ?_
  rintro e w' ⟨rfl, rfl⟩
  go_wp2
  go_ret
  exact ⟨rfl, _, rfl⟩
/-- The widths. -/
def Wide (k : Nat) : Prop := k = 1 ∨ k = 2 ∨ k = 4 ∨ k = 8
theorem putDYes (k : Nat) (hk : Wide k) (own : Bool) (w : World) (g h page : Nat) (l : List UInt8) (a : At w g h page l) (at_ : Int) (v : Nat) (hv : v < 18446744073709551616) (hy : There page l.length at_ k) :
    Calls Try.prog 13 #[.pointer (some ⟨g, 0, none⟩), .int .i64 at_, .int .i64 (k : Int), .int .u64 (v : Int), .bool own] w fun e w' => e = .returned (.int .i64 0) ∧ At w' g h page (lay l at_.toNat (putB k v)) ∧ Only (· = h) w w' ∧ w'.heap.size = w.heap.size := by
  rcases hk with rfl | rfl | rfl | rfl
  · cases own
    · exact putDYes_u8 w g h page l a at_ v hv hy
    · exact putDYes_tiny w g h page l a at_ v hv hy
  · cases own
    · exact putDYes_u16 w g h page l a at_ v hv hy
    · exact putDYes_half w g h page l a at_ v hv hy
  · cases own
    · exact putDYes_u32 w g h page l a at_ v hv hy
    · exact putDYes_word w g h page l a at_ v hv hy
  · cases own
    · exact putDYes_u64 w g h page l a at_ v hv hy
    · exact putDYes_long w g h page l a at_ v hv hy
theorem putDNil (k : Nat) (hk : Wide k) (own : Bool) (w : World) (at_ : Int) (v : Nat) (hv : v < 18446744073709551616) :
    Calls Try.prog 13 #[.pointer none, .int .i64 at_, .int .i64 (k : Int), .int .u64 (v : Int), .bool own] w fun e w' => e = .returned (.int .i64 1) ∧ w = w' := by
  rcases hk with rfl | rfl | rfl | rfl
  · cases own
    · exact putDNil_u8 w at_ v hv
    · exact putDNil_tiny w at_ v hv
  · cases own
    · exact putDNil_u16 w at_ v hv
    · exact putDNil_half w at_ v hv
  · cases own
    · exact putDNil_u32 w at_ v hv
    · exact putDNil_word w at_ v hv
  · cases own
    · exact putDNil_u64 w at_ v hv
    · exact putDNil_long w at_ v hv
theorem putDNo (k : Nat) (hk : Wide k) (own : Bool) (w : World) (g h page : Nat) (l : List UInt8) (a : At w g h page l) (at_ : Int) (ha : inI64 at_) (v : Nat) (hv : v < 18446744073709551616) (hno : ¬ There page l.length at_ k) :
    Calls Try.prog 13 #[.pointer (some ⟨g, 0, none⟩), .int .i64 at_, .int .i64 (k : Int), .int .u64 (v : Int), .bool own] w fun e w' => e = .returned (.int .i64 20) ∧ ∃ m, w.drewN m = w' := by
  rcases hk with rfl | rfl | rfl | rfl
  · cases own
    · exact putDNo_u8 w g h page l a at_ ha v hv hno
    · exact putDNo_tiny w g h page l a at_ ha v hv hno
  · cases own
    · exact putDNo_u16 w g h page l a at_ ha v hv hno
    · exact putDNo_half w g h page l a at_ ha v hv hno
  · cases own
    · exact putDNo_u32 w g h page l a at_ ha v hv hno
    · exact putDNo_word w g h page l a at_ ha v hv hno
  · cases own
    · exact putDNo_u64 w g h page l a at_ ha v hv hno
    · exact putDNo_long w g h page l a at_ ha v hv hno
end Go.Proofs.Ytnjobnccknpaeaa.Arena
