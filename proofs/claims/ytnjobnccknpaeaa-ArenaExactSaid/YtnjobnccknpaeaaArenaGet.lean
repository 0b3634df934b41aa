/-
  The walks of Get, for each type of number: the number that stands there, the highest byte first. (printed by a small program of mine: one text for each instance)
-/
import Derived.Test.YtnjobnccknpaeaaArenaNum
namespace Go.Proofs.Ytnjobnccknpaeaa.Arena
open Go.RowKit Base
set_option linter.unusedVariables false

theorem getNo_tiny (w : World) (g h page : Nat) (l : List UInt8) (a : At w g h page l) (at_ : Int) (ha : inI64 at_) (hno : ¬ There page l.length at_ 1) :
    Calls Try.prog 45 #[.pointer (some ⟨g, 0, none⟩), .int .i64 at_] w fun e w' => e = .returned (.tuple #[.int .u8 0, .int .i64 20]) ∧ ∃ m, w.drewN m = w' := by
  have C := Lib.hid (thereNo w g h page l a at_ 1 ha (by unfold inI64; omega) hno)
  have E := Lib.hid width_tiny
  go_enter Try.func45, Try.ntmps45
  go_wp2_with fail
  refine (E.out _).mono ?_
  rintro e w' ⟨rfl, rfl⟩
  go_wp2_with fail
  refine C.out.mono ?_
  rintro e w' ⟨rfl, m, rfl⟩
  go_wp2
  go_ret2
  exact ⟨rfl, _, rfl⟩
theorem getNil_tiny (w : World) (at_ : Int) :
    Calls Try.prog 45 #[.pointer none, .int .i64 at_] w fun e w' => e = .returned (.tuple #[.int .u8 0, .int .i64 1]) ∧ w = w' := by
  go_enter Try.func45, Try.ntmps45
  go_wp2
  go_ret2
  exact ⟨rfl, rfl⟩
theorem getYes_tiny (w : World) (g h page : Nat) (l : List UInt8) (a : At w g h page l) (at_ : Int) (hy : There page l.length at_ 1) :
    Calls Try.prog 45 #[.pointer (some ⟨g, 0, none⟩), .int .i64 at_] w fun e w' => e = .returned (.tuple #[.int .u8 ((beN ((l.drop at_.toNat).take 1) : Nat) : Int), .int .i64 0]) ∧ ∃ m, w.drewN m = w' := by
  have C := Lib.hid (thereYes w g h page l a at_ 1 hy)
  have E := Lib.hid width_tiny
  obtain ⟨q1, q2, q3, q4⟩ := hy
  have hs := a.small
  have hlen : ((l.drop at_.toNat).take 1).length = 1 := by simp; omega
  have hb := a.bytes
  obtain ⟨p, rfl⟩ := Int.eq_ofNat_of_zero_le q1
  simp only [Int.toNat_natCast] at C hlen ⊢
  have hfin := beN_lt ((l.drop p).take 1)
  rw [hlen] at hfin
  have hat : ∀ k, k < 1 → ∃ z : UInt8, ((l.drop p).take 1)[k]? = some z ∧ l[p + k]? = some z := fun k hk => by
    have hkl : k < ((l.drop p).take 1).length := by omega
    have e := List.getElem?_eq_getElem hkl
    refine ⟨_, e, ?_⟩
    rw [← e, List.getElem?_take, if_pos hk, List.getElem?_drop]
  generalize (l.drop p).take 1 = piece at *
  replace hlen := Lib.hid hlen
  replace hat := Lib.hid hat
  go_enter Try.func45, Try.ntmps45
  go_wp2_with fail
  refine (E.out _).mono ?_
  rintro e w' ⟨rfl, rfl⟩
  go_wp2_with fail
  refine C.out.mono ?_
  rintro e w0 ⟨A, rfl, hA, m, hw0⟩
  obtain rfl := hA (by omega)
  have hb0 : BB w0 5 h l := by rw [← hw0]; exact hb
  replace hw0 := Lib.hid hw0
  go_wp2
  go_loop [8, 24] (fun n i => ∃ k : Nat, k ≤ 1 ∧ i = .int .i64 k ∧ n = .int .u8 ((beN (piece.take k) % 256 : Nat) : Int)) (fun _ i => 1 - (intOf i).toNat)
  case atStart => exact ⟨0, by omega, rfl, rfl⟩
  case round =>
    obtain ⟨k, hk, rfl, rfl⟩ := hrel
    by_cases hlt : k < 1
    · obtain ⟨z0, hpz, hlz⟩ := hat.out k hlt
      have hc := hb0.cell' (p + k) z0 hlz
      have hs2 := Lib.hid (beN_take' piece k z0 hpz)
      have hx := byte_lt z0
      have hm := Nat.mod_lt (beN (piece.take k)) (show 0 < 256 by decide)
      have he := get_u8 _ _ hm hx
      have he2 := get_u8e _ _ hm hx
      have hmm := Lib.hid (Nat.mod_mod (beN (piece.take k)) 256)
      have hst := Lib.hid (step_mod (beN (piece.take k)) z0.toNat 256)
      clear hpz hlz
      generalize beN (piece.take k) % 256 = x at *
      generalize z0.toNat = z at *
      go_wp2
      go_round
      case rel => exact ⟨k + 1, by omega, by go_num, by rw [hs2.out, ← hst.out]; go_num⟩
      case measure => simp [intOf]; omega
    · obtain rfl : k = 1 := by omega
      have e1 : piece.take 1 = piece := List.take_of_length_le (by rw [hlen.out]; omega)
      have e2 := Lib.hid (show beN (piece.take 1) % 256 = beN piece by rw [e1]; exact Nat.mod_eq_of_lt hfin)
      clear e1
      generalize beN (piece.take 1) % 256 = y at *
      go_wp2
      go_ret2
      exact ⟨by rw [e2.out]; rfl, m, hw0.out⟩
theorem getNo_u8 (w : World) (g h page : Nat) (l : List UInt8) (a : At w g h page l) (at_ : Int) (ha : inI64 at_) (hno : ¬ There page l.length at_ 1) :
    Calls Try.prog 46 #[.pointer (some ⟨g, 0, none⟩), .int .i64 at_] w fun e w' => e = .returned (.tuple #[.int .u8 0, .int .i64 20]) ∧ ∃ m, w.drewN m = w' := by
  have C := Lib.hid (thereNo w g h page l a at_ 1 ha (by unfold inI64; omega) hno)
  have E := Lib.hid width_u8
  go_enter Try.func46, Try.ntmps46
  go_wp2_with fail
  refine (E.out _).mono ?_
  rintro e w' ⟨rfl, rfl⟩
  go_wp2_with fail
  refine C.out.mono ?_
  rintro e w' ⟨rfl, m, rfl⟩
  go_wp2
  go_ret2
  exact ⟨rfl, _, rfl⟩
theorem getNil_u8 (w : World) (at_ : Int) :
    Calls Try.prog 46 #[.pointer none, .int .i64 at_] w fun e w' => e = .returned (.tuple #[.int .u8 0, .int .i64 1]) ∧ w = w' := by
  go_enter Try.func46, Try.ntmps46
  go_wp2
  go_ret2
  exact ⟨rfl, rfl⟩
theorem getYes_u8 (w : World) (g h page : Nat) (l : List UInt8) (a : At w g h page l) (at_ : Int) (hy : There page l.length at_ 1) :
    Calls Try.prog 46 #[.pointer (some ⟨g, 0, none⟩), .int .i64 at_] w fun e w' => e = .returned (.tuple #[.int .u8 ((beN ((l.drop at_.toNat).take 1) : Nat) : Int), .int .i64 0]) ∧ ∃ m, w.drewN m = w' := by
  have C := Lib.hid (thereYes w g h page l a at_ 1 hy)
  have E := Lib.hid width_u8
  obtain ⟨q1, q2, q3, q4⟩ := hy
  have hs := a.small
  have hlen : ((l.drop at_.toNat).take 1).length = 1 := by simp; omega
  have hb := a.bytes
  obtain ⟨p, rfl⟩ := Int.eq_ofNat_of_zero_le q1
  simp only [Int.toNat_natCast] at C hlen ⊢
  have hfin := beN_lt ((l.drop p).take 1)
  rw [hlen] at hfin
  have hat : ∀ k, k < 1 → ∃ z : UInt8, ((l.drop p).take 1)[k]? = some z ∧ l[p + k]? = some z := fun k hk => by
    have hkl : k < ((l.drop p).take 1).length := by omega
    have e := List.getElem?_eq_getElem hkl
    refine ⟨_, e, ?_⟩
    rw [← e, List.getElem?_take, if_pos hk, List.getElem?_drop]
  generalize (l.drop p).take 1 = piece at *
  replace hlen := Lib.hid hlen
  replace hat := Lib.hid hat
  go_enter Try.func46, Try.ntmps46
  go_wp2_with fail
  refine (E.out _).mono ?_
  rintro e w' ⟨rfl, rfl⟩
  go_wp2_with fail
  refine C.out.mono ?_
  rintro e w0 ⟨A, rfl, hA, m, hw0⟩
  obtain rfl := hA (by omega)
  have hb0 : BB w0 5 h l := by rw [← hw0]; exact hb
  replace hw0 := Lib.hid hw0
  go_wp2
  go_loop [8, 24] (fun n i => ∃ k : Nat, k ≤ 1 ∧ i = .int .i64 k ∧ n = .int .u8 ((beN (piece.take k) % 256 : Nat) : Int)) (fun _ i => 1 - (intOf i).toNat)
  case atStart => exact ⟨0, by omega, rfl, rfl⟩
  case round =>
    obtain ⟨k, hk, rfl, rfl⟩ := hrel
    by_cases hlt : k < 1
    · obtain ⟨z0, hpz, hlz⟩ := hat.out k hlt
      have hc := hb0.cell' (p + k) z0 hlz
      have hs2 := Lib.hid (beN_take' piece k z0 hpz)
      have hx := byte_lt z0
      have hm := Nat.mod_lt (beN (piece.take k)) (show 0 < 256 by decide)
      have he := get_u8 _ _ hm hx
      have he2 := get_u8e _ _ hm hx
      have hmm := Lib.hid (Nat.mod_mod (beN (piece.take k)) 256)
      have hst := Lib.hid (step_mod (beN (piece.take k)) z0.toNat 256)
      clear hpz hlz
      generalize beN (piece.take k) % 256 = x at *
      generalize z0.toNat = z at *
      go_wp2
      go_round
      case rel => exact ⟨k + 1, by omega, by go_num, by rw [hs2.out, ← hst.out]; go_num⟩
      case measure => simp [intOf]; omega
    · obtain rfl : k = 1 := by omega
      have e1 : piece.take 1 = piece := List.take_of_length_le (by rw [hlen.out]; omega)
      have e2 := Lib.hid (show beN (piece.take 1) % 256 = beN piece by rw [e1]; exact Nat.mod_eq_of_lt hfin)
      clear e1
      generalize beN (piece.take 1) % 256 = y at *
      go_wp2
      go_ret2
      exact ⟨by rw [e2.out]; rfl, m, hw0.out⟩
theorem getNo_half (w : World) (g h page : Nat) (l : List UInt8) (a : At w g h page l) (at_ : Int) (ha : inI64 at_) (hno : ¬ There page l.length at_ 2) :
    Calls Try.prog 47 #[.pointer (some ⟨g, 0, none⟩), .int .i64 at_] w fun e w' => e = .returned (.tuple #[.int .u16 0, .int .i64 20]) ∧ ∃ m, w.drewN m = w' := by
  have C := Lib.hid (thereNo w g h page l a at_ 2 ha (by unfold inI64; omega) hno)
  have E := Lib.hid width_half
  go_enter Try.func47, Try.ntmps47
  go_wp2_with fail
  refine (E.out _).mono ?_
  rintro e w' ⟨rfl, rfl⟩
  go_wp2_with fail
  refine C.out.mono ?_
  rintro e w' ⟨rfl, m, rfl⟩
  go_wp2
  go_ret2
  exact ⟨rfl, _, rfl⟩
theorem getNil_half (w : World) (at_ : Int) :
    Calls Try.prog 47 #[.pointer none, .int .i64 at_] w fun e w' => e = .returned (.tuple #[.int .u16 0, .int .i64 1]) ∧ w = w' := by
  go_enter Try.func47, Try.ntmps47
  go_wp2
  go_ret2
  exact ⟨rfl, rfl⟩
theorem getYes_half (w : World) (g h page : Nat) (l : List UInt8) (a : At w g h page l) (at_ : Int) (hy : There page l.length at_ 2) :
    Calls Try.prog 47 #[.pointer (some ⟨g, 0, none⟩), .int .i64 at_] w fun e w' => e = .returned (.tuple #[.int .u16 ((beN ((l.drop at_.toNat).take 2) : Nat) : Int), .int .i64 0]) ∧ ∃ m, w.drewN m = w' := by
  have C := Lib.hid (thereYes w g h page l a at_ 2 hy)
  have E := Lib.hid width_half
  obtain ⟨q1, q2, q3, q4⟩ := hy
  have hs := a.small
  have hlen : ((l.drop at_.toNat).take 2).length = 2 := by simp; omega
  have hb := a.bytes
  obtain ⟨p, rfl⟩ := Int.eq_ofNat_of_zero_le q1
  simp only [Int.toNat_natCast] at C hlen ⊢
  have hfin := beN_lt ((l.drop p).take 2)
  rw [hlen] at hfin
  have hat : ∀ k, k < 2 → ∃ z : UInt8, ((l.drop p).take 2)[k]? = some z ∧ l[p + k]? = some z := fun k hk => by
    have hkl : k < ((l.drop p).take 2).length := by omega
    have e := List.getElem?_eq_getElem hkl
    refine ⟨_, e, ?_⟩
    rw [← e, List.getElem?_take, if_pos hk, List.getElem?_drop]
  generalize (l.drop p).take 2 = piece at *
  replace hlen := Lib.hid hlen
  replace hat := Lib.hid hat
  go_enter Try.func47, Try.ntmps47
  go_wp2_with fail
  refine (E.out _).mono ?_
  rintro e w' ⟨rfl, rfl⟩
  go_wp2_with fail
  refine C.out.mono ?_
  rintro e w0 ⟨A, rfl, hA, m, hw0⟩
  obtain rfl := hA (by omega)
  have hb0 : BB w0 5 h l := by rw [← hw0]; exact hb
  replace hw0 := Lib.hid hw0
  go_wp2
  go_loop [8, 24] (fun n i => ∃ k : Nat, k ≤ 2 ∧ i = .int .i64 k ∧ n = .int .u16 ((beN (piece.take k) % 65536 : Nat) : Int)) (fun _ i => 2 - (intOf i).toNat)
  case atStart => exact ⟨0, by omega, rfl, rfl⟩
  case round =>
    obtain ⟨k, hk, rfl, rfl⟩ := hrel
    by_cases hlt : k < 2
    · obtain ⟨z0, hpz, hlz⟩ := hat.out k hlt
      have hc := hb0.cell' (p + k) z0 hlz
      have hs2 := Lib.hid (beN_take' piece k z0 hpz)
      have hx := byte_lt z0
      have hm := Nat.mod_lt (beN (piece.take k)) (show 0 < 65536 by decide)
      have he := get_u16 _ _ hm hx
      have he2 := get_u16e _ _ hm hx
      have hmm := Lib.hid (Nat.mod_mod (beN (piece.take k)) 65536)
      have hst := Lib.hid (step_mod (beN (piece.take k)) z0.toNat 65536)
      clear hpz hlz
      generalize beN (piece.take k) % 65536 = x at *
      generalize z0.toNat = z at *
      go_wp2
      go_round
      case rel => exact ⟨k + 1, by omega, by go_num, by rw [hs2.out, ← hst.out]; go_num⟩
      case measure => simp [intOf]; omega
    · obtain rfl : k = 2 := by omega
      have e1 : piece.take 2 = piece := List.take_of_length_le (by rw [hlen.out]; omega)
      have e2 := Lib.hid (show beN (piece.take 2) % 65536 = beN piece by rw [e1]; exact Nat.mod_eq_of_lt hfin)
      clear e1
      generalize beN (piece.take 2) % 65536 = y at *
      go_wp2
      go_ret2
      exact ⟨by rw [e2.out]; rfl, m, hw0.out⟩
theorem getNo_u16 (w : World) (g h page : Nat) (l : List UInt8) (a : At w g h page l) (at_ : Int) (ha : inI64 at_) (hno : ¬ There page l.length at_ 2) :
    Calls Try.prog 48 #[.pointer (some ⟨g, 0, none⟩), .int .i64 at_] w fun e w' => e = .returned (.tuple #[.int .u16 0, .int .i64 20]) ∧ ∃ m, w.drewN m = w' := by
  have C := Lib.hid (thereNo w g h page l a at_ 2 ha (by unfold inI64; omega) hno)
  have E := Lib.hid width_u16
  go_enter Try.func48, Try.ntmps48
  go_wp2_with fail
  refine (E.out _).mono ?_
  rintro e w' ⟨rfl, rfl⟩
  go_wp2_with fail
  refine C.out.mono ?_
  rintro e w' ⟨rfl, m, rfl⟩
  go_wp2
  go_ret2
  exact ⟨rfl, _, rfl⟩
theorem getNil_u16 (w : World) (at_ : Int) :
    Calls Try.prog 48 #[.pointer none, .int .i64 at_] w fun e w' => e = .returned (.tuple #[.int .u16 0, .int .i64 1]) ∧ w = w' := by
  go_enter Try.func48, Try.ntmps48
  go_wp2
  go_ret2
  exact ⟨rfl, rfl⟩
theorem getYes_u16 (w : World) (g h page : Nat) (l : List UInt8) (a : At w g h page l) (at_ : Int) (hy : There page l.length at_ 2) :
    Calls Try.prog 48 #[.pointer (some ⟨g, 0, none⟩), .int .i64 at_] w fun e w' => e = .returned (.tuple #[.int .u16 ((beN ((l.drop at_.toNat).take 2) : Nat) : Int), .int .i64 0]) ∧ ∃ m, w.drewN m = w' := by
  have C := Lib.hid (thereYes w g h page l a at_ 2 hy)
  have E := Lib.hid width_u16
  obtain ⟨q1, q2, q3, q4⟩ := hy
  have hs := a.small
  have hlen : ((l.drop at_.toNat).take 2).length = 2 := by simp; omega
  have hb := a.bytes
  obtain ⟨p, rfl⟩ := Int.eq_ofNat_of_zero_le q1
  simp only [Int.toNat_natCast] at C hlen ⊢
  have hfin := beN_lt ((l.drop p).take 2)
  rw [hlen] at hfin
  have hat : ∀ k, k < 2 → ∃ z : UInt8, ((l.drop p).take 2)[k]? = some z ∧ l[p + k]? = some z := fun k hk => by
    have hkl : k < ((l.drop p).take 2).length := by omega
    have e := List.getElem?_eq_getElem hkl
    refine ⟨_, e, ?_⟩
    rw [← e, List.getElem?_take, if_pos hk, List.getElem?_drop]
  generalize (l.drop p).take 2 = piece at *
  replace hlen := Lib.hid hlen
  replace hat := Lib.hid hat
  go_enter Try.func48, Try.ntmps48
  go_wp2_with fail
  refine (E.out _).mono ?_
  rintro e w' ⟨rfl, rfl⟩
  go_wp2_with fail
  refine C.out.mono ?_
  rintro e w0 ⟨A, rfl, hA, m, hw0⟩
  obtain rfl := hA (by omega)
  have hb0 : BB w0 5 h l := by rw [← hw0]; exact hb
  replace hw0 := Lib.hid hw0
  go_wp2
  go_loop [8, 24] (fun n i => ∃ k : Nat, k ≤ 2 ∧ i = .int .i64 k ∧ n = .int .u16 ((beN (piece.take k) % 65536 : Nat) : Int)) (fun _ i => 2 - (intOf i).toNat)
  case atStart => exact ⟨0, by omega, rfl, rfl⟩
  case round =>
    obtain ⟨k, hk, rfl, rfl⟩ := hrel
    by_cases hlt : k < 2
    · obtain ⟨z0, hpz, hlz⟩ := hat.out k hlt
      have hc := hb0.cell' (p + k) z0 hlz
      have hs2 := Lib.hid (beN_take' piece k z0 hpz)
      have hx := byte_lt z0
      have hm := Nat.mod_lt (beN (piece.take k)) (show 0 < 65536 by decide)
      have he := get_u16 _ _ hm hx
      have he2 := get_u16e _ _ hm hx
      have hmm := Lib.hid (Nat.mod_mod (beN (piece.take k)) 65536)
      have hst := Lib.hid (step_mod (beN (piece.take k)) z0.toNat 65536)
      clear hpz hlz
      generalize beN (piece.take k) % 65536 = x at *
      generalize z0.toNat = z at *
      go_wp2
      go_round
      case rel => exact ⟨k + 1, by omega, by go_num, by rw [hs2.out, ← hst.out]; go_num⟩
      case measure => simp [intOf]; omega
    · obtain rfl : k = 2 := by omega
      have e1 : piece.take 2 = piece := List.take_of_length_le (by rw [hlen.out]; omega)
      have e2 := Lib.hid (show beN (piece.take 2) % 65536 = beN piece by rw [e1]; exact Nat.mod_eq_of_lt hfin)
      clear e1
      generalize beN (piece.take 2) % 65536 = y at *
      go_wp2
      go_ret2
      exact ⟨by rw [e2.out]; rfl, m, hw0.out⟩
theorem getNo_word (w : World) (g h page : Nat) (l : List UInt8) (a : At w g h page l) (at_ : Int) (ha : inI64 at_) (hno : ¬ There page l.length at_ 4) :
    Calls Try.prog 49 #[.pointer (some ⟨g, 0, none⟩), .int .i64 at_] w fun e w' => e = .returned (.tuple #[.int .u32 0, .int .i64 20]) ∧ ∃ m, w.drewN m = w' := by
  have C := Lib.hid (thereNo w g h page l a at_ 4 ha (by unfold inI64; omega) hno)
  have E := Lib.hid width_word
  go_enter Try.func49, Try.ntmps49
  go_wp2_with fail
  refine (E.out _).mono ?_
  rintro e w' ⟨rfl, rfl⟩
  go_wp2_with fail
  refine C.out.mono ?_
  rintro e w' ⟨rfl, m, rfl⟩
  go_wp2
  go_ret2
  exact ⟨rfl, _, rfl⟩
theorem getNil_word (w : World) (at_ : Int) :
    Calls Try.prog 49 #[.pointer none, .int .i64 at_] w fun e w' => e = .returned (.tuple #[.int .u32 0, .int .i64 1]) ∧ w = w' := by
  go_enter Try.func49, Try.ntmps49
  go_wp2
  go_ret2
  exact ⟨rfl, rfl⟩
theorem getYes_word (w : World) (g h page : Nat) (l : List UInt8) (a : At w g h page l) (at_ : Int) (hy : There page l.length at_ 4) :
    Calls Try.prog 49 #[.pointer (some ⟨g, 0, none⟩), .int .i64 at_] w fun e w' => e = .returned (.tuple #[.int .u32 ((beN ((l.drop at_.toNat).take 4) : Nat) : Int), .int .i64 0]) ∧ ∃ m, w.drewN m = w' := by
  have C := Lib.hid (thereYes w g h page l a at_ 4 hy)
  have E := Lib.hid width_word
  obtain ⟨q1, q2, q3, q4⟩ := hy
  have hs := a.small
  have hlen : ((l.drop at_.toNat).take 4).length = 4 := by simp; omega
  have hb := a.bytes
  obtain ⟨p, rfl⟩ := Int.eq_ofNat_of_zero_le q1
  simp only [Int.toNat_natCast] at C hlen ⊢
  have hfin := beN_lt ((l.drop p).take 4)
  rw [hlen] at hfin
  have hat : ∀ k, k < 4 → ∃ z : UInt8, ((l.drop p).take 4)[k]? = some z ∧ l[p + k]? = some z := fun k hk => by
    have hkl : k < ((l.drop p).take 4).length := by omega
    have e := List.getElem?_eq_getElem hkl
    refine ⟨_, e, ?_⟩
    rw [← e, List.getElem?_take, if_pos hk, List.getElem?_drop]
  generalize (l.drop p).take 4 = piece at *
  replace hlen := Lib.hid hlen
  replace hat := Lib.hid hat
  go_enter Try.func49, Try.ntmps49
  go_wp2_with fail
  refine (E.out _).mono ?_
  rintro e w' ⟨rfl, rfl⟩
  go_wp2_with fail
  refine C.out.mono ?_
  rintro e w0 ⟨A, rfl, hA, m, hw0⟩
  obtain rfl := hA (by omega)
  have hb0 : BB w0 5 h l := by rw [← hw0]; exact hb
  replace hw0 := Lib.hid hw0
  go_wp2
  go_loop [8, 24] (fun n i => ∃ k : Nat, k ≤ 4 ∧ i = .int .i64 k ∧ n = .int .u32 ((beN (piece.take k) % 4294967296 : Nat) : Int)) (fun _ i => 4 - (intOf i).toNat)
  case atStart => exact ⟨0, by omega, rfl, rfl⟩
  case round =>
    obtain ⟨k, hk, rfl, rfl⟩ := hrel
    by_cases hlt : k < 4
    · obtain ⟨z0, hpz, hlz⟩ := hat.out k hlt
      have hc := hb0.cell' (p + k) z0 hlz
      have hs2 := Lib.hid (beN_take' piece k z0 hpz)
      have hx := byte_lt z0
      have hm := Nat.mod_lt (beN (piece.take k)) (show 0 < 4294967296 by decide)
      have he := get_u32 _ _ hm hx
      have he2 := get_u32e _ _ hm hx
      have hmm := Lib.hid (Nat.mod_mod (beN (piece.take k)) 4294967296)
      have hst := Lib.hid (step_mod (beN (piece.take k)) z0.toNat 4294967296)
      clear hpz hlz
      generalize beN (piece.take k) % 4294967296 = x at *
      generalize z0.toNat = z at *
      go_wp2
      go_round
      case rel => exact ⟨k + 1, by omega, by go_num, by rw [hs2.out, ← hst.out]; go_num⟩
      case measure => simp [intOf]; omega
    · obtain rfl : k = 4 := by omega
      have e1 : piece.take 4 = piece := List.take_of_length_le (by rw [hlen.out]; omega)
      have e2 := Lib.hid (show beN (piece.take 4) % 4294967296 = beN piece by rw [e1]; exact Nat.mod_eq_of_lt hfin)
      clear e1
      generalize beN (piece.take 4) % 4294967296 = y at *
      go_wp2
      go_ret2
      exact ⟨by rw [e2.out]; rfl, m, hw0.out⟩
theorem getNo_u32 (w : World) (g h page : Nat) (l : List UInt8) (a : At w g h page l) (at_ : Int) (ha : inI64 at_) (hno : ¬ There page l.length at_ 4) :
    Calls Try.prog 50 #[.pointer (some ⟨g, 0, none⟩), .int .i64 at_] w fun e w' => e = .returned (.tuple #[.int .u32 0, .int .i64 20]) ∧ ∃ m, w.drewN m = w' := by
  have C := Lib.hid (thereNo w g h page l a at_ 4 ha (by unfold inI64; omega) hno)
  have E := Lib.hid width_u32
  go_enter Try.func50, Try.ntmps50
  go_wp2_with fail
  refine (E.out _).mono ?_
  rintro e w' ⟨rfl, rfl⟩
  go_wp2_with fail
  refine C.out.mono ?_
  rintro e w' ⟨rfl, m, rfl⟩
  go_wp2
  go_ret2
  exact ⟨rfl, _, rfl⟩
theorem getNil_u32 (w : World) (at_ : Int) :
    Calls Try.prog 50 #[.pointer none, .int .i64 at_] w fun e w' => e = .returned (.tuple #[.int .u32 0, .int .i64 1]) ∧ w = w' := by
  go_enter Try.func50, Try.ntmps50
  go_wp2
  go_ret2
  exact ⟨rfl, rfl⟩
theorem getYes_u32 (w : World) (g h page : Nat) (l : List UInt8) (a : At w g h page l) (at_ : Int) (hy : There page l.length at_ 4) :
    Calls Try.prog 50 #[.pointer (some ⟨g, 0, none⟩), .int .i64 at_] w fun e w' => e = .returned (.tuple #[.int .u32 ((beN ((l.drop at_.toNat).take 4) : Nat) : Int), .int .i64 0]) ∧ ∃ m, w.drewN m = w' := by
  have C := Lib.hid (thereYes w g h page l a at_ 4 hy)
  have E := Lib.hid width_u32
  obtain ⟨q1, q2, q3, q4⟩ := hy
  have hs := a.small
  have hlen : ((l.drop at_.toNat).take 4).length = 4 := by simp; omega
  have hb := a.bytes
  obtain ⟨p, rfl⟩ := Int.eq_ofNat_of_zero_le q1
  simp only [Int.toNat_natCast] at C hlen ⊢
  have hfin := beN_lt ((l.drop p).take 4)
  rw [hlen] at hfin
  have hat : ∀ k, k < 4 → ∃ z : UInt8, ((l.drop p).take 4)[k]? = some z ∧ l[p + k]? = some z := fun k hk => by
    have hkl : k < ((l.drop p).take 4).length := by omega
    have e := List.getElem?_eq_getElem hkl
    refine ⟨_, e, ?_⟩
    rw [← e, List.getElem?_take, if_pos hk, List.getElem?_drop]
  generalize (l.drop p).take 4 = piece at *
  replace hlen := Lib.hid hlen
  replace hat := Lib.hid hat
  go_enter Try.func50, Try.ntmps50
  go_wp2_with fail
  refine (E.out _).mono ?_
  rintro e w' ⟨rfl, rfl⟩
  go_wp2_with fail
  refine C.out.mono ?_
  rintro e w0 ⟨A, rfl, hA, m, hw0⟩
  obtain rfl := hA (by omega)
  have hb0 : BB w0 5 h l := by rw [← hw0]; exact hb
  replace hw0 := Lib.hid hw0
  go_wp2
  go_loop [8, 24] (fun n i => ∃ k : Nat, k ≤ 4 ∧ i = .int .i64 k ∧ n = .int .u32 ((beN (piece.take k) % 4294967296 : Nat) : Int)) (fun _ i => 4 - (intOf i).toNat)
  case atStart => exact ⟨0, by omega, rfl, rfl⟩
  case round =>
    obtain ⟨k, hk, rfl, rfl⟩ := hrel
    by_cases hlt : k < 4
    · obtain ⟨z0, hpz, hlz⟩ := hat.out k hlt
      have hc := hb0.cell' (p + k) z0 hlz
      have hs2 := Lib.hid (beN_take' piece k z0 hpz)
      have hx := byte_lt z0
      have hm := Nat.mod_lt (beN (piece.take k)) (show 0 < 4294967296 by decide)
      have he := get_u32 _ _ hm hx
      have he2 := get_u32e _ _ hm hx
      have hmm := Lib.hid (Nat.mod_mod (beN (piece.take k)) 4294967296)
      have hst := Lib.hid (step_mod (beN (piece.take k)) z0.toNat 4294967296)
      clear hpz hlz
      generalize beN (piece.take k) % 4294967296 = x at *
      generalize z0.toNat = z at *
      go_wp2
      go_round
      case rel => exact ⟨k + 1, by omega, by go_num, by rw [hs2.out, ← hst.out]; go_num⟩
      case measure => simp [intOf]; omega
    · obtain rfl : k = 4 := by omega
      have e1 : piece.take 4 = piece := List.take_of_length_le (by rw [hlen.out]; omega)
      have e2 := Lib.hid (show beN (piece.take 4) % 4294967296 = beN piece by rw [e1]; exact Nat.mod_eq_of_lt hfin)
      clear e1
      generalize beN (piece.take 4) % 4294967296 = y at *
      go_wp2
      go_ret2
      exact ⟨by rw [e2.out]; rfl, m, hw0.out⟩
theorem getNo_long (w : World) (g h page : Nat) (l : List UInt8) (a : At w g h page l) (at_ : Int) (ha : inI64 at_) (hno : ¬ There page l.length at_ 8) :
    Calls Try.prog 51 #[.pointer (some ⟨g, 0, none⟩), .int .i64 at_] w fun e w' => e = .returned (.tuple #[.int .u64 0, .int .i64 20]) ∧ ∃ m, w.drewN m = w' := by
  have C := Lib.hid (thereNo w g h page l a at_ 8 ha (by unfold inI64; omega) hno)
  have E := Lib.hid width_long
  go_enter Try.func51, Try.ntmps51
  go_wp2_with fail
  refine (E.out _).mono ?_
  rintro e w' ⟨rfl, rfl⟩
  go_wp2_with fail
  refine C.out.mono ?_
  rintro e w' ⟨rfl, m, rfl⟩
  go_wp2
  go_ret2
  exact ⟨rfl, _, rfl⟩
theorem getNil_long (w : World) (at_ : Int) :
    Calls Try.prog 51 #[.pointer none, .int .i64 at_] w fun e w' => e = .returned (.tuple #[.int .u64 0, .int .i64 1]) ∧ w = w' := by
  go_enter Try.func51, Try.ntmps51
  go_wp2
  go_ret2
  exact ⟨rfl, rfl⟩
theorem getYes_long (w : World) (g h page : Nat) (l : List UInt8) (a : At w g h page l) (at_ : Int) (hy : There page l.length at_ 8) :
    Calls Try.prog 51 #[.pointer (some ⟨g, 0, none⟩), .int .i64 at_] w fun e w' => e = .returned (.tuple #[.int .u64 ((beN ((l.drop at_.toNat).take 8) : Nat) : Int), .int .i64 0]) ∧ ∃ m, w.drewN m = w' := by
  have C := Lib.hid (thereYes w g h page l a at_ 8 hy)
  have E := Lib.hid width_long
  obtain ⟨q1, q2, q3, q4⟩ := hy
  have hs := a.small
  have hlen : ((l.drop at_.toNat).take 8).length = 8 := by simp; omega
  have hb := a.bytes
  obtain ⟨p, rfl⟩ := Int.eq_ofNat_of_zero_le q1
  simp only [Int.toNat_natCast] at C hlen ⊢
  have hfin := beN_lt ((l.drop p).take 8)
  rw [hlen] at hfin
  have hat : ∀ k, k < 8 → ∃ z : UInt8, ((l.drop p).take 8)[k]? = some z ∧ l[p + k]? = some z := fun k hk => by
    have hkl : k < ((l.drop p).take 8).length := by omega
    have e := List.getElem?_eq_getElem hkl
    refine ⟨_, e, ?_⟩
    rw [← e, List.getElem?_take, if_pos hk, List.getElem?_drop]
  generalize (l.drop p).take 8 = piece at *
  replace hlen := Lib.hid hlen
  replace hat := Lib.hid hat
  go_enter Try.func51, Try.ntmps51
  go_wp2_with fail
  refine (E.out _).mono ?_
  rintro e w' ⟨rfl, rfl⟩
  go_wp2_with fail
  refine C.out.mono ?_
  rintro e w0 ⟨A, rfl, hA, m, hw0⟩
  obtain rfl := hA (by omega)
  have hb0 : BB w0 5 h l := by rw [← hw0]; exact hb
  replace hw0 := Lib.hid hw0
  go_wp2
  go_loop [8, 24] (fun n i => ∃ k : Nat, k ≤ 8 ∧ i = .int .i64 k ∧ n = .int .u64 ((beN (piece.take k) % 18446744073709551616 : Nat) : Int)) (fun _ i => 8 - (intOf i).toNat)
  case atStart => exact ⟨0, by omega, rfl, rfl⟩
  case round =>
    obtain ⟨k, hk, rfl, rfl⟩ := hrel
    by_cases hlt : k < 8
    · obtain ⟨z0, hpz, hlz⟩ := hat.out k hlt
      have hc := hb0.cell' (p + k) z0 hlz
      have hs2 := Lib.hid (beN_take' piece k z0 hpz)
      have hx := byte_lt z0
      have hm := Nat.mod_lt (beN (piece.take k)) (show 0 < 18446744073709551616 by decide)
      have he := get_u64 _ _ hm hx
      have he2 := get_u64e _ _ hm hx
      have hmm := Lib.hid (Nat.mod_mod (beN (piece.take k)) 18446744073709551616)
      have hst := Lib.hid (step_mod (beN (piece.take k)) z0.toNat 18446744073709551616)
      clear hpz hlz
      generalize beN (piece.take k) % 18446744073709551616 = x at *
      generalize z0.toNat = z at *
      go_wp2
      go_round
      case rel => exact ⟨k + 1, by omega, by go_num, by rw [hs2.out, ← hst.out]; go_num⟩
      case measure => simp [intOf]; omega
    · obtain rfl : k = 8 := by omega
      have e1 : piece.take 8 = piece := List.take_of_length_le (by rw [hlen.out]; omega)
      have e2 := Lib.hid (show beN (piece.take 8) % 18446744073709551616 = beN piece by rw [e1]; exact Nat.mod_eq_of_lt hfin)
      clear e1
      generalize beN (piece.take 8) % 18446744073709551616 = y at *
      go_wp2
      go_ret2
      exact ⟨by rw [e2.out]; rfl, m, hw0.out⟩
theorem getNo_u64 (w : World) (g h page : Nat) (l : List UInt8) (a : At w g h page l) (at_ : Int) (ha : inI64 at_) (hno : ¬ There page l.length at_ 8) :
    Calls Try.prog 52 #[.pointer (some ⟨g, 0, none⟩), .int .i64 at_] w fun e w' => e = .returned (.tuple #[.int .u64 0, .int .i64 20]) ∧ ∃ m, w.drewN m = w' := by
  have C := Lib.hid (thereNo w g h page l a at_ 8 ha (by unfold inI64; omega) hno)
  have E := Lib.hid width_u64
  go_enter Try.func52, Try.ntmps52
  go_wp2_with fail
  refine (E.out _).mono ?_
  rintro e w' ⟨rfl, rfl⟩
  go_wp2_with fail
  refine C.out.mono ?_
  rintro e w' ⟨rfl, m, rfl⟩
  go_wp2
  go_ret2
  exact ⟨rfl, _, rfl⟩
theorem getNil_u64 (w : World) (at_ : Int) :
    Calls Try.prog 52 #[.pointer none, .int .i64 at_] w fun e w' => e = .returned (.tuple #[.int .u64 0, .int .i64 1]) ∧ w = w' := by
  go_enter Try.func52, Try.ntmps52
  go_wp2
  go_ret2
  exact ⟨rfl, rfl⟩
theorem getYes_u64 (w : World) (g h page : Nat) (l : List UInt8) (a : At w g h page l) (at_ : Int) (hy : There page l.length at_ 8) :
    Calls Try.prog 52 #[.pointer (some ⟨g, 0, none⟩), .int .i64 at_] w fun e w' => e = .returned (.tuple #[.int .u64 ((beN ((l.drop at_.toNat).take 8) : Nat) : Int), .int .i64 0]) ∧ ∃ m, w.drewN m = w' := by
  have C := Lib.hid (thereYes w g h page l a at_ 8 hy)
  have E := Lib.hid width_u64
  obtain ⟨q1, q2, q3, q4⟩ := hy
  have hs := a.small
  have hlen : ((l.drop at_.toNat).take 8).length = 8 := by simp; omega
  have hb := a.bytes
  obtain ⟨p, rfl⟩ := Int.eq_ofNat_of_zero_le q1
  simp only [Int.toNat_natCast] at C hlen ⊢
  have hfin := beN_lt ((l.drop p).take 8)
  rw [hlen] at hfin
  have hat : ∀ k, k < 8 → ∃ z : UInt8, ((l.drop p).take 8)[k]? = some z ∧ l[p + k]? = some z := fun k hk => by
    have hkl : k < ((l.drop p).take 8).length := by omega
    have e := List.getElem?_eq_getElem hkl
    refine ⟨_, e, ?_⟩
    rw [← e, List.getElem?_take, if_pos hk, List.getElem?_drop]
  generalize (l.drop p).take 8 = piece at *
  replace hlen := Lib.hid hlen
  replace hat := Lib.hid hat
  go_enter Try.func52, Try.ntmps52
  go_wp2_with fail
  refine (E.out _).mono ?_
  rintro e w' ⟨rfl, rfl⟩
  go_wp2_with fail
  refine C.out.mono ?_
  rintro e w0 ⟨A, rfl, hA, m, hw0⟩
  obtain rfl := hA (by omega)
  have hb0 : BB w0 5 h l := by rw [← hw0]; exact hb
  replace hw0 := Lib.hid hw0
  go_wp2
  go_loop [8, 24] (fun n i => ∃ k : Nat, k ≤ 8 ∧ i = .int .i64 k ∧ n = .int .u64 ((beN (piece.take k) % 18446744073709551616 : Nat) : Int)) (fun _ i => 8 - (intOf i).toNat)
  case atStart => exact ⟨0, by omega, rfl, rfl⟩
  case round =>
    obtain ⟨k, hk, rfl, rfl⟩ := hrel
    by_cases hlt : k < 8
    · obtain ⟨z0, hpz, hlz⟩ := hat.out k hlt
      have hc := hb0.cell' (p + k) z0 hlz
      have hs2 := Lib.hid (beN_take' piece k z0 hpz)
      have hx := byte_lt z0
      have hm := Nat.mod_lt (beN (piece.take k)) (show 0 < 18446744073709551616 by decide)
      have he := get_u64 _ _ hm hx
      have he2 := get_u64e _ _ hm hx
      have hmm := Lib.hid (Nat.mod_mod (beN (piece.take k)) 18446744073709551616)
      have hst := Lib.hid (step_mod (beN (piece.take k)) z0.toNat 18446744073709551616)
      clear hpz hlz
      generalize beN (piece.take k) % 18446744073709551616 = x at *
      generalize z0.toNat = z at *
      go_wp2
      go_round
      case rel => exact ⟨k + 1, by omega, by go_num, by rw [hs2.out, ← hst.out]; go_num⟩
      case measure => simp [intOf]; omega
    · obtain rfl : k = 8 := by omega
      have e1 : piece.take 8 = piece := List.take_of_length_le (by rw [hlen.out]; omega)
      have e2 := Lib.hid (show beN (piece.take 8) % 18446744073709551616 = beN piece by rw [e1]; exact Nat.mod_eq_of_lt hfin)
      clear e1
      generalize beN (piece.take 8) % 18446744073709551616 = y at *
      go_wp2
      go_ret2
      exact ⟨by rw [e2.out]; rfl, m, hw0.out⟩
end Go.Proofs.Ytnjobnccknpaeaa.Arena
