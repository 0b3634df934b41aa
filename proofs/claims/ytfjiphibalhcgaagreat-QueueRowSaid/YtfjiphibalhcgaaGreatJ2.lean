/-
  Contracts and lemmas, joined: ItemAr, ItemGet, ItemPut, ItemPlain, ItemLay, ClassPlain, ClassConf, ClassConf2, ClassSizes, ClassRefSizes, ClassRefused.
-/
import Derived.Deep.DeepCutAuto
import Derived.Deep.RegionLaw
import Derived.Deep.QuietTactic
import Derived.Lib.SlBytesConst
import Derived.Test.YtfjiphibalhcgaaGreatProg
import Derived.Lib.MinMax
import Derived.WalkMore
import Derived.Test.YtfjiphibalhcgaaGreatJ1
set_option linter.unusedSimpArgs false
set_option linter.unusedVariables false
/-
  More of the arena's walks: widths, numbers told and laid (printed by wip/gen_item_ar.py).
-/
namespace Go.Proofs.YtfjiphibalhcgaaGreat.Arena
open Go.RowKit Base
set_option linter.unusedVariables false

theorem width_u8 (w : World) : Calls Tryz.prog 143 #[] w fun e w' => e = .returned (.int .i64 1) ∧ w = w' := by
  go_enter Tryz.func143, Tryz.ntmps143
  go_wp2
  go_rounds 2
  go_ret
  exact ⟨rfl, rfl⟩
theorem width_u64 (w : World) : Calls Tryz.prog 142 #[] w fun e w' => e = .returned (.int .i64 8) ∧ w = w' := by
  go_enter Tryz.func142, Tryz.ntmps142
  go_wp2
  go_rounds 9
  go_ret
  exact ⟨rfl, rfl⟩
theorem putNo_u8 (w : World) (g h page : Nat) (l : List UInt8) (a : At w g h page l) (at_ : Int) (n : Nat) (ha : inI64 at_) (hno : ¬ There page l.length at_ 1) :
    Calls Tryz.prog 133 #[.pointer (some ⟨g, 0, none⟩), .int .i64 at_, .int .u8 (n : Int)] w fun e w' => e = .returned (.int .i64 20) ∧ ∃ m, w.drewN m = w' := by
  have C := Lib.hid (thereNo w g h page l a at_ 1 ha (by unfold inI64; omega) hno)
  have E := Lib.hid width_u8
  go_enter Tryz.func133, Tryz.ntmps133
  go_wp2_with fail
  refine (E.out _).mono ?_
  rintro e w' ⟨rfl, rfl⟩
  go_wp2_with fail
  refine C.out.mono ?_
  rintro e w' ⟨rfl, m, rfl⟩
  go_wp2
  go_ret
  exact ⟨rfl, _, rfl⟩
theorem putNil_u8 (w : World) (at_ : Int) (n : Nat) :
    Calls Tryz.prog 133 #[.pointer none, .int .i64 at_, .int .u8 (n : Int)] w fun e w' => e = .returned (.int .i64 1) ∧ w = w' := by
  go_enter Tryz.func133, Tryz.ntmps133
  go_wp2
  go_ret
  exact ⟨rfl, rfl⟩
set_option maxHeartbeats 400000 in
theorem putYes_u8 (w : World) (g h page : Nat) (l : List UInt8) (a : At w g h page l) (at_ : Int) (n : Nat) (hn : n < 256) (hy : There page l.length at_ 1) :
    Calls Tryz.prog 133 #[.pointer (some ⟨g, 0, none⟩), .int .i64 at_, .int .u8 (n : Int)] w fun e w' => e = .returned (.int .i64 0) ∧ At w' g h page (lay l at_.toNat (putB 1 n)) ∧ Only (· = h) w w' ∧ w'.heap.size = w.heap.size := by
  have C := Lib.hid (thereYes w g h page l a at_ 1 hy)
  have E := Lib.hid width_u8
  obtain ⟨q1, q2, q3, q4⟩ := hy
  have hs := a.small
  have hb := a.bytes
  obtain ⟨p, rfl⟩ := Int.eq_ofNat_of_zero_le q1
  simp only [Int.toNat_natCast] at C ⊢
  generalize hB : putB 1 n = fin at *
  have hfl : fin.length = 1 := by rw [← hB, putB_len]
  replace hfl := Lib.hid hfl
  go_enter Tryz.func133, Tryz.ntmps133
  go_wp2_with fail
  refine (E.out _).mono ?_
  rintro e w' ⟨rfl, rfl⟩
  go_wp2_with fail
  refine C.out.mono ?_
  rintro e w0 ⟨A, rfl, hA, m, hw0⟩
  obtain rfl := hA (by omega)
  have hb0 : BB w0 5 h l := by rw [← hw0]; exact hb
  have ho0 : Only (· = h) w w0 := by rw [← hw0]; exact (Only.refl _ _).drewN m
  have hs0 : Hid (w0.heap.size = w.heap.size) := by rw [← hw0]; rfl
  clear hw0 C E hA
  replace hB := Lib.hid hB
  go_wp2
  go_loopw [2, 9] (fun v i wr => ∃ (r x : Nat) (done : List UInt8), r + done.length = 1 ∧ x < 256 ∧ i = .int .i64 ((r : Int) - 1) ∧ v = .int .u8 (x : Int) ∧ Hid (putB r x ++ done = fin) ∧ BB wr 5 h (lay l (p + r) done) ∧ Only (· = h) w wr ∧ Hid (wr.heap.size = w.heap.size)) (fun _ i _ => (intOf i + 1).toNat)
  case atStart => exact ⟨1, n, [], rfl, hn, by go_num, rfl, by rw [List.append_nil]; exact hB, by rw [lay_nil]; exact hb0, ho0, hs0⟩
  case round =>
    obtain ⟨r, x, done, hr, hx, rfl, rfl, hfx, hbr, hor, hsr⟩ := hrel
    rcases Nat.eq_zero_or_pos r with hz | hz
    · subst hz
      have hd0 : lay l (p + 0) done = lay l p fin := by rw [← hfx.out]; rfl
      rw [hd0] at hbr
      clear hd0
      go_wp2
      go_ret
      exact ⟨rfl, a.turn hor hbr (lay_len _ _ _ (by rw [hfl.out]; omega)), hor, hsr.out⟩
    · obtain ⟨r, rfl⟩ : ∃ r', r = r' + 1 := ⟨r - 1, by omega⟩
      have hll : (lay l (p + (r + 1)) done).length = l.length := lay_len _ _ _ (by omega)
      have c1 := hbr.cell (p + r) (by omega)
      have c2 := hbr.frozen (p + r)
      have hset := hbr.set (p + r) (UInt8.ofNat x)
      rw [lay_cons l p r done _ (by omega)] at hset
      have hbyte := byte_of x
      have hdiv := div_u8 x hx
      have hlt2 := div_lt x 256 hx
      have hor1 : Only (· = h) w (wr.setCell ⟨h, p + r, none⟩ (.int .u8 ((UInt8.ofNat x).toNat : Int))) := hor.setCell (fun _ => rfl) _
      have hfx' : Hid (putB r (x / 256) ++ (UInt8.ofNat x :: done) = fin) := Lib.hid (by rw [← hfx.out, putB_succ]; simp)
      generalize ((lay l (p + (r + 1)) done)[p + r]).toNat = z at c1
      replace hll := Lib.hid hll
      have hi1 : ((((r + 1 : Nat) : Int)) - 1) = (r : Int) := by omega
      rw [hi1]
      clear hi1
      rw [show (UInt8.ofNat x).toNat = x by rw [ofNat_toNat]; omega] at hset hor1
      clear hbyte
      generalize hxd : x / 256 = xd at *
      replace hxd := Lib.hid hxd
      go_wp2
      go_roundw
      case rel => exact ⟨r, xd, _, by simp only [List.length_cons]; omega, hlt2, by go_num, by go_num, hfx', hset, hor1, Lib.hid ((World.size_setCell _ _ _).trans hsr.out)⟩
      case measure => simp [intOf] <;> omega
theorem putNo_u64 (w : World) (g h page : Nat) (l : List UInt8) (a : At w g h page l) (at_ : Int) (n : Nat) (ha : inI64 at_) (hno : ¬ There page l.length at_ 8) :
    Calls Tryz.prog 132 #[.pointer (some ⟨g, 0, none⟩), .int .i64 at_, .int .u64 (n : Int)] w fun e w' => e = .returned (.int .i64 20) ∧ ∃ m, w.drewN m = w' := by
  have C := Lib.hid (thereNo w g h page l a at_ 8 ha (by unfold inI64; omega) hno)
  have E := Lib.hid width_u64
  go_enter Tryz.func132, Tryz.ntmps132
  go_wp2_with fail
  refine (E.out _).mono ?_
  rintro e w' ⟨rfl, rfl⟩
  go_wp2_with fail
  refine C.out.mono ?_
  rintro e w' ⟨rfl, m, rfl⟩
  go_wp2
  go_ret
  exact ⟨rfl, _, rfl⟩
theorem putNil_u64 (w : World) (at_ : Int) (n : Nat) :
    Calls Tryz.prog 132 #[.pointer none, .int .i64 at_, .int .u64 (n : Int)] w fun e w' => e = .returned (.int .i64 1) ∧ w = w' := by
  go_enter Tryz.func132, Tryz.ntmps132
  go_wp2
  go_ret
  exact ⟨rfl, rfl⟩
set_option maxHeartbeats 400000 in
theorem putYes_u64 (w : World) (g h page : Nat) (l : List UInt8) (a : At w g h page l) (at_ : Int) (n : Nat) (hn : n < 18446744073709551616) (hy : There page l.length at_ 8) :
    Calls Tryz.prog 132 #[.pointer (some ⟨g, 0, none⟩), .int .i64 at_, .int .u64 (n : Int)] w fun e w' => e = .returned (.int .i64 0) ∧ At w' g h page (lay l at_.toNat (putB 8 n)) ∧ Only (· = h) w w' ∧ w'.heap.size = w.heap.size := by
  have C := Lib.hid (thereYes w g h page l a at_ 8 hy)
  have E := Lib.hid width_u64
  obtain ⟨q1, q2, q3, q4⟩ := hy
  have hs := a.small
  have hb := a.bytes
  obtain ⟨p, rfl⟩ := Int.eq_ofNat_of_zero_le q1
  simp only [Int.toNat_natCast] at C ⊢
  generalize hB : putB 8 n = fin at *
  have hfl : fin.length = 8 := by rw [← hB, putB_len]
  replace hfl := Lib.hid hfl
  go_enter Tryz.func132, Tryz.ntmps132
  go_wp2_with fail
  refine (E.out _).mono ?_
  rintro e w' ⟨rfl, rfl⟩
  go_wp2_with fail
  refine C.out.mono ?_
  rintro e w0 ⟨A, rfl, hA, m, hw0⟩
  obtain rfl := hA (by omega)
  have hb0 : BB w0 5 h l := by rw [← hw0]; exact hb
  have ho0 : Only (· = h) w w0 := by rw [← hw0]; exact (Only.refl _ _).drewN m
  have hs0 : Hid (w0.heap.size = w.heap.size) := by rw [← hw0]; rfl
  clear hw0 C E hA
  replace hB := Lib.hid hB
  go_wp2
  go_loopw [2, 9] (fun v i wr => ∃ (r x : Nat) (done : List UInt8), r + done.length = 8 ∧ x < 18446744073709551616 ∧ i = .int .i64 ((r : Int) - 1) ∧ v = .int .u64 (x : Int) ∧ Hid (putB r x ++ done = fin) ∧ BB wr 5 h (lay l (p + r) done) ∧ Only (· = h) w wr ∧ Hid (wr.heap.size = w.heap.size)) (fun _ i _ => (intOf i + 1).toNat)
  case atStart => exact ⟨8, n, [], rfl, hn, by go_num, rfl, by rw [List.append_nil]; exact hB, by rw [lay_nil]; exact hb0, ho0, hs0⟩
  case round =>
    obtain ⟨r, x, done, hr, hx, rfl, rfl, hfx, hbr, hor, hsr⟩ := hrel
    rcases Nat.eq_zero_or_pos r with hz | hz
    · subst hz
      have hd0 : lay l (p + 0) done = lay l p fin := by rw [← hfx.out]; rfl
      rw [hd0] at hbr
      clear hd0
      go_wp2
      go_ret
      exact ⟨rfl, a.turn hor hbr (lay_len _ _ _ (by rw [hfl.out]; omega)), hor, hsr.out⟩
    · obtain ⟨r, rfl⟩ : ∃ r', r = r' + 1 := ⟨r - 1, by omega⟩
      have hll : (lay l (p + (r + 1)) done).length = l.length := lay_len _ _ _ (by omega)
      have c1 := hbr.cell (p + r) (by omega)
      have c2 := hbr.frozen (p + r)
      have hset := hbr.set (p + r) (UInt8.ofNat x)
      rw [lay_cons l p r done _ (by omega)] at hset
      have hbyte := byte_of x
      have hdiv := div_u64 x hx
      have hlt2 := div_lt x 18446744073709551616 hx
      have hor1 : Only (· = h) w (wr.setCell ⟨h, p + r, none⟩ (.int .u8 ((UInt8.ofNat x).toNat : Int))) := hor.setCell (fun _ => rfl) _
      have hfx' : Hid (putB r (x / 256) ++ (UInt8.ofNat x :: done) = fin) := Lib.hid (by rw [← hfx.out, putB_succ]; simp)
      generalize ((lay l (p + (r + 1)) done)[p + r]).toNat = z at c1
      replace hll := Lib.hid hll
      have hi1 : ((((r + 1 : Nat) : Int)) - 1) = (r : Int) := by omega
      rw [hi1]
      clear hi1
      generalize (UInt8.ofNat x).toNat = bb at *
      generalize hxd : x / 256 = xd at *
      replace hxd := Lib.hid hxd
      go_wp2
      go_roundw
      case rel => exact ⟨r, xd, _, by simp only [List.length_cons]; omega, hlt2, by go_num, by go_num, hfx', hset, hor1, Lib.hid ((World.size_setCell _ _ _).trans hsr.out)⟩
      case measure => simp [intOf] <;> omega
theorem getNo_u8 (w : World) (g h page : Nat) (l : List UInt8) (a : At w g h page l) (at_ : Int) (ha : inI64 at_) (hno : ¬ There page l.length at_ 1) :
    Calls Tryz.prog 144 #[.pointer (some ⟨g, 0, none⟩), .int .i64 at_] w fun e w' => e = .returned (.tuple #[.int .u8 0, .int .i64 20]) ∧ ∃ m, w.drewN m = w' := by
  have C := Lib.hid (thereNo w g h page l a at_ 1 ha (by unfold inI64; omega) hno)
  have E := Lib.hid width_u8
  go_enter Tryz.func144, Tryz.ntmps144
  go_wp2_with fail
  refine (E.out _).mono ?_
  rintro e w' ⟨rfl, rfl⟩
  go_wp2_with fail
  refine C.out.mono ?_
  rintro e w' ⟨rfl, m, rfl⟩
  go_wp2
  go_ret2
  exact ⟨rfl, _, rfl⟩
theorem getNil_u8 (w : World) (at_ : Int) :
    Calls Tryz.prog 144 #[.pointer none, .int .i64 at_] w fun e w' => e = .returned (.tuple #[.int .u8 0, .int .i64 1]) ∧ w = w' := by
  go_enter Tryz.func144, Tryz.ntmps144
  go_wp2
  go_ret2
  exact ⟨rfl, rfl⟩
theorem getYes_u8 (w : World) (g h page : Nat) (l : List UInt8) (a : At w g h page l) (at_ : Int) (hy : There page l.length at_ 1) :
    Calls Tryz.prog 144 #[.pointer (some ⟨g, 0, none⟩), .int .i64 at_] w fun e w' => e = .returned (.tuple #[.int .u8 ((beN ((l.drop at_.toNat).take 1) : Nat) : Int), .int .i64 0]) ∧ ∃ m, w.drewN m = w' := by
  have C := Lib.hid (thereYes w g h page l a at_ 1 hy)
  have E := Lib.hid width_u8
  obtain ⟨q1, q2, q3, q4⟩ := hy
  have hs := a.small
  have hlen : ((l.drop at_.toNat).take 1).length = 1 := by simp; omega
  have hb := a.bytes
  obtain ⟨p, rfl⟩ := Int.eq_ofNat_of_zero_le q1
  simp only [Int.toNat_natCast] at C hlen ⊢
  have hfin := beN_lt ((l.drop p).take 1)
  rw [hlen] at hfin
  have hat : ∀ k, k < 1 → ∃ z : UInt8, ((l.drop p).take 1)[k]? = some z ∧ l[p + k]? = some z := fun k hk => by
    have hkl : k < ((l.drop p).take 1).length := by omega
    have e := List.getElem?_eq_getElem hkl
    refine ⟨_, e, ?_⟩
    rw [← e, List.getElem?_take, if_pos hk, List.getElem?_drop]
  generalize (l.drop p).take 1 = piece at *
  replace hlen := Lib.hid hlen
  replace hat := Lib.hid hat
  go_enter Tryz.func144, Tryz.ntmps144
  go_wp2_with fail
  refine (E.out _).mono ?_
  rintro e w' ⟨rfl, rfl⟩
  go_wp2_with fail
  refine C.out.mono ?_
  rintro e w0 ⟨A, rfl, hA, m, hw0⟩
  obtain rfl := hA (by omega)
  have hb0 : BB w0 5 h l := by rw [← hw0]; exact hb
  replace hw0 := Lib.hid hw0
  go_wp2
  go_loop [8, 24] (fun n i => ∃ k : Nat, k ≤ 1 ∧ i = .int .i64 k ∧ n = .int .u8 ((beN (piece.take k) % 256 : Nat) : Int)) (fun _ i => 1 - (intOf i).toNat)
  case atStart => exact ⟨0, by omega, rfl, rfl⟩
  case round =>
    obtain ⟨k, hk, rfl, rfl⟩ := hrel
    by_cases hlt : k < 1
    · obtain ⟨z0, hpz, hlz⟩ := hat.out k hlt
      have hc := hb0.cell' (p + k) z0 hlz
      have hs2 := Lib.hid (beN_take' piece k z0 hpz)
      have hx := byte_lt z0
      have hm := Nat.mod_lt (beN (piece.take k)) (show 0 < 256 by decide)
      have he := get_u8 _ _ hm hx
      have he2 := get_u8e _ _ hm hx
      have hmm := Lib.hid (Nat.mod_mod (beN (piece.take k)) 256)
      have hst := Lib.hid (step_mod (beN (piece.take k)) z0.toNat 256)
      clear hpz hlz
      generalize beN (piece.take k) % 256 = x at *
      generalize z0.toNat = z at *
      go_wp2
      go_round
      case rel => exact ⟨k + 1, by omega, by go_num, by rw [hs2.out, ← hst.out]; go_num⟩
      case measure => simp [intOf]; omega
    · obtain rfl : k = 1 := by omega
      have e1 : piece.take 1 = piece := List.take_of_length_le (by rw [hlen.out]; omega)
      have e2 := Lib.hid (show beN (piece.take 1) % 256 = beN piece by rw [e1]; exact Nat.mod_eq_of_lt hfin)
      clear e1
      generalize beN (piece.take 1) % 256 = y at *
      go_wp2
      go_ret2
      exact ⟨by rw [e2.out]; rfl, m, hw0.out⟩
theorem getNo_u32 (w : World) (g h page : Nat) (l : List UInt8) (a : At w g h page l) (at_ : Int) (ha : inI64 at_) (hno : ¬ There page l.length at_ 4) :
    Calls Tryz.prog 136 #[.pointer (some ⟨g, 0, none⟩), .int .i64 at_] w fun e w' => e = .returned (.tuple #[.int .u32 0, .int .i64 20]) ∧ ∃ m, w.drewN m = w' := by
  have C := Lib.hid (thereNo w g h page l a at_ 4 ha (by unfold inI64; omega) hno)
  have E := Lib.hid width_u32
  go_enter Tryz.func136, Tryz.ntmps136
  go_wp2_with fail
  refine (E.out _).mono ?_
  rintro e w' ⟨rfl, rfl⟩
  go_wp2_with fail
  refine C.out.mono ?_
  rintro e w' ⟨rfl, m, rfl⟩
  go_wp2
  go_ret2
  exact ⟨rfl, _, rfl⟩
theorem getNil_u32 (w : World) (at_ : Int) :
    Calls Tryz.prog 136 #[.pointer none, .int .i64 at_] w fun e w' => e = .returned (.tuple #[.int .u32 0, .int .i64 1]) ∧ w = w' := by
  go_enter Tryz.func136, Tryz.ntmps136
  go_wp2
  go_ret2
  exact ⟨rfl, rfl⟩
theorem getYes_u32 (w : World) (g h page : Nat) (l : List UInt8) (a : At w g h page l) (at_ : Int) (hy : There page l.length at_ 4) :
    Calls Tryz.prog 136 #[.pointer (some ⟨g, 0, none⟩), .int .i64 at_] w fun e w' => e = .returned (.tuple #[.int .u32 ((beN ((l.drop at_.toNat).take 4) : Nat) : Int), .int .i64 0]) ∧ ∃ m, w.drewN m = w' := by
  have C := Lib.hid (thereYes w g h page l a at_ 4 hy)
  have E := Lib.hid width_u32
  obtain ⟨q1, q2, q3, q4⟩ := hy
  have hs := a.small
  have hlen : ((l.drop at_.toNat).take 4).length = 4 := by simp; omega
  have hb := a.bytes
  obtain ⟨p, rfl⟩ := Int.eq_ofNat_of_zero_le q1
  simp only [Int.toNat_natCast] at C hlen ⊢
  have hfin := beN_lt ((l.drop p).take 4)
  rw [hlen] at hfin
  have hat : ∀ k, k < 4 → ∃ z : UInt8, ((l.drop p).take 4)[k]? = some z ∧ l[p + k]? = some z := fun k hk => by
    have hkl : k < ((l.drop p).take 4).length := by omega
    have e := List.getElem?_eq_getElem hkl
    refine ⟨_, e, ?_⟩
    rw [← e, List.getElem?_take, if_pos hk, List.getElem?_drop]
  generalize (l.drop p).take 4 = piece at *
  replace hlen := Lib.hid hlen
  replace hat := Lib.hid hat
  go_enter Tryz.func136, Tryz.ntmps136
  go_wp2_with fail
  refine (E.out _).mono ?_
  rintro e w' ⟨rfl, rfl⟩
  go_wp2_with fail
  refine C.out.mono ?_
  rintro e w0 ⟨A, rfl, hA, m, hw0⟩
  obtain rfl := hA (by omega)
  have hb0 : BB w0 5 h l := by rw [← hw0]; exact hb
  replace hw0 := Lib.hid hw0
  go_wp2
  go_loop [8, 24] (fun n i => ∃ k : Nat, k ≤ 4 ∧ i = .int .i64 k ∧ n = .int .u32 ((beN (piece.take k) % 4294967296 : Nat) : Int)) (fun _ i => 4 - (intOf i).toNat)
  case atStart => exact ⟨0, by omega, rfl, rfl⟩
  case round =>
    obtain ⟨k, hk, rfl, rfl⟩ := hrel
    by_cases hlt : k < 4
    · obtain ⟨z0, hpz, hlz⟩ := hat.out k hlt
      have hc := hb0.cell' (p + k) z0 hlz
      have hs2 := Lib.hid (beN_take' piece k z0 hpz)
      have hx := byte_lt z0
      have hm := Nat.mod_lt (beN (piece.take k)) (show 0 < 4294967296 by decide)
      have he := get_u32 _ _ hm hx
      have he2 := get_u32e _ _ hm hx
      have hmm := Lib.hid (Nat.mod_mod (beN (piece.take k)) 4294967296)
      have hst := Lib.hid (step_mod (beN (piece.take k)) z0.toNat 4294967296)
      clear hpz hlz
      generalize beN (piece.take k) % 4294967296 = x at *
      generalize z0.toNat = z at *
      go_wp2
      go_round
      case rel => exact ⟨k + 1, by omega, by go_num, by rw [hs2.out, ← hst.out]; go_num⟩
      case measure => simp [intOf]; omega
    · obtain rfl : k = 4 := by omega
      have e1 : piece.take 4 = piece := List.take_of_length_le (by rw [hlen.out]; omega)
      have e2 := Lib.hid (show beN (piece.take 4) % 4294967296 = beN piece by rw [e1]; exact Nat.mod_eq_of_lt hfin)
      clear e1
      generalize beN (piece.take 4) % 4294967296 = y at *
      go_wp2
      go_ret2
      exact ⟨by rw [e2.out]; rfl, m, hw0.out⟩
end Go.Proofs.YtfjiphibalhcgaaGreat.Arena
/-
  item's get and put (printed by wip/gen_item.py).
-/
namespace Go.Proofs.YtfjiphibalhcgaaGreat.Itm
open Go.RowKit Base Arena
set_option linter.unusedVariables false

/-- The number that stands at a place. -/
def rd (l : List UInt8) (p n : Nat) : Nat := beN ((l.drop p).take n)
/-- A chunk's four numbers. -/
def kv (g p k n : Nat) : Array Value := #[.pointer (some ⟨g, 0, none⟩), .int .i64 (p : Int), .int .i64 (k : Int), .int .i64 (n : Int)]
theorem kv_eq (g p k n : Nat) : kv g p k n = #[.pointer (some ⟨g, 0, none⟩), .int .i64 (p : Int), .int .i64 (k : Int), .int .i64 (n : Int)] := rfl
theorem below_drew {w w1 : World} {N : Nat} (h : Below N w w1) (m : Nat) : Below N w (w1.drewN m) := ⟨h.os, h.tape, h.output, h.size, h.block⟩

theorem get8C (w : World) (g h page : Nat) (l : List UInt8) (a : At w g h page l) (p o k n : Nat) (hy : There page l.length ((p + o : Nat) : Int) 1) :
    Calls Tryz.prog 135 #[.agg (kv g p k n), .int .i64 (o : Int)] w fun e w' => e = .returned (.int .u8 ((rd l (p + o) 1 : Nat) : Int)) ∧ Below w.heap.size w w' := by
  obtain ⟨w1, hw1⟩ : ∃ w1, w1 = w.alloc (.cells (kv g p k n) 171) := ⟨_, rfl⟩
  have B1 : Blk w1 w.heap.size 171 (kv g p k n) := by rw [hw1]; exact Blk.new w _ _
  have b1 : Below w.heap.size w w1 := by rw [hw1]; exact (Below.refl _ _).alloc (Nat.le_refl _) _
  have a1 : At w1 g h page l := by rw [hw1]; exact a.keep (Below.heap_alloc w _ _ (heap_lt a.head)) (Below.heap_alloc w _ _ a.bytes.lt)
  have x0 : w1.cell? ⟨w.heap.size, 0, none⟩ = some (.pointer (some ⟨g, 0, none⟩)) := B1.cell 0
  have x1 : w1.cell? ⟨w.heap.size, 1, none⟩ = some (.int .i64 (p : Int)) := B1.cell 1
  have G := getYes_u8 w1 g h page l a1 _ hy
  have q1 : IntKind.i64.wrap ((p : Int) + (o : Int)) = ((p + o : Nat) : Int) := by
    obtain ⟨q1, q2, q3, q4⟩ := hy
    have hs := a.small
    rw [IntWalk.i64_in _ (by omega)]; omega
  rw [Int.toNat_natCast] at G
  rw [kv_eq] at hw1 ⊢
  replace hw1 := Lib.hid hw1
  replace b1 := Lib.hid b1
  replace G := Lib.hid G
  clear a1 B1 a hy
  generalize hN : w.heap.size = N at *
  replace hN := Lib.hid hN
  generalize hP : p + o = P at *
  clear hP
  go_enter Tryz.func135, Tryz.ntmps135
  go_upto_region 1 with fail
  rw [hN.out, ← hw1.out]
  go_wp2_with fail
  refine G.out.mono ?_
  rintro e w' ⟨rfl, m, rfl⟩
  go_wp2
  go_ret
  exact ⟨rfl, below_drew b1.out _⟩

theorem get32C (w : World) (g h page : Nat) (l : List UInt8) (a : At w g h page l) (p o k n : Nat) (hy : There page l.length ((p + o : Nat) : Int) 4) :
    Calls Tryz.prog 115 #[.agg (kv g p k n), .int .i64 (o : Int)] w fun e w' => e = .returned (.int .u32 ((rd l (p + o) 4 : Nat) : Int)) ∧ Below w.heap.size w w' := by
  obtain ⟨w1, hw1⟩ : ∃ w1, w1 = w.alloc (.cells (kv g p k n) 171) := ⟨_, rfl⟩
  have B1 : Blk w1 w.heap.size 171 (kv g p k n) := by rw [hw1]; exact Blk.new w _ _
  have b1 : Below w.heap.size w w1 := by rw [hw1]; exact (Below.refl _ _).alloc (Nat.le_refl _) _
  have a1 : At w1 g h page l := by rw [hw1]; exact a.keep (Below.heap_alloc w _ _ (heap_lt a.head)) (Below.heap_alloc w _ _ a.bytes.lt)
  have x0 : w1.cell? ⟨w.heap.size, 0, none⟩ = some (.pointer (some ⟨g, 0, none⟩)) := B1.cell 0
  have x1 : w1.cell? ⟨w.heap.size, 1, none⟩ = some (.int .i64 (p : Int)) := B1.cell 1
  have G := getYes_u32 w1 g h page l a1 _ hy
  have q1 : IntKind.i64.wrap ((p : Int) + (o : Int)) = ((p + o : Nat) : Int) := by
    obtain ⟨q1, q2, q3, q4⟩ := hy
    have hs := a.small
    rw [IntWalk.i64_in _ (by omega)]; omega
  rw [Int.toNat_natCast] at G
  rw [kv_eq] at hw1 ⊢
  replace hw1 := Lib.hid hw1
  replace b1 := Lib.hid b1
  replace G := Lib.hid G
  clear a1 B1 a hy
  generalize hN : w.heap.size = N at *
  replace hN := Lib.hid hN
  generalize hP : p + o = P at *
  clear hP
  go_enter Tryz.func115, Tryz.ntmps115
  go_upto_region 1 with fail
  rw [hN.out, ← hw1.out]
  go_wp2_with fail
  refine G.out.mono ?_
  rintro e w' ⟨rfl, m, rfl⟩
  go_wp2
  go_ret
  exact ⟨rfl, below_drew b1.out _⟩

end Go.Proofs.YtfjiphibalhcgaaGreat.Itm
/-
  item's puts, key, value (printed by wip/gen_item.py).
-/
namespace Go.Proofs.YtfjiphibalhcgaaGreat.Itm
open Go.RowKit Base Arena
set_option linter.unusedVariables false

theorem rd_lt (l : List UInt8) (p n : Nat) : rd l p n < 256 ^ n := by
  unfold rd
  refine Nat.lt_of_lt_of_le (beN_lt _) (Nat.pow_le_pow_right (by omega) ?_)
  simp
  omega
/-- A chunk of n bytes from p on lies within a page. -/
structure Ck (page len p n : Nat) : Prop where
  all : p + n ≤ len
  one : p % page + n ≤ page
theorem Ck.there {page len p n : Nat} (h : Ck page len p n) (o m : Nat) (ho : o + m ≤ n) : There page len ((p + o : Nat) : Int) (m : Int) := by
  have h1 := h.all
  have h2 := h.one
  refine ⟨by omega, by omega, by omega, ?_⟩
  by_cases hm : m = 0
  · left; omega
  · right
    have e : ((p + o : Nat) : Int) % (page : Int) = (((p + o) % page : Nat) : Int) := rfl
    have e2 : (p + o) % page = p % page + o := by
      have := Nat.div_add_mod p page
      rw [show p + o = page * (p / page) + (p % page + o) by omega, Nat.mul_add_mod, Nat.mod_eq_of_lt (by omega)]
    rw [e, e2]
    omega

theorem put8C (w : World) (g h page : Nat) (l : List UInt8) (a : At w g h page l) (p o k n v : Nat) (hv : v < 256) (hy : There page l.length ((p + o : Nat) : Int) 1) :
    Calls Tryz.prog 109 #[.agg (kv g p k n), .int .i64 (o : Int), .int .u8 (v : Int)] w fun e w' => e = .returned (.tuple #[]) ∧ At w' g h page (lay l (p + o) (putB 1 v)) ∧ Only (· = h) w w' := by
  obtain ⟨w1, hw1⟩ : ∃ w1, w1 = w.alloc (.cells (kv g p k n) 171) := ⟨_, rfl⟩
  have B1 : Blk w1 w.heap.size 171 (kv g p k n) := by rw [hw1]; exact Blk.new w _ _
  have o1 : Only (· = h) w w1 := by rw [hw1]; exact (Only.refl _ _).alloc _
  have a1 : At w1 g h page l := by rw [hw1]; exact a.keep (Below.heap_alloc w _ _ (heap_lt a.head)) (Below.heap_alloc w _ _ a.bytes.lt)
  have x0 : w1.cell? ⟨w.heap.size, 0, none⟩ = some (.pointer (some ⟨g, 0, none⟩)) := B1.cell 0
  have x1 : w1.cell? ⟨w.heap.size, 1, none⟩ = some (.int .i64 (p : Int)) := B1.cell 1
  have G := putYes_u8 w1 g h page l a1 _ v hv hy
  have q1 : IntKind.i64.wrap ((p : Int) + (o : Int)) = ((p + o : Nat) : Int) := by
    obtain ⟨q1, q2, q3, q4⟩ := hy
    have hs := a.small
    rw [IntWalk.i64_in _ (by omega)]; omega
  rw [Int.toNat_natCast] at G
  rw [kv_eq] at hw1 ⊢
  replace hw1 := Lib.hid hw1
  replace o1 := Lib.hid o1
  replace G := Lib.hid G
  clear a1 B1 a hy
  generalize hN : w.heap.size = N at *
  replace hN := Lib.hid hN
  generalize hP : p + o = P at *
  clear hP
  go_enter Tryz.func109, Tryz.ntmps109
  go_upto_region 1 with fail
  rw [hN.out, ← hw1.out]
  go_wp2_with fail
  refine G.out.mono ?_
  rintro e w' ⟨rfl, A2, o2, -⟩
  go_wp2
  go_end0
  exact ⟨rfl, A2, o1.out.trans o2 fun x _ h => h⟩

theorem put32C (w : World) (g h page : Nat) (l : List UInt8) (a : At w g h page l) (p o k n v : Nat) (hv : v < 4294967296) (hy : There page l.length ((p + o : Nat) : Int) 4) :
    Calls Tryz.prog 107 #[.agg (kv g p k n), .int .i64 (o : Int), .int .u32 (v : Int)] w fun e w' => e = .returned (.tuple #[]) ∧ At w' g h page (lay l (p + o) (putB 4 v)) ∧ Only (· = h) w w' := by
  obtain ⟨w1, hw1⟩ : ∃ w1, w1 = w.alloc (.cells (kv g p k n) 171) := ⟨_, rfl⟩
  have B1 : Blk w1 w.heap.size 171 (kv g p k n) := by rw [hw1]; exact Blk.new w _ _
  have o1 : Only (· = h) w w1 := by rw [hw1]; exact (Only.refl _ _).alloc _
  have a1 : At w1 g h page l := by rw [hw1]; exact a.keep (Below.heap_alloc w _ _ (heap_lt a.head)) (Below.heap_alloc w _ _ a.bytes.lt)
  have x0 : w1.cell? ⟨w.heap.size, 0, none⟩ = some (.pointer (some ⟨g, 0, none⟩)) := B1.cell 0
  have x1 : w1.cell? ⟨w.heap.size, 1, none⟩ = some (.int .i64 (p : Int)) := B1.cell 1
  have G := putYes_u32 w1 g h page l a1 _ v hv hy
  have q1 : IntKind.i64.wrap ((p : Int) + (o : Int)) = ((p + o : Nat) : Int) := by
    obtain ⟨q1, q2, q3, q4⟩ := hy
    have hs := a.small
    rw [IntWalk.i64_in _ (by omega)]; omega
  rw [Int.toNat_natCast] at G
  rw [kv_eq] at hw1 ⊢
  replace hw1 := Lib.hid hw1
  replace o1 := Lib.hid o1
  replace G := Lib.hid G
  clear a1 B1 a hy
  generalize hN : w.heap.size = N at *
  replace hN := Lib.hid hN
  generalize hP : p + o = P at *
  clear hP
  go_enter Tryz.func107, Tryz.ntmps107
  go_upto_region 1 with fail
  rw [hN.out, ← hw1.out]
  go_wp2_with fail
  refine G.out.mono ?_
  rintro e w' ⟨rfl, A2, o2, -⟩
  go_wp2
  go_end0
  exact ⟨rfl, A2, o1.out.trans o2 fun x _ h => h⟩

theorem put64C (w : World) (g h page : Nat) (l : List UInt8) (a : At w g h page l) (p o k n v : Nat) (hv : v < 18446744073709551616) (hy : There page l.length ((p + o : Nat) : Int) 8) :
    Calls Tryz.prog 108 #[.agg (kv g p k n), .int .i64 (o : Int), .int .u64 (v : Int)] w fun e w' => e = .returned (.tuple #[]) ∧ At w' g h page (lay l (p + o) (putB 8 v)) ∧ Only (· = h) w w' := by
  obtain ⟨w1, hw1⟩ : ∃ w1, w1 = w.alloc (.cells (kv g p k n) 171) := ⟨_, rfl⟩
  have B1 : Blk w1 w.heap.size 171 (kv g p k n) := by rw [hw1]; exact Blk.new w _ _
  have o1 : Only (· = h) w w1 := by rw [hw1]; exact (Only.refl _ _).alloc _
  have a1 : At w1 g h page l := by rw [hw1]; exact a.keep (Below.heap_alloc w _ _ (heap_lt a.head)) (Below.heap_alloc w _ _ a.bytes.lt)
  have x0 : w1.cell? ⟨w.heap.size, 0, none⟩ = some (.pointer (some ⟨g, 0, none⟩)) := B1.cell 0
  have x1 : w1.cell? ⟨w.heap.size, 1, none⟩ = some (.int .i64 (p : Int)) := B1.cell 1
  have G := putYes_u64 w1 g h page l a1 _ v hv hy
  have q1 : IntKind.i64.wrap ((p : Int) + (o : Int)) = ((p + o : Nat) : Int) := by
    obtain ⟨q1, q2, q3, q4⟩ := hy
    have hs := a.small
    rw [IntWalk.i64_in _ (by omega)]; omega
  rw [Int.toNat_natCast] at G
  rw [kv_eq] at hw1 ⊢
  replace hw1 := Lib.hid hw1
  replace o1 := Lib.hid o1
  replace G := Lib.hid G
  clear a1 B1 a hy
  generalize hN : w.heap.size = N at *
  replace hN := Lib.hid hN
  generalize hP : p + o = P at *
  clear hP
  go_enter Tryz.func108, Tryz.ntmps108
  go_upto_region 1 with fail
  rw [hN.out, ← hw1.out]
  go_wp2_with fail
  refine G.out.mono ?_
  rintro e w' ⟨rfl, A2, o2, -⟩
  go_wp2
  go_end0
  exact ⟨rfl, A2, o1.out.trans o2 fun x _ h => h⟩

theorem keyC (w : World) (g h page : Nat) (l : List UInt8) (a : At w g h page l) (p k n : Nat) (hc : Ck page l.length p n) (hn : 56 ≤ n) :
    Calls Tryz.prog 114 #[.agg (kv g p k n)] w fun e w' => e = .returned (.int .i64 ((rd l (p + 44) 1 : Nat) : Int)) ∧ Below w.heap.size w w' := by
  obtain ⟨w1, hw1⟩ : ∃ w1, w1 = w.alloc (.cells (kv g p k n) 171) := ⟨_, rfl⟩
  have B1 : Blk w1 w.heap.size 171 (kv g p k n) := by rw [hw1]; exact Blk.new w _ _
  have b1 : Below w.heap.size w w1 := by rw [hw1]; exact (Below.refl _ _).alloc (Nat.le_refl _) _
  have a1 : At w1 g h page l := by rw [hw1]; exact a.keep (Below.heap_alloc w _ _ (heap_lt a.head)) (Below.heap_alloc w _ _ a.bytes.lt)
  have s1 : w1.heap.size = w.heap.size + 1 := by rw [hw1]; exact World.size_alloc _ _
  have x0 : w1.cell? ⟨w.heap.size, 0, none⟩ = some (.pointer (some ⟨g, 0, none⟩)) := B1.cell 0
  have x1 : w1.cell? ⟨w.heap.size, 1, none⟩ = some (.int .i64 (p : Int)) := B1.cell 1
  have x2 : w1.cell? ⟨w.heap.size, 2, none⟩ = some (.int .i64 (k : Int)) := B1.cell 2
  have x3 : w1.cell? ⟨w.heap.size, 3, none⟩ = some (.int .i64 (n : Int)) := B1.cell 3
  have G := get8C w1 g h page l a1 p 44 k n (hc.there 44 1 (by omega))
  have r1 := rd_lt l (p + 44) 1
  generalize rd l (p + 44) 1 = R at *
  have q1 : IntKind.i64.wrap (R : Int) = (R : Int) := IntWalk.i64_in _ (by omega)
  rw [kv_eq] at hw1 G ⊢
  rw [show ((44 : Nat) : Int) = 44 from rfl] at G
  replace hw1 := Lib.hid hw1
  replace s1 := Lib.hid s1
  replace b1 := Lib.hid b1
  replace G := Lib.hid G
  clear a1 B1 a hc r1
  generalize hN : w.heap.size = N at *
  replace hN := Lib.hid hN
  go_enter Tryz.func114, Tryz.ntmps114
  go_upto_region 1 with fail
  rw [hN.out, ← hw1.out]
  go_wp2_with fail
  refine G.out.mono ?_
  rintro e w' ⟨rfl, b2⟩
  have b3 := Lib.hid (b1.out.trans (b2.mono (B' := N) (by have := s1.out; omega)))
  clear b1 b2 G x0 x1 x2 x3
  go_wp2
  go_ret
  exact ⟨rfl, b3.out⟩

theorem valueC (w : World) (g h page : Nat) (l : List UInt8) (a : At w g h page l) (p k n : Nat) (hc : Ck page l.length p n) (hn : 56 ≤ n) :
    Calls Tryz.prog 134 #[.agg (kv g p k n)] w fun e w' => e = .returned (.int .i64 ((rd l (p + 48) 4 : Nat) : Int)) ∧ Below w.heap.size w w' := by
  obtain ⟨w1, hw1⟩ : ∃ w1, w1 = w.alloc (.cells (kv g p k n) 171) := ⟨_, rfl⟩
  have B1 : Blk w1 w.heap.size 171 (kv g p k n) := by rw [hw1]; exact Blk.new w _ _
  have b1 : Below w.heap.size w w1 := by rw [hw1]; exact (Below.refl _ _).alloc (Nat.le_refl _) _
  have a1 : At w1 g h page l := by rw [hw1]; exact a.keep (Below.heap_alloc w _ _ (heap_lt a.head)) (Below.heap_alloc w _ _ a.bytes.lt)
  have s1 : w1.heap.size = w.heap.size + 1 := by rw [hw1]; exact World.size_alloc _ _
  have x0 : w1.cell? ⟨w.heap.size, 0, none⟩ = some (.pointer (some ⟨g, 0, none⟩)) := B1.cell 0
  have x1 : w1.cell? ⟨w.heap.size, 1, none⟩ = some (.int .i64 (p : Int)) := B1.cell 1
  have x2 : w1.cell? ⟨w.heap.size, 2, none⟩ = some (.int .i64 (k : Int)) := B1.cell 2
  have x3 : w1.cell? ⟨w.heap.size, 3, none⟩ = some (.int .i64 (n : Int)) := B1.cell 3
  have G := get32C w1 g h page l a1 p 48 k n (hc.there 48 4 (by omega))
  have r1 := rd_lt l (p + 48) 4
  generalize rd l (p + 48) 4 = R at *
  have q1 : IntKind.i64.wrap (R : Int) = (R : Int) := IntWalk.i64_in _ (by omega)
  rw [kv_eq] at hw1 G ⊢
  rw [show ((48 : Nat) : Int) = 48 from rfl] at G
  replace hw1 := Lib.hid hw1
  replace s1 := Lib.hid s1
  replace b1 := Lib.hid b1
  replace G := Lib.hid G
  clear a1 B1 a hc r1
  generalize hN : w.heap.size = N at *
  replace hN := Lib.hid hN
  go_enter Tryz.func134, Tryz.ntmps134
  go_upto_region 1 with fail
  rw [hN.out, ← hw1.out]
  go_wp2_with fail
  refine G.out.mono ?_
  rintro e w' ⟨rfl, b2⟩
  have b3 := Lib.hid (b1.out.trans (b2.mono (B' := N) (by have := s1.out; omega)))
  clear b1 b2 G x0 x1 x2 x3
  go_wp2
  go_ret
  exact ⟨rfl, b3.out⟩
end Go.Proofs.YtfjiphibalhcgaaGreat.Itm
/-
  Numbers and bytes that were laid, told again.
-/
namespace Go.Proofs.YtfjiphibalhcgaaGreat.Itm
open Go.RowKit Base Arena
set_option linter.unusedVariables false

theorem piece_lay (l : List UInt8) (p : Nat) (q : List UInt8) (h : p + q.length ≤ l.length) : ((lay l p q).drop p).take q.length = q := by
  unfold lay
  rw [List.append_assoc, List.drop_append, List.drop_eq_nil_of_le (by simp; omega), List.nil_append]
  have e : p - (l.take p).length = 0 := by simp; omega
  rw [e, List.drop_zero]
  simp
theorem piece_out (l : List UInt8) (p : Nat) (q : List UInt8) (i n : Nat) (h : p + q.length ≤ l.length) (hi : i + n ≤ p ∨ p + q.length ≤ i) : ((lay l p q).drop i).take n = (l.drop i).take n := by
  apply List.ext_getElem?
  intro j
  rw [List.getElem?_take, List.getElem?_take]
  split
  · rw [List.getElem?_drop, List.getElem?_drop]
    unfold lay
    rcases hi with hi | hi
    · rw [List.append_assoc, List.getElem?_append_left (by simp; omega), List.getElem?_take, if_pos (by omega)]
    · rw [List.getElem?_append_right (by simp; omega), List.getElem?_drop]
      congr 1
      simp
      omega
  · rfl
theorem rd_lay (l : List UInt8) (p n v : Nat) (h : p + n ≤ l.length) (hv : v < 256 ^ n) : rd (lay l p (putB n v)) p n = v := by
  have := piece_lay l p (putB n v) (by rw [putB_len]; exact h)
  rw [putB_len] at this
  unfold rd
  rw [this, beN_putB, Nat.mod_eq_of_lt hv]
theorem rd_out (l : List UInt8) (p : Nat) (q : List UInt8) (i n : Nat) (h : p + q.length ≤ l.length) (hi : i + n ≤ p ∨ p + q.length ≤ i) : rd (lay l p q) i n = rd l i n := by
  unfold rd
  rw [piece_out l p q i n h hi]
theorem putlen (l : List UInt8) (p n v : Nat) (h : p + n ≤ l.length) : (lay l p (putB n v)).length = l.length := lay_len _ _ _ (by rw [putB_len]; exact h)
end Go.Proofs.YtfjiphibalhcgaaGreat.Itm
/-
  item's read and lay of bytes.
-/
namespace Go.Proofs.YtfjiphibalhcgaaGreat.Itm
open Go.RowKit Base Arena
set_option linter.unusedVariables false

/-- A list stands where it does not lie in what is turned. -/
theorem only_bytes {S : Nat → Prop} {w w' : World} (o : Only S w w') {B : Nat} {A : Option Addr} {l : List UInt8} (h : Bytes w B A l) (hs : l ≠ [] → ∀ b off, A = some ⟨b, off, none⟩ → ¬ S b) : Bytes w' B A l := by
  by_cases hl : l = []
  · subst hl; exact Row.nil_ _ _ _
  · exact o.row h (hs hl)
/-- The bytes behind chunk.lay. -/
def layV (l : List UInt8) (p K : Nat) (v : List UInt8) : List UInt8 := lay (lay (lay l (p + 48) (putB 4 v.length)) (p + (56 + K)) v) (p + (56 + K + v.length)) [13, 10]
set_option maxRecDepth 100000 in
set_option maxHeartbeats 1000000 in
theorem layC (w : World) (g h page : Nat) (l : List UInt8) (a : At w g h page l) (p k n : Nat) (hc : Ck page l.length p n) (A : Option Addr) (c B : Nat) (v : List UInt8) (hv : Bytes w B A v) (hA : v ≠ [] → ∀ b off, A = some ⟨b, off, none⟩ → b ≠ h)
    (K : Nat) (hK : rd l (p + 44) 1 = K) (hn : 56 + K + v.length + 2 ≤ n) :
    Calls Tryz.prog 111 #[.agg (kv g p k n), .slice A v.length c] w fun e w' => e = .returned (.tuple #[]) ∧ At w' g h page (layV l p K v) ∧ Only (· = h) w w' := by
  obtain ⟨w1, hw1⟩ : ∃ w1, w1 = w.alloc (.cells (kv g p k n) 171) := ⟨_, rfl⟩
  have B1 : Blk w1 w.heap.size 171 (kv g p k n) := by rw [hw1]; exact Blk.new w _ _
  have o1 : Only (· = h) w w1 := by rw [hw1]; exact (Only.refl _ _).alloc _
  have a1 : At w1 g h page l := by rw [hw1]; exact a.keep (Below.heap_alloc w _ _ (heap_lt a.head)) (Below.heap_alloc w _ _ a.bytes.lt)
  have s1 : w1.heap.size = w.heap.size + 1 := by rw [hw1]; exact World.size_alloc _ _
  have v1 : Bytes w1 B A v := by
    have := only_bytes o1 hv hA
    exact this
  have hs := a.small
  have hcl := hc.all
  have h56 : 56 ≤ n := by omega
  have kc := fun (w : World) (C : Array Value) (n c : Nat) => Lib.run_convert_bytes_const (P := Tryz.prog) w 68 5 C n c Tryz.underlying68 Tryz.underlying5
  have hN1 : w.heap.size ≠ h := by have := a.bytes.lt; omega
  have hNg : w.heap.size ≠ g := by have := heap_lt a.head; omega
  have xs : ∀ {u : World}, Blk u w.heap.size 171 (kv g p k n) → u.cell? ⟨w.heap.size, 0, none⟩ = some (.pointer (some ⟨g, 0, none⟩)) ∧ u.cell? ⟨w.heap.size, 1, none⟩ = some (.int .i64 (p : Int)) ∧ u.cell? ⟨w.heap.size, 2, none⟩ = some (.int .i64 (k : Int)) ∧ u.cell? ⟨w.heap.size, 3, none⟩ = some (.int .i64 (n : Int)) := fun B => ⟨B.cell 0, B.cell 1, B.cell 2, B.cell 3⟩
  obtain ⟨x0, x1, x2, x3⟩ := xs B1
  have P := put32C w1 g h page l a1 p 48 k n v.length (by omega) (hc.there 48 4 (by omega))
  rw [show ((48 : Nat) : Int) = 48 from rfl] at P
  obtain ⟨l1, hl1⟩ : ∃ l1, l1 = lay l (p + 48) (putB 4 v.length) := ⟨_, rfl⟩
  have e1 : l1.length = l.length := by rw [hl1]; exact putlen _ _ _ _ (by omega)
  have k1 : rd l1 (p + 44) 1 = K := by rw [hl1, rd_out _ _ _ _ _ (by rw [putB_len]; omega) (by omega)]; exact hK
  rw [← hl1] at P
  have q1 : IntKind.u32.wrap (v.length : Int) = (v.length : Int) := by rw [IntWalk.u32_in _ (by omega)]
  have hKb : K < 256 := by have := rd_lt l (p + 44) 1; rw [hK] at this; exact this
  have q2 : IntKind.i64.wrap (56 + (K : Int)) = ((56 + K : Nat) : Int) := by rw [IntWalk.i64_in _ (by omega)]; omega
  have q3 : IntKind.i64.wrap (((56 + K : Nat) : Int) + (v.length : Int)) = ((56 + K + v.length : Nat) : Int) := by rw [IntWalk.i64_in _ (by omega)]; omega
  have q4 : IntKind.i64.wrap ((p : Int) + ((56 + K + v.length : Nat) : Int)) = ((p + (56 + K + v.length) : Nat) : Int) := by rw [IntWalk.i64_in _ (by omega)]; omega
  have q5 : IntKind.i64.wrap (((p + (56 + K + v.length) : Nat) : Int) - (v.length : Int)) = ((p + (56 + K) : Nat) : Int) := by rw [IntWalk.i64_in _ (by omega)]; omega
  rw [kv_eq] at hw1 P ⊢
  replace hw1 := Lib.hid hw1
  replace s1 := Lib.hid s1
  replace o1 := Lib.hid o1
  replace P := Lib.hid P
  replace B1 := Lib.hid B1
  replace v1 := Lib.hid v1
  replace hl1 := Lib.hid hl1
  clear hv a1 hK
  generalize hN : w.heap.size = N at *
  replace hN := Lib.hid hN
  generalize hE : 56 + K + v.length = E at *
  generalize hE0 : 56 + K = E0 at *
  generalize hP1 : p + E = P1 at *
  generalize hP0 : p + E0 = P0 at *
  replace hE := Lib.hid hE
  replace hE0 := Lib.hid hE0
  replace hP1 := Lib.hid hP1
  replace hP0 := Lib.hid hP0
  go_enter Tryz.func111, Tryz.ntmps111
  go_upto_region 1 with fail
  rw [hN.out, ← hw1.out]
  go_wp2_with fail
  refine P.out.mono ?_
  rintro e w2 ⟨rfl, a2, o2⟩
  have B2 : Blk w2 N _ _ := o2.at_ B1.out hN1
  obtain ⟨x0, x1, x2, x3⟩ := xs B2
  have v2 : Bytes w2 B A v := only_bytes o2 v1.out hA
  have o12 := Lib.hid (o1.out.trans o2 fun x _ h => h)
  have Q := keyC w2 g h page l1 a2 p k n (by rw [e1]; exact hc) h56
  rw [k1, kv_eq] at Q
  have s2 := Lib.hid o2.size
  replace Q := Lib.hid Q
  replace a2 := Lib.hid a2
  replace v2 := Lib.hid v2
  clear P B1 v1 o1 o2
  replace B2 := Lib.hid B2
  go_wp2_with fail
  refine Q.out.mono ?_
  rintro e w3 ⟨rfl, b3⟩
  have B3 : Blk w3 N _ _ := B2.out.below b3 (by have h1 : w1.heap.size ≤ w2.heap.size := s2.out; have h2 : w1.heap.size = N + 1 := s1.out; omega)
  obtain ⟨x0, x1, x2, x3⟩ := xs B3
  have v3 : Bytes w3 B A v := (Only.of_below b3 (Nat.le_refl _) (fun _ => False)).row v2.out (fun b off e => id)
  have a3 : At w3 g h page l1 := a2.out.only (Only.of_below b3 (Nat.le_refl _) (fun _ => False)) id id
  have o13 := Lib.hid (o12.out.trans (Only.of_below b3 (Nat.le_refl _) (· = h)) fun x _ h => h)
  have s3 := Lib.hid b3.size
  have W := writeYes w3 g h page l1 a3 (P0 : Int) A c B v v3 (by rw [e1, ← hP0.out]; exact hc.there E0 _ (by have := hE.out; have := hE0.out; omega))
  rw [Int.toNat_natCast] at W
  replace W := Lib.hid W
  replace B3 := Lib.hid B3
  clear a3 v3 v2 a2 Q B2 o12 b3
  go_wp2_with fail
  refine W.out.mono ?_
  rintro e w4 ⟨rfl, a4, o4, -⟩
  have B4 : Blk w4 N _ _ := o4.at_ B3.out hN1
  obtain ⟨x0, x1, x2, x3⟩ := xs B4
  have o14 := Lib.hid (o13.out.trans o4 fun x _ h => h)
  obtain ⟨l2, hl2⟩ : ∃ l2, l2 = lay l1 P0 v := ⟨_, rfl⟩
  rw [← hl2] at a4
  have hn2 : E + 2 ≤ n := hn
  have e2 : l2.length = l.length := by rw [hl2, lay_len _ _ _ (by have := hE.out; have := hE0.out; have := hP0.out; omega), e1]
  replace a4 := Lib.hid a4
  replace hl2 := Lib.hid hl2
  clear W B3 B4 o13 o4
  go_wp2_with fail
  clear kc
  obtain ⟨w5, hw5⟩ : ∃ w5, w5 = w4.alloc (.cells #[.int .u8 13, .int .u8 10] 5 (2, 3)) := ⟨_, rfl⟩
  have a5 : At w5 g h page l2 := by rw [hw5]; exact a4.out.keep (Below.heap_alloc w4 _ _ (heap_lt a4.out.head)) (Below.heap_alloc w4 _ _ a4.out.bytes.lt)
  have o15 : Only (· = h) w w5 := by rw [hw5]; exact o14.out.alloc _
  have v5 : Bytes w5 (w4.heap.size + 1) (some ⟨w4.heap.size, 0, none⟩) [13, 10] := by
    refine fun _ => ⟨w4.heap.size, 0, rfl, by omega, fun j v hv => ?_⟩
    rw [hw5, Nat.zero_add, World.cell?_alloc_mark]
    match j with
    | 0 => exact hv
    | 1 => exact hv
    | j + 2 => simp at hv
  have Z := writeYes w5 g h page l2 a5 (P1 : Int) _ 2 _ [13, 10] v5 (by rw [e2, ← hP1.out]; exact hc.there E 2 (by omega))
  rw [Int.toNat_natCast, show ([13, 10] : List UInt8).length = 2 from rfl] at Z
  replace hw5 := Lib.hid hw5
  replace Z := Lib.hid Z
  clear a5 v5 x0 x1 x2 x3 a4 o14
  try rw [← hw5.out]
  refine Z.out.mono ?_
  rintro e w6 ⟨rfl, a6, o6, -⟩
  have o16 := Lib.hid (o15.trans o6 fun x _ h => h)
  have e3 : lay l2 P1 [13, 10] = layV l p K v := by
    rw [hl2.out, hl1.out, ← hP1.out, ← hP0.out, ← hE.out, ← hE0.out]
    rfl
  rw [e3] at a6
  replace a6 := Lib.hid a6
  clear Z o15 o6 e3 hl1 hl2 e1 e2 k1
  go_wp2
  go_end0
  exact ⟨rfl, a6.out, o16.out⟩
end Go.Proofs.YtfjiphibalhcgaaGreat.Itm
/-
  The chunks' sizes in plain numbers.
-/
namespace Go.Proofs.YtfjiphibalhcgaaGreat.Cls
/-- The item limit, rounded up. -/
def lim (item : Nat) : Nat := (item + 7) / 8 * 8
/-- The size behind a size. -/
def tgt (F s : Nat) : Nat := (s * F + 799) / 800 * 8
def nxt (L F s : Nat) : Nat := min L (tgt F s)
/-- The sizes. -/
def szs (L F m : Nat) : Nat → Nat
  | 0 => m
  | i + 1 => nxt L F (szs L F m i)
/-- So many there are, one too many at most. -/
structure Cnt (L F m k : Nat) : Prop where
  pos : 1 ≤ k
  le : k ≤ 63
  low : ∀ j, j + 1 < k → szs L F m j < L
  top : L ≤ szs L F m (k - 1) ∨ k = 63
theorem Cnt.same {L F m k k' : Nat} (h : Cnt L F m k) (h' : Cnt L F m k') : k = k' := by
  have key : ∀ {a b : Nat}, Cnt L F m a → Cnt L F m b → ¬ a < b := by
    intro a b ha hb hlt
    rcases ha.top with h1 | h1
    · have := hb.low (a - 1) (by have := ha.pos; omega)
      omega
    · have := hb.le
      omega
  have h1 := key h h'
  have h2 := key h' h
  omega
def szL (L F m k : Nat) : List Nat := (List.range k).map (szs L F m)
theorem szL_len (L F m k : Nat) : (szL L F m k).length = k := by simp [szL]
theorem szL_succ (L F m k : Nat) : szL L F m (k + 1) = szL L F m k ++ [szs L F m k] := by simp [szL, List.range_succ]
theorem szL_at (L F m k i : Nat) (h : i < k) : (szL L F m k)[i]? = some (szs L F m i) := by simp [szL, h]
structure Nice (L F m : Nat) : Prop where
  L8 : L % 8 = 0
  m8 : m % 8 = 0
  mL : m ≤ L
  m64 : 64 ≤ m
  Lb : L ≤ 1048576
  F1 : 105 ≤ F
  F2 : F ≤ 400
theorem lim8 (n : Nat) : lim n % 8 = 0 := by unfold lim; omega
theorem lim_le (n : Nat) : n ≤ lim n ∧ lim n < n + 8 := by unfold lim; omega
theorem tgt8 (F s : Nat) : tgt F s % 8 = 0 := by unfold tgt; omega
theorem tgt_ge (F s : Nat) : s * F ≤ 100 * tgt F s ∧ 100 * tgt F s < s * F + 800 := by unfold tgt; omega
variable {L F m : Nat}
theorem szs_nice (h : Nice L F m) : ∀ i, szs L F m i % 8 = 0 ∧ 64 ≤ szs L F m i ∧ szs L F m i ≤ L := by
  intro i
  induction i with
  | zero => exact ⟨h.m8, h.m64, h.mL⟩
  | succ i ih =>
    obtain ⟨h1, h2, h3⟩ := ih
    have h4 := tgt8 F (szs L F m i)
    have h5 := tgt_ge F (szs L F m i)
    have h6 : szs L F m i * 105 ≤ szs L F m i * F := Nat.mul_le_mul_left _ h.F1
    have hL := h.L8
    show nxt L F (szs L F m i) % 8 = 0 ∧ 64 ≤ nxt L F (szs L F m i) ∧ nxt L F (szs L F m i) ≤ L
    unfold nxt
    have hm := h.m64
    have hmL := h.mL
    rcases Nat.le_total L (tgt F (szs L F m i)) with h7 | h7
    · rw [Nat.min_eq_left h7]; omega
    · rw [Nat.min_eq_right h7]; omega
/-- A target is eight more at least. -/
theorem tgt_more (h : Nice L F m) (i : Nat) : szs L F m i + 8 ≤ tgt F (szs L F m i) := by
  obtain ⟨h1, h2, h3⟩ := szs_nice h i
  have h4 := tgt8 F (szs L F m i)
  have h5 := tgt_ge F (szs L F m i)
  have h6 : szs L F m i * 105 ≤ szs L F m i * F := Nat.mul_le_mul_left _ h.F1
  omega
theorem szs_more (h : Nice L F m) (i : Nat) (hi : szs L F m i < L) : szs L F m i + 8 ≤ szs L F m (i + 1) := by
  have h1 := tgt_more h i
  have h2 := (szs_nice h i).1
  have hL := h.L8
  show _ ≤ nxt L F (szs L F m i)
  unfold nxt
  omega
theorem tgt_le (h : Nice L F m) (i : Nat) : tgt F (szs L F m i) ≤ 4194320 := by
  obtain ⟨h1, h2, h3⟩ := szs_nice h i
  have h5 := tgt_ge F (szs L F m i)
  have h6 : szs L F m i * F ≤ szs L F m i * 400 := Nat.mul_le_mul_left _ h.F2
  have hL := h.Lb
  omega
/-- The count, as a number. -/
def cntFrom (L F m : Nat) : Nat → Nat → Nat
  | 0, k => k
  | fuel + 1, k => if L ≤ szs L F m (k - 1) then k else cntFrom L F m fuel (k + 1)
def cntN (L F m : Nat) : Nat := cntFrom L F m 62 1
theorem cntFrom_ok {L F m : Nat} : ∀ (fuel k : Nat), fuel + k = 63 → 1 ≤ k → (∀ j, j + 1 < k → szs L F m j < L) → Cnt L F m (cntFrom L F m fuel k) := by
  intro fuel
  induction fuel with
  | zero => intro k h h1 h2; exact ⟨h1, by show k ≤ 63; omega, h2, .inr (by show k = 63; omega)⟩
  | succ fuel ih =>
    intro k h h1 h2
    unfold cntFrom
    split
    · rename_i h3
      exact ⟨h1, by omega, h2, .inl h3⟩
    · rename_i h3
      refine ih (k + 1) (by omega) (by omega) fun j hj => ?_
      rcases Nat.lt_or_ge (j + 1) k with h4 | h4
      · exact h2 j h4
      · have : j = k - 1 := by omega
        subst this
        omega
theorem cntN_ok (L F m : Nat) : Cnt L F m (cntN L F m) := cntFrom_ok 62 1 rfl (Nat.le_refl _) (fun j h => absurd h (by omega))
theorem Cnt.eq {L F m k : Nat} (h : Cnt L F m k) : k = cntN L F m := h.same (cntN_ok L F m)

/-- A config. -/
structure Conf where
  ps : Int
  np : Int
  fa : Int
  mc : Int
  il : Int
  hot : Int
  warm : Int
def Page9 (n : Int) : Prop := n = 4096 ∨ n = 8192 ∨ n = 16384 ∨ n = 32768 ∨ n = 65536 ∨ n = 131072 ∨ n = 262144 ∨ n = 524288 ∨ n = 1048576
instance (n : Int) : Decidable (Page9 n) := by unfold Page9; infer_instance
structure Right (c : Conf) : Prop where
  ps : Page9 c.ps
  np1 : 1 ≤ c.np
  np2 : c.np ≤ 1024
  fa1 : 105 ≤ c.fa
  fa2 : c.fa ≤ 400
  mc1 : 64 ≤ c.mc
  mc2 : c.mc ≤ 512
  mc8 : c.mc % 8 = 0
  il1 : c.mc ≤ c.il
  il2 : c.il ≤ c.ps
theorem right_iff (c : Conf) : Right c ↔ Page9 c.ps ∧ 1 ≤ c.np ∧ c.np ≤ 1024 ∧ 105 ≤ c.fa ∧ c.fa ≤ 400 ∧ 64 ≤ c.mc ∧ c.mc ≤ 512 ∧ c.mc % 8 = 0 ∧ c.mc ≤ c.il ∧ c.il ≤ c.ps :=
  ⟨fun h => ⟨h.ps, h.np1, h.np2, h.fa1, h.fa2, h.mc1, h.mc2, h.mc8, h.il1, h.il2⟩, fun ⟨h1, h2, h3, h4, h5, h6, h7, h8, h9, h10⟩ => ⟨h1, h2, h3, h4, h5, h6, h7, h8, h9, h10⟩⟩
instance (c : Conf) : Decidable (Right c) := decidable_of_iff _ (right_iff c).symm
/-- So many classes. -/
def Conf.nc (c : Conf) : Nat := cntN (lim c.il.toNat) c.fa.toNat c.mc.toNat
def Conf.sz (c : Conf) : Nat → Nat := szs (lim c.il.toNat) c.fa.toNat c.mc.toNat
/-- New's error. -/
def refN (c : Conf) : Int := if Right c then (if 62 < c.nc then 2 else if c.np < c.nc then 3 else 0) else 1
theorem Right.nice {c : Conf} (h : Right c) : Nice (lim c.il.toNat) c.fa.toNat c.mc.toNat := by
  have h1 := lim_le c.il.toNat
  have h2 := lim8 c.il.toNat
  have a1 := h.fa1
  have a2 := h.fa2
  have a3 := h.mc1
  have a4 := h.mc8
  have a5 := h.il1
  have a6 := h.il2
  have a7 := h.ps
  unfold Page9 at a7
  exact ⟨h2, by omega, by omega, by omega, by unfold lim; omega, by omega, by omega⟩

/-- A power of two is what has no bit in common with the number ahead of it. -/
theorem and_ne (n k : Nat) (h1 : n / 2 ^ k % 2 = 1) (h2 : (n - 1) / 2 ^ k % 2 = 1) : n &&& (n - 1) ≠ 0 := by
  intro h
  have h3 : (n &&& (n - 1)).testBit k = true := by
    rw [Nat.testBit_and, Nat.testBit_eq_decide_div_mod_eq, Nat.testBit_eq_decide_div_mod_eq, h1, h2]
    rfl
  rw [h, Nat.zero_testBit] at h3
  cases h3
theorem and_pred (n : Nat) (h1 : 4096 ≤ n) (h2 : n ≤ 1048576) : n &&& (n - 1) = 0 ↔ Page9 (n : Int) := by
  constructor
  · intro h
    unfold Page9
    have a12 : ¬ (4096 < n ∧ n < 8192) := fun ⟨h3, h4⟩ => and_ne n 12 (by omega) (by omega) h
    have a13 : ¬ (8192 < n ∧ n < 16384) := fun ⟨h3, h4⟩ => and_ne n 13 (by omega) (by omega) h
    have a14 : ¬ (16384 < n ∧ n < 32768) := fun ⟨h3, h4⟩ => and_ne n 14 (by omega) (by omega) h
    have a15 : ¬ (32768 < n ∧ n < 65536) := fun ⟨h3, h4⟩ => and_ne n 15 (by omega) (by omega) h
    have a16 : ¬ (65536 < n ∧ n < 131072) := fun ⟨h3, h4⟩ => and_ne n 16 (by omega) (by omega) h
    have a17 : ¬ (131072 < n ∧ n < 262144) := fun ⟨h3, h4⟩ => and_ne n 17 (by omega) (by omega) h
    have a18 : ¬ (262144 < n ∧ n < 524288) := fun ⟨h3, h4⟩ => and_ne n 18 (by omega) (by omega) h
    have a19 : ¬ (524288 < n ∧ n < 1048576) := fun ⟨h3, h4⟩ => and_ne n 19 (by omega) (by omega) h
    clear h
    omega
  · intro h
    have : n = 4096 ∨ n = 8192 ∨ n = 16384 ∨ n = 32768 ∨ n = 65536 ∨ n = 131072 ∨ n = 262144 ∨ n = 524288 ∨ n = 1048576 := by unfold Page9 at h; omega
    rcases this with rfl | rfl | rfl | rfl | rfl | rfl | rfl | rfl | rfl <;> decide
/-- The document's next size: the least of s + 8, s + 16, .. that is no less than s times the factor. -/
theorem step_lt (i n : Nat) (h8 : n % 8 = 0) (hn : n ≤ tgt F (szs L F m i)) : 100 * n < szs L F m i * F ↔ n < tgt F (szs L F m i) := by
  have h4 := tgt8 F (szs L F m i)
  have h5 := tgt_ge F (szs L F m i)
  constructor
  · intro h6; omega
  · intro h6; omega
end Go.Proofs.YtfjiphibalhcgaaGreat.Cls
/-
  The walks of what a config is asked: class.right, the document's right; the config as the document has it.
-/
namespace Go.Proofs.YtfjiphibalhcgaaGreat.Cls
open Go.RowKit Base
set_option linter.unusedVariables false

def Conf.cells (c : Conf) : Array Value := #[.int .i64 c.ps, .int .i64 c.np, .int .i64 c.fa, .int .i64 c.mc, .int .i64 c.il, .int .i64 c.hot, .int .i64 c.warm]
def Conf.rcells (c : Conf) : Array Value := #[.int .i64 c.ps, .int .i64 c.np, .int .i64 c.fa, .int .i64 c.mc, .int .i64 c.il]
def In (n : Int) : Prop := -9223372036854775808 ≤ n ∧ n < 9223372036854775808
structure Conf.In (c : Conf) : Prop where
  ps : Cls.In c.ps
  np : Cls.In c.np
  fa : Cls.In c.fa
  mc : Cls.In c.mc
  il : Cls.In c.il
  hot : Cls.In c.hot
  warm : Cls.In c.warm
theorem boxedConf (w : World) (c : Conf) : ∃ w1, w1 = w.alloc (.cells c.cells 79) ∧ Below w.heap.size w w1 ∧ w1.heap.size = w.heap.size + 1 ∧ w1.cell? ⟨w.heap.size, 0, none⟩ = some (.int .i64 c.ps) ∧ w1.cell? ⟨w.heap.size, 1, none⟩ = some (.int .i64 c.np) ∧
    w1.cell? ⟨w.heap.size, 2, none⟩ = some (.int .i64 c.fa) ∧ w1.cell? ⟨w.heap.size, 3, none⟩ = some (.int .i64 c.mc) ∧ w1.cell? ⟨w.heap.size, 4, none⟩ = some (.int .i64 c.il) ∧ w1.cell? ⟨w.heap.size, 5, none⟩ = some (.int .i64 c.hot) ∧ w1.cell? ⟨w.heap.size, 6, none⟩ = some (.int .i64 c.warm) := by
  have hc : ∀ i, (w.alloc (.cells c.cells 79)).cell? ⟨w.heap.size, i, none⟩ = c.cells[i]? := fun i => cell_of_row _ _ i _ 79 (0, 0) (heap_alloc_new w _)
  exact ⟨_, rfl, (Below.refl _ _).alloc (Nat.le_refl _) _, World.size_alloc _ _, hc 0, hc 1, hc 2, hc 3, hc 4, hc 5, hc 6⟩
theorem boxedRef (w : World) (c : Conf) : ∃ w1, w1 = w.alloc (.cells c.rcells 81) ∧ Below w.heap.size w w1 ∧ w1.heap.size = w.heap.size + 1 ∧ w1.cell? ⟨w.heap.size, 0, none⟩ = some (.int .i64 c.ps) ∧ w1.cell? ⟨w.heap.size, 1, none⟩ = some (.int .i64 c.np) ∧
    w1.cell? ⟨w.heap.size, 2, none⟩ = some (.int .i64 c.fa) ∧ w1.cell? ⟨w.heap.size, 3, none⟩ = some (.int .i64 c.mc) ∧ w1.cell? ⟨w.heap.size, 4, none⟩ = some (.int .i64 c.il) := by
  have hc : ∀ i, (w.alloc (.cells c.rcells 81)).cell? ⟨w.heap.size, i, none⟩ = c.rcells[i]? := fun i => cell_of_row _ _ i _ 81 (0, 0) (heap_alloc_new w _)
  exact ⟨_, rfl, (Below.refl _ _).alloc (Nat.le_refl _) _, World.size_alloc _ _, hc 0, hc 1, hc 2, hc 3, hc 4⟩
theorem bits_and_pred (n : Nat) (h1 : 4096 ≤ n) (h2 : n ≤ 1048576) : bits .and .i64 (n : Int) ((n : Int) - 1) = ((n &&& (n - 1) : Nat) : Int) := by
  have e1 : (BitVec.ofInt 64 (n : Int)).toNat = n := by rw [BitVec.toNat_ofInt]; omega
  have e2 : (BitVec.ofInt 64 ((n : Int) - 1)).toNat = n - 1 := by rw [BitVec.toNat_ofInt]; omega
  have h3 : n &&& (n - 1) ≤ n := Nat.and_le_left
  show IntKind.i64.wrap ((BitVec.ofInt 64 (n : Int) &&& BitVec.ofInt 64 ((n : Int) - 1)).toNat : Int) = _
  rw [BitVec.toNat_and, e1, e2]
  exact IntWalk.i64_in _ (by omega)

set_option maxRecDepth 100000 in
set_option maxHeartbeats 1600000 in
theorem rightC (c : Conf) (w : World) : Calls Tryz.prog 87 #[.agg c.cells] w fun e w' => e = .returned (.bool (decide (Right c))) ∧ Below w.heap.size w w' := by
  obtain ⟨ps, np, fa, mc, il, hot, warm⟩ := c
  obtain ⟨w1, hw1, b, -, x0, x1, x2, x3, x4, -, -⟩ := boxedConf w ⟨ps, np, fa, mc, il, hot, warm⟩
  unfold Conf.cells at hw1 ⊢
  simp only at hw1 x0 x1 x2 x3 x4 ⊢
  replace hw1 := Lib.hid hw1
  have no : ¬ Right ⟨ps, np, fa, mc, il, hot, warm⟩ → Hid (decide (Right ⟨ps, np, fa, mc, il, hot, warm⟩) = false) := fun h => Lib.hid (decide_eq_false h)
  go_enter Tryz.func87, Tryz.ntmps87
  go_upto_region 1 with fail
  rw [← hw1.out]
  by_cases a1 : ps < 4096
  · have hr := no (fun h => by have h1 := h.ps; unfold Page9 at h1; simp only at h1; omega)
    have b1 : decide (ps < 4096) = true := by simp; omega
    go_wp2
    go_ret
    exact ⟨by rw [hr.out]; rfl, b⟩
  have b1 : decide (ps < 4096) = false := by simp; omega
  by_cases a2 : 1048576 < ps
  · have hr := no (fun h => by have h1 := h.ps; unfold Page9 at h1; simp only at h1; omega)
    have b2 : decide (1048576 < ps) = true := by simp; omega
    go_wp2
    go_ret
    exact ⟨by rw [hr.out]; rfl, b⟩
  have b2 : decide (1048576 < ps) = false := by simp; omega
  obtain ⟨n, rfl⟩ : ∃ n : Nat, ps = (n : Int) := ⟨ps.toNat, by omega⟩
  have wp : IntKind.i64.wrap ((n : Int) - 1) = (n : Int) - 1 := IntWalk.i64_in _ (by omega)
  have ba := bits_and_pred n (by omega) (by omega)
  have bp := and_pred n (by omega) (by omega)
  by_cases a3 : ¬ Page9 (n : Int)
  · have hr := no (fun h => a3 h.ps)
    have z0 : ¬ ((n &&& (n - 1) : Nat) : Int) = 0 := fun h => a3 (bp.1 (by omega))
    clear bp a3
    generalize ((n &&& (n - 1) : Nat) : Int) = z at *
    have b3 : decide (z = 0) = false := decide_eq_false z0
    have b3' : (z == 0) = false := beq_eq_false_iff_ne.2 z0
    have b3'' : (z != 0) = true := by simp [z0]
    go_wp2
    go_ret
    exact ⟨by rw [hr.out]; rfl, b⟩
  have ba0 : bits .and .i64 (n : Int) ((n : Int) - 1) = 0 := by rw [ba, bp.2 (by simpa using a3)]; rfl
  clear ba bp
  by_cases a4 : np < 1
  · have hr := no (fun h => by have h1 := h.np1; simp only at h1; omega)
    have b4 : decide (np < 1) = true := by simp; omega
    go_wp2
    go_ret
    exact ⟨by rw [hr.out]; rfl, b⟩
  have b4 : decide (np < 1) = false := by simp; omega
  by_cases a5 : 1024 < np
  · have hr := no (fun h => by have h1 := h.np2; simp only at h1; omega)
    have b5 : decide (1024 < np) = true := by simp; omega
    go_wp2
    go_ret
    exact ⟨by rw [hr.out]; rfl, b⟩
  have b5 : decide (1024 < np) = false := by simp; omega
  by_cases a6 : fa < 105
  · have hr := no (fun h => by have h1 := h.fa1; simp only at h1; omega)
    have b6 : decide (fa < 105) = true := by simp; omega
    go_wp2
    go_ret
    exact ⟨by rw [hr.out]; rfl, b⟩
  have b6 : decide (fa < 105) = false := by simp; omega
  by_cases a7 : 400 < fa
  · have hr := no (fun h => by have h1 := h.fa2; simp only at h1; omega)
    have b7 : decide (400 < fa) = true := by simp; omega
    go_wp2
    go_ret
    exact ⟨by rw [hr.out]; rfl, b⟩
  have b7 : decide (400 < fa) = false := by simp; omega
  by_cases a8 : mc < 64
  · have hr := no (fun h => by have h1 := h.mc1; simp only at h1; omega)
    have b8 : decide (mc < 64) = true := by simp; omega
    go_wp2
    go_ret
    exact ⟨by rw [hr.out]; rfl, b⟩
  have b8 : decide (mc < 64) = false := by simp; omega
  by_cases a9 : 512 < mc
  · have hr := no (fun h => by have h1 := h.mc2; simp only at h1; omega)
    have b9 : decide (512 < mc) = true := by simp; omega
    go_wp2
    go_ret
    exact ⟨by rw [hr.out]; rfl, b⟩
  have b9 : decide (512 < mc) = false := by simp; omega
  have t8 : mc.tmod 8 = mc % 8 := Int.tmod_eq_emod_of_nonneg (by omega)
  by_cases a10 : ¬ mc % 8 = 0
  · have hr := no (fun h => a10 h.mc8)
    generalize mc % 8 = z at *
    have b10 : decide (z = 0) = false := decide_eq_false a10
    have b10' : (z == 0) = false := beq_eq_false_iff_ne.2 a10
    have b10'' : (z != 0) = true := by simp [a10]
    go_wp2
    go_ret
    exact ⟨by rw [hr.out]; rfl, b⟩
  have a10' : mc % 8 = 0 := by simpa using a10
  have t80 : mc.tmod 8 = 0 := by rw [t8, a10']
  clear t8
  by_cases a11 : ¬ mc ≤ il
  · have hr := no (fun h => by have h1 := h.il1; simp only at h1; omega)
    have b11 : decide (mc ≤ il) = false := by simp; omega
    go_wp2
    go_ret
    exact ⟨by rw [hr.out]; rfl, b⟩
  have b11 : decide (mc ≤ il) = true := by simp; omega
  by_cases a12 : ¬ il ≤ (n : Int)
  · have hr := no (fun h => by have h1 := h.il2; simp only at h1; omega)
    have b12 : decide (il ≤ (n : Int)) = false := by simp; omega
    go_wp2
    go_ret
    exact ⟨by rw [hr.out]; rfl, b⟩
  have b12 : decide (il ≤ (n : Int)) = true := by simp; omega
  have hr : Hid (decide (Right ⟨(n : Int), np, fa, mc, il, hot, warm⟩) = true) := Lib.hid (decide_eq_true ⟨by simpa using a3, by simp only; omega, by simp only; omega, by simp only; omega, by simp only; omega, by simp only; omega, by simp only; omega, a10', by simp only; omega, by simp only; omega⟩)
  go_wp2
  go_ret
  exact ⟨by rw [hr.out]; rfl, b⟩
end Go.Proofs.YtfjiphibalhcgaaGreat.Cls
/-
  The walks of the document's right, and of the config as the document has it.
-/
namespace Go.Proofs.YtfjiphibalhcgaaGreat.Cls
open Go.RowKit Base
set_option linter.unusedVariables false

/-- The pages asked, in turn. -/
def kq (j : Nat) : Nat := 4096 * 2 ^ j
theorem kq_low {j : Nat} (h : j < 9) : kq j ≤ 1048576 := by
  have : 2 ^ j ≤ 2 ^ 8 := Nat.pow_le_pow_right (by omega) (by omega)
  unfold kq
  omega
theorem kq_pos (j : Nat) : 1 ≤ kq j := by
  have : 1 ≤ 2 ^ j := Nat.one_le_two_pow
  unfold kq
  omega
theorem kq_step (j : Nat) : kq (j + 1) = 2 * kq j := by unfold kq; rw [Nat.pow_succ]; omega
theorem page9_kq {j : Nat} (h : j < 9) : Page9 (kq j : Int) := by
  unfold Page9
  match j, h with
  | 0, _ => exact .inl rfl
  | 1, _ => exact .inr (.inl rfl)
  | 2, _ => exact .inr (.inr (.inl rfl))
  | 3, _ => exact .inr (.inr (.inr (.inl rfl)))
  | 4, _ => exact .inr (.inr (.inr (.inr (.inl rfl))))
  | 5, _ => exact .inr (.inr (.inr (.inr (.inr (.inl rfl)))))
  | 6, _ => exact .inr (.inr (.inr (.inr (.inr (.inr (.inl rfl))))))
  | 7, _ => exact .inr (.inr (.inr (.inr (.inr (.inr (.inr (.inl rfl)))))))
  | 8, _ => exact .inr (.inr (.inr (.inr (.inr (.inr (.inr (.inr rfl)))))))
theorem page9_not {p : Int} (h : ∀ i, i < 9 → p ≠ (kq i : Int)) : ¬ Page9 p := by
  have h0 := h 0 (by omega)
  have h1 := h 1 (by omega)
  have h2 := h 2 (by omega)
  have h3 := h 3 (by omega)
  have h4 := h 4 (by omega)
  have h5 := h 5 (by omega)
  have h6 := h 6 (by omega)
  have h7 := h 7 (by omega)
  have h8 := h 8 (by omega)
  unfold kq at h0 h1 h2 h3 h4 h5 h6 h7 h8
  unfold Page9
  omega
theorem kq_end : kq 9 = 2097152 := by decide

set_option maxRecDepth 100000 in
theorem refRightC (p n : Int) (w : World) : Calls Tryz.prog 125 #[.int .i64 p, .int .i64 n] w fun e w' => e = .returned (.bool (decide (Page9 p ∧ 1 ≤ n ∧ n ≤ 1024))) ∧ w = w' := by
  obtain ⟨B, hB⟩ : ∃ B, B = decide (Page9 p ∧ 1 ≤ n ∧ n ≤ 1024) := ⟨_, rfl⟩
  rw [← hB]
  replace hB := Lib.hid hB
  go_enter Tryz.func125, Tryz.ntmps125
  go_wp2_with fail
  go_loop [5] (fun s => ∃ j : Nat, j ≤ 9 ∧ s = .int .i64 (kq j : Int) ∧ ∀ i, i < j → p ≠ (kq i : Int)) (fun s => 2097152 - (intOf s).toNat)
  case atStart => exact ⟨0, by omega, rfl, fun i hi => by omega⟩
  case round =>
    obtain ⟨j, hj, rfl, hne⟩ := hrel
    by_cases h9 : j < 9
    · have k1 := kq_low h9
      have k2 := kq_pos j
      have k3 := kq_step j
      have k4 := page9_kq h9
      have k5 : p ≠ (kq j : Int) → ∀ i, i < j + 1 → p ≠ (kq i : Int) := fun h i hi => by
        rcases Nat.lt_or_ge i j with h1 | h1
        · exact hne i h1
        · obtain rfl : i = j := by omega
          exact h
      replace k5 := Lib.hid k5
      replace k3 := Lib.hid k3
      replace hne := Lib.hid hne
      generalize hkj : kq j = q at *
      replace hkj := Lib.hid hkj
      have d0 : decide ((q : Int) ≤ 1048576) = true := by simp; omega
      by_cases e1 : p = (q : Int)
      · subst e1
        by_cases e2 : 1 ≤ n
        · have b2 : decide (1 ≤ n) = true := decide_eq_true e2
          by_cases e3 : n ≤ 1024
          · have b3 : decide (n ≤ 1024) = true := decide_eq_true e3
            have hr : Hid (B = true) := Lib.hid (hB.out.trans <| decide_eq_true ⟨k4, e2, e3⟩)
            clear k4
            go_wp2
            go_ret
            exact ⟨by rw [hr.out]; rfl, rfl⟩
          · have b3 : decide (n ≤ 1024) = false := decide_eq_false e3
            have hr : Hid (B = false) := Lib.hid (hB.out.trans <| decide_eq_false fun h => e3 h.2.2)
            clear k4
            go_wp2
            go_ret
            exact ⟨by rw [hr.out]; rfl, rfl⟩
        · have b2 : decide (1 ≤ n) = false := decide_eq_false e2
          have hr : Hid (B = false) := Lib.hid (hB.out.trans <| decide_eq_false fun h => e2 h.2.1)
          clear k4
          go_wp2
          go_ret
          exact ⟨by rw [hr.out]; rfl, rfl⟩
      · have b1 : ((q : Int) == p) = false := by simp; omega
        have b1' : decide ((q : Int) = p) = false := by simp; omega
        have b1'' : ¬ (q : Int) = p := fun h => e1 h.symm
        replace k5 := Lib.hid (k5.out e1)
        clear k4
        go_wp2
        go_round
        case rel => exact ⟨j + 1, by omega, by rw [k3.out]; go_num, k5.out⟩
        case measure => simp [intOf]; omega
    · obtain rfl : j = 9 := by omega
      have hr : Hid (B = false) := Lib.hid (hB.out.trans <| decide_eq_false fun h => page9_not hne h.1)
      clear hne
      rw [kq_end]
      go_wp2
      go_ret
      exact ⟨by rw [hr.out]; rfl, rfl⟩

end Go.Proofs.YtfjiphibalhcgaaGreat.Cls
/-
  The walks of class.sizes and of the document's Sizes.
-/
namespace Go.Proofs.YtfjiphibalhcgaaGreat.Cls
open Go.RowKit Base
set_option linter.unusedVariables false

theorem eiI : EI Tryz.prog 55 3 (.int .i64 0) 1 8 := EI.mk' Tryz.underlying55 (by kernel_rfl) rfl (by decide)
def iv (n : Nat) : Value := .int .i64 (n : Int)
theorem iv_one (l : List Nat) : ∀ u ∈ l.map iv, u.oneCell' = true := by
  intro u hu
  obtain ⟨n, -, rfl⟩ := List.mem_map.1 hu
  rfl
def vlen : Value → Nat
  | .slice _ n _ => n
  | _ => 0
/-- A row of numbers: the i-th of them. -/
theorem own_iv {w : World} {N n i x : Nat} {v : Value} {l : List Nat} (h : w.ownsRow N 3 1 v n (l.map iv)) (hx : l[i]? = some x) : ∃ g c, v = .slice (some ⟨g, 0, none⟩) n c ∧ w.cell? ⟨g, i, none⟩ = some (.int .i64 (x : Int)) ∧ N ≤ g ∧ g < w.heap.size := by
  have hl := h.1
  have hi : i < l.length := (List.getElem?_eq_some_iff.1 hx).1
  rw [List.length_map] at hl
  rcases h.2 with ⟨rfl, h0⟩ | ⟨g, cap, cur, rfl, hB, hg, h1, h2, h3, h4⟩
  · omega
  · refine ⟨g, cap, rfl, ?_, hB, heap_lt hg⟩
    rw [cell_of_row w g i cur _ (0, 0) hg]
    have h5 : (l.map iv)[i]? = some (iv x) := by rw [List.getElem?_map, hx]; rfl
    rw [← h4, List.getElem?_take] at h5
    split at h5
    · simpa [iv] using h5
    · cases h5
theorem own_weak {w : World} {N M n : Nat} {e : TypeId} {v : Value} {xs : List Value} (h : w.ownsRow N e 1 v n xs) (hM : M ≤ N) : w.ownsRow M e 1 v n xs := by
  refine ⟨h.1, ?_⟩
  rcases h.2 with h1 | ⟨g, cap, cur, rfl, h1, h2⟩
  · exact .inl h1
  · exact .inr ⟨g, cap, cur, rfl, Nat.le_trans hM h1, h2⟩
theorem own_is {w : World} {N n : Nat} {e : TypeId} {v : Value} {xs : List Value} (h : w.ownsRow N e 1 v n xs) : ∃ A c, v = .slice A n c := by
  rcases h.2 with ⟨rfl, rfl⟩ | ⟨g, cap, cur, rfl, _⟩
  · exact ⟨none, 0, rfl⟩
  · exact ⟨_, _, rfl⟩
theorem own_one (w : World) (N x : Nat) (hN : N ≤ w.heap.size) : (w.alloc (.cells #[.int .i64 (x : Int)] 3)).ownsRow N 3 1 (.slice (some ⟨w.heap.size, 0, none⟩) 1 1) 1 ([x].map iv) :=
  ⟨by simp, .inr ⟨w.heap.size, 1, #[.int .i64 (x : Int)], rfl, hN, heap_alloc_new _ _, Nat.le_refl _, by unfold maxLen; omega, by simp, by simp [iv]⟩⟩
theorem reads_one (w : World) (x : Nat) : Reads (w.alloc (.cells #[.int .i64 (x : Int)] 3)) (w.heap.size + 1) 1 (some ⟨w.heap.size, 0, none⟩) 1 ([x].map iv) :=
  ⟨rfl, fun _ => ⟨_, rfl, Nat.lt_succ_self _, fun j u hj => by
    rw [add_explicit, Nat.zero_add, cell_of_row (w.alloc _) w.heap.size j _ 3 (0, 0) (heap_alloc_new w _)]
    simpa [iv] using hj⟩⟩

set_option maxRecDepth 100000 in
set_option maxHeartbeats 1600000 in
theorem sizesC (c : Conf) (h : Right c) (w : World) : Calls Tryz.prog 88 #[.agg c.cells] w fun e w' => ∃ v, e = .returned v ∧ w'.ownsRow w.heap.size 3 1 v c.nc (((List.range c.nc).map c.sz).map iv) ∧ Below w.heap.size w w' := by
  obtain ⟨ps, np, fa, mc, il, hot, warm⟩ := c
  obtain ⟨w1, hw1, b1, hs1, -, -, x2, x3, x4, -, -⟩ := boxedConf w ⟨ps, np, fa, mc, il, hot, warm⟩
  have f1 := h.fa1
  have f2 := h.fa2
  have f3 := h.mc1
  have f4 := h.il1
  have f5 := h.il2
  have f6 := h.ps
  have hn := h.nice
  unfold Conf.cells at hw1 ⊢
  unfold Conf.nc Conf.sz
  simp only at hw1 x2 x3 x4 f1 f2 f3 f4 f5 f6 hn ⊢
  unfold Page9 at f6
  obtain ⟨F, rfl⟩ : ∃ F : Nat, fa = (F : Int) := ⟨fa.toNat, by omega⟩
  obtain ⟨M, rfl⟩ : ∃ M : Nat, mc = (M : Int) := ⟨mc.toNat, by omega⟩
  obtain ⟨I, rfl⟩ : ∃ I : Nat, il = (I : Int) := ⟨il.toNat, by omega⟩
  simp only [Int.toNat_natCast] at hn ⊢
  have hI : I ≤ 1048576 := by omega
  obtain ⟨L, hL⟩ : ∃ L, L = lim I := ⟨_, rfl⟩
  rw [← hL] at hn ⊢
  obtain ⟨q, hq⟩ : ∃ q, q = (I + 7) / 8 := ⟨_, rfl⟩
  have e1 : IntKind.i64.wrap ((I : Int) + 7) = (I : Int) + 7 := IntWalk.i64_in _ (by omega)
  have e2 : ((I : Int) + 7).tdiv 8 = (q : Int) := by rw [Int.tdiv_eq_ediv_of_nonneg (by omega)]; omega
  have e3 : IntKind.i64.wrap (q : Int) = (q : Int) := IntWalk.i64_in _ (by omega)
  have e4 : (q : Int) * 8 = (L : Int) := by rw [hL]; unfold lim; omega
  have hLb := hn.Lb
  have e5 : IntKind.i64.wrap (L : Int) = (L : Int) := IntWalk.i64_in _ (by omega)
  have fin : ∀ k, Cnt L F M k → k = cntN L F M := fun k hk => hk.eq
  have NN := szs_nice hn
  have TL := tgt_le hn
  clear f1 f2 f3 f4 f5 f6 h hI
  replace hn := Lib.hid hn
  replace hL := Lib.hid hL
  replace hq := Lib.hid hq
  replace fin := Lib.hid fin
  replace hw1 := Lib.hid hw1
  generalize hN : w.heap.size = N at *
  replace hN := Lib.hid hN
  go_enter Tryz.func88, Tryz.ntmps88
  go_upto_region 1 with fail
  rw [hN.out, ← hw1.out]
  go_step3
  have hbs : N ≤ w1.heap.size := by have := b1.size; have := hN.out; omega
  have O0 := own_one w1 N M hbs
  have O1 := own_one w1 (N + 1) M (by omega)
  rw [hs1] at O1
  replace O1 := Lib.hid O1
  have B0 : Below N w (w1.alloc (.cells #[.int .i64 (M : Int)] 3)) := b1.alloc hbs _
  have y2 : ∀ o, (w1.alloc o).cell? ⟨N, 2, none⟩ = some (.int .i64 (F : Int)) := fun o => (World.cell?_alloc_lt w1 o ⟨N, 2, none⟩ (by show N < _; omega)).trans x2
  have S0 : N < w1.heap.size := by omega
  go_wp2_with fail
  go_step3
  go_wp2_with fail
  go_loopw [4] (fun v wr => ∃ k, 1 ≤ k ∧ k ≤ 63 ∧ (∀ j, j + 1 < k → szs L F M j < L) ∧ wr.ownsRow (N + 1) 3 1 v k ((szL L F M k).map iv) ∧ Below (N + 1) w1 wr ∧ N + 1 ≤ wr.heap.size) (fun v _ => 63 - vlen v)
  case atStart => exact ⟨1, by omega, by omega, fun j hj => by omega, O1.out, (Below.refl _ _).alloc (by omega) _, by rw [World.size_alloc]; omega⟩
  case round =>
    obtain ⟨k, hk1, hk2, hlow, own, hb, hsz⟩ := hrel
    clear O0 B0 y2 O1
    obtain ⟨j, rfl⟩ : ∃ j, k = j + 1 := ⟨k - 1, by omega⟩
    obtain ⟨g, cap, rfl, cg, hgN, hgl⟩ := own_iv own (szL_at L F M (j + 1) j (Nat.lt_succ_self j))
    have hF : wr.cell? ⟨N, 2, none⟩ = some (.int .i64 (F : Int)) := (hb.cell (p := ⟨N, 2, none⟩) (Nat.lt_succ_self N)).trans x2
    obtain ⟨n8, n64, nL⟩ := NN j
    have nT := TL j
    have hsucc := szL_succ L F M (j + 1)
    have hnx : szs L F M (j + 1) = nxt L F (szs L F M j) := rfl
    generalize hsj : szs L F M j = s at *
    have eA : IntKind.i64.wrap ((j : Int) + 1 - 1) = (j : Int) := by rw [Int.add_sub_cancel]; exact IntWalk.i64_in _ (by omega)
    by_cases h1 : L ≤ s
    · have d1 : decide ((L : Int) ≤ (s : Int)) = true := by simp; omega
      have hk := fin.out (j + 1) ⟨by omega, by omega, hlow, .inl (by rw [Nat.add_sub_cancel, hsj]; exact h1)⟩
      replace own := Lib.hid (show wr.ownsRow (N + 1) 3 1 (.slice (some ⟨g, 0, none⟩) (j + 1) cap) (cntN L F M) ((szL L F M (cntN L F M)).map iv) by rw [← hk]; exact own)
      replace hk := Lib.hid hk
      replace hb := Lib.hid hb
      clear hsucc hnx hlow
      go_wp2
      rw [Exit.noGoto_ret]
      go_ret
      exact ⟨_, rfl, own_weak own.out (Nat.le_succ N), b1.trans (hb.out.mono (Nat.le_succ N))⟩
    · have d1 : decide ((L : Int) ≤ (s : Int)) = false := by simp; omega
      by_cases h2 : 62 < j + 1
      · have d2 : decide (62 < (j : Int) + 1) = true := by simp; omega
        have hk := fin.out (j + 1) ⟨by omega, by omega, hlow, .inr (by omega)⟩
        replace own := Lib.hid (show wr.ownsRow (N + 1) 3 1 (.slice (some ⟨g, 0, none⟩) (j + 1) cap) (cntN L F M) ((szL L F M (cntN L F M)).map iv) by rw [← hk]; exact own)
        replace hk := Lib.hid hk
        replace hb := Lib.hid hb
        clear hsucc hnx hlow
        go_wp2
        rw [Exit.noGoto_ret]
        go_ret
        exact ⟨_, rfl, own_weak own.out (Nat.le_succ N), b1.trans (hb.out.mono (Nat.le_succ N))⟩
      · have d2 : decide (62 < (j : Int) + 1) = false := by simp; omega
        obtain ⟨x, hx⟩ : ∃ x, x = s * F := ⟨_, rfl⟩
        obtain ⟨y, hy⟩ : ∃ y, y = (x + 799) / 800 := ⟨_, rfl⟩
        obtain ⟨T, hT⟩ : ∃ T, T = tgt F s := ⟨_, rfl⟩
        have hTy : T = y * 8 := by rw [hT, hy, hx]; rfl
        rw [← hT] at nT
        have g1 : (s : Int) * (F : Int) = (x : Int) := by rw [hx]; exact (Int.natCast_mul s F).symm
        have g2 : IntKind.i64.wrap (x : Int) = (x : Int) := IntWalk.i64_in _ (by omega)
        have g3 : IntKind.i64.wrap ((x : Int) + 799) = (x : Int) + 799 := IntWalk.i64_in _ (by omega)
        have g4 : ((x : Int) + 799).tdiv 800 = (y : Int) := by rw [Int.tdiv_eq_ediv_of_nonneg (by omega)]; omega
        have g5 : IntKind.i64.wrap (y : Int) = (y : Int) := IntWalk.i64_in _ (by omega)
        have g6 : (y : Int) * 8 = (T : Int) := by omega
        have g7 : IntKind.i64.wrap (T : Int) = (T : Int) := IntWalk.i64_in _ (by omega)
        obtain ⟨X, hX⟩ : ∃ X, X = nxt L F s := ⟨_, rfl⟩
        have g8 : min (L : Int) (T : Int) = (X : Int) := by rw [hX, hT]; unfold nxt; omega
        have hlow2 : ∀ i, i + 1 < j + 1 + 1 → szs L F M i < L := fun i hi => by
          rcases Nat.lt_or_ge (i + 1) (j + 1) with h3 | h3
          · exact hlow i h3
          · obtain rfl : i = j := by omega
            rw [hsj]; omega
        rw [hnx, ← hX] at hsucc
        have hXb : X ≤ 1048576 := by rw [hX]; unfold nxt; omega
        replace hlow2 := Lib.hid hlow2
        replace hsucc := Lib.hid hsucc
        replace hX := Lib.hid hX
        replace hT := Lib.hid hT
        replace hTy := Lib.hid hTy
        replace hx := Lib.hid hx
        replace hy := Lib.hid hy
        clear hnx hlow NN TL n8 n64 nL nT
        go_wp2_with (at_builtin; refine wpList_app rfl _ _ _ rfl eiI (N + 1) _ _ _ rfl (own.alloc _) (wr.heap.size + 1) (some ⟨wr.heap.size, 0, none⟩) 1 1 ([X].map iv) rfl ?c1 ?c2 ?c3 ?c4 ?c5 ?_)
        case c1 => exact reads_one wr X
        case c2 => exact iv_one _
        case c3 => unfold maxLen; omega
        case c4 => omega
        case c5 => rw [World.size_alloc]; omega
        intro v2 w2 hown2 hg2 _
        have hb2 : Below (N + 1) w1 w2 := (hb.alloc hsz _).grown hg2 (by rw [World.size_alloc]; omega) (fun j hj => (own.lt j hj).1)
        have hown3 : w2.ownsRow (N + 1) 3 1 v2 (j + 1 + 1) ((szL L F M (j + 1 + 1)).map iv) := by
          rw [hsucc.out, List.map_append]
          exact hown2
        have hs3 : N + 1 ≤ w2.heap.size := Nat.le_trans (by rw [World.size_alloc]; omega) hg2.size
        replace hown3 := Lib.hid hown3
        replace hb2 := Lib.hid hb2
        clear hown2 hg2 own hb cg
        go_wp2
        go_roundw
        case rel => exact ⟨j + 1 + 1, by omega, by omega, hlow2.out, hown3.out, hb2.out, hs3⟩
        case measure =>
          obtain ⟨A3, c3, rfl⟩ := own_is hown3.out
          simp [vlen]
          omega
end Go.Proofs.YtfjiphibalhcgaaGreat.Cls
/-
  The walk of the document's Sizes.
-/
namespace Go.Proofs.YtfjiphibalhcgaaGreat.Cls
open Go.RowKit Base
set_option linter.unusedVariables false

set_option maxRecDepth 100000 in
set_option maxHeartbeats 3200000 in
theorem refSizesC (c : Conf) (h : Right c) (w : World) : Calls Tryz.prog 91 #[.agg c.rcells] w fun e w' => ∃ v, e = .returned v ∧ w'.ownsRow w.heap.size 3 1 v c.nc (((List.range c.nc).map c.sz).map iv) ∧ Below w.heap.size w w' := by
  obtain ⟨ps, np, fa, mc, il, hot, warm⟩ := c
  obtain ⟨w1, hw1, b1, hs1, -, -, x2, x3, x4⟩ := boxedRef w ⟨ps, np, fa, mc, il, hot, warm⟩
  have f1 := h.fa1
  have f2 := h.fa2
  have f3 := h.mc1
  have f4 := h.il1
  have f5 := h.il2
  have f6 := h.ps
  have hn := h.nice
  unfold Conf.rcells at hw1 ⊢
  unfold Conf.nc Conf.sz
  simp only at hw1 x2 x3 x4 f1 f2 f3 f4 f5 f6 hn ⊢
  unfold Page9 at f6
  obtain ⟨F, rfl⟩ : ∃ F : Nat, fa = (F : Int) := ⟨fa.toNat, by omega⟩
  obtain ⟨M, rfl⟩ : ∃ M : Nat, mc = (M : Int) := ⟨mc.toNat, by omega⟩
  obtain ⟨I, rfl⟩ : ∃ I : Nat, il = (I : Int) := ⟨il.toNat, by omega⟩
  simp only [Int.toNat_natCast] at hn ⊢
  have hI : I ≤ 1048576 := by omega
  obtain ⟨L, hL⟩ : ∃ L, L = lim I := ⟨_, rfl⟩
  rw [← hL] at hn ⊢
  have hLb := hn.Lb
  have fin : ∀ k, Cnt L F M k → k = cntN L F M := fun k hk => hk.eq
  have NN := szs_nice hn
  have TL := tgt_le hn
  have TM := tgt_more hn
  have SL := fun i n => step_lt (L := L) (F := F) (m := M) i n
  clear f1 f2 f3 f4 f5 f6 h
  replace hn := Lib.hid hn
  replace hL := Lib.hid hL
  replace fin := Lib.hid fin
  replace hw1 := Lib.hid hw1
  generalize hN : w.heap.size = N at *
  replace hN := Lib.hid hN
  go_enter Tryz.func91, Tryz.ntmps91
  go_upto_region 1 with fail
  rw [hN.out, ← hw1.out]
  go_wp2_with fail
  go_loop [3] (fun s => ∃ x : Nat, I ≤ x ∧ x ≤ L ∧ s = .int .i64 (x : Int)) (fun s => L - (intOf s).toNat)
  case atStart => exact ⟨I, Nat.le_refl _, by rw [hL.out]; exact (lim_le I).1, rfl⟩
  case round =>
    obtain ⟨x, hx1, hx2, rfl⟩ := hrel
    have l1 := hL.out
    unfold lim at l1
    have t8 : (x : Int).tmod 8 = ((x % 8 : Nat) : Int) := by rw [Int.tmod_eq_emod_of_nonneg (by omega)]; rfl
    by_cases h8 : x % 8 = 0
    · obtain rfl : x = L := by omega
      rw [h8] at t8
      clear l1 hx1 hx2
      have S0 : N < w1.heap.size := by omega
      have O1 := own_one w1 (N + 1) M (by omega)
      rw [hs1] at O1
      replace O1 := Lib.hid O1
      go_wp2_with fail
      go_loopw [4] (fun v wr => ∃ k, 1 ≤ k ∧ k ≤ 63 ∧ (∀ j, j + 1 < k → szs x F M j < x) ∧ wr.ownsRow (N + 1) 3 1 v k ((szL x F M k).map iv) ∧ Below (N + 1) w1 wr ∧ N + 1 ≤ wr.heap.size) (fun v _ => 63 - vlen v)
      case atStart => exact ⟨1, by omega, by omega, fun j hj => by omega, O1.out, (Below.refl _ _).alloc (by omega) _, by rw [World.size_alloc]; omega⟩
      case round =>
        obtain ⟨k, hk1, hk2, hlow, own, hb, hsz⟩ := hrel
        obtain ⟨j, rfl⟩ : ∃ j, k = j + 1 := ⟨k - 1, by omega⟩
        obtain ⟨g, cap, rfl, cg, hgN, hgl⟩ := own_iv own (szL_at x F M (j + 1) j (Nat.lt_succ_self j))
        have hF : wr.cell? ⟨N, 2, none⟩ = some (.int .i64 (F : Int)) := (hb.cell (p := ⟨N, 2, none⟩) (Nat.lt_succ_self N)).trans x2
        obtain ⟨n8, n64, nL⟩ := NN j
        have nT := TL j
        have nM := TM j
        have nS := SL j
        have hsucc := szL_succ x F M (j + 1)
        have hnx : szs x F M (j + 1) = nxt x F (szs x F M j) := rfl
        generalize hsj : szs x F M j = s at *
        have eA : IntKind.i64.wrap ((j : Int) + 1 - 1) = (j : Int) := by rw [Int.add_sub_cancel]; exact IntWalk.i64_in _ (by omega)
        by_cases h1 : s < x
        · have d1 : decide ((s : Int) < (x : Int)) = true := by simp; omega
          by_cases h2 : j + 1 ≤ 62
          · have d2 : decide ((j : Int) + 1 ≤ 62) = true := by simp; omega
            have e8 : IntKind.i64.wrap ((s : Int) + 8) = (s : Int) + 8 := IntWalk.i64_in _ (by omega)
            obtain ⟨T, hT⟩ : ∃ T, T = tgt F s := ⟨_, rfl⟩
            have hT8 := tgt8 F s
            rw [← hT] at nT nM nS hT8
            obtain ⟨y, hy⟩ : ∃ y, y = s * F := ⟨_, rfl⟩
            have g1 : (s : Int) * (F : Int) = (y : Int) := by rw [hy]; exact (Int.natCast_mul s F).symm
            have hyb : y < 500000000 := by
              have h5 := tgt_ge F s
              rw [← hT, ← hy] at h5
              omega
            have g2 : IntKind.i64.wrap (y : Int) = (y : Int) := IntWalk.i64_in _ (by omega)
            rw [← hy] at nS
            obtain ⟨X, hX⟩ : ∃ X, X = nxt x F s := ⟨_, rfl⟩
            have hXT : X = min x T := by rw [hX, hT]; rfl
            have hlow2 : ∀ i, i + 1 < j + 1 + 1 → szs x F M i < x := fun i hi => by
              rcases Nat.lt_or_ge (i + 1) (j + 1) with h3 | h3
              · exact hlow i h3
              · obtain rfl : i = j := by omega
                rw [hsj]; omega
            rw [hnx, ← hX] at hsucc
            replace hlow2 := Lib.hid hlow2
            replace hsucc := Lib.hid hsucc
            replace hX := Lib.hid hX
            replace hT := Lib.hid hT
            replace hy := Lib.hid hy
            replace nS := Lib.hid nS
            replace own := Lib.hid own
            replace hb := Lib.hid hb
            clear hnx hlow NN TL TM SL
            go_wp2_with fail
            rename World => w2
            go_loopw [5] (fun sn wx => ∃ n m : Nat, n % 8 = 0 ∧ s + 8 ≤ n ∧ n ≤ T ∧ sn = .int .i64 (n : Int) ∧ w2.drewN m = wx) (fun sn _ => T - (intOf sn).toNat)
            case atStart => exact ⟨s + 8, 0, by omega, Nat.le_refl _, nM, by go_num, rfl⟩
            case round =>
              obtain ⟨n, m, m8, nlo, nhi, rfl, hm⟩ := hrel
              have nS2 := nS.out n m8 nhi
              have cg' : wr.cell? ⟨g, j, none⟩ = some (.int .i64 (s : Int)) := by rw [← hm]; exact cg
              have hF' : wr.cell? ⟨N, 2, none⟩ = some (.int .i64 (F : Int)) := by rw [← hm]; exact hF
              have q1 : IntKind.i64.wrap (100 * (n : Int)) = 100 * (n : Int) := IntWalk.i64_in _ (by omega)
              by_cases h3 : n < T
              · have d3 : decide (100 * (n : Int) < (y : Int)) = true := by have := nS2.2 h3; simp; omega
                have e9 : IntKind.i64.wrap ((n : Int) + 8) = (n : Int) + 8 := IntWalk.i64_in _ (by omega)
                replace hm := Lib.hid hm
                clear cg hF nS2
                go_wp2_with fail
                go_quiet (fail)
                go_wp2
                go_roundw
                case rel => exact ⟨n + 8, _, by omega, by omega, by omega, by go_num, by rw [← hm.out]; exact (World.drewN_drewN _ _ _).symm⟩
                case measure => simp [intOf]; omega
              · obtain rfl : n = T := by omega
                have d3 : decide (100 * (n : Int) < (y : Int)) = false := by
                  have h5 := nS2.1
                  simp
                  omega
                replace hm := Lib.hid hm
                clear cg hF nS2
                go_wp2_with fail
                go_quiet (fail)
                have own4 : (wr.drewN nq).ownsRow (N + 1) 3 1 (.slice (some ⟨g, 0, none⟩) (j + 1) cap) (j + 1) ((szL x F M (j + 1)).map iv) := by rw [← hm.out]; exact own.out
                have hb4 : Below (N + 1) w1 (wr.drewN nq) := by rw [← hm.out]; exact below_drewN (below_drewN hb.out m) nq
                have hsz4 : N + 1 ≤ (wr.drewN nq).heap.size := by rw [← hm.out]; exact hsz
                clear cg' hF'
                generalize wr.drewN nq = w4 at *
                by_cases h6 : x < n
                · have d6 : decide ((x : Int) < (n : Int)) = true := by simp; omega
                  have hXe : X = x := by omega
                  clear hXT
                  subst hXe
                  go_wp2_with (at_builtin; refine wpList_app rfl _ _ _ rfl eiI (N + 1) _ _ _ rfl (own4.alloc _) (w4.heap.size + 1) (some ⟨w4.heap.size, 0, none⟩) 1 1 ([X].map iv) rfl ?c1 ?c2 ?c3 ?c4 ?c5 ?_)
                  case c1 => first | exact reads_one w4 X | (rw [hXe]; exact reads_one w4 X)
                  case c2 => exact iv_one _
                  case c3 => unfold maxLen; omega
                  case c4 => omega
                  case c5 => rw [World.size_alloc]; omega
                  intro v2 w5 hown2 hg2 _
                  have hb5 : Below (N + 1) w1 w5 := (hb4.alloc hsz4 _).grown hg2 (by rw [World.size_alloc]; omega) (fun j hj => (own4.lt j hj).1)
                  have hown3 : w5.ownsRow (N + 1) 3 1 v2 (j + 1 + 1) ((szL X F M (j + 1 + 1)).map iv) := by
                    rw [hsucc.out, List.map_append]
                    exact hown2
                  have hs3 : N + 1 ≤ w5.heap.size := Nat.le_trans (by rw [World.size_alloc]; omega) hg2.size
                  replace hown3 := Lib.hid hown3
                  replace hb5 := Lib.hid hb5
                  clear hown2 hg2 own4 hb4
                  go_wp2
                  go_roundw
                  case rel => exact ⟨j + 1 + 1, by omega, by omega, hlow2.out, hown3.out, hb5.out, hs3⟩
                  case measure =>
                    obtain ⟨A3, c3, rfl⟩ := own_is hown3.out
                    simp [vlen]
                    omega
                · have d6 : decide ((x : Int) < (n : Int)) = false := by simp; omega
                  have hXe : X = n := by omega
                  clear hXT
                  subst hXe
                  go_wp2_with (at_builtin; refine wpList_app rfl _ _ _ rfl eiI (N + 1) _ _ _ rfl (own4.alloc _) (w4.heap.size + 1) (some ⟨w4.heap.size, 0, none⟩) 1 1 ([X].map iv) rfl ?c1 ?c2 ?c3 ?c4 ?c5 ?_)
                  case c1 => first | exact reads_one w4 X | (rw [hXe]; exact reads_one w4 X)
                  case c2 => exact iv_one _
                  case c3 => unfold maxLen; omega
                  case c4 => omega
                  case c5 => rw [World.size_alloc]; omega
                  intro v2 w5 hown2 hg2 _
                  have hb5 : Below (N + 1) w1 w5 := (hb4.alloc hsz4 _).grown hg2 (by rw [World.size_alloc]; omega) (fun j hj => (own4.lt j hj).1)
                  have hown3 : w5.ownsRow (N + 1) 3 1 v2 (j + 1 + 1) ((szL x F M (j + 1 + 1)).map iv) := by
                    rw [hsucc.out, List.map_append]
                    exact hown2
                  have hs3 : N + 1 ≤ w5.heap.size := Nat.le_trans (by rw [World.size_alloc]; omega) hg2.size
                  replace hown3 := Lib.hid hown3
                  replace hb5 := Lib.hid hb5
                  clear hown2 hg2 own4 hb4
                  go_wp2
                  go_roundw
                  case rel => exact ⟨j + 1 + 1, by omega, by omega, hlow2.out, hown3.out, hb5.out, hs3⟩
                  case measure =>
                    obtain ⟨A3, c3, rfl⟩ := own_is hown3.out
                    simp [vlen]
                    omega
          · have d2 : decide ((j : Int) + 1 ≤ 62) = false := by simp; omega
            have hk := fin.out (j + 1) ⟨by omega, by omega, hlow, .inr (by omega)⟩
            replace own := Lib.hid (show wr.ownsRow (N + 1) 3 1 (.slice (some ⟨g, 0, none⟩) (j + 1) cap) (cntN x F M) ((szL x F M (cntN x F M)).map iv) by rw [← hk]; exact own)
            replace hk := Lib.hid hk
            replace hb := Lib.hid hb
            clear hsucc hnx hlow
            go_wp2
            go_ret
            exact ⟨_, rfl, own_weak own.out (Nat.le_succ N), b1.trans (hb.out.mono (Nat.le_succ N))⟩
        · have d1 : decide ((s : Int) < (x : Int)) = false := by simp; omega
          have hk := fin.out (j + 1) ⟨by omega, by omega, hlow, .inl (by rw [Nat.add_sub_cancel, hsj]; omega)⟩
          replace own := Lib.hid (show wr.ownsRow (N + 1) 3 1 (.slice (some ⟨g, 0, none⟩) (j + 1) cap) (cntN x F M) ((szL x F M (cntN x F M)).map iv) by rw [← hk]; exact own)
          replace hk := Lib.hid hk
          replace hb := Lib.hid hb
          clear hsucc hnx hlow
          go_wp2
          go_ret
          exact ⟨_, rfl, own_weak own.out (Nat.le_succ N), b1.trans (hb.out.mono (Nat.le_succ N))⟩
    · have hz : (((x % 8 : Nat) : Int) != 0) = true := by simp; omega
      have hz' : (((x % 8 : Nat) : Int) == 0) = false := by simp; omega
      have hz'' : decide (((x % 8 : Nat) : Int) = 0) = false := by simp; omega
      have hlt : x + 1 ≤ L := by omega
      generalize x % 8 = z at *
      clear l1
      go_wp2
      go_round
      case rel => exact ⟨x + 1, by omega, hlt, by go_num⟩
      case measure => simp [intOf]; omega
end Go.Proofs.YtfjiphibalhcgaaGreat.Cls
/-
  The walk of the document's Refused: New's error.
-/
namespace Go.Proofs.YtfjiphibalhcgaaGreat.Cls
open Go.RowKit Base
set_option linter.unusedVariables false

set_option maxRecDepth 100000 in
set_option maxHeartbeats 1600000 in
theorem refusedC (c : Conf) (w : World) : Calls Tryz.prog 90 #[.agg c.rcells] w fun e w' => e = .returned (.int .i64 (refN c)) ∧ Below w.heap.size w w' := by
  have SC := fun h w => refSizesC c h w
  obtain ⟨ps, np, fa, mc, il, hot, warm⟩ := c
  obtain ⟨w1, hw1, b, hs1, x0, x1, x2, x3, x4⟩ := boxedRef w ⟨ps, np, fa, mc, il, hot, warm⟩
  have RC := Lib.hid (refRightC ps np)
  unfold Conf.rcells at hw1 SC ⊢
  simp only at hw1 x0 x1 x2 x3 x4 SC ⊢
  replace hw1 := Lib.hid hw1
  have no : ¬ Right ⟨ps, np, fa, mc, il, hot, warm⟩ → Hid (refN ⟨ps, np, fa, mc, il, hot, warm⟩ = 1) := fun h => Lib.hid (if_neg h)
  go_enter Tryz.func90, Tryz.ntmps90
  go_upto_region 1 with fail
  rw [← hw1.out]
  go_wp2_with fail
  refine (RC.out _).mono ?_
  rintro e w' ⟨rfl, rfl⟩
  by_cases p1 : Page9 ps ∧ 1 ≤ np ∧ np ≤ 1024
  rotate_left
  · have hr := no (fun h => p1 ⟨h.ps, h.np1, h.np2⟩)
    rw [decide_eq_false p1]
    clear p1
    go_wp2
    go_ret
    exact ⟨by rw [hr.out]; rfl, b⟩
  rw [decide_eq_true p1]
  obtain ⟨p1, p2, p3⟩ := p1
  replace p1 := Lib.hid p1
  by_cases a6 : fa < 105
  · have hr := no (fun h => by have h1 := h.fa1; simp only at h1; omega)
    have b6 : decide (fa < 105) = true := by simp; omega
    go_wp2
    go_ret
    exact ⟨by rw [hr.out]; rfl, b⟩
  have b6 : decide (fa < 105) = false := by simp; omega
  by_cases a7 : 400 < fa
  · have hr := no (fun h => by have h1 := h.fa2; simp only at h1; omega)
    have b7 : decide (400 < fa) = true := by simp; omega
    go_wp2
    go_ret
    exact ⟨by rw [hr.out]; rfl, b⟩
  have b7 : decide (400 < fa) = false := by simp; omega
  by_cases a8 : mc < 64
  · have hr := no (fun h => by have h1 := h.mc1; simp only at h1; omega)
    have b8 : decide (mc < 64) = true := by simp; omega
    go_wp2
    go_ret
    exact ⟨by rw [hr.out]; rfl, b⟩
  have b8 : decide (mc < 64) = false := by simp; omega
  by_cases a9 : 512 < mc
  · have hr := no (fun h => by have h1 := h.mc2; simp only at h1; omega)
    have b9 : decide (512 < mc) = true := by simp; omega
    go_wp2
    go_ret
    exact ⟨by rw [hr.out]; rfl, b⟩
  have b9 : decide (512 < mc) = false := by simp; omega
  have t8 : mc.tmod 8 = mc % 8 := Int.tmod_eq_emod_of_nonneg (by omega)
  by_cases a10 : ¬ mc % 8 = 0
  · have hr := no (fun h => a10 h.mc8)
    generalize mc % 8 = z at *
    have b10 : decide (z = 0) = false := decide_eq_false a10
    have b10' : (z == 0) = false := beq_eq_false_iff_ne.2 a10
    have b10'' : (z != 0) = true := by simp [a10]
    go_wp2
    go_ret
    exact ⟨by rw [hr.out]; rfl, b⟩
  have a10' : mc % 8 = 0 := by simpa using a10
  have t80 : mc.tmod 8 = 0 := by rw [t8, a10']
  clear t8
  by_cases a11 : il < mc
  · have hr := no (fun h => by have h1 := h.il1; simp only at h1; omega)
    have b11 : decide (il < mc) = true := by simp; omega
    go_wp2
    go_ret
    exact ⟨by rw [hr.out]; rfl, b⟩
  have b11 : decide (il < mc) = false := by simp; omega
  by_cases a12 : ps < il
  · have hr := no (fun h => by have h1 := h.il2; simp only at h1; omega)
    have b12 : decide (ps < il) = true := by simp; omega
    go_wp2
    go_ret
    exact ⟨by rw [hr.out]; rfl, b⟩
  have b12 : decide (ps < il) = false := by simp; omega
  have hR : Right ⟨ps, np, fa, mc, il, hot, warm⟩ := ⟨p1.out, p2, p3, by simp only; omega, by simp only; omega, by simp only; omega, by simp only; omega, a10', by simp only; omega, by simp only; omega⟩
  have hf : Hid (refN ⟨ps, np, fa, mc, il, hot, warm⟩ = if 62 < (Conf.nc ⟨ps, np, fa, mc, il, hot, warm⟩) then 2 else if np < ((Conf.nc ⟨ps, np, fa, mc, il, hot, warm⟩ : Nat) : Int) then 3 else 0) := Lib.hid (if_pos hR)
  have S1 := SC hR w1
  clear SC no RC
  generalize Conf.nc ⟨ps, np, fa, mc, il, hot, warm⟩ = k at *
  replace S1 := Lib.hid S1
  go_wp2_with fail
  refine S1.out.mono ?_
  rintro e w2 ⟨v, rfl, own, b2⟩
  obtain ⟨A, cp, rfl⟩ := own_is own
  have b3 := Lib.hid (b.trans (b2.mono b.size))
  have y1 := (b2.cell (p := ⟨w.heap.size, 1, none⟩) (by show w.heap.size < _; omega)).trans x1
  clear own b2 x0 x1 x2 x3 x4 S1
  by_cases h62 : 62 < k
  · have d1 : decide (62 < (k : Int)) = true := by simp; omega
    have hr : Hid (refN ⟨ps, np, fa, mc, il, hot, warm⟩ = 2) := Lib.hid (hf.out.trans (if_pos h62))
    go_wp2
    go_ret
    exact ⟨by rw [hr.out]; rfl, b3.out⟩
  · have d1 : decide (62 < (k : Int)) = false := by simp; omega
    by_cases hnp : np < (k : Int)
    · have d2 : decide (np < (k : Int)) = true := decide_eq_true hnp
      have hr : Hid (refN ⟨ps, np, fa, mc, il, hot, warm⟩ = 3) := Lib.hid ((hf.out.trans (if_neg h62)).trans (if_pos hnp))
      go_wp2
      go_ret
      exact ⟨by rw [hr.out]; rfl, b3.out⟩
    · have d2 : decide (np < (k : Int)) = false := decide_eq_false hnp
      have hr : Hid (refN ⟨ps, np, fa, mc, il, hot, warm⟩ = 0) := Lib.hid ((hf.out.trans (if_neg h62)).trans (if_neg hnp))
      go_wp2
      go_ret
      exact ⟨by rw [hr.out]; rfl, b3.out⟩
end Go.Proofs.YtfjiphibalhcgaaGreat.Cls
