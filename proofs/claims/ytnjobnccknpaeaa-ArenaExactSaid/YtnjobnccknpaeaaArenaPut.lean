/-
  The walks of Put, for each type of number: the number is laid, the highest byte first. (printed by a small program of mine: one text for each instance)
-/
import Derived.Test.YtnjobnccknpaeaaArenaNum
namespace Go.Proofs.Ytnjobnccknpaeaa.Arena
open Go.RowKit Base
set_option linter.unusedVariables false

theorem putNo_tiny (w : World) (g h page : Nat) (l : List UInt8) (a : At w g h page l) (at_ : Int) (n : Nat) (ha : inI64 at_) (hno : ¬ There page l.length at_ 1) :
    Calls Try.prog 37 #[.pointer (some ⟨g, 0, none⟩), .int .i64 at_, .int .u8 (n : Int)] w fun e w' => e = .returned (.int .i64 20) ∧ ∃ m, w.drewN m = w' := by
  have C := Lib.hid (thereNo w g h page l a at_ 1 ha (by unfold inI64; omega) hno)
  have E := Lib.hid width_tiny
  go_enter Try.func37, Try.ntmps37
  go_wp2_with fail
  refine (E.out _).mono ?_
  rintro e w' ⟨rfl, rfl⟩
  go_wp2_with fail
  refine C.out.mono ?_
  rintro e w' ⟨rfl, m, rfl⟩
  go_wp2
  go_ret
  exact ⟨rfl, _, rfl⟩
theorem putNil_tiny (w : World) (at_ : Int) (n : Nat) :
    Calls Try.prog 37 #[.pointer none, .int .i64 at_, .int .u8 (n : Int)] w fun e w' => e = .returned (.int .i64 1) ∧ w = w' := by
  go_enter Try.func37, Try.ntmps37
  go_wp2
  go_ret
  exact ⟨rfl, rfl⟩
set_option maxHeartbeats 400000 in
theorem putYes_tiny (w : World) (g h page : Nat) (l : List UInt8) (a : At w g h page l) (at_ : Int) (n : Nat) (hn : n < 256) (hy : There page l.length at_ 1) :
    Calls Try.prog 37 #[.pointer (some ⟨g, 0, none⟩), .int .i64 at_, .int .u8 (n : Int)] w fun e w' => e = .returned (.int .i64 0) ∧ At w' g h page (lay l at_.toNat (putB 1 n)) ∧ Only (· = h) w w' ∧ w'.heap.size = w.heap.size := by
  have C := Lib.hid (thereYes w g h page l a at_ 1 hy)
  have E := Lib.hid width_tiny
  obtain ⟨q1, q2, q3, q4⟩ := hy
  have hs := a.small
  have hb := a.bytes
  obtain ⟨p, rfl⟩ := Int.eq_ofNat_of_zero_le q1
  simp only [Int.toNat_natCast] at C ⊢
  generalize hB : putB 1 n = fin at *
  have hfl : fin.length = 1 := by rw [← hB, putB_len]
  replace hfl := Lib.hid hfl
  go_enter Try.func37, Try.ntmps37
  go_wp2_with fail
  refine (E.out _).mono ?_
  rintro e w' ⟨rfl, rfl⟩
  go_wp2_with fail
  refine C.out.mono ?_
  rintro e w0 ⟨A, rfl, hA, m, hw0⟩
  obtain rfl := hA (by omega)
  have hb0 : BB w0 5 h l := by rw [← hw0]; exact hb
  have ho0 : Only (· = h) w w0 := by rw [← hw0]; exact (Only.refl _ _).drewN m
  have hs0 : Hid (w0.heap.size = w.heap.size) := by rw [← hw0]; rfl
  clear hw0 C E hA
  replace hB := Lib.hid hB
  go_wp2
  go_loopw [2, 9] (fun v i wr => ∃ (r x : Nat) (done : List UInt8), r + done.length = 1 ∧ x < 256 ∧ i = .int .i64 ((r : Int) - 1) ∧ v = .int .u8 (x : Int) ∧ Hid (putB r x ++ done = fin) ∧ BB wr 5 h (lay l (p + r) done) ∧ Only (· = h) w wr ∧ Hid (wr.heap.size = w.heap.size)) (fun _ i _ => (intOf i + 1).toNat)
  case atStart => exact ⟨1, n, [], rfl, hn, by go_num, rfl, by rw [List.append_nil]; exact hB, by rw [lay_nil]; exact hb0, ho0, hs0⟩
  case round =>
    obtain ⟨r, x, done, hr, hx, rfl, rfl, hfx, hbr, hor, hsr⟩ := hrel
    rcases Nat.eq_zero_or_pos r with hz | hz
    · subst hz
      have hd0 : lay l (p + 0) done = lay l p fin := by rw [← hfx.out]; rfl
      rw [hd0] at hbr
      clear hd0
      go_wp2
      go_ret
      exact ⟨rfl, a.turn hor hbr (lay_len _ _ _ (by rw [hfl.out]; omega)), hor, hsr.out⟩
    · obtain ⟨r, rfl⟩ : ∃ r', r = r' + 1 := ⟨r - 1, by omega⟩
      have hll : (lay l (p + (r + 1)) done).length = l.length := lay_len _ _ _ (by omega)
      have c1 := hbr.cell (p + r) (by omega)
      have c2 := hbr.frozen (p + r)
      have hset := hbr.set (p + r) (UInt8.ofNat x)
      rw [lay_cons l p r done _ (by omega)] at hset
      have hbyte := byte_of x
      have hdiv := div_u8 x hx
      have hlt2 := div_lt x 256 hx
      have hor1 : Only (· = h) w (wr.setCell ⟨h, p + r, none⟩ (.int .u8 ((UInt8.ofNat x).toNat : Int))) := hor.setCell (fun _ => rfl) _
      have hfx' : Hid (putB r (x / 256) ++ (UInt8.ofNat x :: done) = fin) := Lib.hid (by rw [← hfx.out, putB_succ]; simp)
      generalize ((lay l (p + (r + 1)) done)[p + r]).toNat = z at c1
      replace hll := Lib.hid hll
      have hi1 : ((((r + 1 : Nat) : Int)) - 1) = (r : Int) := by omega
      rw [hi1]
      clear hi1
      rw [show (UInt8.ofNat x).toNat = x by rw [ofNat_toNat]; omega] at hset hor1
      clear hbyte
      generalize hxd : x / 256 = xd at *
      replace hxd := Lib.hid hxd
      go_wp2
      go_roundw
      case rel => exact ⟨r, xd, _, by simp only [List.length_cons]; omega, hlt2, by go_num, by go_num, hfx', hset, hor1, Lib.hid ((World.size_setCell _ _ _).trans hsr.out)⟩
      case measure => simp [intOf] <;> omega
theorem putNo_u8 (w : World) (g h page : Nat) (l : List UInt8) (a : At w g h page l) (at_ : Int) (n : Nat) (ha : inI64 at_) (hno : ¬ There page l.length at_ 1) :
    Calls Try.prog 38 #[.pointer (some ⟨g, 0, none⟩), .int .i64 at_, .int .u8 (n : Int)] w fun e w' => e = .returned (.int .i64 20) ∧ ∃ m, w.drewN m = w' := by
  have C := Lib.hid (thereNo w g h page l a at_ 1 ha (by unfold inI64; omega) hno)
  have E := Lib.hid width_u8
  go_enter Try.func38, Try.ntmps38
  go_wp2_with fail
  refine (E.out _).mono ?_
  rintro e w' ⟨rfl, rfl⟩
  go_wp2_with fail
  refine C.out.mono ?_
  rintro e w' ⟨rfl, m, rfl⟩
  go_wp2
  go_ret
  exact ⟨rfl, _, rfl⟩
theorem putNil_u8 (w : World) (at_ : Int) (n : Nat) :
    Calls Try.prog 38 #[.pointer none, .int .i64 at_, .int .u8 (n : Int)] w fun e w' => e = .returned (.int .i64 1) ∧ w = w' := by
  go_enter Try.func38, Try.ntmps38
  go_wp2
  go_ret
  exact ⟨rfl, rfl⟩
set_option maxHeartbeats 400000 in
theorem putYes_u8 (w : World) (g h page : Nat) (l : List UInt8) (a : At w g h page l) (at_ : Int) (n : Nat) (hn : n < 256) (hy : There page l.length at_ 1) :
    Calls Try.prog 38 #[.pointer (some ⟨g, 0, none⟩), .int .i64 at_, .int .u8 (n : Int)] w fun e w' => e = .returned (.int .i64 0) ∧ At w' g h page (lay l at_.toNat (putB 1 n)) ∧ Only (· = h) w w' ∧ w'.heap.size = w.heap.size := by
  have C := Lib.hid (thereYes w g h page l a at_ 1 hy)
  have E := Lib.hid width_u8
  obtain ⟨q1, q2, q3, q4⟩ := hy
  have hs := a.small
  have hb := a.bytes
  obtain ⟨p, rfl⟩ := Int.eq_ofNat_of_zero_le q1
  simp only [Int.toNat_natCast] at C ⊢
  generalize hB : putB 1 n = fin at *
  have hfl : fin.length = 1 := by rw [← hB, putB_len]
  replace hfl := Lib.hid hfl
  go_enter Try.func38, Try.ntmps38
  go_wp2_with fail
  refine (E.out _).mono ?_
  rintro e w' ⟨rfl, rfl⟩
  go_wp2_with fail
  refine C.out.mono ?_
  rintro e w0 ⟨A, rfl, hA, m, hw0⟩
  obtain rfl := hA (by omega)
  have hb0 : BB w0 5 h l := by rw [← hw0]; exact hb
  have ho0 : Only (· = h) w w0 := by rw [← hw0]; exact (Only.refl _ _).drewN m
  have hs0 : Hid (w0.heap.size = w.heap.size) := by rw [← hw0]; rfl
  clear hw0 C E hA
  replace hB := Lib.hid hB
  go_wp2
  go_loopw [2, 9] (fun v i wr => ∃ (r x : Nat) (done : List UInt8), r + done.length = 1 ∧ x < 256 ∧ i = .int .i64 ((r : Int) - 1) ∧ v = .int .u8 (x : Int) ∧ Hid (putB r x ++ done = fin) ∧ BB wr 5 h (lay l (p + r) done) ∧ Only (· = h) w wr ∧ Hid (wr.heap.size = w.heap.size)) (fun _ i _ => (intOf i + 1).toNat)
  case atStart => exact ⟨1, n, [], rfl, hn, by go_num, rfl, by rw [List.append_nil]; exact hB, by rw [lay_nil]; exact hb0, ho0, hs0⟩
  case round =>
    obtain ⟨r, x, done, hr, hx, rfl, rfl, hfx, hbr, hor, hsr⟩ := hrel
    rcases Nat.eq_zero_or_pos r with hz | hz
    · subst hz
      have hd0 : lay l (p + 0) done = lay l p fin := by rw [← hfx.out]; rfl
      rw [hd0] at hbr
      clear hd0
      go_wp2
      go_ret
      exact ⟨rfl, a.turn hor hbr (lay_len _ _ _ (by rw [hfl.out]; omega)), hor, hsr.out⟩
    · obtain ⟨r, rfl⟩ : ∃ r', r = r' + 1 := ⟨r - 1, by omega⟩
      have hll : (lay l (p + (r + 1)) done).length = l.length := lay_len _ _ _ (by omega)
      have c1 := hbr.cell (p + r) (by omega)
      have c2 := hbr.frozen (p + r)
      have hset := hbr.set (p + r) (UInt8.ofNat x)
      rw [lay_cons l p r done _ (by omega)] at hset
      have hbyte := byte_of x
      have hdiv := div_u8 x hx
      have hlt2 := div_lt x 256 hx
      have hor1 : Only (· = h) w (wr.setCell ⟨h, p + r, none⟩ (.int .u8 ((UInt8.ofNat x).toNat : Int))) := hor.setCell (fun _ => rfl) _
      have hfx' : Hid (putB r (x / 256) ++ (UInt8.ofNat x :: done) = fin) := Lib.hid (by rw [← hfx.out, putB_succ]; simp)
      generalize ((lay l (p + (r + 1)) done)[p + r]).toNat = z at c1
      replace hll := Lib.hid hll
      have hi1 : ((((r + 1 : Nat) : Int)) - 1) = (r : Int) := by omega
      rw [hi1]
      clear hi1
      rw [show (UInt8.ofNat x).toNat = x by rw [ofNat_toNat]; omega] at hset hor1
      clear hbyte
      generalize hxd : x / 256 = xd at *
      replace hxd := Lib.hid hxd
      go_wp2
      go_roundw
      case rel => exact ⟨r, xd, _, by simp only [List.length_cons]; omega, hlt2, by go_num, by go_num, hfx', hset, hor1, Lib.hid ((World.size_setCell _ _ _).trans hsr.out)⟩
      case measure => simp [intOf] <;> omega
theorem putNo_half (w : World) (g h page : Nat) (l : List UInt8) (a : At w g h page l) (at_ : Int) (n : Nat) (ha : inI64 at_) (hno : ¬ There page l.length at_ 2) :
    Calls Try.prog 39 #[.pointer (some ⟨g, 0, none⟩), .int .i64 at_, .int .u16 (n : Int)] w fun e w' => e = .returned (.int .i64 20) ∧ ∃ m, w.drewN m = w' := by
  have C := Lib.hid (thereNo w g h page l a at_ 2 ha (by unfold inI64; omega) hno)
  have E := Lib.hid width_half
  go_enter Try.func39, Try.ntmps39
  go_wp2_with fail
  refine (E.out _).mono ?_
  rintro e w' ⟨rfl, rfl⟩
  go_wp2_with fail
  refine C.out.mono ?_
  rintro e w' ⟨rfl, m, rfl⟩
  go_wp2
  go_ret
  exact ⟨rfl, _, rfl⟩
theorem putNil_half (w : World) (at_ : Int) (n : Nat) :
    Calls Try.prog 39 #[.pointer none, .int .i64 at_, .int .u16 (n : Int)] w fun e w' => e = .returned (.int .i64 1) ∧ w = w' := by
  go_enter Try.func39, Try.ntmps39
  go_wp2
  go_ret
  exact ⟨rfl, rfl⟩
set_option maxHeartbeats 400000 in
theorem putYes_half (w : World) (g h page : Nat) (l : List UInt8) (a : At w g h page l) (at_ : Int) (n : Nat) (hn : n < 65536) (hy : There page l.length at_ 2) :
    Calls Try.prog 39 #[.pointer (some ⟨g, 0, none⟩), .int .i64 at_, .int .u16 (n : Int)] w fun e w' => e = .returned (.int .i64 0) ∧ At w' g h page (lay l at_.toNat (putB 2 n)) ∧ Only (· = h) w w' ∧ w'.heap.size = w.heap.size := by
  have C := Lib.hid (thereYes w g h page l a at_ 2 hy)
  have E := Lib.hid width_half
  obtain ⟨q1, q2, q3, q4⟩ := hy
  have hs := a.small
  have hb := a.bytes
  obtain ⟨p, rfl⟩ := Int.eq_ofNat_of_zero_le q1
  simp only [Int.toNat_natCast] at C ⊢
  generalize hB : putB 2 n = fin at *
  have hfl : fin.length = 2 := by rw [← hB, putB_len]
  replace hfl := Lib.hid hfl
  go_enter Try.func39, Try.ntmps39
  go_wp2_with fail
  refine (E.out _).mono ?_
  rintro e w' ⟨rfl, rfl⟩
  go_wp2_with fail
  refine C.out.mono ?_
  rintro e w0 ⟨A, rfl, hA, m, hw0⟩
  obtain rfl := hA (by omega)
  have hb0 : BB w0 5 h l := by rw [← hw0]; exact hb
  have ho0 : Only (· = h) w w0 := by rw [← hw0]; exact (Only.refl _ _).drewN m
  have hs0 : Hid (w0.heap.size = w.heap.size) := by rw [← hw0]; rfl
  clear hw0 C E hA
  replace hB := Lib.hid hB
  go_wp2
  go_loopw [2, 9] (fun v i wr => ∃ (r x : Nat) (done : List UInt8), r + done.length = 2 ∧ x < 65536 ∧ i = .int .i64 ((r : Int) - 1) ∧ v = .int .u16 (x : Int) ∧ Hid (putB r x ++ done = fin) ∧ BB wr 5 h (lay l (p + r) done) ∧ Only (· = h) w wr ∧ Hid (wr.heap.size = w.heap.size)) (fun _ i _ => (intOf i + 1).toNat)
  case atStart => exact ⟨2, n, [], rfl, hn, by go_num, rfl, by rw [List.append_nil]; exact hB, by rw [lay_nil]; exact hb0, ho0, hs0⟩
  case round =>
    obtain ⟨r, x, done, hr, hx, rfl, rfl, hfx, hbr, hor, hsr⟩ := hrel
    rcases Nat.eq_zero_or_pos r with hz | hz
    · subst hz
      have hd0 : lay l (p + 0) done = lay l p fin := by rw [← hfx.out]; rfl
      rw [hd0] at hbr
      clear hd0
      go_wp2
      go_ret
      exact ⟨rfl, a.turn hor hbr (lay_len _ _ _ (by rw [hfl.out]; omega)), hor, hsr.out⟩
    · obtain ⟨r, rfl⟩ : ∃ r', r = r' + 1 := ⟨r - 1, by omega⟩
      have hll : (lay l (p + (r + 1)) done).length = l.length := lay_len _ _ _ (by omega)
      have c1 := hbr.cell (p + r) (by omega)
      have c2 := hbr.frozen (p + r)
      have hset := hbr.set (p + r) (UInt8.ofNat x)
      rw [lay_cons l p r done _ (by omega)] at hset
      have hbyte := byte_of x
      have hdiv := div_u16 x hx
      have hlt2 := div_lt x 65536 hx
      have hor1 : Only (· = h) w (wr.setCell ⟨h, p + r, none⟩ (.int .u8 ((UInt8.ofNat x).toNat : Int))) := hor.setCell (fun _ => rfl) _
      have hfx' : Hid (putB r (x / 256) ++ (UInt8.ofNat x :: done) = fin) := Lib.hid (by rw [← hfx.out, putB_succ]; simp)
      generalize ((lay l (p + (r + 1)) done)[p + r]).toNat = z at c1
      replace hll := Lib.hid hll
      have hi1 : ((((r + 1 : Nat) : Int)) - 1) = (r : Int) := by omega
      rw [hi1]
      clear hi1
      generalize (UInt8.ofNat x).toNat = bb at *
      generalize hxd : x / 256 = xd at *
      replace hxd := Lib.hid hxd
      go_wp2
      go_roundw
      case rel => exact ⟨r, xd, _, by simp only [List.length_cons]; omega, hlt2, by go_num, by go_num, hfx', hset, hor1, Lib.hid ((World.size_setCell _ _ _).trans hsr.out)⟩
      case measure => simp [intOf] <;> omega
theorem putNo_u16 (w : World) (g h page : Nat) (l : List UInt8) (a : At w g h page l) (at_ : Int) (n : Nat) (ha : inI64 at_) (hno : ¬ There page l.length at_ 2) :
    Calls Try.prog 40 #[.pointer (some ⟨g, 0, none⟩), .int .i64 at_, .int .u16 (n : Int)] w fun e w' => e = .returned (.int .i64 20) ∧ ∃ m, w.drewN m = w' := by
  have C := Lib.hid (thereNo w g h page l a at_ 2 ha (by unfold inI64; omega) hno)
  have E := Lib.hid width_u16
  go_enter Try.func40, Try.ntmps40
  go_wp2_with fail
  refine (E.out _).mono ?_
  rintro e w' ⟨rfl, rfl⟩
  go_wp2_with fail
  refine C.out.mono ?_
  rintro e w' ⟨rfl, m, rfl⟩
  go_wp2
  go_ret
  exact ⟨rfl, _, rfl⟩
theorem putNil_u16 (w : World) (at_ : Int) (n : Nat) :
    Calls Try.prog 40 #[.pointer none, .int .i64 at_, .int .u16 (n : Int)] w fun e w' => e = .returned (.int .i64 1) ∧ w = w' := by
  go_enter Try.func40, Try.ntmps40
  go_wp2
  go_ret
  exact ⟨rfl, rfl⟩
set_option maxHeartbeats 400000 in
theorem putYes_u16 (w : World) (g h page : Nat) (l : List UInt8) (a : At w g h page l) (at_ : Int) (n : Nat) (hn : n < 65536) (hy : There page l.length at_ 2) :
    Calls Try.prog 40 #[.pointer (some ⟨g, 0, none⟩), .int .i64 at_, .int .u16 (n : Int)] w fun e w' => e = .returned (.int .i64 0) ∧ At w' g h page (lay l at_.toNat (putB 2 n)) ∧ Only (· = h) w w' ∧ w'.heap.size = w.heap.size := by
  have C := Lib.hid (thereYes w g h page l a at_ 2 hy)
  have E := Lib.hid width_u16
  obtain ⟨q1, q2, q3, q4⟩ := hy
  have hs := a.small
  have hb := a.bytes
  obtain ⟨p, rfl⟩ := Int.eq_ofNat_of_zero_le q1
  simp only [Int.toNat_natCast] at C ⊢
  generalize hB : putB 2 n = fin at *
  have hfl : fin.length = 2 := by rw [← hB, putB_len]
  replace hfl := Lib.hid hfl
  go_enter Try.func40, Try.ntmps40
  go_wp2_with fail
  refine (E.out _).mono ?_
  rintro e w' ⟨rfl, rfl⟩
  go_wp2_with fail
  refine C.out.mono ?_
  rintro e w0 ⟨A, rfl, hA, m, hw0⟩
  obtain rfl := hA (by omega)
  have hb0 : BB w0 5 h l := by rw [← hw0]; exact hb
  have ho0 : Only (· = h) w w0 := by rw [← hw0]; exact (Only.refl _ _).drewN m
  have hs0 : Hid (w0.heap.size = w.heap.size) := by rw [← hw0]; rfl
  clear hw0 C E hA
  replace hB := Lib.hid hB
  go_wp2
  go_loopw [2, 9] (fun v i wr => ∃ (r x : Nat) (done : List UInt8), r + done.length = 2 ∧ x < 65536 ∧ i = .int .i64 ((r : Int) - 1) ∧ v = .int .u16 (x : Int) ∧ Hid (putB r x ++ done = fin) ∧ BB wr 5 h (lay l (p + r) done) ∧ Only (· = h) w wr ∧ Hid (wr.heap.size = w.heap.size)) (fun _ i _ => (intOf i + 1).toNat)
  case atStart => exact ⟨2, n, [], rfl, hn, by go_num, rfl, by rw [List.append_nil]; exact hB, by rw [lay_nil]; exact hb0, ho0, hs0⟩
  case round =>
    obtain ⟨r, x, done, hr, hx, rfl, rfl, hfx, hbr, hor, hsr⟩ := hrel
    rcases Nat.eq_zero_or_pos r with hz | hz
    · subst hz
      have hd0 : lay l (p + 0) done = lay l p fin := by rw [← hfx.out]; rfl
      rw [hd0] at hbr
      clear hd0
      go_wp2
      go_ret
      exact ⟨rfl, a.turn hor hbr (lay_len _ _ _ (by rw [hfl.out]; omega)), hor, hsr.out⟩
    · obtain ⟨r, rfl⟩ : ∃ r', r = r' + 1 := ⟨r - 1, by omega⟩
      have hll : (lay l (p + (r + 1)) done).length = l.length := lay_len _ _ _ (by omega)
      have c1 := hbr.cell (p + r) (by omega)
      have c2 := hbr.frozen (p + r)
      have hset := hbr.set (p + r) (UInt8.ofNat x)
      rw [lay_cons l p r done _ (by omega)] at hset
      have hbyte := byte_of x
      have hdiv := div_u16 x hx
      have hlt2 := div_lt x 65536 hx
      have hor1 : Only (· = h) w (wr.setCell ⟨h, p + r, none⟩ (.int .u8 ((UInt8.ofNat x).toNat : Int))) := hor.setCell (fun _ => rfl) _
      have hfx' : Hid (putB r (x / 256) ++ (UInt8.ofNat x :: done) = fin) := Lib.hid (by rw [← hfx.out, putB_succ]; simp)
      generalize ((lay l (p + (r + 1)) done)[p + r]).toNat = z at c1
      replace hll := Lib.hid hll
      have hi1 : ((((r + 1 : Nat) : Int)) - 1) = (r : Int) := by omega
      rw [hi1]
      clear hi1
      generalize (UInt8.ofNat x).toNat = bb at *
      generalize hxd : x / 256 = xd at *
      replace hxd := Lib.hid hxd
      go_wp2
      go_roundw
      case rel => exact ⟨r, xd, _, by simp only [List.length_cons]; omega, hlt2, by go_num, by go_num, hfx', hset, hor1, Lib.hid ((World.size_setCell _ _ _).trans hsr.out)⟩
      case measure => simp [intOf] <;> omega
theorem putNo_word (w : World) (g h page : Nat) (l : List UInt8) (a : At w g h page l) (at_ : Int) (n : Nat) (ha : inI64 at_) (hno : ¬ There page l.length at_ 4) :
    Calls Try.prog 41 #[.pointer (some ⟨g, 0, none⟩), .int .i64 at_, .int .u32 (n : Int)] w fun e w' => e = .returned (.int .i64 20) ∧ ∃ m, w.drewN m = w' := by
  have C := Lib.hid (thereNo w g h page l a at_ 4 ha (by unfold inI64; omega) hno)
  have E := Lib.hid width_word
  go_enter Try.func41, Try.ntmps41
  go_wp2_with fail
  refine (E.out _).mono ?_
  rintro e w' ⟨rfl, rfl⟩
  go_wp2_with fail
  refine C.out.mono ?_
  rintro e w' ⟨rfl, m, rfl⟩
  go_wp2
  go_ret
  exact ⟨rfl, _, rfl⟩
theorem putNil_word (w : World) (at_ : Int) (n : Nat) :
    Calls Try.prog 41 #[.pointer none, .int .i64 at_, .int .u32 (n : Int)] w fun e w' => e = .returned (.int .i64 1) ∧ w = w' := by
  go_enter Try.func41, Try.ntmps41
  go_wp2
  go_ret
  exact ⟨rfl, rfl⟩
set_option maxHeartbeats 400000 in
theorem putYes_word (w : World) (g h page : Nat) (l : List UInt8) (a : At w g h page l) (at_ : Int) (n : Nat) (hn : n < 4294967296) (hy : There page l.length at_ 4) :
    Calls Try.prog 41 #[.pointer (some ⟨g, 0, none⟩), .int .i64 at_, .int .u32 (n : Int)] w fun e w' => e = .returned (.int .i64 0) ∧ At w' g h page (lay l at_.toNat (putB 4 n)) ∧ Only (· = h) w w' ∧ w'.heap.size = w.heap.size := by
  have C := Lib.hid (thereYes w g h page l a at_ 4 hy)
  have E := Lib.hid width_word
  obtain ⟨q1, q2, q3, q4⟩ := hy
  have hs := a.small
  have hb := a.bytes
  obtain ⟨p, rfl⟩ := Int.eq_ofNat_of_zero_le q1
  simp only [Int.toNat_natCast] at C ⊢
  generalize hB : putB 4 n = fin at *
  have hfl : fin.length = 4 := by rw [← hB, putB_len]
  replace hfl := Lib.hid hfl
  go_enter Try.func41, Try.ntmps41
  go_wp2_with fail
  refine (E.out _).mono ?_
  rintro e w' ⟨rfl, rfl⟩
  go_wp2_with fail
  refine C.out.mono ?_
  rintro e w0 ⟨A, rfl, hA, m, hw0⟩
  obtain rfl := hA (by omega)
  have hb0 : BB w0 5 h l := by rw [← hw0]; exact hb
  have ho0 : Only (· = h) w w0 := by rw [← hw0]; exact (Only.refl _ _).drewN m
  have hs0 : Hid (w0.heap.size = w.heap.size) := by rw [← hw0]; rfl
  clear hw0 C E hA
  replace hB := Lib.hid hB
  go_wp2
  go_loopw [2, 9] (fun v i wr => ∃ (r x : Nat) (done : List UInt8), r + done.length = 4 ∧ x < 4294967296 ∧ i = .int .i64 ((r : Int) - 1) ∧ v = .int .u32 (x : Int) ∧ Hid (putB r x ++ done = fin) ∧ BB wr 5 h (lay l (p + r) done) ∧ Only (· = h) w wr ∧ Hid (wr.heap.size = w.heap.size)) (fun _ i _ => (intOf i + 1).toNat)
  case atStart => exact ⟨4, n, [], rfl, hn, by go_num, rfl, by rw [List.append_nil]; exact hB, by rw [lay_nil]; exact hb0, ho0, hs0⟩
  case round =>
    obtain ⟨r, x, done, hr, hx, rfl, rfl, hfx, hbr, hor, hsr⟩ := hrel
    rcases Nat.eq_zero_or_pos r with hz | hz
    · subst hz
      have hd0 : lay l (p + 0) done = lay l p fin := by rw [← hfx.out]; rfl
      rw [hd0] at hbr
      clear hd0
      go_wp2
      go_ret
      exact ⟨rfl, a.turn hor hbr (lay_len _ _ _ (by rw [hfl.out]; omega)), hor, hsr.out⟩
    · obtain ⟨r, rfl⟩ : ∃ r', r = r' + 1 := ⟨r - 1, by omega⟩
      have hll : (lay l (p + (r + 1)) done).length = l.length := lay_len _ _ _ (by omega)
      have c1 := hbr.cell (p + r) (by omega)
      have c2 := hbr.frozen (p + r)
      have hset := hbr.set (p + r) (UInt8.ofNat x)
      rw [lay_cons l p r done _ (by omega)] at hset
      have hbyte := byte_of x
      have hdiv := div_u32 x hx
      have hlt2 := div_lt x 4294967296 hx
      have hor1 : Only (· = h) w (wr.setCell ⟨h, p + r, none⟩ (.int .u8 ((UInt8.ofNat x).toNat : Int))) := hor.setCell (fun _ => rfl) _
      have hfx' : Hid (putB r (x / 256) ++ (UInt8.ofNat x :: done) = fin) := Lib.hid (by rw [← hfx.out, putB_succ]; simp)
      generalize ((lay l (p + (r + 1)) done)[p + r]).toNat = z at c1
      replace hll := Lib.hid hll
      have hi1 : ((((r + 1 : Nat) : Int)) - 1) = (r : Int) := by omega
      rw [hi1]
      clear hi1
      generalize (UInt8.ofNat x).toNat = bb at *
      generalize hxd : x / 256 = xd at *
      replace hxd := Lib.hid hxd
      go_wp2
      go_roundw
      case rel => exact ⟨r, xd, _, by simp only [List.length_cons]; omega, hlt2, by go_num, by go_num, hfx', hset, hor1, Lib.hid ((World.size_setCell _ _ _).trans hsr.out)⟩
      case measure => simp [intOf] <;> omega
theorem putNo_u32 (w : World) (g h page : Nat) (l : List UInt8) (a : At w g h page l) (at_ : Int) (n : Nat) (ha : inI64 at_) (hno : ¬ There page l.length at_ 4) :
    Calls Try.prog 42 #[.pointer (some ⟨g, 0, none⟩), .int .i64 at_, .int .u32 (n : Int)] w fun e w' => e = .returned (.int .i64 20) ∧ ∃ m, w.drewN m = w' := by
  have C := Lib.hid (thereNo w g h page l a at_ 4 ha (by unfold inI64; omega) hno)
  have E := Lib.hid width_u32
  go_enter Try.func42, Try.ntmps42
  go_wp2_with fail
  refine (E.out _).mono ?_
  rintro e w' ⟨rfl, rfl⟩
  go_wp2_with fail
  refine C.out.mono ?_
  rintro e w' ⟨rfl, m, rfl⟩
  go_wp2
  go_ret
  exact ⟨rfl, _, rfl⟩
theorem putNil_u32 (w : World) (at_ : Int) (n : Nat) :
    Calls Try.prog 42 #[.pointer none, .int .i64 at_, .int .u32 (n : Int)] w fun e w' => e = .returned (.int .i64 1) ∧ w = w' := by
  go_enter Try.func42, Try.ntmps42
  go_wp2
  go_ret
  exact ⟨rfl, rfl⟩
set_option maxHeartbeats 400000 in
theorem putYes_u32 (w : World) (g h page : Nat) (l : List UInt8) (a : At w g h page l) (at_ : Int) (n : Nat) (hn : n < 4294967296) (hy : There page l.length at_ 4) :
    Calls Try.prog 42 #[.pointer (some ⟨g, 0, none⟩), .int .i64 at_, .int .u32 (n : Int)] w fun e w' => e = .returned (.int .i64 0) ∧ At w' g h page (lay l at_.toNat (putB 4 n)) ∧ Only (· = h) w w' ∧ w'.heap.size = w.heap.size := by
  have C := Lib.hid (thereYes w g h page l a at_ 4 hy)
  have E := Lib.hid width_u32
  obtain ⟨q1, q2, q3, q4⟩ := hy
  have hs := a.small
  have hb := a.bytes
  obtain ⟨p, rfl⟩ := Int.eq_ofNat_of_zero_le q1
  simp only [Int.toNat_natCast] at C ⊢
  generalize hB : putB 4 n = fin at *
  have hfl : fin.length = 4 := by rw [← hB, putB_len]
  replace hfl := Lib.hid hfl
  go_enter Try.func42, Try.ntmps42
  go_wp2_with fail
  refine (E.out _).mono ?_
  rintro e w' ⟨rfl, rfl⟩
  go_wp2_with fail
  refine C.out.mono ?_
  rintro e w0 ⟨A, rfl, hA, m, hw0⟩
  obtain rfl := hA (by omega)
  have hb0 : BB w0 5 h l := by rw [← hw0]; exact hb
  have ho0 : Only (· = h) w w0 := by rw [← hw0]; exact (Only.refl _ _).drewN m
  have hs0 : Hid (w0.heap.size = w.heap.size) := by rw [← hw0]; rfl
  clear hw0 C E hA
  replace hB := Lib.hid hB
  go_wp2
  go_loopw [2, 9] (fun v i wr => ∃ (r x : Nat) (done : List UInt8), r + done.length = 4 ∧ x < 4294967296 ∧ i = .int .i64 ((r : Int) - 1) ∧ v = .int .u32 (x : Int) ∧ Hid (putB r x ++ done = fin) ∧ BB wr 5 h (lay l (p + r) done) ∧ Only (· = h) w wr ∧ Hid (wr.heap.size = w.heap.size)) (fun _ i _ => (intOf i + 1).toNat)
  case atStart => exact ⟨4, n, [], rfl, hn, by go_num, rfl, by rw [List.append_nil]; exact hB, by rw [lay_nil]; exact hb0, ho0, hs0⟩
  case round =>
    obtain ⟨r, x, done, hr, hx, rfl, rfl, hfx, hbr, hor, hsr⟩ := hrel
    rcases Nat.eq_zero_or_pos r with hz | hz
    · subst hz
      have hd0 : lay l (p + 0) done = lay l p fin := by rw [← hfx.out]; rfl
      rw [hd0] at hbr
      clear hd0
      go_wp2
      go_ret
      exact ⟨rfl, a.turn hor hbr (lay_len _ _ _ (by rw [hfl.out]; omega)), hor, hsr.out⟩
    · obtain ⟨r, rfl⟩ : ∃ r', r = r' + 1 := ⟨r - 1, by omega⟩
      have hll : (lay l (p + (r + 1)) done).length = l.length := lay_len _ _ _ (by omega)
      have c1 := hbr.cell (p + r) (by omega)
      have c2 := hbr.frozen (p + r)
      have hset := hbr.set (p + r) (UInt8.ofNat x)
      rw [lay_cons l p r done _ (by omega)] at hset
      have hbyte := byte_of x
      have hdiv := div_u32 x hx
      have hlt2 := div_lt x 4294967296 hx
      have hor1 : Only (· = h) w (wr.setCell ⟨h, p + r, none⟩ (.int .u8 ((UInt8.ofNat x).toNat : Int))) := hor.setCell (fun _ => rfl) _
      have hfx' : Hid (putB r (x / 256) ++ (UInt8.ofNat x :: done) = fin) := Lib.hid (by rw [← hfx.out, putB_succ]; simp)
      generalize ((lay l (p + (r + 1)) done)[p + r]).toNat = z at c1
      replace hll := Lib.hid hll
      have hi1 : ((((r + 1 : Nat) : Int)) - 1) = (r : Int) := by omega
      rw [hi1]
      clear hi1
      generalize (UInt8.ofNat x).toNat = bb at *
      generalize hxd : x / 256 = xd at *
      replace hxd := Lib.hid hxd
      go_wp2
      go_roundw
      case rel => exact ⟨r, xd, _, by simp only [List.length_cons]; omega, hlt2, by go_num, by go_num, hfx', hset, hor1, Lib.hid ((World.size_setCell _ _ _).trans hsr.out)⟩
      case measure => simp [intOf] <;> omega
theorem putNo_long (w : World) (g h page : Nat) (l : List UInt8) (a : At w g h page l) (at_ : Int) (n : Nat) (ha : inI64 at_) (hno : ¬ There page l.length at_ 8) :
    Calls Try.prog 43 #[.pointer (some ⟨g, 0, none⟩), .int .i64 at_, .int .u64 (n : Int)] w fun e w' => e = .returned (.int .i64 20) ∧ ∃ m, w.drewN m = w' := by
  have C := Lib.hid (thereNo w g h page l a at_ 8 ha (by unfold inI64; omega) hno)
  have E := Lib.hid width_long
  go_enter Try.func43, Try.ntmps43
  go_wp2_with fail
  refine (E.out _).mono ?_
  rintro e w' ⟨rfl, rfl⟩
  go_wp2_with fail
  refine C.out.mono ?_
  rintro e w' ⟨rfl, m, rfl⟩
  go_wp2
  go_ret
  exact ⟨rfl, _, rfl⟩
theorem putNil_long (w : World) (at_ : Int) (n : Nat) :
    Calls Try.prog 43 #[.pointer none, .int .i64 at_, .int .u64 (n : Int)] w fun e w' => e = .returned (.int .i64 1) ∧ w = w' := by
  go_enter Try.func43, Try.ntmps43
  go_wp2
  go_ret
  exact ⟨rfl, rfl⟩
set_option maxHeartbeats 400000 in
theorem putYes_long (w : World) (g h page : Nat) (l : List UInt8) (a : At w g h page l) (at_ : Int) (n : Nat) (hn : n < 18446744073709551616) (hy : There page l.length at_ 8) :
    Calls Try.prog 43 #[.pointer (some ⟨g, 0, none⟩), .int .i64 at_, .int .u64 (n : Int)] w fun e w' => e = .returned (.int .i64 0) ∧ At w' g h page (lay l at_.toNat (putB 8 n)) ∧ Only (· = h) w w' ∧ w'.heap.size = w.heap.size := by
  have C := Lib.hid (thereYes w g h page l a at_ 8 hy)
  have E := Lib.hid width_long
  obtain ⟨q1, q2, q3, q4⟩ := hy
  have hs := a.small
  have hb := a.bytes
  obtain ⟨p, rfl⟩ := Int.eq_ofNat_of_zero_le q1
  simp only [Int.toNat_natCast] at C ⊢
  generalize hB : putB 8 n = fin at *
  have hfl : fin.length = 8 := by rw [← hB, putB_len]
  replace hfl := Lib.hid hfl
  go_enter Try.func43, Try.ntmps43
  go_wp2_with fail
  refine (E.out _).mono ?_
  rintro e w' ⟨rfl, rfl⟩
  go_wp2_with fail
  refine C.out.mono ?_
  rintro e w0 ⟨A, rfl, hA, m, hw0⟩
  obtain rfl := hA (by omega)
  have hb0 : BB w0 5 h l := by rw [← hw0]; exact hb
  have ho0 : Only (· = h) w w0 := by rw [← hw0]; exact (Only.refl _ _).drewN m
  have hs0 : Hid (w0.heap.size = w.heap.size) := by rw [← hw0]; rfl
  clear hw0 C E hA
  replace hB := Lib.hid hB
  go_wp2
  go_loopw [2, 9] (fun v i wr => ∃ (r x : Nat) (done : List UInt8), r + done.length = 8 ∧ x < 18446744073709551616 ∧ i = .int .i64 ((r : Int) - 1) ∧ v = .int .u64 (x : Int) ∧ Hid (putB r x ++ done = fin) ∧ BB wr 5 h (lay l (p + r) done) ∧ Only (· = h) w wr ∧ Hid (wr.heap.size = w.heap.size)) (fun _ i _ => (intOf i + 1).toNat)
  case atStart => exact ⟨8, n, [], rfl, hn, by go_num, rfl, by rw [List.append_nil]; exact hB, by rw [lay_nil]; exact hb0, ho0, hs0⟩
  case round =>
    obtain ⟨r, x, done, hr, hx, rfl, rfl, hfx, hbr, hor, hsr⟩ := hrel
    rcases Nat.eq_zero_or_pos r with hz | hz
    · subst hz
      have hd0 : lay l (p + 0) done = lay l p fin := by rw [← hfx.out]; rfl
      rw [hd0] at hbr
      clear hd0
      go_wp2
      go_ret
      exact ⟨rfl, a.turn hor hbr (lay_len _ _ _ (by rw [hfl.out]; omega)), hor, hsr.out⟩
    · obtain ⟨r, rfl⟩ : ∃ r', r = r' + 1 := ⟨r - 1, by omega⟩
      have hll : (lay l (p + (r + 1)) done).length = l.length := lay_len _ _ _ (by omega)
      have c1 := hbr.cell (p + r) (by omega)
      have c2 := hbr.frozen (p + r)
      have hset := hbr.set (p + r) (UInt8.ofNat x)
      rw [lay_cons l p r done _ (by omega)] at hset
      have hbyte := byte_of x
      have hdiv := div_u64 x hx
      have hlt2 := div_lt x 18446744073709551616 hx
      have hor1 : Only (· = h) w (wr.setCell ⟨h, p + r, none⟩ (.int .u8 ((UInt8.ofNat x).toNat : Int))) := hor.setCell (fun _ => rfl) _
      have hfx' : Hid (putB r (x / 256) ++ (UInt8.ofNat x :: done) = fin) := Lib.hid (by rw [← hfx.out, putB_succ]; simp)
      generalize ((lay l (p + (r + 1)) done)[p + r]).toNat = z at c1
      replace hll := Lib.hid hll
      have hi1 : ((((r + 1 : Nat) : Int)) - 1) = (r : Int) := by omega
      rw [hi1]
      clear hi1
      generalize (UInt8.ofNat x).toNat = bb at *
      generalize hxd : x / 256 = xd at *
      replace hxd := Lib.hid hxd
      go_wp2
      go_roundw
      case rel => exact ⟨r, xd, _, by simp only [List.length_cons]; omega, hlt2, by go_num, by go_num, hfx', hset, hor1, Lib.hid ((World.size_setCell _ _ _).trans hsr.out)⟩
      case measure => simp [intOf] <;> omega
theorem putNo_u64 (w : World) (g h page : Nat) (l : List UInt8) (a : At w g h page l) (at_ : Int) (n : Nat) (ha : inI64 at_) (hno : ¬ There page l.length at_ 8) :
    Calls Try.prog 44 #[.pointer (some ⟨g, 0, none⟩), .int .i64 at_, .int .u64 (n : Int)] w fun e w' => e = .returned (.int .i64 20) ∧ ∃ m, w.drewN m = w' := by
  have C := Lib.hid (thereNo w g h page l a at_ 8 ha (by unfold inI64; omega) hno)
  have E := Lib.hid width_u64
  go_enter Try.func44, Try.ntmps44
  go_wp2_with fail
  refine (E.out _).mono ?_
  rintro e w' ⟨rfl, rfl⟩
  go_wp2_with fail
  refine C.out.mono ?_
  rintro e w' ⟨rfl, m, rfl⟩
  go_wp2
  go_ret
  exact ⟨rfl, _, rfl⟩
theorem putNil_u64 (w : World) (at_ : Int) (n : Nat) :
    Calls Try.prog 44 #[.pointer none, .int .i64 at_, .int .u64 (n : Int)] w fun e w' => e = .returned (.int .i64 1) ∧ w = w' := by
  go_enter Try.func44, Try.ntmps44
  go_wp2
  go_ret
  exact ⟨rfl, rfl⟩
set_option maxHeartbeats 400000 in
theorem putYes_u64 (w : World) (g h page : Nat) (l : List UInt8) (a : At w g h page l) (at_ : Int) (n : Nat) (hn : n < 18446744073709551616) (hy : There page l.length at_ 8) :
    Calls Try.prog 44 #[.pointer (some ⟨g, 0, none⟩), .int .i64 at_, .int .u64 (n : Int)] w fun e w' => e = .returned (.int .i64 0) ∧ At w' g h page (lay l at_.toNat (putB 8 n)) ∧ Only (· = h) w w' ∧ w'.heap.size = w.heap.size := by
  have C := Lib.hid (thereYes w g h page l a at_ 8 hy)
  have E := Lib.hid width_u64
  obtain ⟨q1, q2, q3, q4⟩ := hy
  have hs := a.small
  have hb := a.bytes
  obtain ⟨p, rfl⟩ := Int.eq_ofNat_of_zero_le q1
  simp only [Int.toNat_natCast] at C ⊢
  generalize hB : putB 8 n = fin at *
  have hfl : fin.length = 8 := by rw [← hB, putB_len]
  replace hfl := Lib.hid hfl
  go_enter Try.func44, Try.ntmps44
  go_wp2_with fail
  refine (E.out _).mono ?_
  rintro e w' ⟨rfl, rfl⟩
  go_wp2_with fail
  refine C.out.mono ?_
  rintro e w0 ⟨A, rfl, hA, m, hw0⟩
  obtain rfl := hA (by omega)
  have hb0 : BB w0 5 h l := by rw [← hw0]; exact hb
  have ho0 : Only (· = h) w w0 := by rw [← hw0]; exact (Only.refl _ _).drewN m
  have hs0 : Hid (w0.heap.size = w.heap.size) := by rw [← hw0]; rfl
  clear hw0 C E hA
  replace hB := Lib.hid hB
  go_wp2
  go_loopw [2, 9] (fun v i wr => ∃ (r x : Nat) (done : List UInt8), r + done.length = 8 ∧ x < 18446744073709551616 ∧ i = .int .i64 ((r : Int) - 1) ∧ v = .int .u64 (x : Int) ∧ Hid (putB r x ++ done = fin) ∧ BB wr 5 h (lay l (p + r) done) ∧ Only (· = h) w wr ∧ Hid (wr.heap.size = w.heap.size)) (fun _ i _ => (intOf i + 1).toNat)
  case atStart => exact ⟨8, n, [], rfl, hn, by go_num, rfl, by rw [List.append_nil]; exact hB, by rw [lay_nil]; exact hb0, ho0, hs0⟩
  case round =>
    obtain ⟨r, x, done, hr, hx, rfl, rfl, hfx, hbr, hor, hsr⟩ := hrel
    rcases Nat.eq_zero_or_pos r with hz | hz
    · subst hz
      have hd0 : lay l (p + 0) done = lay l p fin := by rw [← hfx.out]; rfl
      rw [hd0] at hbr
      clear hd0
      go_wp2
      go_ret
      exact ⟨rfl, a.turn hor hbr (lay_len _ _ _ (by rw [hfl.out]; omega)), hor, hsr.out⟩
    · obtain ⟨r, rfl⟩ : ∃ r', r = r' + 1 := ⟨r - 1, by omega⟩
      have hll : (lay l (p + (r + 1)) done).length = l.length := lay_len _ _ _ (by omega)
      have c1 := hbr.cell (p + r) (by omega)
      have c2 := hbr.frozen (p + r)
      have hset := hbr.set (p + r) (UInt8.ofNat x)
      rw [lay_cons l p r done _ (by omega)] at hset
      have hbyte := byte_of x
      have hdiv := div_u64 x hx
      have hlt2 := div_lt x 18446744073709551616 hx
      have hor1 : Only (· = h) w (wr.setCell ⟨h, p + r, none⟩ (.int .u8 ((UInt8.ofNat x).toNat : Int))) := hor.setCell (fun _ => rfl) _
      have hfx' : Hid (putB r (x / 256) ++ (UInt8.ofNat x :: done) = fin) := Lib.hid (by rw [← hfx.out, putB_succ]; simp)
      generalize ((lay l (p + (r + 1)) done)[p + r]).toNat = z at c1
      replace hll := Lib.hid hll
      have hi1 : ((((r + 1 : Nat) : Int)) - 1) = (r : Int) := by omega
      rw [hi1]
      clear hi1
      generalize (UInt8.ofNat x).toNat = bb at *
      generalize hxd : x / 256 = xd at *
      replace hxd := Lib.hid hxd
      go_wp2
      go_roundw
      case rel => exact ⟨r, xd, _, by simp only [List.length_cons]; omega, hlt2, by go_num, by go_num, hfx', hset, hor1, Lib.hid ((World.size_setCell _ _ _).trans hsr.out)⟩
      case measure => simp [intOf] <;> omega
end Go.Proofs.Ytnjobnccknpaeaa.Arena
