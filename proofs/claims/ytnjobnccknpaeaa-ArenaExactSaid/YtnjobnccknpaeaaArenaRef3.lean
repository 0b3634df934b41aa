/-
  The walks of the document's Get and Put.
-/
import Derived.Test.YtnjobnccknpaeaaArenaRef2
import Derived.Test.YtnjobnccknpaeaaArenaNum
namespace Go.Proofs.Ytnjobnccknpaeaa.Arena
open Go.RowKit Base
set_option linter.unusedVariables false

theorem refGetNo (w : World) (g h page : Nat) (l : List UInt8) (a : AtR w g h page l) (at_ n : Int) (ha : inI64 at_) (hn : inI64 n) (hno : ¬ There page l.length at_ n) :
    Calls Try.prog 65 #[.pointer (some ⟨g, 0, none⟩), .int .i64 at_, .int .i64 n] w fun e w' => e = .returned (.tuple #[.int .u64 0, .int .i64 20]) ∧ ∃ m, w.drewN m = w' := by
  have C := Lib.hid (refThereNot w g h page l a at_ n ha hn hno)
  clear hno a
  go_enter Try.func65, Try.ntmps65
  go_wp2_with fail
  refine C.out.mono ?_
  rintro e w' ⟨rfl, m, rfl⟩
  go_wp2
  go_ret2
  exact ⟨rfl, m, rfl⟩
set_option maxRecDepth 100000 in
theorem refGetYes (w : World) (g h page : Nat) (l : List UInt8) (a : AtR w g h page l) (at_ : Int) (k8 : Nat) (hk8 : k8 ≤ 8) (hy : There page l.length at_ k8) :
    Calls Try.prog 65 #[.pointer (some ⟨g, 0, none⟩), .int .i64 at_, .int .i64 (k8 : Int)] w fun e w' =>
      e = .returned (.tuple #[.int .u64 (beN ((l.drop at_.toNat).take k8) : Int), .int .i64 0]) ∧ ∃ m, w.drewN m = w' := by
  have C := Lib.hid (refThereYes w g h page l a at_ k8 hy)
  obtain ⟨q1, q2, q3, q4⟩ := hy
  have hs := a.small
  obtain ⟨p, rfl⟩ := Int.eq_ofNat_of_zero_le q1
  simp only [Int.toNat_natCast] at C ⊢
  go_enter Try.func65, Try.ntmps65
  go_wp2_with fail
  refine C.out.mono ?_
  rintro e w0 ⟨rfl, m, hw0⟩
  have a0 : AtR w0 g h page l := by rw [← hw0]; exact a.drewN m
  replace hw0 := Lib.hid hw0
  clear C a
  have c1 := a0.cell1
  go_wp2_with fail
  go_loop [8, 9] (fun s8 s9 => ∃ k : Nat, k ≤ k8 ∧ s9 = .int .i64 (k : Int) ∧ s8 = .int .u64 (beN ((l.drop p).take k) : Int)) (fun _ s9 => k8 - (intOf s9).toNat)
  case atStart => exact ⟨0, by omega, rfl, rfl⟩
  case round =>
    obtain ⟨k, hk, rfl, rfl⟩ := hrel
    by_cases hlt : k < k8
    · have hz : (l.drop p)[k]? = some (l[p + k]'(by omega)) := by rw [List.getElem?_drop, List.getElem?_eq_getElem (by omega)]
      have hb := Lib.hid (beN_take' (l.drop p) k _ hz)
      have hl1 : ((l.drop p).take k).length = k := by simp; omega
      have hl2 : ((l.drop p).take (k + 1)).length = k + 1 := by simp; omega
      have h1 := beN_lt ((l.drop p).take k)
      have h2 := beN_lt ((l.drop p).take (k + 1))
      rw [hl1] at h1
      rw [hl2] at h2
      have p1 : 256 ^ k ≤ 256 ^ 7 := Nat.pow_le_pow_right (by decide) (by omega)
      have p2 : 256 ^ (k + 1) ≤ 256 ^ 8 := Nat.pow_le_pow_right (by decide) (by omega)
      have c2 := a0.bytes.cell (p + k) (by omega)
      have hx := (l[p + k]'(by omega)).toNat_lt
      rw [hb.out] at h2
      have hbig : (256 : Nat) ^ 8 = 18446744073709551616 := rfl
      have hbig7 : (256 : Nat) ^ 7 = 72057594037927936 := rfl
      rw [hbig] at p2
      rw [hbig7] at p1
      generalize beN ((l.drop p).take k) = X at *
      generalize (l[p + k]'(by omega)).toNat = x at *
      have b1 : X < 72057594037927936 := Nat.lt_of_lt_of_le h1 p1
      have b2 : X * 256 + x < 18446744073709551616 := Nat.lt_of_lt_of_le h2 p2
      clear h1 h2 p1 p2 hbig hbig7 hl1 hl2 hz
      go_wp2
      go_round
      case rel => exact ⟨k + 1, by omega, by go_num, by rw [hb.out]; go_num⟩
      case measure => simp [intOf]; omega
    · obtain rfl : k8 = k := by omega
      go_wp2
      go_ret2
      exact ⟨rfl, m, hw0.out⟩
theorem refPutNo (w : World) (g h page : Nat) (l : List UInt8) (a : AtR w g h page l) (at_ n : Int) (v : Nat) (ha : inI64 at_) (hn : inI64 n) (hno : ¬ There page l.length at_ n) :
    Calls Try.prog 58 #[.pointer (some ⟨g, 0, none⟩), .int .i64 at_, .int .i64 n, .int .u64 (v : Int)] w fun e w' => e = .returned (.int .i64 20) ∧ ∃ m, w.drewN m = w' := by
  have C := Lib.hid (refThereNot w g h page l a at_ n ha hn hno)
  clear hno a
  go_enter Try.func58, Try.ntmps58
  go_wp2_with fail
  refine C.out.mono ?_
  rintro e w' ⟨rfl, m, rfl⟩
  go_wp2
  go_ret
  exact ⟨rfl, m, rfl⟩
set_option maxRecDepth 100000 in
theorem refPutYes (w : World) (g h page : Nat) (l : List UInt8) (a : AtR w g h page l) (at_ : Int) (k8 v : Nat) (hv : v < 18446744073709551616) (hk8 : k8 ≤ 8) (hy : There page l.length at_ k8) :
    Calls Try.prog 58 #[.pointer (some ⟨g, 0, none⟩), .int .i64 at_, .int .i64 (k8 : Int), .int .u64 (v : Int)] w fun e w' =>
      e = .returned (.int .i64 0) ∧ AtR w' g h page (lay l at_.toNat (putB k8 v)) ∧ Only (· = h) w w' ∧ w'.heap.size = w.heap.size := by
  have C := Lib.hid (refThereYes w g h page l a at_ k8 hy)
  obtain ⟨q1, q2, q3, q4⟩ := hy
  have hs := a.small
  obtain ⟨p, rfl⟩ := Int.eq_ofNat_of_zero_le q1
  simp only [Int.toNat_natCast] at C ⊢
  go_enter Try.func58, Try.ntmps58
  go_wp2_with fail
  refine C.out.mono ?_
  rintro e w0 ⟨rfl, m, hw0⟩
  have a0 : AtR w0 g h page l := by rw [← hw0]; exact a.drewN m
  have ho0 : Only (· = h) w w0 := by rw [← hw0]; exact (Only.refl _ _).drewN m
  have hs0 : w0.heap.size = w.heap.size := by rw [← hw0]; rfl
  clear C hw0 a
  replace hs0 := Lib.hid hs0
  go_wp2_with fail
  go_loopw [3, 9] (fun s3 i wr => ∃ (r n : Nat) (done : List UInt8), r ≤ k8 ∧ n < 18446744073709551616 ∧ s3 = .int .u64 (n : Int) ∧ i = .int .i64 ((r : Int) - 1) ∧ done.length = k8 - r ∧ putB r n ++ done = putB k8 v ∧ AtR wr g h page (lay l (p + r) done) ∧ Only (· = h) w wr ∧ Hid (wr.heap.size = w.heap.size)) (fun _ i _ => (intOf i + 1).toNat)
  case atStart => exact ⟨k8, v, [], Nat.le_refl _, hv, rfl, rfl, by simp, by simp, by simpa [lay] using a0, ho0, hs0⟩
  case round =>
    obtain ⟨r, n, done, hr, hn, rfl, rfl, hd, hput, ak, hok, hsk⟩ := hrel
    clear a0 ho0 hs0
    have hll : (lay l (p + r) done).length = l.length := lay_len _ _ _ (by omega)
    rcases r with _ | r
    · have hd0 : decide ((0 : Int) ≤ (((0 : Nat) : Int) - 1)) = false := by simp
      have hp0 : done = putB k8 v := hput
      rw [hp0, Nat.add_zero] at ak
      clear hput hp0
      go_wp2
      go_ret
      exact ⟨rfl, ak, hok, hsk.out⟩
    · have c1 := ak.cell1
      have hbk := ak.bytes
      have c2 := hbk.cell (p + r) (by omega)
      have c3 := hbk.frozen (p + r)
      have hset := hbk.set (p + r) (UInt8.ofNat n)
      have hl2 : ((lay l (p + (r + 1)) done).set (p + r) (UInt8.ofNat n)).length = (lay l (p + (r + 1)) done).length := List.length_set
      rw [lay_cons l p r done _ (by omega)] at hset hl2
      have ho1 : Only (· = h) wr (wr.setCell ⟨h, p + r, none⟩ (.int .u8 ((UInt8.ofNat n).toNat : Int))) := (Only.refl (· = h) wr).setCell (fun _ => rfl) _
      have a1 := ak.turn ho1 hset hl2
      have ho2 := hok.trans ho1 (fun _ _ h => h)
      have hsz := hsk.out
      have hs1 : (wr.setCell ⟨h, p + r, none⟩ (.int .u8 ((UInt8.ofNat n).toNat : Int))).heap.size = w.heap.size := (World.size_setCell _ _ _).trans hsz
      have en : ((UInt8.ofNat n).toNat : Int) = (n : Int) % 256 := by rw [ofNat_toNat]; rfl
      rw [en] at a1 ho2 hs1
      rw [hll] at c1
      have hp2 : putB r (n / 256) ++ (UInt8.ofNat n :: done) = putB k8 v := by rw [← hput, putB_succ]; simp
      have ei : ((r + 1 : Nat) : Int) - 1 = (r : Int) := by omega
      rw [ei]
      have hd2 : (UInt8.ofNat n :: done).length = k8 - r := by simp; omega
      generalize UInt8.ofNat n :: done = done2 at *
      generalize ((lay l (p + (r + 1)) done)[p + r]).toNat = z at c2
      replace hll := Lib.hid hll
      replace hp2 := Lib.hid hp2
      replace hd2 := Lib.hid hd2
      replace a1 := Lib.hid a1
      replace hs1 := Lib.hid hs1
      clear hset hl2 hbk ak ho1 hput hd en ei hsz
      go_wp2_with fail
      go_roundw
      case rel => exact ⟨r, n / 256, done2, by omega, by omega, by go_num, rfl, hd2.out, hp2.out, a1.out, ho2, hs1⟩
      case measure => simp [intOf]
end Go.Proofs.Ytnjobnccknpaeaa.Arena
