/-
  Walks of the reference's Times, Xor, Down, On, Sum, Mix, Slot, Point: each computes what the program's own function computes; the world is left alone.
-/
import Derived.Test.YtbcohjddnelldaaDoorHashSumWalks
namespace Go.Proofs.YtbcohjddnelldaaDoor.HashR
open Go.RowKit HashPlain Base HashW

theorem timesC (a b : Nat) (ha : a < M64) (hb : b < M64) (w : World) : Calls Tryd.prog 23 #[.int .u64 (a : Int), .int .u64 (b : Int)] w fun e w' => e = .returned (.int .u64 ((timesN a b : Nat) : Int)) ∧ w = w' := by
  have h0 : TimesInv (timesN a b) 0 a b := times_start a b ha hb
  generalize timesN a b = p at *
  go_enter Tryd.func23, Tryd.ntmps23
  go_wp2
  go_loop [0, 1, 5] (fun x y s => ∃ n a b : Nat, TimesInv p n a b ∧ x = .int .u64 a ∧ y = .int .u64 b ∧ s = .int .u64 n) (fun _ y _ => (intOf y).toNat)
  case atStart => exact ⟨0, a, b, h0, rfl, rfl, rfl⟩
  case round =>
    obtain ⟨n, a, b, hi, rfl, rfl, rfl⟩ := hrel
    have hn := hi.1
    have ha := hi.2.1
    have hb := hi.2.2.1
    unfold M64 at hn ha hb
    by_cases hz : 0 < b
    · rcases Nat.mod_two_eq_zero_or_one b with ho | ho
      · have hj := times_even hi ho
        have ho' : ((b : Int) % 2 == 1) = false := by rw [beq_eq_false_iff_ne]; omega
        clear ho
        go_wp2
        go_round
        case rel => exact ⟨_, _, _, hj, by go_num, by go_num, rfl⟩
        case measure => simp [intOf]; omega
      · have hj := times_odd hi ho
        have ho' : ((b : Int) % 2 == 1) = true := by rw [beq_iff_eq]; omega
        clear ho
        go_wp2
        go_round
        case rel => exact ⟨_, _, _, hj, by go_num, by go_num, by go_num⟩
        case measure => simp [intOf]; omega
    · obtain rfl : b = 0 := by omega
      have he := Lib.hid (times_end hi)
      go_wp2
      go_ret
      exact ⟨ret_int (by rw [he.out]), rfl⟩

theorem xorC (a b : Nat) (ha : a < M64) (hb : b < M64) (w : World) : Calls Tryd.prog 24 #[.int .u64 (a : Int), .int .u64 (b : Int)] w fun e w' => e = .returned (.int .u64 ((xorN a b : Nat) : Int)) ∧ w = w' := by
  have h0 := xor_start a b ha hb
  go_enter Tryd.func24, Tryd.ntmps24
  go_wp2
  go_loop [0, 1, 5, 6] (fun x y s o => ∃ i n one a' b' : Nat, XorInv a b i n one a' b' ∧ x = .int .u64 a' ∧ y = .int .u64 b' ∧ s = .int .u64 n ∧ o = .int .u64 one) (fun x y _ _ => (intOf x).toNat + (intOf y).toNat)
  case atStart => exact ⟨0, 0, 1, a, b, h0, rfl, rfl, rfl, rfl⟩
  case round =>
    obtain ⟨i, n, one, a', b', hi, rfl, rfl, rfl, rfl⟩ := hrel
    obtain ⟨l1, l2, l3, l4⟩ := hi.bounds
    unfold M64 at l1 l2 l3 l4
    by_cases hz : 0 < a' ∨ 0 < b'
    · by_cases ho : a' % 2 = b' % 2
      · have hj := xor_like hi hz ho
        have ho' : (((a' : Int) % 2) != ((b' : Int) % 2)) = false := by rw [bne_eq_false_iff_eq]; omega
        clear ho
        by_cases ha' : 0 < a'
        · go_wp2
          go_round
          case rel => exact ⟨_, _, _, _, _, hj, by go_num, by go_num, rfl, by go_num⟩
          case measure => simp [intOf]; omega
        · have hb' : 0 < b' := by omega
          go_wp2
          go_round
          case rel => exact ⟨_, _, _, _, _, hj, by go_num, by go_num, rfl, by go_num⟩
          case measure => simp [intOf]; omega
      · have hj := xor_unlike hi hz ho
        have ho' : (((a' : Int) % 2) != ((b' : Int) % 2)) = true := by rw [bne_iff_ne]; omega
        clear ho
        by_cases ha' : 0 < a'
        · go_wp2
          go_round
          case rel => exact ⟨_, _, _, _, _, hj, by go_num, by go_num, by go_num, by go_num⟩
          case measure => simp [intOf]; omega
        · have hb' : 0 < b' := by omega
          go_wp2
          go_round
          case rel => exact ⟨_, _, _, _, _, hj, by go_num, by go_num, by go_num, by go_num⟩
          case measure => simp [intOf]; omega
    · obtain rfl : a' = 0 := by omega
      obtain rfl : b' = 0 := by omega
      have he := Lib.hid (show n = xorN a b from xor_end hi)
      go_wp2
      go_ret
      exact ⟨ret_int (by rw [he.out]), rfl⟩

theorem downC (h k : Nat) (hh : h < M64) (hk : k < 64) (w : World) : Calls Tryd.prog 19 #[.int .u64 (h : Int), .int .i64 (k : Int)] w fun e w' => e = .returned (.int .u64 ((downN k h : Nat) : Int)) ∧ w = w' := by
  go_enter Tryd.func19, Tryd.ntmps19
  go_wp2
  go_loop [0, 5] (fun x i => ∃ j g : Nat, j ≤ k ∧ Hid (g = h / 2 ^ j) ∧ g < M64 ∧ x = .int .u64 (g : Int) ∧ i = .int .i64 j) (fun _ i => k - (intOf i).toNat)
  case atStart => exact ⟨0, h, by omega, by simp [Hid], hh, rfl, rfl⟩
  case round =>
    obtain ⟨j, g, hj, hg, hm, rfl, rfl⟩ := hrel
    have hg2 : Hid (g / 2 = h / 2 ^ (j + 1)) := by rw [hg.out]; exact half_pow h j
    unfold M64 at hm
    by_cases hlt : j < k
    · go_wp2
      go_round
      case rel => exact ⟨j + 1, g / 2, by omega, hg2, by unfold M64; omega, by go_num, by go_num⟩
      case measure => simp [intOf]; omega
    · obtain rfl : j = k := by omega
      go_wp2
      go_ret
      exact ⟨ret_int (by rw [hg.out]; rfl), rfl⟩

theorem onC (h b : Nat) (hh : h < M64) (hb : b < 256) (w : World) : Calls Tryd.prog 21 #[.int .u64 (h : Int), .int .u8 (b : Int)] w fun e w' => e = .returned (.int .u64 ((onN h b : Nat) : Int)) ∧ w = w' := by
  have hb' : b < M64 := by unfold M64; omega
  have he := Lib.hid (show timesN (xorN h b) 1099511628211 = onN h b from (onN_eq h b).symm)
  go_enter Tryd.func21, Tryd.ntmps21
  go_wp2_with fail
  refine (xorC h b hh hb' _).mono ?_
  rintro e w' ⟨rfl, rfl⟩
  go_wp2_with fail
  refine (timesC (xorN h b) 1099511628211 (xorN_lt _ _ hh hb') (by decide) _).mono ?_
  rintro e w' ⟨rfl, rfl⟩
  go_wp2
  go_ret
  exact ⟨ret_int (by rw [he.out]), rfl⟩

theorem refMixC (h : Nat) (hh : h < M64) (w : World) : Calls Tryd.prog 20 #[.int .u64 (h : Int)] w fun e w' => e = .returned (.int .u64 ((mixN h : Nat) : Int)) ∧ w = w' := by
  have he := Lib.hid (mixN_steps h)
  go_enter Tryd.func20, Tryd.ntmps20
  go_wp2_with fail
  refine (downC h 30 hh (by decide) _).mono ?_
  rintro e w' ⟨rfl, rfl⟩
  go_wp2_with fail
  refine (xorC h (downN 30 h) hh (downN_lt _ _ hh) _).mono ?_
  rintro e w' ⟨rfl, rfl⟩
  go_wp2_with fail
  refine (timesC (xorN h (downN 30 h)) K1 (xorN_lt _ _ hh (downN_lt _ _ hh)) (by decide) _).mono ?_
  rintro e w' ⟨rfl, rfl⟩
  have l2 := timesN_lt (xorN h (downN 30 h)) K1
  generalize timesN (xorN h (downN 30 h)) K1 = a at *
  go_wp2_with fail
  refine (downC a 27 l2 (by decide) _).mono ?_
  rintro e w' ⟨rfl, rfl⟩
  go_wp2_with fail
  refine (xorC a (downN 27 a) l2 (downN_lt _ _ l2) _).mono ?_
  rintro e w' ⟨rfl, rfl⟩
  go_wp2_with fail
  refine (timesC (xorN a (downN 27 a)) K2 (xorN_lt _ _ l2 (downN_lt _ _ l2)) (by decide) _).mono ?_
  rintro e w' ⟨rfl, rfl⟩
  have l4 := timesN_lt (xorN a (downN 27 a)) K2
  generalize timesN (xorN a (downN 27 a)) K2 = b at *
  go_wp2_with fail
  refine (downC b 31 l4 (by decide) _).mono ?_
  rintro e w' ⟨rfl, rfl⟩
  go_wp2_with fail
  refine (xorC b (downN 31 b) l4 (downN_lt _ _ l4) _).mono ?_
  rintro e w' ⟨rfl, rfl⟩
  go_wp2
  go_ret
  exact ⟨ret_int (by rw [he.out]), rfl⟩

theorem refPointC (h : Nat) (hh : h < M64) (w : World) : Calls Tryd.prog 15 #[.int .u64 (h : Int)] w fun e w' => e = .returned (.int .u32 ((pointN h : Nat) : Int)) ∧ w = w' := by
  have hm := mixN_lt h
  have hd := downN_lt 32 _ hm
  have he := Lib.hid (show pointN h = downN 32 (mixN h) from rfl)
  have hp : downN 32 (mixN h) < 4294967296 := by
    unfold M64 at hm
    show mixN h / 4294967296 < _
    omega
  go_enter Tryd.func15, Tryd.ntmps15
  go_wp2_with fail
  refine (refMixC h hh _).mono ?_
  rintro e w' ⟨rfl, rfl⟩
  go_wp2_with fail
  refine (downC (mixN h) 32 hm (by decide) _).mono ?_
  rintro e w' ⟨rfl, rfl⟩
  generalize downN 32 (mixN h) = d at *
  go_wp2
  go_ret
  exact ⟨ret_int (by rw [he.out]), rfl⟩

theorem refSumC (A : Option Addr) (c B : Nat) (l : List UInt8) (w : World) (hB : Bytes w B A l) (hl : l.length ≤ maxLen) : Calls Tryd.prog 16 #[.slice A l.length c] w fun e w' => e = .returned (.int .u64 ((sumB Begin l : Nat) : Int)) ∧ w = w' := by
  unfold maxLen at hl
  go_enter Tryd.func16, Tryd.ntmps16
  go_wp2
  go_loop [3, 4] (fun h i => ∃ k : Nat, k ≤ l.length ∧ i = .int .i64 k ∧ h = .int .u64 ((sumB Begin (l.take k) : Nat) : Int)) (fun _ i => l.length - (intOf i).toNat)
  case atStart => exact ⟨0, Nat.zero_le _, rfl, rfl⟩
  case round =>
    obtain ⟨k, hk, rfl, rfl⟩ := hrel
    by_cases hlt : k < l.length
    · obtain ⟨bb, off, rfl, hb, hc⟩ := hB.at_ k hlt
      have hs := Lib.hid (sumB_take Begin l k hlt)
      have hm := sumB_lt Begin (l.take k) (by decide)
      have hx := byte_lt l[k]
      generalize sumB Begin (l.take k) = s at *
      generalize l[k].toNat = x at *
      go_wp2_with fail
      refine (onC s x hm hx _).mono ?_
      rintro e w' ⟨rfl, rfl⟩
      go_wp2
      go_round
      case rel => exact ⟨k + 1, by omega, by go_num, by rw [hs.out]⟩
      case measure => simp [intOf]; omega
    · obtain rfl : k = l.length := by omega
      go_wp2
      go_ret
      exact ⟨rfl, rfl⟩
end Go.Proofs.YtbcohjddnelldaaDoor.HashR
