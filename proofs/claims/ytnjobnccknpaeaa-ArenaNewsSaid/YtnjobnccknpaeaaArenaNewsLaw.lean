/-
  The walk of the law ArenaNews.
-/
import Derived.Test.YtnjobnccknpaeaaArenaNo
import Derived.Test.YtnjobnccknpaeaaArenaWakes
namespace Go.Proofs.Ytnjobnccknpaeaa.Arena
open Go.RowKit Base
set_option linter.unusedVariables false

/-- The slice holds the pairs, two cells each. -/
def PairsAt (w : World) (A : Option Addr) (l : List (Int × Int)) : Prop := ∀ (k : Nat) (hk : k < l.length), ∃ b off, A = some ⟨b, off, none⟩ ∧ b < w.heap.size ∧ inI64 (l[k]).1 ∧ inI64 (l[k]).2 ∧
  w.cell? ⟨b, off + k * 2, none⟩ = some (.int .i64 (l[k]).1) ∧ w.cell? ⟨b, off + k * 2 + 1, none⟩ = some (.int .i64 (l[k]).2)
/-- The pages asked, in turn. -/
def kk (j : Nat) : Nat := 4096 * 2 ^ j
def rb (p n : Int) : Nat → Bool
  | 0 => false
  | j + 1 => rb p n j || (decide (p = (kk j : Int)) && decide (1 ≤ n) && decide (n ≤ 1024))
theorem rb_had (p n : Int) : rb p n 9 = true ↔ Had p n := by
  have h : rb p n 9 = true ↔ (p = 4096 ∨ p = 8192 ∨ p = 16384 ∨ p = 32768 ∨ p = 65536 ∨ p = 131072 ∨ p = 262144 ∨ p = 524288 ∨ p = 1048576) ∧ 1 ≤ n ∧ n ≤ 1024 := by
    have e0 : rb p n 1 = (rb p n 0 || (decide (p = (4096 : Int)) && decide (1 ≤ n) && decide (n ≤ 1024))) := rfl
    have e1 : rb p n 2 = (rb p n 1 || (decide (p = (8192 : Int)) && decide (1 ≤ n) && decide (n ≤ 1024))) := rfl
    have e2 : rb p n 3 = (rb p n 2 || (decide (p = (16384 : Int)) && decide (1 ≤ n) && decide (n ≤ 1024))) := rfl
    have e3 : rb p n 4 = (rb p n 3 || (decide (p = (32768 : Int)) && decide (1 ≤ n) && decide (n ≤ 1024))) := rfl
    have e4 : rb p n 5 = (rb p n 4 || (decide (p = (65536 : Int)) && decide (1 ≤ n) && decide (n ≤ 1024))) := rfl
    have e5 : rb p n 6 = (rb p n 5 || (decide (p = (131072 : Int)) && decide (1 ≤ n) && decide (n ≤ 1024))) := rfl
    have e6 : rb p n 7 = (rb p n 6 || (decide (p = (262144 : Int)) && decide (1 ≤ n) && decide (n ≤ 1024))) := rfl
    have e7 : rb p n 8 = (rb p n 7 || (decide (p = (524288 : Int)) && decide (1 ≤ n) && decide (n ≤ 1024))) := rfl
    have e8 : rb p n 9 = (rb p n 8 || (decide (p = (1048576 : Int)) && decide (1 ≤ n) && decide (n ≤ 1024))) := rfl
    have z : rb p n 0 = false := rfl
    rw [e8, e7, e6, e5, e4, e3, e2, e1, e0, z]
    simp only [Bool.or_eq_true, Bool.and_eq_true, decide_eq_true_eq, Bool.false_eq_true, false_or]
    clear e0 e1 e2 e3 e4 e5 e6 e7 e8 z
    omega
  rw [h]
  unfold Had RightPage
  constructor
  · rintro ⟨h1, h2, h3⟩
    exact ⟨⟨p.toNat, by omega, by omega⟩, h2, h3⟩
  · rintro ⟨⟨k, rfl, h1⟩, h2, h3⟩
    exact ⟨by omega, h2, h3⟩
theorem kk_step (j : Nat) : kk (j + 1) = 2 * kk j := by unfold kk; rw [Nat.pow_succ]; omega
theorem kk_low {j : Nat} (h : j < 9) : kk j ≤ 1048576 := by
  unfold kk
  have := Nat.pow_le_pow_right (n := 2) (by decide) (show j ≤ 8 by omega)
  omega
theorem kk_pos (j : Nat) : 4096 ≤ kk j := by
  unfold kk
  have := Nat.pow_le_pow_right (n := 2) (by decide) (show 0 ≤ j by omega)
  omega
theorem kk_nine : kk 9 = 2097152 := rfl

set_option maxRecDepth 100000 in
set_option maxHeartbeats 6400000 in
theorem newsC (w : World) (A : Option Addr) (c : Nat) (l : List (Int × Int)) (hT : PairsAt w A l) (hl : l.length ≤ maxLen) :
    Calls Try.prog 6 #[.slice A l.length c] w fun e w' => e = .returned (.bool true) ∧ Below w.heap.size w w' := by
  unfold maxLen at hl
  have WK := Lib.hid wakesC
  have num0 := Lib.hid (numC 0 (by unfold inI64; omega))
  have num1 := Lib.hid (numC 1 (by unfold inI64; omega))
  have NY := Lib.hid newYes
  have NN := Lib.hid newNo
  replace hT := Lib.hid hT
  go_enter Try.func6, Try.ntmps6
  generalize hN : w.heap.size = N at *
  replace hN := Lib.hid hN
  go_wp2_with fail
  go_loopw [3] (fun i wr => ∃ k : Nat, k ≤ l.length ∧ i = .int .i64 (k : Int) ∧ Below N w wr ∧ N ≤ wr.heap.size) (fun i _ => l.length - (intOf i).toNat)
  case atStart => exact ⟨0, Nat.zero_le _, rfl, Below.refl _ _, by rw [hN.out]; exact Nat.le_refl _⟩
  case round =>
    obtain ⟨k, hk, rfl, hb, hsz⟩ := hrel
    by_cases hlt : k < l.length ∧ k < 50
    · obtain ⟨hk1, hk2⟩ := hlt
      have hd50 : decide ((k : Int) < 50) = true := by simp; omega
      obtain ⟨b, off, rfl, hbl, i1, i2, c0, c1⟩ := hT.out k hk1
      rw [hN.out] at hbl
      replace c0 := (hb.cell (p := ⟨b, off + k * 2, none⟩) hbl).trans c0
      replace c1 := (hb.cell (p := ⟨b, off + k * 2 + 1, none⟩) hbl).trans c1
      generalize (l[k]).1 = p at *
      generalize (l[k]).2 = n at *
      go_wp2_with fail
      go_quiet (fail)
      have hbq : Below N w (wr.drewN nq) := below_drewN hb nq
      have hsq : N ≤ (wr.drewN nq).heap.size := hsz
      clear c0 c1 hb hsz
      generalize wr.drewN nq = wq at *
      go_wp2_with fail
      go_loop [6, 7] (fun r s => ∃ j : Nat, j ≤ 9 ∧ r = .bool (rb p n j) ∧ s = .int .i64 (kk j : Int)) (fun _ s => 2097152 - (intOf s).toNat)
      case atStart => exact ⟨0, by omega, rfl, rfl⟩
      case round =>
        obtain ⟨j, hj, rfl, rfl⟩ := hrel
        by_cases h9 : j < 9
        · have k1 := kk_low h9
          have k2 := kk_pos j
          have k3 := kk_step j
          have e0 : rb p n (j + 1) = (rb p n j || (decide (p = (kk j : Int)) && decide (1 ≤ n) && decide (n ≤ 1024))) := rfl
          generalize rb p n j = r at *
          replace k3 := Lib.hid k3
          generalize hkj : kk j = q at *
          replace hkj := Lib.hid hkj
          have d0 : decide ((q : Int) ≤ 1048576) = true := by simp; omega
          cases r with
          | true =>
            rw [Bool.true_or] at e0
            replace e0 := Lib.hid e0
            go_wp2
            go_round
            case rel => exact ⟨j + 1, by omega, by rw [e0.out], by rw [k3.out]; go_num⟩
            case measure => simp [intOf]; omega
          | false =>
            rw [Bool.false_or] at e0
            by_cases e1 : p = (q : Int)
            · have b1 : (p == (q : Int)) = true := by simpa using e1
              have b1' : decide (p = (q : Int)) = true := by simpa using e1
              rw [b1', Bool.true_and] at e0
              replace e1 := Lib.hid e1
              by_cases e2 : 1 ≤ n
              · have b2 : decide (1 ≤ n) = true := decide_eq_true e2
                rw [b2, Bool.true_and] at e0
                by_cases e3 : n ≤ 1024
                · have b3 : decide (n ≤ 1024) = true := decide_eq_true e3
                  rw [b3] at e0
                  replace e0 := Lib.hid e0
                  go_wp2
                  go_round
                  case rel => exact ⟨j + 1, by omega, by rw [e0.out], by rw [k3.out]; go_num⟩
                  case measure => simp [intOf]; omega
                · have b3 : decide (n ≤ 1024) = false := decide_eq_false e3
                  rw [b3] at e0
                  replace e0 := Lib.hid e0
                  go_wp2
                  go_round
                  case rel => exact ⟨j + 1, by omega, by rw [e0.out], by rw [k3.out]; go_num⟩
                  case measure => simp [intOf]; omega
              · have b2 : decide (1 ≤ n) = false := decide_eq_false e2
                rw [b2, Bool.false_and] at e0
                replace e0 := Lib.hid e0
                go_wp2
                go_round
                case rel => exact ⟨j + 1, by omega, by rw [e0.out], by rw [k3.out]; go_num⟩
                case measure => simp [intOf]; omega
            · have b1 : (p == (q : Int)) = false := by simpa using e1
              have b1' : decide (p = (q : Int)) = false := by simpa using e1
              rw [b1', Bool.false_and, Bool.false_and] at e0
              replace e0 := Lib.hid e0
              go_wp2
              go_round
              case rel => exact ⟨j + 1, by omega, by rw [e0.out], by rw [k3.out]; go_num⟩
              case measure => simp [intOf]; omega
        · obtain rfl : j = 9 := by omega
          have hr := rb_had p n
          rw [kk_nine]
          have d0 : decide ((2097152 : Int) ≤ 1048576) = false := by simp
          generalize rb p n 9 = r at *
          cases r with
          | false =>
            have NN1 := Lib.hid (NN.out wq p n i1 i2 (fun h => by have := hr.2 h; simp at this))
            clear hr
            go_wp2_with fail
            refine NN1.out.mono ?_
            rintro e w' ⟨rfl, rfl⟩
            go_wp2_with fail
            refine (num1.out _).mono ?_
            rintro e w' ⟨rfl, rfl⟩
            go_wp2
            go_roundw
            case rel => exact ⟨k + 1, by omega, by go_num, hbq, hsq⟩
            case measure => simp [intOf]; omega
          | true =>
            obtain ⟨⟨P, rfl, hP⟩, n1, n2⟩ := hr.1 rfl
            clear hr
            obtain ⟨m, hm⟩ := Int.eq_ofNat_of_zero_le (show 0 ≤ n - 1 by omega)
            obtain rfl : n = ((m + 1 : Nat) : Int) := by omega
            have hPb := hP.bd
            have hPz : (P : Int) ≠ 0 := by omega
            have hNY := NY.out wq P (m + 1) hP (by omega) (by omega)
            replace hNY := Lib.hid hNY
            obtain ⟨q, hq⟩ : ∃ q : Int, q = (4194304 : Int).tdiv (P : Int) := ⟨_, rfl⟩
            have hq0 : 0 ≤ q := by rw [hq]; exact Int.tdiv_nonneg (by decide) (by omega)
            have hq1 : q ≤ 4194304 := by rw [hq]; exact Int.tdiv_le_self _ (by decide)
            replace hq := hq.symm
            by_cases hqn : q < ((m + 1 : Nat) : Int)
            · have d2 : decide (q < ((m + 1 : Nat) : Int)) = true := decide_eq_true hqn
              go_wp2
              go_roundw
              case rel => exact ⟨k + 1, by omega, by go_num, hbq, hsq⟩
              case measure => simp [intOf]; omega
            · have d2 : decide (q < ((m + 1 : Nat) : Int)) = false := decide_eq_false hqn
              go_wp2_with fail
              refine hNY.out.mono ?_
              rintro e w1 ⟨rfl, a1, b1, s1⟩
              have hq30 : P * (m + 1) ≤ 1073741824 := by
                have := Nat.mul_le_mul hPb.2 (show m + 1 ≤ 1024 by omega)
                omega
              have hsp : P * (m + 1) = P * m + P := Nat.mul_succ P m
              have l1 : (List.replicate (P * (m + 1)) (0 : UInt8)).length = P * (m + 1) := List.length_replicate
              have z1 : ((List.replicate (P * (m + 1)) (0 : UInt8)).drop (P * m)).take P = List.replicate P 0 := by
                rw [List.drop_replicate, List.take_replicate]
                congr 1
                omega
              generalize List.replicate (P * (m + 1)) (0 : UInt8) = Z at *
              have PS := Lib.hid (pageSizeC w1 _ _ _ _ a1)
              have PG := pagesC w1 _ _ _ _ a1
              rw [l1, Nat.mul_div_cancel_left _ (show 0 < P by omega), Int.natCast_add, Int.natCast_one] at PG
              replace PG := Lib.hid PG
              have X0 : (0 : Int) ≤ (P : Int) * (m : Int) := by rw [← Int.natCast_mul]; omega
              have X1 : (P : Int) * (m : Int) ≤ 1073741824 := by rw [← Int.natCast_mul]; omega
              have Y0 : (0 : Int) ≤ (P : Int) * ((m : Int) + 1) := by rw [Int.mul_add]; omega
              have Y1 : (P : Int) * ((m : Int) + 1) ≤ 1073741824 := by rw [Int.mul_add, ← Int.natCast_mul]; omega
              have gN : wq.heap.size + 2 = w1.heap.size := s1.symm
              have bN1 : Below N wq w1 := b1.mono hsq
              clear b1 s1
              generalize hg : wq.heap.size + 1 = g at *
              generalize hh : wq.heap.size = h at *
              replace gN := Lib.hid gN
              replace hg := Lib.hid hg
              replace hh := Lib.hid hh
              go_wp2_with fail
              refine (num0.out _).mono ?_
              rintro e w' ⟨rfl, rfl⟩
              go_wp2_with fail
              refine PS.out.mono ?_
              rintro e w' ⟨rfl, rfl⟩
              go_wp2_with fail
              refine PG.out.mono ?_
              rintro e w2 ⟨rfl, mq, hw2⟩
              have a2 : At w2 g h P Z := by rw [← hw2]; exact a1.keep rfl rfl
              have b2 : Below N wq w2 := by rw [← hw2]; exact below_drewN bN1 _
              have hs2 : h < w2.heap.size := a2.bytes.lt
              clear a1 bN1
              replace hw2 := Lib.hid hw2
              have LN := lenC w2 _ _ _ _ a2
              rw [l1, Int.natCast_mul, Int.natCast_add, Int.natCast_one] at LN
              replace LN := Lib.hid LN
              go_wp2_with fail
              refine LN.out.mono ?_
              rintro e w' ⟨rfl, rfl⟩
              have hmk : (Instr.makeSlice 38 (.int .i64 (P : Int)) (.int .i64 (P : Int))).run Try.prog w2 = .ok (.slice (some ⟨w2.heap.size, 0, none⟩) P P) (w2.alloc (.cells (madeCells (Value.int .u8 0).cells (P * 1)) 5)) :=
                EI.make eiBytes .i64 .i64 P P (by omega) (by omega) (by omega) w2
              have hm := bb_made w2 P
              have a3 : At (w2.alloc (.cells (madeCells (Value.int .u8 0).cells (P * 1)) 5)) g h P Z := a2.only (Only.of_below ((Below.refl _ _).alloc (Nat.le_refl _) _) (Nat.le_refl _) (fun _ => False)) (fun h => h) (fun h => h)
              have b3 : Below N wq (w2.alloc (.cells (madeCells (Value.int .u8 0).cells (P * 1)) 5)) := b2.alloc (Nat.le_trans hsq (Nat.le_of_lt hs2)) _
              have S := sameYes _ g h P Z a3 ((P * m : Nat) : Int) (some ⟨w2.heap.size, 0, none⟩) P _ (List.replicate P 0) (hm.all (w2.heap.size + 1) (Nat.lt_succ_self _)) ⟨by omega, by omega, by rw [l1, List.length_replicate]; omega, .inr (by rw [List.length_replicate, ← Int.natCast_emod, Nat.mul_mod_right]; omega)⟩
              rw [List.length_replicate, Int.toNat_natCast, z1, beq_self_eq_true, Int.natCast_mul] at S
              replace S := Lib.hid S
              generalize w2.alloc (.cells (madeCells (Value.int .u8 0).cells (P * 1)) 5) = w3 at *
              generalize w2.heap.size = H2 at *
              clear hm a2 a3
              go_wp2_with fail
              refine S.out.mono ?_
              rintro e w4 ⟨rfl, m4, hw4⟩
              have b4 : Below N wq w4 := by rw [← hw4]; exact below_drewN b3 _
              replace hw4 := Lib.hid hw4
              clear b3 b2
              go_wp2
              go_roundw
              case rel => exact ⟨k + 1, by omega, by go_num, hbq.trans b4, Nat.le_trans hsq (by have := b4.size; rw [hh.out] at this; exact this)⟩
              case measure => simp [intOf]; omega
    · have hd : (k < l.length ∧ decide ((k : Int) < 50) = false) ∨ ¬ k < l.length := by
        rcases Nat.lt_or_ge k l.length with h1 | h1
        · exact .inl ⟨h1, by simp; omega⟩
        · exact .inr (by omega)
      have WK1 := Lib.hid (WK.out wr)
      clear hlt
      rcases hd with ⟨d1, d2⟩ | d1
      all_goals
        go_wp2_with fail
        refine WK1.out.mono ?_
        rintro e we ⟨rfl, ob⟩
        go_wp2
        go_ret
        exact ⟨rfl, hb.trans (ob.mono hsz)⟩
end Go.Proofs.Ytnjobnccknpaeaa.Arena
