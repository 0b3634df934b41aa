/-
  The walks of the helpers of the law TideFlush: within, flush, comesTo.
-/
import Derived.Test.YteebcdicocmicaaTideClockLaw
import Derived.Laws.OwnMore
namespace Go.Proofs.Yteebcdicocmicaa.Clk
open Go.RowKit Base
set_option linter.unusedVariables false

theorem tmod_emod' (i n : Int) : i.tmod n % n = i % n := by
  have h := Int.tmod_add_mul_tdiv i n
  conv => rhs; rw [← h]
  rw [Int.add_mul_emod_self_left]
theorem withinC (n lo hi : Int) (w : World) (hn : -9223372036854775808 ≤ n ∧ n < 9223372036854775808) (h1 : 0 ≤ lo) (h2 : lo ≤ hi) (h3 : hi - lo < 4611686018427387904) (h4 : lo ≤ 1000) :
    Calls Try.prog 27 #[.int .i64 n, .int .i64 lo, .int .i64 hi] w fun e w' => e = .returned (.int .i64 (lo + n % (hi - lo + 1))) ∧ w = w' := by
  obtain ⟨hn1, hn2⟩ := hn
  have hm0 : 0 < hi - lo + 1 := by omega
  have t1 := Int.tmod_lt_of_pos n hm0
  have t2 := Int.lt_tmod_of_pos n hm0
  have t3 := Int.emod_nonneg (n.tmod (hi - lo + 1)) (Int.ne_of_gt hm0)
  have t4 := Int.emod_lt_of_pos (n.tmod (hi - lo + 1)) hm0
  have he := Lib.hid (show (n.tmod (hi - lo + 1) + (hi - lo + 1)) % (hi - lo + 1) = n % (hi - lo + 1) by
    have := Int.add_mul_emod_self_left (n.tmod (hi - lo + 1)) (hi - lo + 1) 1
    rw [Int.mul_one] at this
    rw [this]
    exact tmod_emod' n _)
  have hz : hi - lo + 1 ≠ 0 := by omega
  go_enter Try.func27, Try.ntmps27
  go_wp2
  go_ret
  exact ⟨ret_int (a := lo + n.tmod (hi - lo + 1) % (hi - lo + 1)) (by rw [tmod_emod']), rfl⟩

/-- The things' cells. -/
def pairs (L : List (Nat × Bool)) : List Value := L.flatMap fun x => [.int .u64 (x.1 : Int), .bool x.2]
theorem pairs_len (L : List (Nat × Bool)) : (pairs L).length = L.length * 2 := by
  induction L with
  | nil => rfl
  | cons a L ih => simp only [pairs, List.flatMap_cons, List.length_append, List.length_cons] at *; rw [ih]; simp; omega
theorem pairs_append (L M : List (Nat × Bool)) : pairs (L ++ M) = pairs L ++ pairs M := by simp [pairs]
theorem pairs_at (L : List (Nat × Bool)) : ∀ (i : Nat) (hi : i < L.length), (pairs L)[i * 2]? = some (.int .u64 ((L[i]).1 : Int)) ∧ (pairs L)[i * 2 + 1]? = some (.bool (L[i]).2) := by
  induction L with
  | nil => intro i hi; simp at hi
  | cons a L ih =>
    intro i hi
    cases i with
    | zero => exact ⟨rfl, rfl⟩
    | succ i =>
      obtain ⟨h1, h2⟩ := ih i (by simpa using hi)
      have e : pairs (a :: L) = [.int .u64 (a.1 : Int), .bool a.2] ++ pairs L := rfl
      rw [e, List.getElem?_append_right (by simp; omega), List.getElem?_append_right (by simp; omega)]
      simp only [List.length_cons, List.length_nil, List.getElem_cons_succ]
      rw [show (i + 1) * 2 - (0 + 1 + 1) = i * 2 by omega, show (i + 1) * 2 + 1 - (0 + 1 + 1) = i * 2 + 1 by omega]
      exact ⟨h1, h2⟩
theorem pairs_set (L : List (Nat × Bool)) (i : Nat) (hi : i < L.length) (b : Bool) : pairs (L.set i ((L[i]).1, b)) = (pairs L).set (i * 2 + 1) (.bool b) := by
  induction L generalizing i with
  | nil => simp at hi
  | cons a L ih =>
    cases i with
    | zero => rfl
    | succ i =>
      have e : pairs (a :: L) = [.int .u64 (a.1 : Int), .bool a.2] ++ pairs L := rfl
      have e2 : pairs ((a :: L).set (i + 1) (((a :: L)[i + 1]).1, b)) = [.int .u64 (a.1 : Int), .bool a.2] ++ pairs (L.set i ((L[i]'(by simpa using hi)).1, b)) := rfl
      rw [e2, ih i (by simpa using hi), e, List.set_append_right _ _ (by simp; omega)]
      have e3 : (i + 1) * 2 + 1 - ([Value.int .u64 (a.1 : Int), .bool a.2]).length = i * 2 + 1 := by simp; omega
      rw [e3]
def thM (n cut i : Nat) : List (Nat × Bool) := (List.range n).map fun j => (j + 1, decide (j < i) || decide (j + 1 ≤ cut))
def thL (n cut : Nat) : List (Nat × Bool) := thM n cut 0
theorem thM_len (n cut i : Nat) : (thM n cut i).length = n := by simp [thM]
theorem thM_step (n cut i : Nat) (hi : i < n) : thM n cut (i + 1) = (thM n cut i).set i ((((thM n cut i)[i]'(by rw [thM_len]; exact hi))).1, true) := by
  apply List.ext_getElem
  · simp [thM]
  · intro j h1 h2
    simp only [thM, List.getElem_map, List.getElem_range, List.getElem_set]
    by_cases hj : i = j
    · subst hj; simp
    · rw [if_neg hj]
      have : (decide (j < i + 1)) = decide (j < i) := by
        by_cases h : j < i
        · simp [h]; omega
        · simp [h]; omega
      rw [this]
theorem thM_all (n cut : Nat) : thM n cut n = thL n n := by
  apply List.ext_getElem
  · simp [thM, thL]
  · intro j h1 h2
    simp only [thM_len] at h1
    simp only [thM, thL, List.getElem_map, List.getElem_range]
    simp [h1]
    omega
theorem thL_next (n cut : Nat) (h : cut ≤ n) : thL (n + 1) cut = thL n cut ++ [(n + 1, false)] := by
  unfold thL thM
  rw [List.range_succ, List.map_append]
  simp
  omega

/-- The statement's world: its clock, what was stored, the next tick. -/
structure FW (w : World) (B T g : Nat) (hv : Value) (L : List (Nat × Bool)) (cut now nowc comes pend : Int) : Prop where
  head : Blk w T 39 #[ptr g, hv, .int .u64 (L.length : Int), .int .i64 now, .int .i64 comes]
  row : w.ownsRow B 45 2 hv L.length (pairs L)
  ck : Ck w g nowc pend cut
  lo : B ≤ T ∧ B ≤ g
def F3 (T g : Nat) (hv : Value) : Nat → Prop := fun k => k = T ∨ k = g ∨ hv.ownBlock = some k
theorem row_ne {w : World} {base n k : Nat} {size : Nat} {e e' : TypeId} {v : Value} {xs : List Value} {cs : Array Value} (h : w.ownsRow base e size v n xs) (b : Blk w k e' cs) (hne : e ≠ e') : ¬ v.ownBlock = some k := own_blk_ne h b hne

set_option maxRecDepth 100000 in
set_option maxHeartbeats 1600000 in
theorem flushW (w : World) (B T g : Nat) (hv : Value) (n cut0 : Nat) (cut now nowc comes pend : Int) (F : FW w B T g hv (thL n cut0) cut now nowc comes pend) (hn : n < 1073741824) :
    Calls Try.prog 41 #[.pointer (some ⟨T, 0, none⟩)] w fun e w' => e = .returned (.tuple #[]) ∧ FW w' B T g hv (thL n n) cut now nowc comes pend ∧ Only (fun k => hv.ownBlock = some k) w w' := by
  have hlen : (thL n cut0).length = n := thM_len _ _ _
  have c1 : w.cell? ⟨T, 1, none⟩ = some hv := F.head.cell 1
  have F0 : FW w B T g hv (thM n cut0 0) cut now nowc comes pend := F
  rcases Nat.eq_zero_or_pos n with rfl | hn0
  · obtain ⟨A, c, rfl, h1, h2⟩ := Tide.own_len F.row
    rw [hlen] at c1
    have fin := Lib.hid (show FW w B T g (.slice A (thL 0 cut0).length c) (thL 0 0) cut now nowc comes pend from F0)
    clear F F0 hlen h1
    unfold maxLen at h2
    go_enter Try.func41, Try.ntmps41
    go_wp2_with fail
    go_loop [2] (fun s2 => s2 = .int .i64 0) (fun _ => 0)
    case atStart => exact rfl
    case round =>
      subst hrel
      go_wp2
      go_end0
      exact ⟨rfl, fin.out, Only.refl _ _⟩
  obtain ⟨b, cap, hve, hlt0⟩ := F.row.form (by rw [hlen]; exact hn0)
  subst hve
  have hcap : n ≤ cap ∧ cap ≤ maxLen := by
    rcases F.row.2 with ⟨h, _⟩ | ⟨g', c', cur, h, _, _, h1, h2, _⟩
    · cases h
    · injection h with _ _ h
      subst h
      rw [hlen] at h1
      exact ⟨h1, h2⟩
  obtain ⟨hc1, hc2⟩ := hcap
  unfold maxLen at hc2
  rw [hlen] at F0 c1 ⊢
  replace F0 := Lib.hid F0
  clear F c1 hlen
  go_enter Try.func41, Try.ntmps41
  go_wp2_with fail
  go_loopw [2] (fun s2 wr => ∃ i : Nat, i ≤ n ∧ s2 = .int .i64 (i : Int) ∧ FW wr B T g (.slice (some ⟨b, 0, none⟩) n cap) (thM n cut0 i) cut now nowc comes pend ∧ Only (fun k => (Value.slice (some ⟨b, 0, none⟩) n cap).ownBlock = some k) w wr) (fun s2 _ => n - (intOf s2).toNat)
  case atStart => exact ⟨0, Nat.zero_le _, rfl, F0.out, Only.refl _ _⟩
  case round =>
    obtain ⟨i, hi, rfl, f, o⟩ := hrel
    clear F0
    have c1 : wr.cell? ⟨T, 1, none⟩ = some (.slice (some ⟨b, 0, none⟩) n cap) := f.head.cell 1
    have hlen := thM_len n cut0 i
    by_cases hlt : i < n
    · have hil : i < (thM n cut0 i).length := by rw [hlen]; exact hlt
      have row := f.row
      rw [hlen] at row
      have x1 := row.cellAt (i * 2 + 1) (by omega)
      rw [(pairs_at _ i hil).2] at x1
      have z1 := row.frozenAt (i * 2 + 1)
      obtain ⟨row2, gr2⟩ := row.stored (i * 2 + 1) (.bool true)
      rw [← pairs_set _ i hil, ← thM_step n cut0 i hlt] at row2
      have hTb : ¬ T = b := fun e => row_ne f.row f.head (by decide) (by rw [e]; rfl)
      have hgb : ¬ g = b := fun e => row_ne f.row f.ck (by decide) (by rw [e]; rfl)
      have f2 : FW (wr.setCell ⟨b, i * 2 + 1, none⟩ (.bool true)) B T g (.slice (some ⟨b, 0, none⟩) n cap) (thM n cut0 (i + 1)) cut now nowc comes pend := by
        refine ⟨?_, ?_, Blk.far f.ck (p := ⟨b, i * 2 + 1, none⟩) hgb _, f.lo⟩
        · have := Blk.far f.head (p := ⟨b, i * 2 + 1, none⟩) hTb (.bool true)
          rw [hlen] at this
          rw [thM_len]
          exact this
        · rw [thM_len]
          exact row2
      have o2 : Only (fun k => (Value.slice (some ⟨b, 0, none⟩) n cap).ownBlock = some k) w (wr.setCell ⟨b, i * 2 + 1, none⟩ (.bool true)) := o.setCell (p := ⟨b, i * 2 + 1, none⟩) (fun _ => rfl) _
      have q1 : (0 : Int) ≤ i := by omega
      have q2 : (i : Int) < n := by omega
      generalize ((thM n cut0 i)[i]).2 = bb at *
      replace f2 := Lib.hid f2
      replace o2 := Lib.hid o2
      clear row row2 gr2 f o hlen hil
      go_wp2
      go_roundw
      case rel => exact ⟨i + 1, by omega, by go_num, f2.out, o2.out⟩
      case measure => simp [intOf]; omega
    · obtain rfl : i = n := by omega
      rw [thM_all] at f
      have qd : decide ((i : Int) < i) = false := by simp
      replace f := Lib.hid f
      replace o := Lib.hid o
      clear hlen
      go_wp2
      go_end0
      exact ⟨rfl, f.out, o.out⟩

section
variable {w w' : World} {B T g : Nat} {hv : Value} {L : List (Nat × Bool)} {cut now nowc comes pend : Int}
theorem FW.Tg (F : FW w B T g hv L cut now nowc comes pend) : T ≠ g := Blk.ne_ F.head F.ck (by decide)
theorem FW.hT (F : FW w B T g hv L cut now nowc comes pend) : ¬ hv.ownBlock = some T := row_ne F.row F.head (by decide)
theorem FW.hg (F : FW w B T g hv L cut now nowc comes pend) : ¬ hv.ownBlock = some g := row_ne F.row F.ck (by decide)
theorem row_only {base n size : Nat} {e : TypeId} {v : Value} {xs : List Value} (h : w.ownsRow base e size v n xs) {S : Nat → Prop} (o : Only S w w') (hs : ∀ b, v.ownBlock = some b → ¬ S b) : w'.ownsRow base e size v n xs := by
  refine ⟨h.1, ?_⟩
  rcases h.2 with h0 | ⟨g, cap, cur, rfl, hb, hg, h1, h2, h3, h4⟩
  · exact .inl h0
  · exact .inr ⟨g, cap, cur, rfl, hb, o.at_ hg (hs g rfl), h1, h2, h3, h4⟩
/-- The clock is turned. -/
theorem FW.clock (F : FW w B T g hv L cut now nowc comes pend) (o : Only (· = g) w w') {cut' nowc' pend' : Int} (c : Ck w' g nowc' pend' cut') : FW w' B T g hv L cut' now nowc' comes pend' :=
  ⟨blk_only F.head o F.Tg, row_only F.row o (fun b hb e => F.hg (by rw [hb]; exact congrArg some e)), c, F.lo⟩
theorem FW.setT (F : FW w B T g hv L cut now nowc comes pend) (i : Nat) (v : Value) {cs : Array Value} (h : #[ptr g, hv, .int .u64 (L.length : Int), .int .i64 now, .int .i64 comes].setIfInBounds i v = cs) :
    Blk (w.setCell ⟨T, i, none⟩ v) T 39 cs ∧ (w.setCell ⟨T, i, none⟩ v).ownsRow B 45 2 hv L.length (pairs L) ∧ Ck (w.setCell ⟨T, i, none⟩ v) g nowc pend cut :=
  ⟨by rw [← h]; exact Blk.set_ F.head i v, row_only F.row (only_set w T i v) (fun b hb e => F.hT (by rw [hb]; exact congrArg some e)), Blk.far F.ck (p := ⟨T, i, none⟩) (fun e => F.Tg e.symm) v⟩
theorem FW.setNow (F : FW w B T g hv L cut now nowc comes pend) (x : Int) : FW (w.setCell ⟨T, 3, none⟩ (.int .i64 x)) B T g hv L cut x nowc comes pend :=
  let ⟨a, b, c⟩ := F.setT 3 (.int .i64 x) rfl
  ⟨a, b, c, F.lo⟩
theorem FW.setComes (F : FW w B T g hv L cut now nowc comes pend) (x : Int) : FW (w.setCell ⟨T, 4, none⟩ (.int .i64 x)) B T g hv L cut now nowc x pend :=
  let ⟨a, b, c⟩ := F.setT 4 (.int .i64 x) rfl
  ⟨a, b, c, F.lo⟩
theorem FW.drewN (F : FW w B T g hv L cut now nowc comes pend) (k : Nat) : FW (w.drewN k) B T g hv L cut now nowc comes pend := ⟨F.head, F.row, F.ck, F.lo⟩
theorem FW.below (F : FW w B T g hv L cut now nowc comes pend) (b : Below w.heap.size w w') : FW w' B T g hv L cut now nowc comes pend :=
  ⟨F.head.below b F.head.lt, row_only F.row (Only.of_below b (Nat.le_refl _) (fun _ => False)) (fun _ _ h => h), Blk.below F.ck b (Blk.lt F.ck), F.lo⟩
theorem FW.cells (F : FW w B T g hv L cut now nowc comes pend) : w.cell? ⟨T, 0, none⟩ = some (.pointer (some ⟨g, 0, none⟩)) ∧ w.cell? ⟨T, 1, none⟩ = some hv ∧ w.cell? ⟨T, 2, none⟩ = some (.int .u64 (L.length : Int)) ∧ w.cell? ⟨T, 3, none⟩ = some (.int .i64 now) ∧ w.cell? ⟨T, 4, none⟩ = some (.int .i64 comes) :=
  ⟨F.head.cell 0, F.head.cell 1, F.head.cell 2, F.head.cell 3, F.head.cell 4⟩
end
theorem mov_yes {now pend cut b iss : Int} (h1 : 1 ≤ b) (h2 : b ≤ 1099511627776 - now) (hd : due now pend b = true) : movP now pend b = 0 ∧ movC now pend cut b iss = cutF cut 0 iss := by
  unfold movP movC
  rw [if_neg (by omega), if_neg (by omega), if_pos hd, if_neg (by omega), if_neg (by omega), if_pos hd]
  exact ⟨rfl, rfl⟩
theorem mov_no {now pend cut b iss : Int} (h1 : 1 ≤ b) (h2 : b ≤ 1099511627776 - now) (hd : due now pend b = false) : movP now pend b = pend ∧ movC now pend cut b iss = cut := by
  unfold movP movC
  rw [if_neg (by omega), if_neg (by omega), if_neg (by rw [hd]; simp), if_neg (by omega), if_neg (by omega), if_neg (by rw [hd]; simp)]
  exact ⟨rfl, rfl⟩
/-- What the flush that comes and the clock's pending one have to do with each other. -/
def Rel (now comes pend : Int) : Prop := (comes = 0 ∧ pend = 0) ∨ (now < comes ∧ comes ≤ 1099511627776 ∧ pend = comes) ∨ (1099511627776 < comes ∧ comes < 9223372036854775808 ∧ pend = 1099511627777)

set_option maxRecDepth 100000 in
set_option maxHeartbeats 1600000 in
theorem comesC (w : World) (B T g : Nat) (hv : Value) (n c : Nat) (now comes pend b : Int) (F : FW w B T g hv (thL n c) (c : Int) now now comes pend) (hR : Rel now comes pend) (hc : c ≤ n) (hn : n < 1073741824) (h1 : 1 ≤ now) (h2 : 1 ≤ b) (h3 : now + b ≤ 1000000000000) :
    Calls Try.prog 40 #[.pointer (some ⟨T, 0, none⟩), .int .i64 b] w fun e w' => e = .returned (.bool true) ∧
      ∃ (c' : Nat) (comes' pend' : Int), FW w' B T g hv (thL n c') (c' : Int) (now + b) (now + b) comes' pend' ∧ Rel (now + b) comes' pend' ∧ c' ≤ n ∧ Only (F3 T g hv) w w' := by
  have num0 := Lib.hid (fun w => numC 0 w (by omega))
  have hlen : (thL n c).length = n := thM_len _ _ _
  have ME : movE now b = 0 := by simp [movE]; omega
  have MN : movN now b = now + b := by simp [movN]; omega
  have MC := Lib.hid (moveC w.drew g now pend c b n (Blk.drewN F.ck 1) h1 (by omega))
  rw [ME, MN] at MC
  obtain ⟨k0, k1, k2, k3, k4⟩ := F.cells
  rw [hlen] at k2
  have hq1 : ¬ b < 1 := by omega
  have hq2 : ¬ 1099511627776 - now < b := by omega
  replace F := Lib.hid F
  replace hlen := Lib.hid hlen
  replace hR := Lib.hid hR
  clear ME MN
  go_enter Try.func40, Try.ntmps40
  go_wp2_with fail
  go_still_tail 9, (by kernel_rfl)
  change wpList _ _ _ _ _ w.drew
  go_wp2_with fail
  refine MC.out.mono ?_
  rintro e w1 ⟨rfl, ck1, o1⟩
  have o1' : Only (· = g) w w1 := (Only.refl (· = g) w).drew.trans o1 (fun _ _ h => h)
  have F1 := F.out.clock o1' ck1
  obtain ⟨k0, k1, k2, k3, k4⟩ := F1.cells
  rw [hlen.out] at k2
  have z3 := F1.head.frozen 3
  replace F1 := Lib.hid F1
  replace o1' := Lib.hid o1'
  clear o1 ck1 MC
  go_wp2_with fail
  refine (num0.out _).mono ?_
  rintro e w' ⟨rfl, rfl⟩
  obtain ⟨w2, hw2⟩ : ∃ w2, w2 = w1.setCell ⟨T, 3, none⟩ (.int .i64 (now + b)) := ⟨_, rfl⟩
  have F2 := F1.out.setNow (now + b)
  rw [← hw2] at F2
  have o2 : Only (F3 T g hv) w w2 := (o1'.out.mono (T := F3 T g hv) (fun _ _ h => .inr (.inl h))).trans (by rw [hw2]; exact only_set w1 T 3 _) (fun _ _ h => .inl h)
  go_upto_region 5 with fail
  rw [← hw2]
  obtain ⟨j0, j1, j2, j3, j4⟩ := F2.cells
  rw [hlen.out] at j2
  have z4 := F2.head.frozen 4
  replace F2 := Lib.hid F2
  replace o2 := Lib.hid o2
  replace hw2 := Lib.hid hw2
  clear k0 k1 k2 k3 k4 z3
  by_cases hd : 0 < comes ∧ comes ≤ now + b
  · obtain ⟨hd1, hd2⟩ := hd
    have hdue : due now pend b = true := by
      have := hR.out
      unfold Rel at this
      unfold due
      simp only [Bool.and_eq_true, decide_eq_true_eq]
      omega
    obtain ⟨e1, e2⟩ := mov_yes (cut := (c : Int)) (iss := (n : Int)) h2 (by omega) hdue
    rw [show cutF (c : Int) 0 n = n by unfold cutF; rw [if_pos (Int.le_refl _)]; split <;> omega] at e2
    rw [e1, e2] at F2
    have FL := fun m => flushW (w2.drewN m) B T g hv n c n (now + b) (now + b) comes 0 (F2.out.drewN m) hn
    replace FL := Lib.hid FL
    clear e1 e2 hdue
    go_quiet (fail)
    go_wp2_with fail
    refine (FL.out _).mono ?_
    rintro e w3 ⟨rfl, F3', o3⟩
    obtain ⟨j0, j1, j2, j3, j4⟩ := F3'.cells
    have z4 := F3'.head.frozen 4
    have fin := Lib.hid (show ∃ (c' : Nat) (comes' pend' : Int), FW (w3.setCell ⟨T, 4, none⟩ (.int .i64 0)) B T g hv (thL n c') (c' : Int) (now + b) (now + b) comes' pend' ∧ Rel (now + b) comes' pend' ∧ c' ≤ n ∧ Only (F3 T g hv) w (w3.setCell ⟨T, 4, none⟩ (.int .i64 0)) from
      ⟨n, 0, 0, F3'.setComes 0, .inl ⟨rfl, rfl⟩, Nat.le_refl _, (((o2.out.drewN _).trans o3 (fun _ _ h => .inr (.inr h))).trans (only_set w3 T 4 _) (fun _ _ h => .inl h))⟩)
    clear F3' o3 FL
    go_wp2
    go_ret
    exact ⟨rfl, fin.out⟩
  · have hdue : due now pend b = false := by
      have := hR.out
      unfold Rel at this
      unfold due
      simp only [Bool.and_eq_false_iff, decide_eq_false_iff_not]
      omega
    obtain ⟨e1, e2⟩ := mov_no (cut := (c : Int)) (iss := (n : Int)) h2 (by omega) hdue
    rw [e1, e2] at F2
    have hR2 : Rel (now + b) comes pend := by
      have := hR.out
      unfold Rel at this ⊢
      omega
    have fin := fun m => show ∃ (c' : Nat) (comes' pend' : Int), FW (w2.drewN m) B T g hv (thL n c') (c' : Int) (now + b) (now + b) comes' pend' ∧ Rel (now + b) comes' pend' ∧ c' ≤ n ∧ Only (F3 T g hv) w (w2.drewN m) from
      ⟨c, comes, pend, F2.out.drewN m, hR2, hc, o2.out.drewN m⟩
    have hd2 : ¬ 0 < comes ∨ (0 < comes ∧ decide (comes ≤ now + b) = false) := by
      rcases Int.lt_or_le 0 comes with h | h
      · exact .inr ⟨h, by simp; omega⟩
      · exact .inl (by omega)
    replace fin := Lib.hid fin
    replace hR2 := Lib.hid hR2
    clear e1 e2 hdue hd
    rcases hd2 with hd | ⟨hd1, hd2⟩
    all_goals
      go_quiet (fail)
      go_wp2
      go_ret
      exact ⟨rfl, fin.out _⟩
end Go.Proofs.Yteebcdicocmicaa.Clk
