/-
  Contracts and lemmas, joined: Ref6Ask, Ref6All, Ref6Next, Ref6Row, Ref2At.
-/
import Derived.Test.YtfjiphibalhcgaaGreatJ7
import Derived.Test.YtfjiphibalhcgaaGreatJ8
set_option linter.unusedSimpArgs false
set_option linter.unusedVariables false
/-
  The document's queue: list, Where, Is.
-/
namespace Go.Proofs.YtfjiphibalhcgaaGreat.Que
open Go.RowKit Base Arena Cls Itm
set_option linter.unusedVariables false
set_option linter.unusedSectionVars false

/-- The number of a list; none: there is none. -/
def lsI (c : Conf) (x kind : Int) : Int := if 0 ≤ x ∧ x < (c.nc : Int) ∧ 1 ≤ kind ∧ kind ≤ 3 then 3 * x + kind - 1 else -1
theorem listC6 (w : World) (R : R6) (M : RL) (c : Conf) (r : RS) (n : Nat) (laid : List Nat) (lists : Nat → List Nat) (h : R6At w R M.b n laid lists) (hr : RSetAt w M c r) (hnc : c.nc ≤ 1048576) (x kind : Int) :
    Calls Tryz.prog 54 #[.pointer (some ⟨R.b, 0, none⟩), .int .i64 x, .int .i64 kind] w fun e w' => e = .returned (.int .i64 (lsI c x kind)) ∧ w = w' := by
  have c0 := h.c0
  have c5 := hr.cSizes
  clear h hr
  unfold lsI
  by_cases h0 : x < 0
  · rw [if_neg (by omega)]
    have d0 : decide (x < 0) = true := decide_eq_true h0
    go_enter Tryz.func54, Tryz.ntmps54
    go_wp2
    go_ret
    exact ⟨rfl, rfl⟩
  have d0 : decide (x < 0) = false := decide_eq_false h0
  by_cases h1 : (c.nc : Int) ≤ x
  · rw [if_neg (by omega)]
    have d1 : decide ((c.nc : Int) ≤ x) = true := decide_eq_true h1
    go_enter Tryz.func54, Tryz.ntmps54
    go_wp2
    go_ret
    exact ⟨rfl, rfl⟩
  have d1 : decide ((c.nc : Int) ≤ x) = false := decide_eq_false h1
  by_cases h2 : kind < 1
  · rw [if_neg (by omega)]
    have d2 : decide (kind < 1) = true := decide_eq_true h2
    go_enter Tryz.func54, Tryz.ntmps54
    go_wp2
    go_ret
    exact ⟨rfl, rfl⟩
  have d2 : decide (kind < 1) = false := decide_eq_false h2
  by_cases h3 : 3 < kind
  · rw [if_neg (by omega)]
    have d3 : decide (3 < kind) = true := decide_eq_true h3
    go_enter Tryz.func54, Tryz.ntmps54
    go_wp2
    go_ret
    exact ⟨rfl, rfl⟩
  have d3 : decide (3 < kind) = false := decide_eq_false h3
  rw [if_pos (by omega)]
  have q1 : IntKind.i64.wrap (3 * x) = 3 * x := IntWalk.i64_in _ (by omega)
  have q2 : IntKind.i64.wrap (3 * x + kind) = 3 * x + kind := IntWalk.i64_in _ (by omega)
  have q3 : IntKind.i64.wrap (3 * x + kind - 1) = 3 * x + kind - 1 := IntWalk.i64_in _ (by omega)
  go_enter Tryz.func54, Tryz.ntmps54
  go_wp2
  go_ret
  exact ⟨rfl, rfl⟩
theorem R6At.cell {w : World} {R : R6} {mb n : Nat} {laid : List Nat} {lists : Nat → List Nat} (h : R6At w R mb n laid lists) {i : Nat} (hi : i < n) : ∃ A cp, R.F i = .slice A (lists i).length cp ∧ w.cell? ⟨R.gL, i, none⟩ = some (.slice A (lists i).length cp) ∧ w.ownsRow 0 26 1 (.slice A (lists i).length cp) (lists i).length ((lists i).map uv) := by
  have o := h.row hi
  obtain ⟨A, cp, hv⟩ := own_is o
  have c := h.grid.cell i 0 hi (by decide)
  rw [Nat.mul_one, Nat.add_zero] at c
  rw [hv] at c o
  exact ⟨A, cp, hv, c, o⟩
section
variable (w : World) (R : R6) (mb n : Nat) (laid : List Nat) (lists : Nat → List Nat) (h : R6At w R mb n laid lists) (hn : n ≤ 1048576) (hll : ∀ i, i < n → (lists i).length ≤ 1073741824) (H : Nat)
include h hn hll
set_option maxRecDepth 100000 in
theorem whereYes (k : Nat) (hk : k < n) (hm : H ∈ lists k) (hb : ∀ j, j < k → H ∉ lists j) : Calls Tryz.prog 77 #[.pointer (some ⟨R.b, 0, none⟩), .int .u64 (H : Int)] w fun e w' => e = .returned (.tuple #[.int .i64 (k : Int), .int .i64 ((lists k).idxOf H : Int)]) ∧ w = w' := by
  have c2 := h.c2
  replace hll := Lib.hid hll
  replace h := Lib.hid h
  replace hb := Lib.hid hb
  replace hm := Lib.hid hm
  go_enter Tryz.func77, Tryz.ntmps77
  go_wp2
  go_loopw [6] (fun v wr => ∃ i : Nat, v = .int .i64 (i : Int) ∧ i ≤ k ∧ w = wr) (fun v _ => k + 1 - (intOf v).toNat)
  case atStart => exact ⟨0, rfl, Nat.zero_le _, rfl⟩
  case round =>
    obtain ⟨i, rfl, hi, rfl⟩ := hrel
    have hin : i < n := by omega
    obtain ⟨A, cp, -, cl, own⟩ := h.out.cell hin
    have AC := atC6 w 0 cp A (lists i) own (hll.out i hin) H
    have i0 : (0 : Int) ≤ (i : Int) := by omega
    have i1 : (i : Int) < (n : Int) := by omega
    have d1 : decide ((i : Int) < (n : Int)) = true := decide_eq_true i1
    have q1 : IntKind.i64.wrap ((i : Int) + 1) = (i : Int) + 1 := IntWalk.i64_in _ (by omega)
    by_cases hik : i = k
    · subst hik
      unfold atN at AC
      rw [if_pos hm.out] at AC
      obtain ⟨ix, hix⟩ : ∃ ix, ix = (lists i).idxOf H := ⟨_, rfl⟩
      rw [← hix] at AC
      have d2 : decide ((0 : Int) ≤ (ix : Int)) = true := decide_eq_true (by omega)
      replace hix := Lib.hid hix
      generalize (lists i).length = n1 at *
      replace AC := Lib.hid AC
      clear own
      go_wp2_with fail
      refine AC.out.mono ?_
      rintro e w1 ⟨rfl, rfl⟩
      go_wp2
      go_ret2
      exact ⟨by rw [← hix.out]; rfl, rfl⟩
    · unfold atN at AC
      rw [if_neg (hb.out i (by omega))] at AC
      generalize (lists i).length = n1 at *
      replace AC := Lib.hid AC
      replace hik := Lib.hid hik
      clear own
      go_wp2_with fail
      refine AC.out.mono ?_
      rintro e w1 ⟨rfl, rfl⟩
      go_wp2
      go_roundw
      case rel => exact ⟨i + 1, by simp, by have := hik.out; omega, trivial⟩
      case measure => have := hik.out; simp [intOf] <;> omega
set_option maxRecDepth 100000 in
theorem whereNo (hb : ∀ j, j < n → H ∉ lists j) : Calls Tryz.prog 77 #[.pointer (some ⟨R.b, 0, none⟩), .int .u64 (H : Int)] w fun e w' => e = .returned (.tuple #[.int .i64 (-1), .int .i64 (-1)]) ∧ w = w' := by
  have c2 := h.c2
  replace hll := Lib.hid hll
  replace h := Lib.hid h
  replace hb := Lib.hid hb
  go_enter Tryz.func77, Tryz.ntmps77
  go_wp2
  go_loopw [6] (fun v wr => ∃ i : Nat, v = .int .i64 (i : Int) ∧ i ≤ n ∧ w = wr) (fun v _ => n + 1 - (intOf v).toNat)
  case atStart => exact ⟨0, rfl, Nat.zero_le _, rfl⟩
  case round =>
    obtain ⟨i, rfl, hi, rfl⟩ := hrel
    by_cases hin : i < n
    · obtain ⟨A, cp, -, cl, own⟩ := h.out.cell hin
      have AC := atC6 w 0 cp A (lists i) own (hll.out i hin) H
      have i0 : (0 : Int) ≤ (i : Int) := by omega
      have i1 : (i : Int) < (n : Int) := by omega
      have d1 : decide ((i : Int) < (n : Int)) = true := decide_eq_true i1
      have q1 : IntKind.i64.wrap ((i : Int) + 1) = (i : Int) + 1 := IntWalk.i64_in _ (by omega)
      unfold atN at AC
      rw [if_neg (hb.out i (by omega))] at AC
      generalize (lists i).length = n1 at *
      replace AC := Lib.hid AC
      clear own
      go_wp2_with fail
      refine AC.out.mono ?_
      rintro e w1 ⟨rfl, rfl⟩
      go_wp2
      go_roundw
      case rel => exact ⟨i + 1, by simp, by omega, trivial⟩
      case measure => simp [intOf] <;> omega
    · obtain rfl : i = n := by omega
      have d1 : decide ((i : Int) < (i : Int)) = false := by simp
      go_wp2
      go_ret2
      exact ⟨rfl, rfl⟩
end
/-- Is. -/
theorem isC6 (w : World) (R : R6) (M : RL) (c : Conf) (r : RS) (n : Nat) (laid : List Nat) (lists : Nat → List Nat) (h : R6At w R M.b n laid lists) (hr : RSetAt w M c r) (fi : RFine r) (hlen : r.ch.length ≤ 1073741824) (hla : laid.length ≤ 1073741824) (H : Nat) :
    Calls Tryz.prog 26 #[.pointer (some ⟨R.b, 0, none⟩), .int .u64 (H : Int)] w fun e w' => e = .returned (.bool ((rfind r.ch H).isSome && decide (H ∈ laid))) ∧ ∃ m, w.drewN m = w' := by
  have c0 := h.c0
  have FC := rfindC w M c r hr fi hlen H
  cases hf : rfind r.ch H with
  | none =>
    rw [hf] at FC
    unfold findIV at FC
    replace FC := Lib.hid FC
    clear h hr fi hf
    go_enter Tryz.func26, Tryz.ntmps26
    go_wp2_with fail
    refine FC.out.mono ?_
    rintro e w1 ⟨rfl, m1, hw1⟩
    go_wp2
    go_ret
    exact ⟨rfl, m1, hw1⟩
  | some j =>
    rw [hf] at FC
    unfold findIV at FC
    have LA : ∀ m, R6At (w.drewN m) R M.b n laid lists := fun m => h.kept fun _ _ => rfl
    have j0 : decide ((0 : Int) ≤ (j : Int)) = true := decide_eq_true (by omega)
    have aC : ∀ m, (w.drewN m).cell? ⟨R.b, 1, none⟩ = some R.vL ∧ Calls Tryz.prog 71 #[R.vL, .int .u64 (H : Int)] (w.drewN m) fun e w' => e = .returned (.int .i64 (atN laid H)) ∧ w.drewN m = w' := by
      intro m
      obtain ⟨A, cp, hv⟩ := own_is (LA m).laidR
      have own := (LA m).laidR
      have c1 := (LA m).c1
      rw [hv] at own ⊢
      exact ⟨c1.trans (by rw [hv]), atC6 (w.drewN m) 0 cp A laid own hla H⟩
    obtain ⟨A, cp, hv⟩ := own_is h.laidR
    rw [hv] at aC
    have d0 : decide ((0 : Int) ≤ atN laid H) = decide (H ∈ laid) := by
      unfold atN
      split
      · rename_i hm
        rw [decide_eq_true hm, decide_eq_true (by omega)]
      · rename_i hm
        rw [decide_eq_false hm]; rfl
    generalize atN laid H = z at *
    generalize decide (H ∈ laid) = D at *
    replace FC := Lib.hid FC
    replace aC := Lib.hid aC
    clear h hr fi hf LA hv
    generalize laid.length = ln at *
    go_enter Tryz.func26, Tryz.ntmps26
    go_wp2_with fail
    refine FC.out.mono ?_
    rintro e w1 ⟨rfl, m1, hw1⟩
    obtain ⟨c1, AC⟩ := aC.out m1
    rw [hw1] at c1 AC
    replace AC := Lib.hid AC
    replace hw1 := Lib.hid hw1
    go_wp2_with fail
    refine AC.out.mono ?_
    rintro e w2 ⟨rfl, rfl⟩
    go_wp2
    go_ret
    exact ⟨rfl, m1, hw1.out⟩
end Go.Proofs.YtfjiphibalhcgaaGreat.Que
/-
  The document's queue: All, Len, Head, Tail.
-/
namespace Go.Proofs.YtfjiphibalhcgaaGreat.Que
open Go.RowKit Base Arena Cls Itm
set_option linter.unusedVariables false
set_option linter.unusedSectionVars false

theorem own_zero (w : World) (N : Nat) (hN : N ≤ w.heap.size) : (w.alloc (.cells #[] 26)).ownsRow N 26 1 (.slice (some ⟨w.heap.size, 0, none⟩) 0 0) 0 [] :=
  ⟨rfl, .inr ⟨w.heap.size, 0, #[], rfl, hN, Blk.new w _ _, Nat.le_refl _, by unfold maxLen; decide, rfl, rfl⟩⟩
theorem own_one (w : World) (N H : Nat) (hN : N ≤ w.heap.size) : (w.alloc (.cells #[.int .u64 (H : Int)] 26)).ownsRow N 26 1 (.slice (some ⟨w.heap.size, 0, none⟩) 1 1) 1 [uv H] :=
  ⟨rfl, .inr ⟨w.heap.size, 1, #[uv H], rfl, hN, Blk.new w _ _, Nat.le_refl _, by unfold maxLen; decide, rfl, rfl⟩⟩
theorem uvs_cells (l : List Nat) : ∀ u ∈ l.map uv, u.oneCell' = true := by
  intro u hu
  obtain ⟨z, -, rfl⟩ := List.mem_map.1 hu
  rfl
/-- The document's lists. -/
abbrev rows6 (Ls : Nat → Nat → List Nat) : Nat → List Nat := fun i => Ls (i / 3) (i % 3)
section
variable (w : World) (R : R6) (M : RL) (c : Conf) (r : RS) (laid : List Nat) (Ls : Nat → Nat → List Nat) (h : R6At w R M.b (3 * c.nc) laid (rows6 Ls)) (hr : RSetAt w M c r) (hnc : c.nc ≤ 62) (hll : ∀ x k, x < c.nc → k < 3 → (Ls x k).length ≤ 1073741824) (x kind : Int)
include h hr hnc hll
set_option maxRecDepth 100000 in
theorem allC6 : Calls Tryz.prog 18 #[.pointer (some ⟨R.b, 0, none⟩), .int .i64 x, .int .i64 kind] w fun e w' => ∃ A cp, e = .returned (.slice A (lsN c Ls x kind).length cp) ∧ Below w.heap.size w w' ∧ w'.ownsRow w.heap.size 26 1 (.slice A (lsN c Ls x kind).length cp) (lsN c Ls x kind).length ((lsN c Ls x kind).map uv) := by
  have LC := listC6 w R M c r _ laid _ h hr (by omega) x kind
  unfold lsN
  unfold lsI at LC
  by_cases hv : 0 ≤ x ∧ x < (c.nc : Int) ∧ 1 ≤ kind ∧ kind ≤ 3
  · rw [if_pos hv] at LC ⊢
    obtain ⟨X, hX, rfl⟩ : ∃ X : Nat, X < c.nc ∧ x = (X : Int) := ⟨x.toNat, by omega, by omega⟩
    obtain ⟨k, hk, rfl⟩ : ∃ k : Nat, k < 3 ∧ kind = (k : Int) + 1 := ⟨kind.toNat - 1, by omega, by omega⟩
    have e1 : ((k : Int) + 1).toNat - 1 = k := by omega
    have e2 : 3 * (X : Int) + ((k : Int) + 1) - 1 = ((3 * X + k : Nat) : Int) := by omega
    rw [Int.toNat_natCast, e1]
    rw [e2] at LC
    have hj : 3 * X + k < 3 * c.nc := by omega
    obtain ⟨A, cp, -, cl, own⟩ := h.cell hj
    have eL : rows6 Ls (3 * X + k) = Ls X k := by
      show Ls ((3 * X + k) / 3) ((3 * X + k) % 3) = Ls X k
      rw [show (3 * X + k) / 3 = X by omega, show (3 * X + k) % 3 = k by omega]
    rw [eL] at cl own
    have hlb := hll X k hX hk
    have c2 := h.c2
    generalize Ls X k = l at *
    generalize 3 * X + k = j at *
    generalize hn : 3 * c.nc = n at *
    have j0 : (0 : Int) ≤ (j : Int) := by omega
    have j1 : (j : Int) < (n : Int) := by omega
    have d1 : decide ((j : Int) < 0) = false := decide_eq_false (by omega)
    have oz := own_zero w w.heap.size (Nat.le_refl _)
    have rd := Reads.of_own (World.ownsRow.alloc own (.cells #[] 26))
    rw [World.size_alloc] at rd
    have cl1 := (World.cell?_alloc_lt w (.cells #[] 26) _ (World.block_lt_of_cell? w _ cl)).trans cl
    have c21 := (World.cell?_alloc_lt w (.cells #[] 26) _ (World.block_lt_of_cell? w _ c2)).trans c2
    obtain ⟨n1, hn1⟩ : ∃ n1, n1 = l.length := ⟨_, rfl⟩
    rw [← hn1] at cl cl1 own rd
    replace hn1 := Lib.hid hn1
    replace oz := Lib.hid oz
    replace rd := Lib.hid rd
    replace LC := Lib.hid LC
    clear h hr hll hv own e1 e2 eL
    go_enter Tryz.func18, Tryz.ntmps18
    go_wp2_with fail
    refine LC.out.mono ?_
    rintro e w' ⟨rfl, rfl⟩
    go_wp2_with (at_builtin; refine wpList_app rfl _ _ _ rfl eiL w.heap.size _ _ _ rfl oz.out (w.heap.size + 1) A n1 cp (l.map uv) rfl ?c1 ?c2 ?c3 ?c4 ?c5 ?_)
    case c1 => exact rd.out
    case c2 => exact uvs_cells _
    case c3 => have := hn1.out; unfold maxLen; omega
    case c4 => have := hn1.out; omega
    case c5 => rw [World.size_alloc]; omega
    intro VV w6 own6 hg6 hat6
    (try rw [Nat.zero_add] at own6)
    obtain ⟨A7, cp7, rfl⟩ := own_is own6
    have b6 : Below w.heap.size w w6 := ((Below.refl _ w).alloc (Nat.le_refl _) _).grown hg6 (by rw [World.size_alloc]; omega) (fun k e => by
      have e : some w.heap.size = some k := e
      injection e with e
      omega)
    replace own6 := Lib.hid own6
    replace b6 := Lib.hid b6
    clear hg6 hat6 oz rd
    go_wp2
    go_ret
    exact ⟨A7, cp7, by rw [← hn1.out]; rfl, b6.out, by rw [← hn1.out]; exact own6.out⟩
  · rw [if_neg hv] at LC ⊢
    replace LC := Lib.hid LC
    clear h hr hll hv
    go_enter Tryz.func18, Tryz.ntmps18
    go_wp2_with fail
    refine LC.out.mono ?_
    rintro e w' ⟨rfl, rfl⟩
    go_wp2
    go_ret
    exact ⟨none, 0, rfl, Below.refl _ _, ⟨rfl, .inl ⟨rfl, rfl⟩⟩⟩
set_option maxRecDepth 100000 in
theorem lenC6 : Calls Tryz.prog 84 #[.pointer (some ⟨R.b, 0, none⟩), .int .i64 x, .int .i64 kind] w fun e w' => e = .returned (.int .i64 ((lsN c Ls x kind).length : Int)) ∧ Below w.heap.size w w' := by
  have AC := Lib.hid (allC6 w R M c r laid Ls h hr hnc hll x kind)
  clear h hr hll
  go_enter Tryz.func84, Tryz.ntmps84
  go_wp2_with fail
  refine AC.out.mono ?_
  rintro e w' ⟨A, cp, rfl, b, own⟩
  replace b := Lib.hid b
  go_wp2
  go_ret
  exact ⟨rfl, b.out⟩
set_option maxRecDepth 100000 in
theorem headC6 : Calls Tryz.prog 81 #[.pointer (some ⟨R.b, 0, none⟩), .int .i64 x, .int .i64 kind] w fun e w' => e = .returned (.tuple #[.int .u64 ((lsN c Ls x kind).head?.getD 0 : Int), .bool (decide (0 < (lsN c Ls x kind).length))]) ∧ Below w.heap.size w w' := by
  have AC := allC6 w R M c r laid Ls h hr hnc hll x kind
  clear h hr hll
  cases hl : lsN c Ls x kind with
  | nil =>
    rw [hl] at AC
    have e0 : (([] : List Nat).length) = 0 := rfl
    have e1 : decide (0 < ([] : List Nat).length) = false := rfl
    have e2 : (([] : List Nat).head?.getD 0) = 0 := rfl
    rw [e1, e2]
    rw [e0] at AC
    replace AC := Lib.hid AC
    clear hl e0 e1 e2
    go_enter Tryz.func81, Tryz.ntmps81
    go_wp2_with fail
    refine AC.out.mono ?_
    rintro e w' ⟨A, cp, rfl, b, own⟩
    replace b := Lib.hid b
    go_wp2
    go_ret2
    exact ⟨rfl, b.out⟩
  | cons a t =>
    rw [hl] at AC
    have e2 : ((a :: t).head?.getD 0) = a := rfl
    rw [e2, decide_eq_true (show 0 < (a :: t).length by simp)]
    obtain ⟨n1, hn1⟩ : ∃ n1, n1 = (a :: t).length := ⟨_, rfl⟩
    have n0 : 0 < n1 := by rw [hn1]; simp
    rw [← hn1] at AC
    replace AC := Lib.hid AC
    replace hn1 := Lib.hid hn1
    clear hl e2
    go_enter Tryz.func81, Tryz.ntmps81
    go_wp2_with fail
    refine AC.out.mono ?_
    rintro e w' ⟨A, cp, rfl, b, own⟩
    obtain ⟨g, cp', hv, u0⟩ := own_uv (i := 0) (x := a) own rfl
    injection hv with hv1 hv2 hv3
    subst hv1 hv3
    have z0 : ((n1 : Int) == 0) = false := by rw [beq_eq_false_iff_ne]; omega
    have z1 : decide ((n1 : Int) = 0) = false := decide_eq_false (by omega)
    have z2 : (0 : Int) < (n1 : Int) := by omega
    have z3 : ¬ (n1 = 0) := by omega
    replace b := Lib.hid b
    clear own hv2
    go_wp2
    go_ret2
    exact ⟨rfl, b.out⟩
set_option maxRecDepth 100000 in
theorem tailC6 : Calls Tryz.prog 82 #[.pointer (some ⟨R.b, 0, none⟩), .int .i64 x, .int .i64 kind] w fun e w' => e = .returned (.tuple #[.int .u64 ((lsN c Ls x kind).getLast?.getD 0 : Int), .bool (decide (0 < (lsN c Ls x kind).length))]) ∧ Below w.heap.size w w' := by
  have AC := allC6 w R M c r laid Ls h hr hnc hll x kind
  have hlb : (lsN c Ls x kind).length ≤ 1073741824 := by
    unfold lsN
    split
    · exact hll _ _ (by omega) (by omega)
    · simp
  clear h hr hll
  cases hl : lsN c Ls x kind with
  | nil =>
    rw [hl] at AC
    have e0 : (([] : List Nat).length) = 0 := rfl
    have e1 : decide (0 < ([] : List Nat).length) = false := rfl
    have e2 : (([] : List Nat).getLast?.getD 0) = 0 := rfl
    rw [e1, e2]
    rw [e0] at AC
    replace AC := Lib.hid AC
    clear hl e0 e1 e2 hlb
    go_enter Tryz.func82, Tryz.ntmps82
    go_wp2_with fail
    refine AC.out.mono ?_
    rintro e w' ⟨A, cp, rfl, b, own⟩
    replace b := Lib.hid b
    go_wp2
    go_ret2
    exact ⟨rfl, b.out⟩
  | cons a t =>
    rw [hl] at AC hlb
    obtain ⟨z, hz⟩ : ∃ z, (a :: t).getLast? = some z := ⟨(a :: t).getLast (by simp), List.getLast?_eq_some_getLast (by simp)⟩
    have hx : (a :: t)[(a :: t).length - 1]? = some z := by rw [← List.getLast?_eq_getElem?]; exact hz
    rw [hz, Option.getD_some, decide_eq_true (show 0 < (a :: t).length by simp)]
    obtain ⟨n1, hn1⟩ : ∃ n1, n1 + 1 = (a :: t).length := ⟨t.length, rfl⟩
    rw [← hn1] at AC hx hlb
    rw [Nat.add_sub_cancel] at hx
    replace AC := Lib.hid AC
    replace hn1 := Lib.hid hn1
    replace hx := Lib.hid hx
    clear hl hz
    go_enter Tryz.func82, Tryz.ntmps82
    go_wp2_with fail
    refine AC.out.mono ?_
    rintro e w' ⟨A, cp, rfl, b, own⟩
    obtain ⟨g, cp', hv, u0⟩ := own_uv own hx.out
    injection hv with hv1 hv2 hv3
    subst hv1 hv3
    obtain ⟨m1, hm1⟩ : ∃ m1, m1 = n1 + 1 := ⟨_, rfl⟩
    rw [← hm1]
    have z0 : ((m1 : Int) == 0) = false := by rw [beq_eq_false_iff_ne]; omega
    have z1 : decide ((m1 : Int) = 0) = false := decide_eq_false (by omega)
    have z3 : ¬ (m1 = 0) := by omega
    have q1 : IntKind.i64.wrap ((m1 : Int) - 1) = (n1 : Int) := by rw [IntWalk.i64_in _ (by omega)]; omega
    have z4 : (0 : Int) ≤ (n1 : Int) := by omega
    have z5 : (n1 : Int) < (m1 : Int) := by omega
    replace hm1 := Lib.hid hm1
    replace b := Lib.hid b
    clear own hv2
    go_wp2
    go_ret2
    exact ⟨rfl, b.out⟩
end
end Go.Proofs.YtfjiphibalhcgaaGreat.Que
/-
  The document's queue: next, Ahead, Behind.
-/
namespace Go.Proofs.YtfjiphibalhcgaaGreat.Que
open Go.RowKit Base Arena Cls Itm
set_option linter.unusedVariables false
set_option linter.unusedSectionVars false

/-- Where H stands, if it stands anywhere. -/
def At6 (c : Conf) (Ls : Nat → Nat → List Nat) (H X k : Nat) (l1 l2 : List Nat) : Prop := X < c.nc ∧ k < 3 ∧ Ls X k = l1 ++ H :: l2 ∧ H ∉ l1 ∧ ∀ x j, x < c.nc → j < 3 → H ∈ Ls x j → x = X ∧ j = k
theorem QI.at6 {c : Conf} {s : St} {Z : Nat → Option Zd} {F : QN} {Ls : Nat → Nat → List Nat} (q : QI c s Z F Ls) (ok : c.cf.Ok) (g : Cls.Good c.cf s) (H : Nat) :
    (stK (clsN c s H) Ls H = 0 ∧ ∀ x k, x < c.nc → k < 3 → H ∉ Ls x k) ∨ ∃ k l1 l2, stK (clsN c s H) Ls H = k + 1 ∧ At6 c Ls H (clsN c s H) k l1 l2 ∧ prevN c s Ls H = l1.getLast?.getD 0 ∧ nextN c s Ls H = l2.head?.getD 0 ∧ (∀ y ∈ l1 ++ l2, y ≠ 0) ∧ Ls (clsN c s H) k = l1 ++ H :: l2 := by
  by_cases h0 : stK (clsN c s H) Ls H = 0
  · exact .inl ⟨h0, q.not_stK h0⟩
  · obtain ⟨k, i, y, p, hk, e, hf, ec, hx, hm⟩ := q.of_stK ok g h0
    obtain ⟨l1, l2, hl, -, -⟩ := q.split hx hk hm
    have hnd := q.nd _ _ hx hk
    rw [hl] at hnd
    have n1 : H ∉ l1 := fun e => (List.nodup_append.1 hnd).2.2 H e H (List.mem_cons_self ..) rfl
    refine .inr ⟨k, l1, l2, e, ⟨ec ▸ hx, hk, ec ▸ hl, n1, fun x j hx' hj hm' => ?_⟩, ?_, ?_, fun y hy => ?_, ec ▸ hl⟩
    · have := q.dj x j _ k H hx' hj hx hk hm' hm
      rw [ec]; exact this
    · unfold prevN
      rw [if_neg h0, e, ec, Nat.add_sub_cancel, hl, ahead_split n1]
    · unfold nextN
      rw [if_neg h0, e, ec, Nat.add_sub_cancel, hl, behind_split n1]
    · refine q.ne0 hx hk (h := y) ?_
      rw [hl]
      rcases List.mem_append.1 hy with hy | hy
      · exact List.mem_append.2 (.inl hy)
      · exact List.mem_append.2 (.inr (List.mem_cons_of_mem _ hy))
theorem rows6_at (Ls : Nat → Nat → List Nat) {X k : Nat} (hk : k < 3) : rows6 Ls (3 * X + k) = Ls X k := by
  show Ls ((3 * X + k) / 3) ((3 * X + k) % 3) = Ls X k
  rw [show (3 * X + k) / 3 = X by omega, show (3 * X + k) % 3 = k by omega]
section
variable (w : World) (R : R6) (mb : Nat) (c : Conf) (laid : List Nat) (Ls : Nat → Nat → List Nat) (h : R6At w R mb (3 * c.nc) laid (rows6 Ls)) (hnc : c.nc ≤ 62) (hll : ∀ x k, x < c.nc → k < 3 → (Ls x k).length ≤ 1073741824) (H : Nat)
include h hnc hll
theorem where6 {X k : Nat} {l1 l2 : List Nat} (ha : At6 c Ls H X k l1 l2) : Calls Tryz.prog 77 #[.pointer (some ⟨R.b, 0, none⟩), .int .u64 (H : Int)] w fun e w' => e = .returned (.tuple #[.int .i64 ((3 * X + k : Nat) : Int), .int .i64 (l1.length : Int)]) ∧ w = w' := by
  obtain ⟨hX, hk, hl, hn, hu⟩ := ha
  have hj : 3 * X + k < 3 * c.nc := by omega
  have := whereYes w R mb _ laid _ h (by omega) (fun i hi => hll _ _ (by omega) (by omega)) H (3 * X + k) hj (by rw [rows6_at Ls hk, hl]; simp) (fun j hj' hm => by
    have := hu (j / 3) (j % 3) (by omega) (by omega) hm
    omega)
  rw [rows6_at Ls hk, hl, idx_split hn] at this
  exact this
theorem where6No (hb : ∀ x k, x < c.nc → k < 3 → H ∉ Ls x k) : Calls Tryz.prog 77 #[.pointer (some ⟨R.b, 0, none⟩), .int .u64 (H : Int)] w fun e w' => e = .returned (.tuple #[.int .i64 (-1), .int .i64 (-1)]) ∧ w = w' :=
  whereNo w R mb _ laid _ h (by omega) (fun i hi => hll _ _ (by omega) (by omega)) H fun j hj => hb _ _ (by omega) (by omega)
set_option maxRecDepth 100000 in
theorem next6No (hb : ∀ x k, x < c.nc → k < 3 → H ∉ Ls x k) (b : Int) : Calls Tryz.prog 123 #[.pointer (some ⟨R.b, 0, none⟩), .int .u64 (H : Int), .int .i64 b] w fun e w' => e = .returned (.tuple #[.int .u64 0, .bool false]) ∧ w = w' := by
  have WC := where6No w R mb c laid Ls h hnc hll H hb
  replace WC := Lib.hid WC
  clear h hll hb
  go_enter Tryz.func123, Tryz.ntmps123
  go_wp2_with fail
  refine WC.out.mono ?_
  rintro e w' ⟨rfl, rfl⟩
  go_wp2
  go_ret2
  exact ⟨rfl, rfl⟩
set_option maxRecDepth 100000 in
theorem next6 {X k : Nat} {l1 l2 : List Nat} (ha : At6 c Ls H X k l1 l2) :
    (Calls Tryz.prog 123 #[.pointer (some ⟨R.b, 0, none⟩), .int .u64 (H : Int), .int .i64 (-1)] w fun e w' => e = .returned (.tuple #[.int .u64 (l1.getLast?.getD 0 : Int), .bool (decide (0 < l1.length))]) ∧ w = w') ∧
    (Calls Tryz.prog 123 #[.pointer (some ⟨R.b, 0, none⟩), .int .u64 (H : Int), .int .i64 1] w fun e w' => e = .returned (.tuple #[.int .u64 (l2.head?.getD 0 : Int), .bool (decide (0 < l2.length))]) ∧ w = w') := by
  have WC := where6 w R mb c laid Ls h hnc hll H ha
  obtain ⟨hX, hk, hl, hn, hu⟩ := ha
  have hj : 3 * X + k < 3 * c.nc := by omega
  obtain ⟨A, cp, -, cl, own⟩ := h.cell hj
  rw [rows6_at Ls hk] at cl own
  have hlb := hll X k hX hk
  have c2 := h.c2
  generalize 3 * X + k = j at *
  generalize hn3 : 3 * c.nc = n at *
  obtain ⟨K, hK⟩ : ∃ K, K = (Ls X k).length := ⟨_, rfl⟩
  have hKl : K = l1.length + 1 + l2.length := by rw [hK, hl, List.length_append, List.length_cons]; omega
  rw [← hK] at cl own hlb
  have at_ : ∀ (i z : Nat), (l1 ++ H :: l2)[i]? = some z → ∃ g, A = some ⟨g, 0, none⟩ ∧ w.cell? ⟨g, i, none⟩ = some (.int .u64 (z : Int)) := by
    intro i z hz
    rw [hl] at own
    obtain ⟨g, c', hv, u⟩ := own_uv own hz
    injection hv with hv1 hv2 hv3
    exact ⟨g, hv1, u⟩
  obtain ⟨m, hm⟩ : ∃ m, m = l1.length := ⟨_, rfl⟩
  have hm1 : m ≤ 1073741824 := by omega
  rw [← hm] at WC
  have j0 : (0 : Int) ≤ (j : Int) := by omega
  have j1 : (j : Int) < (n : Int) := by omega
  have dj : decide ((j : Int) < 0) = false := decide_eq_false (by omega)
  replace WC := Lib.hid WC
  replace at_ := Lib.hid at_
  replace hK := Lib.hid hK
  clear h hll hX hk hn hu own
  constructor
  · cases hl1 : l1 with
    | nil =>
      have m0 : m = 0 := by rw [hm, hl1]; rfl
      subst m0
      have e1 : (([] : List Nat).getLast?.getD 0) = 0 := rfl
      have e2 : decide (0 < ([] : List Nat).length) = false := rfl
      rw [e1, e2]
      clear hl1 hm hKl hl
      have q0 : IntKind.i64.wrap (((0 : Nat) : Int) + -1) = -1 := by decide
      go_enter Tryz.func123, Tryz.ntmps123
      go_wp2_with fail
      refine WC.out.mono ?_
      rintro e w' ⟨rfl, rfl⟩
      go_wp2
      go_ret2
      exact ⟨rfl, rfl⟩
    | cons a t =>
      obtain ⟨z, hz⟩ : ∃ z, (a :: t).getLast? = some z := ⟨(a :: t).getLast (by simp), List.getLast?_eq_some_getLast (by simp)⟩
      have hzi : (l1 ++ H :: l2)[m - 1]? = some z := by
        rw [List.getElem?_append_left (by rw [← hm]; rw [hm, hl1]; simp), hm, ← List.getLast?_eq_getElem?, hl1]
        exact hz
      rw [hz, Option.getD_some, decide_eq_true (show 0 < (a :: t).length by simp)]
      obtain ⟨p, hp⟩ : ∃ p, m = p + 1 := ⟨t.length, by rw [hm, hl1]; rfl⟩
      rw [hp, Nat.add_sub_cancel] at hzi
      obtain ⟨g, rfl, u⟩ := at_.out p z hzi
      have q0 : IntKind.i64.wrap ((m : Int) + -1) = (p : Int) := by rw [IntWalk.i64_in _ (by omega)]; omega
      have p0 : (0 : Int) ≤ (p : Int) := by omega
      have p1 : (p : Int) < (K : Int) := by omega
      replace hp := Lib.hid hp
      have dp : decide ((p : Int) < 0) = false := decide_eq_false (by omega)
      have dq : decide ((K : Int) ≤ (p : Int)) = false := decide_eq_false (by omega)
      clear hl1 hm hKl hl hz hzi
      go_enter Tryz.func123, Tryz.ntmps123
      go_wp2_with fail
      refine WC.out.mono ?_
      rintro e w' ⟨rfl, rfl⟩
      go_wp2
      go_ret2
      exact ⟨rfl, rfl⟩
  · have q0 : IntKind.i64.wrap ((m : Int) + 1) = (m : Int) + 1 := IntWalk.i64_in _ (by omega)
    have dp : decide ((m : Int) + 1 < 0) = false := decide_eq_false (by omega)
    cases hl2 : l2 with
    | nil =>
      have e1 : (([] : List Nat).head?.getD 0) = 0 := rfl
      have e2 : decide (0 < ([] : List Nat).length) = false := rfl
      rw [e1, e2]
      have dq : decide ((K : Int) ≤ (m : Int) + 1) = true := decide_eq_true (by rw [hl2] at hKl; simp at hKl; omega)
      clear hl2 hm hKl hl e1 e2
      go_enter Tryz.func123, Tryz.ntmps123
      go_wp2_with fail
      refine WC.out.mono ?_
      rintro e w' ⟨rfl, rfl⟩
      go_wp2
      go_ret2
      exact ⟨rfl, rfl⟩
    | cons a t =>
      have hzi : (l1 ++ H :: l2)[m + 1]? = some a := by
        rw [hl2, List.getElem?_append_right (by omega), hm, show l1.length + 1 - l1.length = 1 by omega]
        rfl
      have e1 : ((a :: t).head?.getD 0) = a := rfl
      rw [e1, decide_eq_true (show 0 < (a :: t).length by simp)]
      obtain ⟨g, rfl, u⟩ := at_.out (m + 1) a hzi
      have hk2 : m + 1 < K := by rw [hl2] at hKl; simp at hKl; omega
      have p0 : (0 : Int) ≤ (m : Int) + 1 := by omega
      have p1 : (m : Int) + 1 < (K : Int) := by omega
      have p2 : ((m : Int) + 1).toNat = m + 1 := by omega
      have dq : decide ((K : Int) ≤ (m : Int) + 1) = false := decide_eq_false (by omega)
      clear hl2 hm hKl hl hzi e1
      go_enter Tryz.func123, Tryz.ntmps123
      go_wp2_with fail
      refine WC.out.mono ?_
      rintro e w' ⟨rfl, rfl⟩
      go_wp2
      go_ret2
      exact ⟨rfl, rfl⟩
end
end Go.Proofs.YtfjiphibalhcgaaGreat.Que
/-
  The document's queue: a list is another one; a list without one.
-/
namespace Go.Proofs.YtfjiphibalhcgaaGreat.Que
open Go.RowKit Base Arena Cls Itm
set_option linter.unusedVariables false
set_option linter.unusedSectionVars false

theorem rows6_upd (Ls : Nat → Nat → List Nat) (X k : Nat) (hk : k < 3) (l : List Nat) : upd (rows6 Ls) (3 * X + k) l = rows6 (updL Ls X k l) := by
  funext i
  unfold upd
  show (if i = 3 * X + k then l else Ls (i / 3) (i % 3)) = updL Ls X k l (i / 3) (i % 3)
  unfold updL
  by_cases h : i = 3 * X + k
  · rw [if_pos h, if_pos (by omega)]
  · rw [if_neg h, if_neg (by omega)]
theorem own_more0 {w : World} {B n : Nat} {e : TypeId} {v : Value} {xs : List Value} (h : w.ownsRow B e 1 v n xs) : w.ownsRow 0 e 1 v n xs :=
  ⟨h.1, h.2.imp id fun ⟨g, cap, cur, e1, hB, hh⟩ => ⟨g, cap, cur, e1, Nat.zero_le _, hh⟩⟩
theorem R6At.setRow {w w6 : World} {R : R6} {mb n : Nat} {laid : List Nat} {lists : Nat → List Nat} (h : R6At w R mb n laid lists) {j : Nat} (hj : j < n) {V : Value} {l : List Nat} (b : Below w.heap.size w w6)
    (own : w6.ownsRow w.heap.size 26 1 V l.length (l.map uv)) : R6At (w6.setCell ⟨R.gL, j, none⟩ V) { R with F := upd R.F j V } mb n laid (upd lists j l) ∧ Went6 w (w6.setCell ⟨R.gL, j, none⟩ V) R { R with F := upd R.F j V } n := by
  have gl : R.gL < w.heap.size := h.grid.lt
  have far : ∀ d, d < w6.heap.size → d ≠ R.gL → (w6.setCell ⟨R.gL, j, none⟩ V).heap[d]? = w6.heap[d]? := fun d hd hne => (only_cell1 (S := (· = R.gL)) w6 R.gL j V rfl).block d hd hne
  have kp : ∀ p d, p ≠ .grid → R.blk n p = some d → (w6.setCell ⟨R.gL, j, none⟩ V).heap[d]? = w.heap[d]? := fun p d hp hd => by
    have hl := h.lt ⟨p, hd⟩
    exact (far d (Nat.lt_of_lt_of_le hl b.size) (fun e => hp (h.inj p .grid d hd (by rw [e]; rfl)))).trans (b.block d hl)
  have hbl : ∀ p, p ≠ .row j → R6.blk { R with F := upd R.F j V } n p = R.blk n p := fun p hp => by
    cases p with
    | row k =>
      have hk : k ≠ j := fun e => hp (by rw [e])
      show (if k < n then (upd R.F j V k).ownBlock else none) = if k < n then (R.F k).ownBlock else none
      rw [upd_ne _ _ hk]
    | _ => rfl
  have hbj : R6.blk { R with F := upd R.F j V } n (.row j) = V.ownBlock := by
    show (if j < n then (upd R.F j V j).ownBlock else none) = _
    rw [if_pos hj, upd_at]
  have new : ∀ d, V.ownBlock = some d → w.heap.size ≤ d := fun d e => own_base own e
  refine ⟨⟨fun p => ?_, fun p q d hp hq => ?_⟩, ?_, fun d ⟨p, hp⟩ => ?_, rfl⟩
  · cases p with
    | head => exact (kp .head _ (by simp) rfl).trans h.head
    | laid => exact own_keptN h.laidR fun d e => kp .laid d (by simp) e
    | grid =>
      have g6 : Grid w6 R.gL 45 n 1 (fun k _ => R.F k) := h.grid.kept (b.block _ gl)
      have := (g6.set j 0 hj (by decide) V).congr (f' := fun k _ => upd R.F j V k) fun a c ha hc => by
        have hc0 : c = 0 := by omega
        subst hc0
        show (if a = j ∧ 0 = 0 then V else R.F a) = if a = j then V else R.F a
        by_cases e : a = j <;> simp [e]
      rw [Nat.mul_one, Nat.add_zero] at this
      exact this
    | row k =>
      intro hk
      show World.ownsRow _ 0 _ 1 (upd R.F j V k) (upd lists j l k).length ((upd lists j l k).map uv)
      by_cases e : k = j
      · subst e
        rw [upd_at, upd_at]
        exact own_keptN (own_more0 own) fun d hd => far d (own_blockN own hd) (fun e => by have := new d hd; omega)
      · rw [upd_ne _ _ e, upd_ne _ _ e]
        exact own_keptN (h.row hk) fun d hd => kp (.row k) d (by simp) (by rw [R6.blk, if_pos hk]; exact hd)
  · by_cases ep : p = .row j
    · subst ep
      by_cases eq : q = .row j
      · exact eq.symm
      · rw [hbl q eq] at hq
        rw [hbj] at hp
        have := new d hp
        have := h.lt ⟨q, hq⟩
        omega
    · rw [hbl p ep] at hp
      by_cases eq : q = .row j
      · subst eq
        rw [hbj] at hq
        have := new d hq
        have := h.lt ⟨p, hp⟩
        omega
      · rw [hbl q eq] at hq
        exact h.inj p q d hp hq
  · exact (Only.of_below b (Nat.le_refl _) (F6 R n)).trans (only_cell1 (S := F6 R n) w6 R.gL j V ⟨.grid, rfl⟩) fun _ _ h => h
  · by_cases ep : p = .row j
    · subst ep
      rw [hbj] at hp
      exact .inr (new d hp)
    · rw [hbl p ep] at hp
      exact .inl ⟨p, hp⟩
theorem wo_step (l : List Nat) (i k : Nat) {x : Nat} (hx : l[k]? = some x) : (l.take (k + 1)).eraseIdx i = if k = i then (l.take k).eraseIdx i else (l.take k).eraseIdx i ++ [x] := by
  have hk : k < l.length := (List.getElem?_eq_some_iff.1 hx).1
  have hl : (l.take k).length = k := by rw [List.length_take]; omega
  have e : l.take (k + 1) = l.take k ++ [x] := by rw [List.take_add_one, hx]; rfl
  rw [e]
  rcases Nat.lt_trichotomy k i with h | h | h
  · rw [if_neg (by omega), List.eraseIdx_of_length_le (by rw [List.length_append, hl]; simp; omega), List.eraseIdx_of_length_le (by omega)]
  · subst h
    have h1 : (l.take k ++ [x]).eraseIdx k = l.take k := by
      rw [List.eraseIdx_append_of_length_le (by omega), hl, Nat.sub_self]
      simp
    have h2 : (l.take k).eraseIdx k = l.take k := List.eraseIdx_of_length_le (by omega)
    rw [if_pos rfl, h1, h2]
  · rw [if_neg (by omega), List.eraseIdx_append_of_lt_length (by omega)]
set_option maxRecDepth 100000 in
set_option maxHeartbeats 1000000 in
/-- A list without its i-th, in new memory. -/
theorem withoutC (w : World) (N cp : Nat) (A : Option Addr) (l : List Nat) (own : w.ownsRow N 26 1 (.slice A l.length cp) l.length (l.map uv)) (hlen : l.length ≤ 1073741824) (i : Nat) :
    Calls Tryz.prog 79 #[.slice A l.length cp, .int .i64 (i : Int)] w fun e w' => ∃ A' cp', e = .returned (.slice A' (l.eraseIdx i).length cp') ∧ Below w.heap.size w w' ∧ w'.ownsRow w.heap.size 26 1 (.slice A' (l.eraseIdx i).length cp') (l.eraseIdx i).length ((l.eraseIdx i).map uv) := by
  obtain ⟨n, hn⟩ : ∃ n, n = l.length := ⟨_, rfl⟩
  rw [← hn] at own ⊢
  have hn1 : n ≤ 1073741824 := by omega
  replace hn := Lib.hid hn
  have at_ : ∀ (k x : Nat), l[k]? = some x → ∃ g, A = some ⟨g, 0, none⟩ ∧ g < w.heap.size ∧ w.cell? ⟨g, k, none⟩ = some (.int .u64 (x : Int)) := by
    intro k x hx
    obtain ⟨g, c', hv, u⟩ := own_uv own hx
    injection hv with hv1 hv2 hv3
    exact ⟨g, hv1, own_blockN own (by rw [hv1]; rfl), u⟩
  replace at_ := Lib.hid at_
  clear own hlen
  go_enter Tryz.func79, Tryz.ntmps79
  go_wp2
  go_loopw [5, 6] (fun vo vi wr => ∃ (k m cp' : Nat) (A' : Option Addr), vi = .int .i64 (k : Int) ∧ vo = .slice A' m cp' ∧ k ≤ n ∧ Hid (m = ((l.take k).eraseIdx i).length) ∧ Hid (Below w.heap.size w wr) ∧ Hid (wr.ownsRow w.heap.size 26 1 (.slice A' m cp') m (((l.take k).eraseIdx i).map uv))) (fun _ vi _ => n - (intOf vi).toNat)
  case atStart => exact ⟨0, 0, 0, none, rfl, rfl, Nat.zero_le _, Lib.hid (by simp), Lib.hid (Below.refl _ _), Lib.hid (by simp; exact own_nil _ _ _)⟩
  case round =>
    obtain ⟨k, m, cp', A', rfl, rfl, hk, hm, hb, ho⟩ := hrel
    by_cases hkn : k < n
    · obtain ⟨x, hx⟩ : ∃ x, l[k]? = some x := ⟨l[k]'(by rw [← hn.out]; exact hkn), List.getElem?_eq_getElem _⟩
      obtain ⟨g, rfl, hg, cl⟩ := at_.out k x hx
      have st := wo_step l i k hx
      have clr := (hb.out.cell (p := ⟨g, k, none⟩) hg).trans cl
      have k0 : (0 : Int) ≤ (k : Int) := by omega
      have k1 : (k : Int) < (n : Int) := by omega
      have d1 : decide ((k : Int) < (n : Int)) = true := decide_eq_true k1
      have q1 : IntKind.i64.wrap ((k : Int) + 1) = (k : Int) + 1 := IntWalk.i64_in _ (by omega)
      replace hx := Lib.hid hx
      by_cases hki : k = i
      · have d2 : ((k : Int) == (i : Int)) = true := by rw [beq_iff_eq]; omega
        have d3 : ((k : Int) != (i : Int)) = false := by rw [bne_eq_false_iff_eq]; omega
        have d4 : decide ((k : Int) = (i : Int)) = true := decide_eq_true (by omega)
        rw [if_pos hki] at st
        rw [← st] at hm ho
        replace st := Lib.hid st
        replace hki := Lib.hid hki
        go_wp2
        go_roundw
        case rel => exact ⟨k + 1, m, cp', A', by simp, rfl, by omega, hm, hb, ho⟩
        case measure => simp [intOf] <;> omega
      · have d2 : ((k : Int) == (i : Int)) = false := by rw [beq_eq_false_iff_ne]; omega
        have d3 : ((k : Int) != (i : Int)) = true := by rw [bne_iff_ne]; omega
        have d4 : decide ((k : Int) = (i : Int)) = false := decide_eq_false (by omega)
        rw [if_neg hki] at st
        have hml : m ≤ 1073741824 := by
          rw [hm.out]
          have := List.length_eraseIdx_le (l := l.take k) (i := i)
          rw [List.length_take] at this
          omega
        have sz := hb.out.size
        replace st := Lib.hid st
        replace hki := Lib.hid hki
        go_wp2_with (at_builtin; refine wpList_app rfl _ _ _ rfl eiL w.heap.size _ _ _ rfl (ho.out.alloc _) (wr.heap.size + 1) (some ⟨wr.heap.size, 0, none⟩) 1 1 [.int .u64 (x : Int)] rfl ?c1 ?c2 ?c3 ?c4 ?c5 ?_)
        case c1 => exact reads_v wr _ _
        case c2 => intro u hu; rw [List.mem_singleton] at hu; subst hu; rfl
        case c3 => unfold maxLen; omega
        case c4 => omega
        case c5 => rw [World.size_alloc]; omega
        intro VV w6 own6 hg6 hat6
        obtain ⟨A6, cp6, rfl⟩ := own_is own6
        have b6 : Below w.heap.size w w6 := (hb.out.alloc sz _).grown hg6 (by rw [World.size_alloc]; omega) (fun j e => own_base ho.out e)
        have om : ((l.take (k + 1)).eraseIdx i).length = m + 1 := by rw [st.out, List.length_append, List.length_singleton, ← hm.out]
        have o6 : w6.ownsRow w.heap.size 26 1 (.slice A6 (m + 1) cp6) (m + 1) (((l.take (k + 1)).eraseIdx i).map uv) := by rw [st.out, List.map_append]; exact own6
        replace om := Lib.hid om
        replace o6 := Lib.hid o6
        replace b6 := Lib.hid b6
        clear own6 hg6 hat6 ho hb
        go_wp2
        go_roundw
        case rel => exact ⟨k + 1, m + 1, cp6, A6, by simp, rfl, by omega, Lib.hid om.out.symm, b6, o6⟩
        case measure => simp [intOf] <;> omega
    · obtain rfl : k = n := by omega
      have d1 : decide ((k : Int) < (k : Int)) = false := by simp
      have et : l.take k = l := List.take_of_length_le (by rw [← hn.out]; exact Nat.le_refl _)
      rw [et] at hm ho
      replace et := Lib.hid et
      go_wp2
      go_ret
      exact ⟨A', cp', by rw [← hm.out]; rfl, hb.out, by rw [← hm.out]; exact ho.out⟩
end Go.Proofs.YtfjiphibalhcgaaGreat.Que
/-
  The walks of the document's At, Of and gen.
-/
namespace Go.Proofs.YtfjiphibalhcgaaGreat.Cls
open Go.RowKit Base
set_option linter.unusedVariables false

theorem rfind_at {l : List RC} {H j : Nat} (h : rfind l H = some j) : ∃ x, l[j]? = some x ∧ x.tk = true ∧ x.name = H := by
  unfold rfind at h
  rw [List.findIdx?_eq_some_iff_getElem] at h
  obtain ⟨hl, h1, -⟩ := h
  simp only [Bool.and_eq_true, beq_iff_eq] at h1
  exact ⟨_, List.getElem?_eq_getElem hl, h1.1, h1.2⟩
def ratV (l : List RC) : Option Nat → Value
  | some j => match l[j]? with
    | some x => .tuple #[.int .i64 (x.place : Int), .int .i64 (x.cls : Int), .int .i64 0]
    | none => .tuple #[.int .i64 0, .int .i64 0, .int .i64 20]
  | none => .tuple #[.int .i64 0, .int .i64 0, .int .i64 20]
set_option maxRecDepth 100000 in
theorem ratC (w : World) (M : RL) (c : Conf) (r : RS) (h : RSetAt w M c r) (fi : RFine r) (hlen : r.ch.length ≤ 1073741824) (H : Nat) : Calls Tryz.prog 59 #[.pointer (some ⟨M.b, 0, none⟩), .int .u64 (H : Int)] w fun e w' => e = .returned (ratV r.ch (rfind r.ch H)) ∧ ∃ m, w.drewN m = w' := by
  have FC := rfindC w M c r h fi hlen H
  cases hf : rfind r.ch H with
  | none =>
    rw [hf] at FC
    unfold findIV at FC
    unfold ratV
    simp only at FC ⊢
    replace FC := Lib.hid FC
    clear h hf
    go_enter Tryz.func59, Tryz.ntmps59
    go_wp2_with fail
    refine FC.out.mono ?_
    rintro e w2 ⟨rfl, m, hm⟩
    replace hm := Lib.hid hm
    clear FC
    go_wp2
    go_ret3
    exact ⟨rfl, m, hm.out⟩
  | some j =>
    obtain ⟨x, hx, -, -⟩ := rfind_at hf
    rw [hf] at FC
    unfold findIV at FC
    simp only [ratV, hx]
    simp only at FC
    replace FC := Lib.hid FC
    replace h := Lib.hid h
    replace hx := Lib.hid hx
    clear hf
    go_enter Tryz.func59, Tryz.ntmps59
    go_wp2_with fail
    refine FC.out.mono ?_
    rintro e w2 ⟨rfl, m, hm⟩
    have h2 : RSetAt w2 M c r := by rw [← hm]; exact h.out.drewN m
    have c8 := h2.cCh
    obtain ⟨g, cp, hv, y0, y1, -, -, -, -, hjl⟩ := h2.chAt hx.out
    rw [hv] at c8
    have k0 : (0 : Int) ≤ (j : Int) := by omega
    have k1 : (j : Int) < (r.ch.length : Int) := by omega
    have d1 : decide ((j : Int) < 0) = false := decide_eq_false (by omega)
    replace hm := Lib.hid hm
    replace hv := Lib.hid hv
    clear FC h2
    go_wp2_with fail
    go_quiet (fail)
    rename Nat => nq
    go_wp2
    go_ret3
    exact ⟨rfl, m + nq, by rw [← hm.out]; simp [World.drewN, Nat.add_assoc]⟩
set_option maxRecDepth 100000 in
set_option maxHeartbeats 1600000 in
theorem rgenC (w : World) (M : RL) (c : Conf) (r : RS) (h : RSetAt w M c r) (hlen : r.ch.length ≤ 1073741824) (p : Nat) : Calls Tryz.prog 130 #[.pointer (some ⟨M.b, 0, none⟩), .int .i64 (p : Int)] w fun e w' => e = .returned (.int .u64 (rgen r.ch p : Int)) ∧ w = w' := by
  have c8 := h.cCh
  obtain ⟨A, cp, hv, -⟩ := h.chs
  rw [hv] at c8
  have q0 : IntKind.i64.wrap ((r.ch.length : Int) - 1) = (r.ch.length : Int) - 1 := IntWalk.i64_in _ (by omega)
  replace hv := Lib.hid hv
  replace h := Lib.hid h
  go_enter Tryz.func130, Tryz.ntmps130
  go_wp2
  clear c8
  go_loopw [5] (fun v wr => ∃ k : Nat, v = .int .i64 ((k : Int) - 1) ∧ k ≤ r.ch.length ∧ w = wr ∧ Hid (∀ j, k ≤ j → ∀ y : RC, r.ch[j]? = some y → y.place ≠ p)) (fun v _ => (intOf v + 1).toNat)
  case atStart => exact ⟨r.ch.length, rfl, Nat.le_refl _, rfl, Lib.hid (fun j hj y hy => by have := (List.getElem?_eq_some_iff.1 hy).1; omega)⟩
  case round =>
    obtain ⟨k, rfl, hk, rfl, hno⟩ := hrel
    cases k with
    | zero =>
      have d1 : decide ((0 : Int) ≤ ((0 : Nat) : Int) - 1) = false := by decide
      have hf := Lib.hid (rgen_none (l := r.ch) (p := p) fun x hx => by
        obtain ⟨j, hj, rfl⟩ := List.getElem_of_mem hx
        exact hno.out j (Nat.zero_le _) _ (List.getElem?_eq_getElem hj))
      go_wp2
      go_ret
      exact ⟨by rw [hf.out]; rfl, rfl⟩
    | succ k =>
      have e1 : ((k + 1 : Nat) : Int) - 1 = (k : Int) := by omega
      rw [e1]
      have hx : r.ch[k]? = some r.ch[k] := List.getElem?_eq_getElem (by omega)
      generalize r.ch[k] = x at *
      have c8 := h.out.cCh
      obtain ⟨g, cp2, hv2, y0, -, y2, -, -, -, -⟩ := h.out.chAt hx
      rw [hv2] at c8
      have k0 : (0 : Int) ≤ (k : Int) := by omega
      have k1 : (k : Int) < (r.ch.length : Int) := by omega
      have d1 : decide ((0 : Int) ≤ (k : Int)) = true := decide_eq_true (by omega)
      have qi : IntKind.i64.wrap ((k : Int) - 1) = (k : Int) - 1 := IntWalk.i64_in _ (by omega)
      replace hv2 := Lib.hid hv2
      by_cases hp : x.place = p
      · have hf := Lib.hid (show rgen r.ch p = x.gen by rw [← hp]; exact rgen_last hx fun j hj y hy => by rw [hp]; exact hno.out j (by omega) y hy)
        have d2 : ((x.place : Int) == (p : Int)) = true := by rw [beq_iff_eq]; omega
        have d3 : decide ((x.place : Int) = (p : Int)) = true := decide_eq_true (by omega)
        generalize (x.place : Int) = pp at *
        replace hx := Lib.hid hx
        replace hp := Lib.hid hp
        go_wp2
        go_ret
        exact ⟨by rw [hf.out]; rfl, rfl⟩
      · have hno' := Lib.hid (show ∀ j, k ≤ j → ∀ y : RC, r.ch[j]? = some y → y.place ≠ p from fun j hj y hy => by
          rcases Nat.lt_or_ge k j with h1 | h1
          · exact hno.out j (by omega) y hy
          · obtain rfl : j = k := by omega
            rw [hx] at hy
            injection hy with hy
            subst hy
            exact hp)
        have d2 : ((x.place : Int) == (p : Int)) = false := by rw [beq_eq_false_iff_ne]; omega
        have d3 : decide ((x.place : Int) = (p : Int)) = false := decide_eq_false (by omega)
        generalize (x.place : Int) = pp at *
        replace hx := Lib.hid hx
        clear hno hp
        go_wp2
        go_roundw
        case rel => exact ⟨k, rfl, by omega, trivial, hno'⟩
        case measure => simp [intOf] <;> omega
end Go.Proofs.YtfjiphibalhcgaaGreat.Cls
