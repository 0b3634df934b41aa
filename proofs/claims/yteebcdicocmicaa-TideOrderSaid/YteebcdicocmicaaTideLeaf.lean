/-
  The walks of cmp.Compare, cmp.Or and tide's order.
-/
import Derived.Test.YteebcdicocmicaaRows
import Derived.Test.YteebcdicocmicaaBase
import Derived.Test.YteebcdicocmicaaTidePlain
import Derived.Deep.RegionHeld3
import Derived.Deep.DrawnRows
import Derived.Sort.Grow
namespace Go.Proofs.Yteebcdicocmicaa.Tide
open Go.RowKit Base Go.Sort
set_option linter.unusedVariables false

attribute [local go_sem ↓] Go.wp_at_zero Go.wp_at_succ

theorem isNaNi (a : Int) (w : World) : Calls Try.prog 91 #[.int .i64 a] w fun e w' => e = .returned (.bool false) ∧ w = w' := by
  go_enter Try.func91, Try.ntmps91
  go_wp2
  go_ret
  exact ⟨by simp, rfl⟩
theorem isNaNu (a : Int) (w : World) : Calls Try.prog 92 #[.int .u64 a] w fun e w' => e = .returned (.bool false) ∧ w = w' := by
  go_enter Try.func92, Try.ntmps92
  go_wp2
  go_ret
  exact ⟨by simp, rfl⟩
def cmp3 (a b : Int) : Int := if a < b then -1 else if b < a then 1 else 0
theorem cmpi (a b : Int) (w : World) : Calls Try.prog 67 #[.int .i64 a, .int .i64 b] w fun e w' => e = .returned (.int .i64 (cmp3 a b)) ∧ w = w' := by
  have C := Lib.hid isNaNi
  have h3 : Hid (cmp3 a b = cmp3 a b) := rfl
  rcases Int.lt_trichotomy a b with h | h | h
  · have e3 := Lib.hid (show cmp3 a b = -1 by simp [cmp3, h])
    go_enter Try.func67, Try.ntmps67
    go_wp2_with (go_at_call 91; refine (C.out _ _).mono ?_; rintro e w' ⟨rfl, rfl⟩)
    go_ret
    exact ⟨by rw [e3.out]; rfl, rfl⟩
  · subst h
    have e3 := Lib.hid (show cmp3 a a = 0 by simp [cmp3])
    go_enter Try.func67, Try.ntmps67
    go_wp2_with (go_at_call 91; refine (C.out _ _).mono ?_; rintro e w' ⟨rfl, rfl⟩)
    go_ret
    exact ⟨by rw [e3.out]; rfl, rfl⟩
  · have e3 := Lib.hid (show cmp3 a b = 1 by simp [cmp3, h]; omega)
    have h' : ¬ a < b := by omega
    go_enter Try.func67, Try.ntmps67
    go_wp2_with (go_at_call 91; refine (C.out _ _).mono ?_; rintro e w' ⟨rfl, rfl⟩)
    go_ret
    exact ⟨by rw [e3.out]; rfl, rfl⟩
theorem cmpu (a b : Int) (w : World) : Calls Try.prog 68 #[.int .u64 a, .int .u64 b] w fun e w' => e = .returned (.int .i64 (cmp3 a b)) ∧ w = w' := by
  have C := Lib.hid isNaNu
  rcases Int.lt_trichotomy a b with h | h | h
  · have e3 := Lib.hid (show cmp3 a b = -1 by simp [cmp3, h])
    go_enter Try.func68, Try.ntmps68
    go_wp2_with (go_at_call 92; refine (C.out _ _).mono ?_; rintro e w' ⟨rfl, rfl⟩)
    go_ret
    exact ⟨by rw [e3.out]; rfl, rfl⟩
  · subst h
    have e3 := Lib.hid (show cmp3 a a = 0 by simp [cmp3])
    go_enter Try.func68, Try.ntmps68
    go_wp2_with (go_at_call 92; refine (C.out _ _).mono ?_; rintro e w' ⟨rfl, rfl⟩)
    go_ret
    exact ⟨by rw [e3.out]; rfl, rfl⟩
  · have e3 := Lib.hid (show cmp3 a b = 1 by simp [cmp3, h]; omega)
    have h' : ¬ a < b := by omega
    go_enter Try.func68, Try.ntmps68
    go_wp2_with (go_at_call 92; refine (C.out _ _).mono ?_; rintro e w' ⟨rfl, rfl⟩)
    go_ret
    exact ⟨by rw [e3.out]; rfl, rfl⟩
theorem cell_top (W : World) (cs : Array Value) (t n i : Nat) (hn : W.heap.size = n) : ((W.alloc (.cells cs t)).drew).cell? ⟨n, i, none⟩ = cs[i]? := by subst hn; exact (Blk.new W t cs).cell i
def or2 (p q : Int) : Int := if p = 0 then q else p
theorem orC (b : Nat) (p q : Int) (w : World) (h0 : w.cell? ⟨b, 0, none⟩ = some (.int .i64 p)) (h1 : w.cell? ⟨b, 1, none⟩ = some (.int .i64 q)) :
    Calls Try.prog 66 #[.slice (some ⟨b, 0, none⟩) 2 2] w fun e w' => e = .returned (.int .i64 (or2 p q)) ∧ w = w' := by
  by_cases hp : p = 0
  · subst hp
    have e3 := Lib.hid (show or2 0 q = q by simp [or2])
    by_cases hq : q = 0
    · subst hq
      go_enter Try.func66, Try.ntmps66
      go_wp2
      go_loop [8] (fun i => ∃ k : Nat, k ≤ 2 ∧ i = .int .i64 k) (fun i => 2 - (intOf i).toNat)
      case atStart => exact ⟨0, by omega, rfl⟩
      case round =>
        obtain ⟨k, hk, rfl⟩ := hrel
        have : k = 0 ∨ k = 1 ∨ k = 2 := by omega
        rcases this with rfl | rfl | rfl
        · go_wp2
          go_round
          case rel => exact ⟨1, by omega, rfl⟩
          case measure => simp [intOf]
        · go_wp2
          go_round
          case rel => exact ⟨2, by omega, rfl⟩
          case measure => simp [intOf]
        · go_wp2
          go_ret
          exact ⟨by rw [e3.out]; rfl, rfl⟩
    · go_enter Try.func66, Try.ntmps66
      go_wp2
      go_loop [8] (fun i => ∃ k : Nat, k ≤ 1 ∧ i = .int .i64 k) (fun i => 2 - (intOf i).toNat)
      case atStart => exact ⟨0, by omega, rfl⟩
      case round =>
        obtain ⟨k, hk, rfl⟩ := hrel
        have : k = 0 ∨ k = 1 := by omega
        rcases this with rfl | rfl
        · go_wp2
          go_round
          case rel => exact ⟨1, by omega, rfl⟩
          case measure => simp [intOf]
        · go_wp2
          go_ret
          exact ⟨by rw [e3.out]; rfl, rfl⟩
  · have e3 := Lib.hid (show or2 p q = p by simp [or2, hp])
    go_enter Try.func66, Try.ntmps66
    go_wp2
    go_loop [8] (fun i => i = .int .i64 0) (fun i => 0)
    case atStart => exact rfl
    case round =>
      subst hrel
      go_wp2
      go_ret
      exact ⟨by rw [e3.out]; rfl, rfl⟩
theorem or_ord (a b : E) : or2 (cmp3 a.x b.x) (cmp3 (a.t : Int) (b.t : Int)) = ord a b := by
  unfold or2 cmp3 ord
  rcases Int.lt_trichotomy a.x b.x with h | h | h
  · simp [h]
  · simp [h]
  · have : ¬ a.x < b.x := by omega
    simp [h, this]
/-- An entry's cells. -/
def eV (a : E) : Value := .agg #[.int .u64 (a.h : Int), .int .i64 a.x, .int .u64 (a.t : Int)]

set_option maxHeartbeats 1600000 in
theorem orderC (a b : E) (w : World) : Calls Try.prog 47 #[eV a, eV b] w fun e w' => e = .returned (.int .i64 (ord a b)) ∧ ∃ q os', w' = grow (w.drewN q) os' := by
  have Ci := Lib.hid (cmpi a.x b.x)
  have Cu := Lib.hid (cmpu (a.t : Int) (b.t : Int))
  have O := Lib.hid orC
  have ho := Lib.hid (or_ord a b)
  unfold eV
  generalize cmp3 a.x b.x = p at *
  generalize cmp3 (a.t : Int) (b.t : Int) = q at *
  generalize a.x = ax at *
  generalize b.x = bx at *
  generalize (a.h : Int) = ah at *
  generalize (b.h : Int) = bh at *
  generalize (a.t : Int) = at_ at *
  generalize (b.t : Int) = bt at *
  go_enter Try.func47, Try.ntmps47
  go_wp2
  go_region_held3 (fun w' => w'.cell? ⟨w.heap.size, 1, none⟩ = some (.int .i64 ax) ∧ w'.cell? ⟨w.heap.size + 1, 1, none⟩ = some (.int .i64 bx) ∧ w'.cell? ⟨w.heap.size, 2, none⟩ = some (.int .u64 at_) ∧ w'.cell? ⟨w.heap.size + 1, 2, none⟩ = some (.int .u64 bt)) (go_keep)
    (first
      | (go_at_call 67; refine (Ci.out _).mono ?_; rintro e w' ⟨rfl, rfl⟩)
      | (go_at_call 68; refine (Cu.out _).mono ?_; rintro e w' ⟨rfl, rfl⟩)
      | (go_at_call 66; refine (O.out _ p q _ (cell_top _ _ _ _ _ (by simp)) (cell_top _ _ _ _ _ (by simp))).mono ?_; rintro e w' ⟨rfl, rfl⟩))
  all_goals
    go_wp2
    go_ret
    exact ⟨by rw [← ho.out]; rfl, 1, #[_, _, _], by rw [alloc_eq_grow, alloc_eq_grow, alloc_eq_grow, grow_grow, grow_grow, drew_grow]; rfl⟩
end Go.Proofs.Yteebcdicocmicaa.Tide
