/-
  The walks of the calls that only tell.
-/
import Derived.Test.YtgodinapdahocaaClassTold
import Derived.Test.YtgodinapdahocaaClassGive
namespace Go.Proofs.Ytgodinapdahocaa.Cls
open Go.RowKit Base MapG
set_option linter.unusedVariables false

section
variable (w : World) (L : Lay) (c : Conf) (s : St) (bs : List UInt8) (h : SetAt w L c s bs)
include h
/-- A page that is a class's: its pointer. -/
def pageN (d : Cf) (s : St) (i : Int) : Option Nat := if 0 ≤ i ∧ i < (d.np : Int) ∧ s.own i.toNat = true then some i.toNat else none
def pageV (L : Lay) : Option Nat → Value
  | some i => .pointer (some ⟨L.gp, i * 7, none⟩)
  | none => .pointer none
omit h in
theorem pageN_some {d : Cf} {s : St} {i : Int} {j : Nat} (h : pageN d s i = some j) : i = (j : Int) ∧ j < d.np ∧ s.own j = true := by
  unfold pageN at h
  split at h
  · rename_i hh
    injection h with h
    subst h
    exact ⟨by omega, by omega, hh.2.2⟩
  · cases h
omit h in
theorem pageN_nat {d : Cf} {s : St} {j : Nat} (h1 : j < d.np) (h2 : s.own j = true) : pageN d s (j : Int) = some j := if_pos ⟨by omega, by omega, by rw [Int.toNat_natCast]; exact h2⟩
set_option maxRecDepth 100000 in
theorem ownedC (i : Int) : Calls Try.prog 54 #[.pointer (some ⟨L.g, 0, none⟩), .int .i64 i] w fun e w' => e = .returned (pageV L (pageN c.cf s i)) ∧ w = w' := by
  have c9 := h.cPages
  have hnp := h.okc.npb
  by_cases h0 : i < 0
  · have d0 : decide (i < 0) = true := decide_eq_true h0
    have e : pageN c.cf s i = none := if_neg (fun hh => by omega)
    rw [e]
    unfold pageV
    clear h h0 e
    go_enter Try.func54, Try.ntmps54
    go_wp2
    go_ret
    exact ⟨rfl, rfl⟩
  have d0 : decide (i < 0) = false := decide_eq_false h0
  by_cases h1 : (c.cf.np : Int) ≤ i
  · have d1 : decide ((c.cf.np : Int) ≤ i) = true := decide_eq_true h1
    have e : pageN c.cf s i = none := if_neg (fun hh => by omega)
    rw [e]
    unfold pageV
    clear h h0 h1 e
    go_enter Try.func54, Try.ntmps54
    go_wp2
    go_ret
    exact ⟨rfl, rfl⟩
  have d1 : decide ((c.cf.np : Int) ≤ i) = false := decide_eq_false h1
  obtain ⟨j, rfl⟩ := Int.eq_ofNat_of_zero_le (show 0 ≤ i by omega)
  have hj : j < c.cf.np := by omega
  have d1' : decide (c.cf.np ≤ j) = false := decide_eq_false (by omega)
  have j0 : (0 : Int) ≤ (j : Int) := by omega
  have j1 : (j : Int) < (c.cf.np : Int) := by omega
  have p0 := h.p0 hj
  cases ho : s.own j with
  | true =>
    rw [pageN_nat hj ho]
    rw [ho] at p0
    unfold pageV
    clear h h0 h1 ho
    go_enter Try.func54, Try.ntmps54
    go_wp2
    go_ret
    exact ⟨rfl, rfl⟩
  | false =>
    have e : pageN c.cf s (j : Int) = none := if_neg (fun hh => by have := hh.2.2; rw [Int.toNat_natCast, ho] at this; cases this)
    rw [e]
    rw [ho] at p0
    unfold pageV
    clear h h0 h1 ho e
    go_enter Try.func54, Try.ntmps54
    go_wp2
    go_ret
    exact ⟨rfl, rfl⟩
theorem ownerC (i : Int) : Calls Try.prog 57 #[.pointer (some ⟨L.g, 0, none⟩), .int .i64 i] w fun e w' => e = .returned (.int .i64 (match pageN c.cf s i with | some j => (s.cls j : Int) | none => -1)) ∧ w = w' := by
  have OC := ownedC w L c s bs h i
  cases hp : pageN c.cf s i with
  | none =>
    rw [hp] at OC
    unfold pageV at OC
    simp only at OC ⊢
    replace OC := Lib.hid OC
    clear h hp
    go_enter Try.func57, Try.ntmps57
    go_wp2_with fail
    refine OC.out.mono ?_
    rintro e w' ⟨rfl, rfl⟩
    go_wp2
    go_ret
    exact ⟨rfl, rfl⟩
  | some j =>
    rw [hp] at OC
    unfold pageV at OC
    simp only at OC ⊢
    obtain ⟨-, hj, ho⟩ := pageN_some hp
    have p2 := h.p2 hj
    replace OC := Lib.hid OC
    clear h hp hj ho
    go_enter Try.func57, Try.ntmps57
    go_wp2_with fail
    refine OC.out.mono ?_
    rintro e w' ⟨rfl, rfl⟩
    go_wp2
    go_ret
    exact ⟨rfl, rfl⟩
theorem heldC (i : Int) : Calls Try.prog 65 #[.pointer (some ⟨L.g, 0, none⟩), .int .i64 i] w fun e w' => e = .returned (.int .i64 (match pageN c.cf s i with | some j => (s.held j : Int) | none => 0)) ∧ w = w' := by
  have OC := ownedC w L c s bs h i
  cases hp : pageN c.cf s i with
  | none =>
    rw [hp] at OC
    unfold pageV at OC
    simp only at OC ⊢
    replace OC := Lib.hid OC
    clear h hp
    go_enter Try.func65, Try.ntmps65
    go_wp2_with fail
    refine OC.out.mono ?_
    rintro e w' ⟨rfl, rfl⟩
    go_wp2
    go_ret
    exact ⟨rfl, rfl⟩
  | some j =>
    rw [hp] at OC
    unfold pageV at OC
    simp only at OC ⊢
    obtain ⟨-, hj, ho⟩ := pageN_some hp
    have p2 := h.p5 hj
    replace OC := Lib.hid OC
    clear h hp hj ho
    go_enter Try.func65, Try.ntmps65
    go_wp2_with fail
    refine OC.out.mono ?_
    rintro e w' ⟨rfl, rfl⟩
    go_wp2
    go_ret
    exact ⟨rfl, rfl⟩
theorem leavesC (i : Int) : Calls Try.prog 64 #[.pointer (some ⟨L.g, 0, none⟩), .int .i64 i] w fun e w' => e = .returned (.bool (match pageN c.cf s i with | some j => s.lvs j | none => false)) ∧ w = w' := by
  have OC := ownedC w L c s bs h i
  cases hp : pageN c.cf s i with
  | none =>
    rw [hp] at OC
    unfold pageV at OC
    simp only at OC ⊢
    replace OC := Lib.hid OC
    clear h hp
    go_enter Try.func64, Try.ntmps64
    go_wp2_with fail
    refine OC.out.mono ?_
    rintro e w' ⟨rfl, rfl⟩
    go_wp2
    go_ret
    exact ⟨rfl, rfl⟩
  | some j =>
    rw [hp] at OC
    unfold pageV at OC
    simp only at OC ⊢
    obtain ⟨-, hj, ho⟩ := pageN_some hp
    have p2 := h.p1 hj
    replace OC := Lib.hid OC
    clear h hp hj ho
    go_enter Try.func64, Try.ntmps64
    go_wp2_with fail
    refine OC.out.mono ?_
    rintro e w' ⟨rfl, rfl⟩
    go_wp2
    go_ret
    exact ⟨rfl, rfl⟩
theorem freeC (k : Int) : Calls Try.prog 30 #[.pointer (some ⟨L.g, 0, none⟩), .int .i64 k] w fun e w' => e = .returned (.int .i64 (if 0 ≤ k ∧ k < (c.nc : Int) then ((s.free k.toNat).length : Int) else 0)) ∧ w = w' := by
  have IC := isC h k
  by_cases hk : 0 ≤ k ∧ k < (c.nc : Int)
  · rw [if_pos hk]
    rw [decide_eq_true hk] at IC
    obtain ⟨k, rfl⟩ := Int.eq_ofNat_of_zero_le hk.1
    obtain ⟨k0, k1⟩ := hk
    have c10 := h.cRows
    have r0 := h.r0 (k := k) (by omega)
    have own := h.freeB (k := k) (by omega)
    obtain ⟨A, cp, hF⟩ := own_is own
    rw [hF] at r0
    rw [Int.toNat_natCast]
    replace IC := Lib.hid IC
    clear h own hF
    go_enter Try.func30, Try.ntmps30
    go_wp2_with fail
    refine IC.out.mono ?_
    rintro e w' ⟨rfl, rfl⟩
    go_wp2
    go_ret
    exact ⟨rfl, rfl⟩
  · rw [if_neg hk]
    rw [decide_eq_false hk] at IC
    replace IC := Lib.hid IC
    clear h
    go_enter Try.func30, Try.ntmps30
    go_wp2_with fail
    refine IC.out.mono ?_
    rintro e w' ⟨rfl, rfl⟩
    go_wp2
    go_ret
    exact ⟨rfl, rfl⟩
theorem takenC (k : Int) : Calls Try.prog 29 #[.pointer (some ⟨L.g, 0, none⟩), .int .i64 k] w fun e w' => e = .returned (.int .i64 (if 0 ≤ k ∧ k < (c.nc : Int) then (s.rt k.toNat : Int) else 0)) ∧ w = w' := by
  have IC := isC h k
  by_cases hk : 0 ≤ k ∧ k < (c.nc : Int)
  · rw [if_pos hk]
    rw [decide_eq_true hk] at IC
    obtain ⟨k, rfl⟩ := Int.eq_ofNat_of_zero_le hk.1
    obtain ⟨k0, k1⟩ := hk
    have c10 := h.cRows
    have r0 := h.r1 (k := k) (by omega)
    rw [Int.toNat_natCast]
    replace IC := Lib.hid IC
    clear h
    go_enter Try.func29, Try.ntmps29
    go_wp2_with fail
    refine IC.out.mono ?_
    rintro e w' ⟨rfl, rfl⟩
    go_wp2
    go_ret
    exact ⟨rfl, rfl⟩
  · rw [if_neg hk]
    rw [decide_eq_false hk] at IC
    replace IC := Lib.hid IC
    clear h
    go_enter Try.func29, Try.ntmps29
    go_wp2_with fail
    refine IC.out.mono ?_
    rintro e w' ⟨rfl, rfl⟩
    go_wp2
    go_ret
    exact ⟨rfl, rfl⟩
theorem pagesC (k : Int) : Calls Try.prog 62 #[.pointer (some ⟨L.g, 0, none⟩), .int .i64 k] w fun e w' => e = .returned (.int .i64 (if 0 ≤ k ∧ k < (c.nc : Int) then (s.rp k.toNat : Int) else 0)) ∧ w = w' := by
  have IC := isC h k
  by_cases hk : 0 ≤ k ∧ k < (c.nc : Int)
  · rw [if_pos hk]
    rw [decide_eq_true hk] at IC
    obtain ⟨k, rfl⟩ := Int.eq_ofNat_of_zero_le hk.1
    obtain ⟨k0, k1⟩ := hk
    have c10 := h.cRows
    have r0 := h.r2 (k := k) (by omega)
    rw [Int.toNat_natCast]
    replace IC := Lib.hid IC
    clear h
    go_enter Try.func62, Try.ntmps62
    go_wp2_with fail
    refine IC.out.mono ?_
    rintro e w' ⟨rfl, rfl⟩
    go_wp2
    go_ret
    exact ⟨rfl, rfl⟩
  · rw [if_neg hk]
    rw [decide_eq_false hk] at IC
    replace IC := Lib.hid IC
    clear h
    go_enter Try.func62, Try.ntmps62
    go_wp2_with fail
    refine IC.out.mono ?_
    rintro e w' ⟨rfl, rfl⟩
    go_wp2
    go_ret
    exact ⟨rfl, rfl⟩
/-- What At tells. -/
def atV (s : St) : Option (Nat × Nat × Nat) → Value
  | some (i, _, p) => .tuple #[.int .i64 (p : Int), .int .i64 (s.cls i : Int), .int .i64 0]
  | none => .tuple #[.int .i64 0, .int .i64 0, .int .i64 20]
set_option maxRecDepth 100000 in
theorem atC (g : Good c.cf s) (H : Nat) (hH : H < 18446744073709551616) : Calls Try.prog 27 #[.pointer (some ⟨L.g, 0, none⟩), .int .u64 (H : Int)] w fun e w' => e = .returned (atV s (findN c.cf s H)) ∧ ∃ m, w.drewN m = w' := by
  have FC := findC w L c s bs h g H hH
  cases hf : findN c.cf s H with
  | none =>
    rw [hf] at FC
    unfold findV at FC
    unfold atV
    simp only at FC ⊢
    replace FC := Lib.hid FC
    clear h g hf
    go_enter Try.func27, Try.ntmps27
    go_wp2_with fail
    refine FC.out.mono ?_
    rintro e w' ⟨rfl, m, rfl⟩
    go_wp2
    go_ret3
    exact ⟨rfl, _, rfl⟩
  | some r =>
    obtain ⟨i, x, p⟩ := r
    rw [hf] at FC
    unfold findV at FC
    unfold atV
    simp only at FC ⊢
    obtain ⟨h1, h2, -⟩ := findN_some g hf
    have p2 := fun m => (h.drewN m).p2 h1
    replace FC := Lib.hid FC
    clear h g hf h1 h2
    go_enter Try.func27, Try.ntmps27
    go_wp2_with fail
    refine FC.out.mono ?_
    rintro e w' ⟨rfl, m, rfl⟩
    have p2 := p2 m
    go_upto_region 4 with fail
    go_quiet (fail)
    go_wp2
    go_ret3
    exact ⟨rfl, by repeat (first | exact drew_here _ | refine drew_more ?_)⟩
end
end Go.Proofs.Ytgodinapdahocaa.Cls
