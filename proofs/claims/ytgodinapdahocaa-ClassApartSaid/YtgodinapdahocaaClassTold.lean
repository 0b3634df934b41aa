/-
  The walks of the small tellers: heavy, Classes, FreePages, Config, Chunk, Quota.
-/
import Derived.Test.YtgodinapdahocaaClassBegun
import Derived.Test.YtgodinapdahocaaClassFind
namespace Go.Proofs.Ytgodinapdahocaa.Cls
open Go.RowKit Base MapG
set_option linter.unusedVariables false

theorem refN_three {c : Conf} (h : ¬ refN c = 0) : refN c = 1 ∨ refN c = 2 ∨ refN c = 3 := by
  unfold refN at h ⊢
  split
  · split
    · exact .inr (.inl rfl)
    · split
      · exact .inr (.inr rfl)
      · rename_i a b d
        rw [if_pos a, if_neg b, if_neg d] at h
        exact absurd rfl h
  · exact .inl rfl
def heavyB (c : Conf) : Bool := decide (refN c = 0 ∧ 2097152 / c.cf.ps < c.cf.np)
set_option maxRecDepth 100000 in
set_option maxHeartbeats 1600000 in
theorem heavyC (w : World) (c : Conf) : Calls Try.prog 13 #[.agg c.cells] w fun e w' => e = .returned (.bool (heavyB c)) ∧ Below w.heap.size w w' := by
  obtain ⟨w1, hw1⟩ : ∃ w1, w1 = w.alloc (.cells c.cells 27) := ⟨_, rfl⟩
  have B1 : Blk w1 w.heap.size 27 c.cells := by rw [hw1]; exact Blk.new w _ _
  have b1 : Below w.heap.size w w1 := by rw [hw1]; exact (Below.refl _ _).alloc (Nat.le_refl _) _
  have s1 : w1.heap.size = w.heap.size + 1 := by rw [hw1]; exact World.size_alloc _ _
  obtain ⟨x0, x1, x2, x3, x4, x5, x6⟩ := conf_cells B1
  have CC := Lib.hid (configC c w1.drew)
  have RC := Lib.hid (fun w => refusedC c w)
  unfold Conf.cells at CC hw1 ⊢
  unfold Conf.rcells at CC RC
  replace hw1 := Lib.hid hw1
  replace B1 := Lib.hid B1
  generalize hN : w.heap.size = N at *
  replace hN := Lib.hid hN
  go_enter Try.func13, Try.ntmps13
  go_upto_region 1 with fail
  rw [hN.out, ← hw1.out]
  by_cases hr : refN c = 0
  · have hR := (refN_zero hr).1
    have psE := hR.psE
    have npE := hR.npE
    have ok := (okOf hr).1
    have z0 : ¬ c.ps = 0 := by have := ok.ps; omega
    obtain ⟨V, hV⟩ : ∃ V, V = 2097152 / c.cf.ps := ⟨_, rfl⟩
    have hVb : V ≤ 2097152 := by rw [hV]; exact Nat.div_le_self _ _
    have q1 : (2097152 : Int).tdiv c.ps = (V : Int) := by rw [psE, hV]; exact tdivN 2097152 c.cf.ps
    have q2 : IntKind.i64.wrap (V : Int) = (V : Int) := IntWalk.i64_in _ (by omega)
    have q3 : decide ((V : Int) < c.np) = heavyB c := by
      unfold heavyB
      rw [← hV]
      refine decide_eq_decide.2 ⟨fun h => ⟨hr, by omega⟩, fun h => by have := h.2; omega⟩
    have hret : Hid (Ending.returned (.bool (decide ((V : Int) < c.np))) = .returned (.bool (heavyB c))) := Lib.hid (by rw [q3])
    replace hV := Lib.hid hV
    clear q3
    rw [hr] at RC
    replace psE := Lib.hid psE
    replace npE := Lib.hid npE
    replace hr := Lib.hid hr
    go_region_law ((go_simp; first
      | (go_at_call 16; refine CC.out.mono ?_; rintro e w2 ⟨rfl, b2⟩)
      | (go_at_call 15; refine (RC.out _).mono ?_; rintro e w3 ⟨rfl, b3⟩; have b13 : Below w1.heap.size w1 w3 := ((Below.refl _ w1).drew.trans b2).trans (b3.mono b2.size); obtain ⟨y0, y1, -⟩ := conf_cells (B1.out.below b13 (show N < w1.heap.size by omega)))))
    all_goals
      have bb : Below N w w3 := b1.trans (b13.mono (by omega))
      clear b13 b2 b3 b1 CC RC x0 x1 x2 x3 x4 x5 x6 y0 y1
      go_wp2_with fail
      go_ret
      exact ⟨hret.out, bb⟩
  · have q3 : heavyB c = false := by unfold heavyB; exact decide_eq_false fun h => hr h.1
    have hret : Hid (Ending.returned (.bool false) = .returned (.bool (heavyB c))) := Lib.hid (by rw [q3])
    clear q3
    rcases refN_three hr with e | e | e
    all_goals
     rw [e] at RC
     first
       | (go_region_law ((go_simp; first
          | (go_at_call 16; refine CC.out.mono ?_; rintro e w2 ⟨rfl, b2⟩)
          | (go_at_call 15; refine (RC.out _).mono ?_; rintro e w3 ⟨rfl, b3⟩; have b13 : Below w1.heap.size w1 w3 := ((Below.refl _ w1).drew.trans b2).trans (b3.mono b2.size)))))
       | fail
     all_goals
      have bb : Below N w w3 := b1.trans (b13.mono (by omega))
      clear b13 b2 b3 b1 CC RC x0 x1 x2 x3 x4 x5 x6
      go_wp2_with fail
      go_ret
      exact ⟨hret.out, bb⟩
section
variable (w : World) (L : Lay) (c : Conf) (s : St) (bs : List UInt8) (h : SetAt w L c s bs)
include h
theorem classesC : Calls Try.prog 18 #[.pointer (some ⟨L.g, 0, none⟩)] w fun e w' => e = .returned (.int .i64 (c.nc : Int)) ∧ w = w' := by
  have c8 := h.cSizes
  clear h
  go_enter Try.func18, Try.ntmps18
  go_wp2
  go_ret
  exact ⟨rfl, rfl⟩
theorem freePagesC : Calls Try.prog 19 #[.pointer (some ⟨L.g, 0, none⟩)] w fun e w' => e = .returned (.int .i64 (s.spare : Int)) ∧ w = w' := by
  have c8 := h.cSpare
  clear h
  go_enter Try.func19, Try.ntmps19
  go_wp2
  go_ret
  exact ⟨rfl, rfl⟩
theorem cfgC : Calls Try.prog 20 #[.pointer (some ⟨L.g, 0, none⟩)] w fun e w' => e = .returned (.agg c.cells) ∧ Below w.heap.size w w' := by
  have B := h.headB
  have c0 : w.cell? ⟨L.g, 0, none⟩ = some (.int .i64 c.ps) := B.cell 0
  have c1 : w.cell? ⟨L.g, 1, none⟩ = some (.int .i64 c.np) := B.cell 1
  have c2 : w.cell? ⟨L.g, 2, none⟩ = some (.int .i64 c.fa) := B.cell 2
  have c3 : w.cell? ⟨L.g, 3, none⟩ = some (.int .i64 c.mc) := B.cell 3
  have c4 : w.cell? ⟨L.g, 4, none⟩ = some (.int .i64 c.il) := B.cell 4
  have c5 : w.cell? ⟨L.g, 5, none⟩ = some (.int .i64 c.hot) := B.cell 5
  have c6 : w.cell? ⟨L.g, 6, none⟩ = some (.int .i64 c.warm) := B.cell 6
  have hlt := B.lt
  unfold Conf.cells
  clear h B
  go_enter Try.func20, Try.ntmps20
  go_wp2
  exact bodyPost_ret (results_cell_row (P := Try.prog) rfl _ _ w.heap.size 27 _ (0, 0) _ rfl (heap_alloc_new w _) Try.underlying27 rfl (by kernel_rfl)) rfl ⟨rfl, (Below.refl _ _).alloc (Nat.le_refl _) _⟩
theorem chunkSizeC (k : Int) : Calls Try.prog 21 #[.pointer (some ⟨L.g, 0, none⟩), .int .i64 k] w fun e w' => e = .returned (.int .i64 (if 0 ≤ k ∧ k < (c.nc : Int) then (c.sz k.toNat : Int) else 0)) ∧ w = w' := by
  have IC := isC h k
  by_cases hk : 0 ≤ k ∧ k < (c.nc : Int)
  · rw [if_pos hk]
    rw [decide_eq_true hk] at IC
    obtain ⟨k, rfl⟩ := Int.eq_ofNat_of_zero_le hk.1
    obtain ⟨k0, k1⟩ := hk
    have c8 := h.cSizes
    have cz := h.sz (k := k) (by omega)
    rw [Int.toNat_natCast]
    replace IC := Lib.hid IC
    clear h
    go_enter Try.func21, Try.ntmps21
    go_wp2_with fail
    refine IC.out.mono ?_
    rintro e w' ⟨rfl, rfl⟩
    go_wp2
    go_ret
    exact ⟨rfl, rfl⟩
  · rw [if_neg hk]
    rw [decide_eq_false hk] at IC
    replace IC := Lib.hid IC
    clear h
    go_enter Try.func21, Try.ntmps21
    go_wp2_with fail
    refine IC.out.mono ?_
    rintro e w' ⟨rfl, rfl⟩
    go_wp2
    go_ret
    exact ⟨rfl, rfl⟩
end
def quotaN (d : Cf) (s : St) (k : Int) : Nat := if 0 ≤ k ∧ k < (d.nc : Int) then (s.rs k.toNat + s.spare) * d.n k.toNat else 0
theorem quotaC (w : World) (L : Lay) (c : Conf) (s : St) (bs : List UInt8) (h : SetAt w L c s bs) (g : Good c.cf s) (k : Int) :
    Calls Try.prog 22 #[.pointer (some ⟨L.g, 0, none⟩), .int .i64 k] w fun e w' => e = .returned (.int .i64 (quotaN c.cf s k : Int)) ∧ ∃ m, w.drewN m = w' := by
  have IC := isC h k
  unfold quotaN
  by_cases hk : 0 ≤ k ∧ k < (c.nc : Int)
  · rw [if_pos (show 0 ≤ k ∧ k < (c.cf.nc : Int) from hk)]
    rw [decide_eq_true hk] at IC
    obtain ⟨k, rfl⟩ := Int.eq_ofNat_of_zero_le hk.1
    obtain ⟨k0, k1⟩ := hk
    rw [Int.toNat_natCast]
    have hk' : k < c.nc := by omega
    have ok := h.okc
    have c0 := h.cPs
    have c8 := h.cSizes
    have c10 := h.cRows
    have c11 := h.cSpare
    have cz := h.sz hk'
    have r3 := h.r3 hk'
    have hn := n_pos ok hk'
    have hsp : s.spare ≤ 1024 := by rw [g.spare]; exact Nat.le_trans cnt_le ok.npb
    have hrs : s.rs k ≤ 1024 := by rw [g.rs k hk']; exact Nat.le_trans cnt_le ok.npb
    have b1 := (ok.sz k hk').1
    have z0 : ¬ (c.sz k : Int) = 0 := by have : 64 ≤ c.sz k := b1; omega
    have q1 : IntKind.i64.wrap ((s.rs k : Int) + (s.spare : Int)) = ((s.rs k + s.spare : Nat) : Int) := by rw [IntWalk.i64_in _ (by omega)]; omega
    have q2 : ((c.cf.ps : Int)).tdiv (c.sz k : Int) = (c.cf.n k : Int) := tdivN _ _
    have q3 : IntKind.i64.wrap (c.cf.n k : Int) = (c.cf.n k : Int) := IntWalk.i64_in _ (by omega)
    obtain ⟨V, hV⟩ : ∃ V, V = (s.rs k + s.spare) * c.cf.n k := ⟨_, rfl⟩
    have hVb : V ≤ 2048 * 16384 := by rw [hV]; exact Nat.mul_le_mul (by omega) hn.2
    have q4 : IntKind.i64.wrap (((s.rs k + s.spare : Nat) : Int) * (c.cf.n k : Int)) = (V : Int) := by rw [← Int.natCast_mul, ← hV]; exact IntWalk.i64_in _ (by omega)
    rw [← hV]
    replace IC := Lib.hid IC
    replace hV := Lib.hid hV
    generalize s.rs k + s.spare = U at *
    clear h g ok hn
    go_enter Try.func22, Try.ntmps22
    go_wp2_with fail
    refine IC.out.mono ?_
    rintro e w' ⟨rfl, rfl⟩
    go_upto_region 3 with fail
    go_quiet (fail)
    go_wp2
    go_ret
    exact ⟨rfl, by repeat (first | exact drew_here _ | refine drew_more ?_)⟩
  · rw [if_neg (show ¬ (0 ≤ k ∧ k < (c.cf.nc : Int)) from hk)]
    rw [decide_eq_false hk] at IC
    replace IC := Lib.hid IC
    clear h g
    go_enter Try.func22, Try.ntmps22
    go_wp2_with fail
    refine IC.out.mono ?_
    rintro e w' ⟨rfl, rfl⟩
    go_wp2
    go_ret
    exact ⟨rfl, 0, rfl⟩
end Go.Proofs.Ytgodinapdahocaa.Cls
