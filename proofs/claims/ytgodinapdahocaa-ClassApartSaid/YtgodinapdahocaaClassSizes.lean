/-
  The walks of class.sizes and of the document's Sizes.
-/
import Derived.Test.YtgodinapdahocaaClassConf
import Derived.Deep.QuietTactic
import Derived.WalkMore
namespace Go.Proofs.Ytgodinapdahocaa.Cls
open Go.RowKit Base
set_option linter.unusedVariables false

theorem eiI : EI Try.prog 36 3 (.int .i64 0) 1 8 := EI.mk' Try.underlying36 (by kernel_rfl) rfl (by decide)
def iv (n : Nat) : Value := .int .i64 (n : Int)
theorem iv_one (l : List Nat) : ∀ u ∈ l.map iv, u.oneCell' = true := by
  intro u hu
  obtain ⟨n, -, rfl⟩ := List.mem_map.1 hu
  rfl
def vlen : Value → Nat
  | .slice _ n _ => n
  | _ => 0
/-- A row of numbers: the i-th of them. -/
theorem own_iv {w : World} {N n i x : Nat} {v : Value} {l : List Nat} (h : w.ownsRow N 3 1 v n (l.map iv)) (hx : l[i]? = some x) : ∃ g c, v = .slice (some ⟨g, 0, none⟩) n c ∧ w.cell? ⟨g, i, none⟩ = some (.int .i64 (x : Int)) ∧ N ≤ g ∧ g < w.heap.size := by
  have hl := h.1
  have hi : i < l.length := (List.getElem?_eq_some_iff.1 hx).1
  rw [List.length_map] at hl
  rcases h.2 with ⟨rfl, h0⟩ | ⟨g, cap, cur, rfl, hB, hg, h1, h2, h3, h4⟩
  · omega
  · refine ⟨g, cap, rfl, ?_, hB, heap_lt hg⟩
    rw [cell_of_row w g i cur _ (0, 0) hg]
    have h5 : (l.map iv)[i]? = some (iv x) := by rw [List.getElem?_map, hx]; rfl
    rw [← h4, List.getElem?_take] at h5
    split at h5
    · simpa [iv] using h5
    · cases h5
theorem own_weak {w : World} {N M n : Nat} {e : TypeId} {v : Value} {xs : List Value} (h : w.ownsRow N e 1 v n xs) (hM : M ≤ N) : w.ownsRow M e 1 v n xs := by
  refine ⟨h.1, ?_⟩
  rcases h.2 with h1 | ⟨g, cap, cur, rfl, h1, h2⟩
  · exact .inl h1
  · exact .inr ⟨g, cap, cur, rfl, Nat.le_trans hM h1, h2⟩
theorem own_is {w : World} {N n : Nat} {e : TypeId} {v : Value} {xs : List Value} (h : w.ownsRow N e 1 v n xs) : ∃ A c, v = .slice A n c := by
  rcases h.2 with ⟨rfl, rfl⟩ | ⟨g, cap, cur, rfl, _⟩
  · exact ⟨none, 0, rfl⟩
  · exact ⟨_, _, rfl⟩
theorem own_one (w : World) (N x : Nat) (hN : N ≤ w.heap.size) : (w.alloc (.cells #[.int .i64 (x : Int)] 3)).ownsRow N 3 1 (.slice (some ⟨w.heap.size, 0, none⟩) 1 1) 1 ([x].map iv) :=
  ⟨by simp, .inr ⟨w.heap.size, 1, #[.int .i64 (x : Int)], rfl, hN, heap_alloc_new _ _, Nat.le_refl _, by unfold maxLen; omega, by simp, by simp [iv]⟩⟩
theorem reads_one (w : World) (x : Nat) : Reads (w.alloc (.cells #[.int .i64 (x : Int)] 3)) (w.heap.size + 1) 1 (some ⟨w.heap.size, 0, none⟩) 1 ([x].map iv) :=
  ⟨rfl, fun _ => ⟨_, rfl, Nat.lt_succ_self _, fun j u hj => by
    rw [add_explicit, Nat.zero_add, cell_of_row (w.alloc _) w.heap.size j _ 3 (0, 0) (heap_alloc_new w _)]
    simpa [iv] using hj⟩⟩

set_option maxRecDepth 100000 in
set_option maxHeartbeats 1600000 in
theorem sizesC (c : Conf) (h : Right c) (w : World) : Calls Try.prog 44 #[.agg c.cells] w fun e w' => ∃ v, e = .returned v ∧ w'.ownsRow w.heap.size 3 1 v c.nc (((List.range c.nc).map c.sz).map iv) ∧ Below w.heap.size w w' := by
  obtain ⟨ps, np, fa, mc, il, hot, warm⟩ := c
  obtain ⟨w1, hw1, b1, hs1, -, -, x2, x3, x4, -, -⟩ := boxedConf w ⟨ps, np, fa, mc, il, hot, warm⟩
  have f1 := h.fa1
  have f2 := h.fa2
  have f3 := h.mc1
  have f4 := h.il1
  have f5 := h.il2
  have f6 := h.ps
  have hn := h.nice
  unfold Conf.cells at hw1 ⊢
  unfold Conf.nc Conf.sz
  simp only at hw1 x2 x3 x4 f1 f2 f3 f4 f5 f6 hn ⊢
  unfold Page9 at f6
  obtain ⟨F, rfl⟩ : ∃ F : Nat, fa = (F : Int) := ⟨fa.toNat, by omega⟩
  obtain ⟨M, rfl⟩ : ∃ M : Nat, mc = (M : Int) := ⟨mc.toNat, by omega⟩
  obtain ⟨I, rfl⟩ : ∃ I : Nat, il = (I : Int) := ⟨il.toNat, by omega⟩
  simp only [Int.toNat_natCast] at hn ⊢
  have hI : I ≤ 1048576 := by omega
  obtain ⟨L, hL⟩ : ∃ L, L = lim I := ⟨_, rfl⟩
  rw [← hL] at hn ⊢
  obtain ⟨q, hq⟩ : ∃ q, q = (I + 7) / 8 := ⟨_, rfl⟩
  have e1 : IntKind.i64.wrap ((I : Int) + 7) = (I : Int) + 7 := IntWalk.i64_in _ (by omega)
  have e2 : ((I : Int) + 7).tdiv 8 = (q : Int) := by rw [Int.tdiv_eq_ediv_of_nonneg (by omega)]; omega
  have e3 : IntKind.i64.wrap (q : Int) = (q : Int) := IntWalk.i64_in _ (by omega)
  have e4 : (q : Int) * 8 = (L : Int) := by rw [hL]; unfold lim; omega
  have hLb := hn.Lb
  have e5 : IntKind.i64.wrap (L : Int) = (L : Int) := IntWalk.i64_in _ (by omega)
  have fin : ∀ k, Cnt L F M k → k = cntN L F M := fun k hk => hk.eq
  have NN := szs_nice hn
  have TL := tgt_le hn
  clear f1 f2 f3 f4 f5 f6 h hI
  replace hn := Lib.hid hn
  replace hL := Lib.hid hL
  replace hq := Lib.hid hq
  replace fin := Lib.hid fin
  replace hw1 := Lib.hid hw1
  generalize hN : w.heap.size = N at *
  replace hN := Lib.hid hN
  go_enter Try.func44, Try.ntmps44
  go_upto_region 1 with fail
  rw [hN.out, ← hw1.out]
  go_step3
  have hbs : N ≤ w1.heap.size := by have := b1.size; have := hN.out; omega
  have O0 := own_one w1 N M hbs
  have O1 := own_one w1 (N + 1) M (by omega)
  rw [hs1] at O1
  replace O1 := Lib.hid O1
  have B0 : Below N w (w1.alloc (.cells #[.int .i64 (M : Int)] 3)) := b1.alloc hbs _
  have y2 : ∀ o, (w1.alloc o).cell? ⟨N, 2, none⟩ = some (.int .i64 (F : Int)) := fun o => (World.cell?_alloc_lt w1 o ⟨N, 2, none⟩ (by show N < _; omega)).trans x2
  have S0 : N < w1.heap.size := by omega
  go_wp2_with fail
  go_step3
  go_wp2_with fail
  go_loopw [4] (fun v wr => ∃ k, 1 ≤ k ∧ k ≤ 63 ∧ (∀ j, j + 1 < k → szs L F M j < L) ∧ wr.ownsRow (N + 1) 3 1 v k ((szL L F M k).map iv) ∧ Below (N + 1) w1 wr ∧ N + 1 ≤ wr.heap.size) (fun v _ => 63 - vlen v)
  case atStart => exact ⟨1, by omega, by omega, fun j hj => by omega, O1.out, (Below.refl _ _).alloc (by omega) _, by rw [World.size_alloc]; omega⟩
  case round =>
    obtain ⟨k, hk1, hk2, hlow, own, hb, hsz⟩ := hrel
    clear O0 B0 y2 O1
    obtain ⟨j, rfl⟩ : ∃ j, k = j + 1 := ⟨k - 1, by omega⟩
    obtain ⟨g, cap, rfl, cg, hgN, hgl⟩ := own_iv own (szL_at L F M (j + 1) j (Nat.lt_succ_self j))
    have hF : wr.cell? ⟨N, 2, none⟩ = some (.int .i64 (F : Int)) := (hb.cell (p := ⟨N, 2, none⟩) (Nat.lt_succ_self N)).trans x2
    obtain ⟨n8, n64, nL⟩ := NN j
    have nT := TL j
    have hsucc := szL_succ L F M (j + 1)
    have hnx : szs L F M (j + 1) = nxt L F (szs L F M j) := rfl
    generalize hsj : szs L F M j = s at *
    have eA : IntKind.i64.wrap ((j : Int) + 1 - 1) = (j : Int) := by rw [Int.add_sub_cancel]; exact IntWalk.i64_in _ (by omega)
    by_cases h1 : L ≤ s
    · have d1 : decide ((L : Int) ≤ (s : Int)) = true := by simp; omega
      have hk := fin.out (j + 1) ⟨by omega, by omega, hlow, .inl (by rw [Nat.add_sub_cancel, hsj]; exact h1)⟩
      replace own := Lib.hid (show wr.ownsRow (N + 1) 3 1 (.slice (some ⟨g, 0, none⟩) (j + 1) cap) (cntN L F M) ((szL L F M (cntN L F M)).map iv) by rw [← hk]; exact own)
      replace hk := Lib.hid hk
      replace hb := Lib.hid hb
      clear hsucc hnx hlow
      go_wp2
      rw [Exit.noGoto_ret]
      go_ret
      exact ⟨_, rfl, own_weak own.out (Nat.le_succ N), b1.trans (hb.out.mono (Nat.le_succ N))⟩
    · have d1 : decide ((L : Int) ≤ (s : Int)) = false := by simp; omega
      by_cases h2 : 62 < j + 1
      · have d2 : decide (62 < (j : Int) + 1) = true := by simp; omega
        have hk := fin.out (j + 1) ⟨by omega, by omega, hlow, .inr (by omega)⟩
        replace own := Lib.hid (show wr.ownsRow (N + 1) 3 1 (.slice (some ⟨g, 0, none⟩) (j + 1) cap) (cntN L F M) ((szL L F M (cntN L F M)).map iv) by rw [← hk]; exact own)
        replace hk := Lib.hid hk
        replace hb := Lib.hid hb
        clear hsucc hnx hlow
        go_wp2
        rw [Exit.noGoto_ret]
        go_ret
        exact ⟨_, rfl, own_weak own.out (Nat.le_succ N), b1.trans (hb.out.mono (Nat.le_succ N))⟩
      · have d2 : decide (62 < (j : Int) + 1) = false := by simp; omega
        obtain ⟨x, hx⟩ : ∃ x, x = s * F := ⟨_, rfl⟩
        obtain ⟨y, hy⟩ : ∃ y, y = (x + 799) / 800 := ⟨_, rfl⟩
        obtain ⟨T, hT⟩ : ∃ T, T = tgt F s := ⟨_, rfl⟩
        have hTy : T = y * 8 := by rw [hT, hy, hx]; rfl
        rw [← hT] at nT
        have g1 : (s : Int) * (F : Int) = (x : Int) := by rw [hx]; exact (Int.natCast_mul s F).symm
        have g2 : IntKind.i64.wrap (x : Int) = (x : Int) := IntWalk.i64_in _ (by omega)
        have g3 : IntKind.i64.wrap ((x : Int) + 799) = (x : Int) + 799 := IntWalk.i64_in _ (by omega)
        have g4 : ((x : Int) + 799).tdiv 800 = (y : Int) := by rw [Int.tdiv_eq_ediv_of_nonneg (by omega)]; omega
        have g5 : IntKind.i64.wrap (y : Int) = (y : Int) := IntWalk.i64_in _ (by omega)
        have g6 : (y : Int) * 8 = (T : Int) := by omega
        have g7 : IntKind.i64.wrap (T : Int) = (T : Int) := IntWalk.i64_in _ (by omega)
        obtain ⟨X, hX⟩ : ∃ X, X = nxt L F s := ⟨_, rfl⟩
        have g8 : min (L : Int) (T : Int) = (X : Int) := by rw [hX, hT]; unfold nxt; omega
        have hlow2 : ∀ i, i + 1 < j + 1 + 1 → szs L F M i < L := fun i hi => by
          rcases Nat.lt_or_ge (i + 1) (j + 1) with h3 | h3
          · exact hlow i h3
          · obtain rfl : i = j := by omega
            rw [hsj]; omega
        rw [hnx, ← hX] at hsucc
        have hXb : X ≤ 1048576 := by rw [hX]; unfold nxt; omega
        replace hlow2 := Lib.hid hlow2
        replace hsucc := Lib.hid hsucc
        replace hX := Lib.hid hX
        replace hT := Lib.hid hT
        replace hTy := Lib.hid hTy
        replace hx := Lib.hid hx
        replace hy := Lib.hid hy
        clear hnx hlow NN TL n8 n64 nL nT
        go_wp2_with (at_builtin; refine wpList_app rfl _ _ _ rfl eiI (N + 1) _ _ _ rfl (own.alloc _) (wr.heap.size + 1) (some ⟨wr.heap.size, 0, none⟩) 1 1 ([X].map iv) rfl ?c1 ?c2 ?c3 ?c4 ?c5 ?_)
        case c1 => exact reads_one wr X
        case c2 => exact iv_one _
        case c3 => unfold maxLen; omega
        case c4 => omega
        case c5 => rw [World.size_alloc]; omega
        intro v2 w2 hown2 hg2 _
        have hb2 : Below (N + 1) w1 w2 := (hb.alloc hsz _).grown hg2 (by rw [World.size_alloc]; omega) (fun j hj => (own.lt j hj).1)
        have hown3 : w2.ownsRow (N + 1) 3 1 v2 (j + 1 + 1) ((szL L F M (j + 1 + 1)).map iv) := by
          rw [hsucc.out, List.map_append]
          exact hown2
        have hs3 : N + 1 ≤ w2.heap.size := Nat.le_trans (by rw [World.size_alloc]; omega) hg2.size
        replace hown3 := Lib.hid hown3
        replace hb2 := Lib.hid hb2
        clear hown2 hg2 own hb cg
        go_wp2
        go_roundw
        case rel => exact ⟨j + 1 + 1, by omega, by omega, hlow2.out, hown3.out, hb2.out, hs3⟩
        case measure =>
          obtain ⟨A3, c3, rfl⟩ := own_is hown3.out
          simp [vlen]
          omega
end Go.Proofs.Ytgodinapdahocaa.Cls
