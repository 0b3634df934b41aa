/-
  A slice of handles as a list; the walk of keep's Handles.
-/
import Derived.Test.YteebcdicocmicaaTideDue
namespace Go.Proofs.Yteebcdicocmicaa.Tide
open Go.RowKit Base
set_option linter.unusedVariables false

/-- v is a slice of the numbers l. -/
def HL (w : World) (v : Value) (l : List Nat) : Prop := ∃ A c, v = .slice A l.length c ∧ l.length ≤ c ∧ c ≤ maxLen ∧ ∀ (k i : Nat), l[k]? = some i → ∃ b, A = some ⟨b, 0, none⟩ ∧ b < w.heap.size ∧ w.cell? ⟨b, k, none⟩ = some (.int .u64 (i : Int))
def nums (l : List Nat) : List Value := l.map fun (i : Nat) => .int .u64 (i : Int)
theorem HL.of_own {w : World} {base n : Nat} {e : TypeId} {v : Value} {l : List Nat} (h : w.ownsRow base e 1 v n (nums l)) : HL w v l := by
  have hn : n = l.length := by have := h.1; simp [nums] at this; omega
  subst hn
  rcases h.2 with ⟨rfl, h0⟩ | ⟨g, cap, cur, rfl, hb, hg, hnc, hcm, hcs, ht⟩
  · refine ⟨none, 0, by rw [h0], by omega, by simp [maxLen], fun k i hk => ?_⟩
    rw [List.eq_nil_of_length_eq_zero h0] at hk
    simp at hk
  · refine ⟨_, cap, rfl, hnc, hcm, fun k i hk => ⟨g, rfl, heap_lt hg, ?_⟩⟩
    rw [cell_of_row w g k cur e (0, 0) hg]
    have h1 : (nums l)[k]? = some (.int .u64 (i : Int)) := by unfold nums; rw [List.getElem?_map, hk]; rfl
    rw [← ht, List.getElem?_take] at h1
    split at h1
    · simpa using h1
    · cases h1
theorem hands_nums (S : List E) : hands S = nums (S.map E.h) := by simp [hands, nums]
theorem HL.keep {w w' : World} {v : Value} {l : List Nat} (h : HL w v l) {S : Nat → Prop} (o : Only S w w') (hs : ∀ b, v.ownBlock = some b → ¬ S b) : HL w' v l := by
  obtain ⟨A, c, rfl, h1, h2, h3⟩ := h
  refine ⟨A, c, rfl, h1, h2, fun k i hk => ?_⟩
  obtain ⟨b, rfl, hb, hc⟩ := h3 k i hk
  exact ⟨b, rfl, Nat.lt_of_lt_of_le hb o.size, (World.cell?_of_block (a := ⟨b, k, none⟩) (o.block b hb (hs b rfl))).trans hc⟩
theorem HL.below {w w' : World} {v : Value} {l : List Nat} (h : HL w v l) (o : Below w.heap.size w w') : HL w' v l := h.keep (Only.of_below o (Nat.le_refl _) (fun _ => False)) (fun _ _ h => h)

set_option maxRecDepth 100000 in
set_option maxHeartbeats 1600000 in
theorem handlesC (w : World) (a b : Value) (la lb : List Nat) (ha : HL w a la) (hb : HL w b lb) :
    Calls Try.prog 36 #[a, b] w fun e w' => e = .returned (.bool (decide (la = lb))) ∧ ∃ k, w.drewN k = w' := by
  obtain ⟨A, c, rfl, h1, h2, h3⟩ := ha
  obtain ⟨B, d, rfl, h4, h5, h6⟩ := hb
  unfold maxLen at h2 h5
  by_cases hl : la.length = lb.length
  · have H3 := Lib.hid h3
    have H6 := Lib.hid h6
    have hl1 : (la.length : Int) ≤ lb.length := by omega
    have hl2 : (lb.length : Int) ≤ la.length := by omega
    have hl3 : ((la.length : Int) != (lb.length : Int)) = false := by rw [bne_eq_false_iff_eq]; omega
    have hl4 : ((la.length : Nat) == lb.length) = true := by simpa using hl
    replace hl := Lib.hid hl
    replace hl4 := Lib.hid hl4
    clear h3 h6
    go_enter Try.func36, Try.ntmps36
    go_wp2_with fail
    go_loopw [5] (fun s5 wr => ∃ k : Nat, k ≤ la.length ∧ s5 = .int .i64 (k : Int) ∧ la.take k = lb.take k ∧ ∃ n, w.drewN n = wr) (fun s5 _ => la.length - (intOf s5).toNat)
    case atStart => exact ⟨0, Nat.zero_le _, rfl, rfl, 0, rfl⟩
    case round =>
      obtain ⟨k, hk, rfl, htk, n, hn⟩ := hrel
      replace htk := Lib.hid htk
      by_cases hlt : k < la.length
      · have hlt2 : k < lb.length := by have := hl.out; omega
        have x0 := H3.out k _ (List.getElem?_eq_getElem hlt)
        have y0 := H6.out k _ (List.getElem?_eq_getElem hlt2)
        obtain ⟨p, hp⟩ : ∃ p, p = la[k] := ⟨_, rfl⟩
        obtain ⟨q, hq⟩ : ∃ q, q = lb[k] := ⟨_, rfl⟩
        rw [← hp] at x0
        rw [← hq] at y0
        obtain ⟨b1, rfl, hb1, x1⟩ := x0
        obtain ⟨b2, rfl, hb2, y1⟩ := y0
        have x2 : wr.cell? ⟨b1, k, none⟩ = some (.int .u64 (p : Int)) := by rw [← hn]; exact x1
        have y2 : wr.cell? ⟨b2, k, none⟩ = some (.int .u64 (q : Int)) := by rw [← hn]; exact y1
        have e1 : la.take (k + 1) = la.take k ++ [p] := by rw [hp]; exact List.take_succ_eq_append_getElem hlt
        have e2 : lb.take (k + 1) = lb.take k ++ [q] := by rw [hq]; exact List.take_succ_eq_append_getElem hlt2
        have q1 : (0 : Int) ≤ k := by omega
        have q2 : (k : Int) < la.length := by omega
        have q3 : (k : Int) < lb.length := by omega
        replace hp := Lib.hid hp
        replace hq := Lib.hid hq
        replace e1 := Lib.hid e1
        replace e2 := Lib.hid e2
        replace hn := Lib.hid hn
        clear x1 y1
        by_cases hpq : p = q
        · have hd : ((p : Int) != (q : Int)) = false := by rw [bne_eq_false_iff_eq]; omega
          have nx : la.take (k + 1) = lb.take (k + 1) := by rw [e1.out, e2.out, htk.out, hpq]
          replace nx := Lib.hid nx
          replace hpq := Lib.hid hpq
          go_wp2_with fail
          go_quiet (fail)
          go_wp2
          go_roundw
          case rel => exact ⟨k + 1, by omega, by go_num, nx.out, _, by rw [← hn.out]; exact (World.drewN_drewN _ _ _).symm⟩
          case measure => simp [intOf]; omega
        · have hd : ((p : Int) != (q : Int)) = true := by rw [bne_iff_ne]; omega
          have ne : la ≠ lb := fun h => by
            have := hp.out
            subst h
            exact hpq (hp.out.trans hq.out.symm)
          replace ne := Lib.hid ne
          clear hpq
          go_wp2_with fail
          go_quiet (fail)
          go_wp2
          go_ret
          exact ⟨ret_bool (decide_eq_false ne.out).symm, _, by rw [← hn.out]; exact (World.drewN_drewN _ _ _).symm⟩
      · have hd : decide ((k : Int) < la.length) = false := by simp; omega
        have eq : la = lb := by
          have h1 := htk.out
          rwa [List.take_of_length_le (by omega), List.take_of_length_le (by have := hl.out; omega)] at h1
        replace eq := Lib.hid eq
        replace hn := Lib.hid hn
        go_wp2
        go_ret
        exact ⟨ret_bool (decide_eq_true eq.out).symm, n, hn.out⟩
  · have hl3 : ((la.length : Int) != (lb.length : Int)) = true := by rw [bne_iff_ne]; omega
    have ne : la ≠ lb := fun h => hl (by rw [h])
    replace ne := Lib.hid ne
    clear h3 h6 hl
    go_enter Try.func36, Try.ntmps36
    go_wp2
    go_ret
    exact ⟨ret_bool (decide_eq_false ne.out).symm, 0, rfl⟩
end Go.Proofs.Yteebcdicocmicaa.Tide
