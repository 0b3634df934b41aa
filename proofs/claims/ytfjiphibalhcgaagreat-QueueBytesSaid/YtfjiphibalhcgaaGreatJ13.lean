/-
  Contracts and lemmas, joined: Ref6Swap, QueueLooks, QueueHeader, QueueMoves0, QueueGive, Ref6Give, QueueGives, QueueGivesLaw.
-/
import Derived.Lib.QuietBelow
import Derived.Test.YtfjiphibalhcgaaGreatJ4
import Derived.Test.YtfjiphibalhcgaaGreatJ8
import Derived.Test.YtfjiphibalhcgaaGreatJ11
import Derived.Test.YtfjiphibalhcgaaGreatJ12
set_option linter.unusedSimpArgs false
set_option linter.unusedVariables false
/-
  The document's queue: Swap.
-/
namespace Go.Proofs.YtfjiphibalhcgaaGreat.Que
open Go.RowKit Base Arena Cls Itm
set_option linter.unusedVariables false
set_option linter.unusedSectionVars false

theorem drewN_add (w : World) (a b : Nat) : w.drewN (a + b) = (w.drewN a).drewN b := by simp [World.drewN, Nat.add_assoc]
theorem drewN_one (w : World) (a : Nat) : (w.drewN a).drew = w.drewN (a + 1) := by simp [World.drewN, World.drew, Nat.add_assoc]
theorem own_put {w : World} {N n g cp k : Nat} {e : TypeId} {xs : List Value} (h : w.ownsRow N e 1 (.slice (some ⟨g, 0, none⟩) n cp) n xs) (u : Value) (hk : k < n) : (w.setCell ⟨g, k, none⟩ u).ownsRow N e 1 (.slice (some ⟨g, 0, none⟩) n cp) n (xs.set k u) := by
  refine ⟨by rw [List.length_set]; exact h.1, ?_⟩
  rcases h.2 with ⟨e0, h0⟩ | ⟨g', cap, cur, hv, hB, hg, h1, h2, h3, h4⟩
  · cases e0
  · injection hv with hv1 hv2 hv3
    injection hv1 with hv1
    injection hv1 with hv1
    subst hv1 hv3
    refine .inr ⟨g, cp, cur.setIfInBounds k u, rfl, hB, ?_, h1, h2, by simpa using h3, ?_⟩
    · simp [World.setCell, Array.getElem?_modify, hg]
    · rw [Array.toList_setIfInBounds, List.take_set, h4]
/-- A place of a list that lies in new memory. -/
theorem R6At.setAt {w w6 : World} {R R' : R6} {mb n : Nat} {laid : List Nat} {lists : Nat → List Nat} (h : R6At w6 R' mb n laid lists) (We : Went6 w w6 R R' n) {j k : Nat} (hj : j < n) {g K cp : Nat} (hF : R'.F j = .slice (some ⟨g, 0, none⟩) K cp) (hK : (lists j).length = K) (hk : k < K) (H : Nat) :
    R6At (w6.setCell ⟨g, k, none⟩ (.int .u64 (H : Int))) R' mb n laid (upd lists j ((lists j).set k H)) ∧ Went6 w (w6.setCell ⟨g, k, none⟩ (.int .u64 (H : Int))) R R' n := by
  have o := h.row hj
  rw [hF, hK] at o
  have hb : R'.blk n (.row j) = some g := by
    show (if j < n then (R'.F j).ownBlock else none) = some g
    rw [if_pos hj, hF]; rfl
  have far : ∀ d, d < w6.heap.size → d ≠ g → (w6.setCell ⟨g, k, none⟩ (.int .u64 (H : Int))).heap[d]? = w6.heap[d]? := fun d hd hne => (only_cell1 (S := (· = g)) w6 g k _ rfl).block d hd hne
  have kp : ∀ p d, p ≠ .row j → R'.blk n p = some d → (w6.setCell ⟨g, k, none⟩ (.int .u64 (H : Int))).heap[d]? = w6.heap[d]? := fun p d hp hd => far d (h.lt ⟨p, hd⟩) (fun e => hp (h.inj p (.row j) d hd (by rw [e]; exact hb)))
  refine ⟨⟨fun p => ?_, h.inj⟩, ⟨We.only.trans (only_cell1 (S := F6 R' n) w6 g k _ ⟨.row j, hb⟩) (fun x hx hf => (We.foot x hf).resolve_right (by omega)), fun b hb' => We.foot b hb', We.gl⟩⟩
  cases p with
  | head => exact (kp .head _ (by simp) rfl).trans h.head
  | laid => exact own_keptN h.laidR fun d e => kp .laid d (by simp) e
  | grid => exact h.grid.kept (kp .grid _ (by simp) rfl)
  | row i =>
    intro hi
    by_cases e : i = j
    · subst e
      show World.ownsRow _ 0 _ 1 (R'.F i) (upd lists i ((lists i).set k H) i).length ((upd lists i ((lists i).set k H) i).map uv)
      rw [upd_at, List.length_set, hK, hF, List.map_set]
      exact own_put o _ hk
    · show World.ownsRow _ 0 _ 1 (R'.F i) (upd lists j ((lists j).set k H) i).length ((upd lists j ((lists j).set k H) i).map uv)
      rw [upd_ne _ _ e]
      exact own_keptN (h.row hi) fun d hd => kp (.row i) d (fun e2 => by cases e2; exact e rfl) (by rw [R6.blk, if_pos hi]; exact hd)
section
variable {w : World} {R : R6} {M : RL} {c : Conf} {s : St} {Z : Nat → Option Zd} {Ls : Nat → Nat → List Nat} {r : RS} {laid : List Nat} (h : D6 w R M c s Z Ls r laid)
include h
theorem D6.atC {H i x p : Nat} (hf : findN c.cf s H = some (i, x, p)) : ∃ P : Nat, Calls Tryz.prog 59 #[.pointer (some ⟨M.b, 0, none⟩), .int .u64 (H : Int)] w fun e w' => e = .returned (.tuple #[.int .i64 (P : Int), .int .i64 (clsN c s H : Int), .int .i64 0]) ∧ ∃ m, w.drewN m = w' := by
  obtain ⟨j, hj, hx⟩ := h.rel.find_some h.ok h.good hf
  have ec : clsN c s H = s.cls i := by unfold clsN; rw [hf]
  have := ratC w M c r h.ref h.fine h.ch H
  rw [hj] at this
  unfold ratV at this
  simp only [hx] at this
  rw [ec]
  exact ⟨_, this⟩
set_option maxRecDepth 100000 in
set_option maxHeartbeats 2000000 in
theorem swap6C (old H : Nat) : Calls Tryz.prog 37 #[.pointer (some ⟨R.b, 0, none⟩), .int .u64 (old : Int), .int .u64 (H : Int)] w fun e w' => e = .returned (.int .i64 ((swapN c s Z Ls old H).1 : Int)) ∧ ∃ R', R'.b = R.b ∧ Went6 w w' R R' (3 * c.nc) ∧ R6At w' R' M.b (3 * c.nc) laid (rows6 (swapN c s Z Ls old H).2) := by
  have IC := is6C h H
  unfold swapN
  have WO := D6.whereC h old
  have hnc := h.hnc
  by_cases h0 : stK (clsN c s old) Ls old = 0
  · rw [if_pos (.inl h0)]
    rw [if_pos h0] at WO
    have hD := Lib.hid h
    replace WO := Lib.hid WO
    clear h h0 IC
    go_enter Tryz.func37, Tryz.ntmps37
    go_wp2_with fail
    refine WO.out.mono ?_
    rintro e w1 ⟨⟨q, rfl⟩, rfl⟩
    go_wp2
    go_ret
    exact ⟨rfl, R, rfl, went6_refl 0, hD.out.doc⟩
  rcases h.at6 old with ⟨e0, -⟩ | ⟨k, l1, l2, e, ha, -, -, -, hl⟩
  · exact absurd e0 h0
  clear WO
  have WO := where6 w R M.b c laid Ls h.doc h.hnc (fun x k hx hk => Nat.le_succ_of_le (h.hll x k hx hk)) old ha
  obtain ⟨hX, hk, -, hn1, -⟩ := ha
  rw [e, Nat.add_sub_cancel]
  obtain ⟨j, hj⟩ : ∃ j, j = 3 * clsN c s old + k := ⟨_, rfl⟩
  rw [← hj] at WO
  have hjn : j < 3 * c.nc := by omega
  have dj : decide ((j : Int) < 0) = false := decide_eq_false (by omega)
  obtain ⟨q, hq⟩ : ∃ q, q = l1.length := ⟨_, rfl⟩
  rw [← hq] at WO
  by_cases hi : isN c s Z H = false
  · rw [if_pos (.inr hi)]
    rw [hi] at IC
    have hD := Lib.hid h
    replace WO := Lib.hid WO
    replace IC := Lib.hid IC
    replace hj := Lib.hid hj
    replace hq := Lib.hid hq
    clear h h0 hi e hl hn1 hX
    go_enter Tryz.func37, Tryz.ntmps37
    go_wp2_with fail
    refine WO.out.mono ?_
    rintro e w1 ⟨rfl, rfl⟩
    go_wp2_with fail
    refine IC.out.mono ?_
    rintro e w2 ⟨rfl, m, hw⟩
    replace hw := Lib.hid hw
    go_wp2
    go_ret
    exact ⟨rfl, R, rfl, by rw [← hw.out]; exact went6_refl m, by rw [← hw.out]; exact (hD.out.draw m).doc⟩
  have hi2 : isN c s Z H = true := by simpa using hi
  rw [if_neg (by simp [h0, hi2])]
  rw [hi2] at IC
  have WH := fun m => D6.whereC (h.draw m) H
  by_cases hs : stK (clsN c s H) Ls H ≠ 0
  · rw [if_pos hs]
    rw [if_neg hs] at WH
    obtain ⟨z, hz⟩ : ∃ z : Nat, z = 3 * clsN c s H + (stK (clsN c s H) Ls H - 1) := ⟨_, rfl⟩
    rw [← hz] at WH
    have dz : decide ((0 : Int) ≤ (z : Int)) = true := decide_eq_true (by omega)
    have hD := Lib.hid h
    replace WO := Lib.hid WO
    replace IC := Lib.hid IC
    replace WH := Lib.hid WH
    replace hj := Lib.hid hj
    replace hq := Lib.hid hq
    replace hz := Lib.hid hz
    clear h h0 hi hi2 hs e hl hn1 hX
    go_enter Tryz.func37, Tryz.ntmps37
    go_wp2_with fail
    refine WO.out.mono ?_
    rintro e w1 ⟨rfl, rfl⟩
    go_wp2_with fail
    refine IC.out.mono ?_
    rintro e w2 ⟨rfl, m, hw⟩
    have WH1 := Lib.hid (WH.out m)
    rw [hw] at WH1
    replace hw := Lib.hid hw
    clear IC WH
    go_wp2_with fail
    refine WH1.out.mono ?_
    rintro e w3 ⟨⟨q', rfl⟩, rfl⟩
    go_wp2
    go_ret
    exact ⟨rfl, R, rfl, by rw [← hw.out]; exact went6_refl m, by rw [← hw.out]; exact (hD.out.draw m).doc⟩
  rw [if_neg hs]
  rw [if_pos (Classical.not_not.1 hs)] at WH
  have hi3 := hi2
  unfold isN at hi3
  obtain ⟨⟨i', y', p'⟩, hf'⟩ := Option.isSome_iff_exists.1 (Bool.and_eq_true_iff.1 hi3).1
  obtain ⟨F, Q⟩ := h.q
  obtain ⟨-, i, y, p, -, -, hf, -⟩ := Q.of_stK h.ok h.good h0
  have AO := fun m => (h.draw m).atC hf
  have AH := fun m => (h.draw m).atC hf'
  by_cases hcc : clsN c s old = clsN c s H
  · rw [if_neg (by simp [hcc])]
    rw [← hcc] at AH
    have hlb := h.hll _ _ hX hk
    have eL := rows6_at Ls (X := clsN c s old) hk
    have eS : swL (Ls (clsN c s old) k) old H = (Ls (clsN c s old) k).set q H := by unfold swL; rw [hl, idx_split hn1, hq]
    have hqK : q < (Ls (clsN c s old) k).length := by rw [hl, hq]; simp
    have eU := rows6_upd Ls (clsN c s old) k hk ((Ls (clsN c s old) k).set q H)
    rw [eS, ← eU, ← hj]
    rw [← hj] at eL
    rw [← eL] at hlb hqK ⊢
    have rg : ∀ m, R6At (w.drewN m) R M.b (3 * c.nc) laid (rows6 Ls) := fun m => (h.draw m).doc
    have c0 := fun m => (h.draw m).doc.c0
    generalize rows6 Ls = lists at *
    generalize clsN c s old = X at *
    generalize hn : 3 * c.nc = n at *
    replace WO := Lib.hid WO
    replace IC := Lib.hid IC
    replace WH := Lib.hid WH
    replace AO := Lib.hid AO
    replace AH := Lib.hid AH
    replace rg := Lib.hid rg
    replace c0 := Lib.hid c0
    clear h h0 hi hi2 hi3 hs e hl hn1 hX hf hf' hcc eS eU eL Q hq hj
    go_enter Tryz.func37, Tryz.ntmps37
    go_wp2_with fail
    refine WO.out.mono ?_
    rintro e w1 ⟨rfl, rfl⟩
    go_wp2_with fail
    refine IC.out.mono ?_
    rintro e w2 ⟨rfl, m, hw⟩
    have WH1 := Lib.hid (WH.out m)
    rw [hw] at WH1
    replace hw := Lib.hid hw
    clear IC WH WO
    go_wp2_with fail
    refine WH1.out.mono ?_
    rintro e w3 ⟨⟨q', rfl⟩, rfl⟩
    have c0a := c0.out m
    obtain ⟨P1, AO1⟩ := AO.out m
    rw [hw.out] at c0a AO1
    replace AO1 := Lib.hid AO1
    clear WH1 AO
    go_wp2_with fail
    refine AO1.out.mono ?_
    rintro e w4 ⟨rfl, m4, hw4⟩
    have e4 : w.drewN (m + m4) = w4 := by rw [← hw4, ← hw.out]; exact drewN_add _ _ _
    have c0b := c0.out (m + m4)
    obtain ⟨P2, AH1⟩ := AH.out (m + m4)
    rw [e4] at c0b AH1
    replace AH1 := Lib.hid AH1
    replace hw4 := Lib.hid hw4
    replace e4 := Lib.hid e4
    clear AO1 AH c0a c0 hw
    go_wp2_with fail
    refine AH1.out.mono ?_
    rintro e w6 ⟨rfl, m6, hw6⟩
    have e6 : w.drewN (m + m4 + m6) = w6 := by rw [← hw6, ← e4.out]; exact drewN_add _ _ _
    have rg6 := rg.out (m + m4 + m6)
    rw [e6] at rg6
    replace rg6 := Lib.hid rg6
    replace hw6 := Lib.hid hw6
    replace e6 := Lib.hid e6
    clear AH1 c0b rg e4 hw4
    go_upto_region 11 with fail
    obtain ⟨w5, hw5⟩ : ∃ w5, w5 = w6.drew := ⟨_, rfl⟩
    have h5 : R6At w5 R M.b n laid lists := by rw [hw5]; exact rg6.out.drew
    obtain ⟨K, cp, A, r5⟩ := h5.reg hjn
    obtain ⟨c2, hRb, ⟨cs, GB⟩, hGl, hne, rd⟩ := r5.facts
    have cl := r5.cl
    have hK' : K ≤ 1073741823 := by rw [← r5.len]; exact hlb
    have hqK' : q < K := by rw [← r5.len]; exact hqK
    have bw5 := Below.refl w5.heap.size w5
    have j0 : (0 : Int) ≤ (j : Int) := by omega
    have j1 : (j : Int) < (n : Int) := by omega
    have fin : ∀ v V, Below w5.heap.size w5 v → v.ownsRow w5.heap.size 26 1 V K ([] ++ (lists j).map uv) → ∃ g cp', V = .slice (some ⟨g, 0, none⟩) K cp' ∧
        ((v.setCell ⟨R.gL, j, none⟩ V).cell? ⟨R.b, 2, none⟩ = some (.slice (some ⟨R.gL, 0, none⟩) n n) ∧ (v.setCell ⟨R.gL, j, none⟩ V).cell? ⟨R.gL, j, none⟩ = some V ∧ (∃ u, (v.setCell ⟨R.gL, j, none⟩ V).cell? ⟨g, q, none⟩ = some (.int .u64 u)) ∧ (v.setCell ⟨R.gL, j, none⟩ V).frozen? ⟨g, q, none⟩ = false) ∧
        ∃ R', R'.b = R.b ∧ Went6 w ((v.setCell ⟨R.gL, j, none⟩ V).setCell ⟨g, q, none⟩ (.int .u64 (H : Int))) R R' n ∧ R6At ((v.setCell ⟨R.gL, j, none⟩ V).setCell ⟨g, q, none⟩ (.int .u64 (H : Int))) R' M.b n laid (upd lists j ((lists j).set q H)) := by
      intro v V b6 o6
      obtain ⟨a1, a2⟩ := h5.setRow hjn (l := lists j) b6 (by rw [r5.len]; exact o6)
      obtain ⟨g, c', hV, hg⟩ := own_uv (i := q) (x := (lists j)[q]'hqK) o6 (List.getElem?_eq_getElem hqK)
      have a3 := R6At.setAt a1 (went6_draw (m + m4 + m6 + 1) (by rw [hw5, ← e6.out]; exact drewN_one w _) a2) hjn (k := q) (g := g) (K := K) (cp := c') (by show upd R.F j V j = _; rw [upd_at]; exact hV) (by rw [upd_at]; exact r5.len) hqK' H
      have eu : upd (upd lists j (lists j)) j ((upd lists j (lists j) j).set q H) = upd lists j ((lists j).set q H) := by rw [upd_at, upd_upd]
      rw [eu] at a3
      have hgb : V.ownBlock = some g := by rw [hV]; rfl
      have hgn : g ≠ R.gL := fun e => by have := own_base o6 hgb; omega
      have hor := a1.row hjn
      have hfr : (v.setCell ⟨R.gL, j, none⟩ V).frozen? ⟨g, q, none⟩ = false := by
        rcases o6.2 with ⟨e0, h0⟩ | ⟨g', cap, cur, hv', hB, hg', -⟩
        · rw [hV] at e0; cases e0
        · rw [hV] at hv'
          injection hv' with hv1
          injection hv1 with hv1
          injection hv1 with hv1
          subst hv1
          exact Blk.frozen (Blk.far (p := ⟨R.gL, j, none⟩) (show Blk v g _ cur from hg') hgn V) q
      refine ⟨g, c', hV, ⟨a1.c2, ?_, ⟨_, (World.cell?_setCell_far _ _ _ _ (Ne.symm hgn)).trans hg⟩, hfr⟩, { R with F := upd R.F j V }, rfl, a3.2, a3.1⟩
      have := a1.grid.cell j 0 hjn (by decide)
      rw [Nat.mul_one, Nat.add_zero] at this
      rw [this]
      show some (upd R.F j V j) = some V
      rw [upd_at]
    have q0 : (0 : Int) ≤ (q : Int) := by omega
    have q1 : (q : Int) < (K : Int) := by omega
    replace rd := Lib.hid rd
    replace fin := Lib.hid fin
    clear r5 h5 rg6 e6
    refine wp_region_noPanic ?_
    refine wp_region_held_drew (S := fun w' => w'.cell? ⟨R.b, 2, none⟩ = some (.slice (some ⟨R.gL, 0, none⟩) n n)) (by kernel_rfl) (by rw [← hw5]; exact c2) (fun hHeld => ?_)
    rw [← hw5] at hHeld ⊢
    clear hw5
    refine wpAnyH_take (i := 0) (oi := _) (v := ?_) rfl (by kernel_rfl) (by kernel_rfl) (by kernel_rfl) (fun _ _ _ h => h) (Or.inl ⟨by rfl, ?_⟩) (by assumption) ?_
    rotate_left
    · try simp only [List.getElem_toArray, List.getElem_cons_succ, List.getElem_cons_zero]
      intro w hSw
      (try dsimp only at hSw)
      go_simp
      (try with_reducible rfl)
    try simp only [List.getElem_toArray, List.getElem_cons_succ, List.getElem_cons_zero, Act.put, List.setIfInBounds_toArray, List.set_cons_zero, List.set_cons_succ]
    refine wpAnyH_take (i := 1) (oi := _) (v := ?_) rfl (by kernel_rfl) (by kernel_rfl) (by kernel_rfl) (fun _ _ _ h => h) (Or.inl ⟨by rfl, ?_⟩) (by assumption) ?_
    rotate_left
    · try simp only [List.getElem_toArray, List.getElem_cons_succ, List.getElem_cons_zero]
      intro w hSw
      (try dsimp only at hSw)
      go_simp
      (try with_reducible rfl)
    try simp only [List.getElem_toArray, List.getElem_cons_succ, List.getElem_cons_zero, Act.put, List.setIfInBounds_toArray, List.set_cons_zero, List.set_cons_succ]
    refine wpAnyH_take (i := 2) (oi := _) (v := ?_) rfl (by kernel_rfl) (by kernel_rfl) (by kernel_rfl) (fun _ _ _ h => h) (Or.inl ⟨by rfl, ?_⟩) (by assumption) ?_
    rotate_left
    · try simp only [List.getElem_toArray, List.getElem_cons_succ, List.getElem_cons_zero]
      intro w hSw
      (try dsimp only at hSw)
      go_simp
      (try with_reducible rfl)
    try simp only [List.getElem_toArray, List.getElem_cons_succ, List.getElem_cons_zero, Act.put, List.setIfInBounds_toArray, List.set_cons_zero, List.set_cons_succ]
    refine wpAnyH_take (i := 3) (oi := _) (v := ?_) rfl (by kernel_rfl) (by kernel_rfl) (by kernel_rfl) (fun _ _ _ h => h) (Or.inl ⟨by rfl, ?_⟩) (by assumption) ?_
    rotate_left
    · try simp only [List.getElem_toArray, List.getElem_cons_succ, List.getElem_cons_zero]
      intro w hSw
      (try dsimp only at hSw)
      go_simp
      (try with_reducible rfl)
    try simp only [List.getElem_toArray, List.getElem_cons_succ, List.getElem_cons_zero, Act.put, List.setIfInBounds_toArray, List.set_cons_zero, List.set_cons_succ]
    refine wpAnyH_take (i := 4) (oi := _) (v := ?_) rfl (by kernel_rfl) (by kernel_rfl) (by kernel_rfl) (fun _ _ _ h => h) (Or.inl ⟨by rfl, ?_⟩) (by assumption) ?_
    rotate_left
    · try simp only [List.getElem_toArray, List.getElem_cons_succ, List.getElem_cons_zero]
      intro w hSw
      (try dsimp only at hSw)
      go_simp
      (try with_reducible rfl)
    try simp only [List.getElem_toArray, List.getElem_cons_succ, List.getElem_cons_zero, Act.put, List.setIfInBounds_toArray, List.set_cons_zero, List.set_cons_succ]
    refine wpAnyH_take (i := 6) (oi := _) (v := ?_) rfl (by kernel_rfl) (by kernel_rfl) (by kernel_rfl) (fun _ _ _ h => h) (Or.inl ⟨by rfl, ?_⟩) (by assumption) ?_
    rotate_left
    · try simp only [List.getElem_toArray, List.getElem_cons_succ, List.getElem_cons_zero]
      intro w hSw
      (try dsimp only at hSw)
      go_simp
      (try with_reducible rfl)
    try simp only [List.getElem_toArray, List.getElem_cons_succ, List.getElem_cons_zero, Act.put, List.setIfInBounds_toArray, List.set_cons_zero, List.set_cons_succ]
    refine wpAnyH_take (i := 7) (oi := _) (v := ?_) rfl (by kernel_rfl) (by kernel_rfl) (by kernel_rfl) (fun _ _ _ h => h) (Or.inl ⟨by rfl, ?_⟩) (by assumption) ?_
    rotate_left
    · try simp only [List.getElem_toArray, List.getElem_cons_succ, List.getElem_cons_zero]
      intro w hSw
      (try dsimp only at hSw)
      go_simp
      (try with_reducible rfl)
    try simp only [List.getElem_toArray, List.getElem_cons_succ, List.getElem_cons_zero, Act.put, List.setIfInBounds_toArray, List.set_cons_zero, List.set_cons_succ]
    refine wpAnyH_take (i := 8) (oi := _) (v := ?_) rfl (by kernel_rfl) (by kernel_rfl) (by kernel_rfl) (fun _ _ _ h => h) (Or.inl ⟨by rfl, ?_⟩) (by assumption) ?_
    rotate_left
    · try simp only [List.getElem_toArray, List.getElem_cons_succ, List.getElem_cons_zero]
      intro w hSw
      (try dsimp only at hSw)
      go_simp
      (try with_reducible rfl)
    try simp only [List.getElem_toArray, List.getElem_cons_succ, List.getElem_cons_zero, Act.put, List.setIfInBounds_toArray, List.set_cons_zero, List.set_cons_succ]
    refine wpAnyH_take (i := 9) (oi := _) (v := ?_) rfl (by kernel_rfl) (by kernel_rfl) (by kernel_rfl) (fun _ _ _ h => h) (Or.inl ⟨by rfl, ?_⟩) (by assumption) ?_
    rotate_left
    · try simp only [List.getElem_toArray, List.getElem_cons_succ, List.getElem_cons_zero]
      intro w hSw
      (try dsimp only at hSw)
      go_simp
      (try with_reducible rfl)
    try simp only [List.getElem_toArray, List.getElem_cons_succ, List.getElem_cons_zero, Act.put, List.setIfInBounds_toArray, List.set_cons_zero, List.set_cons_succ]
    refine wpAnyH_take (i := 10) (oi := _) (v := ?_) rfl (by kernel_rfl) (by kernel_rfl) (by kernel_rfl) (fun _ _ _ h => h) (Or.inl ⟨by rfl, ?_⟩) (by assumption) ?_
    rotate_left
    · try simp only [List.getElem_toArray, List.getElem_cons_succ, List.getElem_cons_zero]
      intro w hSw
      (try dsimp only at hSw)
      go_simp
      (try with_reducible rfl)
    try simp only [List.getElem_toArray, List.getElem_cons_succ, List.getElem_cons_zero, Act.put, List.setIfInBounds_toArray, List.set_cons_zero, List.set_cons_succ]
    refine wpAnyH_take (i := 11) (oi := _) (v := ?_) rfl (by kernel_rfl) (by kernel_rfl) (by kernel_rfl) (fun _ _ _ h => h) (Or.inl ⟨by rfl, ?_⟩) (by assumption) ?_
    rotate_left
    · try simp only [List.getElem_toArray, List.getElem_cons_succ, List.getElem_cons_zero]
      intro w hSw
      (try dsimp only at hSw)
      go_simp
      (try with_reducible rfl)
    try simp only [List.getElem_toArray, List.getElem_cons_succ, List.getElem_cons_zero, Act.put, List.setIfInBounds_toArray, List.set_cons_zero, List.set_cons_succ]
    refine wpAnyH_ready (rs := [5, 12]) (by kernel_rfl) (by simp) ?_
    refine AllReadyH.cons (o := _) rfl (fun K hK => ?_) ?_
    · try simp only [List.getElem_toArray, List.getElem_cons_succ, List.getElem_cons_zero, Act.put, List.setIfInBounds_toArray, List.set_cons_zero, List.set_cons_succ]
      go_simp
      obtain ⟨v6, hv6⟩ : ∃ x, x = World.alloc w5 (.cells #[] 26) := ⟨_, rfl⟩
      have bv6 : Below w5.heap.size w5 v6 := by rw [hv6]; exact bw5.alloc bw5.size _
      have sv6 := Lib.hid (show v6.heap.size = w5.heap.size + 1 by rw [hv6]; exact World.size_alloc _ _)
      have oAv6 := own_zero w5 w5.heap.size bw5.size
      rw [← hv6] at oAv6
      rw [← hv6]
      clear hv6
      refine hK.out _ _ ((bv6.cell (p := ⟨R.b, 2, none⟩) hRb).trans c2) (fun hHeld => ?_)
      clear hK K
      try simp only [List.getElem_toArray, List.getElem_cons_succ, List.getElem_cons_zero, Act.put, List.setIfInBounds_toArray, List.set_cons_zero, List.set_cons_succ]
      refine wpAnyH_ready (rs := [12]) (by kernel_rfl) (by simp) ?_
      refine AllReadyH.cons (o := _) rfl (fun K hK => ?_) ?_
      · try simp only [List.getElem_toArray, List.getElem_cons_succ, List.getElem_cons_zero, Act.put, List.setIfInBounds_toArray, List.set_cons_zero, List.set_cons_succ]
        have clv7 := (bv6.cell (p := ⟨R.gL, j, none⟩) hGl).trans cl
        go_simp
        refine hK.out _ _ ((bv6.cell (p := ⟨R.b, 2, none⟩) hRb).trans c2) (fun hHeld => ?_)
        clear hK K
        try simp only [List.getElem_toArray, List.getElem_cons_succ, List.getElem_cons_zero, Act.put, List.setIfInBounds_toArray, List.set_cons_zero, List.set_cons_succ]
        clear clv7
        refine wpAnyH_ready (rs := [13]) (by kernel_rfl) (by simp) ?_
        refine AllReadyH.cons (o := _) rfl (fun K hK => ?_) ?_
        · try simp only [List.getElem_toArray, List.getElem_cons_succ, List.getElem_cons_zero, Act.put, List.setIfInBounds_toArray, List.set_cons_zero, List.set_cons_succ]
          refine step_ap (a := ⟨_, _⟩) (by rfl) (.tmp 67) (.tmp 74) 45 (by rfl) eiL w5.heap.size _ _ _ (by rfl) oAv6 _ _ _ _ _ (by rfl) (rd.out.below bv6) ?ga1 ?gb1 ?gc1 bv6.size ?_
          case ga1 => first | exact uvs_cells _ | (intro u hu; rw [List.mem_singleton] at hu; subst hu; rfl)
          case gb1 => unfold maxLen; omega
          case gc1 => omega
          intro V v8 oAv8 hgv8 hatv8
          (try rw [Nat.zero_add] at oAv8)
          obtain ⟨Av8, cv8, rfl⟩ := own_is oAv8
          have bv8 : Below w5.heap.size w5 v8 := bv6.grown hgv8 bv6.size (fun k e => own_base oAv6 e)
          refine hK.out _ _ ((bv8.cell (p := ⟨R.b, 2, none⟩) hRb).trans c2) (fun hHeld => ?_)
          clear hK K
          try simp only [List.getElem_toArray, List.getElem_cons_succ, List.getElem_cons_zero, Act.put, List.setIfInBounds_toArray, List.set_cons_zero, List.set_cons_succ]
          refine wpAnyH_take (i := 14) (oi := _) (v := ?_) rfl (by kernel_rfl) (by kernel_rfl) (by kernel_rfl) (fun _ _ _ h => h) (Or.inl ⟨by rfl, ?_⟩) (by assumption) ?_
          rotate_left
          · try simp only [List.getElem_toArray, List.getElem_cons_succ, List.getElem_cons_zero]
            intro w hSw
            (try dsimp only at hSw)
            go_simp
            (try with_reducible rfl)
          try simp only [List.getElem_toArray, List.getElem_cons_succ, List.getElem_cons_zero, Act.put, List.setIfInBounds_toArray, List.set_cons_zero, List.set_cons_succ]
          refine wpAnyH_ready (rs := [15]) (by kernel_rfl) (by simp) ?_
          refine AllReadyH.cons (o := _) rfl (fun K hK => ?_) ?_
          · try simp only [List.getElem_toArray, List.getElem_cons_succ, List.getElem_cons_zero, Act.put, List.setIfInBounds_toArray, List.set_cons_zero, List.set_cons_succ]
            have clv9 := (bv8.cell (p := ⟨R.gL, j, none⟩) hGl).trans cl
            have zzv9 : Blk v8 R.gL 45 _ := (bv8.block R.gL hGl).trans GB
            have zfv9 := zzv9.frozen j
            replace zzv9 := Lib.hid zzv9
            go_simp
            refine hK.out _ _ ((World.cell?_setCell_far _ _ _ _ hne).trans ((bv8.cell (p := ⟨R.b, 2, none⟩) hRb).trans c2)) (fun hHeld => ?_)
            clear hK K
            try simp only [List.getElem_toArray, List.getElem_cons_succ, List.getElem_cons_zero, Act.put, List.setIfInBounds_toArray, List.set_cons_zero, List.set_cons_succ]
            clear clv9 zfv9 zzv9
            refine wpAnyH_done (by kernel_rfl) ?_ _
            refine NoPanic.normal ?_
            obtain ⟨gF, cF, hVF, ⟨f1, f2, ⟨u, f3⟩, f4⟩, T⟩ := fin.out v8 _ bv8 oAv8
            injection hVF with hV1 hV2 hV3
            subst hV1 hV3
            replace T := Lib.hid T
            go_wp2
            go_ret
            exact ⟨rfl, T.out⟩
          exact AllReadyH.nil
        exact AllReadyH.nil
      exact AllReadyH.nil
    refine AllReadyH.cons (o := _) rfl (fun K hK => ?_) ?_
    · try simp only [List.getElem_toArray, List.getElem_cons_succ, List.getElem_cons_zero, Act.put, List.setIfInBounds_toArray, List.set_cons_zero, List.set_cons_succ]
      have clv6 := (bw5.cell (p := ⟨R.gL, j, none⟩) hGl).trans cl
      go_simp
      refine hK.out _ _ ((bw5.cell (p := ⟨R.b, 2, none⟩) hRb).trans c2) (fun hHeld => ?_)
      clear hK K
      try simp only [List.getElem_toArray, List.getElem_cons_succ, List.getElem_cons_zero, Act.put, List.setIfInBounds_toArray, List.set_cons_zero, List.set_cons_succ]
      clear clv6
      refine wpAnyH_ready (rs := [5]) (by kernel_rfl) (by simp) ?_
      refine AllReadyH.cons (o := _) rfl (fun K hK => ?_) ?_
      · try simp only [List.getElem_toArray, List.getElem_cons_succ, List.getElem_cons_zero, Act.put, List.setIfInBounds_toArray, List.set_cons_zero, List.set_cons_succ]
        go_simp
        obtain ⟨v7, hv7⟩ : ∃ x, x = World.alloc w5 (.cells #[] 26) := ⟨_, rfl⟩
        have bv7 : Below w5.heap.size w5 v7 := by rw [hv7]; exact bw5.alloc bw5.size _
        have sv7 := Lib.hid (show v7.heap.size = w5.heap.size + 1 by rw [hv7]; exact World.size_alloc _ _)
        have oAv7 := own_zero w5 w5.heap.size bw5.size
        rw [← hv7] at oAv7
        rw [← hv7]
        clear hv7
        refine hK.out _ _ ((bv7.cell (p := ⟨R.b, 2, none⟩) hRb).trans c2) (fun hHeld => ?_)
        clear hK K
        try simp only [List.getElem_toArray, List.getElem_cons_succ, List.getElem_cons_zero, Act.put, List.setIfInBounds_toArray, List.set_cons_zero, List.set_cons_succ]
        refine wpAnyH_ready (rs := [13]) (by kernel_rfl) (by simp) ?_
        refine AllReadyH.cons (o := _) rfl (fun K hK => ?_) ?_
        · try simp only [List.getElem_toArray, List.getElem_cons_succ, List.getElem_cons_zero, Act.put, List.setIfInBounds_toArray, List.set_cons_zero, List.set_cons_succ]
          refine step_ap (a := ⟨_, _⟩) (by rfl) (.tmp 67) (.tmp 74) 45 (by rfl) eiL w5.heap.size _ _ _ (by rfl) oAv7 _ _ _ _ _ (by rfl) (rd.out.below bv7) ?ga2 ?gb2 ?gc2 bv7.size ?_
          case ga2 => first | exact uvs_cells _ | (intro u hu; rw [List.mem_singleton] at hu; subst hu; rfl)
          case gb2 => unfold maxLen; omega
          case gc2 => omega
          intro V v8 oAv8 hgv8 hatv8
          (try rw [Nat.zero_add] at oAv8)
          obtain ⟨Av8, cv8, rfl⟩ := own_is oAv8
          have bv8 : Below w5.heap.size w5 v8 := bv7.grown hgv8 bv7.size (fun k e => own_base oAv7 e)
          refine hK.out _ _ ((bv8.cell (p := ⟨R.b, 2, none⟩) hRb).trans c2) (fun hHeld => ?_)
          clear hK K
          try simp only [List.getElem_toArray, List.getElem_cons_succ, List.getElem_cons_zero, Act.put, List.setIfInBounds_toArray, List.set_cons_zero, List.set_cons_succ]
          refine wpAnyH_take (i := 14) (oi := _) (v := ?_) rfl (by kernel_rfl) (by kernel_rfl) (by kernel_rfl) (fun _ _ _ h => h) (Or.inl ⟨by rfl, ?_⟩) (by assumption) ?_
          rotate_left
          · try simp only [List.getElem_toArray, List.getElem_cons_succ, List.getElem_cons_zero]
            intro w hSw
            (try dsimp only at hSw)
            go_simp
            (try with_reducible rfl)
          try simp only [List.getElem_toArray, List.getElem_cons_succ, List.getElem_cons_zero, Act.put, List.setIfInBounds_toArray, List.set_cons_zero, List.set_cons_succ]
          refine wpAnyH_ready (rs := [15]) (by kernel_rfl) (by simp) ?_
          refine AllReadyH.cons (o := _) rfl (fun K hK => ?_) ?_
          · try simp only [List.getElem_toArray, List.getElem_cons_succ, List.getElem_cons_zero, Act.put, List.setIfInBounds_toArray, List.set_cons_zero, List.set_cons_succ]
            have clv9 := (bv8.cell (p := ⟨R.gL, j, none⟩) hGl).trans cl
            have zzv9 : Blk v8 R.gL 45 _ := (bv8.block R.gL hGl).trans GB
            have zfv9 := zzv9.frozen j
            replace zzv9 := Lib.hid zzv9
            go_simp
            refine hK.out _ _ ((World.cell?_setCell_far _ _ _ _ hne).trans ((bv8.cell (p := ⟨R.b, 2, none⟩) hRb).trans c2)) (fun hHeld => ?_)
            clear hK K
            try simp only [List.getElem_toArray, List.getElem_cons_succ, List.getElem_cons_zero, Act.put, List.setIfInBounds_toArray, List.set_cons_zero, List.set_cons_succ]
            clear clv9 zfv9 zzv9
            refine wpAnyH_done (by kernel_rfl) ?_ _
            refine NoPanic.normal ?_
            obtain ⟨gF, cF, hVF, ⟨f1, f2, ⟨u, f3⟩, f4⟩, T⟩ := fin.out v8 _ bv8 oAv8
            injection hVF with hV1 hV2 hV3
            subst hV1 hV3
            replace T := Lib.hid T
            go_wp2
            go_ret
            exact ⟨rfl, T.out⟩
          exact AllReadyH.nil
        exact AllReadyH.nil
      exact AllReadyH.nil
    exact AllReadyH.nil
  · rw [if_pos hcc]
    have dc : ((clsN c s old : Int) == (clsN c s H : Int)) = false := by rw [beq_eq_false_iff_ne]; omega
    have dc2 : ((clsN c s old : Int) != (clsN c s H : Int)) = true := by rw [bne_iff_ne]; omega
    have dc3 : decide ((clsN c s old : Int) = (clsN c s H : Int)) = false := decide_eq_false (by omega)
    have c0 := fun m => (h.draw m).doc.c0
    generalize clsN c s old = X at *
    generalize clsN c s H = X' at *
    have hD := Lib.hid h
    replace WO := Lib.hid WO
    replace IC := Lib.hid IC
    replace WH := Lib.hid WH
    replace AO := Lib.hid AO
    replace AH := Lib.hid AH
    replace c0 := Lib.hid c0
    replace hj := Lib.hid hj
    replace hq := Lib.hid hq
    clear h h0 hi hi2 hi3 hs e hl hn1 hX hf hf' hcc Q
    go_enter Tryz.func37, Tryz.ntmps37
    go_wp2_with fail
    refine WO.out.mono ?_
    rintro e w1 ⟨rfl, rfl⟩
    go_wp2_with fail
    refine IC.out.mono ?_
    rintro e w2 ⟨rfl, m, hw⟩
    have WH1 := Lib.hid (WH.out m)
    rw [hw] at WH1
    replace hw := Lib.hid hw
    clear IC WH WO
    go_wp2_with fail
    refine WH1.out.mono ?_
    rintro e w3 ⟨⟨q', rfl⟩, rfl⟩
    have c0a := c0.out m
    obtain ⟨P1, AO1⟩ := AO.out m
    rw [hw.out] at c0a AO1
    replace AO1 := Lib.hid AO1
    clear WH1 AO
    go_wp2_with fail
    refine AO1.out.mono ?_
    rintro e w4 ⟨rfl, m4, hw4⟩
    have e4 : w.drewN (m + m4) = w4 := by rw [← hw4, ← hw.out]; exact drewN_add _ _ _
    have c0b := c0.out (m + m4)
    obtain ⟨P2, AH1⟩ := AH.out (m + m4)
    rw [e4] at c0b AH1
    replace AH1 := Lib.hid AH1
    replace hw4 := Lib.hid hw4
    replace e4 := Lib.hid e4
    clear AO1 AH c0a c0 hw
    go_wp2_with fail
    refine AH1.out.mono ?_
    rintro e w6 ⟨rfl, m6, hw6⟩
    have e6 : w.drewN (m + m4 + m6) = w6 := by rw [← hw6, ← e4.out]; exact drewN_add _ _ _
    replace hw6 := Lib.hid hw6
    replace e6 := Lib.hid e6
    go_wp2
    go_ret
    exact ⟨rfl, R, rfl, by rw [← e6.out]; exact went6_refl _, by rw [← e6.out]; exact (hD.out.draw _).doc⟩
end
end Go.Proofs.YtfjiphibalhcgaaGreat.Que
/-
  The walks of told, looks, next, header.
-/
namespace Go.Proofs.YtfjiphibalhcgaaGreat.Que
open Go.RowKit Base Arena Cls Itm
set_option linter.unusedVariables false
set_option linter.unusedSectionVars false

theorem rg_keep {P : Program} {f : FuncId} {args : Array Value} {w : World} {d : Nat} {os : Array Obj} {v : Value} (h : Calls P f args (Go.Sort.grow (redrawn w d) os) fun e w' => e = .returned v ∧ Go.Sort.grow (redrawn w d) os = w') :
    Calls P f args (Go.Sort.grow (redrawn w d) os) fun e w'' => e = .returned v ∧ ∃ p : Regrown, w'' = Go.Sort.grow (redrawn w p.d) p.os := h.mono fun e w' ⟨h1, h2⟩ => ⟨h1, ⟨d, os⟩, h2.symm⟩
theorem toldC (w : World) (H : Nat) (b : Bool) : Calls Tryz.prog 83 #[.int .u64 (H : Int), .bool b, .int .u64 (H : Int), .bool b] w fun e w' => e = .returned (.bool true) ∧ w = w' := by
  have d0 : ((H : Int) == (H : Int)) = true := by simp
  have d1 : decide ((H : Int) = (H : Int)) = true := by simp
  have d2 : (b == b) = true := by simp
  cases b
  · go_enter Tryz.func83, Tryz.ntmps83
    go_wp2
    go_ret
    exact ⟨rfl, rfl⟩
  · go_enter Tryz.func83, Tryz.ntmps83
    go_wp2
    go_ret
    exact ⟨rfl, rfl⟩
section
variable {N : Nat} {w : World} {W : W6} {s : St} {bs : List UInt8} {Z : Nat → Option Zd} {Ls : Nat → Nat → List Nat} {r : RS} {laid told : List Nat} {t : Nat} (h : WI N w W s bs Z Ls r laid told t) (ht : t ≤ 60000)
include h ht
set_option maxRecDepth 100000 in
set_option maxHeartbeats 1600000 in
theorem looksC (x kind : Int) : Calls Tryz.prog 38 #[.pointer (some ⟨W.b, 0, none⟩), .int .i64 x, .int .i64 kind] w fun e w' => e = .returned (.bool true) ∧ Below w.heap.size w w' := by
  have HC := headC h.wat.q x kind
  have TC := tailC h.wat.q x kind
  have H6 := (h.d6 ht).head x kind
  have T6 := fun w1 (b : Below w.heap.size w w1) => ((h.below b).d6 ht).tail x kind
  have LC := fun w1 (b : Below w.heap.size w w1) => lenC (h.below b).wat.q x kind
  have L6 := fun w1 (b : Below w.heap.size w w1) => ((h.below b).d6 ht).len x kind
  have cW := fun w1 (b : Below w.heap.size w w1) => (h.below b).wat.cW
  obtain ⟨y0, y1, y2, y3, y4⟩ := h.wat.cW
  have tc := toldC
  generalize (lsN qc Ls x kind).head?.getD 0 = hd at *
  generalize (lsN qc Ls x kind).getLast?.getD 0 = tl at *
  generalize decide (0 < (lsN qc Ls x kind).length) = hb at *
  generalize (lsN qc Ls x kind).length = ln at *
  replace HC := Lib.hid HC
  replace TC := Lib.hid TC
  replace H6 := Lib.hid H6
  replace T6 := Lib.hid T6
  replace LC := Lib.hid LC
  replace L6 := Lib.hid L6
  replace cW := Lib.hid cW
  replace tc := Lib.hid tc
  clear h
  go_enter Tryz.func38, Tryz.ntmps38
  go_wp2_with fail
  refine HC.out.mono ?_
  rintro e w' ⟨rfl, rfl⟩
  go_wp2_with fail
  refine TC.out.mono ?_
  rintro e w' ⟨rfl, rfl⟩
  go_wp2_with fail
  refine H6.out.mono ?_
  rintro e w1 ⟨rfl, b1⟩
  obtain ⟨-, y1, -, y3, -⟩ := cW.out w1 b1
  have TT := Lib.hid (T6.out w1 b1)
  replace b1 := Lib.hid b1
  clear HC TC H6 y0 y2 y4
  go_wp2_with fail
  refine TT.out.mono ?_
  rintro e w2 ⟨rfl, b2⟩
  have bb := b1.out.trans (b2.mono b1.out.size)
  obtain ⟨-, yy1, -, yy3, -⟩ := cW.out w2 bb
  clear TT y1 y3 b2 b1 T6
  have y1 := fun p : Regrown => cell_regrown yy1 p.d p.os
  have y3 := fun p : Regrown => cell_regrown yy3 p.d p.os
  have LC2 := Lib.hid (fun p : Regrown => LC.out _ (bb.trans ((below_regrown w2 p.d p.os).mono bb.size)))
  have L62 := Lib.hid (fun p : Regrown => L6.out _ (bb.trans ((below_regrown w2 p.d p.os).mono bb.size)))
  replace bb := Lib.hid bb
  clear LC L6 cW yy1 yy3
  go_upto_region 5 with fail
  refine wp_region_quiet_below (by kernel_rfl) (by kernel_rfl) ?_
  repeat (go_big_quiet_step ((first | (go_at_call 83; exact rg_keep (tc.out _ _ _)) | (go_at_call 29; exact rg_keep (LC2.out _)) | (go_at_call 84; exact Calls.regrown_of (L62.out _)))))
  refine wpQuiet_nil ?_
  intro _ hw'
  obtain ⟨⟨dq, osq⟩, hw''⟩ := hw'
  subst hw''
  have bF := Lib.hid (bb.out.trans ((below_regrown w2 dq osq).mono bb.out.size))
  clear y1 y3 LC2 L62 bb
  generalize Go.Sort.grow (redrawn w2 dq) osq = wf at *
  go_wp2
  go_ret
  exact ⟨rfl, bF.out⟩
set_option maxRecDepth 100000 in
set_option maxHeartbeats 1600000 in
theorem lnextC (H : Nat) (hH : H < 18446744073709551616) : Calls Tryz.prog 39 #[.pointer (some ⟨W.b, 0, none⟩), .int .u64 (H : Int)] w fun e w' => e = .returned (.bool true) ∧ Below w.heap.size w w' := by
  have A1 := aheadC h.wat.q H hH
  have A2 := fun w1 (b : Below w.heap.size w w1) => behindC (h.below b).wat.q H hH
  have A3 := fun w1 (b : Below w.heap.size w w1) => ahead6C ((h.below b).d6 ht) H
  have A4 := fun w1 (b : Below w.heap.size w w1) => behind6C ((h.below b).d6 ht) H
  have cW := fun w1 (b : Below w.heap.size w w1) => (h.below b).wat.cW
  obtain ⟨y0, y1, y2, y3, y4⟩ := h.wat.cW
  have tc := toldC
  generalize prevN qc s Ls H = p at *
  generalize nextN qc s Ls H = q at *
  generalize decide (p ≠ 0) = pb at *
  generalize decide (q ≠ 0) = qb at *
  replace A1 := Lib.hid A1
  replace A2 := Lib.hid A2
  replace A3 := Lib.hid A3
  replace A4 := Lib.hid A4
  replace cW := Lib.hid cW
  replace tc := Lib.hid tc
  clear h
  go_enter Tryz.func39, Tryz.ntmps39
  go_wp2_with fail
  refine A1.out.mono ?_
  rintro e w1 ⟨rfl, b1⟩
  obtain ⟨-, y1, -, y3, -⟩ := cW.out w1 b1
  have B2 := Lib.hid (A2.out w1 b1)
  replace b1 := Lib.hid b1
  clear A1 A2 y0 y2 y4
  go_wp2_with fail
  refine B2.out.mono ?_
  rintro e w2 ⟨rfl, b2⟩
  have bb := b1.out.trans (b2.mono b1.out.size)
  obtain ⟨-, -, -, y3, -⟩ := cW.out w2 bb
  have B3 := Lib.hid (A3.out w2 bb)
  have B4 := Lib.hid (A4.out w2 bb)
  replace bb := Lib.hid bb
  clear B2 A3 A4 y1 b1 b2
  go_wp2_with fail
  refine B3.out.mono ?_
  rintro e w' ⟨rfl, rfl⟩
  go_wp2_with fail
  refine B4.out.mono ?_
  rintro e w' ⟨rfl, rfl⟩
  go_wp2_with (first | (go_at_call 83; refine (tc.out _ _ _).mono ?_; rintro e w' ⟨rfl, rfl⟩) | fail)
  go_ret
  exact ⟨rfl, bb.out⟩
end
end Go.Proofs.YtfjiphibalhcgaaGreat.Que
/-
  The walk of header.
-/
namespace Go.Proofs.YtfjiphibalhcgaaGreat.Que
open Go.RowKit Base Arena Cls Itm
set_option linter.unusedVariables false
set_option linter.unusedSectionVars false

theorem QI.head_ {c : Conf} {s : St} {Z : Nat → Option Zd} {F : QN} {Ls : Nat → Nat → List Nat} (q : QI c s Z F Ls) (ok : c.cf.Ok) (g : Cls.Good c.cf s) {H : Nat} (hi : isN c s Z H = true) :
    ∃ z i x p, Z H = some z ∧ findN c.cf s H = some (i, x, p) ∧ z.st = stateN c s Z Ls H ∧ z.a = prevN c s Ls H ∧ z.b = nextN c s Ls H := by
  have hi2 := hi
  unfold isN at hi2
  obtain ⟨⟨i, x, p⟩, hf⟩ := Option.isSome_iff_exists.1 (Bool.and_eq_true_iff.1 hi2).1
  obtain ⟨z, hz⟩ := Option.isSome_iff_exists.1 (Bool.and_eq_true_iff.1 hi2).2
  refine ⟨z, i, x, p, hz, hf, ?_⟩
  by_cases h0 : stK (clsN c s H) Ls H = 0
  · have hz4 : z = ⟨4, 0, 0⟩ := q.out H z ⟨i, x, p, hf⟩ hz (q.not_stK h0)
    subst hz4
    unfold stateN prevN nextN
    rw [if_pos h0, if_pos h0, if_pos h0, if_pos hi]
    exact ⟨rfl, rfl, rfl⟩
  · obtain ⟨z', hz', -, h1, h2, h3⟩ := q.links ok g h0
    rw [hz] at hz'
    injection hz' with hz'
    subst hz'
    refine ⟨?_, h2, h3⟩
    unfold stateN
    rw [if_neg h0]
    exact h1
section
variable {N : Nat} {w : World} {W : W6} {s : St} {bs : List UInt8} {Z : Nat → Option Zd} {Ls : Nat → Nat → List Nat} {r : RS} {laid told : List Nat} {t : Nat} (h : WI N w W s bs Z Ls r laid told t) (ht : t ≤ 60000)
include h ht
set_option maxRecDepth 100000 in
set_option maxHeartbeats 1600000 in
theorem headerC (H : Nat) (hH : H < 18446744073709551616) : Calls Tryz.prog 49 #[.pointer (some ⟨W.b, 0, none⟩), .int .u64 (H : Int)] w fun e w' => e = .returned (.bool true) ∧ Below w.heap.size w w' := by
  have IC := is6C (h.d6 ht) H
  obtain ⟨y0, y1, y2, y3, y4⟩ := h.wat.cW
  have n0 := fun w => numC6 w 0
  by_cases hi : isN qc s Z H = false
  · rw [hi] at IC
    replace IC := Lib.hid IC
    clear h hi y0 y1 y2 y4
    go_enter Tryz.func49, Tryz.ntmps49
    go_wp2_with fail
    refine IC.out.mono ?_
    rintro e w' ⟨rfl, m, hw⟩
    replace hw := Lib.hid hw
    go_wp2
    go_ret
    exact ⟨rfl, by rw [← hw.out]; exact below_drewN (Below.refl _ _) m⟩
  · have hi : isN qc s Z H = true := by simpa using hi
    rw [hi] at IC
    have hq := h.wat.q
    obtain ⟨F, S, q⟩ := hq
    obtain ⟨z, i, x, p, hz, hf, e1, e2, e3⟩ := q.head_ S.okc S.zs.good hi
    have C1 := fun w1 (b : Below w.heap.size w w1) => zStateYes (S.below b).zs (H := H) hH hf
    have C2 := fun w1 (b : Below w.heap.size w w1) => (zLinksC (S.below b) H ⟨⟨i, x, p, hf⟩, z, hz⟩ z hz).1
    have C3 := fun w1 (b : Below w.heap.size w w1) => (zLinksC (S.below b) H ⟨⟨i, x, p, hf⟩, z, hz⟩ z hz).2
    have A3 := fun w1 (b : Below w.heap.size w w1) => ahead6C ((h.below b).d6 ht) H
    have A4 := fun w1 (b : Below w.heap.size w w1) => behind6C ((h.below b).d6 ht) H
    have SC := fun w1 (b : Below w.heap.size w w1) => state6C ((h.below b).d6 ht) H
    have cW := fun w1 (b : Below w.heap.size w w1) => (h.below b).wat.cW
    have ez : zst (Z H) = stateN qc s Z Ls H := by rw [hz]; exact e1
    rw [ez] at C1
    rw [e2] at C2
    rw [e3] at C3
    generalize prevN qc s Ls H = pv at *
    generalize nextN qc s Ls H = nx at *
    generalize stateN qc s Z Ls H = st at *
    generalize decide (pv ≠ 0) = pb at *
    generalize decide (nx ≠ 0) = nb at *
    replace IC := Lib.hid IC
    replace C1 := Lib.hid C1
    replace C2 := Lib.hid C2
    replace C3 := Lib.hid C3
    replace A3 := Lib.hid A3
    replace A4 := Lib.hid A4
    replace SC := Lib.hid SC
    replace cW := Lib.hid cW
    clear h hi q S hz hf e1 e2 e3 ez y0 y1 y2 y4
    go_enter Tryz.func49, Tryz.ntmps49
    go_wp2_with fail
    refine IC.out.mono ?_
    rintro e w1 ⟨rfl, m, hw⟩
    have b1 : Below w.heap.size w w1 := by rw [← hw]; exact below_drewN (Below.refl _ _) m
    obtain ⟨y0, -, -, -, -⟩ := cW.out w1 b1
    have D := Lib.hid (C1.out w1 b1)
    replace b1 := Lib.hid b1
    replace hw := Lib.hid hw
    clear IC C1 y3
    go_wp2_with fail
    refine D.out.mono ?_
    rintro e w2 ⟨rfl, b2⟩
    have bb := b1.out.trans (b2.mono b1.out.size)
    obtain ⟨y0, -, -, -, -⟩ := cW.out w2 bb
    have D2 := Lib.hid (C2.out w2 bb)
    replace bb := Lib.hid bb
    clear D C2 b1 b2
    go_wp2_with fail
    refine D2.out.mono ?_
    rintro e w3 ⟨rfl, b3⟩
    have bc := bb.out.trans (b3.mono bb.out.size)
    obtain ⟨y0, -, -, -, -⟩ := cW.out w3 bc
    have D3 := Lib.hid (C3.out w3 bc)
    replace bc := Lib.hid bc
    clear D2 C3 bb b3
    go_wp2_with fail
    refine D3.out.mono ?_
    rintro e w4 ⟨rfl, b4⟩
    have bd := bc.out.trans (b4.mono bc.out.size)
    obtain ⟨-, -, -, y3, -⟩ := cW.out w4 bd
    have D4 := Lib.hid (A3.out w4 bd)
    have D5 := Lib.hid (A4.out w4 bd)
    have D6 := Lib.hid (SC.out w4 bd)
    replace bd := Lib.hid bd
    clear D3 A3 A4 SC bc b4
    go_wp2_with fail
    refine D4.out.mono ?_
    rintro e w' ⟨rfl, rfl⟩
    go_wp2_with fail
    refine D5.out.mono ?_
    rintro e w' ⟨rfl, rfl⟩
    go_wp2_with (first | (go_at_call 14; refine (n0 _).mono ?_; rintro e w' ⟨rfl, rfl⟩) | (go_at_call 94; refine D6.out.mono ?_; rintro e w5 ⟨rfl, m5, hw5⟩; replace hw5 := Lib.hid hw5) | fail)
    go_ret
    exact ⟨rfl, bd.out.trans (by rw [← hw5.out]; exact below_drewN ((Below.refl _ _).mono bd.out.size) m5)⟩
end
end Go.Proofs.YtfjiphibalhcgaaGreat.Que
/-
  What the walk of moves keeps.
-/
namespace Go.Proofs.YtfjiphibalhcgaaGreat.Que
open Go.RowKit Base Arena Cls Itm
set_option linter.unusedVariables false
set_option linter.unusedSectionVars false

/-- The lists went on, and nothing else. -/
def GoesM (N : Nat) (w w' : World) (W : W6) (s : St) (bs : List UInt8) (Z : Nat → Option Zd) (r : RS) (laid told : List Nat) (t : Nat) : Prop := ∃ bs' Z' R' Ls', R'.b = W.R.b ∧ R'.gL = W.R.gL ∧ Grew qc w w' W { W with R := R' } s s ∧ Ed (Itp qc s Z) bs bs' ∧ (∀ H, (Z' H).isSome = (Z H).isSome) ∧
  WI N w' { W with R := R' } s bs' Z' Ls' r laid told t
theorem GoesM.goes {N : Nat} {w w' : World} {W : W6} {s : St} {bs : List UInt8} {Z : Nat → Option Zd} {r : RS} {laid told : List Nat} {t : Nat} (h : GoesM N w w' W s bs Z r laid told t) : Goes N w w' W s t := by
  obtain ⟨bs', Z', R', Ls', -, -, G, -, -, T⟩ := h
  exact ⟨{ W with R := R' }, s, bs', Z', Ls', r, laid, told, rfl, G, T⟩
section
variable {N N0 : Nat} {w0 w : World} {W0 : W6} {s0 : St} {W : W6} {s : St} {bs : List UInt8} {Z : Nat → Option Zd} {Ls Ld : Nat → Nat → List Nat} {r : RS} {laid told : List Nat} {o : Op6} (h : Took6 N N0 w0 w W0 s0 W s bs Z Ls Ld r laid told o)
include h
theorem Took6.turn {w' : World} {bs' : List UInt8} {Z' : Nat → Option Zd} {Ls' : Nat → Nat → List Nat} (oz : Only (Two W.L W.gl) w w') (Q : QW w' W.L qc s bs' Z' W.gq W.gl Ls') : Took6 N N0 w0 w' W0 s0 W s bs' Z' Ls' Ld r laid told o := by
  refine ⟨h.wat.turn oz Q, (oz.block _ h.op.lt (fun e => ?_)).trans h.op, h.far, h.below.trans (oz.toBelow (B := N) fun k hk => ⟨by have := h.wat.hN0; omega, fun e => ?_⟩), h.grew.trans (grew_turn oz)⟩
  · rcases e with e | e
    · exact h.far .set (by rw [e]; exact ⟨.bytes, rfl⟩)
    · exact h.far .queue (.inr e)
  · rcases e with e | e
    · have := h.wat.base .set k (by rw [e]; exact ⟨.bytes, rfl⟩); omega
    · have := h.wat.base .queue k (.inr e); omega
theorem Took6.docL {w' : World} {laid' : List Nat} {Ld' : Nat → Nat → List Nat} {R' : R6} (D : R6At w' R' W.M.b (3 * qc.nc) laid' (rows6 Ld')) (eb : R'.b = W.R.b) (We : Went6 w w' W.R R' (3 * qc.nc)) :
    Took6 N N0 w0 w' W0 s0 { W with R := R' } s bs Z Ls Ld' r laid' told o := by
  refine ⟨h.wat.doc_ D eb We, (We.only.block _ h.op.lt (h.far .doc)).trans h.op, fun i hi => ?_, h.below.trans (We.only.toBelow (B := N) fun k hk => ⟨by have := h.wat.hN0; omega, fun e => by have := h.wat.base .doc k e; omega⟩), h.grew.trans (grew_doc We)⟩
  cases i with
  | set => exact h.far .set hi
  | ref => exact h.far .ref hi
  | queue => exact h.far .queue hi
  | doc =>
    rcases We.foot _ hi with h1 | h1
    · exact h.far .doc h1
    · have := h.op.lt; omega
  | own => exact h.far .own hi
theorem Took6.mv : w.cell? ⟨W.b, 1, none⟩ = some (.pointer (some ⟨W.gq, 0, none⟩)) ∧ w.cell? ⟨W.b, 3, none⟩ = some (.pointer (some ⟨W.R.b, 0, none⟩)) ∧ w.cell? ⟨N0, 2, none⟩ = some (.int .i64 o.b) := by
  obtain ⟨-, y1, -, y3, -⟩ := h.wat.cW
  exact ⟨y1, y3, h.op.cell 2⟩
end
theorem D6.at_ {w v : World} {R : R6} {M : RL} {c : Conf} {s : St} {Z : Nat → Option Zd} {Ls : Nat → Nat → List Nat} {r : RS} {laid : List Nat} (h : D6 w R M c s Z Ls r laid) (d : R6At v R M.b (3 * c.nc) laid (rows6 Ls)) (rf : RSetAt v M c r) : D6 v R M c s Z Ls r laid :=
  ⟨d, rf, h.rel, h.ok, h.good, h.q, h.agr, h.ch, h.la, h.sep⟩
end Go.Proofs.YtfjiphibalhcgaaGreat.Que
/-
  The queue where a chunk that stands in no list is given back.
-/
namespace Go.Proofs.YtfjiphibalhcgaaGreat.Que
open Go.RowKit Base Arena Cls Itm
set_option linter.unusedVariables false
set_option linter.unusedSectionVars false

/-- Where a chain's links lead. -/
theorem chain_links {Z : Nat → Option Zd} {k : Nat} : ∀ {l : List Nat} {p n h : Nat}, Chain Z k p l n → h ∈ l → ∃ z, Z h = some z ∧ (z.a = p ∨ z.a ∈ l) ∧ (z.b = n ∨ z.b ∈ l)
  | [], _, _, _, _, hm => by cases hm
  | x :: t, p, n, h, hc, hm => by
    by_cases e : h = x
    · subst e
      refine ⟨_, hc.1, .inl rfl, ?_⟩
      cases t with
      | nil => exact .inl rfl
      | cons a t => exact .inr (List.mem_cons_of_mem _ (List.mem_cons_self ..))
    · have hm' : h ∈ t := (List.mem_cons.1 hm).resolve_left e
      obtain ⟨z, hz, ha, hb⟩ := chain_links hc.2 hm'
      refine ⟨z, hz, .inr ?_, hb.imp id fun e => List.mem_cons_of_mem _ e⟩
      rcases ha with ha | ha
      · rw [ha]; exact List.mem_cons_self ..
      · exact List.mem_cons_of_mem _ ha
section
variable {d : Cf} (ok : d.Ok) {s : St} (g : Cls.Good d s) {H i x p : Nat} (hf : findN d s H = some (i, x, p))
include ok g hf
theorem gave_good : Cls.Good d (giveS d s i x) := by
  obtain ⟨a1, a2, a3, a4, -⟩ := findN_some g hf
  exact g.give ok a1 a2 a3 a4
theorem gave_find :
    (∀ H' i' x' q, findN d s H' = some (i', x', q) → H' ≠ H → findN d (giveS d s i x) H' = some (i', x', q) ∧ (giveS d s i x).cls i' = s.cls i') ∧
    (∀ H' i' x' q, findN d (giveS d s i x) H' = some (i', x', q) → H' ≠ H ∧ findN d s H' = some (i', x', q)) := by
  obtain ⟨t, e⟩ := Tkn.of ok g hf
  have g' := gave_good ok g hf
  have A : ∀ H' i' x' q, findN d s H' = some (i', x', q) → H' ≠ H → findN d (giveS d s i x) H' = some (i', x', q) ∧ (giveS d s i x).cls i' = s.cls i' := by
    intro H' i' x' q hf' hne
    obtain ⟨t', e'⟩ := Tkn.of ok g hf'
    have hn : ¬ (i' = i ∧ x' = x) := by
      rintro ⟨rfl, rfl⟩
      have h1 := t.pE
      have h2 := t'.pE
      have h3 := t.ge
      have h4 := t'.ge
      apply hne
      rw [e, e', ← h3, ← h4, h1, h2]
    have T : Tkn d (giveS d s i x) i' x' q (s.cls i') (H' / 4294967296) := by
      refine ⟨t'.iN, t'.ow, rfl, t'.kN, t'.xN, ?_, ?_, t'.pE⟩
      · simp only [giveS]
        rw [upd2_ne _ _ hn]; exact t'.tk
      · simp only [giveS]
        rw [upd2_ne _ _ hn]; exact t'.ge
    exact ⟨by have := T.find ok; rwa [← e'] at this, rfl⟩
  refine ⟨A, fun H' i' x' q hf' => ?_⟩
  obtain ⟨t', e'⟩ := Tkn.of ok g' hf'
  have hn : ¬ (i' = i ∧ x' = x) := by
    rintro ⟨rfl, rfl⟩
    have := t'.tk
    simp only [giveS] at this
    rw [upd2_at] at this
    cases this
  have T : Tkn d s i' x' q ((giveS d s i x).cls i') (H' / 4294967296) := by
    have h1 := t'.tk
    have h2 := t'.ge
    simp only [giveS] at h1 h2
    rw [upd2_ne _ _ hn] at h1 h2
    exact ⟨t'.iN, t'.ow, rfl, t'.kN, t'.xN, h1, h2, t'.pE⟩
  have hf2 : findN d s H' = some (i', x', q) := by have := T.find ok; rwa [← e'] at this
  refine ⟨fun e0 => ?_, hf2⟩
  rw [e0, hf] at hf2
  simp only [Option.some.injEq, Prod.mk.injEq] at hf2
  exact hn ⟨hf2.1.symm, hf2.2.1.symm⟩
end
section
variable {c : Conf} (ok : c.cf.Ok) {s : St} (g : Cls.Good c.cf s) {H i x p : Nat} (hf : findN c.cf s H = some (i, x, p)) {Z : Nat → Option Zd} {F : QN} {Ls : Nat → Nat → List Nat} (q : QI c s Z F Ls) (hn : ∀ x k, x < c.nc → k < 3 → H ∉ Ls x k)
include ok g hf q hn
theorem QI.farL {H' : Nat} {z : Zd} (hf' : ∃ i x p, findN c.cf s H' = some (i, x, p)) (hz : Z H' = some z) : z.a ≠ H ∧ z.b ≠ H := by
  have h0 := good_ne hf
  by_cases hm : ∃ y k, y < c.nc ∧ k < 3 ∧ H' ∈ Ls y k
  · obtain ⟨y, k, hy, hk, hm⟩ := hm
    obtain ⟨z', hz', ha, hb⟩ := chain_links (q.ch y k hy hk) hm
    rw [hz] at hz'
    cases hz'
    refine ⟨fun e => ?_, fun e => ?_⟩
    · rcases ha with ha | ha
      · omega
      · exact hn y k hy hk (e ▸ ha)
    · rcases hb with hb | hb
      · omega
      · exact hn y k hy hk (e ▸ hb)
  · have e := q.out H' z hf' hz fun y k hy hk hm' => hm ⟨y, k, hy, hk, hm'⟩
    subst e
    exact ⟨fun e => h0 e.symm, fun e => h0 e.symm⟩
theorem Lk.give {bs : List UInt8} (h : Lk c s bs Z) : Lk c (giveS c.cf s i x) bs Z := by
  obtain ⟨A, B⟩ := gave_find ok g hf
  refine ⟨fun H' i' x' p' hH hf' => h.at_ H' i' x' p' hH (B _ _ _ _ hf').2, h.st, fun H' z hf' hz => ?_⟩
  obtain ⟨i', x', p', hf'⟩ := hf'
  obtain ⟨hne, hf2⟩ := B _ _ _ _ hf'
  obtain ⟨n1, n2⟩ := QI.farL ok g hf q hn ⟨_, _, _, hf2⟩ hz
  have key : ∀ T, T ≠ H → GoodL c.cf s T → GoodL c.cf (giveS c.cf s i x) T := fun T hT hg => by
    rcases hg with hg | ⟨h1, a, b, e, h2⟩
    · exact .inl hg
    · exact .inr ⟨h1, a, b, e, (A T a b e h2 hT).1⟩
  obtain ⟨k1, k2⟩ := h.lk H' z ⟨_, _, _, hf2⟩ hz
  exact ⟨key _ n1 k1, key _ n2 k2⟩
theorem QI.give : QI c (giveS c.cf s i x) Z F Ls := by
  obtain ⟨A, B⟩ := gave_find ok g hf
  refine ⟨q.ch, q.hd, q.tl, q.n, fun y k h hy hk hm => ?_, q.nd, q.dj, fun H' z hf' hz hn' => ?_⟩
  · obtain ⟨a, b, e, h1, h2⟩ := q.it y k h hy hk hm
    have hne : h ≠ H := fun e => hn y k hy hk (e ▸ hm)
    obtain ⟨h3, h4⟩ := A h a b e h1 hne
    exact ⟨a, b, e, h3, h4.trans h2⟩
  · obtain ⟨a, b, e, h1⟩ := hf'
    exact q.out H' z ⟨a, b, e, (B _ _ _ _ h1).2⟩ hz hn'
end
theorem QW.give {c : Conf} {s : St} {w w' : World} {L L' : Lay} {bs : List UInt8} {Z : Nat → Option Zd} {gq gl : Nat} {Ls : Nat → Nat → List Nat} (ok : c.cf.Ok) (g : Cls.Good c.cf s) {H i x p : Nat} (hf : findN c.cf s H = some (i, x, p)) (hn : ∀ x k, x < c.nc → k < 3 → H ∉ Ls x k)
    (h : QW w L c s bs Z gq gl Ls) (eg : L'.g = L.g) (M : SetAt w' L' c (giveS c.cf s i x) bs) (W : Went w w' L L' c s (giveS c.cf s i x)) : QW w' L' c (giveS c.cf s i x) bs Z gq gl Ls := by
  obtain ⟨F, S, q⟩ := h
  have Q1 := (S.q.only W.only S.fq S.fl).head
  have Q2 := (S.q.only W.only S.fq S.fl).grid
  rw [← eg] at Q1
  refine ⟨F, ⟨⟨M, gave_good ok g hf, Lk.give ok g hf q hn S.zs.lk⟩, ⟨Q1, Q2⟩, fun hf => ?_, fun hf => ?_⟩, QI.give ok g hf q hn⟩
  · rcases W.foot gq hf with h1 | h1
    · exact S.fq h1
    · have := S.q.ltq; omega
  · rcases W.foot gl hf with h1 | h1
    · exact S.fl h1
    · have := S.q.ltl; omega
section
variable {N : Nat} {w : World} {W : W6} {c : Conf} {s : St} {bs : List UInt8} {Z : Nat → Option Zd} {Ls Ld : Nat → Nat → List Nat} {r : RS} {laid told : List Nat} (h : WAt N w W c s bs Z Ls Ld r laid told)
include h
theorem WAt.give {w' : World} {L' : Lay} {H i x p : Nat} (hf : findN c.cf s H = some (i, x, p)) (hn : ∀ x k, x < c.nc → k < 3 → H ∉ Ls x k) (eg : L'.g = W.L.g) (M : SetAt w' L' c (giveS c.cf s i x) bs) (We : Went w w' W.L L' c s (giveS c.cf s i x)) :
    WAt N w' { W with L := L' } c (giveS c.cf s i x) bs Z Ls Ld r laid told := by
  have ns : ∀ i b, i ≠ .set → W.foot c s i b → ¬ Foot W.L c s b := fun i b hi hb hf => hi (h.sep i .set b hb hf)
  have sp := h.sepOf (W' := { W with L := L' }) (s' := giveS c.cf s i x) .set (fun i b hb => by
    cases i with
    | set => exact .inl ⟨rfl, We.foot b hb⟩
    | _ => exact .inr ⟨by simp, hb⟩) h.hN0
  have O : Blk w' W.b 47 W.cells := (We.only.block _ h.own.lt (ns .own _ (by simp) (.inl rfl))).trans h.own
  refine ⟨h.q.give h.okc h.good hf hn eg M We, h.ref.only We.only fun b hb => ns .ref b (by simp) hb, h.doc.only We.only fun b hb => ns .doc b (by simp) hb, ?_, own_keptN h.told fun b e => We.only.block b (own_blockN h.told e) (ns .own b (by simp) (.inr e)), sp.1, h.tb, sp.2⟩
  have e : W6.cells { W with L := L' } = W.cells := by unfold W6.cells; rw [eg]
  rw [e]
  exact O
end
end Go.Proofs.YtfjiphibalhcgaaGreat.Que
/-
  The document's queue: Give.
-/
namespace Go.Proofs.YtfjiphibalhcgaaGreat.Que
open Go.RowKit Base Arena Cls Itm
set_option linter.unusedVariables false
set_option linter.unusedSectionVars false

theorem R6At.setLaid {w w6 : World} {R : R6} {mb n : Nat} {laid : List Nat} {lists : Nat → List Nat} (h : R6At w R mb n laid lists) {v' : Value} {laid' : List Nat} (o : Only (fun b => R.vL.ownBlock = some b) w w6)
    (own6 : w6.ownsRow 0 26 1 v' laid'.length (laid'.map uv)) (hat : ∀ b, v'.ownBlock = some b → R.vL.ownBlock = some b ∨ w.heap.size ≤ b) :
    R6At (w6.setCell ⟨R.b, 1, none⟩ v') { R with vL := v' } mb n laid' lists ∧ Went6 w (w6.setCell ⟨R.b, 1, none⟩ v') R { R with vL := v' } n := by
  have nb : ∀ p b, p ≠ .laid → R.blk n p = some b → ¬ (R.vL.ownBlock = some b) := fun p b hp hb e => hp (h.inj p .laid b hb e)
  have hv : ∀ p b, p ≠ .laid → R.blk n p = some b → ¬ (v'.ownBlock = some b) := fun p b hp hb e => by
    rcases hat b e with h1 | h1
    · exact nb p b hp hb h1
    · have := h.lt ⟨p, hb⟩; omega
  have B6 : Blk w6 R.b 97 (r6v mb R n) := (o.block _ h.head.lt (nb .head _ (by decide) rfl)).trans h.head
  have o2 := only_cell1 (S := (· = R.b)) w6 R.b 1 v' rfl
  have far : ∀ b, b < w6.heap.size → b ≠ R.b → (w6.setCell ⟨R.b, 1, none⟩ v').heap[b]? = w6.heap[b]? := fun b hb hne => o2.block b hb hne
  have ne : ∀ p b, p ≠ .head → R.blk n p = some b → b ≠ R.b := fun p b hp hb e => hp (h.inj p .head b hb (by rw [e]; rfl))
  have kp : ∀ p b, p ≠ .head → p ≠ .laid → R.blk n p = some b → (w6.setCell ⟨R.b, 1, none⟩ v').heap[b]? = w.heap[b]? := fun p b h1 h2 hb =>
    (far b (Nat.lt_of_lt_of_le (h.lt ⟨p, hb⟩) o.size) (ne p b h1 hb)).trans (o.block b (h.lt ⟨p, hb⟩) (nb p b h2 hb))
  have hbl : ∀ p, p ≠ .laid → R6.blk { R with vL := v' } n p = R.blk n p := fun p hp => by
    cases p with
    | laid => exact absurd rfl hp
    | _ => rfl
  refine ⟨⟨fun p => ?_, fun p q b hp hq => ?_⟩, ?_, fun b ⟨p, hp⟩ => ?_, rfl⟩
  · cases p with
    | head => exact B6.set_ 1 v'
    | laid =>
      show World.ownsRow _ 0 _ 1 v' laid'.length (laid'.map uv)
      exact own_keptN own6 fun b e => far b (own_blockN own6 e) fun e2 => hv .head b (by decide) (by rw [e2]; rfl) e
    | grid => exact h.grid.kept (kp .grid _ (by decide) (by decide) rfl)
    | row k => exact fun hk => own_keptN (h.row hk) fun b e => kp (.row k) b (by simp) (by simp) (by rw [R6.blk, if_pos hk]; exact e)
  · by_cases p0 : p = .laid
    · subst p0
      by_cases q0 : q = .laid
      · exact q0.symm
      · rw [hbl q q0] at hq
        exact absurd hp (hv q b q0 hq)
    · rw [hbl p p0] at hp
      by_cases q0 : q = .laid
      · subst q0
        exact absurd hq (hv p b p0 hp)
      · rw [hbl q q0] at hq
        exact h.inj p q b hp hq
  · refine (o.mono fun b _ e => ⟨.laid, e⟩).trans (only_cell1 (S := F6 R n) w6 R.b 1 v' ⟨.head, rfl⟩) fun _ _ h => h
  · by_cases p0 : p = .laid
    · subst p0
      exact (hat b hp).imp (fun e => ⟨.laid, e⟩) id
    · rw [hbl p p0] at hp
      exact .inl ⟨p, hp⟩
theorem erase_idx (H : Nat) : ∀ l : List Nat, H ∈ l → l.eraseIdx (l.idxOf H) = l.erase H
  | [], h => by cases h
  | a :: t, h => by
    by_cases e : a = H
    · subst e; simp
    · have hm : H ∈ t := (List.mem_cons.1 h).resolve_left (fun e2 => e e2.symm)
      have e1 : (a :: t).idxOf H = t.idxOf H + 1 := by rw [List.idxOf_cons, show (a == H) = false by simpa using e]; rfl
      rw [e1, List.eraseIdx_cons_succ, erase_idx H t hm, List.erase_cons_tail (by simp [e])]
/-- A class's free places and one that is taken. -/
theorem free_short1 {d : Cf} {s : St} (g : Cls.Good d s) (ok : d.Ok) {H i x p : Nat} (hf : findN d s H = some (i, x, p)) : (s.free (s.cls i)).length + 1 ≤ 1073741824 := by
  obtain ⟨a1, a2, a3, a4, a5, a6, a7⟩ := findN_some g hf
  have hk := g.cls i a1 a2
  have hn : p ∉ s.free (s.cls i) := by
    intro hm
    rw [a6] at hm
    obtain ⟨j, y, b1, b2, b3, b4, b5, b6, b7⟩ := (g.free _ hk _).1 hm
    obtain ⟨rfl, rfl⟩ := place_inj ok hk a3 b5 b7
    rw [a4] at b6; cases b6
  have := nodup_le 1073741824 (p :: s.free (s.cls i)) (List.nodup_cons.2 ⟨hn, g.nodup _ hk⟩) fun q hq => by
    rcases List.mem_cons.1 hq with rfl | hq
    · obtain ⟨t, e⟩ := Tkn.of ok g hf
      exact (t.hlt ok g).2.2.2.2
    · obtain ⟨i', x', h1, -, -, -, h5, -, rfl, -⟩ := g.last ok hk hq
      obtain ⟨-, -, -, h6, -⟩ := place_of ok (i := i') hk h5
      have h7 := ok.psb
      have h8 := ok.npb
      have h9 : (i' + 1) * d.ps ≤ 1024 * 1048576 := Nat.mul_le_mul (by omega) h7
      rw [Nat.succ_mul] at h9
      have := (ok.sz _ hk).1
      omega
  simpa using this
section
variable {w : World} {R : R6} {M : RL} {c : Conf} {s : St} {Z : Nat → Option Zd} {Ls : Nat → Nat → List Nat} {r : RS} {laid : List Nat} (h : D6 w R M c s Z Ls r laid) (H : Nat) (hH : H < 18446744073709551616)
include h hH
set_option maxRecDepth 100000 in
theorem give6No (hf : findN c.cf s H = none) : Calls Tryz.prog 93 #[.pointer (some ⟨R.b, 0, none⟩), .int .u64 (H : Int)] w fun e w' => e = .returned (.int .i64 20) ∧ ∃ m, w.drewN m = w' := by
  have GC := Lib.hid (rgiveNo w M c r h.ref h.fine h.ch H (h.rel.find_none h.ok h.good hf))
  have cc : ∀ m, (w.drewN m).cell? ⟨R.b, 0, none⟩ = some (.pointer (some ⟨M.b, 0, none⟩)) := fun m => h.doc.c0
  have c0 := h.doc.c0
  obtain ⟨A, cp, hv⟩ := own_is h.doc.laidR
  have cl : ∀ m, (w.drewN m).cell? ⟨R.b, 1, none⟩ = some (.slice A laid.length cp) := fun m => by
    have := (h.draw m).doc.c1
    rw [hv] at this
    exact this
  have AC : ∀ m, _ := fun m => atC6 (w.drewN m) 0 cp A laid (by have := (h.draw m).doc.laidR; rw [hv] at this; exact this) h.la H
  generalize atN laid H = q at *
  replace AC := Lib.hid AC
  replace cl := Lib.hid cl
  clear h hv hf cc
  go_enter Tryz.func93, Tryz.ntmps93
  go_wp2_with fail
  refine GC.out.mono ?_
  rintro e w1 ⟨rfl, m, hw1⟩
  have c1 := cl.out m
  have A1 := AC.out m
  rw [hw1] at c1 A1
  replace A1 := Lib.hid A1
  replace hw1 := Lib.hid hw1
  go_wp2_with fail
  refine A1.out.mono ?_
  rintro e w2 ⟨rfl, rfl⟩
  go_wp2
  go_ret
  exact ⟨rfl, _, hw1.out⟩
set_option maxRecDepth 100000 in
set_option maxHeartbeats 1600000 in
theorem give6Yes {i x p : Nat} (hf : findN c.cf s H = some (i, x, p)) : Calls Tryz.prog 93 #[.pointer (some ⟨R.b, 0, none⟩), .int .u64 (H : Int)] w fun e w' => e = .returned (.int .i64 0) ∧
    ∃ w1 M' R' r', RSetAt w1 M' c r' ∧ RWent w w1 M M' c ∧ Rel c.cf (giveS c.cf s i x) r' ∧ r'.ch.length = r.ch.length ∧ R'.b = R.b ∧ Went6 w1 w' R R' (3 * c.nc) ∧ R6At w' R' M.b (3 * c.nc) (laid.erase H) (rows6 Ls) := by
  obtain ⟨j, f1, f2, -, f4⟩ := h.rel.give h.ok h.good hf
  obtain ⟨a1, a2, a3, a4, a5, a6, a7⟩ := findN_some h.good hf
  have hk := h.good.cls i a1 a2
  have hrow : (r.rows (s.cls i)).length = (s.free (s.cls i)).length := by
    have := congrArg List.length (h.rel.row (s.cls i) hk)
    rwa [List.length_map, List.length_map] at this
  have hsh : (s.free (s.cls i)).length + 1 ≤ 1073741824 := free_short1 h.good h.ok hf
  have GC := Lib.hid (rgiveYes w M c r h.ref h.fine h.ch H j f1 _ f2 hk (h.rel.pl j _ f2) (h.good.gen i x) (by simp only; omega))
  have hlen : (rgive c.cf r j (s.cls i) p).ch.length = r.ch.length := by unfold rgive; simp only [List.length_modify]
  simp only at GC
  generalize rgive c.cf r j (s.cls i) p = r1 at *
  have c0 := h.doc.c0
  have D1 : ∀ w1 M', RWent w w1 M M' c → R6At w1 R M.b (3 * c.nc) laid (rows6 Ls) := fun w1 M' We => h.doc.only We.only fun b hb hr => h.sep b hr hb
  have hla := h.la
  obtain ⟨l', hl'⟩ : ∃ l', l' = laid.erase H := ⟨_, rfl⟩
  rw [← hl']
  obtain ⟨A, cp, hv⟩ := own_is h.doc.laidR
  replace D1 := Lib.hid D1
  clear hf f1 f2 a1 a2 a3 a4 a5 a6 a7 hk hrow hsh h
  generalize rows6 Ls = lists at *
  generalize 3 * c.nc = n at *
  generalize giveS c.cf s i x = s1 at *
  replace f4 := Lib.hid f4
  replace hlen := Lib.hid hlen
  go_enter Tryz.func93, Tryz.ntmps93
  go_wp2_with fail
  refine GC.out.mono ?_
  rintro e w1 ⟨rfl, M', hM, We⟩
  have D := D1.out w1 M' We
  have c1 := D.c1
  have own := D.laidR
  rw [hv] at c1 own
  have AC := atC6 w1 0 cp A laid own hla H
  have fin : ∀ w2 V, Below w1.heap.size w1 w2 → w2.ownsRow w1.heap.size 26 1 V l'.length (l'.map uv) → R6At (w2.setCell ⟨R.b, 1, none⟩ V) { R with vL := V } M.b n l' lists ∧ Went6 w1 (w2.setCell ⟨R.b, 1, none⟩ V) R { R with vL := V } n :=
    fun w2 V b o => D.setLaid (Only.of_below b (Nat.le_refl _) _) (own_more0 o) fun d e => .inr (own_base o e)
  have hd := D.head
  have hlt := D.lt ⟨.head, rfl⟩
  by_cases hm : H ∈ laid
  · unfold atN at AC
    rw [if_pos hm] at AC
    have WC := withoutC w1 0 cp A laid own hla (laid.idxOf H)
    rw [erase_idx H laid hm, ← hl'] at WC
    clear hl'
    generalize laid.idxOf H = ix at *
    have d1 : decide ((0 : Int) ≤ (ix : Int)) = true := decide_eq_true (by omega)
    replace AC := Lib.hid AC
    replace WC := Lib.hid WC
    replace fin := Lib.hid fin
    replace hM := Lib.hid hM
    replace We := Lib.hid We
    have hd' := Lib.hid hd
    clear D own hv c0 hd
    go_wp2_with fail
    refine AC.out.mono ?_
    rintro e w2 ⟨rfl, rfl⟩
    go_wp2_with fail
    refine WC.out.mono ?_
    rintro e w3 ⟨A', cp', rfl, b3, o3⟩
    have z : w3.frozen? ⟨R.b, 1, none⟩ = false := (show Blk w3 R.b 97 _ from (b3.block _ hlt).trans hd'.out).frozen 1
    have c3 : w3.cell? ⟨R.b, 1, none⟩ = some (.slice A laid.length cp) := (b3.cell (p := ⟨R.b, 1, none⟩) hlt).trans c1
    have F3 := Lib.hid (fin.out _ _ b3 o3)
    clear b3 o3
    go_wp2
    go_ret
    exact ⟨rfl, w1, M', { R with vL := .slice A' l'.length cp' }, r1, hM.out, We.out, f4.out, hlen.out, rfl, F3.out.2, F3.out.1⟩
  · unfold atN at AC
    rw [if_neg hm] at AC
    replace AC := Lib.hid AC
    have ee : l' = laid := hl'.trans (List.erase_of_not_mem hm)
    subst ee
    clear hl'
    replace D := Lib.hid D
    replace hM := Lib.hid hM
    replace We := Lib.hid We
    clear fin own hv c0 hd
    go_wp2_with fail
    refine AC.out.mono ?_
    rintro e w2 ⟨rfl, rfl⟩
    go_wp2
    go_ret
    exact ⟨rfl, w1, M', R, r1, hM.out, We.out, f4.out, hlen.out, rfl, ⟨Only.refl _ _, fun b h => .inl h, rfl⟩, D.out⟩
end
end Go.Proofs.YtfjiphibalhcgaaGreat.Que
/-
  The law's gives.
-/
namespace Go.Proofs.YtfjiphibalhcgaaGreat.Que
open Go.RowKit Base Arena Cls Itm
set_option linter.unusedVariables false
set_option linter.unusedSectionVars false
set_option linter.unusedSimpArgs false

/-- What the walk of gives keeps. -/
def Gv (W : W6) (w : World) : Prop := w.cell? ⟨W.b, 0, none⟩ = some (.pointer (some ⟨W.L.g, 0, none⟩)) ∧ w.cell? ⟨W.b, 3, none⟩ = some (.pointer (some ⟨W.R.b, 0, none⟩))
section
variable {N : Nat} {w : World} {W : W6} {s : St} {bs : List UInt8} {Z : Nat → Option Zd} {Ls : Nat → Nat → List Nat} {r : RS} {laid told : List Nat} {t : Nat} (h : WI N w W s bs Z Ls r laid told t) (ht : t ≤ 60000) {H : Nat} (hH : H < 18446744073709551616)
include h ht hH
theorem WI.gv : Gv W w := by
  obtain ⟨y0, -, -, y3, -⟩ := h.wat.cW
  exact ⟨y0, y3⟩
/-- The program's and the document's Give, one behind the other. -/
theorem giveBoth : ∃ n : Nat, ∀ w5, Below w.heap.size w w5 → Calls Tryz.prog 92 #[.pointer (some ⟨W.L.g, 0, none⟩), .int .u64 (H : Int)] w5 fun e v => e = .returned (.int .i64 (n : Int)) ∧ Gv W v ∧
    ((∀ x k, x < qc.nc → k < 3 → H ∉ Ls x k) → Calls Tryz.prog 93 #[.pointer (some ⟨W.R.b, 0, none⟩), .int .u64 (H : Int)] v fun e w' => e = .returned (.int .i64 (n : Int)) ∧ Gv W w' ∧ Goes N w w' W s t) := by
  cases hf : findN qc.cf s H with
  | none =>
    refine ⟨20, fun w5 b5 => ?_⟩
    have h5 := h.below b5
    refine (giveNo w5 W.L qc s bs h5.wat.set h5.wat.good H hH hf).mono ?_
    rintro e v ⟨e1, m, hv⟩
    have bv : Below w5.heap.size w5 v := by rw [← hv]; exact below_drewN (Below.refl _ _) m
    have hv := h5.below bv
    refine ⟨e1, hv.gv ht hH, fun _ => ?_⟩
    refine (give6No (hv.d6 ht) H hH hf).mono ?_
    rintro e w' ⟨e2, m', hw'⟩
    have bw : Below v.heap.size v w' := by rw [← hw']; exact below_drewN (Below.refl _ _) m'
    have hw := hv.below bw
    exact ⟨e2, hw.gv ht hH, h.stays (b5.trans ((bv.mono b5.size).trans (bw.mono (Nat.le_trans b5.size bv.size)))) (Nat.le_refl _)⟩
  | some y =>
    obtain ⟨i, x, p⟩ := y
    refine ⟨0, fun w5 b5 => ?_⟩
    have h5 := h.below b5
    refine (giveYes w5 W.L qc s bs h5.wat.set h5.wat.good H hH i x p hf).mono ?_
    rintro e v ⟨e1, L', eg, M, We⟩
    have wb : W.b < w5.heap.size := h5.wat.own.lt
    have nW : ∀ i b, i ≠ .set → W.foot qc s i b → ¬ Foot W.L qc s b := fun i b hi hb hf => hi (h5.wat.sep i .set b hb hf)
    have hblk : Blk v W.b 47 W.cells := (We.only.block _ wb (nW .own _ (by simp) (.inl rfl))).trans h5.wat.own
    have gv : Gv W v := ⟨hblk.cell 0, hblk.cell 3⟩
    refine ⟨e1, gv, fun hn => ?_⟩
    have T := h5.wat.give hf hn eg M We
    have G0 : Grew qc w v W { W with L := L' } s (giveS qc.cf s i x) := ((Grew.refl _ _ _ _).step b5).trans (grew_take We)
    have d6 := (h5.d6 ht).at_ T.doc T.ref
    refine (give6Yes d6 H hH hf).mono ?_
    rintro e w' ⟨e2, w1, M', R', r', RM, RWe, rel', hlen, eb, DWe, D⟩
    have T1 := T.rtake RM RWe
    have eM : M'.b = W.M.b := RWe.b
    have T2 := T1.doc_ (R' := R') (laid' := laid.erase H) (Ld' := Ls) (by show R6At w' R' M'.b _ _ _; rw [eM]; exact D) eb DWe
    obtain ⟨A, B⟩ := gave_find h.wat.okc h.wat.good hf
    have hlt := h.tlt
    have G1 := (G0.trans (grew_rtake RWe)).trans (grew_doc (W := { { W with L := L' } with M := M' }) DWe)
    obtain ⟨z0, -, -, z3, -⟩ := T2.cW
    refine ⟨e2, ⟨by rw [← eg]; exact z0, by rw [← eb]; exact z3⟩, { { { W with L := L' } with M := M' } with R := R' }, giveS qc.cf s i x, bs, Z, Ls, r', laid.erase H, told, rfl, G1, T2, rel', fun H' i' x' p' hf' => ?_, h.bs, by rw [hlen]; exact h.ch, Nat.le_trans (List.length_erase_le) h.la, h.tl, h.tlt, fun H' hm => ?_, h.ln.erase _, fun H' hm => h.lt H' (List.mem_of_mem_erase hm)⟩
    · obtain ⟨hne, hf2⟩ := B _ _ _ _ hf'
      rw [List.mem_erase_of_ne hne]
      exact h.agr H' i' x' p' hf2
    · have hm2 := (h.ln.mem_erase_iff).1 hm
      obtain ⟨a, b, c, hf2⟩ := h.lg H' hm2.2
      exact ⟨a, b, c, (A _ _ _ _ hf2 hm2.1).1⟩
end
end Go.Proofs.YtfjiphibalhcgaaGreat.Que
/-
  The law's gives: its walk.
-/
namespace Go.Proofs.YtfjiphibalhcgaaGreat.Que
open Go.RowKit Base Arena Cls Itm
set_option linter.unusedVariables false
set_option linter.unusedSectionVars false
set_option linter.unusedSimpArgs false

section
variable {N : Nat} {w : World} {W : W6} {s : St} {bs : List UInt8} {Z : Nat → Option Zd} {Ls : Nat → Nat → List Nat} {r : RS} {laid told : List Nat} {t : Nat} (h : WI N w W s bs Z Ls r laid told t) (ht : t ≤ 60000) (o : Op6) (ok : o.Ok)
include h ht ok
set_option maxRecDepth 100000 in
set_option maxHeartbeats 3200000 in
theorem givesLawC : Calls Tryz.prog 47 #[.pointer (some ⟨W.b, 0, none⟩), .agg o.cells] w fun e w' => e = .returned (.bool true) ∧ Goes N w w' W s t := by
  have hH := hdN_lt h.tlt ok
  obtain ⟨w1, hw1⟩ : ∃ w1, w1 = w.alloc (.cells o.cells 28) := ⟨_, rfl⟩
  have B1 : Blk w1 w.heap.size 28 o.cells := by rw [hw1]; exact Blk.new w _ _
  have b1 : Below w.heap.size w w1 := by rw [hw1]; exact (Below.refl _ _).alloc (Nat.le_refl _) _
  obtain ⟨x0, x1, x2, x3, x4, x5⟩ := op6_cells B1
  have HC := handleC (h.below b1) ht o ok
  obtain ⟨n, GB⟩ := giveBoth h ht hH
  have nR := fun w => numC6 w n
  have WC := fun w2 (b : Below w.heap.size w w2) => ((h.below b).d6 ht).whereC (hdN told o)
  have GV := fun w2 (b : Below w.heap.size w w2) => (h.below b).gv ht hH
  have GO := fun w2 (b : Below w.heap.size w w2) => h.stays b (Nat.le_refl _)
  have hin : stK (clsN qc s (hdN told o)) Ls (hdN told o) = 0 → ∀ x k, x < qc.nc → k < 3 → hdN told o ∉ Ls x k := fun e => by
    rcases (h.d6 ht).at6 (hdN told o) with ⟨-, e2⟩ | ⟨k, l1, l2, e2, -⟩
    · exact e2
    · omega
  generalize hdN told o = H at *
  generalize hst : stK (clsN qc s H) Ls H = sk at *
  generalize hcl : clsN qc s H = ck at *
  clear hst hcl
  unfold Op6.cells at hw1 HC ⊢
  replace HC := Lib.hid HC
  replace GB := Lib.hid GB
  replace nR := Lib.hid nR
  replace WC := Lib.hid WC
  replace GV := Lib.hid GV
  replace GO := Lib.hid GO
  replace hin := Lib.hid hin
  replace hw1 := Lib.hid hw1
  clear h ht ok hH B1
  generalize hN : w.heap.size = N0 at *
  replace hN := Lib.hid hN
  go_enter Tryz.func47, Tryz.ntmps47
  go_upto_region 1 with fail
  rw [hN.out, ← hw1.out]
  go_wp2_with fail
  refine HC.out.mono ?_
  rintro e w2 ⟨rfl, b2⟩
  have b02 : Below N0 w w2 := b1.trans (b2.mono (by have := hN.out; have := b1.size; omega))
  obtain ⟨y0, y3⟩ := GV.out w2 b02
  have WC2 := Lib.hid (WC.out w2 b02)
  replace b02 := Lib.hid b02
  clear HC hw1 b1 b2 x0 x1 x2 x3 x4 x5 WC
  go_wp2_with fail
  refine WC2.out.mono ?_
  rintro e w3 ⟨⟨q, rfl⟩, rfl⟩
  clear WC2
  by_cases hs : sk = 0
  rotate_left
  · rw [if_neg hs]
    have d0 : decide ((0 : Int) ≤ ((3 * ck + (sk - 1) : Nat) : Int)) = true := decide_eq_true (by omega)
    go_wp2
    go_ret
    exact ⟨rfl, GO.out _ b02.out⟩
  · rw [if_pos hs]
    replace hin := Lib.hid (hin.out hs)
    clear hs
    go_upto_region 5 with fail
    obtain ⟨w5, hw5⟩ : ∃ w5, w5 = w2.drew := ⟨_, rfl⟩
    have bw5 : Below N0 w w5 := by rw [hw5]; exact b02.out.trans (below_drewN (Below.refl _ _) 1)
    have Sw5 := GV.out w5 bw5
    replace bw5 := Lib.hid bw5
    clear b02 y0 y3
    refine wp_region_noPanic ?_
    refine wp_region_held_drew (S := fun v => v.cell? ⟨W.b, 0, none⟩ = some (.pointer (some ⟨W.L.g, 0, none⟩)) ∧ v.cell? ⟨W.b, 3, none⟩ = some (.pointer (some ⟨W.R.b, 0, none⟩))) (by kernel_rfl) (by rw [← hw5]; exact Sw5) (fun hHeld => ?_)
    rw [← hw5] at hHeld ⊢
    clear hw5
    refine wpAnyH_take (i := 0) (oi := _) (v := ?_) rfl (by kernel_rfl) (by kernel_rfl) (by kernel_rfl) (fun _ _ _ h => h) (Or.inl ⟨by rfl, ?_⟩) (by assumption) ?_
    rotate_left
    · try simp only [List.getElem_toArray, List.getElem_cons_succ, List.getElem_cons_zero]
      rintro w ⟨hS1, hS2⟩
      go_simp
      (try with_reducible rfl)
    try simp only [List.getElem_toArray, List.getElem_cons_succ, List.getElem_cons_zero, Act.put, List.setIfInBounds_toArray, List.set_cons_zero, List.set_cons_succ]
    refine wpAnyH_take (i := 1) (oi := _) (v := ?_) rfl (by kernel_rfl) (by kernel_rfl) (by kernel_rfl) (fun _ _ _ h => h) (Or.inl ⟨by rfl, ?_⟩) (by assumption) ?_
    rotate_left
    · try simp only [List.getElem_toArray, List.getElem_cons_succ, List.getElem_cons_zero]
      rintro w ⟨hS1, hS2⟩
      go_simp
      (try with_reducible rfl)
    try simp only [List.getElem_toArray, List.getElem_cons_succ, List.getElem_cons_zero, Act.put, List.setIfInBounds_toArray, List.set_cons_zero, List.set_cons_succ]
    refine wpAnyH_take (i := 2) (oi := _) (v := ?_) rfl (by kernel_rfl) (by kernel_rfl) (by kernel_rfl) (fun _ _ _ h => h) (Or.inl ⟨by rfl, ?_⟩) (by assumption) ?_
    rotate_left
    · try simp only [List.getElem_toArray, List.getElem_cons_succ, List.getElem_cons_zero]
      rintro w ⟨hS1, hS2⟩
      go_simp
      (try with_reducible rfl)
    try simp only [List.getElem_toArray, List.getElem_cons_succ, List.getElem_cons_zero, Act.put, List.setIfInBounds_toArray, List.set_cons_zero, List.set_cons_succ]
    refine wpAnyH_take (i := 3) (oi := _) (v := ?_) rfl (by kernel_rfl) (by kernel_rfl) (by kernel_rfl) (fun _ _ _ h => h) (Or.inl ⟨by rfl, ?_⟩) (by assumption) ?_
    rotate_left
    · try simp only [List.getElem_toArray, List.getElem_cons_succ, List.getElem_cons_zero]
      rintro w ⟨hS1, hS2⟩
      go_simp
      (try with_reducible rfl)
    try simp only [List.getElem_toArray, List.getElem_cons_succ, List.getElem_cons_zero, Act.put, List.setIfInBounds_toArray, List.set_cons_zero, List.set_cons_succ]
    refine wpAnyH_take (i := 4) (oi := _) (v := ?_) rfl (by kernel_rfl) (by kernel_rfl) (by kernel_rfl) (fun _ _ _ h => h) (Or.inl ⟨by rfl, ?_⟩) (by assumption) ?_
    rotate_left
    · try simp only [List.getElem_toArray, List.getElem_cons_succ, List.getElem_cons_zero]
      rintro w ⟨hS1, hS2⟩
      go_simp
      (try with_reducible rfl)
    try simp only [List.getElem_toArray, List.getElem_cons_succ, List.getElem_cons_zero, Act.put, List.setIfInBounds_toArray, List.set_cons_zero, List.set_cons_succ]
    refine wpAnyH_take (i := 7) (oi := _) (v := ?_) rfl (by kernel_rfl) (by kernel_rfl) (by kernel_rfl) (fun _ _ _ h => h) (Or.inl ⟨by rfl, ?_⟩) (by assumption) ?_
    rotate_left
    · try simp only [List.getElem_toArray, List.getElem_cons_succ, List.getElem_cons_zero]
      rintro w ⟨hS1, hS2⟩
      go_simp
      (try with_reducible rfl)
    try simp only [List.getElem_toArray, List.getElem_cons_succ, List.getElem_cons_zero, Act.put, List.setIfInBounds_toArray, List.set_cons_zero, List.set_cons_succ]
    refine wpAnyH_take (i := 8) (oi := _) (v := ?_) rfl (by kernel_rfl) (by kernel_rfl) (by kernel_rfl) (fun _ _ _ h => h) (Or.inl ⟨by rfl, ?_⟩) (by assumption) ?_
    rotate_left
    · try simp only [List.getElem_toArray, List.getElem_cons_succ, List.getElem_cons_zero]
      rintro w ⟨hS1, hS2⟩
      go_simp
      (try with_reducible rfl)
    try simp only [List.getElem_toArray, List.getElem_cons_succ, List.getElem_cons_zero, Act.put, List.setIfInBounds_toArray, List.set_cons_zero, List.set_cons_succ]
    refine wpAnyH_take (i := 9) (oi := _) (v := ?_) rfl (by kernel_rfl) (by kernel_rfl) (by kernel_rfl) (fun _ _ _ h => h) (Or.inl ⟨by rfl, ?_⟩) (by assumption) ?_
    rotate_left
    · try simp only [List.getElem_toArray, List.getElem_cons_succ, List.getElem_cons_zero]
      rintro w ⟨hS1, hS2⟩
      go_simp
      (try with_reducible rfl)
    try simp only [List.getElem_toArray, List.getElem_cons_succ, List.getElem_cons_zero, Act.put, List.setIfInBounds_toArray, List.set_cons_zero, List.set_cons_succ]
    refine wpAnyH_take (i := 10) (oi := _) (v := ?_) rfl (by kernel_rfl) (by kernel_rfl) (by kernel_rfl) (fun _ _ _ h => h) (Or.inl ⟨by rfl, ?_⟩) (by assumption) ?_
    rotate_left
    · try simp only [List.getElem_toArray, List.getElem_cons_succ, List.getElem_cons_zero]
      rintro w ⟨hS1, hS2⟩
      go_simp
      (try with_reducible rfl)
    try simp only [List.getElem_toArray, List.getElem_cons_succ, List.getElem_cons_zero, Act.put, List.setIfInBounds_toArray, List.set_cons_zero, List.set_cons_succ]
    refine wpAnyH_take (i := 11) (oi := _) (v := ?_) rfl (by kernel_rfl) (by kernel_rfl) (by kernel_rfl) (fun _ _ _ h => h) (Or.inl ⟨by rfl, ?_⟩) (by assumption) ?_
    rotate_left
    · try simp only [List.getElem_toArray, List.getElem_cons_succ, List.getElem_cons_zero]
      rintro w ⟨hS1, hS2⟩
      go_simp
      (try with_reducible rfl)
    try simp only [List.getElem_toArray, List.getElem_cons_succ, List.getElem_cons_zero, Act.put, List.setIfInBounds_toArray, List.set_cons_zero, List.set_cons_succ]
    refine wpAnyH_ready (rs := [5]) (by kernel_rfl) (by simp) ?_
    refine AllReadyH.cons (o := _) rfl (fun K hK => ?_) ?_
    · try simp only [List.getElem_toArray, List.getElem_cons_succ, List.getElem_cons_zero]
      go_simp
      go_at_call 92
      refine (GB.out w5 bw5.out).mono ?_
      rintro e v6 ⟨rfl, S6, DC6⟩
      replace DC6 := Lib.hid (DC6 hin.out)
      go_wp2_with fail
      refine hK.out _ _ S6 (fun hHeld => ?_)
      clear hK K hHeld
      try simp only [List.getElem_toArray, List.getElem_cons_succ, List.getElem_cons_zero, Act.put, List.setIfInBounds_toArray, List.set_cons_zero, List.set_cons_succ]
      refine wpAnyH_ready (rs := [6]) (by kernel_rfl) (by simp) ?_
      refine AllReadyH.cons (o := _) rfl (fun K hK => ?_) ?_
      · try simp only [List.getElem_toArray, List.getElem_cons_succ, List.getElem_cons_zero]
        go_simp
        go_at_call 14
        refine (nR.out _).mono ?_
        rintro e w' ⟨rfl, rfl⟩
        go_wp2_with fail
        refine hK.out _ _ S6 (fun hHeld => ?_)
        clear hK K hHeld
        try simp only [List.getElem_toArray, List.getElem_cons_succ, List.getElem_cons_zero, Act.put, List.setIfInBounds_toArray, List.set_cons_zero, List.set_cons_succ]
        refine wpAnyH_ready (rs := [12]) (by kernel_rfl) (by simp) ?_
        refine AllReadyH.cons (o := _) rfl (fun K hK => ?_) ?_
        · try simp only [List.getElem_toArray, List.getElem_cons_succ, List.getElem_cons_zero]
          go_simp
          go_at_call 93
          refine DC6.out.mono ?_
          rintro e v7 ⟨rfl, S7, G7⟩
          replace G7 := Lib.hid G7
          go_wp2_with fail
          refine hK.out _ _ S7 (fun hHeld => ?_)
          clear hK K hHeld
          try simp only [List.getElem_toArray, List.getElem_cons_succ, List.getElem_cons_zero, Act.put, List.setIfInBounds_toArray, List.set_cons_zero, List.set_cons_succ]
          refine wpAnyH_take (i := 13) (oi := _) (v := ?_) rfl (by kernel_rfl) (by kernel_rfl) (by kernel_rfl) (fun _ _ _ h => h) (Or.inl ⟨by rfl, ?_⟩) (by assumption) ?_
          rotate_left
          · try simp only [List.getElem_toArray, List.getElem_cons_succ, List.getElem_cons_zero]
            rintro w ⟨hS1, hS2⟩
            go_simp
            (try with_reducible rfl)
          try simp only [List.getElem_toArray, List.getElem_cons_succ, List.getElem_cons_zero, Act.put, List.setIfInBounds_toArray, List.set_cons_zero, List.set_cons_succ]
          refine wpAnyH_take (i := 14) (oi := _) (v := ?_) rfl (by kernel_rfl) (by kernel_rfl) (by kernel_rfl) (fun _ _ _ h => h) (Or.inl ⟨by rfl, ?_⟩) (by assumption) ?_
          rotate_left
          · try simp only [List.getElem_toArray, List.getElem_cons_succ, List.getElem_cons_zero]
            rintro w ⟨hS1, hS2⟩
            go_simp
            (try with_reducible rfl)
          try simp only [List.getElem_toArray, List.getElem_cons_succ, List.getElem_cons_zero, Act.put, List.setIfInBounds_toArray, List.set_cons_zero, List.set_cons_succ]
          refine wpAnyH_done (by kernel_rfl) ?_ _
          refine NoPanic.normal ?_
          go_wp2
          go_ret
          exact ⟨rfl, G7.out⟩
        exact AllReadyH.nil
      exact AllReadyH.nil
    exact AllReadyH.nil
end
end Go.Proofs.YtfjiphibalhcgaaGreat.Que
