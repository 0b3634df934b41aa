/-
  The walks of First and Move.
-/
import Derived.Test.YteebcdicocmicaaTideTake
namespace Go.Proofs.Yteebcdicocmicaa.Tide
open Go.RowKit Base MapI
set_option linter.unusedVariables false

theorem heap_min {L : List E} (h : Heap L) : ∀ j, j < L.length → ¬ lt (gE L j) (gE L 0) := by
  intro j
  induction j using Nat.strongRecOn with
  | _ j ih =>
    intro hj
    rcases Nat.eq_zero_or_pos j with rfl | h0
    · exact lt_irrefl _
    · exact le_trans (ih (up j) (up_lt h0) (by have := up_lt h0; omega)) (h j h0 hj)
theorem firstNone (w : World) (g : Nat) (hv : Value) (m n t : Nat) (h : WA w g hv m n t []) :
    Calls Try.prog 31 #[.pointer (some ⟨g, 0, none⟩)] w fun e w' => e = .returned (.tuple #[.int .u64 0, .int .i64 0, .bool false]) ∧ w = w' := by
  obtain ⟨A, c, rfl, h1, h2⟩ := h.len
  have c0 := h.c0
  simp only [List.length_nil] at *
  clear h
  go_enter Try.func31, Try.ntmps31
  go_wp2
  go_ret3
  exact ⟨rfl, rfl⟩
theorem firstSome (w : World) (g : Nat) (hv : Value) (m n t : Nat) (R : List E) (h : WA w g hv m n t R) (hR : R ≠ []) :
    ∃ a, a ∈ R ∧ (∀ b ∈ R, ¬ lt b a) ∧ Calls Try.prog 31 #[.pointer (some ⟨g, 0, none⟩)] w fun e w' => e = .returned (.tuple #[.int .u64 (a.h : Int), .int .i64 a.x, .bool true]) ∧ ∃ k, w.drewN k = w' := by
  obtain ⟨⟨L, f, h1, h2, h3, h4⟩, h5⟩ := h
  have hL : L ≠ [] := by rintro rfl; exact hR (List.nil_perm.1 h4)
  have hl : 0 < L.length := List.length_pos_iff.2 hL
  refine ⟨gE L 0, h4.mem_iff.1 (gE_mem hl), fun b hb => ?_, ?_⟩
  · obtain ⟨j, hj, rfl⟩ := List.getElem_of_mem (h4.mem_iff.2 hb)
    have := heap_min h2 j hj
    rwa [gE_eq hj] at this
  obtain ⟨b, c, rfl, wm⟩ := h1.wm hL
  have c0 := wm.c0
  obtain ⟨p0, p1, p2⟩ := wm.row.cells 0 hl
  rw [Nat.zero_mul] at p0
  rw [Nat.zero_mul, Nat.zero_add] at p1
  obtain ⟨hs1, hs2⟩ := wm.small
  unfold maxLen at hs2
  have hl0 : (0 : Int) < L.length := by omega
  have hd : ((L.length : Int) == 0) = false := beq_eq_false_iff_ne.2 (by omega)
  clear h1 h2 h3 h4 h5 wm hL
  generalize gE L 0 = z at *
  go_enter Try.func31, Try.ntmps31
  go_wp2
  go_quiet (fail)
  go_wp2
  go_ret3
  exact ⟨rfl, _, rfl⟩

/-- A handle's entry goes to another one. -/
def moveR (R : List E) (a b : Nat) : List E := (dropH R b).map fun e => if e.h = a then ⟨b, e.x, e.t⟩ else e
theorem moveNone (w : World) (g : Nat) (hv : Value) (m n t : Nat) (R : List E) (a b : Nat) (h : WA w g hv m n t R) (ha : a < M64) (hb : b < M64) (hno : hasH R a = false ∨ a = b) :
    Calls Try.prog 38 #[.pointer (some ⟨g, 0, none⟩), .int .u64 (a : Int), .int .u64 (b : Int)] w fun e w' => e = .returned (.bool (hasH R a)) ∧ w = w' := by
  obtain ⟨⟨L, f, h1, h2, h3, h4⟩, h5⟩ := h
  have c1 := h1.c1
  have M := Lib.hid h1.map
  cases hf : f a with
  | none =>
    have e1 : hasH R a = false := by
      unfold hasH
      rw [List.any_eq_false]
      intro x hx
      simp only [decide_eq_true_eq]
      intro hc
      obtain ⟨j, hj, rfl⟩ := List.getElem_of_mem (h4.mem_iff.2 hx)
      have := h3.1 j hj
      rw [gE_eq hj, hc, hf] at this
      cases this
    rw [e1]
    replace hf := Lib.hid hf
    clear h1 h2 h3 h4 h5 hno e1
    go_enter Try.func38, Try.ntmps38
    go_wp2_with (at_lookup; refine wp_ok_none _ rfl _ _ rfl m n f rfl M.out a rfl ha hf.out ?_)
    go_ret
    exact ⟨rfl, rfl⟩
  | some i =>
    obtain ⟨hil, hih⟩ := h3.idx hf
    have e1 : hasH R a = true := by
      unfold hasH
      rw [List.any_eq_true]
      exact ⟨gE L i, h4.mem_iff.1 (gE_mem hil), by simpa using hih⟩
    rw [e1] at hno ⊢
    obtain rfl : a = b := by rcases hno with h | h; cases h; exact h
    replace hf := Lib.hid hf
    clear h1 h2 h3 h4 h5 hno e1 hil hih
    go_enter Try.func38, Try.ntmps38
    go_wp2_with (at_lookup; refine wp_ok_some _ rfl _ _ rfl m n f rfl M.out a rfl ha i hf.out ?_)
    go_ret
    exact ⟨rfl, rfl⟩

theorem map_set {L : List E} {i : Nat} (hi : i < L.length) (hnd : (L.map E.h).Nodup) {a b : Nat} (hih : (gE L i).h = a) : L.set i ⟨b, (gE L i).x, (gE L i).t⟩ = L.map fun e => if e.h = a then ⟨b, e.x, e.t⟩ else e := by
  have hnod := Nod.of_nodup hnd
  apply List.ext_getElem
  · simp
  · intro j h1 h2
    simp only [List.length_set] at h1
    rw [List.getElem_set, List.getElem_map]
    by_cases hij : i = j
    · subst hij
      rw [if_pos rfl, if_pos (by rw [← gE_eq hi]; exact hih), ← gE_eq hi]
    · rw [if_neg hij, if_neg]
      intro hc
      exact hij (hnod i j hi h1 (by rw [hih, gE_eq h1]; exact hc.symm))

set_option maxRecDepth 100000 in
set_option maxHeartbeats 3200000 in
theorem moveC (w : World) (g : Nat) (hv : Value) (m n t : Nat) (R : List E) (a b : Nat) (h : WA w g hv m n t R) (ha : a < M64) (hb : b < M64) (hne : a ≠ b) (hin : hasH R a = true) (hn : n + 2 * R.length + 8 < 4611686018427387904) (hR : R.length < 1073741824) :
    Calls Try.prog 38 #[.pointer (some ⟨g, 0, none⟩), .int .u64 (a : Int), .int .u64 (b : Int)] w fun e w' => e = .returned (.bool true) ∧
      ∃ hv' n', WA w' g hv' m n' t (moveR R a b) ∧ Only (Foot2 g hv m) w w' ∧ hv'.ownBlock = hv.ownBlock ∧ n' ≤ n + 2 * R.length + 3 := by
  have TC := Lib.hid (takeC w g hv m n t R b h hb hn hR)
  have hdl : (dropH R b).length ≤ R.length := List.length_filter_le _ _
  obtain ⟨⟨L0, f0, h1, h2, h3, h4⟩, h5⟩ := h
  have c1 := h1.c1
  have M := Lib.hid h1.map
  have hf0 : ∃ i, f0 a = some i := by
    unfold hasH at hin
    rw [List.any_eq_true] at hin
    obtain ⟨x, hx, hxa⟩ := hin
    simp only [decide_eq_true_eq] at hxa
    obtain ⟨j, hj, rfl⟩ := List.getElem_of_mem (h4.mem_iff.2 hx)
    have := h3.1 j hj
    rw [gE_eq hj, hxa] at this
    exact ⟨j, this⟩
  obtain ⟨i0, hi0⟩ := hf0
  replace hi0 := Lib.hid hi0
  replace hin := Lib.hid hin
  have hneb : ((a : Int) == (b : Int)) = false := beq_eq_false_iff_ne.2 (by omega)
  replace h4 := Lib.hid h4
  replace hn := Lib.hid hn
  clear h1 h2 h3 h5
  go_enter Try.func38, Try.ntmps38
  go_wp2_with (at_lookup; refine wp_ok_some _ rfl _ _ rfl m n f0 rfl M.out a rfl ha i0 hi0.out ?_)
  refine TC.out.mono ?_
  rintro e w1 ⟨rfl, hv1, n1, ⟨⟨L, f, V1, hh1, hm1, hp1⟩, h5⟩, o1, hb1, hn1⟩
  have hf : ∃ i, f a = some i := by
    have hin := hin.out
    unfold hasH at hin
    rw [List.any_eq_true] at hin
    obtain ⟨x, hx, hxa⟩ := hin
    simp only [decide_eq_true_eq] at hxa
    have hx2 : x ∈ dropH R b := List.mem_filter.2 ⟨hx, by simp [hxa, hne]⟩
    obtain ⟨j, hj, rfl⟩ := List.getElem_of_mem (hp1.mem_iff.2 hx2)
    have := hm1.1 j hj
    rw [gE_eq hj, hxa] at this
    exact ⟨j, this⟩
  obtain ⟨i, hi⟩ := hf
  obtain ⟨hil, hih⟩ := hm1.idx hi
  have hfb : f b = none := by
    cases hfb : f b with
    | none => rfl
    | some j =>
      obtain ⟨hjl, hjh⟩ := hm1.idx hfb
      have := (List.mem_filter.1 (hp1.mem_iff.1 (gE_mem hjl))).2
      simp [hjh] at this
  obtain ⟨bb, cc, rfl, W1⟩ := V1.wm (by rintro rfl; simp at hil)
  clear V1 M c1 TC
  have hLl := hp1.length_eq
  obtain ⟨z, hz⟩ : ∃ z, z = gE L i := ⟨_, rfl⟩
  have d0 := W1.c0
  have d1 := W1.c1
  obtain ⟨p0, p1, p2⟩ := W1.row.cells i hil
  rw [← hz] at p0 p1 p2
  obtain ⟨hs1, hs2⟩ := W1.small
  unfold maxLen at hs2
  have qi0 : (0 : Int) ≤ i := by omega
  have qi1 : (i : Int) < L.length := by omega
  have M1 := Lib.hid W1.map
  have hgl : g < w1.heap.size := heap_lt W1.head
  have hbl : bb < w1.heap.size := W1.row.lt
  have hml : m < w1.heap.size := W1.map.lt
  have hgm := W1.gm
  have hbm := W1.bm
  replace hi := Lib.hid hi
  replace hih := Lib.hid hih
  replace hfb := Lib.hid hfb
  replace hz := Lib.hid hz
  replace hLl := Lib.hid hLl
  replace hh1 := Lib.hid hh1
  replace hm1 := Lib.hid hm1
  replace hp1 := Lib.hid hp1
  replace h5 := Lib.hid h5
  replace hb1 := Lib.hid hb1
  replace o1 := Lib.hid o1
  obtain ⟨w2, hw2⟩ : ∃ w2, w2 = w1.alloc (.cells #[.int .u64 (b : Int), .int .i64 z.x, .int .u64 (z.t : Int)] 118) := ⟨_, rfl⟩
  have hb2 : Below w1.heap.size w1 w2 := by rw [hw2]; exact (Below.refl _ _).alloc (Nat.le_refl _) _
  have bx : BoxE w2 w1.heap.size ⟨b, z.x, z.t⟩ := by rw [hw2]; exact Blk.new _ _ _
  have W2 := Lib.hid (W1.below hb2)
  have hn2 : Hid (w2.heap.size = w1.heap.size + 1) := by rw [hw2]; exact Lib.hid (World.size_alloc _ _)
  replace hw2 := Lib.hid hw2
  replace W1 := Lib.hid W1
  replace hb2 := Lib.hid hb2
  replace bx := Lib.hid bx
  go_upto_region 8 with (at_lookup; refine wp_at_some _ rfl _ _ rfl m n1 f rfl M1.out a rfl ha i hi.out ?_)
  rw [← hw2.out]
  have M2 := Lib.hid W2.out.map
  have d1 := W2.out.c1
  generalize hN : w1.heap.size = N at *
  replace hN := Lib.hid hN
  clear d0 p0 p1 p2
  go_wp2_with (at_delete; refine wp_del _ rfl _ _ rfl m n1 f rfl M2.out a rfl ha ?_)
  intro w3 m3 o3 s3
  replace s3 := Lib.hid s3
  have W3 : WM w3 g bb cc m n1 t L (del f a) := ⟨o3.at_ W2.out.head hgm, W2.out.row.only o3 hbm, m3⟩
  have bx3 : BoxE w3 N ⟨b, z.x, z.t⟩ := o3.at_ bx.out (by show ¬ N = m; omega)
  have O3 : Only (Foot2 g hv m) w w3 := (o1.out.below hb2.out (by rw [← hN.out]; exact o1.out.size)).trans o3 (fun _ _ h => .inr (.inl h))
  have x0 := bx3.cell 0
  have x1 := bx3.cell 1
  have x2 := bx3.cell 2
  simp only [List.getElem?_toArray, List.getElem?_cons_zero, List.getElem?_cons_succ] at x0 x1 x2
  have LC := Lib.hid (layC w3 g bb cc m n1 t i L (del f a) ⟨b, z.x, z.t⟩ W3 hil hb (by unfold maxLen; have := hn.out; omega))
  clear m3 o3 W3 bx3 d1
  replace O3 := Lib.hid O3
  go_wp2_with fail
  refine LC.out.mono ?_
  rintro e w4 ⟨rfl, W4, o4⟩
  have rn := rename hh1.out hm1.out hi.out b hfb.out ⟨b, z.x, z.t⟩ (by rw [hz.out])
  have fin := Lib.hid (show ∃ hv' n', WA w4 g hv' m n' t (moveR R a b) ∧ Only (Foot2 g hv m) w w4 ∧ hv'.ownBlock = hv.ownBlock ∧ n' ≤ n + 2 * R.length + 3 from by
    refine ⟨_, n1 + 1, ⟨⟨_, _, W4.wv, rn.1, rn.2, ?_⟩, fun x hx => ?_⟩, O3.out.trans o4 (fun x _ h => ?_), hb1.out, by omega⟩
    · have e := map_set hil hm1.out.nodup hih.out (b := b)
      rw [hz.out]
      rw [e]
      exact hp1.out.map _
    · obtain ⟨y, hy, rfl⟩ := List.mem_map.1 hx
      by_cases hc : y.h = a
      · rw [if_pos hc]; exact hb
      · rw [if_neg hc]; exact h5.out y hy
    · rcases h with rfl | rfl
      · exact .inr (.inr (by rw [← hb1.out]; rfl))
      · exact .inr (.inl rfl))
  clear W4 o4 LC rn
  go_wp2
  go_ret
  exact ⟨rfl, fin.out⟩
end Go.Proofs.Yteebcdicocmicaa.Tide
