/-
  The wheel as a list of entries; the walks of NewWheel, Len, First, Take.
-/
import Derived.Test.YteebcdicocmicaaTideSettle
import Derived.Test.YteebcdicocmicaaTidePlain2
namespace Go.Proofs.Yteebcdicocmicaa.Tide
open Go.RowKit Base MapI
set_option linter.unusedVariables false

/-- As WM, with a row that may be nil. -/
structure WV (w : World) (g : Nat) (hv : Value) (m n t : Nat) (L : List E) (f : Nat → Option Nat) : Prop where
  head : w.heap[g]? = some (.cells #[hv, .map (some m), .int .u64 (t : Int)] 116 (0, 0))
  row : (hv = .slice none 0 0 ∧ L = []) ∨ ∃ b c, hv = .slice (some ⟨b, 0, none⟩) L.length c ∧ HR w b c L
  map : MapI w m n f
def Foot2 (g : Nat) (hv : Value) (m : Nat) : Nat → Prop := fun k => k = g ∨ k = m ∨ hv.ownBlock = some k
section
variable {w : World} {g : Nat} {hv : Value} {b c m n t : Nat} {L : List E} {f : Nat → Option Nat}
theorem WV.wm (h : WV w g hv m n t L f) (hL : L ≠ []) : ∃ b c, hv = .slice (some ⟨b, 0, none⟩) L.length c ∧ WM w g b c m n t L f := by
  rcases h.row with ⟨_, h0⟩ | ⟨b, c, rfl, hr⟩
  · exact absurd h0 hL
  · exact ⟨b, c, rfl, h.head, hr, h.map⟩
theorem WM.wv (h : WM w g b c m n t L f) : WV w g (.slice (some ⟨b, 0, none⟩) L.length c) m n t L f := ⟨h.head, .inr ⟨b, c, rfl, h.row⟩, h.map⟩
theorem WV.c0 (h : WV w g hv m n t L f) : w.cell? ⟨g, 0, none⟩ = some hv := by rw [cell_of_row w g 0 _ 116 (0, 0) h.head]; rfl
theorem WV.c1 (h : WV w g hv m n t L f) : w.cell? ⟨g, 1, none⟩ = some (.map (some m)) := by rw [cell_of_row w g 1 _ 116 (0, 0) h.head]; rfl
theorem WV.c2 (h : WV w g hv m n t L f) : w.cell? ⟨g, 2, none⟩ = some (.int .u64 (t : Int)) := by rw [cell_of_row w g 2 _ 116 (0, 0) h.head]; rfl
theorem WV.len (h : WV w g hv m n t L f) : ∃ A c, hv = .slice A L.length c ∧ L.length ≤ c ∧ c ≤ maxLen := by
  rcases h.row with ⟨rfl, rfl⟩ | ⟨b, c, rfl, cur, h1, h2, h3, _⟩
  · exact ⟨none, 0, rfl, Nat.le_refl _, by simp [maxLen]⟩
  · exact ⟨_, c, rfl, h2, h3⟩
theorem WV.keep {w' : World} (h : WV w g hv m n t L f) {S : Nat → Prop} (o : Only S w w') (hs : ∀ k, Foot2 g hv m k → ¬ S k) : WV w' g hv m n t L f := by
  refine ⟨o.at_ h.head (hs g (.inl rfl)), ?_, h.map.only o (hs m (.inr (.inl rfl)))⟩
  rcases h.row with h0 | ⟨b, c, rfl, hr⟩
  · exact .inl h0
  · exact .inr ⟨b, c, rfl, hr.only o (hs b (.inr (.inr rfl)))⟩
theorem WM.setHead (h : WM w g b c m n t L f) (k : Nat) (hk : k ≤ L.length) : WM (w.setCell ⟨g, 0, none⟩ (.slice (some ⟨b, 0, none⟩) (k : Nat) c)) g b c m n t (L.take k) f := by
  have o : Only (· = g) w (w.setCell ⟨g, 0, none⟩ (.slice (some ⟨b, 0, none⟩) (k : Nat) c)) := (Only.refl (· = g) w).setCell (p := ⟨g, 0, none⟩) (fun _ => rfl) _
  refine ⟨?_, (h.row.only o (fun e => h.gb e.symm)).shrink k, h.map.only o (fun e => h.gm e.symm)⟩
  have hb : Blk w g 116 _ := h.head
  have := hb.set_ 0 (.slice (some ⟨b, 0, none⟩) (k : Nat) c)
  unfold Blk at this
  rw [this, List.length_take, Nat.min_eq_left hk]
  rfl
theorem WV.setTurn (h : WV w g hv m n t L f) (t' : Nat) : WV (w.setCell ⟨g, 2, none⟩ (.int .u64 (t' : Int))) g hv m n t' L f := by
  have o : Only (· = g) w (w.setCell ⟨g, 2, none⟩ (.int .u64 (t' : Int))) := (Only.refl (· = g) w).setCell (p := ⟨g, 2, none⟩) (fun _ => rfl) _
  have hb : Blk w g 116 _ := h.head
  have hgm : g ≠ m := by
    rintro rfl
    obtain ⟨D, ⟨es, clock, h1, _⟩, _⟩ := h.map
    rw [h.head] at h1
    cases h1
  refine ⟨hb.set_ 2 (.int .u64 (t' : Int)), ?_, h.map.only o (fun e => hgm e.symm)⟩
  rcases h.row with h0 | ⟨b, c, rfl, hr⟩
  · exact .inl h0
  · have hgb : g ≠ b := by
      rintro rfl
      obtain ⟨cur, h1, _⟩ := hr
      rw [h.head] at h1
      injection h1 with h1
      injection h1 with _ h3
      exact absurd h3 (by decide)
    exact .inr ⟨b, c, rfl, hr.only o (fun e => hgb e.symm)⟩
end

theorem frozen_head {w : World} {g : Nat} {cs : Array Value} {t : TypeId} (h : w.heap[g]? = some (.cells cs t (0, 0))) (i : Nat) : w.frozen? ⟨g, i, none⟩ = false := by simp [World.frozen?, h]
theorem foot_in {g b m x : Nat} {n c : Nat} (h : Foot b m x) : Foot2 g (.slice (some ⟨b, 0, none⟩) n c) m x := by
  rcases h with rfl | rfl
  · exact .inr (.inr rfl)
  · exact .inr (.inl rfl)
theorem nodup_filter {R : List E} (h : (R.map E.h).Nodup) (p : E → Bool) : ((R.filter p).map E.h).Nodup := h.sublist ((List.filter_sublist).map _)
/-- The entries without those of a handle; is there one? -/
def dropH (R : List E) (k : Nat) : List E := R.filter fun a => decide (a.h ≠ k)
def hasH (R : List E) (k : Nat) : Bool := R.any fun a => decide (a.h = k)
theorem dropH_mem {R : List E} {k : Nat} {a : E} (h : a ∈ dropH R k) : a ∈ R := (List.mem_filter.1 h).1
/-- Block g is a wheel of the entries R. -/
structure WA (w : World) (g : Nat) (hv : Value) (m n t : Nat) (R : List E) : Prop where
  ex : ∃ L f, WV w g hv m n t L f ∧ Heap L ∧ MapOK L f ∧ L.Perm R
  hs : ∀ a ∈ R, a.h < M64
section
variable {w : World} {g : Nat} {hv : Value} {m n t : Nat} {R : List E}
theorem WA.keep {w' : World} (h : WA w g hv m n t R) {S : Nat → Prop} (o : Only S w w') (hs : ∀ k, Foot2 g hv m k → ¬ S k) : WA w' g hv m n t R := by
  obtain ⟨⟨L, f, h1, h2, h3, h4⟩, h5⟩ := h
  exact ⟨⟨L, f, h1.keep o hs, h2, h3, h4⟩, h5⟩
theorem WA.below {w' : World} (h : WA w g hv m n t R) (hb : Below w.heap.size w w') : WA w' g hv m n t R :=
  h.keep (Only.of_below hb (Nat.le_refl _) (fun _ => False)) (fun _ _ h => h)
theorem WA.len (h : WA w g hv m n t R) : ∃ A c, hv = .slice A R.length c ∧ R.length ≤ c ∧ c ≤ maxLen := by
  obtain ⟨⟨L, f, h1, h2, h3, h4⟩, h5⟩ := h
  have := h1.len
  rwa [h4.length_eq] at this
theorem WA.c0 (h : WA w g hv m n t R) : w.cell? ⟨g, 0, none⟩ = some hv := by
  obtain ⟨⟨L, f, h1, h2, h3, h4⟩, h5⟩ := h
  exact h1.c0
end

theorem newC (w : World) : Calls Try.prog 26 #[] w fun e w' => ∃ g m, e = .returned (.pointer (some ⟨g, 0, none⟩)) ∧ WA w' g (.slice none 0 0) m 0 0 [] ∧ Below w.heap.size w w' ∧ w.heap.size ≤ g ∧ w.heap.size ≤ m := by
  have hmm := @run_makeMap Try.prog
  go_enter Try.func26, Try.ntmps26
  go_wp2
  go_ret
  refine ⟨w.heap.size + 1, w.heap.size, rfl, ⟨⟨[], fun _ => none, ⟨?_, .inl ⟨rfl, rfl⟩, ?_⟩, fun j _ hj => absurd hj (by simp), ⟨fun j hj => absurd hj (by simp), fun k hk => absurd rfl hk⟩, List.Perm.refl _⟩, fun a ha => absurd ha (by simp)⟩, ((Below.refl _ _).alloc (Nat.le_refl _) _).alloc (by simp) _, by omega, by omega⟩
  · have := heap_alloc_new (w.alloc (.map #[] 0)) (.cells #[.slice none 0 0, .map (some w.heap.size), .int .u64 0] 116)
    rw [World.size_alloc] at this
    exact this
  · exact (MapI.made w).kept (Below.heap_alloc _ _ _ (by simp))
theorem lenC (w : World) (g : Nat) (hv : Value) (m n t : Nat) (R : List E) (h : WA w g hv m n t R) : Calls Try.prog 29 #[.pointer (some ⟨g, 0, none⟩)] w fun e w' => e = .returned (.int .i64 (R.length : Int)) ∧ w = w' := by
  obtain ⟨A, c, rfl, h1, h2⟩ := h.len
  have c0 := h.c0
  unfold maxLen at h2
  go_enter Try.func29, Try.ntmps29
  go_wp2
  go_ret
  exact ⟨rfl, rfl⟩

set_option maxRecDepth 100000 in
set_option maxHeartbeats 3200000 in
theorem takeC (w : World) (g : Nat) (hv : Value) (m n t : Nat) (R : List E) (k : Nat) (h : WA w g hv m n t R) (hk : k < M64) (hn : n + 2 * R.length + 8 < 4611686018427387904) (hR : R.length < 1073741824) :
    Calls Try.prog 32 #[.pointer (some ⟨g, 0, none⟩), .int .u64 (k : Int)] w fun e w' => e = .returned (.bool (hasH R k)) ∧
      ∃ hv' n', WA w' g hv' m n' t (dropH R k) ∧ Only (Foot2 g hv m) w w' ∧ hv'.ownBlock = hv.ownBlock ∧ n' ≤ n + 2 * R.length + 1 := by
  obtain ⟨⟨L, f, h1, h2, h3, h4⟩, h5⟩ := h
  have hLR := h4.length_eq
  cases hf : f k with
  | none =>
    have hno : ∀ a ∈ R, a.h ≠ k := by
      intro a ha hc
      obtain ⟨j, hj, rfl⟩ := List.getElem_of_mem (h4.mem_iff.2 ha)
      have := h3.1 j hj
      rw [gE_eq hj, hc, hf] at this
      cases this
    have e1 : hasH R k = false := by
      unfold hasH
      rw [List.any_eq_false]
      intro a ha
      simpa using hno a ha
    have e2 : (dropH R k) = R := List.filter_eq_self.2 (fun a ha => by simpa using hno a ha)
    rw [e1, e2]
    have c1 := h1.c1
    have M := Lib.hid h1.map
    have fin := Lib.hid (show ∃ hv' n', WA w g hv' m n' t R ∧ Only (Foot2 g hv m) w w ∧ hv'.ownBlock = hv.ownBlock ∧ n' ≤ n + 2 * R.length + 1 from ⟨hv, n, ⟨⟨L, f, h1, h2, h3, h4⟩, h5⟩, Only.refl _ _, rfl, by omega⟩)
    replace hf := Lib.hid hf
    clear h1 h2 h3 h4 h5 hno e1 e2 hLR
    go_enter Try.func32, Try.ntmps32
    go_wp2_with (at_lookup; refine wp_ok_none _ rfl _ _ rfl m n f rfl M.out k rfl hk hf.out ?_)
    go_ret
    exact ⟨rfl, fin.out⟩
  | some i =>
    obtain ⟨hil, hih⟩ := h3.idx hf
    have e1 : hasH R k = true := by
      unfold hasH
      rw [List.any_eq_true]
      exact ⟨gE L i, h4.mem_iff.1 (gE_mem hil), by simpa using hih⟩
    rw [e1]
    obtain ⟨b, c, rfl, wm⟩ := h1.wm (by rintro rfl; simp at hil)
    have hgm := wm.gm
    have c1 := wm.c1
    have M := Lib.hid wm.map
    have W0 := Lib.hid wm
    replace hf := Lib.hid hf
    replace h2 := Lib.hid h2
    replace h3 := Lib.hid h3
    replace h4 := Lib.hid h4
    replace h5 := Lib.hid h5
    replace hLR := Lib.hid hLR
    replace hih := Lib.hid hih
    clear h1 e1 wm
    go_enter Try.func32, Try.ntmps32
    go_wp2_with (first | (at_lookup; refine wp_ok_some _ rfl _ _ rfl m n f rfl M.out k rfl hk i hf.out ?_) | (at_delete; refine wp_del _ rfl _ _ rfl m n f rfl M.out k rfl hk ?_))
    intro w1 m1 o1 s1
    have W1 : WM w1 g b c m n t L (delF f k) := ⟨o1.at_ W0.out.head hgm, W0.out.row.only o1 W0.out.bm, m1⟩
    clear m1 c1 M
    replace s1 := Lib.hid s1
    obtain ⟨q, hq⟩ : ∃ q, q = L.length - 1 := ⟨_, rfl⟩
    have hq1 : ((L.length : Nat) : Int) - 1 = (q : Int) := by omega
    have hqL : q < L.length := by omega
    obtain ⟨z, hz⟩ : ∃ z, z = gE L q := ⟨_, rfl⟩
    have c0 := W1.c0
    obtain ⟨p0, p1, p2⟩ := W1.row.cells q hqL
    rw [← hz] at p0 p1 p2
    replace hz := Lib.hid hz
    obtain ⟨hs1, hs2⟩ := W1.small
    unfold maxLen at hs2
    have qi0 : (0 : Int) ≤ q := by omega
    have qi1 : (q : Int) < L.length := by omega
    have qi2 : (q : Int) ≤ c := by omega
    replace hq := Lib.hid hq
    obtain ⟨w2, hw2⟩ : ∃ w2, w2 = w1.alloc (.cells #[.int .u64 (z.h : Int), .int .i64 z.x, .int .u64 (z.t : Int)] 118) := ⟨_, rfl⟩
    have hb2 : Below w1.heap.size w1 w2 := by rw [hw2]; exact (Below.refl _ _).alloc (Nat.le_refl _) _
    have bx : BoxE w2 w1.heap.size z := by rw [hw2]; exact Blk.new _ _ _
    have W2 := Lib.hid (W1.below hb2)
    have o2 := Lib.hid ((o1.mono (T := Foot2 g (.slice (some ⟨b, 0, none⟩) L.length c) m) (fun _ _ h => .inr (.inl h))).below hb2 o1.size)
    have hg1 : g < w1.heap.size := heap_lt W1.head
    have hbn1 : b < w1.heap.size := W1.row.lt
    have hmn1 : m < w1.heap.size := W1.map.lt
    generalize hN : w1.heap.size = N at *
    replace hN := Lib.hid hN
    clear o1 W1 hb2
    replace hw2 := Lib.hid hw2
    go_upto_region 7 with fail
    rw [hN.out, ← hw2.out]
    have c0' := W2.out.c0
    have fz := frozen_head W2.out.head 0
    clear c0 p0 p1 p2 hq1
    go_upto_region 8 with fail
    obtain ⟨w3, hw3⟩ : ∃ w3, w3 = w2.setCell ⟨g, 0, none⟩ (.slice (some ⟨b, 0, none⟩) q c) := ⟨_, rfl⟩
    rw [← hw3]
    have W3 := W2.out.setHead q (by omega)
    rw [← hw3] at W3
    have o3 : Only (· = g) w2 w3 := by rw [hw3]; exact (Only.refl (· = g) w2).setCell (p := ⟨g, 0, none⟩) (fun _ => rfl) _
    have bx3 : BoxE w3 N z := o3.at_ bx (by show ¬ N = g; omega)
    have O3 := Lib.hid (o2.out.trans o3 (fun _ _ h => .inl h))
    have x0 := bx3.cell 0
    have x1 := bx3.cell 1
    have x2 := bx3.cell 2
    simp only [List.getElem?_toArray, List.getElem?_cons_zero, List.getElem?_cons_succ] at x0 x1 x2
    replace hw3 := Lib.hid hw3
    replace W3 := Lib.hid W3
    clear c0' fz o3 o2 bx bx3
    by_cases hiq : i = q
    · have hd : ¬ (i : Int) < q := by omega
      have te := take_end h2.out h3.out hf.out (by rw [← hq.out]; exact hiq)
      rw [← hq.out] at te
      have fin := Lib.hid (show ∃ hv' n', WA w3 g hv' m n' t (dropH R k) ∧ Only (Foot2 g (.slice (some ⟨b, 0, none⟩) L.length c) m) w w3 ∧ hv'.ownBlock = (Value.slice (some ⟨b, 0, none⟩) L.length c).ownBlock ∧ n' ≤ n + 2 * R.length + 1 from
        ⟨_, n, ⟨⟨_, _, W3.out.wv, te.1, te.2.1, te.2.2.trans (h4.out.filter _)⟩, fun a ha => h5.out a (dropH_mem ha)⟩, O3.out, rfl, by omega⟩)
      clear te
      go_wp2
      go_ret
      exact ⟨rfl, fin.out⟩
    · have hd : (i : Int) < q := by have := hq.out; omega
      have tm := take_mid h2.out h3.out hf.out (by rw [← hq.out]; omega)
      rw [← hq.out, ← hz.out] at tm
      replace tm := Lib.hid tm
      have hzh : z.h < M64 := h5.out z (h4.out.mem_iff.1 (by rw [hz.out]; exact gE_mem hqL))
      have hlt : (L.take q).length = q := by rw [List.length_take]; omega
      have LC := Lib.hid (layC w3 g b c m n t i (L.take q) (delF f k) z W3.out (by omega) hzh (by unfold maxLen; omega))
      replace hlt := Lib.hid hlt
      go_wp2_with fail
      refine LC.out.mono ?_
      rintro e w4 ⟨rfl, W4, o4⟩
      have hlt2 : ((L.take q).set i z).length = q := by rw [List.length_set, hlt.out]
      have hperm := tm.out.2.2.trans (h4.out.filter _)
      have hmem : ∀ a ∈ (L.take q).set i z, a.h < M64 := fun a ha => h5.out a (dropH_mem (hperm.mem_iff.1 ha))
      have SC := Lib.hid (settleC w4 g b c m (n + 1) t i ((L.take q).set i z) (put (delF f k) z.h i) W4 (by omega) hmem tm.out.1 tm.out.2.1
        (((hperm.map E.h).nodup_iff).2 (nodup_filter (((h4.out.map E.h).nodup_iff).1 h3.out.nodup) _)) (by have := hLR.out; omega) (by have := hLR.out; omega))
      replace hmem := Lib.hid hmem
      replace hperm := Lib.hid hperm
      replace hlt2 := Lib.hid hlt2
      go_wp2_with fail
      refine SC.out.mono ?_
      rintro e w5 ⟨rfl, L', f', n', W5, o5, hp5, hh5, hm5, hn5⟩
      have fin := Lib.hid (show ∃ hv' n', WA w5 g hv' m n' t (dropH R k) ∧ Only (Foot2 g (.slice (some ⟨b, 0, none⟩) L.length c) m) w w5 ∧ hv'.ownBlock = (Value.slice (some ⟨b, 0, none⟩) L.length c).ownBlock ∧ n' ≤ n + 2 * R.length + 1 from
        ⟨_, n', ⟨⟨_, _, W5.wv, hh5, hm5, hp5.trans hperm.out⟩, fun a ha => h5.out a (dropH_mem ha)⟩, (O3.out.trans o4 (fun _ _ h => foot_in h)).trans o5 (fun _ _ h => foot_in h), rfl, by have h1 := hlt2.out; have h2 := hLR.out; rw [h1] at hn5; omega⟩)
      clear W4 W5 o4 o5 hp5 hh5 hm5 hn5 SC LC
      go_wp2
      go_ret
      exact ⟨rfl, fin.out⟩
end Go.Proofs.Yteebcdicocmicaa.Tide
