/-
  The walk of Set.
-/
import Derived.Test.YteebcdicocmicaaTideTake
import Derived.Deep.RegionLaw
namespace Go.Proofs.Yteebcdicocmicaa.Tide
open Go.RowKit Base MapI
set_option linter.unusedVariables false

theorem eiE : EI Try.prog 114 118 (.agg #[.int .u64 0, .int .i64 0, .int .u64 0]) 3 24 := EI.mk' Try.underlying114 (by kernel_rfl) rfl (by decide)
theorem WV.own {w : World} {g : Nat} {hv : Value} {m n t : Nat} {L : List E} {f : Nat → Option Nat} (h : WV w g hv m n t L f) : w.ownsRow 0 118 3 hv L.length (flat L) := by
  rcases h.row with ⟨rfl, rfl⟩ | ⟨b, c, rfl, hr⟩
  · exact ⟨rfl, .inl ⟨rfl, rfl⟩⟩
  · exact hr.own (Nat.zero_le _)
theorem WV.ngo {w : World} {g : Nat} {hv : Value} {m n t : Nat} {L : List E} {f : Nat → Option Nat} (h : WV w g hv m n t L f) : ¬ hv.ownBlock = some g ∧ ¬ hv.ownBlock = some m ∧ g ≠ m := by
  have hgm : g ≠ m := by
    rintro rfl
    obtain ⟨D, ⟨es, clock, h1, _⟩, _⟩ := h.map
    rw [h.head] at h1
    cases h1
  rcases h.row with ⟨rfl, _⟩ | ⟨b, c, rfl, hr⟩
  · exact ⟨by simp [Value.ownBlock], by simp [Value.ownBlock], hgm⟩
  · refine ⟨fun hc => ?_, fun hc => ?_, hgm⟩
    · simp [Value.ownBlock] at hc
      subst hc
      obtain ⟨cur, h1, _⟩ := hr
      rw [h.head] at h1
      injection h1 with h1
      injection h1 with _ h3
      exact absurd h3 (by decide)
    · simp [Value.ownBlock] at hc
      subst hc
      obtain ⟨cur, h1, _⟩ := hr
      obtain ⟨D, ⟨es, clock, h2, _⟩, _⟩ := h.map
      rw [h2] at h1
      cases h1
theorem WV.grown {w w3 : World} {g : Nat} {hv : Value} {m n t b3 c3 : Nat} {L : List E} {f : Nat → Option Nat} (h : WV w g hv m n t L f) (o : Obj) (a : E) (hg : ((w.alloc o).drew).grownBy w3 hv.ownBlock)
    (own : w3.ownsRow 0 118 3 (.slice (some ⟨b3, 0, none⟩) (L.length + 1) c3) (L.length + 1) (flat L ++ eC a)) :
    WM (w3.setCell ⟨g, 0, none⟩ (.slice (some ⟨b3, 0, none⟩) (L.length + 1 : Nat) c3)) g b3 c3 m n t (L ++ [a]) f ∧ Only (Foot2 g hv m) w (w3.setCell ⟨g, 0, none⟩ (.slice (some ⟨b3, 0, none⟩) (L.length + 1 : Nat) c3)) := by
  obtain ⟨n1, n2, n3⟩ := h.ngo
  have o1 : Only (Foot2 g hv m) w w3 := ((Only.refl _ w).alloc o).drew.grown hg (fun k hk _ => .inr (.inr hk))
  have hgl : g < w.heap.size := heap_lt h.head
  have hml : m < w.heap.size := h.map.lt
  have hhead : Blk w3 g 116 _ := (hg.block g (by simp; omega) (fun e => n1 e.symm)).trans ((Below.heap_alloc w o g hgl).trans h.head)
  have hmap : MapI w3 m n f := h.map.kept ((hg.block m (by simp; omega) (fun e => n2 e.symm)).trans (Below.heap_alloc w o m hml))
  have e1 : (L ++ [a]).length = L.length + 1 := by simp
  have e2 : flat (L ++ [a]) = flat L ++ eC a := by rw [flat_append]; simp [flat]
  have hr : HR w3 b3 c3 (L ++ [a]) := by
    have := HR.of_own (w := w3) (L := L ++ [a]) (v := .slice (some ⟨b3, 0, none⟩) (L.length + 1) c3) (base := 0) (by rw [e1, e2]; exact own) (by rw [e1]; omega)
    obtain ⟨b, c, hv', _, hr⟩ := this
    simp only [Value.slice.injEq, Option.some.injEq, Addr.mk.injEq] at hv'
    obtain ⟨⟨rfl, _, _⟩, _, rfl⟩ := hv'
    exact hr
  have hgb : g ≠ b3 := by
    rintro rfl
    obtain ⟨cur, h1, _⟩ := hr
    have hh : w3.heap[g]? = _ := hhead
    rw [hh] at h1
    injection h1 with h1
    injection h1 with _ h3
    exact absurd h3 (by decide)
  have o2 : Only (· = g) w3 (w3.setCell ⟨g, 0, none⟩ (.slice (some ⟨b3, 0, none⟩) (L.length + 1 : Nat) c3)) := (Only.refl (· = g) w3).setCell (p := ⟨g, 0, none⟩) (fun _ => rfl) _
  refine ⟨⟨?_, hr.only o2 (fun e => hgb e.symm), hmap.only o2 (fun e => n3 e.symm)⟩, o1.trans o2 (fun _ _ h => .inl h)⟩
  have := hhead.set_ 0 (.slice (some ⟨b3, 0, none⟩) (L.length + 1 : Nat) c3)
  rw [e1]
  exact this
theorem turn_wrap (t : Nat) (h : t < 4611686018427387904) : IntKind.u64.wrap ((t : Int) + 1) = ((t + 1 : Nat) : Int) := by simp [IntKind.wrap, IntKind.bits, IntKind.signed]; omega
theorem frz_alloc (w : World) (o : Obj) (g i : Nat) (h : g < w.heap.size) : (w.alloc o).drew.frozen? ⟨g, i, none⟩ = w.frozen? ⟨g, i, none⟩ := ((Below.refl w.heap.size w).alloc (Nat.le_refl _) o).frozen (p := ⟨g, i, none⟩) h
theorem cel_alloc (w : World) (o : Obj) (g i : Nat) (h : g < w.heap.size) : (w.alloc o).drew.cell? ⟨g, i, none⟩ = w.cell? ⟨g, i, none⟩ := ((Below.refl w.heap.size w).alloc (Nat.le_refl _) o).cell (p := ⟨g, i, none⟩) h
theorem dropH_none {L R : List E} {f : Nat → Option Nat} {k : Nat} (hm : MapOK L f) (hp : L.Perm (dropH R k)) : f k = none := by
  cases hf : f k with
  | none => rfl
  | some i =>
    obtain ⟨hil, hih⟩ := hm.idx hf
    have := (List.mem_filter.1 (hp.mem_iff.1 (gE_mem hil))).2
    simp [hih] at this
def setR (R : List E) (k : Nat) (x : Int) (t : Nat) : List E := if x ≤ 0 then dropH R k else dropH R k ++ [⟨k, x, t + 1⟩]
def setT (x : Int) (t : Nat) : Nat := if x ≤ 0 then t else t + 1

set_option maxRecDepth 100000 in
set_option maxHeartbeats 3200000 in
theorem setC (w : World) (g : Nat) (hv : Value) (m n t : Nat) (R : List E) (k : Nat) (x : Int) (h : WA w g hv m n t R) (hk : k < M64) (hn : n + 4 * R.length + 20 < 4611686018427387904) (hR : R.length < 1073741000) (ht : t < 4611686018427387904) :
    Calls Try.prog 28 #[.pointer (some ⟨g, 0, none⟩), .int .u64 (k : Int), .int .i64 x] w fun e w' => e = .returned (.tuple #[]) ∧
      ∃ hv' n', WA w' g hv' m n' (setT x t) (setR R k x t) ∧ Only (Foot2 g hv m) w w' ∧ (hv'.ownBlock = hv.ownBlock ∨ ∀ b, hv'.ownBlock = some b → w.heap.size ≤ b) ∧ n' ≤ n + 4 * R.length + 4 := by
  have TC := Lib.hid (takeC w g hv m n t R k h hk (by omega) (by omega))
  have hdl : (dropH R k).length ≤ R.length := List.length_filter_le _ _
  by_cases hx : x ≤ 0
  · rw [show setT x t = t from if_pos hx, show setR R k x t = dropH R k from if_pos hx]
    go_enter Try.func28, Try.ntmps28
    go_wp2_with fail
    refine TC.out.mono ?_
    rintro e w1 ⟨rfl, hv1, n1, W1, o1, hb1, hn1⟩
    have fin := Lib.hid (show ∃ hv' n', WA w1 g hv' m n' t (dropH R k) ∧ Only (Foot2 g hv m) w w1 ∧ (hv'.ownBlock = hv.ownBlock ∨ ∀ b, hv'.ownBlock = some b → w.heap.size ≤ b) ∧ n' ≤ n + 4 * R.length + 4 from ⟨hv1, n1, W1, o1, .inl hb1, by omega⟩)
    clear W1 o1 hb1 hn1 TC h
    go_wp2
    exact bodyPost_ret (results_none (by rfl) _ _ _) rfl ⟨rfl, fin.out⟩
  · rw [show setT x t = t + 1 from if_neg hx, show setR R k x t = dropH R k ++ [⟨k, x, t + 1⟩] from if_neg hx]
    have hsz := Lib.hid (show w.heap.size = w.heap.size from rfl)
    clear h
    go_enter Try.func28, Try.ntmps28
    go_wp2_with fail
    refine TC.out.mono ?_
    rintro e w1 ⟨rfl, hv1, n1, ⟨⟨L, f, V1, hh1, hm1, hp1⟩, h5⟩, o1, hb1, hn1⟩
    have c2 := V1.c2
    have fz := frozen_head V1.head 2
    have hLl := hp1.length_eq
    replace hp1 := Lib.hid hp1
    replace hh1 := Lib.hid hh1
    replace hm1 := Lib.hid hm1
    replace h5 := Lib.hid h5
    replace hb1 := Lib.hid hb1
    replace V1 := Lib.hid V1
    replace o1 := Lib.hid o1
    replace hLl := Lib.hid hLl
    clear TC
    have htw := turn_wrap t ht
    replace ht := Lib.hid ht
    replace hn := Lib.hid hn
    go_upto_region 3 with fail
    obtain ⟨t', ht'⟩ : ∃ t', t' = t + 1 := ⟨_, rfl⟩
    rw [show ((t : Int) + 1) = (t' : Int) by omega]
    obtain ⟨w2, hw2⟩ : ∃ w2, w2 = w1.setCell ⟨g, 2, none⟩ (.int .u64 (t' : Int)) := ⟨_, rfl⟩
    rw [← hw2]
    have V2 := V1.out.setTurn t'
    rw [← hw2] at V2
    have o2 : Only (· = g) w1 w2 := by rw [hw2]; exact (Only.refl (· = g) w1).setCell (p := ⟨g, 2, none⟩) (fun _ => rfl) _
    have O2 := Lib.hid (o1.out.trans o2 (fun _ _ h => .inl h))
    replace hw2 := Lib.hid hw2
    replace ht' := Lib.hid ht'
    clear c2 fz htw o2 V1
    have d0 := V2.c0
    have d2 := V2.c2
    have fz := frozen_head V2.head 0
    have own2 := V2.own
    have hg2 : g < w2.heap.size := heap_lt V2.head
    have hgo : ¬ hv1.ownBlock = some g := by
      intro hc
      rcases V2.row with ⟨rfl, _⟩ | ⟨b, c, rfl, hr⟩
      · simp [Value.ownBlock] at hc
      · simp [Value.ownBlock] at hc
        subst hc
        obtain ⟨cur, h1, _⟩ := hr
        rw [V2.head] at h1
        injection h1 with h1
        injection h1 with _ h3
        exact absurd h3 (by decide)
    replace V2 := Lib.hid V2
    go_wp2
    have bx0 : ∀ W : World, W.heap.size = w2.heap.size → Reads (W.alloc (.cells #[.int .u64 (k : Int), .int .i64 x, .int .u64 (t' : Int)] 118)) (w2.heap.size + 1) 3 (some ⟨w2.heap.size, 0, none⟩) 1 (eC ⟨k, x, t'⟩) := by
      intro W hW
      refine ⟨rfl, fun _ => ⟨_, rfl, by simp, fun j u hu => ?_⟩⟩
      have hb := (Blk.new W 118 #[.int .u64 (k : Int), .int .i64 x, .int .u64 (t' : Int)]).cell j
      rw [hW] at hb
      rw [add_explicit, Nat.zero_add, hb, ← hu]
      simp [eC]
    replace bx0 := Lib.hid bx0
    obtain ⟨ie, hie, hz0, hz1, hz2⟩ := eiE.info
    have one : ∀ u ∈ eC ⟨k, x, t'⟩, u.oneCell' = true := by intro u hu; simp [eC] at hu; rcases hu with rfl | rfl | rfl <;> rfl
    have hlc : L.length < 1073741000 := by have := hLl.out; omega
    replace one := Lib.hid one
    go_region_law
      ((refine step_append_new _ (by rfl) _ _ _ (by rfl) 0 118 ie _ 3 24 Try.underlying114 hie hz0 hz1 hz2 rfl (by decide) hv1 L.length (flat L) (by rfl) (own2.alloc _) (w2.heap.size + 1) (some ⟨w2.heap.size, 0, none⟩) 1 1 (eC ⟨k, x, t'⟩) (by rfl) (bx0.out _ (by simp)) one.out (by unfold maxLen; omega) (by omega) (Nat.zero_le _) (by omega) ?_; intro b3 c3 w3 own3 hgrow hat3 hlt3; have r0 : w3.cell? ⟨g, 0, none⟩ = some hv1 := (hgrow.cell_far _ (by simp; omega) (Ne.symm hgo)).trans (by rw [cel_alloc w2 _ g 0 hg2]; exact d0); have r1 : w3.frozen? ⟨g, 0, none⟩ = false := (hgrow.frozen_far _ (by simp; omega) (Ne.symm hgo)).trans ((frz_alloc w2 _ g 0 hg2).trans fz)))
    all_goals
      have G := V2.out.grown _ ⟨k, x, t'⟩ hgrow own3
      obtain ⟨w4, hw4⟩ : ∃ w4, w4 = w3.setCell ⟨g, 0, none⟩ (.slice (some ⟨b3, 0, none⟩) (L.length + 1 : Nat) c3) := ⟨_, rfl⟩
      rw [← hw4] at G ⊢
      replace hw4 := Lib.hid hw4
      obtain ⟨W4, o4⟩ := G
      have hb3 := hat3
      clear own3 hgrow hat3 hlt3 r0 r1
      have c4 := W4.c0
      obtain ⟨A1, A2, A3⟩ := add_end hh1.out hm1.out (⟨k, x, t'⟩ : E) (dropH_none hm1.out hp1.out)
      have hmem : ∀ a ∈ L ++ [(⟨k, x, t'⟩ : E)], a.h < M64 := by
        intro a ha
        rcases List.mem_append.1 ha with ha | ha
        · exact h5.out a (hp1.out.mem_iff.1 ha)
        · simp at ha; subst ha; exact hk
      have e1 : (L ++ [(⟨k, x, t'⟩ : E)]).length = L.length + 1 := by simp
      have SC := Lib.hid (settleC w4 g b3 c3 m n1 t' L.length _ f W4 (by omega) hmem A1 A2 A3 (by rw [e1]; have := hn.out; have := hLl.out; omega) (by omega))
      replace A1 := Lib.hid A1
      replace A2 := Lib.hid A2
      replace A3 := Lib.hid A3
      replace hmem := Lib.hid hmem
      replace W4 := Lib.hid W4
      replace o4 := Lib.hid o4
      replace hb3 := Lib.hid hb3
      replace e1 := Lib.hid e1
      go_wp2_with fail
      refine SC.out.mono ?_
      rintro e w5 ⟨rfl, L', f', n', W5, o5, hp5, hh5, hm5, hn5⟩
      have fin := Lib.hid (show ∃ hv' n', WA w5 g hv' m n' (t + 1) (dropH R k ++ [⟨k, x, t + 1⟩]) ∧ Only (Foot2 g hv m) w w5 ∧ (hv'.ownBlock = hv.ownBlock ∨ ∀ b, hv'.ownBlock = some b → w.heap.size ≤ b) ∧ n' ≤ n + 4 * R.length + 4 from by
        rw [ht'.out] at W5 hp5
        refine ⟨_, n', ⟨⟨_, _, W5.wv, hh5, hm5, hp5.trans (hp1.out.append_right _)⟩, fun a ha => ?_⟩, ?_, ?_, ?_⟩
        · rcases List.mem_append.1 ha with ha | ha
          · exact h5.out a ha
          · simp at ha; subst ha; exact hk
        · have h2 : Only (Foot2 g hv m) w w4 := O2.out.trans o4.out (fun x _ hx => by
            rcases hx with h | h | h
            · exact .inl h
            · exact .inr (.inl h)
            · exact .inr (.inr (by rw [← hb1.out]; exact h)))
          refine h2.trans o5 (fun x hxl hx => ?_)
          rcases hx with rfl | rfl
          · rcases hb3.out with hb | hb
            · exact .inr (.inr (by rw [← hb1.out]; exact hb))
            · have := O2.out.size
              simp at hb
              omega
          · exact .inr (.inl rfl)
        · rcases hb3.out with hb | hb
          · exact .inl (by rw [← hb1.out, hb]; rfl)
          · refine .inr (fun b hbb => ?_)
            simp [Value.ownBlock] at hbb
            have := O2.out.size
            simp at hb
            omega
        · have := e1.out; have := hLl.out; omega)
      clear W5 o5 hp5 hh5 hm5 hn5 SC
      go_wp2
      go_end0
      exact ⟨rfl, fin.out⟩
end Go.Proofs.Yteebcdicocmicaa.Tide
