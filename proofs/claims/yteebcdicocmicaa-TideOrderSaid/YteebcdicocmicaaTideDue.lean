/-
  The walk of Due.
-/
import Derived.Test.YteebcdicocmicaaTideTake
import Derived.Test.YteebcdicocmicaaTideSort
import Derived.Test.YteebcdicocmicaaTideDuePlain
namespace Go.Proofs.Yteebcdicocmicaa.Tide
open Go.RowKit Base MapI
set_option linter.unusedVariables false

theorem eiE : EI Try.prog 114 118 (.agg #[.int .u64 0, .int .i64 0, .int .u64 0]) 3 24 := EI.mk' Try.underlying114 (by kernel_rfl) rfl (by decide)
theorem eiI : EI Try.prog 120 3 (.int .i64 0) 1 8 := EI.mk' Try.underlying120 (by kernel_rfl) rfl (by decide)
theorem eiH : EI Try.prog 70 69 (.int .u64 0) 1 8 := EI.mk' Try.underlying70 (by kernel_rfl) rfl (by decide)
def ints (l : List Nat) : List Value := l.map fun (i : Nat) => .int .i64 (i : Int)
def hands (l : List E) : List Value := l.map fun a => .int .u64 (a.h : Int)

theorem own_apart {w : World} {b1 b2 n1 n2 s1 s2 : Nat} {e1 e2 : TypeId} {v1 v2 : Value} {x1 x2 : List Value} (h1 : w.ownsRow b1 e1 s1 v1 n1 x1) (h2 : w.ownsRow b2 e2 s2 v2 n2 x2) (hne : e1 ≠ e2) : v1.ownBlock = none ∨ v1.ownBlock ≠ v2.ownBlock := by
  rcases h1.2 with ⟨rfl, _⟩ | ⟨g1, c1, cur1, rfl, _, hg1, _⟩
  · exact .inl rfl
  · refine .inr ?_
    rcases h2.2 with ⟨rfl, _⟩ | ⟨g2, c2, cur2, rfl, _, hg2, _⟩
    · simp [Value.ownBlock]
    · intro hc
      simp [Value.ownBlock] at hc
      subst hc
      rw [hg1] at hg2
      injection hg2 with hg2
      injection hg2 with _ h3
      exact hne h3
theorem WV.atBelow {w w' : World} {g : Nat} {hv : Value} {m n t : Nat} {L : List E} {f : Nat → Option Nat} (h : WV w g hv m n t L f) (hb : Below w.heap.size w w') : WV w' g hv m n t L f :=
  h.keep (Only.of_below hb (Nat.le_refl _) (fun _ => False)) (fun _ _ h => h)
theorem own_row {w : World} {base n : Nat} {e : TypeId} {v : Value} {l : List Nat} (h : w.ownsRow base e 1 v n (ints l)) (hn : 0 < n) : ∃ b c, v = .slice (some ⟨b, 0, none⟩) n c ∧ n ≤ c ∧ c ≤ maxLen ∧ ∀ (k i : Nat), l[k]? = some i → w.cell? ⟨b, k, none⟩ = some (.int .i64 (i : Int)) := by
  rcases h.2 with ⟨_, h0⟩ | ⟨g, cap, cur, rfl, hb, hg, hnc, hcm, hcs, ht⟩
  · omega
  · refine ⟨g, cap, rfl, hnc, hcm, fun k i hk => ?_⟩
    rw [cell_of_row w g k cur e (0, 0) hg]
    have h1 : (ints l)[k]? = some (.int .i64 (i : Int)) := by unfold ints; rw [List.getElem?_map, hk]; rfl
    rw [← ht, List.getElem?_take] at h1
    split at h1
    · simpa using h1
    · cases h1
theorem own_len {w : World} {base n size : Nat} {e : TypeId} {v : Value} {xs : List Value} (h : w.ownsRow base e size v n xs) : ∃ A c, v = .slice A n c ∧ n ≤ c ∧ c ≤ maxLen := by
  rcases h.2 with ⟨rfl, rfl⟩ | ⟨g, cap, cur, rfl, hb, hg, hnc, hcm, _⟩
  · exact ⟨none, 0, rfl, Nat.le_refl _, by simp [maxLen]⟩
  · exact ⟨_, cap, rfl, hnc, hcm⟩
/-- The state of Due's search. -/
structure DS (w wr : World) (L : List E) (now : Int) (vd vl : Value) (k : Nat) (look : List Nat) (due : List E) : Prop where
  st : Look L now k look due
  od : wr.ownsRow w.heap.size 118 3 vd due.length (flat due)
  ol : wr.ownsRow w.heap.size 3 1 vl look.length (ints look)
  b : Below w.heap.size w wr

set_option maxRecDepth 100000 in
set_option maxHeartbeats 3200000 in
theorem dueC (w : World) (g : Nat) (hv : Value) (m n t : Nat) (R : List E) (now most : Int) (h : WA w g hv m n t R) (hR : R.length < 100000000) (hmost : -9223372036854775808 ≤ most ∧ most < 9223372036854775808) :
    Calls Try.prog 30 #[.pointer (some ⟨g, 0, none⟩), .int .i64 now, .int .i64 most] w fun e w' => ∃ (v : Value) (S : List E) (k : Nat), e = .returned v ∧ S.Perm (R.filter fun a => decide (a.x ≤ now)) ∧ S.Pairwise (fun x y => ¬ lt y x) ∧
      k = Nat.min S.length most.toNat ∧ w'.ownsRow w.heap.size 69 1 v k (hands (S.take k)) ∧ Below w.heap.size w w' := by
  obtain ⟨⟨L, f, h1, h2, h3, h4⟩, h5⟩ := h
  have hLR := h4.length_eq
  have hgl : g < w.heap.size := heap_lt h1.head
  have H1 := Lib.hid h1
  have H2 := Lib.hid h2
  have H4 := Lib.hid h4
  replace hmost := Lib.hid hmost
  have hld : L.length < 100000000 := by omega
  clear h1 h2 h3 h5
  replace hLR := Lib.hid hLR
  clear h4
  go_enter Try.func30, Try.ntmps30
  go_wp2_with fail
  have d0 : DS w (w.alloc (.cells #[.int .i64 0] 3)) L now (.slice none 0 0) (.slice (some ⟨w.heap.size, 0, none⟩) 1 1) 0 [0] [] :=
    ⟨Look.start, World.ownsRow_nil _ _ _ _, World.ownsRow_lit w #[.int .i64 0] 1 (Nat.le_refl _) (by simp [maxLen]) rfl, (Below.refl _ _).alloc (Nat.le_refl _) _⟩
  replace d0 := Lib.hid d0
  go_loopw [7, 8, 9] (fun s7 s8 s9 wr => ∃ (k : Nat) (look : List Nat) (due : List E), s9 = .int .i64 (k : Int) ∧ DS w wr L now s7 s8 k look due) (fun _ _ s9 _ => 2 * L.length + 1 - (intOf s9).toNat)
  case atStart => exact ⟨0, [0], [], rfl, d0.out⟩
  case round =>
    obtain ⟨k, look, due, rfl, ds⟩ := hrel
    clear d0
    have hll := ds.st.len
    have hkl := ds.st.kl
    have hlp : 0 < look.length := by have := ds.st.zero; exact Nat.pos_of_ne_zero (fun h => by rw [List.eq_nil_of_length_eq_zero h] at this; cases this)
    obtain ⟨bl, cl, rfl, hc1, hc2, hcell⟩ := own_row ds.ol hlp
    unfold maxLen at hc2
    by_cases hlt : k < look.length
    · have hi : look[k]? = some look[k] := List.getElem?_eq_getElem hlt
      obtain ⟨i, hi2⟩ : ∃ i, i = look[k] := ⟨_, rfl⟩
      rw [← hi2] at hi
      have x0 := hcell k i hi
      have hib := ds.st.bound i (List.mem_of_getElem? hi)
      have V := H1.out.atBelow ds.b
      have c0 := V.c0
      obtain ⟨A, c, hve, hv1, hv2⟩ := V.len
      subst hve
      unfold maxLen at hv2
      replace hi := Lib.hid hi
      replace hi2 := Lib.hid hi2
      have qk0 : (0 : Int) ≤ k := by omega
      have qk1 : (k : Int) < look.length := by omega
      have qi0 : (0 : Int) ≤ i := by omega
      clear hcell
      by_cases hil : i < L.length
      · obtain ⟨b, cc, hbe, W⟩ := V.wm (by rintro rfl; simp at hil)
        injection hbe with hA _ hC
        subst hA hC
        obtain ⟨p0, p1, p2⟩ := W.row.cells i hil
        have qi1 : (i : Int) < L.length := by omega
        obtain ⟨z, hz⟩ : ∃ z, z = gE L i := ⟨_, rfl⟩
        rw [← hz] at p0 p1 p2
        replace hz := Lib.hid hz
        replace ds := Lib.hid ds
        replace V := Lib.hid V
        replace W := Lib.hid W
        by_cases hx : z.x ≤ now
        · have qx : decide (now < z.x) = false := by simp; omega
          have qd : decide ((L.length : Int) ≤ i) = false := by simp; omega
          have hst := Lib.hid (ds.out.st.take hi.out (show acc L now i = true by unfold acc; simp [hil, ← hz.out, hx]))
          have hdl := ds.out.st.dueLen
          have hB := ds.out.b.size
          have one : ∀ u ∈ eC z, u.oneCell' = true := by intro u hu; simp [eC] at hu; rcases hu with rfl | rfl | rfl <;> rfl
          have rd : Reads (wr.alloc (.cells #[.int .u64 (z.h : Int), .int .i64 z.x, .int .u64 (z.t : Int)] 118)) (wr.heap.size + 1) 3 (some ⟨wr.heap.size, 0, none⟩) 1 (eC z) := by
            refine ⟨rfl, fun _ => ⟨_, rfl, by simp, fun j u hu => ?_⟩⟩
            have hb := (Blk.new wr 118 #[.int .u64 (z.h : Int), .int .i64 z.x, .int .u64 (z.t : Int)]).cell j
            rw [add_explicit, Nat.zero_add, hb, ← hu]
            simp [eC]
          replace one := Lib.hid one
          replace rd := Lib.hid rd
          have od := ds.out.od
          have ol := ds.out.ol
          have ap := Lib.hid (own_apart ol od (by decide))
          replace ol := Lib.hid ol
          replace od := Lib.hid od
          go_wp2_with (at_builtin; refine wpList_app rfl _ _ _ rfl eiE w.heap.size _ due.length (flat due) rfl (od.out.alloc _) (wr.heap.size + 1) (some ⟨wr.heap.size, 0, none⟩) 1 1 (eC z) rfl rd.out one.out ?a1 ?a2 ?a3 ?_)
          case a1 => unfold maxLen; omega
          case a2 => omega
          case a3 => first | omega | (simp; omega)
          intro v2 w2 own2 g2 at2
          have od2 : w2.ownsRow w.heap.size 118 3 v2 (due ++ [z]).length (flat (due ++ [z])) := by
            have e2 : flat (due ++ [z]) = flat due ++ eC z := by rw [flat_append]; simp [flat]
            rw [e2, List.length_append]
            exact own2
          have ol2 := (ol.out.alloc (.cells #[.int .u64 (z.h : Int), .int .i64 z.x, .int .u64 (z.t : Int)] 118)).kept g2 ap.out
          have b2 : Below w.heap.size w w2 := (ds.out.b.alloc hB _).grown g2 (by simp; omega) (fun x hx => (od.out.lt x hx).1)
          have ap2 := Lib.hid (own_apart od2 ol2 (by decide))
          have hB2 := b2.size
          have rd2 : Reads (w2.alloc (.cells #[.int .i64 (2 * (i : Int) + 1), .int .i64 (2 * (i : Int) + 2)] 3)) (w2.heap.size + 1) 1 (some ⟨w2.heap.size, 0, none⟩) 2 (ints [2 * i + 1, 2 * i + 2]) := by
            refine ⟨rfl, fun _ => ⟨_, rfl, by simp, fun j u hu => ?_⟩⟩
            have hb := (Blk.new w2 3 #[.int .i64 (2 * (i : Int) + 1), .int .i64 (2 * (i : Int) + 2)]).cell j
            rw [add_explicit, Nat.zero_add, hb, ← hu]
            simp [ints]
          have one2 : ∀ u ∈ ints [2 * i + 1, 2 * i + 2], u.oneCell' = true := by intro u hu; simp [ints] at hu; rcases hu with rfl | rfl <;> rfl
          replace one2 := Lib.hid one2
          replace rd2 := Lib.hid rd2
          replace od2 := Lib.hid od2
          replace ol2 := Lib.hid ol2
          replace b2 := Lib.hid b2
          clear own2 g2 at2 x0 c0 p0 p1 p2 V W od ol ap one rd
          go_wp2_with (at_builtin; refine wpList_app rfl _ _ _ rfl eiI w.heap.size _ look.length (ints look) rfl (ol2.out.alloc _) (w2.heap.size + 1) (some ⟨w2.heap.size, 0, none⟩) 2 2 (ints [2 * i + 1, 2 * i + 2]) rfl rd2.out one2.out ?a4 ?a5 ?a6 ?_)
          case a4 => unfold maxLen; omega
          case a5 => omega
          case a6 => first | omega | (simp; omega)
          intro v3 w3 own3 g3 at3
          have ol3 : w3.ownsRow w.heap.size 3 1 v3 (look ++ [2 * i + 1, 2 * i + 2]).length (ints (look ++ [2 * i + 1, 2 * i + 2])) := by
            have e2 : ints (look ++ [2 * i + 1, 2 * i + 2]) = ints look ++ ints [2 * i + 1, 2 * i + 2] := by simp [ints]
            rw [e2, List.length_append]
            exact own3
          have od3 := (od2.out.alloc (.cells #[.int .i64 (2 * (i : Int) + 1), .int .i64 (2 * (i : Int) + 2)] 3)).kept g3 ap2.out
          have b3 : Below w.heap.size w w3 := (b2.out.alloc hB2 _).grown g3 (by simp; omega) (fun x hx => (ol2.out.lt x hx).1)
          have fin : DS w w3 L now v2 v3 (k + 1) (look ++ [2 * i + 1, 2 * i + 2]) (due ++ [z]) := ⟨by rw [hz.out]; exact hst.out, od3, ol3, b3⟩
          replace fin := Lib.hid fin
          clear own3 g3 at3 ol3 od3 b3 ol2 od2 b2 rd2 one2 ap2
          go_wp2
          go_roundw
          case rel => exact ⟨k + 1, _, _, by go_num, fin.out⟩
          case measure => simp [intOf]; omega
        · have qx : decide (now < z.x) = true := by simp; omega
          have qd : decide ((L.length : Int) ≤ i) = false := by simp; omega
          have hst := Lib.hid (ds.out.st.skip hi.out (show acc L now i = false by unfold acc; simp [hil, ← hz.out, hx]))
          go_wp2
          go_roundw
          case rel => exact ⟨k + 1, look, due, by go_num, hst.out, ds.out.od, ds.out.ol, ds.out.b⟩
          case measure => simp [intOf]; omega
      · have qd : decide ((L.length : Int) ≤ i) = true := by simp; omega
        have hst := Lib.hid (ds.st.skip hi.out (show acc L now i = false by unfold acc; simp [hil]))
        replace ds := Lib.hid ds
        replace V := Lib.hid V
        go_wp2
        go_roundw
        case rel => exact ⟨k + 1, look, due, by go_num, hst.out, ds.out.od, ds.out.ol, ds.out.b⟩
        case measure => simp [intOf]; omega
    · obtain rfl : k = look.length := by omega
      have hp := (ds.st.done H2.out).trans (H4.out.filter _)
      have hdl := ds.st.dueLen
      have SO := Lib.hid (sortAny wr w.heap.size _ due ds.od (by omega))
      obtain ⟨A7, c7, h7, h71, h72⟩ := own_len ds.od
      subst h7
      unfold maxLen at h72
      replace ds := Lib.hid ds
      replace hp := Lib.hid hp
      clear hcell
      have qd : decide ((look.length : Int) < look.length) = false := by simp
      go_wp2_with fail
      refine SO.out.mono ?_
      rintro e w2 ⟨rfl, S, hS1, hS2, oS, o2⟩
      have hSl := hS1.length_eq
      obtain ⟨km, hkm⟩ : ∃ km, km = Nat.min due.length most.toNat := ⟨_, rfl⟩
      have e1 : min ((due.length : Nat) : Int) (max most 0) = (km : Int) := by
        rw [hkm]
        show _ = ((min due.length most.toNat : Nat) : Int)
        omega
      have e2 : max (km : Int) 0 = (km : Int) := by omega
      have hkd : km ≤ due.length := by rw [hkm]; exact Nat.min_le_left _ _
      have e3 : (km : Int) ≤ c7 := by omega
      have e4 : (0 : Int) ≤ km := by omega
      have e5 : (km : Int) ≤ due.length := by omega
      replace hkm := Lib.hid hkm
      have hB2 := (ds.out.b.size)
      have b2 : Below w.heap.size w w2 := ds.out.b.trans (o2.toBelow (fun x hx => ⟨by omega, fun hc => by have := (ds.out.od.lt x hc).1; omega⟩))
      rw [← hSl] at hkd
      replace hSl := Lib.hid hSl
      have hs0 : w2.ownsRow w.heap.size 69 1 (.slice none 0 0) 0 (hands (S.take 0)) := World.ownsRow_nil _ _ _ _
      go_wp2_with fail
      clear e1 e2
      go_loopw [11, 73] (fun s11 s73 wr => ∃ j : Nat, j ≤ km ∧ s73 = .int .i64 (j : Int) ∧ wr.ownsRow w.heap.size 69 1 s11 j (hands (S.take j)) ∧ wr.ownsRow w.heap.size 118 3 (.slice A7 due.length c7) S.length (flat S) ∧ Below w.heap.size w wr) (fun _ s73 _ => km - (intOf s73).toNat)
      case atStart => exact ⟨0, Nat.zero_le _, rfl, hs0, oS, b2⟩
      case round =>
        obtain ⟨j, hj, rfl, oh, oe, br⟩ := hrel
        clear hs0 oS o2 b2 SO
        by_cases hjk : j < km
        · obtain ⟨b, cc, hbe, hbb, hr⟩ := HR.of_own (show wr.ownsRow w.heap.size 118 3 (.slice A7 due.length c7) S.length (flat S) from oe) (by omega)
          injection hbe with hA hL hC
          subst hA hC
          obtain ⟨p0, p1, p2⟩ := hr.cells j (by omega)
          obtain ⟨z, hz⟩ : ∃ z, z = gE S j := ⟨_, rfl⟩
          rw [← hz] at p0 p1 p2
          have htk : hands (S.take (j + 1)) = hands (S.take j) ++ [.int .u64 (z.h : Int)] := by
            rw [hz, gE_eq (show j < S.length by omega), List.take_succ_eq_append_getElem (by omega)]
            unfold hands
            rw [List.map_append]
            rfl
          replace hz := Lib.hid hz
          replace htk := Lib.hid htk
          replace hL := Lib.hid hL
          have hBr := br.size
          have q1 : (j : Int) < km := by omega
          have q2 : (0 : Int) ≤ j := by omega
          have ap := Lib.hid (own_apart oe oh (by decide))
          have one : ∀ u ∈ [Value.int .u64 (z.h : Int)], u.oneCell' = true := by intro u hu; simp at hu; subst hu; rfl
          obtain ⟨w3, hw3⟩ : ∃ w3, w3 = wr.alloc (.cells #[.int .u64 (z.h : Int), .int .i64 z.x, .int .u64 (z.t : Int)] 118) := ⟨_, rfl⟩
          have hn3 : w3.heap.size = wr.heap.size + 1 := by rw [hw3]; exact World.size_alloc _ _
          have bx : BoxE w3 wr.heap.size z := by rw [hw3]; exact Blk.new _ _ _
          have oh3 := oh.alloc (.cells #[.int .u64 (z.h : Int), .int .i64 z.x, .int .u64 (z.t : Int)] 118)
          rw [← hw3] at oh3
          have oe3 : w3.ownsRow w.heap.size 118 3 (.slice (some ⟨b, 0, none⟩) due.length c7) S.length (flat S) := by rw [hw3]; exact oe.alloc _
          have b3 : Below w.heap.size w w3 := by rw [hw3]; exact br.alloc hBr _
          have x0 := bx.cell 0
          simp only [List.getElem?_toArray, List.getElem?_cons_zero] at x0
          have rd : Reads (w3.alloc (.cells #[.int .u64 (z.h : Int)] 69)) (w3.heap.size + 1) 1 (some ⟨w3.heap.size, 0, none⟩) 1 [.int .u64 (z.h : Int)] := by
            refine ⟨rfl, fun _ => ⟨_, rfl, by simp, fun i u hu => ?_⟩⟩
            have hb := (Blk.new w3 69 #[.int .u64 (z.h : Int)]).cell i
            rw [add_explicit, Nat.zero_add, hb, ← hu]
            simp
          replace hw3 := Lib.hid hw3
          replace hn3 := Lib.hid hn3
          replace oh3 := Lib.hid oh3
          replace oe3 := Lib.hid oe3
          replace b3 := Lib.hid b3
          replace bx := Lib.hid bx
          replace rd := Lib.hid rd
          replace one := Lib.hid one
          replace hr := Lib.hid hr
          clear oh oe br
          go_upto_region 15 with fail
          rw [← hw3.out]
          clear p0 p1 p2
          go_wp2_with (at_builtin; refine wpList_app rfl _ _ _ rfl eiH w.heap.size _ j (hands (S.take j)) rfl (oh3.out.alloc _) (w3.heap.size + 1) (some ⟨w3.heap.size, 0, none⟩) 1 1 [.int .u64 (z.h : Int)] rfl rd.out one.out ?b1 ?b2 ?b3 ?_)
          case b1 => unfold maxLen; omega
          case b2 => omega
          case b3 => have := hn3.out; first | omega | (simp; omega)
          intro v4 w4 own4 g4 at4
          have oh4 : w4.ownsRow w.heap.size 69 1 v4 (j + 1) (hands (S.take (j + 1))) := by rw [htk.out]; exact own4
          have oe4 := (oe3.out.alloc (.cells #[.int .u64 (z.h : Int)] 69)).kept g4 ap.out
          have b4 : Below w.heap.size w w4 := (b3.out.alloc b3.out.size _).grown g4 (by have := b3.out.size; simp; omega) (fun x hx => (oh3.out.lt x hx).1)
          replace oh4 := Lib.hid oh4
          replace oe4 := Lib.hid oe4
          replace b4 := Lib.hid b4
          clear own4 g4 at4 rd one oh3 oe3 b3 ap
          go_wp2
          go_roundw
          case rel => exact ⟨j + 1, by omega, by go_num, oh4.out, oe4.out, b4.out⟩
          case measure => simp [intOf]; omega
        · obtain rfl : j = km := by omega
          have qj : decide ((j : Int) < j) = false := by simp
          have fin := Lib.hid (show S.Perm (R.filter fun a => decide (a.x ≤ now)) from hS1.trans hp.out)
          have hkk := Lib.hid (show j = Nat.min S.length most.toNat by rw [hSl.out]; exact hkm.out)
          replace oh := Lib.hid oh
          replace br := Lib.hid br
          replace hS2 := Lib.hid hS2
          clear oe hS1
          go_wp2
          go_ret
          exact ⟨_, S, j, rfl, fin.out, hS2.out, hkk.out, oh.out, br.out⟩
end Go.Proofs.Yteebcdicocmicaa.Tide
