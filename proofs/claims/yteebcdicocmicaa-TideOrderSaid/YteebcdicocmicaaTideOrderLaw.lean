/-
  The walk of the law TideOrder.
-/
import Derived.Test.YteebcdicocmicaaTideOrderFns
import Derived.Test.YteebcdicocmicaaTideHandsLaw
import Derived.StillTailTactics
import Derived.Deep.RegionHeld3
import Derived.Deep.DrawnRows
namespace Go.Proofs.Yteebcdicocmicaa.Tide
open Go.RowKit Base MapI
set_option linter.unusedVariables false

structure Pt where
  h : Int
  e : Int
/-- The slice holds the puts, two cells each. -/
def PutsAt (w : World) (A : Option Addr) (l : List Pt) : Prop := ∀ (k : Nat) (hk : k < l.length), ∃ b off, A = some ⟨b, off, none⟩ ∧ b < w.heap.size ∧ i64ok (l[k]).h ∧ i64ok (l[k]).e ∧
  w.cell? ⟨b, off + k * 2, none⟩ = some (.int .i64 (l[k]).h) ∧ w.cell? ⟨b, off + k * 2 + 1, none⟩ = some (.int .i64 (l[k]).e)
/-- The wheel and the row of puts behind k rounds. -/
structure OW (w : World) (N g m k : Nat) (hv : Value) (n t : Nat) (R : List E) (v : Value) (P : List (Nat × Int)) : Prop where
  wa : WA w g hv m n t R
  up : Up N hv
  cnt : n ≤ 2000 * k
  ri : RI R t k
  ro : RO P R t
  own : w.ownsRow N 67 2 v P.length (puts P)
  pk : P.length = k
theorem in40 (H : Int) : ∃ a : Nat, a < 41 ∧ 0 + H % (40 - 0 + 1) = (a : Int) := ⟨(H % 41).toNat, by omega, by omega⟩
theorem OW.below {w w' : World} {N g m k : Nat} {hv : Value} {n t : Nat} {R : List E} {v : Value} {P : List (Nat × Int)} (h : OW w N g m k hv n t R v P) (b : Below w.heap.size w w') : OW w' N g m k hv n t R v P :=
  ⟨h.wa.below b, h.up, h.cnt, h.ri, h.ro, Clk.row_only h.own (Only.of_below b (Nat.le_refl _) (fun _ => False)) (fun _ _ h => h), h.pk⟩
/-- The row of puts lies apart from the wheel. -/
theorem foot_apart {w : World} {g : Nat} {hv : Value} {m n t N q : Nat} {R : List E} {v : Value} {xs : List Value} (h : WA w g hv m n t R) (o : w.ownsRow N 67 2 v q xs) : ∀ b, v.ownBlock = some b → ¬ Foot2 g hv m b := by
  obtain ⟨⟨L, f, h1, h2, h3, h4⟩, h5⟩ := h
  intro b hb hc
  rcases o.2 with ⟨rfl, _⟩ | ⟨b', c1, cur1, rfl, _, hg1, _⟩
  · simp [Value.ownBlock] at hb
  · simp only [Value.ownBlock, Option.some.injEq] at hb
    subst hb
    rcases hc with rfl | rfl | hc
    · rw [h1.head] at hg1
      injection hg1 with hg1
      injection hg1 with _ h3
      exact absurd h3 (by decide)
    · obtain ⟨D, ⟨es, clock, h1, _⟩, _⟩ := h1.map
      rw [hg1] at h1
      cases h1
    · have := own_apart h1.own o (by decide)
      rcases this with h0 | h0
      · rw [hc] at h0; cases h0
      · exact h0 (by rw [hc]; rfl)

def pr (a : E) : Nat × Int := (a.h, a.x)
def rowP (S : List E) (j : Nat) : List (Nat × Int) := (S.take j).map pr
/-- The state while the wheel is emptied. -/
structure LW (w0 w : World) (N M g m k j : Nat) (hv : Value) (n t : Nat) (S R' : List E) (hv' : Value) (n' : Nat) (v7 v9 vl : Value) (P : List (Nat × Int)) : Prop where
  wa : WA w g hv' m n' t R'
  bk : hv'.ownBlock = hv.ownBlock
  cnt : n' ≤ n + 200 * j
  ri : RI R' t k
  sm : R'.length ≤ 41
  st : Srt (S.drop j) R'
  own : w.ownsRow M 67 2 v7 j (puts (rowP S j))
  hl : HL w v9 (S.map E.h)
  pl : PL w vl P
  b : Below N w0 w
  sz : M ≤ w.heap.size
theorem foot_eq {g m k : Nat} {hv hv' : Value} (h : hv'.ownBlock = hv.ownBlock) : Foot2 g hv' m k → Foot2 g hv m k := by unfold Foot2; rw [h]; exact id
theorem LW.below {w0 w w' : World} {N M g m k j : Nat} {hv : Value} {n t : Nat} {S R' : List E} {hv' : Value} {n' : Nat} {v7 v9 vl : Value} {P : List (Nat × Int)} (h : LW w0 w N M g m k j hv n t S R' hv' n' v7 v9 vl P) (b : Below w.heap.size w w') (hN : N ≤ w.heap.size) : LW w0 w' N M g m k j hv n t S R' hv' n' v7 v9 vl P :=
  ⟨h.wa.below b, h.bk, h.cnt, h.ri, h.sm, h.st, Clk.row_only h.own (Only.of_below b (Nat.le_refl _) (fun _ => False)) (fun _ _ h => h), h.hl.below b, h.pl.below b, h.b.trans (b.mono hN), Nat.le_trans h.sz b.size⟩
theorem dropH_no {R : List E} {a : Nat} (h : ∀ e ∈ R, e.h ≠ a) : dropH R a = R := by
  unfold dropH
  rw [List.filter_eq_self]
  intro e he
  simpa using h e he
theorem dropH_twice (R : List E) (a : Nat) : dropH (dropH R a) a = dropH R a := dropH_no (fun e he => by simpa using (List.mem_filter.1 he).2)
theorem hasH_gone (R : List E) (a : Nat) : hasH (dropH R a) a = false := by
  rw [Bool.eq_false_iff]
  intro hc
  obtain ⟨e, he, h⟩ := List.any_eq_true.1 hc
  have := (List.mem_filter.1 he).2
  simp only [decide_eq_true_eq] at h this
  exact this h
theorem hasH_in {R : List E} {a : E} (h : a ∈ R) : hasH R a.h = true := List.any_eq_true.2 ⟨a, h, by simp⟩
theorem Srt.next {S R : List E} {j : Nat} {a : E} (hnd : (S.map E.h).Nodup) (s : Srt (S.drop j) R) (ha : S[j]? = some a) : Srt (S.drop (j + 1)) (dropH R a.h) := by
  obtain ⟨hj, rfl⟩ := List.getElem?_eq_some_iff.1 ha
  have e : S.drop j = S[j] :: S.drop (j + 1) := List.drop_eq_getElem_cons hj
  have h := s.drop (S[j]).h
  rw [e] at h
  have hnd2 : ((S.drop j).map E.h).Nodup := hnd.sublist ((List.drop_sublist _ _).map _)
  rw [e, List.map_cons, List.nodup_cons] at hnd2
  have e2 : dropH (S[j] :: S.drop (j + 1)) (S[j]).h = S.drop (j + 1) := by
    unfold dropH
    rw [List.filter_cons_of_neg (by simp)]
    exact dropH_no (fun x hx hc => hnd2.1 (List.mem_map.2 ⟨x, hx, hc⟩))
  rwa [e2] at h
theorem take_pr (S : List E) {j : Nat} {a : E} (ha : S[j]? = some a) : puts (rowP S (j + 1)) = puts (rowP S j) ++ puts [(a.h, a.x)] := by
  obtain ⟨hj, rfl⟩ := List.getElem?_eq_some_iff.1 ha
  unfold rowP
  rw [List.take_succ_eq_append_getElem hj, List.map_append, puts_append]
  rfl

set_option maxRecDepth 100000 in
set_option maxHeartbeats 6400000 in
theorem orderLawC (w : World) (A : Option Addr) (c : Nat) (l : List Pt) (hT : PutsAt w A l) (hl : l.length ≤ maxLen) :
    Calls Try.prog 7 #[.slice A l.length c] w fun e w' => e = .returned (.bool true) ∧ Below w.heap.size w w' := by
  unfold maxLen at hl
  have NW := Lib.hid (newC w)
  have WK := Lib.hid wakesC
  have WI := Lib.hid Clk.withinC
  replace hT := Lib.hid hT
  go_enter Try.func7, Try.ntmps7
  go_wp2_with fail
  refine NW.out.mono ?_
  rintro e w1 ⟨g, m, rfl, wa1, b1, hg, hm⟩
  have WK1 := Lib.hid (WK.out w1)
  generalize hN : w.heap.size = N at *
  replace hN := Lib.hid hN
  replace wa1 := Lib.hid wa1
  replace b1 := Lib.hid b1
  clear NW
  go_wp2_with fail
  refine WK1.out.mono ?_
  rintro e w2 ⟨rfl, b2⟩
  have hw2 : OW w2 N g m 0 (.slice none 0 0) 0 0 [] (.slice none 0 0) [] := ⟨wa1.out.below b2, up_nil N, by omega, ⟨by simp, by omega, by simp, by simp, by simp⟩, RO.start, World.ownsRow_nil _ _ _ _, rfl⟩
  have b3 : Below N w w2 := b1.out.trans (b2.mono (by have := b1.out.size; rw [hN.out] at this; exact this))
  replace hw2 := Lib.hid hw2
  replace b3 := Lib.hid b3
  clear b2 wa1 b1 WK WK1
  go_wp2_with fail
  go_loopw [4, 5] (fun s4 i wr => ∃ (k : Nat) (hv : Value) (n t : Nat) (R : List E) (P : List (Nat × Int)), k ≤ l.length ∧ k ≤ 300 ∧ i = .int .i64 (k : Int) ∧ OW wr N g m k hv n t R s4 P ∧ Below N w wr) (fun _ i _ => l.length - (intOf i).toNat)
  case atStart => exact ⟨0, _, _, _, _, _, Nat.zero_le _, by omega, rfl, hw2.out, b3.out⟩
  case round =>
    obtain ⟨k, hv, n, t, R, P, hk, hk2, rfl, H, hb⟩ := hrel
    clear hw2 b3
    by_cases hlt : k < l.length ∧ k < 300
    · obtain ⟨hk1, hk2'⟩ := hlt
      have hd6 : decide ((k : Int) < 300) = true := by simp; omega
      obtain ⟨b, off, rfl, hbl, ih, ie, c0, c1⟩ := hT.out k hk1
      rw [hN.out] at hbl
      generalize l[k] = a at *
      obtain ⟨ah, ae⟩ := a
      simp only at ih ie c0 c1
      replace c0 := (hb.cell (p := ⟨b, off + k * 2, none⟩) hbl).trans c0
      replace c1 := (hb.cell (p := ⟨b, off + k * 2 + 1, none⟩) hbl).trans c1
      have hBs : N ≤ wr.heap.size := by have := hb.size; rw [hN.out] at this; exact this
      obtain ⟨h, hh, hhw⟩ := in40 ah
      have W1 := Lib.hid (fun W => WI.out ah 0 40 W ih (by omega) (by omega) (by omega) (by omega))
      have hm64 := small_M64 (k := h) (by omega)
      replace hhw := Lib.hid hhw
      replace hm64 := Lib.hid hm64
      replace H := Lib.hid H
      replace hb := Lib.hid hb
      unfold i64ok at ie
      go_upto_region 8 with fail
      have keepA : ∀ o, (wr.drew.alloc o).cell? ⟨b, off + k * 2, none⟩ = some (.int .i64 ah) ∧ (wr.drew.alloc o).cell? ⟨b, off + k * 2 + 1, none⟩ = some (.int .i64 ae) := fun o =>
        have hB : Below wr.heap.size wr (wr.drew.alloc o) := ((Below.refl _ _).drew).alloc (Nat.le_refl _) _
        ⟨(hB.cell (p := ⟨b, off + k * 2, none⟩) (show b < wr.heap.size by omega)).trans c0, (hB.cell (p := ⟨b, off + k * 2 + 1, none⟩) (show b < wr.heap.size by omega)).trans c1⟩
      replace keepA := Lib.hid keepA
      go_region_held3 (fun w' => w'.cell? ⟨b, off + k * 2, none⟩ = some (.int .i64 ah) ∧ w'.cell? ⟨b, off + k * 2 + 1, none⟩ = some (.int .i64 ae)) (first | (go_keep; done) | exact keepA.out _)
        (first | (go_at_call 27; refine (W1.out _).mono ?_; rintro e w' ⟨rfl, rfl⟩; rw [hhw.out]))
      all_goals
        obtain ⟨w3, hw3⟩ : ∃ w3, w3 = (wr.alloc (.cells #[.int .i64 (h : Int), .int .i64 ae] 67)).drew := ⟨_, rfl⟩
        rw [← hw3]
        have b3 : Below wr.heap.size wr w3 := by rw [hw3]; exact ((Below.refl _ _).alloc (Nat.le_refl _) _).drew
        have bx : Blk w3 wr.heap.size 67 #[.int .i64 (h : Int), .int .i64 ae] := by rw [hw3]; exact Blk.new _ _ _
        have H3 := H.out.below b3
        have bb3 : Below N w w3 := hb.out.trans (b3.mono hBs)
        have hvM : ∀ x, u4.ownBlock = some x → x ≠ wr.heap.size := fun x hx => by have := (H.out.own.lt x hx).2; omega
        have hBs3 : N ≤ w3.heap.size := by have := b3.size; omega
        have x0 := bx.cell 0
        have x1 := bx.cell 1
        simp only [List.getElem?_toArray, List.getElem?_cons_zero, List.getElem?_cons_succ] at x0 x1
        have hM : wr.heap.size < w3.heap.size := bx.lt
        generalize wr.heap.size = M at *
        have rd : Reads (w3.alloc (.cells #[.int .i64 (h : Int), .int .i64 ae] 67)) (w3.heap.size + 1) 2 (some ⟨w3.heap.size, 0, none⟩) 1 (puts [(h, ae)]) := by
          refine ⟨rfl, fun _ => ⟨_, rfl, by simp, fun j u hu => ?_⟩⟩
          have hb := (Blk.new w3 67 #[.int .i64 (h : Int), .int .i64 ae]).cell j
          rw [add_explicit, Nat.zero_add, hb, ← hu]
          simp [puts]
        have one : ∀ u ∈ puts [(h, ae)], u.oneCell' = true := by intro u hu; simp [puts] at hu; rcases hu with rfl | rfl <;> rfl
        have hpk := Lib.hid H3.pk
        replace rd := Lib.hid rd
        replace one := Lib.hid one
        replace H3 := Lib.hid H3
        replace bb3 := Lib.hid bb3
        replace bx := Lib.hid bx
        replace hvM := Lib.hid hvM
        replace hw3 := Lib.hid hw3
        clear b3 H hb c0 c1 keepA
        go_wp2_with (at_builtin; refine wpList_app rfl _ _ _ rfl eiP N u4 P.length (puts P) rfl (H3.out.own.alloc _) (w3.heap.size + 1) (some ⟨w3.heap.size, 0, none⟩) 1 1 (puts [(h, ae)]) rfl rd.out one.out ?a1 ?a2 ?a3 ?_)
        case a1 => have := hpk.out; unfold maxLen; omega
        case a2 => have := hpk.out; omega
        case a3 => first | omega | (simp; omega)
        intro v4 w4 own4 g4 at4
        have o4 : Only (fun x => u4.ownBlock = some x) w3 w4 := ((Only.refl _ w3).alloc _).grown g4 (fun x hx _ => hx)
        have wa4 := H3.out.wa.keep o4 (fun x hx hs => foot_apart H3.out.wa H3.out.own x hs hx)
        have bx4 : Blk w4 M 67 #[.int .i64 (h : Int), .int .i64 ae] := o4.at_ bx.out (fun hs => hvM.out M hs rfl)
        have bb4 : Below N w w4 := (bb3.out.alloc hBs3 _).grown g4 (by simp; omega) (fun x hx => (H3.out.own.lt x hx).1)
        have own4' : w4.ownsRow N 67 2 v4 (P ++ [(h, ae)]).length (puts (P ++ [(h, ae)])) := by
          rw [puts_append, List.length_append]
          exact own4
        have hBu4 : N ≤ w4.heap.size := by have := bb4.size; rw [hN.out] at this; exact this
        have hcnt := H3.out.cnt
        have hri := H3.out.ri
        have hRl := hri.len
        have hti := hri.ti
        have hro := H3.out.ro
        have hup := H3.out.up
        have y0 := bx4.cell 0
        have y1 := bx4.cell 1
        simp only [List.getElem?_toArray, List.getElem?_cons_zero, List.getElem?_cons_succ] at y0 y1
        have ST := Lib.hid (setC w4 g hv m n t R h ae wa4 hm64.out (by omega) (by omega) (by omega))
        replace wa4 := Lib.hid wa4
        replace own4' := Lib.hid own4'
        replace bb4 := Lib.hid bb4
        replace hri := Lib.hid hri
        replace hro := Lib.hid hro
        replace hup := Lib.hid hup
        clear own4 g4 at4 o4 bx4 H3 bb3 bx rd one x0 x1
        go_wp2_with fail
        refine ST.out.mono ?_
        rintro e w5 ⟨rfl, hv5, n5, wa5, o5, f5, hn5⟩
        have bb5 := Lib.hid (bb4.out.trans (foot_below o5 hg hm hup.out hBu4))
        have H5 := Lib.hid (show OW w5 N g m (k + 1) hv5 n5 (setT ae t) (setR R h ae t) v4 (P ++ [(h, ae)]) from
          ⟨wa5, up_next hup.out f5 hBu4, by omega, hri.out.set h ae (by omega), hro.out.set h ae (by omega), Clk.row_only own4'.out o5 (fun x hx hc => foot_apart wa4.out own4'.out x hx hc), by have := hpk.out; simp; omega⟩)
        clear ST o5 f5 wa5 wa4 own4' bb4
        go_wp2
        go_roundw
        case rel => exact ⟨k + 1, _, _, _, _, _, by omega, by omega, by go_num, H5.out, bb5.out⟩
        case measure => simp [intOf]; omega
    · have hd : (k < l.length ∧ decide ((k : Int) < 300) = false) ∨ ¬ k < l.length := by
        rcases Nat.lt_or_ge k l.length with h1 | h1
        · exact .inl ⟨h1, by simp; omega⟩
        · exact .inr (by omega)
      have hBs : N ≤ wr.heap.size := by have := hb.size; rw [hN.out] at this; exact this
      have LE := Lib.hid (lenC wr g hv m n t R H.wa)
      have DU := Lib.hid (dueAll2 wr g hv m n t k R H.wa H.ri (by omega))
      have ro := H.ro
      have hRl := ro.small
      have hcn := H.cnt
      have hri := H.ri
      have hpl := PL.of_own H.own
      have hfa := foot_apart H.wa H.own
      have hft := H.wa.foot
      have hpb := fun x hx => (H.own.lt x hx).2
      replace H := Lib.hid H
      replace hb := Lib.hid hb
      replace ro := Lib.hid ro
      replace hri := Lib.hid hri
      replace hpl := Lib.hid hpl
      replace hfa := Lib.hid hfa
      replace hft := Lib.hid hft
      replace hpb := Lib.hid hpb
      clear hlt
      rcases hd with ⟨d1, d2⟩ | d1
      all_goals
        go_wp2_with fail
        refine LE.out.mono ?_
        rintro e w' ⟨rfl, rfl⟩
        go_wp2_with fail
        refine DU.out.mono ?_
        rintro e w3 ⟨v9, S, rfl, hS, hl9, hvb, b3⟩
        have hSl := hS.1.length_eq
        have hnd : (S.map E.h).Nodup := (hS.1.map E.h).nodup_iff.2 ro.out.nd
        have hM3 := b3.size
        have L0 : LW w w3 N w3.heap.size g m k 0 hv n t S R hv n (.slice none 0 0) v9 u4 P :=
          ⟨H.out.wa.below b3, rfl, by omega, hri.out, hRl, hS, World.ownsRow_nil _ _ _ _, hl9, hpl.out.below b3, hb.out.trans (b3.mono hBs), Nat.le_refl _⟩
        generalize hM : w3.heap.size = M at *
        replace L0 := Lib.hid L0
        replace hS := Lib.hid hS
        replace hnd := Lib.hid hnd
        replace hvb := Lib.hid hvb
        have hNM : N ≤ M := by omega
        have hupF := Lib.hid H.out.up
        replace hM := Lib.hid hM
        clear DU LE hl9 b3 d1
        go_wp2_with fail
        go_loopw [7, 10] (fun s7 s10 wr => ∃ (j : Nat) (R' : List E) (hv' : Value) (n' : Nat), j ≤ S.length ∧ s10 = .int .i64 (j : Int) ∧ LW w wr N M g m k j hv n t S R' hv' n' s7 v9 u4 P) (fun _ s10 _ => S.length - (intOf s10).toNat)
        case atStart => exact ⟨0, R, hv, n, Nat.zero_le _, rfl, L0.out⟩
        case round =>
          obtain ⟨j, R', hv', n', hj, rfl, LL⟩ := hrel
          clear L0
          have q3 : decide ((j : Int) ≤ 41) = true := by simp; omega
          rcases Nat.lt_or_ge j S.length with hjl | hjl
          · have ha0 : S[j]? = some S[j] := List.getElem?_eq_getElem hjl
            have hRne : R' ≠ [] := by
              rintro rfl
              have := LL.st.1.length_eq
              simp at this
              omega
            obtain ⟨a, ha, hmin, FI⟩ := firstSome wr g hv' m n' t R' LL.wa hRne
            have hSa : S[j]? = some a := by
              have := Srt.head LL.ri LL.st ha hmin
              rwa [List.getElem?_drop, Nat.add_zero] at this
            have hah : a.h < M64 := LL.wa.hs a ha
            have hlen : j + 1 ≤ 41 := by omega
            clear ha0 hRne hmin
            replace FI := Lib.hid FI
            replace LL := Lib.hid LL
            replace hah := Lib.hid hah
            replace hSa := Lib.hid hSa
            go_wp2_with fail
            refine FI.out.mono ?_
            rintro e w4 ⟨rfl, k4, hw4⟩
            have b4 : Below wr.heap.size wr w4 := by rw [← hw4]; exact below_drewN (Below.refl _ _) _
            have hBr : N ≤ wr.heap.size := Nat.le_trans hNM LL.out.sz
            have L4 := LL.out.below b4 hBr
            have hah40 : a.h ≤ 40 := by
              obtain ⟨hj1, hj2⟩ := List.getElem?_eq_some_iff.1 hSa.out
              exact ro.out.hs a (hS.out.1.mem_iff.1 (hj2 ▸ List.getElem_mem hj1))
            have rd : Reads (w4.alloc (.cells #[.int .i64 (a.h : Int), .int .i64 a.x] 67)) (w4.heap.size + 1) 2 (some ⟨w4.heap.size, 0, none⟩) 1 (puts [(a.h, a.x)]) := by
              refine ⟨rfl, fun _ => ⟨_, rfl, by simp, fun j u hu => ?_⟩⟩
              have hb := (Blk.new w4 67 #[.int .i64 (a.h : Int), .int .i64 a.x]).cell j
              rw [add_explicit, Nat.zero_add, hb, ← hu]
              simp [puts]
            have one : ∀ u ∈ puts [(a.h, a.x)], u.oneCell' = true := by intro u hu; simp [puts] at hu; rcases hu with rfl | rfl <;> rfl
            have hsz4 := L4.sz
            replace rd := Lib.hid rd
            replace one := Lib.hid one
            replace L4 := Lib.hid L4
            clear b4 LL FI
            go_wp2_with (at_builtin; refine wpList_app rfl _ _ _ rfl eiP M u7 j (puts (rowP S j)) rfl (L4.out.own.alloc _) (w4.heap.size + 1) (some ⟨w4.heap.size, 0, none⟩) 1 1 (puts [(a.h, a.x)]) rfl rd.out one.out ?a1 ?a2 ?a3 ?_)
            case a1 => unfold maxLen; omega
            case a2 => omega
            case a3 => first | omega | (simp; omega)
            intro v5 w5 own5 g5 at5
            have o5 : Only (fun x => u7.ownBlock = some x) w4 w5 := ((Only.refl _ w4).alloc _).grown g5 (fun x hx _ => hx)
            have lo7 := fun x (hx : u7.ownBlock = some x) => (L4.out.own.lt x hx).1
            have hfM : ∀ x, Foot2 g hv' m x → x < M := fun x hx => Nat.lt_of_lt_of_le (hft.out x (foot_eq L4.out.bk hx)) hM3
            have wa5 := L4.out.wa.keep o5 (fun x hx hs => by have := hfM x hx; have := lo7 x hs; omega)
            have hl5 := L4.out.hl.keep o5 (fun x hx hs => by have := (hvb.out x hx).2; have := lo7 x hs; omega)
            have pl5 := L4.out.pl.keep o5 (fun x hx hs => by have := hpb.out x hx; have := lo7 x hs; omega)
            have bb5 : Below N w w5 := (L4.out.b.alloc (by omega) _).grown g5 (by simp; omega) (fun x hx => Nat.le_trans hNM (lo7 x hx))
            have sz5 : M ≤ w5.heap.size := by have := o5.size; omega
            rw [← take_pr S hSa.out] at own5
            have lo5 := fun x (hx : v5.ownBlock = some x) => (own5.lt x hx).1
            have hcn4 := L4.out.cnt
            have hsm4 := L4.out.sm
            have TK := takeC w5 g hv' m n' t R' a.h wa5 hah.out (by omega) (by omega)
            rw [hasH_in ha] at TK
            replace TK := Lib.hid TK
            replace own5 := Lib.hid own5
            replace hl5 := Lib.hid hl5
            replace pl5 := Lib.hid pl5
            replace bb5 := Lib.hid bb5
            replace hfM := Lib.hid hfM
            replace lo5 := Lib.hid lo5
            replace ha := Lib.hid ha
            clear g5 at5 o5 wa5 lo7 rd one hw4
            go_wp2_with fail
            refine TK.out.mono ?_
            rintro e w6 ⟨rfl, hv6, n6, wa6, o6, f6, hn6⟩
            have hsm6 : (dropH R' a.h).length ≤ R'.length := List.length_filter_le _ _
            have TK2 := takeC w6 g hv6 m n6 t (dropH R' a.h) a.h wa6 hah.out (by omega) (by omega)
            rw [hasH_gone, dropH_twice] at TK2
            replace TK2 := Lib.hid TK2
            replace o6 := Lib.hid o6
            clear TK wa6
            go_wp2_with fail
            refine TK2.out.mono ?_
            rintro e w7 ⟨rfl, hv7, n7, wa7, o7, f7, hn7⟩
            have o67 : Only (Foot2 g hv' m) w5 w7 := o6.out.trans o7 (fun x _ hx => foot_eq f6 hx)
            have hfa' : ∀ x, Foot2 g hv' m x → Foot2 g hv m x := fun x hx => foot_eq L4.out.bk hx
            have L7 : LW w w7 N M g m k (j + 1) hv n t S (dropH R' a.h) hv7 n7 v5 v9 u4 P :=
              ⟨wa7, by rw [f7, f6, L4.out.bk], by omega, L4.out.ri.drop a.h, by omega, L4.out.st.next hnd.out hSa.out,
                Clk.row_only own5.out o67 (fun x hx hc => by have := hfM.out x hc; have := lo5.out x hx; omega),
                hl5.out.keep o67 (fun x hx hc => by have := (hvb.out x hx).1; have := hft.out x (hfa' x hc); omega),
                pl5.out.keep o67 (fun x hx hc => hfa.out x hx (hfa' x hc)),
                bb5.out.trans (foot_below o67 hg hm (by intro x hx; exact hupF.out x (by rw [← L4.out.bk]; exact hx)) (by omega)), by have := o67.size; omega⟩
            replace L7 := Lib.hid L7
            clear TK2 wa7 o7 o6 o67
            go_wp2
            go_roundw
            case rel => exact ⟨j + 1, _, _, _, by omega, by go_num, L7.out⟩
            case measure => simp [intOf]; omega
          · obtain rfl : j = S.length := by omega
            obtain rfl : R' = [] := List.eq_nil_of_length_eq_zero (by have := LL.st.1.length_eq; simp at this; omega)
            have FI := firstNone wr g hv' m n' t LL.wa
            have LE2 := lenC wr g hv' m n' t [] LL.wa
            have p7 : PL wr u7 (rowP S S.length) := PL.of_own (base := M) (by rw [show (rowP S S.length).length = S.length by simp [rowP]]; exact LL.own)
            have p4 := LL.pl
            have l9 := LL.hl
            obtain ⟨A7, c7, rfl, d71, d72, d73⟩ := p7
            obtain ⟨A4, c4, rfl, d41, d42, d43⟩ := p4
            obtain ⟨A9, c9, rfl, d91, d92, d93⟩ := l9
            have hr7 : (rowP S S.length).length = R.length := by simp [rowP]; omega
            have hm9 : (S.map E.h).length = R.length := by simp; omega
            rw [hr7] at d71
            rw [hm9] at d91
            unfold maxLen at d72 d42 d92
            have LA := Lib.hid (fun h => lastC wr (.slice A4 P.length c4) P h ⟨A4, c4, rfl, d41, by unfold maxLen; omega, d43⟩)
            have hbb := Lib.hid LL.b
            have hmany := Lib.hid (many_all ro.out)
            replace FI := Lib.hid FI
            replace LE2 := Lib.hid LE2
            have P7 := Lib.hid (show PL wr (.slice A7 (rowP S S.length).length c7) (rowP S S.length) from ⟨A7, c7, rfl, by omega, by unfold maxLen; omega, d73⟩)
            have P4 := Lib.hid (show PL wr (.slice A4 P.length c4) P from ⟨A4, c4, rfl, d41, by unfold maxLen; omega, d43⟩)
            have L9 := Lib.hid (show HL wr (.slice A9 (S.map E.h).length c9) (S.map E.h) from ⟨A9, c9, rfl, by omega, by unfold maxLen; omega, d93⟩)
            replace d73 := Lib.hid d73
            replace d43 := Lib.hid d43
            replace d93 := Lib.hid d93
            replace LL := Lib.hid LL
            replace hSl := Lib.hid hSl
            rw [hr7, hm9]
            replace hr7 := Lib.hid hr7
            replace hm9 := Lib.hid hm9
            go_wp2_with fail
            refine FI.out.mono ?_
            rintro e w' ⟨rfl, rfl⟩
            go_wp2_with fail
            refine LE2.out.mono ?_
            rintro e w' ⟨rfl, rfl⟩
            go_wp2_with fail
            go_loop [14, 15] (fun s14 s15 => ∃ h : Nat, h ≤ 41 ∧ s15 = .int .i64 (h : Int) ∧ s14 = .int .i64 (many R h : Int)) (fun _ s15 => 41 - (intOf s15).toNat)
            case atStart => exact ⟨0, by omega, rfl, rfl⟩
            case round =>
              obtain ⟨h, hh, rfl, rfl⟩ := hrel
              by_cases hh2 : h ≤ 40
              · have qh : decide ((h : Int) ≤ 40) = true := by simp; omega
                have hmn := many_next R h
                have hmb : many R h ≤ h := by unfold many; exact Nat.le_trans (List.length_filter_le _ _) (by simp)
                have LAh := LA.out h
                rcases lastI_or P h with hl1 | ⟨i, hl1⟩
                · rw [ro.out.cond_no hl1] at hmn
                  rw [hl1] at LAh
                  replace LAh := Lib.hid LAh
                  replace hmn := Lib.hid (show many R (h + 1) = many R h from hmn)
                  clear hl1
                  go_wp2_with fail
                  refine LAh.out.mono ?_
                  rintro e w' ⟨rfl, rfl⟩
                  go_wp2
                  go_round
                  case rel => exact ⟨h + 1, by omega, by go_num, by rw [hmn.out]⟩
                  case measure => simp [intOf]; omega
                · obtain ⟨hiP, x, hPi⟩ := lastI_at hl1
                  obtain ⟨bb, rfl, hbb4, -, hc⟩ := d43.out i h x hPi
                  rw [ro.out.cond_yes hl1 hPi] at hmn
                  rw [hl1] at LAh
                  replace LAh := Lib.hid LAh
                  have q1 : decide ((0 : Int) ≤ i) = true := by simp
                  have q1' : (0 : Int) ≤ i := by omega
                  have q2 : (i : Int) < P.length := by omega
                  clear hl1 hPi
                  by_cases hx : 0 < x
                  · rw [decide_eq_true hx] at hmn
                    have hx2 : decide (0 < x) = true := decide_eq_true hx
                    replace hmn := Lib.hid (show many R (h + 1) = many R h + 1 from hmn)
                    go_wp2_with fail
                    refine LAh.out.mono ?_
                    rintro e w' ⟨rfl, rfl⟩
                    go_wp2
                    go_round
                    case rel => exact ⟨h + 1, by omega, by go_num, by rw [hmn.out]; go_num⟩
                    case measure => simp [intOf]; omega
                  · rw [decide_eq_false hx] at hmn
                    have hx2 : decide (0 < x) = false := decide_eq_false hx
                    replace hmn := Lib.hid (show many R (h + 1) = many R h from hmn)
                    go_wp2_with fail
                    refine LAh.out.mono ?_
                    rintro e w' ⟨rfl, rfl⟩
                    go_wp2
                    go_round
                    case rel => exact ⟨h + 1, by omega, by go_num, by rw [hmn.out]⟩
                    case measure => simp [intOf]; omega
              · obtain rfl : h = 41 := by omega
                have qh : decide ((41 : Int) ≤ 40) = false := by simp
                rw [hmany.out]
                go_wp2_with fail
                clear d73 d43 d93
                rename World => wq
                go_loopw [17] (fun s17 wr => ∃ i m : Nat, i ≤ R.length ∧ s17 = .int .i64 (i : Int) ∧ wq.drewN m = wr) (fun s17 _ => R.length - (intOf s17).toNat)
                case atStart => exact ⟨0, 0, Nat.zero_le _, rfl, rfl⟩
                case round =>
                  obtain ⟨i, m', hi, rfl, hm'⟩ := hrel
                  have bq : Below wq.heap.size wq wr := by rw [← hm']; exact below_drewN (Below.refl _ _) _
                  have bqN := Lib.hid (show Below N w wr by rw [← hm']; exact below_drewN hbb.out _)
                  have P4r := P4.out.below bq
                  have P7r := P7.out.below bq
                  have L9r := L9.out.below bq
                  by_cases hiR : i < R.length
                  · have hiS : i < S.length := by rw [hSl.out]; exact hiR
                    have ha : S[i]? = some S[i] := List.getElem?_eq_getElem hiS
                    have hpi : ∀ j (hj : j < S.length), (rowP S S.length)[j]? = some ((S[j]).h, (S[j]).x) := by
                      intro j hj
                      unfold rowP
                      rw [List.take_length, List.getElem?_map, List.getElem?_eq_getElem hj]
                      rfl
                    have LAg := Lib.hid (fun W h (hW : PL W (.slice A4 P.length c4) P) => lastC W _ P h hW)
                    have P4r' := Lib.hid P4r
                    have P7r' := Lib.hid P7r
                    obtain ⟨_, _, e7, ha1, ha2, d73⟩ := P7r
                    injection e7 with e7 _ hac
                    subst hac
                    subst e7
                    clear ha1 ha2
                    obtain ⟨_, _, e4, ha1, ha2, d43⟩ := P4r
                    injection e4 with e4 _ hac
                    subst hac
                    subst e4
                    clear ha1 ha2
                    obtain ⟨_, _, e9, ha1, ha2, d93⟩ := L9r
                    injection e9 with e9 _ hac
                    subst hac
                    subst e9
                    clear ha1 ha2
                    have hpair : ∀ j, j + 1 = i → ∃ b, S[j]? = some b ∧ (rowP S S.length)[j]? = some (b.h, b.x) ∧ b ∈ R ∧ b.x ≤ (S[i]).x ∧ (b.x = (S[i]).x → lastI P b.h < lastI P (S[i]).h) := by
                      intro j hj
                      subst hj
                      have hj' : j < S.length := by omega
                      have hp := ro.out.pair hS.out (List.getElem?_eq_getElem hj') ha
                      exact ⟨S[j], List.getElem?_eq_getElem hj', hpi j hj', hS.out.1.mem_iff.1 (List.getElem_mem hj'), hp.1, hp.2⟩
                    have hpi' := hpi i hiS
                    have hu9 : (S.map E.h)[i]? = some (S[i]).h := by rw [List.getElem?_map, ha]; rfl
                    obtain ⟨ai, hl1, hPi, hx, -⟩ := ro.out.fr S[i] (hS.out.1.mem_iff.1 (List.getElem_mem hiS))
                    have w64 : (S[i]).h ≤ 40 := ro.out.hs S[i] (hS.out.1.mem_iff.1 (List.getElem_mem hiS))
                    clear hpi ha
                    generalize S[i] = a at *
                    obtain ⟨b7, rfl, hb7, r0, r1⟩ := d73 i _ _ hpi'
                    obtain ⟨b9, rfl, hb9, u0⟩ := d93 i a.h hu9
                    obtain ⟨b4, rfl, hb4, -, p1⟩ := d43 ai _ _ hPi
                    have hatP := (lastI_at hl1).1
                    have LAh := LAg.out wr a.h P4r'.out
                    rw [hl1] at LAh hpair
                    replace LAh := Lib.hid LAh
                    have q1 : (0 : Int) ≤ i := by omega
                    have q2 : (i : Int) < R.length := by omega
                    have q3 : decide ((ai : Int) < 0) = false := by simp
                    have q4 : (0 : Int) ≤ ai := by omega
                    have q5 : (ai : Int) < P.length := by omega
                    have q6 : decide (a.x < 1) = false := by simp; omega
                    have hm2 := Lib.hid hm'
                    clear d43 d93 hPi hpi' hu9 hl1 hm' bq
                    rcases Nat.eq_zero_or_pos i with hi0 | hi0
                    · have q7 : decide (0 < (i : Int)) = false := by simp; omega
                      have q7' : decide (0 < i) = false := by simp; omega
                      have q7'' : ¬ 0 < i := by omega
                      replace hi0 := Lib.hid hi0
                      clear hpair d73
                      go_wp2_with fail
                      refine LAh.out.mono ?_
                      rintro e w' ⟨rfl, rfl⟩
                      go_wp2_with fail
                      go_quiet (fail)
                      go_wp2_with fail
                      go_quiet (fail)
                      go_wp2
                      go_roundw
                      case rel => exact ⟨i + 1, _, by omega, by go_num, by rw [← hm2.out]; exact (World.drewN_drewN _ _ _).symm⟩
                      case measure => simp [intOf]; omega
                    · obtain ⟨j, hij⟩ : ∃ j, i = j + 1 := ⟨i - 1, by omega⟩
                      obtain ⟨b, -, hbj, hbR, hbx, hbl⟩ := hpair j hij.symm
                      obtain ⟨b7', e77, -, s0, s1⟩ := d73 j _ _ hbj
                      injection e77 with e77
                      injection e77 with e77 _ _
                      subst e77
                      have LAb := fun W hW => LAg.out W b.h hW
                      generalize lastI P b.h = z at *
                      replace LAb := Lib.hid LAb
                      have q7 : decide (0 < (i : Int)) = true := by simp; omega
                      have q8 : (i : Int) - 1 = (j : Int) := by omega
                      have q9 : decide (a.x < b.x) = false := by simp; omega
                      have q10 : (0 : Int) ≤ j := by omega
                      have q11 : (j : Int) < R.length := by omega
                      replace hij := Lib.hid hij
                      clear d73 hbj hpair
                      by_cases hex : b.x = a.x
                      · have q12 : decide ((ai : Int) ≤ z) = false := by have := hbl hex; simp; omega
                        rw [hex] at s1
                        clear hbl q9
                        have q9 : decide (a.x < a.x) = false := by simp
                        go_wp2_with fail
                        refine LAh.out.mono ?_
                        rintro e w' ⟨rfl, rfl⟩
                        go_wp2_with fail
                        go_quiet (fail)
                        go_wp2_with fail
                        go_quiet ((go_at_call 33; refine (LAb.out _ (P4r'.out.below (below_drewN (Below.refl _ _) _))).mono ?_; rintro e w' ⟨rfl, rfl⟩; exact ⟨rfl, _, rfl⟩))
                        go_wp2
                        go_roundw
                        case rel => exact ⟨i + 1, _, by omega, by go_num, by rw [← hm2.out]; exact (World.drewN_drewN _ _ _).symm⟩
                        case measure => simp [intOf]; omega
                      · have q12 : (a.x == b.x) = false := beq_eq_false_iff_ne.2 (fun e => hex e.symm)
                        have q13 : ¬ a.x = b.x := fun e => hex e.symm
                        clear hbl hex
                        go_wp2_with fail
                        refine LAh.out.mono ?_
                        rintro e w' ⟨rfl, rfl⟩
                        go_wp2_with fail
                        go_quiet (fail)
                        go_wp2_with fail
                        go_quiet (fail)
                        go_wp2
                        go_roundw
                        case rel => exact ⟨i + 1, _, by omega, by go_num, by rw [← hm2.out]; exact (World.drewN_drewN _ _ _).symm⟩
                        case measure => simp [intOf]; omega
                  · obtain rfl : i = R.length := by omega
                    have qd : decide ((R.length : Int) < R.length) = false := by simp
                    clear P4r P7r L9r bq
                    go_wp2
                    go_ret
                    exact ⟨rfl, by rw [hN.out]; exact bqN.out⟩
end Go.Proofs.Yteebcdicocmicaa.Tide
