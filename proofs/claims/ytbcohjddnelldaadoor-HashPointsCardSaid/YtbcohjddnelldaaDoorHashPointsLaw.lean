/-
  The walk of the law HashPoints.
-/
import Derived.Test.YtbcohjddnelldaaDoorPointsRows2
import Derived.Test.YtbcohjddnelldaaDoorHashNamesLaw
import Derived.StillTailTactics
import Derived.Deep.DeepCutAuto
import Derived.Deep.DrawnRows
import Derived.Deep.CutBlock
import Derived.Deep.RegionHeld3
namespace Go.Proofs.YtbcohjddnelldaaDoor.Pts
open Go.RowKit Base Tail Digits HashPlain HashW HashR
set_option linter.unusedVariables false

structure Nm where
  t : List UInt8
  n : Int
def Good (x : Nm) : Prop := 1 ≤ x.t.length ∧ x.t.length ≤ 250 ∧ 1 ≤ x.n ∧ x.n ≤ 512
instance (x : Nm) : Decidable (Good x) := by unfold Good; infer_instance
noncomputable def want (x : Nm) : List Nat := if Good x then ptsL x.t x.n.toNat else []
def code (x : Nm) : Int := if Good x then 0 else 1
theorem code_in (x : Nm) : -9223372036854775808 ≤ code x ∧ code x < 9223372036854775808 := by unfold code; split <;> omega
theorem want_len (x : Nm) : (want x).length ≤ 512 := by
  unfold want
  split
  · rename_i h
    obtain ⟨-, -, h1, h2⟩ := h
    simp [ptsL]; omega
  · simp
/-- The slice holds the names, two cells each. -/
def NamesAt (w : World) (A : Option Addr) (l : List Nm) : Prop := ∀ (k : Nat) (hk : k < l.length), ∃ b off, A = some ⟨b, off, none⟩ ∧ b < w.heap.size ∧ (l[k]).t.length ≤ maxLen ∧ (-9223372036854775808 ≤ (l[k]).n ∧ (l[k]).n < 9223372036854775808) ∧
  w.cell? ⟨b, off + k * 2, none⟩ = some (.string ⟨(l[k]).t.toArray⟩) ∧ w.cell? ⟨b, off + k * 2 + 1, none⟩ = some (.int .i64 (l[k]).n)
theorem bothP (x : Nm) (hx : x.t.length ≤ maxLen) (hn : -9223372036854775808 ≤ x.n ∧ x.n < 9223372036854775808) (w : World) (ht : Tab w) : Calls Tryd.prog 6 #[.string ⟨x.t.toArray⟩, .int .i64 x.n] w fun e w' =>
    ∃ p, e = .returned (.tuple #[p, .int .i64 (code x)]) ∧ PRow w' w.heap.size p (want x) ∧ Below w.heap.size w w' := by
  by_cases h : Good x
  · obtain ⟨h1, h2, h3, h4⟩ := id h
    obtain ⟨n, hn⟩ := Int.eq_ofNat_of_zero_le (show 0 ≤ x.n by omega)
    have hw : want x = ptsL x.t n := by unfold want; rw [if_pos h, hn]; rfl
    have hc : code x = 0 := if_pos h
    rw [hn, hw, hc]
    refine (pointsYes w x.t n ⟨h1, h2⟩ ⟨by omega, by omega⟩ ht).mono ?_
    rintro e w' ⟨rfl, hr, hb⟩
    have hl : (ptsL x.t n).length = n := by simp [ptsL]
    exact ⟨_, rfl, .inr ⟨_, by rw [hl], Nat.le_refl _, hr, by omega⟩, hb⟩
  · have hw : want x = [] := if_neg h
    have hc : code x = 1 := if_neg h
    rw [hw, hc]
    refine (pointsNo w x.t x.n hx hn h).mono ?_
    rintro e w' ⟨rfl, rfl⟩
    exact ⟨_, rfl, .inl ⟨rfl, rfl⟩, Below.refl _ _⟩
theorem bothQ (x : Nm) (hx : x.t.length ≤ maxLen) (hn : -9223372036854775808 ≤ x.n ∧ x.n < 9223372036854775808) (w : World) : Calls Tryd.prog 7 #[.string ⟨x.t.toArray⟩, .int .i64 x.n] w fun e w' =>
    ∃ q, e = .returned (.tuple #[q, .int .i64 (code x)]) ∧ QRow w' w.heap.size q (want x) ∧ Below w.heap.size w w' := by
  by_cases h : Good x
  · obtain ⟨h1, h2, h3, h4⟩ := id h
    obtain ⟨n, hn⟩ := Int.eq_ofNat_of_zero_le (show 0 ≤ x.n by omega)
    have hw : want x = ptsL x.t n := by unfold want; rw [if_pos h, hn]; rfl
    have hc : code x = 0 := if_pos h
    rw [hn, hw, hc]
    refine (refPointsYes w x.t n ⟨h1, h2⟩ ⟨by omega, by omega⟩).mono ?_
    rintro e w' ⟨v, rfl, hr, hb⟩
    have hl : (ptsL x.t n).length = n := by simp [ptsL]
    exact ⟨_, rfl, by unfold QRow; rw [hl]; exact hr, hb⟩
  · have hw : want x = [] := if_neg h
    have hc : code x = 1 := if_neg h
    rw [hw, hc]
    refine (refPointsNo w x.t x.n hx hn h).mono ?_
    rintro e w' ⟨rfl, rfl⟩
    exact ⟨_, rfl, World.ownsRow_nil _ _ _ _, Below.refl _ _⟩

theorem marked_len (n j : Nat) : (marked n j).length = n := by simp [marked]
theorem grownL_len (n j : Nat) : (grownL n j).length = n + 600 := by
  unfold grownL
  rw [List.length_append, List.length_replicate, List.length_replicate]
theorem marked_get (n j k : Nat) (hk : k < (marked n j).length) : (((marked n j)[k] : Nat) : Int) = 1000 + (j : Int) := by
  have : (marked n j)[k] = 1000 + j := by simp [marked]
  rw [this]; omega
theorem grown_low (n j k : Nat) (hk : k < (grownL n j).length) (h : k < n) : (((grownL n j)[k] : Nat) : Int) = 1000 + (j : Int) := by
  have h1 : (grownL n j)[k]? = some (1000 + j) := by
    unfold grownL
    rw [List.getElem?_append_left (by rw [List.length_replicate]; exact h), List.getElem?_replicate, if_pos h]
  rw [List.getElem?_eq_getElem hk] at h1
  injection h1 with h1
  rw [h1]; omega
theorem grown_high (n j k : Nat) (hk : k < (grownL n j).length) (h : n ≤ k) : (((grownL n j)[k] : Nat) : Int) = 7000 + (j : Int) := by
  have hl := grownL_len n j
  have h1 : (grownL n j)[k]? = some (7000 + j) := by
    unfold grownL
    rw [List.getElem?_append_right (by rw [List.length_replicate]; exact h), List.length_replicate, List.getElem?_replicate, if_pos (by omega)]
  rw [List.getElem?_eq_getElem hk] at h1
  injection h1 with h1
  rw [h1]; omega
theorem pts_s1 : (ptsL [115] 2)[1]'(by simp [ptsL]) = pointN (sumB Begin [115, 45, 49]) := by
  have h : Lib.decDigits 1 = [49] := Lib.decDigits_one (by omega)
  simp [ptsL, ptN, h]
theorem quiet_drew {P : Program} {f : FuncId} {args : Array Value} {w : World} {n : Nat} {v : Value}
    (h : Calls P f args (w.drewN n) fun e w' => e = .returned v ∧ ∃ m, (w.drewN n).drewN m = w') : Calls P f args (w.drewN n) fun e w'' => e = .returned v ∧ ∃ m, w'' = w.drewN m :=
  h.mono fun _ _ ⟨he, m, hm⟩ => ⟨he, n + m, by rw [← hm, World.drewN_drewN]⟩
theorem own_at' {w : World} {N n i c : Nat} {e : TypeId} {A : Option Addr} {xs : List Value} (h : w.ownsRow N e 1 (.slice A n c) n xs) (hi : i < n) : ∃ g p, A = some ⟨g, 0, none⟩ ∧ xs[i]? = some p ∧ w.cell? ⟨g, i, none⟩ = some p := by
  obtain ⟨g, c', p, hv, hp, hc, -, -⟩ := own_at h hi
  simp only [Value.slice.injEq] at hv
  exact ⟨g, p, hv.1, hp, hc⟩
theorem Told.drewN {w0 w : World} {N : Nat} {v3 v4 : Value} {ps qs : List Value} {Ls Ks : List (List Nat)} (h : Told w0 w N v3 v4 ps qs Ls Ks) (n : Nat) : Told w0 (w.drewN n) N v3 v4 ps qs Ls Ks :=
  h.below (below_drewN (Below.refl _ _) n)

set_option maxRecDepth 100000 in
set_option maxHeartbeats 6400000 in
theorem pointsLawC (w : World) (ht : Tab w) (A : Option Addr) (c : Nat) (l : List Nm) (hT : NamesAt w A l) (hl : l.length ≤ maxLen) :
    Calls Tryd.prog 3 #[.slice A l.length c] w fun e w' => e = .returned (.bool true) ∧ Below w.heap.size w w' := by
  unfold maxLen at hl
  have hTB := Lib.hid (Lib.tabBelow_of_tabIs ht)
  replace hT := Lib.hid hT
  clear ht
  obtain ⟨W2, hW2⟩ : ∃ W2, wrap64 (2 * (l.length : Int)) = W2 := ⟨_, rfl⟩
  have hWpos : 0 < W2 → 0 < l.length := fun h => by
    rcases Nat.eq_zero_or_pos l.length with h0 | h0
    · rw [h0] at hW2
      rw [← hW2] at h
      rw [IntWalk.wrap64_in _ (by omega)] at h
      omega
    · exact h0
  replace hWpos := Lib.hid hWpos
  go_enter Tryd.func3, Tryd.ntmps3
  generalize hN : w.heap.size = N at *
  replace hN := Lib.hid hN
  go_upto_block 0 with fail
  go_cut [3, 4] from 5 to 73 (fun (s3 s4 : Value) (wx : World) => ∃ (ps qs : List Value) (Ls : List (List Nat)), ps.length = Ls.length ∧ qs.length = Ls.length ∧ Ls.length ≤ 40 ∧ Told w wx N s3 s4 ps qs Ls Ls)
  case first =>
    go_wp2_with fail
    go_loopw [3, 4, 5] (fun s3 s4 i wr => ∃ (k : Nat) (ps qs : List Value) (Ls : List (List Nat)), k ≤ 40 ∧ i = .int .i64 (k : Int) ∧ ps.length = k ∧ qs.length = k ∧ Ls.length = k ∧ Told w wr N s3 s4 ps qs Ls Ls) (fun _ _ i _ => 40 - (RowKit.intOf i).toNat)
    case atStart => exact ⟨0, [], [], [], by omega, rfl, rfl, rfl, rfl, ⟨World.ownsRow_nil _ _ _ _, World.ownsRow_nil _ _ _ _, .inl rfl, by simp, by simp, by simp, by simp, by simp, by simp, Below.refl _ _, by rw [hN.out]; exact Nat.le_refl _⟩⟩
    case round =>
      obtain ⟨k, ps, qs, Ls, hk, rfl, hps, hqs, hLs, T⟩ := hrel
      by_cases hlt : (k : Int) < W2 ∧ k < 40
      · obtain ⟨hk1, hk40⟩ := hlt
        have d1 : decide ((k : Int) < 40) = true := by simp; omega
        have d2 : decide ((k : Int) < W2) = true := by simp; omega
        have hpos : 0 < l.length := hWpos.out (by omega)
        have hz : (l.length : Int) ≠ 0 := by omega
        have hj : k % l.length < l.length := Nat.mod_lt _ hpos
        have hjt : (k : Int).tmod (l.length : Int) = ((k % l.length : Nat) : Int) := by rw [Int.tmod_eq_emod_of_nonneg (by omega)]; rfl
        obtain ⟨b, off, rfl, hbl, hx1, hx2, c0, c1⟩ := hT.out _ hj
        rw [hN.out] at hbl
        replace c0 := (T.b.cell (p := ⟨b, off + k % l.length * 2, none⟩) hbl).trans c0
        replace c1 := (T.b.cell (p := ⟨b, off + k % l.length * 2 + 1, none⟩) hbl).trans c1
        generalize l[k % l.length] = x at *
        generalize k % l.length = j at *
        replace T := Lib.hid T
        go_upto_region 6 with fail
        have hk0 : (wr.alloc (.cells #[.string ⟨x.t.toArray⟩, .int .i64 x.n] 25)).cell? ⟨wr.heap.size, 0, none⟩ = some (.string ⟨x.t.toArray⟩) := by rw [cell_of_row _ _ _ _ 25 (0, 0) (heap_alloc_new wr _)]; rfl
        have hk1 : (wr.alloc (.cells #[.string ⟨x.t.toArray⟩, .int .i64 x.n] 25)).cell? ⟨wr.heap.size, 1, none⟩ = some (.int .i64 x.n) := by rw [cell_of_row _ _ _ _ 25 (0, 0) (heap_alloc_new wr _)]; rfl
        have ba : Below wr.heap.size wr (wr.alloc (.cells #[.string ⟨x.t.toArray⟩, .int .i64 x.n] 25)) := (Below.refl _ _).alloc (Nat.le_refl _) _
        have hsa : (wr.alloc (.cells #[.string ⟨x.t.toArray⟩, .int .i64 x.n] 25)).heap.size = wr.heap.size + 1 := World.size_alloc _ _
        generalize wr.alloc (.cells #[.string ⟨x.t.toArray⟩, .int .i64 x.n] 25) = wa at *
        have hsN : N ≤ wr.heap.size := T.out.sz
        have CP := Lib.hid (bothP x hx1 hx2 wa (hTB.out wa (T.out.b.trans (ba.mono hsN))))
        have CQ := Lib.hid (bothQ x hx1 hx2)
        have NC := Lib.hid (fun W => numC (code x) (code_in x) W)
        clear c0 c1
        go_wp2_with fail
        refine CP.out.mono ?_
        rintro e wb ⟨p, rfl, hpr, bb⟩
        clear CP
        have hlt0 : wr.heap.size < wa.heap.size := by omega
        replace hk0 := (bb.cell (p := ⟨wr.heap.size, 0, none⟩) hlt0).trans hk0
        replace hk1 := (bb.cell (p := ⟨wr.heap.size, 1, none⟩) hlt0).trans hk1
        replace hpr := Lib.hid hpr
        generalize code x = ec at *
        go_wp2_with fail
        refine (CQ.out wb).mono ?_
        rintro e wc ⟨q, rfl, hqr, bc⟩
        clear CQ hk0 hk1
        have hL := want_len x
        have hpr3 := hpr.out.below bc (Nat.le_refl _)
        have hfr : ∀ (i : Nat) (p' : Value), ps[i]? = some p' → p.ownBlock = none ∨ p.ownBlock ≠ p'.ownBlock := fun i p' hp' => by
          have hi : i < Ls.length := by rw [hLs, ← hps]; exact (List.getElem?_eq_some_iff.1 hp').1
          have h1 := T.out.pr i p' _ hp' (List.getElem?_eq_getElem hi)
          rcases h2 : p.ownBlock with _ | g
          · exact .inl rfl
          · refine .inr fun hc => ?_
            have h3 := (hpr.out.lt g h2).1
            have h4 := (h1.lt g hc.symm).2
            omega
        obtain ⟨Ap, hpv, hnp⟩ := hpr3.nums
        obtain ⟨Aq, cq, hqv, hnq⟩ := hqr.nums
        have SM := sameC Ap Aq (want x).length cq _ _ (want x) _ rfl wc hnp hnq (by unfold maxLen; omega)
        subst hpv hqv
        replace SM := Lib.hid SM
        have bac : Below wr.heap.size wr wc := ba.trans ((bb.mono (by omega)).trans (bc.mono (by have := bb.size; omega)))
        have hT2 := (T.out.below bac).wide (want x) hL
        have hpN : PRow wc N (.slice Ap (want x).length (want x).length) (want x) := hpr3.more (by omega)
        have hqN : QRow wc N (.slice Aq (want x).length cq) (want x) := own_more hqr (by have := bb.size; omega)
        generalize hLL : want x = L at *
        clear hnp hnq hqr hpr3 hpr T ba bb bc bac hLL hx1 hx2
        replace hT2 := Lib.hid hT2
        replace hpN := Lib.hid hpN
        replace hqN := Lib.hid hqN
        replace hfr := Lib.hid hfr
        go_wp2_with fail
        refine (NC.out _).mono ?_
        rintro e w' ⟨rfl, rfl⟩
        go_wp2_with fail
        refine SM.out.mono ?_
        rintro e wd ⟨rfl, md, hwd⟩
        have bd : Below wc.heap.size wc wd := by rw [← hwd]; exact below_drewN (Below.refl _ _) _
        have hT3 := hT2.out.below bd
        have hpd := hpN.out.below bd (Nat.le_refl _)
        have hqd : QRow wd N (.slice Aq L.length cq) L := own_below hqN.out bd (Nat.le_refl _)
        have hLk : (Ls ++ [L])[k]? = some L := by rw [List.getElem?_append_right (by omega), hLs, Nat.sub_self]; rfl
        have push3 := fun ty => hT3.push3 _ L hpd (by rw [hps]; exact hLk) hfr.out (by omega) ty
        replace hwd := Lib.hid hwd
        clear SM NC hT2 hpN hqN bd hpd hT3 hfr
        replace push3 := Lib.hid push3
        replace hqd := Lib.hid hqd
        go_wp2_with (at_builtin; refine wpList_run rfl _ _ 23 rfl u3 (.slice (some ⟨wd.heap.size, 0, none⟩) 1 1) rfl rfl (fun v' w' => Told w w' N v' u4 (ps ++ [.slice Ap L.length L.length]) qs (Ls ++ [L]) (Ls ++ [L]) ∧ ∀ u M, QRow wd N u M → QRow w' N u M) (push3.out _) ?_)
        intro v3 we T4 hkq
        have push4 := fun ty => T4.push4 _ L (hkq _ L hqd.out) (by rw [hqs]; exact hLk) (by omega) ty
        replace push4 := Lib.hid push4
        clear T4 hkq push3
        go_wp2_with (at_builtin; refine wpList_run rfl _ _ 23 rfl u4 (.slice (some ⟨we.heap.size, 0, none⟩) 1 1) rfl rfl (fun v' w' => Told w w' N v3 v' (ps ++ [.slice Ap L.length L.length]) (qs ++ [.slice Aq L.length cq]) (Ls ++ [L]) (Ls ++ [L])) (push4.out _) ?_)
        intro v4 wf T5
        replace T5 := Lib.hid T5
        clear push4
        go_wp2
        go_roundw
        case rel => exact ⟨k + 1, _, _, _, by omega, by go_num, by simp [hps], by simp [hqs], by simp [hLs], T5.out⟩
        case measure => simp [RowKit.intOf]; omega
      · have hd : ((k : Int) < W2 ∧ decide ((k : Int) < 40) = false) ∨ (¬ (k : Int) < W2) := by
          rcases Int.lt_or_le (k : Int) W2 with h1 | h1
          · exact .inl ⟨h1, by simp; omega⟩
          · exact .inr (by omega)
        replace T := Lib.hid T
        rcases hd with ⟨h1, h2⟩ | h1
        all_goals
          go_wp2
          go_meet
          exact ⟨ps, qs, Ls, by omega, by omega, by omega, T.out⟩
  case rest =>
    obtain ⟨ps, qs, Ls, hps, hqs, hL40, T⟩ := hcut
    clear hT hWpos hW2
    obtain ⟨A3, c3, rfl⟩ := own_slice T.o3
    obtain ⟨A4, c4, rfl⟩ := own_slice T.o4
    replace hqs := hqs.trans hps.symm
    rw [hqs] at T ⊢
    replace T := Lib.hid T
    have hn40 : ps.length ≤ 40 := by omega
    generalize hn : ps.length = n at *
    replace hn := Lib.hid hn
    replace hps := Lib.hid hps
    replace hqs := Lib.hid hqs
    go_wp2_with fail
    go_loopw [11] (fun s11 wr => ∃ i m : Nat, i ≤ n ∧ s11 = .int .i64 (i : Int) ∧ wc.drewN m = wr) (fun s11 _ => n - (RowKit.intOf s11).toNat)
    case atStart => exact ⟨0, 0, Nat.zero_le _, rfl, rfl⟩
    case round =>
      obtain ⟨i, m, hi, rfl, hm⟩ := hrel
      have Tr : Told w wr N (.slice A3 n c3) (.slice A4 n c4) ps qs Ls Ls := by rw [← hm]; exact T.out.drewN m
      by_cases hlt : i < n
      · have o3 := Tr.o3
        have o4 := Tr.o4
        rw [hn.out] at o3
        rw [hqs.out] at o4
        obtain ⟨g3, p, rfl, hp, cc3⟩ := own_at' o3 hlt
        obtain ⟨g4, q, rfl, hq, cc4⟩ := own_at' o4 hlt
        have hLi : i < Ls.length := by rw [← hps.out]; exact hlt
        obtain ⟨Ap, rfl, hnp⟩ := (Tr.pr i p _ hp (List.getElem?_eq_getElem hLi)).nums
        obtain ⟨Aq, cq, rfl, hnq⟩ := (Tr.qr i q _ hq (List.getElem?_eq_getElem hLi)).nums
        have hl5 := T.out.len _ (List.getElem_mem hLi)
        generalize Ls[i] = L at *
        have SM := Lib.hid (fun k => sameC Ap Aq L.length cq _ _ L _ rfl (wr.drewN k) (hnp.drewN k) (hnq.drewN k) (by unfold maxLen; omega))
        clear o3 o4 hp hq hnp hnq Tr
        go_wp2_with fail
        go_quiet ((go_at_call 9; with_reducible exact quiet_drew (SM.out _)))
        have hm2 : wc.drewN (m + nq) = wr.drewN nq := by rw [← hm]; exact (World.drewN_drewN _ _ _).symm
        go_wp2
        go_roundw
        case rel => exact ⟨i + 1, _, by omega, by go_num, hm2⟩
        case measure => simp [RowKit.intOf]; omega
      · obtain rfl : n = i := by omega
        have M0 := Lib.hid (Marks.start Tr (by rw [hn.out, hps.out]))
        clear Tr
        generalize lensOf Ls = ns at *
        clear hm T hqs hlt
        go_wp2_with fail
        rename World => wq
        go_loopw [12, 13] (fun s12 s13 wr => ∃ i : Nat, i ≤ n ∧ s12 = .int .i64 (i : Int) ∧ Marks w wr N (.slice A3 n c3) ps ns i 0) (fun s12 _ _ => n - (RowKit.intOf s12).toNat)
        case atStart => exact ⟨0, Nat.zero_le _, rfl, M0.out⟩
        case round =>
          obtain ⟨i, hi, rfl, M⟩ := hrel
          clear M0
          by_cases hlt : i < n
          · have hnb := M.nb i
            obtain ⟨p, hp⟩ : ∃ p, ps[i]? = some p := ⟨_, List.getElem?_eq_getElem (by rw [hn.out]; exact hlt)⟩
            replace M := Lib.hid M
            go_wp2_with fail
            go_loopw [13] (fun s13 wx => ∃ k : Nat, k ≤ ns i ∧ s13 = .int .i64 (k : Int) ∧ Marks w wx N (.slice A3 n c3) ps ns i k) (fun s13 _ => ns i - (RowKit.intOf s13).toNat)
            case atStart => exact ⟨0, Nat.zero_le _, rfl, M.out⟩
            case round =>
              obtain ⟨k, hk, rfl, Mk⟩ := hrel
              clear M
              have o3 := Mk.o3
              rw [hn.out] at o3
              obtain ⟨g3, p', rfl, hp', cc3⟩ := own_at' o3 hlt
              rw [hp] at hp'
              injection hp' with hp'
              subst hp'
              by_cases hkn : k < ns i
              · obtain ⟨g, z, rfl, cz, cf, M2⟩ := Mk.store hp hkn
                have hwr : IntKind.u32.wrap (1000 + (i : Int)) = 1000 + (i : Int) := by rw [IntKind.wrap_u32]; omega
                have ev : ((1000 + i : Nat) : Int) = 1000 + (i : Int) := by omega
                rw [ev] at M2
                replace M2 := Lib.hid M2
                replace Mk := Lib.hid Mk
                replace hp := Lib.hid hp
                clear o3 ev
                generalize ns i = q at *
                go_wp2_with fail
                go_roundw
                case rel => exact ⟨k + 1, by omega, by go_num, M2.out⟩
                case measure => simp [RowKit.intOf]; omega
              · obtain rfl : k = ns i := by omega
                obtain ⟨L, hL, hPR, -⟩ := Mk.pr i p hp
                obtain ⟨Ap, rfl, -⟩ := hPR.nums
                have M2 := Lib.hid Mk.next
                rw [hL] at *
                clear o3 hPR hL Mk hp
                generalize ns i = q at *
                go_wp2_with fail
                go_roundw
                case rel => exact ⟨i + 1, by omega, by go_num, M2.out⟩
                case measure => simp [RowKit.intOf]; omega
          · obtain rfl : n = i := by omega
            have T1 : Told w wr N (.slice A3 n c3) (.slice none 0 0) ps [] (famM ns n) (famG ns n) := by
              have := Marks.told (v3 := .slice A3 n c3) (ps := ps) (ns := ns) (by rw [hn.out]; exact M)
              rw [hn.out] at this
              exact this
            replace T1 := Lib.hid T1
            have hnb : ∀ j, ns j ≤ 512 := M.nb
            replace hnb := Lib.hid hnb
            clear M hlt
            go_wp2_with fail
            rename World => wg
            go_loopw [14, 15, 16, 17] (fun s14 s15 s16 s17 wr => ∃ (i : Nat) (gs : List Value), i ≤ n ∧ s15 = .int .i64 (i : Int) ∧ gs.length = i ∧ Told w wr N (.slice A3 n c3) s14 ps gs (famM ns n) (famG ns n)) (fun _ s15 _ _ _ => n - (RowKit.intOf s15).toNat)
            case atStart => exact ⟨0, [], Nat.zero_le _, rfl, rfl, T1.out⟩
            case round =>
              obtain ⟨i, gs, hi, rfl, hgs, T⟩ := hrel
              clear T1
              by_cases hlt : i < n
              · have o3 := T.o3
                rw [hn.out] at o3
                obtain ⟨g3, p, rfl, hp, cc3⟩ := own_at' o3 hlt
                have hPR := T.pr i p _ hp (fam_get _ hlt)
                have hml : (marked (ns i) i).length ≤ 512 := by have := hnb.out i; simpa [marked] using this
                generalize hM : marked (ns i) i = L at *
                have c7 : ((7000 + i : Nat) : Int) = 7000 + (i : Int) := by omega
                have w7 : IntKind.u32.wrap (7000 + (i : Int)) = 7000 + (i : Int) := by rw [IntKind.wrap_u32]; omega
                replace T := Lib.hid T
                replace hPR := Lib.hid hPR
                replace hM := Lib.hid hM
                replace c7 := Lib.hid c7
                clear o3 hp
                go_wp2_with fail
                rename World => wi
                go_loopw [16, 17] (fun s16 s17 wx => ∃ k : Nat, k ≤ 600 ∧ s17 = .int .i64 (k : Int) ∧ Grow wi wx p s16 L (7000 + i) k) (fun _ s17 _ => 600 - (RowKit.intOf s17).toNat)
                case atStart => exact ⟨0, by omega, rfl, .inl ⟨rfl, rfl, rfl⟩⟩
                case round =>
                  obtain ⟨k, hk, rfl, G⟩ := hrel
                  by_cases hk6 : k < 600
                  · have d6 : decide ((k : Int) < 600) = true := by simp; omega
                    have G1 := fun ty => G.step hPR.out hml hk6 ty
                    rw [c7.out] at G1
                    replace G1 := Lib.hid G1
                    clear G cc3
                    go_wp2_with (at_builtin; refine wpList_run rfl _ _ 26 rfl u16 (.slice (some ⟨wr.heap.size, 0, none⟩) 1 1) rfl rfl (fun v' w' => Grow wi w' p v' L (7000 + i) (k + 1)) (G1.out _) ?_)
                    intro v5 w5 G5
                    replace G5 := Lib.hid G5
                    clear G1
                    go_wp2
                    go_roundw
                    case rel => exact ⟨k + 1, by omega, by go_num, G5.out⟩
                    case measure => simp [RowKit.intOf]; omega
                  · obtain rfl : k = 600 := by omega
                    have hQ := G.done (N := N) (by omega) T.out.sz
                    have hQf : L ++ List.replicate 600 (7000 + i) = grownL (ns i) i := by rw [← hM.out]; rfl
                    rw [hQf] at hQ
                    have T5 := T.out.below G.b
                    obtain ⟨Ag, cg, hv, -⟩ := hQ.nums
                    subst hv
                    have push4 := fun ty => T5.push4 _ _ hQ (by rw [hgs]; exact fam_get _ hlt) (by omega) ty
                    generalize (grownL (ns i) i).length = gl at *
                    replace push4 := Lib.hid push4
                    clear G hQ hQf T5 T hPR cc3
                    go_wp2_with (at_builtin; refine wpList_run rfl _ _ 23 rfl u14 (.slice (some ⟨wr.heap.size, 0, none⟩) 1 1) rfl rfl (fun v' w' => Told w w' N (.slice (some ⟨g3, 0, none⟩) n c3) v' ps (gs ++ [.slice Ag gl cg]) (famM ns n) (famG ns n)) (push4.out _) ?_)
                    intro v6 w6 T6
                    replace T6 := Lib.hid T6
                    clear push4
                    go_wp2
                    go_roundw
                    case rel => exact ⟨i + 1, _, by omega, by go_num, by simp [hgs], T6.out⟩
                    case measure => simp [RowKit.intOf]; omega
              · obtain rfl : n = i := by omega
                obtain ⟨A5, c5, hv5⟩ := own_slice T.o4
                rw [hgs] at hv5
                subst hv5
                replace T := Lib.hid T
                clear hlt
                go_wp2_with fail
                go_loop [18, 19] (fun s18 s19 => ∃ i : Nat, i ≤ n ∧ s18 = .int .i64 (i : Int)) (fun s18 _ => n - (RowKit.intOf s18).toNat)
                case atStart => exact ⟨0, Nat.zero_le _, rfl⟩
                case round =>
                  obtain ⟨i, hi, rfl⟩ := hrel
                  by_cases hlt : i < n
                  · have o3 := T.out.o3
                    have o4 := T.out.o4
                    rw [hn.out] at o3
                    rw [hgs] at o4
                    obtain ⟨g3, p, rfl, hp, cc3⟩ := own_at' o3 hlt
                    obtain ⟨g5, g, rfl, hg, cc5⟩ := own_at' o4 hlt
                    obtain ⟨Ap, rfl, np⟩ := (T.out.pr i p _ hp (fam_get _ hlt)).nums
                    obtain ⟨Ag, cg, rfl, ng⟩ := (T.out.qr i g _ hg (fam_get _ hlt)).nums
                    have gp := fun k hk => marked_get (ns i) i k hk
                    have gl := fun k hk => grown_low (ns i) i k hk
                    have gh := fun k hk => grown_high (ns i) i k hk
                    have hq := hnb.out i
                    have lm := marked_len (ns i) i
                    have lg := grownL_len (ns i) i
                    generalize marked (ns i) i = L1 at *
                    generalize grownL (ns i) i = L2 at *
                    generalize ns i = q at *
                    rw [lm] at cc3
                    rw [lg] at cc5
                    replace lm := Lib.hid lm
                    replace lg := Lib.hid lg
                    have w1 : IntKind.u32.wrap (1000 + (i : Int)) = 1000 + (i : Int) := by rw [IntKind.wrap_u32]; omega
                    have w7 : IntKind.u32.wrap (7000 + (i : Int)) = 7000 + (i : Int) := by rw [IntKind.wrap_u32]; omega
                    clear o3 o4 hp hg
                    go_wp2_with fail
                    go_loop [19] (fun s19 => ∃ k : Nat, k ≤ q + 600 ∧ s19 = .int .i64 (k : Int)) (fun s19 => q + 600 - (RowKit.intOf s19).toNat)
                    case atStart => exact ⟨0, Nat.zero_le _, rfl⟩
                    case round =>
                      obtain ⟨k, hk, rfl⟩ := hrel
                      by_cases hk6 : k < q + 600
                      · obtain ⟨b2, f2, rfl, hb2, d2⟩ := ng.at_ k (by rw [lg.out]; exact hk6)
                        have e0 : decide ((k : Int) < (q : Int) + 600) = true := by simp; omega
                        by_cases hkq : k < q
                        · obtain ⟨b1, f1, rfl, hb1, d1⟩ := np.at_ k (by rw [lm.out]; exact hkq)
                          rw [gp k (by rw [lm.out]; exact hkq)] at d1
                          rw [gl k (by rw [lg.out]; exact hk6) hkq] at d2
                          have e1 : decide ((k : Int) < (q : Int)) = true := by simp; omega
                          have e2 : decide ((q : Int) ≤ (k : Int)) = false := by simp; omega
                          clear gp gl gh np ng
                          go_wp2
                          go_round
                          case rel => exact ⟨k + 1, by omega, by go_num⟩
                          case measure => simp [RowKit.intOf]; omega
                        · rw [gh k (by rw [lg.out]; exact hk6) (by omega)] at d2
                          have e1 : decide ((k : Int) < (q : Int)) = false := by simp; omega
                          have e2 : decide ((q : Int) ≤ (k : Int)) = true := by simp; omega
                          clear gp gl gh np ng
                          go_wp2
                          go_round
                          case rel => exact ⟨k + 1, by omega, by go_num⟩
                          case measure => simp [RowKit.intOf]; omega
                      · obtain rfl : k = q + 600 := by omega
                        have e0 : decide ((((q + 600 : Nat)) : Int) < (q : Int) + 600) = false := by simp
                        go_wp2
                        go_round
                        case rel => exact ⟨i + 1, by omega, by go_num⟩
                        case measure => simp [RowKit.intOf]; omega
                  · obtain rfl : n = i := by omega
                    have kc := fun (w : World) (C : Array Value) (n c : Nat) => Lib.run_convert_bytes_const (P := Tryd.prog) w 38 5 C n c Tryd.underlying38 Tryd.underlying5
                    have hsN := T.out.sz
                    have hbN := T.out.b
                    have PY := Lib.hid (pointsYes wr [115] 2 (by simp) (by omega) (hTB.out wr hbN))
                    have N0 := Lib.hid (numC 0 (by omega))
                    clear T hlt hnb
                    go_wp2_with fail
                    refine PY.out.mono ?_
                    rintro e wp ⟨rfl, rp, bp⟩
                    have cp := rp.cell 1 (by simp [ptsL])
                    rw [pts_s1] at cp
                    have hgp : wr.heap.size < wp.heap.size := rp.lt
                    have hbP : Below N w wp := hbN.trans (bp.mono hsN)
                    generalize wr.heap.size = gp at *
                    clear PY rp bp
                    have hcp : ∀ o, (wp.alloc o).cell? ⟨gp, 1, none⟩ = some (.int .u32 (pointN (sumB Begin [115, 45, 49]) : Int)) := fun o => (World.cell?_alloc_lt wp o ⟨gp, 1, none⟩ hgp).trans cp
                    have kcD : (convert 38 38 (.slice (some ⟨wp.heap.size, 0, none⟩) 3 3)).run Tryd.prog (wp.alloc (.cells #[.int .u8 115, .int .u8 45, .int .u8 49] 5)).drew = .ok (.slice (some ⟨wp.heap.size, 0, none⟩) 3 3) (wp.alloc (.cells #[.int .u8 115, .int .u8 45, .int .u8 49] 5 (3, 4))).drew :=
                      kc wp.drew #[.int .u8 115, .int .u8 45, .int .u8 49] 3 3
                    have S1 : ∀ W : World, W.heap = (wp.alloc (.cells #[.int .u8 115, .int .u8 45, .int .u8 49] 5 (3, 4))).heap → Calls Tryd.prog 11 #[.slice (some ⟨wp.heap.size, 0, none⟩) 3 3] W fun e w' => e = .returned (.int .u64 ((sumB Begin [115, 45, 49] : Nat) : Int)) ∧ W = w' := fun W hW => by
                      have bb := bytes_const wp (3, 4) [115, 45, 49] #[.int .u8 115, .int .u8 45, .int .u8 49] (by rfl)
                      exact sumC (some ⟨wp.heap.size, 0, none⟩) 3 _ [115, 45, 49] W (Row.keep bb fun p _ => by simp [World.cell?, hW]) (by unfold maxLen; simp)
                    have hM := sumB_lt Begin [115, 45, 49] (by decide)
                    have PT := Lib.hid (pointC (sumB Begin [115, 45, 49]) hM)
                    have P1 : ∀ W, Calls Tryd.prog 10 #[.int .u64 1] W fun e w' => e = .returned (.int .u32 1452414493) ∧ W = w' := fun W => by
                      have := pointC 1 (by decide) W
                      rw [show pointN 1 = 1452414493 by decide] at this
                      exact this
                    replace P1 := Lib.hid P1
                    replace S1 := Lib.hid (S1 (wp.alloc (.cells #[.int .u8 115, .int .u8 45, .int .u8 49] 5 (3, 4))).drew rfl)
                    have bA : Below N w (wp.alloc (.cells #[.int .u8 115, .int .u8 45, .int .u8 49] 5 (3, 4))) := hbP.alloc (by have := hbP.size; rw [hN.out] at this; exact this) _
                    replace bA := Lib.hid bA
                    generalize sumB Begin [115, 45, 49] = S at *
                    generalize pointN S = Z at *
                    clear hM hgp hbP hsN hbN
                    go_upto_region 43 with fail
                    rename_i a4 K6 hi1 Q2 K5 a3 K4 hi0 Q1 K3 a2 K2 Q0 K1 a1 hwt Kr a0
                    clear a1 a2 a3 a4 hwt
                    refine wp_region_noPanic ?_
                    refine wp_region_held_drew (S := fun w' => w'.cell? ⟨gp, 1, none⟩ = some (.int .u32 (Z : Int))) (by kernel_rfl) cp (fun hHeld => ?_)
                    refine wpAnyH_take (i := 0) (oi := _) (v := ?_) rfl (by kernel_rfl) (by kernel_rfl) (by kernel_rfl) (fun _ _ _ h => h) (Or.inl ⟨by rfl, ?_⟩) (by assumption) ?_
                    rotate_left
                    · try simp only [List.getElem_toArray, List.getElem_cons_succ, List.getElem_cons_zero]
                      intro w hSw
                      (try dsimp only at hSw)
                      go_simp
                      (try with_reducible rfl)
                    try simp only [List.getElem_toArray, List.getElem_cons_succ, List.getElem_cons_zero, Act.put, List.setIfInBounds_toArray, List.set_cons_zero, List.set_cons_succ]
                    refine wpAnyH_ready (rs := [1]) (by kernel_rfl) (by simp) ?_
                    refine AllReadyH.cons (o := _) rfl (fun K hK => ?_) ?_
                    rotate_left
                    · exact AllReadyH.nil
                    try simp only [List.getElem_toArray, List.getElem_cons_succ, List.getElem_cons_zero]
                    go_simp
                    go_at_call 8
                    refine (N0.out _).mono ?_
                    rintro e w' ⟨rfl, rfl⟩
                    go_wp2_with fail
                    refine hK.out _ _ ?_ (fun hHeld1 => ?_)
                    · (try dsimp only)
                      first | exact cp | exact hcp _
                    clear hK K
                    try simp only [List.getElem_toArray, List.getElem_cons_succ, List.getElem_cons_zero, Act.put, List.setIfInBounds_toArray, List.set_cons_zero, List.set_cons_succ]
                    refine wpAnyH_take (i := 2) (oi := _) (v := ?_) rfl (by kernel_rfl) (by kernel_rfl) (by kernel_rfl) (fun _ _ _ h => h) (Or.inl ⟨by rfl, ?_⟩) (by assumption) ?_
                    rotate_left
                    · try simp only [List.getElem_toArray, List.getElem_cons_succ, List.getElem_cons_zero]
                      intro w hSw
                      (try dsimp only at hSw)
                      go_simp
                      (try with_reducible rfl)
                    try simp only [List.getElem_toArray, List.getElem_cons_succ, List.getElem_cons_zero, Act.put, List.setIfInBounds_toArray, List.set_cons_zero, List.set_cons_succ]
                    refine wpAnyH_take (i := 3) (oi := _) (v := ?_) rfl (by kernel_rfl) (by kernel_rfl) (by kernel_rfl) (fun _ _ _ h => h) (Or.inl ⟨by rfl, ?_⟩) (by assumption) ?_
                    rotate_left
                    · try simp only [List.getElem_toArray, List.getElem_cons_succ, List.getElem_cons_zero]
                      intro w hSw
                      (try dsimp only at hSw)
                      go_simp
                      (try with_reducible rfl)
                    try simp only [List.getElem_toArray, List.getElem_cons_succ, List.getElem_cons_zero, Act.put, List.setIfInBounds_toArray, List.set_cons_zero, List.set_cons_succ]
                    refine wpAnyH_take (i := 4) (oi := _) (v := ?_) rfl (by kernel_rfl) (by kernel_rfl) (by kernel_rfl) (fun _ _ _ h => h) (Or.inl ⟨by rfl, ?_⟩) (by assumption) ?_
                    rotate_left
                    · try simp only [List.getElem_toArray, List.getElem_cons_succ, List.getElem_cons_zero]
                      intro w hSw
                      (try dsimp only at hSw)
                      go_simp
                      (try with_reducible rfl)
                    try simp only [List.getElem_toArray, List.getElem_cons_succ, List.getElem_cons_zero, Act.put, List.setIfInBounds_toArray, List.set_cons_zero, List.set_cons_succ]
                    refine wpAnyH_take (i := 5) (oi := _) (v := ?_) rfl (by kernel_rfl) (by kernel_rfl) (by kernel_rfl) (fun _ _ _ h => h) (Or.inl ⟨by rfl, ?_⟩) (by assumption) ?_
                    rotate_left
                    · try simp only [List.getElem_toArray, List.getElem_cons_succ, List.getElem_cons_zero]
                      intro w hSw
                      (try dsimp only at hSw)
                      go_simp
                      (try with_reducible rfl)
                    try simp only [List.getElem_toArray, List.getElem_cons_succ, List.getElem_cons_zero, Act.put, List.setIfInBounds_toArray, List.set_cons_zero, List.set_cons_succ]
                    refine wpAnyH_take (i := 6) (oi := _) (v := ?_) rfl (by kernel_rfl) (by kernel_rfl) (by kernel_rfl) (fun _ _ _ h => h) (Or.inl ⟨by rfl, ?_⟩) (by assumption) ?_
                    rotate_left
                    · try simp only [List.getElem_toArray, List.getElem_cons_succ, List.getElem_cons_zero]
                      intro w hSw
                      (try dsimp only at hSw)
                      go_simp
                      (try with_reducible rfl)
                    try simp only [List.getElem_toArray, List.getElem_cons_succ, List.getElem_cons_zero, Act.put, List.setIfInBounds_toArray, List.set_cons_zero, List.set_cons_succ]
                    refine wpAnyH_take (i := 7) (oi := _) (v := ?_) rfl (by kernel_rfl) (by kernel_rfl) (by kernel_rfl) (fun _ _ _ h => h) (Or.inl ⟨by rfl, ?_⟩) (by assumption) ?_
                    rotate_left
                    · try simp only [List.getElem_toArray, List.getElem_cons_succ, List.getElem_cons_zero]
                      intro w hSw
                      (try dsimp only at hSw)
                      go_simp
                      (try with_reducible rfl)
                    try simp only [List.getElem_toArray, List.getElem_cons_succ, List.getElem_cons_zero, Act.put, List.setIfInBounds_toArray, List.set_cons_zero, List.set_cons_succ]
                    refine wpAnyH_take (i := 8) (oi := _) (v := ?_) rfl (by kernel_rfl) (by kernel_rfl) (by kernel_rfl) (fun _ _ _ h => h) (Or.inl ⟨by rfl, ?_⟩) (by assumption) ?_
                    rotate_left
                    · try simp only [List.getElem_toArray, List.getElem_cons_succ, List.getElem_cons_zero]
                      intro w hSw
                      (try dsimp only at hSw)
                      go_simp
                      (try with_reducible rfl)
                    try simp only [List.getElem_toArray, List.getElem_cons_succ, List.getElem_cons_zero, Act.put, List.setIfInBounds_toArray, List.set_cons_zero, List.set_cons_succ]
                    refine wpAnyH_take (i := 9) (oi := _) (v := ?_) rfl (by kernel_rfl) (by kernel_rfl) (by kernel_rfl) (fun _ _ _ h => h) (Or.inl ⟨by rfl, ?_⟩) (by assumption) ?_
                    rotate_left
                    · try simp only [List.getElem_toArray, List.getElem_cons_succ, List.getElem_cons_zero]
                      intro w hSw
                      (try dsimp only at hSw)
                      go_simp
                      (try with_reducible rfl)
                    try simp only [List.getElem_toArray, List.getElem_cons_succ, List.getElem_cons_zero, Act.put, List.setIfInBounds_toArray, List.set_cons_zero, List.set_cons_succ]
                    refine wpAnyH_take (i := 10) (oi := _) (v := ?_) rfl (by kernel_rfl) (by kernel_rfl) (by kernel_rfl) (fun _ _ _ h => h) (Or.inl ⟨by rfl, ?_⟩) (by assumption) ?_
                    rotate_left
                    · try simp only [List.getElem_toArray, List.getElem_cons_succ, List.getElem_cons_zero]
                      intro w hSw
                      (try dsimp only at hSw)
                      go_simp
                      (try with_reducible rfl)
                    try simp only [List.getElem_toArray, List.getElem_cons_succ, List.getElem_cons_zero, Act.put, List.setIfInBounds_toArray, List.set_cons_zero, List.set_cons_succ]
                    refine wpAnyH_take (i := 11) (oi := _) (v := ?_) rfl (by kernel_rfl) (by kernel_rfl) (by kernel_rfl) (fun _ _ _ h => h) (Or.inl ⟨by rfl, ?_⟩) (by assumption) ?_
                    rotate_left
                    · try simp only [List.getElem_toArray, List.getElem_cons_succ, List.getElem_cons_zero]
                      intro w hSw
                      (try dsimp only at hSw)
                      go_simp
                      (try with_reducible rfl)
                    try simp only [List.getElem_toArray, List.getElem_cons_succ, List.getElem_cons_zero, Act.put, List.setIfInBounds_toArray, List.set_cons_zero, List.set_cons_succ]
                    refine wpAnyH_ready (rs := [12]) (by kernel_rfl) (by simp) ?_
                    refine AllReadyH.cons (o := _) rfl (fun K hK => ?_) ?_
                    rotate_left
                    · exact AllReadyH.nil
                    try simp only [List.getElem_toArray, List.getElem_cons_succ, List.getElem_cons_zero]
                    go_simp
                    refine hK.out _ _ ?_ (fun hHeld12 => ?_)
                    · (try dsimp only)
                      first | exact cp | exact hcp _
                    clear hK K
                    try simp only [List.getElem_toArray, List.getElem_cons_succ, List.getElem_cons_zero, Act.put, List.setIfInBounds_toArray, List.set_cons_zero, List.set_cons_succ]
                    refine wpAnyH_ready (rs := [13]) (by kernel_rfl) (by simp) ?_
                    refine AllReadyH.cons (o := _) rfl (fun K hK => ?_) ?_
                    rotate_left
                    · exact AllReadyH.nil
                    try simp only [List.getElem_toArray, List.getElem_cons_succ, List.getElem_cons_zero]
                    go_simp
                    refine hK.out _ _ ?_ (fun hHeld13 => ?_)
                    · (try dsimp only)
                      first | exact cp | exact hcp _
                    clear hK K
                    try simp only [List.getElem_toArray, List.getElem_cons_succ, List.getElem_cons_zero, Act.put, List.setIfInBounds_toArray, List.set_cons_zero, List.set_cons_succ]
                    refine wpAnyH_ready (rs := [14]) (by kernel_rfl) (by simp) ?_
                    refine AllReadyH.cons (o := _) rfl (fun K hK => ?_) ?_
                    rotate_left
                    · exact AllReadyH.nil
                    try simp only [List.getElem_toArray, List.getElem_cons_succ, List.getElem_cons_zero]
                    go_simp
                    go_at_call 11
                    refine S1.out.mono ?_
                    rintro e w' ⟨rfl, rfl⟩
                    go_wp2_with fail
                    refine hK.out _ _ ?_ (fun hHeld14 => ?_)
                    · (try dsimp only)
                      first | exact cp | exact hcp _
                    clear hK K
                    try simp only [List.getElem_toArray, List.getElem_cons_succ, List.getElem_cons_zero, Act.put, List.setIfInBounds_toArray, List.set_cons_zero, List.set_cons_succ]
                    refine wpAnyH_ready (rs := [15]) (by kernel_rfl) (by simp) ?_
                    refine AllReadyH.cons (o := _) rfl (fun K hK => ?_) ?_
                    rotate_left
                    · exact AllReadyH.nil
                    try simp only [List.getElem_toArray, List.getElem_cons_succ, List.getElem_cons_zero]
                    go_simp
                    go_at_call 10
                    refine (PT.out _).mono ?_
                    rintro e w' ⟨rfl, rfl⟩
                    go_wp2_with fail
                    refine hK.out _ _ ?_ (fun hHeld15 => ?_)
                    · (try dsimp only)
                      first | exact cp | exact hcp _
                    clear hK K
                    try simp only [List.getElem_toArray, List.getElem_cons_succ, List.getElem_cons_zero, Act.put, List.setIfInBounds_toArray, List.set_cons_zero, List.set_cons_succ]
                    refine wpAnyH_take (i := 16) (oi := _) (v := ?_) rfl (by kernel_rfl) (by kernel_rfl) (by kernel_rfl) (fun _ _ _ h => h) (Or.inl ⟨by rfl, ?_⟩) (by assumption) ?_
                    rotate_left
                    · try simp only [List.getElem_toArray, List.getElem_cons_succ, List.getElem_cons_zero]
                      intro w hSw
                      (try dsimp only at hSw)
                      go_simp
                      (try with_reducible rfl)
                    try simp only [List.getElem_toArray, List.getElem_cons_succ, List.getElem_cons_zero, Act.put, List.setIfInBounds_toArray, List.set_cons_zero, List.set_cons_succ]
                    refine wpAnyH_take (i := 17) (oi := _) (v := ?_) rfl (by kernel_rfl) (by kernel_rfl) (by kernel_rfl) (fun _ _ _ h => h) (Or.inl ⟨by rfl, ?_⟩) (by assumption) ?_
                    rotate_left
                    · try simp only [List.getElem_toArray, List.getElem_cons_succ, List.getElem_cons_zero]
                      intro w hSw
                      (try dsimp only at hSw)
                      go_simp
                      (try with_reducible rfl)
                    try simp only [List.getElem_toArray, List.getElem_cons_succ, List.getElem_cons_zero, Act.put, List.setIfInBounds_toArray, List.set_cons_zero, List.set_cons_succ]
                    refine wpAnyH_take (i := 18) (oi := _) (v := ?_) rfl (by kernel_rfl) (by kernel_rfl) (by kernel_rfl) (fun _ _ _ h => h) (Or.inl ⟨by rfl, ?_⟩) (by assumption) ?_
                    rotate_left
                    · try simp only [List.getElem_toArray, List.getElem_cons_succ, List.getElem_cons_zero]
                      intro w hSw
                      (try dsimp only at hSw)
                      go_simp
                      (try with_reducible rfl)
                    try simp only [List.getElem_toArray, List.getElem_cons_succ, List.getElem_cons_zero, Act.put, List.setIfInBounds_toArray, List.set_cons_zero, List.set_cons_succ]
                    refine wpAnyH_ready (rs := [19]) (by kernel_rfl) (by simp) ?_
                    refine AllReadyH.cons (o := _) rfl (fun K hK => ?_) ?_
                    rotate_left
                    · exact AllReadyH.nil
                    try simp only [List.getElem_toArray, List.getElem_cons_succ, List.getElem_cons_zero]
                    go_simp
                    go_at_call 10
                    refine (P1.out _).mono ?_
                    rintro e w' ⟨rfl, rfl⟩
                    go_wp2_with fail
                    refine hK.out _ _ ?_ (fun hHeld19 => ?_)
                    · (try dsimp only)
                      first | exact cp | exact hcp _
                    clear hK K
                    try simp only [List.getElem_toArray, List.getElem_cons_succ, List.getElem_cons_zero, Act.put, List.setIfInBounds_toArray, List.set_cons_zero, List.set_cons_succ]
                    refine wpAnyH_take (i := 20) (oi := _) (v := ?_) rfl (by kernel_rfl) (by kernel_rfl) (by kernel_rfl) (fun _ _ _ h => h) (Or.inl ⟨by rfl, ?_⟩) (by assumption) ?_
                    rotate_left
                    · try simp only [List.getElem_toArray, List.getElem_cons_succ, List.getElem_cons_zero]
                      intro w hSw
                      (try dsimp only at hSw)
                      go_simp
                      (try with_reducible rfl)
                    try simp only [List.getElem_toArray, List.getElem_cons_succ, List.getElem_cons_zero, Act.put, List.setIfInBounds_toArray, List.set_cons_zero, List.set_cons_succ]
                    refine wpAnyH_take (i := 21) (oi := _) (v := ?_) rfl (by kernel_rfl) (by kernel_rfl) (by kernel_rfl) (fun _ _ _ h => h) (Or.inl ⟨by rfl, ?_⟩) (by assumption) ?_
                    rotate_left
                    · try simp only [List.getElem_toArray, List.getElem_cons_succ, List.getElem_cons_zero]
                      intro w hSw
                      (try dsimp only at hSw)
                      go_simp
                      (try with_reducible rfl)
                    try simp only [List.getElem_toArray, List.getElem_cons_succ, List.getElem_cons_zero, Act.put, List.setIfInBounds_toArray, List.set_cons_zero, List.set_cons_succ]
                    refine wpAnyH_take (i := 22) (oi := _) (v := ?_) rfl (by kernel_rfl) (by kernel_rfl) (by kernel_rfl) (fun _ _ _ h => h) (Or.inl ⟨by rfl, ?_⟩) (by assumption) ?_
                    rotate_left
                    · try simp only [List.getElem_toArray, List.getElem_cons_succ, List.getElem_cons_zero]
                      intro w hSw
                      (try dsimp only at hSw)
                      go_simp
                      (try with_reducible rfl)
                    try simp only [List.getElem_toArray, List.getElem_cons_succ, List.getElem_cons_zero, Act.put, List.setIfInBounds_toArray, List.set_cons_zero, List.set_cons_succ]
                    refine wpAnyH_done (by kernel_rfl) ?_ _
                    refine NoPanic.normal ?_
                    go_wp2
                    go_ret
                    exact ⟨by first | rfl | kernel_rfl, below_drewN bA.out 1⟩
end Go.Proofs.YtbcohjddnelldaaDoor.Pts
