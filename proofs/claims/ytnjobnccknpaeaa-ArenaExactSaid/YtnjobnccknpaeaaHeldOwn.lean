/-
  The walk of Held.Own: what is held is what was told; then it is marked, grown, looked at, and held no more.
-/
import Derived.Test.YtnjobnccknpaeaaHeldRows
import Derived.StillTailTactics
namespace Go.Proofs.Ytnjobnccknpaeaa.Held
open Go.RowKit Base Tail
set_option linter.unusedVariables false

/-- Block h is what is held: the lists that were told, and what each must hold. -/
structure HeldAt (w : World) (h N : Nat) (vg vw : Value) (ps qs : List Value) (Ls : List (List UInt8)) (size : Nat) : Prop where
  head : w.heap[h]? = some (.cells #[vg, vw, .int .i64 (size : Int)] 111 (0, 0))
  og : w.ownsRow N 38 1 vg ps.length ps
  ow : w.ownsRow N 38 1 vw qs.length qs
  apw : vg.ownBlock = none ∨ vg.ownBlock ≠ vw.ownBlock
  pr : ∀ (j : Nat) (p : Value) (L : List UInt8), ps[j]? = some p → Ls[j]? = some L → BRow w N p L
  qr : ∀ (j : Nat) (q : Value) (L : List UInt8), qs[j]? = some q → Ls[j]? = some L → CRow w N q L
  ap : ∀ (i j : Nat) (p p' : Value), ps[i]? = some p → ps[j]? = some p' → i ≠ j → p.ownBlock = none ∨ p.ownBlock ≠ p'.ownBlock
  len : ∀ L ∈ Ls, L.length ≤ 1073741824
  lp : ps.length = Ls.length
  lq : qs.length = Ls.length
  hN : N ≤ h
/-- Its blocks. -/
def HF (h : Nat) (vg vw : Value) (ps qs : List Value) (b : Nat) : Prop := b = h ∨ vg.ownBlock = some b ∨ vw.ownBlock = some b ∨ Feet ps b ∨ Feet qs b
theorem HeldAt.keep {w w' : World} {h N size : Nat} {vg vw : Value} {ps qs : List Value} {Ls : List (List UInt8)} (H : HeldAt w h N vg vw ps qs Ls size) (hk : ∀ b, HF h vg vw ps qs b → w'.heap[b]? = w.heap[b]?) : HeldAt w' h N vg vw ps qs Ls size :=
  ⟨(hk h (.inl rfl)).trans H.head, own_keep H.og fun b hb => hk b (.inr (.inl hb)), own_keep H.ow fun b hb => hk b (.inr (.inr (.inl hb))), H.apw, fun j p L hp hL => (H.pr j p L hp hL).keep fun b hb => hk b (.inr (.inr (.inr (.inl ⟨j, p, hp, hb⟩)))),
    fun j q L hq hL => own_keep (H.qr j q L hq hL) fun b hb => hk b (.inr (.inr (.inr (.inr ⟨j, q, hq, hb⟩)))), H.ap, H.len, H.lp, H.lq, H.hN⟩
theorem HeldAt.lt {w : World} {h N size : Nat} {vg vw : Value} {ps qs : List Value} {Ls : List (List UInt8)} (H : HeldAt w h N vg vw ps qs Ls size) : ∀ b, HF h vg vw ps qs b → N ≤ b ∧ b < w.heap.size := by
  rintro b (rfl | h1 | h1 | ⟨j, p, hp, h1⟩ | ⟨j, q, hq, h1⟩)
  · exact ⟨H.hN, heap_lt H.head⟩
  · exact H.og.lt b h1
  · exact H.ow.lt b h1
  · exact (H.pr j p _ hp (List.getElem?_eq_getElem (by rw [← H.lp]; exact (List.getElem?_eq_some_iff.1 hp).1))).lt b h1
  · exact (H.qr j q _ hq (List.getElem?_eq_getElem (by rw [← H.lq]; exact (List.getElem?_eq_some_iff.1 hq).1))).lt b h1
theorem HeldAt.drewN {w : World} {h N size : Nat} {vg vw : Value} {ps qs : List Value} {Ls : List (List UInt8)} (H : HeldAt w h N vg vw ps qs Ls size) (n : Nat) : HeldAt (w.drewN n) h N vg vw ps qs Ls size := H.keep fun _ _ => rfl
theorem HeldAt.cells {w : World} {h N size : Nat} {vg vw : Value} {ps qs : List Value} {Ls : List (List UInt8)} (H : HeldAt w h N vg vw ps qs Ls size) :
    w.cell? ⟨h, 0, none⟩ = some vg ∧ w.cell? ⟨h, 1, none⟩ = some vw ∧ w.cell? ⟨h, 2, none⟩ = some (.int .i64 (size : Int)) :=
  ⟨by rw [cell_of_row w h 0 _ _ (0, 0) H.head]; rfl, by rw [cell_of_row w h 1 _ _ (0, 0) H.head]; rfl, by rw [cell_of_row w h 2 _ _ (0, 0) H.head]; rfl⟩
theorem HeldAt.nofeet {w : World} {h N size : Nat} {vg vw : Value} {ps qs : List Value} {Ls : List (List UInt8)} (H : HeldAt w h N vg vw ps qs Ls size) : ¬ Feet ps h := by
  rintro ⟨j, p, hp, hb⟩
  have hj : j < Ls.length := by rw [← H.lp]; exact (List.getElem?_eq_some_iff.1 hp).1
  have hpr := H.pr j p _ hp (List.getElem?_eq_getElem hj)
  generalize Ls[j] = L at hpr
  rcases hpr with ⟨-, rfl⟩ | ⟨g, rfl, -, h1⟩
  · simp [Value.ownBlock] at hb
  · simp only [Value.ownBlock, Option.some.injEq] at hb
    subst hb
    have h2 := H.head
    unfold BB at h1
    rw [h2] at h1
    injection h1 with h1
    injection h1 with _ h3
    exact absurd h3 (by decide)
def lensOf (Ls : List (List UInt8)) (j : Nat) : Nat := (Ls[j]?.getD []).length
theorem HeldAt.marks {w0 w : World} {h N size : Nat} {vg vw : Value} {ps qs : List Value} {Ls : List (List UInt8)} (H : HeldAt w h N vg vw ps qs Ls size) (hw : ∃ m, w0.drewN m = w) : Marks w0 w N vg ps (lensOf Ls) 0 0 := by
  obtain ⟨m, rfl⟩ := hw
  refine ⟨H.og, fun g hg => (H.og.lt g hg).2, fun j p hp => ?_, fun j p hp g hg => ?_, H.ap, fun j => ?_, (Only.refl _ _).drewN m⟩
  · have hj : j < Ls.length := by rw [← H.lp]; exact (List.getElem?_eq_some_iff.1 hp).1
    exact ⟨Ls[j], by simp [lensOf, hj], H.pr j p _ hp (List.getElem?_eq_getElem hj), fun t _ ht => by omega⟩
  · exact (H.lt g (.inr (.inr (.inr (.inl ⟨j, p, hp, hg⟩))))).2
  · unfold lensOf
    rcases Nat.lt_or_ge j Ls.length with hj | hj
    · rw [List.getElem?_eq_getElem hj]
      exact H.len _ (List.getElem_mem hj)
    · rw [List.getElem?_eq_none hj]; simp
theorem HeldAt.emptied {w w' : World} {h N size : Nat} {vg vw : Value} {ps qs : List Value} {Ls : List (List UInt8)} (H : HeldAt w h N vg vw ps qs Ls size) (hw : w'.heap[h]? = some (.cells #[.slice none 0 0, .slice none 0 0, .int .i64 0] 111 (0, 0))) :
    HeldAt w' h N (.slice none 0 0) (.slice none 0 0) [] [] [] 0 :=
  ⟨hw, World.ownsRow_nil _ _ _ _, World.ownsRow_nil _ _ _ _, .inl rfl, by simp, by simp, by simp, by simp, rfl, rfl, H.hN⟩
theorem quiet_drew {P : Program} {f : FuncId} {args : Array Value} {w : World} {n : Nat} {v : Value}
    (h : Calls P f args (w.drewN n) fun e w' => e = .returned v ∧ ∃ m, (w.drewN n).drewN m = w') : Calls P f args (w.drewN n) fun e w'' => e = .returned v ∧ ∃ m, w'' = w.drewN m :=
  h.mono fun _ _ ⟨he, m, hm⟩ => ⟨he, n + m, by rw [← hm, World.drewN_drewN]⟩

set_option maxRecDepth 100000 in
set_option maxHeartbeats 3200000 in
theorem ownAllC (w : World) (h N size : Nat) (vg vw : Value) (ps qs : List Value) (Ls : List (List UInt8)) (H : HeldAt w h N vg vw ps qs Ls size) (hn1 : ps.length ≤ 1000) :
    Calls Try.prog 34 #[.pointer (some ⟨h, 0, none⟩)] w fun e w' => e = .returned (.bool true) ∧ HeldAt w' h N (.slice none 0 0) (.slice none 0 0) [] [] [] 0 ∧ Only (HF h vg vw ps qs) w w' := by
  obtain ⟨A3, c3, rfl⟩ := own_slice H.og
  obtain ⟨A4, c4, rfl⟩ := own_slice H.ow
  have hlp := H.lp
  have hlq := H.lq
  replace hlq := hlq.trans hlp.symm
  rw [hlq] at H ⊢
  generalize hn : ps.length = n at *
  replace hn := Lib.hid hn
  replace hlp := Lib.hid hlp
  replace hlq := Lib.hid hlq
  obtain ⟨k0, k1, -⟩ := H.cells
  replace H := Lib.hid H
  go_enter Try.func34, Try.ntmps34
  go_wp2_with fail
  go_loopw [4] (fun s4 wr => ∃ i m : Nat, i ≤ n ∧ s4 = .int .i64 (i : Int) ∧ w.drewN m = wr) (fun s4 _ => n - (RowKit.intOf s4).toNat)
  case atStart => exact ⟨0, 0, Nat.zero_le _, rfl, rfl⟩
  case round =>
    obtain ⟨i, m, hi, rfl, hm⟩ := hrel
    have Hr : HeldAt wr h N (.slice A3 n c3) (.slice A4 n c4) ps qs Ls size := by rw [← hm]; exact H.out.drewN m
    by_cases hlt : i < n
    · have o3 := Hr.og
      have o4 := Hr.ow
      rw [hn.out] at o3
      rw [hlq.out] at o4
      obtain ⟨g3, p, rfl, hp, cc3⟩ := own_at' o3 hlt
      obtain ⟨g4, q, rfl, hq, cc4⟩ := own_at' o4 hlt
      have hLi : i < Ls.length := by rw [← hlp.out]; exact hlt
      obtain ⟨Ap, rfl, hnp⟩ := (Hr.pr i p _ hp (List.getElem?_eq_getElem hLi)).bytes
      obtain ⟨Aq, cq, rfl, hnq⟩ := own_bytes (Hr.qr i q _ hq (List.getElem?_eq_getElem hLi))
      have k1r : wr.cell? ⟨h, 1, none⟩ = some (.slice (some ⟨g4, 0, none⟩) n c4) := Hr.cells.2.1
      generalize Ls[i] = L at *
      have EQ := Lib.hid (fun k => quiet_left (w := wr) (n := k) ((Book.eqC Ap Aq L.length cq _ L L (wr.drewN k) hnp hnq).mono (fun e w' ⟨h1, h2⟩ => ⟨h1.trans (by rw [show (L == L) = true by simp]), h2⟩)))
      clear o3 o4 hp hq hnp hnq Hr k0 k1
      go_wp2_with fail
      go_quiet ((go_at_call 23; with_reducible exact (EQ.out _)))
      have hm2 : w.drewN (m + nq) = wr.drewN nq := by rw [← hm]; exact (World.drewN_drewN _ _ _).symm
      go_wp2
      go_roundw
      case rel => exact ⟨i + 1, _, by omega, by go_num, hm2⟩
      case measure => simp [RowKit.intOf]; omega
    · obtain rfl : n = i := by omega
      have M0 := Lib.hid (Hr.marks ⟨m, hm⟩)
      have hh0 := Lib.hid (show ¬ Feet ps h from Hr.nofeet)
      generalize lensOf Ls = ns at *
      clear Hr hm hlt k0 k1
      go_wp2_with fail
      rename World => wq
      go_loopw [7, 8] (fun s7 s8 wr => ∃ i : Nat, i ≤ n ∧ s7 = .int .i64 (i : Int) ∧ Marks w wr N (.slice A3 n c3) ps ns i 0) (fun s7 _ _ => n - (RowKit.intOf s7).toNat)
      case atStart => exact ⟨0, Nat.zero_le _, rfl, M0.out⟩
      case round =>
        obtain ⟨i, hi, rfl, M⟩ := hrel
        clear M0
        by_cases hlt : i < n
        · have hnb := M.nb i
          obtain ⟨p, hp⟩ : ∃ p, ps[i]? = some p := ⟨_, List.getElem?_eq_getElem (by rw [hn.out]; exact hlt)⟩
          replace M := Lib.hid M
          go_wp2_with fail
          go_loopw [8] (fun s8 wx => ∃ k : Nat, k ≤ ns i ∧ s8 = .int .i64 (k : Int) ∧ Marks w wx N (.slice A3 n c3) ps ns i k) (fun s8 _ => ns i - (RowKit.intOf s8).toNat)
          case atStart => exact ⟨0, Nat.zero_le _, rfl, M.out⟩
          case round =>
            obtain ⟨k, hk, rfl, Mk⟩ := hrel
            clear M
            have o3 := Mk.o3
            rw [hn.out] at o3
            obtain ⟨g3, p', rfl, hp', cc3⟩ := own_at' o3 hlt
            rw [hp] at hp'
            injection hp' with hp'
            subst hp'
            by_cases hkn : k < ns i
            · obtain ⟨g, z, rfl, cz, cf, M2⟩ := Mk.store hp hkn
              have OC := Lib.hid ((ownC i k (by omega) (by omega) wr.drew).mono (fun e w' ⟨h1, h2⟩ => (⟨h1, h2.symm⟩ : e = _ ∧ w' = wr.drew)))
              have M3 := Lib.hid (M2.drewN 1)
              replace Mk := Lib.hid Mk
              replace hp := Lib.hid hp
              clear o3 M2
              generalize ns i = q at *
              generalize ((ownB i k).toNat : Int) = zz at *
              go_wp2_with fail
              go_still_tail 9, (by kernel_rfl)
              still_call OC.out
              repeat still_step
              try refine wpStill_nil ?_
              change wpList _ _ _ _ _ wr.drew
              have cf1 : wr.drew.frozen? ⟨g, k, none⟩ = false := cf
              have cz1 : wr.drew.cell? ⟨g, k, none⟩ = some z := cz
              have M4 := Lib.hid (show Marks w (wr.drew.setCell ⟨g, k, none⟩ (.int .u8 zz)) N (.slice (some ⟨g3, 0, none⟩) n c3) ps ns i (k + 1) from M3.out)
              clear cf cz M3
              generalize wr.drew = wy at *
              go_wp2
              go_roundw
              case rel => exact ⟨k + 1, by omega, by go_num, M4.out⟩
              case measure => simp [RowKit.intOf]; omega
            · obtain rfl : k = ns i := by omega
              obtain ⟨L, hL, hPR, -⟩ := Mk.pr i p hp
              obtain ⟨Ap, rfl, -⟩ := hPR.bytes
              have M2 := Lib.hid Mk.next
              rw [hL] at *
              clear o3 hPR hL Mk hp
              generalize ns i = q at *
              go_wp2_with fail
              go_roundw
              case rel => exact ⟨i + 1, by omega, by go_num, M2.out⟩
              case measure => simp [RowKit.intOf]; omega
        · obtain rfl : n = i := by omega
          have G0 : Grown w wr N (.slice A3 n c3) (.slice none 0 0) (.slice none 0 0) ps [] [] ns := Marks.grown (by rw [hn.out]; exact M)
          replace G0 := Lib.hid G0
          clear M hlt
          go_wp2_with fail
          rename World => wg
          go_loopw [5, 6, 9, 10, 11] (fun s5 s6 s9 s10 s11 wr => ∃ (i : Nat) (fs gs : List Value), i ≤ n ∧ s9 = .int .i64 (i : Int) ∧ fs.length = i ∧ gs.length = i ∧ Grown w wr N (.slice A3 n c3) s5 s6 ps fs gs ns) (fun _ _ s9 _ _ _ => n - (RowKit.intOf s9).toNat)
          case atStart => exact ⟨0, [], [], Nat.zero_le _, rfl, rfl, rfl, G0.out⟩
          case round =>
            obtain ⟨i, fs, gs, hi, rfl, hfs, hgs, G⟩ := hrel
            clear G0
            by_cases hlt : i < n
            · have o3 := G.o3
              rw [hn.out] at o3
              obtain ⟨g3, p, rfl, hp, cc3⟩ := own_at' o3 hlt
              have hnb := G.nb i
              have hpb := (G.pr i p hp).bytes
              rw [mrk_len] at hpb
              obtain ⟨Ap, rfl, -⟩ := hpb
              replace G := Lib.hid G
              replace hp := Lib.hid hp
              clear o3
              go_wp2_with fail
              rename World => wi
              obtain ⟨f5, hf5⟩ : ∃ f, f = u5 := ⟨_, rfl⟩
              rw [← hf5] at G
              replace hf5 := Lib.hid hf5
              go_loopw [5, 10, 11] (fun s5 s10 s11 wx => ∃ k : Nat, k ≤ 70 ∧ s11 = .int .i64 (k : Int) ∧ ((k = 0 ∧ s5 = f5 ∧ s10 = .slice Ap (ns i) (ns i) ∧ wx = wi) ∨
                (0 < k ∧ ∃ q, Grown w wx N (.slice (some ⟨g3, 0, none⟩) n c3) s5 u6 ps (fs ++ [q]) gs ns ∧ Cur w wx s10 i (ns i + k) (fs ++ [q]) gs))) (fun _ _ s11 _ => 70 - (RowKit.intOf s11).toNat)
              case atStart => exact ⟨0, by omega, rfl, .inl ⟨rfl, hf5.out.symm, rfl, rfl⟩⟩
              case round =>
                obtain ⟨k, hk, rfl, hrel⟩ := hrel
                by_cases hk7 : k < 70
                · have d7 : decide ((k : Int) < 70) = true := by simp; omega
                  rcases hrel with ⟨rfl, rfl, rfl, rfl⟩ | ⟨hk0, fq, Gk, Ck⟩
                  · have OC := Lib.hid (ownC i (ns i) (by omega) (by omega))
                    have AP := fun ty => G.out.first hp.out ty
                    simp only [bv] at AP
                    generalize ((ownB i (ns i)).toNat : Int) = z at *
                    replace AP := Lib.hid AP
                    generalize hq : ns i = q at *
                    replace hq := Lib.hid hq
                    clear G
                    go_wp2_with (first
                      | (go_at_call 70; refine (OC.out _).mono ?_; rintro e w' ⟨rfl, rfl⟩)
                      | (at_builtin; refine wpList_run rfl _ _ 38 rfl (.slice Ap q q) (.slice (some ⟨wr.heap.size, 0, none⟩) 1 1) rfl rfl (fun v' w' => Grown w w' N (.slice (some ⟨g3, 0, none⟩) n c3) u5 u6 ps fs gs ns ∧ Cur w w' v' i (q + 1) fs gs) (AP.out _) ?_))
                    intro v7 w7 G7 C7
                    obtain ⟨g7, cap7, cur7, fz7, -, hv7, -⟩ := ownT_block C7.own
                    rw [mrk_len] at hv7
                    subst hv7
                    have P5 := fun ty => G7.push5 (by rw [hq.out]; exact C7) hfs (by omega) ty
                    rw [hq.out] at P5
                    replace P5 := Lib.hid P5
                    clear AP G7 C7 OC
                    go_wp2_with (at_builtin; refine wpList_run rfl _ _ 109 rfl u5 (.slice (some ⟨w7.heap.size, 0, none⟩) 1 1) rfl rfl (fun v' w' => Grown w w' N (.slice (some ⟨g3, 0, none⟩) n c3) v' u6 ps (fs ++ [.slice (some ⟨g7, 0, none⟩) (q + 1) cap7]) gs ns ∧ Cur w w' (.slice (some ⟨g7, 0, none⟩) (q + 1) cap7) i (q + 1) (fs ++ [.slice (some ⟨g7, 0, none⟩) (q + 1) cap7]) gs) (P5.out _) ?_)
                    intro v8 w8 G8 C8
                    replace G8 := Lib.hid G8
                    replace C8 := Lib.hid C8
                    clear P5
                    go_wp2
                    go_roundw
                    case rel => exact ⟨1, by omega, by go_num, .inr ⟨by omega, _, G8.out, C8.out⟩⟩
                    case measure => simp [RowKit.intOf]
                  · have o3 := Gk.o3
                    rw [hn.out] at o3
                    obtain ⟨g3', p', e3, hp', cc⟩ := own_at' o3 hlt
                    simp only [Option.some.injEq, Addr.mk.injEq, and_true] at e3
                    subst e3
                    rw [hp.out] at hp'
                    injection hp' with hp'
                    subst hp'
                    have OC := Lib.hid (ownC i (ns i + k) (by omega) (by omega))
                    have AP := fun ty => Gk.byte Ck (by omega) (by omega) ty
                    simp only [bv] at AP
                    rw [Int.natCast_add] at OC
                    generalize ((ownB i (ns i + k)).toNat : Int) = z at *
                    have d0 : decide ((k : Int) = 0) = false := by simp; omega
                    have d1 : ((k : Int) == 0) = false := by simp; omega
                    replace AP := Lib.hid AP
                    generalize hq : ns i = q at *
                    replace hq := Lib.hid hq
                    clear Gk Ck G o3 cc3
                    go_wp2_with (first
                      | (go_at_call 70; refine (OC.out _).mono ?_; rintro e w' ⟨rfl, rfl⟩)
                      | (at_builtin; refine wpList_run rfl _ _ 38 rfl u10 (.slice (some ⟨wr.heap.size, 0, none⟩) 1 1) rfl rfl (fun v' w' => Grown w w' N (.slice (some ⟨g3, 0, none⟩) n c3) u5 u6 ps (fs ++ [fq]) gs ns ∧ Cur w w' v' i (q + k + 1) (fs ++ [fq]) gs) (AP.out _) ?_))
                    intro v7 w7 G7 C7
                    replace G7 := Lib.hid G7
                    replace C7 := Lib.hid C7
                    clear AP OC
                    go_wp2
                    go_roundw
                    case rel => exact ⟨k + 1, by omega, by go_num, .inr ⟨by omega, _, G7.out, C7.out⟩⟩
                    case measure => simp [RowKit.intOf]; omega
                · obtain rfl : k = 70 := by omega
                  rcases hrel with ⟨h0, -⟩ | ⟨-, fq, Gk, Ck⟩
                  · omega
                  obtain ⟨g7, cap7, cur7, fz7, -, hv7, -⟩ := ownT_block Ck.own
                  rw [mrk_len] at hv7
                  subst hv7
                  have P6 := fun ty => Gk.push6 Ck hgs (by omega) ty
                  generalize ns i + 70 = q7 at *
                  replace P6 := Lib.hid P6
                  clear Gk Ck G cc3
                  go_wp2_with (at_builtin; refine wpList_run rfl _ _ 109 rfl u6 (.slice (some ⟨wr.heap.size, 0, none⟩) 1 1) rfl rfl (fun v' w' => Grown w w' N (.slice (some ⟨g3, 0, none⟩) n c3) u5 v' ps (fs ++ [fq]) (gs ++ [.slice (some ⟨g7, 0, none⟩) q7 cap7]) ns) (P6.out _) ?_)
                  intro v8 w8 G8
                  replace G8 := Lib.hid G8
                  clear P6
                  go_wp2
                  go_roundw
                  case rel => exact ⟨i + 1, _, _, by omega, by go_num, by simp [hfs], by simp [hgs], G8.out⟩
                  case measure => simp [RowKit.intOf]; omega
            · obtain rfl : n = i := by omega
              have k5 := G.o5
              have k6 := G.o6
              rw [hfs] at k5
              rw [hgs] at k6
              obtain ⟨A5, c5, hv5⟩ := own_slice k5
              obtain ⟨A6, c6, hv6⟩ := own_slice k6
              subst hv5 hv6
              have hd : wr.heap[h]? = some (.cells #[.slice A3 n c3, .slice A4 n c4, .int .i64 (size : Int)] 111 (0, 0)) := (G.o.block h (heap_lt H.out.head) hh0.out).trans H.out.head
              have hO := G.o
              replace hd := Lib.hid hd
              replace hO := Lib.hid hO
              replace G := Lib.hid G
              clear hlt k5 k6
              go_wp2_with fail
              rename World => wz
              go_loopw [12] (fun s12 wx => ∃ i m : Nat, i ≤ n ∧ s12 = .int .i64 (i : Int) ∧ wz.drewN m = wx) (fun s12 _ => n - (RowKit.intOf s12).toNat)
              case atStart => exact ⟨0, 0, Nat.zero_le _, rfl, rfl⟩
              case round =>
                obtain ⟨i, m, hi, rfl, hm⟩ := hrel
                by_cases hlt : i < n
                · have Gx : Grown w wr N (.slice A3 n c3) (.slice A5 n c5) (.slice A6 n c6) ps fs gs ns := by rw [← hm]; exact G.out.drewN m
                  have o3 := Gx.o3
                  have o5 := Gx.o5
                  have o6 := Gx.o6
                  rw [hn.out] at o3
                  rw [hfs] at o5
                  rw [hgs] at o6
                  obtain ⟨g3, p, rfl, hp, cc3⟩ := own_at' o3 hlt
                  obtain ⟨g5, f, rfl, hf, cc5⟩ := own_at' o5 hlt
                  obtain ⟨g6, g, rfl, hg, cc6⟩ := own_at' o6 hlt
                  have hpb := (Gx.pr i p hp).bytes
                  have hfb := (Gx.fr i f hf).bytes
                  have hgb := (Gx.gr i g hg).bytes
                  have hnb := Gx.nb i
                  rw [mrk_len] at hpb hfb hgb
                  obtain ⟨Ap, rfl, bp⟩ := hpb
                  obtain ⟨Af, cf, rfl, bf⟩ := hfb
                  obtain ⟨Ag, cg, rfl, bg⟩ := hgb
                  have M1 := Lib.hid (fun (W : World) (hW : ∃ k, wr.drewN k = W) => markedC i (ns i) (by omega) (by omega) Ap (ns i) _ W (by obtain ⟨k, rfl⟩ := hW; exact bp))
                  have M2 := Lib.hid (fun (W : World) (hW : ∃ k, wr.drewN k = W) => markedC i (ns i + 1) (by omega) (by omega) Af cf _ W (by obtain ⟨k, rfl⟩ := hW; exact bf))
                  have M3 := Lib.hid (fun (W : World) (hW : ∃ k, wr.drewN k = W) => markedC i (ns i + 70) (by omega) (by omega) Ag cg _ W (by obtain ⟨k, rfl⟩ := hW; exact bg))
                  clear o3 o5 o6 hp hf hg bp bf bg Gx
                  generalize ns i + 1 = q1 at *
                  generalize ns i + 70 = q70 at *
                  generalize ns i = q at *
                  replace hm := Lib.hid hm
                  go_wp2_with fail
                  refine (M1.out _ ⟨0, rfl⟩).mono ?_
                  rintro e w1 ⟨rfl, m1, rfl⟩
                  go_wp2_with fail
                  refine (M2.out _ ⟨m1, rfl⟩).mono ?_
                  rintro e w2 ⟨rfl, m2, rfl⟩
                  go_wp2_with fail
                  refine (M3.out _ ⟨m1 + m2, rfl⟩).mono ?_
                  rintro e w3 ⟨rfl, m3, hw3⟩
                  replace hw3 := Lib.hid hw3
                  go_wp2
                  go_roundw
                  case rel => exact ⟨i + 1, m + (m1 + m2 + m3), by omega, by go_num, by rw [← hw3.out, ← hm.out]; simp only [World.drewN_drewN, Nat.add_assoc]⟩
                  case measure => simp [RowKit.intOf]; omega
                · obtain rfl : n = i := by omega
                  have hdr : wr.heap[h]? = some (.cells #[.slice A3 n c3, .slice A4 n c4, .int .i64 (size : Int)] 111 (0, 0)) := by rw [← hm]; exact hd.out
                  have hOr : Only (HF h (.slice A3 n c3) (.slice A4 n c4) ps qs) w wr := by rw [← hm]; exact ((hO.out.drewN m).mono fun x _ hx => .inr (.inr (.inr (.inl hx))))
                  have c0 : wr.cell? ⟨h, 0, none⟩ = some (.slice A3 n c3) := by rw [cell_of_row wr h 0 _ _ (0, 0) hdr]; rfl
                  have c1 : wr.cell? ⟨h, 1, none⟩ = some (.slice A4 n c4) := by rw [cell_of_row wr h 1 _ _ (0, 0) hdr]; rfl
                  have c2 : wr.cell? ⟨h, 2, none⟩ = some (.int .i64 (size : Int)) := by rw [cell_of_row wr h 2 _ _ (0, 0) hdr]; rfl
                  have f0 := Blk.frozen hdr 0
                  have f1 := Blk.frozen hdr 1
                  have f2 := Blk.frozen hdr 2
                  have b3 := ((Blk.set_ hdr 0 (.slice none 0 0)).set_ 1 (.slice none 0 0)).set_ 2 (.int .i64 0)
                  have o3 := ((hOr.setCell (p := ⟨h, 0, none⟩) (fun _ => .inl rfl) (.slice none 0 0)).setCell (p := ⟨h, 1, none⟩) (fun _ => .inl rfl) (.slice none 0 0)).setCell (p := ⟨h, 2, none⟩) (fun _ => .inl rfl) (.int .i64 0)
                  have H3 := Lib.hid (H.out.emptied b3)
                  replace o3 := Lib.hid o3
                  clear hm hdr hOr b3 hlt
                  go_wp2
                  go_ret
                  exact ⟨rfl, H3.out, o3.out⟩
end Go.Proofs.Ytnjobnccknpaeaa.Held
