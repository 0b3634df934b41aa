/-
  The walk of the law ClassAges.
-/
import Derived.Test.YtgodinapdahocaaClassAgePlain
import Derived.Test.YtgodinapdahocaaClassRelease2
import Derived.Test.YtgodinapdahocaaClassWakes
namespace Go.Proofs.Ytgodinapdahocaa.Cls
open Go.RowKit Base MapG
set_option linter.unusedVariables false

def ageM (i : Nat) : Nat := 16384 * (if i < 300 then 0 else if i = 300 then 1 else 2)
def AgeInv (i : Nat) (s : St) : Prop := AgB cw.cf i (ageM i) s ∨ (i ≠ 300 ∧ AgA cw.cf 2 i (ageM i) s)
structure AgeAt (N : Nat) (W w : World) (L : Lay) (s : St) (bs : List UInt8) : Prop where
  bel : Below N W w
  sz : N ≤ w.heap.size
  set : SetAt w L cw s bs
  foot : ∀ b, Foot L cw s b → N ≤ b
theorem AgeAt.next {N : Nat} {W w w' : World} {L L' : Lay} {s s' : St} {bs bs' : List UInt8} (h : AgeAt N W w L s bs) (H : SetAt w' L' cw s' bs') (k : Went w w' L L' cw s s') : AgeAt N W w' L' s' bs' := by
  obtain ⟨b, f, z⟩ := k.below h.foot h.sz
  exact ⟨h.bel.trans b, z, H, f⟩
theorem AgeAt.drewN {N : Nat} {W w : World} {L : Lay} {s : St} {bs : List UInt8} (h : AgeAt N W w L s bs) (m : Nat) : AgeAt N W (w.drewN m) L s bs := ⟨below_drewN h.bel m, h.sz, h.set.drewN m, h.foot⟩
theorem cw_ok : cw.cf.Ok := (okOf cw_ref).1
theorem age_room {i k : Nat} {s : St} (h : AgeInv i s) (hk : k < cw.cf.nc) (hk0 : i = 300 ∨ k = 2) : ∃ s1, roomS cw.cf s k = some s1 ∧ AgA cw.cf k i (ageM i) s1 := by
  rcases h with h | ⟨h1, h2⟩
  · exact h.room cw_ok hk
  · obtain rfl : k = 2 := hk0.resolve_left h1
    exact ⟨s, h2.room, h2⟩
theorem cw_np : 0 < cw.cf.np := by decide
theorem age_step (i : Nat) (h : i = 300 ∨ i = 299) {n : Nat} (hn : n ≤ 16384) : ageM i + n ≤ ageM (i + 1) := by
  unfold ageM
  rcases h with rfl | rfl
  · show 16384 * 1 + n ≤ 16384 * 2; omega
  · show 16384 * 0 + n ≤ 16384 * 1; omega
theorem age_small (i : Nat) : ageM i ≤ 32768 := by
  unfold ageM
  split
  · omega
  · split <;> omega
theorem age_mono (i : Nat) : ageM i ≤ ageM (i + 1) := by
  unfold ageM
  split
  · exact Nat.zero_le _
  · rename_i h
    have h1 : ¬ i + 1 < 300 := by omega
    have h2 : ¬ i + 1 = 300 := by omega
    rw [if_neg h1, if_neg h2]
    split <;> omega
theorem hnd_zero (i : Nat) : hnd 0 i = i * 4294967296 + 1 := rfl
set_option maxRecDepth 100000 in
set_option maxHeartbeats 3200000 in
theorem agesC (W : World) : Calls Try.prog 7 #[] W fun e w' => e = .returned (.bool true) ∧ Below W.heap.size W w' := by
  have WC := Lib.hid wakesC
  have n0 := fun w => numC w 0
  have n1 := Lib.hid numC
  have NC := newC W cw
  rw [show cw.cells = #[.int .i64 4096, .int .i64 3, .int .i64 200, .int .i64 64, .int .i64 256, .int .i64 0, .int .i64 0] from rfl] at NC
  replace NC := Lib.hid NC
  obtain ⟨N, hN⟩ : ∃ N, W.heap.size = N := ⟨_, rfl⟩
  rw [hN]
  replace hN := Lib.hid hN
  go_enter Try.func7, Try.ntmps7
  go_wp2_with fail
  refine NC.out.mono ?_
  rintro e w1 ⟨b1, ⟨h0, -⟩ | ⟨-, L, rfl, M, F⟩⟩
  · exact absurd cw_ref h0
  have AT : AgeAt N W w1 L (new0 cw.cf) (List.replicate (cw.cf.ps * cw.cf.np) 0) := by
    rw [hN.out] at b1
    exact ⟨b1, by rw [← hN.out]; exact b1.size, M, fun b hb => by rw [← hN.out]; exact F b hb⟩
  have IV : AgeInv 0 (new0 cw.cf) := .inl (agB_new _)
  replace AT := Lib.hid AT
  replace IV := Lib.hid IV
  clear NC b1 M F
  go_wp2_with (first | (go_at_call 11; refine (n0 _).mono ?_; rintro e w' ⟨rfl, rfl⟩) | fail)
  go_loopw [3] (fun v wr => ∃ (i : Nat) (L1 : Lay) (s : St) (bs : List UInt8), v = .int .i64 (i : Int) ∧ i ≤ 70000 ∧ Hid (L1.g = L.g) ∧ Hid (AgeAt N W wr L1 s bs) ∧ Hid (AgeInv i s)) (fun v _ => 70000 - (intOf v).toNat)
  case atStart => exact ⟨0, L, _, _, rfl, Nat.zero_le _, Lib.hid rfl, AT, IV⟩
  case round =>
    obtain ⟨i, L1, s, bs, rfl, hi, hLg, AT, IV⟩ := hrel
    by_cases hin : i < 70000
    · have e1 : decide ((i : Int) < 70000) = true := decide_eq_true (by omega)
      have e1' : decide (i < 70000) = true := decide_eq_true hin
      have q1 : IntKind.i64.wrap ((i : Int) + 1) = (i : Int) + 1 := IntWalk.i64_in _ (by omega)
      have q2 : IntKind.u64.wrap (i : Int) = (i : Int) := IntWalk.u64_in _ (by omega)
      have q3 : IntKind.u64.wrap ((i : Int) * 4294967296) = (i : Int) * 4294967296 := IntWalk.u64_in _ (by omega)
      obtain ⟨k, hk⟩ : ∃ k, k = if i = 300 then 0 else 2 := ⟨_, rfl⟩
      have hkn : k < cw.nc := by rw [cw_nc, hk]; split <;> omega
      obtain ⟨s1, hroom, a1⟩ := age_room IV.out (k := k) hkn (by by_cases h : i = 300 <;> simp [hk, h])
      obtain ⟨l, hl, hg, g2, fd, a2⟩ := a1.turn cw_ok hkn (by omega)
      have T := takeYes wr L1 cw s bs AT.out.set (by rcases IV.out with h | h; exact h.good; exact h.2.good) k hkn s1 hroom l 0 hl
      have hg' : s1.gens (0 / cw.cf.ps) (0 % cw.cf.ps / cw.sz k) = i := hg
      rw [hg', hLg.out] at T
      obtain ⟨bs2, hbs2⟩ : ∃ b, b = takeB bs 0 i := ⟨_, rfl⟩
      rw [← hbs2] at T
      obtain ⟨Hh, hHh⟩ : ∃ Hh, Hh = hnd 0 i := ⟨_, rfl⟩
      have q4 : IntKind.u64.wrap ((i : Int) * 4294967296 + 1) = (Hh : Int) := by rw [IntWalk.u64_in _ (by omega), hHh, hnd_zero]; omega
      have hHb : Hh < 18446744073709551616 := by rw [hHh, hnd_zero]; omega
      rw [← hHh] at T fd
      obtain ⟨s2, hs2⟩ : ∃ s2, s2 = takeS cw.cf s1 k 0 := ⟨_, rfl⟩
      rw [← hs2] at T g2 fd a2
      replace hbs2 := Lib.hid hbs2
      replace hs2 := Lib.hid hs2
      replace hHh := Lib.hid hHh
      replace g2 := Lib.hid g2
      replace fd := Lib.hid fd
      replace a2 := Lib.hid a2
      replace hkn := Lib.hid hkn
      clear hroom a1 hl hg hg' IV
      rcases (show i = 300 ∨ i = 299 ∨ (i ≠ 300 ∧ i ≠ 299) by omega) with h3 | h3 | ⟨h3, h3'⟩
      · have hkI : ((k : Nat) : Int) = 0 := by rw [hk, if_pos h3]; rfl
        rw [hkI] at T
        have d1 : ((i : Int) == 300) = true := by rw [beq_iff_eq]; omega
        have d1' : decide ((i : Int) = 300) = true := decide_eq_true (by omega)
        have d1'' : decide (i = 300) = true := decide_eq_true (by omega)
        have d2 : ((i : Int) == 299) = false := by rw [beq_eq_false_iff_ne]; omega
        have d2' : decide ((i : Int) = 299) = false := decide_eq_false (by omega)
        have d2'' : decide (i = 299) = false := decide_eq_false (by omega)
        replace h3 := Lib.hid (Or.inl h3 : i = 300 ∨ i = 299)
        replace T := Lib.hid T
        replace hkI := Lib.hid hkI
        replace hk := Lib.hid hk
        go_wp2_with fail
        refine T.out.mono ?_
        rintro e w4 ⟨rfl, L2, e2, H2, W2⟩
        have A2 := AT.out.next H2 W2
        have G := giveYes w4 L2 cw s2 bs2 H2 g2.out Hh hHb 0 0 0 fd.out
        rw [e2] at G
        replace G := Lib.hid G
        replace A2 := Lib.hid A2
        clear T H2 W2 AT e2
        go_wp2_with (first | (go_at_call 11; refine (n0 _).mono ?_; rintro e w' ⟨rfl, rfl⟩) | fail)
        refine G.out.mono ?_
        rintro e w5 ⟨rfl, L3, e3, H3, W3⟩
        have A3 := A2.out.next H3 W3
        replace A3 := Lib.hid A3
        replace H3 := Lib.hid H3
        clear G W3 A2 q2 q3 q4
        obtain ⟨o1, o2, o3, o4, o5, o6, o7, o8, bB⟩ := a2.out.go cw_ok hkn.out
        have hn16 := (n_pos cw_ok hkn.out).2
        have hom := a2.out.om
        have hM := age_step i h3.out hn16
        have hM0 := age_small i
        have LV := leaveYes w5 L3 cw (giveS cw.cf s2 0 0) bs2 H3.out a2.out.good 0 cw_np o1 o2
        rw [e3, show ((0 : Nat) : Int) = 0 from rfl] at LV
        replace LV := Lib.hid LV
        clear H3
        go_wp2_with (first | (go_at_call 11; refine (n0 _).mono ?_; rintro e w' ⟨rfl, rfl⟩) | fail)
        refine LV.out.mono ?_
        rintro e w6 ⟨rfl, L4, e4, H4, W4⟩
        have A4 := A3.out.next H4 W4
        have RL := releaseYes w6 L4 cw (leaveS cw.cf (giveS cw.cf s2 0 0) 0) bs2 H4 o3 0 cw_np o4 o5 o6 (by rw [o7, o8]; unfold maxLen; omega)
        rw [e4, show ((0 : Nat) : Int) = 0 from rfl] at RL
        have IV' : Hid (AgeInv (i + 1) (releaseS cw.cf (leaveS cw.cf (giveS cw.cf s2 0 0) 0) 0)) := Lib.hid (.inl (bB.more hM))
        replace RL := Lib.hid RL
        replace A4 := Lib.hid A4
        clear LV H4 W4 A3 o1 o2 o3 o4 o5 o6 o7 o8 bB a2 g2 fd hM hom e4 e3
        go_wp2_with (first | (go_at_call 11; refine (n0 _).mono ?_; rintro e w' ⟨rfl, rfl⟩) | fail)
        refine RL.out.mono ?_
        rintro e w7 ⟨rfl, L5, e5, H5, W5⟩
        have A5 := Lib.hid (A4.out.next H5 W5)
        have e5' := Lib.hid e5
        clear RL H5 W5 A4 e5
        go_wp2_with (first | (go_at_call 11; refine (n0 _).mono ?_; rintro e w' ⟨rfl, rfl⟩) | fail)
        go_roundw
        case rel => exact ⟨i + 1, L5, _, bs2, by simp, by omega, e5', A5, IV'⟩
        case measure => simp [intOf] <;> omega
      · have hkI : ((k : Nat) : Int) = 2 := by rw [hk, if_neg (by omega)]; rfl
        rw [hkI] at T
        have d1 : ((i : Int) == 300) = false := by rw [beq_eq_false_iff_ne]; omega
        have d1' : decide ((i : Int) = 300) = false := decide_eq_false (by omega)
        have d1'' : decide (i = 300) = false := decide_eq_false (by omega)
        have d2 : ((i : Int) == 299) = true := by rw [beq_iff_eq]; omega
        have d2' : decide ((i : Int) = 299) = true := decide_eq_true (by omega)
        have d2'' : decide (i = 299) = true := decide_eq_true (by omega)
        replace h3 := Lib.hid (Or.inr h3 : i = 300 ∨ i = 299)
        replace T := Lib.hid T
        replace hkI := Lib.hid hkI
        replace hk := Lib.hid hk
        go_wp2_with fail
        refine T.out.mono ?_
        rintro e w4 ⟨rfl, L2, e2, H2, W2⟩
        have A2 := AT.out.next H2 W2
        have G := giveYes w4 L2 cw s2 bs2 H2 g2.out Hh hHb 0 0 0 fd.out
        rw [e2] at G
        replace G := Lib.hid G
        replace A2 := Lib.hid A2
        clear T H2 W2 AT e2
        go_wp2_with (first | (go_at_call 11; refine (n0 _).mono ?_; rintro e w' ⟨rfl, rfl⟩) | fail)
        refine G.out.mono ?_
        rintro e w5 ⟨rfl, L3, e3, H3, W3⟩
        have A3 := A2.out.next H3 W3
        replace A3 := Lib.hid A3
        replace H3 := Lib.hid H3
        clear G W3 A2 q2 q3 q4
        obtain ⟨o1, o2, o3, o4, o5, o6, o7, o8, bB⟩ := a2.out.go cw_ok hkn.out
        have hn16 := (n_pos cw_ok hkn.out).2
        have hom := a2.out.om
        have hM := age_step i h3.out hn16
        have hM0 := age_small i
        have LV := leaveYes w5 L3 cw (giveS cw.cf s2 0 0) bs2 H3.out a2.out.good 0 cw_np o1 o2
        rw [e3, show ((0 : Nat) : Int) = 0 from rfl] at LV
        replace LV := Lib.hid LV
        clear H3
        go_wp2_with (first | (go_at_call 11; refine (n0 _).mono ?_; rintro e w' ⟨rfl, rfl⟩) | fail)
        refine LV.out.mono ?_
        rintro e w6 ⟨rfl, L4, e4, H4, W4⟩
        have A4 := A3.out.next H4 W4
        have RL := releaseYes w6 L4 cw (leaveS cw.cf (giveS cw.cf s2 0 0) 0) bs2 H4 o3 0 cw_np o4 o5 o6 (by rw [o7, o8]; unfold maxLen; omega)
        rw [e4, show ((0 : Nat) : Int) = 0 from rfl] at RL
        have IV' : Hid (AgeInv (i + 1) (releaseS cw.cf (leaveS cw.cf (giveS cw.cf s2 0 0) 0) 0)) := Lib.hid (.inl (bB.more hM))
        replace RL := Lib.hid RL
        replace A4 := Lib.hid A4
        clear LV H4 W4 A3 o1 o2 o3 o4 o5 o6 o7 o8 bB a2 g2 fd hM hom e4 e3
        go_wp2_with (first | (go_at_call 11; refine (n0 _).mono ?_; rintro e w' ⟨rfl, rfl⟩) | fail)
        refine RL.out.mono ?_
        rintro e w7 ⟨rfl, L5, e5, H5, W5⟩
        have A5 := Lib.hid (A4.out.next H5 W5)
        have e5' := Lib.hid e5
        clear RL H5 W5 A4 e5
        go_wp2_with (first | (go_at_call 11; refine (n0 _).mono ?_; rintro e w' ⟨rfl, rfl⟩) | fail)
        go_roundw
        case rel => exact ⟨i + 1, L5, _, bs2, by simp, by omega, e5', A5, IV'⟩
        case measure => simp [intOf] <;> omega
      · have hkI : ((k : Nat) : Int) = 2 := by rw [hk, if_neg h3]; rfl
        rw [hkI] at T
        have d1 : ((i : Int) == 300) = false := by rw [beq_eq_false_iff_ne]; omega
        have d1' : decide ((i : Int) = 300) = false := decide_eq_false (by omega)
        have d1'' : decide (i = 300) = false := decide_eq_false (by omega)
        have d2 : ((i : Int) == 299) = false := by rw [beq_eq_false_iff_ne]; omega
        have d2' : decide ((i : Int) = 299) = false := decide_eq_false (by omega)
        have d2'' : decide (i = 299) = false := decide_eq_false (by omega)
        replace T := Lib.hid T
        replace hkI := Lib.hid hkI
        replace hk := Lib.hid hk
        go_wp2_with fail
        refine T.out.mono ?_
        rintro e w4 ⟨rfl, L2, e2, H2, W2⟩
        have A2 := AT.out.next H2 W2
        have G := giveYes w4 L2 cw s2 bs2 H2 g2.out Hh hHb 0 0 0 fd.out
        rw [e2] at G
        replace G := Lib.hid G
        replace A2 := Lib.hid A2
        clear T H2 W2 AT e2
        go_wp2_with (first | (go_at_call 11; refine (n0 _).mono ?_; rintro e w' ⟨rfl, rfl⟩) | fail)
        refine G.out.mono ?_
        rintro e w5 ⟨rfl, L3, e3, H3, W3⟩
        have A3 := A2.out.next H3 W3
        replace A3 := Lib.hid A3
        replace H3 := Lib.hid H3
        clear G W3 A2 q2 q3 q4
        have IV' : Hid (AgeInv (i + 1) (giveS cw.cf s2 0 0)) := by
          have a3 := a2.out
          rw [show k = 2 by rw [hk.out, if_neg h3]] at a3
          exact Lib.hid (.inr ⟨by omega, a3.more (age_mono i)⟩)
        have e3' := Lib.hid e3
        clear H3 a2 g2 fd e3
        go_wp2_with (first | (go_at_call 11; refine (n0 _).mono ?_; rintro e w' ⟨rfl, rfl⟩) | fail)
        go_roundw
        case rel => exact ⟨i + 1, L3, _, bs2, by simp, by omega, e3', A3, IV'⟩
        case measure => simp [intOf] <;> omega
    · obtain rfl : i = 70000 := by omega
      have e1 : decide (((70000 : Nat) : Int) < 70000) = false := rfl
      have hk2 : 2 < cw.nc := by rw [cw_nc]; omega
      obtain ⟨s1, hroom, a1⟩ := age_room IV.out (k := 2) hk2 (.inr rfl)
      obtain ⟨l, hl, hg, g2, -, -⟩ := a1.turn cw_ok hk2 (by omega)
      have T := takeYes wr L1 cw s bs AT.out.set (by rcases IV.out with h | h; exact h.good; exact h.2.good) 2 hk2 s1 hroom l 0 hl
      have hg' : s1.gens (0 / cw.cf.ps) (0 % cw.cf.ps / cw.sz 2) = 70000 := hg
      rw [hg', hLg.out, show hnd 0 70000 = 300647710720001 from rfl, show ((2 : Nat) : Int) = 2 from rfl, show ((300647710720001 : Nat) : Int) = 300647710720001 from rfl] at T
      have g00 : (takeS cw.cf s1 2 0).gens 0 0 = 70000 := a1.gens
      have f1 : findN cw.cf (takeS cw.cf s1 2 0) 1 = none := find_none (by rw [g00]; decide) (by decide)
      have f2 : findN cw.cf (takeS cw.cf s1 2 0) 1099511627777 = none := find_none (by rw [g00]; decide) (by decide)
      replace T := Lib.hid T
      replace g2 := Lib.hid g2
      clear hroom a1 hl hg hg' g00
      go_wp2_with fail
      refine T.out.mono ?_
      rintro e w4 ⟨rfl, L2, e2, H2, W2⟩
      have A2 := Lib.hid (AT.out.next H2 W2)
      have X1 := atC w4 L2 cw _ _ H2 g2.out 1 (by decide)
      rw [f1, e2, show ((1 : Nat) : Int) = 1 from rfl] at X1
      unfold atV at X1
      simp only at X1
      have X2 := fun m => atC (w4.drewN m) L2 cw _ _ (H2.drewN m) g2.out 1099511627777 (by decide)
      rw [f2, e2, show ((1099511627777 : Nat) : Int) = 1099511627777 from rfl] at X2
      unfold atV at X2
      simp only at X2
      replace X1 := Lib.hid X1
      replace X2 := Lib.hid X2
      clear T H2 W2 AT IV f1 f2 e2
      go_wp2_with fail
      refine X1.out.mono ?_
      rintro e w5 ⟨rfl, m5, rfl⟩
      go_wp2_with fail
      refine (X2.out m5).mono ?_
      rintro e w6 ⟨rfl, m6, rfl⟩
      have A6 := Lib.hid (A2.out.drewN (m5 + m6))
      clear X1 X2 A2
      go_wp2_with (first | (go_at_call 11; refine (n1.out _ _).mono ?_; rintro e w' ⟨rfl, rfl⟩) | (go_at_call 12; refine (WC.out _).mono ?_; rintro e w9 ⟨rfl, b9⟩; replace b9 := Lib.hid b9) | fail)
      go_ret
      exact ⟨rfl, A6.out.bel.trans (b9.out.mono A6.out.sz)⟩
end Go.Proofs.Ytgodinapdahocaa.Cls
