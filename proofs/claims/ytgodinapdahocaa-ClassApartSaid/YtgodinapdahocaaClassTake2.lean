/-
  The walk of Take.
-/
import Derived.Test.YtgodinapdahocaaClassTake
namespace Go.Proofs.Ytgodinapdahocaa.Cls
open Go.RowKit Base MapG
set_option linter.unusedVariables false

theorem takeArg (w : World) (L : Lay) (c : Conf) (s : St) (bs : List UInt8) (h : SetAt w L c s bs) (k : Int) (hk : ¬ (0 ≤ k ∧ k < (c.nc : Int))) :
    Calls Try.prog 26 #[.pointer (some ⟨L.g, 0, none⟩), .int .i64 k] w fun e w' => e = .returned (.tuple #[.int .u64 0, .int .i64 1]) ∧ w = w' := by
  have IC := isC h k
  rw [decide_eq_false hk] at IC
  replace IC := Lib.hid IC
  clear h
  go_enter Try.func26, Try.ntmps26
  go_wp2_with fail
  refine IC.out.mono ?_
  rintro e w' ⟨rfl, rfl⟩
  go_wp2
  go_ret2
  exact ⟨rfl, rfl⟩
theorem takeNo (w : World) (L : Lay) (c : Conf) (s : St) (bs : List UInt8) (h : SetAt w L c s bs) (k : Nat) (hk : k < c.nc) (hr : roomS c.cf s k = none) :
    Calls Try.prog 26 #[.pointer (some ⟨L.g, 0, none⟩), .int .i64 (k : Int)] w fun e w' => e = .returned (.tuple #[.int .u64 0, .int .i64 21]) ∧ w = w' := by
  have hf : s.free k = [] ∧ low c.cf s = none := by
    unfold roomS at hr
    split at hr
    · rename_i e
      split at hr
      · cases hr
      · rename_i e2; exact ⟨e, e2⟩
    · cases hr
  have IC := isC h (k : Int)
  rw [decide_eq_true (show (0 : Int) ≤ (k : Int) ∧ (k : Int) < (c.nc : Int) by omega)] at IC
  replace IC := Lib.hid IC
  have WC := Lib.hid (widenNo w L c s bs h k (low_none hf.2))
  have c10 := h.cRows
  have r0 := h.r0 hk
  have own := h.freeB hk
  rw [hf.1] at own
  obtain ⟨A, cp, hF⟩ := own_is own
  rw [hF] at r0
  clear h own hf hr hF
  have k0 : (0 : Int) ≤ (k : Int) := by omega
  have k1 : (k : Int) < (c.nc : Int) := by omega
  go_enter Try.func26, Try.ntmps26
  go_wp2_with fail
  refine IC.out.mono ?_
  rintro e w' ⟨rfl, rfl⟩
  go_wp2_with fail
  refine WC.out.mono ?_
  rintro e w' ⟨rfl, rfl⟩
  go_wp2
  go_ret2
  exact ⟨rfl, rfl⟩
/-- The bytes of a chunk that is taken. -/
def takeB (bs : List UInt8) (p g : Nat) : List UInt8 := lay (lay bs p (List.replicate 56 0)) (p + 12) (Arena.putB 4 g)
set_option maxRecDepth 100000 in
set_option maxHeartbeats 3200000 in
theorem takeYes (w : World) (L : Lay) (c : Conf) (s : St) (bs : List UInt8) (h : SetAt w L c s bs) (g : Good c.cf s) (k : Nat) (hk : k < c.nc) (s1 : St) (hr : roomS c.cf s k = some s1) (l : List Nat) (p : Nat) (hp : s1.free k = l ++ [p]) :
    Calls Try.prog 26 #[.pointer (some ⟨L.g, 0, none⟩), .int .i64 (k : Int)] w fun e w' =>
      e = .returned (.tuple #[.int .u64 (hnd p (s1.gens (p / c.cf.ps) (p % c.cf.ps / c.sz k)) : Int), .int .i64 0]) ∧
      ∃ L', L'.g = L.g ∧ SetAt w' L' c (takeS c.cf s1 k p) (takeB bs p (s1.gens (p / c.cf.ps) (p % c.cf.ps / c.sz k))) ∧ Went w w' L L' c s (takeS c.cf s1 k p) := by
  have IC := isC h (k : Int)
  rw [decide_eq_true (show (0 : Int) ≤ (k : Int) ∧ (k : Int) < (c.nc : Int) by omega)] at IC
  replace IC := Lib.hid IC
  have ok := h.okc
  have g1 := (room_good ok g hk hr).1
  have HW : (∃ a t, s.free k = a :: t) ∧ s1 = s ∨ s.free k = [] ∧ (Calls Try.prog 49 #[.pointer (some ⟨L.g, 0, none⟩), .int .i64 (k : Int)] w fun e w' => e = .returned (.bool true) ∧
      ∃ L', L'.g = L.g ∧ L'.gr = L.gr ∧ SetAt w' L' c s1 bs ∧ Went w w' L L' c s s1) := by
    unfold roomS at hr
    split at hr
    · rename_i he
      split at hr
      · rename_i i hlow
        injection hr with hr
        subst hr
        obtain ⟨a1, a2, a3⟩ := low_some hlow
        exact .inr ⟨he, widenYes w L c s bs h g k i hk a1 a2 a3⟩
      · cases hr
    · rename_i a t he
      injection hr with hr
      exact .inl ⟨⟨a, t, he⟩, hr.symm⟩
  have c10 := h.cRows
  have r0 := h.r0 hk
  have own := h.freeB hk
  have hS := Lib.hid h
  have hfl := g.short ok hk
  clear hr h
  have k0 : (0 : Int) ≤ (k : Int) := by omega
  have k1 : (k : Int) < (c.nc : Int) := by omega
  go_enter Try.func26, Try.ntmps26
  go_wp2_with fail
  refine IC.out.mono ?_
  rintro e w' ⟨rfl, rfl⟩
  go_upto_region 4 with fail
  go_cut [31] from 20 to 31 (fun s31 wx => s31 = .bool false ∧ ∃ L1, L1.g = L.g ∧ L1.gr = L.gr ∧ SetAt wx L1 c s1 bs ∧ Went w wx L L1 c s s1)
  case first =>
    rcases HW with ⟨⟨a, t, he⟩, rfl⟩ | ⟨he, WC⟩
    · rw [he] at own
      obtain ⟨A, cp, hF⟩ := own_is own
      rw [hF] at r0
      have hln : decide (((t.length + 1 : Nat) : Int) = 0) = false := by simp; omega
      have hln2 : (((a :: t).length : Nat)) = t.length + 1 := rfl
      rw [hln2] at r0
      clear own hF hln2
      go_wp2_with fail
      go_meet
      exact ⟨rfl, L, rfl, rfl, hS.out, Went.refl _ _ _ _⟩
    · rw [he] at own
      obtain ⟨A, cp, hF⟩ := own_is own
      rw [hF] at r0
      replace WC := Lib.hid WC
      clear own hF
      go_wp2_with fail
      refine WC.out.mono ?_
      rintro e w1 ⟨rfl, L1, e1, e2, H1, W1⟩
      go_wp2_with fail
      go_meet
      exact ⟨rfl, L1, e1, e2, H1, W1⟩
  case rest =>
    obtain ⟨rfl, L1, eg, egr, H1, W1⟩ := hcut
    obtain ⟨i, x, h1, h2, h3, h4, h5, h6, hpe, e1, e2⟩ := g1.last ok hk (p := p) (by rw [hp]; simp)
    have e2' : p % c.cf.ps / c.sz k = x := e2
    have hTake : takeS c.cf s1 k p = { s1 with free := upd s1.free k l, rt := upd s1.rt k (s1.rt k + 1), tkn := upd s1.tkn i (upd (s1.tkn i) x true), held := upd s1.held i (s1.held i + 1) } := by
      unfold takeS
      rw [e1, e2, hp, List.dropLast_concat]
    have own1 := H1.freeB hk
    rw [hp, List.length_append, List.length_singleton] at own1
    obtain ⟨b, cap, hF, cp, -, hbl⟩ := own_iv (x := p) (i := l.length) own1 (by simp)
    rw [hF] at own1
    have own2 := own_drop (x := iv p) (by rw [List.map_append] at own1; exact own1)
    have hll : l.length + 1 ≤ 1073741824 := by
      have := g1.short ok hk
      rw [hp, List.length_append, List.length_singleton] at this
      exact this
    have r0' : wc.cell? ⟨L.gr, k * 4, none⟩ = some (.slice (some ⟨b, 0, none⟩) (l.length + 1) cap) := by rw [← egr, H1.r0 hk, hF]
    have hrt : s1.rt k ≤ 16777216 := by
      rw [g1.rt k hk]
      have : ∀ n, sumTo (fun j => if s1.own j && s1.cls j == k then s1.held j else 0) n ≤ n * 16384 := by
        intro n
        induction n with
        | zero => exact Nat.le_refl _
        | succ n ih =>
          simp only [sumTo]
          have : (if s1.own n && s1.cls n == k then s1.held n else 0) ≤ 16384 := by
            split
            · rename_i hh
              have ho : s1.own n = true := by revert hh; cases s1.own n <;> simp
              have hn := g1.top n ho
              rw [g1.held n hn ho]
              exact Nat.le_trans cnt_le (n_pos ok (g1.cls n hn ho)).2
            · omega
          omega
      have h9 := this c.cf.np
      have := ok.npb
      omega
    have hld : s1.held i ≤ 16384 := by
      rw [g1.held i h1 h2]
      exact Nat.le_trans cnt_le (by rw [h3]; exact (n_pos ok hk).2)
    have hgen := g1.gen i x
    have hpb : p ≤ 1073741824 - 64 ∧ p < c.cf.ps * c.cf.np := by
      have := there_of ok hk h1 h5 0 64 (by omega)
      rw [Nat.add_zero, ← hpe] at this
      obtain ⟨-, -, t3, -⟩ := this
      have := Nat.mul_le_mul ok.psb ok.npb
      omega
    have th1 := there_of ok hk h1 h5 0 56 (by omega)
    have th2 := there_of ok hk h1 h5 12 4 (by omega)
    rw [Nat.add_zero, ← hpe] at th1
    rw [← hpe] at th2
    have hn2 := (n_pos ok hk).2
    have q1 : IntKind.i64.wrap (((l.length + 1 : Nat) : Int) - 1) = (l.length : Int) := by rw [IntWalk.i64_in _ (by omega)]; omega
    have q1' : IntKind.i64.wrap ((l.length : Int) + 1 - 1) = (l.length : Int) := by rw [IntWalk.i64_in _ (by omega)]; omega
    have l0 : (0 : Int) ≤ (l.length : Int) := by omega
    have q1w : IntKind.i64.wrap (l.length : Int) = (l.length : Int) := IntWalk.i64_in _ (by omega)
    have l1 : (l.length : Int) < ((l.length + 1 : Nat) : Int) := by omega
    have l1' : (l.length : Int) < (l.length : Int) + 1 := by omega
    have l2 : l.length < l.length + 1 := Nat.lt_succ_self _
    have hcap : l.length + 1 ≤ cap := by
      rcases own1.2 with ⟨hv, -⟩ | ⟨g', cap', cur, hv, -, -, hc, -⟩
      · cases hv
      · injection hv with _ _ e; omega
    have hc1 : (l.length : Int) ≤ (cap : Int) := by omega
    have hc2 : l.length ≤ cap := by omega
    have HC := Lib.hid fun W => handleC W p (s1.gens i x) (by omega) hgen
    replace hpe := Lib.hid hpe
    replace hTake := Lib.hid hTake
    replace H1 := Lib.hid H1
    replace W1 := Lib.hid W1
    replace ok := Lib.hid ok
    replace own1 := Lib.hid own1
    replace own2 := Lib.hid own2
    replace e2' := Lib.hid e2'
    replace e2 := Lib.hid e2
    replace e1 := Lib.hid e1
    replace hp := Lib.hid hp
    replace hF := Lib.hid hF
    clear HW own r0 c10 IC hS
    go_upto_region 6 with fail
    go_quiet (fail)
    go_upto_region 7 with fail
    obtain ⟨w2, hw2⟩ : ∃ w2, w2 = wc.drewN nq := ⟨_, rfl⟩
    rw [← hw2]
    have H2 : SetAt w2 L1 c s1 bs := by rw [hw2]; exact H1.out.drewN nq
    have W2 : Went w w2 L L1 c s s1 := by rw [hw2]; exact W1.out.next ((Only.refl _ _).drewN nq) (fun _ => rfl)
    have own3 : w2.ownsRow 0 3 1 (.slice (some ⟨b, 0, none⟩) l.length cap) l.length (l.map iv) := by rw [hw2]; exact own2.out
    have r0 : w2.cell? ⟨L.gr, k * 4, none⟩ = some (.slice (some ⟨b, 0, none⟩) (l.length + 1) cap) := by rw [hw2]; exact r0'
    have z0 : w2.frozen? ⟨L.gr, k * 4, none⟩ = false := by rw [← egr]; exact H2.fzR _
    replace hw2 := Lib.hid hw2
    replace H2 := Lib.hid H2
    replace W2 := Lib.hid W2
    replace own3 := Lib.hid own3
    clear H1 W1 own1 own2 r0' cp hw2
    go_still_tail 14, (by kernel_rfl)
    change wpList _ _ _ _ _ w2.drew
    go_upto_region 8 with fail
    obtain ⟨L3, hL3⟩ : ∃ L3, L3 = ({ L1 with F := upd L1.F k (.slice (some ⟨b, 0, none⟩) l.length cap) } : Lay) := ⟨_, rfl⟩
    obtain ⟨w3, hw3⟩ : ∃ w3, w3 = (w2.setCell ⟨L.gr, k * 4, none⟩ (.slice (some ⟨b, 0, none⟩) l.length cap)).drew := ⟨_, rfl⟩
    rw [← hw3]
    obtain ⟨s3, hs3⟩ : ∃ s3, s3 = ({ s1 with free := upd s1.free k l } : St) := ⟨_, rfl⟩
    have hFb : (L1.F k).ownBlock = some b := by rw [hF.out]; rfl
    have H3 : SetAt w3 L3 c s3 bs := by
      rw [hw3, hL3, hs3, ← egr]
      exact (H2.out.setFree k hk (.slice (some ⟨b, 0, none⟩) l.length cap) l w2 (Only.refl (fun b' => (L1.F k).ownBlock = some b') _) (fun _ e _ => e) own3.out (fun b' e => .inl (by rw [hFb]; exact e))).drew
    have W3 : Went w w3 L L3 c s s3 := by
      rw [hw3, hL3, hs3, ← egr]
      refine W2.out.next ((Only.refl _ w2).setCell (p := ⟨L1.gr, k * 4, none⟩) (fun _ => ⟨.rows, rfl⟩) _).drew fun q => ?_
      cases q with
      | free j =>
        by_cases hj : j = k
        · subst hj
          show (if j < c.cf.nc then (upd L1.F j (Value.slice (some ⟨b, 0, none⟩) l.length cap) j).ownBlock else none) = (if j < c.cf.nc then (L1.F j).ownBlock else none)
          rw [upd_at, hFb]; rfl
        · show (if j < c.cf.nc then (upd L1.F k (Value.slice (some ⟨b, 0, none⟩) l.length cap) j).ownBlock else none) = (if j < c.cf.nc then (L1.F j).ownBlock else none)
          rw [upd_ne _ _ hj]
      | _ => rfl
    have e3g : L3.g = L.g := by rw [hL3]; exact eg
    have e3r : L3.gr = L.gr := by rw [hL3]; exact egr
    have t1 : s3.own = s1.own := by rw [hs3]
    have t2 : s3.cls = s1.cls := by rw [hs3]
    have t3 : s3.tkn = s1.tkn := by rw [hs3]
    have t4 : s3.held = s1.held := by rw [hs3]
    have t5 : s3.rt = s1.rt := by rw [hs3]
    have t6 : s3.gens = s1.gens := by rw [hs3]
    have r1 := H3.r1 hk
    have z1 := H3.fzR (k * 4 + 1)
    rw [e3r] at r1 z1
    rw [t5] at r1
    replace hs3 := Lib.hid hs3
    replace hL3 := Lib.hid hL3
    replace hw3 := Lib.hid hw3
    replace H3 := Lib.hid H3
    replace W3 := Lib.hid W3
    clear H2 W2 own3 r0 z0 hFb
    have q2 : IntKind.i64.wrap ((s1.rt k : Int) + 1) = (s1.rt k : Int) + 1 := IntWalk.i64_in _ (by omega)
    go_upto_region 9 with fail
    obtain ⟨w4, hw4⟩ : ∃ w4, w4 = w3.setCell ⟨L.gr, k * 4 + 1, none⟩ (.int .i64 ((s1.rt k : Int) + 1)) := ⟨_, rfl⟩
    rw [← hw4]
    have H4 : SetAt w4 L3 c { s3 with rt := upd s3.rt k (s1.rt k + 1) } bs := by
      rw [hw4, ← e3r, show ((s1.rt k : Int) + 1) = ((s1.rt k + 1 : Nat) : Int) by omega]
      exact H3.out.setRt k (s1.rt k + 1) hk
    have W4 : Went w w4 L L3 c s { s3 with rt := upd s3.rt k (s1.rt k + 1) } := by
      rw [hw4, ← e3r]
      exact W3.out.next (only_at w3 _ _ _ ⟨.rows, rfl⟩) (fun q => by cases q <;> rfl)
    have d0 := H4.cPs
    have d8 := H4.cSizes
    have d9 := H4.cPages
    have d7 := H4.cArena
    rw [e3g] at d0 d7 d8 d9
    have dz := H4.sz hk
    have i0 : (0 : Int) ≤ (i : Int) := by omega
    have i1 : (i : Int) < (c.cf.np : Int) := by omega
    have x0 : (0 : Int) ≤ (x : Int) := by omega
    have x1 : (x : Int) < (c.cf.n k : Int) := by have : x < c.cf.n k := h5; omega
    have b5 := ok.out.ps
    have b6 := (ok.out.sz k hk).1
    have z2 : ¬ (c.cf.ps : Int) = 0 := by omega
    have z3 : ¬ (c.sz k : Int) = 0 := by have : 64 ≤ c.sz k := b6; omega
    have q3 : ((p : Int)).tdiv (c.cf.ps : Int) = (i : Int) := by rw [tdivN, e1.out]
    have q4 : IntKind.i64.wrap (i : Int) = (i : Int) := IntWalk.i64_in _ (by have := ok.out.npb; omega)
    obtain ⟨r, hr⟩ : ∃ r, r = p % c.cf.ps := ⟨_, rfl⟩
    have hrb : r ≤ p := by rw [hr]; exact Nat.mod_le _ _
    have q5 : ((p : Int)).tmod (c.cf.ps : Int) = (r : Int) := by rw [tmodN, hr]
    have q6 : IntKind.i64.wrap (r : Int) = (r : Int) := IntWalk.i64_in _ (by omega)
    have q7 : ((r : Int)).tdiv (c.sz k : Int) = (x : Int) := by rw [tdivN, hr]; exact congrArg _ e2.out
    have q8 : IntKind.i64.wrap (x : Int) = (x : Int) := IntWalk.i64_in _ (by omega)
    replace hr := Lib.hid hr
    replace hw4 := Lib.hid hw4
    replace H4 := Lib.hid H4
    replace W4 := Lib.hid W4
    clear H3 W3 r1 z1 q2
    go_quiet (fail)
    rename Nat => nq1
    go_upto_region 10 with fail
    go_quiet (fail)
    rename Nat => nq2
    go_upto_region 11 with fail
    obtain ⟨w5, hw5⟩ : ∃ w5, w5 = (w4.drewN nq1).drewN nq2 := ⟨_, rfl⟩
    rw [← hw5]
    have H5 : SetAt w5 L3 c { s3 with rt := upd s3.rt k (s1.rt k + 1) } bs := by rw [hw5]; exact (H4.out.drewN _).drewN _
    have W5 : Went w w5 L L3 c s { s3 with rt := upd s3.rt k (s1.rt k + 1) } := by rw [hw5]; exact W4.out.next (((Only.refl _ _).drewN _).drewN _) (fun _ => rfl)
    replace hw5 := Lib.hid hw5
    have ho5 : ({ s3 with rt := upd s3.rt k (s1.rt k + 1) } : St).own i = true := by rw [t1]; exact h2
    have hc5 : ({ s3 with rt := upd s3.rt k (s1.rt k + 1) } : St).cls i = k := by rw [t2]; exact h3
    have p4 := H5.p4 h1 ho5
    rw [hc5] at p4
    have tk := H5.tk h1 ho5 (x := x) (by rw [hc5]; exact h5)
    have zt : w5.frozen? ⟨L3.T i, x, none⟩ = false := (H5.tknB h1 ho5).frozen x
    have H6 := H5.setTkn i x true h1 ho5 (by rw [hc5]; exact h5)
    have W6 := W5.next (L2 := L3) (s2 := { s3 with rt := upd s3.rt k (s1.rt k + 1), tkn := upd s3.tkn i (upd (s3.tkn i) x true) }) (only_at w5 (L3.T i) x (.bool true) ⟨.tkn i, if_pos ⟨h1, ho5⟩⟩) (fun q => by cases q <;> rfl)
    obtain ⟨w6, hw6⟩ : ∃ w6, w6 = w5.setCell ⟨L3.T i, x, none⟩ (.bool true) := ⟨_, rfl⟩
    rw [← hw6] at H6 W6
    replace H5 := Lib.hid H5
    replace W5 := Lib.hid W5
    replace H6 := Lib.hid H6
    replace W6 := Lib.hid W6
    clear d0 d7 d8 d9 dz H4 W4
    clear hr
    go_upto_region 12 with fail
    rw [← hw6]
    obtain ⟨s6, hs6⟩ : ∃ s6, s6 = ({ s3 with rt := upd s3.rt k (s1.rt k + 1), tkn := upd s3.tkn i (upd (s3.tkn i) x true) } : St) := ⟨_, rfl⟩
    have H6' : SetAt w6 L3 c s6 bs := by rw [hs6]; exact H6.out
    have W6' : Went w w6 L L3 c s s6 := by rw [hs6]; exact W6.out
    have u4 : s6.held = s1.held := by rw [hs6]; exact t4
    have u6 : s6.gens = s1.gens := by rw [hs6]; exact t6
    have u1 : s6.own i = true := by rw [hs6]; exact ho5
    have u2 : s6.cls i = k := by rw [hs6]; exact hc5
    have p5 := H6'.p5 h1
    have z5 := H6'.fzP (i * 7 + 5)
    rw [u4] at p5
    have q9 : IntKind.i64.wrap ((s1.held i : Int) + 1) = (s1.held i : Int) + 1 := IntWalk.i64_in _ (by omega)
    obtain ⟨s7, hs7⟩ : ∃ s7, s7 = ({ s6 with held := upd s6.held i (s1.held i + 1) } : St) := ⟨_, rfl⟩
    have H7 : SetAt (w6.setCell ⟨L3.gp, i * 7 + 5, none⟩ (.int .i64 ((s1.held i : Int) + 1))) L3 c s7 bs := by
      rw [show ((s1.held i : Int) + 1) = ((s1.held i + 1 : Nat) : Int) by omega, hs7]
      exact H6'.setHeld i (s1.held i + 1) h1
    have W7 : Went w (w6.setCell ⟨L3.gp, i * 7 + 5, none⟩ (.int .i64 ((s1.held i : Int) + 1))) L L3 c s s7 := by
      rw [hs7]
      exact W6'.next (only_at w6 L3.gp (i * 7 + 5) _ ⟨.pages, rfl⟩) (fun q => by cases q <;> rfl)
    obtain ⟨w7, hw7⟩ : ∃ w7, w7 = w6.setCell ⟨L3.gp, i * 7 + 5, none⟩ (.int .i64 ((s1.held i : Int) + 1)) := ⟨_, rfl⟩
    rw [← hw7] at H7 W7
    have v1 : s7.own i = true := by rw [hs7]; exact u1
    have v2 : s7.cls i = k := by rw [hs7]; exact u2
    have v6 : s7.gens = s1.gens := by rw [hs7]; exact u6
    have e7 : takeS c.cf s1 k p = s7 := by
      rw [hTake.out, hs7, hs6, hs3.out]
    replace hw7 := Lib.hid hw7
    replace H7 := Lib.hid H7
    replace W7 := Lib.hid W7
    replace e7 := Lib.hid e7
    clear H5 W5 H6 W6 H6' W6' p4 tk zt hw6 ho5 hc5 hs6 hs7 hTake hs3 hL3 hw5 hw4 hw3 u1 u2 u4 u6 t1 t2 t3 t4 t5 t6 q3 q5 q6 q7
    go_upto_region 13 with fail
    rw [← hw7.out]
    have d7 := H7.out.cArena
    rw [e3g] at d7
    have A7 := H7.out.arena ok.out
    have F7 := Arena.fillYes w7 L3.ga L3.ha c.cf.ps bs A7 (p : Int) 56 0 (by rw [H7.out.len]; exact th1)
    rw [show ((((0 : UInt8)).toNat : Nat) : Int) = 0 from rfl] at F7
    replace F7 := Lib.hid F7
    clear A7 p5 z5 q9
    go_wp2_with fail
    refine F7.out.mono ?_
    rintro e w8 ⟨rfl, A8, o8, hs8⟩
    obtain ⟨bs8, hb8⟩ : ∃ b, b = lay bs p (List.replicate 56 0) := ⟨_, rfl⟩
    have A8' : Arena.At w8 L3.ga L3.ha c.cf.ps bs8 := by rw [hb8]; exact A8
    have hb8l : bs8.length = bs.length := by
      rw [hb8]
      refine lay_len _ _ _ ?_
      have := th1
      rw [← H7.out.len] at this
      obtain ⟨-, -, a3, -⟩ := this
      rw [List.length_replicate]
      omega
    have H8 : SetAt w8 L3 c s7 bs8 := H7.out.laid o8 A8'.bytes hb8l
    have W8 : Went w w8 L L3 c s s7 := W7.out.next (o8.mono fun b _ e => ⟨.bytes, by rw [e]; rfl⟩) (fun q => rfl)
    replace hb8 := Lib.hid hb8
    have d7 := H8.cArena
    rw [e3g] at d7
    have p3 := H8.p3 h1 v1
    rw [v2] at p3
    have gn := H8.gen h1 v1 (x := x) (by rw [v2]; exact h5)
    rw [v6] at gn
    have q10 : IntKind.i64.wrap ((p : Int) + 12) = (p : Int) + 12 := IntWalk.i64_in _ (by omega)
    have th3 : Arena.There c.cf.ps bs8.length ((p : Int) + 12) 4 := by
      have := th2
      rw [← H7.out.len, ← hb8l] at this
      exact this
    have P8 := Arena.putYes_u32 w8.drew L3.ga L3.ha c.cf.ps bs8 (H8.drew.arena ok.out) ((p : Int) + 12) (s1.gens i x) hgen th3
    replace P8 := Lib.hid P8
    replace H8 := Lib.hid H8
    replace W8 := Lib.hid W8
    clear A8 A8' o8 hs8 F7 H7 W7 hw7
    go_upto_region 14 with fail
    go_still_tail 13, (by kernel_rfl)
    change wpList _ _ _ _ _ w8.drew
    go_wp2_with fail
    refine P8.out.mono ?_
    rintro e w9 ⟨rfl, A9, o9, hs9⟩
    obtain ⟨bs9, hb9⟩ : ∃ b, b = lay bs8 (p + 12) (Arena.putB 4 (s1.gens i x)) := ⟨_, rfl⟩
    have e12 : ((p : Int) + 12).toNat = p + 12 := by omega
    have A9' : Arena.At w9 L3.ga L3.ha c.cf.ps bs9 := by rw [hb9, ← e12]; exact A9
    have hb9l : bs9.length = bs8.length := by
      rw [hb9]
      refine lay_len _ _ _ ?_
      obtain ⟨-, -, a3, -⟩ := th3
      rw [Arena.putB_len]
      omega
    have H9 : SetAt w9 L3 c s7 bs9 := H8.out.drew.laid o9 A9'.bytes hb9l
    have W9 : Went w w9 L L3 c s s7 := W8.out.next ((Only.refl _ _).drew.trans o9 (fun b _ e => ⟨.bytes, by rw [e]; rfl⟩)) (fun q => rfl)
    have p3 := H9.p3 h1 v1
    rw [v2] at p3
    have gn := H9.gen h1 v1 (x := x) (by rw [v2]; exact h5)
    rw [v6] at gn
    have hb : bs9 = takeB bs p (s1.gens (p / c.cf.ps) (p % c.cf.ps / c.sz k)) := by
      rw [hb9, hb8.out, e1.out, e2'.out]; rfl
    rw [hb, ← e7.out] at H9
    rw [← e7.out] at W9
    have hpg : hnd p (s1.gens (p / c.cf.ps) (p % c.cf.ps / c.sz k)) = hnd p (s1.gens i x) := by rw [e1.out, e2'.out]
    replace hpg := Lib.hid hpg
    replace H9 := Lib.hid H9
    replace W9 := Lib.hid W9
    replace hb := Lib.hid hb
    replace hb9 := Lib.hid hb9
    clear H8 W8 P8 A9 A9' o9 hs9 e12 hb9l d7 q10 hb
    go_wp2_with fail
    refine (HC.out _).mono ?_
    rintro e w' ⟨rfl, rfl⟩
    go_wp2
    go_ret2
    have hret : Ending.returned (.tuple #[.int .u64 (hnd p (s1.gens i x) : Int), .int .i64 0]) = .returned (.tuple #[.int .u64 (hnd p (s1.gens (p / c.cf.ps) (p % c.cf.ps / c.sz k)) : Int), .int .i64 0]) := by rw [hpg.out]
    exact ⟨hret, L3, e3g, H9.out, W9.out⟩
end Go.Proofs.Ytgodinapdahocaa.Cls
