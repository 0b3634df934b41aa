/-
  The walks of Leave and of Stay.
-/
import Derived.Test.YtgodinapdahocaaClassAsk
import Derived.Test.YtgodinapdahocaaClassJoin
namespace Go.Proofs.Ytgodinapdahocaa.Cls
open Go.RowKit Base MapG
set_option linter.unusedVariables false

theorem filt_step (f : Nat → Bool) (l : List Nat) (m : Nat) {x : Nat} (h : l[m]? = some x) : (l.take (m + 1)).filter f = (l.take m).filter f ++ (if f x then [x] else []) := by
  rw [List.take_add_one, List.filter_append, h]
  simp only [Option.toList]
  by_cases hf : f x = true
  · rw [if_pos hf, List.filter_cons_of_pos hf, List.filter_nil]
  · rw [if_neg hf, List.filter_cons_of_neg hf, List.filter_nil]
theorem leaveArg (w : World) (L : Lay) (c : Conf) (s : St) (bs : List UInt8) (h : SetAt w L c s bs) (i : Int) (hp : pageN c.cf s i = none) :
    Calls Try.prog 31 #[.pointer (some ⟨L.g, 0, none⟩), .int .i64 i] w fun e w' => e = .returned (.int .i64 1) ∧ w = w' := by
  have OC := ownedC w L c s bs h i
  rw [hp] at OC
  unfold pageV at OC
  simp only at OC
  replace OC := Lib.hid OC
  clear h hp
  go_enter Try.func31, Try.ntmps31
  go_wp2_with fail
  refine OC.out.mono ?_
  rintro e w' ⟨rfl, rfl⟩
  go_wp2
  go_ret
  exact ⟨rfl, rfl⟩
theorem leaveBusy (w : World) (L : Lay) (c : Conf) (s : St) (bs : List UInt8) (h : SetAt w L c s bs) (i : Nat) (h1 : i < c.cf.np) (h2 : s.own i = true) (h3 : s.lvs i = true) :
    Calls Try.prog 31 #[.pointer (some ⟨L.g, 0, none⟩), .int .i64 (i : Int)] w fun e w' => e = .returned (.int .i64 10) ∧ w = w' := by
  have OC := ownedC w L c s bs h (i : Int)
  rw [pageN_nat h1 h2] at OC
  unfold pageV at OC
  simp only at OC
  have p1 := h.p1 h1
  rw [h3] at p1
  replace OC := Lib.hid OC
  clear h h1 h2 h3
  go_enter Try.func31, Try.ntmps31
  go_wp2_with fail
  refine OC.out.mono ?_
  rintro e w' ⟨rfl, rfl⟩
  go_wp2
  go_ret
  exact ⟨rfl, rfl⟩
set_option maxRecDepth 100000 in
set_option maxHeartbeats 3200000 in
theorem leaveYes (w : World) (L : Lay) (c : Conf) (s : St) (bs : List UInt8) (h : SetAt w L c s bs) (g : Good c.cf s) (i : Nat) (h1 : i < c.cf.np) (h2 : s.own i = true) (h3 : s.lvs i = false) :
    Calls Try.prog 31 #[.pointer (some ⟨L.g, 0, none⟩), .int .i64 (i : Int)] w fun e w' => e = .returned (.int .i64 0) ∧
      ∃ L', L'.g = L.g ∧ SetAt w' L' c (leaveS c.cf s i) bs ∧ Went w w' L L' c s (leaveS c.cf s i) := by
  have ok := h.okc
  have OC := ownedC w L c s bs h (i : Int)
  rw [pageN_nat h1 h2] at OC
  unfold pageV at OC
  simp only at OC
  replace OC := Lib.hid OC
  have hk := g.cls i h1 h2
  have hfl := g.short ok hk
  have hrs1 : 1 ≤ s.rs (s.cls i) ∧ s.rs (s.cls i) ≤ 1024 := by
    rw [g.rs _ hk]
    exact ⟨cnt_pos (f := fun j => s.own j && s.cls j == s.cls i && !s.lvs j) h1 (by simp [h2, h3]), Nat.le_trans cnt_le ok.npb⟩
  have hfb : ∀ p ∈ s.free (s.cls i), p ≤ 1073741824 := fun p hp => by
    obtain ⟨j, x, a1, -, -, -, a5, -, rfl, -⟩ := g.last ok hk hp
    obtain ⟨-, -, -, a6, -⟩ := place_of ok (i := j) hk a5
    have a7 : (j + 1) * c.cf.ps ≤ 1024 * 1048576 := Nat.mul_le_mul (by have := ok.npb; omega) ok.psb
    rw [Nat.succ_mul] at a7
    have := (ok.sz _ hk).1
    omega
  obtain ⟨k, hkk⟩ : ∃ k, k = s.cls i := ⟨_, rfl⟩
  rw [← hkk] at hk hfl hrs1 hfb
  have hk' : k < c.nc := hk
  have hL : leaveS c.cf s i = { s with lvs := upd s.lvs i true, rs := upd s.rs k (s.rs k - 1), free := upd s.free k ((s.free k).filter fun p => p / c.cf.ps != i) } := by
    unfold leaveS
    rw [← hkk]
  have k0 : (0 : Int) ≤ (k : Int) := by omega
  have k1 : (k : Int) < (c.nc : Int) := by omega
  have hps := ok.ps
  have hnp := ok.npb
  replace hL := Lib.hid hL
  replace hkk := Lib.hid hkk
  have p1 := h.p1 h1
  have z1 := h.fzP (i * 7 + 1)
  rw [h3] at p1
  have H1 := h.setLvs i true h1
  have W1 := (Went.refl w L c s).next (L2 := L) (s2 := { s with lvs := upd s.lvs i true }) (only_at w L.gp (i * 7 + 1) (.bool true) ⟨.pages, rfl⟩) (fun q => by cases q <;> rfl)
  obtain ⟨w1, hw1⟩ : ∃ w1, w1 = w.setCell ⟨L.gp, i * 7 + 1, none⟩ (.bool true) := ⟨_, rfl⟩
  rw [← hw1] at H1 W1
  replace hw1 := Lib.hid hw1
  replace H1 := Lib.hid H1
  replace W1 := Lib.hid W1
  replace ok := Lib.hid ok
  clear h g h2 h3
  go_enter Try.func31, Try.ntmps31
  go_wp2_with fail
  refine OC.out.mono ?_
  rintro e w' ⟨rfl, rfl⟩
  go_upto_region 7 with fail
  rw [← hw1.out]
  have c10 := H1.out.cRows
  have p2 : w1.cell? ⟨L.gp, i * 7 + 2, none⟩ = some (.int .i64 (k : Int)) := by rw [hkk.out]; exact H1.out.p2 h1
  clear p1 z1 OC hw1
  go_quiet (fail)
  go_upto_region 8 with fail
  obtain ⟨w2, hw2⟩ : ∃ w2, w2 = w1.drewN nq := ⟨_, rfl⟩
  rw [← hw2]
  have H2 : SetAt w2 L c { s with lvs := upd s.lvs i true } bs := by rw [hw2]; exact H1.out.drewN nq
  have W2 : Went w w2 L L c s { s with lvs := upd s.lvs i true } := by rw [hw2]; exact W1.out.next ((Only.refl _ _).drewN nq) (fun _ => rfl)
  replace hw2 := Lib.hid hw2
  have r3 : w2.cell? ⟨L.gr, k * 4 + 3, none⟩ = some (.int .i64 (s.rs k : Int)) := H2.r3 hk'
  have z3 := H2.fzR (k * 4 + 3)
  have q1 : IntKind.i64.wrap ((s.rs k : Int) - 1) = ((s.rs k - 1 : Nat) : Int) := by rw [IntWalk.i64_in _ (by omega)]; omega
  obtain ⟨s3, hs3⟩ : ∃ s3, s3 = ({ s with lvs := upd s.lvs i true, rs := upd s.rs k (s.rs k - 1) } : St) := ⟨_, rfl⟩
  have H3 : SetAt (w2.setCell ⟨L.gr, k * 4 + 3, none⟩ (.int .i64 ((s.rs k - 1 : Nat) : Int))) L c s3 bs := by rw [hs3]; exact H2.setRs k (s.rs k - 1) hk'
  have W3 : Went w (w2.setCell ⟨L.gr, k * 4 + 3, none⟩ (.int .i64 ((s.rs k - 1 : Nat) : Int))) L L c s s3 := by
    rw [hs3]
    exact W2.next (only_at w2 L.gr (k * 4 + 3) _ ⟨.rows, rfl⟩) (fun q => by cases q <;> rfl)
  obtain ⟨w3, hw3⟩ : ∃ w3, w3 = w2.setCell ⟨L.gr, k * 4 + 3, none⟩ (.int .i64 ((s.rs k - 1 : Nat) : Int)) := ⟨_, rfl⟩
  rw [← hw3] at H3 W3
  have t1 : s3.free = s.free := by rw [hs3]
  have r0 := H3.r0 hk'
  have own := H3.freeB hk'
  rw [t1] at own
  obtain ⟨A, cp, hF⟩ := own_is own
  rw [hF] at r0
  replace hF := Lib.hid hF
  replace hw3 := Lib.hid hw3
  replace hs3 := Lib.hid hs3
  replace H3 := Lib.hid H3
  replace W3 := Lib.hid W3
  clear H1 W1 H2 W2 c10 p2 own
  go_upto_region 9 with fail
  rw [← hw3.out]
  clear r3 z3 q1
  have hlen : ((s.free k).length : Int) ≤ 1073741824 := by omega
  go_wp2_with fail
  go_loopw [7, 43] (fun vr vi wr => ∃ (m : Nat) (A' : Option Addr) (cp' : Nat) (done : List Nat), vi = .int .i64 (m : Int) ∧ vr = .slice A' done.length cp' ∧ m ≤ (s.free k).length ∧ Hid (done = ((s.free k).take m).filter fun p => p / c.cf.ps != i) ∧
    Hid (Only (fun b => w3.heap.size ≤ b) w3 wr) ∧ Hid (wr.ownsRow w3.heap.size 3 1 (.slice A' done.length cp') done.length (done.map iv))) (fun _ vi _ => (s.free k).length - (intOf vi).toNat)
  case atStart => exact ⟨0, none, 0, [], rfl, rfl, Nat.zero_le _, Lib.hid rfl, Lib.hid (Only.refl _ _), Lib.hid (own_nil _ _ _)⟩
  case round =>
    obtain ⟨m, A', cp', done, rfl, rfl, hm, hd, ho, hrow⟩ := hrel
    clear r0
    have HR : SetAt wr L c s3 bs := H3.out.only ho.out fun b hb hS => by have := H3.out.lt hb; omega
    have hsz := ho.out.size
    have hdl : done.length ≤ m := by
      rw [hd.out]
      exact Nat.le_trans (List.length_filter_le _ _) (by rw [List.length_take]; omega)
    by_cases hml : m < (s.free k).length
    · have e1 : decide ((m : Int) < ((s.free k).length : Int)) = true := decide_eq_true (by omega)
      have m0 : (0 : Int) ≤ (m : Int) := by omega
      have m1 : (m : Int) < ((s.free k).length : Int) := by omega
      have q1 : IntKind.i64.wrap ((m : Int) + 1) = (m : Int) + 1 := IntWalk.i64_in _ (by omega)
      obtain ⟨x, hx⟩ : ∃ x, (s.free k)[m]? = some x := ⟨_, List.getElem?_eq_getElem hml⟩
      have own := HR.freeB hk'
      rw [t1, hF.out] at own
      obtain ⟨gb, cp2, hsl, cx, -, -⟩ := own_iv own hx
      injection hsl with hA1 hA2 hA3
      subst hA1 hA3
      have hxb := hfb x (List.mem_of_getElem? hx)
      have c0 := HR.cPs
      have z0 : ¬ (c.cf.ps : Int) = 0 := by omega
      have q2 : ((x : Int)).tdiv (c.cf.ps : Int) = ((x / c.cf.ps : Nat) : Int) := tdivN _ _
      have hq : x / c.cf.ps ≤ x := Nat.div_le_self _ _
      have hst := filt_step (fun p => p / c.cf.ps != i) (s.free k) m hx
      rw [← hd.out] at hst
      generalize x / c.cf.ps = y at *
      have q3 : IntKind.i64.wrap (y : Int) = (y : Int) := IntWalk.i64_in _ (by omega)
      replace hx := Lib.hid hx
      generalize (s.free k).length = F at *
      clear own HR hml hfb
      by_cases hyi : y = i
      · have d1 : ((y : Int) != (i : Int)) = false := by rw [bne_eq_false_iff_eq]; omega
        rw [if_neg (by simp [hyi]), List.append_nil] at hst
        replace hst := Lib.hid hst.symm
        replace hyi := Lib.hid hyi
        go_wp2
        go_roundw
        case rel => exact ⟨m + 1, A', cp', done, by simp, rfl, by omega, hst, ho, hrow⟩
        case measure => simp [intOf] <;> omega
      · have d1 : ((y : Int) != (i : Int)) = true := by rw [bne_iff_ne]; omega
        rw [if_pos (by simp [hyi])] at hst
        replace hst := Lib.hid hst.symm
        have hrow' := hrow.out
        go_wp2_with (at_builtin; refine wpList_app rfl _ _ _ rfl eiI w3.heap.size _ _ _ rfl (hrow'.alloc _) (wr.heap.size + 1) (some ⟨wr.heap.size, 0, none⟩) 1 1 ([x].map iv) rfl ?c1 ?c2 ?c3 ?c4 ?c5 ?_)
        case c1 => exact reads_one wr x
        case c2 => first | exact iv_one _ | rfl
        case c3 => unfold maxLen; omega
        case c4 => omega
        case c5 => first | omega | (rw [World.size_alloc]; omega)
        intro VV w6 own6 hg6 hat6
        obtain ⟨A6, cp6, rfl⟩ := own_is own6
        have o6 := Lib.hid (((ho.out.alloc _).grown hg6 (fun k e _ => own_base hrow' e)))
        have row6 : Hid (w6.ownsRow w3.heap.size 3 1 (.slice A6 (done ++ [x]).length cp6) (done ++ [x]).length ((done ++ [x]).map iv)) := by
          rw [List.length_append, List.map_append]
          exact Lib.hid own6
        clear own6 hg6 hat6 hrow hrow' ho cx
        go_wp2
        go_roundw
        case rel => exact ⟨m + 1, A6, cp6, done ++ [x], by simp, by simp, by omega, hst, o6, row6⟩
        case measure => simp [intOf] <;> omega
    · obtain rfl : (s.free k).length = m := by omega
      have e1 : decide (((s.free k).length : Int) < ((s.free k).length : Int)) = false := by simp
      have hd' : done = (s.free k).filter fun p => p / c.cf.ps != i := by rw [hd.out, List.take_length]
      have z0 := HR.fzR (k * 4)
      have r0 := HR.r0 hk'
      rw [hF.out] at r0
      have H6 := H3.out.setFree k hk' (.slice A' done.length cp') done wr ho.out (fun b hb hlt => absurd hb (by omega)) (own_weak hrow.out (Nat.zero_le _)) (fun b e => .inr (own_base hrow.out e))
      have W6 := W3.out.setFree k hk' ho.out (fun b hb hlt => absurd hb (by omega)) (v := .slice A' done.length cp') (fun b e => .inr (own_base hrow.out e)) done
      have es : ({ s3 with free := upd s3.free k done } : St) = leaveS c.cf s i := by rw [hL.out, hs3.out, hd']
      rw [es] at H6 W6
      replace H6 := Lib.hid H6
      replace W6 := Lib.hid W6
      clear hd' hd HR ho hrow H3 W3 es
      go_wp2
      go_ret
      exact ⟨rfl, { L with F := upd L.F k (.slice A' done.length cp') }, rfl, H6.out, W6.out⟩
theorem stayArg (w : World) (L : Lay) (c : Conf) (s : St) (bs : List UInt8) (h : SetAt w L c s bs) (i : Int) (hp : ∀ j, pageN c.cf s i = some j → s.lvs j = false) :
    Calls Try.prog 55 #[.pointer (some ⟨L.g, 0, none⟩), .int .i64 i] w fun e w' => e = .returned (.int .i64 1) ∧ w = w' := by
  have OC := ownedC w L c s bs h i
  cases hq : pageN c.cf s i with
  | none =>
    rw [hq] at OC
    unfold pageV at OC
    simp only at OC
    replace OC := Lib.hid OC
    clear h hq hp
    go_enter Try.func55, Try.ntmps55
    go_wp2_with fail
    refine OC.out.mono ?_
    rintro e w' ⟨rfl, rfl⟩
    go_wp2
    go_ret
    exact ⟨rfl, rfl⟩
  | some j =>
    have hl := hp j hq
    obtain ⟨-, hj, -⟩ := pageN_some hq
    rw [hq] at OC
    unfold pageV at OC
    simp only at OC
    have p1 := h.p1 hj
    rw [hl] at p1
    replace OC := Lib.hid OC
    clear h hq hp hl
    go_enter Try.func55, Try.ntmps55
    go_wp2_with fail
    refine OC.out.mono ?_
    rintro e w' ⟨rfl, rfl⟩
    go_wp2
    go_ret
    exact ⟨rfl, rfl⟩
set_option maxRecDepth 100000 in
set_option maxHeartbeats 3200000 in
theorem stayYes (w : World) (L : Lay) (c : Conf) (s : St) (bs : List UInt8) (h : SetAt w L c s bs) (g : Good c.cf s) (i : Nat) (h1 : i < c.cf.np) (h2 : s.own i = true) (h3 : s.lvs i = true) :
    Calls Try.prog 55 #[.pointer (some ⟨L.g, 0, none⟩), .int .i64 (i : Int)] w fun e w' => e = .returned (.int .i64 0) ∧
      ∃ L', L'.g = L.g ∧ SetAt w' L' c (stayS c.cf s i) bs ∧ Went w w' L L' c s (stayS c.cf s i) := by
  have ok := h.okc
  have OC := ownedC w L c s bs h (i : Int)
  rw [pageN_nat h1 h2] at OC
  unfold pageV at OC
  simp only at OC
  replace OC := Lib.hid OC
  have hk := g.cls i h1 h2
  have hfl := g.short ok hk
  have hrs : s.rs (s.cls i) < 1073741824 := by
    rw [g.rs _ hk]
    exact Nat.lt_of_le_of_lt cnt_le (by have := ok.npb; omega)
  have p1 := h.p1 h1
  have z1 := h.fzP (i * 7 + 1)
  rw [h3] at p1
  have H1 := h.setLvs i false h1
  have W1 := (Went.refl w L c s).next (L2 := L) (s2 := { s with lvs := upd s.lvs i false }) (only_at w L.gp (i * 7 + 1) (.bool false) ⟨.pages, rfl⟩) (fun q => by cases q <;> rfl)
  obtain ⟨w1, hw1⟩ : ∃ w1, w1 = w.setCell ⟨L.gp, i * 7 + 1, none⟩ (.bool false) := ⟨_, rfl⟩
  rw [← hw1] at H1 W1
  have JC := Lib.hid (joinC w1 L c { s with lvs := upd s.lvs i false } bs H1 i (s.cls i) h1 h2 rfl hk hfl hrs)
  replace hw1 := Lib.hid hw1
  replace W1 := Lib.hid W1
  clear h g h2 h3 hk hfl hrs ok H1
  go_enter Try.func55, Try.ntmps55
  go_wp2_with fail
  refine OC.out.mono ?_
  rintro e w' ⟨rfl, rfl⟩
  go_upto_region 5 with fail
  rw [← hw1.out]
  clear p1 z1 hw1 OC
  go_wp2_with fail
  refine JC.out.mono ?_
  rintro e w2 ⟨rfl, v, H2, W2⟩
  have W3 := Lib.hid (W1.out.trans W2)
  replace H2 := Lib.hid H2
  clear JC W1 W2
  go_wp2
  go_ret
  exact ⟨rfl, { L with F := upd L.F (s.cls i) v }, rfl, H2.out, W3.out⟩
end Go.Proofs.Ytgodinapdahocaa.Cls
