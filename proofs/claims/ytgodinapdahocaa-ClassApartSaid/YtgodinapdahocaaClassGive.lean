/-
  The walk of Give.
-/
import Derived.Test.YtgodinapdahocaaClassTake
namespace Go.Proofs.Ytgodinapdahocaa.Cls
open Go.RowKit Base MapG
set_option linter.unusedVariables false

theorem findN_some {d : Cf} {s : St} {H i x p : Nat} (g : Good d s) (h : findN d s H = some (i, x, p)) :
    i < d.np ∧ s.own i = true ∧ x < d.n (s.cls i) ∧ s.tkn i x = true ∧ s.gens i x = H / 4294967296 ∧ p = i * d.ps + x * d.sz (s.cls i) ∧ p = (H % 4294967296 - 1) * 8 := by
  unfold findN at h
  generalize hP : (H % 4294967296 - 1) * 8 = P at *
  split at h
  · cases h
  · cases hc : chunkN d s (P : Int) with
    | none => rw [hc] at h; cases h
    | some r =>
      obtain ⟨j, y⟩ := r
      rw [hc] at h
      simp only at h
      split at h
      · rename_i hh
        injection h with h
        injection h with e1 h
        injection h with e2 e3
        subst e1 e2 e3
        unfold chunkN at hc
        split at hc
        · split at hc
          · rename_i h1 h2
            injection hc with hc
            injection hc with e1 e2
            rw [Int.toNat_natCast] at e1 e2 h2
            obtain ⟨a, b, e⟩ := h2
            rw [e1] at a b e e2
            rw [e2] at e
            refine ⟨g.top j a, a, e, hh.1, hh.2, ?_, rfl⟩
            have h3 := Nat.div_add_mod P d.ps
            have h4 := Nat.div_add_mod (P % d.ps) (d.sz (s.cls j))
            rw [e2, b, Nat.add_zero] at h4
            rw [e1, ← h4, Nat.mul_comm d.ps, Nat.mul_comm (d.sz _)] at h3
            exact h3.symm
          · cases hc
        · cases hc
      · cases h
theorem Went.setFree {w w1 w2 : World} {L L1 : Lay} {c : Conf} {s s1 : St} (h : Went w w1 L L1 c s s1) (k : Nat) (hk : k < c.nc) {v : Value} {S : Nat → Prop} (o : Only S w1 w2) (hS : ∀ b, S b → b < w1.heap.size → (L1.F k).ownBlock = some b)
    (hb : ∀ b, v.ownBlock = some b → (L1.F k).ownBlock = some b ∨ w1.heap.size ≤ b) (l : List Nat) : Went w (w2.setCell ⟨L1.gr, k * 4, none⟩ v) L { L1 with F := upd L1.F k v } c s { s1 with free := upd s1.free k l } := by
  have hk' : k < c.cf.nc := hk
  refine h.trans ⟨(o.mono fun b hlt hx => ⟨.free k, (if_pos hk').trans (hS b hx hlt)⟩).setCell (fun _ => ⟨.rows, rfl⟩) _, ?_⟩
  rintro b ⟨p, hp⟩
  by_cases hpk : p = .free k
  · subst hpk
    rw [Lay.blk, if_pos hk'] at hp
    have hp' : (upd L1.F k v k).ownBlock = some b := hp
    rw [upd_at] at hp'
    rcases hb b hp' with h3 | h3
    · exact .inl ⟨.free k, (if_pos hk').trans h3⟩
    · exact .inr h3
  · refine .inl ⟨p, ?_⟩
    cases p with
    | free j =>
      have hj : j ≠ k := fun e => hpk (by rw [e])
      by_cases hjn : j < c.cf.nc
      · rw [Lay.blk, if_pos hjn] at hp ⊢
        have hp' : (upd L1.F k v j).ownBlock = some b := hp
        rw [upd_ne _ _ hj] at hp'
        exact hp'
      · rw [Lay.blk, if_neg hjn] at hp; cases hp
    | _ => exact hp
theorem Good.rt_le {d : Cf} (ok : d.Ok) {s : St} (g : Good d s) {k : Nat} (hk : k < d.nc) : s.rt k ≤ 16777216 := by
  rw [g.rt k hk]
  have key : ∀ n, sumTo (fun j => if s.own j && s.cls j == k then s.held j else 0) n ≤ n * 16384 := by
    intro n
    induction n with
    | zero => exact Nat.le_refl _
    | succ n ih =>
      simp only [sumTo]
      have : (if s.own n && s.cls n == k then s.held n else 0) ≤ 16384 := by
        split
        · rename_i hh
          have ho : s.own n = true := by revert hh; cases s.own n <;> simp
          have hn := g.top n ho
          rw [g.held n hn ho]
          exact Nat.le_trans cnt_le (n_pos ok (g.cls n hn ho)).2
        · omega
      omega
  have h9 := key d.np
  have := ok.npb
  omega
theorem sum_pos {f : Nat → Nat} {i : Nat} : ∀ {n : Nat}, i < n → f i ≤ sumTo f n
  | 0, h => by omega
  | n + 1, h => by
    simp only [sumTo]
    rcases Nat.lt_or_ge i n with h4 | h4
    · have := sum_pos (f := f) h4; omega
    · obtain rfl : i = n := by omega
      omega
theorem Good.rt_pos {d : Cf} (ok : d.Ok) {s : St} (g : Good d s) {i x : Nat} (h1 : i < d.np) (h2 : s.own i = true) (h3 : x < d.n (s.cls i)) (h4 : s.tkn i x = true) : 1 ≤ s.held i ∧ 1 ≤ s.rt (s.cls i) ∧ s.held i ≤ 16384 := by
  have hp : 1 ≤ s.held i := by rw [g.held i h1 h2]; exact cnt_pos h3 h4
  refine ⟨hp, ?_, ?_⟩
  · rw [g.rt _ (g.cls i h1 h2)]
    have := sum_pos (f := fun j => if s.own j && s.cls j == s.cls i then s.held j else 0) h1
    simp only [h2, Bool.true_and, beq_self_eq_true, if_true] at this
    omega
  · rw [g.held i h1 h2]
    exact Nat.le_trans cnt_le (n_pos ok (g.cls i h1 h2)).2
set_option maxRecDepth 100000 in
theorem giveNo (w : World) (L : Lay) (c : Conf) (s : St) (bs : List UInt8) (h : SetAt w L c s bs) (g : Good c.cf s) (H : Nat) (hH : H < 18446744073709551616) (hf : findN c.cf s H = none) :
    Calls Try.prog 28 #[.pointer (some ⟨L.g, 0, none⟩), .int .u64 (H : Int)] w fun e w' => e = .returned (.int .i64 20) ∧ ∃ m, w.drewN m = w' := by
  have FC := findC w L c s bs h g H hH
  rw [hf] at FC
  unfold findV at FC
  replace FC := Lib.hid FC
  clear h g hf
  go_enter Try.func28, Try.ntmps28
  go_wp2_with fail
  refine FC.out.mono ?_
  rintro e w' ⟨rfl, m, rfl⟩
  go_wp2
  go_ret
  exact ⟨rfl, _, rfl⟩
set_option maxRecDepth 100000 in
set_option maxHeartbeats 3200000 in
theorem giveYes (w : World) (L : Lay) (c : Conf) (s : St) (bs : List UInt8) (h : SetAt w L c s bs) (g : Good c.cf s) (H : Nat) (hH : H < 18446744073709551616) (i x p : Nat) (hf : findN c.cf s H = some (i, x, p)) :
    Calls Try.prog 28 #[.pointer (some ⟨L.g, 0, none⟩), .int .u64 (H : Int)] w fun e w' => e = .returned (.int .i64 0) ∧
      ∃ L', L'.g = L.g ∧ SetAt w' L' c (giveS c.cf s i x) bs ∧ Went w w' L L' c s (giveS c.cf s i x) := by
  have ok := h.okc
  obtain ⟨h1, h2, h3, h4, -, h6, h7⟩ := findN_some g hf
  have FC := findC w L c s bs h g H hH
  rw [hf] at FC
  unfold findV at FC
  replace FC := Lib.hid FC
  have hk := g.cls i h1 h2
  obtain ⟨r1, r2, r3⟩ := g.rt_pos ok h1 h2 h3 h4
  have r4 := g.rt_le ok hk
  have hfl := g.short ok hk
  have hgen := g.gen i x
  have hn := (n_pos ok hk).2
  have hpb : p ≤ 34359738368 := by omega
  have hG : giveS c.cf s i x = { s with tkn := upd s.tkn i (upd (s.tkn i) x false), held := upd s.held i (s.held i - 1), gens := upd s.gens i (upd (s.gens i) x ((s.gens i x + 1) % 4294967296)), free := if s.lvs i then s.free else upd s.free (s.cls i) (s.free (s.cls i) ++ [p]), rt := upd s.rt (s.cls i) (s.rt (s.cls i) - 1) } := by rw [h6]; rfl
  obtain ⟨k, hkk⟩ : ∃ k, k = s.cls i := ⟨_, rfl⟩
  rw [← hkk] at h3 hk r2 r4 hfl hn hG
  have k0 : (0 : Int) ≤ (k : Int) := by omega
  have hk' : k < c.nc := hk
  have k1 : (k : Int) < (c.nc : Int) := by omega
  have x0 : (0 : Int) ≤ (x : Int) := by omega
  have x1 : (x : Int) < (c.cf.n k : Int) := by omega
  have i0 : (0 : Int) ≤ (i : Int) := by omega
  have i1 : (i : Int) < (c.cf.np : Int) := by omega
  replace hG := Lib.hid hG
  replace h6 := Lib.hid h6
  replace h7 := Lib.hid h7
  have H0 := Lib.hid h
  clear h hf g
  replace hkk := Lib.hid hkk
  go_enter Try.func28, Try.ntmps28
  go_wp2_with fail
  refine FC.out.mono ?_
  rintro e w1 ⟨rfl, m, hw1⟩
  have H1 : SetAt w1 L c s bs := by rw [← hw1]; exact H0.out.drewN m
  have W1 : Went w w1 L L c s s := by rw [← hw1]; exact (Went.refl w L c s).next ((Only.refl _ _).drewN m) (fun _ => rfl)
  replace hw1 := Lib.hid hw1
  have p4 := H1.p4 h1 h2
  rw [← hkk.out] at p4
  have tk := H1.tk h1 h2 (x := x) (by rw [← hkk.out]; exact h3)
  have zt : w1.frozen? ⟨L.T i, x, none⟩ = false := (H1.tknB h1 h2).frozen x
  have H2 := H1.setTkn i x false h1 h2 (by rw [← hkk.out]; exact h3)
  have W2 := W1.next (L2 := L) (s2 := { s with tkn := upd s.tkn i (upd (s.tkn i) x false) }) (only_at w1 (L.T i) x (.bool false) ⟨.tkn i, if_pos ⟨h1, h2⟩⟩) (fun q => by cases q <;> rfl)
  obtain ⟨w2, hw2⟩ : ∃ w2, w2 = w1.setCell ⟨L.T i, x, none⟩ (.bool false) := ⟨_, rfl⟩
  rw [← hw2] at H2 W2
  replace hw2 := Lib.hid hw2
  replace H2 := Lib.hid H2
  replace W2 := Lib.hid W2
  replace H1 := Lib.hid H1
  replace W1 := Lib.hid W1
  go_upto_region 5 with fail
  rw [← hw2.out]
  have p5 := H2.out.p5 h1
  have z5 := H2.out.fzP (i * 7 + 5)
  have q1 : IntKind.i64.wrap ((s.held i : Int) - 1) = ((s.held i - 1 : Nat) : Int) := by rw [IntWalk.i64_in _ (by omega)]; omega
  have H3 : SetAt (w2.setCell ⟨L.gp, i * 7 + 5, none⟩ (.int .i64 ((s.held i - 1 : Nat) : Int))) L c { s with tkn := upd s.tkn i (upd (s.tkn i) x false), held := upd s.held i (s.held i - 1) } bs := H2.out.setHeld i (s.held i - 1) h1
  have W3 := W2.out.next (L2 := L) (s2 := { s with tkn := upd s.tkn i (upd (s.tkn i) x false), held := upd s.held i (s.held i - 1) }) (only_at w2 L.gp (i * 7 + 5) (.int .i64 ((s.held i - 1 : Nat) : Int)) ⟨.pages, rfl⟩) (fun q => by cases q <;> rfl)
  obtain ⟨w3, hw3⟩ : ∃ w3, w3 = w2.setCell ⟨L.gp, i * 7 + 5, none⟩ (.int .i64 ((s.held i - 1 : Nat) : Int)) := ⟨_, rfl⟩
  rw [← hw3] at H3 W3
  replace hw3 := Lib.hid hw3
  replace H3 := Lib.hid H3
  replace W3 := Lib.hid W3
  clear p4 tk zt H1 W1 hw2
  go_upto_region 6 with fail
  rw [← hw3.out]
  have p3 := H3.out.p3 h1 h2
  have e3 : ({ s with tkn := upd s.tkn i (upd (s.tkn i) x false), held := upd s.held i (s.held i - 1) } : St).cls i = k := hkk.out.symm
  rw [e3] at p3
  have gn : w3.cell? ⟨L.G i, x, none⟩ = some (.int .u32 (s.gens i x : Int)) := H3.out.gen h1 h2 (x := x) (by rw [e3]; exact h3)
  have zg : w3.frozen? ⟨L.G i, x, none⟩ = false := (H3.out.gensB h1 h2).frozen x
  have q2 : IntKind.u32.wrap ((s.gens i x : Int) + 1) = (((s.gens i x + 1) % 4294967296 : Nat) : Int) := by rw [IntKind.wrap_u32']; omega
  obtain ⟨s4, hs4⟩ : ∃ s4, s4 = ({ s with tkn := upd s.tkn i (upd (s.tkn i) x false), held := upd s.held i (s.held i - 1), gens := upd s.gens i (upd (s.gens i) x ((s.gens i x + 1) % 4294967296)) } : St) := ⟨_, rfl⟩
  have H4 : SetAt (w3.setCell ⟨L.G i, x, none⟩ (.int .u32 (((s.gens i x + 1) % 4294967296 : Nat) : Int))) L c s4 bs := by
    rw [hs4]
    exact H3.out.setGen i x ((s.gens i x + 1) % 4294967296) h1 h2 (by rw [e3]; exact h3)
  have W4 : Went w (w3.setCell ⟨L.G i, x, none⟩ (.int .u32 (((s.gens i x + 1) % 4294967296 : Nat) : Int))) L L c s s4 := by
    rw [hs4]
    exact W3.out.next (only_at w3 (L.G i) x _ ⟨.gens i, if_pos ⟨h1, h2⟩⟩) (fun q => by cases q <;> rfl)
  generalize hgv : (s.gens i x + 1) % 4294967296 = gv at *
  obtain ⟨w4, hw4⟩ : ∃ w4, w4 = w3.setCell ⟨L.G i, x, none⟩ (.int .u32 (gv : Int)) := ⟨_, rfl⟩
  rw [← hw4] at H4 W4
  have t1 : s4.cls i = k := by rw [hs4]; exact e3
  have t2 : s4.lvs = s.lvs := by rw [hs4]
  have t3 : s4.free = s.free := by rw [hs4]
  have t4 : s4.rt = s.rt := by rw [hs4]
  replace hgv := Lib.hid hgv
  replace hw4 := Lib.hid hw4
  replace H4 := Lib.hid H4
  replace W4 := Lib.hid W4
  replace hs4 := Lib.hid hs4
  clear p5 z5 q1 H2 W2 hw3
  go_upto_region 7 with fail
  rw [← hw4.out]
  have c10 := H4.out.cRows
  have p2 := H4.out.p2 h1
  rw [t1] at p2
  clear p3 gn zg q2 e3 H3 W3 hw4
  go_quiet (fail)
  go_upto_region 8 with fail
  obtain ⟨w5, hw5⟩ : ∃ w5, w5 = w4.drewN nq := ⟨_, rfl⟩
  rw [← hw5]
  have H5 : SetAt w5 L c s4 bs := by rw [hw5]; exact H4.out.drewN nq
  have W5 : Went w w5 L L c s s4 := by rw [hw5]; exact W4.out.next ((Only.refl _ _).drewN nq) (fun _ => rfl)
  replace hw5 := Lib.hid hw5
  have p1 := H5.p1 h1
  rw [t2] at p1
  replace H5 := Lib.hid H5
  replace W5 := Lib.hid W5
  clear H4 W4 c10 p2
  have q3 : IntKind.i64.wrap ((s.rt k : Int) - 1) = ((s.rt k - 1 : Nat) : Int) := by rw [IntWalk.i64_in _ (by omega)]; omega
  by_cases hl : s.lvs i = true
  · rw [hl] at p1
    have r1' := H5.out.r1 hk'
    have z1' := H5.out.fzR (k * 4 + 1)
    rw [t4] at r1'
    have H6 := H5.out.setRt k (s.rt k - 1) hk'
    have W6 := W5.out.next (L2 := L) (s2 := { s4 with rt := upd s4.rt k (s.rt k - 1) }) (only_at w5 L.gr (k * 4 + 1) (.int .i64 ((s.rt k - 1 : Nat) : Int)) ⟨.rows, rfl⟩) (fun q => by cases q <;> rfl)
    have e : { s4 with rt := upd s4.rt k (s.rt k - 1) } = giveS c.cf s i x := by rw [hG.out, hs4.out, if_pos hl]
    rw [e] at H6 W6
    replace H6 := Lib.hid H6
    replace W6 := Lib.hid W6
    clear e
    go_wp2
    go_ret
    exact ⟨rfl, L, rfl, H6.out, W6.out⟩
  · have hl' : s.lvs i = false := by simpa using hl
    rw [hl'] at p1
    have r0 := H5.out.r0 hk'
    have z0 := H5.out.fzR (k * 4)
    have own := H5.out.freeB hk'
    rw [t3] at own
    obtain ⟨A, cp, hF⟩ := own_is own
    rw [hF] at own r0
    replace hF := Lib.hid hF
    go_upto_region 9 with fail
    go_wp2_with (at_builtin; refine wpList_app rfl _ _ _ rfl eiI 0 _ _ _ rfl (own.alloc _) (w5.heap.size + 1) (some ⟨w5.heap.size, 0, none⟩) 1 1 ([p].map iv) rfl ?c1 ?c2 ?c3 ?c4 ?c5 ?_)
    case c1 => exact reads_one w5 p
    case c2 => exact iv_one _
    case c3 => unfold maxLen; omega
    case c4 => omega
    case c5 => omega
    intro VV w6 hown2 hg2 hat2
    obtain ⟨A2, c2, rfl⟩ := own_is hown2
    have hFb : (L.F k).ownBlock = (Value.slice A (s.free k).length cp).ownBlock := by rw [hF.out]
    have o6 : Only (fun b => (L.F k).ownBlock = some b) w5 w6 := ((Only.refl _ w5).alloc _).grown hg2 (fun j e _ => by rw [hFb]; exact e)
    have hb6 : ∀ b, (Value.slice A2 ((s.free k).length + 1) c2).ownBlock = some b → (L.F k).ownBlock = some b ∨ w5.heap.size ≤ b := by
      intro b e
      rcases hat2 with h3 | h3
      · exact .inl (by rw [hFb, ← h3]; exact e)
      · rw [h3] at e
        injection e with e
        exact .inr (by rw [← e]; simp)
    have own2 : w6.ownsRow 0 3 1 (.slice A2 ((s.free k).length + 1) c2) (s.free k ++ [p]).length ((s.free k ++ [p]).map iv) := by
      rw [List.length_append, List.map_append]; exact hown2
    have H6 := H5.out.setFree k hk' (.slice A2 ((s.free k).length + 1) c2) (s.free k ++ [p]) w6 o6 (fun _ e _ => e) own2 hb6
    have W6 := W5.out.setFree k hk' o6 (fun _ e _ => e) hb6 (s.free k ++ [p])
    have G6 := H5.out.rowsB.only o6 fun e => by
      have := H5.out.inj (.free k) .rows L.gr ((if_pos hk).trans e) rfl
      cases this
    have z0 : w6.frozen? ⟨L.gr, k * 4, none⟩ = false := G6.frozen _
    have r06 : w6.cell? ⟨L.gr, k * 4, none⟩ = some (.slice A (s.free k).length cp) := (G6.cell k 0 hk' (by omega)).trans (congrArg some hF.out)
    clear G6
    obtain ⟨L6, hL6⟩ : ∃ L6, L6 = ({ L with F := upd L.F k (.slice A2 ((s.free k).length + 1) c2) } : Lay) := ⟨_, rfl⟩
    obtain ⟨s6, hs6⟩ : ∃ s6, s6 = ({ s4 with free := upd s4.free k (s.free k ++ [p]) } : St) := ⟨_, rfl⟩
    rw [← hL6, ← hs6] at H6 W6
    have e6g : L6.g = L.g := by rw [hL6]
    have e6r : L6.gr = L.gr := by rw [hL6]
    have t6 : s6.rt = s.rt := by rw [hs6]; exact t4
    have es : ({ s6 with rt := upd s6.rt k (s.rt k - 1) } : St) = giveS c.cf s i x := by
      rw [hG.out, hs6, hs4.out, if_neg hl]
    replace es := Lib.hid es
    replace hL6 := Lib.hid hL6
    replace hs6 := Lib.hid hs6
    replace H6 := Lib.hid H6
    replace W6 := Lib.hid W6
    clear own hown2 hg2 hat2 o6 hb6 own2 hFb r0 H5 W5 hG hs4
    go_upto_region 10 with fail
    obtain ⟨w7, hw7⟩ : ∃ w7, w7 = w6.setCell ⟨L.gr, k * 4, none⟩ (.slice A2 ((s.free k).length + 1) c2) := ⟨_, rfl⟩
    rw [← hw7]
    have H7 : SetAt w7 L6 c s6 bs := by rw [hw7]; exact H6.out
    have W7 : Went w w7 L L6 c s s6 := by rw [hw7]; exact W6.out
    have r1' := H7.r1 hk'
    have z1' := H7.fzR (k * 4 + 1)
    rw [e6r] at r1' z1'
    rw [t6] at r1'
    have H8 := H7.setRt k (s.rt k - 1) hk'
    have W8 := W7.next (L2 := L6) (s2 := { s6 with rt := upd s6.rt k (s.rt k - 1) }) (only_at w7 L6.gr (k * 4 + 1) (.int .i64 ((s.rt k - 1 : Nat) : Int)) ⟨.rows, rfl⟩) (fun q => by cases q <;> rfl)
    rw [es.out, e6r] at H8 W8
    replace H8 := Lib.hid H8
    replace W8 := Lib.hid W8
    replace hw7 := Lib.hid hw7
    clear H6 W6 H7 W7 z0
    go_wp2
    go_ret
    exact ⟨rfl, L6, e6g, H8.out, W8.out⟩
end Go.Proofs.Ytgodinapdahocaa.Cls
