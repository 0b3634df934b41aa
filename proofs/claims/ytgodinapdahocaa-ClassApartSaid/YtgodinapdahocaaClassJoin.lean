/-
  The walk of join: a page's free chunks go to the end of its class's row.
-/
import Derived.Test.YtgodinapdahocaaClassWent
import Derived.Deep.RegionHeld3
namespace Go.Proofs.Ytgodinapdahocaa.Cls
open Go.RowKit Base MapG
set_option linter.unusedVariables false

theorem cel_alloc (w : World) (o : Obj) (g i : Nat) (hg : g < w.heap.size) : (w.alloc o).cell? ⟨g, i, none⟩ = w.cell? ⟨g, i, none⟩ := World.cell?_alloc_lt w o ⟨g, i, none⟩ hg
theorem frz_alloc (w : World) (o : Obj) (g i : Nat) (hg : g < w.heap.size) : (w.alloc o).frozen? ⟨g, i, none⟩ = w.frozen? ⟨g, i, none⟩ := by
  simp [World.frozen?, Below.heap_alloc w o g hg]
theorem cel_set (w : World) {g i h j : Nat} (v : Value) (hg : g ≠ h) : (w.setCell ⟨h, j, none⟩ v).cell? ⟨g, i, none⟩ = w.cell? ⟨g, i, none⟩ := World.cell?_setCell_other w ⟨h, j, none⟩ ⟨g, i, none⟩ v (fun e => by injection e with e1; exact hg e1.symm)
set_option maxRecDepth 100000 in
set_option maxHeartbeats 3200000 in
theorem joinC (w : World) (L : Lay) (c : Conf) (s : St) (bs : List UInt8) (h : SetAt w L c s bs) (i k : Nat) (hi : i < c.cf.np) (ho : s.own i = true) (hc : s.cls i = k) (hk : k < c.nc)
    (hf : (s.free k).length ≤ 1073741824) (hr : s.rs k < 1073741824) :
    Calls Try.prog 74 #[.pointer (some ⟨L.g, 0, none⟩), .int .i64 (i : Int)] w fun e w' => e = .returned (.tuple #[]) ∧
      ∃ v, SetAt w' { L with F := upd L.F k v } c (joinS c.cf s i) bs ∧ Went w w' L { L with F := upd L.F k v } c s (joinS c.cf s i) := by
  have H := Lib.hid h
  have ok := h.okc
  obtain ⟨n1, n2⟩ := n_pos ok hk
  have c0 := h.cPs
  have c8 := h.cSizes
  have c9 := h.cPages
  have c10 := h.cRows
  have p2 := h.p2 hi
  have p4 := h.p4 hi ho
  rw [hc] at p2 p4
  have r3 := h.r3 hk
  have z3 := h.fzR (k * 4 + 3)
  clear h
  have i0 : (0 : Int) ≤ (i : Int) := by omega
  have i1 : (i : Int) < (c.cf.np : Int) := by omega
  have k0 : (0 : Int) ≤ (k : Int) := by omega
  have k1 : (k : Int) < (c.nc : Int) := by omega
  have q1 : IntKind.i64.wrap ((s.rs k : Int) + 1) = (s.rs k : Int) + 1 := IntWalk.i64_in _ (by omega)
  have hnp := ok.npb
  have hnc := ok.ncb
  replace ok := Lib.hid ok
  go_enter Try.func74, Try.ntmps74
  go_wp2
  go_quiet (fail)
  go_upto_region 2 with fail
  obtain ⟨w0, hw0⟩ : ∃ w0, w0 = w.drewN nq := ⟨_, rfl⟩
  have H0 : SetAt w0 L c s bs := by rw [hw0]; exact H.out.drewN nq
  have W0 : Went w w0 L L c s s := ⟨by rw [hw0]; exact (Only.refl _ _).drewN nq, fun _ h => .inl h⟩
  rw [← hw0]
  have r3 := H0.r3 hk
  have z3 := H0.fzR (k * 4 + 3)
  have p4 := H0.p4 hi ho
  rw [hc] at p4
  have q2 : IntKind.i64.wrap ((c.cf.n k : Int) - 1) = (c.cf.n k : Int) - 1 := IntWalk.i64_in _ (by omega)
  have q3 : ∀ v, (w0.setCell ⟨L.gr, k * 4 + 3, none⟩ v).cell? ⟨L.gp, i * 7 + 4, none⟩ = w0.cell? ⟨L.gp, i * 7 + 4, none⟩ := fun v => World.cell?_setCell_other w0 _ _ v (fun e => by
    injection e with e1
    have := H0.inj .pages .rows L.gp rfl (by show some L.gr = some L.gp; rw [e1])
    cases this)
  replace hw0 := Lib.hid hw0
  replace H0 := Lib.hid H0
  replace W0 := Lib.hid W0
  replace hc := Lib.hid hc
  clear H c0 c8 c9 c10 p2
  go_wp2
  obtain ⟨w1, hw1⟩ : ∃ w1, w1 = w0.setCell ⟨L.gr, k * 4 + 3, none⟩ (.int .i64 ((s.rs k : Int) + 1)) := ⟨_, rfl⟩
  rw [← hw1]
  have H1 : SetAt w1 { L with F := upd L.F k (L.F k) } c { s with rs := upd s.rs k (s.rs k + 1), free := upd s.free k (s.free k ++ []) } bs := by
    rw [hw1, upd_self, List.append_nil, upd_self, show ((s.rs k : Int) + 1) = ((s.rs k + 1 : Nat) : Int) by omega]
    exact H0.out.setRs k (s.rs k + 1) hk
  have W1 : Went w w1 L { L with F := upd L.F k (L.F k) } c s { s with rs := upd s.rs k (s.rs k + 1), free := upd s.free k (s.free k ++ []) } := by
    rw [upd_self, List.append_nil, upd_self]
    refine ⟨?_, fun b h => .inl (by obtain ⟨p, hp⟩ := h; exact ⟨p, by cases p <;> exact hp⟩)⟩
    rw [hw1]
    exact W0.out.only.setCell (fun _ => ⟨.rows, rfl⟩) _
  replace H1 := Lib.hid H1
  replace W1 := Lib.hid W1
  replace hw1 := Lib.hid hw1
  clear q1 q2 q3 r3 z3 p4 H0 W0 hw0
  obtain ⟨s1, hs1⟩ : ∃ s1, s1 = { s with rs := upd s.rs k (s.rs k + 1) } := ⟨_, rfl⟩
  go_loopw [6] (fun v wr => ∃ (m : Nat) (x : Value) (done : List Nat), v = .int .i64 ((m : Int) - 1) ∧ m ≤ c.cf.n k ∧ Hid (done ++ freesTo c.cf s i m = frees c.cf s i) ∧
    Hid (SetAt wr { L with F := upd L.F k x } c { s with rs := upd s.rs k (s.rs k + 1), free := upd s.free k (s.free k ++ done) } bs) ∧ Hid (Went w wr L { L with F := upd L.F k x } c s { s with rs := upd s.rs k (s.rs k + 1), free := upd s.free k (s.free k ++ done) })) (fun v _ => (intOf v + 1).toNat)
  case atStart => exact ⟨c.cf.n k, L.F k, [], rfl, Nat.le_refl _, Lib.hid (by unfold frees; rw [hc.out]; rfl), H1, W1⟩
  case round =>
    obtain ⟨m, x, done, rfl, hm, hd, HR, WR⟩ := hrel
    clear H1 W1
    rcases Nat.eq_zero_or_pos m with hz | hz
    · subst hz
      have e : { s with rs := upd s.rs k (s.rs k + 1), free := upd s.free k (s.free k ++ done) } = joinS c.cf s i := by
        unfold joinS
        rw [hc.out, ← hd.out]
        unfold freesTo
        rw [List.append_nil]
      rw [e] at HR WR
      clear e
      go_wp2
      go_end0
      exact ⟨rfl, x, HR.out, WR.out⟩
    · obtain ⟨m, rfl⟩ : ∃ r', m = r' + 1 := ⟨m - 1, by omega⟩
      have hi1 : ((((m + 1 : Nat) : Int)) - 1) = (m : Int) := by omega
      rw [hi1]
      clear hi1
      have m0 : (0 : Int) ≤ (m : Int) := by omega
      have m1 : (m : Int) < (c.cf.n k : Int) := by omega
      have q4 : IntKind.i64.wrap ((m : Int) - 1) = (m : Int) - 1 := IntWalk.i64_in _ (by omega)
      have p4 := HR.out.p4 hi ho
      have tk := HR.out.tk hi ho (x := m) (by show m < c.cf.n (s.cls i); rw [hc.out]; omega)
      simp only [hc.out] at p4
      by_cases ht : s.tkn i m = true
      · simp only [ht] at tk
        have hd' : Hid (done ++ freesTo c.cf s i m = frees c.cf s i) := by rw [← hd.out]; exact Lib.hid (by conv => rhs; unfold freesTo; rw [if_pos ht])
        go_wp2
        go_roundw
        case rel => exact ⟨m, x, done, rfl, by omega, hd', HR, WR⟩
        case measure => simp [intOf] <;> omega
      · have ht' : s.tkn i m = false := by simpa using ht
        simp only [ht'] at tk
        have hd' : Hid ((done ++ [i * c.cf.ps + m * c.sz k]) ++ freesTo c.cf s i m = frees c.cf s i) := by
          rw [← hd.out]
          refine Lib.hid ?_
          conv => rhs; unfold freesTo; rw [if_neg ht]
          rw [List.append_assoc, hc.out]; rfl
        have hdl : done.length + 1 ≤ c.cf.n k := by
          have h1 := freesTo_len c.cf s i (c.cf.n (s.cls i))
          have h2 : (frees c.cf s i).length ≤ c.cf.n (s.cls i) := h1
          rw [← hd'.out, hc.out] at h2
          simp only [List.length_append, List.length_singleton] at h2
          omega
        obtain ⟨b1, b2, b3⟩ := ok.out.sz k hk
        have b4 := ok.out.psb
        have b5 := ok.out.ps
        have hA : i * c.cf.ps ≤ 1023 * 1048576 := Nat.mul_le_mul (by omega) b4
        have hB : m * c.sz k ≤ 16384 * 1048576 := Nat.mul_le_mul (by omega) (Nat.le_trans b2 b4)
        have qa : IntKind.i64.wrap ((i : Int) * (c.cf.ps : Int)) = ((i * c.cf.ps : Nat) : Int) := by rw [Int.natCast_mul]; exact IntWalk.i64_in _ (by rw [← Int.natCast_mul]; omega)
        have qb : IntKind.i64.wrap ((m : Int) * (c.sz k : Int)) = ((m * c.sz k : Nat) : Int) := by rw [Int.natCast_mul]; exact IntWalk.i64_in _ (by rw [← Int.natCast_mul]; omega)
        generalize i * c.cf.ps = A at *
        generalize m * c.sz k = B at *
        have qc : IntKind.i64.wrap ((A : Int) + (B : Int)) = ((A + B : Nat) : Int) := by rw [IntWalk.i64_in _ (by omega)]; omega
        generalize A + B = P at *
        have c0 := HR.out.cPs
        have c8 := HR.out.cSizes
        have p2 := HR.out.p2 hi
        have cz := HR.out.sz hk
        have r0 := HR.out.r0 hk
        have z0 := HR.out.fzR (k * 4)
        have own := HR.out.freeB hk
        have hle : (s.free k ++ done).length = (s.free k).length + done.length := List.length_append
        have hxn : ∀ q, q ≠ Part.free k → ∀ b, Lay.blk { L with F := upd L.F k x } c.cf { s with rs := upd s.rs k (s.rs k + 1), free := upd s.free k (s.free k ++ done) } q = some b → some b ≠ x.ownBlock := by
          intro q hq b hb e
          exact hq (HR.out.inj q (.free k) b hb (by rw [Lay.blk, if_pos (show k < c.cf.nc from hk)]; show (upd L.F k x k).ownBlock = _; rw [upd_at]; exact e.symm))
        have x1 := hxn .head (fun e => by cases e) L.g rfl
        have x2 := hxn .sizes (fun e => by cases e) L.gs rfl
        have x3 := hxn .pages (fun e => by cases e) L.gp rfl
        have x4 := hxn .rows (fun e => by cases e) L.gr rfl
        have hg1 : L.g < wr.heap.size := HR.out.headB.lt
        have hg2 : L.gs < wr.heap.size := HR.out.sizesB.lt
        have hg3 : L.gp < wr.heap.size := HR.out.pagesB.lt
        have y1 : L.g ≠ L.gr := fun e => by have := HR.out.inj .head .rows L.g rfl (by show some L.gr = some L.g; rw [e]); cases this
        have y2 : L.gs ≠ L.gr := fun e => by have := HR.out.inj .sizes .rows L.gs rfl (by show some L.gr = some L.gs; rw [e]); cases this
        have y3 : L.gp ≠ L.gr := fun e => by have := HR.out.inj .pages .rows L.gp rfl (by show some L.gr = some L.gp; rw [e]); cases this
        clear hxn
        simp only [hc.out, upd_at] at p2 r0 own
        generalize hF : s.free k ++ done = Fl at *
        have hg4 : L.gr < wr.heap.size := HR.out.rowsB.lt
        replace hle := Lib.hid hle
        replace hF := Lib.hid hF
        replace hd := Lib.hid hd
        clear ht hA hB b1 b2 b3 b4 b5
        have bx0 : ∀ W : World, W.heap.size = wr.heap.size → Reads (W.alloc (.cells #[.int .i64 (P : Int)] 3)) (wr.heap.size + 1) 1 (some ⟨wr.heap.size, 0, none⟩) 1 ([P].map iv) := by
          intro W hW
          have := reads_one W P
          rwa [hW] at this
        replace bx0 := Lib.hid bx0
        obtain ⟨ie, hie, hz0, hz1, hz2⟩ := eiI.info
        have one := Lib.hid (iv_one [P])
        have hlc : Fl.length ≤ 1073800000 := by have := hle.out; omega
        go_upto_region 7 with fail
        have cx := And.intro c0 (And.intro c8 (And.intro p2 cz))
        have r0' := (cel_alloc wr (.cells #[.int .i64 (P : Int)] 3) L.gr (k * 4) hg4).trans r0
        refine wp_region_noPanic ?_
        refine wp_region_held_drew (S := (fun w' => w'.cell? ⟨L.g, 0, none⟩ = some (.int .i64 (c.cf.ps : Int)) ∧ w'.cell? ⟨L.g, 8, none⟩ = some (.slice (some ⟨L.gs, 0, none⟩) c.nc L.sc) ∧ w'.cell? ⟨L.gp, i * 7 + 2, none⟩ = some (.int .i64 (k : Int)) ∧ w'.cell? ⟨L.gs, k, none⟩ = some (.int .i64 (c.sz k : Int)))) (by kernel_rfl) ?_ (fun hHeld => ?_)
        · (try dsimp only)
          (first | (go_keep; done) | exact ⟨(cel_alloc wr _ L.g 0 hg1).trans c0, (cel_alloc wr _ L.g 8 hg1).trans c8, (cel_alloc wr _ L.gp _ hg3).trans p2, (cel_alloc wr _ L.gs _ hg2).trans cz⟩ | exact ⟨d0, d8, d2, dz⟩ | exact ⟨(cel_set w3 _ y1).trans d0, (cel_set w3 _ y1).trans d8, (cel_set w3 _ y3).trans d2, (cel_set w3 _ y2).trans dz⟩)
        refine wpAnyH_take (i := 0) (oi := _) (v := ?_) rfl (by kernel_rfl) (by kernel_rfl) (by kernel_rfl) (fun _ _ _ h => h) (Or.inl ⟨by rfl, ?_⟩) (by assumption) ?_
        rotate_left
        · try simp only [List.getElem_toArray, List.getElem_cons_succ, List.getElem_cons_zero]
          intro w hSw
          (try dsimp only at hSw)
          go_simp
          (try with_reducible rfl)
        try simp only [List.getElem_toArray, List.getElem_cons_succ, List.getElem_cons_zero, Act.put, List.setIfInBounds_toArray, List.set_cons_zero, List.set_cons_succ]
        refine wpAnyH_take (i := 1) (oi := _) (v := ?_) rfl (by kernel_rfl) (by kernel_rfl) (by kernel_rfl) (fun _ _ _ h => h) (Or.inl ⟨by rfl, ?_⟩) (by assumption) ?_
        rotate_left
        · try simp only [List.getElem_toArray, List.getElem_cons_succ, List.getElem_cons_zero]
          intro w hSw
          (try dsimp only at hSw)
          go_simp
          (try with_reducible rfl)
        try simp only [List.getElem_toArray, List.getElem_cons_succ, List.getElem_cons_zero, Act.put, List.setIfInBounds_toArray, List.set_cons_zero, List.set_cons_succ]
        refine wpAnyH_take (i := 2) (oi := _) (v := ?_) rfl (by kernel_rfl) (by kernel_rfl) (by kernel_rfl) (fun _ _ _ h => h) (Or.inl ⟨by rfl, ?_⟩) (by assumption) ?_
        rotate_left
        · try simp only [List.getElem_toArray, List.getElem_cons_succ, List.getElem_cons_zero]
          intro w hSw
          (try dsimp only at hSw)
          go_simp
          (try with_reducible rfl)
        try simp only [List.getElem_toArray, List.getElem_cons_succ, List.getElem_cons_zero, Act.put, List.setIfInBounds_toArray, List.set_cons_zero, List.set_cons_succ]
        refine wpAnyH_take (i := 3) (oi := _) (v := ?_) rfl (by kernel_rfl) (by kernel_rfl) (by kernel_rfl) (fun _ _ _ h => h) (Or.inl ⟨by rfl, ?_⟩) (by assumption) ?_
        rotate_left
        · try simp only [List.getElem_toArray, List.getElem_cons_succ, List.getElem_cons_zero]
          intro w hSw
          (try dsimp only at hSw)
          go_simp
          (try with_reducible rfl)
        try simp only [List.getElem_toArray, List.getElem_cons_succ, List.getElem_cons_zero, Act.put, List.setIfInBounds_toArray, List.set_cons_zero, List.set_cons_succ]
        refine wpAnyH_take (i := 5) (oi := _) (v := ?_) rfl (by kernel_rfl) (by kernel_rfl) (by kernel_rfl) (fun _ _ _ h => h) (Or.inl ⟨by rfl, ?_⟩) (by assumption) ?_
        rotate_left
        · try simp only [List.getElem_toArray, List.getElem_cons_succ, List.getElem_cons_zero]
          intro w hSw
          (try dsimp only at hSw)
          go_simp
          (try with_reducible rfl)
        try simp only [List.getElem_toArray, List.getElem_cons_succ, List.getElem_cons_zero, Act.put, List.setIfInBounds_toArray, List.set_cons_zero, List.set_cons_succ]
        refine wpAnyH_take (i := 6) (oi := _) (v := ?_) rfl (by kernel_rfl) (by kernel_rfl) (by kernel_rfl) (fun _ _ _ h => h) (Or.inl ⟨by rfl, ?_⟩) (by assumption) ?_
        rotate_left
        · try simp only [List.getElem_toArray, List.getElem_cons_succ, List.getElem_cons_zero]
          intro w hSw
          (try dsimp only at hSw)
          go_simp
          (try with_reducible rfl)
        try simp only [List.getElem_toArray, List.getElem_cons_succ, List.getElem_cons_zero, Act.put, List.setIfInBounds_toArray, List.set_cons_zero, List.set_cons_succ]
        refine wpAnyH_take (i := 7) (oi := _) (v := ?_) rfl (by kernel_rfl) (by kernel_rfl) (by kernel_rfl) (fun _ _ _ h => h) (Or.inl ⟨by rfl, ?_⟩) (by assumption) ?_
        rotate_left
        · try simp only [List.getElem_toArray, List.getElem_cons_succ, List.getElem_cons_zero]
          intro w hSw
          (try dsimp only at hSw)
          go_simp
          (try with_reducible rfl)
        try simp only [List.getElem_toArray, List.getElem_cons_succ, List.getElem_cons_zero, Act.put, List.setIfInBounds_toArray, List.set_cons_zero, List.set_cons_succ]
        refine wpAnyH_take (i := 8) (oi := _) (v := ?_) rfl (by kernel_rfl) (by kernel_rfl) (by kernel_rfl) (fun _ _ _ h => h) (Or.inl ⟨by rfl, ?_⟩) (by assumption) ?_
        rotate_left
        · try simp only [List.getElem_toArray, List.getElem_cons_succ, List.getElem_cons_zero]
          intro w hSw
          (try dsimp only at hSw)
          go_simp
          (try with_reducible rfl)
        try simp only [List.getElem_toArray, List.getElem_cons_succ, List.getElem_cons_zero, Act.put, List.setIfInBounds_toArray, List.set_cons_zero, List.set_cons_succ]
        refine wpAnyH_take (i := 9) (oi := _) (v := ?_) rfl (by kernel_rfl) (by kernel_rfl) (by kernel_rfl) (fun _ _ _ h => h) (Or.inl ⟨by rfl, ?_⟩) (by assumption) ?_
        rotate_left
        · try simp only [List.getElem_toArray, List.getElem_cons_succ, List.getElem_cons_zero]
          intro w hSw
          (try dsimp only at hSw)
          go_simp
          (try with_reducible rfl)
        try simp only [List.getElem_toArray, List.getElem_cons_succ, List.getElem_cons_zero, Act.put, List.setIfInBounds_toArray, List.set_cons_zero, List.set_cons_succ]
        refine wpAnyH_take (i := 10) (oi := _) (v := ?_) rfl (by kernel_rfl) (by kernel_rfl) (by kernel_rfl) (fun _ _ _ h => h) (Or.inl ⟨by rfl, ?_⟩) (by assumption) ?_
        rotate_left
        · try simp only [List.getElem_toArray, List.getElem_cons_succ, List.getElem_cons_zero]
          intro w hSw
          (try dsimp only at hSw)
          go_simp
          (try with_reducible rfl)
        try simp only [List.getElem_toArray, List.getElem_cons_succ, List.getElem_cons_zero, Act.put, List.setIfInBounds_toArray, List.set_cons_zero, List.set_cons_succ]
        refine wpAnyH_take (i := 11) (oi := _) (v := ?_) rfl (by kernel_rfl) (by kernel_rfl) (by kernel_rfl) (fun _ _ _ h => h) (Or.inl ⟨by rfl, ?_⟩) (by assumption) ?_
        rotate_left
        · try simp only [List.getElem_toArray, List.getElem_cons_succ, List.getElem_cons_zero]
          intro w hSw
          (try dsimp only at hSw)
          go_simp
          (try with_reducible rfl)
        try simp only [List.getElem_toArray, List.getElem_cons_succ, List.getElem_cons_zero, Act.put, List.setIfInBounds_toArray, List.set_cons_zero, List.set_cons_succ]
        refine wpAnyH_take (i := 12) (oi := _) (v := ?_) rfl (by kernel_rfl) (by kernel_rfl) (by kernel_rfl) (fun _ _ _ h => h) (Or.inl ⟨by rfl, ?_⟩) (by assumption) ?_
        rotate_left
        · try simp only [List.getElem_toArray, List.getElem_cons_succ, List.getElem_cons_zero]
          intro w hSw
          (try dsimp only at hSw)
          go_simp
          (try with_reducible rfl)
        try simp only [List.getElem_toArray, List.getElem_cons_succ, List.getElem_cons_zero, Act.put, List.setIfInBounds_toArray, List.set_cons_zero, List.set_cons_succ]
        refine wpAnyH_take (i := 13) (oi := _) (v := ?_) rfl (by kernel_rfl) (by kernel_rfl) (by kernel_rfl) (fun _ _ _ h => h) (Or.inl ⟨by rfl, ?_⟩) (by assumption) ?_
        rotate_left
        · try simp only [List.getElem_toArray, List.getElem_cons_succ, List.getElem_cons_zero]
          intro w hSw
          (try dsimp only at hSw)
          go_simp
          (try with_reducible rfl)
        try simp only [List.getElem_toArray, List.getElem_cons_succ, List.getElem_cons_zero, Act.put, List.setIfInBounds_toArray, List.set_cons_zero, List.set_cons_succ]
        refine wpAnyH_take (i := 14) (oi := _) (v := ?_) rfl (by kernel_rfl) (by kernel_rfl) (by kernel_rfl) (fun _ _ _ h => h) (Or.inl ⟨by rfl, ?_⟩) (by assumption) ?_
        rotate_left
        · try simp only [List.getElem_toArray, List.getElem_cons_succ, List.getElem_cons_zero]
          intro w hSw
          (try dsimp only at hSw)
          go_simp
          (try with_reducible rfl)
        try simp only [List.getElem_toArray, List.getElem_cons_succ, List.getElem_cons_zero, Act.put, List.setIfInBounds_toArray, List.set_cons_zero, List.set_cons_succ]
        refine wpAnyH_take (i := 15) (oi := _) (v := ?_) rfl (by kernel_rfl) (by kernel_rfl) (by kernel_rfl) (fun _ _ _ h => h) (Or.inl ⟨by rfl, ?_⟩) (by assumption) ?_
        rotate_left
        · try simp only [List.getElem_toArray, List.getElem_cons_succ, List.getElem_cons_zero]
          intro w hSw
          (try dsimp only at hSw)
          go_simp
          (try with_reducible rfl)
        try simp only [List.getElem_toArray, List.getElem_cons_succ, List.getElem_cons_zero, Act.put, List.setIfInBounds_toArray, List.set_cons_zero, List.set_cons_succ]
        refine wpAnyH_take (i := 16) (oi := _) (v := ?_) rfl (by kernel_rfl) (by kernel_rfl) (by kernel_rfl) (fun _ _ _ h => h) (Or.inl ⟨by rfl, ?_⟩) (by assumption) ?_
        rotate_left
        · try simp only [List.getElem_toArray, List.getElem_cons_succ, List.getElem_cons_zero]
          intro w hSw
          (try dsimp only at hSw)
          go_simp
          (try with_reducible rfl)
        try simp only [List.getElem_toArray, List.getElem_cons_succ, List.getElem_cons_zero, Act.put, List.setIfInBounds_toArray, List.set_cons_zero, List.set_cons_succ]
        refine wpAnyH_take (i := 17) (oi := _) (v := ?_) rfl (by kernel_rfl) (by kernel_rfl) (by kernel_rfl) (fun _ _ _ h => h) (Or.inl ⟨by rfl, ?_⟩) (by assumption) ?_
        rotate_left
        · try simp only [List.getElem_toArray, List.getElem_cons_succ, List.getElem_cons_zero]
          intro w hSw
          (try dsimp only at hSw)
          go_simp
          (try with_reducible rfl)
        try simp only [List.getElem_toArray, List.getElem_cons_succ, List.getElem_cons_zero, Act.put, List.setIfInBounds_toArray, List.set_cons_zero, List.set_cons_succ]
        refine wpAnyH_take (i := 18) (oi := _) (v := ?_) rfl (by kernel_rfl) (by kernel_rfl) (by kernel_rfl) (fun _ _ _ h => h) (Or.inl ⟨by rfl, ?_⟩) (by assumption) ?_
        rotate_left
        · try simp only [List.getElem_toArray, List.getElem_cons_succ, List.getElem_cons_zero]
          intro w hSw
          (try dsimp only at hSw)
          go_simp
          (try with_reducible rfl)
        try simp only [List.getElem_toArray, List.getElem_cons_succ, List.getElem_cons_zero, Act.put, List.setIfInBounds_toArray, List.set_cons_zero, List.set_cons_succ]
        refine wpAnyH_take (i := 19) (oi := _) (v := ?_) rfl (by kernel_rfl) (by kernel_rfl) (by kernel_rfl) (fun _ _ _ h => h) (Or.inl ⟨by rfl, ?_⟩) (by assumption) ?_
        rotate_left
        · try simp only [List.getElem_toArray, List.getElem_cons_succ, List.getElem_cons_zero]
          intro w hSw
          (try dsimp only at hSw)
          go_simp
          (try with_reducible rfl)
        try simp only [List.getElem_toArray, List.getElem_cons_succ, List.getElem_cons_zero, Act.put, List.setIfInBounds_toArray, List.set_cons_zero, List.set_cons_succ]
        refine wpAnyH_take (i := 20) (oi := _) (v := ?_) rfl (by kernel_rfl) (by kernel_rfl) (by kernel_rfl) (fun _ _ _ h => h) (Or.inl ⟨by rfl, ?_⟩) (by assumption) ?_
        rotate_left
        · try simp only [List.getElem_toArray, List.getElem_cons_succ, List.getElem_cons_zero]
          intro w hSw
          (try dsimp only at hSw)
          go_simp
          (try with_reducible rfl)
        try simp only [List.getElem_toArray, List.getElem_cons_succ, List.getElem_cons_zero, Act.put, List.setIfInBounds_toArray, List.set_cons_zero, List.set_cons_succ]
        refine wpAnyH_take (i := 21) (oi := _) (v := ?_) rfl (by kernel_rfl) (by kernel_rfl) (by kernel_rfl) (fun _ _ _ h => h) (Or.inl ⟨by rfl, ?_⟩) (by assumption) ?_
        rotate_left
        · try simp only [List.getElem_toArray, List.getElem_cons_succ, List.getElem_cons_zero]
          intro w hSw
          (try dsimp only at hSw)
          go_simp
          (try with_reducible rfl)
        try simp only [List.getElem_toArray, List.getElem_cons_succ, List.getElem_cons_zero, Act.put, List.setIfInBounds_toArray, List.set_cons_zero, List.set_cons_succ]
        refine wpAnyH_take (i := 22) (oi := _) (v := ?_) rfl (by kernel_rfl) (by kernel_rfl) (by kernel_rfl) (fun _ _ _ h => h) (Or.inl ⟨by rfl, ?_⟩) (by assumption) ?_
        rotate_left
        · try simp only [List.getElem_toArray, List.getElem_cons_succ, List.getElem_cons_zero]
          intro w hSw
          (try dsimp only at hSw)
          go_simp
          (try with_reducible rfl)
        try simp only [List.getElem_toArray, List.getElem_cons_succ, List.getElem_cons_zero, Act.put, List.setIfInBounds_toArray, List.set_cons_zero, List.set_cons_succ]
        refine wpAnyH_take (i := 23) (oi := _) (v := ?_) rfl (by kernel_rfl) (by kernel_rfl) (by kernel_rfl) (fun _ _ _ h => h) (Or.inl ⟨by rfl, ?_⟩) (by assumption) ?_
        rotate_left
        · try simp only [List.getElem_toArray, List.getElem_cons_succ, List.getElem_cons_zero]
          intro w hSw
          (try dsimp only at hSw)
          go_simp
          (try with_reducible rfl)
        try simp only [List.getElem_toArray, List.getElem_cons_succ, List.getElem_cons_zero, Act.put, List.setIfInBounds_toArray, List.set_cons_zero, List.set_cons_succ]
        refine wpAnyH_take (i := 24) (oi := _) (v := ?_) rfl (by kernel_rfl) (by kernel_rfl) (by kernel_rfl) (fun _ _ _ h => h) (Or.inl ⟨by rfl, ?_⟩) (by assumption) ?_
        rotate_left
        · try simp only [List.getElem_toArray, List.getElem_cons_succ, List.getElem_cons_zero]
          intro w hSw
          (try dsimp only at hSw)
          go_simp
          (try with_reducible rfl)
        try simp only [List.getElem_toArray, List.getElem_cons_succ, List.getElem_cons_zero, Act.put, List.setIfInBounds_toArray, List.set_cons_zero, List.set_cons_succ]
        refine wpAnyH_ready (rs := [4, 25]) (by kernel_rfl) (by simp) ?_
        refine AllReadyH.cons (o := _) rfl (fun K hK => ?_) (AllReadyH.cons (o := _) rfl (fun K hK => ?_) AllReadyH.nil)
        · try simp only [List.getElem_toArray, List.getElem_cons_succ, List.getElem_cons_zero]
          go_simp
          refine hK.out _ _ ?_ (fun hHeld26 => ?_)
          · (try dsimp only)
            (first | (go_keep; done) | exact ⟨(cel_alloc wr _ L.g 0 hg1).trans c0, (cel_alloc wr _ L.g 8 hg1).trans c8, (cel_alloc wr _ L.gp _ hg3).trans p2, (cel_alloc wr _ L.gs _ hg2).trans cz⟩ | exact ⟨d0, d8, d2, dz⟩ | exact ⟨(cel_set w3 _ y1).trans d0, (cel_set w3 _ y1).trans d8, (cel_set w3 _ y3).trans d2, (cel_set w3 _ y2).trans dz⟩)
          clear hK K
          try simp only [List.getElem_toArray, List.getElem_cons_succ, List.getElem_cons_zero, Act.put, List.setIfInBounds_toArray, List.set_cons_zero, List.set_cons_succ]
          refine wpAnyH_ready (rs := [25]) (by kernel_rfl) (by simp) ?_
          refine AllReadyH.cons (o := _) rfl (fun K hK => ?_) AllReadyH.nil
          try simp only [List.getElem_toArray, List.getElem_cons_succ, List.getElem_cons_zero]
          go_simp
          refine hK.out _ _ ?_ (fun hHeld27 => ?_)
          · (try dsimp only)
            (first | (go_keep; done) | exact ⟨(cel_alloc wr _ L.g 0 hg1).trans c0, (cel_alloc wr _ L.g 8 hg1).trans c8, (cel_alloc wr _ L.gp _ hg3).trans p2, (cel_alloc wr _ L.gs _ hg2).trans cz⟩ | exact ⟨d0, d8, d2, dz⟩ | exact ⟨(cel_set w3 _ y1).trans d0, (cel_set w3 _ y1).trans d8, (cel_set w3 _ y3).trans d2, (cel_set w3 _ y2).trans dz⟩)
          clear hK K
          try simp only [List.getElem_toArray, List.getElem_cons_succ, List.getElem_cons_zero, Act.put, List.setIfInBounds_toArray, List.set_cons_zero, List.set_cons_succ]
          refine wpAnyH_ready (rs := [26]) (by kernel_rfl) (by simp) ?_
          refine AllReadyH.cons (o := _) rfl (fun K hK => ?_) AllReadyH.nil
          try simp only [List.getElem_toArray, List.getElem_cons_succ, List.getElem_cons_zero]
          rw [if_pos (by simp [Region.wanted])]
          ((refine wp_append_new (ops := #[]) _ (by rfl) _ _ _ (by rfl) 0 3 ie _ 1 8 Try.underlying36 hie hz0 hz1 hz2 rfl (by decide) x Fl.length (Fl.map iv) (by rfl) (own.alloc _) (wr.heap.size + 1) (some ⟨wr.heap.size, 0, none⟩) 1 1 ([P].map iv) (by rfl) (bx0.out _ (by simp)) one.out (by unfold maxLen; omega) (by omega) (Nat.zero_le _) (by omega) ?_; intro b3 c3 w3 own3 hgrow hat3 hlt3; have r1 : w3.frozen? ⟨L.gr, k * 4, none⟩ = false := (hgrow.frozen_far _ (by simp; omega) x4).trans ((frz_alloc wr _ L.gr (k * 4) hg4).trans z0); have r2 : w3.cell? ⟨L.gr, k * 4, none⟩ = some x := (hgrow.cell_far _ (by simp; omega) x4).trans ((cel_alloc wr _ L.gr (k * 4) hg4).trans r0); have d0 : w3.cell? ⟨L.g, 0, none⟩ = some (.int .i64 (c.cf.ps : Int)) := (hgrow.cell_far _ (by simp; omega) x1).trans ((cel_alloc wr _ L.g 0 hg1).trans c0); have d8 : w3.cell? ⟨L.g, 8, none⟩ = some (.slice (some ⟨L.gs, 0, none⟩) c.nc L.sc) := (hgrow.cell_far _ (by simp; omega) x1).trans ((cel_alloc wr _ L.g 8 hg1).trans c8); have d2 : w3.cell? ⟨L.gp, i * 7 + 2, none⟩ = some (.int .i64 (k : Int)) := (hgrow.cell_far _ (by simp; omega) x3).trans ((cel_alloc wr _ L.gp _ hg3).trans p2); have dz : w3.cell? ⟨L.gs, k, none⟩ = some (.int .i64 (c.sz k : Int)) := (hgrow.cell_far _ (by simp; omega) x2).trans ((cel_alloc wr _ L.gs _ hg2).trans cz)))
          refine hK.out _ _ ?_ (fun hHeld29 => ?_)
          · (try dsimp only)
            (first | (go_keep; done) | exact ⟨(cel_alloc wr _ L.g 0 hg1).trans c0, (cel_alloc wr _ L.g 8 hg1).trans c8, (cel_alloc wr _ L.gp _ hg3).trans p2, (cel_alloc wr _ L.gs _ hg2).trans cz⟩ | exact ⟨d0, d8, d2, dz⟩ | exact ⟨(cel_set w3 _ y1).trans d0, (cel_set w3 _ y1).trans d8, (cel_set w3 _ y3).trans d2, (cel_set w3 _ y2).trans dz⟩)
          clear hK K
          try simp only [List.getElem_toArray, List.getElem_cons_succ, List.getElem_cons_zero, Act.put, List.setIfInBounds_toArray, List.set_cons_zero, List.set_cons_succ]
          refine wpAnyH_take (i := 27) (oi := _) (v := ?_) rfl (by kernel_rfl) (by kernel_rfl) (by kernel_rfl) (fun _ _ _ h => h) (Or.inl ⟨by rfl, ?_⟩) (by assumption) ?_
          rotate_left
          · try simp only [List.getElem_toArray, List.getElem_cons_succ, List.getElem_cons_zero]
            intro w hSw
            (try dsimp only at hSw)
            go_simp
            (try with_reducible rfl)
          try simp only [List.getElem_toArray, List.getElem_cons_succ, List.getElem_cons_zero, Act.put, List.setIfInBounds_toArray, List.set_cons_zero, List.set_cons_succ]
          refine wpAnyH_take (i := 28) (oi := _) (v := ?_) rfl (by kernel_rfl) (by kernel_rfl) (by kernel_rfl) (fun _ _ _ h => h) (Or.inl ⟨by rfl, ?_⟩) (by assumption) ?_
          rotate_left
          · try simp only [List.getElem_toArray, List.getElem_cons_succ, List.getElem_cons_zero]
            intro w hSw
            (try dsimp only at hSw)
            go_simp
            (try with_reducible rfl)
          try simp only [List.getElem_toArray, List.getElem_cons_succ, List.getElem_cons_zero, Act.put, List.setIfInBounds_toArray, List.set_cons_zero, List.set_cons_succ]
          refine wpAnyH_ready (rs := [29]) (by kernel_rfl) (by simp) ?_
          refine AllReadyH.cons (o := _) rfl (fun K hK => ?_) AllReadyH.nil
          try simp only [List.getElem_toArray, List.getElem_cons_succ, List.getElem_cons_zero]
          go_simp
          refine hK.out _ _ ?_ (fun hHeld32 => ?_)
          · (try dsimp only)
            (first | (go_keep; done) | exact ⟨(cel_alloc wr _ L.g 0 hg1).trans c0, (cel_alloc wr _ L.g 8 hg1).trans c8, (cel_alloc wr _ L.gp _ hg3).trans p2, (cel_alloc wr _ L.gs _ hg2).trans cz⟩ | exact ⟨d0, d8, d2, dz⟩ | exact ⟨(cel_set w3 _ y1).trans d0, (cel_set w3 _ y1).trans d8, (cel_set w3 _ y3).trans d2, (cel_set w3 _ y2).trans dz⟩)
          clear hK K
          try simp only [List.getElem_toArray, List.getElem_cons_succ, List.getElem_cons_zero, Act.put, List.setIfInBounds_toArray, List.set_cons_zero, List.set_cons_succ]
          refine wpAnyH_done (by kernel_rfl) ?_ _
          refine NoPanic.normal ?_
          have G : SetAt (w3.setCell ⟨L.gr, k * 4, none⟩ (.slice (some ⟨b3, 0, none⟩) (Fl.length + 1) c3)) { L with F := upd L.F k (.slice (some ⟨b3, 0, none⟩) (Fl.length + 1) c3) } c { s with rs := upd s.rs k (s.rs k + 1), free := upd s.free k (s.free k ++ (done ++ [P])) } bs := by
            have := HR.out.setFree (S := fun b => x.ownBlock = some b) k hk (.slice (some ⟨b3, 0, none⟩) (Fl.length + 1) c3) (Fl ++ [P]) w3 (((Only.refl _ wr).alloc _).drew.grown hgrow (fun k e _ => e)) (fun b e _ => (congrArg Value.ownBlock (upd_at L.F k x)).trans e)
              (by rw [List.length_append, List.map_append]; exact own3) (fun b e => by
                have e2 : b3 = b := by simpa [Value.ownBlock] using e
                subst e2
                rcases hat3 with h3 | h3
                · exact .inl ((congrArg Value.ownBlock (upd_at L.F k x)).trans h3)
                · exact .inr (by rw [h3]; simp))
            simp only [upd_upd] at this
            rw [← List.append_assoc, hF.out]
            exact this
          have WG : Went w (w3.setCell ⟨L.gr, k * 4, none⟩ (.slice (some ⟨b3, 0, none⟩) (Fl.length + 1) c3)) L { L with F := upd L.F k (.slice (some ⟨b3, 0, none⟩) (Fl.length + 1) c3) } c s { s with rs := upd s.rs k (s.rs k + 1), free := upd s.free k (s.free k ++ (done ++ [P])) } := by
            refine WR.out.trans ⟨((((Only.refl _ wr).alloc _).drew.grown hgrow (fun j e _ => ⟨.free k, by rw [Lay.blk, if_pos (show k < c.cf.nc from hk)]; exact (congrArg Value.ownBlock (upd_at L.F k x)).trans e⟩)).setCell (fun _ => ⟨.rows, rfl⟩) _), fun b hb => ?_⟩
            obtain ⟨p, hp⟩ := hb
            by_cases hpk : p = .free k
            · subst hpk
              rw [Lay.blk, if_pos (show k < c.cf.nc from hk)] at hp
              have e2 : b3 = b := by
                have hp' : (upd L.F k (Value.slice (some ⟨b3, 0, none⟩) (Fl.length + 1) c3) k).ownBlock = some b := hp
                rw [upd_at] at hp'
                simpa [Value.ownBlock] using hp'
              subst e2
              rcases hat3 with h3 | h3
              · exact .inl ⟨.free k, by rw [Lay.blk, if_pos (show k < c.cf.nc from hk)]; exact (congrArg Value.ownBlock (upd_at L.F k x)).trans h3⟩
              · exact .inr (by rw [h3]; simp)
            · refine .inl ⟨p, ?_⟩
              cases p with
              | free j =>
                have hj : j ≠ k := fun e => hpk (by rw [e])
                by_cases hjn : j < c.cf.nc
                · rw [Lay.blk, if_pos hjn] at hp ⊢
                  have hp' : (upd L.F k (Value.slice (some ⟨b3, 0, none⟩) (Fl.length + 1) c3) j).ownBlock = some b := hp
                  show (upd L.F k x j).ownBlock = some b
                  rw [upd_ne _ _ hj] at hp' ⊢
                  exact hp'
                · rw [Lay.blk, if_neg hjn] at hp; cases hp
              | _ => exact hp
          obtain ⟨w4, hw4⟩ : ∃ w4, w4 = w3.setCell ⟨L.gr, k * 4, none⟩ (.slice (some ⟨b3, 0, none⟩) (Fl.length + 1) c3) := ⟨_, rfl⟩
          rw [← hw4] at G WG ⊢
          replace G := Lib.hid G
          replace WG := Lib.hid WG
          clear hw4 r1 r2 d0 d8 d2 dz own3 hgrow hat3 hlt3 c0 c8 p2 cz r0 r0' z0 own p4 tk cx bx0 one
          go_wp2
          go_roundw
          case rel => exact ⟨m, _, _, rfl, by omega, hd', G, WG⟩
          case measure => simp [intOf] <;> omega
        · try simp only [List.getElem_toArray, List.getElem_cons_succ, List.getElem_cons_zero]
          go_simp
          refine hK.out _ _ ?_ (fun hHeld33 => ?_)
          · (try dsimp only)
            (first | (go_keep; done) | exact ⟨(cel_alloc wr _ L.g 0 hg1).trans c0, (cel_alloc wr _ L.g 8 hg1).trans c8, (cel_alloc wr _ L.gp _ hg3).trans p2, (cel_alloc wr _ L.gs _ hg2).trans cz⟩ | exact ⟨d0, d8, d2, dz⟩ | exact ⟨(cel_set w3 _ y1).trans d0, (cel_set w3 _ y1).trans d8, (cel_set w3 _ y3).trans d2, (cel_set w3 _ y2).trans dz⟩)
          clear hK K
          try simp only [List.getElem_toArray, List.getElem_cons_succ, List.getElem_cons_zero, Act.put, List.setIfInBounds_toArray, List.set_cons_zero, List.set_cons_succ]
          refine wpAnyH_ready (rs := [4]) (by kernel_rfl) (by simp) ?_
          refine AllReadyH.cons (o := _) rfl (fun K hK => ?_) AllReadyH.nil
          try simp only [List.getElem_toArray, List.getElem_cons_succ, List.getElem_cons_zero]
          go_simp
          refine hK.out _ _ ?_ (fun hHeld34 => ?_)
          · (try dsimp only)
            (first | (go_keep; done) | exact ⟨(cel_alloc wr _ L.g 0 hg1).trans c0, (cel_alloc wr _ L.g 8 hg1).trans c8, (cel_alloc wr _ L.gp _ hg3).trans p2, (cel_alloc wr _ L.gs _ hg2).trans cz⟩ | exact ⟨d0, d8, d2, dz⟩ | exact ⟨(cel_set w3 _ y1).trans d0, (cel_set w3 _ y1).trans d8, (cel_set w3 _ y3).trans d2, (cel_set w3 _ y2).trans dz⟩)
          clear hK K
          try simp only [List.getElem_toArray, List.getElem_cons_succ, List.getElem_cons_zero, Act.put, List.setIfInBounds_toArray, List.set_cons_zero, List.set_cons_succ]
          refine wpAnyH_ready (rs := [26]) (by kernel_rfl) (by simp) ?_
          refine AllReadyH.cons (o := _) rfl (fun K hK => ?_) AllReadyH.nil
          try simp only [List.getElem_toArray, List.getElem_cons_succ, List.getElem_cons_zero]
          rw [if_pos (by simp [Region.wanted])]
          ((refine wp_append_new (ops := #[]) _ (by rfl) _ _ _ (by rfl) 0 3 ie _ 1 8 Try.underlying36 hie hz0 hz1 hz2 rfl (by decide) x Fl.length (Fl.map iv) (by rfl) (own.alloc _) (wr.heap.size + 1) (some ⟨wr.heap.size, 0, none⟩) 1 1 ([P].map iv) (by rfl) (bx0.out _ (by simp)) one.out (by unfold maxLen; omega) (by omega) (Nat.zero_le _) (by omega) ?_; intro b3 c3 w3 own3 hgrow hat3 hlt3; have r1 : w3.frozen? ⟨L.gr, k * 4, none⟩ = false := (hgrow.frozen_far _ (by simp; omega) x4).trans ((frz_alloc wr _ L.gr (k * 4) hg4).trans z0); have r2 : w3.cell? ⟨L.gr, k * 4, none⟩ = some x := (hgrow.cell_far _ (by simp; omega) x4).trans ((cel_alloc wr _ L.gr (k * 4) hg4).trans r0); have d0 : w3.cell? ⟨L.g, 0, none⟩ = some (.int .i64 (c.cf.ps : Int)) := (hgrow.cell_far _ (by simp; omega) x1).trans ((cel_alloc wr _ L.g 0 hg1).trans c0); have d8 : w3.cell? ⟨L.g, 8, none⟩ = some (.slice (some ⟨L.gs, 0, none⟩) c.nc L.sc) := (hgrow.cell_far _ (by simp; omega) x1).trans ((cel_alloc wr _ L.g 8 hg1).trans c8); have d2 : w3.cell? ⟨L.gp, i * 7 + 2, none⟩ = some (.int .i64 (k : Int)) := (hgrow.cell_far _ (by simp; omega) x3).trans ((cel_alloc wr _ L.gp _ hg3).trans p2); have dz : w3.cell? ⟨L.gs, k, none⟩ = some (.int .i64 (c.sz k : Int)) := (hgrow.cell_far _ (by simp; omega) x2).trans ((cel_alloc wr _ L.gs _ hg2).trans cz)))
          refine hK.out _ _ ?_ (fun hHeld36 => ?_)
          · (try dsimp only)
            (first | (go_keep; done) | exact ⟨(cel_alloc wr _ L.g 0 hg1).trans c0, (cel_alloc wr _ L.g 8 hg1).trans c8, (cel_alloc wr _ L.gp _ hg3).trans p2, (cel_alloc wr _ L.gs _ hg2).trans cz⟩ | exact ⟨d0, d8, d2, dz⟩ | exact ⟨(cel_set w3 _ y1).trans d0, (cel_set w3 _ y1).trans d8, (cel_set w3 _ y3).trans d2, (cel_set w3 _ y2).trans dz⟩)
          clear hK K
          try simp only [List.getElem_toArray, List.getElem_cons_succ, List.getElem_cons_zero, Act.put, List.setIfInBounds_toArray, List.set_cons_zero, List.set_cons_succ]
          refine wpAnyH_take (i := 27) (oi := _) (v := ?_) rfl (by kernel_rfl) (by kernel_rfl) (by kernel_rfl) (fun _ _ _ h => h) (Or.inl ⟨by rfl, ?_⟩) (by assumption) ?_
          rotate_left
          · try simp only [List.getElem_toArray, List.getElem_cons_succ, List.getElem_cons_zero]
            intro w hSw
            (try dsimp only at hSw)
            go_simp
            (try with_reducible rfl)
          try simp only [List.getElem_toArray, List.getElem_cons_succ, List.getElem_cons_zero, Act.put, List.setIfInBounds_toArray, List.set_cons_zero, List.set_cons_succ]
          refine wpAnyH_take (i := 28) (oi := _) (v := ?_) rfl (by kernel_rfl) (by kernel_rfl) (by kernel_rfl) (fun _ _ _ h => h) (Or.inl ⟨by rfl, ?_⟩) (by assumption) ?_
          rotate_left
          · try simp only [List.getElem_toArray, List.getElem_cons_succ, List.getElem_cons_zero]
            intro w hSw
            (try dsimp only at hSw)
            go_simp
            (try with_reducible rfl)
          try simp only [List.getElem_toArray, List.getElem_cons_succ, List.getElem_cons_zero, Act.put, List.setIfInBounds_toArray, List.set_cons_zero, List.set_cons_succ]
          refine wpAnyH_ready (rs := [29]) (by kernel_rfl) (by simp) ?_
          refine AllReadyH.cons (o := _) rfl (fun K hK => ?_) AllReadyH.nil
          try simp only [List.getElem_toArray, List.getElem_cons_succ, List.getElem_cons_zero]
          go_simp
          refine hK.out _ _ ?_ (fun hHeld39 => ?_)
          · (try dsimp only)
            (first | (go_keep; done) | exact ⟨(cel_alloc wr _ L.g 0 hg1).trans c0, (cel_alloc wr _ L.g 8 hg1).trans c8, (cel_alloc wr _ L.gp _ hg3).trans p2, (cel_alloc wr _ L.gs _ hg2).trans cz⟩ | exact ⟨d0, d8, d2, dz⟩ | exact ⟨(cel_set w3 _ y1).trans d0, (cel_set w3 _ y1).trans d8, (cel_set w3 _ y3).trans d2, (cel_set w3 _ y2).trans dz⟩)
          clear hK K
          try simp only [List.getElem_toArray, List.getElem_cons_succ, List.getElem_cons_zero, Act.put, List.setIfInBounds_toArray, List.set_cons_zero, List.set_cons_succ]
          refine wpAnyH_done (by kernel_rfl) ?_ _
          refine NoPanic.normal ?_
          have G : SetAt (w3.setCell ⟨L.gr, k * 4, none⟩ (.slice (some ⟨b3, 0, none⟩) (Fl.length + 1) c3)) { L with F := upd L.F k (.slice (some ⟨b3, 0, none⟩) (Fl.length + 1) c3) } c { s with rs := upd s.rs k (s.rs k + 1), free := upd s.free k (s.free k ++ (done ++ [P])) } bs := by
            have := HR.out.setFree (S := fun b => x.ownBlock = some b) k hk (.slice (some ⟨b3, 0, none⟩) (Fl.length + 1) c3) (Fl ++ [P]) w3 (((Only.refl _ wr).alloc _).drew.grown hgrow (fun k e _ => e)) (fun b e _ => (congrArg Value.ownBlock (upd_at L.F k x)).trans e)
              (by rw [List.length_append, List.map_append]; exact own3) (fun b e => by
                have e2 : b3 = b := by simpa [Value.ownBlock] using e
                subst e2
                rcases hat3 with h3 | h3
                · exact .inl ((congrArg Value.ownBlock (upd_at L.F k x)).trans h3)
                · exact .inr (by rw [h3]; simp))
            simp only [upd_upd] at this
            rw [← List.append_assoc, hF.out]
            exact this
          have WG : Went w (w3.setCell ⟨L.gr, k * 4, none⟩ (.slice (some ⟨b3, 0, none⟩) (Fl.length + 1) c3)) L { L with F := upd L.F k (.slice (some ⟨b3, 0, none⟩) (Fl.length + 1) c3) } c s { s with rs := upd s.rs k (s.rs k + 1), free := upd s.free k (s.free k ++ (done ++ [P])) } := by
            refine WR.out.trans ⟨((((Only.refl _ wr).alloc _).drew.grown hgrow (fun j e _ => ⟨.free k, by rw [Lay.blk, if_pos (show k < c.cf.nc from hk)]; exact (congrArg Value.ownBlock (upd_at L.F k x)).trans e⟩)).setCell (fun _ => ⟨.rows, rfl⟩) _), fun b hb => ?_⟩
            obtain ⟨p, hp⟩ := hb
            by_cases hpk : p = .free k
            · subst hpk
              rw [Lay.blk, if_pos (show k < c.cf.nc from hk)] at hp
              have e2 : b3 = b := by
                have hp' : (upd L.F k (Value.slice (some ⟨b3, 0, none⟩) (Fl.length + 1) c3) k).ownBlock = some b := hp
                rw [upd_at] at hp'
                simpa [Value.ownBlock] using hp'
              subst e2
              rcases hat3 with h3 | h3
              · exact .inl ⟨.free k, by rw [Lay.blk, if_pos (show k < c.cf.nc from hk)]; exact (congrArg Value.ownBlock (upd_at L.F k x)).trans h3⟩
              · exact .inr (by rw [h3]; simp)
            · refine .inl ⟨p, ?_⟩
              cases p with
              | free j =>
                have hj : j ≠ k := fun e => hpk (by rw [e])
                by_cases hjn : j < c.cf.nc
                · rw [Lay.blk, if_pos hjn] at hp ⊢
                  have hp' : (upd L.F k (Value.slice (some ⟨b3, 0, none⟩) (Fl.length + 1) c3) j).ownBlock = some b := hp
                  show (upd L.F k x j).ownBlock = some b
                  rw [upd_ne _ _ hj] at hp' ⊢
                  exact hp'
                · rw [Lay.blk, if_neg hjn] at hp; cases hp
              | _ => exact hp
          obtain ⟨w4, hw4⟩ : ∃ w4, w4 = w3.setCell ⟨L.gr, k * 4, none⟩ (.slice (some ⟨b3, 0, none⟩) (Fl.length + 1) c3) := ⟨_, rfl⟩
          rw [← hw4] at G WG ⊢
          replace G := Lib.hid G
          replace WG := Lib.hid WG
          clear hw4 r1 r2 d0 d8 d2 dz own3 hgrow hat3 hlt3 c0 c8 p2 cz r0 r0' z0 own p4 tk cx bx0 one
          go_wp2
          go_roundw
          case rel => exact ⟨m, _, _, rfl, by omega, hd', G, WG⟩
          case measure => simp [intOf] <;> omega
end Go.Proofs.Ytgodinapdahocaa.Cls
