/-
  The walk of widen: the lowest free page becomes a class's.
-/
import Derived.Test.YtgodinapdahocaaClassWiden
namespace Go.Proofs.Ytgodinapdahocaa.Cls
open Go.RowKit Base MapG
set_option linter.unusedVariables false

/-- .. its first m generations are those that the page had. -/
def freshG (c : Cf) (s : St) (k i m : Nat) : St := { s with own := upd s.own i true, cls := upd s.cls i k, gens := upd s.gens i (fun x => if x < m then s.old i (x * c.sz k) else 0), tkn := upd s.tkn i (fun _ => false) }
theorem freshG_zero (c : Cf) (s : St) (k i : Nat) : freshG c s k i 0 = freshS s k i := by
  unfold freshG freshS
  simp
theorem freshG_succ (c : Cf) (s : St) (k i m : Nat) : { freshG c s k i m with gens := upd (freshG c s k i m).gens i (upd ((freshG c s k i m).gens i) m (s.old i (m * c.sz k))) } = freshG c s k i (m + 1) := by
  unfold freshG
  simp only [upd_upd, upd_at]
  congr 1
  congr 1
  funext x
  unfold upd
  by_cases h : x = m
  · subst h; simp
  · rw [if_neg h]
    by_cases h1 : x < m
    · show (if x < m then _ else _) = _
      rw [if_pos h1, if_pos (by omega)]
    · show (if x < m then _ else _) = _
      rw [if_neg h1, if_neg (by omega)]
theorem freshG_all (c : Cf) (s : St) (k i : Nat) : { freshG c s k i (c.n k) with rp := upd s.rp k (s.rp k + 1) } = widen1 c s k i := rfl
set_option maxRecDepth 100000 in
set_option maxHeartbeats 3200000 in
theorem widenYes (w : World) (L : Lay) (c : Conf) (s : St) (bs : List UInt8) (h : SetAt w L c s bs) (g : Good c.cf s) (k i : Nat) (hk : k < c.nc) (hi : i < c.cf.np) (ho : s.own i = false) (hl : ∀ j, j < i → s.own j = true) :
    Calls Try.prog 49 #[.pointer (some ⟨L.g, 0, none⟩), .int .i64 (k : Int)] w fun e w' => e = .returned (.bool true) ∧
      ∃ L', L'.g = L.g ∧ L'.gr = L.gr ∧ SetAt w' L' c (widenS c.cf s k i) bs ∧ Went w w' L L' c s (widenS c.cf s k i) := by
  have H := Lib.hid h
  have ok := h.okc
  obtain ⟨n1, n2⟩ := n_pos ok hk
  have hsp : 1 ≤ s.spare ∧ s.spare ≤ 1024 := by
    rw [g.spare]
    exact ⟨cnt_pos (f := fun j => !s.own j) hi (by simp [ho]), Nat.le_trans cnt_le ok.npb⟩
  have hfl := g.short ok hk
  have hrs : s.rs k ≤ 1024 ∧ s.rp k ≤ 1024 := by
    rw [g.rs k hk, g.rp k hk]
    exact ⟨Nat.le_trans cnt_le ok.npb, Nat.le_trans cnt_le ok.npb⟩
  have JC := Lib.hid joinC
  have c0 := h.cPs
  have c8 := h.cSizes
  have c9 := h.cPages
  have cz := h.sz hk
  have P0 := Lib.hid fun j hj => h.p0 (i := j) hj
  clear h
  have k0 : (0 : Int) ≤ (k : Int) := by omega
  have k1 : (k : Int) < (c.nc : Int) := by omega
  have hnp := ok.npb
  have hnc := ok.ncb
  obtain ⟨b1, b2, b3⟩ := ok.sz k hk
  have b4 := ok.psb
  have b5 := ok.ps
  have q1 : ((c.cf.ps : Int)).tdiv (c.sz k : Int) = (c.cf.n k : Int) := by rw [Int.tdiv_eq_ediv_of_nonneg (by omega)]; exact (Int.natCast_ediv _ _).symm
  have q2 : IntKind.i64.wrap (c.cf.n k : Int) = (c.cf.n k : Int) := IntWalk.i64_in _ (by omega)
  have z0 : ¬ (c.sz k : Int) = 0 := by have : 64 ≤ c.sz k := b1; omega
  replace ok := Lib.hid ok
  go_enter Try.func49, Try.ntmps49
  go_wp2
  go_loopw [14] (fun v wr => ∃ j : Nat, v = .int .i64 (j : Int) ∧ j ≤ i ∧ w = wr) (fun v _ => i - (intOf v).toNat)
  case atStart => exact ⟨0, rfl, Nat.zero_le _, rfl⟩
  case round =>
    obtain ⟨j, rfl, hj, rfl⟩ := hrel
    have j0 : (0 : Int) ≤ (j : Int) := by omega
    have j1 : (j : Int) < (c.cf.np : Int) := by omega
    have j2 : decide ((j : Int) < (c.cf.np : Int)) = true := by simp; omega
    have q3 : IntKind.i64.wrap ((j : Int) + 1) = (j : Int) + 1 := IntWalk.i64_in _ (by omega)
    have p0 := P0.out j (by omega)
    by_cases hji : j < i
    · rw [hl j hji] at p0
      go_wp2
      go_roundw
      case rel => exact ⟨j + 1, by simp, by omega, trivial⟩
      case measure => simp [intOf] <;> omega
    · obtain rfl : j = i := by omega
      rw [ho] at p0
      go_upto_region 6 with fail
      go_quiet (fail)
      go_upto_region 7 with fail
      obtain ⟨w0, hw0⟩ : ∃ w0, w0 = w.drewN nq := ⟨_, rfl⟩
      have H0 : SetAt w0 L c s bs := by rw [hw0]; exact H.out.drewN nq
      have W0 : Went w w0 L L c s s := ⟨by rw [hw0]; exact (Only.refl _ _).drewN nq, fun _ h => .inl h⟩
      rw [← hw0]
      have r0 := H0.p0 hi
      have r2 := H0.p2 hi
      have z1 := H0.fzP (j * 7)
      have z2 := H0.fzP (j * 7 + 2)
      clear c0 c8 c9 cz p0 P0 q1 j2 q3
      replace hw0 := Lib.hid hw0
      replace H0 := Lib.hid H0
      replace W0 := Lib.hid W0
      go_upto_region 8 with fail
      obtain ⟨w1, hw1⟩ : ∃ w1, w1 = (w0.setCell ⟨L.gp, j * 7, none⟩ (.bool true)).setCell ⟨L.gp, j * 7 + 2, none⟩ (.int .i64 (k : Int)) := ⟨_, rfl⟩
      have G1 := (H0.out.pagesB.set j 0 hi (by omega) (.bool true)).set j 2 hi (by omega) (.int .i64 (k : Int))
      rw [Nat.add_zero] at G1
      have o1 : Only (· = L.gp) w0 w1 := by
        rw [hw1]
        exact ((Only.refl (· = L.gp) w0).setCell (p := ⟨L.gp, j * 7, none⟩) (fun _ => rfl) _).setCell (p := ⟨L.gp, j * 7 + 2, none⟩) (fun _ => rfl) _
      rw [← hw1] at G1 ⊢
      have hg1 : L.gp < w1.heap.size := G1.lt
      have r3 := G1.cell j 3 hi (by omega)
      have r4 := G1.cell j 4 hi (by omega)
      have z3 := G1.frozen (j * 7 + 3)
      have z4 := G1.frozen (j * 7 + 4)
      replace hw1 := Lib.hid hw1
      clear r0 r2 z1 z2
      have mU : ∀ W : World, (Instr.makeSlice 101 (.int .i64 (c.cf.n k : Int)) (.int .i64 (c.cf.n k : Int))).run Try.prog W = .ok (.slice (some ⟨W.heap.size, 0, none⟩) (c.cf.n k) (c.cf.n k)) (W.alloc (.cells (madeCells (Value.int .u32 0).cells (c.cf.n k * 1)) 107)) :=
        fun W => eiU.make .i64 .i64 (c.cf.n k) (c.cf.n k) (Nat.le_refl _) (by omega) (by omega) W
      have mB : ∀ W : World, (Instr.makeSlice 68 (.int .i64 (c.cf.n k : Int)) (.int .i64 (c.cf.n k : Int))).run Try.prog W = .ok (.slice (some ⟨W.heap.size, 0, none⟩) (c.cf.n k) (c.cf.n k)) (W.alloc (.cells (madeCells (Value.bool false).cells (c.cf.n k * 1)) 4)) :=
        fun W => eiB.make .i64 .i64 (c.cf.n k) (c.cf.n k) (Nat.le_refl _) (by omega) (by omega) W
      go_cut [] from 47 to 56 (fun wx => ∃ a b, SetAt wx { L with G := upd L.G j a, T := upd L.T j b } c (freshS s k j) bs ∧ Went w wx L { L with G := upd L.G j a, T := upd L.T j b } c s (freshS s k j))
      case first =>
        generalize hA : Obj.cells (madeCells (Value.int .u32 0).cells (c.cf.n k * 1)) 107 = A at *
        generalize hB : Obj.cells (madeCells (Value.bool false).cells (c.cf.n k * 1)) 4 = B at *
        replace hA := Lib.hid hA
        replace hB := Lib.hid hB
        replace G1 := Lib.hid G1
        replace o1 := Lib.hid o1
        go_region
        · obtain ⟨w2, hw2⟩ : ∃ w2, w2 = (w1.setCell ⟨L.gp, j * 7 + 3, none⟩ (.slice (some ⟨w1.heap.size, 0, none⟩) (c.cf.n k) (c.cf.n k))).setCell ⟨L.gp, j * 7 + 4, none⟩ (.slice (some ⟨w1.heap.size + 1, 0, none⟩) (c.cf.n k) (c.cf.n k)) := ⟨_, rfl⟩
          rw [← hw2]
          have hs2 : w2.heap.size = w1.heap.size := by rw [hw2]; simp
          have G2 := (G1.out.set j 3 hi (by omega) (.slice (some ⟨w1.heap.size, 0, none⟩) (c.cf.n k) (c.cf.n k))).set j 4 hi (by omega) (.slice (some ⟨w1.heap.size + 1, 0, none⟩) (c.cf.n k) (c.cf.n k))
          rw [← hw2] at G2
          have o2 : Only (· = L.gp) w0 w2 := by rw [hw2]; exact (o1.out.setCell (p := ⟨L.gp, j * 7 + 3, none⟩) (fun _ => rfl) _).setCell (p := ⟨L.gp, j * 7 + 4, none⟩) (fun _ => rfl) _
          have GA := Grid.made1 w2 107 (.int .u32 0) (c.cf.n k) rfl
          rw [hA.out, hs2] at GA
          have GB := Grid.made1 (w2.alloc A) 4 (.bool false) (c.cf.n k) rfl
          rw [hB.out, World.size_alloc, hs2] at GB
          have hs := o1.out.size
          have M := H0.out.widen k j w1.heap.size (w1.heap.size + 1) hi ho ((o2.alloc A).alloc B).drew (G2.only (((Only.refl (fun _ => False) w2).alloc A).alloc B).drew (fun e => e)) (GA.only ((Only.refl (fun _ => False) _).alloc B).drew (fun e => e)) GB.drew hs (by omega)
          go_wp2_with fail
          go_meet
          exact ⟨_, _, M.1, W0.out.trans M.2⟩
        · obtain ⟨w2, hw2⟩ : ∃ w2, w2 = (w1.setCell ⟨L.gp, j * 7 + 3, none⟩ (.slice (some ⟨w1.heap.size + 1, 0, none⟩) (c.cf.n k) (c.cf.n k))).setCell ⟨L.gp, j * 7 + 4, none⟩ (.slice (some ⟨w1.heap.size, 0, none⟩) (c.cf.n k) (c.cf.n k)) := ⟨_, rfl⟩
          rw [← hw2]
          have hs2 : w2.heap.size = w1.heap.size := by rw [hw2]; simp
          have G2 := (G1.out.set j 3 hi (by omega) (.slice (some ⟨w1.heap.size + 1, 0, none⟩) (c.cf.n k) (c.cf.n k))).set j 4 hi (by omega) (.slice (some ⟨w1.heap.size, 0, none⟩) (c.cf.n k) (c.cf.n k))
          rw [← hw2] at G2
          have o2 : Only (· = L.gp) w0 w2 := by rw [hw2]; exact (o1.out.setCell (p := ⟨L.gp, j * 7 + 3, none⟩) (fun _ => rfl) _).setCell (p := ⟨L.gp, j * 7 + 4, none⟩) (fun _ => rfl) _
          have GB := Grid.made1 w2 4 (.bool false) (c.cf.n k) rfl
          rw [hB.out, hs2] at GB
          have GA := Grid.made1 (w2.alloc B) 107 (.int .u32 0) (c.cf.n k) rfl
          rw [hA.out, World.size_alloc, hs2] at GA
          have hs := o1.out.size
          have M := H0.out.widen k j (w1.heap.size + 1) w1.heap.size hi ho ((o2.alloc B).alloc A).drew (G2.only (((Only.refl (fun _ => False) w2).alloc B).alloc A).drew (fun e => e)) GA.drew (GB.only ((Only.refl (fun _ => False) _).alloc A).drew (fun e => e)) (by omega) hs
          go_wp2_with fail
          go_meet
          exact ⟨_, _, M.1, W0.out.trans M.2⟩
      case rest =>
        obtain ⟨a, b, H1, W1⟩ := hcut
        have own1 : (freshS s k j).own j = true := upd_at _ _ _
        have cls1 : (freshS s k j).cls j = k := upd_at _ _ _
        have p3 := H1.p3 hi own1
        rw [cls1] at p3
        have GL : ({ L with G := upd L.G j a, T := upd L.T j b } : Lay).G j = a := upd_at _ _ _
        rw [GL] at p3
        clear GL
        replace H1 := Lib.hid H1
        replace W1 := Lib.hid W1
        replace own1 := Lib.hid own1
        replace cls1 := Lib.hid cls1
        clear W0 H0 G1 o1 r3 r4 z3 z4 hw1 hg1 mU mB
        go_wp2
        obtain ⟨L1, hL1⟩ : ∃ L1, L1 = ({ L with G := upd L.G j a, T := upd L.T j b } : Lay) := ⟨_, rfl⟩
        rw [← hL1] at H1 W1
        have eg : L1.g = L.g := by rw [hL1]
        have egp : L1.gp = L.gp := by rw [hL1]
        have egr : L1.gr = L.gr := by rw [hL1]
        have egs : L1.gs = L.gs := by rw [hL1]
        have esc : L1.sc = L.sc := by rw [hL1]
        have eG : L1.G j = a := by rw [hL1]; exact upd_at _ _ _
        have eO : L1.O j = L.O j := by rw [hL1]
        replace hL1 := Lib.hid hL1
        go_loopw [62] (fun v wr => ∃ m : Nat, v = .int .i64 (m : Int) ∧ m ≤ c.cf.n k ∧ Hid (SetAt wr L1 c (freshG c.cf s k j m) bs) ∧ Hid (Went w wr L L1 c s (freshG c.cf s k j m))) (fun v _ => c.cf.n k - (intOf v).toNat)
        case atStart => exact ⟨0, rfl, Nat.zero_le _, by rw [freshG_zero]; exact H1, by rw [freshG_zero]; exact W1⟩
        case round =>
          obtain ⟨m, rfl, hm, HR, WR⟩ := hrel
          clear H1 W1 p3
          have m0 : (0 : Int) ≤ (m : Int) := by omega
          by_cases hmn : m < c.cf.n k
          · have m1 : (m : Int) < (c.cf.n k : Int) := by omega
            have m2 : decide ((m : Int) < (c.cf.n k : Int)) = true := by simp; omega
            have hi1 : j < c.cf.np := hi
            have d8 := HR.out.cSizes
            have dz := HR.out.sz hk
            have p3 := HR.out.p3 hi own1.out
            have p6 := HR.out.p6 hi
            have gz : wr.frozen? ⟨L1.G j, m, none⟩ = false := (HR.out.gensB hi own1.out).frozen m
            have gc := HR.out.gen hi own1.out (x := m) (by show m < c.cf.n (upd s.cls j k j); rw [upd_at]; exact hmn)
            have hB : m * c.sz k ≤ 16384 * 1048576 := Nat.mul_le_mul (by omega) (Nat.le_trans b2 b4)
            have hlk := (HR.out.drew.oldB hi).look (m * c.sz k) (by rw [M63_eq]; omega)
            have hcl : (freshG c.cf s k j m).cls j = k := upd_at _ _ _
            rw [hcl, eG, egp] at p3
            rw [egp, eO] at p6
            rw [eG] at gz gc
            rw [eg, egs, esc] at d8
            rw [egs] at dz
            rw [eO] at hlk
            have qb : IntKind.i64.wrap ((m : Int) * (c.sz k : Int)) = ((m * c.sz k : Nat) : Int) := by rw [Int.natCast_mul]; exact IntWalk.i64_in _ (by rw [← Int.natCast_mul]; omega)
            have q3 : IntKind.i64.wrap ((m : Int) + 1) = (m : Int) + 1 := IntWalk.i64_in _ (by omega)
            have hold : (freshG c.cf s k j m).old j (m * c.sz k) = s.old j (m * c.sz k) := rfl
            rw [hold] at hlk
            have HN : SetAt (wr.drew.setCell ⟨a, m, none⟩ (.int .u32 (s.old j (m * c.sz k) : Int))) L1 c (freshG c.cf s k j (m + 1)) bs := by
              rw [← freshG_succ, ← eG]
              exact HR.out.drew.setGen j m (s.old j (m * c.sz k)) hi own1.out (by show m < c.cf.n (upd s.cls j k j); rw [upd_at]; exact hmn)
            have WN : Went w (wr.drew.setCell ⟨a, m, none⟩ (.int .u32 (s.old j (m * c.sz k) : Int))) L L1 c s (freshG c.cf s k j (m + 1)) := by
              have hb : L1.blk c.cf (freshG c.cf s k j m) (.gens j) = some a := by
                show (if j < c.cf.np ∧ (freshG c.cf s k j m).own j = true then some (L1.G j) else none) = some a
                rw [if_pos ⟨hi, own1.out⟩, eG]
              exact WR.out.trans ⟨(Only.refl _ wr).drew.setCell (p := ⟨a, m, none⟩) (fun _ => ⟨.gens j, hb⟩) _, fun b ⟨p, hp⟩ => .inl ⟨p, by cases p <;> exact hp⟩⟩
            replace HN := Lib.hid HN
            replace WN := Lib.hid WN
            generalize hV : s.old j (m * c.sz k) = V at *
            generalize m * c.sz k = M at *
            clear hold hB hV
            go_upto_region 12 with fail
            go_still_tail 20, (by kernel_rfl)
            change wpList _ _ _ _ _ wr.drew
            go_wp2
            go_roundw
            case rel => exact ⟨m + 1, by simp, by omega, HN, WN⟩
            case measure => simp [intOf] <;> omega
          · obtain rfl : m = c.cf.n k := by omega
            have m2 : decide ((c.cf.n k : Int) < (c.cf.n k : Int)) = false := by simp
            have d10 := HR.out.cRows
            have r2 := HR.out.r2 hk
            have z2 := HR.out.fzR (k * 4 + 2)
            rw [eg, egr] at d10
            rw [egr] at r2 z2
            have hrp : (freshG c.cf s k j (c.cf.n k)).rp k = s.rp k := rfl
            rw [hrp] at r2
            have q4 : IntKind.i64.wrap ((s.rp k : Int) + 1) = (s.rp k : Int) + 1 := IntWalk.i64_in _ (by omega)
            go_upto_region 15 with fail
            obtain ⟨w5, hw5⟩ : ∃ w5, w5 = wr.setCell ⟨L.gr, k * 4 + 2, none⟩ (.int .i64 ((s.rp k : Int) + 1)) := ⟨_, rfl⟩
            rw [← hw5]
            have H5 : SetAt w5 L1 c (widen1 c.cf s k j) bs := by
              rw [hw5, ← egr, show ((s.rp k : Int) + 1) = ((s.rp k + 1 : Nat) : Int) by omega]
              exact HR.out.setRp k (s.rp k + 1) hk
            have W5 : Went w w5 L L1 c s (widen1 c.cf s k j) := by
              rw [hw5]
              exact WR.out.trans ⟨(Only.refl _ wr).setCell (p := ⟨L.gr, k * 4 + 2, none⟩) (fun _ => ⟨.rows, by rw [← egr]; rfl⟩) _, fun b ⟨p, hp⟩ => .inl ⟨p, by cases p <;> exact hp⟩⟩
            have J5 := Lib.hid (JC.out w5 L1 c (widen1 c.cf s k j) bs H5 j k hi (upd_at _ _ _) (upd_at _ _ _) hk hfl (by show s.rs k < _; omega))
            clear d10 r2 z2 hrp q4 HR WR H5 JC
            replace W5 := Lib.hid W5
            replace hw5 := Lib.hid hw5
            go_wp2_with fail
            rw [← eg]
            refine J5.out.mono ?_
            rintro e w6 ⟨rfl, v, H6, W6⟩
            have W7 := W5.out.trans W6
            have d11 : w6.cell? ⟨L.g, 11, none⟩ = some (.int .i64 ((joinS c.cf (widen1 c.cf s k j) j).spare : Int)) := by rw [← eg]; exact H6.cSpare
            have z11 : w6.frozen? ⟨L.g, 11, none⟩ = false := by rw [← eg]; exact H6.fz 11
            have hsp2 : (joinS c.cf (widen1 c.cf s k j) j).spare = s.spare := rfl
            rw [hsp2] at d11
            have q5 : IntKind.i64.wrap ((s.spare : Int) - 1) = ((s.spare - 1 : Nat) : Int) := by rw [IntWalk.i64_in _ (by omega)]; omega
            have H8 : Hid (SetAt (w6.setCell ⟨L.g, 11, none⟩ (.int .i64 ((s.spare - 1 : Nat) : Int))) { L1 with F := upd L1.F k v } c (widenS c.cf s k j) bs) := by rw [← eg]; exact Lib.hid (H6.setSpare (s.spare - 1))
            have W8 : Hid (Went w (w6.setCell ⟨L.g, 11, none⟩ (.int .i64 ((s.spare - 1 : Nat) : Int))) L { L1 with F := upd L1.F k v } c s (widenS c.cf s k j)) :=
              by rw [← eg]; exact Lib.hid (W7.trans ⟨(Only.refl _ w6).setCell (p := ⟨L1.g, 11, none⟩) (fun _ => ⟨.head, rfl⟩) _, fun b ⟨p, hp⟩ => .inl ⟨p, by cases p <;> exact hp⟩⟩)
            have eg2 : Hid (L1.g = L.g ∧ L1.gr = L.gr) := Lib.hid ⟨eg, egr⟩
            generalize s.spare - 1 = sp at *
            clear J5 H6 W6 W7 W5 hsp2
            go_wp2
            go_ret
            exact ⟨rfl, { L1 with F := upd L1.F k v }, eg2.out.1, eg2.out.2, H8.out, W8.out⟩
set_option maxRecDepth 100000 in
theorem widenNo (w : World) (L : Lay) (c : Conf) (s : St) (bs : List UInt8) (h : SetAt w L c s bs) (k : Nat) (hl : ∀ j, j < c.cf.np → s.own j = true) :
    Calls Try.prog 49 #[.pointer (some ⟨L.g, 0, none⟩), .int .i64 (k : Int)] w fun e w' => e = .returned (.bool false) ∧ w = w' := by
  have c9 := h.cPages
  have P0 := Lib.hid fun j hj => h.p0 (i := j) hj
  have hnp := h.okc.npb
  clear h
  go_enter Try.func49, Try.ntmps49
  go_wp2
  go_loopw [14] (fun v wr => ∃ j : Nat, v = .int .i64 (j : Int) ∧ j ≤ c.cf.np ∧ w = wr) (fun v _ => c.cf.np - (intOf v).toNat)
  case atStart => exact ⟨0, rfl, Nat.zero_le _, rfl⟩
  case round =>
    obtain ⟨j, rfl, hj, rfl⟩ := hrel
    have j0 : (0 : Int) ≤ (j : Int) := by omega
    by_cases hji : j < c.cf.np
    · have j1 : (j : Int) < (c.cf.np : Int) := by omega
      have j2 : decide ((j : Int) < (c.cf.np : Int)) = true := by simp; omega
      have q3 : IntKind.i64.wrap ((j : Int) + 1) = (j : Int) + 1 := IntWalk.i64_in _ (by omega)
      have p0 := P0.out j (by omega)
      rw [hl j hji] at p0
      go_wp2
      go_roundw
      case rel => exact ⟨j + 1, by simp, by omega, trivial⟩
      case measure => simp [intOf] <;> omega
    · obtain rfl : j = c.cf.np := by omega
      have j2 : decide ((c.cf.np : Int) < (c.cf.np : Int)) = false := by simp
      go_wp2
      go_ret
      exact ⟨rfl, rfl⟩
end Go.Proofs.Ytgodinapdahocaa.Cls
