/-
  The walk of the law ClassApart.
-/
import Derived.Test.YtgodinapdahocaaClassApart0
namespace Go.Proofs.Ytgodinapdahocaa.Cls
open Go.RowKit Base MapG
set_option linter.unusedVariables false

def OpCells (w : World) (b o : Nat) (p : POp) (Av : Option Addr) (nv cv : Nat) : Prop := w.cell? ⟨b, o, none⟩ = some (.int .i64 p.do_) ∧ w.cell? ⟨b, o + 1, none⟩ = some (.int .i64 p.a) ∧ w.cell? ⟨b, o + 2, none⟩ = some (.int .i64 p.b) ∧
  w.cell? ⟨b, o + 3, none⟩ = some (.int .u64 (p.h : Int)) ∧ w.cell? ⟨b, o + 4, none⟩ = some (.bool p.raw) ∧ w.cell? ⟨b, o + 5, none⟩ = some (.slice Av nv cv)
def RowO (W : World) (a0 : Option Addr) (k : Nat) (p : POp) : Prop := ∃ b off Av nv cv, a0 = some (⟨b, off, none⟩ : Addr) ∧ b < W.heap.size ∧ In p.a ∧ p.h < 18446744073709551616 ∧ OpCells W b (off + k * 6) p Av nv cv
theorem OpCells.below {W w : World} {B b o : Nat} {p : POp} {Av : Option Addr} {nv cv : Nat} (h : OpCells W b o p Av nv cv) (k : Below B W w) (hb : b < B) : OpCells w b o p Av nv cv :=
  ⟨(k.cell (p := ⟨b, o, none⟩) hb).trans h.1, (k.cell (p := ⟨b, o + 1, none⟩) hb).trans h.2.1, (k.cell (p := ⟨b, o + 2, none⟩) hb).trans h.2.2.1, (k.cell (p := ⟨b, o + 3, none⟩) hb).trans h.2.2.2.1, (k.cell (p := ⟨b, o + 4, none⟩) hb).trans h.2.2.2.2.1, (k.cell (p := ⟨b, o + 5, none⟩) hb).trans h.2.2.2.2.2⟩
structure ApInv (c d : Conf) (p q r i : Nat) (ga gb gx : Gp) : Prop where
  ea : ga.L.g = p
  eb : gb.L.g = q
  ex : gx.L.g = r
  ca : ga.c = c
  cb : gb.c = c
  cx : gx.c = d
  ss : gb.s = ga.s
  tt : gb.t = ga.t
  oma : ∀ j, ga.s.om j ≤ 16384 * i
  omx : ∀ j, gx.s.om j ≤ 16384 * (2 * i)
  ta : ga.t.length ≤ i
  tx : gx.t.length ≤ 2 * i
def Gp.next (g : Gp) (o : POp) (L' : Lay) (bs' : List UInt8) (v' : Value) : Gp := ⟨L', g.c, (oneN g.c.cf g.s o g.t).2.1, bs', v', (oneN g.c.cf g.s o g.t).2.2⟩
theorem onePost_step {N : Nat} {W w w' : World} {a b c : Gp} {o : POp} {L' : Lay} {bs' : List UInt8} {vO vT : Value} (T : Tri N W w a b c) (P : OnePost w w' a.L L' a.c a.s (oneN a.c.cf a.s o a.t) bs' a.v vO vT) :
    Tri N W w' (a.next o L' bs' vT) b c := T.step P.grp P.moved.only P.moved.foot
set_option maxRecDepth 100000 in
set_option maxHeartbeats 6400000 in
theorem apartC (W : World) (c d : Conf) (a0 : Option Addr) (cap : Nat) (l : List POp) (hP : ∀ k (hk : k < l.length), RowO W a0 k l[k]) (hl : l.length ≤ maxLen) :
    Calls Try.prog 8 #[.agg c.cells, .agg d.cells, .slice a0 l.length cap] W fun e w' => e = .returned (.bool true) ∧ Below W.heap.size W w' := by
  have WC := Lib.hid wakesC
  have HP := Lib.hid hP
  unfold maxLen at hl
  obtain ⟨w1, hw1⟩ : ∃ w1, w1 = (W.alloc (.cells c.cells 27)).alloc (.cells d.cells 27) := ⟨_, rfl⟩
  have B1 : Blk w1 W.heap.size 27 c.cells := by rw [hw1]; exact (Below.heap_alloc _ _ _ (by rw [World.size_alloc]; omega)).trans (Blk.new W _ _)
  have D1 : Blk w1 (W.heap.size + 1) 27 d.cells := by
    rw [hw1]
    have := Blk.new (W.alloc (.cells c.cells 27)) 27 d.cells
    rwa [World.size_alloc] at this
  have b1 : Below W.heap.size W w1 := by rw [hw1]; exact ((Below.refl _ _).alloc (Nat.le_refl _) _).alloc (by rw [World.size_alloc]; omega) _
  have s1 : w1.heap.size = W.heap.size + 2 := by rw [hw1, World.size_alloc, World.size_alloc]
  obtain ⟨x0, x1, x2, x3, x4, x5, x6⟩ := conf_cells B1
  have G1 := goodC w1 c
  have GC := Lib.hid (fun w => goodC w c)
  have GD := Lib.hid (fun w => goodC w d)
  unfold Conf.cells at G1 GC GD hw1 ⊢
  replace G1 := Lib.hid G1
  replace hw1 := Lib.hid hw1
  replace B1 := Lib.hid B1
  replace D1 := Lib.hid D1
  clear hP
  obtain ⟨N, hN⟩ : ∃ N, W.heap.size = N := ⟨_, rfl⟩
  rw [hN] at x0 x1 x2 x3 x4 x5 x6 b1 B1 D1 s1 ⊢
  replace hN := Lib.hid hN
  go_enter Try.func8, Try.ntmps8
  go_upto_region 1 with fail
  rw [hN.out, ← hw1.out]
  go_wp2_with fail
  refine G1.out.mono ?_
  rintro e w2 ⟨b2, hc2⟩
  have s2 := b2.size
  have B2 := B1.out.below b2 (by omega)
  have D2 := D1.out.below b2 (by omega)
  have bb2 : Below N W w2 := b1.trans (b2.mono (by omega))
  obtain ⟨y0, y1, y2, y3, y4, y5, y6⟩ := conf_cells B2
  have G2 := Lib.hid (GC.out w2)
  replace B2 := Lib.hid B2
  replace D2 := Lib.hid D2
  clear G1 GC B1 D1 x0 x1 x2 x3 x4 x5 x6 hw1 b1
  rcases hc2 with ⟨h0, rfl⟩ | ⟨hh, hr, Ls, rfl, Ms, Fs⟩
  · go_wp2_with fail
    refine G2.out.mono ?_
    rintro e w3 ⟨b3, ⟨-, rfl⟩ | ⟨hh, hr, -⟩⟩
    rotate_left
    · exact absurd h0 (by rw [hh]; simp [hr])
    have s3 := b3.size
    have D3 := D2.out.below b3 (by omega)
    have bb3 : Below N W w3 := bb2.trans (b3.mono (by omega))
    clear y0 y1 y2 y3 y4 y5 y6
    obtain ⟨y0, y1, y2, y3, y4, y5, y6⟩ := conf_cells D3
    have G3 := Lib.hid (GD.out w3)
    replace D3 := Lib.hid D3
    clear G2 GD B2 D2 b3 bb2 b2 h0 HP
    go_wp2_with fail
    refine G3.out.mono ?_
    rintro e w4 ⟨b4, ⟨-, rfl⟩ | ⟨-, -, Lu, rfl, -, -⟩⟩
    all_goals
      have bb4 := Lib.hid (bb3.trans (b4.mono (show N ≤ w3.heap.size by omega)))
      have s4 := b4.size
      clear G3 D3 b4 bb3 y0 y1 y2 y3 y4 y5 y6
      go_wp2_with (first | (go_at_call 12; refine (WC.out _).mono ?_; rintro e w9 ⟨rfl, b9⟩; replace b9 := Lib.hid b9) | fail)
      go_ret
      exact ⟨rfl, bb4.out.trans (b9.out.mono (by omega))⟩
  · go_wp2_with fail
    refine G2.out.mono ?_
    rintro e w3 ⟨b3, ⟨h0, rfl⟩ | ⟨-, -, Lt, rfl, Mt, Ft⟩⟩
    · exact absurd h0 (by rw [hh]; simp [hr])
    have s3 := b3.size
    have D3 := D2.out.below b3 (by omega)
    have bb3 : Below N W w3 := bb2.trans (b3.mono (by omega))
    have Ms3 : SetAt w3 Ls c (new0 c.cf) _ := Ms.kept fun b hb => b3.block b (Ms.lt hb)
    have ls : ∀ b, Foot Ls c (new0 c.cf) b → b < w2.heap.size := fun b hb => Ms.lt hb
    clear y0 y1 y2 y3 y4 y5 y6
    obtain ⟨y0, y1, y2, y3, y4, y5, y6⟩ := conf_cells D3
    have G3 := Lib.hid (GD.out w3)
    replace D3 := Lib.hid D3
    replace Ms3 := Lib.hid Ms3
    replace Mt := Lib.hid Mt
    replace Fs := Lib.hid Fs
    replace Ft := Lib.hid Ft
    replace ls := Lib.hid ls
    clear G2 GD B2 D2 Ms b3 bb2 b2
    go_wp2_with fail
    refine G3.out.mono ?_
    rintro e w4 ⟨b4, ⟨h0, rfl⟩ | ⟨-, hrd, Lu, rfl, Mu, Fu⟩⟩
    · have bb4 := Lib.hid (bb3.trans (b4.mono (show N ≤ w3.heap.size by omega)))
      have s4 := b4.size
      clear G3 D3 b4 bb3 h0 y0 y1 y2 y3 y4 y5 y6 HP
      go_wp2_with (first | (go_at_call 12; refine (WC.out _).mono ?_; rintro e w9 ⟨rfl, b9⟩; replace b9 := Lib.hid b9) | fail)
      go_ret
      exact ⟨rfl, bb4.out.trans (b9.out.mono (by omega))⟩
    have s4 := b4.size
    have TR : Tri N W w4 ⟨Ls, c, new0 c.cf, List.replicate (c.cf.ps * c.cf.np) 0, .slice none 0 0, []⟩ ⟨Lt, c, new0 c.cf, List.replicate (c.cf.ps * c.cf.np) 0, .slice none 0 0, []⟩ ⟨Lu, d, new0 d.cf, List.replicate (d.cf.ps * d.cf.np) 0, .slice none 0 0, []⟩ := by
      have lt3 : ∀ b, Foot Lt c (new0 c.cf) b → b < w3.heap.size := fun b hb => Mt.out.lt hb
      have nil : ∀ x, ¬ (Value.slice none 0 0).ownBlock = some x := fun x h => by cases h
      refine ⟨bb3.trans (b4.mono (by omega)), by omega, ⟨Ms3.out.kept fun b hb => b4.block b (Ms3.out.lt hb), new0_good, own_nil _ _ _, fun b e => (by cases e), fun h hh => (by cases hh)⟩, ⟨Mt.out.kept fun b hb => b4.block b (Mt.out.lt hb), new0_good, own_nil _ _ _, fun b e => (by cases e), fun h hh => (by cases hh)⟩,
        ⟨Mu, new0_good, own_nil _ _ _, fun b e => (by cases e), fun h hh => (by cases hh)⟩, ?_, ?_, ?_, ?_, ?_, ?_⟩
      · rintro x (h1 | h1) (h2 | h2)
        · have := ls.out x h1; have := Ft.out x h2; omega
        · exact nil x h2
        · exact nil x h1
        · exact nil x h1
      · rintro x (h1 | h1) (h2 | h2)
        · have := ls.out x h1; have := Fu x h2; omega
        · exact nil x h2
        · exact nil x h1
        · exact nil x h1
      · rintro x (h1 | h1) (h2 | h2)
        · have := lt3 x h1; have := Fu x h2; omega
        · exact nil x h2
        · exact nil x h1
        · exact nil x h1
      · rintro x (h1 | h1)
        · have := Fs.out x h1; omega
        · exact absurd h1 (nil x)
      · rintro x (h1 | h1)
        · have := Ft.out x h1; omega
        · exact absurd h1 (nil x)
      · rintro x (h1 | h1)
        · have := Fu x h1; omega
        · exact absurd h1 (nil x)
    have AI : ApInv c d Ls.g Lt.g Lu.g 0 ⟨Ls, c, new0 c.cf, List.replicate (c.cf.ps * c.cf.np) 0, .slice none 0 0, []⟩ ⟨Lt, c, new0 c.cf, List.replicate (c.cf.ps * c.cf.np) 0, .slice none 0 0, []⟩ ⟨Lu, d, new0 d.cf, List.replicate (d.cf.ps * d.cf.np) 0, .slice none 0 0, []⟩ :=
      ⟨rfl, rfl, rfl, rfl, rfl, rfl, rfl, rfl, fun _ => Nat.le_refl _, fun _ => Nat.le_refl _, Nat.le_refl _, Nat.le_refl _⟩
    replace TR := Lib.hid TR
    replace AI := Lib.hid AI
    clear G3 D3 Ms3 Mt Mu Fs Ft Fu ls b4 bb3 y0 y1 y2 y3 y4 y5 y6 s1 s2 s3 s4
    go_wp2_with fail
    go_loopw [13, 14, 15, 16, 17, 18] (fun va vb vx vp vq vi wr => ∃ (i : Nat) (ga gb gx : Gp), vi = .int .i64 (i : Int) ∧ va = ga.v ∧ vb = gb.v ∧ vx = gx.v ∧ i ≤ l.length ∧ Hid (ApInv c d Ls.g Lt.g Lu.g i ga gb gx) ∧ Hid (Tri N W wr ga gb gx)) (fun _ _ _ _ _ vi _ => l.length - (intOf vi).toNat)
    case atStart => exact ⟨0, _, _, _, rfl, rfl, rfl, rfl, Nat.zero_le _, AI, TR⟩
    case round =>
      obtain ⟨i, ga, gb, gx, rfl, rfl, rfl, rfl, hi, AI, TR⟩ := hrel
      by_cases hlt : i < l.length ∧ i < 300
      · obtain ⟨hi1, hi2⟩ := hlt
        have d1 : decide ((i : Int) < (l.length : Int)) = true := decide_eq_true (by omega)
        have d1' : decide (i < l.length) = true := decide_eq_true hi1
        have d2 : decide ((i : Int) < 300) = true := decide_eq_true (by omega)
        have q1 : IntKind.i64.wrap ((i : Int) + 1) = (i : Int) + 1 := IntWalk.i64_in _ (by omega)
        have i0 : (0 : Int) ≤ (i : Int) := by omega
        have i1 : (i : Int) < (l.length : Int) := by omega
        obtain ⟨j, hj⟩ : ∃ j, j = l.length - 1 - i := ⟨_, rfl⟩
        have hjl : j < l.length := by omega
        have q2 : IntKind.i64.wrap ((l.length : Int) - 1) = (l.length : Int) - 1 := IntWalk.i64_in _ (by omega)
        have q3 : IntKind.i64.wrap ((l.length : Int) - 1 - (i : Int)) = (j : Int) := by rw [IntWalk.i64_in _ (by omega)]; omega
        have j0 : (0 : Int) ≤ (j : Int) := by omega
        have j1 : (j : Int) < (l.length : Int) := by omega
        obtain ⟨b, off, Av, nv, cv, rfl, hbl, ha1, hh1, O1⟩ := HP.out i hi1
        obtain ⟨b', off', Av', nv', cv', hae, -, ha2, hh2, O2⟩ := HP.out j hjl
        injection hae with hae
        injection hae with e1 e2
        subst e1 e2
        have hbN : b < N := by rw [← hN.out]; exact hbl
        generalize l[i] = o1 at *
        generalize l[j] = o2 at *
        replace O1 := Lib.hid O1
        replace O2 := Lib.hid O2
        replace hj := Lib.hid hj
        have omA := fun k => AI.out.oma k
        have omX := fun k => AI.out.omx k
        have tA := AI.out.ta
        have tX := AI.out.tx
        have T1 := oneC wr ga.L ga.c ga.s ga.bs o1 Av nv cv ga.v ga.t TR.out.ga ha1 hh1 (fun k => by have := omA k; omega) (by omega)
        rw [AI.out.ea] at T1
        unfold opV at T1
        replace T1 := Lib.hid T1
        obtain ⟨z0, z1, z2, z3, z4, z5⟩ := O1.out.below TR.out.bel hbN
        clear HP
        go_wp2_with fail
        refine T1.out.mono ?_
        rintro e w2' ⟨vO, vA, LA, bsA, rfl, P1⟩
        have TR2 := (onePost_step TR.out P1).rot.rot
        have out1 := P1.out
        have row2 : ∀ x, vO.ownBlock = some x → wr.heap.size ≤ x := fun x hx => own_base out1 hx
        have lX := fun x (hx : gx.F x) => Grp.lt TR.out.gc hx
        have lB := fun x (hx : gb.F x) => Grp.lt TR.out.gb hx
        have T2 := oneC w2' gx.L gx.c gx.s gx.bs o2 Av' nv' cv' gx.v gx.t TR2.ga ha2 hh2 (fun k => by have := omX k; omega) (by omega)
        rw [AI.out.ex] at T2
        unfold opV at T2
        have gA := P1.g
        replace T2 := Lib.hid T2
        clear z0 z1 z2 z3 z4 z5
        obtain ⟨z0, z1, z2, z3, z4, z5⟩ := O2.out.below TR2.bel hbN
        replace TR2 := Lib.hid TR2
        replace out1 := Lib.hid out1
        replace row2 := Lib.hid row2
        replace lX := Lib.hid lX
        replace lB := Lib.hid lB
        clear T1 P1
        go_wp2_with fail
        refine T2.out.mono ?_
        rintro e w3' ⟨vO2, vX, LX, bsX, rfl, P2⟩
        have TR3 := (onePost_step TR2.out P2).rot.rot
        have out2 := Lib.hid (kept_row P2.moved.only out1.out fun x hx hy => by have := row2.out x hx; have := lX.out x hy; omega)
        have T3 := oneC w3' gb.L gb.c gb.s gb.bs o1 Av nv cv gb.v gb.t TR3.ga ha1 hh1 (fun k => by rw [AI.out.ss]; have := omA k; omega) (by rw [AI.out.tt]; omega)
        rw [AI.out.eb] at T3
        unfold opV at T3
        have gX := P2.g
        have om2 := fun k => one_om TR2.out.ga.set.okc TR2.out.ga.good o2 gx.t k
        have tl2 := one_told gx.c.cf gx.s o2 gx.t
        replace T3 := Lib.hid T3
        clear z0 z1 z2 z3 z4 z5
        obtain ⟨z0, z1, z2, z3, z4, z5⟩ := O1.out.below TR3.bel hbN
        replace TR3 := Lib.hid TR3
        replace om2 := Lib.hid om2
        clear T2 P2 out1 TR2
        go_wp2_with fail
        refine T3.out.mono ?_
        rintro e w4' ⟨vO3, vB, LB, bsB, rfl, P3⟩
        have eO : oneN gb.c.cf gb.s o1 gb.t = oneN ga.c.cf ga.s o1 ga.t := by rw [AI.out.ss, AI.out.tt, AI.out.ca, AI.out.cb]
        have TR4 := (onePost_step TR3.out P3).rot
        have out3 := kept_row P3.moved.only out2.out fun x hx hy => by have := row2.out x hx; have := lB.out x hy; omega
        have out4 := P3.out
        rw [eO] at out4
        have AL := Lib.hid (alikeC w4' _ _ vO vO3 _ out3 out4)
        have gB := P3.g
        have om1 := fun k => one_om TR.out.ga.set.okc TR.out.ga.good o1 ga.t k
        have tl1 := one_told ga.c.cf ga.s o1 ga.t
        replace eO := Lib.hid eO
        replace TR4 := Lib.hid TR4
        replace om1 := Lib.hid om1
        clear T3 P3 out2 out3 out4 TR3 z0 z1 z2 z3 z4 z5
        go_wp2_with fail
        refine AL.out.mono ?_
        rintro e w5' ⟨rfl, m5, hw5⟩
        have TR5 := TR4.out.drewN m5
        rw [hw5] at TR5
        have T4 := oneC w5' (gx.next o2 LX bsX vX).L (gx.next o2 LX bsX vX).c (gx.next o2 LX bsX vX).s (gx.next o2 LX bsX vX).bs o1 Av nv cv (gx.next o2 LX bsX vX).v (gx.next o2 LX bsX vX).t TR5.ga ha1 hh1
          (fun k => by have h1 := omX k; have h2 := om2.out k; show (oneN gx.c.cf gx.s o2 gx.t).2.1.om k ≤ _; omega) (by show (oneN gx.c.cf gx.s o2 gx.t).2.2.length ≤ _; omega)
        have gX' : (gx.next o2 LX bsX vX).L.g = Lu.g := gX.trans AI.out.ex
        rw [gX'] at T4
        unfold opV at T4
        have vX' : (gx.next o2 LX bsX vX).v = vX := rfl
        rw [vX'] at T4
        replace T4 := Lib.hid T4
        obtain ⟨z0, z1, z2, z3, z4, z5⟩ := O1.out.below TR5.bel hbN
        have om3 := Lib.hid (fun k => one_om TR5.ga.set.okc TR5.ga.good o1 (gx.next o2 LX bsX vX).t k)
        have tl3 := one_told (gx.next o2 LX bsX vX).c.cf (gx.next o2 LX bsX vX).s o1 (gx.next o2 LX bsX vX).t
        replace TR5 := Lib.hid TR5
        replace hw5 := Lib.hid hw5
        clear AL TR4
        go_wp2_with fail
        refine T4.out.mono ?_
        rintro e w6' ⟨vO4, vX2, LX2, bsX2, rfl, P4⟩
        have TR6 := Lib.hid ((onePost_step TR5.out P4).rot)
        have gX2 := P4.g
        have AI2 : Hid (ApInv c d Ls.g Lt.g Lu.g (i + 1) (ga.next o1 LA bsA vA) (gb.next o1 LB bsB vB) ((gx.next o2 LX bsX vX).next o1 LX2 bsX2 vX2)) := by
          refine Lib.hid ⟨gA.trans AI.out.ea, gB.trans AI.out.eb, gX2.trans gX', AI.out.ca, AI.out.cb, AI.out.cx, ?_, ?_, fun k => ?_, fun k => ?_, ?_, ?_⟩
          · show (oneN gb.c.cf gb.s o1 gb.t).2.1 = (oneN ga.c.cf ga.s o1 ga.t).2.1
            rw [eO.out]
          · show (oneN gb.c.cf gb.s o1 gb.t).2.2 = (oneN ga.c.cf ga.s o1 ga.t).2.2
            rw [eO.out]
          · have h1 := omA k
            have h2 := om1.out k
            show (oneN ga.c.cf ga.s o1 ga.t).2.1.om k ≤ _
            omega
          · have h1 := omX k
            have h2 := om2.out k
            have h3 := om3.out k
            have h4 : (gx.next o2 LX bsX vX).s.om k = (oneN gx.c.cf gx.s o2 gx.t).2.1.om k := rfl
            show (oneN (gx.next o2 LX bsX vX).c.cf (gx.next o2 LX bsX vX).s o1 (gx.next o2 LX bsX vX).t).2.1.om k ≤ _
            omega
          · show (oneN ga.c.cf ga.s o1 ga.t).2.2.length ≤ _
            omega
          · have h4 : (gx.next o2 LX bsX vX).t.length = (oneN gx.c.cf gx.s o2 gx.t).2.2.length := rfl
            show (oneN (gx.next o2 LX bsX vX).c.cf (gx.next o2 LX bsX vX).s o1 (gx.next o2 LX bsX vX).t).2.2.length ≤ _
            omega
        clear T4 P4 TR5 TR AI om1 om2 om3 omA omX tl1 tl2 tl3 z0 z1 z2 z3 z4 z5 gA gB gX gX' gX2 vX' tA tX
        go_wp2
        go_roundw
        case rel => exact ⟨i + 1, ga.next o1 LA bsA vA, gb.next o1 LB bsB vB, (gx.next o2 LX bsX vX).next o1 LX2 bsX2 vX2, by simp, rfl, rfl, rfl, by omega, AI2, TR6⟩
        case measure => simp [intOf] <;> omega
      · have d1 : decide ((i : Int) < (l.length : Int)) = true ∧ decide (i < l.length) = true ∧ decide ((i : Int) < 300) = false ∨ decide ((i : Int) < (l.length : Int)) = false ∧ decide (i < l.length) = false := by
          by_cases hk1 : i < l.length
          · have : ¬ i < 300 := fun h => hlt ⟨hk1, h⟩
            exact .inl ⟨decide_eq_true (by omega), decide_eq_true (by omega), decide_eq_false (by omega)⟩
          · exact .inr ⟨decide_eq_false (by omega), decide_eq_false (by omega)⟩
        have bN := Lib.hid TR.out.bel
        have hs := TR.out.sz
        rcases d1 with ⟨d1, d1', d2⟩ | ⟨d1, d1'⟩
        all_goals
          clear HP AI TR
          go_wp2_with fail
          refine (WC.out _).mono ?_
          rintro e w9 ⟨rfl, b9⟩
          have bf := Lib.hid (bN.out.trans (b9.mono hs))
          go_wp2
          go_ret
          exact ⟨rfl, bf.out⟩
end Go.Proofs.Ytgodinapdahocaa.Cls
