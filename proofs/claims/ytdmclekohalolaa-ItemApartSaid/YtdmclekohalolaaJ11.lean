/-
  Contracts and lemmas, joined: ItemBackLaw, ItemTwo, ItemCopiesSt.
-/
import Derived.Lib.QuietBelow
import Derived.BigQuiet
import Derived.Test.YtdmclekohalolaaJ8
import Derived.Test.YtdmclekohalolaaJ10
set_option linter.unusedSimpArgs false
set_option linter.unusedVariables false
/-
  The walk of ItemBack (printed by wip/gen_back.py out of wip/held/back_law.txt).
-/
namespace Go.Proofs.Ytdmclekohalolaa.Itm
open Go.RowKit Base Arena Cls Rel
set_option linter.unusedVariables false

theorem rg_same {P : Program} {f : FuncId} {args : Array Value} {w : World} {d : Nat} {os : Array Obj} {v : Value} (h : Calls P f args (Go.Sort.grow (redrawn w d) os) fun e w' => e = .returned v ∧ Go.Sort.grow (redrawn w d) os = w') :
    Calls P f args (Go.Sort.grow (redrawn w d) os) fun e w'' => e = .returned v ∧ ∃ p : Regrown, w'' = Go.Sort.grow (redrawn w p.d) p.os := h.mono fun _ _ ⟨he, hw⟩ => ⟨he, ⟨d, os⟩, hw.symm⟩
theorem bytes_up {w w' : World} {B : Nat} {A : Option Addr} {l : List UInt8} (h : Bytes w B A l) (b : Below B w w') (hB : B ≤ w.heap.size) : Bytes w' w'.heap.size A l :=
  fun hl => let ⟨d, off, h1, h2, h3⟩ := h hl
  ⟨d, off, h1, Nat.lt_of_lt_of_le h2 (Nat.le_trans hB b.size), fun j v hj => (b.cell (p := ⟨d, off + j, none⟩) h2).trans (h3 j v hj)⟩
theorem laid_cells {w : World} {N : Nat} {x : LaidA} {Ak Av An : Option Addr} {ck cv cn : Nat} (X : Blk w N 39 (x.cells Ak Av An ck cv cn)) :
    w.cell? ⟨N, 0, none⟩ = some (.int .i64 x.cfg) ∧ w.cell? ⟨N, 1, none⟩ = some (.int .i64 x.cls) ∧ w.cell? ⟨N, 2, none⟩ = some (.slice Ak x.key.length ck) ∧ w.cell? ⟨N, 3, none⟩ = some (.slice Av x.val.length cv) ∧ w.cell? ⟨N, 4, none⟩ = some (.slice An x.nxt.length cn) ∧
    w.cell? ⟨N, 5, none⟩ = some (.int .u64 (x.fl : Int)) ∧ w.cell? ⟨N, 6, none⟩ = some (.int .u64 (x.tk : Int)) ∧ w.cell? ⟨N, 7, none⟩ = some (.int .i64 x.ex) ∧ w.cell? ⟨N, 8, none⟩ = some (.int .i64 x.tc) ∧ w.cell? ⟨N, 9, none⟩ = some (.int .i64 x.st) ∧ w.cell? ⟨N, 10, none⟩ = some (.int .i64 x.ms) :=
  ⟨X.cell 0, X.cell 1, X.cell 2, X.cell 3, X.cell 4, X.cell 5, X.cell 6, X.cell 7, X.cell 8, X.cell 9, X.cell 10⟩
set_option maxRecDepth 100000 in
set_option maxHeartbeats 8000000 in
theorem itemBackC (w : World) (x : LaidA) (ok : x.Ok) (Ak Av An : Option Addr) (ck cv cn : Nat) (kB : Bytes w w.heap.size Ak x.key) (vB : Bytes w w.heap.size Av x.val) (nB : Bytes w w.heap.size An x.nxt) (hv : x.val.length ≤ 140737488351232) (hn : x.nxt.length ≤ 140737488351232) :
    Calls Try.prog 5 #[.agg (x.cells Ak Av An ck cv cn)] w fun e w' => e = .returned (.bool true) ∧ Below w.heap.size w w' := by
  obtain ⟨w1, hw1⟩ : ∃ w1, w1 = w.alloc (.cells (x.cells Ak Av An ck cv cn) 39) := ⟨_, rfl⟩
  have X1 : Blk w1 w.heap.size 39 (x.cells Ak Av An ck cv cn) := by rw [hw1]; exact Blk.new w _ _
  have b01 : Below w.heap.size w w1 := by rw [hw1]; exact (Below.refl _ _).alloc (Nat.le_refl _) _
  have kB1 := bytes_go kB b01
  have vB1 := bytes_go vB b01
  have nB1 := bytes_go nB b01
  have CC := itemConfigC x.cfg ok.cfg w1
  have hr : refN (ic (x.cfg % 4).toNat) = 0 := ic_ref _ (withinI_lt x.cfg (n := 4) (by omega))
  have fine := x.fine ok.tk
  generalize ic (x.cfg % 4).toNat = c at *
  obtain ⟨cok, -⟩ := okOf hr
  have hcnc : c.cf.nc = c.nc := rfl
  have hnc1 := cok.nc
  have hnc2 := cok.ncb
  rw [hcnc] at hnc1 hnc2
  have NC := Lib.hid (fun w => newC w c)
  have WI := Lib.hid (withinI x.cls c.nc ok.cls hnc1 (by omega))
  have hq := withinI_lt x.cls (n := c.nc) hnc1
  generalize (x.cls % (c.nc : Int)).toNat = q at *
  have n0 := fun w => itemNumC w 0
  have n6 := fun w => itemNumC w 6
  have WK := Lib.hid itemWakesC
  unfold Conf.cells at CC NC
  rw [LaidA.cells_eq] at hw1
  rw [LaidA.cells_eq]
  obtain ⟨y0, y1, y2, y3, y4, y5, y6, y7, y8, y9, y10⟩ := laid_cells X1
  replace CC := Lib.hid CC
  replace hw1 := Lib.hid hw1
  replace b01 := Lib.hid b01
  replace kB1 := Lib.hid kB1
  replace vB1 := Lib.hid vB1
  replace nB1 := Lib.hid nB1
  replace X1 := Lib.hid X1
  replace ok := Lib.hid ok
  clear kB vB nB
  generalize hN : w.heap.size = NA at *
  replace hN := Lib.hid hN
  go_enter Try.func5, Try.ntmps5
  go_upto_region 1 with fail
  rw [hN.out, ← hw1.out]
  clear hw1
  go_wp2_with fail
  refine CC.out.mono ?_
  rintro e w2 ⟨rfl, b2⟩
  have NC2 := Lib.hid (NC.out w2)
  have l2 := b2.size
  replace b2 := Lib.hid b2
  clear CC NC
  go_wp2_with fail
  refine NC2.out.mono ?_
  rintro e w3 ⟨b3, ⟨h0, -⟩ | ⟨-, L, rfl, M, F⟩⟩
  · exact absurd hr h0
  have b13 := b2.out.trans (b3.mono (B' := w1.heap.size) l2)
  replace b13 := Lib.hid b13
  replace F := Lib.hid (fun d hd => Nat.le_trans l2 (F d hd))
  replace M := Lib.hid M
  clear NC2 b3 b2
  go_wp2_with (first | (go_at_call 8; refine (n0 _).mono ?_; rintro e w' ⟨rfl, rfl⟩) | fail)
  refine (WK.out w3).mono ?_
  rintro e w4 ⟨rfl, b4⟩
  have M4 := M.out.kept fun d hd => b4.block d (M.out.lt hd)
  have b14 := b13.out.trans (b4.mono (B' := w1.heap.size) b13.out.size)
  have CL := Lib.hid (fun m => classesC (w4.drewN m) L c _ _ (M4.drewN m))
  have CL0 := Lib.hid (classesC w4 L c _ _ M4)
  have X4 := X1.out.below b14 X1.out.lt
  obtain ⟨y0, y1, y2, y3, y4, y5, y6, y7, y8, y9, y10⟩ := laid_cells X4
  have e1 : decide ((c.nc : Int) < 1) = false := decide_eq_false (by omega)
  replace M4 := Lib.hid M4
  replace b14 := Lib.hid b14
  clear b4 b13 M WK X4
  go_wp2_with fail
  refine CL0.out.mono ?_
  rintro e w' ⟨rfl, rfl⟩
  go_upto_region 4 with fail
  go_quiet ((first | (go_at_call 18; exact quiet_left (CL.out _)) | (go_at_call 19; exact quiet_left (WI.out _))))
  rename Nat => nq1
  have M5 := M4.out.drewN nq1
  have b15 := below_drew b14.out nq1
  have X5 := X1.out.below b15 X1.out.lt
  obtain ⟨y0, y1, y2, y3, y4, y5, y6, y7, y8, y9, y10⟩ := laid_cells X5
  have hqc : q < c.cf.nc := hq
  have g0 : Cls.Good c.cf (new0 c.cf) := new0_good
  have hroom1 := room_new cok q
  obtain ⟨-, lf, p, hp⟩ := room_good cok g0 hqc hroom1
  obtain ⟨g2, tk, -, -⟩ := took cok g0 hqc hroom1 hp
  have T := takeYes (w4.drewN nq1) L c _ _ M5 g0 q hq _ hroom1 lf p hp
  have hsz : c.cf.sz q = c.sz q := rfl
  rw [hsz] at tk
  generalize hG : (widenS c.cf (new0 c.cf) q 0).gens (p / c.cf.ps) (p % c.cf.ps / c.sz q) = G at *
  generalize takeS c.cf (widenS c.cf (new0 c.cf) q 0) q p = s2 at *
  obtain ⟨hH1, hH2, hH3, hH4, hH5⟩ := tk.hlt cok g2
  have hfind := tk.find cok
  have hcls := tk.cl
  have hGb : G < 4294967296 := by have := g2.gen (p / c.cf.ps) (p % c.cf.ps / c.sz q); rw [tk.ge] at this; exact this
  have hz : (List.replicate (c.cf.ps * c.cf.np) (0 : UInt8)).length = c.cf.ps * c.cf.np := List.length_replicate
  generalize List.replicate (c.cf.ps * c.cf.np) (0 : UInt8) = z at *
  obtain ⟨H, hHe⟩ : ∃ H, H = hnd p G := ⟨_, rfl⟩
  rw [← hHe] at T hfind hH1 hH4
  have hshr : Int.shiftRight (H : Int) 32 = (G : Int) := by
    have : (H : Int) >>> 32 = ((H >>> 32 : Nat) : Int) := rfl
    show (H : Int) >>> 32 = (G : Int)
    rw [this, Nat.shiftRight_eq_div_pow, ← hH4]
  replace T := Lib.hid T
  replace b15 := Lib.hid b15
  clear M5 M4 b14 CL CL0 X5 hroom1 hp g0 hHe WI
  go_wp2_with fail
  refine T.out.mono ?_
  rintro e w6 ⟨rfl, L2, e2, M6, W⟩
  obtain ⟨b56, F6, l6⟩ := W.below F.out b15.out.size
  have b16 := b15.out.trans b56
  have K := Chk.of M6 g2 hH1 hfind
  rw [hcls] at K
  have hp56 : p + 56 ≤ z.length := by
    obtain ⟨f1, f2, f3, -⟩ := tk.fit cok
    have f4 := (cok.sz q hqc).1
    rw [hz, Nat.mul_comm c.cf.ps]
    omega
  have hgen := take_gen (bs := z) (p := p) (g := G) hp56
  generalize takeB z p G = bs0 at *
  have hrn : c.sz q ≤ 1048576 := K.nb
  have X6 := X1.out.below b16 X1.out.lt
  obtain ⟨y0, y1, y2, y3, y4, y5, y6, y7, y8, y9, y10⟩ := laid_cells X6
  have MC := madeC w6 x ok.out Ak Av An ck cv cn (bytes_up kB1.out b16 (Nat.le_refl _))
  have vB6 := bytes_up vB1.out b16 (Nat.le_refl _)
  have nB6 := bytes_up nB1.out b16 (Nat.le_refl _)
  have hvv : x.it.val = x.val := rfl
  have hkk : x.it.key = rightN x.key := rfl
  rw [← hkk] at MC
  rw [← hvv] at vB6 hv
  generalize x.it = t0 at *
  simp only [It.cells_eq] at MC
  rw [LaidA.cells_eq] at MC
  have hhaF : w1.heap.size ≤ L2.ha := F6 _ ⟨.bytes, rfl⟩
  have hhaL : L2.ha < w6.heap.size := M6.lt (b := L2.ha) ⟨.bytes, rfl⟩
  have hNA : NA < w1.heap.size := X1.out.lt
  replace MC := Lib.hid MC
  replace M6 := Lib.hid M6
  replace b16 := Lib.hid b16
  replace vB6 := Lib.hid vB6
  replace nB6 := Lib.hid nB6
  replace X6 := Lib.hid X6
  clear T W b56 b15 F tk hfind hcls hp56 hz hG F6
  go_wp2_with (first | (go_at_call 8; refine (n0 _).mono ?_; rintro e w' ⟨rfl, rfl⟩) | fail)
  refine MC.out.mono ?_
  rintro e w7 ⟨A', c1, rfl, b7, hA', kB7⟩
  obtain ⟨w8, hw8⟩ : ∃ w8, w8 = w7.alloc (.cells #[.slice A' t0.key.length c1, .slice Av t0.val.length cv, .int .u64 (t0.fl : Int), .int .i64 (t0.ex : Int), .int .i64 (t0.tc : Int), .int .u64 (t0.tk : Int), .int .i64 (t0.st : Int), .int .i64 (t0.ms : Int)] 52) := ⟨_, rfl⟩
  have b78 : Below w7.heap.size w7 w8 := by rw [hw8]; exact (Below.refl _ _).alloc (Nat.le_refl _) _
  have b68 := b7.trans (b78.mono b7.size)
  have S : IB w1 w8 L2 c s2 bs0 NA w7.heap.size (x.cells Ak Av An ck cv cn) t0 A' Av An x.nxt c1 cv :=
    ⟨M6.out.kept fun d hd => b68.block d (M6.out.lt hd), X6.out.below b68 X6.out.lt, by rw [hw8, ← It.cells_eq]; exact Blk.new w7 _ _, bytes_go kB7 b78, bytes_go vB6.out b68, bytes_go nB6.out b68, b16.out.trans (b68.mono b16.out.size)⟩
  have FA : ∀ (t : It) (Ac : Option Addr), (t.val ≠ [] → ∀ b off, Ac = some ⟨b, off, none⟩ → b ≠ L2.ha) → Far w1 L2 NA w7.heap.size t x.nxt A' Ac An := fun t Ac hv =>
    ⟨hhaF, by omega, by have := b7.size; omega, fun _ b off e => by have := hA' b off e; omega, hv, fun hne b off e => by
      obtain ⟨d, off', h1, h2, -⟩ := nB1.out (by simpa using List.length_pos_iff.2 hne)
      rw [e] at h1
      simp only [Option.some.injEq, Addr.mk.injEq] at h1
      omega⟩
  have hvf : t0.val ≠ [] → ∀ b off, Av = some ⟨b, off, none⟩ → b ≠ L2.ha := fun hne b off e => by
    rw [hvv] at hne
    obtain ⟨d, off', h1, h2, -⟩ := vB1.out (by simpa using List.length_pos_iff.2 hne)
    rw [e] at h1
    simp only [Option.some.injEq, Addr.mk.injEq] at h1
    omega
  have hnf : x.nxt ≠ [] → ∀ b off, An = some ⟨b, off, none⟩ → b ≠ L2.ha := (FA t0 Av hvf).n
  have hNIf : ∀ b, Foot L2 c s2 b → b < w7.heap.size := fun b hb => by have h1 := M6.out.lt hb; have h2 := b7.size; omega
  have hNAI0 : NA < w7.heap.size := by have h2 := b7.size; omega
  have hAI : ∀ b off, A' = some ⟨b, off, none⟩ → b < w7.heap.size := fun b off e => by
    obtain ⟨kl1, -⟩ := legal_len fine.legal
    obtain ⟨d, off', h1, h2, -⟩ := kB7 (by simpa using (show 0 < t0.key.length by omega))
    rw [e] at h1
    simp only [Option.some.injEq, Addr.mk.injEq] at h1
    omega
  have hnI : x.nxt ≠ [] → ∀ b off, An = some ⟨b, off, none⟩ → b < w7.heap.size := fun hne b off e => by
    obtain ⟨d, off', h1, h2, -⟩ := nB1.out (by simpa using List.length_pos_iff.2 hne)
    rw [e] at h1
    simp only [Option.some.injEq, Addr.mk.injEq] at h1
    have := b7.size
    omega
  have hNIw : w1.heap.size ≤ w7.heap.size := by have := b7.size; omega
  have CS := chunkSizeC w8 L2 c s2 bs0 S.set (q : Int)
  simp only [if_pos (show (0 : Int) ≤ (q : Int) ∧ (q : Int) < (c.nc : Int) by omega), Int.toNat_natCast] at CS
  obtain ⟨room, hroomE⟩ : ∃ room, room = c.sz q := ⟨_, rfl⟩
  rw [← hroomE] at CS K hrn
  replace CS := Lib.hid CS
  rw [e2] at CS
  replace S := Lib.hid S
  replace hw8 := Lib.hid hw8
  replace FA := Lib.hid FA
  replace hvf := Lib.hid hvf
  replace hnf := Lib.hid hnf
  replace fine := Lib.hid fine
  replace hNIf := Lib.hid hNIf
  replace hAI := Lib.hid hAI
  replace hnI := Lib.hid hnI
  replace hNIw := Lib.hid hNIw
  replace hNAI0 := Lib.hid hNAI0
  obtain ⟨blen, hblen⟩ : ∃ blen, blen = bs0.length := ⟨_, rfl⟩
  rw [← hblen] at K
  replace K := Lib.hid K
  replace hgen := Lib.hid hgen
  replace g2 := Lib.hid g2
  replace hblen := Lib.hid hblen
  clear MC b7 b78 b68 kB7 vB6 nB6 X6 M6 b16 y0 y1 y2 y3 y4 y5 y6 y7 y8 y9 y10 vB1 nB1 kB1 hA' hvv hkk hhaF hhaL hNA hroomE ok X1
  generalize hNI : w7.heap.size = NI at *
  replace hNI := Lib.hid hNI
  go_upto_region 9 with fail
  rw [hNI.out, ← hw8.out]
  clear hw8 hNI
  go_wp2_with fail
  refine CS.out.mono ?_
  rintro e w' ⟨rfl, rfl⟩
  clear CS
  go_wp2
  go_loopw [10] (fun v wr => ∃ (k : Nat) (t : It) (Ac : Option Addr) (c2 : Nat) (bs : List UInt8), k ≤ 2 ∧ v = .int .i64 (k : Int) ∧ Hid (IB w1 wr L2 c s2 bs NA NI (x.cells Ak Av An ck cv cn) t A' Ac An x.nxt c1 c2) ∧ Hid (t.val ≠ [] → ∀ b off, Ac = some ⟨b, off, none⟩ → b ≠ L2.ha) ∧ Hid t.Fine ∧ t.val.length ≤ 140737488351232 ∧ Hid ((bs.drop (p + 12)).take 4 = putB 4 G) ∧ (k = 1 → 58 + t.key.length + t.val.length ≤ room) ∧ Hid (blen = bs.length)) (fun v _ => 2 - (intOf v).toNat)
  case atStart => exact ⟨0, t0, Av, cv, bs0, by omega, rfl, S, hvf, fine, hv, hgen, by omega, hblen⟩
  case round =>
    obtain ⟨k, t, Ac, c2, bs, hk, rfl, S, hcf, fine, hvl, hgen, hfit1, hbl⟩ := hrel
    clear hvf hblen hv
    rename World => wr
    have FIN := Lib.hid (fun wz (h : Below w1.heap.size w1 wz) => b01.out.trans (h.mono (B' := NA) (by have h1 : w.heap.size ≤ w1.heap.size := b01.out.size; have h2 := hN.out; omega)))
    rcases (show k = 2 ∨ k = 1 ∨ k = 0 by omega) with rfl | rfl | rfl
    · have bfin := Lib.hid (FIN.out wr S.out.below)
      clear S
      go_wp2
      go_ret
      exact ⟨rfl, bfin.out⟩
    · replace hfit1 := Lib.hid (hfit1 rfl)
      have C1 := chunkOfC wr L2 c s2 bs S.out.set g2.out (by rw [← hbl.out]; exact K.out)
      rw [e2] at C1
      have F := FA.out t Ac hcf.out
      have hha : L2.ha < wr.heap.size := S.out.set.lt (b := L2.ha) ⟨.bytes, rfl⟩
      obtain ⟨kl1, kl2⟩ := legal_len fine.out.legal
      have hkne : t.key ≠ [] := fun e => by rw [e] at kl1; simp at kl1
      obtain ⟨m, hmE⟩ : ∃ m, m = 58 + t.key.length + t.val.length := ⟨_, rfl⟩
      obtain ⟨K58, hK58⟩ : ∃ K58, K58 = 58 + t.key.length := ⟨_, rfl⟩
      have q1 : IntKind.i64.wrap (58 + (t.key.length : Int)) = (K58 : Int) := by rw [IntWalk.i64_in _ (by omega)]; omega
      have q2 : IntKind.i64.wrap ((K58 : Int) + (t.val.length : Int)) = (m : Int) := by rw [IntWalk.i64_in _ (by omega)]; omega
      replace hmE := Lib.hid hmE
      replace hK58 := Lib.hid hK58
      replace C1 := Lib.hid C1
      go_wp2_with fail
      refine C1.out.mono ?_
      rintro e wa ⟨bw, rfl, hbw, Bw, ba⟩
      replace S := S.out.step ba
      obtain ⟨z0, z1, z2, z3, z4, z5, z6, z7⟩ := it_cells S.it
      have hplr := K.out.ck.all
      clear C1
      by_cases hfit : m ≤ room
      · have d3 : decide ((room : Int) < (m : Int)) = false := decide_eq_false (by omega)
        have d33 : decide (room < m) = false := decide_eq_false (by omega)
        have hfitb : p + (58 + t.key.length + t.val.length) ≤ bs.length := by have := hbl.out; have := hmE.out; omega
        have Y := itemLayYes wa L2 c s2 bs S.set g2.out H hH1 _ _ p K.out.hf (by rw [K.out.hk]; exact hq) (by omega) (by rw [K.out.hk, K.out.sz, ← hbl.out]; exact K.out.ck) t fine.out (by rw [K.out.hk, K.out.sz, ← hmE.out]; exact hfit) A' Ac c1 c2 wa.heap.size S.kB S.vB (F.k hkne) hcf.out
        rw [K.out.hk, itemB_enc bs p q G t hfitb hgen.out, e2, It.cells_eq] at Y
        have Hs := Has.lay_ bs p ⟨0, 0, 0, G, q, t⟩ hfitb
        have hl1 : (lay bs p (Whole.enc ⟨0, 0, 0, G, q, t⟩)).length = blen := by rw [hbl.out]; exact lay_len _ _ _ (by rw [Whole.enc_len]; exact hfitb)
        have hE1 := enc_take (l := bs) (p := p) (n := room) (I := ⟨0, 0, 0, G, q, t⟩) (by rw [← hbl.out]; exact hplr) (by rw [← hmE.out]; exact hfit)
        have hR1 := rest_same (l := bs) (p := p) (n := room) (m := m) (q := Whole.enc ⟨0, 0, 0, G, q, t⟩) (by rw [← hbl.out]; exact hplr) (by rw [Whole.enc_len, ← hmE.out]) hfit
        have hgen1 := gen_lay (l := bs) (p := p) (I := ⟨0, 0, 0, G, q, t⟩) hfitb
        have hV1 : layV (lay bs p (Whole.enc ⟨0, 0, 0, G, q, t⟩)) p t.key.length t.val = lay bs p (Whole.enc ⟨0, 0, 0, G, q, t⟩) := by
          rw [Hs.value t.val (by rw [lay_len _ _ _ (by rw [Whole.enc_len]; exact hfitb)]; exact hfitb)]
          exact lay_lay (by rw [Whole.enc_len]; exact hfitb) (Nat.le_of_eq rfl)
        rw [← hmE.out] at hE1
        dsimp only at hE1 hgen1
        have hNx : ∀ v : List UInt8, 58 + t.key.length + v.length ≤ room → layV (lay bs p (Whole.enc ⟨0, 0, 0, G, q, t⟩)) p t.key.length v = lay (lay bs p (Whole.enc ⟨0, 0, 0, G, q, t⟩)) p (Whole.enc ⟨0, 0, 0, G, q, { t with val := v }⟩) := fun v hv' =>
          Hs.value v (by rw [lay_len _ _ _ (by rw [Whole.enc_len]; exact hfitb), ← hbl.out]; show p + (58 + t.key.length + v.length) ≤ blen; omega)
        obtain ⟨bs1, hbs1⟩ : ∃ b, b = lay bs p (Whole.enc ⟨0, 0, 0, G, q, t⟩) := ⟨_, rfl⟩
        rw [← hbs1] at Y Hs hl1 hE1 hR1 hgen1 hV1 hNx
        have rV := Lib.hid (Hs.key_len (by show t.key.length < 256; omega))
        have rU := Lib.hid (Hs.val_len (by show t.val.length < 4294967296; have := hmE.out; omega))
        have rex := Lib.hid (Hs.ex (by have := fine.out.ex; show t.ex < 18446744073709551616; omega))
        have rtc := Lib.hid (Hs.tc (by have := fine.out.tc; show t.tc < 18446744073709551616; omega))
        have rtk := Lib.hid (Hs.tk fine.out.tk)
        have rfl_ := Lib.hid (Hs.fl fine.out.fl)
        have rst := Lib.hid (Hs.st (by have := fine.out.st4; show t.st < 256; omega))
        have rms := Lib.hid (Hs.ms (by have := fine.out.ms; show t.ms < 256; omega))
        have rkey := Lib.hid Hs.key
        have rval := Lib.hid Hs.val
        dsimp only at rV rU rex rtc rtk rfl_ rst rms rkey rval
        replace Y := Lib.hid Y
        replace S := Lib.hid S
        replace Bw := Lib.hid Bw
        replace hl1 := Lib.hid hl1
        replace hE1 := Lib.hid hE1
        replace hR1 := Lib.hid hR1
        replace hgen1 := Lib.hid hgen1
        replace hV1 := Lib.hid hV1
        replace hNx := Lib.hid hNx
        replace hbs1 := Lib.hid hbs1
        replace F := Lib.hid F
        clear Hs
        go_wp2_with fail
        refine Y.out.mono ?_
        rintro e wb ⟨rfl, Mb, ob⟩
        replace S := S.out.laid F.out Mb ob
        have Bw1 : BB wb 5 bw ((bs.drop p).take room) := (ob.block bw Bw.out.lt (by omega)).trans Bw.out
        obtain ⟨z0, z1, z2, z3, z4, z5, z6, z7⟩ := it_cells S.it
        clear Y Mb ob ba
        have VY := valueYes wb L2 c s2 bs1 S.set g2.out (by rw [hl1.out]; exact K.out) (by rw [rV.out]; omega) Ac c2 t.val S.vB (by unfold maxLen; omega) hcf.out (by rw [rV.out, ← hmE.out]; exact hfit)
        rw [rV.out, hV1.out, e2] at VY
        replace VY := Lib.hid VY
        replace S := Lib.hid S
        replace Bw1 := Lib.hid Bw1
        rename World => wb0
        go_wp2_with fail
        refine VY.out.mono ?_
        rintro e wb ⟨rfl, Mb, ob⟩
        replace S := S.out.laid F.out Mb ob
        have Bw1 : BB wb 5 bw ((bs.drop p).take room) := (ob.block bw Bw1.out.lt (by omega)).trans Bw1.out
        obtain ⟨z0, z1, z2, z3, z4, z5, z6, z7⟩ := it_cells S.it
        clear VY Mb ob
        replace Bw1 := Lib.hid Bw1
        have C2 := chunkOfC wb L2 c s2 bs1 S.set g2.out (by rw [hl1.out]; exact K.out)
        rw [e2] at C2
        have sb1 := Lib.hid S.below.size
        replace C2 := Lib.hid C2
        replace S := Lib.hid S
        go_wp2_with fail
        refine C2.out.mono ?_
        rintro e wc ⟨bn, rfl, hbn, Bn, bc⟩
        replace S := S.out.step bc
        have sb1x := Lib.hid (show L2.ha + 1 ≤ wc.heap.size from S.set.lt (b := L2.ha) ⟨.bytes, rfl⟩)
        have Bw2 := BB.go Bw1.out bc
        have RD := readYes wc L2 c s2 bs1 S.set g2.out (by rw [hl1.out]; exact K.out) t.key.length t.val.length rV.out.symm rU.out.symm (by omega) (by rw [← hmE.out]; exact hfit) (by rw [rex.out]; exact fine.out.ex) (by rw [rtc.out]; exact fine.out.tc)
        simp only [rex.out, rtc.out, rtk.out, rfl_.out, rst.out, rms.out, rkey.out, rval.out] at RD
        rw [e2] at RD
        replace RD := Lib.hid RD
        replace S := Lib.hid S
        replace Bn := Lib.hid Bn
        replace Bw2 := Lib.hid Bw2
        clear C2 bc hbn
        go_wp2_with fail
        refine RD.out.mono ?_
        rintro e wd ⟨bd, g1, g2', rfl, hg1, hg2, hne, Bg1, Bg2⟩
        have bd0 := Lib.hid (Nat.le_trans sb1x.out bd.size)
        obtain ⟨we, hwe⟩ : ∃ we, we = wd.alloc (.cells #[.slice (some ⟨g1, 0, none⟩) t.key.length t.key.length, .slice (some ⟨g2', 0, none⟩) t.val.length t.val.length, .int .u64 (t.fl : Int), .int .i64 (t.ex : Int), .int .i64 (t.tc : Int), .int .u64 (t.tk : Int), .int .i64 (t.st : Int), .int .i64 (t.ms : Int)] 52) := ⟨_, rfl⟩
        have bde : Below wd.heap.size wd we := by rw [hwe]; exact (Below.refl _ _).alloc (Nat.le_refl _) _
        have bce := bd.trans (bde.mono bd.size)
        have SI : IBL w1 we L2 c s2 bs1 NA NI (x.cells Ak Av An ck cv cn) t A' Ac An x.nxt c1 c2 wd.heap.size g1 g2' bn bw ((bs1.drop p).take room) ((bs.drop p).take room) :=
          ⟨S.out.step bce, by rw [hwe, ← It.cells_eq]; exact Blk.new wd _ _, BB.go Bg1 bde, BB.go Bg2 bde, BB.go Bn.out bce, BB.go Bw2.out bce⟩
        have hngn : wd.heap.size ≠ L2.ha := by have h1 := bd0.out; omega
        have hNGI := Lib.hid (show wd.heap.size ≠ NI from fun e => by have h1 := (S.out.step bd).it.lt; omega)
        have hNIG0 := Lib.hid (show NI < wd.heap.size from (S.out.step bd).it.lt)
        replace hwe := Lib.hid hwe
        replace SI := Lib.hid SI
        clear RD S bd bde bce hg1 hg2 hne Bg1 Bg2 Bn Bw2 bd0
        generalize hNG : wd.heap.size = NG at *
        replace hNG := Lib.hid hNG
        replace SI := SI.out
        have hpl := K.out.ck.all
        have hroom : ((bs1.drop p).take room).length = room := by have := hl1.out; simp; omega
        have hroomw : ((bs.drop p).take room).length = room := by have := hbl.out; simp; omega
        have hE := hE1.out
        have hrest := hR1.out
        obtain ⟨ln, hln⟩ : ∃ ln, ln = (bs1.drop p).take room := ⟨_, rfl⟩
        obtain ⟨lw, hlw⟩ : ∃ lw, lw = (bs.drop p).take room := ⟨_, rfl⟩
        rw [← hln] at SI hroom hE hrest
        rw [← hlw] at SI hroomw hrest
        have hdl : (ln.drop m).length = room - m := by simp; omega
        obtain ⟨XN, hXN0⟩ : ∃ X, X = (if room = m then some (⟨bn, 0, none⟩ : Addr) else some ⟨bn, m, none⟩) := ⟨_, rfl⟩
        obtain ⟨XW, hXW0⟩ : ∃ X, X = (if room = m then some (⟨bw, 0, none⟩ : Addr) else some ⟨bw, m, none⟩) := ⟨_, rfl⟩
        have hXN := Lib.hid hXN0
        have hXW := Lib.hid hXW0
        replace hXN0 := hXN0.symm
        replace hXW0 := hXW0.symm
        have i0 : (0 : Int) ≤ (m : Int) := by omega
        have i1 : (m : Int) ≤ (room : Int) := by omega
        have i2 : decide ((room : Int) < (m : Int)) = false := decide_eq_false (by omega)
        have hdiv : (H : Int) / 4294967296 = (G : Int) := by omega
        have hF := fine.out
        have hcl : q < 256 := by omega
        have zz := it_cells SI.ib.it
        have xx := it_cells SI.got
        obtain ⟨zz0, zz1, zz2, zz3, zz4, zz5, zz6, zz7⟩ := zz
        obtain ⟨xx0, xx1, xx2, xx3, xx4, xx5, xx6, xx7⟩ := xx
        have z0 := fun p : Regrown => cell_regrown zz0 p.d p.os
        have x0 := fun p : Regrown => cell_regrown xx0 p.d p.os
        have z1 := fun p : Regrown => cell_regrown zz1 p.d p.os
        have x1 := fun p : Regrown => cell_regrown xx1 p.d p.os
        have z2 := fun p : Regrown => cell_regrown zz2 p.d p.os
        have x2 := fun p : Regrown => cell_regrown xx2 p.d p.os
        have z3 := fun p : Regrown => cell_regrown zz3 p.d p.os
        have x3 := fun p : Regrown => cell_regrown xx3 p.d p.os
        have z4 := fun p : Regrown => cell_regrown zz4 p.d p.os
        have x4 := fun p : Regrown => cell_regrown xx4 p.d p.os
        have z5 := fun p : Regrown => cell_regrown zz5 p.d p.os
        have x5 := fun p : Regrown => cell_regrown xx5 p.d p.os
        have z6 := fun p : Regrown => cell_regrown zz6 p.d p.os
        have x6 := fun p : Regrown => cell_regrown xx6 p.d p.os
        have z7 := fun p : Regrown => cell_regrown zz7 p.d p.os
        have x7 := fun p : Regrown => cell_regrown xx7 p.d p.os
        clear zz0 xx0 zz1 xx1 zz2 xx2 zz3 xx3 zz4 xx4 zz5 xx5 zz6 xx6 zz7 xx7
        have EQ := fun p : Regrown => (SI.step (below_regrown we p.d p.os)).eq_
        have LO := fun p : Regrown => (SI.step (below_regrown we p.d p.os)).lo_ hroom hrn hF hGb hcl hmE.out hfit hE
        have RQ := fun p : Regrown => (SI.step (below_regrown we p.d p.os)).rq_ hroom hroomw hfit hXN.out hXW.out hrest
        replace EQ := Lib.hid EQ
        replace LO := Lib.hid LO
        replace RQ := Lib.hid RQ
        replace SI := Lib.hid SI
        replace hroom := Lib.hid hroom
        replace hroomw := Lib.hid hroomw
        replace hE := Lib.hid hE
        replace hrest := Lib.hid hrest
        replace hdl := Lib.hid hdl
        replace hF := Lib.hid hF
        replace hlw := Lib.hid hlw
        replace hln := Lib.hid hln
        clear hpl
        go_upto_region 24 with fail
        rw [hNG.out, ← hwe.out]
        clear hwe hNG
        refine wp_region_quiet_below (by kernel_rfl) (by kernel_rfl) ?_
        repeat (go_big_quiet_step ((first | (go_at_call 8; exact rg_same (n0 _)) | (go_at_call 28; exact Calls.regrown_of (EQ.out _)) | (go_at_call 29; exact Calls.regrown_of (LO.out _)) | (go_at_call 26; exact rg_same (RQ.out _)))))
        refine wpQuiet_nil ?_
        intro _ hw'
        obtain ⟨⟨dq, osq⟩, hw''⟩ := hw'
        subst hw''
        have S5 := SI.out.step (below_regrown we dq osq)
        clear EQ LO RQ z0 z1 z2 z3 z4 z5 z6 z7 x0 x1 x2 x3 x4 x5 x6 x7
        generalize Go.Sort.grow (redrawn we dq) osq = wf at *
        have S := S5.ib
        have gotB := Lib.hid S5.got
        have nowB := Lib.hid S5.now
        obtain ⟨z0, z1, z2, z3, z4, z5, z6, z7⟩ := it_cells S.it
        obtain ⟨y0, y1, y2, y3, y4, y5, y6, y7, y8, y9, y10⟩ := laid_cells S.arg
        replace S := Lib.hid S
        clear S5 SI
        go_wp2
        go_roundw
        case rel => exact ⟨2, t, Ac, c2, bs1, by omega, rfl, S, hcf, fine, hvl, hgen1, by omega, Lib.hid hl1.out.symm⟩
        case measure => simp [intOf]
      · exact absurd hfit1.out (by have := hmE.out; omega)
    · clear hfit1
      have C1 := chunkOfC wr L2 c s2 bs S.out.set g2.out (by rw [← hbl.out]; exact K.out)
      rw [e2] at C1
      have F := FA.out t Ac hcf.out
      have hha : L2.ha < wr.heap.size := S.out.set.lt (b := L2.ha) ⟨.bytes, rfl⟩
      obtain ⟨kl1, kl2⟩ := legal_len fine.out.legal
      have hkne : t.key ≠ [] := fun e => by rw [e] at kl1; simp at kl1
      obtain ⟨m, hmE⟩ : ∃ m, m = 58 + t.key.length + t.val.length := ⟨_, rfl⟩
      obtain ⟨K58, hK58⟩ : ∃ K58, K58 = 58 + t.key.length := ⟨_, rfl⟩
      have q1 : IntKind.i64.wrap (58 + (t.key.length : Int)) = (K58 : Int) := by rw [IntWalk.i64_in _ (by omega)]; omega
      have q2 : IntKind.i64.wrap ((K58 : Int) + (t.val.length : Int)) = (m : Int) := by rw [IntWalk.i64_in _ (by omega)]; omega
      replace hmE := Lib.hid hmE
      replace hK58 := Lib.hid hK58
      replace C1 := Lib.hid C1
      go_wp2_with fail
      refine C1.out.mono ?_
      rintro e wa ⟨bw, rfl, hbw, Bw, ba⟩
      replace S := S.out.step ba
      obtain ⟨z0, z1, z2, z3, z4, z5, z6, z7⟩ := it_cells S.it
      have hplr := K.out.ck.all
      clear C1
      by_cases hfit : m ≤ room
      · have d3 : decide ((room : Int) < (m : Int)) = false := decide_eq_false (by omega)
        have d33 : decide (room < m) = false := decide_eq_false (by omega)
        have hfitb : p + (58 + t.key.length + t.val.length) ≤ bs.length := by have := hbl.out; have := hmE.out; omega
        have Y := itemLayYes wa L2 c s2 bs S.set g2.out H hH1 _ _ p K.out.hf (by rw [K.out.hk]; exact hq) (by omega) (by rw [K.out.hk, K.out.sz, ← hbl.out]; exact K.out.ck) t fine.out (by rw [K.out.hk, K.out.sz, ← hmE.out]; exact hfit) A' Ac c1 c2 wa.heap.size S.kB S.vB (F.k hkne) hcf.out
        rw [K.out.hk, itemB_enc bs p q G t hfitb hgen.out, e2, It.cells_eq] at Y
        have Hs := Has.lay_ bs p ⟨0, 0, 0, G, q, t⟩ hfitb
        have hl1 : (lay bs p (Whole.enc ⟨0, 0, 0, G, q, t⟩)).length = blen := by rw [hbl.out]; exact lay_len _ _ _ (by rw [Whole.enc_len]; exact hfitb)
        have hE1 := enc_take (l := bs) (p := p) (n := room) (I := ⟨0, 0, 0, G, q, t⟩) (by rw [← hbl.out]; exact hplr) (by rw [← hmE.out]; exact hfit)
        have hR1 := rest_same (l := bs) (p := p) (n := room) (m := m) (q := Whole.enc ⟨0, 0, 0, G, q, t⟩) (by rw [← hbl.out]; exact hplr) (by rw [Whole.enc_len, ← hmE.out]) hfit
        have hgen1 := gen_lay (l := bs) (p := p) (I := ⟨0, 0, 0, G, q, t⟩) hfitb
        have hV1 : layV (lay bs p (Whole.enc ⟨0, 0, 0, G, q, t⟩)) p t.key.length t.val = lay bs p (Whole.enc ⟨0, 0, 0, G, q, t⟩) := by
          rw [Hs.value t.val (by rw [lay_len _ _ _ (by rw [Whole.enc_len]; exact hfitb)]; exact hfitb)]
          exact lay_lay (by rw [Whole.enc_len]; exact hfitb) (Nat.le_of_eq rfl)
        rw [← hmE.out] at hE1
        dsimp only at hE1 hgen1
        have hNx : ∀ v : List UInt8, 58 + t.key.length + v.length ≤ room → layV (lay bs p (Whole.enc ⟨0, 0, 0, G, q, t⟩)) p t.key.length v = lay (lay bs p (Whole.enc ⟨0, 0, 0, G, q, t⟩)) p (Whole.enc ⟨0, 0, 0, G, q, { t with val := v }⟩) := fun v hv' =>
          Hs.value v (by rw [lay_len _ _ _ (by rw [Whole.enc_len]; exact hfitb), ← hbl.out]; show p + (58 + t.key.length + v.length) ≤ blen; omega)
        obtain ⟨bs1, hbs1⟩ : ∃ b, b = lay bs p (Whole.enc ⟨0, 0, 0, G, q, t⟩) := ⟨_, rfl⟩
        rw [← hbs1] at Y Hs hl1 hE1 hR1 hgen1 hV1 hNx
        have rV := Lib.hid (Hs.key_len (by show t.key.length < 256; omega))
        have rU := Lib.hid (Hs.val_len (by show t.val.length < 4294967296; have := hmE.out; omega))
        have rex := Lib.hid (Hs.ex (by have := fine.out.ex; show t.ex < 18446744073709551616; omega))
        have rtc := Lib.hid (Hs.tc (by have := fine.out.tc; show t.tc < 18446744073709551616; omega))
        have rtk := Lib.hid (Hs.tk fine.out.tk)
        have rfl_ := Lib.hid (Hs.fl fine.out.fl)
        have rst := Lib.hid (Hs.st (by have := fine.out.st4; show t.st < 256; omega))
        have rms := Lib.hid (Hs.ms (by have := fine.out.ms; show t.ms < 256; omega))
        have rkey := Lib.hid Hs.key
        have rval := Lib.hid Hs.val
        dsimp only at rV rU rex rtc rtk rfl_ rst rms rkey rval
        replace Y := Lib.hid Y
        replace S := Lib.hid S
        replace Bw := Lib.hid Bw
        replace hl1 := Lib.hid hl1
        replace hE1 := Lib.hid hE1
        replace hR1 := Lib.hid hR1
        replace hgen1 := Lib.hid hgen1
        replace hV1 := Lib.hid hV1
        replace hNx := Lib.hid hNx
        replace hbs1 := Lib.hid hbs1
        replace F := Lib.hid F
        clear Hs
        go_wp2_with fail
        refine Y.out.mono ?_
        rintro e wb ⟨rfl, Mb, ob⟩
        replace S := S.out.laid F.out Mb ob
        have Bw1 : BB wb 5 bw ((bs.drop p).take room) := (ob.block bw Bw.out.lt (by omega)).trans Bw.out
        obtain ⟨z0, z1, z2, z3, z4, z5, z6, z7⟩ := it_cells S.it
        clear Y Mb ob ba
        replace Bw1 := Lib.hid Bw1
        have C2 := chunkOfC wb L2 c s2 bs1 S.set g2.out (by rw [hl1.out]; exact K.out)
        rw [e2] at C2
        have sb1 := Lib.hid S.below.size
        replace C2 := Lib.hid C2
        replace S := Lib.hid S
        go_wp2_with fail
        refine C2.out.mono ?_
        rintro e wc ⟨bn, rfl, hbn, Bn, bc⟩
        replace S := S.out.step bc
        have sb1x := Lib.hid (show L2.ha + 1 ≤ wc.heap.size from S.set.lt (b := L2.ha) ⟨.bytes, rfl⟩)
        have Bw2 := BB.go Bw1.out bc
        have RD := readYes wc L2 c s2 bs1 S.set g2.out (by rw [hl1.out]; exact K.out) t.key.length t.val.length rV.out.symm rU.out.symm (by omega) (by rw [← hmE.out]; exact hfit) (by rw [rex.out]; exact fine.out.ex) (by rw [rtc.out]; exact fine.out.tc)
        simp only [rex.out, rtc.out, rtk.out, rfl_.out, rst.out, rms.out, rkey.out, rval.out] at RD
        rw [e2] at RD
        replace RD := Lib.hid RD
        replace S := Lib.hid S
        replace Bn := Lib.hid Bn
        replace Bw2 := Lib.hid Bw2
        clear C2 bc hbn
        go_wp2_with fail
        refine RD.out.mono ?_
        rintro e wd ⟨bd, g1, g2', rfl, hg1, hg2, hne, Bg1, Bg2⟩
        have bd0 := Lib.hid (Nat.le_trans sb1x.out bd.size)
        obtain ⟨we, hwe⟩ : ∃ we, we = wd.alloc (.cells #[.slice (some ⟨g1, 0, none⟩) t.key.length t.key.length, .slice (some ⟨g2', 0, none⟩) t.val.length t.val.length, .int .u64 (t.fl : Int), .int .i64 (t.ex : Int), .int .i64 (t.tc : Int), .int .u64 (t.tk : Int), .int .i64 (t.st : Int), .int .i64 (t.ms : Int)] 52) := ⟨_, rfl⟩
        have bde : Below wd.heap.size wd we := by rw [hwe]; exact (Below.refl _ _).alloc (Nat.le_refl _) _
        have bce := bd.trans (bde.mono bd.size)
        have SI : IBL w1 we L2 c s2 bs1 NA NI (x.cells Ak Av An ck cv cn) t A' Ac An x.nxt c1 c2 wd.heap.size g1 g2' bn bw ((bs1.drop p).take room) ((bs.drop p).take room) :=
          ⟨S.out.step bce, by rw [hwe, ← It.cells_eq]; exact Blk.new wd _ _, BB.go Bg1 bde, BB.go Bg2 bde, BB.go Bn.out bce, BB.go Bw2.out bce⟩
        have hngn : wd.heap.size ≠ L2.ha := by have h1 := bd0.out; omega
        have hNGI := Lib.hid (show wd.heap.size ≠ NI from fun e => by have h1 := (S.out.step bd).it.lt; omega)
        have hNIG0 := Lib.hid (show NI < wd.heap.size from (S.out.step bd).it.lt)
        replace hwe := Lib.hid hwe
        replace SI := Lib.hid SI
        clear RD S bd bde bce hg1 hg2 hne Bg1 Bg2 Bn Bw2 bd0
        generalize hNG : wd.heap.size = NG at *
        replace hNG := Lib.hid hNG
        replace SI := SI.out
        have hpl := K.out.ck.all
        have hroom : ((bs1.drop p).take room).length = room := by have := hl1.out; simp; omega
        have hroomw : ((bs.drop p).take room).length = room := by have := hbl.out; simp; omega
        have hE := hE1.out
        have hrest := hR1.out
        obtain ⟨ln, hln⟩ : ∃ ln, ln = (bs1.drop p).take room := ⟨_, rfl⟩
        obtain ⟨lw, hlw⟩ : ∃ lw, lw = (bs.drop p).take room := ⟨_, rfl⟩
        rw [← hln] at SI hroom hE hrest
        rw [← hlw] at SI hroomw hrest
        have hdl : (ln.drop m).length = room - m := by simp; omega
        obtain ⟨XN, hXN0⟩ : ∃ X, X = (if room = m then some (⟨bn, 0, none⟩ : Addr) else some ⟨bn, m, none⟩) := ⟨_, rfl⟩
        obtain ⟨XW, hXW0⟩ : ∃ X, X = (if room = m then some (⟨bw, 0, none⟩ : Addr) else some ⟨bw, m, none⟩) := ⟨_, rfl⟩
        have hXN := Lib.hid hXN0
        have hXW := Lib.hid hXW0
        replace hXN0 := hXN0.symm
        replace hXW0 := hXW0.symm
        have i0 : (0 : Int) ≤ (m : Int) := by omega
        have i1 : (m : Int) ≤ (room : Int) := by omega
        have i2 : decide ((room : Int) < (m : Int)) = false := decide_eq_false (by omega)
        have hdiv : (H : Int) / 4294967296 = (G : Int) := by omega
        have hF := fine.out
        have hcl : q < 256 := by omega
        have zz := it_cells SI.ib.it
        have xx := it_cells SI.got
        obtain ⟨zz0, zz1, zz2, zz3, zz4, zz5, zz6, zz7⟩ := zz
        obtain ⟨xx0, xx1, xx2, xx3, xx4, xx5, xx6, xx7⟩ := xx
        have z0 := fun p : Regrown => cell_regrown zz0 p.d p.os
        have x0 := fun p : Regrown => cell_regrown xx0 p.d p.os
        have z1 := fun p : Regrown => cell_regrown zz1 p.d p.os
        have x1 := fun p : Regrown => cell_regrown xx1 p.d p.os
        have z2 := fun p : Regrown => cell_regrown zz2 p.d p.os
        have x2 := fun p : Regrown => cell_regrown xx2 p.d p.os
        have z3 := fun p : Regrown => cell_regrown zz3 p.d p.os
        have x3 := fun p : Regrown => cell_regrown xx3 p.d p.os
        have z4 := fun p : Regrown => cell_regrown zz4 p.d p.os
        have x4 := fun p : Regrown => cell_regrown xx4 p.d p.os
        have z5 := fun p : Regrown => cell_regrown zz5 p.d p.os
        have x5 := fun p : Regrown => cell_regrown xx5 p.d p.os
        have z6 := fun p : Regrown => cell_regrown zz6 p.d p.os
        have x6 := fun p : Regrown => cell_regrown xx6 p.d p.os
        have z7 := fun p : Regrown => cell_regrown zz7 p.d p.os
        have x7 := fun p : Regrown => cell_regrown xx7 p.d p.os
        clear zz0 xx0 zz1 xx1 zz2 xx2 zz3 xx3 zz4 xx4 zz5 xx5 zz6 xx6 zz7 xx7
        have EQ := fun p : Regrown => (SI.step (below_regrown we p.d p.os)).eq_
        have LO := fun p : Regrown => (SI.step (below_regrown we p.d p.os)).lo_ hroom hrn hF hGb hcl hmE.out hfit hE
        have RQ := fun p : Regrown => (SI.step (below_regrown we p.d p.os)).rq_ hroom hroomw hfit hXN.out hXW.out hrest
        replace EQ := Lib.hid EQ
        replace LO := Lib.hid LO
        replace RQ := Lib.hid RQ
        replace SI := Lib.hid SI
        replace hroom := Lib.hid hroom
        replace hroomw := Lib.hid hroomw
        replace hE := Lib.hid hE
        replace hrest := Lib.hid hrest
        replace hdl := Lib.hid hdl
        replace hF := Lib.hid hF
        replace hlw := Lib.hid hlw
        replace hln := Lib.hid hln
        clear hpl
        go_upto_region 24 with fail
        rw [hNG.out, ← hwe.out]
        clear hwe hNG
        refine wp_region_quiet_below (by kernel_rfl) (by kernel_rfl) ?_
        repeat (go_big_quiet_step ((first | (go_at_call 8; exact rg_same (n0 _)) | (go_at_call 28; exact Calls.regrown_of (EQ.out _)) | (go_at_call 29; exact Calls.regrown_of (LO.out _)) | (go_at_call 26; exact rg_same (RQ.out _)))))
        refine wpQuiet_nil ?_
        intro _ hw'
        obtain ⟨⟨dq, osq⟩, hw''⟩ := hw'
        subst hw''
        have S5 := SI.out.step (below_regrown we dq osq)
        clear EQ LO RQ z0 z1 z2 z3 z4 z5 z6 z7 x0 x1 x2 x3 x4 x5 x6 x7
        generalize Go.Sort.grow (redrawn we dq) osq = wf at *
        have S := S5.ib
        have gotB := Lib.hid S5.got
        have nowB := Lib.hid S5.now
        obtain ⟨z0, z1, z2, z3, z4, z5, z6, z7⟩ := it_cells S.it
        obtain ⟨y0, y1, y2, y3, y4, y5, y6, y7, y8, y9, y10⟩ := laid_cells S.arg
        obtain ⟨wg, hwg⟩ : ∃ wg, wg = wf.setCell ⟨NI, 1, none⟩ (.slice An x.nxt.length cn) := ⟨_, rfl⟩
        have og : Only (· = NI) wf wg := by rw [hwg]; exact only_cell wf NI 1 _
        have hNIz := S.it.frozen
        have itg : Blk wg NI 52 (({ t with val := x.nxt } : It).cells A' An c1 cn) := by rw [hwg]; exact S.it.set_ 1 (.slice An x.nxt.length cn)
        have hNAI := S.arg.ne_ S.it (by decide)
        have hbnI := Blk.ne_ (show Blk wf bn 5 _ from nowB.out) S.it (by decide)
        have Sg : IB w1 wg L2 c s2 bs1 NA NI (x.cells Ak Av An ck cv cn) { t with val := x.nxt } A' An An x.nxt c1 cn :=
          ⟨S.set.only og (fun b hb e => by have := hNIf.out b hb; omega), og.at_ S.arg hNAI, itg, row_only og S.kB (fun _ b off e h => by have := hAI.out b off e; omega), row_only og S.nB (fun hne b off e h => by have := hnI.out hne b off e; omega), row_only og S.nB (fun hne b off e h => by have := hnI.out hne b off e; omega), S.below.trans (og.toBelow fun k hk => ⟨Nat.lt_of_lt_of_le hk S.below.size, by have := hNIw.out; omega⟩)⟩
        have gotg : Blk wg NG 52 (t.cells (some ⟨g1, 0, none⟩) (some ⟨g2', 0, none⟩) t.key.length t.val.length) := og.at_ gotB.out hNGI.out
        have nowg : BB wg 5 bn ln := (og.block bn nowB.out.lt hbnI).trans nowB.out
        obtain ⟨m2, hm2⟩ : ∃ m2, m2 = 58 + t.key.length + x.nxt.length := ⟨_, rfl⟩
        have q3 : IntKind.i64.wrap ((K58 : Int) + (x.nxt.length : Int)) = (m2 : Int) := by have := hK58.out; rw [IntWalk.i64_in _ (by omega)]; omega
        obtain ⟨y0g, y1g, y2g, y3g, y4g, y5g, y6g, y7g⟩ := it_cells Sg.it
        dsimp only at y0g y1g y2g y3g y4g y5g y6g y7g
        replace hwg := Lib.hid hwg
        replace Sg := Lib.hid Sg
        replace gotg := Lib.hid gotg
        replace nowg := Lib.hid nowg
        replace hm2 := Lib.hid hm2
        clear S S5 SI gotB nowB og itg hNAI hbnI
        by_cases hf2 : m2 ≤ room
        · have d4 : decide ((room : Int) < (m2 : Int)) = false := decide_eq_false (by omega)
          have d44 : decide (room < m2) = false := decide_eq_false (by omega)
          have VY := valueYes wg L2 c s2 bs1 Sg.out.set g2.out (by rw [hl1.out]; exact K.out) (by rw [rV.out]; omega) An cn x.nxt Sg.out.nB (by unfold maxLen; omega) hnf.out (by rw [rV.out]; have := hm2.out; omega)
          rw [rV.out, hNx.out x.nxt (by have := hm2.out; omega), e2] at VY
          have fitb : p + (58 + t.key.length + x.nxt.length) ≤ bs1.length := by have h1 := hl1.out; have h2 := hm2.out; omega
          have Hs2 := Has.lay_ bs1 p ⟨0, 0, 0, G, q, { t with val := x.nxt }⟩ fitb
          have hl2 : (lay bs1 p (Whole.enc ⟨0, 0, 0, G, q, { t with val := x.nxt }⟩)).length = blen := by rw [lay_len _ _ _ (by rw [Whole.enc_len]; exact fitb)]; exact hl1.out
          have hgen2 := gen_lay (l := bs1) (p := p) (I := ⟨0, 0, 0, G, q, { t with val := x.nxt }⟩) fitb
          dsimp only at hgen2
          obtain ⟨bs2, hbs2⟩ : ∃ b, b = lay bs1 p (Whole.enc ⟨0, 0, 0, G, q, { t with val := x.nxt }⟩) := ⟨_, rfl⟩
          rw [← hbs2] at VY Hs2 hl2 hgen2
          have fine2 : ({ t with val := x.nxt } : It).Fine := ⟨fine.out.legal, fine.out.fl, fine.out.ex, fine.out.tc, fine.out.tk, fine.out.st1, fine.out.st4, fine.out.ms⟩
          have sV := Hs2.key_len (by show t.key.length < 256; omega)
          have sU := Hs2.val_len (by show x.nxt.length < 4294967296; have := hm2.out; omega)
          have sex := Hs2.ex (by have := fine.out.ex; show t.ex < 18446744073709551616; omega)
          have stc := Hs2.tc (by have := fine.out.tc; show t.tc < 18446744073709551616; omega)
          have stk := Hs2.tk fine.out.tk
          have sfl := Hs2.fl fine.out.fl
          have sst := Hs2.st (by have := fine.out.st4; show t.st < 256; omega)
          have sms := Hs2.ms (by have := fine.out.ms; show t.ms < 256; omega)
          have skey := Hs2.key
          have sval := Hs2.val
          dsimp only at sV sU sex stc stk sfl sst sms skey sval
          have RD := fun w (h : SetAt w L2 c s2 bs2) => readYes w L2 c s2 bs2 h g2.out (by rw [hl2]; exact K.out) t.key.length x.nxt.length sV.symm sU.symm (by omega) (by have := hm2.out; omega) (by rw [sex]; exact fine.out.ex) (by rw [stc]; exact fine.out.tc)
          simp only [sex, stc, stk, sfl, sst, sms, skey, sval, e2] at RD
          replace VY := Lib.hid VY
          replace RD := Lib.hid RD
          replace hl2 := Lib.hid hl2
          replace hgen2 := Lib.hid hgen2
          replace fine2 := Lib.hid fine2
          clear Hs2 sV sU sex stc stk sfl sst sms skey sval hbs2
          go_upto_region 28 with fail
          rw [← hwg.out]
          go_wp2_with fail
          refine VY.out.mono ?_
          rintro e wh ⟨rfl, Mh, oh⟩
          have F2 := FA.out { t with val := x.nxt } An hnf.out
          have S := Sg.out.laid F2 Mh oh
          have goth : Blk wh NG 52 (t.cells (some ⟨g1, 0, none⟩) (some ⟨g2', 0, none⟩) t.key.length t.val.length) := oh.at_ gotg.out hngn
          have RE := Lib.hid (RD.out wh S.set)
          replace S := Lib.hid S
          replace goth := Lib.hid goth
          clear VY RD Mh oh F2
          go_wp2_with fail
          refine RE.out.mono ?_
          rintro e wi ⟨bi, g3, g4, rfl, hg3, hg4, hne3, Bg3, Bg4⟩
          have S := S.out.step bi
          have goti : Blk wi NG 52 (t.cells (some ⟨g1, 0, none⟩) (some ⟨g2', 0, none⟩) t.key.length t.val.length) := Base.Blk.below goth.out bi (Base.Blk.lt goth.out)
          have hgothl := Base.Blk.lt goth.out
          have hzi := Base.Blk.frozen goti
          obtain ⟨x0, x1, x2, x3, x4, x5, x6, x7⟩ := it_cells goti
          obtain ⟨wj, hwj⟩ : ∃ wj, wj = put8 wi NG (.slice (some ⟨g3, 0, none⟩) t.key.length t.key.length) (.slice (some ⟨g4, 0, none⟩) x.nxt.length x.nxt.length) (.int .u64 (t.fl : Int)) (.int .i64 (t.ex : Int)) (.int .i64 (t.tc : Int)) (.int .u64 (t.tk : Int)) (.int .i64 (t.st : Int)) (.int .i64 (t.ms : Int)) := ⟨_, rfl⟩
          have bj : Below NG wi wj := by rw [hwj]; exact below_put8N (Below.refl _ _) (Nat.le_refl _) _ _ _ _ _ _ _ _
          have gotj : Blk wj NG 52 (({ t with val := x.nxt } : It).cells (some ⟨g3, 0, none⟩) (some ⟨g4, 0, none⟩) t.key.length x.nxt.length) := by rw [hwj]; exact blk_put8' goti _ _ _ _ _ _ _ _
          have hNGi := hNGI.out
          have hNIG := hNIG0.out
          have Sj := S.stepB bj (fun d hd => by have := hNIf.out d hd; omega) (by have := hNAI0.out; omega) hNIG (by have := hNIw.out; omega) (fun _ d off e => by have := hAI.out d off e; omega) (fun hne d off e => by have := hnI.out hne d off e; omega) (fun hne d off e => by have := hnI.out hne d off e; omega)
          have B3 : BB wj 5 g3 t.key := by rw [hwj]; exact put8_far Bg3 (by omega) _ _ _ _ _ _ _ _
          have B4 : BB wj 5 g4 x.nxt := by rw [hwj]; exact put8_far Bg4 (by omega) _ _ _ _ _ _ _ _
          have EQ := equalTrueC wj { t with val := x.nxt } (some ⟨g3, 0, none⟩) (some ⟨g4, 0, none⟩) A' An t.key.length x.nxt.length c1 cn (B3.all wj.heap.size B3.lt) (B4.all wj.heap.size B4.lt) Sj.kB Sj.vB
          rw [It.cells_eq, It.cells_eq] at EQ
          dsimp only at EQ
          obtain ⟨xx0, xx1, xx2, xx3, xx4, xx5, xx6, xx7⟩ := it_cells gotj
          obtain ⟨zz0, zz1, zz2, zz3, zz4, zz5, zz6, zz7⟩ := it_cells Sj.it
          dsimp only at xx0 xx1 xx2 xx3 xx4 xx5 xx6 xx7 zz0 zz1 zz2 zz3 zz4 zz5 zz6 zz7
          unfold put8 at hwj
          replace hwj := Lib.hid hwj
          replace EQ := Lib.hid EQ
          replace Sj := Lib.hid Sj
          clear RE S goth goti bi hg3 hg4 hne3 Bg3 Bg4 bj gotj B3 B4 hNGi hgothl hNIG
          go_upto_region 33 with fail
          rw [← hwj.out]
          clear hwj x0 x1 x2 x3 x4 x5 x6 x7 hzi
          go_wp2_with (first | (go_at_call 8; refine (n0 _).mono ?_; rintro e w' ⟨rfl, rfl⟩) | (go_at_call 8; refine (n6 _).mono ?_; rintro e w' ⟨rfl, rfl⟩) | fail)
          refine EQ.out.mono ?_
          rintro e wk ⟨rfl, bk⟩
          replace Sj := Lib.hid (Sj.out.step bk)
          clear EQ bk xx0 xx1 xx2 xx3 xx4 xx5 xx6 xx7 zz0 zz1 zz2 zz3 zz4 zz5 zz6 zz7
          go_wp2
          go_roundw
          case rel => exact ⟨1, { t with val := x.nxt }, An, cn, bs2, by omega, rfl, Sj, hnf, fine2, hn, hgen2, fun _ => by have := hm2.out; show 58 + t.key.length + x.nxt.length ≤ room; omega, Lib.hid hl2.out.symm⟩
          case measure => simp [intOf]
        · have d4 : decide ((room : Int) < (m2 : Int)) = true := decide_eq_true (by omega)
          have d44 : decide (room < m2) = true := decide_eq_true (by omega)
          have VL := valueLong wg L2 c s2 bs1 Sg.out.set g2.out (by rw [hl1.out]; exact K.out) (by rw [rV.out]; omega) An cn x.nxt Sg.out.nB (by unfold maxLen; omega) (by rw [rV.out]; have := hm2.out; omega)
          rw [e2] at VL
          replace VL := Lib.hid VL
          go_upto_region 28 with fail
          rw [← hwg.out]
          go_wp2_with fail
          refine VL.out.mono ?_
          rintro e wh ⟨rfl, bh⟩
          replace Sg := Sg.out.step bh
          have nowh := BB.go nowg.out bh
          have C3 := chunkOfC wh L2 c s2 bs1 Sg.set g2.out (by rw [hl1.out]; exact K.out)
          rw [e2, ← hln.out] at C3
          replace C3 := Lib.hid C3
          replace Sg := Lib.hid Sg
          replace nowh := Lib.hid nowh
          clear VL bh
          go_wp2_with (first | (go_at_call 8; refine (n0 _).mono ?_; rintro e w' ⟨rfl, rfl⟩) | (go_at_call 8; refine (n6 _).mono ?_; rintro e w' ⟨rfl, rfl⟩) | fail)
          refine C3.out.mono ?_
          rintro e wi ⟨bi, rfl, hbi, Bi, bwi⟩
          have nowi := BB.go nowh.out bwi
          replace Sg := Sg.out.step bwi
          have EQ := eqTrueC (some ⟨bi, 0, none⟩) (some ⟨bn, 0, none⟩) room room ln wi (Bi.all wi.heap.size Bi.lt) (nowi.all wi.heap.size nowi.lt)
          rw [hroom.out] at EQ
          have bfin := Lib.hid (FIN.out wi Sg.below)
          replace EQ := Lib.hid EQ
          clear C3 Sg nowi Bi bwi nowh
          go_wp2_with fail
          refine EQ.out.mono ?_
          rintro e w' ⟨rfl, rfl⟩
          go_wp2
          go_ret
          exact ⟨rfl, bfin.out⟩
      · have Y := layLong wa L2 c s2 bs S.set g2.out t.raw A' Ac c1 c2 (by rw [← hbl.out]; exact K.out) S.kB (by show t.key.length ≤ maxLen; unfold maxLen; omega) (by show t.val.length ≤ maxLen; unfold maxLen; omega) fine.out.legal (by show room < 58 + t.key.length + t.val.length; have := hmE.out; omega)
        rw [It.raw_cells, It.cells_eq, e2] at Y
        have d3 : decide ((room : Int) < (m : Int)) = true := decide_eq_true (by omega)
        have d33 : decide (room < m) = true := decide_eq_true (by omega)
        replace Y := Lib.hid Y
        replace S := Lib.hid S
        replace Bw := Lib.hid Bw
        replace F := Lib.hid F
        go_wp2_with fail
        refine Y.out.mono ?_
        rintro e wb ⟨rfl, bb⟩
        replace S := S.out.step bb
        have Bw1 := BB.go Bw.out bb
        have C2 := chunkOfC wb L2 c s2 bs S.set g2.out (by rw [← hbl.out]; exact K.out)
        rw [e2] at C2
        replace C2 := Lib.hid C2
        replace S := Lib.hid S
        clear Y bb ba
        go_wp2_with fail
        refine C2.out.mono ?_
        rintro e wc ⟨bn, rfl, hbn, Bn, bc⟩
        replace S := S.out.step bc
        have Bw2 := BB.go Bw1 bc
        have hlr : ((bs.drop p).take room).length = room := by have := hbl.out; simp; omega
        have EQ := eqTrueC (some ⟨bw, 0, none⟩) (some ⟨bn, 0, none⟩) room room ((bs.drop p).take room) wc (Bw2.all wc.heap.size Bw2.lt) (Bn.all wc.heap.size Bn.lt)
        rw [hlr] at EQ
        have bfin := Lib.hid (FIN.out wc S.below)
        replace EQ := Lib.hid EQ
        clear C2 S bc Bw2 Bw1 Bn Bw hbn hlr
        go_wp2_with (first | (go_at_call 8; refine (n0 _).mono ?_; rintro e w' ⟨rfl, rfl⟩) | (go_at_call 8; refine (n6 _).mono ?_; rintro e w' ⟨rfl, rfl⟩) | fail)
        refine EQ.out.mono ?_
        rintro e w' ⟨rfl, rfl⟩
        go_wp2
        go_ret
        exact ⟨rfl, bfin.out⟩
end Go.Proofs.Ytdmclekohalolaa.Itm
/-
  Two chunks of a new Set, as they are taken.
-/
namespace Go.Proofs.Ytdmclekohalolaa.Itm
open Go.RowKit Base Arena Cls
set_option linter.unusedVariables false

/-- Two are taken: in which state, at which places. -/
theorem two_take {c : Conf} (ok : c.cf.Ok) (h2 : 2 ≤ c.cf.np) {q1 q2 : Nat} (hq1 : q1 < c.nc) (hq2 : q2 < c.nc) :
    ∃ s1 l1 p1 s3 l2 p2, roomS c.cf (new0 c.cf) q1 = some s1 ∧ s1.free q1 = l1 ++ [p1] ∧ Cls.Good c.cf (takeS c.cf s1 q1 p1) ∧
      roomS c.cf (takeS c.cf s1 q1 p1) q2 = some s3 ∧ s3.free q2 = l2 ++ [p2] ∧ Cls.Good c.cf (takeS c.cf s3 q2 p2) ∧
      Tkn c.cf (takeS c.cf s3 q2 p2) (p1 / c.cf.ps) (p1 % c.cf.ps / c.sz q1) p1 q1 (s1.gens (p1 / c.cf.ps) (p1 % c.cf.ps / c.sz q1)) ∧
      Tkn c.cf (takeS c.cf s3 q2 p2) (p2 / c.cf.ps) (p2 % c.cf.ps / c.sz q2) p2 q2 (s3.gens (p2 / c.cf.ps) (p2 % c.cf.ps / c.sz q2)) ∧ p1 ≠ p2 := by
  have g0 : Cls.Good c.cf (new0 c.cf) := new0_good
  have hr1 := room_new ok q1
  obtain ⟨g1, l1, p1, hp1⟩ := room_good ok g0 (k := q1) hq1 hr1
  obtain ⟨g2, t1, -, -⟩ := took ok g0 (k := q1) hq1 hr1 hp1
  obtain ⟨s3, hr2⟩ := room_two ok h2 q1 q2 p1
  obtain ⟨g3, l2, p2, hp2⟩ := room_good ok g2 (k := q2) hq2 hr2
  obtain ⟨g4, t2, -, hk⟩ := took ok g2 (k := q2) hq2 hr2 hp2
  obtain ⟨t1', hne⟩ := hk t1
  exact ⟨_, l1, p1, s3, l2, p2, hr1, hp1, g2, hr2, hp2, g4, t1', t2, hne⟩
theorem zero_at {bs : List UInt8} {p : Nat} (h : p + 56 ≤ bs.length) : rd (lay bs p (List.replicate 56 0)) (p + 44) 1 = 0 := by
  have : ((lay bs p (List.replicate 56 0)).drop (p + 44)).take 1 = [0] := by
    apply List.ext_getElem?
    intro j
    rw [piece_get]
    split
    · rename_i hj
      obtain rfl : j = 0 := by omega
      rw [lay_get _ _ _ (by simpa using h), if_pos (by simp)]
      rw [List.getElem?_replicate, if_pos (by omega)]
      rfl
    · rename_i hj
      rw [List.getElem?_eq_none (by simp; omega)]
  unfold rd
  rw [this]
  rfl
theorem take_zero {bs : List UInt8} {p g : Nat} (h : p + 56 ≤ bs.length) : rd (takeB bs p g) (p + 44) 1 = 0 := by
  have e : (lay bs p (List.replicate 56 0)).length = bs.length := lay_len _ _ _ (by simpa using h)
  unfold takeB
  rw [rd_out _ _ _ _ _ (by rw [putB_len]; omega) (by rw [putB_len]; omega)]
  exact zero_at h
/-- What stands away from a chunk that is taken. -/
theorem take_far {bs : List UInt8} {p g a n : Nat} (h : p + 56 ≤ bs.length) (ha : a + n ≤ p ∨ p + 56 ≤ a) : ((takeB bs p g).drop a).take n = (bs.drop a).take n := by
  have e : (lay bs p (List.replicate 56 0)).length = bs.length := lay_len _ _ _ (by simpa using h)
  unfold takeB
  rw [piece_out _ _ _ _ _ (by rw [putB_len]; omega) (by rw [putB_len]; omega), piece_out _ _ _ _ _ (by simpa using h) (by simpa using ha)]
theorem take_two {bs : List UInt8} {p1 g1 p2 g2 : Nat} (h1 : p1 + 56 ≤ bs.length) (h2 : p2 + 56 ≤ bs.length) (hd : p1 + 56 ≤ p2 ∨ p2 + 56 ≤ p1) :
    (takeB (takeB bs p1 g1) p2 g2).length = bs.length ∧ ((takeB (takeB bs p1 g1) p2 g2).drop (p1 + 12)).take 4 = putB 4 g1 ∧ ((takeB (takeB bs p1 g1) p2 g2).drop (p2 + 12)).take 4 = putB 4 g2 ∧
      rd (takeB (takeB bs p1 g1) p2 g2) (p1 + 44) 1 = 0 ∧ rd (takeB (takeB bs p1 g1) p2 g2) (p2 + 44) 1 = 0 := by
  have e1 : (takeB bs p1 g1).length = bs.length := take_len h1
  refine ⟨by rw [take_len (by omega), e1], ?_, take_gen (by omega), ?_, take_zero (by omega)⟩
  · rw [take_far (by omega) (by omega), take_gen h1]
  · unfold rd
    rw [take_far (by omega) (by omega)]
    exact take_zero h1
/-- A piece that lies apart from what is laid. -/
theorem lay_far {l : List UInt8} {p a n : Nat} {q : List UInt8} (h : p + q.length ≤ l.length) (hd : a + n ≤ p ∨ p + q.length ≤ a) : ((lay l p q).drop a).take n = (l.drop a).take n := piece_out _ _ _ _ _ h hd
end Go.Proofs.Ytdmclekohalolaa.Itm
/-
  What stands between the steps of ItemCopies.
-/
namespace Go.Proofs.Ytdmclekohalolaa.Itm
open Go.RowKit Base Arena Cls Rel
set_option linter.unusedVariables false

/-- An item in a box, its bytes somewhere. -/
structure ItB (w : World) (N : Nat) (t : It) (Ak Av : Option Addr) (c1 c2 : Nat) : Prop where
  it : Blk w N 52 (t.cells Ak Av c1 c2)
  kB : Bytes w w.heap.size Ak t.key
  vB : Bytes w w.heap.size Av t.val
/-- .. none of it in block ha. -/
structure Away (ha N : Nat) (t : It) (Ak Av : Option Addr) : Prop where
  n : N ≠ ha
  k : t.key ≠ [] → ∀ b off, Ak = some ⟨b, off, none⟩ → b ≠ ha
  v : t.val ≠ [] → ∀ b off, Av = some ⟨b, off, none⟩ → b ≠ ha
section
variable {w w' : World} {N : Nat} {t : It} {Ak Av : Option Addr} {c1 c2 : Nat}
theorem ItB.step (h : ItB w N t Ak Av c1 c2) (b : Below w.heap.size w w') : ItB w' N t Ak Av c1 c2 := ⟨h.it.below b h.it.lt, bytes_go h.kB b, bytes_go h.vB b⟩
theorem ItB.laid (h : ItB w N t Ak Av c1 c2) {ha : Nat} (F : Away ha N t Ak Av) (o : Only (· = ha) w w') : ItB w' N t Ak Av c1 c2 := ⟨o.at_ h.it F.n, row_only o h.kB F.k, row_only o h.vB F.v⟩
theorem ItB.drewN (h : ItB w N t Ak Av c1 c2) (m : Nat) : ItB (w.drewN m) N t Ak Av c1 c2 := h.step ⟨rfl, rfl, rfl, Nat.le_refl _, fun _ _ => rfl⟩
end
structure CB (w0 w : World) (L : Lay) (c : Conf) (s : St) (bs : List UInt8) (NA : Nat) (ac : Array Value) : Prop where
  set : SetAt w L c s bs
  arg : Blk w NA 65 ac
  below : Below w0.heap.size w0 w
section
variable {w0 w w' : World} {L : Lay} {c : Conf} {s : St} {bs bs' : List UInt8} {NA : Nat} {ac : Array Value}
theorem CB.step (S : CB w0 w L c s bs NA ac) (b : Below w.heap.size w w') : CB w0 w' L c s bs NA ac :=
  ⟨S.set.kept fun d hd => b.block d (S.set.lt hd), S.arg.below b S.arg.lt, S.below.trans (b.mono S.below.size)⟩
theorem CB.laid (S : CB w0 w L c s bs NA ac) (h : w0.heap.size ≤ L.ha) (na : NA ≠ L.ha) (M : SetAt w' L c s bs') (o : Only (· = L.ha) w w') : CB w0 w' L c s bs' NA ac :=
  ⟨M, o.at_ S.arg na, S.below.trans (o.toBelow fun k hk => ⟨Nat.lt_of_lt_of_le hk S.below.size, by omega⟩)⟩
theorem CB.drewN (S : CB w0 w L c s bs NA ac) (m : Nat) : CB w0 (w.drewN m) L c s bs NA ac := S.step ⟨rfl, rfl, rfl, Nat.le_refl _, fun _ _ => rfl⟩
end
/-- A list of an argument lies below its world's end. -/
theorem arg_lt {w : World} {B : Nat} {A : Option Addr} {l : List UInt8} (h : Bytes w B A l) (hl : l ≠ []) {b off : Nat} (e : A = some ⟨b, off, none⟩) : b < B := by
  obtain ⟨d, off', h1, h2, -⟩ := h (by simpa using List.length_pos_iff.2 hl)
  rw [e] at h1
  simp only [Option.some.injEq, Addr.mk.injEq] at h1
  omega
/-- Ahead of the look at a copy: the chunk as it was and as it is, the item meant and the item told. -/
structure LK (w : World) (NK NG : Nat) (t : It) (A' Ac : Option Addr) (cc1 cc2 g1 g2 bn bw : Nat) (ln lw : List UInt8) : Prop where
  like : ItB w NK t A' Ac cc1 cc2
  got : ItB w NG t (some ⟨g1, 0, none⟩) (some ⟨g2, 0, none⟩) t.key.length t.val.length
  now : BB w 5 bn ln
  was : BB w 5 bw lw
section
variable {w w' : World} {NK NG : Nat} {t : It} {A' Ac : Option Addr} {cc1 cc2 g1 g2 bn bw : Nat} {ln lw : List UInt8}
theorem LK.step (S : LK w NK NG t A' Ac cc1 cc2 g1 g2 bn bw ln lw) (b : Below w.heap.size w w') : LK w' NK NG t A' Ac cc1 cc2 g1 g2 bn bw ln lw := ⟨S.like.step b, S.got.step b, BB.go S.now b, BB.go S.was b⟩
theorem LK.eq_ (S : LK w NK NG t A' Ac cc1 cc2 g1 g2 bn bw ln lw) : Calls Try.prog 28 #[.agg #[.slice (some ⟨g1, 0, none⟩) t.key.length t.key.length, .slice (some ⟨g2, 0, none⟩) t.val.length t.val.length, .int .u64 (t.fl : Int), .int .i64 (t.ex : Int), .int .i64 (t.tc : Int), .int .u64 (t.tk : Int), .int .i64 (t.st : Int), .int .i64 (t.ms : Int)],
    .agg #[.slice A' t.key.length cc1, .slice Ac t.val.length cc2, .int .u64 (t.fl : Int), .int .i64 (t.ex : Int), .int .i64 (t.tc : Int), .int .u64 (t.tk : Int), .int .i64 (t.st : Int), .int .i64 (t.ms : Int)]] w fun e w' => e = .returned (.bool true) ∧ Below w.heap.size w w' :=
  equalTrueC w t (some ⟨g1, 0, none⟩) (some ⟨g2, 0, none⟩) A' Ac t.key.length t.val.length cc1 cc2 S.got.kB S.got.vB S.like.kB S.like.vB
theorem LK.lo_ (S : LK w NK NG t A' Ac cc1 cc2 g1 g2 bn bw ln lw) {q G m room : Nat} (hroom : ln.length = room) (hr : room ≤ 1048576) (F : t.Fine) (hg : G < 4294967296) (hc : q < 256) (hm : m = 58 + t.key.length + t.val.length) (hmr : m ≤ room) (hE : ln.take m = Whole.enc ⟨0, 0, 0, G, q, t⟩) :
    Calls Try.prog 29 #[.slice (some ⟨bn, 0, none⟩) m room, .agg #[.slice A' t.key.length cc1, .slice Ac t.val.length cc2, .int .u64 (t.fl : Int), .int .i64 (t.ex : Int), .int .i64 (t.tc : Int), .int .u64 (t.tk : Int), .int .i64 (t.st : Int), .int .i64 (t.ms : Int)], .int .i64 (q : Int), .int .u64 (G : Int)] w fun e w' => e = .returned (.bool true) ∧ Below w.heap.size w w' :=
  laidOutC w bn room m ln S.now hroom hr ⟨0, 0, 0, G, q, t⟩ rfl rfl rfl F hg hc hm hmr hE A' Ac cc1 cc2 S.like.kB S.like.vB
theorem LK.rq_ (S : LK w NK NG t A' Ac cc1 cc2 g1 g2 bn bw ln lw) {m room : Nat} {XN XW : Option Addr} (hroom : ln.length = room) (hroomw : lw.length = room) (hmr : m ≤ room) (hXN : XN = if room = m then some ⟨bn, 0, none⟩ else some ⟨bn, m, none⟩) (hXW : XW = if room = m then some ⟨bw, 0, none⟩ else some ⟨bw, m, none⟩) (hrest : ln.drop m = lw.drop m) :
    Calls Try.prog 26 #[.slice XN (room - m) (room - m), .slice XW (room - m) (room - m)] w fun e w' => e = .returned (.bool true) ∧ w = w' := by
  have hdl : (ln.drop m).length = room - m := by simp; omega
  have := eqTrueC XN XW (room - m) (room - m) (ln.drop m) w (rest_bytes S.now hXN hroom hmr) (by rw [hrest]; exact rest_bytes S.was hXW hroomw hmr)
  rw [hdl] at this
  exact this
/-- Two slices that hold a chunk whole. -/
theorem eq_whole {b b' n : Nat} {l : List UInt8} (h : BB w 5 b l) (h' : BB w 5 b' l) (hl : l.length = n) :
    Calls Try.prog 26 #[.slice (some ⟨b, 0, none⟩) n n, .slice (some ⟨b', 0, none⟩) n n] w fun e w' => e = .returned (.bool true) ∧ w = w' := by
  have := eqTrueC (some ⟨b, 0, none⟩) (some ⟨b', 0, none⟩) n n l w (h.all w.heap.size h.lt) (h'.all w.heap.size h'.lt)
  rw [hl] at this
  exact this
end
end Go.Proofs.Ytdmclekohalolaa.Itm
