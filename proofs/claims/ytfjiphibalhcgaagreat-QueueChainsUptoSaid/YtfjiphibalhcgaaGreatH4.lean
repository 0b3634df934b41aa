/-
  Contracts and lemmas, joined: ClassWiden2, ClassTake, ClassGive, ClassAsk, ItemOpen, ItemNil, ItemSt, ItemEdit, ItemField, BookLend, ItemLegal, ItemFields, ItemLays, ItemSeg, ItemEnc, ClassFillPlain.
-/
import Derived.BigQuiet
import Derived.Test.YtfjiphibalhcgaaGreatRows
import Derived.Deep.DeepCutAuto
import Derived.Deep.RegionLaw
import Derived.Deep.QuietTactic
import Derived.Test.YtfjiphibalhcgaaGreatH1
import Derived.Test.YtfjiphibalhcgaaGreatH2
import Derived.Test.YtfjiphibalhcgaaGreatH3
set_option linter.unusedSimpArgs false
set_option linter.unusedVariables false
set_option linter.unusedSectionVars false
set_option maxRecDepth 100000
/-
  The walk of widen: the lowest free page becomes a class's.
-/
namespace Go.Proofs.YtfjiphibalhcgaaGreat.Cls
open Go.RowKit Base MapG
def freshG (c:Cf) (s:St) (k i m:Nat):St:={ s with own:=upd s.own i true,cls:=upd s.cls i k,gens:=upd s.gens i (fun x => if x < m then s.old i (x * c.sz k) else 0),tkn:=upd s.tkn i (fun _ => false) }
theorem freshG_zero (c:Cf) (s:St) (k i:Nat):freshG c s k i 0 = freshS s k i:=by
  unfold freshG freshS
  simp
theorem freshG_succ (c:Cf) (s:St) (k i m:Nat) : { freshG c s k i m with gens:=upd (freshG c s k i m).gens i (upd ((freshG c s k i m).gens i) m (s.old i (m * c.sz k))) } = freshG c s k i (m + 1):=by
  unfold freshG
  simp only [upd_upd,upd_at]
  congr 1
  congr 1
  funext x
  unfold upd
  by_cases h:x = m
  · subst h; simp
  · rw [if_neg h]
    by_cases h1:x < m
    · show (if x < m then _ else _) = _
      rw [if_pos h1,if_pos (by omega)]
    · show (if x < m then _ else _) = _
      rw [if_neg h1,if_neg (by omega)]
set_option maxHeartbeats 3200000 in
theorem widenYes (w:World) (L:Lay) (c:Conf) (s:St) (bs:List UInt8) (h:SetAt w L c s bs) (g:Good c.cf s) (k i:Nat) (hk:k < c.nc) (hi:i < c.cf.np) (ho:s.own i = false) (hl:∀ j,j < i -> s.own j = true) :
    Calls Tryz.prog 97 #[.pointer (some ⟨L.g,0,none⟩),.int .i64 (k:Int)] w fun e w' => e = .returned (.bool true) /\
      ∃ L',L'.g = L.g /\ L'.gr = L.gr /\ SetAt w' L' c (widenS c.cf s k i) bs /\ Went w w' L L' c s (widenS c.cf s k i):=by
  have H:=Lib.hid h
  have ok:=h.okc
  obtain ⟨n1,n2⟩:=n_pos ok hk
  have hsp : 1 <= s.spare /\ s.spare <= 1024:=by
    rw [g.spare]
    exact ⟨cnt_pos (f:=fun j => !s.own j) hi (by simp [ho]),Nat.le_trans cnt_le ok.npb⟩
  have hfl:=g.short ok hk
  have hrs:s.rs k <= 1024 /\ s.rp k <= 1024:=by
    rw [g.rs k hk,g.rp k hk]
    exact ⟨Nat.le_trans cnt_le ok.npb,Nat.le_trans cnt_le ok.npb⟩
  have JC:=Lib.hid joinC
  have c0:=h.cPs
  have c8:=h.cSizes
  have c9:=h.cPages
  have cz:=h.sz hk
  have P0:=Lib.hid fun j hj => h.p0 (i:=j) hj
  clear h
  have k0:(0:Int) <= (k:Int):=by omega
  have k1:(k:Int) < (c.nc:Int):=by omega
  have hnp:=ok.npb
  have hnc:=ok.ncb
  obtain ⟨b1,b2,b3⟩:=ok.sz k hk
  have b4:=ok.psb
  have b5:=ok.ps
  have q1:((c.cf.ps:Int)).tdiv (c.sz k:Int) = (c.cf.n k:Int):=by rw [Int.tdiv_eq_ediv_of_nonneg (by omega)]; exact (Int.natCast_ediv _ _).symm
  have q2:IntKind.i64.wrap (c.cf.n k:Int) = (c.cf.n k:Int):=IntWalk.i64_in _ (by omega)
  have z0:¬ (c.sz k:Int) = 0:=by have : 64 <= c.sz k:=b1; omega
  replace ok:=Lib.hid ok
  go_enter Tryz.func97,Tryz.ntmps97
  go_wp2
  go_loopw [14] (fun v wr => ∃ j:Nat,v = .int .i64 (j:Int) /\ j <= i /\ w = wr) (fun v _ => i - (intOf v).toNat)
  case atStart => exact ⟨0,rfl,Nat.zero_le _,rfl⟩
  case round =>
    obtain ⟨j,rfl,hj,rfl⟩:=hrel
    have j0:(0:Int) <= (j:Int):=by omega
    have j1:(j:Int) < (c.cf.np:Int):=by omega
    have j2:decide ((j:Int) < (c.cf.np:Int)) = true:=by simp; omega
    have q3:IntKind.i64.wrap ((j:Int) + 1) = (j:Int) + 1:=IntWalk.i64_in _ (by omega)
    have p0:=P0.out j (by omega)
    by_cases hji:j < i
    · rw [hl j hji] at p0
      go_wp2
      go_roundw
      case rel => exact ⟨j + 1,by simp,by omega,trivial⟩
      case measure => simp [intOf] <;> omega
    · obtain rfl:j = i:=by omega
      rw [ho] at p0
      go_upto_region 6 with fail
      go_quiet (fail)
      go_upto_region 7 with fail
      obtain ⟨w0,hw0⟩:∃ w0,w0 = w.drewN nq:=⟨_,rfl⟩
      have H0:SetAt w0 L c s bs:=by rw [hw0]; exact H.out.drewN nq
      have W0:Went w w0 L L c s s:=⟨by rw [hw0]; exact (Only.refl _ _).drewN nq,fun _ h => .inl h⟩
      rw [<- hw0]
      have r0:=H0.p0 hi
      have r2:=H0.p2 hi
      have z1:=H0.fzP (j * 7)
      have z2:=H0.fzP (j * 7 + 2)
      clear c0 c8 c9 cz p0 P0 q1 j2 q3
      replace hw0:=Lib.hid hw0
      replace H0:=Lib.hid H0
      replace W0:=Lib.hid W0
      go_upto_region 8 with fail
      obtain ⟨w1,hw1⟩:∃ w1,w1 = (w0.setCell ⟨L.gp,j * 7,none⟩ (.bool true)).setCell ⟨L.gp,j * 7 + 2,none⟩ (.int .i64 (k:Int)):=⟨_,rfl⟩
      have G1:=(H0.out.pagesB.set j 0 hi (by omega) (.bool true)).set j 2 hi (by omega) (.int .i64 (k:Int))
      rw [Nat.add_zero] at G1
      have o1:Only (· = L.gp) w0 w1:=by
        rw [hw1]
        exact ((Only.refl (· = L.gp) w0).setCell (p:=⟨L.gp,j * 7,none⟩) (fun _ => rfl) _).setCell (p:=⟨L.gp,j * 7 + 2,none⟩) (fun _ => rfl) _
      rw [<- hw1] at G1 ⊢
      have hg1:L.gp < w1.heap.size:=G1.lt
      have r3:=G1.cell j 3 hi (by omega)
      have r4:=G1.cell j 4 hi (by omega)
      have z3:=G1.frozen (j * 7 + 3)
      have z4:=G1.frozen (j * 7 + 4)
      replace hw1:=Lib.hid hw1
      clear r0 r2 z1 z2
      have mU:∀ W:World,(Instr.makeSlice 159 (.int .i64 (c.cf.n k:Int)) (.int .i64 (c.cf.n k:Int))).run Tryz.prog W = .ok (.slice (some ⟨W.heap.size,0,none⟩) (c.cf.n k) (c.cf.n k)) (W.alloc (.cells (madeCells (Value.int .u32 0).cells (c.cf.n k * 1)) 165)) :=
        fun W => eiU.make .i64 .i64 (c.cf.n k) (c.cf.n k) (Nat.le_refl _) (by omega) (by omega) W
      have mB:∀ W:World,(Instr.makeSlice 61 (.int .i64 (c.cf.n k:Int)) (.int .i64 (c.cf.n k:Int))).run Tryz.prog W = .ok (.slice (some ⟨W.heap.size,0,none⟩) (c.cf.n k) (c.cf.n k)) (W.alloc (.cells (madeCells (Value.bool false).cells (c.cf.n k * 1)) 4)) :=
        fun W => eiB.make .i64 .i64 (c.cf.n k) (c.cf.n k) (Nat.le_refl _) (by omega) (by omega) W
      go_cut [] from 47 to 56 (fun wx => ∃ a b,SetAt wx { L with G:=upd L.G j a,T:=upd L.T j b } c (freshS s k j) bs /\ Went w wx L { L with G:=upd L.G j a,T:=upd L.T j b } c s (freshS s k j))
      case first =>
        generalize hA:Obj.cells (madeCells (Value.int .u32 0).cells (c.cf.n k * 1)) 165 = A at *
        generalize hB:Obj.cells (madeCells (Value.bool false).cells (c.cf.n k * 1)) 4 = B at *
        replace hA:=Lib.hid hA
        replace hB:=Lib.hid hB
        replace G1:=Lib.hid G1
        replace o1:=Lib.hid o1
        go_region
        · obtain ⟨w2,hw2⟩:∃ w2,w2 = (w1.setCell ⟨L.gp,j * 7 + 3,none⟩ (.slice (some ⟨w1.heap.size,0,none⟩) (c.cf.n k) (c.cf.n k))).setCell ⟨L.gp,j * 7 + 4,none⟩ (.slice (some ⟨w1.heap.size + 1,0,none⟩) (c.cf.n k) (c.cf.n k)):=⟨_,rfl⟩
          rw [<- hw2]
          have hs2:w2.heap.size = w1.heap.size:=by rw [hw2]; simp
          have G2:=(G1.out.set j 3 hi (by omega) (.slice (some ⟨w1.heap.size,0,none⟩) (c.cf.n k) (c.cf.n k))).set j 4 hi (by omega) (.slice (some ⟨w1.heap.size + 1,0,none⟩) (c.cf.n k) (c.cf.n k))
          rw [<- hw2] at G2
          have o2:Only (· = L.gp) w0 w2:=by rw [hw2]; exact (o1.out.setCell (p:=⟨L.gp,j * 7 + 3,none⟩) (fun _ => rfl) _).setCell (p:=⟨L.gp,j * 7 + 4,none⟩) (fun _ => rfl) _
          have GA:=Grid.made1 w2 165 (.int .u32 0) (c.cf.n k) rfl
          rw [hA.out,hs2] at GA
          have GB:=Grid.made1 (w2.alloc A) 4 (.bool false) (c.cf.n k) rfl
          rw [hB.out,World.size_alloc,hs2] at GB
          have hs:=o1.out.size
          have M:=H0.out.widen k j w1.heap.size (w1.heap.size + 1) hi ho ((o2.alloc A).alloc B).drew (G2.only (((Only.refl (fun _ => False) w2).alloc A).alloc B).drew (fun e => e)) (GA.only ((Only.refl (fun _ => False) _).alloc B).drew (fun e => e)) GB.drew hs (by omega)
          go_wp2_with fail
          go_meet
          exact ⟨_,_,M.1,W0.out.trans M.2⟩
        · obtain ⟨w2,hw2⟩:∃ w2,w2 = (w1.setCell ⟨L.gp,j * 7 + 3,none⟩ (.slice (some ⟨w1.heap.size + 1,0,none⟩) (c.cf.n k) (c.cf.n k))).setCell ⟨L.gp,j * 7 + 4,none⟩ (.slice (some ⟨w1.heap.size,0,none⟩) (c.cf.n k) (c.cf.n k)):=⟨_,rfl⟩
          rw [<- hw2]
          have hs2:w2.heap.size = w1.heap.size:=by rw [hw2]; simp
          have G2:=(G1.out.set j 3 hi (by omega) (.slice (some ⟨w1.heap.size + 1,0,none⟩) (c.cf.n k) (c.cf.n k))).set j 4 hi (by omega) (.slice (some ⟨w1.heap.size,0,none⟩) (c.cf.n k) (c.cf.n k))
          rw [<- hw2] at G2
          have o2:Only (· = L.gp) w0 w2:=by rw [hw2]; exact (o1.out.setCell (p:=⟨L.gp,j * 7 + 3,none⟩) (fun _ => rfl) _).setCell (p:=⟨L.gp,j * 7 + 4,none⟩) (fun _ => rfl) _
          have GB:=Grid.made1 w2 4 (.bool false) (c.cf.n k) rfl
          rw [hB.out,hs2] at GB
          have GA:=Grid.made1 (w2.alloc B) 165 (.int .u32 0) (c.cf.n k) rfl
          rw [hA.out,World.size_alloc,hs2] at GA
          have hs:=o1.out.size
          have M:=H0.out.widen k j (w1.heap.size + 1) w1.heap.size hi ho ((o2.alloc B).alloc A).drew (G2.only (((Only.refl (fun _ => False) w2).alloc B).alloc A).drew (fun e => e)) GA.drew (GB.only ((Only.refl (fun _ => False) _).alloc A).drew (fun e => e)) (by omega) hs
          go_wp2_with fail
          go_meet
          exact ⟨_,_,M.1,W0.out.trans M.2⟩
      case rest =>
        obtain ⟨a,b,H1,W1⟩:=hcut
        have own1:(freshS s k j).own j = true:=upd_at _ _ _
        have cls1:(freshS s k j).cls j = k:=upd_at _ _ _
        have p3:=H1.p3 hi own1
        rw [cls1] at p3
        have GL:({ L with G:=upd L.G j a,T:=upd L.T j b }:Lay).G j = a:=upd_at _ _ _
        rw [GL] at p3
        clear GL
        replace H1:=Lib.hid H1
        replace W1:=Lib.hid W1
        replace own1:=Lib.hid own1
        replace cls1:=Lib.hid cls1
        clear W0 H0 G1 o1 r3 r4 z3 z4 hw1 hg1 mU mB
        go_wp2
        obtain ⟨L1,hL1⟩:∃ L1,L1 = ({ L with G:=upd L.G j a,T:=upd L.T j b }:Lay):=⟨_,rfl⟩
        rw [<- hL1] at H1 W1
        have eg:L1.g = L.g:=by rw [hL1]
        have egp:L1.gp = L.gp:=by rw [hL1]
        have egr:L1.gr = L.gr:=by rw [hL1]
        have egs:L1.gs = L.gs:=by rw [hL1]
        have esc:L1.sc = L.sc:=by rw [hL1]
        have eG:L1.G j = a:=by rw [hL1]; exact upd_at _ _ _
        have eO:L1.O j = L.O j:=by rw [hL1]
        replace hL1:=Lib.hid hL1
        go_loopw [62] (fun v wr => ∃ m:Nat,v = .int .i64 (m:Int) /\ m <= c.cf.n k /\ Hid (SetAt wr L1 c (freshG c.cf s k j m) bs) /\ Hid (Went w wr L L1 c s (freshG c.cf s k j m))) (fun v _ => c.cf.n k - (intOf v).toNat)
        case atStart => exact ⟨0,rfl,Nat.zero_le _,by rw [freshG_zero]; exact H1,by rw [freshG_zero]; exact W1⟩
        case round =>
          obtain ⟨m,rfl,hm,HR,WR⟩:=hrel
          clear H1 W1 p3
          have m0:(0:Int) <= (m:Int):=by omega
          by_cases hmn:m < c.cf.n k
          · have m1:(m:Int) < (c.cf.n k:Int):=by omega
            have m2:decide ((m:Int) < (c.cf.n k:Int)) = true:=by simp; omega
            have hi1:j < c.cf.np:=hi
            have d8:=HR.out.cSizes
            have dz:=HR.out.sz hk
            have p3:=HR.out.p3 hi own1.out
            have p6:=HR.out.p6 hi
            have gz:wr.frozen? ⟨L1.G j,m,none⟩ = false:=(HR.out.gensB hi own1.out).frozen m
            have gc:=HR.out.gen hi own1.out (x:=m) (by show m < c.cf.n (upd s.cls j k j); rw [upd_at]; exact hmn)
            have hB:m * c.sz k <= 16384 * 1048576:=Nat.mul_le_mul (by omega) (Nat.le_trans b2 b4)
            have hlk:=(HR.out.drew.oldB hi).look (m * c.sz k) (by rw [M63_eq]; omega)
            have hcl:(freshG c.cf s k j m).cls j = k:=upd_at _ _ _
            rw [hcl,eG,egp] at p3
            rw [egp,eO] at p6
            rw [eG] at gz gc
            rw [eg,egs,esc] at d8
            rw [egs] at dz
            rw [eO] at hlk
            have qb:IntKind.i64.wrap ((m:Int) * (c.sz k:Int)) = ((m * c.sz k:Nat):Int):=by rw [Int.natCast_mul]; exact IntWalk.i64_in _ (by rw [<- Int.natCast_mul]; omega)
            have q3:IntKind.i64.wrap ((m:Int) + 1) = (m:Int) + 1:=IntWalk.i64_in _ (by omega)
            have hold:(freshG c.cf s k j m).old j (m * c.sz k) = s.old j (m * c.sz k):=rfl
            rw [hold] at hlk
            have HN:SetAt (wr.drew.setCell ⟨a,m,none⟩ (.int .u32 (s.old j (m * c.sz k):Int))) L1 c (freshG c.cf s k j (m + 1)) bs:=by
              rw [<- freshG_succ, <- eG]
              exact HR.out.drew.setGen j m (s.old j (m * c.sz k)) hi own1.out (by show m < c.cf.n (upd s.cls j k j); rw [upd_at]; exact hmn)
            have WN:Went w (wr.drew.setCell ⟨a,m,none⟩ (.int .u32 (s.old j (m * c.sz k):Int))) L L1 c s (freshG c.cf s k j (m + 1)):=by
              have hb:L1.blk c.cf (freshG c.cf s k j m) (.gens j) = some a:=by
                show (if j < c.cf.np /\ (freshG c.cf s k j m).own j = true then some (L1.G j) else none) = some a
                rw [if_pos ⟨hi,own1.out⟩,eG]
              exact WR.out.trans ⟨(Only.refl _ wr).drew.setCell (p:=⟨a,m,none⟩) (fun _ => ⟨.gens j,hb⟩) _,fun b ⟨p,hp⟩ => .inl ⟨p,by cases p <;> exact hp⟩⟩
            replace HN:=Lib.hid HN
            replace WN:=Lib.hid WN
            generalize hV:s.old j (m * c.sz k) = V at *
            generalize m * c.sz k = M at *
            clear hold hB hV
            go_upto_region 12 with fail
            go_still_tail 20,(by kernel_rfl)
            change wpList _ _ _ _ _ wr.drew
            go_wp2
            go_roundw
            case rel => exact ⟨m + 1,by simp,by omega,HN,WN⟩
            case measure => simp [intOf] <;> omega
          · obtain rfl:m = c.cf.n k:=by omega
            have m2:decide ((c.cf.n k:Int) < (c.cf.n k:Int)) = false:=by simp
            have d10:=HR.out.cRows
            have r2:=HR.out.r2 hk
            have z2:=HR.out.fzR (k * 4 + 2)
            rw [eg,egr] at d10
            rw [egr] at r2 z2
            have hrp:(freshG c.cf s k j (c.cf.n k)).rp k = s.rp k:=rfl
            rw [hrp] at r2
            have q4:IntKind.i64.wrap ((s.rp k:Int) + 1) = (s.rp k:Int) + 1:=IntWalk.i64_in _ (by omega)
            go_upto_region 15 with fail
            obtain ⟨w5,hw5⟩:∃ w5,w5 = wr.setCell ⟨L.gr,k * 4 + 2,none⟩ (.int .i64 ((s.rp k:Int) + 1)):=⟨_,rfl⟩
            rw [<- hw5]
            have H5:SetAt w5 L1 c (widen1 c.cf s k j) bs:=by
              rw [hw5, <- egr,show ((s.rp k:Int) + 1) = ((s.rp k + 1:Nat):Int) by omega]
              exact HR.out.setRp k (s.rp k + 1) hk
            have W5:Went w w5 L L1 c s (widen1 c.cf s k j):=by
              rw [hw5]
              exact WR.out.trans ⟨(Only.refl _ wr).setCell (p:=⟨L.gr,k * 4 + 2,none⟩) (fun _ => ⟨.rows,by rw [<- egr]; rfl⟩) _,fun b ⟨p,hp⟩ => .inl ⟨p,by cases p <;> exact hp⟩⟩
            have J5:=Lib.hid (JC.out w5 L1 c (widen1 c.cf s k j) bs H5 j k hi (upd_at _ _ _) (upd_at _ _ _) hk hfl (by show s.rs k < _; omega))
            clear d10 r2 z2 hrp q4 HR WR H5 JC
            replace W5:=Lib.hid W5
            replace hw5:=Lib.hid hw5
            go_wp2_with fail
            rw [<- eg]
            refine J5.out.mono ?_
            rintro e w6 ⟨rfl,v,H6,W6⟩
            have W7:=W5.out.trans W6
            have d11:w6.cell? ⟨L.g,11,none⟩ = some (.int .i64 ((joinS c.cf (widen1 c.cf s k j) j).spare:Int)):=by rw [<- eg]; exact H6.cSpare
            have z11:w6.frozen? ⟨L.g,11,none⟩ = false:=by rw [<- eg]; exact H6.fz 11
            have hsp2:(joinS c.cf (widen1 c.cf s k j) j).spare = s.spare:=rfl
            rw [hsp2] at d11
            have q5:IntKind.i64.wrap ((s.spare:Int) - 1) = ((s.spare - 1:Nat):Int):=by rw [IntWalk.i64_in _ (by omega)]; omega
            have H8:Hid (SetAt (w6.setCell ⟨L.g,11,none⟩ (.int .i64 ((s.spare - 1:Nat):Int))) { L1 with F:=upd L1.F k v } c (widenS c.cf s k j) bs):=by rw [<- eg]; exact Lib.hid (H6.setSpare (s.spare - 1))
            have W8:Hid (Went w (w6.setCell ⟨L.g,11,none⟩ (.int .i64 ((s.spare - 1:Nat):Int))) L { L1 with F:=upd L1.F k v } c s (widenS c.cf s k j)) :=
              by rw [<- eg]; exact Lib.hid (W7.trans ⟨(Only.refl _ w6).setCell (p:=⟨L1.g,11,none⟩) (fun _ => ⟨.head,rfl⟩) _,fun b ⟨p,hp⟩ => .inl ⟨p,by cases p <;> exact hp⟩⟩)
            have eg2:Hid (L1.g = L.g /\ L1.gr = L.gr):=Lib.hid ⟨eg,egr⟩
            generalize s.spare - 1 = sp at *
            clear J5 H6 W6 W7 W5 hsp2
            go_wp2
            go_ret
            exact ⟨rfl, { L1 with F:=upd L1.F k v },eg2.out.1,eg2.out.2,H8.out,W8.out⟩
theorem widenNo (w:World) (L:Lay) (c:Conf) (s:St) (bs:List UInt8) (h:SetAt w L c s bs) (k:Nat) (hl:∀ j,j < c.cf.np -> s.own j = true) :
    Calls Tryz.prog 97 #[.pointer (some ⟨L.g,0,none⟩),.int .i64 (k:Int)] w fun e w' => e = .returned (.bool false) /\ w = w':=by
  have c9:=h.cPages
  have P0:=Lib.hid fun j hj => h.p0 (i:=j) hj
  have hnp:=h.okc.npb
  clear h
  go_enter Tryz.func97,Tryz.ntmps97
  go_wp2
  go_loopw [14] (fun v wr => ∃ j:Nat,v = .int .i64 (j:Int) /\ j <= c.cf.np /\ w = wr) (fun v _ => c.cf.np - (intOf v).toNat)
  case atStart => exact ⟨0,rfl,Nat.zero_le _,rfl⟩
  case round =>
    obtain ⟨j,rfl,hj,rfl⟩:=hrel
    have j0:(0:Int) <= (j:Int):=by omega
    by_cases hji:j < c.cf.np
    · have j1:(j:Int) < (c.cf.np:Int):=by omega
      have j2:decide ((j:Int) < (c.cf.np:Int)) = true:=by simp; omega
      have q3:IntKind.i64.wrap ((j:Int) + 1) = (j:Int) + 1:=IntWalk.i64_in _ (by omega)
      have p0:=P0.out j (by omega)
      rw [hl j hji] at p0
      go_wp2
      go_roundw
      case rel => exact ⟨j + 1,by simp,by omega,trivial⟩
      case measure => simp [intOf] <;> omega
    · obtain rfl:j = c.cf.np:=by omega
      have j2:decide ((c.cf.np:Int) < (c.cf.np:Int)) = false:=by simp
      go_wp2
      go_ret
      exact ⟨rfl,rfl⟩
def lowFrom (own:Nat -> Bool):Nat -> Nat -> Option Nat
 | 0,_ => none
 | n + 1,i => if own i then lowFrom own n (i + 1) else some i
def low (d:Cf) (s:St):Option Nat:=lowFrom s.own d.np 0
theorem lowFrom_some {own:Nat -> Bool}:∀ {n i j:Nat},lowFrom own n i = some j -> i <= j /\ j < i + n /\ own j = false /\ ∀ x,i <= x -> x < j -> own x = true
 | 0,i,j,h => by cases h
 | n + 1,i,j,h => by
  unfold lowFrom at h
  split at h
  ·rename_i h1
   obtain ⟨a,b,e,f⟩:=lowFrom_some h
   refine ⟨by omega,by omega,e,fun x hx hj => ?_⟩
   rcases Nat.lt_or_ge i x with h2 | h2
   ·exact f x h2 hj
   ·obtain rfl:x = i:=by omega
    exact h1
  ·rename_i h1
   injection h with h
   subst h
   exact ⟨by omega,by omega,by simpa using h1,fun x a b => by omega⟩
theorem lowFrom_none {own:Nat -> Bool}:∀ {n i:Nat},lowFrom own n i = none -> ∀ x,i <= x -> x < i + n -> own x = true
 | 0,i,_,x,h1,h2 => by omega
 | n + 1,i,h,x,h1,h2 => by
  unfold lowFrom at h
  split at h
  ·rename_i h3
   rcases Nat.lt_or_ge i x with h4 | h4
   ·exact lowFrom_none h x h4 (by omega)
   ·obtain rfl:x = i:=by omega
    exact h3
  ·cases h
theorem low_some {d:Cf} {s:St} {i:Nat} (h:low d s = some i):i < d.np /\ s.own i = false /\ ∀ j,j < i -> s.own j = true:=by
 obtain ⟨-,a,b,e⟩:=lowFrom_some h
 exact ⟨by omega,b,fun j hj => e j (by omega) hj⟩
theorem low_none {d:Cf} {s:St} (h:low d s = none):∀ j,j < d.np -> s.own j = true:=fun j hj => lowFrom_none h j (by omega) (by omega)
def roomS (d:Cf) (s:St) (k:Nat):Option St :=
 match s.free k with
 | [] => match low d s with
  | some i => some (widenS d s k i)
  | none => none
 | _ :: _ => some s
theorem freesTo_ne {d:Cf} {s:St} {i:Nat}:∀ {n:Nat},1 <= n -> (∀ x,s.tkn i x = false) -> freesTo d s i n ≠ []
 | 0,h,_ => by omega
 | n + 1,_,h => by unfold freesTo; rw [if_neg (by rw [h]; simp)]; simp
theorem widen_free {d:Cf} (ok:d.Ok) {s:St} {k i:Nat} (hk:k < d.nc):(widenS d s k i).free k ≠ []:=by
 have hc:(widen1 d s k i).cls i = k:=upd_at _ _ _
 have hne:freesTo d (widen1 d s k i) i (d.n k) ≠ []:=freesTo_ne (n_pos ok hk).1 fun x => by show upd s.tkn i (fun _ => false) i x = false; rw [upd_at]
 show upd (widen1 d s k i).free ((widen1 d s k i).cls i) ((widen1 d s k i).free ((widen1 d s k i).cls i) ++ frees d (widen1 d s k i) i) k ≠ []
 rw [hc,upd_at]
 unfold frees
 rw [hc]
 intro e
 exact hne (List.append_eq_nil_iff.1 e).2
theorem room_good {d:Cf} (ok:d.Ok) {s s1:St} (g:Good d s) {k:Nat} (hk:k < d.nc) (h:roomS d s k = some s1):Good d s1 /\ ∃ l p,s1.free k = l ++ [p]:=by
 have key:∀ l:List Nat,l ≠ [] -> ∃ l' p,l = l' ++ [p]:=fun l hl => ⟨l.dropLast,l.getLast hl,(List.dropLast_concat_getLast hl).symm⟩
 unfold roomS at h
 split at h
 ·split at h
  ·rename_i i hlow
   injection h with h
   subst h
   obtain ⟨a,b, -⟩:=low_some hlow
   exact ⟨g.widen ok hk a b,key _ (widen_free ok hk)⟩
  ·cases h
 ·rename_i a l he
  injection h with h
  subst h
  exact ⟨g,key _ (by rw [he]; simp)⟩
theorem own_drop {w:World} {N n cap:Nat} {A:Option Addr} {e:TypeId} {xs:List Value} {x:Value} (h:w.ownsRow N e 1 (.slice A (n + 1) cap) (n + 1) (xs ++ [x])):w.ownsRow N e 1 (.slice A n cap) n xs:=by
 have hl:=h.1
 rw [List.length_append,List.length_singleton] at hl
 have hx:xs.length = n:=by omega
 refine ⟨by omega,?_⟩
 rcases h.2 with ⟨h1,h2⟩ | ⟨g,cap',cur,hv,hB,hg,h1,h2,h3,h4⟩
 ·cases h2
 ·injection hv with e1 e2 e3
  subst e1 e3
  refine .inr ⟨g,cap,cur,rfl,hB,hg,by omega,h2,h3,?_⟩
  have h5:=congrArg (List.take n) h4
  rw [List.take_take,List.take_append_of_le_length (by omega),List.take_of_length_le (by omega:xs.length <= n)] at h5
  rw [<- h5]
  congr 1
  omega
theorem there_of {d:Cf} (ok:d.Ok) {k i x:Nat} (hk:k < d.nc) (hi:i < d.np) (hx:x < d.n k) (a n:Nat) (hn:a + n <= 64):Arena.There d.ps (d.ps * d.np) ((i * d.ps + x * d.sz k + a:Nat):Int) (n:Int):=by
 obtain ⟨e1,e2, -,e4, -⟩:=place_of ok (i:=i) hk hx
 have h64:=(ok.sz k hk).1
 have h1:(i + 1) * d.ps <= d.np * d.ps:=Nat.mul_le_mul_right _ hi
 rw [Nat.succ_mul,Nat.mul_comm d.np] at h1
 have hps:=ok.ps
 have hm:(i * d.ps + x * d.sz k + a) % d.ps = x * d.sz k + a \/ n = 0:=by
  rcases Nat.eq_zero_or_pos n with h0 | h0
  ·exact .inr h0
  ·left
   rw [Nat.add_assoc,Nat.mul_comm i,Nat.mul_add_mod]
   exact Nat.mod_eq_of_lt (by omega)
 refine ⟨by omega,by omega,by omega,?_⟩
 rcases hm with hm | hm
 ·right
  rw [<- Int.natCast_emod,hm]
  omega
 ·left; omega
theorem findN_some {d:Cf} {s:St} {H i x p:Nat} (g:Good d s) (h:findN d s H = some (i,x,p)) :
  i < d.np /\ s.own i = true /\ x < d.n (s.cls i) /\ s.tkn i x = true /\ s.gens i x = H / 4294967296 /\ p = i * d.ps + x * d.sz (s.cls i) /\ p = (H % 4294967296 - 1) * 8:=by
 unfold findN at h
 generalize hP:(H % 4294967296 - 1) * 8 = P at *
 split at h
 ·cases h
 ·cases hc:chunkN d s (P:Int) with
  | none => rw [hc] at h; cases h
  | some r =>
   obtain ⟨j,y⟩:=r
   rw [hc] at h
   simp only at h
   split at h
   ·rename_i hh
    injection h with h
    injection h with e1 h
    injection h with e2 e3
    subst e1 e2 e3
    unfold chunkN at hc
    split at hc
    ·split at hc
     ·rename_i h1 h2
      injection hc with hc
      injection hc with e1 e2
      rw [Int.toNat_natCast] at e1 e2 h2
      obtain ⟨a,b,e⟩:=h2
      rw [e1] at a b e e2
      rw [e2] at e
      refine ⟨g.top j a,a,e,hh.1,hh.2,?_,rfl⟩
      have h3:=Nat.div_add_mod P d.ps
      have h4:=Nat.div_add_mod (P % d.ps) (d.sz (s.cls j))
      rw [e2,b,Nat.add_zero] at h4
      rw [e1, <- h4,Nat.mul_comm d.ps,Nat.mul_comm (d.sz _)] at h3
      exact h3.symm
     ·cases hc
    ·cases hc
   ·cases h
section
variable (w:World) (L:Lay) (c:Conf) (s:St) (bs:List UInt8) (h:SetAt w L c s bs)
include h
omit h in
omit h in
def atV (s:St):Option (Nat × Nat × Nat) -> Value
 | some (i,_,p) => .tuple #[.int .i64 (p:Int),.int .i64 (s.cls i:Int),.int .i64 0]
 | none => .tuple #[.int .i64 0,.int .i64 0,.int .i64 20]
theorem atC (g:Good c.cf s) (H:Nat) (hH:H < 18446744073709551616):Calls Tryz.prog 73 #[.pointer (some ⟨L.g,0,none⟩),.int .u64 (H:Int)] w fun e w' => e = .returned (atV s (findN c.cf s H)) /\ ∃ m,w.drewN m = w':=by
 have FC:=findC w L c s bs h g H hH
 cases hf:findN c.cf s H with
 | none =>
  rw [hf] at FC
  unfold findV at FC
  unfold atV
  simp only at FC ⊢
  replace FC:=Lib.hid FC
  clear h g hf
  go_enter Tryz.func73,Tryz.ntmps73
  go_wp2_with fail
  refine FC.out.mono ?_
  rintro e w' ⟨rfl,m,rfl⟩
  go_wp2
  go_ret3
  exact ⟨rfl,_,rfl⟩
 | some r =>
  obtain ⟨i,x,p⟩:=r
  rw [hf] at FC
  unfold findV at FC
  unfold atV
  simp only at FC ⊢
  obtain ⟨h1,h2, -⟩:=findN_some g hf
  have p2:=fun m => (h.drewN m).p2 h1
  replace FC:=Lib.hid FC
  clear h g hf h1 h2
  go_enter Tryz.func73,Tryz.ntmps73
  go_wp2_with fail
  refine FC.out.mono ?_
  rintro e w' ⟨rfl,m,rfl⟩
  have p2:=p2 m
  go_upto_region 4 with fail
  go_quiet (fail)
  go_wp2
  go_ret3
  exact ⟨rfl,by repeat (first | exact drew_here _ | refine drew_more ?_)⟩
end
end Go.Proofs.YtfjiphibalhcgaaGreat.Cls
/-
  item.open and item.edit.
-/
namespace Go.Proofs.YtfjiphibalhcgaaGreat.Itm
open Go.RowKit Base Arena Cls
theorem results_cell2 {P:Program} {fn:Func} {p u:Tmp} {ty:TypeId} (h:fn.results = #[.cell p ty,.tmp u]) (tmps:Array Value) (w:World) (g:Nat) (t:TypeId) (cs:Array Value) (fr:Nat × Nat) (d:TypeDesc) (v:Value)
  (hp:tmps.getD p undef = .pointer (some ⟨g,0,none⟩)) (hv:tmps.getD u undef = v) (hg:w.heap[g]? = some (.cells cs t fr))
  (hu:P.underlying ty = some d) (hd:(match d with | .struct _ | .array _ _ => true | _ => false) = true) (hi:(P.info? ty).map (·.size) = some cs.size) :
  (results fn tmps).run P w = .ok (.tuple #[.agg cs,v]) w:=by
 rw [results_cell_tmp h,hp,hv]
 simp [asAddr,run_loadVar_row w g t ty cs fr d hg hu hd hi]
def zc:Array Value:=#[.pointer none,.int .i64 0,.int .i64 0,.int .i64 0]
theorem zc_eq:zc = #[.pointer none,.int .i64 0,.int .i64 0,.int .i64 0]:=rfl
theorem blk_set4 {w:World} {N:Nat} {t:TypeId} {p q r u:Value} (B:Blk w N t #[p,q,r,u]) (a b c d:Value) :
  Blk ((((w.setCell ⟨N,0,none⟩ a).setCell ⟨N,1,none⟩ b).setCell ⟨N,2,none⟩ c).setCell ⟨N,3,none⟩ d) N t #[a,b,c,d]:=by
 have:=(((B.set_ 0 a).set_ 1 b).set_ 2 c).set_ 3 d
 exact this
theorem blk_setz {w:World} {N:Nat} {t:TypeId} (B:Blk w N t zc) (a b c d:Value) :
  Blk ((((w.setCell ⟨N,0,none⟩ a).setCell ⟨N,1,none⟩ b).setCell ⟨N,2,none⟩ c).setCell ⟨N,3,none⟩ d) N t #[a,b,c,d]:=blk_set4 (show Blk w N t #[.pointer none,.int .i64 0,.int .i64 0,.int .i64 0] from B) a b c d
theorem below_set4 {w v:World} {N:Nat} (h:Below N w v) (a b c d:Value) :
  Below N w ((((v.setCell ⟨N,0,none⟩ a).setCell ⟨N,1,none⟩ b).setCell ⟨N,2,none⟩ c).setCell ⟨N,3,none⟩ d) :=
 (((h.setCell (p:=⟨N,0,none⟩) (Nat.le_refl _) a).setCell (p:=⟨N,1,none⟩) (Nat.le_refl _) b).setCell (p:=⟨N,2,none⟩) (Nat.le_refl _) c).setCell (p:=⟨N,3,none⟩) (Nat.le_refl _) d
section
variable (w:World) (L:Lay) (c:Conf) (s:St) (bs:List UInt8) (h:SetAt w L c s bs) (g:Cls.Good c.cf s)
include h g
theorem openNo (H:Nat) (hH:H < 18446744073709551616) (hf:findN c.cf s H = none):Calls Tryz.prog 104 #[.pointer (some ⟨L.g,0,none⟩),.int .u64 (H:Int)] w fun e w' => e = .returned (.tuple #[.agg zc,.int .i64 20]) /\ Below w.heap.size w w':=by
 obtain ⟨w1,hw1⟩:∃ w1,w1 = w.alloc (.cells zc 171):=⟨_,rfl⟩
 have B1:Blk w1 w.heap.size 171 zc:=by rw [hw1]; exact Blk.new w _ _
 have b1:Below w.heap.size w w1:=by rw [hw1]; exact (Below.refl _ _).alloc (Nat.le_refl _) _
 have h1:SetAt w1 L c s bs:=by rw [hw1]; exact h.alloc _
 have AC:=atC w1 L c s bs h1 g H hH
 rw [hf] at AC
 unfold atV at AC
 simp only at AC
 have xs:∀ {u:World},Blk u w.heap.size 171 zc -> u.cell? ⟨w.heap.size,0,none⟩ = some (.pointer none) /\ u.cell? ⟨w.heap.size,1,none⟩ = some (.int .i64 0) /\ u.cell? ⟨w.heap.size,2,none⟩ = some (.int .i64 0) /\ u.cell? ⟨w.heap.size,3,none⟩ = some (.int .i64 0):=fun B => ⟨B.cell 0,B.cell 1,B.cell 2,B.cell 3⟩
 obtain ⟨x0,x1,x2,x3⟩:=xs B1
 have y:=B1.frozen
 clear xs
 rw [zc_eq] at hw1
 replace hw1:=Lib.hid hw1
 replace b1:=Lib.hid b1
 replace AC:=Lib.hid AC
 replace B1:=Lib.hid B1
 clear h1 hf h g
 generalize hN:w.heap.size = N at *
 replace hN:=Lib.hid hN
 go_enter Tryz.func104,Tryz.ntmps104
 go_upto_region 1 with fail
 rw [hN.out, <- hw1.out]
 go_wp2_with fail
 refine AC.out.mono ?_
 rintro e w' ⟨rfl,m,rfl⟩
 go_wp2_with fail
 exact bodyPost_ret (results_cell2 (P:=Tryz.prog) rfl _ _ N 171 _ (0,0) _ _ rfl rfl (blk_setz (B1.out.drewN m) _ _ _ _) Tryz.underlying171 rfl (by kernel_rfl)) rfl ⟨rfl,below_set4 (below_drew b1.out m) _ _ _ _⟩
theorem openYes (H:Nat) (hH:H < 18446744073709551616) (i x p:Nat) (hf:findN c.cf s H = some (i,x,p)) (hk:s.cls i < c.nc):Calls Tryz.prog 104 #[.pointer (some ⟨L.g,0,none⟩),.int .u64 (H:Int)] w fun e w' => e = .returned (.tuple #[.agg (kv L.ga p (s.cls i) (c.sz (s.cls i))),.int .i64 0]) /\ Below w.heap.size w w':=by
 obtain ⟨w1,hw1⟩:∃ w1,w1 = w.alloc (.cells zc 171):=⟨_,rfl⟩
 have B1:Blk w1 w.heap.size 171 zc:=by rw [hw1]; exact Blk.new w _ _
 have b1:Below w.heap.size w w1:=by rw [hw1]; exact (Below.refl _ _).alloc (Nat.le_refl _) _
 have h1:SetAt w1 L c s bs:=by rw [hw1]; exact h.alloc _
 have AC:=atC w1 L c s bs h1 g H hH
 rw [hf] at AC
 unfold atV at AC
 simp only at AC
 have xs:∀ {u:World},Blk u w.heap.size 171 zc -> u.cell? ⟨w.heap.size,0,none⟩ = some (.pointer none) /\ u.cell? ⟨w.heap.size,1,none⟩ = some (.int .i64 0) /\ u.cell? ⟨w.heap.size,2,none⟩ = some (.int .i64 0) /\ u.cell? ⟨w.heap.size,3,none⟩ = some (.int .i64 0):=fun B => ⟨B.cell 0,B.cell 1,B.cell 2,B.cell 3⟩
 obtain ⟨x0,x1,x2,x3⟩:=xs B1
 have y:=B1.frozen
 clear xs
 have RC:=Lib.hid (fun m => arenaC (w1.drewN m) L c s bs (h1.drewN m))
 have CC:=fun m => chunkSizeC (w1.drewN m) L c s bs (h1.drewN m) (s.cls i:Int)
 simp only [if_pos (show (0:Int) <= (s.cls i:Int) /\ (s.cls i:Int) < (c.nc:Int) by omega),Int.toNat_natCast] at CC
 replace CC:=Lib.hid CC
 rw [zc_eq] at hw1
 rw [kv_eq]
 replace hw1:=Lib.hid hw1
 replace b1:=Lib.hid b1
 replace AC:=Lib.hid AC
 replace B1:=Lib.hid B1
 generalize c.sz (s.cls i) = S at *
 generalize s.cls i = K at *
 clear h1 hf h g
 generalize hN:w.heap.size = N at *
 replace hN:=Lib.hid hN
 go_enter Tryz.func104,Tryz.ntmps104
 go_upto_region 1 with fail
 rw [hN.out, <- hw1.out]
 go_wp2_with fail
 refine AC.out.mono ?_
 rintro e w' ⟨rfl,m,rfl⟩
 go_wp2_with fail
 refine (RC.out m).mono ?_
 rintro e w' ⟨rfl,rfl⟩
 go_wp2_with fail
 refine (CC.out m).mono ?_
 rintro e w' ⟨rfl,rfl⟩
 go_wp2
 exact bodyPost_ret (results_cell2 (P:=Tryz.prog) rfl _ _ N 171 _ (0,0) _ _ rfl rfl (blk_setz (B1.out.drewN m) _ _ _ _) Tryz.underlying171 rfl (by kernel_rfl)) rfl ⟨rfl,below_set4 (below_drew b1.out m) _ _ _ _⟩
end
structure Chk (c:Conf) (s:St) (len H i x p k n:Nat):Prop where
 hH:H < 18446744073709551616
 hf:findN c.cf s H = some (i,x,p)
 hk:s.cls i = k
 kn:k < c.nc
 sz:c.sz k = n
 ck:Ck c.cf.ps len p n
 n64 : 64 <= n
 nb:n <= 1048576
 sm:len <= 1073741824
 k62:k < 62
theorem Chk.of {w:World} {L:Lay} {c:Conf} {s:St} {bs:List UInt8} (h:SetAt w L c s bs) (g:Cls.Good c.cf s) {H i x p:Nat} (hH:H < 18446744073709551616) (hf:findN c.cf s H = some (i,x,p)) :
  Chk c s bs.length H i x p (s.cls i) (c.sz (s.cls i)):=by
 obtain ⟨a1,a2,a3,a4,a5,a6,a7⟩:=findN_some g hf
 have ok:=h.okc
 have kn:=g.cls i a1 a2
 obtain ⟨p1,p2,p3,p4,p5⟩:=place_of (i:=i) ok kn a3
 obtain ⟨z1,z2,z3⟩:=ok.sz _ kn
 have hz:c.cf.sz (s.cls i) = c.sz (s.cls i):=rfl
 have hn:c.cf.nc = c.nc:=rfl
 have hb:c.cf.ps * c.cf.np <= 1048576 * 1024:=Nat.mul_le_mul ok.psb ok.npb
 have h62:=ok.ncb
 have hpb:=ok.psb
 have hm:(i + 1) * c.cf.ps <= c.cf.np * c.cf.ps:=Nat.mul_le_mul_right _ a1
 rw [Nat.succ_mul,Nat.mul_comm c.cf.np] at hm
 rw [hz] at z1 z2 p1 p2 p4 a6
 rw [hn] at kn h62
 refine ⟨hH,hf,rfl,kn,rfl,⟨?_,?_⟩,z1,by omega,by rw [h.len]; omega,by omega⟩
 ·rw [h.len]; omega
 ·rw [a6,p2]; omega
theorem openK (w:World) (L:Lay) (c:Conf) (s:St) (bs:List UInt8) (h:SetAt w L c s bs) (g:Cls.Good c.cf s) {H i x p k n:Nat} (K:Chk c s bs.length H i x p k n) :
  Calls Tryz.prog 104 #[.pointer (some ⟨L.g,0,none⟩),.int .u64 (H:Int)] w fun e w' => e = .returned (.tuple #[.agg (kv L.ga p k n),.int .i64 0]) /\ Below w.heap.size w w':=by
 have hk:s.cls i < c.nc:=by rw [K.hk]; exact K.kn
 have:=openYes w L c s bs h g H K.hH i x p K.hf hk
 rw [K.hk,K.sz] at this
 exact this
structure OS (B:Nat) (w0 w:World) (L:Lay) (c:Conf) (s:St) (bs:List UInt8) (N p k n:Nat):Prop where
 set:SetAt w L c s bs
 blk:Blk w N 171 (kv L.ga p k n)
 below:Below B w0 w
 hB:B <= w.heap.size
section
variable {B:Nat} {w0 w w':World} {L:Lay} {c:Conf} {s:St} {bs:List UInt8} {N H i x p k n:Nat}
theorem OS.op {v:World} (p k n:Nat) (h:SetAt v L c s bs) (b':Below v.heap.size v w) (b:Below B w0 w) (hB:B <= w.heap.size) :
  OS B w0 (w.alloc (.cells #[.pointer (some ⟨L.ga,0,none⟩),.int .i64 (p:Int),.int .i64 (k:Int),.int .i64 (n:Int)] 171)) L c s bs w.heap.size p k n :=
 ⟨(h.kept fun d hd => b'.block d (h.lt hd)).alloc _,by rw [<- kv_eq]; exact Blk.new w _ _,b.alloc hB _,by rw [World.size_alloc]; omega⟩
theorem OS.step (S:OS B w0 w L c s bs N p k n) (b:Below w.heap.size w w'):OS B w0 w' L c s bs N p k n :=
 ⟨S.set.kept fun d hd => b.block d (S.set.lt hd),S.blk.below b S.blk.lt,S.below.trans (b.mono S.hB),Nat.le_trans S.hB b.size⟩
theorem OS.drewN (S:OS B w0 w L c s bs N p k n) (m:Nat):OS B w0 (w.drewN m) L c s bs N p k n :=
 ⟨S.set.drewN m,S.blk.drewN m,below_drew S.below m,S.hB⟩
theorem OS.cells (S:OS B w0 w L c s bs N p k n):w.cell? ⟨N,0,none⟩ = some (.pointer (some ⟨L.ga,0,none⟩)) /\ w.cell? ⟨N,1,none⟩ = some (.int .i64 (p:Int)) /\ w.cell? ⟨N,2,none⟩ = some (.int .i64 (k:Int)) /\ w.cell? ⟨N,3,none⟩ = some (.int .i64 (n:Int)) :=
 ⟨S.blk.cell 0,S.blk.cell 1,S.blk.cell 2,S.blk.cell 3⟩
theorem OS.at_ (S:OS B w0 w L c s bs N p k n):At w L.ga L.ha c.cf.ps bs:=S.set.arena S.set.okc
theorem OS.key (S:OS B w0 w L c s bs N p k n) (K:Chk c s bs.length H i x p k n) {V:Nat} (hV:V = rd bs (p + 44) 1) :
  Calls Tryz.prog 114 #[.agg #[.pointer (some ⟨L.ga,0,none⟩),.int .i64 (p:Int),.int .i64 (k:Int),.int .i64 (n:Int)]] w fun e w' => e = .returned (.int .i64 (V:Int)) /\ Below w.heap.size w w':=by
 rw [hV]
 exact keyC w L.ga L.ha c.cf.ps bs S.at_ p k n K.ck (by have:=K.n64; omega)
theorem OS.value (S:OS B w0 w L c s bs N p k n) (K:Chk c s bs.length H i x p k n) {V:Nat} (hV:V = rd bs (p + 48) 4) :
  Calls Tryz.prog 134 #[.agg #[.pointer (some ⟨L.ga,0,none⟩),.int .i64 (p:Int),.int .i64 (k:Int),.int .i64 (n:Int)]] w fun e w' => e = .returned (.int .i64 (V:Int)) /\ Below w.heap.size w w':=by
 rw [hV]
 exact valueC w L.ga L.ha c.cf.ps bs S.at_ p k n K.ck (by have:=K.n64; omega)
end
theorem zc_cells {u:World} {N:Nat} (B:Blk u N 171 zc):u.cell? ⟨N,0,none⟩ = some (.pointer none) /\ u.cell? ⟨N,1,none⟩ = some (.int .i64 0) /\ u.cell? ⟨N,2,none⟩ = some (.int .i64 0) /\ u.cell? ⟨N,3,none⟩ = some (.int .i64 0):=⟨B.cell 0,B.cell 1,B.cell 2,B.cell 3⟩
section
variable (w:World) (L:Lay) (c:Conf) (s:St) (bs:List UInt8) (h:SetAt w L c s bs) (g:Cls.Good c.cf s)
include h g
theorem editYes {H i x p k n:Nat} (K:Chk c s bs.length H i x p k n) (h44:rd bs (p + 44) 1 ≠ 0):Calls Tryz.prog 117 #[.pointer (some ⟨L.g,0,none⟩),.int .u64 (H:Int)] w fun e w' => e = .returned (.tuple #[.agg (kv L.ga p k n),.int .i64 0]) /\ Below w.heap.size w w':=by
 obtain ⟨w1,hw1⟩:∃ w1,w1 = w.alloc (.cells zc 171):=⟨_,rfl⟩
 have B1:Blk w1 w.heap.size 171 zc:=by rw [hw1]; exact Blk.new w _ _
 have b1:Below w.heap.size w w1:=by rw [hw1]; exact (Below.refl _ _).alloc (Nat.le_refl _) _
 have s1:w1.heap.size = w.heap.size + 1:=by rw [hw1]; exact World.size_alloc _ _
 have h1:SetAt w1 L c s bs:=by rw [hw1]; exact h.alloc _
 have OC:=openK w1 L c s bs h1 g K
 rw [kv_eq] at OC
 obtain ⟨V,hV⟩:∃ V,V = rd bs (p + 44) 1:=⟨_,rfl⟩
 have d1:decide ((V:Int) = 0) = false:=decide_eq_false (by omega)
 have d2:((V:Int) == 0) = false:=by rw [beq_eq_false_iff_ne]; omega
 rw [zc_eq] at hw1
 rw [kv_eq]
 replace OC:=Lib.hid OC
 replace hV:=Lib.hid hV
 replace hw1:=Lib.hid hw1
 replace s1:=Lib.hid s1
 replace b1:=Lib.hid b1
 replace B1:=Lib.hid B1
 replace h1:=Lib.hid h1
 replace K:=Lib.hid K
 clear h g h44
 generalize hN:w.heap.size = N at *
 replace hN:=Lib.hid hN
 go_enter Tryz.func117,Tryz.ntmps117
 go_upto_region 1 with fail
 rw [hN.out, <- hw1.out]
 go_wp2_with fail
 refine OC.out.mono ?_
 rintro e w2 ⟨rfl,b2⟩
 have B2:=B1.out.below b2 (by have:=s1.out; omega)
 have b12:=b1.out.trans (b2.mono (B':=N) (by have:=s1.out; omega))
 obtain ⟨w3,hw3⟩:∃ w3,w3 = w2.alloc (.cells #[.pointer (some ⟨L.ga,0,none⟩),.int .i64 (p:Int),.int .i64 (k:Int),.int .i64 (n:Int)] 171):=⟨_,rfl⟩
 have S:OS N w w3 L c s bs w2.heap.size p k n:=by rw [hw3]; exact OS.op p k n h1.out b2 b12 (by have h1:w1.heap.size <= w2.heap.size:=b2.size; have h2:w1.heap.size = N + 1:=s1.out; omega)
 have B3:Blk w3 N 171 zc:=by rw [hw3]; exact B2.alloc _
 obtain ⟨y0,y1,y2,y3⟩:=S.cells
 have KC:=S.key K.out hV.out
 replace KC:=Lib.hid KC
 replace S:=Lib.hid S
 replace hw3:=Lib.hid hw3
 replace B3:=Lib.hid B3
 clear b12 b2 B2 OC hw1 B1 b1
 generalize hN2:w2.heap.size = N1 at *
 replace hN2:=Lib.hid hN2
 go_upto_region 2 with fail
 rw [hN2.out, <- hw3.out]
 clear hN2 hw3
 go_wp2_with fail
 refine KC.out.mono ?_
 rintro e w4 ⟨rfl,b4⟩
 replace S:=S.out.step b4
 have B4:=B3.out.below b4 B3.out.lt
 obtain ⟨y0,y1,y2,y3⟩:=S.cells
 obtain ⟨x0,x1,x2,x3⟩:=zc_cells B4
 have y:=B4.frozen
 replace S:=Lib.hid S
 replace B4:=Lib.hid B4
 clear KC B3 b4 K hV
 go_wp2
 exact bodyPost_ret (results_cell2 (P:=Tryz.prog) rfl _ _ N 171 _ (0,0) _ _ rfl rfl (blk_setz B4.out _ _ _ _) Tryz.underlying171 rfl (by kernel_rfl)) rfl ⟨rfl,below_set4 S.out.below _ _ _ _⟩
end
section
variable (w:World) (L:Lay) (c:Conf) (s:St) (bs:List UInt8) (h:SetAt w L c s bs) (g:Cls.Good c.cf s)
include h g
theorem tell8No (o H:Nat) (hH:H < 18446744073709551616) (hf:findN c.cf s H = none):Calls Tryz.prog 122 #[.pointer (some ⟨L.g,0,none⟩),.int .u64 (H:Int),.int .i64 (o:Int)] w fun e w' => e = .returned (.tuple #[.int .u8 0,.int .i64 20]) /\ Below w.heap.size w w':=by
  have OC:=openNo w L c s bs h g H hH hf
  rw [zc_eq] at OC
  replace OC:=Lib.hid OC
  clear h g hf
  go_enter Tryz.func122,Tryz.ntmps122
  go_wp2_with fail
  refine OC.out.mono ?_
  rintro e w2 ⟨rfl,b2⟩
  replace b2:=Lib.hid b2
  go_wp2
  go_ret2
  exact ⟨rfl,b2.out.alloc b2.out.size _⟩
theorem tell8None {H i x p k n:Nat} (K:Chk c s bs.length H i x p k n) (h44:rd bs (p + 44) 1 = 0) (o:Nat) (ho:o + 1 <= 56):Calls Tryz.prog 122 #[.pointer (some ⟨L.g,0,none⟩),.int .u64 (H:Int),.int .i64 (o:Int)] w fun e w' => e = .returned (.tuple #[.int .u8 0,.int .i64 0]) /\ Below w.heap.size w w':=by
  have OC:=openK w L c s bs h g K
  rw [kv_eq] at OC
  obtain ⟨V,hV⟩:∃ V,V = rd bs (p + 44) 1:=⟨_,rfl⟩
  have d1:decide ((V:Int) = 0) = true:=decide_eq_true (by omega)
  have d2:((V:Int) == 0) = true:=by rw [beq_iff_eq]; omega
  replace OC:=Lib.hid OC
  replace hV:=Lib.hid hV
  replace h:=Lib.hid h
  replace K:=Lib.hid K
  clear g h44
  go_enter Tryz.func122,Tryz.ntmps122
  go_wp2_with fail
  refine OC.out.mono ?_
  rintro e w2 ⟨rfl,b2⟩
  obtain ⟨w3,hw3⟩:∃ w3,w3 = w2.alloc (.cells #[.pointer (some ⟨L.ga,0,none⟩),.int .i64 (p:Int),.int .i64 (k:Int),.int .i64 (n:Int)] 171):=⟨_,rfl⟩
  have S:OS w.heap.size w w3 L c s bs w2.heap.size p k n:=by rw [hw3]; exact OS.op p k n h.out b2 b2 b2.size
  obtain ⟨y0,y1,y2,y3⟩:=S.cells
  have KC:=Lib.hid (S.key K.out hV.out)
  replace S:=Lib.hid S
  replace hw3:=Lib.hid hw3
  clear b2 OC
  generalize hN2:w2.heap.size = N1 at *
  replace hN2:=Lib.hid hN2
  go_upto_region 2 with fail
  rw [hN2.out, <- hw3.out]
  clear hN2 hw3
  go_wp2_with fail
  refine KC.out.mono ?_
  rintro e w4 ⟨rfl,b4⟩
  replace S:=S.out.step b4
  obtain ⟨y0,y1,y2,y3⟩:=S.cells
  replace S:=Lib.hid S
  clear KC b4 K hV h
  go_wp2
  go_ret2
  exact ⟨rfl,S.out.below⟩
theorem tell8Yes {H i x p k n:Nat} (K:Chk c s bs.length H i x p k n) (h44:rd bs (p + 44) 1 ≠ 0) (o:Nat) (ho:o + 1 <= 56):Calls Tryz.prog 122 #[.pointer (some ⟨L.g,0,none⟩),.int .u64 (H:Int),.int .i64 (o:Int)] w fun e w' => e = .returned (.tuple #[.int .u8 ((rd bs (p + o) 1:Nat):Int),.int .i64 0]) /\ Below w.heap.size w w':=by
  have OC:=openK w L c s bs h g K
  rw [kv_eq] at OC
  obtain ⟨V,hV⟩:∃ V,V = rd bs (p + 44) 1:=⟨_,rfl⟩
  have d1:decide ((V:Int) = 0) = false:=decide_eq_false (by omega)
  have d2:((V:Int) == 0) = false:=by rw [beq_eq_false_iff_ne]; omega
  replace OC:=Lib.hid OC
  replace hV:=Lib.hid hV
  replace h:=Lib.hid h
  replace K:=Lib.hid K
  clear g h44
  go_enter Tryz.func122,Tryz.ntmps122
  go_wp2_with fail
  refine OC.out.mono ?_
  rintro e w2 ⟨rfl,b2⟩
  obtain ⟨w3,hw3⟩:∃ w3,w3 = w2.alloc (.cells #[.pointer (some ⟨L.ga,0,none⟩),.int .i64 (p:Int),.int .i64 (k:Int),.int .i64 (n:Int)] 171):=⟨_,rfl⟩
  have S:OS w.heap.size w w3 L c s bs w2.heap.size p k n:=by rw [hw3]; exact OS.op p k n h.out b2 b2 b2.size
  obtain ⟨y0,y1,y2,y3⟩:=S.cells
  have KC:=Lib.hid (S.key K.out hV.out)
  replace S:=Lib.hid S
  replace hw3:=Lib.hid hw3
  clear b2 OC
  generalize hN2:w2.heap.size = N1 at *
  replace hN2:=Lib.hid hN2
  go_upto_region 2 with fail
  rw [hN2.out, <- hw3.out]
  clear hN2 hw3
  go_wp2_with fail
  refine KC.out.mono ?_
  rintro e w4 ⟨rfl,b4⟩
  replace S:=S.out.step b4
  obtain ⟨y0,y1,y2,y3⟩:=S.cells
  have GC:=get8C w4 L.ga L.ha c.cf.ps bs S.at_ p o k n (K.out.ck.there o 1 (by have:=K.out.n64; omega))
  rw [kv_eq] at GC
  replace GC:=Lib.hid GC
  replace S:=Lib.hid S
  clear KC b4 K hV h
  go_wp2_with fail
  refine GC.out.mono ?_
  rintro e w5 ⟨rfl,b5⟩
  replace S:=Lib.hid (S.out.step b5)
  clear GC b5 y0 y1 y2 y3
  go_wp2
  go_ret2
  exact ⟨rfl,S.out.below⟩
theorem set8Yes {H i x p k n:Nat} (K:Chk c s bs.length H i x p k n) (h44:rd bs (p + 44) 1 ≠ 0) (o v:Nat) (ho:o + 1 <= 56) (hv:v < 256):Calls Tryz.prog 118 #[.pointer (some ⟨L.g,0,none⟩),.int .u64 (H:Int),.int .i64 (o:Int),.int .u8 (v:Int),.bool true] w fun e w' => e = .returned (.int .i64 0) /\ SetAt w' L c s (lay bs (p + o) (putB 1 v)) /\ Only (· = L.ha) w w':=by
  have OC:=editYes w L c s bs h g K h44
  rw [kv_eq] at OC
  replace OC:=Lib.hid OC
  replace h:=Lib.hid h
  replace K:=Lib.hid K
  clear g h44
  go_enter Tryz.func118,Tryz.ntmps118
  go_wp2_with fail
  refine OC.out.mono ?_
  rintro e w2 ⟨rfl,b2⟩
  obtain ⟨w3,hw3⟩:∃ w3,w3 = w2.alloc (.cells #[.pointer (some ⟨L.ga,0,none⟩),.int .i64 (p:Int),.int .i64 (k:Int),.int .i64 (n:Int)] 171):=⟨_,rfl⟩
  have S:OS w.heap.size w w3 L c s bs w2.heap.size p k n:=by rw [hw3]; exact OS.op p k n h.out b2 b2 b2.size
  obtain ⟨y0,y1,y2,y3⟩:=S.cells
  replace S:=Lib.hid S
  replace hw3:=Lib.hid hw3
  clear b2 OC
  generalize hN2:w2.heap.size = N1 at *
  replace hN2:=Lib.hid hN2
  go_upto_region 2 with fail
  rw [hN2.out, <- hw3.out]
  clear hN2 hw3
  have PC:=put8C w3 L.ga L.ha c.cf.ps bs S.out.at_ p o k n v hv (K.out.ck.there o 1 (by have:=K.out.n64; omega))
  rw [kv_eq] at PC
  replace PC:=Lib.hid PC
  go_wp2_with fail
  refine PC.out.mono ?_
  rintro e w5 ⟨rfl,A,o5⟩
  clear PC y0 y1 y2 y3
  have T:=Lib.hid (S.out.set.laid o5 A.bytes (putlen _ _ _ _ (by have h1:=K.out.ck.all; have h2:=K.out.n64; omega)))
  replace o5:=Lib.hid ((Only.of_below S.out.below (Nat.le_refl _) (· = L.ha)).trans o5 fun _ _ h => h)
  clear A S
  go_wp2
  go_ret
  exact ⟨rfl,T.out,o5.out⟩
end
end Go.Proofs.YtfjiphibalhcgaaGreat.Itm
/-
  Walks of the statements' own helpers Lend, Intact, markAt, and of the reference's Eq.
-/
namespace Go.Proofs.YtfjiphibalhcgaaGreat.Book
open Go.RowKit Base
theorem eiBytes:EI Tryz.prog 68 5 (.int .u8 0) 1 1:=EI.mk' Tryz.underlying68 (by kernel_rfl) rfl (by decide)
def mk (k:Nat):UInt8:=UInt8.ofNat (165 - k)
def marks (n:Nat):List UInt8:=(List.range n).map mk
def Lent (w:World) (g cap:Nat) (l:List UInt8):Prop:=∃ cur:Array Value,w.heap[g]? = some (.cells cur 5 (0,0)) /\ l.length + 70 <= cap /\ cap <= maxLen /\ cur.size = cap /\
 cur.toList.take (l.length + 70) = (l ++ marks 70).map bv
theorem Lent.keep {w w':World} {g cap:Nat} {l:List UInt8} (h:Lent w g cap l) (hk:w'.heap[g]? = w.heap[g]?):Lent w' g cap l:=by
 obtain ⟨cur,hg,r⟩:=h
 exact ⟨cur,hk.trans hg,r⟩
end Go.Proofs.YtfjiphibalhcgaaGreat.Book
/-
  Legal and Size, the program's and the document's.
-/
namespace Go.Proofs.YtfjiphibalhcgaaGreat.Itm
open Go.RowKit Base
def okB (b:UInt8):Bool := !(decide ((b.toNat:Int) <= 32) || decide ((b.toNat:Int) = 127))
def legalN (l:List UInt8):Bool:=l.all okB && decide (1 <= l.length) && decide (l.length <= 250)
theorem all_drop (l:List UInt8) (m:Nat) (hm:m < l.length):(l.drop m).all okB = (okB l[m] && (l.drop (m + 1)).all okB):=by
 rw [List.drop_eq_getElem_cons hm,List.all_cons]
def marksN (n:Int):Bool:=decide (0 <= n /\ n < 16)
theorem marksC (w:World) (n:Int):Calls Tryz.prog 106 #[.int .i64 n] w fun e w' => e = .returned (.bool (marksN n)) /\ w = w':=by
 unfold marksN
 by_cases h0 : 0 <= n
 ·have d0:decide (0 <= n) = true:=decide_eq_true h0
  have e:decide (0 <= n /\ n < 16) = decide (n < 16):=by simp [h0]
  rw [e]
  clear e
  go_enter Tryz.func106,Tryz.ntmps106
  go_wp2
  go_ret
  exact ⟨rfl,rfl⟩
 ·have d0:decide (0 <= n) = false:=decide_eq_false h0
  have e:decide (0 <= n /\ n < 16) = false:=by simp; omega
  rw [e]
  clear e
  go_enter Tryz.func106,Tryz.ntmps106
  go_wp2
  go_ret
  exact ⟨rfl,rfl⟩
set_option maxHeartbeats 1000000 in
theorem legalC (A:Option Addr) (c B:Nat) (l:List UInt8) (w:World) (hB:Bytes w B A l) (hl:l.length <= maxLen):Calls Tryz.prog 105 #[.slice A l.length c] w fun e w' => e = .returned (.bool (legalN l)) /\ w = w':=by
 unfold maxLen at hl
 by_cases hb : 1 <= l.length /\ l.length <= 250
 ·have e0:legalN l = l.all okB:=by unfold legalN; simp [hb.1,hb.2]
  rw [e0]; clear e0
  obtain ⟨hb1,hb2⟩:=hb
  have d1:decide ((l.length:Int) < 1) = false:=decide_eq_false (by omega)
  have d2:decide (250 < (l.length:Int)) = false:=decide_eq_false (by omega)
  obtain ⟨R,hR⟩:∃ R,R = l.all okB:=⟨_,rfl⟩
  rw [<- hR]
  replace hR:=Lib.hid hR
  go_enter Tryz.func105,Tryz.ntmps105
  go_wp2
  go_loop [15] (fun i => ∃ k:Nat,k <= l.length /\ i = .int .i64 k /\ Hid (R = (l.drop k).all okB)) (fun i => l.length - (intOf i).toNat)
  case atStart => exact ⟨0,Nat.zero_le _,rfl,hR⟩
  case round =>
   obtain ⟨k,hk,rfl,hr⟩:=hrel
   clear hR d1 d2
   by_cases hlt:k < l.length
   ·obtain ⟨bb,off,rfl,hb,hc⟩:=hB.at_ k hlt
    have hs:Hid (R = (!(decide (((l[k]).toNat:Int) <= 32) || decide (((l[k]).toNat:Int) = 127)) && (l.drop (k + 1)).all okB)):=by rw [hr.out,all_drop l k hlt]; exact Lib.hid rfl
    clear hr hB
    have e0:decide ((k:Int) < (l.length:Int)) = true:=decide_eq_true (by omega)
    obtain ⟨x,hx⟩:∃ x,x = (l[k]).toNat:=⟨_,rfl⟩
    rw [<- hx] at hc hs
    clear hx
    by_cases h1:x <= 32
    ·have d1:decide ((x:Int) <= 32) = true:=decide_eq_true (by omega)
     have hR:Hid (R = false):=by rw [hs.out,d1]; exact Lib.hid (by simp)
     clear hs
     go_wp2
     go_ret
     exact ⟨by rw [hR.out] <;> rfl,rfl⟩
    ·have d1:decide ((x:Int) <= 32) = false:=decide_eq_false (by omega)
     by_cases h2:x = 127
     ·subst h2
      have hR:Hid (R = false):=by rw [hs.out]; exact Lib.hid (by simp)
      clear hs
      go_wp2
      go_ret
      exact ⟨by rw [hR.out] <;> rfl,rfl⟩
     ·have d2:decide ((x:Int) = 127) = false:=decide_eq_false (by omega)
      have d3:((x:Int) == 127) = false:=by rw [beq_eq_false_iff_ne]; omega
      have hR:Hid (R = (l.drop (k + 1)).all okB):=by rw [hs.out,d1,d2]; exact Lib.hid (by simp)
      clear hs
      go_wp2
      go_round
      case rel => exact ⟨k + 1,by omega,by go_num,hR⟩
      case measure => simp [intOf]; omega
   ·obtain rfl:k = l.length:=by omega
    have hR:Hid (R = true):=by rw [hr.out]; exact Lib.hid (by simp)
    clear hr
    go_wp2
    go_ret
    exact ⟨by rw [hR.out] <;> rfl,rfl⟩
 ·have e0:legalN l = false:=by unfold legalN; simp; omega
  rw [e0]; clear e0
  by_cases h1 : 1 <= l.length
  ·have h2 : 250 < l.length:=by omega
   have d1:decide ((l.length:Int) < 1) = false:=decide_eq_false (by omega)
   have d2:decide (250 < (l.length:Int)) = true:=decide_eq_true (by omega)
   go_enter Tryz.func105,Tryz.ntmps105
   go_wp2
   go_ret
   exact ⟨rfl,rfl⟩
  ·have d1:decide ((l.length:Int) < 1) = true:=decide_eq_true (by omega)
   go_enter Tryz.func105,Tryz.ntmps105
   go_wp2
   go_ret
   exact ⟨rfl,rfl⟩
end Go.Proofs.YtfjiphibalhcgaaGreat.Itm
/-
  The fields' calls, over tell and set (printed by wip/gen_field.py).
-/
namespace Go.Proofs.YtfjiphibalhcgaaGreat.Itm
open Go.RowKit Base Arena Cls
theorem stateW (sv:Value) (H:Nat) (w:World) (v code:Int) (R:World -> Prop) (C:Calls Tryz.prog 122 #[sv,.int .u64 (H:Int),.int .i64 45] w fun e w' => e = .returned (.tuple #[.int .u8 v,.int .i64 code]) /\ R w') (h0 : 0 <= v) (h1:v <= 9223372036854775807) :
  Calls Tryz.prog 80 #[sv,.int .u64 (H:Int)] w fun e w' => e = .returned (.tuple #[.int .i64 v,.int .i64 code]) /\ R w':=by
 have q1:IntKind.i64.wrap v = v:=IntWalk.i64_in _ (by omega)
 replace C:=Lib.hid C
 go_enter Tryz.func80,Tryz.ntmps80
 go_wp2_with fail
 refine C.out.mono ?_
 rintro e w2 ⟨rfl,r⟩
 replace r:=Lib.hid r
 go_wp2
 go_ret2
 exact ⟨rfl,r.out⟩
theorem setStateW (sv:Value) (H:Nat) (n:Int) (w:World) (code:Int) (R:World -> Prop) (C:Calls Tryz.prog 118 #[sv,.int .u64 (H:Int),.int .i64 45,.int .u8 (IntKind.u8.wrap n),.bool ((decide (1 <= n) && decide (n <= 4)))] w fun e w' => e = .returned (.int .i64 code) /\ R w') :
  Calls Tryz.prog 68 #[sv,.int .u64 (H:Int),.int .i64 n] w fun e w' => e = .returned (.int .i64 code) /\ R w':=by
 obtain ⟨b1,hb1⟩:∃ b,decide (1 <= n) = b:=⟨_,rfl⟩
 obtain ⟨b2,hb2⟩:∃ b,decide (n <= 4) = b:=⟨_,rfl⟩
 rw [hb1,hb2] at C
 generalize hv:IntKind.u8.wrap n = v at *
 cases b1
 ·replace C:=Lib.hid C
  go_enter Tryz.func68,Tryz.ntmps68
  go_wp2_with fail
  refine C.out.mono ?_
  rintro e w2 ⟨rfl,r⟩
  replace r:=Lib.hid r
  go_wp2
  go_ret
  exact ⟨rfl,r.out⟩
 ·replace C:=Lib.hid C
  go_enter Tryz.func68,Tryz.ntmps68
  go_wp2_with fail
  refine C.out.mono ?_
  rintro e w2 ⟨rfl,r⟩
  replace r:=Lib.hid r
  go_wp2
  go_ret
  exact ⟨rfl,r.out⟩
structure It where
  key:List UInt8
  val:List UInt8
  fl:Nat
  ex:Nat
  tc:Nat
  tk:Nat
  st:Nat
  ms:Nat
structure It.Fine (t:It):Prop where
  legal:legalN t.key = true
  fl:t.fl < 4294967296
  ex:t.ex < 9223372036854775808
  tc:t.tc < 9223372036854775808
  tk:t.tk < 18446744073709551616
  st1 : 1 <= t.st
  st4:t.st <= 4
  ms:t.ms < 16
def It.cells (t:It) (Ak Av:Option Addr) (ck cv:Nat):Array Value :=
  #[.slice Ak t.key.length ck,.slice Av t.val.length cv,.int .u64 (t.fl:Int),.int .i64 (t.ex:Int),.int .i64 (t.tc:Int),.int .u64 (t.tk:Int),.int .i64 (t.st:Int),.int .i64 (t.ms:Int)]
theorem It.cells_eq (t:It) (Ak Av:Option Addr) (ck cv:Nat):t.cells Ak Av ck cv =
  #[.slice Ak t.key.length ck,.slice Av t.val.length cv,.int .u64 (t.fl:Int),.int .i64 (t.ex:Int),.int .i64 (t.tc:Int),.int .u64 (t.tk:Int),.int .i64 (t.st:Int),.int .i64 (t.ms:Int)]:=rfl
theorem legal_len {l:List UInt8} (h:legalN l = true) : 1 <= l.length /\ l.length <= 250:=by
  unfold legalN at h
  simp at h
  omega
def links (l:List UInt8) (p:Nat):Nat -> List UInt8
  | 0 => l
  | m + 1 => lay (links l p m) (p + 4 * m) (putB 4 0)
def h16 (l:List UInt8) (p:Nat) (t:It):List UInt8:=lay (links l p 3) (p + 16) (putB 8 t.ex)
def h24 (l:List UInt8) (p:Nat) (t:It):List UInt8:=lay (h16 l p t) (p + 24) (putB 8 t.tc)
def h32 (l:List UInt8) (p:Nat) (t:It):List UInt8:=lay (h24 l p t) (p + 32) (putB 8 t.tk)
def h40 (l:List UInt8) (p:Nat) (t:It):List UInt8:=lay (h32 l p t) (p + 40) (putB 4 t.fl)
def h44 (l:List UInt8) (p:Nat) (t:It):List UInt8:=lay (h40 l p t) (p + 44) (putB 1 t.key.length)
def h45 (l:List UInt8) (p:Nat) (t:It):List UInt8:=lay (h44 l p t) (p + 45) (putB 1 t.st)
def h46 (l:List UInt8) (p:Nat) (t:It):List UInt8:=lay (h45 l p t) (p + 46) (putB 1 t.ms)
def h47 (l:List UInt8) (p k:Nat) (t:It):List UInt8:=lay (h46 l p t) (p + 47) (putB 1 k)
def h52 (l:List UInt8) (p k:Nat) (t:It):List UInt8:=lay (h47 l p k t) (p + 52) (putB 4 0)
def h56 (l:List UInt8) (p k:Nat) (t:It):List UInt8:=lay (h52 l p k t) (p + 56) t.key
def itemB (l:List UInt8) (p k:Nat) (t:It):List UInt8:=layV (h56 l p k t) p t.key.length t.val
section
variable (l:List UInt8) (p k:Nat) (t:It)
theorem links_len (h:p + 12 <= l.length):∀ m,m <= 3 -> (links l p m).length = l.length
  | 0,_ => rfl
  | m + 1,hm => by
    unfold links
    rw [putlen _ _ _ _ (by rw [links_len h m (by omega)]; omega),links_len h m (by omega)]
theorem h16_len (h:p + 56 <= l.length):(h16 l p t).length = l.length:=by unfold h16; rw [putlen _ _ _ _ (by rw [links_len l p (by omega) 3 (by omega)]; omega),links_len l p (by omega) 3 (by omega)]
theorem h24_len (h:p + 56 <= l.length):(h24 l p t).length = l.length:=by unfold h24; rw [putlen _ _ _ _ (by rw [h16_len l p t h]; omega),h16_len l p t h]
theorem h32_len (h:p + 56 <= l.length):(h32 l p t).length = l.length:=by unfold h32; rw [putlen _ _ _ _ (by rw [h24_len l p t h]; omega),h24_len l p t h]
theorem h40_len (h:p + 56 <= l.length):(h40 l p t).length = l.length:=by unfold h40; rw [putlen _ _ _ _ (by rw [h32_len l p t h]; omega),h32_len l p t h]
theorem h44_len (h:p + 56 <= l.length):(h44 l p t).length = l.length:=by unfold h44; rw [putlen _ _ _ _ (by rw [h40_len l p t h]; omega),h40_len l p t h]
theorem h45_len (h:p + 56 <= l.length):(h45 l p t).length = l.length:=by unfold h45; rw [putlen _ _ _ _ (by rw [h44_len l p t h]; omega),h44_len l p t h]
theorem h46_len (h:p + 56 <= l.length):(h46 l p t).length = l.length:=by unfold h46; rw [putlen _ _ _ _ (by rw [h45_len l p t h]; omega),h45_len l p t h]
theorem h47_len (h:p + 56 <= l.length):(h47 l p k t).length = l.length:=by unfold h47; rw [putlen _ _ _ _ (by rw [h46_len l p t h]; omega),h46_len l p t h]
theorem h52_len (h:p + 56 <= l.length):(h52 l p k t).length = l.length:=by unfold h52; rw [putlen _ _ _ _ (by rw [h47_len l p k t h]; omega),h47_len l p k t h]
theorem h56_len (h:p + 56 + t.key.length <= l.length):(h56 l p k t).length = l.length:=by unfold h56; rw [lay_len _ _ _ (by rw [h52_len l p k t (by omega)]; omega),h52_len l p k t (by omega)]
theorem layV_len (K:Nat) (v:List UInt8) (h:p + 56 + K + v.length + 2 <= l.length):(layV l p K v).length = l.length:=by
  have e1:(lay l (p + 48) (putB 4 v.length)).length = l.length:=putlen _ _ _ _ (by omega)
  have e2:(lay (lay l (p + 48) (putB 4 v.length)) (p + (56 + K)) v).length = l.length:=by rw [lay_len _ _ _ (by rw [e1]; omega),e1]
  unfold layV
  rw [lay_len _ _ _ (by rw [e2]; simp; omega),e2]
theorem itemB_len (h:p + 58 + t.key.length + t.val.length <= l.length):(itemB l p k t).length = l.length:=by
  unfold itemB
  rw [layV_len _ _ _ _ (by rw [h56_len l p k t (by omega)]; omega),h56_len l p k t (by omega)]
theorem h56_key (h:p + 56 + t.key.length <= l.length) (hk:t.key.length < 256):rd (h56 l p k t) (p + 44) 1 = t.key.length:=by
  have e:=h40_len l p t (by omega)
  have e1:=h44_len l p t (by omega)
  have e2:=h45_len l p t (by omega)
  have e3:=h46_len l p t (by omega)
  have e4:=h47_len l p k t (by omega)
  have e5:=h52_len l p k t (by omega)
  unfold h56
  rw [rd_out _ _ _ _ _ (by omega) (by omega)]
  unfold h52
  rw [rd_out _ _ _ _ _ (by rw [putB_len]; omega) (by omega)]
  unfold h47
  rw [rd_out _ _ _ _ _ (by rw [putB_len]; omega) (by omega)]
  unfold h46
  rw [rd_out _ _ _ _ _ (by rw [putB_len]; omega) (by omega)]
  unfold h45
  rw [rd_out _ _ _ _ _ (by rw [putB_len]; omega) (by omega)]
  unfold h44
  exact rd_lay _ _ _ _ (by omega) (by omega)
end
structure LS (w0 w:World) (g h page N0 N1:Nat) (c0 c1:Array Value) (Ak Av:Option Addr) (B:Nat) (key val:List UInt8) (l:List UInt8):Prop where
  at_:At w g h page l
  b0:Blk w N0 103 c0
  b1:Blk w N1 171 c1
  k:Bytes w B Ak key
  v:Bytes w B Av val
  o:Only (· = h) w0 w
  n0:N0 ≠ h
  n1:N1 ≠ h
  ak:∀ b off,Ak = some ⟨b,off,none⟩ -> b ≠ h
  av:val ≠ [] -> ∀ b off,Av = some ⟨b,off,none⟩ -> b ≠ h
theorem LS.step {w0 w w':World} {g h page N0 N1:Nat} {c0 c1:Array Value} {Ak Av:Option Addr} {B:Nat} {key val l l':List UInt8} (S:LS w0 w g h page N0 N1 c0 c1 Ak Av B key val l) (a:At w' g h page l') (o:Only (· = h) w w') :
    LS w0 w' g h page N0 N1 c0 c1 Ak Av B key val l' :=
  ⟨a,o.at_ S.b0 S.n0,o.at_ S.b1 S.n1,o.row S.k S.ak,only_bytes o S.v S.av,S.o.trans o fun _ _ h => h,S.n0,S.n1,S.ak,S.av⟩
theorem LS.cells {w0 w:World} {g h page N0 N1 p k n:Nat} {t:It} {Ak Av:Option Addr} {ck cv B:Nat} {key val l:List UInt8} (S:LS w0 w g h page N0 N1 (t.cells Ak Av ck cv) (kv g p k n) Ak Av B key val l) :
    w.cell? ⟨N1,0,none⟩ = some (.pointer (some ⟨g,0,none⟩)) /\ w.cell? ⟨N1,1,none⟩ = some (.int .i64 (p:Int)) /\ w.cell? ⟨N1,2,none⟩ = some (.int .i64 (k:Int)) /\ w.cell? ⟨N1,3,none⟩ = some (.int .i64 (n:Int)) /\
    w.cell? ⟨N0,0,none⟩ = some (.slice Ak t.key.length ck) /\ w.cell? ⟨N0,1,none⟩ = some (.slice Av t.val.length cv) /\ w.cell? ⟨N0,2,none⟩ = some (.int .u64 (t.fl:Int)) /\ w.cell? ⟨N0,3,none⟩ = some (.int .i64 (t.ex:Int)) /\
    w.cell? ⟨N0,4,none⟩ = some (.int .i64 (t.tc:Int)) /\ w.cell? ⟨N0,5,none⟩ = some (.int .u64 (t.tk:Int)) /\ w.cell? ⟨N0,6,none⟩ = some (.int .i64 (t.st:Int)) /\ w.cell? ⟨N0,7,none⟩ = some (.int .i64 (t.ms:Int)) :=
  ⟨S.b1.cell 0,S.b1.cell 1,S.b1.cell 2,S.b1.cell 3,S.b0.cell 0,S.b0.cell 1,S.b0.cell 2,S.b0.cell 3,S.b0.cell 4,S.b0.cell 5,S.b0.cell 6,S.b0.cell 7⟩
set_option maxHeartbeats 4000000 in
theorem itemLayYes (w:World) (L:Lay) (c:Conf) (s:St) (bs:List UInt8) (h:SetAt w L c s bs) (g:Cls.Good c.cf s) (H:Nat) (hH:H < 18446744073709551616) (i x p:Nat) (hf:findN c.cf s H = some (i,x,p)) (hk:s.cls i < c.nc) (hnc:c.nc <= 256)
    (hc:Ck c.cf.ps bs.length p (c.sz (s.cls i))) (t:It) (F:t.Fine) (hn : 58 + t.key.length + t.val.length <= c.sz (s.cls i)) (Ak Av:Option Addr) (ck cv B:Nat) (hK:Bytes w B Ak t.key) (hV:Bytes w B Av t.val)
    (ak:∀ b off,Ak = some ⟨b,off,none⟩ -> b ≠ L.ha) (av:t.val ≠ [] -> ∀ b off,Av = some ⟨b,off,none⟩ -> b ≠ L.ha) :
    Calls Tryz.prog 58 #[.pointer (some ⟨L.g,0,none⟩),.int .u64 (H:Int),.agg (t.cells Ak Av ck cv)] w fun e w' => e = .returned (.int .i64 0) /\ SetAt w' L c s (itemB bs p (s.cls i) t) /\ Only (· = L.ha) w w':=by
  obtain ⟨w1,hw1⟩:∃ w1,w1 = w.alloc (.cells (t.cells Ak Av ck cv) 103):=⟨_,rfl⟩
  have ok:=h.okc
  have A0:=h.arena ok
  have h1:SetAt w1 L c s bs:=by rw [hw1]; exact h.alloc _
  have o1:Only (· = L.ha) w w1:=by rw [hw1]; exact (Only.refl _ _).alloc _
  have B1:Blk w1 w.heap.size 103 (t.cells Ak Av ck cv):=by rw [hw1]; exact Blk.new w _ _
  have s1:w1.heap.size = w.heap.size + 1:=by rw [hw1]; exact World.size_alloc _ _
  have k1:Bytes w1 B Ak t.key:=o1.row hK ak
  have v1:Bytes w1 B Av t.val:=only_bytes o1 hV av
  have hN0:w.heap.size ≠ L.ha:=by have:=A0.bytes.lt; omega
  have OC:=openYes w1 L c s bs h1 g H hH i x p hf hk
  obtain ⟨hl1,hl2⟩:=legal_len F.legal
  have hst:=F.st1
  have hst4:=F.st4
  have hmk:=F.ms
  have hfl:=F.fl
  have hex:=F.ex
  have htc:=F.tc
  have htk:=F.tk
  have hall:=hc.all
  have hsmall:=A0.small
  have LC:=Lib.hid (fun w B' (hB:Bytes w B' Ak t.key) => legalC Ak ck B' t.key w hB (by unfold maxLen; omega))
  rw [F.legal] at LC
  have MC:=marksC
  have hm0:marksN (t.ms:Int) = true:=by unfold marksN; simp; omega
  have MC1:=Lib.hid (fun w => MC w (t.ms:Int))
  rw [hm0] at MC1
  clear MC hm0
  have hcls:s.cls i < 256:=by omega
  generalize hn0:c.sz (s.cls i) = n at *
  generalize hk0:s.cls i = k at *
  have d1:decide ((n:Int) - 58 - (t.key.length:Int) < (t.val.length:Int)) = false:=decide_eq_false (by omega)
  have q1:IntKind.i64.wrap ((n:Int) - 58) = (n:Int) - 58:=IntWalk.i64_in _ (by omega)
  have q2:IntKind.i64.wrap ((n:Int) - 58 - (t.key.length:Int)) = (n:Int) - 58 - (t.key.length:Int):=IntWalk.i64_in _ (by omega)
  have e1:decide ((t.st:Int) < 1) = false:=decide_eq_false (by omega)
  have e2:decide (4 < (t.st:Int)) = false:=decide_eq_false (by omega)
  have e3:decide (4294967295 < (t.fl:Int)) = false:=decide_eq_false (by omega)
  have e4:decide ((t.ex:Int) < 0) = false:=decide_eq_false (by omega)
  have e5:decide ((t.tc:Int) < 0) = false:=decide_eq_false (by omega)
  have r1:IntKind.u64.wrap (t.ex:Int) = (t.ex:Int):=IntWalk.u64_in _ (by omega)
  have r2:IntKind.u64.wrap (t.tc:Int) = (t.tc:Int):=IntWalk.u64_in _ (by omega)
  have r3:IntKind.u32.wrap (t.fl:Int) = (t.fl:Int):=IntWalk.u32_in _ (by omega)
  have r4:IntKind.u8.wrap (t.key.length:Int) = (t.key.length:Int):=IntWalk.u8_in _ (by omega)
  have r5:IntKind.u8.wrap (t.st:Int) = (t.st:Int):=IntWalk.u8_in _ (by omega)
  have r6:IntKind.u8.wrap (t.ms:Int) = (t.ms:Int):=IntWalk.u8_in _ (by omega)
  have r7:IntKind.u8.wrap (k:Int) = (k:Int):=IntWalk.u8_in _ (by omega)
  have r8:IntKind.i64.wrap ((p:Int) + 56) = ((p + 56:Nat):Int):=by rw [IntWalk.i64_in _ (by omega)]; omega
  rw [It.cells_eq] at hw1 ⊢
  rw [kv_eq] at OC
  obtain ⟨y0,y1,y2,y3,y4,y5,y6,y7⟩:w1.cell? ⟨w.heap.size,0,none⟩ = some (.slice Ak t.key.length ck) /\ w1.cell? ⟨w.heap.size,1,none⟩ = some (.slice Av t.val.length cv) /\ w1.cell? ⟨w.heap.size,2,none⟩ = some (.int .u64 (t.fl:Int)) /\ w1.cell? ⟨w.heap.size,3,none⟩ = some (.int .i64 (t.ex:Int)) /\
    w1.cell? ⟨w.heap.size,4,none⟩ = some (.int .i64 (t.tc:Int)) /\ w1.cell? ⟨w.heap.size,5,none⟩ = some (.int .u64 (t.tk:Int)) /\ w1.cell? ⟨w.heap.size,6,none⟩ = some (.int .i64 (t.st:Int)) /\ w1.cell? ⟨w.heap.size,7,none⟩ = some (.int .i64 (t.ms:Int)) :=
    ⟨B1.cell 0,B1.cell 1,B1.cell 2,B1.cell 3,B1.cell 4,B1.cell 5,B1.cell 6,B1.cell 7⟩
  replace hw1:=Lib.hid hw1
  replace OC:=Lib.hid OC
  replace o1:=Lib.hid o1
  replace h:=Lib.hid h
  replace h1:=Lib.hid h1
  replace s1:=Lib.hid s1
  replace B1:=Lib.hid B1
  replace k1:=Lib.hid k1
  replace v1:=Lib.hid v1
  replace F:=Lib.hid F
  have hn56 : 56 <= n:=by omega
  have hpl:p + 56 <= bs.length:=by omega
  have hkb:t.key.length < 256:=by omega
  replace hn:=Lib.hid hn
  clear hst hst4 hmk hfl hex htc htk hK hV hf hk hn0 hnc
  generalize hN:w.heap.size = N at *
  replace hN:=Lib.hid hN
  go_enter Tryz.func58,Tryz.ntmps58
  go_upto_region 1 with fail
  rw [hN.out, <- hw1.out]
  go_wp2_with fail
  refine OC.out.mono ?_
  rintro e w2 ⟨rfl,b2⟩
  have h2:SetAt w2 L c s bs:=h1.out.kept fun b hb => b2.block b (h1.out.lt hb)
  have A2:=h2.arena ok
  have o2:=o1.out.trans (Only.of_below b2 (Nat.le_refl _) (· = L.ha)) fun _ _ h => h
  have k2:Bytes w2 B Ak t.key:=(Only.of_below b2 (Nat.le_refl _) (· = L.ha)).row k1.out ak
  have v2:Bytes w2 B Av t.val:=only_bytes (Only.of_below b2 (Nat.le_refl _) (· = L.ha)) v1.out av
  have B2:=B1.out.below b2 (by have:=s1.out; omega)
  obtain ⟨w3,hw3⟩:∃ w3,w3 = w2.alloc (.cells #[.pointer (some ⟨L.ga,0,none⟩),.int .i64 (p:Int),.int .i64 (k:Int),.int .i64 (n:Int)] 171):=⟨_,rfl⟩
  have hN1:w2.heap.size ≠ L.ha:=by have:=A2.bytes.lt; omega
  have S:LS w w3 L.ga L.ha c.cf.ps N w2.heap.size (t.cells Ak Av ck cv) (kv L.ga p k n) Ak Av B t.key t.val bs:=by
    have o23:Only (· = L.ha) w2 w3:=by rw [hw3]; exact (Only.refl _ _).alloc _
    refine ⟨?_,o23.at_ B2 hN0,?_,o23.row k2 ak,only_bytes o23 v2 av,o2.trans o23 fun _ _ h => h,hN0,hN1,ak,av⟩
    · rw [hw3]; exact A2.keep (Below.heap_alloc w2 _ _ (heap_lt A2.head)) (Below.heap_alloc w2 _ _ A2.bytes.lt)
    · rw [hw3, <- kv_eq]; exact Blk.new w2 _ _
  replace hw3:=Lib.hid hw3
  clear b2 h1 h2 A2 o2 k2 v2 B2 B1 OC o1 k1 v1 hw1 y0 y1 y2 y3 y4 y5 y6 y7 hN0 hN1 s1
  generalize hN2:w2.heap.size = N1 at *
  replace hN2:=Lib.hid hN2
  obtain ⟨x0,x1,x2,x3,y0,y1,y2,y3,y4,y5,y6,y7⟩:=S.cells
  have LC3:=Lib.hid (LC.out w3 B S.k)
  replace S:=Lib.hid S
  go_upto_region 2 with fail
  rw [hN2.out, <- hw3.out]
  clear LC hN2 hw3
  go_wp2_with fail
  refine LC3.out.mono ?_
  rintro e w' ⟨rfl,rfl⟩
  clear LC3
  go_wp2_with (first | (go_at_call 106; refine (MC1.out _).mono ?_; rintro e w' ⟨rfl,rfl⟩) | fail)
  clear MC1 d1 q1 q2 e1 e2 e3 e4 e5 x0 x1 x2 x3 y0 y1 y2 y3 y4 y5 y6 y7
  go_loopw [67] (fun v wr => ∃ m:Nat,m <= 3 /\ v = .int .i64 (m:Int) /\ Hid (LS w wr L.ga L.ha c.cf.ps N N1 (t.cells Ak Av ck cv) (kv L.ga p k n) Ak Av B t.key t.val (links bs p m))) (fun v _ => 3 - (intOf v).toNat)
  case atStart => exact ⟨0,by omega,rfl,S⟩
  case round =>
    obtain ⟨m,hm,rfl,S⟩:=hrel
    obtain ⟨x0,x1,x2,x3,y0,y1,y2,y3,y4,y5,y6,y7⟩:=S.out.cells
    by_cases hm3:m < 3
    · have d1:decide ((m:Int) < 3) = true:=decide_eq_true (by omega)
      have P:=put32C wr L.ga L.ha c.cf.ps _ S.out.at_ p (4 * m) k n 0 (by omega) (by rw [links_len bs p (by omega) m (by omega)]; exact hc.there (4 * m) 4 (by omega))
      have q1:IntKind.i64.wrap (4 * (m:Int)) = ((4 * m:Nat):Int):=by rw [IntWalk.i64_in _ (by omega)]; omega
      have q2:IntKind.i64.wrap ((4 * m:Nat):Int) = ((4 * m:Nat):Int):=IntWalk.i64_in _ (by omega)
      have S2:=Lib.hid fun w' a o => S.out.step (w':=w') (l':=links bs p (m + 1)) a o
      have hl:links bs p (m + 1) = lay (links bs p m) (p + 4 * m) (putB 4 0):=rfl
      rw [<- hl] at P
      clear hl
      rw [kv_eq,show ((0:Nat):Int) = 0 from rfl] at P
      replace P:=Lib.hid P
      generalize 4 * m = m4 at *
      clear S
      go_wp2_with fail
      refine P.out.mono ?_
      rintro e w' ⟨rfl,a,o⟩
      have S:=Lib.hid (S2.out w' a o)
      clear a o P S2 x0 x1 x2 x3 y0 y1 y2 y3 y4 y5 y6 y7
      go_wp2
      go_roundw
      case rel => exact ⟨m + 1,by omega,by simp,S⟩
      case measure => simp [intOf] <;> omega
    · obtain rfl:m = 3:=by omega
      clear hm hm3
      rename World => w4
      have P:=put64C w4 L.ga L.ha c.cf.ps _ S.out.at_ p 16 k n t.ex (by have:=F.out.ex; omega) (by rw [links_len bs p (by omega) 3 (by omega)]; exact hc.there 16 8 (by omega))
      have hl:h16 bs p t = lay (links bs p 3) (p + 16) (putB 8 (t.ex)):=rfl
      rw [<- hl] at P
      clear hl
      rw [kv_eq,show ((16:Nat):Int) = 16 from rfl] at P
      have S2:=Lib.hid fun w' a o => S.out.step (w':=w') (l':=h16 bs p t) a o
      replace P:=Lib.hid P
      clear S
      go_wp2_with fail
      refine P.out.mono ?_
      rintro e w5 ⟨rfl,a,o⟩
      have S:=Lib.hid (S2.out w5 a o)
      clear a o P S2 x0 x1 x2 x3 y0 y1 y2 y3 y4 y5 y6 y7
      obtain ⟨x0,x1,x2,x3,y0,y1,y2,y3,y4,y5,y6,y7⟩:=S.out.cells
      have P:=put64C w5 L.ga L.ha c.cf.ps _ S.out.at_ p 24 k n t.tc (by have:=F.out.tc; omega) (by rw [h16_len bs p t hpl]; exact hc.there 24 8 (by omega))
      have hl:h24 bs p t = lay (h16 bs p t) (p + 24) (putB 8 (t.tc)):=rfl
      rw [<- hl] at P
      clear hl
      rw [kv_eq,show ((24:Nat):Int) = 24 from rfl] at P
      have S2:=Lib.hid fun w' a o => S.out.step (w':=w') (l':=h24 bs p t) a o
      replace P:=Lib.hid P
      clear S
      go_wp2_with fail
      refine P.out.mono ?_
      rintro e w6 ⟨rfl,a,o⟩
      have S:=Lib.hid (S2.out w6 a o)
      clear a o P S2 x0 x1 x2 x3 y0 y1 y2 y3 y4 y5 y6 y7
      obtain ⟨x0,x1,x2,x3,y0,y1,y2,y3,y4,y5,y6,y7⟩:=S.out.cells
      have P:=put64C w6 L.ga L.ha c.cf.ps _ S.out.at_ p 32 k n t.tk F.out.tk (by rw [h24_len bs p t hpl]; exact hc.there 32 8 (by omega))
      have hl:h32 bs p t = lay (h24 bs p t) (p + 32) (putB 8 (t.tk)):=rfl
      rw [<- hl] at P
      clear hl
      rw [kv_eq,show ((32:Nat):Int) = 32 from rfl] at P
      have S2:=Lib.hid fun w' a o => S.out.step (w':=w') (l':=h32 bs p t) a o
      replace P:=Lib.hid P
      clear S
      go_wp2_with fail
      refine P.out.mono ?_
      rintro e w7 ⟨rfl,a,o⟩
      have S:=Lib.hid (S2.out w7 a o)
      clear a o P S2 x0 x1 x2 x3 y0 y1 y2 y3 y4 y5 y6 y7
      obtain ⟨x0,x1,x2,x3,y0,y1,y2,y3,y4,y5,y6,y7⟩:=S.out.cells
      have P:=put32C w7 L.ga L.ha c.cf.ps _ S.out.at_ p 40 k n t.fl F.out.fl (by rw [h32_len bs p t hpl]; exact hc.there 40 4 (by omega))
      have hl:h40 bs p t = lay (h32 bs p t) (p + 40) (putB 4 (t.fl)):=rfl
      rw [<- hl] at P
      clear hl
      rw [kv_eq,show ((40:Nat):Int) = 40 from rfl] at P
      have S2:=Lib.hid fun w' a o => S.out.step (w':=w') (l':=h40 bs p t) a o
      replace P:=Lib.hid P
      clear S
      go_wp2_with fail
      refine P.out.mono ?_
      rintro e w8 ⟨rfl,a,o⟩
      have S:=Lib.hid (S2.out w8 a o)
      clear a o P S2 x0 x1 x2 x3 y0 y1 y2 y3 y4 y5 y6 y7
      obtain ⟨x0,x1,x2,x3,y0,y1,y2,y3,y4,y5,y6,y7⟩:=S.out.cells
      have P:=put8C w8 L.ga L.ha c.cf.ps _ S.out.at_ p 44 k n t.key.length hkb (by rw [h40_len bs p t hpl]; exact hc.there 44 1 (by omega))
      have hl:h44 bs p t = lay (h40 bs p t) (p + 44) (putB 1 (t.key.length)):=rfl
      rw [<- hl] at P
      clear hl
      rw [kv_eq,show ((44:Nat):Int) = 44 from rfl] at P
      have S2:=Lib.hid fun w' a o => S.out.step (w':=w') (l':=h44 bs p t) a o
      replace P:=Lib.hid P
      clear S
      go_wp2_with fail
      refine P.out.mono ?_
      rintro e w9 ⟨rfl,a,o⟩
      have S:=Lib.hid (S2.out w9 a o)
      clear a o P S2 x0 x1 x2 x3 y0 y1 y2 y3 y4 y5 y6 y7
      obtain ⟨x0,x1,x2,x3,y0,y1,y2,y3,y4,y5,y6,y7⟩:=S.out.cells
      have P:=put8C w9 L.ga L.ha c.cf.ps _ S.out.at_ p 45 k n t.st (by have:=F.out.st4; omega) (by rw [h44_len bs p t hpl]; exact hc.there 45 1 (by omega))
      have hl:h45 bs p t = lay (h44 bs p t) (p + 45) (putB 1 (t.st)):=rfl
      rw [<- hl] at P
      clear hl
      rw [kv_eq,show ((45:Nat):Int) = 45 from rfl] at P
      have S2:=Lib.hid fun w' a o => S.out.step (w':=w') (l':=h45 bs p t) a o
      replace P:=Lib.hid P
      clear S
      go_wp2_with fail
      refine P.out.mono ?_
      rintro e w10 ⟨rfl,a,o⟩
      have S:=Lib.hid (S2.out w10 a o)
      clear a o P S2 x0 x1 x2 x3 y0 y1 y2 y3 y4 y5 y6 y7
      obtain ⟨x0,x1,x2,x3,y0,y1,y2,y3,y4,y5,y6,y7⟩:=S.out.cells
      have P:=put8C w10 L.ga L.ha c.cf.ps _ S.out.at_ p 46 k n t.ms (by have:=F.out.ms; omega) (by rw [h45_len bs p t hpl]; exact hc.there 46 1 (by omega))
      have hl:h46 bs p t = lay (h45 bs p t) (p + 46) (putB 1 (t.ms)):=rfl
      rw [<- hl] at P
      clear hl
      rw [kv_eq,show ((46:Nat):Int) = 46 from rfl] at P
      have S2:=Lib.hid fun w' a o => S.out.step (w':=w') (l':=h46 bs p t) a o
      replace P:=Lib.hid P
      clear S
      go_wp2_with fail
      refine P.out.mono ?_
      rintro e w11 ⟨rfl,a,o⟩
      have S:=Lib.hid (S2.out w11 a o)
      clear a o P S2 x0 x1 x2 x3 y0 y1 y2 y3 y4 y5 y6 y7
      obtain ⟨x0,x1,x2,x3,y0,y1,y2,y3,y4,y5,y6,y7⟩:=S.out.cells
      have P:=put8C w11 L.ga L.ha c.cf.ps _ S.out.at_ p 47 k n k hcls (by rw [h46_len bs p t hpl]; exact hc.there 47 1 (by omega))
      have hl:h47 bs p k t = lay (h46 bs p t) (p + 47) (putB 1 (k)):=rfl
      rw [<- hl] at P
      clear hl
      rw [kv_eq,show ((47:Nat):Int) = 47 from rfl] at P
      have S2:=Lib.hid fun w' a o => S.out.step (w':=w') (l':=h47 bs p k t) a o
      replace P:=Lib.hid P
      clear S
      go_wp2_with fail
      refine P.out.mono ?_
      rintro e w12 ⟨rfl,a,o⟩
      have S:=Lib.hid (S2.out w12 a o)
      clear a o P S2 x0 x1 x2 x3 y0 y1 y2 y3 y4 y5 y6 y7
      obtain ⟨x0,x1,x2,x3,y0,y1,y2,y3,y4,y5,y6,y7⟩:=S.out.cells
      have P:=put32C w12 L.ga L.ha c.cf.ps _ S.out.at_ p 52 k n 0 (by omega) (by rw [h47_len bs p k t hpl]; exact hc.there 52 4 (by omega))
      have hl:h52 bs p k t = lay (h47 bs p k t) (p + 52) (putB 4 (0)):=rfl
      rw [<- hl] at P
      clear hl
      rw [kv_eq,show ((52:Nat):Int) = 52 from rfl,show ((0:Nat):Int) = 0 from rfl] at P
      have S2:=Lib.hid fun w' a o => S.out.step (w':=w') (l':=h52 bs p k t) a o
      replace P:=Lib.hid P
      clear S
      go_wp2_with fail
      refine P.out.mono ?_
      rintro e w13 ⟨rfl,a,o⟩
      have S:=Lib.hid (S2.out w13 a o)
      clear a o P S2 x0 x1 x2 x3 y0 y1 y2 y3 y4 y5 y6 y7
      obtain ⟨x0,x1,x2,x3,y0,y1,y2,y3,y4,y5,y6,y7⟩:=S.out.cells
      have P:=writeYes w13 L.ga L.ha c.cf.ps _ S.out.at_ ((p + 56:Nat):Int) Ak ck B t.key S.out.k (by rw [h52_len bs p k t hpl]; exact hc.there 56 t.key.length (by have:=hn.out; omega))
      rw [Int.toNat_natCast] at P
      have hl:h56 bs p k t = lay (h52 bs p k t) (p + 56) t.key:=rfl
      rw [<- hl] at P
      clear hl
      have S2:=Lib.hid fun w' a o => S.out.step (w':=w') (l':=h56 bs p k t) a o
      replace P:=Lib.hid P
      clear S
      go_wp2_with fail
      refine P.out.mono ?_
      rintro e w15 ⟨rfl,a,o, -⟩
      have S:=Lib.hid (S2.out w15 a o)
      clear a o P S2 x0 x1 x2 x3 y0 y1 y2 y3 y4 y5 y6 y7
      obtain ⟨x0,x1,x2,x3,y0,y1,y2,y3,y4,y5,y6,y7⟩:=S.out.cells
      have hal:p + 56 + t.key.length <= bs.length:=by have:=hn.out; omega
      have P:=layC w15 L.ga L.ha c.cf.ps _ S.out.at_ p k n (by rw [h56_len bs p k t hal]; exact hc) Av cv B t.val S.out.v av t.key.length (h56_key bs p k t hal hkb) (by have:=hn.out; omega)
      have hl:layV (h56 bs p k t) p t.key.length t.val = itemB bs p k t:=rfl
      rw [hl] at P
      clear hl
      rw [kv_eq] at P
      have S2:=Lib.hid fun w' a o => S.out.step (w':=w') (l':=itemB bs p k t) a o
      replace P:=Lib.hid P
      clear S
      go_wp2_with fail
      refine P.out.mono ?_
      rintro e w16 ⟨rfl,a,o⟩
      have S:=Lib.hid (S2.out w16 a o)
      clear a o P S2 x0 x1 x2 x3 y0 y1 y2 y3 y4 y5 y6 y7
      go_wp2
      go_ret
      refine ⟨rfl,h.out.laid S.out.o S.out.at_.bytes ?_,S.out.o⟩
      exact itemB_len _ _ _ _ (by have:=hn.out; omega)
end Go.Proofs.YtfjiphibalhcgaaGreat.Itm
/-
  Bytes cut into pieces; an item's bytes as a whole.
-/
namespace Go.Proofs.YtfjiphibalhcgaaGreat.Itm
open Go.RowKit Base Arena
theorem lay_get (l:List UInt8) (p:Nat) (q:List UInt8) (h:p + q.length <= l.length) (j:Nat):(lay l p q)[j]? = if p <= j /\ j < p + q.length then q[j - p]? else l[j]?:=by
 unfold lay
 rw [List.append_assoc]
 rcases Nat.lt_or_ge j p with h1 | h1
 ·rw [if_neg (by omega),List.getElem?_append_left (by simp; omega),List.getElem?_take,if_pos h1]
 ·rw [List.getElem?_append_right (by simp; omega)]
  have e:(l.take p).length = p:=by simp; omega
  rw [e]
  rcases Nat.lt_or_ge j (p + q.length) with h2 | h2
  ·rw [if_pos ⟨h1,h2⟩,List.getElem?_append_left (by omega)]
  ·rw [if_neg (by omega),List.getElem?_append_right (by omega),List.getElem?_drop]
   congr 1
   omega
theorem piece_get (l:List UInt8) (p N j:Nat):((l.drop p).take N)[j]? = if j < N then l[p + j]? else none:=by
 rw [List.getElem?_take]
 split
 ·rw [List.getElem?_drop]
 ·rfl
theorem piece_sub {l E:List UInt8} {p N o m:Nat} (h:(l.drop p).take N = E) (hm:o + m <= N):(l.drop (p + o)).take m = (E.drop o).take m:=by
 apply List.ext_getElem?
 intro j
 rw [<- h,piece_get,piece_get,piece_get]
 split
 ·rw [if_pos (by omega)]; congr 1; omega
 ·rfl
theorem piece_in (l:List UInt8) (p o N:Nat) (q:List UInt8) (h:o + q.length <= N) (hN:p + N <= l.length):((lay l (p + o) q).drop p).take N = lay ((l.drop p).take N) o q:=by
 have e:((l.drop p).take N).length = N:=by simp; omega
 apply List.ext_getElem?
 intro j
 rw [piece_get,lay_get _ _ _ (by omega),lay_get _ _ _ (by omega),piece_get]
 split
 ·rcases Nat.lt_or_ge j o with h1 | h1
  ·rw [if_neg (by omega),if_neg (by omega)]
  ·rcases Nat.lt_or_ge j (o + q.length) with h2 | h2
   ·rw [if_pos (by omega),if_pos (by omega)]; congr 1; omega
   ·rw [if_neg (by omega),if_neg (by omega)]
 ·rw [if_neg (by omega)]
def off (lens:List Nat) (j:Nat):Nat:=(lens.take j).sum
structure Seg (l:List UInt8) (p:Nat) (lens:List Nat) (S:List (List UInt8)):Prop where
 lenE:S.map List.length = lens
 fit:p + lens.sum <= l.length
 eq:(l.drop p).take lens.sum = S.flatten
theorem flat_at:∀ (S:List (List UInt8)) (j:Nat) (q:List UInt8),S[j]? = some q -> (S.flatten.drop (off (S.map List.length) j)).take q.length = q /\ off (S.map List.length) j + q.length <= (S.map List.length).sum
 | [],j,q,h => by simp at h
 | s :: S,0,q,h => by
  simp at h; subst h
  simp [off]
 | s :: S,j + 1,q,h => by
  have h':S[j]? = some q:=by simpa using h
  obtain ⟨a,b⟩:=flat_at S j q h'
  have e:off ((s :: S).map List.length) (j + 1) = s.length + off (S.map List.length) j:=by simp [off]
  rw [e]
  refine ⟨?_,by simp only [List.map_cons,List.sum_cons]; omega⟩
  rw [List.flatten_cons,List.drop_append,List.drop_eq_nil_of_le (by omega),List.nil_append]
  rw [show s.length + off (S.map List.length) j - s.length = off (S.map List.length) j by omega]
  exact a
theorem flat_set:∀ (S:List (List UInt8)) (j:Nat) (q q':List UInt8),S[j]? = some q -> q'.length = q.length -> (S.set j q').flatten = lay S.flatten (off (S.map List.length) j) q'
 | [],j,q,q',h,hl => by simp at h
 | s :: S,0,q,q',h,hl => by
  simp at h; subst h
  simp [off,lay,hl]
 | s :: S,j + 1,q,q',h,hl => by
  have h':S[j]? = some q:=by simpa using h
  have ih:=flat_set S j q q' h' hl
  have e:off ((s :: S).map List.length) (j + 1) = s.length + off (S.map List.length) j:=by simp [off]
  obtain ⟨-,b⟩:=flat_at S j q h'
  have hf:S.flatten.length = (S.map List.length).sum:=List.length_flatten
  rw [e,qN,List.flatten_cons,ih,List.flatten_cons]
  apply List.ext_getElem?
  intro i
  rw [lay_get _ _ _ (by rw [List.length_append]; omega)]
  rcases Nat.lt_or_ge i s.length with h1 | h1
  ·rw [List.getElem?_append_left h1,if_neg (by omega),List.getElem?_append_left h1]
  ·rw [List.getElem?_append_right h1,lay_get _ _ _ (by omega),List.getElem?_append_right h1]
   rcases Nat.lt_or_ge (i - s.length) (off (S.map List.length) j) with h2 | h2
   ·rw [if_neg (by omega),if_neg (by omega)]
   ·rcases Nat.lt_or_ge (i - s.length) (off (S.map List.length) j + q'.length) with h3 | h3
    ·rw [if_pos (by omega),if_pos (by omega)]; congr 1; omega
    ·rw [if_neg (by omega),if_neg (by omega)]
section
variable {l:List UInt8} {p:Nat} {lens:List Nat} {S:List (List UInt8)}
theorem Seg.at_ (h:Seg l p lens S) (j:Nat) (q:List UInt8) (hj:S[j]? = some q):(l.drop (p + off lens j)).take q.length = q /\ off lens j + q.length <= lens.sum:=by
 obtain ⟨a,b⟩:=flat_at S j q hj
 rw [h.lenE] at a b
 exact ⟨by rw [piece_sub h.eq b]; exact a,b⟩
theorem Seg.set (h:Seg l p lens S) (j:Nat) (q q':List UInt8) (hj:S[j]? = some q) (hl:q'.length = q.length):Seg (lay l (p + off lens j) q') p lens (S.set j q'):=by
 obtain ⟨a,b⟩:=flat_at S j q hj
 have c:=flat_set S j q q' hj hl
 rw [h.lenE] at a b c
 have hf:=h.fit
 refine ⟨?_,by rw [lay_len _ _ _ (by omega)]; exact hf,?_⟩
 ·rw [List.map_set,h.lenE]
  apply List.ext_getElem?
  intro i
  rw [List.getElem?_set]
  split
  ·rename_i e; subst e
   have:lens[j]? = some q.length:=by rw [<- h.lenE,List.getElem?_map,hj]; rfl
   rw [this]
   have hjl:j < lens.length:=by have:=List.getElem?_eq_some_iff.1 this; exact this.1
   rw [if_pos hjl,hl]
  ·rfl
 ·rw [piece_in _ _ _ _ _ (by omega) hf,h.eq,c]
end
def cut (l:List UInt8) (p:Nat):List Nat -> List (List UInt8)
 | [] => []
 | m :: ms => (l.drop p).take m :: cut l (p + m) ms
theorem Seg.cut_:∀ (lens:List Nat) (l:List UInt8) (p:Nat),p + lens.sum <= l.length -> Seg l p lens (cut l p lens)
 | [],l,p,h => ⟨rfl,h,by simp [cut]⟩
 | m :: ms,l,p,h => by
  have h':p + m + ms.sum <= l.length:=by rw [List.sum_cons] at h; omega
  obtain ⟨a,b,c⟩:=Seg.cut_ ms l (p + m) h'
  refine ⟨?_,h,?_⟩
  ·rw [cut,List.map_cons,a]
   congr 1
   simp
   omega
  ·rw [cut,List.flatten_cons, <- c,List.sum_cons]
   apply List.ext_getElem?
   intro j
   rw [piece_get]
   have e:((l.drop p).take m).length = m:=by simp; omega
   rcases Nat.lt_or_ge j m with h1 | h1
   ·rw [if_pos (by omega),List.getElem?_append_left (by omega),piece_get,if_pos h1]
   ·rw [List.getElem?_append_right (by omega),e,piece_get]
    rcases Nat.lt_or_ge j (m + ms.sum) with h2 | h2
    ·rw [if_pos h2,if_pos (by omega)]; congr 1; omega
    ·rw [if_neg (by omega),if_neg (by omega)]
structure But (l l':List UInt8) (p n:Nat):Prop where
 len:l'.length = l.length
 at_:∀ j,j < p \/ p + n <= j -> l'[j]? = l[j]?
theorem But.refl (l:List UInt8) (p n:Nat):But l l p n:=⟨rfl,fun _ _ => rfl⟩
theorem But.lay {l l':List UInt8} {p n:Nat} (h:But l l' p n) (o:Nat) (q:List UInt8) (ho:o + q.length <= n) (hn:p + n <= l.length):But l (lay l' (p + o) q) p n :=
 have e:=h.len
 ⟨by rw [lay_len _ _ _ (by omega),e],fun j hj => by rw [lay_get _ _ _ (by omega),if_neg (by omega),h.at_ j hj]⟩
theorem But.eq {l l':List UInt8} {p n:Nat} (h:But l l' p n) (hn:p + n <= l.length) {E:List UInt8} (hE:(l'.drop p).take n = E):l' = Base.lay l p E:=by
 have e:E.length = n:=by rw [<- hE]; have:=h.len; simp; omega
 apply List.ext_getElem?
 intro j
 rw [lay_get _ _ _ (by omega)]
 split
 ·rw [<- hE,piece_get,if_pos (by omega)]; congr 1; omega
 ·exact h.at_ j (by omega)
structure Whole where
 l0:Nat
 l1:Nat
 l2:Nat
 gen:Nat
 cl:Nat
 t:It
def Whole.segs (I:Whole):List (List UInt8) :=
 [putB 4 I.l0,putB 4 I.l1,putB 4 I.l2,putB 4 I.gen,putB 8 I.t.ex,putB 8 I.t.tc,putB 8 I.t.tk,putB 4 I.t.fl,putB 1 I.t.key.length,putB 1 I.t.st,putB 1 I.t.ms,putB 1 I.cl,putB 4 I.t.val.length,putB 4 0,I.t.key,I.t.val,[13,10]]
def lns (K V:Nat):List Nat:=[4,4,4,4,8,8,8,4,1,1,1,1,4,4,K,V,2]
def Whole.lens (I:Whole):List Nat:=lns I.t.key.length I.t.val.length
def Whole.enc (I:Whole):List UInt8:=I.segs.flatten
theorem lns_sum (K V:Nat):(lns K V).sum = 58 + K + V:=by simp [lns]; omega
theorem Whole.map_len (I:Whole):I.segs.map List.length = I.lens:=by simp [Whole.segs,Whole.lens,lns,putB_len]
theorem Whole.enc_len (I:Whole):I.enc.length = 58 + I.t.key.length + I.t.val.length:=by
 rw [Whole.enc,List.length_flatten,I.map_len,Whole.lens,lns_sum]
def Has (l:List UInt8) (p:Nat) (I:Whole):Prop:=Seg l p I.lens I.segs
theorem off_15 (K V:Nat):off (lns K V) 15 = 56 + K:=by simp [off,lns]; omega
theorem off_16 (K V:Nat):off (lns K V) 16 = 56 + K + V:=by simp [off,lns]; omega
theorem Seg.rd_ {l:List UInt8} {p:Nat} {lens:List Nat} {S:List (List UInt8)} (h:Seg l p lens S) (j m v:Nat) (hj:S[j]? = some (putB m v)) (hv:v < 256 ^ m):rd l (p + off lens j) m = v:=by
 have:=(h.at_ j _ hj).1
 rw [putB_len] at this
 unfold rd
 rw [this,beN_putB,Nat.mod_eq_of_lt hv]
theorem Has.eq {l:List UInt8} {p:Nat} {I:Whole} (h:Has l p I):(l.drop p).take (58 + I.t.key.length + I.t.val.length) = I.enc:=by
 have:=Seg.eq h
 rw [Whole.lens,lns_sum] at this
 exact this
theorem Has.of {l:List UInt8} {p:Nat} {I:Whole} (h:p + (58 + I.t.key.length + I.t.val.length) <= l.length) (e:(l.drop p).take (58 + I.t.key.length + I.t.val.length) = I.enc):Has l p I :=
 ⟨I.map_len,by rw [Whole.lens,lns_sum]; exact h,by rw [Whole.lens,lns_sum]; exact e⟩
theorem Has.lay_ (l:List UInt8) (p:Nat) (I:Whole) (h:p + (58 + I.t.key.length + I.t.val.length) <= l.length):Has (lay l p I.enc) p I:=by
 have e:=I.enc_len
 refine Has.of (by rw [lay_len _ _ _ (by omega)]; exact h) ?_
 have:=piece_lay l p I.enc (by omega)
 rw [e] at this
 exact this
section
variable {l:List UInt8} {p:Nat} {I:Whole} (h:Has l p I)
include h
theorem Has.key_len (hk:I.t.key.length < 256):rd l (p + 44) 1 = I.t.key.length:=Seg.rd_ h 8 1 _ rfl (by omega)
theorem Has.l1_ (hv:I.l1 < 4294967296):rd l (p + 4) 4 = I.l1:=Seg.rd_ h 1 4 _ rfl (by omega)
theorem Has.l2_ (hv:I.l2 < 4294967296):rd l (p + 8) 4 = I.l2:=Seg.rd_ h 2 4 _ rfl (by omega)
theorem Has.st (hv:I.t.st < 256):rd l (p + 45) 1 = I.t.st:=Seg.rd_ h 9 1 _ rfl (by omega)
end
theorem off_all (K V:Nat):off (lns K V) 0 = 0 /\ off (lns K V) 1 = 4 /\ off (lns K V) 2 = 8 /\ off (lns K V) 3 = 12 /\ off (lns K V) 4 = 16 /\ off (lns K V) 5 = 24 /\ off (lns K V) 6 = 32 /\ off (lns K V) 7 = 40 /\ off (lns K V) 8 = 44 /\
  off (lns K V) 9 = 45 /\ off (lns K V) 10 = 46 /\ off (lns K V) 11 = 47 /\ off (lns K V) 12 = 48 /\ off (lns K V) 13 = 52 /\ off (lns K V) 14 = 56:=⟨rfl,rfl,rfl,rfl,rfl,rfl,rfl,rfl,rfl,rfl,rfl,rfl,rfl,rfl,rfl⟩
theorem Seg.put {l:List UInt8} {p K V:Nat} {S:List (List UInt8)} (h:Seg l p (lns K V) S) (j o:Nat) (q q':List UInt8) (hj:S[j]? = some q) (hl:q'.length = q.length) (ho:off (lns K V) j = o):Seg (lay l (p + o) q') p (lns K V) (S.set j q'):=by
 rw [<- ho]; exact h.set j q q' hj hl
theorem seg_names {l:List UInt8} {p K V:Nat} {S:List (List UInt8)} (h:Seg l p (lns K V) S):∃ q0 q1 q2 q3 q4 q5 q6 q7 q8 q9 q10 q11 q12 q13 q14 q15 q16:List UInt8,
  S = [q0,q1,q2,q3,q4,q5,q6,q7,q8,q9,q10,q11,q12,q13,q14,q15,q16] /\ q0.length = 4 /\ q1.length = 4 /\ q2.length = 4 /\ q3.length = 4 /\ q4.length = 8 /\ q5.length = 8 /\ q6.length = 8 /\ q7.length = 4 /\ q8.length = 1 /\ q9.length = 1 /\ q10.length = 1 /\ q11.length = 1 /\
   q12.length = 4 /\ q13.length = 4 /\ q14.length = K /\ q15.length = V /\ q16.length = 2:=by
 have e:=h.lenE
 obtain ⟨q0,S,rfl⟩:∃ q T,S = q :: T:=by cases S with | nil => simp [lns] at e | cons q T => exact ⟨q,T,rfl⟩
 obtain ⟨q1,S,rfl⟩:∃ q T,S = q :: T:=by cases S with | nil => simp [lns] at e | cons q T => exact ⟨q,T,rfl⟩
 obtain ⟨q2,S,rfl⟩:∃ q T,S = q :: T:=by cases S with | nil => simp [lns] at e | cons q T => exact ⟨q,T,rfl⟩
 obtain ⟨q3,S,rfl⟩:∃ q T,S = q :: T:=by cases S with | nil => simp [lns] at e | cons q T => exact ⟨q,T,rfl⟩
 obtain ⟨q4,S,rfl⟩:∃ q T,S = q :: T:=by cases S with | nil => simp [lns] at e | cons q T => exact ⟨q,T,rfl⟩
 obtain ⟨q5,S,rfl⟩:∃ q T,S = q :: T:=by cases S with | nil => simp [lns] at e | cons q T => exact ⟨q,T,rfl⟩
 obtain ⟨q6,S,rfl⟩:∃ q T,S = q :: T:=by cases S with | nil => simp [lns] at e | cons q T => exact ⟨q,T,rfl⟩
 obtain ⟨q7,S,rfl⟩:∃ q T,S = q :: T:=by cases S with | nil => simp [lns] at e | cons q T => exact ⟨q,T,rfl⟩
 obtain ⟨q8,S,rfl⟩:∃ q T,S = q :: T:=by cases S with | nil => simp [lns] at e | cons q T => exact ⟨q,T,rfl⟩
 obtain ⟨q9,S,rfl⟩:∃ q T,S = q :: T:=by cases S with | nil => simp [lns] at e | cons q T => exact ⟨q,T,rfl⟩
 obtain ⟨q10,S,rfl⟩:∃ q T,S = q :: T:=by cases S with | nil => simp [lns] at e | cons q T => exact ⟨q,T,rfl⟩
 obtain ⟨q11,S,rfl⟩:∃ q T,S = q :: T:=by cases S with | nil => simp [lns] at e | cons q T => exact ⟨q,T,rfl⟩
 obtain ⟨q12,S,rfl⟩:∃ q T,S = q :: T:=by cases S with | nil => simp [lns] at e | cons q T => exact ⟨q,T,rfl⟩
 obtain ⟨q13,S,rfl⟩:∃ q T,S = q :: T:=by cases S with | nil => simp [lns] at e | cons q T => exact ⟨q,T,rfl⟩
 obtain ⟨q14,S,rfl⟩:∃ q T,S = q :: T:=by cases S with | nil => simp [lns] at e | cons q T => exact ⟨q,T,rfl⟩
 obtain ⟨q15,S,rfl⟩:∃ q T,S = q :: T:=by cases S with | nil => simp [lns] at e | cons q T => exact ⟨q,T,rfl⟩
 obtain ⟨q16,S,rfl⟩:∃ q T,S = q :: T:=by cases S with | nil => simp [lns] at e | cons q T => exact ⟨q,T,rfl⟩
 have e17:S = []:=by cases S with | nil => rfl | cons q T => simp [lns] at e
 subst e17
 simp only [lns,List.map_cons,List.map_nil,List.cons.injEq,and_true] at e
 exact ⟨q0,q1,q2,q3,q4,q5,q6,q7,q8,q9,q10,q11,q12,q13,q14,q15,q16,rfl,e⟩
set_option maxHeartbeats 2000000 in
theorem itemB_enc (l:List UInt8) (p k gen:Nat) (t:It) (h:p + (58 + t.key.length + t.val.length) <= l.length) (hg:(l.drop (p + 12)).take 4 = putB 4 gen) :
  itemB l p k t = lay l p (Whole.enc ⟨0,0,0,gen,k,t⟩):=by
 obtain ⟨K,hK⟩:∃ K,K = t.key.length:=⟨_,rfl⟩
 obtain ⟨V,hV⟩:∃ V,V = t.val.length:=⟨_,rfl⟩
 rw [<- hK, <- hV] at h
 have hs:(lns K V).sum = 58 + K + V:=lns_sum K V
 have S0:=Seg.cut_ (lns K V) l p (by omega)
 obtain ⟨q0,q1,q2,q3,q4,q5,q6,q7,q8,q9,q10,q11,q12,q13,q14,q15,q16,eS,e0,e1,e2,e3,e4,e5,e6,e7,e8,e9,e10,e11,e12,e13,e14,e15,e16⟩:=seg_names S0
 rw [eS] at S0
 obtain ⟨o0,o1,o2,o3,o4,o5,o6,o7,o8,o9,o10,o11,o12,o13,o14⟩:=off_all K V
 have h3:q3 = putB 4 gen:=by
  have:=(S0.at_ 3 q3 rfl).1
  rw [o3,e3] at this
  rw [<- this,hg]
 subst h3
 have B0:=But.refl l p (58 + K + V)
 have hp:=h
 have S1:=S0.put 0 (4 * 0) q0 (putB 4 0) rfl (by rw [putB_len,e0]) o0
 have B1:=B0.lay (4 * 0) (putB 4 0) (by rw [putB_len]; omega) hp
 have S2:=S1.put 1 (4 * 1) q1 (putB 4 0) rfl (by rw [putB_len,e1]) o1
 have B2:=B1.lay (4 * 1) (putB 4 0) (by rw [putB_len]; omega) hp
 have S3:=S2.put 2 (4 * 2) q2 (putB 4 0) rfl (by rw [putB_len,e2]) o2
 have B3:=B2.lay (4 * 2) (putB 4 0) (by rw [putB_len]; omega) hp
 have S4:=S3.put 4 16 q4 (putB 8 t.ex) rfl (by rw [putB_len,e4]) o4
 have B4:=B3.lay 16 (putB 8 t.ex) (by rw [putB_len]; omega) hp
 have S5:=S4.put 5 24 q5 (putB 8 t.tc) rfl (by rw [putB_len,e5]) o5
 have B5:=B4.lay 24 (putB 8 t.tc) (by rw [putB_len]; omega) hp
 have S6:=S5.put 6 32 q6 (putB 8 t.tk) rfl (by rw [putB_len,e6]) o6
 have B6:=B5.lay 32 (putB 8 t.tk) (by rw [putB_len]; omega) hp
 have S7:=S6.put 7 40 q7 (putB 4 t.fl) rfl (by rw [putB_len,e7]) o7
 have B7:=B6.lay 40 (putB 4 t.fl) (by rw [putB_len]; omega) hp
 have S8:=S7.put 8 44 q8 (putB 1 K) rfl (by rw [putB_len,e8]) o8
 have B8:=B7.lay 44 (putB 1 K) (by rw [putB_len]; omega) hp
 have S9:=S8.put 9 45 q9 (putB 1 t.st) rfl (by rw [putB_len,e9]) o9
 have B9:=B8.lay 45 (putB 1 t.st) (by rw [putB_len]; omega) hp
 have S10:=S9.put 10 46 q10 (putB 1 t.ms) rfl (by rw [putB_len,e10]) o10
 have B10:=B9.lay 46 (putB 1 t.ms) (by rw [putB_len]; omega) hp
 have S11:=S10.put 11 47 q11 (putB 1 k) rfl (by rw [putB_len,e11]) o11
 have B11:=B10.lay 47 (putB 1 k) (by rw [putB_len]; omega) hp
 have S12:=S11.put 13 52 q13 (putB 4 0) rfl (by rw [putB_len,e13]) o13
 have B12:=B11.lay 52 (putB 4 0) (by rw [putB_len]; omega) hp
 have S13:=S12.put 14 56 q14 t.key rfl (by rw [<- hK,e14]) o14
 have B13:=B12.lay 56 t.key (by rw [<- hK]; omega) hp
 have S14:=S13.put 12 48 q12 (putB 4 V) rfl (by rw [putB_len,e12]) o12
 have B14:=B13.lay 48 (putB 4 V) (by rw [putB_len]; omega) hp
 have S15:=S14.put 15 (56 + K) q15 t.val rfl (by rw [<- hV,e15]) (off_15 K V)
 have B15:=B14.lay (56 + K) t.val (by rw [<- hV]; omega) hp
 have S16:=S15.put 16 (56 + K + V) q16 [13,10] rfl (by rw [e16]; rfl) (off_16 K V)
 have B16:=B15.lay (56 + K + V) [13,10] (by simp only [List.length_cons,List.length_nil]; omega) hp
 have e:=B16.eq hp (E:=Whole.enc ⟨0,0,0,gen,k,t⟩) (by rw [<- hs,S16.eq]; simp only [Whole.enc,Whole.segs, <- hK, <- hV,qO,qN])
 rw [<- e]
 simp only [itemB,layV,h56,h52,h47,h46,h45,h44,h40,h32,h24,h16,links, <- hK, <- hV]
section
variable {l:List UInt8} {p:Nat} {I:Whole} (h:Has l p I) (v:Nat)
include h
omit v in
end
end Go.Proofs.YtfjiphibalhcgaaGreat.Itm
/-
  A Set that one class fills: in plain numbers.
-/
namespace Go.Proofs.YtfjiphibalhcgaaGreat.Cls
open Go.RowKit Base MapG
structure Fl (d:Cf) (k u t:Nat) (s:St):Prop where
  good:Good d s
  own:∀ i,i < d.np -> s.own i = decide (i * d.n k < u)
  cls:∀ i,s.own i = true -> s.cls i = k
  lvs:∀ i,s.lvs i = false
  tkn:∀ i x,s.own i = true -> x < d.n k -> s.tkn i x = decide (i * d.n k + x < t)
  gens:∀ i x,s.gens i x = 0
  old:∀ i x,s.old i x = 0
  other:∀ j,j ≠ k -> s.free j = []
  desc:(s.free k).Pairwise (· > ·)
  rt:s.rt k = t
theorem dm {n t i x:Nat} (hn : 1 <= n) (hx:x < n) (h:i * n + x = t):i = t / n /\ x = t % n:=by
  subst h
  rw [Nat.add_comm,Nat.add_mul_div_right _ _ (by omega),Nat.div_eq_of_lt hx,Nat.add_mul_mod_self_right,Nat.mod_eq_of_lt hx]
  exact ⟨(Nat.zero_add i).symm,rfl⟩
section
variable {d:Cf} (ok:d.Ok) {k u t:Nat} (hk:k < d.nc) {s:St}
include ok hk
end
theorem find_hnd {d:Cf} (ok:d.Ok) {s:St} {i x G:Nat} (hi:i < d.np) (ho:s.own i = true) (hc:s.cls i < d.nc) (hx:x < d.n (s.cls i)) (ht:s.tkn i x = true) (hg:s.gens i x = G) :
    findN d s (hnd (i * d.ps + x * d.sz (s.cls i)) G) = some (i,x,i * d.ps + x * d.sz (s.cls i)):=by
  obtain ⟨p1,p2,p3,p4,p5⟩:=place_of ok (i:=i) hc hx
  have hz:=ok.sz _ hc
  have h1:(i + 1) * d.ps <= d.np * d.ps:=Nat.mul_le_mul_right _ hi
  rw [Nat.succ_mul,Nat.mul_comm d.np] at h1
  have hps8:=ok.ps8
  have hps:=ok.ps
  have hpsb:d.ps * d.np <= 1048576 * 1024:=Nat.mul_le_mul ok.psb ok.npb
  have h8:(i * d.ps + x * d.sz (s.cls i)) % 8 = 0:=by
    rw [Nat.add_mod,Nat.mul_mod,hps8,Nat.mul_zero,Nat.zero_mod,p5]
  generalize hp:i * d.ps + x * d.sz (s.cls i) = p at *
  have hH:hnd p G % 4294967296 = p / 8 + 1:=by unfold hnd; omega
  have hD:hnd p G / 4294967296 = G:=by unfold hnd; omega
  have hb:p + 8 <= d.ps * d.np:=by omega
  unfold findN
  rw [hH,hD,if_neg (by omega),show (p / 8 + 1 - 1) * 8 = p by omega]
  have hch:chunkN d s (p:Int) = some (i,x):=by
    unfold chunkN
    rw [if_pos ⟨by omega,by omega⟩,Int.toNat_natCast,p1,p2,if_pos ⟨ho,Nat.mul_mod_left _ _,by rw [p3]; exact hx⟩,p3]
  rw [hch]
  simp only
  rw [if_pos ⟨ht,hg⟩]
end Go.Proofs.YtfjiphibalhcgaaGreat.Cls
