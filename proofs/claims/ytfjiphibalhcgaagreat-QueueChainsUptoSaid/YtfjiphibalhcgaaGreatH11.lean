/-
  Contracts and lemmas, joined: QueueChainsLaw.
-/
import Derived.Deep.CutBlock
import Derived.Test.YtfjiphibalhcgaaGreatH9
import Derived.Test.YtfjiphibalhcgaaGreatH10
set_option linter.unusedSimpArgs false
set_option linter.unusedVariables false
set_option linter.unusedSectionVars false
set_option maxRecDepth 100000
/-
  The law QueueChains (printed by gen_qchains.py).
-/
namespace Go.Proofs.YtfjiphibalhcgaaGreat.Que
open Go.RowKit Base Arena Cls Itm
def slN:Value -> Nat
 | .slice _ n _ => n
 | _ => 0
set_option maxHeartbeats 1600000 in
theorem queueChainsC (W:World) (a0:Option Addr) (cap:Nat) (l:List Op6) (hP:∀ (k:Nat) (hk:k < l.length),ORow W a0 k l[k]) (hl:l.length <= maxLen) :
  Calls Tryz.prog 6 #[.slice a0 l.length cap] W fun e w' => e = .returned (.bool true) /\ Below W.heap.size W w':=by
 have WC:=Lib.hid wakesC
 have nC:=Lib.hid numC6
 have BC:=Lib.hid (begunC6 W)
 have HP:=Lib.hid hP
 unfold maxLen at hl
 clear hP
 obtain ⟨N,hN⟩:∃ N,W.heap.size = N:=⟨_,rfl⟩
 rw [hN] at BC ⊢
 replace hN:=Lib.hid hN
 go_enter Tryz.func6,Tryz.ntmps6
 go_wp2_with fail
 refine BC.out.mono ?_
 rintro e w1 ⟨b1,W1,rfl,A1⟩
 have G1:GoC N W W1.b w1 0 none 0 0:=GoI.on ⟨b1,CI.new A1,rfl,own_nil _ _ _,fun b e => (by cases e)⟩ _ rfl
 generalize W1.b = b at *
 replace G1:=Lib.hid G1
 clear b1 A1 BC
 go_wp2_with fail
 go_loopw [4,5] (fun vr vi wr => ∃ (i n:Nat) (A:Option Addr) (cp:Nat),vi = .int .i64 (i:Int) /\ vr = .slice A n cp /\ i <= l.length /\ i <= 250 /\ n <= 300 /\ Hid (GoC N W b wr i A n cp)) (fun _ vi _ => l.length - (intOf vi).toNat)
 case atStart => exact ⟨0,0,none,0,rfl,rfl,Nat.zero_le _,Nat.zero_le _,Nat.zero_le _,G1⟩
 case round =>
  obtain ⟨i,n,A,cp,rfl,rfl,hi,hi2,hn,G⟩:=hrel
  obtain ⟨W2,s2,bs2,Z2,Ls2,r2,laid2,told2,eb,GI⟩:=G.out
  clear G G1
  by_cases hlt:i < l.length /\ i < 250
  ·obtain ⟨h1,h2⟩:=hlt
   have d1:decide ((i:Int) < (l.length:Int)) = true:=decide_eq_true (by omega)
   have d1':decide (i < l.length) = true:=decide_eq_true h1
   have d2:decide ((i:Int) < 250) = true:=decide_eq_true (by omega)
   have q1:IntKind.i64.wrap ((i:Int) + 1) = (i:Int) + 1:=IntWalk.i64_in _ (by omega)
   have i0:(0:Int) <= (i:Int):=by omega
   have i1:(i:Int) < (l.length:Int):=by omega
   obtain ⟨b0,off,rfl,hbl,ok,O1⟩:=HP.out i h1
   have hbN:b0 < N:=by rw [<- hN.out]; exact hbl
   generalize l[i] = o at *
   obtain ⟨z0,z1,z2,z3,z4,z5⟩:=O1.below GI.bel hbN
   obtain ⟨M,hM⟩:∃ M,M = wr.heap.size:=⟨_,rfl⟩
   obtain ⟨w1,hw1⟩:∃ w1,w1 = wr.alloc (.cells o.cells 28):=⟨_,rfl⟩
   have B1:Blk w1 M 28 o.cells:=by rw [hw1,hM]; exact Blk.new wr _ _
   have b1:Below wr.heap.size wr w1:=by rw [hw1]; exact (Below.refl _ _).alloc (Nat.le_refl _) _
   have GI1:=GI.below b1
   have nM:∀ j,¬ W2.foot qc s2 j M:=fun j e => by have:=GI.ci.wat.lt j M e; omega
   have gM:∀ g,(Value.slice A n cp).ownBlock = some g -> g ≠ M:=fun g e => by have:=own_blockN GI.own e; omega
   have tle:told2.length <= 250:=by have:=GI.ci.tl; omega
   have elen:=GI.len
   unfold Op6.cells at hw1
   replace GI1:=Lib.hid GI1
   replace hw1:=Lib.hid hw1
   replace hM:=Lib.hid hM
   replace eb:=Lib.hid eb
   replace nM:=Lib.hid nM
   replace gM:=Lib.hid gM
   clear GI O1 hbl b1
   go_upto_region 9 with fail
   rw [<- hw1.out, <- hM.out]
   obtain ⟨x0,x1,x2,x3,x4,x5⟩:=op6_cells B1
   replace B1:=Lib.hid B1
   replace ok:=Lib.hid ok
   replace elen:=Lib.hid elen
   clear z0 z1 z2 z3 z4 z5
   by_cases hr:o.raw = true
   ·rw [hr] at x5
    clear hr
    have GE:=Lib.hid ((GI1.out.more (Nat.le_succ i)).on b eb.out)
    go_wp2_with fail
    go_roundw
    case rel => exact ⟨i + 1,n,A,cp,by simp,rfl,by omega,by omega,hn,GE⟩
    case measure => simp [intOf] <;> omega
   have hraw:o.raw = false:=by simpa using hr
   rw [hraw] at x5
   replace hraw:=Lib.hid hraw
   clear hr
   by_cases h8 : 8 <= o.dO /\ o.dO ≠ 12
   ·have g8:decide (o.dO ≥ 8) = true:=decide_eq_true (by omega)
    have g8':decide ((8:Int) <= o.dO) = true:=decide_eq_true (by omega)
    have n12:(o.dO != 12) = true:=by rw [bne_iff_ne]; omega
    have n12':decide (o.dO = 12) = false:=decide_eq_false (by omega)
    clear h8
    have GE:=Lib.hid ((GI1.out.more (Nat.le_succ i)).on b eb.out)
    go_wp2_with fail
    go_roundw
    case rel => exact ⟨i + 1,n,A,cp,by simp,rfl,by omega,by omega,hn,GE⟩
    case measure => simp [intOf] <;> omega
   by_cases hm:o.dO = 1 \/ o.dO = 2
   ·have g8:decide (o.dO ≥ 8) = false:=decide_eq_false (by omega)
    have g8':decide ((8:Int) <= o.dO) = false:=decide_eq_false (by omega)
    have n12:(o.dO != 12) = true:=by rw [bne_iff_ne]; omega
    have n12':decide (o.dO = 12) = false:=decide_eq_false (by omega)
    have MC:=GI1.out.ci.made (by omega) o ok.out
    rw [eb.out] at MC
    unfold Op6.cells at MC
    rw [hraw.out] at MC
    have hs:decide (o.dO = 1) = true \/ decide (o.dO = 1) = false /\ decide (o.dO = 2) = true:=by
     rcases hm with e | e
     ·exact .inl (decide_eq_true e)
     ·exact .inr ⟨decide_eq_false (by omega),decide_eq_true e⟩
    have hs':(o.dO == 1) = decide (o.dO = 1) /\ (o.dO == 2) = decide (o.dO = 2):=⟨by cases h:(o.dO == 1) <;> simp_all,by cases h:(o.dO == 2) <;> simp_all⟩
    obtain ⟨hsa,hsb⟩:=hs'
    replace MC:=Lib.hid MC
    replace hm:=Lib.hid hm
    go_upto_region 10 with fail
    go_cut [48] from 41 to 48 (fun s48 wx => s48 = .bool true /\ w1 = wx)
    case first =>
     rcases hs with e | ⟨e,e'⟩
     ·rw [e] at hsa
      go_wp2_with fail
      go_meet
      exact ⟨rfl,rfl⟩
     ·rw [e] at hsa
      rw [e'] at hsb
      go_wp2_with fail
      go_meet
      exact ⟨rfl,rfl⟩
    case rest =>
     obtain ⟨rfl,rfl⟩:=hcut
     go_wp2_with fail
     refine MC.out.mono ?_
     rintro e w3 ⟨rfl,W3,s3,bs3,Z3,r3,laid3,told3,eb3,G3,C3,hcase⟩
     have C3:=C3
     obtain ⟨own3,far3,bel3⟩:=GI1.out.keep G3
     have eb3b:W3.b = b:=eb3
     obtain ⟨AT,cT,hvT⟩:=own_is C3.wat.told
     obtain ⟨T3,hT3⟩:∃ T3,T3 = told3.length:=⟨_,rfl⟩
     rw [<- hT3] at hvT
     have hT3b:T3 <= 251:=by have:=C3.tl; omega
     have eT:=elen.out
     have c4:∀ v,CI N v W3 s3 bs3 Z3 Ls2 r3 laid3 told3 (i + 1) -> v.cell? ⟨b,4,none⟩ = some (.slice AT T3 cT):=fun v C => by
      obtain ⟨-, -, -, -,y4⟩:=C.wat.cW
      rw [eb3b,hvT] at y4
      exact y4
     obtain ⟨xs,hxs⟩:∃ xs,xs = (told2.map (kdN s2 Ls2)).map iv:=⟨_,rfl⟩
     rw [<- hxs] at own3
     have st:T3 = n /\ GoI N W w3 W3 s3 bs3 Z3 Ls2 r3 laid3 told3 (i + 1) A n cp \/ T3 = n + 1 /\ (told3.map (kdN s3 Ls2)).map iv = xs ++ [iv 0]:=by
      rcases hcase with ⟨e1,e2⟩ | ⟨H0,e1,e2⟩
      ·refine .inl ⟨by rw [hT3,e2,eT],bel3,C3,by rw [e2,eT],?_,far3⟩
       rw [e1, <- hxs]
       exact own3
      ·refine .inr ⟨by rw [hT3,e1,List.length_append,List.length_singleton,eT],?_⟩
       rw [e2,List.map_append, <- hxs]
       rfl
     replace hxs:=Lib.hid hxs
     replace hT3:=Lib.hid hT3
     replace own3:=Lib.hid own3
     replace far3:=Lib.hid far3
     replace bel3:=Lib.hid bel3
     replace c4:=Lib.hid c4
     replace C3:=Lib.hid C3
     replace st:=Lib.hid st
     replace eb3b:=Lib.hid eb3b
     clear G3 hcase hvT eb3 MC x0 x1 x2 x3 x4 x5 hsa hsb hs eT
     go_wp2_with fail
     go_loopw [4] (fun v4 wx => ∃ (m:Nat) (A6:Option Addr) (cp6:Nat),v4 = .slice A6 m cp6 /\ m <= T3 /\ Hid (m = T3 /\ GoI N W wx W3 s3 bs3 Z3 Ls2 r3 laid3 told3 (i + 1) A6 m cp6 \/ m = n /\ T3 = n + 1 /\ wx = w3 /\ A6 = A /\ cp6 = cp /\ (told3.map (kdN s3 Ls2)).map iv = xs ++ [iv 0])) (fun v4 _ => T3 - slN v4)
     case atStart =>
      rcases st.out with ⟨e1,e2⟩ | ⟨e1,e2⟩
      ·exact ⟨n,A,cp,rfl,by omega,Lib.hid (.inl ⟨e1.symm,e2⟩)⟩
      ·exact ⟨n,A,cp,rfl,by omega,Lib.hid (.inr ⟨rfl,e1,rfl,rfl,rfl,e2⟩)⟩
     case round =>
      obtain ⟨m,A6,cp6,rfl,hmT,hs⟩:=hrel
      rcases hs.out with ⟨hm1,GX⟩ | ⟨hm1,e1,e2,e3,e4,e5⟩
      ·subst hm1
       have cx:=c4.out _ GX.ci
       have dm:decide ((m:Int) < (m:Int)) = false:=by simp
       have GE:=Lib.hid (GX.on b eb3b.out)
       clear GX hs st
       go_wp2_with fail
       go_roundw
       case rel => exact ⟨i + 1,m,A6,cp6,by simp,rfl,by omega,by omega,by omega,GE⟩
       case measure => simp [intOf] <;> omega
      ·subst hm1 e2 e3 e4
       have cx:=c4.out _ C3.out
       have hNw:=C3.out.wat.hN0
       have dm:decide ((m:Int) < (T3:Int)) = true:=decide_eq_true (by omega)
       have dm2:decide (m < T3) = true:=decide_eq_true (by omega)
       have dm3:m < T3:=by omega
       replace e1:=Lib.hid e1
       replace e5:=Lib.hid e5
       clear hs st
       go_wp2_with (at_builtin; refine wpList_app rfl _ _ _ rfl eiI N _ _ _ rfl (own3.out.alloc _) (wr.heap.size + 1) (some ⟨wr.heap.size,0,none⟩) 1 1 [.int .i64 0] rfl ?c1 ?c2 ?c3 ?c4 ?c5 ?_)
       case c1 => exact reads_v wr _ _
       case c2 => intro u hu; rw [List.mem_singleton] at hu; subst hu; rfl
       case c3 => unfold maxLen; omega
       case c4 => omega
       case c5 => rw [World.size_alloc]; omega
       intro VV w6 own6 hg6 hat6
       obtain ⟨A7,cp7,rfl⟩:=own_is own6
       have GX:=GoI.snoc (N:=N) bel3.out C3.out (hT3.out.symm.trans e1.out) own3.out far3.out e5.out hg6 own6 (fun d e => by
        rcases hat6 with h6 | h6
        ·rw [h6] at e; exact .inl e
        ·rw [h6] at e
         (try rw [World.size_alloc] at e)
         injection e with e
         exact .inr (by omega))
       replace GX:=Lib.hid GX
       clear own6 hg6 hat6
       go_wp2
       go_roundw
       case rel => exact ⟨m + 1,A7,cp7,rfl,by have:=e1.out; omega,Lib.hid (.inl ⟨by have:=e1.out; omega,GX.out⟩)⟩
       case measure => have:=e1.out; show T3 - (m + 1) < T3 - m; omega
   have e1:(o.dO == 1) = false:=by rw [beq_eq_false_iff_ne]; omega
   have f1:decide (o.dO = 1) = false:=decide_eq_false (by omega)
   have e2:(o.dO == 2) = false:=by rw [beq_eq_false_iff_ne]; omega
   have f2:decide (o.dO = 2) = false:=decide_eq_false (by omega)
   obtain ⟨y0,y1,y2,y3,y4⟩:=GI1.out.ci.wat.cW
   obtain ⟨AT,cT,hvT⟩:=own_is GI1.out.ci.wat.told
   have eT:=elen.out
   rw [eb.out] at y0 y1 y2 y3 y4
   rw [hvT,eT] at y4
   replace hvT:=Lib.hid hvT
   clear eT hm
   have hd8:o.dO < 8 \/ o.dO = 12:=by omega
   have g89:decide (o.dO ≥ 8) = false \/ decide (o.dO ≥ 8) = true /\ (o.dO != 12) = false:=by
    rcases hd8 with e | e
    ·exact .inl (decide_eq_false (by omega))
    ·exact .inr ⟨decide_eq_true (by omega),by rw [bne_eq_false_iff_eq]; exact e⟩
   have g8b:decide ((8:Int) <= o.dO) = decide (o.dO ≥ 8):=rfl
   have n12b:decide (o.dO = 12) = !(o.dO != 12):=by
    cases h:decide (o.dO = 12)
    ·rw [show (o.dO != 12) = true by rw [bne_iff_ne]; exact of_decide_eq_false h]; rfl
    ·rw [show (o.dO != 12) = false by rw [bne_eq_false_iff_eq]; exact of_decide_eq_true h]; rfl
   replace h8:=Lib.hid h8
   go_cut [40] from 29 to 40 (fun s40 wx => s40 = .bool false /\ w1 = wx)
   case first =>
    rcases g89 with e | ⟨e,e'⟩
    ·rw [e] at g8b
     clear n12b
     go_wp2_with fail
     go_meet
     exact ⟨rfl,rfl⟩
    ·rw [e] at g8b
     rw [e'] at n12b
     go_wp2_with fail
     go_meet
     exact ⟨rfl,rfl⟩
   case rest =>
    obtain ⟨rfl,rfl⟩:=hcut
    clear g89 g8b n12b
    by_cases hn0:n = 0
    ·have t1:((n:Int) == 0) = true:=by rw [beq_iff_eq]; omega
     have t2:decide ((n:Int) = 0) = true:=decide_eq_true (by omega)
     have t3:decide (n = 0) = true:=decide_eq_true hn0
     have GE:=Lib.hid ((GI1.out.more (Nat.le_succ i)).on b eb.out)
     replace hn0:=Lib.hid hn0
     go_wp2_with fail
     go_roundw
     case rel => exact ⟨i + 1,n,A,cp,by simp,rfl,by omega,by omega,hn,GE⟩
     case measure => simp [intOf] <;> omega
    have t1:((n:Int) == 0) = false:=by rw [beq_eq_false_iff_ne]; omega
    have t2:decide ((n:Int) = 0) = false:=decide_eq_false (by omega)
    have t3:decide (n = 0) = false:=decide_eq_false hn0
    by_cases hd3:o.dO = 3
    ·have e3:(o.dO == 3) = true:=by rw [beq_iff_eq]; omega
     have f3:decide (o.dO = 3) = true:=decide_eq_true hd3
     have GE:=Lib.hid ((GI1.out.more (Nat.le_succ i)).on b eb.out)
     replace hn0:=Lib.hid hn0
     replace hd3:=Lib.hid hd3
     go_wp2_with fail
     go_roundw
     case rel => exact ⟨i + 1,n,A,cp,by simp,rfl,by omega,by omega,hn,GE⟩
     case measure => simp [intOf] <;> omega
    have e3:(o.dO == 3) = false:=by rw [beq_eq_false_iff_ne]; omega
    have f3:decide (o.dO = 3) = false:=decide_eq_false hd3
    have hnp : 1 <= n:=by omega
    have WA:=fun w => withinI (w:=w) o.a n ok.out.a hnp (by omega)
    have hkn:=withinI_lt o.a hnp
    have WB:=fun w => withinI (w:=w) o.b 3 ok.out.b (by omega) (by omega)
    have hk3:=withinI_lt o.b (show 1 <= 3 by omega)
    rw [show ((3:Nat):Int) = 3 from rfl] at WB hk3
    have WD:=fun w => withinI (w:=w) o.c n ok.out.c hnp (by omega)
    have hmn:=withinI_lt o.c hnp
    generalize (o.a % (n:Int)).toNat = k at *
    generalize (o.b % 3).toNat = kk at *
    generalize (o.c % (n:Int)).toNat = m at *
    have eT:=elen.out
    obtain ⟨H,hH⟩:∃ H,told2[k]? = some H:=⟨told2[k]'(by omega),List.getElem?_eq_getElem _⟩
    obtain ⟨gT,cT',hvu,u1⟩:=own_uv GI1.out.ci.wat.told hH
    rw [hvT.out,eT] at hvu
    injection hvu with hvu
    subst hvu
    obtain ⟨gI,eA⟩:=own_someI GI1.out.own hnp
    subst eA
    have qk:IntKind.i64.wrap (1 + (kk:Int)) = ((kk + 1:Nat):Int):=by rw [IntWalk.i64_in _ (by omega)]; omega
    have k0:(0:Int) <= (k:Int):=by omega
    have k1:(k:Int) < (n:Int):=by omega
    replace WA:=Lib.hid WA
    replace WB:=Lib.hid WB
    replace WD:=Lib.hid WD
    replace hH:=Lib.hid hH
    replace hn0:=Lib.hid hn0
    replace hd3:=Lib.hid hd3
    clear eT
    go_upto_region 16 with fail
    go_quiet (first | (go_at_call 16; with_reducible exact quiet_left (WA.out _)) | fail)
    rename Nat => nq
    obtain ⟨w2,hw2⟩:∃ w2,w2 = w1.drewN nq:=⟨_,rfl⟩
    rw [<- hw2]
    have b2:Below w1.heap.size w1 w2:=by rw [hw2]; exact below_drewN (Below.refl _ _) nq
    have GI2:=Lib.hid (GI1.out.below b2)
    have B2:Blk w2 M 28 o.cells:=B1.out.below b2 B1.out.lt
    replace hw2:=Lib.hid hw2
    have u2:=(b2.cell (p:=⟨gT,k,none⟩) (World.block_lt_of_cell? _ _ u1)).trans u1
    have y1':=(b2.cell (p:=⟨b,1,none⟩) (World.block_lt_of_cell? _ _ y1)).trans y1
    have y3':=(b2.cell (p:=⟨b,3,none⟩) (World.block_lt_of_cell? _ _ y3)).trans y3
    have y4':=(b2.cell (p:=⟨b,4,none⟩) (World.block_lt_of_cell? _ _ y4)).trans y4
    clear x0 x1 x2 x3 x4 x5 y0 y1 y2 y3 y4 u1 b2 GI1 B1
    obtain ⟨x0,x1,x2,x3,x4,x5⟩:=op6_cells B2
    replace B2:=Lib.hid B2
    go_wp2_with fail
    refine (WB.out _).mono ?_
    rintro e w' ⟨rfl,rfl⟩
    clear WA WB
    go_upto_region 20 with fail
    by_cases hd12:o.dO = 12
    ·have e12:(o.dO == 12) = true:=by rw [beq_iff_eq]; omega
     have f12:decide (o.dO = 12) = true:=decide_eq_true hd12
     replace hd12:=Lib.hid hd12
     obtain ⟨G,hG⟩:∃ G,told2[m]? = some G:=⟨told2[m]'(by have:=elen.out; omega),List.getElem?_eq_getElem _⟩
     have SW:=fun v (bv:Below w2.heap.size w2 v) => swapsC (GI2.out.below bv).ci (by omega) hH.out hG gI cp (by rw [elen.out]; exact own_less (GI2.out.below bv).own (Nat.zero_le _)) (fun j => (GI2.out.far gI rfl j)) (own_base GI2.out.own rfl)
     simp only [eb.out,elen.out] at SW
     replace SW:=Lib.hid SW
     replace hG:=Lib.hid hG
     go_upto_region 21 with fail
     refine QTail.region_quiet_tail 11 (by kernel_rfl) (by kernel_rfl) ?_
     simp only [List.take_succ_cons,List.take_zero,List.drop_succ_cons,List.drop_zero]
     repeat (go_big_quiet_step (first | (go_at_call 16; with_reducible exact quiet_left (WD.out _))))
     refine wpQuiet_nil ?_
     rintro _ ⟨nq2,rfl⟩
     obtain ⟨w4,hw4⟩:∃ w4,w4 = w2.drewN nq2:=⟨_,rfl⟩
     rw [<- hw4]
     have b4:Below w2.heap.size w2 w4:=by rw [hw4]; exact below_drewN (Below.refl _ _) nq2
     have SX:=Lib.hid (SW.out w4 b4)
     have GI4:=Lib.hid (GI2.out.below b4)
     replace hw4:=Lib.hid hw4
     clear SW b4 WD
     go_wp2_with fail
     refine SX.out.mono ?_
     rintro e w5 ⟨rfl,bs5,Z5,Ls5,C5,own5,o5⟩
     have GE:=Lib.hid (((GI4.out.swapped rfl C5 (by rw [elen.out]; exact own5) o5).more (Nat.le_succ i)).on b eb.out)
     clear C5 own5 o5 SX
     go_wp2_with fail
     go_roundw
     case rel => exact ⟨i + 1,n,_,cp,by simp,rfl,by omega,by omega,hn,GE⟩
     case measure => simp [intOf] <;> omega
    have e12:(o.dO == 12) = false:=by rw [beq_eq_false_iff_ne]; omega
    have f12:decide (o.dO = 12) = false:=decide_eq_false hd12
    replace hd12:=Lib.hid hd12
    clear WD
    have hH9:=GI2.out.ci.tlt H (List.mem_of_getElem? hH.out)
    go_upto_block 4 with fail
    go_cut [9,10] from 112 to 148 (fun s9 s10 wx => ∃ (RR x:Nat) (bs4:List UInt8) (Z4:Nat -> Option Zd) (Ls4:Nat -> Nat -> List Nat),s9 = .int .i64 (x:Int) /\ s10 = .int .i64 (RR:Int) /\ Hid (CI N wx W2 s2 bs4 Z4 Ls4 r2 laid2 told2 i) /\ Hid (Only (Two W2.L W2.gl) w2 wx) /\ Hid (RR = 0 ↔ H ∈ laid2 /\ (kdN s2 Ls2 H = 0 ↔ o.dO = 4 \/ o.dO = 5)) /\ Hid (told2.map (kdN s2 Ls4) = if RR = 0 then (told2.map (kdN s2 Ls2)).set k x else told2.map (kdN s2 Ls2)))
    case first =>
     by_cases hd4:o.dO = 4
     ·have e4:(o.dO == 4) = true:=by rw [beq_iff_eq]; omega
      have f4:decide (o.dO = 4) = true:=decide_eq_true (by omega)
      have hP:(o.dO = 4 \/ o.dO = 5) = True:=by exact eq_true (by omega)
      have SX:Calls Tryz.prog 22 #[.pointer (some ⟨W2.gq,0,none⟩),.int .u64 (H:Int),.int .i64 ((kk:Int) + 1)] w2 fun e v' => ∃ RR:Nat,e = .returned (.int .i64 (RR:Int)) /\ ∃ bs' Z' Ls',CI N v' W2 s2 bs' Z' Ls' r2 laid2 told2 i /\ Only (Two W2.L W2.gl) w2 v' /\ (RR = 0 ↔ H ∈ laid2 /\ (kdN s2 Ls2 H = 0 ↔ o.dO = 4 \/ o.dO = 5)) /\ told2.map (kdN s2 Ls') = if RR = 0 then (told2.map (kdN s2 Ls2)).set k (kk + 1) else told2.map (kdN s2 Ls2):=by
       have C:=GI2.out.ci
       refine ((pushC C.wat.q H hH9 ((kk:Int) + 1)).1).mono ?_
       rintro e v' ⟨rfl,D⟩
       obtain ⟨bs',Z',C4, -,o4⟩:=C.turn D
       obtain ⟨iff,row⟩:=GI2.out.ci.pushed hH.out (kind:=(kk:Int) + 1) (by omega) (by omega) false
       refine ⟨_,rfl,bs',Z',_,C4,o4,?_,?_⟩
       ·rw [hP,iff]
        exact and_congr_right fun _ => (iff_true_right trivial).symm
       ·have rr:=(row C4)
        rw [show ((kk:Int) + 1).toNat = kk + 1 by omega] at rr
        exact rr
      replace SX:=Lib.hid SX
      replace hP:=Lib.hid hP
      replace hd4:=Lib.hid hd4
      go_wp2_with fail
      refine SX.out.mono ?_
      rintro e w4 ⟨RR,rfl,bs4,Z4,Ls4,C4,o4,iff,row⟩
      replace C4:=Lib.hid C4
      replace o4:=Lib.hid o4
      replace iff:=Lib.hid iff
      replace row:=Lib.hid row
      clear SX
      go_wp2_with fail
      refine (nC.out _ _).mono ?_
      rintro e w' ⟨rfl,rfl⟩
      go_wp2_with fail
      go_meet
      exact ⟨RR,kk + 1,bs4,Z4,Ls4,by first | rfl | simp,rfl,C4,o4,iff,row⟩
     have e4:(o.dO == 4) = false:=by rw [beq_eq_false_iff_ne]; omega
     have f4:decide (o.dO = 4) = false:=decide_eq_false (by omega)
     by_cases hd5:o.dO = 5
     ·have e5:(o.dO == 5) = true:=by rw [beq_iff_eq]; omega
      have f5:decide (o.dO = 5) = true:=decide_eq_true (by omega)
      have hP:(o.dO = 4 \/ o.dO = 5) = True:=by exact eq_true (by omega)
      have SX:Calls Tryz.prog 23 #[.pointer (some ⟨W2.gq,0,none⟩),.int .u64 (H:Int),.int .i64 ((kk:Int) + 1)] w2 fun e v' => ∃ RR:Nat,e = .returned (.int .i64 (RR:Int)) /\ ∃ bs' Z' Ls',CI N v' W2 s2 bs' Z' Ls' r2 laid2 told2 i /\ Only (Two W2.L W2.gl) w2 v' /\ (RR = 0 ↔ H ∈ laid2 /\ (kdN s2 Ls2 H = 0 ↔ o.dO = 4 \/ o.dO = 5)) /\ told2.map (kdN s2 Ls') = if RR = 0 then (told2.map (kdN s2 Ls2)).set k (kk + 1) else told2.map (kdN s2 Ls2):=by
       have C:=GI2.out.ci
       refine ((pushC C.wat.q H hH9 ((kk:Int) + 1)).2).mono ?_
       rintro e v' ⟨rfl,D⟩
       obtain ⟨bs',Z',C4, -,o4⟩:=C.turn D
       obtain ⟨iff,row⟩:=GI2.out.ci.pushed hH.out (kind:=(kk:Int) + 1) (by omega) (by omega) true
       refine ⟨_,rfl,bs',Z',_,C4,o4,?_,?_⟩
       ·rw [hP,iff]
        exact and_congr_right fun _ => (iff_true_right trivial).symm
       ·have rr:=(row C4)
        rw [show ((kk:Int) + 1).toNat = kk + 1 by omega] at rr
        exact rr
      replace SX:=Lib.hid SX
      replace hP:=Lib.hid hP
      replace hd5:=Lib.hid hd5
      go_wp2_with fail
      refine SX.out.mono ?_
      rintro e w4 ⟨RR,rfl,bs4,Z4,Ls4,C4,o4,iff,row⟩
      replace C4:=Lib.hid C4
      replace o4:=Lib.hid o4
      replace iff:=Lib.hid iff
      replace row:=Lib.hid row
      clear SX
      go_wp2_with fail
      refine (nC.out _ _).mono ?_
      rintro e w' ⟨rfl,rfl⟩
      go_wp2_with fail
      go_meet
      exact ⟨RR,kk + 1,bs4,Z4,Ls4,by first | rfl | simp,rfl,C4,o4,iff,row⟩
     have e5:(o.dO == 5) = false:=by rw [beq_eq_false_iff_ne]; omega
     have f5:decide (o.dO = 5) = false:=decide_eq_false (by omega)
     by_cases hd6:o.dO = 6
     ·have e6:(o.dO == 6) = true:=by rw [beq_iff_eq]; omega
      have f6:decide (o.dO = 6) = true:=decide_eq_true (by omega)
      have hP:(o.dO = 4 \/ o.dO = 5) = False:=by exact eq_false (by omega)
      have SX:Calls Tryz.prog 24 #[.pointer (some ⟨W2.gq,0,none⟩),.int .u64 (H:Int)] w2 fun e v' => ∃ RR:Nat,e = .returned (.int .i64 (RR:Int)) /\ ∃ bs' Z' Ls',CI N v' W2 s2 bs' Z' Ls' r2 laid2 told2 i /\ Only (Two W2.L W2.gl) w2 v' /\ (RR = 0 ↔ H ∈ laid2 /\ (kdN s2 Ls2 H = 0 ↔ o.dO = 4 \/ o.dO = 5)) /\ told2.map (kdN s2 Ls') = if RR = 0 then (told2.map (kdN s2 Ls2)).set k (0) else told2.map (kdN s2 Ls2):=by
       have C:=GI2.out.ci
       refine (dropC C.wat.q H hH9).mono ?_
       rintro e v' ⟨rfl,D⟩
       obtain ⟨bs',Z',C4, -,o4⟩:=C.turn D
       obtain ⟨iff,row⟩:=GI2.out.ci.dropped hH.out
       refine ⟨_,rfl,bs',Z',_,C4,o4,?_,?_⟩
       ·rw [hP,iff]
        exact and_congr_right fun _ => by rw [iff_false]
       ·have rr:=row
        exact rr
      replace SX:=Lib.hid SX
      replace hP:=Lib.hid hP
      replace hd6:=Lib.hid hd6
      go_wp2_with fail
      refine SX.out.mono ?_
      rintro e w4 ⟨RR,rfl,bs4,Z4,Ls4,C4,o4,iff,row⟩
      replace C4:=Lib.hid C4
      replace o4:=Lib.hid o4
      replace iff:=Lib.hid iff
      replace row:=Lib.hid row
      clear SX
      go_wp2_with fail
      refine (nC.out _ _).mono ?_
      rintro e w' ⟨rfl,rfl⟩
      go_wp2_with fail
      go_meet
      exact ⟨RR,0,bs4,Z4,Ls4,by first | rfl | simp,rfl,C4,o4,iff,row⟩
     have e6:(o.dO == 6) = false:=by rw [beq_eq_false_iff_ne]; omega
     have f6:decide (o.dO = 6) = false:=decide_eq_false (by omega)
     have hP:(o.dO = 4 \/ o.dO = 5) = False:=by exact eq_false (by omega)
     have SX:Calls Tryz.prog 25 #[.pointer (some ⟨W2.gq,0,none⟩),.int .u64 (H:Int),.int .i64 ((kk:Int) + 1)] w2 fun e v' => ∃ RR:Nat,e = .returned (.int .i64 (RR:Int)) /\ ∃ bs' Z' Ls',CI N v' W2 s2 bs' Z' Ls' r2 laid2 told2 i /\ Only (Two W2.L W2.gl) w2 v' /\ (RR = 0 ↔ H ∈ laid2 /\ (kdN s2 Ls2 H = 0 ↔ o.dO = 4 \/ o.dO = 5)) /\ told2.map (kdN s2 Ls') = if RR = 0 then (told2.map (kdN s2 Ls2)).set k (kk + 1) else told2.map (kdN s2 Ls2):=by
      have C:=GI2.out.ci
      refine (shiftC C.wat.q H hH9 ((kk:Int) + 1)).mono ?_
      rintro e v' ⟨rfl,D⟩
      obtain ⟨bs',Z',C4, -,o4⟩:=C.turn D
      obtain ⟨iff,row⟩:=GI2.out.ci.shifted hH.out (kind:=(kk:Int) + 1) (by omega) (by omega)
      refine ⟨_,rfl,bs',Z',_,C4,o4,?_,?_⟩
      ·rw [hP,iff]
       exact and_congr_right fun _ => by rw [iff_false]
      ·have rr:=(row C4)
       rw [show ((kk:Int) + 1).toNat = kk + 1 by omega] at rr
       exact rr
     replace SX:=Lib.hid SX
     replace hP:=Lib.hid hP
     go_wp2_with fail
     refine SX.out.mono ?_
     rintro e w4 ⟨RR,rfl,bs4,Z4,Ls4,C4,o4,iff,row⟩
     replace C4:=Lib.hid C4
     replace o4:=Lib.hid o4
     replace iff:=Lib.hid iff
     replace row:=Lib.hid row
     clear SX
     go_wp2_with fail
     refine (nC.out _ _).mono ?_
     rintro e w' ⟨rfl,rfl⟩
     go_wp2_with fail
     go_meet
     exact ⟨RR,kk + 1,bs4,Z4,Ls4,by first | rfl | simp,rfl,C4,o4,iff,row⟩
    case rest =>
     obtain ⟨RR,x,bs4,Z4,Ls4,rfl,rfl,C4h,o4,iff,row⟩:=hcut
     clear y1' y3' y4' u2 x0 x1 x2 x3 x4 x5
     obtain ⟨-, -, -,y3,y4⟩:=C4h.out.wat.cW
     rw [eb.out] at y3 y4
     rw [hvT.out,elen.out] at y4
     obtain ⟨gT2,cT2,hvu2,u4⟩:=own_uv C4h.out.wat.told hH.out
     rw [hvT.out,elen.out] at hvu2
     injection hvu2 with h1 h2 h3
     injection h1 with h1
     injection h1 with h1
     subst h1
     obtain ⟨own4,bel4⟩:=GI2.out.held o4.out
     have B4:Blk wc M 28 o.cells:=(o4.out.block M B2.out.lt fun e2 => by
      obtain ⟨j,hj⟩:=GI2.out.two e2
      exact nM.out j hj).trans B2.out
     obtain ⟨x0, -, -, -, -, -⟩:=op6_cells B4
     obtain ⟨c7,e7,u7⟩:=own_cellI own4 (i:=k) (x:=iv (kdN s2 Ls2 H)) (by rw [List.getElem?_map,List.getElem?_map,hH.out]; rfl)
     have IQ:∀ m,Calls Tryz.prog 26 #[.pointer (some ⟨W2.R.b,0,none⟩),.int .u64 (H:Int)] (wc.drewN m) fun e w' => e = .returned (.bool (decide (H ∈ laid2))) /\ ∃ m',(wc.drewN m).drewN m' = w':=fun m => (C4h.out.below (below_drewN (Below.refl _ _) m)).isC (by omega) (List.mem_of_getElem? hH.out)
     have iff2:=iff.out
     generalize hKD:kdN s2 Ls2 H = KD at u7 iff2
     replace own4:=Lib.hid own4
     replace bel4:=Lib.hid bel4
     replace hKD:=Lib.hid hKD
     clear h2 h3 B4 iff
     unfold iv at u7
     obtain ⟨BL,hBL⟩:∃ BL,BL = decide (H ∈ laid2):=⟨_,rfl⟩
     rw [<- hBL] at IQ
     obtain ⟨dd,hdd⟩:∃ dd,dd = o.dO:=⟨_,rfl⟩
     rw [<- hdd] at iff2
     replace IQ:=Lib.hid IQ
     go_upto_region 32 with fail
     go_cut [11] from 149 to 176 (fun s11 wx => s11 = .bool (decide (RR = 0)) /\ ∃ m,wx = wc.drewN m)
     case first =>
      cases BL with
      | false =>
       have hla:H ∉ laid2:=of_decide_eq_false hBL.symm
       have hRn:RR ≠ 0:=fun e => hla (iff2.1 e).1
       replace hla:=Lib.hid hla
       replace hBL:=Lib.hid hBL
       replace hdd:=Lib.hid hdd
       clear iff2
       go_quiet (first | (go_at_call 26; with_reducible exact quiet_more7 (IQ.out _)) | fail)
       rename Nat => nq3
       go_wp2_with fail
       go_meet
       exact ⟨congrArg Value.bool (decide_eq_false hRn).symm,nq3,rfl⟩
      | true =>
       have hla:H ∈ laid2:=of_decide_eq_true hBL.symm
       replace hBL:=Lib.hid hBL
       by_cases hk9:KD = 0
       ·have v1:((KD:Int) == 0) = true:=by rw [beq_iff_eq]; omega
        have v2:decide ((KD:Int) = 0) = true:=decide_eq_true (by omega)
        have v3:decide (KD = 0) = true:=decide_eq_true hk9
        by_cases hd4:dd = 4
        ·have e4:(o.dO == 4) = true:=by rw [beq_iff_eq]; omega
         have f4:decide (o.dO = 4) = true:=decide_eq_true (by omega)
         have hRy:RR = 0:=iff2.2 ⟨hla,⟨fun _ => by omega,fun _ => hk9⟩⟩
         replace hd4:=Lib.hid hd4
         replace hla:=Lib.hid hla
         replace hk9:=Lib.hid hk9
         replace hdd:=Lib.hid hdd
         clear iff2
         replace hRy:=Lib.hid hRy
         go_quiet (first | (go_at_call 26; with_reducible exact quiet_more7 (IQ.out _)) | fail)
         rename Nat => nq3
         go_wp2_with fail
         go_meet
         exact ⟨congrArg Value.bool (decide_eq_true hRy.out).symm,nq3,rfl⟩
        have e4:(o.dO == 4) = false:=by rw [beq_eq_false_iff_ne]; omega
        have f4:decide (o.dO = 4) = false:=decide_eq_false (by omega)
        by_cases hd5:dd = 5
        ·have e5:(o.dO == 5) = true:=by rw [beq_iff_eq]; omega
         have f5:decide (o.dO = 5) = true:=decide_eq_true (by omega)
         have hRy:RR = 0:=iff2.2 ⟨hla,⟨fun _ => by omega,fun _ => hk9⟩⟩
         replace hd4:=Lib.hid hd4
         replace hd5:=Lib.hid hd5
         replace hla:=Lib.hid hla
         replace hk9:=Lib.hid hk9
         replace hdd:=Lib.hid hdd
         clear iff2
         replace hRy:=Lib.hid hRy
         go_quiet (first | (go_at_call 26; with_reducible exact quiet_more7 (IQ.out _)) | fail)
         rename Nat => nq3
         go_wp2_with fail
         go_meet
         exact ⟨congrArg Value.bool (decide_eq_true hRy.out).symm,nq3,rfl⟩
        have e5:(o.dO == 5) = false:=by rw [beq_eq_false_iff_ne]; omega
        have f5:decide (o.dO = 5) = false:=decide_eq_false (by omega)
        have hRn:RR ≠ 0:=fun e => by have:=(iff2.1 e).2.1 hk9; omega
        replace hd4:=Lib.hid hd4
        replace hd5:=Lib.hid hd5
        replace hla:=Lib.hid hla
        replace hk9:=Lib.hid hk9
        replace hdd:=Lib.hid hdd
        clear iff2
        replace hRn:=Lib.hid hRn
        go_quiet (first | (go_at_call 26; with_reducible exact quiet_more7 (IQ.out _)) | fail)
        rename Nat => nq3
        go_wp2_with fail
        go_meet
        exact ⟨congrArg Value.bool (decide_eq_false hRn.out).symm,nq3,rfl⟩
       ·have v1:((KD:Int) == 0) = false:=by rw [beq_eq_false_iff_ne]; omega
        have v2:decide ((KD:Int) = 0) = false:=decide_eq_false (by omega)
        have v3:decide (KD = 0) = false:=decide_eq_false hk9
        by_cases hd4:dd = 4
        ·have e4:(o.dO == 4) = true:=by rw [beq_iff_eq]; omega
         have f4:decide (o.dO = 4) = true:=decide_eq_true (by omega)
         have hRn:RR ≠ 0:=fun e => hk9 ((iff2.1 e).2.2 (by omega))
         replace hd4:=Lib.hid hd4
         replace hla:=Lib.hid hla
         replace hk9:=Lib.hid hk9
         replace hdd:=Lib.hid hdd
         clear iff2
         replace hRn:=Lib.hid hRn
         go_quiet (first | (go_at_call 26; with_reducible exact quiet_more7 (IQ.out _)) | fail)
         rename Nat => nq3
         go_wp2_with fail
         go_meet
         exact ⟨congrArg Value.bool (decide_eq_false hRn.out).symm,nq3,rfl⟩
        have e4:(o.dO == 4) = false:=by rw [beq_eq_false_iff_ne]; omega
        have f4:decide (o.dO = 4) = false:=decide_eq_false (by omega)
        by_cases hd5:dd = 5
        ·have e5:(o.dO == 5) = true:=by rw [beq_iff_eq]; omega
         have f5:decide (o.dO = 5) = true:=decide_eq_true (by omega)
         have hRn:RR ≠ 0:=fun e => hk9 ((iff2.1 e).2.2 (by omega))
         replace hd4:=Lib.hid hd4
         replace hd5:=Lib.hid hd5
         replace hla:=Lib.hid hla
         replace hk9:=Lib.hid hk9
         replace hdd:=Lib.hid hdd
         clear iff2
         replace hRn:=Lib.hid hRn
         go_quiet (first | (go_at_call 26; with_reducible exact quiet_more7 (IQ.out _)) | fail)
         rename Nat => nq3
         go_wp2_with fail
         go_meet
         exact ⟨congrArg Value.bool (decide_eq_false hRn.out).symm,nq3,rfl⟩
        have e5:(o.dO == 5) = false:=by rw [beq_eq_false_iff_ne]; omega
        have f5:decide (o.dO = 5) = false:=decide_eq_false (by omega)
        have hRy:RR = 0:=iff2.2 ⟨hla,⟨fun h => absurd h hk9,fun h => by omega⟩⟩
        replace hd4:=Lib.hid hd4
        replace hd5:=Lib.hid hd5
        replace hla:=Lib.hid hla
        replace hk9:=Lib.hid hk9
        replace hdd:=Lib.hid hdd
        clear iff2
        replace hRy:=Lib.hid hRy
        go_quiet (first | (go_at_call 26; with_reducible exact quiet_more7 (IQ.out _)) | fail)
        rename Nat => nq3
        go_wp2_with fail
        go_meet
        exact ⟨congrArg Value.bool (decide_eq_true hRy.out).symm,nq3,rfl⟩
     case rest =>
      obtain ⟨rfl,nq3,rfl⟩:=hcut
      clear IQ
      by_cases hR:RR = 0
      ·have r0:decide (RR = 0) = true:=decide_eq_true hR
       have r1:((RR:Int) == 0) = true:=by rw [beq_iff_eq]; omega
       have r2:decide ((RR:Int) = 0) = true:=decide_eq_true (by omega)
       have rw9:=row.out
       rw [if_pos hR] at rw9
       rw [r0]
       obtain ⟨w5,hw5⟩:∃ w5,w5 = wc.drewN nq3:=⟨_,rfl⟩
       rw [<- hw5]
       have b5:Below wc.heap.size wc w5:=by rw [hw5]; exact below_drewN (Below.refl _ _) nq3
       have own5:=own_keptN own4.out fun d e => b5.block d (own_blockN own4.out e)
       have C5:=C4h.out.below b5
       have bel5:=bel4.out.trans (b5.mono C4h.out.wat.hN0)
       obtain ⟨⟨sv,s1⟩,s2f⟩:=own_st own5 (i:=k) hkn
       have GE:=Lib.hid (((GoI.put bel5 C5 elen.out own5 (GI2.out.far gI rfl) hkn rw9).more (Nat.le_succ i)).on b eb.out)
       replace hw5:=Lib.hid hw5
       replace hR:=Lib.hid hR
       replace hdd:=Lib.hid hdd
       clear y3 y4 u4 u7 x0 own5 C5 bel5 b5 rw9 iff2 hBL
       go_wp2_with fail
       go_roundw
       case rel => exact ⟨i + 1,n,_,cp,by simp,rfl,by omega,by omega,hn,GE⟩
       case measure => simp [intOf] <;> omega
      ·have r0:decide (RR = 0) = false:=decide_eq_false hR
       have r1:((RR:Int) == 0) = false:=by rw [beq_eq_false_iff_ne]; omega
       have r2:decide ((RR:Int) = 0) = false:=decide_eq_false (by omega)
       have rw9:=row.out
       rw [if_neg hR] at rw9
       rw [r0]
       have GE:=Lib.hid ((((GI2.out.turned C4h.out o4.out rw9).below (below_drewN (Below.refl _ _) nq3)).more (Nat.le_succ i)).on b eb.out)
       replace hR:=Lib.hid hR
       replace hdd:=Lib.hid hdd
       clear y3 y4 u4 u7 x0 rw9 iff2 hBL
       go_wp2_with fail
       go_roundw
       case rel => exact ⟨i + 1,n,_,cp,by simp,rfl,by omega,by omega,hn,GE⟩
       case measure => simp [intOf] <;> omega
  have EC:=standC GI.ci (by have:=GI.ci.tl; omega) A cp (by rw [GI.len]; exact own_less GI.own (Nat.zero_le _))
  rw [eb,GI.len] at EC
  replace EC:=Lib.hid EC
  have hB:=Lib.hid GI.bel
  have hNr:=Lib.hid GI.ci.wat.hN0
  clear GI HP eb
  rcases Nat.lt_or_ge i l.length with h1 | h1
  ·have d1:decide ((i:Int) < (l.length:Int)) = true:=decide_eq_true (by omega)
   have d1':decide (i < l.length) = true:=decide_eq_true h1
   have d2:decide ((i:Int) < 250) = false:=decide_eq_false (by omega)
   clear hlt
   go_wp2_with fail
   refine EC.out.mono ?_
   rintro e w5 ⟨rfl,b5⟩
   have hB5:=Lib.hid (hB.out.trans (b5.mono hNr.out))
   have hN5:=Lib.hid (Nat.le_trans hNr.out b5.size)
   clear b5 EC
   go_wp2_with fail
   refine (WC.out _).mono ?_
   rintro e w7 ⟨rfl,b7⟩
   have hB7:=Lib.hid (hB5.out.trans (b7.mono hN5.out))
   clear b7
   go_wp2
   go_ret
   exact ⟨rfl,hB7.out⟩
  ·have d1:decide ((i:Int) < (l.length:Int)) = false:=decide_eq_false (by omega)
   have d1':decide (i < l.length) = false:=decide_eq_false (by omega)
   clear hlt
   go_wp2_with fail
   refine EC.out.mono ?_
   rintro e w5 ⟨rfl,b5⟩
   have hB5:=Lib.hid (hB.out.trans (b5.mono hNr.out))
   have hN5:=Lib.hid (Nat.le_trans hNr.out b5.size)
   clear b5 EC
   go_wp2_with fail
   refine (WC.out _).mono ?_
   rintro e w7 ⟨rfl,b7⟩
   have hB7:=Lib.hid (hB5.out.trans (b7.mono hN5.out))
   clear b7
   go_wp2
   go_ret
   exact ⟨rfl,hB7.out⟩
end Go.Proofs.YtfjiphibalhcgaaGreat.Que
