/-
  Contracts and lemmas, joined: LruWakes, LruExactLaw, LruBalancesLaw.
-/
import Derived.Test.YtngehaiigbbknaaGreatB11
import Derived.Test.YtngehaiigbbknaaGreatB15
set_option linter.unusedSimpArgs false
set_option linter.unusedVariables false
set_option linter.unusedSectionVars false
set_option maxRecDepth 100000
/-
  The walk of wakes.
-/
namespace Go.Proofs.YtngehaiigbbknaaGreat.Que
open Go.RowKit Base Arena Cls Itm
theorem three_rev {l:List Nat} (h:l.length = 3):∃ c b a,l = [c,b,a] /\ l.reverse = [a,b,c]:=by
 match l,h with
 | [c,b,a],_ => exact ⟨c,b,a,rfl,rfl⟩
theorem wpAnyH_weak {P:Program} {md:Region.Mode} {ops:Array Oper} {Q:Exit -> Act -> World -> Prop} {S S':World -> Prop} (hS:∀ w,S' w -> S w):∀ (fuel:Nat) (listed:Array Bool) (a:Act) (w:World),wpAnyH P md ops Q S' fuel listed a w -> wpAnyH P md ops Q S fuel listed a w
 | 0,_,_,_,h => h
 | fuel + 1,_,_,_,h => ⟨h.1,fun i hi => wpOp_mono (fun a' w' h' => ⟨hS w' h'.1,wpAnyH_weak hS fuel _ a' w' h'.2⟩) (h.2 i hi)⟩
set_option maxHeartbeats 3200000 in
theorem wakesC (w:World):Calls Tryz.prog 15 #[] w fun e w' => e = .returned (.bool true) /\ Below w.heap.size w w':=by
 have BC:=begunC8 w 33 33 (by unfold Cls.In; decide) (by unfold Cls.In; decide)
 have n1:=fun w => numC6 w 0
 obtain ⟨N,hN⟩:∃ N,N = w.heap.size:=⟨_,rfl⟩
 rw [<- hN] at BC ⊢
 replace hN:=Lib.hid hN
 replace BC:=Lib.hid BC
 go_enter Tryz.func15,Tryz.ntmps15
 go_wp2_with fail
 refine BC.out.mono ?_
 rintro e w1 ⟨b1,W,g,d,rfl,hg,hd,hh,hw,A1⟩
 have R1:WLx N w w1 W g d [] []:=⟨_,_,_,_,_,_,_,b1,by rw [<- tri_one,oneL_nil]; exact A1,⟨by simp,by simp,by simp,by simp⟩,rel_new _,.inl ⟨rfl,rfl⟩,by simp,by show 0 <= _; omega,by simp,by simp,hg,hd,by rw [hh]; rfl,by rw [hw]; rfl,by simp⟩
 replace R1:=Lib.hid R1
 clear b1 hg hd hh hw A1 BC
 obtain ⟨b,hb⟩:∃ b,b = W.b:=⟨_,rfl⟩
 rw [<- hb]
 replace hb:=Lib.hid hb
 go_wp2_with fail
 go_loopw [2] (fun vi wr => ∃ (i:Nat) (W':W6) (l:List Nat),vi = .int .i64 (i:Int) /\ i <= 3 /\ Hid (W'.b = b) /\ Hid (l.length = i) /\ Hid (WLx N w wr W' g d l.reverse l)) (fun vi _ => 3 - (intOf vi).toNat)
 case atStart => exact ⟨0,W,[],rfl,Nat.zero_le _,Lib.hid hb.out.symm,Lib.hid rfl,R1⟩
 case round =>
  obtain ⟨i,W',l,rfl,hi,eb,hl,R⟩:=hrel
  clear R1
  by_cases hin:i < 3
  ·have d1:decide ((i:Int) < 3) = true:=decide_eq_true (by omega)
   have q1:IntKind.i64.wrap ((i:Int) + 1) = (i:Int) + 1:=IntWalk.i64_in _ (by omega)
   have bd:Below wr.heap.size wr wr.drew:=below_drewN (Below.refl _ _) 1
   have MC:=(R.out.below bd).make (by rw [List.length_reverse,hl.out]; omega)
   rw [eb.out] at MC
   obtain ⟨i2,hi2⟩:∃ i2,i2 = i + 1:=⟨_,rfl⟩
   have key:∀ w3 W3 H,W3.b = b -> H ∉ l.reverse -> WLx N w w3 W3 g d (l.reverse ++ [H]) l -> ∃ gT cT,(w3.cell? ⟨b,2,none⟩ = some (.pointer (some ⟨g,0,none⟩)) /\ w3.cell? ⟨b,6,none⟩ = some (.slice (some ⟨gT,0,none⟩) i2 cT) /\ w3.cell? ⟨gT,i,none⟩ = some (.int .u64 (H:Int))) /\
     Calls Tryz.prog 36 #[.pointer (some ⟨g,0,none⟩),.int .u64 (H:Int)] w3 fun e w' => e = .returned (.int .i64 0) /\ WLx N w w' W3 g d (H :: l).reverse (H :: l) /\ (w'.cell? ⟨b,2,none⟩ = some (.pointer (some ⟨g,0,none⟩)) /\ w'.cell? ⟨b,6,none⟩ = some (.slice (some ⟨gT,0,none⟩) i2 cT) /\ w'.cell? ⟨gT,i,none⟩ = some (.int .u64 (H:Int))):=by
    intro w3 W3 H eb3 hnH R3
    have key2:∀ v (k:List Nat),WLx N w v W3 g d (l.reverse ++ [H]) k -> v.cell? ⟨b,2,none⟩ = some (.pointer (some ⟨g,0,none⟩)) /\ v.cell? ⟨b,6,none⟩ = some W3.vT /\ ∃ gT cT,W3.vT = .slice (some ⟨gT,0,none⟩) i2 cT /\ v.cell? ⟨gT,i,none⟩ = some (.int .u64 (H:Int)):=by
     intro v k Rv
     obtain ⟨c2,c6,T3, -, -⟩:=Rv.cW
     rw [eb3] at c2 c6
     obtain ⟨gT,cT,hvT,u3⟩:=own_uv (i:=i) (x:=H) T3 (by rw [List.getElem?_append_right (by rw [List.length_reverse,hl.out]; exact Nat.le_refl _),List.length_reverse,hl.out,Nat.sub_self]; rfl)
     rw [List.length_append,List.length_singleton,List.length_reverse,hl.out, <- hi2] at hvT
     exact ⟨c2,c6,gT,cT,hvT,u3⟩
    obtain ⟨c2,c6,gT,cT,hvT,u3⟩:=key2 w3 l R3
    refine ⟨gT,cT,⟨c2,by rw [c6,hvT],u3⟩,?_⟩
    have EC:=R3.enter (H:=H) (by simp) (fun e => hnH (by simpa using e))
    refine EC.mono ?_
    rintro e w' ⟨rfl,R4⟩
    obtain ⟨k2,k6,gT',cT',hv',u4⟩:=key2 w' _ R4
    have e5:=hvT.symm.trans hv'
    injection e5 with e6 e7 e8
    injection e6 with e6
    injection e6 with e6
    rw [List.reverse_cons]
    exact ⟨rfl,R4,k2,by rw [k6,hvT],by rw [e6]; exact u4⟩
   have q2:((i2:Int) != (i:Int) + 1) = false:=by rw [bne_eq_false_iff_eq]; omega
   have q3:((i2:Int) == (i:Int) + 1) = true:=by rw [beq_iff_eq]; omega
   have q4:decide ((i2:Int) = (i:Int) + 1) = true:=decide_eq_true (by omega)
   have i0:(0:Int) <= (i:Int):=by omega
   have i1:(i:Int) < (i2:Int):=by omega
   replace MC:=Lib.hid MC
   replace key:=Lib.hid key
   replace hi2:=Lib.hid hi2
   clear R bd
   go_upto_region 7 with fail
   go_cut [47] from 18 to 47 (fun s47 wx => s47 = .bool false /\ ∃ (W3:W6) (H:Nat),Hid (W3.b = b) /\ Hid (WLx N w wx W3 g d (H :: l).reverse (H :: l)))
   case first =>
    refine wp_region_noPanic ?_
    refine wp_region_held_drew (S:=fun _ => True) (by kernel_rfl) trivial (fun hHeld => ?_)
    refine tkh (i:=0) (v:=?_) rfl ?_ ?_
    rotate_left
    ·try simp only [qA,qS,qZ]
     rintro w -
     go_simp
     (try with_reducible rfl)
    try simp only [qA,qS,qZ,Act.put,qT,qO,qN]
    refine tkh (i:=1) (v:=?_) rfl ?_ ?_
    rotate_left
    ·try simp only [qA,qS,qZ]
     rintro w -
     go_simp
     (try with_reducible rfl)
    try simp only [qA,qS,qZ,Act.put,qT,qO,qN]
    refine wpAnyH_ready (rs:=[2]) (by kernel_rfl) (by simp) ?_
    refine AllReadyH.cons (o:=_) rfl (fun K hK => ?_) ?_
    ·try simp only [qA,qS,qZ]
     go_simp
     go_at_call 42
     refine MC.out.mono ?_
     rintro e w3 ⟨rfl,W3,H,eb3,hnH,R3⟩
     obtain ⟨gT,cT,S3,EC⟩:=key.out w3 W3 H eb3 hnH R3
     replace EC:=Lib.hid EC
     replace eb3:=Lib.hid eb3
     clear R3 MC key hnH
     go_wp2_with fail
     refine hK.out _ _ trivial (fun hHeld => ?_)
     clear hK K hHeld
     try simp only [qA,qS,qZ,Act.put,qT,qO,qN]
     refine wpAnyH_weak (S':=fun v => v.cell? ⟨b,2,none⟩ = some (.pointer (some ⟨g,0,none⟩)) /\ v.cell? ⟨b,6,none⟩ = some (.slice (some ⟨gT,0,none⟩) i2 cT) /\ v.cell? ⟨gT,i,none⟩ = some (.int .u64 (H:Int))) (fun _ _ => trivial) _ _ _ _ ?_
     refine tkh (i:=3) (v:=?_) rfl ?_ ?_
     rotate_left
     ·try simp only [qA,qS,qZ]
      rintro w ⟨hS1,hS2,hS3⟩
      go_simp
      (try with_reducible rfl)
     try simp only [qA,qS,qZ,Act.put,qT,qO,qN]
     refine tkh (i:=4) (v:=?_) rfl ?_ ?_
     rotate_left
     ·try simp only [qA,qS,qZ]
      rintro w ⟨hS1,hS2,hS3⟩
      go_simp
      (try with_reducible rfl)
     try simp only [qA,qS,qZ,Act.put,qT,qO,qN]
     refine tkh (i:=5) (v:=?_) rfl ?_ ?_
     rotate_left
     ·try simp only [qA,qS,qZ]
      rintro w ⟨hS1,hS2,hS3⟩
      go_simp
      (try with_reducible rfl)
     try simp only [qA,qS,qZ,Act.put,qT,qO,qN]
     refine tkh (i:=6) (v:=?_) rfl ?_ ?_
     rotate_left
     ·try simp only [qA,qS,qZ]
      rintro w ⟨hS1,hS2,hS3⟩
      go_simp
      (try with_reducible rfl)
     try simp only [qA,qS,qZ,Act.put,qT,qO,qN]
     refine tkh (i:=7) (v:=?_) rfl ?_ ?_
     rotate_left
     ·try simp only [qA,qS,qZ]
      rintro w ⟨hS1,hS2,hS3⟩
      go_simp
      (try with_reducible rfl)
     try simp only [qA,qS,qZ,Act.put,qT,qO,qN]
     refine tkh (i:=8) (v:=?_) rfl ?_ ?_
     rotate_left
     ·try simp only [qA,qS,qZ]
      rintro w ⟨hS1,hS2,hS3⟩
      go_simp
      (try with_reducible rfl)
     try simp only [qA,qS,qZ,Act.put,qT,qO,qN]
     refine tkh (i:=9) (v:=?_) rfl ?_ ?_
     rotate_left
     ·try simp only [qA,qS,qZ]
      rintro w ⟨hS1,hS2,hS3⟩
      go_simp
      (try with_reducible rfl)
     try simp only [qA,qS,qZ,Act.put,qT,qO,qN]
     refine tkh (i:=10) (v:=?_) rfl ?_ ?_
     rotate_left
     ·try simp only [qA,qS,qZ]
      rintro w ⟨hS1,hS2,hS3⟩
      go_simp
      (try with_reducible rfl)
     try simp only [qA,qS,qZ,Act.put,qT,qO,qN]
     refine tkh (i:=11) (v:=?_) rfl ?_ ?_
     rotate_left
     ·try simp only [qA,qS,qZ]
      rintro w ⟨hS1,hS2,hS3⟩
      go_simp
      (try with_reducible rfl)
     try simp only [qA,qS,qZ,Act.put,qT,qO,qN]
     refine tkh (i:=12) (v:=?_) rfl ?_ ?_
     rotate_left
     ·try simp only [qA,qS,qZ]
      rintro w ⟨hS1,hS2,hS3⟩
      go_simp
      (try with_reducible rfl)
     try simp only [qA,qS,qZ,Act.put,qT,qO,qN]
     refine tkh (i:=13) (v:=?_) rfl ?_ ?_
     rotate_left
     ·try simp only [qA,qS,qZ]
      rintro w ⟨hS1,hS2,hS3⟩
      go_simp
      (try with_reducible rfl)
     try simp only [qA,qS,qZ,Act.put,qT,qO,qN]
     refine tkh (i:=14) (v:=?_) rfl ?_ ?_
     rotate_left
     ·try simp only [qA,qS,qZ]
      rintro w ⟨hS1,hS2,hS3⟩
      go_simp
      (try with_reducible rfl)
     try simp only [qA,qS,qZ,Act.put,qT,qO,qN]
     refine tkh (i:=15) (v:=?_) rfl ?_ ?_
     rotate_left
     ·try simp only [qA,qS,qZ]
      rintro w ⟨hS1,hS2,hS3⟩
      go_simp
      (try with_reducible rfl)
     try simp only [qA,qS,qZ,Act.put,qT,qO,qN]
     refine tkh (i:=16) (v:=?_) rfl ?_ ?_
     rotate_left
     ·try simp only [qA,qS,qZ]
      rintro w ⟨hS1,hS2,hS3⟩
      go_simp
      (try with_reducible rfl)
     try simp only [qA,qS,qZ,Act.put,qT,qO,qN]
     refine tkh (i:=17) (v:=?_) rfl ?_ ?_
     rotate_left
     ·try simp only [qA,qS,qZ]
      rintro w ⟨hS1,hS2,hS3⟩
      go_simp
      (try with_reducible rfl)
     try simp only [qA,qS,qZ,Act.put,qT,qO,qN]
     refine tkh (i:=18) (v:=?_) rfl ?_ ?_
     rotate_left
     ·try simp only [qA,qS,qZ]
      rintro w ⟨hS1,hS2,hS3⟩
      go_simp
      (try with_reducible rfl)
     try simp only [qA,qS,qZ,Act.put,qT,qO,qN]
     refine tkh (i:=19) (v:=?_) rfl ?_ ?_
     rotate_left
     ·try simp only [qA,qS,qZ]
      rintro w ⟨hS1,hS2,hS3⟩
      go_simp
      (try with_reducible rfl)
     try simp only [qA,qS,qZ,Act.put,qT,qO,qN]
     refine tkh (i:=20) (v:=?_) rfl ?_ ?_
     rotate_left
     ·try simp only [qA,qS,qZ]
      rintro w ⟨hS1,hS2,hS3⟩
      go_simp
      (try with_reducible rfl)
     try simp only [qA,qS,qZ,Act.put,qT,qO,qN]
     refine tkh (i:=21) (v:=?_) rfl ?_ ?_
     rotate_left
     ·try simp only [qA,qS,qZ]
      rintro w ⟨hS1,hS2,hS3⟩
      go_simp
      (try with_reducible rfl)
     try simp only [qA,qS,qZ,Act.put,qT,qO,qN]
     refine tkh (i:=22) (v:=?_) rfl ?_ ?_
     rotate_left
     ·try simp only [qA,qS,qZ]
      rintro w ⟨hS1,hS2,hS3⟩
      go_simp
      (try with_reducible rfl)
     try simp only [qA,qS,qZ,Act.put,qT,qO,qN]
     refine tkh (i:=23) (v:=?_) rfl ?_ ?_
     rotate_left
     ·try simp only [qA,qS,qZ]
      rintro w ⟨hS1,hS2,hS3⟩
      go_simp
      (try with_reducible rfl)
     try simp only [qA,qS,qZ,Act.put,qT,qO,qN]
     refine tkh (i:=24) (v:=?_) rfl ?_ ?_
     rotate_left
     ·try simp only [qA,qS,qZ]
      rintro w ⟨hS1,hS2,hS3⟩
      go_simp
      (try with_reducible rfl)
     try simp only [qA,qS,qZ,Act.put,qT,qO,qN]
     refine tkh (i:=25) (v:=?_) rfl ?_ ?_
     rotate_left
     ·try simp only [qA,qS,qZ]
      rintro w ⟨hS1,hS2,hS3⟩
      go_simp
      (try with_reducible rfl)
     try simp only [qA,qS,qZ,Act.put,qT,qO,qN]
     refine wpAnyH_ready (rs:=[26]) (by kernel_rfl) (by simp) ?_
     refine AllReadyH.cons (o:=_) rfl (fun K hK => ?_) ?_
     ·try simp only [qA,qS,qZ]
      go_simp
      go_at_call 36
      refine EC.out.mono ?_
      rintro e w4 ⟨rfl,R4,S4⟩
      replace R4:=Lib.hid R4
      clear EC
      go_wp2_with fail
      refine hK.out _ _ S4 (fun hHeld => ?_)
      clear hK K hHeld
      try simp only [qA,qS,qZ,Act.put,qT,qO,qN]
      refine wpAnyH_ready (rs:=[27]) (by kernel_rfl) (by simp) ?_
      refine AllReadyH.cons (o:=_) rfl (fun K hK => ?_) ?_
      ·try simp only [qA,qS,qZ]
       go_simp
       go_at_call 14
       refine (n1 _).mono ?_
       rintro e w' ⟨rfl,rfl⟩
       go_wp2_with fail
       refine hK.out _ _ S4 (fun hHeld => ?_)
       clear hK K hHeld
       try simp only [qA,qS,qZ,Act.put,qT,qO,qN]
       refine tkh (i:=28) (v:=?_) rfl ?_ ?_
       rotate_left
       ·try simp only [qA,qS,qZ]
        rintro w ⟨hS1,hS2,hS3⟩
        go_simp
        (try with_reducible rfl)
       try simp only [qA,qS,qZ,Act.put,qT,qO,qN]
       refine tkh (i:=29) (v:=?_) rfl ?_ ?_
       rotate_left
       ·try simp only [qA,qS,qZ]
        rintro w ⟨hS1,hS2,hS3⟩
        go_simp
        (try with_reducible rfl)
       try simp only [qA,qS,qZ,Act.put,qT,qO,qN]
       refine wpAnyH_done (by kernel_rfl) ?_ _
       refine NoPanic.normal ?_
       clear S3 S4
       go_wp2_with fail
       go_meet
       exact ⟨rfl,W3,H,eb3,R4⟩
      exact AllReadyH.nil
     exact AllReadyH.nil
    exact AllReadyH.nil
   case rest =>
    obtain ⟨rfl,W3,H,eb3,R4⟩:=hcut
    rename World => w4
    go_wp2
    go_roundw
    case rel => exact ⟨i + 1,W3,H :: l,by simp,by omega,eb3,Lib.hid (by rw [List.length_cons,hl.out]),R4⟩
    case measure => simp [intOf] <;> omega
  ·obtain rfl:i = 3:=by omega
   have d1:decide (((3:Nat):Int) < 3) = false:=by decide
   obtain ⟨c,m,a,rfl,hr3⟩:=three_rev hl.out
   have R':=R.out
   rw [hr3] at R'
   have BL:=R'.balance
   rw [eb.out] at BL
   obtain ⟨c2, -, -, -, -⟩:=R'.cW
   rw [eb.out] at c2
   obtain ⟨a64,a0⟩:=R'.lt (H:=a) (by simp)
   obtain ⟨-,m0⟩:=R'.lt (H:=m) (by simp)
   obtain ⟨-,c0⟩:=R'.lt (H:=c) (by simp)
   replace BL:=Lib.hid BL
   replace eb:=Lib.hid eb.out
   replace a0:=Lib.hid a0
   replace m0:=Lib.hid m0
   replace c0:=Lib.hid c0
   clear R R' hr3 hl
   go_wp2_with fail
   refine BL.out.mono ?_
   rintro e w2 ⟨rfl,b2,s,bs,Z,mk,L,gq,gl,S2,ea,hN2,k2,k6,T2,bl2⟩
   (try rw [eb.out] at k2)
   (try rw [eb.out] at k6)
   have PC:=pickC S2 0 0 5 (by unfold Cls.In; decide)
   obtain ⟨p1,p2⟩:=pick_three (A:=actB s Z mk) a0.out m0.out c0.out (actB_even ea)
   rw [tri_row,show ([m,a].reverse ++ ([]:List Nat).reverse ++ [c].reverse) = [a,m,c] from rfl,p1,p2] at PC
   clear p1 p2
   have LC:=fun v (bv:Below w2.heap.size w2 v) => lenC3 (S2.below bv) 0
   obtain ⟨t1,t2,t3⟩:=tri_len [c] [] [m,a]
   rw [t1,t2,t3] at LC
   obtain ⟨gT,cT,hvT,u0⟩:=own_uv (i:=0) (x:=a) T2 rfl
   rw [hvT,show [a,m,c].length = 3 from rfl] at k6
   replace PC:=Lib.hid PC
   replace LC:=Lib.hid LC
   replace b2:=Lib.hid b2
   replace hvT:=Lib.hid hvT
   clear S2 T2 ea t1 t2 t3 BL c2
   go_wp2_with fail
   refine PC.out.mono ?_
   rintro e w3 ⟨rfl,b3⟩
   have k2':=(b3.cell (p:=⟨b,2,none⟩) (World.block_lt_of_cell? _ _ k2)).trans k2
   have k6':=(b3.cell (p:=⟨b,6,none⟩) (World.block_lt_of_cell? _ _ k6)).trans k6
   have u0':=(b3.cell (p:=⟨gT,0,none⟩) (World.block_lt_of_cell? _ _ u0)).trans u0
   have LC3:=Lib.hid (LC.out w3 b3)
   have b13:=b2.out.trans (b3.mono hN2)
   have hN3:=Nat.le_trans hN2 b3.size
   replace b13:=Lib.hid b13
   clear k2 k6 u0 b3 b2 PC LC
   go_wp2_with fail
   refine LC3.out.mono ?_
   rintro e w4 ⟨rfl,b4⟩
   have k6:=(b4.cell (p:=⟨b,6,none⟩) (World.block_lt_of_cell? _ _ k6')).trans k6'
   have u0:=(b4.cell (p:=⟨gT,0,none⟩) (World.block_lt_of_cell? _ _ u0')).trans u0'
   have b14:=Lib.hid (b13.out.trans (b4.mono hN3))
   clear k2' k6' u0' b4 b13
   go_wp2
   go_ret
   exact ⟨rfl,b14.out⟩
def GoV (N:Nat) (W0:World) (b:Nat) (gm:Option Nat) (hot warm:Int) (V:Nat) (w:World) (t:Nat):Prop:=∃ W s bs Z Ls r laid told act mk,W.b = b /\ W.gm = gm /\ W.hot = hot /\ W.warm = warm /\ Below N W0 w /\ N <= w.heap.size /\ LI N w W s bs Z Ls r laid told act mk t /\ Blk w V 23 #[.pointer (some ⟨b,0,none⟩)] /\ ∀ i,¬ W.foot qc s i V
theorem GoV.next {N:Nat} {W0 w w':World} {W:W6} {s:St} {bs:List UInt8} {Z:Nat -> Option Zd} {Ls:Nat -> Nat -> List Nat} {r:RS} {laid told act:List Nat} {mk:Nat -> Nat} {t t':Nat} {b:Nat} {gm:Option Nat} {hot warm:Int} {V:Nat} (h:LI N w W s bs Z Ls r laid told act mk t) (hB:Below N W0 w)
  (e1:W.b = b) (e2:W.gm = gm) (e3:W.hot = hot) (e4:W.warm = warm) (B:Blk w V 23 #[.pointer (some ⟨b,0,none⟩)]) (hn:∀ i,¬ W.foot qc s i V) (G:Goes N w w' W s t'):GoV N W0 b gm hot warm V w' t':=by
 obtain ⟨W',s',bs',Z',Ls',r',laid',told',act',mk',⟨f1,f2,f3,f4,f5⟩,G,T⟩:=G
 obtain ⟨a1,a2⟩:=G.away B.lt hn
 exact ⟨W',s',bs',Z',Ls',r',laid',told',act',mk',f1.trans e1,f2.trans e2,f4.trans e3,f5.trans e4,hB.trans (G.below h.wat.base h.wat.hN0),T.wat.hN0,T,a1.trans B,a2⟩
theorem GoV.below {N:Nat} {W0 w w':World} {b:Nat} {gm:Option Nat} {hot warm:Int} {V t:Nat} (h:GoV N W0 b gm hot warm V w t) (k:Below w.heap.size w w'):GoV N W0 b gm hot warm V w' t:=by
 obtain ⟨W',s',bs',Z',Ls',r',laid',told',act',mk',f1,f2,f3,f4,B,hN,T,v,n⟩:=h
 exact ⟨W',s',bs',Z',Ls',r',laid',told',act',mk',f1,f2,f3,f4,B.trans (k.mono hN),Nat.le_trans hN k.size,T.below k,v.below k v.lt,n⟩
theorem WB.below {N:Nat} {w w6 v:World} {W:W6} {s:St} {bs:List UInt8} {Z:Nat -> Option Zd} {Ld:Nat -> Nat -> List Nat} {r:RS} {laid told act:List Nat} {h0 T F:Nat} {a:List Nat} {Lx:Nat -> Nat -> List Nat} {mx:Nat -> Nat} (h:WB N w w6 W s bs Z Ld r laid told act h0 T F a Lx mx) (b:Below w6.heap.size w6 v):WB N w v W s bs Z Ld r laid told act h0 T F a Lx mx:=by
 obtain ⟨bs',Z',e1,z1,A,K,o⟩:=h
 exact ⟨bs',Z',e1,z1,A.below b,K.below b,o.below b o.size⟩
theorem WB.cells {N:Nat} {w v:World} {W:W6} {s:St} {bs:List UInt8} {Z:Nat -> Option Zd} {Ld:Nat -> Nat -> List Nat} {r:RS} {laid told act:List Nat} {h0 T F:Nat} {a:List Nat} {Lx:Nat -> Nat -> List Nat} {mx:Nat -> Nat} (h:WB N w v W s bs Z Ld r laid told act h0 T F a Lx mx) {p:Nat} (hp:p < h0) (hw:h0 <= w.heap.size) (hn:∀ i,¬ W.foot qc s i p):v.heap[p]? = w.heap[p]? /\ v.cell? ⟨W.b,5,none⟩ = some (ptrO W.dm) /\ v.cell? ⟨W.b,2,none⟩ = some (ptrO W.gm):=by
 obtain ⟨bs',Z',e1,z1,A,K,o⟩:=h
 refine ⟨o.block p (by omega) ?_,A.own.cell 5,A.own.cell 2⟩
 rintro (e | ⟨i,e⟩)
 ·omega
 ·exact hn i e
theorem WB.size {N:Nat} {w w6:World} {W:W6} {s:St} {bs:List UInt8} {Z:Nat -> Option Zd} {Ld:Nat -> Nat -> List Nat} {r:RS} {laid told act:List Nat} {h0 T F:Nat} {a:List Nat} {Lx:Nat -> Nat -> List Nat} {mx:Nat -> Nat} (h:WB N w w6 W s bs Z Ld r laid told act h0 T F a Lx mx):w.heap.size <= w6.heap.size:=by
 obtain ⟨bs',Z',e1,z1,A,K,o⟩:=h
 exact o.size
theorem docB {N:Nat} {wr w5 v:World} {W:W6} {s:St} {bs:List UInt8} {Z:Nat -> Option Zd} {Ls:Nat -> Nat -> List Nat} {r:RS} {laid told act:List Nat} {mk:Nat -> Nat} {t:Nat} (h:LI N wr W s bs Z Ls r laid told act mk t) (ht:t <= 900) (o:Op6) {h0 T F:Nat} (b5:Below wr.heap.size wr w5) (hh:wr.heap.size <= h0)
  (k:WB N w5 v W s bs Z Ls r laid told act h0 T F (balN s Z W.hot W.warm o.c o.b.toNat Ls mk).1 (balN s Z W.hot W.warm o.c o.b.toNat Ls mk).2.1 (balN s Z W.hot W.warm o.c o.b.toNat Ls mk).2.2) {d:Nat} (edm:W.dm = some d) :
  Calls Tryz.prog 29 #[.pointer (some ⟨d,0,none⟩),.int .i64 o.c,.int .i64 (bndN o.b)] v fun e w' => ∃ A cp,e = .returned (.slice A (balN s Z W.hot W.warm o.c o.b.toNat Ls mk).1.length cp) /\ w'.ownsRow v.heap.size 50 1 (.slice A (balN s Z W.hot W.warm o.c o.b.toNat Ls mk).1.length cp) (balN s Z W.hot W.warm o.c o.b.toNat Ls mk).1.length ((balN s Z W.hot W.warm o.c o.b.toNat Ls mk).1.map uv) /\ TellL h0 T F w' (balN s Z W.hot W.warm o.c o.b.toNat Ls mk).1 /\ Goes N wr w' W s (t + 1) /\ (∀ p,p < v.heap.size -> (∀ i,¬ W.foot qc s i p) -> w'.heap[p]? = v.heap[p]?) /\ w'.cell? ⟨W.b,2,none⟩ = some (ptrO W.gm) /\ w'.cell? ⟨W.b,5,none⟩ = some (ptrO W.dm):=by
 have okc:=h.wat.okc
 have g:=h.wat.good
 have q:=h.wat.q.ql
 have tot:=QL.tot q h.laid_ o.c
 have phi:=phi_two Ls mk o.c
 have la:=h.la
 have hf:=h.wat.lt
 obtain ⟨k1,k2,k3,k4,k5⟩:=bal_phi okc g h.sh o.b.toNat Ls mk (x:=o.c) q
 have eB:balN s Z W.hot W.warm o.c (bndN o.b).toNat Ls mk = balN s Z W.hot W.warm o.c o.b.toNat Ls mk:=by
  unfold bndN
  split
  ·rfl
  ·exact (k5 (by omega)).2 _ (by omega)
 obtain ⟨e1,e2,e3,e4⟩:=bal_both okc g h.sh (bndN o.b).toNat Ls mk act (x:=o.c) q h.ab
 rw [eB] at e1 e2 e3
 have hbd:bndN o.b <= 2000:=by unfold bndN; split <;> omega
 obtain ⟨bs',Z',f1,z1,A,K,on⟩:=k
 have D:DX N v W s bs' Z' (balN s Z W.hot W.warm o.c o.b.toNat Ls mk).2.1 Ls r laid told act (balN s Z W.hot W.warm o.c o.b.toNat Ls mk).2.2:=⟨A,h.rel,fun H i x p hf => by rw [z1 H]; exact h.agr H i x p hf,by have:=h.ch; omega,by have:=h.la; omega,(h.wat.q.ql).cg z1,by have:=h.al; omega⟩
 have G:Grew qc wr v W W s s:=⟨⟨on.os.trans b5.os,on.tape.trans b5.tape,on.output.trans b5.output,Nat.le_trans b5.size on.size,fun k hk hn => (on.block k (Nat.lt_of_lt_of_le hk b5.size) (by
  rintro (e | e)
  ·omega
  ·exact hn e)).trans (b5.block k hk)⟩,fun i b hb => .inl ⟨i,hb⟩⟩
 have BD:=D.balanceD (dm:=d) edm h.sh o.c (bndN o.b) hbd
 rw [e1,e2] at BD
 refine BD.mono ?_
 rintro e w' ⟨A2,cp,rfl,own,R2,v2,e2',G2,D2⟩
 refine ⟨A2,cp,rfl,own,K.only G2.only fun b ⟨i,e⟩ => Nat.lt_of_lt_of_le (hf i b e) hh,h.end_ ⟨bs',Z',_,f1,z1,⟨R2,v2,rfl,e2'⟩,G.trans G2,D2⟩ (by have:=h.al; omega) e3 k4,fun p hp hn => G2.only.block p hp (fun ⟨i,e⟩ => hn i e),D2.wat.own.cell 2,D2.wat.own.cell 5⟩
set_option maxHeartbeats 4000000 in
theorem lruBalancesC (W:World) (a b:Int) (ha:Cls.In a) (hb:Cls.In b) (a0:Option Addr) (cap:Nat) (l:List Op6) (hP:∀ (k:Nat) (hk:k < l.length),ORow W a0 k l[k]) (hl:l.length <= maxLen) :
  Calls Tryz.prog 8 #[.agg #[.int .i64 a,.int .i64 b],.slice a0 l.length cap] W fun e w' => e = .returned (.bool true) /\ Below W.heap.size W w':=by
 obtain ⟨w1,hw1⟩:∃ w1,w1 = W.alloc (.cells #[.int .i64 a,.int .i64 b] 38):=⟨_,rfl⟩
 have B1:Blk w1 W.heap.size 38 #[.int .i64 a,.int .i64 b]:=by rw [hw1]; exact Blk.new W _ _
 have b1:Below W.heap.size W w1:=by rw [hw1]; exact (Below.refl _ _).alloc (Nat.le_refl _) _
 have x0:=B1.cell 0
 have x1:=B1.cell 1
 have BC:=Lib.hid (begunC8 w1 a b ha hb)
 have sh:=Lib.hid (begun_shr a b)
 have HP:=Lib.hid hP
 have WC:=Lib.hid wakesC
 unfold maxLen at hl
 clear hP ha hb B1
 generalize hotN a = hot at *
 generalize warmN a b = warm at *
 obtain ⟨N,hN⟩:∃ N,W.heap.size = N:=⟨_,rfl⟩
 rw [hN] at b1 x0 x1 ⊢
 replace hN:=Lib.hid hN
 replace hw1:=Lib.hid hw1
 go_enter Tryz.func8,Tryz.ntmps8
 go_upto_region 1 with fail
 rw [hN.out, <- hw1.out]
 go_wp2_with fail
 refine BC.out.mono ?_
 rintro e w2 ⟨b2,W1,g,d,rfl,eg,ed,eh,ew,A1⟩
 have hN1:N <= w1.heap.size:=by have:=b1.size; rw [<- hN.out]; exact this
 have L1:LI N w2 W1 _ _ _ _ _ _ _ _ _ 0:=LI.new (A1.weak hN1) ⟨d,ed⟩ (by rw [eh,ew]; exact sh.out)
 have B2:Below N W w2:=b1.trans (b2.mono hN1)
 have hN2:N <= w2.heap.size:=Nat.le_trans hN1 b2.size
 obtain ⟨V,hV⟩:∃ V,V = w2.heap.size:=⟨_,rfl⟩
 obtain ⟨w3,hw3⟩:∃ w3,w3 = w2.alloc (.cells #[.pointer (some ⟨W1.b,0,none⟩)] 23):=⟨_,rfl⟩
 have BV:Blk w3 V 23 #[.pointer (some ⟨W1.b,0,none⟩)]:=by rw [hw3,hV]; exact Blk.new w2 _ _
 have b3:Below w2.heap.size w2 w3:=by rw [hw3]; exact (Below.refl _ _).alloc (Nat.le_refl _) _
 have cV:=BV.cell 0
 have G1:GoV N W W1.b (some g) (hot:Int) (warm:Int) V w3 0:=⟨W1,_,_,_,_,_,_,_,_,_,rfl,eg,eh,ew,B2.trans (b3.mono hN2),Nat.le_trans hN2 b3.size,L1.below b3,BV,fun i e => by
  have:=L1.wat.lt i _ e
  omega⟩
 generalize W1.b = b0 at *
 replace G1:=Lib.hid G1
 replace hV:=Lib.hid hV
 replace hw3:=Lib.hid hw3
 clear b1 b2 A1 BC x0 x1 hw1 eg ed eh ew L1 B2 hN2 BV b3 hN1
 go_upto_region 2 with fail
 rw [<- hV.out, <- hw3.out]
 go_wp2_with fail
 go_loopw [6] (fun vi wr => ∃ i:Nat,vi = .int .i64 (i:Int) /\ i <= l.length /\ i <= 250 /\ Hid (GoV N W b0 (some g) (hot:Int) (warm:Int) V wr i)) (fun vi _ => l.length - (intOf vi).toNat)
 case atStart => exact ⟨0,rfl,Nat.zero_le _,Nat.zero_le _,G1⟩
 case round =>
  obtain ⟨i,rfl,hi,hi2,G⟩:=hrel
  clear G1 cV
  by_cases hlt:i < l.length /\ i < 250
  ·obtain ⟨h1,h2⟩:=hlt
   have d1:decide ((i:Int) < (l.length:Int)) = true:=decide_eq_true (by omega)
   have d1':decide (i < l.length) = true:=decide_eq_true h1
   have d2:decide ((i:Int) < 250) = true:=decide_eq_true (by omega)
   have q1:IntKind.i64.wrap ((i:Int) + 1) = (i:Int) + 1:=IntWalk.i64_in _ (by omega)
   have i0:(0:Int) <= (i:Int):=by omega
   have i1:(i:Int) < (l.length:Int):=by omega
   obtain ⟨W2,s2,bs2,Z2,Ls2,r2,laid2,told2,act2,mk2,eb,eg,eh,ew,hB,hNr,T,BV,nV⟩:=G.out
   obtain ⟨b9,off,rfl,hbl,ok,O1⟩:=HP.out i h1
   have hbN:b9 < N:=by rw [<- hN.out]; exact hbl
   generalize l[i] = o at *
   obtain ⟨z0,z1,z2,z3,z4,z5⟩:=O1.below hB hbN
   obtain ⟨Na,hNa⟩:∃ Na,Na = wr.heap.size:=⟨_,rfl⟩
   obtain ⟨w2,hw2⟩:∃ w2,w2 = wr.alloc (.cells o.cells 64):=⟨_,rfl⟩
   have B2:Blk w2 Na 64 o.cells:=by rw [hw2,hNa]; exact Blk.new wr _ _
   have b2:Below wr.heap.size wr w2:=by rw [hw2]; exact (Below.refl _ _).alloc (Nat.le_refl _) _
   obtain ⟨x0,x1,x2,x3,x4,x5⟩:=op6_cells B2
   have T2:=T.below b2
   have V2:=BV.below b2 BV.lt
   have cV:=V2.cell 0
   have hB2:Below N W w2:=hB.trans (b2.mono hNr)
   have hN2:N <= w2.heap.size:=Nat.le_trans hNr b2.size
   have GN:=fun w' (G:Goes N w2 w' W2 s2 (i + 1)) => GoV.next T2 hB2 eb eg eh ew V2 nV G
   have MC:=movesC T2 (show i <= 900 by omega) o ok (.inl ⟨g,eg⟩)
   rw [eb] at MC
   by_cases h7:o.dO = 7
   ·have e7:(o.dO != 7) = false:=by rw [h7]; rfl
    have e7':decide (o.dO = 7) = true:=decide_eq_true h7
    have e7'':(o.dO == 7) = true:=by rw [h7]; rfl
    have hfo:=T2.wat.lt
    have hfo1:∀ j k,W2.foot qc s2 j k -> k < Na:=fun j k e => by rw [hNa]; exact T.wat.lt j k e
    obtain ⟨d,edm⟩:=T.dmS
    obtain ⟨TT,hTT⟩:∃ TT,TT = w2.heap.size:=⟨_,rfl⟩
    have zTT:TT = Na + 1:=by rw [hTT,hw2,World.size_alloc,hNa]
    obtain ⟨w5,hw5⟩:∃ w5,w5 = (w2.alloc (.cells #[.slice none 0 0] 34)).alloc (.cells #[.bool true] 4):=⟨_,rfl⟩
    have b25:Below w2.heap.size w2 w5:=by rw [hw5]; exact ((Below.refl _ w2).alloc (Nat.le_refl _) _).alloc (by rw [World.size_alloc]; omega) _
    have z5s:w5.heap.size = TT + 2:=by rw [hw5,World.size_alloc,World.size_alloc,hTT]
    have BT:Blk w5 TT 34 #[.slice none 0 0]:=by rw [hw5,hTT]; exact (Blk.new w2 _ _).alloc _
    have BF:Blk w5 (TT + 1) 4 #[.bool true]:=by rw [hw5,hTT]; exact blk_new' (World.size_alloc _ _)
    obtain ⟨wd,hwd⟩:∃ wd,wd = w5.drew:=⟨_,rfl⟩
    have bd:Below w5.heap.size w5 wd:=by rw [hwd]; exact below_drewN (Below.refl _ _) 1
    have bdr:Below wr.heap.size wr wd:=b2.trans ((b25.trans (bd.mono b25.size)).mono b2.size)
    have b2d:Below w2.heap.size w2 wd:=b25.trans (bd.mono b25.size)
    have Kd:TellL TT TT (TT + 1) wd []:=⟨Nat.le_refl _,by omega,by omega,⟨none,0,BT.below bd BT.lt,own_nil _ _ _,fun g e => by cases e⟩,BF.below bd BF.lt⟩
    have Td:=T2.below b2d
    have Vd:=V2.below b2d V2.lt
    have Od:=B2.below b2d B2.lt
    have nO:∀ j,¬ W2.foot qc s2 j Na:=fun j e => by have:=hfo1 j _ e; omega
    have hVlt:V < Na:=by rw [hNa]; exact BV.lt
    obtain ⟨u0,u1,u2,u3,u4,u5⟩:=op6_cells Od
    have q:=T.wat.q.ql
    have tot:=QL.tot q T.laid_ o.c
    have phi:=phi_two Ls2 mk2 o.c
    have la:=T.la
    have kb:=(bal_phi T.wat.okc T.wat.good T.sh o.b.toNat Ls2 mk2 (x:=o.c) q).1
    have LC:=balanceLC Td.wat eg T.sh o.c o.b ok.b (h0:=TT) (T:=TT) (F:=TT + 1) (V:=V) (O:=Na) (fun j k e => by have:=hfo1 j k e; omega) (by have:=bd.size; omega) (by omega) (by omega) nV nO (by rw [eb]; exact Vd.cell 0) u3 Kd (by omega)
    have SB:=fun v a Lx mx (k:WB N wd v W2 s2 bs2 Z2 Ls2 r2 laid2 told2 act2 TT TT (TT + 1) a Lx mx) => (show v.cell? ⟨V,0,none⟩ = some (.pointer (some ⟨b0,0,none⟩)) /\ v.cell? ⟨b0,2,none⟩ = some (.pointer (some ⟨g,0,none⟩)) /\ v.cell? ⟨b0,5,none⟩ = some (.pointer (some ⟨d,0,none⟩)) /\ v.cell? ⟨Na,3,none⟩ = some (.int .i64 o.c) /\ v.cell? ⟨Na,2,none⟩ = some (.int .i64 o.b) from by
     obtain ⟨k1,k2,k3⟩:=k.cells (p:=V) (by omega) (by have:=bd.size; omega) nV
     obtain ⟨k4, -, -⟩:=k.cells (p:=Na) (by omega) (by have:=bd.size; omega) nO
     rw [eb,edm] at k2
     rw [eb,eg] at k3
     exact ⟨(World.cell?_of_block (a:=⟨V,0,none⟩) k1).trans (Vd.cell 0),k3,k2,(World.cell?_of_block (a:=⟨Na,3,none⟩) k4).trans u3,(World.cell?_of_block (a:=⟨Na,2,none⟩) k4).trans u2⟩)
    have Sd:wd.cell? ⟨V,0,none⟩ = some (.pointer (some ⟨b0,0,none⟩)) /\ wd.cell? ⟨b0,2,none⟩ = some (.pointer (some ⟨g,0,none⟩)) /\ wd.cell? ⟨b0,5,none⟩ = some (.pointer (some ⟨d,0,none⟩)) /\ wd.cell? ⟨Na,3,none⟩ = some (.int .i64 o.c) /\ wd.cell? ⟨Na,2,none⟩ = some (.int .i64 o.b) :=
     SB wd _ _ _ ⟨bs2,Z2,rfl,fun _ => rfl,Td.wat,Kd,Only.refl _ _⟩
    have DB:=fun v (k:WB N wd v W2 s2 bs2 Z2 Ls2 r2 laid2 told2 act2 TT TT (TT + 1) _ _ _) => docB T (show i <= 900 by omega) o bdr (show wr.heap.size <= TT by omega) k edm
    obtain ⟨P,hPn⟩:∃ P,P = balN s2 Z2 W2.hot W2.warm o.c o.b.toNat Ls2 mk2:=⟨_,rfl⟩
    rw [<- hPn] at LC DB kb
    obtain ⟨ms,L3,m3⟩:=P
    obtain ⟨m,hm⟩:∃ m,m = ms.length:=⟨_,rfl⟩
    have hm1:m <= 100000:=by have:ms.length <= _:=kb; omega
    have FN:=fun w' (G:Goes N wr w' W2 s2 (i + 1)) => GoV.next T hB eb eg eh ew BV nV G
    obtain ⟨QB,hQB⟩:∃ QB:World -> Prop,QB = fun v => WB N wd v W2 s2 bs2 Z2 Ls2 r2 laid2 told2 act2 TT TT (TT + 1) ms L3 m3:=⟨_,rfl⟩
    have LC2:Calls Tryz.prog 19 #[.pointer (some ⟨g,0,none⟩),.int .i64 o.c,.int .i64 o.b,.func (.func 28) #[] #[.pointer (some ⟨TT,0,none⟩),.pointer (some ⟨V,0,none⟩),.pointer (some ⟨Na,0,none⟩),.pointer (some ⟨TT + 1,0,none⟩)]] wd fun e w' => e = .returned (.int .i64 (m:Int)) /\ QB w':=by
     rw [hQB,hm]
     exact LC
    have QBb:∀ v v',QB v -> Below v.heap.size v v' -> QB v':=fun v v' k b => by rw [hQB] at k ⊢; exact WB.below k b
    have SQ:∀ v,QB v -> _:=fun v k => SB v ms L3 m3 (by rw [hQB] at k; exact k)
    have DQ:∀ v,QB v -> Calls Tryz.prog 29 #[.pointer (some ⟨d,0,none⟩),.int .i64 o.c,.int .i64 (bndN o.b)] v fun e w' => ∃ A cp,e = .returned (.slice A m cp) /\ w'.ownsRow v.heap.size 50 1 (.slice A m cp) m (ms.map uv) /\ TellL TT TT (TT + 1) w' ms /\ GoV N W b0 (some g) (hot:Int) (warm:Int) V w' (i + 1) /\ w'.cell? ⟨V,0,none⟩ = some (.pointer (some ⟨b0,0,none⟩)) /\ w'.cell? ⟨b0,2,none⟩ = some (.pointer (some ⟨g,0,none⟩)) /\ w'.cell? ⟨b0,5,none⟩ = some (.pointer (some ⟨d,0,none⟩)) /\ w'.cell? ⟨Na,3,none⟩ = some (.int .i64 o.c) /\ w'.cell? ⟨Na,2,none⟩ = some (.int .i64 o.b):=fun v k => by
     rw [hm]
     rw [hQB] at k
     obtain ⟨s1,s2,s3,s4,s5⟩:=SB v ms L3 m3 k
     have sz:=k.size
     have szd:=bd.size
     refine (DB v k).mono fun e w' ⟨A,cp,e1,o1,k1,G1,p1,p2,p3⟩ => ⟨A,cp,e1,o1,k1,FN w' G1,?_,?_,?_,?_,?_⟩
     ·exact (World.cell?_of_block (a:=⟨V,0,none⟩) (p1 V (by omega) nV)).trans s1
     ·rw [eb,eg] at p2; exact p2
     ·rw [eb,edm] at p3; exact p3
     ·exact (World.cell?_of_block (a:=⟨Na,3,none⟩) (p1 Na (by omega) nO)).trans s4
     ·exact (World.cell?_of_block (a:=⟨Na,2,none⟩) (p1 Na (by omega) nO)).trans s5
    replace LC2:=Lib.hid LC2
    replace QBb:=Lib.hid QBb
    replace SQ:=Lib.hid SQ
    replace DQ:=Lib.hid DQ
    replace hm:=Lib.hid hm
    replace hw2:=Lib.hid hw2
    replace hNa:=Lib.hid hNa
    replace hTT:=Lib.hid hTT
    replace hw5:=Lib.hid hw5
    clear LC DB SB FN hQB hPn kb la phi tot q u0 u1 u2 u3 u4 u5 nO Od Vd Td Kd b2d bdr bd BF BT b25 hfo hfo1 GN MC T T2 hB hbl O1 ok hNr G eb eg eh ew b2 hB2 hN2 BV nV V2 edm B2 z5s zTT hVlt h7
    unfold Op6.cells at hw2
    go_upto_region 8 with fail
    rw [<- hNa.out, <- hw2.out]
    go_upto_region 13 with fail
    rw [<- hTT.out, <- hw5.out]
    refine wp_region_noPanic ?_
    refine wp_region_held_drew (S:=fun v => v.cell? ⟨V,0,none⟩ = some (.pointer (some ⟨b0,0,none⟩)) /\ v.cell? ⟨b0,2,none⟩ = some (.pointer (some ⟨g,0,none⟩)) /\ v.cell? ⟨b0,5,none⟩ = some (.pointer (some ⟨d,0,none⟩)) /\ v.cell? ⟨Na,3,none⟩ = some (.int .i64 o.c) /\ v.cell? ⟨Na,2,none⟩ = some (.int .i64 o.b)) (by kernel_rfl) (by rw [<- hwd]; exact Sd) (fun hHeld => ?_)
    rw [<- hwd] at hHeld ⊢
    clear hwd
    refine tkh (i:=0) (v:=?_) rfl ?_ ?_
    rotate_left
    ·try simp only [qA,qS,qZ]
     rintro w ⟨hS1,hS2,hS3,hS4,hS5⟩
     go_simp
     (try with_reducible rfl)
    try simp only [qA,qS,qZ,Act.put,qT,qO,qN]
    refine tkh (i:=1) (v:=?_) rfl ?_ ?_
    rotate_left
    ·try simp only [qA,qS,qZ]
     rintro w ⟨hS1,hS2,hS3,hS4,hS5⟩
     go_simp
     (try with_reducible rfl)
    try simp only [qA,qS,qZ,Act.put,qT,qO,qN]
    refine tkh (i:=2) (v:=?_) rfl ?_ ?_
    rotate_left
    ·try simp only [qA,qS,qZ]
     rintro w ⟨hS1,hS2,hS3,hS4,hS5⟩
     go_simp
     (try with_reducible rfl)
    try simp only [qA,qS,qZ,Act.put,qT,qO,qN]
    refine tkh (i:=3) (v:=?_) rfl ?_ ?_
    rotate_left
    ·try simp only [qA,qS,qZ]
     rintro w ⟨hS1,hS2,hS3,hS4,hS5⟩
     go_simp
     (try with_reducible rfl)
    try simp only [qA,qS,qZ,Act.put,qT,qO,qN]
    refine tkh (i:=4) (v:=?_) rfl ?_ ?_
    rotate_left
    ·try simp only [qA,qS,qZ]
     rintro w ⟨hS1,hS2,hS3,hS4,hS5⟩
     go_simp
     (try with_reducible rfl)
    try simp only [qA,qS,qZ,Act.put,qT,qO,qN]
    refine tkh (i:=5) (v:=?_) rfl ?_ ?_
    rotate_left
    ·try simp only [qA,qS,qZ]
     rintro w ⟨hS1,hS2,hS3,hS4,hS5⟩
     go_simp
     (try with_reducible rfl)
    try simp only [qA,qS,qZ,Act.put,qT,qO,qN]
    refine tkh (i:=6) (v:=?_) rfl ?_ ?_
    rotate_left
    ·try simp only [qA,qS,qZ]
     rintro w ⟨hS1,hS2,hS3,hS4,hS5⟩
     go_simp
     (try with_reducible rfl)
    try simp only [qA,qS,qZ,Act.put,qT,qO,qN]
    refine tkh (i:=7) (v:=?_) rfl ?_ ?_
    rotate_left
    ·try simp only [qA,qS,qZ]
     rintro w ⟨hS1,hS2,hS3,hS4,hS5⟩
     go_simp
     (try with_reducible rfl)
    try simp only [qA,qS,qZ,Act.put,qT,qO,qN]
    refine tkh (i:=8) (v:=?_) rfl ?_ ?_
    rotate_left
    ·try simp only [qA,qS,qZ]
     rintro w ⟨hS1,hS2,hS3,hS4,hS5⟩
     go_simp
     (try with_reducible rfl)
    try simp only [qA,qS,qZ,Act.put,qT,qO,qN]
    refine wpAnyH_ready (rs:=[9]) (by kernel_rfl) (by simp) ?_
    refine AllReadyH.cons (o:=_) rfl (fun K hK => ?_) ?_
    rotate_left
    ·exact AllReadyH.nil
    try simp only [qA,qS,qZ]
    go_simp
    go_at_call 19
    refine LC2.out.mono ?_
    rintro e w6 ⟨rfl,Q6⟩
    go_wp2_with fail
    refine hK.out _ _ (SQ.out w6 Q6) (fun hHeld9 => ?_)
    clear hK K
    try simp only [qA,qS,qZ,Act.put,qT,qO,qN]
    refine tkh (i:=10) (v:=?_) rfl ?_ ?_
    rotate_left
    ·try simp only [qA,qS,qZ]
     rintro w ⟨hS1,hS2,hS3,hS4,hS5⟩
     go_simp
     (try with_reducible rfl)
    try simp only [qA,qS,qZ,Act.put,qT,qO,qN]
    refine wpAnyH_done (by kernel_rfl) ?_ _
    refine NoPanic.normal ?_
    clear hHeld Sd LC2 hHeld9
    obtain ⟨wd2,hwd2⟩:∃ wd2,wd2 = w6.drew:=⟨_,rfl⟩
    have Qd:=QBb.out w6 wd2 Q6 (by rw [hwd2]; exact below_drewN (Below.refl _ _) 1)
    have Sd2:=SQ.out wd2 Qd
    have DC2:=Lib.hid (DQ.out wd2 Qd)
    clear DQ SQ QBb Q6 Qd
    go_upto_region 14 with fail
    refine wp_region_noPanic ?_
    refine wp_region_held_drew (S:=fun v => v.cell? ⟨V,0,none⟩ = some (.pointer (some ⟨b0,0,none⟩)) /\ v.cell? ⟨b0,2,none⟩ = some (.pointer (some ⟨g,0,none⟩)) /\ v.cell? ⟨b0,5,none⟩ = some (.pointer (some ⟨d,0,none⟩)) /\ v.cell? ⟨Na,3,none⟩ = some (.int .i64 o.c) /\ v.cell? ⟨Na,2,none⟩ = some (.int .i64 o.b)) (by kernel_rfl) (by rw [<- hwd2]; exact Sd2) (fun hHeld => ?_)
    rw [<- hwd2] at hHeld ⊢
    clear hwd2
    refine tkh (i:=0) (v:=?_) rfl ?_ ?_
    rotate_left
    ·try simp only [qA,qS,qZ]
     rintro w ⟨hS1,hS2,hS3,hS4,hS5⟩
     go_simp
     (try with_reducible rfl)
    try simp only [qA,qS,qZ,Act.put,qT,qO,qN]
    refine tkh (i:=1) (v:=?_) rfl ?_ ?_
    rotate_left
    ·try simp only [qA,qS,qZ]
     rintro w ⟨hS1,hS2,hS3,hS4,hS5⟩
     go_simp
     (try with_reducible rfl)
    try simp only [qA,qS,qZ,Act.put,qT,qO,qN]
    refine tkh (i:=2) (v:=?_) rfl ?_ ?_
    rotate_left
    ·try simp only [qA,qS,qZ]
     rintro w ⟨hS1,hS2,hS3,hS4,hS5⟩
     go_simp
     (try with_reducible rfl)
    try simp only [qA,qS,qZ,Act.put,qT,qO,qN]
    refine tkh (i:=3) (v:=?_) rfl ?_ ?_
    rotate_left
    ·try simp only [qA,qS,qZ]
     rintro w ⟨hS1,hS2,hS3,hS4,hS5⟩
     go_simp
     (try with_reducible rfl)
    try simp only [qA,qS,qZ,Act.put,qT,qO,qN]
    refine tkh (i:=4) (v:=?_) rfl ?_ ?_
    rotate_left
    ·try simp only [qA,qS,qZ]
     rintro w ⟨hS1,hS2,hS3,hS4,hS5⟩
     go_simp
     (try with_reducible rfl)
    try simp only [qA,qS,qZ,Act.put,qT,qO,qN]
    refine tkh (i:=5) (v:=?_) rfl ?_ ?_
    rotate_left
    ·try simp only [qA,qS,qZ]
     rintro w ⟨hS1,hS2,hS3,hS4,hS5⟩
     go_simp
     (try with_reducible rfl)
    try simp only [qA,qS,qZ,Act.put,qT,qO,qN]
    refine tkh (i:=6) (v:=?_) rfl ?_ ?_
    rotate_left
    ·try simp only [qA,qS,qZ]
     rintro w ⟨hS1,hS2,hS3,hS4,hS5⟩
     go_simp
     (try with_reducible rfl)
    try simp only [qA,qS,qZ,Act.put,qT,qO,qN]
    refine tkh (i:=7) (v:=?_) rfl ?_ ?_
    rotate_left
    ·try simp only [qA,qS,qZ]
     rintro w ⟨hS1,hS2,hS3,hS4,hS5⟩
     go_simp
     (try with_reducible rfl)
    try simp only [qA,qS,qZ,Act.put,qT,qO,qN]
    refine wpAnyH_ready (rs:=[8]) (by kernel_rfl) (by simp) ?_
    refine AllReadyH.cons (o:=_) rfl (fun K hK => ?_) ?_
    rotate_left
    ·exact AllReadyH.nil
    try simp only [qA,qS,qZ]
    go_simp
    go_at_call 30
    refine (boundedC _ _).mono ?_
    rintro e w7 ⟨rfl,rfl⟩
    go_wp2_with fail
    refine hK.out _ _ (Sd2) (fun hHeld8 => ?_)
    clear hK K
    try simp only [qA,qS,qZ,Act.put,qT,qO,qN]
    refine wpAnyH_ready (rs:=[9]) (by kernel_rfl) (by simp) ?_
    refine AllReadyH.cons (o:=_) rfl (fun K hK => ?_) ?_
    rotate_left
    ·exact AllReadyH.nil
    try simp only [qA,qS,qZ]
    go_simp
    go_at_call 29
    refine DC2.out.mono ?_
    rintro e w8 ⟨A,cp,rfl,own8,K8,G8,S8⟩
    go_wp2_with fail
    refine hK.out _ _ (S8) (fun hHeld9 => ?_)
    clear hK K
    try simp only [qA,qS,qZ,Act.put,qT,qO,qN]
    refine tkh (i:=10) (v:=?_) rfl ?_ ?_
    rotate_left
    ·try simp only [qA,qS,qZ]
     rintro w ⟨hS1,hS2,hS3,hS4,hS5⟩
     go_simp
     (try with_reducible rfl)
    try simp only [qA,qS,qZ,Act.put,qT,qO,qN]
    refine wpAnyH_done (by kernel_rfl) ?_ _
    refine NoPanic.normal ?_
    clear hHeld Sd2 DC2 hHeld8 hHeld9
    obtain ⟨t0,f0,tf,⟨At,ct,BT,ownT,hA⟩,BF⟩:=K8
    have cT:=BT.cell 0
    have cF:=BF.cell 0
    rw [<- hm.out] at cT
    have nn:((m:Int) != (m:Int)) = false:=bne_self_eq_false _
    have TF:∀ v,Below w8.heap.size w8 v -> v.cell? ⟨TT,0,none⟩ = some (.slice At m ct) /\ (∀ (k x:Nat),ms[k]? = some x -> ∃ g1 g2,At = some ⟨g1,0,none⟩ /\ A = some ⟨g2,0,none⟩ /\ v.cell? ⟨g1,k,none⟩ = some (.int .u64 (x:Int)) /\ v.cell? ⟨g2,k,none⟩ = some (.int .u64 (x:Int))):=fun v b => by
     refine ⟨(b.cell (p:=⟨TT,0,none⟩) BT.lt).trans cT,fun k x hx => ?_⟩
     obtain ⟨g1,c1,hv1,u1⟩:=own_uv ownT hx
     obtain ⟨g2,c2,hv2,u2⟩:=own_uv own8 hx
     injection hv1 with e1
     injection hv2 with e2
     exact ⟨g1,g2,e1,e2,(b.cell (p:=⟨g1,k,none⟩) (World.block_lt_of_cell? w8 _ u1)).trans u1,(b.cell (p:=⟨g2,k,none⟩) (World.block_lt_of_cell? w8 _ u2)).trans u2⟩
    replace TF:=Lib.hid TF
    replace G8:=Lib.hid G8
    clear BT ownT hA BF own8 t0 f0 tf x0 x1 x2 x3 x4 x5 z0 z1 z2 z3 z4 z5 cV e7 e7' e7''
    go_wp2_with fail
    clear cT cF
    go_loopw [12] (fun vk wk => ∃ k:Nat,vk = .int .i64 (k:Int) /\ k <= m /\ Hid (Below w8.heap.size w8 wk)) (fun vk _ => m - (intOf vk).toNat)
    case atStart => exact ⟨0,rfl,Nat.zero_le _,Lib.hid (Below.refl _ _)⟩
    case round =>
     obtain ⟨k,rfl,hk,hBk⟩:=hrel
     by_cases hkm:k < m
     ·have f1:decide ((k:Int) < (m:Int)) = true:=decide_eq_true (by omega)
      have f1':decide (k < m) = true:=decide_eq_true hkm
      have f2:IntKind.i64.wrap ((k:Int) + 1) = (k:Int) + 1:=IntWalk.i64_in _ (by omega)
      have k0:(0:Int) <= (k:Int):=by omega
      have k1:(k:Int) < (m:Int):=by omega
      obtain ⟨T1,T2⟩:=TF.out wr hBk.out
      obtain ⟨x,hx⟩:∃ x,ms[k]? = some x:=⟨ms[k]'(by rw [<- hm.out]; exact hkm),List.getElem?_eq_getElem _⟩
      obtain ⟨g1,g2,rfl,rfl,u1,u2⟩:=T2 k x hx
      have e1:((x:Int) != (x:Int)) = false:=bne_self_eq_false _
      replace hx:=Lib.hid hx
      clear T2
      go_upto_region 20 with fail
      go_quiet (fail)
      go_wp2
      go_roundw
      case rel => exact ⟨k + 1,by simp,by omega,Lib.hid (by first | exact below_drewN hBk.out _ | exact hBk.out)⟩
      case measure => simp [intOf] <;> omega
     ·obtain rfl:k = m:=by omega
      have f1:decide ((k:Int) < (k:Int)) = false:=by simp
      have f1':decide (k < k) = false:=by simp
      have G9:=Lib.hid (G8.out.below hBk.out)
      clear TF G8 hBk
      go_wp2
      go_roundw
      case rel => exact ⟨i + 1,by simp,by omega,by omega,G9⟩
      case measure => simp [intOf] <;> omega
   ·have e7:(o.dO != 7) = true:=by rw [bne_iff_ne]; exact h7
    have e7':decide (o.dO = 7) = false:=decide_eq_false h7
    have e7'':(o.dO == 7) = false:=by rw [beq_eq_false_iff_ne]; exact h7
    replace h7:=Lib.hid h7
    unfold Op6.cells at MC hw2
    by_cases h8:o.dO = 8
    ·have e8:(o.dO != 8) = false:=by rw [h8]; rfl
     have e8':decide (o.dO = 8) = true:=decide_eq_true h8
     have e8'':(o.dO == 8) = true:=by rw [h8]; rfl
     have G3:=Lib.hid (GN w2 (T2.stays (Below.refl _ _) (Nat.le_succ _)))
     replace h8:=Lib.hid h8
     replace hw2:=Lib.hid hw2
     replace hNa:=Lib.hid hNa
     clear MC GN T T2 hB hbl O1 ok hNr G eb eg eh ew b2 hB2 hN2 BV nV V2 B2
     go_upto_region 8 with fail
     rw [<- hNa.out, <- hw2.out]
     go_wp2
     go_roundw
     case rel => exact ⟨i + 1,by simp,by omega,by omega,G3⟩
     case measure => simp [intOf] <;> omega
    ·have e8:(o.dO != 8) = true:=by rw [bne_iff_ne]; exact h8
     have e8':decide (o.dO = 8) = false:=decide_eq_false h8
     have e8'':(o.dO == 8) = false:=by rw [beq_eq_false_iff_ne]; exact h8
     replace h8:=Lib.hid h8
     replace MC:=Lib.hid MC
     replace GN:=Lib.hid GN
     replace hw2:=Lib.hid hw2
     replace hNa:=Lib.hid hNa
     clear T T2 hB hbl O1 ok hNr G eb eg eh ew b2 hB2 hN2 BV nV V2 B2
     go_upto_region 8 with fail
     rw [<- hNa.out, <- hw2.out]
     go_wp2_with fail
     refine MC.out.mono ?_
     rintro e w3 ⟨rfl,G9⟩
     have G3:=Lib.hid (GN.out _ G9)
     clear G9 GN MC x0 x1 x2 x3 x4 x5 z0 z1 z2 z3 z4 z5 cV hw2
     go_wp2
     go_roundw
     case rel => exact ⟨i + 1,by simp,by omega,by omega,G3⟩
     case measure => simp [intOf] <;> omega
  obtain ⟨W3,s,bs,Z,Ls,r,laid,told,act,mk,eb,eg,eh,ew,hB,hN3,T,BV,nV⟩:=G.out
  have EC:=endsC8 T (by omega) eg
  rw [eb] at EC
  have cV:=BV.cell 0
  have fin:∀ v,Below wr.heap.size wr v -> Below N W v /\ N <= v.heap.size:=fun v b => ⟨hB.trans (b.mono hN3),Nat.le_trans hN3 b.size⟩
  replace EC:=Lib.hid EC
  replace fin:=Lib.hid fin
  have d12:(decide ((i:Int) < (l.length:Int)) = true /\ decide (i < l.length) = true /\ decide ((i:Int) < 250) = false) \/ (decide ((i:Int) < (l.length:Int)) = false /\ decide (i < l.length) = false /\ True):=by
   rcases Nat.lt_or_ge i l.length with h1 | h1
   ·exact .inl ⟨decide_eq_true (by omega),decide_eq_true h1,decide_eq_false (by omega)⟩
   ·exact .inr ⟨decide_eq_false (by omega),decide_eq_false (by omega),trivial⟩
  clear G HP T BV nV eb eg eh ew hB hN3 hlt
  rcases d12 with ⟨d1,d1',d2⟩ | ⟨d1,d1',d2⟩
  all_goals
   go_wp2_with fail
   refine EC.out.mono ?_
   rintro e w4 ⟨rfl,b4⟩
   have W4:=Lib.hid (WC.out w4)
   have F4:=Lib.hid (fin.out w4 b4)
   clear b4 EC fin
   go_wp2_with fail
   refine W4.out.mono ?_
   rintro e w5 ⟨rfl,b5⟩
   have F5:=Lib.hid (F4.out.1.trans (b5.mono F4.out.2))
   clear b5 W4 F4
   go_wp2
   go_ret
   exact ⟨rfl,F5.out⟩
end Go.Proofs.YtngehaiigbbknaaGreat.Que
