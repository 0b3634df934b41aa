/-
  Contracts and lemmas, joined: QueueChain, QueueRowPlain, QueueRowAt, QueueChainsSwap, QueueStand, QueueChainsGo, QuietTail.
-/
import Derived.Sort.CutIn
import Derived.StillTail
import Derived.Deep.Quiet
import Derived.Test.YtfjiphibalhcgaaGreatH6
import Derived.Test.YtfjiphibalhcgaaGreatH8
import Derived.Test.YtfjiphibalhcgaaGreatH9
set_option linter.unusedSimpArgs false
set_option linter.unusedVariables false
set_option linter.unusedSectionVars false
set_option maxRecDepth 100000
/-
  The walk of chain.
-/
namespace Go.Proofs.YtfjiphibalhcgaaGreat.Que
open Go.RowKit Base Arena Cls Itm Go.Shelf
attribute [local go_sem] Oper.semAt_some
set_option maxHeartbeats 2000000 in
theorem chainC {w:World} {L:Lay} {c:Conf} {s:St} {bs:List UInt8} {Z:Nat -> Option Zd} {gq gl:Nat} {Ls:Nat -> Nat -> List Nat} (h:QW w L c s bs Z gq gl Ls) (x kind:Int) (hv : 0 <= x /\ x < (c.nc:Int) /\ 1 <= kind /\ kind <= 3) (l:List Nat) (hl:lsN c Ls x kind = l) (hn:l.length <= 1000) :
    Calls Tryz.prog 72 #[.pointer (some ⟨gq,0,none⟩),.int .i64 x,.int .i64 kind] w fun e w' => ∃ A cp,e = .returned (.tuple #[.slice A l.length cp,.bool true]) /\ Below w.heap.size w w' /\ w'.ownsRow w.heap.size 50 1 (.slice A l.length cp) l.length (l.map uv):=by
  refine (callsIn_wide (n:=20)).1 ?_
  obtain ⟨i0,hi,hz0,hz1,hz2⟩:=info_parts infoH
  obtain ⟨M,hM⟩:∃ M,M = w.heap.size:=⟨_,rfl⟩
  obtain ⟨K,hK⟩:∃ K,K = l.length:=⟨_,rfl⟩
  obtain ⟨w1,hw1⟩:∃ w1,w1 = (w.alloc (.cells #[.slice none 0 0] 94)).alloc (.cells #[.bool false] 4):=⟨_,rfl⟩
  obtain ⟨w2,hw2⟩:∃ w2,w2 = w1.alloc (.cells #[.int .i64 (K:Int)] 3):=⟨_,rfl⟩
  obtain ⟨w3,hw3⟩:∃ w3,w3 = w2.alloc (.cells #[.slice none 0 0] 94):=⟨_,rfl⟩
  have z1:w1.heap.size = M + 2:=by rw [hw1,hM,World.size_alloc,World.size_alloc]
  have z2:w2.heap.size = M + 3:=by rw [hw2,World.size_alloc,z1]
  have z3:w3.heap.size = M + 4:=by rw [hw3,World.size_alloc,z2]
  have b1:Below w.heap.size w w1:=by rw [hw1]; exact ((Below.refl _ w).alloc (Nat.le_refl _) _).alloc (by simp) _
  have b2:Below w.heap.size w w2:=by rw [hw2]; exact b1.alloc b1.size _
  have b3:Below w.heap.size w w3:=by rw [hw3]; exact b2.alloc b2.size _
  have S3:ChAt w M K [] (.slice none 0 0) w3:=by
    refine ⟨?_,?_,?_,?_,World.ownsRow_nil _ _ _ _,b3,by omega,hM.symm⟩
    · rw [hw3,hw2,hw1,hM]; exact (((Boxed.new w _ _).alloc _).alloc _).alloc _
    · rw [hw3,hw2]
      have:Boxed w1 (M + 1) 4 (.bool false):=by rw [hw1,hM]; exact blk_new' (World.size_alloc _ _)
      exact (this.alloc _).alloc _
    · rw [hw3]
      have:Boxed w2 (M + 2) 3 (.int .i64 (K:Int)):=by rw [hw2]; exact blk_new' z1
      exact this.alloc _
    · rw [hw3]; exact blk_new' z2
  have hQ:∀ v,Below w.heap.size w v -> QW v L c s bs Z gq gl Ls:=fun v b => h.below b
  have ix:∀ (i H:Nat),l[i]? = some H -> (H < 18446744073709551616 /\ H ≠ 0) /\ (nextN c s Ls H = (l[i + 1]?).getD 0 /\ decide (nextN c s Ls H ≠ 0) = decide (i + 1 < l.length)) /\ (prevN c s Ls H = (if i = 0 then 0 else (l[i - 1]?).getD 0) /\ decide (prevN c s Ls H ≠ 0) = decide (0 < i)):=by
    intro i H hi
    obtain ⟨F,S,q⟩:=h
    have e:Ls x.toNat (kind.toNat - 1) = l:=by rw [<- hl]; unfold lsN; rw [if_pos hv]
    have:=q.ix S.okc S.zs.good (x:=x.toNat) (k:=kind.toNat - 1) (by omega) (by omega) (i:=i) (H:=H) (by rw [e]; exact hi)
    rwa [e] at this
  have LC:=lenC (hQ w1 b1) x kind
  have HC:=headC (hQ w3 b3) x kind
  have TC:=fun v b => tailC (hQ v b) x kind
  rw [hl, <- hK] at LC HC
  simp only [hl, <- hK] at TC
  obtain ⟨B,hB⟩:∃ B,B = decide (0 < K):=⟨_,rfl⟩
  rw [<- hB] at HC
  simp only [<- hB] at TC
  replace hB:=Lib.hid hB
  have hd:l.head?.getD 0 = (l[0]?).getD 0:=by rw [List.head?_eq_getElem?]
  rw [hd] at HC
  have nx:=fun v b H hH => behindC (hQ v b) H hH
  have pv:=fun v b H hH => aheadC (hQ v b) H hH
  have k0:decide ((K:Int) < 0) = false:=decide_eq_false (by omega)
  have k1:decide ((K:Int) > 1000) = false:=decide_eq_false (by omega)
  have k1':decide ((1000:Int) < (K:Int)) = false:=decide_eq_false (by omega)
  have hK9:K <= 1000:=by omega
  replace hK:=Lib.hid hK
  replace hw1:=Lib.hid hw1
  have nb2:w2.cell? ⟨M + 2,0,none⟩ = some (.int .i64 (K:Int)):=by rw [hw2]; exact (blk_new' z1).cell 0
  replace hw2:=Lib.hid hw2
  replace hw3:=Lib.hid hw3
  replace hM:=Lib.hid hM
  replace LC:=Lib.hid LC
  replace HC:=Lib.hid HC
  replace TC:=Lib.hid TC
  replace nx:=Lib.hid nx
  replace pv:=Lib.hid pv
  replace ix:=Lib.hid ix
  replace hQ:=Lib.hid hQ
  replace z1:=Lib.hid z1
  replace z2:=Lib.hid z2
  replace z3:=Lib.hid z3
  replace hl:=Lib.hid hl
  replace hd:=Lib.hid hd
  have n1:=S3.n.cell
  have l1:=S3.l.cell
  replace S3:=Lib.hid S3
  clear h hv hn b1 b2 b3
  refine callsIn_of_wp_marks Tryz.func72 rfl trivial ?_ rfl
  simp only [Tryz.ntmps72,List.size_toArray,List.length_cons,List.length_nil,Nat.reduceAdd,Nat.reduceSub,Array.replicate_succ,Array.replicate_zero,List.push_toArray,List.append_toArray,List.nil_append,List.cons_append]
  gi_upto_region 1 with fail
  rw [<- hw1.out, <- hM.out]
  gi_wp2_with fail
  refine ⟨trivial,?_⟩
  gi_at_call 29
  refine (callsIn_wide.2 LC.out).mono ?_
  rintro e w' ⟨rfl,rfl⟩
  gi_upto_region 2 with fail
  rw [z1.out,show (w1.alloc (.cells #[.int .i64 (K:Int)] 3)) = w2 from hw2.out.symm]
  gi_upto_region 5 with fail
  rw [z2.out, <- hw3.out]
  clear nb2
  gi_wp2_with fail
  refine ⟨trivial,?_⟩
  gi_at_call 51
  refine (callsIn_wide.2 HC.out).mono ?_
  rintro e w' ⟨rfl,rfl⟩
  clear LC HC n1 l1
  gi_wp2_with fail
  gi_loopw [10,11] (fun t10 t11 wr => ∃ (i:Nat) (v:Value),t10 = .int .u64 (((l[i]?).getD 0:Nat):Int) /\ t11 = .bool (decide (i < K)) /\ i <= K /\ Hid (ChAt w M K (l.take i) v wr)) (fun _ _ wr => K - slLen wr (M + 3))
  case atStart => exact ⟨0,_,rfl,congrArg Value.bool hB.out,Nat.zero_le _,S3⟩
  case round =>
    obtain ⟨i,v,rfl,rfl,hiK,S⟩:=hrel
    clear S3
    have hti:(l.take i).length = i:=by rw [List.length_take]; have:=hK.out; omega
    obtain ⟨A,cp,rfl⟩:=own_is S.out.own
    rw [hti] at S
    have own:=S.out.own
    rw [hti] at own
    have cn:=S.out.n.cell
    have cl:=S.out.l.cell
    by_cases hlt:i < K
    · obtain ⟨H,hH⟩:∃ H,l[i]? = some H:=⟨l[i]'(by have:=hK.out; omega),List.getElem?_eq_getElem _⟩
      obtain ⟨⟨hH1,hH2⟩,⟨e1,e2⟩, -⟩:=ix.out i H hH
      rw [<- hK.out] at e2
      have dK:decide (i < K) = true:=decide_eq_true hlt
      have dL:decide ((i:Int) <= (K:Int)) = true:=decide_eq_true (by omega)
      have e0:(l[i]?).getD 0 = H:=by rw [hH]; rfl
      rw [e0,dK]
      have hts:l.take (i + 1) = l.take i ++ [H]:=by rw [List.take_add_one,hH]; rfl
      have smS:=S.out.sz
      replace hH:=Lib.hid hH
      replace e1:=Lib.hid e1
      replace e2:=Lib.hid e2
      replace e0:=Lib.hid e0
      replace hts:=Lib.hid hts
      replace hti:=Lib.hid hti
      gi_wp2_with (gi_at_builtin; refine wpListIn_append_own _ rfl _ _ 94 rfl (M + 4) 50 i0 (.int .u64 0) 1 8 Tryz.underlying94 hi hz0 hz1 hz2 rfl (by decide) _ _ _ rfl (own.alloc _) ⟨wr.heap.size,0,none⟩ 1 1 [.int .u64 (H:Int)] rfl rfl (cell_one_new _ _ _) ?b0 ?b1 ?b2 ?b3 ?_)
      case b0 => simp [Value.oneCell']
      case b1 => unfold maxLen; omega
      case b2 => omega
      case b3 => (first | omega | (rw [World.size_alloc]; omega))
      intro v' w5 hown' hgrow _
      rw [<- List.map_take] at hown'
      obtain ⟨g',cap',rfl⟩:=ownsRow_succ hown'
      have bx5:=S.out.box hgrow
      have cx5:=bx5.cell
      have fx5:=bx5.frozen
      have S5:=S.out.snoc hgrow (by rw [hti.out]; exact hown')
      rw [<- hts.out] at S5
      obtain ⟨w6,hw6⟩:∃ w6,w6 = w5.setCell ⟨M + 3,0,none⟩ (.slice (some ⟨g',0,none⟩) (i + 1) cap'):=⟨_,rfl⟩
      rw [<- hw6] at S5
      have BH:=nx.out w6 S5.bel H hH1
      rw [e2.out,e1.out] at BH
      replace S5:=Lib.hid S5
      replace BH:=Lib.hid BH
      replace hw6:=Lib.hid hw6
      clear hown' hgrow own bx5 cl cn
      gi_upto_region 8 with fail
      rw [show (w5.setCell ⟨M + 3,0,none⟩ (.slice (some ⟨g',0,none⟩) (i + 1) cap')) = w6 from hw6.out.symm]
      clear cx5 fx5
      gi_wp2_with fail
      refine ⟨trivial,?_⟩
      gi_at_call 61
      refine (callsIn_wide.2 BH.out).mono ?_
      rintro e w7 ⟨rfl,b7⟩
      have S7:=S5.out.below b7
      have m7:slLen w7 (M + 3) = i + 1:=S7.slLen rfl
      have mr:slLen wr (M + 3) = i:=S.out.slLen rfl
      replace S7:=Lib.hid S7
      replace m7:=Lib.hid m7
      replace mr:=Lib.hid mr
      clear S5 BH b7
      gi_wp2
      go_roundw
      case rel => exact ⟨i + 1,_,rfl,rfl,by omega,S7⟩
      case measure => rw [m7.out,mr.out]; omega
    · obtain rfl:K = i:=by omega
      have e0:(l[K]?).getD 0 = 0:=by rw [List.getElem?_eq_none (by have:=hK.out; omega)]; rfl
      have dK:decide (K < K) = false:=decide_eq_false (by omega)
      rw [e0,dK]
      have T1:=TC.out wr S.out.bel
      have hfl:l.take K = l:=List.take_of_length_le (by have:=hK.out; omega)
      rw [hfl] at S
      obtain ⟨T,hT⟩:∃ T,T = l.getLast?.getD 0:=⟨_,rfl⟩
      rw [<- hT] at T1
      have qn:((K:Int) != (K:Int)) = false:=by simp
      have qn2:decide ((K:Int) = (K:Int)) = true:=by simp
      replace T1:=Lib.hid T1
      replace hT:=Lib.hid hT
      replace hfl:=Lib.hid hfl
      replace hti:=Lib.hid hti
      clear own
      gi_wp2_with fail
      refine ⟨trivial,?_⟩
      gi_at_call 28
      refine (callsIn_wide.2 T1.out).mono ?_
      rintro e w' ⟨rfl,rfl⟩
      clear T1 TC
      gi_upto_region 12 with fail
      gi_cut [96] from 72 (fun s96 wx => s96 = .bool false /\ wr = wx)
      case first =>
        by_cases h0:K = 0
        · have a1:decide (0 < K) = false:=decide_eq_false (by omega)
          have a2:decide ((K:Int) > 0) = false:=decide_eq_false (by omega)
          have a3:decide ((0:Int) < (K:Int)) = false:=decide_eq_false (by omega)
          have a4:((K:Int) == 0) = true:=by rw [beq_iff_eq]; omega
          have a5:decide ((K:Int) = 0) = true:=decide_eq_true (by omega)
          have a6:decide (K = 0) = true:=decide_eq_true h0
          have eT:T = 0:=by
            rw [hT.out]
            have:l = []:=List.eq_nil_of_length_eq_zero (by have:=hK.out; omega)
            rw [this]; rfl
          obtain rfl:B = false:=hB.out.trans a1
          subst eT
          replace h0:=Lib.hid h0
          gi_wp2_with fail
          gi_meet
          exact ⟨rfl,rfl⟩
        · have a1:decide (0 < K) = true:=decide_eq_true (by omega)
          have a2:decide ((K:Int) > 0) = true:=decide_eq_true (by omega)
          have a3:decide ((0:Int) < (K:Int)) = true:=decide_eq_true (by omega)
          have a4:((K:Int) == 0) = false:=by rw [beq_eq_false_iff_ne]; omega
          have a5:decide ((K:Int) = 0) = false:=decide_eq_false (by omega)
          have a6:decide (K = 0) = false:=decide_eq_false h0
          have hx:l[K - 1]? = some T:=by
            rw [hT.out,List.getLast?_eq_getElem?, <- hK.out,List.getElem?_eq_getElem (by have:=hK.out; omega)]; rfl
          obtain ⟨g,c',hv,g1,g2,ug⟩:=S.out.at_ hx
          injection hv with hv1 hv2 hv3
          subst hv1
          have qs:IntKind.i64.wrap ((K:Int) - 1) = ((K - 1:Nat):Int):=by rw [IntWalk.i64_in _ (by omega)]; omega
          have j0:(0:Int) <= ((K - 1:Nat):Int):=by omega
          have j1:((K - 1:Nat):Int) < (K:Int):=by omega
          have b1:((T:Int) != (T:Int)) = false:=by simp
          obtain rfl:B = true:=hB.out.trans a1
          generalize K - 1 = K1 at *
          replace h0:=Lib.hid h0
          replace hx:=Lib.hid hx
          clear hv2 hv3
          gi_wp2_with fail
          gi_meet
          exact ⟨rfl,rfl⟩
      case rest =>
        obtain ⟨rfl,rfl⟩:=hcut
        have q14:IntKind.i64.wrap ((K:Int) - 1) = (K:Int) - 1:=IntWalk.i64_in _ (by omega)
        clear cl
        gi_wp2_with fail
        clear cn
        gi_loopw [14] (fun t14 wy => ∃ j:Nat,t14 = .int .i64 ((j:Int) - 1) /\ j <= K /\ Hid (ChAt w M K l (.slice A K cp) wy)) (fun t14 _ => (intOf t14 + 1).toNat)
        case atStart => exact ⟨K,rfl,Nat.le_refl _,S⟩
        case round =>
          obtain ⟨j,rfl,hjK,Sy⟩:=hrel
          clear S
          have cn:=Sy.out.n.cell
          have cl:=Sy.out.l.cell
          cases j with
          | zero =>
            rw [show (((0:Nat):Int) - 1) = -1 from rfl]
            gi_wp2_with fail
            have C0:=Lib.hid (allC0 wr gq x kind)
            refine ⟨trivial,?_⟩
            gi_at_call 17
            refine (callsIn_wide.2 C0.out).mono ?_
            rintro e w' ⟨rfl,hw4⟩
            obtain ⟨w4,hw4b⟩:∃ w4,w4 = w':=⟨_,rfl⟩
            rw [<- hw4b]
            rw [<- hw4b] at hw4
            clear hw4b
            obtain ⟨C1,hC1⟩:∃ C1,C1 = wr.heap.size:=⟨_,rfl⟩
            have b4:Below wr.heap.size wr w4:=by rw [hw4]; exact (((Below.refl _ wr).alloc (Nat.le_refl _) _).alloc (by rw [World.size_alloc]; omega) _).alloc (by rw [World.size_alloc,World.size_alloc]; omega) _
            have z4:w4.heap.size = C1 + 3:=by rw [hw4,hC1,World.size_alloc,World.size_alloc,World.size_alloc]
            have d1:w4.cell? ⟨C1,0,none⟩ = some (.pointer (some ⟨gq,0,none⟩)):=by rw [hw4,hC1]; exact (((Blk.new wr _ _).alloc _).alloc _).cell 0
            have d2:w4.cell? ⟨C1 + 1,0,none⟩ = some (.int .i64 x):=by rw [hw4,hC1]; exact ((blk_new' (World.size_alloc _ _)).alloc _).cell 0
            have d3:w4.cell? ⟨C1 + 2,0,none⟩ = some (.int .i64 kind):=by rw [hw4,hC1]; exact (blk_new' (by rw [World.size_alloc,World.size_alloc])).cell 0
            rw [<- hC1]
            obtain ⟨B9,hB9⟩:∃ B9,B9 = w4.heap.size:=⟨_,rfl⟩
            obtain ⟨w5,hw5⟩:∃ w5,w5 = w4.alloc (.cells #[.int .i64 0] 3):=⟨_,rfl⟩
            have b5:Below w4.heap.size w4 w5:=by rw [hw5]; exact (Below.refl _ _).alloc (Nat.le_refl _) _
            have z5:w5.heap.size = B9 + 1:=by rw [hw5,hB9]; exact World.size_alloc _ _
            have bx9:Boxed w5 B9 3 (.int .i64 0):=by rw [hw5,hB9]; exact Boxed.new _ _ _
            have b35:Below wr.heap.size wr w5:=b4.trans (b5.mono (by omega))
            have S5:=Sy.out.below b35
            have q3:wr.heap.size + 3 <= B9:=by omega
            have q4:B9 + 1 <= w5.heap.size:=by omega
            have q5:w5.heap.size <= B9 + 1:=by omega
            have q6:M + 4 <= wr.heap.size:=Sy.out.sz
            have e1:=(b5.cell (p:=⟨C1,0,none⟩) (by show C1 < _; omega)).trans d1
            have e2:=(b5.cell (p:=⟨C1 + 1,0,none⟩) (by show C1 + 1 < _; omega)).trans d2
            have e3:=(b5.cell (p:=⟨C1 + 2,0,none⟩) (by show C1 + 2 < _; omega)).trans d3
            have hseq:=all_seq (hQ.out w5 S5.bel) x kind (20 - 1) (by omega) C1 (C1 + 1) (C1 + 2) e1 e2 e3
            rw [hl.out, <- hK.out] at hseq
            have og:∀ b,(Value.slice A K cp).ownBlock = some b -> b < wr.heap.size:=fun b e => own_blockN Sy.out.own e
            replace hw5:=Lib.hid hw5
            replace hB9:=Lib.hid hB9
            replace hC1:=Lib.hid hC1
            replace z4:=Lib.hid z4
            replace z5:=Lib.hid z5
            replace hw4:=Lib.hid hw4
            replace S5:=Lib.hid S5
            replace og:=Lib.hid og
            clear C0 b4 b5 b35 d1 d2 d3 e1 e2 e3 Sy cn cl
            have fn0:=func_nil C1 (C1 + 1) (C1 + 2) w4
            gi_wp2_with fail
            rw [<- hw5.out, <- hB9.out]
            refine range_law (by omega) (gf:=52) (lb:=#[.pointer (some ⟨C1,0,none⟩),.pointer (some ⟨C1 + 1,0,none⟩),.pointer (some ⟨C1 + 2,0,none⟩)]) rfl (enters_of Tryz.func52 (by kernel_rfl) rfl) hseq (fun _ => rfl)
              (fun pre Wx => Boxed Wx B9 3 (.int .i64 (pre.length:Int)) /\ (Only (fun b => b = B9 \/ w5.heap.size <= b) w5 Wx /\ pre.map (·.1) <+: l))
              (fun c pre Wx => c = .ret /\ (Only (fun b => b = M \/ b = M + 1 \/ b = B9 \/ w5.heap.size <= b) w5 Wx /\ ¬ pre.map (·.1) <+: l))
              (OwnFrom.and (Own.from (boxed_own B9 3 fun pre:List HU => .int .i64 (pre.length:Int)) _) (OwnFrom.and (ownFrom_only (Nat.le_refl _)) (ownFrom_pure _ _)))
              (fun c => OwnFrom.and (ownFrom_pure _ _) (OwnFrom.and (ownFrom_only (Nat.le_refl _)) (ownFrom_pure _ _)))
              ⟨bx9,Only.refl _ _,List.nil_prefix⟩ ?act ?assign ?body ?done ?stop
            case assign =>
              intro l' y W' K' hK'
              gi_wp2
              exact hK'
            case body =>
              rintro l' pre y Wx hl1 hl2 ⟨rec,hrec⟩ ⟨bx,oW,hp⟩ hlt
              obtain ⟨n,hn⟩:∃ n,n = pre.length:=⟨_,rfl⟩
              rw [<- hn] at bx hlt
              have Sx:ChAt w M K l (.slice A K cp) Wx:=S5.out.only oW fun b hb => ⟨by omega,fun e => by have:=og.out b e; omega⟩
              have c9:=bx.cell
              have f9:=bx.frozen
              have cn:=Sx.n.cell
              have cl:=Sx.l.cell
              have c6:=Sx.r.cell
              have f6:=Sx.r.frozen
              have c7:=Sx.b.cell
              have f7:=Sx.b.frozen
              obtain ⟨z,hz⟩:∃ z,l[n]? = some z:=⟨l[n]'(by rw [<- hK.out]; exact hlt),List.getElem?_eq_getElem _⟩
              obtain ⟨g,c9',hv,g1,g2,cz⟩:=Sx.at_ hz
              injection hv with hv1 hv2 hv3
              subst hv1
              have i0:(0:Int) <= (n:Int):=by omega
              have i1:(n:Int) < (K:Int):=by omega
              have d1:decide ((n:Int) ≥ (K:Int)) = false:=decide_eq_false (by omega)
              have d1':decide ((K:Int) <= (n:Int)) = false:=decide_eq_false (by omega)
              have q1:IntKind.i64.wrap ((n:Int) + 1) = ((n + 1:Nat):Int):=by rw [IntWalk.i64_in _ (by omega)]; omega
              have kp:∀ X Y b v,b < w5.heap.size -> KeepP w5.heap.size X Y -> (Y.heap[l']? = X.heap[l']?) -> l' < Y.heap.size -> KeepP w5.heap.size X (Y.setCell ⟨b,0,none⟩ v) /\ (Y.setCell ⟨b,0,none⟩ v).heap[l']? = X.heap[l']?:=fun X Y b v hb k hl hl3 =>
                ⟨k.trans (KeepP.only (only_cell1 (S:=(· = b)) Y b 0 v rfl) fun b' o hb' _ _ e => by omega),((only_cell1 (S:=(· = b)) Y b 0 v rfl).block l' hl3 (by omega)).trans hl⟩
              replace hn:=Lib.hid hn
              replace hz:=Lib.hid hz
              replace kp:=Lib.hid kp
              replace bx:=Lib.hid bx
              replace oW:=Lib.hid oW
              replace hp:=Lib.hid hp
              replace Sx:=Lib.hid Sx
              clear hrec hv2 hv3
              by_cases hyz:y.1 = z
              · have e1:((y.1:Int) == (z:Int)) = true:=by rw [beq_iff_eq]; omega
                have e2:((y.1:Int) != (z:Int)) = false:=by rw [bne_eq_false_iff_eq]; omega
                have e3:decide ((y.1:Int) = (z:Int)) = true:=decide_eq_true (by omega)
                have T:=Lib.hid (show KeepP w5.heap.size Wx (Wx.setCell ⟨B9,0,none⟩ (.int .i64 ((n + 1:Nat):Int))) /\ (Wx.setCell ⟨B9,0,none⟩ (.int .i64 ((n + 1:Nat):Int))).heap[l']? = Wx.heap[l']? /\ (Boxed (Wx.setCell ⟨B9,0,none⟩ (.int .i64 ((n + 1:Nat):Int))) B9 3 (.int .i64 ((pre ++ [y]).length:Int)) /\ Only (fun b => b = B9 \/ w5.heap.size <= b) w5 (Wx.setCell ⟨B9,0,none⟩ (.int .i64 ((n + 1:Nat):Int))) /\ (pre ++ [y]).map (·.1) <+: l) from by
                  obtain ⟨k1,k2⟩:=kp.out Wx Wx B9 (.int .i64 ((n + 1:Nat):Int)) (by omega) (KeepP.refl _ _) rfl hl2
                  refine ⟨k1,k2,?_,oW.out.setCell (p:=⟨B9,0,none⟩) (fun _ => .inl rfl) _,?_⟩
                  · rw [List.length_append,List.length_singleton, <- hn.out]
                    exact bx.out.set _
                  · rw [List.map_append]
                    exact prefix_snoc hp.out (by rw [List.length_map, <- hn.out,hz.out, <- hyz]))
                replace hyz:=Lib.hid hyz
                gi_wp2
                exact T.out
              · have e1:((y.1:Int) == (z:Int)) = false:=by rw [beq_eq_false_iff_ne]; omega
                have e2:((y.1:Int) != (z:Int)) = true:=by rw [bne_iff_ne]; omega
                have e3:decide ((y.1:Int) = (z:Int)) = false:=decide_eq_false (by omega)
                obtain ⟨V1,hV1⟩:∃ V1,V1 = Wx.setCell ⟨M,0,none⟩ (.slice none 0 0):=⟨_,rfl⟩
                have o1:Only (· = M) Wx V1:=by rw [hV1]; exact only_cell1 Wx M 0 _ rfl
                have bV:Boxed V1 (M + 1) 4 (.bool false):=(o1.block (M + 1) (by have:=Sx.out.sz; omega) (by omega)).trans Sx.out.b
                have cV:=bV.cell
                have fV:=bV.frozen
                have T:=Lib.hid (show KeepP w5.heap.size Wx (V1.setCell ⟨M + 1,0,none⟩ (.bool false)) /\ (V1.setCell ⟨M + 1,0,none⟩ (.bool false)).heap[l']? = Wx.heap[l']? /\ (Code.ret = Code.ret /\ (Only (fun b => b = M \/ b = M + 1 \/ b = B9 \/ w5.heap.size <= b) w5 (V1.setCell ⟨M + 1,0,none⟩ (.bool false)) /\ ¬ (pre ++ [y]).map (·.1) <+: l)) from by
                  obtain ⟨k1,k2⟩:=kp.out Wx Wx M (.slice none 0 0) (by omega) (KeepP.refl _ _) rfl hl2
                  rw [<- hV1] at k1 k2
                  obtain ⟨k3,k4⟩:=kp.out Wx V1 (M + 1) (.bool false) (by omega) k1 k2 (Nat.lt_of_lt_of_le hl2 k1.size)
                  refine ⟨k3,k4,rfl,((oW.out.mono fun b _ e => .inr (.inr e)).trans (o1.mono fun _ _ e => .inl e) fun _ _ e => e).setCell (p:=⟨M + 1,0,none⟩) (fun _ => .inr (.inl rfl)) _,?_⟩
                  rw [List.map_append]
                  exact prefix_not (by rw [List.length_map, <- hn.out,hz.out]) hyz)
                replace hyz:=Lib.hid hyz
                replace hV1:=Lib.hid hV1
                clear o1 bV
                gi_wp2
                have T2:=T.out
                rw [hV1.out] at T2
                exact ⟨T2.1,T2.2.1,rfl,T2.2.2.2⟩
            case done =>
              rintro D' ys Wx hD' hS ⟨bx,oW,hp⟩ hKd
              have hlen:ys.length = K:=by rw [hK.out, <- hS,List.length_map]
              rw [hlen] at bx
              have Sx:ChAt w M K l (.slice A K cp) Wx:=S5.out.only oW fun b hb => ⟨by omega,fun e => by have:=og.out b e; omega⟩
              have c9:=bx.cell
              have cn:=Sx.n.cell
              have cl:=Sx.l.cell
              have c6:=Sx.r.cell
              have f6:=Sx.r.frozen
              have c7:=Sx.b.cell
              have f7:=Sx.b.frozen
              have e1:((K:Int) == (K:Int)) = true:=by simp
              have e2:decide ((K:Int) = (K:Int)) = true:=by simp
              replace hlen:=Lib.hid hlen
              replace hS:=Lib.hid hS
              replace Sx:=Lib.hid Sx
              clear bx hp
              gi_upto_region 29 with fail
              gi_region
              gi_wp2
              obtain ⟨V1,hV1⟩:∃ V1,V1 = Wx.setCell ⟨M,0,none⟩ (.slice A K cp):=⟨_,rfl⟩
              obtain ⟨V2,hV2⟩:∃ V2,V2 = V1.setCell ⟨M + 1,0,none⟩ (.bool true):=⟨_,rfl⟩
              rw [show ((Wx.setCell ⟨M,0,none⟩ (.slice A K cp)).setCell ⟨M + 1,0,none⟩ (.bool true)) = V2 by rw [hV2,hV1]]
              have o1:Only (· = M) Wx V1:=by rw [hV1]; exact only_cell1 Wx M 0 _ rfl
              have o2:Only (· = M + 1) V1 V2:=by rw [hV2]; exact only_cell1 V1 (M + 1) 0 _ rfl
              have q7:M + 4 <= Wx.heap.size:=Sx.out.sz
              have r1:Boxed V2 M 94 (.slice A K cp):=(o2.block M (by have:=o1.size; omega) (by omega)).trans (by rw [hV1]; exact Sx.out.r.set _)
              have r2:Boxed V2 (M + 1) 4 (.bool true):=by
                have:Boxed V1 (M + 1) 4 (.bool false):=(o1.block (M + 1) (by omega) (by omega)).trans Sx.out.b
                rw [hV2]; exact this.set _
              have oV:Only (fun b => b = M \/ b = M + 1) Wx V2:=(o1.mono fun _ _ e => .inl e).trans (o2.mono fun _ _ e => .inr e) fun _ _ e => e
              have hD5:M + 4 <= D':=by omega
              have hKD:=(oV.block D' (heap_lt hKd) (by omega)).trans hKd
              have hMw:M = w.heap.size:=Sx.out.hM.symm
              have own2:V2.ownsRow (M + 4) 50 1 (.slice A K cp) l.length (l.map uv):=own_keptN Sx.out.own fun d e => oV.block d (own_blockN Sx.out.own e) (by have:=own_base Sx.out.own e; omega)
              have bF:Below w.heap.size w V2:=Sx.out.bel.trans (oV.toBelow (B:=w.heap.size) fun k hk => ⟨by have:=Sx.out.bel.size; omega,by omega⟩)
              refine ⟨by simp,.inl ⟨_,_,rfl,run_takeDeferred hKD,?_⟩⟩
              have hg:=grownBy_putObj' V2.drew D' (.deferred none)
              have bF3:Below w.heap.size w V2.drew:=below_drewN bF 1
              have ne:∀ b,b < M + 4 -> some b ≠ some D':=fun b hb e => by injection e with e; omega
              have m1:(V2.putObj D' (.deferred none)).cell? ⟨M,0,none⟩ = some (.slice A K cp):=Blk.cell (g:=M) ((World.putObj_heap_other (by omega)).trans r1) 0
              have m2:(V2.putObj D' (.deferred none)).cell? ⟨M + 1,0,none⟩ = some (.bool true):=Blk.cell (g:=M + 1) ((World.putObj_heap_other (by omega)).trans r2) 0
              refine ⟨_,results_cell_two (P:=Tryz.prog) rfl _ _ M (M + 1) _ _ _ _ rfl rfl m1 m2 Tryz.underlying94 rfl Tryz.underlying4 rfl,?_⟩
              rw [<- hK.out]
              refine ⟨A,cp,rfl,bF3.grown hg bF3.size (fun k e => by cases e; omega),?_⟩
              have own3:V2.ownsRow w.heap.size 50 1 (.slice A K cp) K (l.map uv):=by
                have:=own_less own2 (N:=w.heap.size) (by omega)
                rwa [<- hK.out] at this
              refine own_keptN own3 fun d e => World.putObj_heap_other fun e2 => ?_
              have h1:=og.out d e
              omega
            case stop =>
              rintro D' c' pre Wx hD' hSp ⟨rfl,oW,hn⟩ hKd
              exact absurd hSp hn
          | succ i =>
            rw [show (((i + 1:Nat):Int) - 1) = (i:Int) by omega]
            obtain ⟨H,hH⟩:∃ H,l[i]? = some H:=⟨l[i]'(by have:=hK.out; omega),List.getElem?_eq_getElem _⟩
            obtain ⟨⟨hH1,hH2⟩, -,e1,e2⟩:=ix.out i H hH
            have PH:=pv.out wr Sy.out.bel H hH1
            rw [e2,e1] at PH
            obtain ⟨g,c',hv,g1,g2,ug⟩:=Sy.out.at_ hH
            injection hv with hv1 hv2 hv3
            subst hv1
            have j0:(0:Int) <= (i:Int):=by omega
            have j1:(i:Int) < (K:Int):=by omega
            have d1:decide ((i:Int) ≥ 0) = true:=decide_eq_true (by omega)
            have d1':decide ((0:Int) <= (i:Int)) = true:=decide_eq_true (by omega)
            have qi:IntKind.i64.wrap ((i:Int) - 1) = (i:Int) - 1:=IntWalk.i64_in _ (by omega)
            replace PH:=Lib.hid PH
            clear hv2 hv3
            gi_wp2_with fail
            refine ⟨trivial,?_⟩
            gi_at_call 60
            refine (callsIn_wide.2 PH.out).mono ?_
            rintro e wz ⟨rfl,bz⟩
            have Sz:=Sy.out.below bz
            have cn:=Sz.n.cell
            have cl:=Sz.l.cell
            by_cases h0:i = 0
            · have a1:decide (0 < i) = false:=decide_eq_false (by omega)
              have a2:decide ((i:Int) > 0) = false:=decide_eq_false (by omega)
              have a3:decide ((0:Int) < (i:Int)) = false:=decide_eq_false (by omega)
              have a4:((i:Int) == 0) = true:=by rw [beq_iff_eq]; omega
              have a5:decide ((i:Int) = 0) = true:=decide_eq_true (by omega)
              have a6:decide (i = 0) = true:=decide_eq_true h0
              rw [if_pos h0,a1]
              replace Sz:=Lib.hid Sz
              replace h0:=Lib.hid h0
              clear PH Sy bz ug
              gi_wp2
              go_roundw
              case rel => exact ⟨i,rfl,by omega,Sz⟩
              case measure => simp [intOf] <;> omega
            · have a1:decide (0 < i) = true:=decide_eq_true (by omega)
              have a2:decide ((i:Int) > 0) = true:=decide_eq_true (by omega)
              have a3:decide ((0:Int) < (i:Int)) = true:=decide_eq_true (by omega)
              have a4:((i:Int) == 0) = false:=by rw [beq_eq_false_iff_ne]; omega
              have a5:decide ((i:Int) = 0) = false:=decide_eq_false (by omega)
              have a6:decide (i = 0) = false:=decide_eq_false h0
              obtain ⟨G,hG⟩:∃ G,l[i - 1]? = some G:=⟨l[i - 1]'(by have:=hK.out; omega),List.getElem?_eq_getElem _⟩
              obtain ⟨g',c9,hv, -, -,ug'⟩:=Sz.at_ hG
              injection hv with hv1 hv2 hv3
              injection hv1 with hv1
              injection hv1 with hv1
              subst hv1
              rw [if_neg h0,a1,hG,show (some G).getD 0 = G from rfl]
              have qs:IntKind.i64.wrap ((i:Int) - 1) = ((i - 1:Nat):Int):=by rw [IntWalk.i64_in _ (by omega)]; omega
              have k0:(0:Int) <= ((i - 1:Nat):Int):=by omega
              have k1:((i - 1:Nat):Int) < (K:Int):=by omega
              have b1:((G:Int) != (G:Int)) = false:=by simp
              have qe:((i - 1:Nat):Int) = (i:Int) - 1:=by omega
              have m9:((i - 1:Nat):Int) + 1 < (i:Int) + 1:=by omega
              generalize i - 1 = i1 at *
              replace Sz:=Lib.hid Sz
              replace h0:=Lib.hid h0
              replace qe:=Lib.hid qe
              replace hG:=Lib.hid hG
              clear PH Sy bz ug hv2 hv3 qi
              gi_wp2
              go_roundw
              case rel => exact ⟨i,by rw [<- qe.out],by omega,Sz⟩
              case measure => have:=qe.out; simp [intOf] <;> omega
end Go.Proofs.YtfjiphibalhcgaaGreat.Que
/-
  QueueRow's row in plain numbers.
-/
namespace Go.Proofs.YtfjiphibalhcgaaGreat.Que
open Go.RowKit Base Arena Cls Itm
def oneL (k:Nat) (l:List Nat):Nat -> Nat -> List Nat:=fun a b => if a = 0 /\ b = k then l else []
structure RowI (s:St) (Z:Nat -> Option Zd) (told want:List Nat):Prop where
 it:∀ H ∈ told,∃ i x p,findN qc.cf s H = some (i,x,p) /\ s.cls i = 0
 is:∀ H ∈ told,(Z H).isSome = true
 sub:∀ H ∈ want,H ∈ told
 nd:want.Nodup
def Rm (s:St) (i:Nat):Prop:=(i = 0 /\ s = new0 qc.cf) \/ (0 < i /\ (s.free 0).length + i = 64)
section
variable {s:St} {Z:Nat -> Option Zd} {told want:List Nat} (h:RowI s Z told want) {H:Nat} (hH:H ∈ told) {k:Nat} (hk:k < 3) {l:List Nat}
include h hH
include hk
end
theorem WAt.only {N:Nat} {w w':World} {W:W6} {c:Conf} {s:St} {bs:List UInt8} {Z:Nat -> Option Zd} {Ls Ld:Nat -> Nat -> List Nat} {r:RS} {laid told:List Nat} (h:WAt N w W c s bs Z Ls Ld r laid told) {S:Nat -> Prop} (o:Only S w w') (hs:∀ i b,W.foot c s i b -> ¬ S b) :
  WAt N w' W c s bs Z Ls Ld r laid told:=by
 obtain ⟨F,S,q⟩:=h.q
 exact ⟨⟨F,⟨S.zs.only o fun b hb => hs .set b hb,S.q.only o (hs .queue _ (.inl rfl)) (hs .queue _ (.inr rfl)),S.fq,S.fl⟩,q⟩,h.ref.only o fun b hb => hs .ref b hb,h.doc.only o fun b hb => hs .doc b hb,
  (o.block _ h.own.lt (hs .own _ (.inl rfl))).trans h.own,own_keptN h.told fun b e => o.block b (own_blockN h.told e) (hs .own b (.inr e)),h.sep,h.tb,h.base⟩
structure RowAt (N:Nat) (w0 w:World) (W:W6) (k:Nat) (s:St) (bs:List UInt8) (Z:Nat -> Option Zd) (r:RS) (laid told want l:List Nat) (v:Value):Prop where
 bel:Below N w0 w
 wat:WAt N w W qc s bs Z (oneL k l) (fun _ _ => []) r laid told
 row:RowI s Z told want
 rel:Rel qc.cf s r
 rm:Rm s told.length
 bs:bs.length = qc.cf.ps * qc.cf.np
 ch:r.ch.length <= 16384 * told.length
 la:laid.length <= told.length
 own:w.ownsRow N 26 1 v want.length (want.map uv)
 far:∀ b,v.ownBlock = some b -> ∀ i,¬ W.foot qc s i b
def RwAt (N:Nat) (w0 w:World) (W:W6) (k:Nat) (told want l:List Nat) (v:Value):Prop:=∃ s bs Z r laid,RowAt N w0 w W k s bs Z r laid told want l v
section
variable {N:Nat} {w0 w:World} {W:W6} {k:Nat} {told want l:List Nat} {v:Value} (h:RwAt N w0 w W k told want l v)
include h
theorem RwAt.below {w':World} (b:Below w.heap.size w w'):RwAt N w0 w' W k told want l v:=by
 obtain ⟨s,bs,Z,r,laid,h⟩:=h
 exact ⟨s,bs,Z,r,laid,h.bel.trans (b.mono h.wat.hN0),h.wat.below b,h.row,h.rel,h.rm,h.bs,h.ch,h.la,own_keptN h.own fun d e => b.block d (own_blockN h.own e),h.far⟩
variable (hk:k < 3) {H:Nat} (hH:H ∈ told)
include hk hH
end
section
variable {N:Nat} {w0 w:World} {W:W6} {k:Nat} {told want l:List Nat} {v:Value} (h:RwAt N w0 w W k told want l v) (hk:k < 3)
include h hk
end
theorem quiet_more7 {P:Program} {f:FuncId} {args:Array Value} {w:World} {n:Nat} {v:Value}
    (h:Calls P f args (w.drewN n) fun e w' => e = .returned v /\ ∃ m,(w.drewN n).drewN m = w'):Calls P f args (w.drewN n) fun e w'' => e = .returned v /\ ∃ m,w'' = w.drewN m :=
  h.mono fun _ _ ⟨he,m,hm⟩ => ⟨he,n + m,by rw [<- hm,World.drewN_drewN]⟩
theorem own_st {w:World} {N n g cp i:Nat} {e:TypeId} {xs:List Value} (h:w.ownsRow N e 1 (.slice (some ⟨g,0,none⟩) n cp) n xs) (hi:i < n):(∃ v,w.cell? ⟨g,i,none⟩ = some v) /\ w.frozen? ⟨g,i,none⟩ = false:=by
  rcases h.2 with ⟨e0,h0⟩ | ⟨g',cap,cur,hv,hB,hg,h1,h2,h3,h4⟩
  · cases e0
  · injection hv with hv1 hv2 hv3
    injection hv1 with hv1
    injection hv1 with hv1
    subst hv1
    have hB':Blk w g e cur:=hg
    exact ⟨⟨_,(hB'.cell i).trans (Array.getElem?_eq_getElem (by omega))⟩,hB'.frozen i⟩
def iv (n:Nat):Value:=.int .i64 (n:Int)
theorem own_cellI {w:World} {N n g cp i:Nat} {x:Value} {xs:List Value} (h:w.ownsRow N 3 1 (.slice (some ⟨g,0,none⟩) n cp) n xs) (hx:xs[i]? = some x):∃ c,c = cp /\ w.cell? ⟨g,i,none⟩ = some x:=by
  rcases h.2 with ⟨e0,h0⟩ | ⟨g',cap,cur,hv,hB,hg,h1,h2,h3,h4⟩
  · cases e0
  · injection hv with hv1 hv2 hv3
    injection hv1 with hv1
    injection hv1 with hv1
    subst hv1 hv3
    refine ⟨_,rfl,?_⟩
    rw [<- h4,List.getElem?_take] at hx
    split at hx
    · simp only [World.cell?,hg,Option.bind_some]
      simpa using hx
    · cases hx
section
variable {N:Nat} {w:World} {W:W6} {s:St} {bs:List UInt8} {Z:Nat -> Option Zd} {Ls:Nat -> Nat -> List Nat} {r:RS} {laid told:List Nat} {t:Nat} (h:CI N w W s bs Z Ls r laid told t) (ht:t <= 60000)
include h ht
set_option maxHeartbeats 1600000 in
theorem swapsC {k m H G:Nat} (hk:told[k]? = some H) (hg:told[m]? = some G) (g cp:Nat) (own:w.ownsRow 0 3 1 (.slice (some ⟨g,0,none⟩) told.length cp) told.length ((told.map (kdN s Ls)).map iv)) (hgb:∀ i,¬ W.foot qc s i g) (hgN:N <= g) :
    Calls Tryz.prog 21 #[.pointer (some ⟨W.b,0,none⟩),.slice (some ⟨g,0,none⟩) told.length cp,.int .i64 (k:Int),.int .i64 (m:Int)] w fun e w' => e = .returned (.bool true) /\ ∃ bs' Z' Ls',CI N w' W s bs' Z' Ls' r laid told t /\ w'.ownsRow 0 3 1 (.slice (some ⟨g,0,none⟩) told.length cp) told.length ((told.map (kdN s Ls')).map iv) /\ Only (fun b => b = g \/ Two W.L W.gl b) w w':=by
  have hm:H ∈ told:=List.mem_of_getElem? hk
  have hmg:G ∈ told:=List.mem_of_getElem? hg
  have hkl:k < told.length:=(List.getElem?_eq_some_iff.1 hk).1
  have hml:m < told.length:=(List.getElem?_eq_some_iff.1 hg).1
  have hH:=h.tlt H hm
  have hG:=h.tlt G hmg
  have htl:=h.tl
  obtain ⟨y0,y1,y2,y3,y4⟩:=h.wat.cW
  obtain ⟨g9,c9,hv,u1⟩:=own_uv h.wat.told hk
  obtain ⟨g8,c8,hv',u2⟩:=own_uv h.wat.told hg
  rw [hv] at hv' y4
  injection hv' with e1 e2 e3
  injection e1 with e1
  injection e1 with e1
  subst e1
  obtain ⟨i5,x5,P1,f1⟩:=h.tf H hm
  obtain ⟨i6,x6,P2,f2⟩:=h.tf G hmg
  have A1:=fun v (b:Below w.heap.size w v) => (h.below b).atC ht f1
  have A2:=fun v (b:Below w.heap.size w v) => (h.below b).atC ht f2
  have AH:=fun v (b:Below w.heap.size w v) => aheadC ((h.below b).wat.q) H hH
  have BH:=fun v (b:Below w.heap.size w v) => behindC ((h.below b).wat.q) H hH
  obtain ⟨RR,Lx,hRL⟩:∃ RR Lx,swapN qc s Z Ls H G = (RR,Lx):=⟨_,_,rfl⟩
  have SW:∀ v,Below w.heap.size w v -> Calls Tryz.prog 35 #[.pointer (some ⟨W.gq,0,none⟩),.int .u64 (H:Int),.int .u64 (G:Int)] v fun e v' => e = .returned (.int .i64 (RR:Int)) /\ ∃ bs' Z',CI N v' W s bs' Z' Lx r laid told t /\ Grew qc v v' W W s s /\ Only (Two W.L W.gl) v v':=fun v b => by
    have S:=swapC ((h.below b).wat.q) H G hH hG
    rw [hRL] at S
    exact S.mono fun e v' ⟨e1,D⟩ => ⟨e1,(h.below b).turn D⟩
  have SR:=h.swapped hk hg
  rw [hRL] at SR
  have nR:=fun v => numC6 v RR
  replace SW:=Lib.hid SW
  replace SR:=Lib.hid SR
  replace nR:=Lib.hid nR
  replace own:=Lib.hid own
  have hgt:¬ Two W.L W.gl g:=fun e => by
    rcases e with e | e
    · exact hgb .set (by rw [e]; exact ⟨.bytes,rfl⟩)
    · exact hgb .queue (.inr e)
  have hgl:g < w.heap.size:=by
    have own:=own.out
    have:=own_blockN own (b:=g) rfl
    exact this
  clear h
  have i1:(0:Int) <= (k:Int):=by omega
  have i2:(k:Int) < (told.length:Int):=by omega
  have i3:(0:Int) <= (m:Int):=by omega
  have i4:(m:Int) < (told.length:Int):=by omega
  generalize told.length = nT at *
  replace A1:=Lib.hid A1
  replace A2:=Lib.hid A2
  replace AH:=Lib.hid AH
  replace BH:=Lib.hid BH
  go_enter Tryz.func21,Tryz.ntmps21
  go_upto_region 1 with fail
  have SA:∀ v,Below w.heap.size w v -> v.cell? ⟨W.b,1,none⟩ = some (.pointer (some ⟨W.gq,0,none⟩)) /\ v.cell? ⟨W.b,2,none⟩ = some (.pointer (some ⟨W.M.b,0,none⟩)) /\ v.cell? ⟨W.b,4,none⟩ = some (.slice (some ⟨g9,0,none⟩) nT c9) /\ v.cell? ⟨g9,k,none⟩ = some (.int .u64 (H:Int)) /\ v.cell? ⟨g9,m,none⟩ = some (.int .u64 (G:Int)) /\ Below w.heap.size w v:=fun v b => ⟨(b.cell (World.block_lt_of_cell? _ _ y1)).trans y1,(b.cell (World.block_lt_of_cell? _ _ y2)).trans y2,(b.cell (World.block_lt_of_cell? _ _ y4)).trans y4,(b.cell (World.block_lt_of_cell? _ _ u1)).trans u1,(b.cell (World.block_lt_of_cell? _ _ u2)).trans u2,b⟩
  replace SA:=Lib.hid SA
  obtain ⟨wd,hwd⟩:∃ wd,wd = w.drew:=⟨_,rfl⟩
  have bd:Below w.heap.size w wd:=by rw [hwd]; exact below_drewN (Below.refl _ _) 1
  refine wp_region_noPanic ?_
  refine wp_region_held_drew (S:=fun v => v.cell? ⟨W.b,1,none⟩ = some (.pointer (some ⟨W.gq,0,none⟩)) /\ v.cell? ⟨W.b,2,none⟩ = some (.pointer (some ⟨W.M.b,0,none⟩)) /\ v.cell? ⟨W.b,4,none⟩ = some (.slice (some ⟨g9,0,none⟩) nT c9) /\ v.cell? ⟨g9,k,none⟩ = some (.int .u64 (H:Int)) /\ v.cell? ⟨g9,m,none⟩ = some (.int .u64 (G:Int)) /\ Below w.heap.size w v) (by kernel_rfl) (by rw [<- hwd]; exact SA.out wd bd) (fun hHeld => ?_)
  rw [<- hwd] at hHeld ⊢
  clear hwd
  refine tkh (i:=0) (v:=?_) rfl ?_ ?_
  rotate_left
  · try simp only [qA,qS,qZ]
    rintro w ⟨hS1,hS2,hS3,hS4,hS5,hS6⟩
    go_simp
    (try with_reducible rfl)
  try simp only [qA,qS,qZ,Act.put,qT,qO,qN]
  refine tkh (i:=1) (v:=?_) rfl ?_ ?_
  rotate_left
  · try simp only [qA,qS,qZ]
    rintro w ⟨hS1,hS2,hS3,hS4,hS5,hS6⟩
    go_simp
    (try with_reducible rfl)
  try simp only [qA,qS,qZ,Act.put,qT,qO,qN]
  refine tkh (i:=2) (v:=?_) rfl ?_ ?_
  rotate_left
  · try simp only [qA,qS,qZ]
    rintro w ⟨hS1,hS2,hS3,hS4,hS5,hS6⟩
    go_simp
    (try with_reducible rfl)
  try simp only [qA,qS,qZ,Act.put,qT,qO,qN]
  refine tkh (i:=3) (v:=?_) rfl ?_ ?_
  rotate_left
  · try simp only [qA,qS,qZ]
    rintro w ⟨hS1,hS2,hS3,hS4,hS5,hS6⟩
    go_simp
    (try with_reducible rfl)
  try simp only [qA,qS,qZ,Act.put,qT,qO,qN]
  refine tkh (i:=4) (v:=?_) rfl ?_ ?_
  rotate_left
  · try simp only [qA,qS,qZ]
    rintro w ⟨hS1,hS2,hS3,hS4,hS5,hS6⟩
    go_simp
    (try with_reducible rfl)
  try simp only [qA,qS,qZ,Act.put,qT,qO,qN]
  refine tkh (i:=5) (v:=?_) rfl ?_ ?_
  rotate_left
  · try simp only [qA,qS,qZ]
    rintro w ⟨hS1,hS2,hS3,hS4,hS5,hS6⟩
    go_simp
    (try with_reducible rfl)
  try simp only [qA,qS,qZ,Act.put,qT,qO,qN]
  refine tkh (i:=6) (v:=?_) rfl ?_ ?_
  rotate_left
  · try simp only [qA,qS,qZ]
    rintro w ⟨hS1,hS2,hS3,hS4,hS5,hS6⟩
    go_simp
    (try with_reducible rfl)
  try simp only [qA,qS,qZ,Act.put,qT,qO,qN]
  refine tkh (i:=7) (v:=?_) rfl ?_ ?_
  rotate_left
  · try simp only [qA,qS,qZ]
    rintro w ⟨hS1,hS2,hS3,hS4,hS5,hS6⟩
    go_simp
    (try with_reducible rfl)
  try simp only [qA,qS,qZ,Act.put,qT,qO,qN]
  refine tkh (i:=8) (v:=?_) rfl ?_ ?_
  rotate_left
  · try simp only [qA,qS,qZ]
    rintro w ⟨hS1,hS2,hS3,hS4,hS5,hS6⟩
    go_simp
    (try with_reducible rfl)
  try simp only [qA,qS,qZ,Act.put,qT,qO,qN]
  refine tkh (i:=9) (v:=?_) rfl ?_ ?_
  rotate_left
  · try simp only [qA,qS,qZ]
    rintro w ⟨hS1,hS2,hS3,hS4,hS5,hS6⟩
    go_simp
    (try with_reducible rfl)
  try simp only [qA,qS,qZ,Act.put,qT,qO,qN]
  refine tkh (i:=10) (v:=?_) rfl ?_ ?_
  rotate_left
  · try simp only [qA,qS,qZ]
    rintro w ⟨hS1,hS2,hS3,hS4,hS5,hS6⟩
    go_simp
    (try with_reducible rfl)
  try simp only [qA,qS,qZ,Act.put,qT,qO,qN]
  refine tkh (i:=11) (v:=?_) rfl ?_ ?_
  rotate_left
  · try simp only [qA,qS,qZ]
    rintro w ⟨hS1,hS2,hS3,hS4,hS5,hS6⟩
    go_simp
    (try with_reducible rfl)
  try simp only [qA,qS,qZ,Act.put,qT,qO,qN]
  refine tkh (i:=12) (v:=?_) rfl ?_ ?_
  rotate_left
  · try simp only [qA,qS,qZ]
    rintro w ⟨hS1,hS2,hS3,hS4,hS5,hS6⟩
    go_simp
    (try with_reducible rfl)
  try simp only [qA,qS,qZ,Act.put,qT,qO,qN]
  refine tkh (i:=13) (v:=?_) rfl ?_ ?_
  rotate_left
  · try simp only [qA,qS,qZ]
    rintro w ⟨hS1,hS2,hS3,hS4,hS5,hS6⟩
    go_simp
    (try with_reducible rfl)
  try simp only [qA,qS,qZ,Act.put,qT,qO,qN]
  refine tkh (i:=14) (v:=?_) rfl ?_ ?_
  rotate_left
  · try simp only [qA,qS,qZ]
    rintro w ⟨hS1,hS2,hS3,hS4,hS5,hS6⟩
    go_simp
    (try with_reducible rfl)
  try simp only [qA,qS,qZ,Act.put,qT,qO,qN]
  refine tkh (i:=15) (v:=?_) rfl ?_ ?_
  rotate_left
  · try simp only [qA,qS,qZ]
    rintro w ⟨hS1,hS2,hS3,hS4,hS5,hS6⟩
    go_simp
    (try with_reducible rfl)
  try simp only [qA,qS,qZ,Act.put,qT,qO,qN]
  refine wpAnyH_done (by kernel_rfl) ?_ _
  refine NoPanic.normal ?_
  go_upto_region 2 with fail
  obtain ⟨we,hwe⟩:∃ we,we = wd.drew:=⟨_,rfl⟩
  have be:Below w.heap.size w we:=by rw [hwe]; exact below_drewN bd 1
  refine wp_region_noPanic ?_
  refine wp_region_held_drew (S:=fun v => v.cell? ⟨W.b,1,none⟩ = some (.pointer (some ⟨W.gq,0,none⟩)) /\ v.cell? ⟨W.b,2,none⟩ = some (.pointer (some ⟨W.M.b,0,none⟩)) /\ v.cell? ⟨W.b,4,none⟩ = some (.slice (some ⟨g9,0,none⟩) nT c9) /\ v.cell? ⟨g9,k,none⟩ = some (.int .u64 (H:Int)) /\ v.cell? ⟨g9,m,none⟩ = some (.int .u64 (G:Int)) /\ Below w.heap.size w v) (by kernel_rfl) (by rw [<- hwe]; exact SA.out we be) (fun hHeld => ?_)
  rw [<- hwe] at hHeld ⊢
  clear hwe
  refine tkh (i:=0) (v:=?_) rfl ?_ ?_
  rotate_left
  · try simp only [qA,qS,qZ]
    rintro w ⟨hS1,hS2,hS3,hS4,hS5,hS6⟩
    go_simp
    (try with_reducible rfl)
  try simp only [qA,qS,qZ,Act.put,qT,qO,qN]
  refine tkh (i:=1) (v:=?_) rfl ?_ ?_
  rotate_left
  · try simp only [qA,qS,qZ]
    rintro w ⟨hS1,hS2,hS3,hS4,hS5,hS6⟩
    go_simp
    (try with_reducible rfl)
  try simp only [qA,qS,qZ,Act.put,qT,qO,qN]
  refine tkh (i:=2) (v:=?_) rfl ?_ ?_
  rotate_left
  · try simp only [qA,qS,qZ]
    rintro w ⟨hS1,hS2,hS3,hS4,hS5,hS6⟩
    go_simp
    (try with_reducible rfl)
  try simp only [qA,qS,qZ,Act.put,qT,qO,qN]
  refine tkh (i:=3) (v:=?_) rfl ?_ ?_
  rotate_left
  · try simp only [qA,qS,qZ]
    rintro w ⟨hS1,hS2,hS3,hS4,hS5,hS6⟩
    go_simp
    (try with_reducible rfl)
  try simp only [qA,qS,qZ,Act.put,qT,qO,qN]
  refine tkh (i:=4) (v:=?_) rfl ?_ ?_
  rotate_left
  · try simp only [qA,qS,qZ]
    rintro w ⟨hS1,hS2,hS3,hS4,hS5,hS6⟩
    go_simp
    (try with_reducible rfl)
  try simp only [qA,qS,qZ,Act.put,qT,qO,qN]
  refine tkh (i:=5) (v:=?_) rfl ?_ ?_
  rotate_left
  · try simp only [qA,qS,qZ]
    rintro w ⟨hS1,hS2,hS3,hS4,hS5,hS6⟩
    go_simp
    (try with_reducible rfl)
  try simp only [qA,qS,qZ,Act.put,qT,qO,qN]
  refine tkh (i:=6) (v:=?_) rfl ?_ ?_
  rotate_left
  · try simp only [qA,qS,qZ]
    rintro w ⟨hS1,hS2,hS3,hS4,hS5,hS6⟩
    go_simp
    (try with_reducible rfl)
  try simp only [qA,qS,qZ,Act.put,qT,qO,qN]
  refine tkh (i:=7) (v:=?_) rfl ?_ ?_
  rotate_left
  · try simp only [qA,qS,qZ]
    rintro w ⟨hS1,hS2,hS3,hS4,hS5,hS6⟩
    go_simp
    (try with_reducible rfl)
  try simp only [qA,qS,qZ,Act.put,qT,qO,qN]
  refine tkh (i:=8) (v:=?_) rfl ?_ ?_
  rotate_left
  · try simp only [qA,qS,qZ]
    rintro w ⟨hS1,hS2,hS3,hS4,hS5,hS6⟩
    go_simp
    (try with_reducible rfl)
  try simp only [qA,qS,qZ,Act.put,qT,qO,qN]
  refine tkh (i:=9) (v:=?_) rfl ?_ ?_
  rotate_left
  · try simp only [qA,qS,qZ]
    rintro w ⟨hS1,hS2,hS3,hS4,hS5,hS6⟩
    go_simp
    (try with_reducible rfl)
  try simp only [qA,qS,qZ,Act.put,qT,qO,qN]
  refine tkh (i:=10) (v:=?_) rfl ?_ ?_
  rotate_left
  · try simp only [qA,qS,qZ]
    rintro w ⟨hS1,hS2,hS3,hS4,hS5,hS6⟩
    go_simp
    (try with_reducible rfl)
  try simp only [qA,qS,qZ,Act.put,qT,qO,qN]
  refine wpAnyH_ready (rs:=[11]) (by kernel_rfl) (by simp) ?_
  refine AllReadyH.cons (o:=_) rfl (fun K hK => ?_) ?_
  rotate_left
  · exact AllReadyH.nil
  try simp only [qA,qS,qZ]
  have C:=A1.out _ be
  go_simp
  go_at_call 59
  refine C.mono ?_
  rintro e wf ⟨rfl,bwf⟩
  clear C
  have Bwf:=be.trans (bwf.mono be.size)
  go_wp2_with fail
  refine hK.out _ _ (SA.out wf Bwf) (fun hHeld11 => ?_)
  clear hK K
  try simp only [qA,qS,qZ,Act.put,qT,qO,qN]
  refine tkh (i:=12) (v:=?_) rfl ?_ ?_
  rotate_left
  · try simp only [qA,qS,qZ]
    rintro w ⟨hS1,hS2,hS3,hS4,hS5,hS6⟩
    go_simp
    (try with_reducible rfl)
  try simp only [qA,qS,qZ,Act.put,qT,qO,qN]
  refine tkh (i:=13) (v:=?_) rfl ?_ ?_
  rotate_left
  · try simp only [qA,qS,qZ]
    rintro w ⟨hS1,hS2,hS3,hS4,hS5,hS6⟩
    go_simp
    (try with_reducible rfl)
  try simp only [qA,qS,qZ,Act.put,qT,qO,qN]
  refine tkh (i:=14) (v:=?_) rfl ?_ ?_
  rotate_left
  · try simp only [qA,qS,qZ]
    rintro w ⟨hS1,hS2,hS3,hS4,hS5,hS6⟩
    go_simp
    (try with_reducible rfl)
  try simp only [qA,qS,qZ,Act.put,qT,qO,qN]
  refine tkh (i:=15) (v:=?_) rfl ?_ ?_
  rotate_left
  · try simp only [qA,qS,qZ]
    rintro w ⟨hS1,hS2,hS3,hS4,hS5,hS6⟩
    go_simp
    (try with_reducible rfl)
  try simp only [qA,qS,qZ,Act.put,qT,qO,qN]
  refine tkh (i:=16) (v:=?_) rfl ?_ ?_
  rotate_left
  · try simp only [qA,qS,qZ]
    rintro w ⟨hS1,hS2,hS3,hS4,hS5,hS6⟩
    go_simp
    (try with_reducible rfl)
  try simp only [qA,qS,qZ,Act.put,qT,qO,qN]
  refine tkh (i:=17) (v:=?_) rfl ?_ ?_
  rotate_left
  · try simp only [qA,qS,qZ]
    rintro w ⟨hS1,hS2,hS3,hS4,hS5,hS6⟩
    go_simp
    (try with_reducible rfl)
  try simp only [qA,qS,qZ,Act.put,qT,qO,qN]
  refine tkh (i:=18) (v:=?_) rfl ?_ ?_
  rotate_left
  · try simp only [qA,qS,qZ]
    rintro w ⟨hS1,hS2,hS3,hS4,hS5,hS6⟩
    go_simp
    (try with_reducible rfl)
  try simp only [qA,qS,qZ,Act.put,qT,qO,qN]
  refine wpAnyH_done (by kernel_rfl) ?_ _
  refine NoPanic.normal ?_
  go_upto_region 3 with fail
  obtain ⟨wg,hwg⟩:∃ wg,wg = wf.drew:=⟨_,rfl⟩
  have bg:Below w.heap.size w wg:=by rw [hwg]; exact below_drewN Bwf 1
  refine wp_region_noPanic ?_
  refine wp_region_held_drew (S:=fun v => v.cell? ⟨W.b,1,none⟩ = some (.pointer (some ⟨W.gq,0,none⟩)) /\ v.cell? ⟨W.b,2,none⟩ = some (.pointer (some ⟨W.M.b,0,none⟩)) /\ v.cell? ⟨W.b,4,none⟩ = some (.slice (some ⟨g9,0,none⟩) nT c9) /\ v.cell? ⟨g9,k,none⟩ = some (.int .u64 (H:Int)) /\ v.cell? ⟨g9,m,none⟩ = some (.int .u64 (G:Int)) /\ Below w.heap.size w v) (by kernel_rfl) (by rw [<- hwg]; exact SA.out wg bg) (fun hHeld => ?_)
  rw [<- hwg] at hHeld ⊢
  clear hwg
  refine tkh (i:=0) (v:=?_) rfl ?_ ?_
  rotate_left
  · try simp only [qA,qS,qZ]
    rintro w ⟨hS1,hS2,hS3,hS4,hS5,hS6⟩
    go_simp
    (try with_reducible rfl)
  try simp only [qA,qS,qZ,Act.put,qT,qO,qN]
  refine tkh (i:=1) (v:=?_) rfl ?_ ?_
  rotate_left
  · try simp only [qA,qS,qZ]
    rintro w ⟨hS1,hS2,hS3,hS4,hS5,hS6⟩
    go_simp
    (try with_reducible rfl)
  try simp only [qA,qS,qZ,Act.put,qT,qO,qN]
  refine tkh (i:=2) (v:=?_) rfl ?_ ?_
  rotate_left
  · try simp only [qA,qS,qZ]
    rintro w ⟨hS1,hS2,hS3,hS4,hS5,hS6⟩
    go_simp
    (try with_reducible rfl)
  try simp only [qA,qS,qZ,Act.put,qT,qO,qN]
  refine tkh (i:=3) (v:=?_) rfl ?_ ?_
  rotate_left
  · try simp only [qA,qS,qZ]
    rintro w ⟨hS1,hS2,hS3,hS4,hS5,hS6⟩
    go_simp
    (try with_reducible rfl)
  try simp only [qA,qS,qZ,Act.put,qT,qO,qN]
  refine tkh (i:=4) (v:=?_) rfl ?_ ?_
  rotate_left
  · try simp only [qA,qS,qZ]
    rintro w ⟨hS1,hS2,hS3,hS4,hS5,hS6⟩
    go_simp
    (try with_reducible rfl)
  try simp only [qA,qS,qZ,Act.put,qT,qO,qN]
  refine tkh (i:=5) (v:=?_) rfl ?_ ?_
  rotate_left
  · try simp only [qA,qS,qZ]
    rintro w ⟨hS1,hS2,hS3,hS4,hS5,hS6⟩
    go_simp
    (try with_reducible rfl)
  try simp only [qA,qS,qZ,Act.put,qT,qO,qN]
  refine tkh (i:=6) (v:=?_) rfl ?_ ?_
  rotate_left
  · try simp only [qA,qS,qZ]
    rintro w ⟨hS1,hS2,hS3,hS4,hS5,hS6⟩
    go_simp
    (try with_reducible rfl)
  try simp only [qA,qS,qZ,Act.put,qT,qO,qN]
  refine tkh (i:=7) (v:=?_) rfl ?_ ?_
  rotate_left
  · try simp only [qA,qS,qZ]
    rintro w ⟨hS1,hS2,hS3,hS4,hS5,hS6⟩
    go_simp
    (try with_reducible rfl)
  try simp only [qA,qS,qZ,Act.put,qT,qO,qN]
  refine tkh (i:=8) (v:=?_) rfl ?_ ?_
  rotate_left
  · try simp only [qA,qS,qZ]
    rintro w ⟨hS1,hS2,hS3,hS4,hS5,hS6⟩
    go_simp
    (try with_reducible rfl)
  try simp only [qA,qS,qZ,Act.put,qT,qO,qN]
  refine tkh (i:=9) (v:=?_) rfl ?_ ?_
  rotate_left
  · try simp only [qA,qS,qZ]
    rintro w ⟨hS1,hS2,hS3,hS4,hS5,hS6⟩
    go_simp
    (try with_reducible rfl)
  try simp only [qA,qS,qZ,Act.put,qT,qO,qN]
  refine tkh (i:=10) (v:=?_) rfl ?_ ?_
  rotate_left
  · try simp only [qA,qS,qZ]
    rintro w ⟨hS1,hS2,hS3,hS4,hS5,hS6⟩
    go_simp
    (try with_reducible rfl)
  try simp only [qA,qS,qZ,Act.put,qT,qO,qN]
  refine wpAnyH_ready (rs:=[11]) (by kernel_rfl) (by simp) ?_
  refine AllReadyH.cons (o:=_) rfl (fun K hK => ?_) ?_
  rotate_left
  · exact AllReadyH.nil
  try simp only [qA,qS,qZ]
  have C:=A2.out _ bg
  go_simp
  go_at_call 59
  refine C.mono ?_
  rintro e wh ⟨rfl,bwh⟩
  clear C
  have Bwh:=bg.trans (bwh.mono bg.size)
  go_wp2_with fail
  refine hK.out _ _ (SA.out wh Bwh) (fun hHeld11 => ?_)
  clear hK K
  try simp only [qA,qS,qZ,Act.put,qT,qO,qN]
  refine tkh (i:=12) (v:=?_) rfl ?_ ?_
  rotate_left
  · try simp only [qA,qS,qZ]
    rintro w ⟨hS1,hS2,hS3,hS4,hS5,hS6⟩
    go_simp
    (try with_reducible rfl)
  try simp only [qA,qS,qZ,Act.put,qT,qO,qN]
  refine tkh (i:=13) (v:=?_) rfl ?_ ?_
  rotate_left
  · try simp only [qA,qS,qZ]
    rintro w ⟨hS1,hS2,hS3,hS4,hS5,hS6⟩
    go_simp
    (try with_reducible rfl)
  try simp only [qA,qS,qZ,Act.put,qT,qO,qN]
  refine tkh (i:=14) (v:=?_) rfl ?_ ?_
  rotate_left
  · try simp only [qA,qS,qZ]
    rintro w ⟨hS1,hS2,hS3,hS4,hS5,hS6⟩
    go_simp
    (try with_reducible rfl)
  try simp only [qA,qS,qZ,Act.put,qT,qO,qN]
  refine tkh (i:=15) (v:=?_) rfl ?_ ?_
  rotate_left
  · try simp only [qA,qS,qZ]
    rintro w ⟨hS1,hS2,hS3,hS4,hS5,hS6⟩
    go_simp
    (try with_reducible rfl)
  try simp only [qA,qS,qZ,Act.put,qT,qO,qN]
  refine tkh (i:=16) (v:=?_) rfl ?_ ?_
  rotate_left
  · try simp only [qA,qS,qZ]
    rintro w ⟨hS1,hS2,hS3,hS4,hS5,hS6⟩
    go_simp
    (try with_reducible rfl)
  try simp only [qA,qS,qZ,Act.put,qT,qO,qN]
  refine tkh (i:=17) (v:=?_) rfl ?_ ?_
  rotate_left
  · try simp only [qA,qS,qZ]
    rintro w ⟨hS1,hS2,hS3,hS4,hS5,hS6⟩
    go_simp
    (try with_reducible rfl)
  try simp only [qA,qS,qZ,Act.put,qT,qO,qN]
  refine tkh (i:=18) (v:=?_) rfl ?_ ?_
  rotate_left
  · try simp only [qA,qS,qZ]
    rintro w ⟨hS1,hS2,hS3,hS4,hS5,hS6⟩
    go_simp
    (try with_reducible rfl)
  try simp only [qA,qS,qZ,Act.put,qT,qO,qN]
  refine wpAnyH_done (by kernel_rfl) ?_ _
  refine NoPanic.normal ?_
  obtain ⟨y1h, -, -, -, -, -⟩:=SA.out wh Bwh
  clear y0 y1 y2 y3 y4 u1 u2 A1 A2 bd be bg
  go_wp2_with fail
  go_at_call 60
  refine (AH.out wh Bwh).mono ?_
  rintro e wi ⟨rfl,bi⟩
  have Bwi:=Bwh.trans (bi.mono Bwh.size)
  obtain ⟨y1i, -, -, -, -, -⟩:=SA.out wi Bwi
  clear y1h AH
  go_wp2_with fail
  go_at_call 61
  refine (BH.out wi Bwi).mono ?_
  rintro e wj ⟨rfl,bj⟩
  have Bwj:=Bwi.trans (bj.mono Bwi.size)
  obtain ⟨y1j, -, -, -, -, -⟩:=SA.out wj Bwj
  clear y1i BH
  go_wp2_with fail
  go_at_call 35
  refine (SW.out wj Bwj).mono ?_
  rintro e wk ⟨rfl,bs9,Z9,C9,G9,o9⟩
  have gk:wk.heap[g]? = w.heap[g]?:=(o9.block g (Nat.lt_of_lt_of_le hgl Bwj.size) hgt).trans (Bwj.block g hgl)
  have ck:wk.cell? ⟨g,k,none⟩ = some (.int .i64 (kdN s Ls H:Int)):=by
    obtain ⟨c7,e7,u7⟩:=own_cellI own.out (i:=k) (by rw [List.getElem?_map,List.getElem?_map,hk]; rfl)
    exact (World.cell?_of_block (a:=⟨g,k,none⟩) gk).trans u7
  have cm:wk.cell? ⟨g,m,none⟩ = some (.int .i64 (kdN s Ls G:Int)):=by
    obtain ⟨c7,e7,u7⟩:=own_cellI own.out (i:=m) (by rw [List.getElem?_map,List.getElem?_map,hg]; rfl)
    exact (World.cell?_of_block (a:=⟨g,m,none⟩) gk).trans u7
  obtain ⟨-, -, -,z3,z4⟩:=C9.wat.cW
  have IC:=C9.isC ht hmg
  replace IC:=Lib.hid IC
  go_wp2_with fail
  refine (nR.out wk).mono ?_
  rintro e w' ⟨rfl,rfl⟩
  clear y1j z4
  by_cases a1:kdN s Ls H = 0
  · have d1:decide ((kdN s Ls H:Int) > 0) = false:=decide_eq_false (by omega)
    have d1':decide (0 < kdN s Ls H) = false:=decide_eq_false (by omega)
    go_upto_region 7 with fail
    have hR:RR ≠ 0:=fun e => a1 |> (SR.out.1.1 e).1
    have dR:((RR:Int) == 0) = false:=by rw [beq_eq_false_iff_ne]; omega
    have dR':decide ((RR:Int) = 0) = false:=decide_eq_false (by omega)
    have dR2:decide (RR = 0) = false:=decide_eq_false hR
    have eL:Lx = Ls:=SR.out.2.1 hR
    go_quiet (fail)
    rename_i nq
    go_wp2
    go_ret
    have bq:Below wk.heap.size wk (wk.drewN nq):=below_drewN (Below.refl _ _) nq
    have oF:Only (fun b => b = g \/ Two W.L W.gl b) w (wk.drewN nq):=((((Only.refl _ w).below Bwj (Nat.le_refl _)).trans (o9.mono fun _ _ e => .inr e) fun _ _ e => e)).below bq (Nat.le_trans Bwj.size o9.size)
    refine ⟨rfl,bs9,Z9,Lx,C9.below bq,?_,oF⟩
    rw [eL]
    exact own_keptN own.out fun b hb => by
      have e:some g = some b:=hb
      injection e with e
      subst e
      exact (bq.block g (Nat.lt_of_lt_of_le hgl (Nat.le_trans Bwj.size o9.size))).trans gk
  · have d1:decide ((kdN s Ls H:Int) > 0) = true:=decide_eq_true (by omega)
    have d1':decide (0 < kdN s Ls H) = true:=decide_eq_true (by omega)
    by_cases a2:kdN s Ls G ≠ 0
    · have d2:((kdN s Ls G:Int) == 0) = false:=by rw [beq_eq_false_iff_ne]; omega
      have d2':decide ((kdN s Ls G:Int) = 0) = false:=decide_eq_false (by omega)
      have d2'':decide (kdN s Ls G = 0) = false:=decide_eq_false a2
      go_upto_region 7 with fail
      have hR:RR ≠ 0:=fun e => a2 (SR.out.1.1 e).2.1
      have dR:((RR:Int) == 0) = false:=by rw [beq_eq_false_iff_ne]; omega
      have dR':decide ((RR:Int) = 0) = false:=decide_eq_false (by omega)
      have dR2:decide (RR = 0) = false:=decide_eq_false hR
      have eL:Lx = Ls:=SR.out.2.1 hR
      go_quiet (fail)
      rename_i nq
      go_wp2
      go_ret
      have bq:Below wk.heap.size wk (wk.drewN nq):=below_drewN (Below.refl _ _) nq
      have oF:Only (fun b => b = g \/ Two W.L W.gl b) w (wk.drewN nq):=((((Only.refl _ w).below Bwj (Nat.le_refl _)).trans (o9.mono fun _ _ e => .inr e) fun _ _ e => e)).below bq (Nat.le_trans Bwj.size o9.size)
      refine ⟨rfl,bs9,Z9,Lx,C9.below bq,?_,oF⟩
      rw [eL]
      exact own_keptN own.out fun b hb => by
        have e:some g = some b:=hb
        injection e with e
        subst e
        exact (bq.block g (Nat.lt_of_lt_of_le hgl (Nat.le_trans Bwj.size o9.size))).trans gk
    · have a2:kdN s Ls G = 0:=by omega
      have d2:((kdN s Ls G:Int) == 0) = true:=by rw [beq_iff_eq]; omega
      have d2':decide ((kdN s Ls G:Int) = 0) = true:=decide_eq_true (by omega)
      have d2'':decide (kdN s Ls G = 0) = true:=decide_eq_true a2
      obtain ⟨-, -, -, -,z4⟩:=C9.wat.cW
      obtain ⟨g7,c7,hv7,u7⟩:=own_uv C9.wat.told hg
      rw [hv] at z4 hv7
      injection hv7 with q1 q2 q3
      injection q1 with q1
      injection q1 with q1
      subst q1
      clear q2 q3
      have IQ:∀ n,Calls Tryz.prog 26 #[.pointer (some ⟨W.R.b,0,none⟩),.int .u64 (G:Int)] (wk.drewN n) fun e w' => e = .returned (.bool (decide (G ∈ laid))) /\ ∃ m,(wk.drewN n).drewN m = w':=fun n => (C9.below (below_drewN (Below.refl _ _) n)).isC ht hmg
      clear IC
      by_cases hok:G ∈ laid /\ clsN qc s H = clsN qc s G
      · rw [decide_eq_true hok.1] at IQ
        have d3:((clsN qc s H:Int) == (clsN qc s G:Int)) = true:=by rw [beq_iff_eq]; have:=hok.2; omega
        have d3':decide ((clsN qc s H:Int) = (clsN qc s G:Int)) = true:=decide_eq_true (by have:=hok.2; omega)
        have d3'':decide (clsN qc s H = clsN qc s G) = true:=decide_eq_true hok.2
        have hR:RR = 0:=SR.out.1.2 ⟨a1,a2,hok.1,hok.2⟩
        have dR:((RR:Int) == 0) = true:=by rw [beq_iff_eq]; omega
        have dR':decide ((RR:Int) = 0) = true:=decide_eq_true (by omega)
        have dR2:decide (RR = 0) = true:=decide_eq_true hR
        replace IQ:=Lib.hid IQ
        replace hok:=Lib.hid hok
        replace hR:=Lib.hid hR
        go_upto_region 7 with fail
        go_quiet (first | (go_at_call 26; with_reducible exact quiet_more7 (IQ.out _)) | fail)
        rename_i nq
        obtain ⟨wq,hwq⟩:∃ wq,wq = wk.drewN nq:=⟨_,rfl⟩
        have bq:Below wk.heap.size wk wq:=by rw [hwq]; exact below_drewN (Below.refl _ _) nq
        have hgk:g < wk.heap.size:=Nat.lt_of_lt_of_le hgl (Nat.le_trans Bwj.size o9.size)
        have gq:=(bq.block g hgk).trans gk
        have ownq:=own_keptN own.out fun b hb => by
          have e:some g = some b:=hb
          injection e with e
          subst e
          exact gq
        have Cq:=C9.below bq
        obtain ⟨v1,hv1⟩:∃ v1,v1 = wq.setCell ⟨g,m,none⟩ (iv (kdN s Ls H)):=⟨_,rfl⟩
        obtain ⟨v2,hv2⟩:∃ v2,v2 = v1.setCell ⟨g,k,none⟩ (iv 0):=⟨_,rfl⟩
        have own1:=own_put ownq (iv (kdN s Ls H)) hml
        rw [<- hv1] at own1
        have own2:=own_put own1 (iv 0) hkl
        rw [<- hv2] at own2
        have of1:Only (· = g) wq v1:=by rw [hv1]; exact only_cell1 wq g m _ rfl
        have of2:Only (· = g) wq v2:=of1.trans (by rw [hv2]; exact only_cell1 v1 g k _ rfl) fun b _ e => e
        have C2:CI N v2 W s bs9 Z9 Lx r laid told t:=⟨Cq.wat.only of2 (fun i b hb e => hgb i (e ▸ hb)),Cq.rel,Cq.agr,Cq.bs,Cq.ch,Cq.la,Cq.tl,Cq.tlt,Cq.lt,Cq.tf,Cq.nd⟩
        obtain ⟨er,ep,en⟩:=SR.out.2.2 hR.out C2
        have AG:=aheadC C2.wat.q G hG
        have BG:=fun v (b:Below v2.heap.size v2 v) => behindC ((C2.below b).wat.q) G hG
        rw [ep] at AG
        simp only [en] at BG
        obtain ⟨-,x1, -, -, -⟩:=C2.wat.cW
        have x1':=fun v (b:Below v2.heap.size v2 v) => (b.cell (p:=⟨W.b,1,none⟩) (World.block_lt_of_cell? _ _ x1)).trans x1
        have cqk:=(World.cell?_of_block (a:=⟨g,k,none⟩) (bq.block g hgk)).trans ck
        have fin:∀ v,Below v2.heap.size v2 v -> ∃ bs' Z' Ls',CI N v W s bs' Z' Ls' r laid told t /\ v.ownsRow 0 3 1 (.slice (some ⟨g,0,none⟩) nT cp) nT ((told.map (kdN s Ls')).map iv) /\ Only (fun b => b = g \/ Two W.L W.gl b) w v:=fun v b => by
          refine ⟨bs9,Z9,Lx,C2.below b,?_,?_⟩
          · refine own_keptN ?_ fun d e => b.block d (own_blockN own2 e)
            rw [er,List.map_set,List.map_set]
            exact own2
          · exact (((((Only.refl _ w).below Bwj (Nat.le_refl _)).trans (o9.mono fun _ _ e => .inr e) fun _ _ e => e).below bq (Nat.le_trans Bwj.size o9.size)).trans (of2.mono fun _ _ e => .inl e) fun _ _ e => e).below b (Nat.le_trans Bwj.size (Nat.le_trans o9.size (Nat.le_trans bq.size of2.size)))
        obtain ⟨⟨w0,cm0⟩,fm0⟩:=own_st ownq hml
        obtain ⟨⟨w1,ck1⟩,fk1⟩:=own_st own1 hkl
        rw [<- hwq]
        replace hwq:=Lib.hid hwq
        replace AG:=Lib.hid AG
        replace BG:=Lib.hid BG
        replace fin:=Lib.hid fin
        replace hv1:=Lib.hid hv1
        replace hv2:=Lib.hid hv2
        replace x1':=Lib.hid x1'
        replace ep:=Lib.hid ep
        replace en:=Lib.hid en
        clear of1 of2 own1 own2 Cq C2 ownq er gq gk ck cm z3 z4 u7 SR
        go_upto_region 13 with fail
        rw [show (wq.setCell ⟨g,m,none⟩ (.int .i64 (kdN s Ls H:Int))) = v1 from hv1.out.symm]
        clear cm0 fm0 cqk
        go_upto_region 14 with fail
        rw [show (v1.setCell ⟨g,k,none⟩ (.int .i64 0)) = v2 from hv2.out.symm]
        clear ck1 fk1 hv1 hv2
        go_wp2_with fail
        refine AG.out.mono ?_
        rintro e v3 ⟨rfl,b3⟩
        have x3:=x1'.out v3 b3
        have B3:=BG.out v3 b3
        replace B3:=Lib.hid B3
        clear AG BG x1 x1'
        go_wp2_with fail
        refine B3.out.mono ?_
        rintro e v4 ⟨rfl,b4⟩
        have F:=fin.out v4 (b3.trans (b4.mono b3.size))
        replace F:=Lib.hid F
        clear B3 fin x3 b3 b4
        go_wp2
        go_ret
        exact ⟨rfl,F.out⟩
      · have hR:RR ≠ 0:=fun e => hok ⟨(SR.out.1.1 e).2.2.1,(SR.out.1.1 e).2.2.2⟩
        have dR:((RR:Int) == 0) = false:=by rw [beq_eq_false_iff_ne]; omega
        have dR':decide ((RR:Int) = 0) = false:=decide_eq_false (by omega)
        have dR2:decide (RR = 0) = false:=decide_eq_false hR
        have eL:Lx = Ls:=SR.out.2.1 hR
        by_cases hl:G ∈ laid
        · rw [decide_eq_true hl] at IQ
          have hc:clsN qc s H ≠ clsN qc s G:=fun e => hok ⟨hl,e⟩
          have d3:((clsN qc s H:Int) == (clsN qc s G:Int)) = false:=by rw [beq_eq_false_iff_ne]; omega
          have d3':decide ((clsN qc s H:Int) = (clsN qc s G:Int)) = false:=decide_eq_false (by omega)
          have d3'':decide (clsN qc s H = clsN qc s G) = false:=decide_eq_false hc
          replace IQ:=Lib.hid IQ
          replace hok:=Lib.hid hok
          go_upto_region 7 with fail
          go_quiet (first | (go_at_call 26; with_reducible exact quiet_more7 (IQ.out _)) | fail)
          rename_i nq
          go_wp2
          go_ret
          have bq:Below wk.heap.size wk (wk.drewN nq):=below_drewN (Below.refl _ _) nq
          have oF:Only (fun b => b = g \/ Two W.L W.gl b) w (wk.drewN nq):=((((Only.refl _ w).below Bwj (Nat.le_refl _)).trans (o9.mono fun _ _ e => .inr e) fun _ _ e => e)).below bq (Nat.le_trans Bwj.size o9.size)
          refine ⟨rfl,bs9,Z9,Lx,C9.below bq,?_,oF⟩
          rw [eL]
          exact own_keptN own.out fun b hb => by
            have e:some g = some b:=hb
            injection e with e
            subst e
            exact (bq.block g (Nat.lt_of_lt_of_le hgl (Nat.le_trans Bwj.size o9.size))).trans gk
        · rw [decide_eq_false hl] at IQ
          replace IQ:=Lib.hid IQ
          replace hok:=Lib.hid hok
          go_upto_region 7 with fail
          go_quiet (first | (go_at_call 26; with_reducible exact quiet_more7 (IQ.out _)) | fail)
          rename_i nq
          go_wp2
          go_ret
          have bq:Below wk.heap.size wk (wk.drewN nq):=below_drewN (Below.refl _ _) nq
          have oF:Only (fun b => b = g \/ Two W.L W.gl b) w (wk.drewN nq):=((((Only.refl _ w).below Bwj (Nat.le_refl _)).trans (o9.mono fun _ _ e => .inr e) fun _ _ e => e)).below bq (Nat.le_trans Bwj.size o9.size)
          refine ⟨rfl,bs9,Z9,Lx,C9.below bq,?_,oF⟩
          rw [eL]
          exact own_keptN own.out fun b hb => by
            have e:some g = some b:=hb
            injection e with e
            subst e
            exact (bq.block g (Nat.lt_of_lt_of_le hgl (Nat.le_trans Bwj.size o9.size))).trans gk
end
end Go.Proofs.YtfjiphibalhcgaaGreat.Que
/-
  The walk of stand: each list hangs together, each listed item was told and stands where the row of kinds says, and as many are listed as the row says.
-/
namespace Go.Proofs.YtfjiphibalhcgaaGreat.Que
open Go.RowKit Base Arena Cls Itm Go.Shelf
theorem own_uvg {t:TypeId} {w:World} {N n i x:Nat} {v:Value} {l:List Nat} (h:w.ownsRow N t 1 v n (l.map uv)) (hx:l[i]? = some x):∃ g c,v = .slice (some ⟨g,0,none⟩) n c /\ w.cell? ⟨g,i,none⟩ = some (.int .u64 (x:Int)):=by
 have hl:=h.1
 have hi:i < l.length:=(List.getElem?_eq_some_iff.1 hx).1
 rw [List.length_map] at hl
 rcases h.2 with ⟨rfl,h0⟩ | ⟨g,cap,cur,rfl,hB,hg,h1,h2,h3,h4⟩
 ·omega
 ·refine ⟨g,cap,rfl,?_⟩
  rw [cell_of_row w g i cur _ (0,0) hg]
  have h5:(l.map uv)[i]? = some (uv x):=by rw [List.getElem?_map,hx]; rfl
  rw [<- h4,List.getElem?_take] at h5
  split at h5
  ·simpa [uv] using h5
  ·cases h5
theorem own_someI {w:World} {N n cp:Nat} {A:Option Addr} {e:TypeId} {xs:List Value} (h:w.ownsRow N e 1 (.slice A n cp) n xs) (hn : 0 < n):∃ g,A = some ⟨g,0,none⟩:=by
 rcases h.2 with ⟨e0,h0⟩ | ⟨g,cap,cur,e0, -⟩
 ·injection e0 with e1 e2 e3
  omega
 ·injection e0 with e1 e2 e3
  exact ⟨g,e1⟩
def pre9 (Ls:Nat -> Nat -> List Nat):Nat -> Nat
 | 0 => 0
 | n + 1 => pre9 Ls n + (Ls (n / 3) (n % 3)).length
theorem pre9_le {Ls:Nat -> Nat -> List Nat} {T:Nat} (h:∀ x k,x < 3 -> k < 3 -> (Ls x k).length <= T):∀ n,n <= 9 -> pre9 Ls n <= n * T
 | 0,_ => Nat.zero_le _
 | n + 1,hn => by
  have:=pre9_le h n (by omega)
  have:=h (n / 3) (n % 3) (by omega) (by omega)
  rw [Nat.add_mul,Nat.one_mul]
  show pre9 Ls n + (Ls (n / 3) (n % 3)).length <= _
  omega
def posN (l:List Nat):Nat:=(l.filter (fun k => decide (0 < k))).length
theorem posN_le (l:List Nat):posN l <= l.length:=List.length_filter_le _ _
theorem posN_snoc {l:List Nat} {i x:Nat} (h:l[i]? = some x):posN (l.take (i + 1)) = posN (l.take i) + if 0 < x then 1 else 0:=by
 unfold posN
 rw [List.take_add_one,h,List.filter_append,List.length_append]
 by_cases hx : 0 < x
 ·simp [hx]
 ·simp [hx]
section
variable {N:Nat} {w:World} {W:W6} {s:St} {bs:List UInt8} {Z:Nat -> Option Zd} {Ls:Nat -> Nat -> List Nat} {r:RS} {laid told:List Nat} {t:Nat} (h:CI N w W s bs Z Ls r laid told t) (ht:t <= 300)
include h
theorem CI.posN:posN (told.map (kdN s Ls)) = pre9 Ls 9:=by
 have e:=h.total
 unfold Que.posN
 rw [List.filter_map,List.length_map]
 have e9:pre9 Ls 9 = 0 + (Ls 0 0).length + (Ls 0 1).length + (Ls 0 2).length + (Ls 1 0).length + (Ls 1 1).length + (Ls 1 2).length + (Ls 2 0).length + (Ls 2 1).length + (Ls 2 2).length:=rfl
 show (told.filter (fun H => decide (0 < kdN s Ls H))).length = _
 rw [e,e9]
 omega
include ht
set_option maxHeartbeats 2000000 in
theorem standC (Ai:Option Addr) (cp:Nat) (own:w.ownsRow 0 3 1 (.slice Ai told.length cp) told.length ((told.map (kdN s Ls)).map iv)) :
  Calls Tryz.prog 27 #[.pointer (some ⟨W.b,0,none⟩),.slice Ai told.length cp] w fun e w' => e = .returned (.bool true) /\ Below w.heap.size w w':=by
 have htl:=h.tl
 have hlen:∀ x k,x < 3 -> k < 3 -> (Ls x k).length <= told.length:=fun x k hx hk => h.len (by omega) hx hk
 have hp9:∀ n,n <= 9 -> pre9 Ls n <= 2700:=fun n hn => Nat.le_trans (pre9_le hlen n hn) (Nat.le_trans (Nat.mul_le_mul hn (show told.length <= 300 by omega)) (by omega))
 have hpos:=h.posN
 have nR:=Lib.hid (fun v => numC6 v 0)
 obtain ⟨-, -, -, -,y4⟩:=h.wat.cW
 obtain ⟨AT,cT,hvT⟩:=own_is h.wat.told
 have cells:∀ v,Below w.heap.size w v -> v.cell? ⟨W.b,0,none⟩ = some (.pointer (some ⟨W.L.g,0,none⟩)) /\ v.cell? ⟨W.b,1,none⟩ = some (.pointer (some ⟨W.gq,0,none⟩)) /\ v.cell? ⟨W.b,4,none⟩ = some (.slice AT told.length cT):=fun v b => by
  obtain ⟨a0,a1, -, -,a4⟩:=(h.below b).wat.cW
  rw [hvT] at a4
  exact ⟨a0,a1,a4⟩
 have tk:∀ v,Below w.heap.size w v -> ∀ (k H:Nat),told[k]? = some H -> ∃ gT,AT = some ⟨gT,0,none⟩ /\ v.cell? ⟨gT,k,none⟩ = some (.int .u64 (H:Int)):=fun v b k H hk => by
  have T:=(h.below b).wat.told
  rw [hvT] at T
  obtain ⟨g9,c9,hv,u1⟩:=own_uv T hk
  injection hv with e1 e2 e3
  exact ⟨g9,e1,u1⟩
 have ik:∀ v,Below w.heap.size w v -> ∀ (k H:Nat),told[k]? = some H -> ∃ g,Ai = some ⟨g,0,none⟩ /\ v.cell? ⟨g,k,none⟩ = some (.int .i64 (kdN s Ls H:Int)):=fun v b k H hk => by
  obtain ⟨g,rfl⟩:=own_someI own (by have:=(List.getElem?_eq_some_iff.1 hk).1; omega)
  obtain ⟨c7,e7,u7⟩:=own_cellI (own_keptN own fun d e => b.block d (own_blockN own e)) (i:=k) (x:=iv (kdN s Ls H)) (by rw [List.getElem?_map,List.getElem?_map,hk]; rfl)
  exact ⟨g,rfl,u7⟩
 have CC:∀ v,Below w.heap.size w v -> ∀ x j:Nat,x < 3 -> j < 3 -> Calls Tryz.prog 72 #[.pointer (some ⟨W.gq,0,none⟩),.int .i64 (x:Int),.int .i64 ((j + 1:Nat):Int)] v fun e w' => ∃ A cp,e = .returned (.tuple #[.slice A (Ls x j).length cp,.bool true]) /\ Below v.heap.size v w' /\ w'.ownsRow v.heap.size 50 1 (.slice A (Ls x j).length cp) (Ls x j).length ((Ls x j).map uv):=fun v b x j hx hj =>
  chainC (h.below b).wat.q x ((j + 1:Nat):Int) ⟨by omega,by rw [qc_nc]; omega,by omega,by omega⟩ (Ls x j) (by unfold lsN; rw [if_pos ⟨by omega,by rw [qc_nc]; omega,by omega,by omega⟩]; congr 1) (by have:=hlen x j hx hj; omega)
 have AC:∀ v,Below w.heap.size w v -> ∀ x j i H:Nat,x < 3 -> j < 3 -> (Ls x j)[i]? = some H -> ∃ p k:Nat,told[k]? = some H /\ kdN s Ls H = j + 1 /\ ∀ n,Calls Tryz.prog 73 #[.pointer (some ⟨W.L.g,0,none⟩),.int .u64 (H:Int)] (v.drewN n) fun e w' => e = .returned (.tuple #[.int .i64 (p:Int),.int .i64 (x:Int),.int .i64 0]) /\ ∃ m,(v.drewN n).drewN m = w':=fun v b x j i H hx hj hi => by
  have hm:=List.mem_of_getElem? hi
  obtain ⟨a1,a2,a3⟩:=h.listed hx hj hm
  obtain ⟨i',x',p,hf⟩:=h.tf H a1
  obtain ⟨k,hk⟩:=List.mem_iff_getElem?.1 a1
  refine ⟨p,k,hk,a3,fun n => ?_⟩
  have hb:=(h.below b).below (below_drewN (Below.refl _ _) n)
  have A:=atC (v.drewN n) W.L qc s bs hb.wat.set hb.wat.good H (h.tlt H a1)
  have ex:s.cls i' = x:=by unfold clsN at a2; rw [hf] at a2; exact a2
  rw [hf] at A
  unfold atV at A
  simp only [ex] at A
  exact A
 have nd:=h.nd
 obtain ⟨nT,hnT⟩:∃ nT,nT = told.length:=⟨_,rfl⟩
 have hnT':=Lib.hid hnT
 rw [<- hnT] at htl
 simp only [<- hnT] at cells hlen
 rw [<- hnT]
 clear hnT hvT y4 own h
 replace cells:=Lib.hid cells
 replace tk:=Lib.hid tk
 replace ik:=Lib.hid ik
 replace CC:=Lib.hid CC
 replace AC:=Lib.hid AC
 replace nd:=Lib.hid nd
 replace hpos:=Lib.hid hpos
 replace hlen:=Lib.hid hlen
 replace hp9:=Lib.hid hp9
 go_enter Tryz.func27,Tryz.ntmps27
 go_wp2_with fail
 go_loopw [5,6] (fun v5 v6 wr => ∃ cN:Nat,v6 = .int .i64 (cN:Int) /\ cN <= 3 /\ v5 = .int .i64 (pre9 Ls (3 * cN):Int) /\ Hid (Below w.heap.size w wr)) (fun _ v6 _ => 3 - (intOf v6).toNat)
 case atStart => exact ⟨0,rfl,by omega,rfl,Lib.hid (Below.refl _ _)⟩
 case round =>
  obtain ⟨cN,rfl,hc3,rfl,bw⟩:=hrel
  by_cases hc:cN < 3
  ·have d1:decide ((cN:Int) < 3) = true:=decide_eq_true (by omega)
   have qc1:IntKind.i64.wrap ((cN:Int) + 1) = (cN:Int) + 1:=IntWalk.i64_in _ (by omega)
   go_wp2_with fail
   go_loopw [5,7] (fun v5 v7 wr2 => ∃ j:Nat,v7 = .int .i64 ((j + 1:Nat):Int) /\ j <= 3 /\ v5 = .int .i64 (pre9 Ls (3 * cN + j):Int) /\ Hid (Below w.heap.size w wr2)) (fun _ v7 _ => 4 - (intOf v7).toNat)
   case atStart => exact ⟨0,rfl,by omega,rfl,bw⟩
   case round =>
    obtain ⟨j,rfl,hj3,rfl,bw2⟩:=hrel
    clear bw
    by_cases hj:j < 3
    ·have d2:decide (((j + 1:Nat):Int) <= 3) = true:=decide_eq_true (by omega)
     have qj1:IntKind.i64.wrap (((j + 1:Nat):Int) + 1) = ((j + 1 + 1:Nat):Int):=by rw [IntWalk.i64_in _ (by omega)]; omega
     obtain ⟨n,hn⟩:∃ n,n = 3 * cN + j:=⟨_,rfl⟩
     have hpn:=hp9.out n (by omega)
     have hpn1:=hp9.out (n + 1) (by omega)
     have ep:pre9 Ls (n + 1) = pre9 Ls n + (Ls cN j).length:=by
      show pre9 Ls n + (Ls (n / 3) (n % 3)).length = _
      rw [show n / 3 = cN by omega,show n % 3 = j by omega]
     rw [<- hn]
     have C1:=CC.out wr bw2.out cN j hc hj
     obtain ⟨-,c1, -⟩:=cells.out wr bw2.out
     obtain ⟨l,hl⟩:∃ l,l = Ls cN j:=⟨_,rfl⟩
     rw [<- hl] at C1 ep
     obtain ⟨K,hK⟩:∃ K,K = l.length:=⟨_,rfl⟩
     rw [<- hK] at C1 ep
     have hKb:K <= 300:=by have:=hlen.out cN j hc hj; rw [<- hl, <- hK] at this; omega
     have qt:IntKind.i64.wrap ((pre9 Ls n:Int) + (K:Int)) = (pre9 Ls (n + 1):Int):=by rw [IntWalk.i64_in _ (by omega)]; omega
     have en1:n + 1 = 3 * cN + (j + 1):=by omega
     generalize pre9 Ls n = P0 at *
     generalize hP1:pre9 Ls (n + 1) = P1 at *
     replace hP1:=Lib.hid hP1
     replace CC:=CC
     clear hK
     go_wp2_with fail
     refine C1.mono ?_
     rintro e w3 ⟨A,cp3,rfl,b3,own3⟩
     have bw3:=bw2.out.trans (b3.mono bw2.out.size)
     replace own3:=Lib.hid own3
     replace bw3:=Lib.hid bw3
     replace hl:=Lib.hid hl
     clear C1 c1 b3
     go_wp2_with fail
     go_loopw [10] (fun v10 wr3 => ∃ i:Nat,v10 = .int .i64 (i:Int) /\ i <= K /\ Hid (Below w3.heap.size w3 wr3)) (fun v10 _ => K - (intOf v10).toNat)
     case atStart => exact ⟨0,rfl,Nat.zero_le _,Lib.hid (Below.refl _ _)⟩
     case round =>
      obtain ⟨i,rfl,hiK,b4⟩:=hrel
      by_cases hlt:i < K
      ·have dI:decide ((i:Int) < (K:Int)) = true:=decide_eq_true (by omega)
       have qi:IntKind.i64.wrap ((i:Int) + 1) = (i:Int) + 1:=IntWalk.i64_in _ (by omega)
       have bw4:=bw3.out.trans (b4.out.mono bw3.out.size)
       have hlK:l.length = K:=by have:=own3.out.1; rwa [List.length_map,Nat.mul_one] at this
       obtain ⟨H,hH⟩:∃ H,l[i]? = some H:=⟨l[i]'(by omega),List.getElem?_eq_getElem _⟩
       obtain ⟨p,k,hk,hkd,At⟩:=AC.out wr bw4 cN j i H hc hj (by rw [<- hl.out]; exact hH)
       obtain ⟨gL,cL,hvL,uL⟩:=own_uvg (own_keptN own3.out fun d e => b4.out.block d (own_blockN own3.out e)) hH
       injection hvL with hv1 hv2 hv3
       subst hv1
       obtain ⟨c0, -, -⟩:=cells.out wr bw4
       have i0:(0:Int) <= (i:Int):=by omega
       have i1:(i:Int) < (K:Int):=by omega
       have hkn:k < nT:=by rw [hnT'.out]; exact (List.getElem?_eq_some_iff.1 hk).1
       replace At:=Lib.hid At
       replace bw4:=Lib.hid bw4
       replace hk:=Lib.hid hk
       replace hkd:=Lib.hid hkd
       replace hlK:=Lib.hid hlK
       replace hH:=Lib.hid hH
       clear hv2 hv3
       go_upto_region 15 with fail
       go_quiet (first | (go_at_call 73; with_reducible exact quiet_more7 (At.out _)) | fail)
       rename_i nq
       obtain ⟨w5,hw5⟩:∃ w5,w5 = wr.drewN nq:=⟨_,rfl⟩
       have b5:Below wr.heap.size wr w5:=by rw [hw5]; exact below_drewN (Below.refl _ _) nq
       rw [<- hw5]
       have uL5:=(b5.cell (p:=⟨gL,i,none⟩) (World.block_lt_of_cell? _ _ uL)).trans uL
       have bw5:=Lib.hid (bw4.out.trans (b5.mono bw4.out.size))
       have b45:=Lib.hid (b4.out.trans (b5.mono b4.out.size))
       replace hw5:=Lib.hid hw5
       clear At c0 uL b5
       go_wp2_with fail
       go_loopw [14] (fun v14 wx => ∃ m:Nat,v14 = .int .i64 (m:Int) /\ m <= k /\ Hid (Below w5.heap.size w5 wx)) (fun v14 _ => k - (intOf v14).toNat)
       case atStart => exact ⟨0,rfl,Nat.zero_le _,Lib.hid (Below.refl _ _)⟩
       case round =>
        obtain ⟨m,rfl,hmk,b6⟩:=hrel
        have bw6:=bw5.out.trans (b6.out.mono bw5.out.size)
        obtain ⟨-, -,c4⟩:=cells.out wr bw6
        have uL6:=(b6.out.cell (p:=⟨gL,i,none⟩) (World.block_lt_of_cell? _ _ uL5)).trans uL5
        have m0:(0:Int) <= (m:Int):=by omega
        have m1:(m:Int) < (nT:Int):=by omega
        have dm:decide ((m:Int) < (nT:Int)) = true:=decide_eq_true m1
        obtain ⟨G,hG⟩:∃ G,told[m]? = some G:=⟨told[m]'(by have:=hnT'.out; omega),List.getElem?_eq_getElem _⟩
        obtain ⟨gT,eT,ug⟩:=tk.out wr bw6 m G hG
        subst eT
        by_cases hmeq:m = k
        ·subst hmeq
         have eGH:G = H:=by have:=hG.symm.trans hk.out; injection this
         have e1:((G:Int) != (H:Int)) = false:=by rw [bne_eq_false_iff_eq]; omega
         have e2:((G:Int) == (H:Int)) = true:=by rw [beq_iff_eq]; omega
         have e3:decide ((G:Int) = (H:Int)) = true:=decide_eq_true (by omega)
         have dk:((m:Int) == (nT:Int)) = false:=by rw [beq_eq_false_iff_ne]; omega
         have dk2:decide ((m:Int) = (nT:Int)) = false:=decide_eq_false (by omega)
         obtain ⟨g,eAi,ui⟩:=ik.out wr bw6 m H hk.out
         subst eAi
         rw [hkd.out] at ui
         replace eGH:=Lib.hid eGH
         replace hG:=Lib.hid hG
         go_upto_region 17 with fail
         go_quiet (fail)
         rename Nat => nq2
         obtain ⟨w7,hw7⟩:∃ w7,w7 = wr.drewN nq2:=⟨_,rfl⟩
         rw [<- hw7]
         have b7:=Lib.hid (show Below w3.heap.size w3 w7 by rw [hw7]; exact below_drewN (b45.out.trans (b6.out.mono b45.out.size)) nq2)
         have c47:w7.cell? ⟨W.b,4,none⟩ = some (.slice (some ⟨gT,0,none⟩) nT cT):=by rw [hw7]; exact c4
         have ui7:w7.cell? ⟨g,m,none⟩ = some (.int .i64 ((j + 1:Nat):Int)):=by rw [hw7]; exact ui
         replace hw7:=Lib.hid hw7
         clear c4 ui ug
         go_wp2_with fail
         refine (nR.out _).mono ?_
         rintro e w' ⟨rfl,rfl⟩
         go_wp2_with fail
         go_roundw
         case rel => exact ⟨i + 1,by simp,by omega,b7⟩
         case measure => simp [intOf] <;> omega
        ·have hne:G ≠ H:=fun e => hmeq (by
          obtain ⟨a1,a2⟩:=List.getElem?_eq_some_iff.1 hG
          obtain ⟨a3,a4⟩:=List.getElem?_eq_some_iff.1 hk.out
          exact (List.getElem_inj nd.out).1 (a2.trans (e.trans a4.symm)))
         have e1:((G:Int) != (H:Int)) = true:=by rw [bne_iff_ne]; omega
         have e2:((G:Int) == (H:Int)) = false:=by rw [beq_eq_false_iff_ne]; omega
         have e3:decide ((G:Int) = (H:Int)) = false:=decide_eq_false (by omega)
         have qm:IntKind.i64.wrap ((m:Int) + 1) = (m:Int) + 1:=IntWalk.i64_in _ (by omega)
         replace hne:=Lib.hid hne
         replace hG:=Lib.hid hG
         replace hmeq:=Lib.hid hmeq
         go_upto_region 17 with fail
         go_quiet (fail)
         rename Nat => nq2
         obtain ⟨w7,hw7⟩:∃ w7,w7 = wr.drewN nq2:=⟨_,rfl⟩
         rw [<- hw7]
         have b7:=Lib.hid (show Below w5.heap.size w5 w7 by rw [hw7]; exact below_drewN b6.out nq2)
         replace hw7:=Lib.hid hw7
         clear c4 ug
         go_wp2_with fail
         go_roundw
         case rel => exact ⟨m + 1,by simp,by have:=hmeq.out; omega,b7⟩
         case measure => have:=hmeq.out; simp [intOf] <;> omega
      ·obtain rfl:K = i:=by omega
       have dI:decide ((K:Int) < (K:Int)) = false:=by simp
       go_wp2_with fail
       go_roundw
       case rel => exact ⟨j + 1,by rfl,by omega,by rw [<- en1,hP1.out]; exact congrArg (Value.int .i64) (by omega),Lib.hid (bw3.out.trans (b4.out.mono bw3.out.size))⟩
       case measure => simp [intOf] <;> omega
    ·obtain rfl:j = 3:=by omega
     have d2:decide (((3 + 1:Nat):Int) <= 3) = false:=by decide
     rw [show 3 * cN + 3 = 3 * (cN + 1) by omega]
     go_wp2_with fail
     go_roundw
     case rel => exact ⟨cN + 1,by simp,by omega,rfl,bw2⟩
     case measure => simp [intOf] <;> omega
  ·obtain rfl:cN = 3:=by omega
   have d1:decide (((3:Nat):Int) < 3) = false:=by decide
   have e9:pre9 Ls (3 * 3) = posN (told.map (kdN s Ls)):=hpos.out.symm
   rw [e9]
   have hpb:posN (told.map (kdN s Ls)) <= 300:=by have:=posN_le (told.map (kdN s Ls)); rw [List.length_map] at this; have:=hnT'.out; omega
   obtain ⟨ks,hks⟩:∃ ks,ks = told.map (kdN s Ls):=⟨_,rfl⟩
   rw [<- hks] at hpb ⊢
   replace hks:=Lib.hid hks
   have ikx:∀ v,Below w.heap.size w v -> ∀ k x:Nat,ks[k]? = some x -> ∃ g,Ai = some ⟨g,0,none⟩ /\ v.cell? ⟨g,k,none⟩ = some (.int .i64 (x:Int)):=fun v b k x hx => by
    obtain ⟨H,hH,e⟩:∃ H,told[k]? = some H /\ kdN s Ls H = x:=by
     rw [hks.out,List.getElem?_map] at hx
     cases hh:told[k]? with
     | none => rw [hh] at hx; cases hx
     | some H => rw [hh] at hx; exact ⟨H,rfl,Option.some.inj hx⟩
    have:=ik.out v b k H hH
    rw [e] at this
    exact this
   have hkl:ks.length = nT:=by rw [hks.out,List.length_map,hnT'.out]
   replace ikx:=Lib.hid ikx
   replace hkl:=Lib.hid hkl
   go_wp2_with fail
   go_loopw [15,16] (fun v15 v16 wx => ∃ i:Nat,v16 = .int .i64 (i:Int) /\ i <= nT /\ v15 = .int .i64 (posN (ks.take i):Int) /\ Hid (Below w.heap.size w wx)) (fun _ v16 _ => nT - (intOf v16).toNat)
   case atStart => exact ⟨0,rfl,Nat.zero_le _,rfl,bw⟩
   case round =>
    obtain ⟨i,rfl,hin,rfl,b9⟩:=hrel
    by_cases hlt:i < nT
    ·have dI:decide ((i:Int) < (nT:Int)) = true:=decide_eq_true (by omega)
     have qi:IntKind.i64.wrap ((i:Int) + 1) = (i:Int) + 1:=IntWalk.i64_in _ (by omega)
     obtain ⟨x,hx⟩:∃ x,ks[i]? = some x:=⟨ks[i]'(by have:=hkl.out; omega),List.getElem?_eq_getElem _⟩
     obtain ⟨g,eAi,ux⟩:=ikx.out wr b9.out i x hx
     subst eAi
     have hps:=posN_snoc hx
     have hpm:posN (ks.take i) <= 300:=by have:=posN_le (ks.take i); rw [List.length_take] at this; omega
     generalize posN (ks.take i) = P at *
     generalize hP2:posN (ks.take (i + 1)) = P2 at *
     have i0:(0:Int) <= (i:Int):=by omega
     have i1:(i:Int) < (nT:Int):=by omega
     have qp:IntKind.i64.wrap ((P:Int) + 1) = (P:Int) + 1:=IntWalk.i64_in _ (by omega)
     replace hx:=Lib.hid hx
     replace hP2:=Lib.hid hP2
     by_cases h0 : 0 < x
     ·rw [if_pos h0] at hps
      have a1:decide ((x:Int) > 0) = true:=decide_eq_true (by omega)
      have a2:decide (0 < x) = true:=decide_eq_true h0
      replace hps:=Lib.hid hps
      go_wp2_with fail
      go_roundw
      case rel => exact ⟨i + 1,by simp,by omega,by rw [hP2.out,hps.out]; rfl,b9⟩
      case measure => simp [intOf] <;> omega
     ·rw [if_neg h0] at hps
      have a1:decide ((x:Int) > 0) = false:=decide_eq_false (by omega)
      have a2:decide (0 < x) = false:=decide_eq_false h0
      replace hps:=Lib.hid hps
      go_wp2_with fail
      go_roundw
      case rel => exact ⟨i + 1,by simp,by omega,by rw [hP2.out,hps.out]; rfl,b9⟩
      case measure => simp [intOf] <;> omega
    ·obtain rfl:nT = i:=by omega
     have dI:decide ((nT:Int) < (nT:Int)) = false:=by simp
     rw [List.take_of_length_le (show ks.length <= nT by have:=hkl.out; omega)]
     generalize posN ks = P at *
     have e1:((P:Int) == (P:Int)) = true:=by simp
     go_wp2
     go_ret
     exact ⟨rfl,b9.out⟩
end
end Go.Proofs.YtfjiphibalhcgaaGreat.Que
/-
  The law QueueChains' state: its world and its row of kinds.
-/
namespace Go.Proofs.YtfjiphibalhcgaaGreat.Que
open Go.RowKit Base Arena Cls Itm
theorem own_raise {w:World} {N n:Nat} {e:TypeId} {v:Value} {xs:List Value} (h:w.ownsRow 0 e 1 v n xs) (hb:∀ b,v.ownBlock = some b -> N <= b):w.ownsRow N e 1 v n xs:=by
  refine ⟨h.1,?_⟩
  rcases h.2 with h0 | ⟨g',cap,cur,hv,hB,hg,h1,h2,h3,h4⟩
  · exact .inl h0
  · exact .inr ⟨g',cap,cur,hv,hb g' (by rw [hv]; rfl),hg,h1,h2,h3,h4⟩
structure GoI (N:Nat) (W0:World) (w:World) (W:W6) (s:St) (bs:List UInt8) (Z:Nat -> Option Zd) (Ls:Nat -> Nat -> List Nat) (r:RS) (laid told:List Nat) (t:Nat) (A:Option Addr) (n cp:Nat):Prop where
  bel:Below N W0 w
  ci:CI N w W s bs Z Ls r laid told t
  len:told.length = n
  own:w.ownsRow N 3 1 (.slice A n cp) n ((told.map (kdN s Ls)).map iv)
  far:∀ g,(Value.slice A n cp).ownBlock = some g -> ∀ i,¬ W.foot qc s i g
def GoC (N:Nat) (W0:World) (b:Nat) (w:World) (t:Nat) (A:Option Addr) (n cp:Nat):Prop:=∃ W s bs Z Ls r laid told,W.b = b /\ GoI N W0 w W s bs Z Ls r laid told t A n cp
theorem CI.new {w:World} {N:Nat} {W:W6} (h:WAt N w W qc (new0 qc.cf) (List.replicate (qc.cf.ps * qc.cf.np) 0) (fun _ => none) (fun _ _ => []) (fun _ _ => []) rnew0 [] []) :
    CI N w W (new0 qc.cf) (List.replicate (qc.cf.ps * qc.cf.np) 0) (fun _ => none) (fun _ _ => []) rnew0 [] [] 0 :=
  ⟨h,rel_new _,fun H i x p _ => ⟨fun e => (by cases e),fun e => (by cases e)⟩,List.length_replicate,Nat.zero_le _,Nat.zero_le _,Nat.zero_le _,fun H e => (by cases e),fun H e => (by cases e),fun H e => (by cases e),List.nodup_nil⟩
theorem CI.only {N:Nat} {w w':World} {W:W6} {s:St} {bs:List UInt8} {Z:Nat -> Option Zd} {Ls:Nat -> Nat -> List Nat} {r:RS} {laid told:List Nat} {t:Nat} (h:CI N w W s bs Z Ls r laid told t) {S:Nat -> Prop} (o:Only S w w') (hS:∀ i b,W.foot qc s i b -> ¬ S b):CI N w' W s bs Z Ls r laid told t :=
  ⟨h.wat.only o hS,h.rel,h.agr,h.bs,h.ch,h.la,h.tl,h.tlt,h.lt,h.tf,h.nd⟩
section
variable {N:Nat} {W0 w:World} {W:W6} {s:St} {bs:List UInt8} {Z:Nat -> Option Zd} {Ls:Nat -> Nat -> List Nat} {r:RS} {laid told:List Nat} {t:Nat} {A:Option Addr} {n cp:Nat} (h:GoI N W0 w W s bs Z Ls r laid told t A n cp)
include h
theorem GoI.below {w':World} (b:Below w.heap.size w w'):GoI N W0 w' W s bs Z Ls r laid told t A n cp :=
  ⟨h.bel.trans (b.mono h.ci.wat.hN0),h.ci.below b,h.len,own_keptN h.own fun d e => b.block d (own_blockN h.own e),h.far⟩
theorem GoI.more {t':Nat} (ht:t <= t'):GoI N W0 w W s bs Z Ls r laid told t' A n cp:=⟨h.bel,h.ci.more ht,h.len,h.own,h.far⟩
theorem GoI.on (b:Nat) (e:W.b = b):GoC N W0 b w t A n cp:=⟨W,s,bs,Z,Ls,r,laid,told,e,h⟩
theorem GoI.keep {w':World} {W':W6} {s':St} (G:Grew qc w w' W W' s s'):w'.ownsRow N 3 1 (.slice A n cp) n ((told.map (kdN s Ls)).map iv) /\ (∀ g,(Value.slice A n cp).ownBlock = some g -> ∀ i,¬ W'.foot qc s' i g) /\ Below N W0 w' :=
  ⟨own_keptN h.own fun d e => (G.away (own_blockN h.own e) (h.far d e)).1,fun g e => (G.away (own_blockN h.own e) (h.far g e)).2,h.bel.trans (G.below h.ci.wat.base h.ci.wat.hN0)⟩
theorem GoI.turned {w':World} {bs':List UInt8} {Z':Nat -> Option Zd} {Ls':Nat -> Nat -> List Nat} (C:CI N w' W s bs' Z' Ls' r laid told t) (o:Only (Two W.L W.gl) w w') (e:told.map (kdN s Ls') = told.map (kdN s Ls)):GoI N W0 w' W s bs' Z' Ls' r laid told t A n cp:=by
  have two:∀ g,Two W.L W.gl g -> ∃ i,W.foot qc s i g:=fun g e => by
    rcases e with e | e
    · exact ⟨.set,by rw [e]; exact ⟨.bytes,rfl⟩⟩
    · exact ⟨.queue,.inr e⟩
  refine ⟨h.bel.trans (o.toBelow fun k hk => ⟨?_,fun e => ?_⟩),C,h.len,?_,h.far⟩
  · exact Nat.lt_of_lt_of_le hk h.ci.wat.hN0
  · obtain ⟨i,hi⟩:=two k e
    have:=h.ci.wat.base i k hi
    omega
  · rw [e]
    exact own_keptN h.own fun d e => o.block d (own_blockN h.own e) fun e2 => by
      obtain ⟨i,hi⟩:=two d e2
      exact h.far d e i hi
theorem GoI.two {g:Nat} (e:Two W.L W.gl g):∃ i,W.foot qc s i g:=by
  rcases e with e | e
  · exact ⟨.set,by rw [e]; exact ⟨.bytes,rfl⟩⟩
  · exact ⟨.queue,.inr e⟩
theorem GoI.held {w':World} (o:Only (Two W.L W.gl) w w'):w'.ownsRow N 3 1 (.slice A n cp) n ((told.map (kdN s Ls)).map iv) /\ Below N W0 w':=by
  refine ⟨own_keptN h.own fun d e => o.block d (own_blockN h.own e) fun e2 => ?_,h.bel.trans (o.toBelow fun k hk => ⟨Nat.lt_of_lt_of_le hk h.ci.wat.hN0,fun e => ?_⟩)⟩
  · obtain ⟨i,hi⟩:=h.two e2
    exact h.far d e i hi
  · obtain ⟨i,hi⟩:=h.two e
    have:=h.ci.wat.base i k hi
    omega
theorem GoI.swapped {w':World} {g:Nat} (eA:A = some ⟨g,0,none⟩) {bs':List UInt8} {Z':Nat -> Option Zd} {Ls':Nat -> Nat -> List Nat} (C:CI N w' W s bs' Z' Ls' r laid told t) (own':w'.ownsRow 0 3 1 (.slice (some ⟨g,0,none⟩) told.length cp) told.length ((told.map (kdN s Ls')).map iv))
    (o:Only (fun b => b = g \/ Two W.L W.gl b) w w'):GoI N W0 w' W s bs' Z' Ls' r laid told t A n cp:=by
  subst eA
  have hg:N <= g:=own_base h.own rfl
  refine ⟨h.bel.trans (o.toBelow fun k hk => ⟨Nat.lt_of_lt_of_le hk h.ci.wat.hN0,fun e => ?_⟩),C,h.len,?_,h.far⟩
  · rcases e with e | e
    · omega
    · obtain ⟨i,hi⟩:=h.two e
      have:=h.ci.wat.base i k hi
      omega
  · rw [h.len] at own'
    exact own_raise own' fun d e => by
      have e:some g = some d:=e
      injection e with e
      omega
end
theorem GoI.put {N:Nat} {W0 w:World} {W:W6} {s:St} {bs:List UInt8} {Z:Nat -> Option Zd} {Ls Ls':Nat -> Nat -> List Nat} {r:RS} {laid told:List Nat} {t:Nat} {g n cp:Nat} (bel:Below N W0 w) (C:CI N w W s bs Z Ls' r laid told t) (hl:told.length = n)
    (own:w.ownsRow N 3 1 (.slice (some ⟨g,0,none⟩) n cp) n ((told.map (kdN s Ls)).map iv)) (far:∀ i,¬ W.foot qc s i g) {k x:Nat} (hk:k < n) (e:told.map (kdN s Ls') = (told.map (kdN s Ls)).set k x) :
    GoI N W0 (w.setCell ⟨g,k,none⟩ (.int .i64 (x:Int))) W s bs Z Ls' r laid told t (some ⟨g,0,none⟩) n cp:=by
  have o:Only (· = g) w (w.setCell ⟨g,k,none⟩ (.int .i64 (x:Int))):=only_cell1 w g k _ rfl
  have hg:=own_base own (b:=g) rfl
  have hgl:=own_blockN own (b:=g) rfl
  refine ⟨bel.trans (o.toBelow fun k hk => ⟨by omega,fun e => by omega⟩),C.only o fun i b hb e => far i (e ▸ hb),hl,?_,fun d e i => ?_⟩
  · rw [e,List.map_set]
    exact own_put own (iv x) hk
  · have e:some g = some d:=e
    injection e with e
    exact e ▸ far i
theorem GoI.snoc {N:Nat} {W0 w w6:World} {W:W6} {s:St} {bs:List UInt8} {Z:Nat -> Option Zd} {Ls:Nat -> Nat -> List Nat} {r:RS} {laid told:List Nat} {t:Nat} {A:Option Addr} {n cp:Nat} {xs:List Value} {o:Obj} {A6:Option Addr} {cp6:Nat} (bel:Below N W0 w) (C:CI N w W s bs Z Ls r laid told t) (hl:told.length = n + 1)
    (own:w.ownsRow N 3 1 (.slice A n cp) n xs) (far:∀ g,(Value.slice A n cp).ownBlock = some g -> ∀ i,¬ W.foot qc s i g) (e:(told.map (kdN s Ls)).map iv = xs ++ [iv 0])
    (hg:(w.alloc o).grownBy w6 (Value.slice A n cp).ownBlock) (own6:w6.ownsRow N 3 1 (.slice A6 (n + 1) cp6) (n + 1) (xs ++ [iv 0])) (hat:∀ b,(Value.slice A6 (n + 1) cp6).ownBlock = some b -> (Value.slice A n cp).ownBlock = some b \/ w.heap.size <= b) :
    GoI N W0 w6 W s bs Z Ls r laid told t A6 (n + 1) cp6:=by
  have oo:Only (fun b => (Value.slice A n cp).ownBlock = some b) w w6:=((Only.refl _ w).alloc _).grown hg (fun k e hk => e)
  refine ⟨bel.trans (oo.toBelow fun k hk => ⟨Nat.lt_of_lt_of_le hk C.wat.hN0,fun e => by have:=own_base own e; omega⟩),C.only oo fun i b hb e => far b e i hb,hl,by rw [e]; exact own6,fun g e i hf => ?_⟩
  rcases hat g e with h1 | h1
  · exact far g h1 i hf
  · have:=C.wat.lt i g hf
    omega
end Go.Proofs.YtfjiphibalhcgaaGreat.Que
/-
  A region that draws its order: operations that only read or draw, and then a tail in one forced order that may write. One walk of the text's order serves every order.
-/
namespace Go.Proofs.YtfjiphibalhcgaaGreat.QTail
open Go
section
variable {P:Program} {ops:Array Oper} {md:Region.Mode} {C:World -> Prop}
def headAny (P:Program) (md:Region.Mode) (ops:Array Oper) (C:World -> Prop) (n:Nat) (L:Array Bool -> Act -> Prop):Nat -> Array Bool -> Act -> Prop
 | 0,listed,a => L listed a
 | f + 1,listed,a => Region.ready md ops listed ≠ [] /\ ∀ i ∈ Region.ready md ops listed,i < n /\ qOp P ops C i (headAny P md ops C n L f (listed.setIfInBounds i true)) a
theorem any_of_head {n k:Nat} {L:Array Bool -> Act -> Prop} {Q:Exit -> Act -> World -> Prop} (hL:∀ listed a w,C w -> L listed a -> wpAny P md ops Q k listed a w) :
  ∀ (f:Nat) (listed:Array Bool) (a:Act) (w:World),C w -> headAny P md ops C n L f listed a -> wpAny P md ops Q (f + k) listed a w:=by
 intro f
 induction f with
 | zero => intro listed a w hw h; rw [Nat.zero_add]; exact hL _ _ _ hw h
 | succ f ih =>
  intro listed a w hw h
  rw [Nat.succ_add]
  exact ⟨fun h0 => absurd h0 h.1,fun i hi => wpOp_of_qOp hw (fun a' w' hw' h' => ih _ a' w' hw' h') (h.2 i hi).2⟩
theorem head_first {n i:Nat} {o:Oper} {v:Value} {L:Array Bool -> Act -> Prop} (ho:ops[i]? = some o) (hsel:∀ (j:Nat) (o:Oper) cs b,ops[j]? = some o -> o.op ≠ .select cs b)
  (hs:Region.sinkB md ops n = true) (hc:Region.chainB md ops n = true) (hn:n < ops.size) (hin:i < n) (hdone:∀ listed a,L listed a -> ∀ j ∈ Region.ready md ops listed,n <= j) :
  ∀ (f:Nat) (listed:Array Bool) (a:Act),HeadInv md ops n listed ->
   (∀ j oj,ops[j]? = some oj -> j ≠ i -> listed.getD j true = false -> (∀ e ∈ oj.after,Region.binds md e = true -> e.on ≠ i) -> o.apart ops oj = true) ->
   i ∈ Region.ready md ops listed -> YieldsIn P ops C o v a -> headAny P md ops C n L f (listed.setIfInBounds i true) (a.put o.dst v) -> headAny P md ops C n L (f + 1) listed a:=by
 intro f
 induction f with
 | zero =>
  intro listed a inv hfree hr hy H
  have hi0:=(mem_ready.1 hr).1
  have low:∀ j ∈ Region.ready md ops listed,j < n:=fun j hj => by
   rcases Nat.lt_or_ge j n with h | h
   ·exact h
   ·exact absurd hj (tail_waits hs hc hn inv _ i rfl hin hi0 j h)
  refine ⟨fun h => (by rw [h] at hr; cases hr),fun j hj => ⟨low j hj,?_⟩⟩
  by_cases hji:j = i
  ·rw [hji]; exact hy.qOp ho H
  ·have h1:=hdone _ _ H j (ready_mono hj hji)
   have h2:=low j hj
   omega
 | succ f ih =>
  intro listed a inv hfree hr hy H
  have hi0:=(mem_ready.1 hr).1
  have low:∀ j ∈ Region.ready md ops listed,j < n:=fun j hj => by
   rcases Nat.lt_or_ge j n with h | h
   ·exact h
   ·exact absurd hj (tail_waits hs hc hn inv _ i rfl hin hi0 j h)
  refine ⟨fun h => (by rw [h] at hr; cases hr),fun j hj => ⟨low j hj,?_⟩⟩
  by_cases hji:j = i
  ·rw [hji]; exact hy.qOp ho H
  obtain ⟨hj0,oj,hoj,hall⟩:=mem_ready.1 hj
  have hnot:∀ e ∈ oj.after,Region.binds md e = true -> e.on ≠ i:=fun e he hb heq => by
   have h1:=hall e he hb
   rw [heq,getD_both hi0] at h1
   cases h1
  have h1:=(H.2 j (ready_mono hj hji)).2
  have h2:=qOp_put hoj (hfree j oj hoj hji hj0 hnot) (fun cs b => hsel i o cs b ho) (fun cs b => hsel j oj cs b hoj) hy h1
  refine qOp_mono (fun a' h3 => ih (listed.setIfInBounds j true) a' (inv.set hj (low j hj)) ?_ (ready_mono hr (Ne.symm hji)) h3.1 ?_) h2
  ·intro k ok hk hki hun hno
   refine hfree k ok hk hki ?_ hno
   by_cases hjk:j = k
   ·rw [<- hjk]; exact hj0
   ·rwa [getD_set_ne true hjk] at hun
  ·rw [Array.setIfInBounds_comm _ _ hji]
   exact h3.2
theorem head_lex {n k:Nat} {R:Act -> Prop} (hsel:Region.noSelect ops = true) (hs:Region.sinkB md ops n = true) (hc:Region.chainB md ops n = true) (hn:n < ops.size) :
  ∀ (l:List Oper) (m:Nat) (listed:Array Bool) (a:Act),(∀ j,j < l.length -> l[j]? = ops[m + j]?) -> m + l.length = n -> HeadInv md ops n listed -> Region.lexHead md ops k l.length m listed = true ->
   wpQuiet P ops C R l a -> headAny P md ops C n (fun listed' a' => Region.seqB md ops k n listed' = true /\ R a') l.length listed a:=by
 intro l
 induction l with
 | nil =>
  intro m listed a _ hm _ hB h
  have:m = n:=by simpa using hm
  subst this
  exact ⟨by simpa [Region.lexHead] using hB,h⟩
 | cons o l ih =>
  intro m listed a hl hm inv hB h
  have h0:ops[m]? = some o:=by simpa using (hl 0 (by simp)).symm
  simp only [List.length_cons,Region.lexHead,Bool.and_eq_true] at hB
  have hmn:m < n:=by simp only [List.length_cons] at hm; omega
  have hr:m ∈ Region.ready md ops listed:=by simpa using hB.1.1
  have hq:qOp P ops C m (wpQuiet P ops C R l) a:=by unfold qOp; simp only [h0]; exact h
  obtain ⟨v,hy,hK⟩:=yieldsIn_of_qOp h0 hq
  refine head_first h0 (Region.noSelect_spec hsel) hs hc hn hmn (fun listed' a' hL => seqB_ready hL.1) l.length listed a inv (Region.free_spec h0 hB.1.2) hr hy ?_
  exact ih (m + 1) _ _ (fun j hj => by have:=hl (j + 1) (by simp; omega); simpa [Nat.add_assoc,Nat.add_comm 1 j] using this) (by simp only [List.length_cons] at hm; omega) (inv.set hr hmn) hB.2 hK
theorem region_quiet_tail {id:Nat} {Q:Exit -> Act -> World -> Prop} {a:Act} {w:World} {l:List Oper} (n:Nat) (hm:P.follows .mixedOrders = true) (hB:Region.lexTailB .any l.toArray n = true)
  (h:wpQuiet P l.toArray (fun w' => ∃ m,w' = w.drewN m) (fun a' => ∀ w',(∃ m,w' = w.drewN m) -> wpList P l.toArray Q (l.drop n) a' w') (l.take n) a):(Code.region id l.toArray true).wp P Q a w:=by
 simp only [Region.lexTailB,Bool.and_eq_true,decide_eq_true_eq] at hB
 obtain ⟨⟨⟨⟨hsel,hn⟩,hs⟩,hc⟩,hlex⟩:=hB
 have hn':n < l.length:=by simpa using hn
 have htl:(l.take n).length = n:=by simp; omega
 have hdl:(l.drop n).length = l.toArray.size - n:=by simp
 have inv0:HeadInv .any l.toArray n (Array.replicate l.toArray.size false) :=
  ⟨by simp,fun j oj _ hl => (by rw [getD_replicate_false] at hl; cases hl),fun t _ ht => getD_in (by simpa using ht) (getD_replicate_false _ _)⟩
 have H:=head_lex (md:=.any) (C:=fun w' => ∃ m,w' = w.drewN m) (k:=l.toArray.size - n) hsel hs hc hn (l.take n) 0 _ a (fun j hj => by rw [htl] at hj; simp [hj]) (by simpa using htl) inv0 (by rw [htl]; exact hlex) h
 refine wp_region_any hm ?_
 have G:=any_of_head (Q:=Q) (k:=l.toArray.size - n) (C:=fun w' => ∃ m,w' = w.drewN m) (fun listed a' w' hw' hL => by
  have:=wpAny_of_seq (md:=.any) (Q':=Q) (l.drop n) n listed a' w' (fun j => by simp [List.getElem?_drop]) (by rw [hdl]; exact hL.1) (hL.2 w' hw')
  rwa [hdl] at this) _ _ _ w.drew ⟨1,rfl⟩ H
 rw [htl,show n + (l.toArray.size - n) = l.toArray.size by omega] at G
 exact G
end
end Go.Proofs.YtfjiphibalhcgaaGreat.QTail
