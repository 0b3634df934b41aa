/-
  Contracts and lemmas, joined: QueueSwap, Ref6Swap, QueueLooks, QueueHeader, QueueMoves0, QueueGive, Ref6Give, QueueGives, QueueGivesLaw, QueueMoves, QueueSeq, QueueSeq2, RangeLaw, QueueSeq3, QueueAllLaw, QueueDoesLaw, QueueDoesAll, QueueEnds, QueueWakes, QueueExactLaw, QueueArg, QueueChainsPlain, QueueChainsMem, QueueChainsRow, QueueChainsAll, QueueChainsAsk, QueueChainAt.
-/
import Derived.Lib.QuietBelow
import Derived.RangeFuncNested
import Derived.RangeFuncBound
import Derived.RangeFuncCalls
import Derived.RangeFuncLeaves
import Derived.RangeFuncBox
import Derived.Shelf.Abstract
import Derived.WalkKit
import Derived.OwnWalkIn
import Derived.TacticsInMore
import Derived.LoopNIn
import Derived.LoopIn
import Derived.Maps.AppendAt
import Derived.Test.YtfjiphibalhcgaaGreatH1
import Derived.Test.YtfjiphibalhcgaaGreatH4
import Derived.Test.YtfjiphibalhcgaaGreatH6
import Derived.Test.YtfjiphibalhcgaaGreatH7
import Derived.Test.YtfjiphibalhcgaaGreatH8
set_option linter.unusedSimpArgs false
set_option linter.unusedVariables false
set_option linter.unusedSectionVars false
set_option maxRecDepth 100000
/-
  The queue's Swap, by its rows of handles.
-/
namespace Go.Proofs.YtfjiphibalhcgaaGreat.Que
open Go.RowKit Base Arena Cls Itm
theorem ptr_neq {P:Program} {t te:TypeId} {i:TypeInfo} (hp:P.underlying t = some (.pointer te)) (hte:P.info? te = some i) (hsz:i.size ≠ 0) (g a b:Nat) (w:World) :
  Sem.run P (binOp .neq t (.pointer (some ⟨g,a,none⟩)) (.pointer (some ⟨g,b,none⟩))) w = .ok (.bool (!decide (a = b))) w:=by
 have h:∀ d,Sem.run P (Op.equalIn (d + 1) t (.pointer (some ⟨g,a,none⟩)) (.pointer (some ⟨g,b,none⟩))) w = .ok (decide (a = b)) w:=fun d => by
  simp [Op.equalIn,run_underlying hp,sizeOf,typeInfo,hte,hsz,sameAddr]
  by_cases e:a = b <;> simp [e]
 simp only [binOp]
 simp [Op.equal,Op.maxDepth,h 9999]
theorem lst_neq (g a b:Nat) (w:World):Sem.run Tryz.prog (binOp .neq 109 (.pointer (some ⟨g,a,none⟩)) (.pointer (some ⟨g,b,none⟩))) w = .ok (.bool (!decide (a = b))) w:=by
 obtain ⟨i,h1,h2⟩:∃ i,Tryz.prog.info? 114 = some i /\ i.size = 3:=by
  have h:=(show (Tryz.prog.info? 114).map (·.size) = some 3 by kernel_rfl)
  cases hi:Tryz.prog.info? 114 with
  | none => rw [hi] at h; cases h
  | some i => rw [hi] at h; injection h with h; exact ⟨i,rfl,h⟩
 exact ptr_neq Tryz.underlying109 h1 (by omega) g a b w
def swL (l:List Nat) (old H:Nat):List Nat:=l.set (l.idxOf old) H
theorem swL_split {l1 l2:List Nat} {old H:Nat} (h:old ∉ l1):swL (l1 ++ old :: l2) old H = l1 ++ H :: l2:=by
 unfold swL
 rw [idx_split h]
 simp
def swapN (c:Conf) (s:St) (Z:Nat -> Option Zd) (Ls:Nat -> Nat -> List Nat) (old H:Nat):Nat × (Nat -> Nat -> List Nat) :=
 if stK (clsN c s old) Ls old = 0 \/ isN c s Z H = false then (20,Ls) else if stK (clsN c s H) Ls H ≠ 0 then (8,Ls) else if clsN c s old ≠ clsN c s H then (1,Ls)
 else (0,updL Ls (clsN c s old) (stK (clsN c s old) Ls old - 1) (swL (Ls (clsN c s old) (stK (clsN c s old) Ls old - 1)) old H))
section
variable {w:World} {L:Lay} {c:Conf} {s:St} {bs:List UInt8} {Z:Nat -> Option Zd} {gq gl:Nat} {Ls:Nat -> Nat -> List Nat} (h:QW w L c s bs Z gq gl Ls)
include h
set_option maxHeartbeats 1600000 in
theorem swapC (old H:Nat) (ho:old < 18446744073709551616) (hH:H < 18446744073709551616) :
  Calls Tryz.prog 35 #[.pointer (some ⟨gq,0,none⟩),.int .u64 (old:Int),.int .u64 (H:Int)] w fun e w' => e = .returned (.int .i64 ((swapN c s Z Ls old H).1:Int)) /\ Did w w' L c s bs Z gq gl (swapN c s Z Ls old H):=by
 have SC:=standsC h old ho
 have hw:=Lib.hid h
 by_cases h0:stK (clsN c s old) Ls old = 0
 ·have er:swapN c s Z Ls old H = (20,Ls):=by unfold swapN; rw [if_pos (.inl h0)]
  rw [er]
  rw [if_pos h0] at SC
  replace SC:=Lib.hid SC
  clear h er h0
  go_enter Tryz.func35,Tryz.ntmps35
  go_wp2_with fail
  refine SC.out.mono ?_
  rintro e w1 ⟨rfl,b1⟩
  have D:=Lib.hid (hw.out.same (R:=20) b1)
  clear b1
  go_wp2
  go_ret
  exact ⟨rfl,D.out⟩
 rw [if_neg h0] at SC
 obtain ⟨F,S,q⟩:=h
 obtain ⟨k,i,y,p,hk,e,hf,ec,hx,hm⟩:=q.of_stK S.okc S.zs.good h0
 obtain ⟨l1,l2,hl,he,hz⟩:=q.split hx hk hm
 rw [e,Nat.add_sub_cancel] at SC
 have hnd:=q.nd _ _ hx hk
 rw [hl] at hnd
 have n1:old ∉ l1:=fun e => (List.nodup_append.1 hnd).2.2 old e old (List.mem_cons_self ..) rfl
 have ST:∀ w1,Below w.heap.size w w1 -> Calls Tryz.prog 80 #[.pointer (some ⟨L.g,0,none⟩),.int .u64 (old:Int)] w1 fun e w' => e = .returned (.tuple #[.int .i64 ((k:Int) + 1),.int .i64 0]) /\ Below w1.heap.size w1 w':=fun w1 b => by
  have:=zStateYes (S.below b).zs (H:=old) ho hf
  rw [hz] at this
  exact this
 have q0:=fun w1 (b:Below w.heap.size w w1) => (S.below b).q.c0
 have QB:∀ w1,Below w.heap.size w w1 -> QW w1 L c s bs Z gq gl Ls:=fun w1 b => ⟨F,S.below b,q⟩
 by_cases hR:(pushN c s Z Ls H ((k:Int) + 1) false).1 = 0
 ·have hR2:=hR
  unfold pushN at hR2
  rw [if_neg (by omega)] at hR2
  have hi:¬ isN c s Z H = false:=fun e => by rw [if_pos e] at hR2; cases hR2
  rw [if_neg hi] at hR2
  have hs:stK (clsN c s H) Ls H = 0:=Classical.not_not.1 fun e => by rw [if_pos e] at hR2; cases hR2
  have hi2:isN c s Z H = true:=by simpa using hi
  have hi3:=hi2
  unfold isN at hi3
  obtain ⟨⟨i',y',p'⟩,hf'⟩:=Option.isSome_iff_exists.1 (Bool.and_eq_true_iff.1 hi3).1
  obtain ⟨z',hz'⟩:=Option.isSome_iff_exists.1 (Bool.and_eq_true_iff.1 hi3).2
  have hnH:=q.not_stK hs
  have ec':clsN c s H = s.cls i':=by unfold clsN; rw [hf']
  have FY:∀ w1,Below w.heap.size w w1 -> Calls Tryz.prog 62 #[.pointer (some ⟨gq,0,none⟩),.int .u64 (H:Int),.int .i64 ((k:Int) + 1)] w1 fun e w' => e = .returned (.tuple #[.pointer (some ⟨gl,clsN c s H * 9 + k * 3,none⟩),.int .i64 0]) /\ Below w1.heap.size w1 w':=fun w1 b => by
   rw [ec']
   exact freeYes (S.below b) H k hk ⟨⟨i',y',p',hf'⟩,z',hz'⟩ hf' (q.free hf' hnH)
  by_cases hcc:clsN c s old = clsN c s H
  ·have er:swapN c s Z Ls old H = (0,updL Ls (clsN c s old) k (l1 ++ H :: l2)):=by
    unfold swapN
    rw [if_neg (by rw [hi2]; simp [h0]),if_neg (by omega),if_neg (by simp [hcc]),e,Nat.add_sub_cancel,ec,hl,swL_split n1]
   rw [er]
   rw [<- hcc] at FY
   have LK:=fun w1 (b:Below w.heap.size w w1) => zLinksC (S.below b) old ⟨⟨i,y,p,hf⟩,_,hz⟩ _ hz
   have DC:∀ w1,Below w.heap.size w w1 -> Calls Tryz.prog 24 #[.pointer (some ⟨gq,0,none⟩),.int .u64 (old:Int)] w1 fun e w' => e = .returned (.int .i64 0) /\ Did w1 w' L c s bs Z gq gl (0,updL Ls (clsN c s old) k (l1 ++ l2)):=fun w1 b => by
    have:=dropC (QB w1 b) old ho
    unfold dropN outN at this
    rw [if_neg h0,e,Nat.add_sub_cancel,ec,he, <- ec] at this
    exact this
   obtain ⟨X,hX⟩:∃ X,X = clsN c s old:=⟨_,rfl⟩
   rw [<- hX] at SC FY DC ⊢
   have hXi:X = s.cls i:=by rw [hX,ec]
   have hXi':s.cls i' = X:=by rw [hX,hcc,ec']
   have hXn:X < c.nc:=by rw [hXi]; exact hx
   obtain ⟨a,hA⟩:∃ a,a = l1.getLast?.getD 0:=⟨_,rfl⟩
   obtain ⟨b,hB⟩:∃ b,b = l2.head?.getD 0:=⟨_,rfl⟩
   rw [<- hA, <- hB] at LK
   have LY:∀ w1 bs1 Z1,(∀ H',(Z1 H').isSome = (Z H').isSome) -> QW w1 L c s bs1 Z1 gq gl (updL Ls X k (l1 ++ l2)) ->
     Calls Tryz.prog 63 #[.pointer (some ⟨gq,0,none⟩),.pointer (some ⟨gl,X * 9 + k * 3,none⟩),.int .u64 (H:Int),.int .i64 ((k:Int) + 1),.int .u64 (a:Int),.int .u64 (b:Int)] w1 fun e w' => e = .returned (.tuple #[]) /\ Did w1 w' L c s bs1 Z1 gq gl (0,updL Ls X k (l1 ++ H :: l2)):=by
    rintro w1 bs1 Z1 dz ⟨F1,S1,q1⟩
    have hIt:∀ y ∈ l1 ++ l2,It c s Z1 y:=fun y hy => q1.is hXn hk (by rw [updL_at]; exact hy)
    have hIH:It c s Z1 H:=⟨⟨i',y',p',hf'⟩,Option.isSome_iff_exists.1 ((dz H).trans (by rw [hz']; rfl))⟩
    have hout:∀ x j,x < c.nc -> j < 3 -> H ∉ updL Ls X k (l1 ++ l2) x j:=by
     intro x j hx' hj hm'
     by_cases ee:x = X /\ j = k
     ·obtain ⟨rfl,rfl⟩:=ee
      rw [updL_at] at hm'
      refine hnH x j hx' hj ?_
      rw [hXi,hl]
      rcases List.mem_append.1 hm' with hm' | hm'
      ·exact List.mem_append.2 (.inl hm')
      ·exact List.mem_append.2 (.inr (List.mem_cons_of_mem _ hm'))
     ·rw [updL_ne ee] at hm'
      exact hnH x j hx' hj hm'
    have hlay:=q1.lay S1.okc S1.zs.good hXn hk hf' hXi' hout l1 l2 (updL_at _ _ _ _)
    rw [<- hA, <- hB] at hlay
    have hn1:F1.n X k < 1073741824:=by have:=q1.nB S1.okc S1.zs.good hXn hk; omega
    refine (layC S1 hXn hk H a b hIH ?_ ?_ hn1).mono ?_
    ·rw [hA]
     exact last_in.imp id fun hm' => hIt _ (List.mem_append.2 (.inl hm'))
    ·rw [hB]
     exact head_in.imp id fun hm' => hIt _ (List.mem_append.2 (.inr hm'))
    ·rintro e2 w' ⟨rfl,o2,bs2,E2,S2⟩
     have eU:updL (updL Ls X k (l1 ++ l2)) X k (l1 ++ H :: l2) = updL Ls X k (l1 ++ H :: l2):=by
      funext u v
      unfold updL
      split <;> rfl
     rw [eU] at hlay
     exact ⟨rfl,o2,bs2,_,E2,fun H' => jZ_some.trans (jZ_some.trans (upd_some hIH.2 H')),fun h => absurd rfl h,_,S2,hlay⟩
   replace SC:=Lib.hid SC
   replace ST:=Lib.hid ST
   replace FY:=Lib.hid FY
   replace LK:=Lib.hid LK
   replace DC:=Lib.hid DC
   replace LY:=Lib.hid LY
   replace q0:=Lib.hid q0
   clear h0 q S hf hz hx hm hl he hnd n1 QB hR hR2 hi hs hi2 hi3 hf' hz' hnH er ec ec' e hcc hX hXi hXi' hXn hA hB
   go_enter Tryz.func35,Tryz.ntmps35
   go_wp2_with fail
   refine SC.out.mono ?_
   rintro e w1 ⟨rfl,b1⟩
   have g0:=q0.out w1 b1
   have D:=Lib.hid (ST.out w1 b1)
   replace b1:=Lib.hid b1
   clear SC ST
   go_wp2_with fail
   refine D.out.mono ?_
   rintro e w2 ⟨rfl,b2⟩
   have bb:=b1.out.trans (b2.mono b1.out.size)
   have D2:=Lib.hid (FY.out w2 bb)
   replace bb:=Lib.hid bb
   clear D FY b1 b2 g0
   go_wp2_with fail
   refine D2.out.mono ?_
   rintro e w3 ⟨rfl,b3⟩
   have bc:=bb.out.trans (b3.mono bb.out.size)
   have g0:=q0.out w3 bc
   have D3:=Lib.hid (LK.out w3 bc).1
   have pn:=lst_neq gl (X * 9 + k * 3) (X * 9 + k * 3) w3
   rw [decide_eq_true rfl] at pn
   replace bc:=Lib.hid bc
   clear D2 bb b3
   go_wp2_with fail
   refine D3.out.mono ?_
   rintro e w4 ⟨rfl,b4⟩
   have bd:=bc.out.trans (b4.mono bc.out.size)
   have g0:=q0.out w4 bd
   have D4:=Lib.hid (LK.out w4 bd).2
   replace bd:=Lib.hid bd
   clear D3 LK bc b4
   go_wp2_with fail
   refine D4.out.mono ?_
   rintro e w5 ⟨rfl,b5⟩
   have be:=bd.out.trans (b5.mono bd.out.size)
   have D5:=Lib.hid (DC.out w5 be)
   replace be:=Lib.hid be
   clear D4 DC bd b5 g0 q0
   go_wp2_with fail
   refine D5.out.mono ?_
   rintro e w6 ⟨rfl,o6,bs6,Z6,E6,dz6, -,Q6⟩
   have D6:=Lib.hid (LY.out w6 bs6 Z6 dz6 Q6)
   replace o6:=Lib.hid o6
   replace E6:=Lib.hid E6
   replace dz6:=Lib.hid dz6
   clear D5 LY Q6
   go_wp2_with fail
   refine D6.out.mono ?_
   rintro e w7 ⟨rfl,o7,bs7,Z7,E7,dz7, -,Q7⟩
   obtain ⟨o8,E8,dz8⟩:=did_trans o6.out o7 E6.out dz6.out E7 dz7
   have T:=Lib.hid (show Did w w7 L c s bs Z gq gl (0,updL Ls X k (l1 ++ H :: l2)) from ⟨two_trans (below_two be.out) o8,bs7,Z7,E8,dz8,fun h => absurd rfl h,Q7⟩)
   clear D6 o6 E6 dz6 o7 E7 dz7 Q7 o8 E8 dz8 be
   go_wp2
   go_ret
   exact ⟨rfl,T.out⟩
  ·have er:swapN c s Z Ls old H = (1,Ls):=by
    unfold swapN
    rw [if_neg (by rw [hi2]; simp [h0]),if_neg (by omega),if_pos hcc]
   rw [er]
   have hab:¬ (clsN c s H * 9 + k * 3 = clsN c s old * 9 + k * 3):=fun e => hcc (by omega)
   generalize clsN c s H * 9 + k * 3 = a at *
   generalize clsN c s old * 9 + k * 3 = b at *
   replace SC:=Lib.hid SC
   replace ST:=Lib.hid ST
   replace FY:=Lib.hid FY
   replace q0:=Lib.hid q0
   clear h0 q S hf hz hx hm hl he hnd n1 QB hR hR2 hi hs hi2 hi3 hf' hz' hnH er ec ec' e hcc
   go_enter Tryz.func35,Tryz.ntmps35
   go_wp2_with fail
   refine SC.out.mono ?_
   rintro e w1 ⟨rfl,b1⟩
   have g0:=q0.out w1 b1
   have D:=Lib.hid (ST.out w1 b1)
   replace b1:=Lib.hid b1
   clear SC ST
   go_wp2_with fail
   refine D.out.mono ?_
   rintro e w2 ⟨rfl,b2⟩
   have bb:=b1.out.trans (b2.mono b1.out.size)
   have D2:=Lib.hid (FY.out w2 bb)
   replace bb:=Lib.hid bb
   clear D FY b1 b2 g0
   go_wp2_with fail
   refine D2.out.mono ?_
   rintro e w3 ⟨rfl,b3⟩
   have T:=Lib.hid (hw.out.same (R:=1) (bb.out.trans (b3.mono bb.out.size)))
   have pn:=lst_neq gl a b w3
   rw [decide_eq_false hab] at pn
   replace hab:=Lib.hid hab
   clear D2 bb b3
   go_wp2
   go_ret
   exact ⟨rfl,T.out⟩
 ·obtain ⟨R,hRR⟩:∃ R,R = (pushN c s Z Ls H ((k:Int) + 1) false).1:=⟨_,rfl⟩
  have er:swapN c s Z Ls old H = (R,Ls):=by
   rw [hRR]
   unfold pushN at hR ⊢
   rw [if_neg (by omega)] at hR ⊢
   unfold swapN
   by_cases hi:isN c s Z H = false
   ·rw [if_pos hi,if_pos (.inr hi)]
   ·rw [if_neg hi] at hR ⊢
    rw [if_neg (by simp [h0,hi])]
    by_cases hs:stK (clsN c s H) Ls H ≠ 0
    ·rw [if_pos hs,if_pos hs]
    ·rw [if_neg hs] at hR
     exact absurd rfl hR
  rw [er]
  have FN:=fun w1 (b:Below w.heap.size w w1) => qFreeC (QB w1 b) H hH ((k:Int) + 1) false R hRR.symm (by rw [hRR]; exact hR)
  obtain ⟨r1,r2⟩:((R:Int) == 0) = false /\ decide ((R:Int) = 0) = false:=by
   have:R ≠ 0:=by rw [hRR]; exact hR
   exact ⟨by rw [beq_eq_false_iff_ne]; omega,decide_eq_false (by omega)⟩
  have r3:¬ (R = 0):=by rw [hRR]; exact hR
  generalize clsN c s old * 9 + k * 3 = b at *
  replace SC:=Lib.hid SC
  replace ST:=Lib.hid ST
  replace FN:=Lib.hid FN
  replace q0:=Lib.hid q0
  replace hRR:=Lib.hid hRR
  clear h0 q S hf hz hx hm hl he hnd n1 QB hR er ec e
  go_enter Tryz.func35,Tryz.ntmps35
  go_wp2_with fail
  refine SC.out.mono ?_
  rintro e w1 ⟨rfl,b1⟩
  have g0:=q0.out w1 b1
  have D:=Lib.hid (ST.out w1 b1)
  replace b1:=Lib.hid b1
  clear SC ST
  go_wp2_with fail
  refine D.out.mono ?_
  rintro e w2 ⟨rfl,b2⟩
  have bb:=b1.out.trans (b2.mono b1.out.size)
  have D2:=Lib.hid (FN.out w2 bb)
  replace bb:=Lib.hid bb
  clear D FN b1 b2 g0
  go_wp2_with fail
  refine D2.out.mono ?_
  rintro e w3 ⟨rfl,b3⟩
  have T:=Lib.hid (hw.out.same (R:=R) (bb.out.trans (b3.mono bb.out.size)))
  clear D2 bb b3
  go_wp2
  go_ret
  exact ⟨rfl,T.out⟩
end
theorem own_put {w:World} {N n g cp k:Nat} {e:TypeId} {xs:List Value} (h:w.ownsRow N e 1 (.slice (some ⟨g,0,none⟩) n cp) n xs) (u:Value) (hk:k < n):(w.setCell ⟨g,k,none⟩ u).ownsRow N e 1 (.slice (some ⟨g,0,none⟩) n cp) n (xs.set k u):=by
 refine ⟨by rw [List.length_set]; exact h.1,?_⟩
 rcases h.2 with ⟨e0,h0⟩ | ⟨g',cap,cur,hv,hB,hg,h1,h2,h3,h4⟩
 ·cases e0
 ·injection hv with hv1 hv2 hv3
  injection hv1 with hv1
  injection hv1 with hv1
  subst hv1 hv3
  refine .inr ⟨g,cp,cur.setIfInBounds k u,rfl,hB,?_,h1,h2,by simpa using h3,?_⟩
  ·simp [World.setCell,Array.getElem?_modify,hg]
  ·rw [Array.toList_setIfInBounds,List.take_set,h4]
section
variable {w:World} {R:R6} {M:RL} {c:Conf} {s:St} {Z:Nat -> Option Zd} {Ls:Nat -> Nat -> List Nat} {r:RS} {laid:List Nat} (h:D6 w R M c s Z Ls r laid)
include h
end
section
variable {N:Nat} {w:World} {W:W6} {s:St} {bs:List UInt8} {Z:Nat -> Option Zd} {Ls:Nat -> Nat -> List Nat} {r:RS} {laid told:List Nat} {t:Nat} (h:WI N w W s bs Z Ls r laid told t) (ht:t <= 60000)
include h ht
end
section
variable {N:Nat} {w:World} {W:W6} {s:St} {bs:List UInt8} {Z:Nat -> Option Zd} {Ls:Nat -> Nat -> List Nat} {r:RS} {laid told:List Nat} {t:Nat} (h:WI N w W s bs Z Ls r laid told t) (ht:t <= 60000)
include h ht
end
section
variable {N N0:Nat} {w0 w:World} {W0:W6} {s0:St} {W:W6} {s:St} {bs:List UInt8} {Z:Nat -> Option Zd} {Ls Ld:Nat -> Nat -> List Nat} {r:RS} {laid told:List Nat} {o:Op6} (h:Took6 N N0 w0 w W0 s0 W s bs Z Ls Ld r laid told o)
include h
end
section
variable {d:Cf} (ok:d.Ok) {s:St} (g:Cls.Good d s) {H i x p:Nat} (hf:findN d s H = some (i,x,p))
include ok g hf
end
section
variable {c:Conf} (ok:c.cf.Ok) {s:St} (g:Cls.Good c.cf s) {H i x p:Nat} (hf:findN c.cf s H = some (i,x,p)) {Z:Nat -> Option Zd} {F:QN} {Ls:Nat -> Nat -> List Nat} (q:QI c s Z F Ls) (hn:∀ x k,x < c.nc -> k < 3 -> H ∉ Ls x k)
include ok g hf q hn
end
section
variable {N:Nat} {w:World} {W:W6} {c:Conf} {s:St} {bs:List UInt8} {Z:Nat -> Option Zd} {Ls Ld:Nat -> Nat -> List Nat} {r:RS} {laid told:List Nat} (h:WAt N w W c s bs Z Ls Ld r laid told)
include h
end
section
variable {w:World} {R:R6} {M:RL} {c:Conf} {s:St} {Z:Nat -> Option Zd} {Ls:Nat -> Nat -> List Nat} {r:RS} {laid:List Nat} (h:D6 w R M c s Z Ls r laid) (H:Nat) (hH:H < 18446744073709551616)
include h hH
end
section
variable {N:Nat} {w:World} {W:W6} {s:St} {bs:List UInt8} {Z:Nat -> Option Zd} {Ls:Nat -> Nat -> List Nat} {r:RS} {laid told:List Nat} {t:Nat} (h:WI N w W s bs Z Ls r laid told t) (ht:t <= 60000) {H:Nat} (hH:H < 18446744073709551616)
include h ht hH
end
section
variable {N:Nat} {w:World} {W:W6} {s:St} {bs:List UInt8} {Z:Nat -> Option Zd} {Ls:Nat -> Nat -> List Nat} {r:RS} {laid told:List Nat} {t:Nat} (h:WI N w W s bs Z Ls r laid told t) (ht:t <= 60000) (o:Op6) (ok:o.Ok)
include h ht ok
end
section
variable {N:Nat} {w:World} {W:W6} {s:St} {bs:List UInt8} {Z:Nat -> Option Zd} {Ls:Nat -> Nat -> List Nat} {r:RS} {laid told:List Nat} {t:Nat} (h:WI N w W s bs Z Ls r laid told t) (ht:t <= 60000) (o:Op6) (ok:o.Ok)
include h ht ok
end
end Go.Proofs.YtfjiphibalhcgaaGreat.Que
/-
  The queue's iterators: along.
-/
namespace Go.Proofs.YtfjiphibalhcgaaGreat.Que
open Go.RowKit Base Arena Cls Itm Go.Shelf
attribute [local go_sem] Oper.semAt_some
abbrev HU:={ H:Nat // H < 18446744073709551616 }
def hu (x:HU):Array Value:=#[.int .u64 (x.1:Int)]
theorem QI.next_in {c:Conf} {s:St} {Z:Nat -> Option Zd} {F:QN} {Ls:Nat -> Nat -> List Nat} (q:QI c s Z F Ls) (ok:c.cf.Ok) (g:Cls.Good c.cf s) {x k H:Nat} (hx:x < c.nc) (hk:k < 3) {l1 l2:List Nat} (hl:Ls x k = l1 ++ H :: l2) :
  nextN c s Ls H = l2.head?.getD 0 /\ (decide (nextN c s Ls H ≠ 0)) = decide (0 < l2.length) /\ H < 18446744073709551616:=by
 have hm:H ∈ Ls x k:=by rw [hl]; simp
 obtain ⟨i,y,p,hf,hc⟩:=q.it x k H hx hk hm
 have ec:clsN c s H = x:=by unfold clsN; rw [hf]; exact hc
 have h0:stK (clsN c s H) Ls H ≠ 0:=fun e => stK_zero e k hk (by rw [ec]; exact hm)
 obtain ⟨k',i',y',p',hk',e,hf',ec',hx',hm'⟩:=q.of_stK ok g h0
 rw [<- ec',ec] at hm'
 obtain ⟨-,rfl⟩:=q.dj x k' x k H hx hk' hx hk hm' hm
 have hnd:=q.nd x k' hx hk
 rw [hl] at hnd
 have n1:H ∉ l1:=fun e => (List.nodup_append.1 hnd).2.2 H e H (List.mem_cons_self ..) rfl
 have en:nextN c s Ls H = l2.head?.getD 0:=by
  unfold nextN
  rw [if_neg h0,e,ec,Nat.add_sub_cancel,hl,behind_split n1]
 refine ⟨en,?_,good_lt ok g hf⟩
 rw [en]
 cases l2 with
 | nil => rfl
 | cons a t =>
  have ha:a ≠ 0:=q.ne0 hx hk (show a ∈ Ls x k' by rw [hl]; simp)
  show decide (a ≠ 0) = decide (0 < (a :: t).length)
  rw [decide_eq_true ha,decide_eq_true (by simp)]
theorem grown_of_below {w w':World} (h:Below w.heap.size w w'):w.grownBy w' none:=⟨h.os,h.tape,h.output,h.size,fun k hk _ => h.block k hk⟩
theorem QW.below {w w':World} {L:Lay} {c:Conf} {s:St} {bs:List UInt8} {Z:Nat -> Option Zd} {gq gl:Nat} {Ls:Nat -> Nat -> List Nat} (h:QW w L c s bs Z gq gl Ls) (b:Below w.heap.size w w'):QW w' L c s bs Z gq gl Ls:=by
 obtain ⟨F,S,q⟩:=h
 exact ⟨F,S.below b,q⟩
theorem alongC (w:World) (gq:Nat) (x kind:Int):Calls Tryz.prog 53 #[.pointer (some ⟨gq,0,none⟩),.int .i64 x,.int .i64 kind] w fun e w' =>
  e = .returned (.func (.func 95) #[] #[.pointer (some ⟨w.heap.size,0,none⟩),.pointer (some ⟨w.heap.size + 1,0,none⟩),.pointer (some ⟨w.heap.size + 2,0,none⟩)]) /\
  w' = ((w.alloc (.cells #[.pointer (some ⟨gq,0,none⟩)] 29)).alloc (.cells #[.int .i64 x] 3)).alloc (.cells #[.int .i64 kind] 3):=by
 go_enter Tryz.func53,Tryz.ntmps53
 go_wp2
 go_ret
 exact ⟨rfl,rfl⟩
theorem allC0 (w:World) (gq:Nat) (x kind:Int):Calls Tryz.prog 17 #[.pointer (some ⟨gq,0,none⟩),.int .i64 x,.int .i64 kind] w fun e w' =>
  e = .returned (.func (.func 52) #[] #[.pointer (some ⟨w.heap.size,0,none⟩),.pointer (some ⟨w.heap.size + 1,0,none⟩),.pointer (some ⟨w.heap.size + 2,0,none⟩)]) /\
  w' = ((w.alloc (.cells #[.pointer (some ⟨gq,0,none⟩)] 29)).alloc (.cells #[.int .i64 x] 3)).alloc (.cells #[.int .i64 kind] 3):=by
 go_enter Tryz.func17,Tryz.ntmps17
 go_wp2
 go_ret
 exact ⟨rfl,rfl⟩
end Go.Proofs.YtfjiphibalhcgaaGreat.Que
/-
  The queue's iterators: along's closure.
-/
namespace Go.Proofs.YtfjiphibalhcgaaGreat.Que
open Go.RowKit Base Arena Cls Itm Go.Shelf
attribute [local go_sem] Oper.semAt_some
set_option maxHeartbeats 2000000 in
theorem along1_in {w:World} {L:Lay} {c:Conf} {s:St} {bs:List UInt8} {Z:Nat -> Option Zd} {gq gl:Nat} {Ls:Nat -> Nat -> List Nat} (h:QW w L c s bs Z gq gl Ls) (x kind:Int) (n:Nat) (hn : 2 <= n) (l Bq Bc Bk:Nat)
  (S:Nat -> Prop) (hS:∀ b,b < w.heap.size -> ¬ S b) (hB:¬ S Bq /\ ¬ S Bc /\ ¬ S Bk) (J Jx:List HU -> World -> Prop) (W:World) (hw:Below w.heap.size w W) (hJ:AbidesFrom W.heap.size J)
  (hY:∀ pre (y:HU) W1,J pre W1 -> pre.length < (lsN c Ls x kind).length -> YieldAt Fence.wide (n - 1) Tryz.prog l #[.int .u64 (y.1:Int)] W1 fun e W' =>
   (e = .returned (.bool true) /\ J (pre ++ [y]) W' /\ Only S W1 W') \/ (e = .returned (.bool false) /\ Jx (pre ++ [y]) W'))
  (cq:W.cell? ⟨Bq,0,none⟩ = some (.pointer (some ⟨gq,0,none⟩))) (cc:W.cell? ⟨Bc,0,none⟩ = some (.int .i64 x)) (ck:W.cell? ⟨Bk,0,none⟩ = some (.int .i64 kind)) (h0:J [] W) :
  CallsIn Fence.wide n Tryz.prog 95 #[.func (.yield l) #[] #[],.pointer (some ⟨Bq,0,none⟩),.pointer (some ⟨Bc,0,none⟩),.pointer (some ⟨Bk,0,none⟩)] W fun e W' => (∃ v,e = .returned v) /\
   ((∃ ys:List HU,ys.map (·.1) = lsN c Ls x kind /\ J ys W') \/ (∃ pre:List HU,pre.map (·.1) <+: lsN c Ls x kind /\ Jx pre W')):=by
 have QS:∀ wr,Only S W wr -> QW wr L c s bs Z gq gl Ls:=fun wr o => h.below (hw.trans (o.toBelow fun k hk => ⟨by have:=hw.size; omega,hS k hk⟩))
 have cells:∀ wr,Only S W wr -> wr.cell? ⟨Bq,0,none⟩ = some (.pointer (some ⟨gq,0,none⟩)) /\ wr.cell? ⟨Bc,0,none⟩ = some (.int .i64 x) /\ wr.cell? ⟨Bk,0,none⟩ = some (.int .i64 kind):=fun wr o =>
  ⟨(World.cell?_of_block (a:=⟨Bq,0,none⟩) (o.block Bq (World.block_lt_of_cell? W _ cq) hB.1)).trans cq,(World.cell?_of_block (a:=⟨Bc,0,none⟩) (o.block Bc (World.block_lt_of_cell? W _ cc) hB.2.1)).trans cc,(World.cell?_of_block (a:=⟨Bk,0,none⟩) (o.block Bk (World.block_lt_of_cell? W _ ck) hB.2.2)).trans ck⟩
 have HC:=headC (QS W (Only.refl _ _)) x kind
 have LC:=lenC (QS W (Only.refl _ _)) x kind
 have small:(lsN c Ls x kind).length <= 134217729:=by
  unfold lsN
  split
  ·rename_i hv
   obtain ⟨F,S1,q⟩:=h
   rw [<- q.n _ _ (by omega) (by omega)]
   exact q.nB S1.okc S1.zs.good (by omega) (by omega)
  ·simp
 have BC:∀ wr,Only S W wr -> ∀ (l1:List Nat) (y:Nat) (l2:List Nat),lsN c Ls x kind = l1 ++ y :: l2 -> y < 18446744073709551616 /\ Calls Tryz.prog 61 #[.pointer (some ⟨gq,0,none⟩),.int .u64 (y:Int)] wr fun e w' => e = .returned (.tuple #[.int .u64 (l2.head?.getD 0:Int),.bool (decide (0 < l2.length))]) /\ Below wr.heap.size wr w':=by
  intro wr o l1 y l2 hl
  have Q:=QS wr o
  have Q':=Q
  obtain ⟨F,S1,q⟩:=Q'
  unfold lsN at hl
  split at hl
  ·rename_i hv
   obtain ⟨e1,e2,e3⟩:=q.next_in S1.okc S1.zs.good (by omega) (by omega) hl
   have:=behindC Q y e3
   rw [e2,e1] at this
   exact ⟨e3,this⟩
  ·simp at hl
 generalize lsN c Ls x kind = LS at *
 obtain ⟨cq0,cc0,ck0⟩:=cells W (Only.refl _ _)
 replace h:=Lib.hid h
 replace QS:=Lib.hid QS
 replace cells:=Lib.hid cells
 replace HC:=Lib.hid HC
 replace LC:=Lib.hid LC
 replace BC:=Lib.hid BC
 replace hY:=Lib.hid hY
 replace hJ:=Lib.hid hJ
 replace h0:=Lib.hid h0
 clear hS hB hw cq cc ck
 refine callsIn_of_wp Tryz.func95 rfl trivial ?_ rfl
 simp only [Tryz.ntmps95,List.size_toArray,List.length_cons,List.length_nil,Nat.reduceAdd,Nat.reduceSub,Array.replicate_succ,Array.replicate_zero,List.push_toArray,List.append_toArray,List.nil_append,List.cons_append]
 gi_wp2_with (first | (refine ⟨trivial,fun _ => by omega,?_⟩; gi_at_call 51; refine (callsIn_wide.2 HC.out).mono ?_; rintro e w' ⟨rfl,rfl⟩) | (refine ⟨trivial,fun _ => by omega,?_⟩; gi_at_call 29; refine (callsIn_wide.2 LC.out).mono ?_; rintro e w' ⟨rfl,rfl⟩) | fail)
 gi_loopw [5,6,7] (fun th tk tn wr => ∃ (pre:List HU) (rest:List Nat),th = .int .u64 (rest.head?.getD 0:Int) /\ tk = .bool (decide (0 < rest.length)) /\ tn = .int .i64 (rest.length:Int) /\ Hid (LS = pre.map (·.1) ++ rest) /\ Hid (J pre wr) /\ Hid (Only S W wr)) (fun _ _ tn _ => (intOf tn).toNat)
 case atStart => exact ⟨[],LS,rfl,rfl,rfl,Lib.hid rfl,h0,Lib.hid (Only.refl _ _)⟩
 case round =>
  obtain ⟨pre,rest,rfl,rfl,rfl,hx,hJs,ho⟩:=hrel
  obtain ⟨cq1,cc1,ck1⟩:=cells.out wr ho.out
  cases rest with
  | nil =>
   have e1:(([]:List Nat).head?.getD 0) = 0:=rfl
   have e2:decide (0 < ([]:List Nat).length) = false:=rfl
   rw [e1,e2]
   gi_wp2
   refine ⟨fun _ h => (by cases h),?_⟩
   gi_wp2
   go_end0
   exact ⟨⟨_,rfl⟩,.inl ⟨pre,by rw [hx.out,List.append_nil],hJs.out⟩⟩
  | cons y rest =>
   obtain ⟨hy64, -⟩:=BC.out wr ho.out _ _ _ hx.out
   obtain ⟨fn,tmps,assign,body,hy,hR⟩:=hY.out pre ⟨y,hy64⟩ wr hJs.out (by rw [hx.out,List.length_append,List.length_map,List.length_cons]; omega)
   dsimp only at hy
   have e1:((y :: rest).head?.getD 0) = y:=rfl
   have e2:decide (0 < (y :: rest).length) = true:=by simp
   obtain ⟨m,hm⟩:∃ m,m = (y :: rest).length:=⟨_,rfl⟩
   have hm1:m = rest.length + 1:=by rw [hm]; rfl
   rw [e1,e2, <- hm]
   have d1:decide ((0:Int) < (m:Int)) = true:=decide_eq_true (by omega)
   have d2:(0:Int) < (m:Int):=by omega
   have q1:IntKind.i64.wrap ((m:Int) - 1) = (rest.length:Int):=by
    have hl:LS.length = pre.length + m:=by rw [hx.out,List.length_append,List.length_map, <- hm]
    rw [IntWalk.i64_in _ (by omega)]; omega
   replace hm:=Lib.hid hm
   replace hm1:=Lib.hid hm1
   clear e1 e2
   gi_wp2
   refine ⟨fun _ => by omega,?_⟩
   refine hR.mono ?_
   rintro e W3 (⟨rfl,hJ3,hk3⟩ | ⟨rfl,hJx3⟩)
   ·have o3:=ho.out.trans hk3 fun _ _ h => h
    obtain ⟨cq3,cc3,ck3⟩:=cells.out W3 o3
    have BB:=Lib.hid (BC.out W3 o3 _ _ _ hx.out).2
    replace hJ3:=Lib.hid hJ3
    replace o3:=Lib.hid o3
    clear hk3 hJs ho
    gi_wp2_with (first | (refine ⟨trivial,fun _ => by omega,?_⟩; gi_at_call 61; refine (callsIn_wide.2 BB.out).mono ?_; rintro e w4 ⟨rfl,b4⟩) | fail)
    go_roundw
    case rel => exact ⟨pre ++ [⟨y,hy64⟩],rest,rfl,rfl,rfl,Lib.hid (by rw [hx.out]; simp),Lib.hid (hJ.out _ _ _ none hJ3.out (grown_of_below b4) (fun r e => by cases e)),Lib.hid (o3.out.below b4 o3.out.size)⟩
    case measure => simp [intOf]; have:=hm1.out; omega
   ·gi_wp2
    go_end0
    exact ⟨⟨_,rfl⟩,.inr ⟨pre ++ [⟨y,hy64⟩],⟨rest,by rw [hx.out]; simp⟩,hJx3⟩⟩
end Go.Proofs.YtfjiphibalhcgaaGreat.Que
/-
  A range over a function whose iterator holds a range of its own: what a round keeps is told of all blocks but loops' records and rows of uint64. Nothing here names a function of the program.
-/
namespace Go.Proofs.YtfjiphibalhcgaaGreat.Que
open Go.RowKit Base Arena Cls Itm Go.Shelf
def prot:Obj -> Bool
 | .loop _ => false
 | .cells _ t _ => decide (t ≠ 26)
 | _ => true
structure KeepP (D:Nat) (A B:World):Prop where
 size:A.heap.size <= B.heap.size
 same:∀ (b:Nat) (o:Obj),D <= b -> A.heap[b]? = some o -> prot o = true -> B.heap[b]? = some o
theorem KeepP.refl (D:Nat) (A:World):KeepP D A A:=⟨Nat.le_refl _,fun _ _ _ h _ => h⟩
theorem KeepP.trans {D:Nat} {A B C:World} (h:KeepP D A B) (k:KeepP D B C):KeepP D A C:=⟨Nat.le_trans h.size k.size,fun b o hb ho hp => k.same b o hb (h.same b o hb ho hp) hp⟩
theorem KeepP.below {D:Nat} {A B:World} (h:Below A.heap.size A B):KeepP D A B:=⟨h.size,fun b o _ ho _ => (h.block b (heap_lt ho)).trans ho⟩
theorem KeepP.only {D:Nat} {S:Nat -> Prop} {A B:World} (h:Only S A B) (hs:∀ b o,D <= b -> A.heap[b]? = some o -> prot o = true -> ¬ S b):KeepP D A B:=⟨h.size,fun b o hb ho hp => (h.block b (heap_lt ho) (hs b o hb ho hp)).trans ho⟩
theorem KeepP.putLoop {D:Nat} (A:World) (l:Nat) {r:Loop} (o':Obj) (h:A.heap[l]? = some (.loop r)):KeepP D A (A.putObj l o') :=
 ⟨(grownBy_putObj' A l o').size,fun b o _ ho hp => (World.putObj_heap_other (fun e => by subst e; rw [h] at ho; cases ho; cases hp)).trans ho⟩
def roundEnd {α:Type} (D l:Nat) (I:List α -> World -> Prop) (Ix:Code -> List α -> World -> Prop) (xs:List α) (W:World):Exit -> Act -> World -> Prop
 | .normal,_,W' => KeepP D W W' /\ W'.heap[l]? = W.heap[l]? /\ I xs W'
 | .ret,_,W' => KeepP D W W' /\ W'.heap[l]? = W.heap[l]? /\ Ix .ret xs W'
 | .exit id,_,W' => KeepP D W W' /\ W'.heap[l]? = W.heap[l]? /\ Ix (.exit id) xs W'
 | .goto t,_,W' => KeepP D W W' /\ W'.heap[l]? = W.heap[l]? /\ Ix (.goto t) xs W'
 | .panic _,_,_ => False
 | .outgrown,_,_ => False
def SeqP {α:Type} (n:Nat) (P:Program) (g:Nat) (lb:Array Value) (encs : α -> Array Value) (Kp:World -> World -> Prop) (S Sp:List α -> Prop) (N:Nat) (w:World):Prop :=
 ∀ (l:Nat) (J Jx:List α -> World -> Prop) (W:World),Below w.heap.size w W -> OwnFrom W.heap.size J -> OwnFrom W.heap.size Jx ->
  (∀ pre x W1,J pre W1 -> pre.length < N -> YieldAt Fence.wide (n - 1) P l (encs x) W1 fun e W' =>
   (e = .returned (.bool true) /\ J (pre ++ [x]) W' /\ Kp W1 W') \/ (e = .returned (.bool false) /\ Jx (pre ++ [x]) W' /\ Kp W1 W')) ->
  J [] W ->
  CallsIn Fence.wide n P g (#[.func (.yield l) #[] #[]] ++ lb) W fun e W' => (∃ v,e = .returned v) /\ ((∃ xs,S xs /\ J xs W') \/ (∃ pre,Sp pre /\ Jx pre W'))
section
variable {P:Program} {n:Nat} {w:World}
theorem range_law {α:Type} {g:Operand} {ps:Array Tmp} {assign body:Code} {Q:Exit -> Act -> World -> Prop} {a:Act} (h1 : 1 <= n) {gf:Nat} {lb:Array Value} (hg:a.eval g = .func (.func gf) #[] lb)
  (eg:∀ args w,(callFunc gf args).run P w = .ok (.enter gf args) w) {encs : α -> Array Value} {S Sp:List α -> Prop} {N:Nat} (hseq:SeqP (n - 1) P gf lb encs (KeepP w.heap.size) S Sp N w) (hps:∀ x,(encs x).size = ps.size)
  (I:List α -> World -> Prop) (Ix:Code -> List α -> World -> Prop) (hI:OwnFrom w.heap.size I) (hIx:∀ c,OwnFrom w.heap.size (Ix c)) (h0:I [] w) (a₁ : α -> Act)
  (hassign:∀ (l:Nat) (x : α) (W:World) (K:Act -> World -> Prop),K (a₁ x) W ->
   assign.wpIn (Fence.wide.inRound l) (n - 1 - 1) P (Exit.then K (fun _ _ _ => False)) { tmps:=(ps.zip (encs x)).foldl (fun t (p,v) => t.setIfInBounds p v) a.tmps,defers:=[] } W)
  (hbody:∀ (l:Nat) (pre:List α) (x : α) (W:World),w.heap.size < l -> l < W.heap.size -> (∃ r,W.heap[l]? = some (.loop r)) -> I pre W -> pre.length < N -> body.wpIn (Fence.wide.inRound l) (n - 1 - 1) P (roundEnd w.heap.size l I Ix (pre ++ [x]) W) (a₁ x) W)
  (hdone:∀ (D:Nat) (xs:List α) (W:World),w.heap.size <= D -> S xs -> I xs W -> W.heap[D]? = some (.deferred (some [])) -> Q .normal { a with defers:={ target:=.collected D,args:=#[] } :: a.defers } W)
  (hstop:∀ (D:Nat) (c:Code) (pre:List α) (W:World),w.heap.size <= D -> Sp pre -> Ix c pre W -> W.heap[D]? = some (.deferred (some [])) -> c.wpIn Fence.wide n P Q { a with defers:={ target:=.collected D,args:=#[] } :: a.defers } W) :
  (Code.rangeFunc g ps assign body).wpIn Fence.wide n P Q a w:=by
 refine wpIn_rangeFunc ?_
 intro fn hfn
 rw [show Fence.wide.round = none from rfl]
 obtain ⟨M,hM⟩:∃ M,M = w.heap.size:=⟨_,rfl⟩
 obtain ⟨rec,hrec⟩:∃ rec:LoopState -> Option Code -> Loop,rec = fun st pe => { state:=st,pending:=pe,fn,tmps:=a.tmps,params:=ps,assign,body,defers:=M }:=⟨_,rfl⟩
 obtain ⟨W1,hW1⟩:∃ W1,W1 = (w.alloc (.deferred (some []))).alloc (.loop (rec .ready none)):=⟨_,rfl⟩
 have z1:W1.heap.size = M + 2:=by rw [hW1,hM,World.size_alloc,World.size_alloc]
 have hD1:W1.heap[M]? = some (.deferred (some [])):=by rw [hW1,hM]; exact (Below.heap_alloc _ _ _ (by simp)).trans (World.alloc_heap_new w _)
 have hL1:W1.heap[M + 1]? = some (.loop (rec .ready none)):=by
  have:=World.alloc_heap_new (w.alloc (.deferred (some []))) (.loop (rec .ready none))
  rw [World.size_alloc] at this
  rw [hW1,hM]; exact this
 have b1:Below w.heap.size w W1:=by rw [hW1]; exact ((Below.refl _ w).alloc (Nat.le_refl _) _).alloc (by simp) _
 have i1:I [] W1:=by rw [hW1]; exact hI.alloc _ (hI.alloc _ h0)
 rw [<- hM] at hI hIx hseq hbody hdone hstop b1
 refine ⟨M + 1,[{ target:=.collected M,args:=#[] }],W1, { target:=.fn (.func gf) lb,args:=#[.func (.yield (M + 1)) #[] #[]] },W1,gf,#[.func (.yield (M + 1)) #[] #[]] ++ lb,W1,?_,?_,?_,?_,fun _ => h1,?_⟩
 ·rw [hW1,hrec,hM]
  exact run_enterLoop_outer _ _ _ _ _
 ·simp only [resolve,hg]
  simp [go_sem]
 ·intro f' hf'
  trivial
 ·simp [invoke,go_sem,eg]
 obtain ⟨Kn,hKn⟩:∃ Kn:LoopState -> Option Code -> World -> Prop,Kn = fun st pe W => W.heap[M + 1]? = some (.loop (rec st pe)) /\ W.heap[M]? = some (.deferred (some [])):=⟨_,rfl⟩
 have kK:∀ {st pe} {A B:World} {row:Option Nat},Kn st pe A -> A.grownBy B row -> (∀ r,row = some r -> W1.heap.size <= r /\ ∃ o:Obj,A.heap[r]? = some o /\ o.isCells = false) -> Kn st pe B:=by
  intro st pe A B row h hg' hr
  rw [hKn] at h ⊢
  have ne:∀ k,k < M + 2 -> some k ≠ row:=fun k hk e => by have:=(hr k e.symm).1; omega
  exact ⟨(hg'.block _ (heap_lt h.1) (ne _ (by omega))).trans h.1,(hg'.block _ (heap_lt h.2) (ne _ (by omega))).trans h.2⟩
 have rw_:∀ {A:World} {row:Option Nat},(∀ r,row = some r -> W1.heap.size <= r /\ ∃ o:Obj,A.heap[r]? = some o /\ o.isCells = false) -> ∀ r,row = some r -> M <= r /\ ∃ o:Obj,A.heap[r]? = some o /\ o.isCells = false:=by
  intro A row hr r e
  obtain ⟨hB,o,ho,hw⟩:=hr r e
  exact ⟨by omega,o,ho,hw⟩
 have turn:∀ {st pe st' pe'} {A:World},Kn st pe A -> Kn st' pe' (A.putObj (M + 1) (.loop (rec st' pe'))):=by
  intro st pe st' pe' A h
  rw [hKn] at h ⊢
  exact ⟨World.putObj_heap_same (heap_lt h.1),(World.putObj_heap_other (by omega)).trans h.2⟩
 refine (hseq (M + 1) (fun pre W => I pre W /\ Kn .ready none W) (fun pre W => ∃ c,Ix c pre W /\ Kn .done (some c) W) W1 (by rw [<- hM]; exact b1)
  (fun s A B row hs hg' hr => ⟨hI s A B row hs.1 hg' (rw_ (A:=A) hr),kK hs.2 hg' hr⟩)
  (fun s A B row hs hg' hr => by
   obtain ⟨c,hc,hk⟩:=hs
   exact ⟨c,hIx c s A B row hc hg' (rw_ (A:=A) hr),kK hk hg' hr⟩) ?_ ⟨i1,by rw [hKn]; exact ⟨hL1,hD1⟩⟩).mono ?_
 ·rintro pre x W ⟨hi,hk⟩ hlen
  have hl:W.heap[M + 1]? = some (.loop (rec .ready none)):=by rw [hKn] at hk; exact hk.1
  have hy:=run_yield (P:=P) (args:=encs x) hl (by rw [hrec]; exact hps x)
  rw [hrec] at hy
  have hk2:Kn .busy none (W.putObj (M + 1) (.loop (rec .busy none))):=turn hk
  have hl2:(W.putObj (M + 1) (.loop (rec .busy none))).heap[M + 1]? = some (.loop (rec .busy none)):=by rw [hKn] at hk2; exact hk2.1
  refine ⟨fn,_,assign,body,hy,roundIn_of_wpIn hfn (hassign _ x W _ ⟨W.putObj (M + 1) (.loop (rec .busy none)),?_,?_⟩)⟩
  ·have:=run_beginRound (P:=P) hl (by rw [hrec])
   rw [hrec] at this ⊢
   exact this
  refine wpIn_mono (hbody (M + 1) pre x _ (by omega) (heap_lt hl2) ⟨_,hl2⟩ (hI.putObj _ hi (by omega) hl rfl) hlen) ?_
  have fin:∀ (jump:Option Code) (W3:World),KeepP M (W.putObj (M + 1) (.loop (rec .busy none))) W3 -> W3.heap[M + 1]? = (W.putObj (M + 1) (.loop (rec .busy none))).heap[M + 1]? ->
    (Instr.endRound (M + 1) jump).run P W3 = .ok (.bool jump.isNone) (W3.putObj (M + 1) (.loop (rec (if jump.isNone then .ready else .done) jump))) /\ W3.heap[M + 1]? = some (.loop (rec .busy none)) /\ Kn (if jump.isNone then .ready else .done) jump (W3.putObj (M + 1) (.loop (rec (if jump.isNone then .ready else .done) jump))):=by
   intro jump W3 kp hl3
   have hl3:=hl3.trans hl2
   have hd3:W3.heap[M]? = some (.deferred (some [])):=kp.same M _ (Nat.le_refl _) (by rw [hKn] at hk2; exact hk2.2) rfl
   have hr:=run_endRound (P:=P) jump (w:=W3) (l:=M + 1) (by rw [hrec] at hl3; exact hl3)
   refine ⟨by rw [hrec]; exact hr,hl3,?_⟩
   have:Kn .busy none W3:=by rw [hKn]; exact ⟨hl3,hd3⟩
   exact turn this
  have out:∀ (c:Code) (W3:World),KeepP M (W.putObj (M + 1) (.loop (rec .busy none))) W3 -> W3.heap[M + 1]? = (W.putObj (M + 1) (.loop (rec .busy none))).heap[M + 1]? -> Ix c (pre ++ [x]) W3 ->
    ∃ c' ,Ix c' (pre ++ [x]) (W3.putObj (M + 1) (.loop (rec .done (some c)))) /\ Kn .done (some c') (W3.putObj (M + 1) (.loop (rec .done (some c)))):=by
   intro c W3 kp hl3 hi3
   obtain ⟨-,hl4,hk4⟩:=fin (some c) W3 kp hl3
   exact ⟨c,(hIx c).putObj _ hi3 (by omega) hl4 rfl,hk4⟩
  have kall:∀ (jump:Option Code) (W3:World),KeepP M (W.putObj (M + 1) (.loop (rec .busy none))) W3 -> W3.heap[M + 1]? = some (.loop (rec .busy none)) -> KeepP M W (W3.putObj (M + 1) (.loop (rec (if jump.isNone then .ready else .done) jump))):=fun jump W3 kp hl4 =>
   ((KeepP.putLoop W (M + 1) _ hl).trans kp).trans (KeepP.putLoop W3 (M + 1) _ hl4)
  rintro e a3 W3 hp
  cases e with
  | normal =>
   obtain ⟨kp,hl3,hi3⟩:=hp
   obtain ⟨hr,hl4,hk4⟩:=fin none W3 kp hl3
   exact ⟨_,_,hr,.inl ⟨rfl,⟨hI.putObj _ hi3 (by omega) hl4 rfl,hk4⟩,((KeepP.putLoop W (M + 1) _ hl).trans kp).trans (KeepP.putLoop W3 (M + 1) _ hl4)⟩⟩
  | ret =>
   obtain ⟨kp,hl3,hi3⟩:=hp
   exact ⟨_,_,(fin (some .ret) W3 kp hl3).1,.inr ⟨rfl,out .ret W3 kp hl3 hi3,kall (some .ret) W3 kp (fin (some .ret) W3 kp hl3).2.1⟩⟩
  | exit id =>
   obtain ⟨kp,hl3,hi3⟩:=hp
   exact ⟨_,_,(fin (some (.exit id)) W3 kp hl3).1,.inr ⟨rfl,out (.exit id) W3 kp hl3 hi3,kall (some (.exit id)) W3 kp (fin (some (.exit id)) W3 kp hl3).2.1⟩⟩
  | goto t =>
   obtain ⟨kp,hl3,hi3⟩:=hp
   exact ⟨_,_,(fin (some (.goto t)) W3 kp hl3).1,.inr ⟨rfl,out (.goto t) W3 kp hl3 hi3,kall (some (.goto t)) W3 kp (fin (some (.goto t)) W3 kp hl3).2.1⟩⟩
  | panic ch => exact hp.elim
  | outgrown => exact hp.elim
 ·rintro e W2 ⟨⟨v,rfl⟩,(⟨xs,hS,hi,hk⟩ | ⟨pre,hSp,c,hi,hk⟩)⟩
  ·rw [hKn] at hk
   have hr:=run_endLoop (P:=P) hk.1 (by rw [hrec]; simp)
   rw [hrec] at hr
   exact ⟨none,_,hr,hdone M xs _ (Nat.le_refl _) hS (hI.putObj _ hi (by omega) hk.1 rfl) ((World.putObj_heap_other (by omega)).trans hk.2)⟩
  ·rw [hKn] at hk
   have hr:=run_endLoop (P:=P) hk.1 (by rw [hrec]; simp)
   rw [hrec] at hr
   exact ⟨some c,_,hr,hstop M c pre _ (Nat.le_refl _) hSp ((hIx c).putObj _ hi (by omega) hk.1 rfl) ((World.putObj_heap_other (by omega)).trans hk.2)⟩
end
attribute [local go_sem] Oper.semAt_some
theorem infoH:(Tryz.prog.info? 50).map (fun i => (i.zero,i.size,i.bytes)) = some (some (.int .u64 0),1,8):=by kernel_rfl
theorem own_less {w:World} {N B n:Nat} {e:TypeId} {v:Value} {xs:List Value} (h:w.ownsRow B e 1 v n xs) (hN:N <= B):w.ownsRow N e 1 v n xs :=
 ⟨h.1,h.2.imp id fun ⟨g,cap,cur,e1,hB,hh⟩ => ⟨g,cap,cur,e1,by omega,hh⟩⟩
def hv (x:HU):Value:=.int .u64 (x.1:Int)
set_option maxHeartbeats 2000000 in
theorem all1_in {w:World} {L:Lay} {c:Conf} {s:St} {bs:List UInt8} {Z:Nat -> Option Zd} {gq gl:Nat} {Ls:Nat -> Nat -> List Nat} (h:QW w L c s bs Z gq gl Ls) (x kind:Int) (n:Nat) (hn : 6 <= n) (l Bq Bc Bk D:Nat)
  (J Jx:List HU -> World -> Prop) (W:World) (hw:Below w.heap.size w W) (hD:D <= W.heap.size) (hJ:OwnFrom W.heap.size J) (hJx:OwnFrom W.heap.size Jx)
  (hY:∀ pre (y:HU) W1,J pre W1 -> pre.length < (lsN c Ls x kind).length -> YieldAt Fence.wide (n - 1) Tryz.prog l #[.int .u64 (y.1:Int)] W1 fun e W' =>
   (e = .returned (.bool true) /\ J (pre ++ [y]) W' /\ KeepP D W1 W') \/ (e = .returned (.bool false) /\ Jx (pre ++ [y]) W' /\ KeepP D W1 W'))
  (cq:W.cell? ⟨Bq,0,none⟩ = some (.pointer (some ⟨gq,0,none⟩))) (cc:W.cell? ⟨Bc,0,none⟩ = some (.int .i64 x)) (ck:W.cell? ⟨Bk,0,none⟩ = some (.int .i64 kind)) (h0:J [] W) :
  CallsIn Fence.wide n Tryz.prog 52 #[.func (.yield l) #[] #[],.pointer (some ⟨Bq,0,none⟩),.pointer (some ⟨Bc,0,none⟩),.pointer (some ⟨Bk,0,none⟩)] W fun e W' => (∃ v,e = .returned v) /\
   ((∃ ys:List HU,ys.map (·.1) = lsN c Ls x kind /\ J ys W') \/ (∃ pre:List HU,pre.map (·.1) <+: lsN c Ls x kind /\ Jx pre W')):=by
 obtain ⟨i0,hi,hz0,hz1,hz2⟩:=info_parts infoH
 have h1 : 1 <= n:=by omega
 have AC:=Lib.hid (fun w1 => alongC w1 gq x kind)
 obtain ⟨M,hM⟩:∃ M,M = W.heap.size:=⟨_,rfl⟩
 obtain ⟨W1,hW1⟩:∃ W1,W1 = (((W.alloc (.cells #[.slice none 0 0] 94)).alloc (.cells #[.pointer (some ⟨gq,0,none⟩)] 29)).alloc (.cells #[.int .i64 x] 3)).alloc (.cells #[.int .i64 kind] 3):=⟨_,rfl⟩
 have z1:W1.heap.size = M + 4:=by rw [hW1,hM,World.size_alloc,World.size_alloc,World.size_alloc,World.size_alloc]
 have bT:Boxed W1 M 94 (.slice none 0 0):=by rw [hW1,hM]; exact (((Boxed.new W _ _).alloc _).alloc _).alloc _
 have b1:Below W.heap.size W W1:=by rw [hW1]; exact ((((Below.refl _ W).alloc (Nat.le_refl _) _).alloc (by simp) _).alloc (by simp; omega) _).alloc (by simp; omega) _
 have d1:W1.cell? ⟨M + 1,0,none⟩ = some (.pointer (some ⟨gq,0,none⟩)):=by
  rw [hW1,hM]
  exact (((blk_new' (World.size_alloc _ _)).alloc _).alloc _).cell 0
 have d2:W1.cell? ⟨M + 2,0,none⟩ = some (.int .i64 x):=by
  rw [hW1,hM]
  exact ((blk_new' (by rw [World.size_alloc,World.size_alloc])).alloc _).cell 0
 have d3:W1.cell? ⟨M + 3,0,none⟩ = some (.int .i64 kind):=by
  rw [hW1,hM]
  exact (blk_new' (by rw [World.size_alloc,World.size_alloc,World.size_alloc])).cell 0
 have cq1:=(World.cell?_alloc_lt W (.cells #[.slice none 0 0] 94) _ (World.block_lt_of_cell? W _ cq)).trans cq
 have cc1:=(World.cell?_alloc_lt W (.cells #[.slice none 0 0] 94) _ (World.block_lt_of_cell? W _ cc)).trans cc
 have ck1:=(World.cell?_alloc_lt W (.cells #[.slice none 0 0] 94) _ (World.block_lt_of_cell? W _ ck)).trans ck
 have mA:M <= W.heap.size:=by omega
 have mB:W.heap.size <= M:=by omega
 have zA:W1.heap.size <= M + 4:=by omega
 have zB:M + 4 <= W1.heap.size:=by omega
 replace hW1:=Lib.hid hW1
 replace hM:=Lib.hid hM
 replace z1:=Lib.hid z1
 replace h0:=Lib.hid h0
 replace hJ:=Lib.hid hJ
 replace hY:=Lib.hid hY
 refine callsIn_of_wp_marks Tryz.func52 rfl trivial ?_ rfl
 simp only [Tryz.ntmps52,List.size_toArray,List.length_cons,List.length_nil,Nat.reduceAdd,Nat.reduceSub,Array.replicate_succ,Array.replicate_zero,List.push_toArray,List.append_toArray,List.nil_append,List.cons_append]
 gi_wp2_with (first | (refine ⟨trivial,?_⟩; gi_at_call 53; refine (callsIn_wide.2 (AC.out _)).mono ?_; rintro e w' ⟨rfl,rfl⟩) | fail)
 rw [<- hW1.out, <- hM.out]
 have sw:=hw.size
 have small:(lsN c Ls x kind).length <= 134217729:=by
  unfold lsN
  split
  ·rename_i hv
   obtain ⟨F,S1,q⟩:=h
   rw [<- q.n _ _ (by omega) (by omega)]
   exact q.nB S1.okc S1.zs.good (by omega) (by omega)
  ·simp
 have hseq:SeqStopsK Fence.wide (n - 1) Tryz.prog 95 #[.pointer (some ⟨M + 1,0,none⟩),.pointer (some ⟨M + 2,0,none⟩),.pointer (some ⟨M + 3,0,none⟩)] (fun y:HU => #[Value.int .u64 (y.1:Int)])
   (Only fun b => b = M \/ W1.heap.size <= b) (fun ys:List HU => ys.map (·.1) = lsN c Ls x kind) (fun pre:List HU => pre.map (·.1) <+: lsN c Ls x kind) (lsN c Ls x kind).length W1:=fun l' J' Jx' W' hb' hJ' hJx' hY' h0' => by
  have e1:=hb'
  exact along1_in h x kind (n - 1) (by omega) l' (M + 1) (M + 2) (M + 3) (fun b => b = M \/ W1.heap.size <= b) (fun b hb hS => by omega) ⟨fun hS => by omega,fun hS => by omega,fun hS => by omega⟩ J' Jx' W' ((hw.trans (b1.mono sw)).trans (hb'.mono (by omega))) hJ' hY'
   ((hb'.cell (p:=⟨M + 1,0,none⟩) (by show M + 1 < _; omega)).trans d1) ((hb'.cell (p:=⟨M + 2,0,none⟩) (by show M + 2 < _; omega)).trans d2) ((hb'.cell (p:=⟨M + 3,0,none⟩) (by show M + 3 < _; omega)).trans d3) h0'
 refine wpIn_rangeFunc_ownG rfl h1 (gf:=95) (lb:=#[.pointer (some ⟨M + 1,0,none⟩),.pointer (some ⟨M + 2,0,none⟩),.pointer (some ⟨M + 3,0,none⟩)]) rfl trivial (enters_of Tryz.func95 (by kernel_rfl) rfl)
  hseq (fun h k => h.trans k fun _ _ h => h) (fun W' l' o o' hl ho h1 h2 => ⟨rfl,rfl,rfl,(grownBy_putObj' W' l' o').size,fun b hb hS => World.putObj_heap_other (fun e => hS (.inr (e ▸ hl)))⟩) (Below.refl _ _) (fun _ => rfl)
  (fun pre Wx => (∃ v,Boxed Wx M 94 v /\ Wx.ownsRow W1.heap.size 50 1 v pre.length (pre.map hv) /\ True) /\ (Below W.heap.size W Wx /\ W1.heap.size <= Wx.heap.size))
  (fun _ _ _ => False)
  (OwnFrom.and (Own.from (holdsRow_own W1.heap.size M 94 50 1 (fun pre:List HU => pre.length) (fun pre:List HU => pre.map hv) (fun _ _ => True)) _) (OwnFrom.and (ownFrom_below (Nat.le_refl _) (by omega)) (fun _ _ _ _ hs hg _ => Nat.le_trans hs hg.size)))
  (fun _ _ _ _ _ hs _ _ => hs)
  ⟨⟨_,bT,World.ownsRow_nil _ _ _ _,trivial⟩,b1,Nat.le_refl _⟩
  (fun y => { tmps:=#[.func (.yield l) #[] #[],.pointer (some ⟨Bq,0,none⟩),.pointer (some ⟨Bc,0,none⟩),.pointer (some ⟨Bk,0,none⟩),undef,.pointer (some ⟨M,0,none⟩),.int .u64 (y.1:Int),undef,undef,.pointer (some ⟨gq,0,none⟩),.int .i64 x,.int .i64 kind,
   .func (.func 95) #[] #[.pointer (some ⟨M + 1,0,none⟩),.pointer (some ⟨M + 2,0,none⟩),.pointer (some ⟨M + 3,0,none⟩)],.int .u64 (y.1:Int),undef,undef,undef,undef,undef,undef,undef,undef,undef,undef,undef,undef,undef,undef,undef],defers:=[] }) ?assign ?body ?done ?stop
 case assign =>
  intro l' y W' K hK
  gi_wp2
  exact hK
 case body =>
  rintro l' pre y Wx ⟨⟨v,hv',hrow, -⟩,hB,hS⟩ hlt
  have hc:=hv'.cell
  have sB:=hB.size
  gi_wp2_with (gi_at_builtin; refine wpListIn_append_own _ rfl _ _ 94 rfl W1.heap.size 50 i0 (.int .u64 0) 1 8 Tryz.underlying94 hi hz0 hz1 hz2 rfl (by decide) _ _ _ rfl (hrow.alloc _) ⟨Wx.heap.size,0,none⟩ 1 1 [.int .u64 (y.1:Int)] rfl rfl (cell_one_new _ _ _) ?b0 ?b1 ?b2 ?b3 ?_)
  case b0 => simp [Value.oneCell']
  case b1 => unfold maxLen; omega
  case b2 => omega
  case b3 => omega
  intro v' w1 hown' hgrow _
  obtain ⟨g',cap',rfl⟩:=ownsRow_succ hown'
  obtain ⟨hv1,hv2, -,hk2, -⟩:=hv'.appended (n₀:=0) (by decide) (own_less hrow (Nat.zero_le _)) (Nat.zero_le _) (Nat.zero_le _) (own_less hown' (Nat.zero_le _)) hgrow
  have hc1:=hv1.cell
  have hf1:=hv1.frozen
  have hr2:=hown'.kept (grownBy_setCell' w1 M (.slice (some ⟨g',0,none⟩) (pre.length + 1) cap')) (.inr (hv1.not_row (by decide) hown').symm)
  have oS:Only (fun b => b = M \/ W1.heap.size <= b) Wx (w1.setCell ⟨M,0,none⟩ (.slice (some ⟨g',0,none⟩) (pre.length + 1) cap')):=(((Only.refl _ Wx).alloc _).grown hgrow (fun k e hk => .inr (own_base hrow e))).setCell (p:=⟨M,0,none⟩) (fun _ => .inl rfl) _
  have bF:=hB.trans (oS.toBelow (B:=W.heap.size) fun k hk => ⟨by omega,fun e => by omega⟩)
  replace hr2:=Lib.hid hr2
  replace hv2:=Lib.hid hv2
  replace hk2:=Lib.hid hk2
  replace oS:=Lib.hid oS
  replace bF:=Lib.hid bF
  clear hown' hgrow hrow hB hv'
  gi_wp2
  exact ⟨hk2.out.from _,oS.out,⟨_,hv2.out,by have:=hr2.out; simpa [hv] using this,trivial⟩,bF.out,Nat.le_trans hS oS.out.size⟩
 case done =>
  rintro D' ys Wx hD' hys ⟨⟨v,hv',hrow, -⟩,hB,hS⟩ hK
  obtain ⟨A,cp,rfl⟩:=own_is hrow
  have hc:=hv'.cell
  have hl:ys.length = (lsN c Ls x kind).length:=by rw [<- hys,List.length_map]
  have hJ0:=hJ.out [] W Wx none h0.out (grown_of_below hB) (fun r e => by cases e)
  obtain ⟨K,hKl⟩:∃ K,K = ys.length:=⟨_,rfl⟩
  rw [<- hKl] at hc
  have at_:∀ i (hi:i < ys.length),∃ g,A = some ⟨g,0,none⟩ /\ D <= g /\ ∃ o,Wx.heap[g]? = some o /\ prot o = true /\ Wx.cell? ⟨g,i,none⟩ = some (.int .u64 (ys[i].1:Int)):=by
   intro i hi
   have hx:(ys.map hv)[i]? = some (hv ys[i]):=by rw [List.getElem?_map,List.getElem?_eq_getElem hi]; rfl
   rcases hrow.2 with ⟨e0,h0⟩ | ⟨g,cap,cur,hv2,hBg,hg,h1,h2,h3,h4⟩
   ·have:=hrow.1
    omega
   ·injection hv2 with hv2 hv3 hv4
    refine ⟨g,hv2,by omega,_,hg,rfl,?_⟩
    rw [cell_of_row Wx g i cur _ (0,0) hg]
    rw [<- h4,List.getElem?_take] at hx
    split at hx
    ·simpa [hv] using hx
    ·cases hx
  have hkK:K <= 134217729:=by omega
  replace at_:=Lib.hid at_
  replace hys:=Lib.hid hys
  replace hJ0:=Lib.hid hJ0
  replace hK:=Lib.hid hK
  replace hKl:=Lib.hid hKl
  replace hl:=Lib.hid hl
  clear hrow hv' hB
  gi_wp2
  gi_loopw [20] (fun ti wr => ∃ i:Nat,ti = .int .i64 (i:Int) /\ i <= K /\ Hid (J (ys.take i) wr) /\ Hid (KeepP D Wx wr)) (fun ti _ => K - (intOf ti).toNat)
  case atStart => exact ⟨0,rfl,Nat.zero_le _,hJ0,Lib.hid (KeepP.refl _ _)⟩
  case round =>
   obtain ⟨i,rfl,hi',hJs,kp⟩:=hrel
   by_cases hlt:i < K
   ·have hiy:i < ys.length:=by rw [<- hKl.out]; exact hlt
    obtain ⟨g,rfl,hDg,o,hgo,hpo,hcl⟩:=at_.out i hiy
    have hcr:wr.cell? ⟨g,i,none⟩ = some (.int .u64 (ys[i].1:Int)):=(World.cell?_of_block (a:=⟨g,i,none⟩) ((kp.out.same g o hDg hgo hpo).trans hgo.symm)).trans hcl
    obtain ⟨fn,tmps,assign,body,hy,hR⟩:=hY.out (ys.take i) ys[i] wr hJs.out (by rw [List.length_take]; have:=hl.out; omega)
    have hts:ys.take (i + 1) = ys.take i ++ [ys[i]]:=by rw [List.take_add_one,List.getElem?_eq_getElem hiy]; rfl
    rw [<- hts] at hR
    generalize ys[i] = y at *
    have i0':(0:Int) <= (i:Int):=by omega
    have i1':(i:Int) < (K:Int):=by omega
    have d1':decide ((i:Int) < (K:Int)) = true:=decide_eq_true i1'
    have q1:IntKind.i64.wrap ((i:Int) + 1) = (i:Int) + 1:=IntWalk.i64_in _ (by omega)
    replace hts:=Lib.hid hts
    clear hcl hgo hiy
    gi_wp2
    refine hR.mono ?_
    rintro e W3 (⟨rfl,hJ3,hk3⟩ | ⟨rfl,hJx3,hk3⟩)
    ·gi_wp2
     go_roundw
     case rel => exact ⟨i + 1,by simp,by omega,Lib.hid hJ3,Lib.hid (kp.out.trans hk3)⟩
     case measure => simp [intOf] <;> omega
    ·have hK3:=(kp.out.trans hk3).same D' _ (by omega) hK.out rfl
     gi_wp2
     refine ⟨by simp,.inl ⟨_,_,rfl,run_takeDeferred hK3,?_⟩⟩
     exact ⟨_,results_none rfl _ _ _,⟨_,rfl⟩,.inr ⟨ys.take (i + 1),by rw [<- hys.out,List.map_take]; exact List.take_prefix _ _,hJx.putObj _ hJx3 (by omega) hK3 rfl⟩⟩
   ·obtain rfl:i = K:=by omega
    have hK3:=kp.out.same D' _ (by omega) hK.out rfl
    have d1':decide ((i:Int) < (i:Int)) = false:=by simp
    gi_wp2
    refine ⟨by simp,.inl ⟨_,_,rfl,run_takeDeferred hK3,?_⟩⟩
    exact ⟨_,results_none rfl _ _ _,⟨_,rfl⟩,.inl ⟨ys,hys.out,by have:=hJs.out; rw [List.take_of_length_le (by rw [<- hKl.out]; exact Nat.le_refl _)] at this; exact hJ.out.putObj _ this (by omega) hK3 rfl⟩⟩
 case stop =>
  rintro D' c' pre Wx _ _ h _
  exact h.elim
end Go.Proofs.YtfjiphibalhcgaaGreat.Que
/-
  The walk of all.
-/
namespace Go.Proofs.YtfjiphibalhcgaaGreat.Que
open Go.RowKit Base Arena Cls Itm Go.Shelf
attribute [local go_sem] Oper.semAt_some
theorem all_seq {w:World} {L:Lay} {c:Conf} {s:St} {bs:List UInt8} {Z:Nat -> Option Zd} {gq gl:Nat} {Ls:Nat -> Nat -> List Nat} (h:QW w L c s bs Z gq gl Ls) (x kind:Int) (n:Nat) (hn : 6 <= n) (Bq Bc Bk:Nat)
  (cq:w.cell? ⟨Bq,0,none⟩ = some (.pointer (some ⟨gq,0,none⟩))) (cc:w.cell? ⟨Bc,0,none⟩ = some (.int .i64 x)) (ck:w.cell? ⟨Bk,0,none⟩ = some (.int .i64 kind)) :
  SeqP n Tryz.prog 52 #[.pointer (some ⟨Bq,0,none⟩),.pointer (some ⟨Bc,0,none⟩),.pointer (some ⟨Bk,0,none⟩)] (fun y:HU => #[Value.int .u64 (y.1:Int)]) (KeepP w.heap.size)
   (fun ys:List HU => ys.map (·.1) = lsN c Ls x kind) (fun pre:List HU => pre.map (·.1) <+: lsN c Ls x kind) (lsN c Ls x kind).length w:=fun l J Jx W hw hJ hJx hY h0 =>
 all1_in h x kind n hn l Bq Bc Bk w.heap.size J Jx W hw hw.size hJ hJx hY ((hw.cell (p:=⟨Bq,0,none⟩) (World.block_lt_of_cell? w _ cq)).trans cq) ((hw.cell (p:=⟨Bc,0,none⟩) (World.block_lt_of_cell? w _ cc)).trans cc) ((hw.cell (p:=⟨Bk,0,none⟩) (World.block_lt_of_cell? w _ ck)).trans ck) h0
theorem ownFrom_only {β:Type} {B:Nat} {S:Nat -> Prop} {w:World} (hB:w.heap.size <= B):OwnFrom B (fun (_ : β) W => Only S w W):=fun _ X Y row hs hg hr => hs.grown hg fun k e hk => by have:=(hr k e).1; omega
theorem prefix_snoc {p l:List Nat} {z:Nat} (h:p <+: l) (hz:l[p.length]? = some z):p ++ [z] <+: l:=by
 obtain ⟨t,rfl⟩:=h
 rw [List.getElem?_append_right (Nat.le_refl _),Nat.sub_self] at hz
 cases t with
 | nil => cases hz
 | cons a t =>
  injection hz with hz
  subst hz
  exact ⟨t,by simp⟩
theorem prefix_not {p l:List Nat} {y z:Nat} (hz:l[p.length]? = some z) (hne:¬ y = z):¬ p ++ [y] <+: l:=by
 rintro ⟨t,rfl⟩
 rw [List.append_assoc,List.getElem?_append_right (Nat.le_refl _),Nat.sub_self] at hz
 injection hz with hz
 exact hne hz
theorem func_nil (a b d:Nat) (w:World):Sem.run Tryz.prog (binOp BinOp.eql 41 (.func (.func 52) #[] #[.pointer (some ⟨a,0,none⟩),.pointer (some ⟨b,0,none⟩),.pointer (some ⟨d,0,none⟩)]) .nilFunc) w = .ok (.bool false) w:=by kernel_rfl
section
variable {N:Nat} {w:World} {W:W6} {s:St} {bs:List UInt8} {Z:Nat -> Option Zd} {Ls:Nat -> Nat -> List Nat} {r:RS} {laid told:List Nat} {t:Nat} (h:WI N w W s bs Z Ls r laid told t) (ht:t <= 60000)
include h ht
end
end Go.Proofs.YtfjiphibalhcgaaGreat.Que
/-
  The law's does, arm by arm.
-/
namespace Go.Proofs.YtfjiphibalhcgaaGreat.Que
open Go.RowKit Base Arena Cls Itm
section
variable (w:World) (b:Nat) (o:Op6) (P:World -> Prop)
end
section
variable {N:Nat} {w:World} {W:W6} {s:St} {bs:List UInt8} {Z:Nat -> Option Zd} {Ls:Nat -> Nat -> List Nat} {r:RS} {laid told:List Nat} {t:Nat} (h:WI N w W s bs Z Ls r laid told t) (ht:t <= 60000) (o:Op6) (ok:o.Ok)
include h ht ok
end
section
variable {N:Nat} {w:World} {W:W6} {s:St} {bs:List UInt8} {Z:Nat -> Option Zd} {Ls:Nat -> Nat -> List Nat} {r:RS} {laid told:List Nat} {t:Nat} (h:WI N w W s bs Z Ls r laid told t) (ht:t <= 60000)
include h ht
end
theorem push_one {s:St} {Z:Nat -> Option Zd} {H i x p:Nat} (hf:findN qc.cf s H = some (i,x,p)) (hc:s.cls i = 0) (hz:(Z H).isSome = true) {Ls:Nat -> Nat -> List Nat} (hn:stK 0 Ls H = 0) (last:Bool):pushN qc s Z Ls H 1 last = (0,putN 0 Ls H 0 last):=by
 have ec:clsN qc s H = 0:=by unfold clsN; rw [hf]; exact hc
 have ei:isN qc s Z H = true:=by unfold isN; rw [hf,hz]; rfl
 unfold pushN
 rw [if_neg (by omega),if_neg (by rw [ei]; exact Bool.noConfusion),if_neg (by rw [ec]; exact fun h => h hn),ec]
 rfl
theorem QW.drewN {w:World} {L:Lay} {c:Conf} {s:St} {bs:List UInt8} {Z:Nat -> Option Zd} {gq gl:Nat} {Ls:Nat -> Nat -> List Nat} (h:QW w L c s bs Z gq gl Ls) (n:Nat):QW (w.drewN n) L c s bs Z gq gl Ls:=by
 obtain ⟨F,S,q⟩:=h
 exact ⟨F,S.drewN n,q⟩
set_option maxHeartbeats 1600000 in
theorem wakesC (w:World):Calls Tryz.prog 15 #[] w fun e w' => e = .returned (.bool true) /\ Below w.heap.size w w':=by
 have BC:=Lib.hid (begunC6 w)
 have n0:=fun w => numC6 w 0
 go_enter Tryz.func15,Tryz.ntmps15
 go_wp2_with fail
 refine BC.out.mono ?_
 rintro e w1 ⟨b1,W1,rfl,A1⟩
 have ok:=A1.okc
 have hk : 0 < qc.cf.nc:=by decide
 have hr1:=room_new ok 0
 obtain ⟨gs1,l1,p1,hp1⟩:=room_good ok A1.good hk hr1
 obtain ⟨H1,hH1⟩:∃ H1,H1 = hnd p1 ((widenS qc.cf (new0 qc.cf) 0 0).gens (p1 / qc.cf.ps) (p1 % qc.cf.ps / qc.cf.sz 0)):=⟨_,rfl⟩
 have D1:=doesO0 A1 (rel_new _) (by simp) (by decide) (by decide) (by decide) hr1 hp1 hH1
 obtain ⟨⟨i1,x1,f1,c1⟩, -, -⟩:=took_find ok A1.good hk hr1 hp1 hH1
 have g2:=(took ok A1.good hk hr1 hp1).1
 obtain ⟨s3,hr3⟩:=room_two ok (by decide) 0 0 p1
 generalize takeS qc.cf (widenS qc.cf (new0 qc.cf) 0 0) 0 p1 = s2 at *
 obtain ⟨gs3,l3,p3,hp3⟩:=room_good ok g2 hk hr3
 obtain ⟨H2,hH2⟩:∃ H2,H2 = hnd p3 (s3.gens (p3 / qc.cf.ps) (p3 % qc.cf.ps / qc.cf.sz 0)):=⟨_,rfl⟩
 obtain ⟨⟨i2,x2,f2,c2⟩,TB, -⟩:=took_find ok g2 hk hr3 hp3 hH2
 obtain ⟨f1',c1',hne, -⟩:=TB H1 i1 x1 p1 f1
 rw [c1] at c1'
 replace D1:=Lib.hid D1
 replace b1:=Lib.hid b1
 replace f1':=Lib.hid f1'
 replace f2:=Lib.hid f2
 replace c1':=Lib.hid c1'
 replace c2:=Lib.hid c2
 replace hne:=Lib.hid hne
 replace hr3:=Lib.hid hr3
 replace hp3:=Lib.hid hp3
 replace hH2:=Lib.hid hH2
 replace ok:=Lib.hid ok
 clear hr1 hp1 hH1 gs1 gs3 TB c1 f1 g2 A1 hk
 go_wp2_with fail
 refine D1.out.mono ?_
 rintro e w2 ⟨rfl,b2,W2,r2,eb2, -,Rl2,hl2,bs2,hb2,A2⟩
 have D2:=doesO0 A2 Rl2 (by rw [hb2]; simp) (by have:rnew0.ch.length = 0:=rfl; omega) (by simp) (by unfold laidN; simp) hr3.out hp3.out hH2.out
 rw [eb2] at D2
 replace D2:=Lib.hid D2
 replace b2:=Lib.hid (b1.out.trans b2)
 clear D1 b1 A2 Rl2 hl2 hb2
 go_wp2_with fail
 refine D2.out.mono ?_
 rintro e w3 ⟨rfl,b3,W3,r3,eb3, -, -, -,bs3, -,A3⟩
 generalize takeS qc.cf s3 0 p3 = s4 at *
 have B3:=A3.own
 unfold W6.cells at B3
 rw [eb3] at B3
 have T3:w3.ownsRow 0 26 1 W3.vT 2 ([H1,H2].map uv):=A3.told
 obtain ⟨g3,cp3,hv3,u0⟩:=own_uv (i:=0) (x:=H1) T3 rfl
 obtain ⟨g3',cp3',hv3',u1⟩:=own_uv (i:=1) (x:=H2) T3 rfl
 rw [hv3] at hv3' B3
 injection hv3' with e1 e2 e3
 injection e1 with e1
 injection e1 with e1
 subst e1
 have nT:¬ Two W3.L W3.gl W1.b:=by
  rw [<- eb3]
  rintro (e | e)
  ·have:=A3.sep .own .set W3.b (.inl rfl) (by rw [e]; exact ⟨.bytes,rfl⟩); cases this
  ·have:=A3.sep .own .queue W3.b (.inl rfl) (.inr e); cases this
 have y1:=B3.cell 1
 have y4:=B3.cell 4
 have Q3:=A3.q
 have b3':=b2.out.trans b3
 have bT:∀ k,Two W3.L W3.gl k -> w.heap.size <= k:=by
  rintro k (e | e)
  ·exact A3.base .set k (by rw [e]; exact ⟨.bytes,rfl⟩)
  ·exact A3.base .queue k (.inr e)
 have lN:w.heap.size <= w3.heap.size:=A3.hN0
 replace b3':=Lib.hid b3'
 replace Q3:=Lib.hid Q3
 replace B3:=Lib.hid B3
 replace nT:=Lib.hid nT
 replace bT:=Lib.hid bT
 clear D2 b2 b3 A3 T3 hv3 e2 e3
 go_upto_region 7 with fail
 go_quiet (fail)
 rename Nat => nq1
 obtain ⟨w4,hw4⟩:∃ w4,w3.drewN nq1 = w4:=⟨_,rfl⟩
 rw [hw4]
 have Q4:=QW.drewN Q3.out nq1
 rw [hw4] at Q4
 have B4:=B3.out.drewN nq1
 rw [hw4] at B4
 have b4:Below w.heap.size w w4:=by rw [<- hw4]; exact below_drewN b3'.out _
 have k1:H1 < 18446744073709551616:=good_lt ok.out (by obtain ⟨F,S,q⟩:=Q4; exact S.zs.good) f1'.out
 have k2:H2 < 18446744073709551616:=good_lt ok.out (by obtain ⟨F,S,q⟩:=Q4; exact S.zs.good) f2.out
 have P1:=(pushC Q4 H1 k1 1).1
 rw [push_one f1'.out c1'.out (by rw [upd_ne _ _ hne.out,upd_at]; rfl) (by unfold stK; simp) false] at P1
 have y1:=B4.cell 1
 replace P1:=Lib.hid P1
 replace B4:=Lib.hid B4
 replace b4:=Lib.hid b4
 clear Q3 B3 hw4 u0 u1 y4 Q4 b3'
 go_wp2_with fail
 refine P1.out.mono ?_
 rintro e w5 ⟨rfl,o5,bs5,Z5, -,dz, -,Q5⟩
 have B5:Blk w5 W1.b 47 _:=(o5.block _ B4.out.lt nT.out).trans B4.out
 have P2:=(pushC Q5 H2 k2 1).2
 have st2:stK 0 (putN 0 (fun _ _ => []) H1 0 false) H2 = 0:=by
  have e0:putN 0 (fun _ _ => []) H1 0 false 0 0 = [H1]:=updL_at _ _ _ _
  have e1:putN 0 (fun _ _ => []) H1 0 false 0 1 = []:=updL_ne (by omega)
  have e2:putN 0 (fun _ _ => []) H1 0 false 0 2 = []:=updL_ne (by omega)
  unfold stK
  rw [e0,e1,e2]
  have:=hne.out
  simp
  omega
 rw [push_one f2.out c2.out (by rw [dz,upd_at]; rfl) st2 true] at P2
 have y1:=B5.cell 1
 have b5:=b4.out.trans (o5.toBelow (B:=w.heap.size) fun k hk => ⟨by have:=b4.out.size; omega,fun e => by have:=bT.out k e; omega⟩)
 replace P2:=Lib.hid P2
 replace B5:=Lib.hid B5
 replace b5:=Lib.hid b5
 clear P1 Q5 o5 B4 b4 dz st2
 go_wp2_with fail
 refine P2.out.mono ?_
 rintro e w6 ⟨rfl,o6,bs6,Z6, -, -, -,Q6⟩
 have B6:Blk w6 W1.b 47 _:=(o6.block _ B5.out.lt nT.out).trans B5.out
 have b6:=b5.out.trans (o6.toBelow (B:=w.heap.size) fun k hk => ⟨by have:=b5.out.size; omega,fun e => by have:=bT.out k e; omega⟩)
 have HC:=headC Q6 0 1
 have TC:=tailC Q6 0 1
 have NC:=lenC Q6 0 1
 have el:lsN qc (putN 0 (putN 0 (fun _ _ => []) H1 0 false) H2 0 true) 0 1 = [H1,H2]:=by
  unfold lsN
  rw [if_pos (by rw [qc_nc]; decide)]
  exact (updL_at _ _ _ _).trans (by rw [if_pos rfl]; show putN 0 (fun _ _ => []) H1 0 false 0 0 ++ [H2] = _; rw [show putN 0 (fun _ _ => []) H1 0 false 0 0 = [H1] from updL_at _ _ _ _]; rfl)
 rw [el] at HC TC NC
 have y1:=B6.cell 1
 replace HC:=Lib.hid HC
 replace TC:=Lib.hid TC
 replace NC:=Lib.hid NC
 replace b6:=Lib.hid b6
 clear P2 Q6 o6 B5 b5 B6 el
 go_wp2_with fail
 refine HC.out.mono ?_
 rintro e w7 ⟨rfl,rfl⟩
 go_wp2_with fail
 refine TC.out.mono ?_
 rintro e w7 ⟨rfl,rfl⟩
 go_wp2_with (first | (go_at_call 14; refine (n0 _).mono ?_; rintro e w' ⟨rfl,rfl⟩) | (go_at_call 29; refine NC.out.mono ?_; rintro e w' ⟨rfl,rfl⟩))
 go_ret
 exact ⟨rfl,b6.out⟩
def OCells (w:World) (b o:Nat) (p:Op6):Prop:=w.cell? ⟨b,o,none⟩ = some (.int .i64 p.dO) /\ w.cell? ⟨b,o + 1,none⟩ = some (.int .i64 p.a) /\ w.cell? ⟨b,o + 2,none⟩ = some (.int .i64 p.b) /\
 w.cell? ⟨b,o + 3,none⟩ = some (.int .i64 p.c) /\ w.cell? ⟨b,o + 4,none⟩ = some (.int .u64 (p.h:Int)) /\ w.cell? ⟨b,o + 5,none⟩ = some (.bool p.raw)
def ORow (W:World) (a0:Option Addr) (k:Nat) (p:Op6):Prop:=∃ b off,a0 = some (⟨b,off,none⟩:Addr) /\ b < W.heap.size /\ p.Ok /\ OCells W b (off + k * 6) p
theorem OCells.below {W w:World} {B b o:Nat} {p:Op6} (h:OCells W b o p) (k:Below B W w) (hb:b < B):OCells w b o p :=
 ⟨(k.cell (p:=⟨b,o,none⟩) hb).trans h.1,(k.cell (p:=⟨b,o + 1,none⟩) hb).trans h.2.1,(k.cell (p:=⟨b,o + 2,none⟩) hb).trans h.2.2.1,(k.cell (p:=⟨b,o + 3,none⟩) hb).trans h.2.2.2.1,(k.cell (p:=⟨b,o + 4,none⟩) hb).trans h.2.2.2.2.1,(k.cell (p:=⟨b,o + 5,none⟩) hb).trans h.2.2.2.2.2⟩
end Go.Proofs.YtfjiphibalhcgaaGreat.Que
/-
  What the argument is that holds operations of the queue's laws.
-/
namespace Go.Proofs.YtfjiphibalhcgaaGreat.QueArg
open Go.ChangeShapes Go.WideShapes Go.ChangeAt Go.RowKit LawFrame Go.Deep ClsArg
variable {H:Type} {enc:TypeId × Value -> H}
theorem ops6_at {W:World} {fuel len cap:Nat} {A:Option Addr} {x:DataW H × List MemPlace} (h:DataW.trod enc Tryz.prog W 0 (fun _ => true) true fuel 22 [.slice A len cap] = some x) :
  ∃ l:List Que.Op6,l.length = len /\ len <= cap /\ cap <= maxLen /\ ∀ (k:Nat) (hk:k < l.length),Que.ORow W A k l[k]:=by
 obtain ⟨hl,hm,hi⟩:=fields_at Tryz.underlying22 Tryz.underlying28 (by kernel_rfl) (by kernel_rfl) (by decide) h
 obtain ⟨l,hlen,hP⟩:=list_of (fun k (p:Que.Op6) => Que.ORow W A k p) len (by
  intro k hk
  obtain ⟨b,off,n,rfl,hb,hfi⟩:=hi k hk
  obtain ⟨v0,y0,hc0,ht0⟩:=hfi 0 _ rfl
  obtain ⟨v1,y1,hc1,ht1⟩:=hfi 1 _ rfl
  obtain ⟨v2,y2,hc2,ht2⟩:=hfi 2 _ rfl
  obtain ⟨v3,y3,hc3,ht3⟩:=hfi 3 _ rfl
  obtain ⟨v4,y4,hc4,ht4⟩:=hfi 4 _ rfl
  obtain ⟨v5,y5,hc5,ht5⟩:=hfi 5 _ rfl
  obtain ⟨x0,e0, -,wx0⟩:=DataW.trod_int Tryz.underlying3 ht0
  obtain ⟨x1,e1, -,wx1⟩:=DataW.trod_int Tryz.underlying3 ht1
  obtain ⟨x2,e2, -,wx2⟩:=DataW.trod_int Tryz.underlying3 ht2
  obtain ⟨x3,e3, -,wx3⟩:=DataW.trod_int Tryz.underlying3 ht3
  obtain ⟨x4,e4, -,wx4⟩:=DataW.trod_int Tryz.underlying26 ht4
  obtain ⟨x5,e5, -⟩:=DataW.trod_bool Tryz.underlying4 ht5
  simp only [List.cons.injEq,and_true] at e0 e1 e2 e3 e4 e5
  obtain ⟨u4,e4',hu4⟩:=u64_nat wx4
  subst e4'
  subst e0 e1 e2 e3 e4 e5
  exact ⟨⟨x0,x1,x2,x3,u4,x5⟩,b,off,rfl,hb,⟨i64_bd wx0,i64_bd wx1,i64_bd wx2,i64_bd wx3,hu4⟩,hc0,hc1,hc2,hc3,hc4,hc5⟩)
 exact ⟨l,hlen,hl,hm,fun k hk => hP k hk⟩
end Go.Proofs.YtfjiphibalhcgaaGreat.QueArg
/-
  Which list each item stands in, behind each call of the queue, in plain numbers.
-/
namespace Go.Proofs.YtfjiphibalhcgaaGreat.Que
open Go.RowKit Base Arena Cls Itm
theorem stK_cg {x:Nat} {Ls L':Nat -> Nat -> List Nat} {K:Nat} (h:∀ k,k < 3 -> (K ∈ L' x k ↔ K ∈ Ls x k)):stK x L' K = stK x Ls K:=by
 unfold stK
 simp only [h 0 (by decide),h 1 (by decide),h 2 (by decide)]
section
variable {c:Conf} {s:St} {Z:Nat -> Option Zd} {F:QN} {Ls:Nat -> Nat -> List Nat} (q:QI c s Z F Ls)
include q
theorem QI.stK_mem {x k K:Nat} (hx:x < c.nc) (hk:k < 3) (hm:K ∈ Ls x k):stK x Ls K = k + 1:=by
 have u:∀ k',k' < 3 -> K ∈ Ls x k' -> k' = k:=fun k' hk' hm' => (q.dj x k' x k K hx hk' hx hk hm' hm).2
 unfold stK
 split
 ·have:=u 0 (by decide) (by assumption); omega
 split
 ·have:=u 1 (by decide) (by assumption); omega
 split
 ·have:=u 2 (by decide) (by assumption); omega
 ·obtain rfl | rfl | rfl:k = 0 \/ k = 1 \/ k = 2:=by omega
  all_goals contradiction
theorem QI.stK_cls {x k K:Nat} (hx:x < c.nc) (hk:k < 3) (hm:K ∈ Ls x k):clsN c s K = x /\ stK (clsN c s K) Ls K = k + 1:=by
 obtain ⟨i,y,p,hf,hc⟩:=q.it x k K hx hk hm
 have e:clsN c s K = x:=by unfold clsN; rw [hf]; exact hc
 exact ⟨e,by rw [e]; exact q.stK_mem hx hk hm⟩
end
theorem mem_putN {x:Nat} {Ls:Nat -> Nat -> List Nat} {H k:Nat} {last:Bool} {K x' k':Nat} (hne:K ≠ H):K ∈ putN x Ls H k last x' k' ↔ K ∈ Ls x' k':=by
 unfold putN
 by_cases e:x' = x /\ k' = k
 ·obtain ⟨rfl,rfl⟩:=e
  rw [updL_at]
  cases last <;> simp [hne]
 ·rw [updL_ne e]
theorem self_putN {x:Nat} {Ls:Nat -> Nat -> List Nat} {H k:Nat} {last:Bool}:H ∈ putN x Ls H k last x k:=by
 unfold putN
 rw [updL_at]
 cases last <;> simp
theorem mem_outN {x:Nat} {Ls:Nat -> Nat -> List Nat} {H:Nat} {K x' k':Nat} (hne:K ≠ H):K ∈ outN x Ls H x' k' ↔ K ∈ Ls x' k':=by
 unfold outN
 by_cases e:x' = x /\ k' = stK x Ls H - 1
 ·obtain ⟨rfl,rfl⟩:=e
  rw [updL_at]
  exact List.mem_erase_of_ne hne
 ·rw [updL_ne e]
theorem mem_updSw {x j:Nat} {Ls:Nat -> Nat -> List Nat} {old H K x' k':Nat} (nd:(Ls x j).Nodup) (ho:old ∈ Ls x j) (h1:K ≠ old) (h2:K ≠ H):K ∈ updL Ls x j (swL (Ls x j) old H) x' k' ↔ K ∈ Ls x' k':=by
 by_cases e:x' = x /\ k' = j
 ·obtain ⟨rfl,rfl⟩:=e
  rw [updL_at]
  obtain ⟨l1,l2,e⟩:=List.append_of_mem ho
  have n1:old ∉ l1:=by
   rw [e] at nd
   exact fun h => (List.nodup_append.1 nd).2.2 old h old (List.mem_cons_self ..) rfl
  rw [e,swL_split n1]
  simp [h1,h2]
 ·rw [updL_ne e]
theorem same_len {l m:List Nat} (hl:l.Nodup) (hm:m.Nodup) (h:∀ a,a ∈ l ↔ a ∈ m):l.length = m.length :=
 (List.perm_ext_iff_of_nodup hl hm |>.2 h).length_eq
def kdN (s:St) (Ls:Nat -> Nat -> List Nat) (H:Nat):Nat:=stK (clsN qc s H) Ls H
structure CI (N:Nat) (w:World) (W:W6) (s:St) (bs:List UInt8) (Z:Nat -> Option Zd) (Ls:Nat -> Nat -> List Nat) (r:RS) (laid told:List Nat) (t:Nat):Prop where
 wat:WAt N w W qc s bs Z Ls (fun _ _ => []) r laid told
 rel:Rel qc.cf s r
 agr:∀ H i x p,findN qc.cf s H = some (i,x,p) -> ((Z H).isSome = true ↔ H ∈ laid)
 bs:bs.length = qc.cf.ps * qc.cf.np
 ch:r.ch.length <= 16384 * t
 la:laid.length <= t
 tl:told.length <= t
 tlt:∀ H ∈ told,H < 18446744073709551616
 lt:∀ H ∈ laid,H ∈ told
 tf:∀ H ∈ told,∃ i x p,findN qc.cf s H = some (i,x,p)
 nd:told.Nodup
section
variable {N:Nat} {w:World} {W:W6} {s:St} {bs:List UInt8} {Z:Nat -> Option Zd} {Ls:Nat -> Nat -> List Nat} {r:RS} {laid told:List Nat} {t:Nat} (h:CI N w W s bs Z Ls r laid told t)
include h
theorem CI.q:∃ F,QI qc s Z F Ls:=by
 obtain ⟨F,S,q⟩:=h.wat.q
 exact ⟨F,q⟩
theorem CI.below {w':World} (b:Below w.heap.size w w'):CI N w' W s bs Z Ls r laid told t:=⟨h.wat.below b,h.rel,h.agr,h.bs,h.ch,h.la,h.tl,h.tlt,h.lt,h.tf,h.nd⟩
theorem CI.more {t':Nat} (ht:t <= t'):CI N w W s bs Z Ls r laid told t':=⟨h.wat,h.rel,h.agr,h.bs,by have:=h.ch; omega,by have:=h.la; omega,by have:=h.tl; omega,h.tlt,h.lt,h.tf,h.nd⟩
theorem CI.made (ht:t <= 60000) (o:Op6) (ok:o.Ok):Calls Tryz.prog 20 #[.pointer (some ⟨W.b,0,none⟩),.agg o.cells] w fun e w' => e = .returned (.bool true) /\ ∃ W' s' bs' Z' r' laid' told',W'.b = W.b /\ Grew qc w w' W W' s s' /\ CI N w' W' s' bs' Z' Ls r' laid' told' (t + 1) /\
  (told'.map (kdN s' Ls) = told.map (kdN s Ls) /\ told' = told \/ ∃ H0,told' = told ++ [H0] /\ told'.map (kdN s' Ls) = told.map (kdN s Ls) ++ [0]):=by
 have hkn:(o.b % 3).toNat < qc.cf.nc:=by show _ < qc.nc; rw [qc_nc]; omega
 have okc:=h.wat.okc
 have g:=h.wat.good
 cases hr:roomS qc.cf s (o.b % 3).toNat with
 | none => exact (makesNo h.wat o ok h.rel hr).mono fun e w' ⟨e1,b⟩ => ⟨e1,W,s,bs,Z,r,laid,told,rfl,(Grew.refl _ _ _ _).step b,(h.below b).more (Nat.le_succ _),.inl ⟨rfl,rfl⟩⟩
 | some s1 =>
  obtain ⟨g1,l,p,hp⟩:=room_good okc g hkn hr
  obtain ⟨H0,h0⟩:∃ H0,H0 = hnd p (s1.gens (p / qc.cf.ps) (p % qc.cf.ps / qc.cf.sz (o.b % 3).toNat)):=⟨_,rfl⟩
  have hch:=h.ch
  have hla:=h.la
  have htl:=h.tl
  have hfr:=free_short g okc hkn
  obtain ⟨⟨i0,x0,f0,c0⟩,A,B⟩:=took_find okc g hkn hr hp h0
  have g':=(took okc g hkn hr hp).1
  have H0lt:=good_lt okc g' f0
  have hnt:H0 ∉ told:=fun hm => by
   obtain ⟨i,x,q,hf⟩:=h.tf H0 hm
   exact (A H0 i x q hf).2.2.1 rfl
  have hnl:H0 ∉ laid:=fun hm => hnt (h.lt H0 hm)
  have tlt:∀ H ∈ told ++ [H0],H < 18446744073709551616:=fun H hm => by
   rcases List.mem_append.1 hm with hm | hm
   ·exact h.tlt H hm
   ·rw [List.mem_singleton.1 hm]; exact H0lt
  have htf:∀ H ∈ told ++ [H0],∃ i x q,findN qc.cf (takeS qc.cf s1 (o.b % 3).toNat p) H = some (i,x,q):=fun H hm => by
   rcases List.mem_append.1 hm with hm | hm
   ·obtain ⟨i,x,q,hf⟩:=h.tf H hm
    exact ⟨i,x,q,(A H i x q hf).1⟩
   ·rw [List.mem_singleton.1 hm]; exact ⟨_,_,_,f0⟩
  have hnd':(told ++ [H0]).Nodup:=by
   rw [List.nodup_append]
   refine ⟨h.nd,by simp,fun a ha b hb e => ?_⟩
   rw [List.mem_singleton.1 hb] at e
   exact hnt (e ▸ ha)
  have hkd:(told ++ [H0]).map (kdN (takeS qc.cf s1 (o.b % 3).toNat p) Ls) = told.map (kdN s Ls) ++ [0]:=by
   rw [List.map_append,List.map_singleton]
   have two:∀ (a b a' b':List Nat),a = a' -> b = b' -> a ++ b = a' ++ b':=fun _ _ _ _ e1 e2 => by rw [e1,e2]
   refine two _ _ _ _ ?_ ?_
   ·refine List.map_congr_left fun H hm => ?_
    obtain ⟨i,x,q,hf⟩:=h.tf H hm
    unfold kdN clsN
    rw [(A H i x q hf).1,hf]
    show stK ((takeS qc.cf s1 (o.b % 3).toNat p).cls i) Ls H = stK (s.cls i) Ls H
    rw [(A H i x q hf).2.1]
   ·obtain ⟨F,q⟩:=h.q
    have hx0:clsN qc (takeS qc.cf s1 (o.b % 3).toNat p) H0 < qc.nc:=by
     unfold clsN
     rw [f0]
     show (takeS qc.cf s1 (o.b % 3).toNat p).cls i0 < qc.nc
     rw [c0]
     exact hkn
    have no:∀ k,k < 3 -> H0 ∉ Ls (clsN qc (takeS qc.cf s1 (o.b % 3).toNat p) H0) k:=fun k hk hm => by
     obtain ⟨i,y,p',hf,hc⟩:=q.it _ k H0 hx0 hk hm
     exact (A H0 i y p' hf).2.2.1 rfl
    show [kdN (takeS qc.cf s1 (o.b % 3).toNat p) Ls H0] = [0]
    unfold kdN stK
    rw [if_neg (no 0 (by decide)),if_neg (no 1 (by decide)),if_neg (no 2 (by decide))]
  have hfit:p + 56 <= bs.length:=by
   obtain ⟨t0, -⟩:=Tkn.of okc g' f0
   obtain ⟨a1,a2,a3,a4,a5⟩:=t0.fit okc
   have:=(okc.sz _ t0.kN).1
   rw [h.bs,Nat.mul_comm]
   omega
  by_cases hd:o.dO = 2
  ·refine (makesBare h.wat o ok h.rel h.bs (by omega) (by omega) (by omega) hr hp h0 hd).mono ?_
   rintro e w' ⟨e1, -,W',r',eW,G,R',hr',T⟩
   refine ⟨e1,W',_,_,_,_,_,_,eW,G,⟨T,R',fun H i x q hf => ?_,(take_len hfit).trans h.bs,by omega,by omega,by rw [List.length_append,List.length_singleton]; omega,tlt,fun H hm => List.mem_append_left _ (h.lt H hm),htf,hnd'⟩,.inr ⟨H0,rfl,hkd⟩⟩
   rcases B H i x q hf with rfl | ⟨hne,hf'⟩
   ·rw [upd_at]
    exact ⟨fun e => (by cases e),fun e => absurd e hnl⟩
   ·rw [upd_ne _ _ hne]
    exact h.agr H i x q hf'
  ·refine (makesItem h.wat o ok h.rel h.bs (by omega) (by omega) (by omega) (by omega) hr hp h0 hd).mono ?_
   rintro e w' ⟨e1, -,W',r',eW,G,R',hr',bs',hbs,T⟩
   have el:laidN H0 laid = laid ++ [H0]:=if_neg hnl
   rw [el] at T
   refine ⟨e1,W',_,_,_,_,_,_,eW,G,⟨T,R',fun H i x q hf => ?_,hbs.trans h.bs,by omega,by rw [List.length_append,List.length_singleton]; omega,by rw [List.length_append,List.length_singleton]; omega,tlt,fun H hm => ?_,htf,hnd'⟩,.inr ⟨H0,rfl,hkd⟩⟩
   ·rcases B H i x q hf with rfl | ⟨hne,hf'⟩
    ·rw [upd_at]
     exact ⟨fun _ => List.mem_append_right _ (List.mem_singleton.2 rfl),fun _ => rfl⟩
    ·rw [upd_ne _ _ hne,List.mem_append,List.mem_singleton]
     exact (h.agr H i x q hf').trans ⟨.inl,fun e => e.resolve_right hne⟩
   ·rcases List.mem_append.1 hm with hm | hm
    ·exact List.mem_append_left _ (h.lt H hm)
    ·exact List.mem_append_right _ hm
end
theorem map_two {f f':Nat -> Nat} {l:List Nat} (nd:l.Nodup) {k m H G a b:Nat} (hk:l[k]? = some H) (hm:l[m]? = some G) (hne:H ≠ G) (h1:f' H = b) (h2:f' G = a) (ho:∀ K ∈ l,K ≠ H -> K ≠ G -> f' K = f K):l.map f' = ((l.map f).set m a).set k b:=by
 have inj:∀ {i j K:Nat},l[i]? = some K -> l[j]? = some K -> i = j:=fun {i j K} h1 h2 => by
  obtain ⟨a1,b1⟩:=List.getElem?_eq_some_iff.1 h1
  obtain ⟨a2,b2⟩:=List.getElem?_eq_some_iff.1 h2
  rcases Nat.lt_trichotomy i j with e | e | e
  ·exact absurd (b1.trans b2.symm) (List.pairwise_iff_getElem.1 nd i j a1 a2 e)
  ·exact e
  ·exact absurd (b2.trans b1.symm) (List.pairwise_iff_getElem.1 nd j i a2 a1 e)
 refine List.ext_getElem? fun i => ?_
 rw [List.getElem?_map,List.getElem?_set,List.getElem?_set,List.getElem?_map,List.length_set,List.length_map]
 by_cases e:k = i
 ·subst e
  rw [if_pos rfl,hk,if_pos (List.getElem?_eq_some_iff.1 hk).1,Option.map_some,h1]
 ·rw [if_neg e]
  by_cases e2:m = i
  ·subst e2
   rw [if_pos rfl,hm,if_pos (List.getElem?_eq_some_iff.1 hm).1,Option.map_some,h2]
  ·rw [if_neg e2]
   cases hi:l[i]? with
   | none => rfl
   | some K =>
    rw [Option.map_some,Option.map_some,ho K (List.mem_of_getElem? hi) (fun e3 => e (inj hk (e3 ▸ hi))) (fun e3 => e2 (inj hm (e3 ▸ hi)))]
section
variable {N:Nat} {w:World} {W:W6} {s:St} {bs:List UInt8} {Z:Nat -> Option Zd} {Ls:Nat -> Nat -> List Nat} {r:RS} {laid told:List Nat} {t:Nat} (h:CI N w W s bs Z Ls r laid told t)
include h
theorem CI.turn {w':World} {rr:Nat × (Nat -> Nat -> List Nat)} (D:Did w w' W.L qc s bs Z W.gq W.gl rr):∃ bs' Z',CI N w' W s bs' Z' rr.2 r laid told t /\ Grew qc w w' W W s s /\ Only (Two W.L W.gl) w w':=by
 obtain ⟨oz,bs',Z',E,dz, -,Q⟩:=D
 exact ⟨bs',Z',⟨h.wat.turn oz Q,h.rel,fun H i x p hf => by rw [dz H]; exact h.agr H i x p hf,E.1.trans h.bs,h.ch,h.la,h.tl,h.tlt,h.lt,h.tf,h.nd⟩,grew_turn oz,oz⟩
theorem CI.cls_lt {H:Nat} (hm:H ∈ told):clsN qc s H < qc.nc:=by
 obtain ⟨i,x,p,hf⟩:=h.tf H hm
 obtain ⟨t0, -⟩:=Tkn.of h.wat.okc h.wat.good hf
 unfold clsN
 rw [hf]
 exact t0.kN
theorem CI.isN_eq {H:Nat} (hm:H ∈ told):isN qc s Z H = decide (H ∈ laid):=by
 obtain ⟨i,x,p,hf⟩:=h.tf H hm
 have e:=h.agr H i x p hf
 unfold isN
 rw [hf]
 by_cases hl:H ∈ laid
 ·rw [e.2 hl,decide_eq_true hl]; rfl
 ·rw [decide_eq_false hl]
  cases hz:(Z H).isSome
  ·rfl
  ·exact absurd (e.1 hz) hl
theorem CI.in_laid {H:Nat} (hm:H ∈ told) (hk:kdN s Ls H ≠ 0):H ∈ laid:=by
 obtain ⟨F,q⟩:=h.q
 obtain ⟨z,hz, -⟩:=q.links h.wat.okc h.wat.good hk
 obtain ⟨i,x,p,hf⟩:=h.tf H hm
 exact (h.agr H i x p hf).1 (by rw [hz]; rfl)
theorem CI.kd_of {k H:Nat} (hm:H ∈ told) (hk:k < 3) (hl:H ∈ Ls (clsN qc s H) k):kdN s Ls H = k + 1:=by
 obtain ⟨F,q⟩:=h.q
 exact q.stK_mem (h.cls_lt hm) hk hl
theorem CI.row {Ls':Nat -> Nat -> List Nat} {k H v:Nat} (hk:told[k]? = some H) (hv:kdN s Ls' H = v) (ho:∀ K ∈ told,K ≠ H -> kdN s Ls' K = kdN s Ls K):told.map (kdN s Ls') = (told.map (kdN s Ls)).set k v:=by
 have aux:∀ (l:List Nat) (k:Nat),l.Nodup -> l[k]? = some H -> (∀ K ∈ l,K ≠ H -> kdN s Ls' K = kdN s Ls K) -> l.map (kdN s Ls') = (l.map (kdN s Ls)).set k v:=by
  intro l
  induction l with
  | nil => intro k _ hk _; cases hk
  | cons a l ih =>
   intro k nd hk hf
   obtain ⟨n1,n2⟩:=List.nodup_cons.1 nd
   have keep:∀ l':List Nat,(∀ K ∈ l',K ≠ H) -> (∀ K ∈ l',K ≠ H -> kdN s Ls' K = kdN s Ls K) -> l'.map (kdN s Ls') = l'.map (kdN s Ls):=fun l' a b => List.map_congr_left fun K hK => b K hK (a K hK)
   cases k with
   | zero =>
    have e:a = H:=Option.some.inj hk
    subst e
    show kdN s Ls' a :: l.map _ = v :: l.map _
    rw [hv,keep l (fun K hK e => n1 (e ▸ hK)) fun K hK => hf K (List.mem_cons_of_mem _ hK)]
   | succ k =>
    have hm:H ∈ l:=List.mem_of_getElem? (i:=k) hk
    show kdN s Ls' a :: l.map _ = kdN s Ls a :: (l.map _).set k v
    rw [hf a (List.mem_cons_self ..) fun e => n1 (e ▸ hm),ih k n2 hk fun K hK => hf K (List.mem_cons_of_mem _ hK)]
 exact aux told k h.nd hk ho
variable {k H:Nat} (hk:told[k]? = some H)
include hk
theorem CI.pushed {kind:Int} (h1 : 1 <= kind) (h3:kind <= 3) (last:Bool) :
  ((pushN qc s Z Ls H kind last).1 = 0 ↔ H ∈ laid /\ kdN s Ls H = 0) /\ ∀ {w' bs' Z'},CI N w' W s bs' Z' (pushN qc s Z Ls H kind last).2 r laid told t -> told.map (kdN s (pushN qc s Z Ls H kind last).2) = if (pushN qc s Z Ls H kind last).1 = 0 then (told.map (kdN s Ls)).set k kind.toNat else told.map (kdN s Ls):=by
 have hm:H ∈ told:=List.mem_of_getElem? hk
 unfold pushN
 rw [if_neg (by omega),h.isN_eq hm]
 by_cases hl:H ∈ laid
 ·rw [if_neg (by simp [hl])]
  by_cases h0:stK (clsN qc s H) Ls H ≠ 0
  ·rw [if_pos h0]
   exact ⟨⟨fun e => (by cases e),fun e => absurd e.2 h0⟩,fun _ => rfl⟩
  ·rw [if_neg h0]
   refine ⟨⟨fun _ => ⟨hl,by unfold kdN; omega⟩,fun _ => rfl⟩,fun T => ?_⟩
   rw [if_pos rfl]
   refine h.row hk ?_ fun K _ hne => ?_
   ·have e:=T.kd_of (k:=kind.toNat - 1) hm (by omega) self_putN
    rw [e]; omega
   ·unfold kdN; exact stK_cg fun k' _ => mem_putN hne
 ·rw [if_pos (by simp [hl])]
  exact ⟨⟨fun e => (by cases e),fun e => absurd e.1 hl⟩,fun _ => rfl⟩
theorem CI.dropped:((dropN qc s Ls H).1 = 0 ↔ H ∈ laid /\ kdN s Ls H ≠ 0) /\ told.map (kdN s (dropN qc s Ls H).2) = if (dropN qc s Ls H).1 = 0 then (told.map (kdN s Ls)).set k 0 else told.map (kdN s Ls):=by
 have hm:H ∈ told:=List.mem_of_getElem? hk
 obtain ⟨F,q⟩:=h.q
 unfold dropN
 by_cases h0:stK (clsN qc s H) Ls H = 0
 ·rw [if_pos h0]
  exact ⟨⟨fun e => (by cases e),fun e => absurd h0 e.2⟩,rfl⟩
 ·rw [if_neg h0]
  refine ⟨⟨fun _ => ⟨h.in_laid hm h0,h0⟩,fun _ => rfl⟩,?_⟩
  rw [if_pos rfl]
  refine h.row hk (q.out0 h.wat.okc h.wat.good h0) fun K _ hne => ?_
  unfold kdN; exact stK_cg fun k' _ => mem_outN hne
theorem CI.shifted {kind:Int} (h1 : 1 <= kind) (h3:kind <= 3) :
  ((shiftN qc s Ls H kind).1 = 0 ↔ H ∈ laid /\ kdN s Ls H ≠ 0) /\ ∀ {w' bs' Z'},CI N w' W s bs' Z' (shiftN qc s Ls H kind).2 r laid told t -> told.map (kdN s (shiftN qc s Ls H kind).2) = if (shiftN qc s Ls H kind).1 = 0 then (told.map (kdN s Ls)).set k kind.toNat else told.map (kdN s Ls):=by
 have hm:H ∈ told:=List.mem_of_getElem? hk
 unfold shiftN
 rw [if_neg (by omega)]
 by_cases h0:stK (clsN qc s H) Ls H = 0
 ·rw [if_pos h0]
  exact ⟨⟨fun e => (by cases e),fun e => absurd h0 e.2⟩,fun _ => rfl⟩
 ·rw [if_neg h0]
  refine ⟨⟨fun _ => ⟨h.in_laid hm h0,h0⟩,fun _ => rfl⟩,fun T => ?_⟩
  rw [if_pos rfl]
  refine h.row hk ?_ fun K _ hne => ?_
  ·have e:=T.kd_of (k:=kind.toNat - 1) hm (by omega) self_putN
   rw [e]; omega
  ·unfold kdN; exact stK_cg fun k' _ => (mem_putN hne).trans (mem_outN hne)
theorem CI.swapped {m G:Nat} (hg:told[m]? = some G) :
  ((swapN qc s Z Ls H G).1 = 0 ↔ kdN s Ls H ≠ 0 /\ kdN s Ls G = 0 /\ G ∈ laid /\ clsN qc s H = clsN qc s G) /\ ((swapN qc s Z Ls H G).1 ≠ 0 -> (swapN qc s Z Ls H G).2 = Ls) /\
   ((swapN qc s Z Ls H G).1 = 0 -> ∀ {w' bs' Z'},CI N w' W s bs' Z' (swapN qc s Z Ls H G).2 r laid told t -> told.map (kdN s (swapN qc s Z Ls H G).2) = ((told.map (kdN s Ls)).set m (kdN s Ls H)).set k 0 /\ prevN qc s (swapN qc s Z Ls H G).2 G = prevN qc s Ls H /\ nextN qc s (swapN qc s Z Ls H G).2 G = nextN qc s Ls H):=by
 have hm:H ∈ told:=List.mem_of_getElem? hk
 have hmg:G ∈ told:=List.mem_of_getElem? hg
 obtain ⟨F,q⟩:=h.q
 unfold swapN
 rw [h.isN_eq hmg]
 by_cases h0:stK (clsN qc s H) Ls H = 0
 ·rw [if_pos (.inl h0)]
  exact ⟨⟨fun e => (by cases e),fun e => absurd h0 e.1⟩,fun _ => rfl,fun e => (by cases e)⟩
 by_cases hl:G ∈ laid
 ·rw [if_neg (by simp [h0,hl])]
  by_cases h1:stK (clsN qc s G) Ls G ≠ 0
  ·rw [if_pos h1]
   exact ⟨⟨fun e => (by cases e),fun e => absurd e.2.1 h1⟩,fun _ => rfl,fun e => (by cases e)⟩
  rw [if_neg h1]
  have h1:stK (clsN qc s G) Ls G = 0:=by omega
  by_cases hc:clsN qc s H ≠ clsN qc s G
  ·rw [if_pos hc]
   exact ⟨⟨fun e => (by cases e),fun e => absurd e.2.2.2 hc⟩,fun _ => rfl,fun e => (by cases e)⟩
  rw [if_neg hc]
  have hc:clsN qc s H = clsN qc s G:=by simpa using hc
  refine ⟨⟨fun _ => ⟨h0,h1,hl,hc⟩,fun _ => rfl⟩,fun e => absurd rfl e,fun _ _ _ _ T => ?_⟩
  obtain ⟨j,i,y,p,hj,ej, -,ec,hcn,hin⟩:=q.of_stK h.wat.okc h.wat.good h0
  rw [<- ec] at hin hcn
  have ej':stK (clsN qc s H) Ls H - 1 = j:=by omega
  rw [ej'] at T ⊢
  obtain ⟨L',hL'⟩:∃ L',L' = updL Ls (clsN qc s H) j (swL (Ls (clsN qc s H) j) H G):=⟨_,rfl⟩
  rw [<- hL'] at T
  show told.map (kdN s (updL Ls (clsN qc s H) j (swL (Ls (clsN qc s H) j) H G))) = _ /\ prevN qc s (updL Ls (clsN qc s H) j (swL (Ls (clsN qc s H) j) H G)) G = _ /\ nextN qc s (updL Ls (clsN qc s H) j (swL (Ls (clsN qc s H) j) H G)) G = _
  rw [<- hL']
  obtain ⟨l1,l2,e1, -⟩:=q.split hcn hj hin
  have nd:=q.nd _ j hcn hj
  rw [e1] at nd
  have n1:H ∉ l1:=fun hx => (List.nodup_append.1 nd).2.2 H hx H (List.mem_cons_self ..) rfl
  have n2:H ∉ l2:=(List.nodup_cons.1 (List.nodup_append.1 nd).2.1).1
  have gn:=q.not_stK h1 (clsN qc s H) j hcn hj
  have g1:G ∉ l1:=fun hx => gn (by rw [e1]; exact List.mem_append_left _ hx)
  have hHG:H ≠ G:=fun e => gn (e ▸ hin)
  have eL:L' (clsN qc s H) j = l1 ++ G :: l2:=by rw [hL',updL_at,e1,swL_split n1]
  have kG:kdN s L' G = j + 1:=T.kd_of hmg hj (by rw [<- hc]; show G ∈ L' (clsN qc s H) j; rw [eL]; simp)
  have kH:kdN s L' H = 0:=by
   have no:∀ k',k' < 3 -> H ∉ L' (clsN qc s H) k':=fun k' hk' hx => by
    by_cases e:k' = j
    ·subst e
     rw [eL] at hx
     rcases List.mem_append.1 hx with hx | hx
     ·exact n1 hx
     ·rcases List.mem_cons.1 hx with hx | hx
      ·exact hHG hx
      ·exact n2 hx
    ·rw [hL',updL_ne (fun e2 => e e2.2)] at hx
     exact e (q.dj _ k' _ j H hcn hk' hcn hj hx hin).2
   unfold kdN stK
   rw [if_neg (no 0 (by decide)),if_neg (no 1 (by decide)),if_neg (no 2 (by decide))]
  refine ⟨map_two h.nd hk hg hHG kH (kG.trans ej.symm) fun K _ a1 a2 => ?_,?_,?_⟩
  ·unfold kdN
   rw [hL']
   exact stK_cg fun k' _ => mem_updSw (q.nd _ j hcn hj) hin a1 a2
  ·unfold kdN at kG
   unfold prevN
   rw [kG,if_neg (by omega),if_neg h0,ej,Nat.add_sub_cancel, <- hc,eL,e1,ahead_split g1,ahead_split n1]
  ·unfold kdN at kG
   unfold nextN
   rw [kG,if_neg (by omega),if_neg h0,ej,Nat.add_sub_cancel, <- hc,eL,e1,behind_split g1,behind_split n1]
 ·rw [if_pos (.inr (by simp [hl]))]
  exact ⟨⟨fun e => (by cases e),fun e => absurd e.2.2.1 hl⟩,fun _ => rfl,fun e => (by cases e)⟩
end
def nine:List (Nat × Nat):=[(0,0),(0,1),(0,2),(1,0),(1,1),(1,2),(2,0),(2,1),(2,2)]
section
variable {N:Nat} {w:World} {W:W6} {s:St} {bs:List UInt8} {Z:Nat -> Option Zd} {Ls:Nat -> Nat -> List Nat} {r:RS} {laid told:List Nat} {t:Nat} (h:CI N w W s bs Z Ls r laid told t)
include h
theorem CI.listed {x k H:Nat} (hx:x < 3) (hk:k < 3) (hm:H ∈ Ls x k):H ∈ told /\ clsN qc s H = x /\ kdN s Ls H = k + 1:=by
 obtain ⟨F,q⟩:=h.q
 have hx:x < qc.nc:=by rw [qc_nc]; exact hx
 obtain ⟨e1,e2⟩:=q.stK_cls hx hk hm
 obtain ⟨i,y,p,hf, -⟩:=q.it x k H hx hk hm
 obtain ⟨z,hz, -⟩:=q.links (H:=H) h.wat.okc h.wat.good (by rw [e2]; omega)
 exact ⟨h.lt H ((h.agr H i y p hf).1 (by rw [hz]; rfl)),e1,e2⟩
theorem CI.total:(told.filter (fun H => decide (0 < kdN s Ls H))).length = (Ls 0 0).length + (Ls 0 1).length + (Ls 0 2).length + (Ls 1 0).length + (Ls 1 1).length + (Ls 1 2).length + (Ls 2 0).length + (Ls 2 1).length + (Ls 2 2).length:=by
 obtain ⟨F,q⟩:=h.q
 have ok:=h.wat.okc
 have g:=h.wat.good
 have n9:∀ p ∈ nine,p.1 < qc.nc /\ p.2 < 3:=by rw [qc_nc]; decide
 have hnd:(nine.flatMap fun p => Ls p.1 p.2).Nodup:=by
  refine List.pairwise_flatMap.2 ⟨fun p hp => q.nd p.1 p.2 (n9 p hp).1 (n9 p hp).2,?_⟩
  refine List.Pairwise.imp_of_mem (R:=fun a b => a ≠ b) (fun {a b} ha hb hne x hx y hy e => ?_) (by decide)
  subst e
  obtain ⟨e1,e2⟩:=q.dj a.1 a.2 b.1 b.2 x (n9 a ha).1 (n9 a ha).2 (n9 b hb).1 (n9 b hb).2 hx hy
  exact hne (Prod.ext e1 e2)
 have e:=same_len (h.nd.sublist List.filter_sublist) hnd (l:=told.filter (fun H => decide (0 < kdN s Ls H))) fun H => by
  rw [List.mem_filter,List.mem_flatMap]
  constructor
  ·rintro ⟨hm,hk⟩
   have hk:kdN s Ls H ≠ 0:=by simpa [Nat.pos_iff_ne_zero] using hk
   obtain ⟨k,i,y,p,hk3, -, -, -,hc,hin⟩:=q.of_stK ok g hk
   refine ⟨(s.cls i,k),?_,hin⟩
   rw [qc_nc] at hc
   generalize s.cls i = x at hc
   have:∀ x,x < 3 -> ∀ k,k < 3 -> (x,k) ∈ nine:=by decide
   exact this x hc k hk3
  ·rintro ⟨p,hp,hin⟩
   obtain ⟨h1,h2⟩:=n9 p hp
   rw [qc_nc] at h1
   obtain ⟨a1,a2,a3⟩:=h.listed h1 h2 hin
   exact ⟨a1,by rw [a3]; simp⟩
 rw [e,List.length_flatMap]
 show (nine.map fun p => (Ls p.1 p.2).length).sum = _
 simp [nine,Nat.add_assoc]
end
section
variable {N:Nat} {w:World} {W:W6} {s:St} {bs:List UInt8} {Z:Nat -> Option Zd} {Ls:Nat -> Nat -> List Nat} {r:RS} {laid told:List Nat} {t:Nat} (h:CI N w W s bs Z Ls r laid told t) (ht:t <= 60000)
include h ht
theorem CI.isC {H:Nat} (hm:H ∈ told):Calls Tryz.prog 26 #[.pointer (some ⟨W.R.b,0,none⟩),.int .u64 (H:Int)] w fun e w' => e = .returned (.bool (decide (H ∈ laid))) /\ ∃ m,w.drewN m = w':=by
 obtain ⟨i,x,p,hf⟩:=h.tf H hm
 obtain ⟨j,hj, -⟩:=h.rel.find_some h.wat.okc h.wat.good hf
 have:=isC6 w W.R W.M qc r _ laid _ h.wat.doc h.wat.ref (h.rel.fine h.wat.okc h.wat.good) (by have:=h.ch; omega) (by have:=h.la; omega) H
 rw [hj] at this
 exact this
theorem CI.atC {H i x p:Nat} (hf:findN qc.cf s H = some (i,x,p)):Calls Tryz.prog 59 #[.pointer (some ⟨W.M.b,0,none⟩),.int .u64 (H:Int)] w fun e w' => e = .returned (.tuple #[.int .i64 (p:Int),.int .i64 (clsN qc s H:Int),.int .i64 0]) /\ Below w.heap.size w w':=by
 obtain ⟨j,hj,hx⟩:=h.rel.find_some h.wat.okc h.wat.good hf
 have ec:clsN qc s H = s.cls i:=by unfold clsN; rw [hf]
 have:=ratC w W.M qc r h.wat.ref (h.rel.fine h.wat.okc h.wat.good) (by have:=h.ch; omega) H
 rw [hj] at this
 unfold ratV at this
 simp only [hx] at this
 rw [ec]
 exact this.mono fun e w' ⟨e1,m,e2⟩ => ⟨e1,by rw [<- e2]; exact below_drewN (Below.refl _ _) m⟩
theorem CI.len {x k:Nat} (hx:x < 3) (hk:k < 3):(Ls x k).length <= told.length:=by
 obtain ⟨F,q⟩:=h.q
 have n:=q.nd x k (by rw [qc_nc]; exact hx) hk
 exact List.Nodup.length_le_of_subset n fun H hm => (h.listed hx hk hm).1
end
end Go.Proofs.YtfjiphibalhcgaaGreat.Que
/-
  What a list's walk by chain holds: the places of a list, one behind another, and the cells that chain keeps.
-/
namespace Go.Proofs.YtfjiphibalhcgaaGreat.Que
open Go.RowKit Base Arena Cls Itm Go.Shelf
theorem QI.ix {c:Conf} {s:St} {Z:Nat -> Option Zd} {F:QN} {Ls:Nat -> Nat -> List Nat} (q:QI c s Z F Ls) (ok:c.cf.Ok) (g:Cls.Good c.cf s) {x k:Nat} (hx:x < c.nc) (hk:k < 3) {i H:Nat} (hi:(Ls x k)[i]? = some H) :
    (H < 18446744073709551616 /\ H ≠ 0) /\ (nextN c s Ls H = ((Ls x k)[i + 1]?).getD 0 /\ decide (nextN c s Ls H ≠ 0) = decide (i + 1 < (Ls x k).length)) /\
      (prevN c s Ls H = (if i = 0 then 0 else ((Ls x k)[i - 1]?).getD 0) /\ decide (prevN c s Ls H ≠ 0) = decide (0 < i)):=by
  obtain ⟨hlt,e⟩:=List.getElem?_eq_some_iff.1 hi
  have hm:H ∈ Ls x k:=List.mem_of_getElem? hi
  have hl:Ls x k = (Ls x k).take i ++ H :: (Ls x k).drop (i + 1):=by
    rw [<- e, <- List.drop_eq_getElem_cons,List.take_append_drop]
  obtain ⟨n1,n2,n3⟩:=q.next_in ok g hx hk hl
  rw [List.head?_drop] at n1
  rw [List.length_drop] at n2
  have nd:=q.nd x k hx hk
  rw [hl] at nd
  have hnot:H ∉ (Ls x k).take i:=fun e => (List.nodup_append.1 nd).2.2 H e H (List.mem_cons_self ..) rfl
  obtain ⟨ec,es⟩:=q.stK_cls hx hk hm
  have ea:=ahead_split (l2:=(Ls x k).drop (i + 1)) hnot
  rw [<- hl] at ea
  have ep:prevN c s Ls H = (if i = 0 then 0 else ((Ls x k)[i - 1]?).getD 0):=by
    unfold prevN
    rw [es,if_neg (by omega),Nat.add_sub_cancel,ec,ea,List.getLast?_take]
    by_cases h0:i = 0
    · rw [if_pos h0,if_pos h0]; rfl
    · rw [if_neg h0,if_neg h0,List.getElem?_eq_getElem (by omega)]; rfl
  refine ⟨⟨n3,q.ne0 hx hk hm⟩,⟨n1,n2.trans (decide_eq_decide.2 (by omega))⟩,ep,decide_eq_decide.2 ?_⟩
  rw [ep]
  by_cases h0:i = 0
  · rw [if_pos h0]; omega
  · rw [if_neg h0,List.getElem?_eq_getElem (by omega)]
    have:=q.ne0 hx hk (List.getElem_mem (show i - 1 < (Ls x k).length by omega))
    show (Ls x k)[i - 1] ≠ 0 ↔ 0 < i
    exact ⟨fun _ => by omega,fun _ => this⟩
theorem results_cell_two {P:Program} {fn:Func} {p q:Tmp} {ty ty':TypeId} (h:fn.results = #[.cell p ty,.cell q ty']) (tmps:Array Value) (w:World) (g g':Nat) (v v':Value) (d d':TypeDesc)
    (hp:tmps.getD p undef = .pointer (some ⟨g,0,none⟩)) (hq:tmps.getD q undef = .pointer (some ⟨g',0,none⟩)) (hg:w.cell? ⟨g,0,none⟩ = some v) (hg':w.cell? ⟨g',0,none⟩ = some v')
    (hu:P.underlying ty = some d) (hd:(match d with | .struct _ | .array _ _ => true | _ => false) = false)
    (hu':P.underlying ty' = some d') (hd':(match d' with | .struct _ | .array _ _ => true | _ => false) = false) :
    (results fn tmps).run P w = .ok (.tuple #[v,v']) w:=by
  have hp':tmps[p]?.getD undef = .pointer (some ⟨g,0,none⟩):=by simpa using hp
  have hq':tmps[q]?.getD undef = .pointer (some ⟨g',0,none⟩):=by simpa using hq
  have hagg:(isAgg ty).run P w = .ok false w:=by
    unfold isAgg
    rw [Sem.run_bind,run_underlying hu w]
    cases d <;> simp_all
  have hagg':(isAgg ty').run P w = .ok false w:=by
    unfold isAgg
    rw [Sem.run_bind,run_underlying hu' w]
    cases d' <;> simp_all
  simp [results,h,hp',hq',asAddr,loadVar,Sem.run_bind,hagg,hagg',hg,hg',go_sem]
def slLen (w:World) (b:Nat):Nat:=match w.cell? ⟨b,0,none⟩ with
  | some (.slice _ n _) => n
  | _ => 0
structure ChAt (w0:World) (M K:Nat) (pre:List Nat) (v:Value) (wx:World):Prop where
  r:Boxed wx M 94 (.slice none 0 0)
  b:Boxed wx (M + 1) 4 (.bool false)
  n:Boxed wx (M + 2) 3 (.int .i64 (K:Int))
  l:Boxed wx (M + 3) 94 v
  own:wx.ownsRow (M + 4) 50 1 v pre.length (pre.map uv)
  bel:Below w0.heap.size w0 wx
  sz:M + 4 <= wx.heap.size
  hM:w0.heap.size = M
section
variable {w0 wx:World} {M K:Nat} {pre:List Nat} {v:Value} (h:ChAt w0 M K pre v wx)
include h
theorem ChAt.only {w':World} {S:Nat -> Prop} (o:Only S wx w') (hS:∀ b,S b -> M + 4 <= b /\ v.ownBlock ≠ some b):ChAt w0 M K pre v w':=by
  have sz:=h.sz
  have hM:=h.hM
  have away:∀ b,b < M + 4 -> ¬ S b:=fun b hb e => by have:=(hS b e).1; omega
  exact ⟨(o.block M (by omega) (away _ (by omega))).trans h.r,(o.block (M + 1) (by omega) (away _ (by omega))).trans h.b,(o.block (M + 2) (by omega) (away _ (by omega))).trans h.n,(o.block (M + 3) (by omega) (away _ (by omega))).trans h.l,
    own_keptN h.own fun d e => o.block d (own_blockN h.own e) fun hd => (hS d hd).2 e,h.bel.trans (o.toBelow (B:=w0.heap.size) fun k hk => ⟨by omega,away k (by omega)⟩),Nat.le_trans sz o.size,hM⟩
theorem ChAt.below {w':World} (b:Below wx.heap.size wx w'):ChAt w0 M K pre v w':=by
  have sz:=h.sz
  have hM:=h.hM
  exact ⟨(b.block M (by omega)).trans h.r,(b.block (M + 1) (by omega)).trans h.b,(b.block (M + 2) (by omega)).trans h.n,(b.block (M + 3) (by omega)).trans h.l,
    own_keptN h.own fun d e => b.block d (own_blockN h.own e),h.bel.trans (b.mono h.bel.size),Nat.le_trans sz b.size,hM⟩
theorem ChAt.snoc {o:Obj} {H:Nat} {w1:World} {v':Value} (hg:(wx.alloc o).grownBy w1 v.ownBlock) (own':w1.ownsRow (M + 4) 50 1 v' (pre.length + 1) (pre.map uv ++ [uv H])) :
    ChAt w0 M K (pre ++ [H]) v' (w1.setCell ⟨M + 3,0,none⟩ v'):=by
  have sz:=h.sz
  have hM:=h.hM
  have o1:Only (fun b => M + 4 <= b) wx w1:=((Only.refl _ wx).alloc _).grown hg fun k e hk => own_base h.own e
  have o2:Only (fun b => M + 3 <= b) wx (w1.setCell ⟨M + 3,0,none⟩ v'):=(o1.mono fun b _ e => by omega).setCell (p:=⟨M + 3,0,none⟩) (fun _ => by show M + 3 <= M + 3; omega) _
  refine ⟨(o2.block M (by omega) (by omega)).trans h.r,(o2.block (M + 1) (by omega) (by omega)).trans h.b,(o2.block (M + 2) (by omega) (by omega)).trans h.n,?_,?_,h.bel.trans (o2.toBelow (B:=w0.heap.size) fun k hk => ⟨by omega,by omega⟩),Nat.le_trans sz o2.size,hM⟩
  · have:Boxed w1 (M + 3) 94 v:=(o1.block (M + 3) (by omega) (by omega)).trans h.l
    exact this.set _
  · rw [List.length_append,List.length_singleton,List.map_append]
    exact own_keptN own' fun d e => (only_cell1 (S:=(· = M + 3)) w1 (M + 3) 0 v' rfl).block d (own_blockN own' e) (by have:=own_base own' e; omega)
theorem ChAt.box {o:Obj} {w1:World} (hg:(wx.alloc o).grownBy w1 v.ownBlock):Boxed w1 (M + 3) 94 v:=by
  have sz:=h.sz
  have o1:Only (fun b => M + 4 <= b) wx w1:=((Only.refl _ wx).alloc _).grown hg fun k e hk => own_base h.own e
  exact (o1.block (M + 3) (by omega) (by omega)).trans h.l
theorem ChAt.slLen {A:Option Addr} {n c:Nat} (e:v = .slice A n c):slLen wx (M + 3) = n:=by
  unfold Que.slLen
  rw [h.l.cell,e]
theorem ChAt.at_ {i x:Nat} (hx:pre[i]? = some x):∃ g c,v = .slice (some ⟨g,0,none⟩) pre.length c /\ M + 4 <= g /\ g < wx.heap.size /\ wx.cell? ⟨g,i,none⟩ = some (.int .u64 (x:Int)):=by
  rcases h.own.2 with ⟨e0,h0⟩ | ⟨g',cap,cur,hv,hB,hg,h1,h2,h3,h4⟩
  · have:=h.own.1
    rw [h0] at this
    have e:pre = []:=by cases pre with
      | nil => rfl
      | cons a t => simp at this
    rw [e] at hx
    cases hx
  · refine ⟨g',cap,hv,hB,own_blockN h.own (b:=g') (by rw [hv]; rfl),?_⟩
    rw [cell_of_row wx g' i cur _ (0,0) hg]
    have hx2:(pre.map uv)[i]? = some (uv x):=by rw [List.getElem?_map,hx]; rfl
    rw [<- h4,List.getElem?_take] at hx2
    split at hx2
    · simpa [uv] using hx2
    · cases hx2
end
end Go.Proofs.YtfjiphibalhcgaaGreat.Que
