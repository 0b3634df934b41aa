/-
  Contracts and lemmas, joined: LruRow, QueueAllLaw0, LruPick, LruPickN, LruDead.
-/
import Derived.Sort.QuietTacIn
import Derived.Sort.CutIn
import Derived.Test.YtngehaiigbbknaaGreatW8
import Derived.Test.YtngehaiigbbknaaGreatW9
import Derived.Test.YtngehaiigbbknaaGreatW10
set_option linter.unusedSimpArgs false
set_option linter.unusedVariables false
set_option linter.unusedSectionVars false
set_option maxRecDepth 100000
/-
  The program's Lru: the row of a class, ranged over.
-/
namespace Go.Proofs.YtngehaiigbbknaaGreat.Que
open Go.RowKit Base Arena Cls Itm Go.Shelf
attribute [local go_sem] Oper.semAt_some
theorem QI.prev_in {c:Conf} {s:St} {Z:Nat -> Option Zd} {F:QN} {Ls:Nat -> Nat -> List Nat} (q:QI c s Z F Ls) (ok:c.cf.Ok) (g:Cls.Good c.cf s) {x k H:Nat} (hx:x < c.nc) (hk:k < 3) {l1 l2:List Nat} (hl:Ls x k = l1 ++ H :: l2) :
  prevN c s Ls H = l1.getLast?.getD 0 /\ (decide (prevN c s Ls H ≠ 0)) = decide (0 < l1.length) /\ H < 18446744073709551616:=by
 have hm:H ∈ Ls x k:=by rw [hl]; simp
 obtain ⟨i,y,p,hf,hc⟩:=q.it x k H hx hk hm
 have ec:clsN c s H = x:=by unfold clsN; rw [hf]; exact hc
 have h0:stK (clsN c s H) Ls H ≠ 0:=fun e => stK_zero e k hk (by rw [ec]; exact hm)
 obtain ⟨k',i',y',p',hk',e,hf',ec',hx',hm'⟩:=q.of_stK ok g h0
 rw [<- ec',ec] at hm'
 obtain ⟨-,rfl⟩:=q.dj x k' x k H hx hk' hx hk hm' hm
 have hnd:=q.nd x k' hx hk
 rw [hl] at hnd
 have n1:H ∉ l1:=fun e => (List.nodup_append.1 hnd).2.2 H e H (List.mem_cons_self ..) rfl
 have en:prevN c s Ls H = l1.getLast?.getD 0:=by
  unfold prevN
  rw [if_neg h0,e,ec,Nat.add_sub_cancel,hl]
  unfold aheadN
  rw [idx_split n1,List.take_left]
 refine ⟨en,?_,good_lt ok g hf⟩
 rw [en]
 cases hl1:l1.getLast? with
 | none =>
  have:l1 = []:=List.getLast?_eq_none_iff.1 hl1
  subst this
  rfl
 | some a =>
  have ha0:a ∈ l1:=List.mem_of_getLast? hl1
  have ha:a ≠ 0:=q.ne0 hx hk (show a ∈ Ls x k' by rw [hl]; exact List.mem_append_left _ ha0)
  have hp : 0 < l1.length:=List.length_pos_of_mem ha0
  show decide (a ≠ 0) = decide (0 < l1.length)
  rw [decide_eq_true ha,decide_eq_true hp]
def revX (Ls:Nat -> Nat -> List Nat) (x k:Int):List Nat:=(lsN qc Ls x k).reverse
def rowX (Ls:Nat -> Nat -> List Nat) (x:Int):List Nat:=revX Ls x 3 ++ revX Ls x 2 ++ revX Ls x 1
structure KF (P:World -> Prop) (gq:Nat) (x k:Int) (R:List Nat):Prop where
 small:R.length <= 134217729
 tc:∀ w,P w -> Calls Tryz.prog 20 #[.pointer (some ⟨gq,0,none⟩),.int .i64 x,.int .i64 k] w fun e w' => e = .returned (.tuple #[.int .u64 (R.head?.getD 0:Int),.bool (decide (0 < R.length))]) /\ w = w'
 lc:∀ w,P w -> Calls Tryz.prog 43 #[.pointer (some ⟨gq,0,none⟩),.int .i64 x,.int .i64 k] w fun e w' => e = .returned (.int .i64 (R.length:Int)) /\ w = w'
 ac:∀ w,P w -> ∀ (l1:List Nat) (y:Nat) (l2:List Nat),R = l1 ++ y :: l2 -> y < 18446744073709551616 /\ Calls Tryz.prog 47 #[.pointer (some ⟨gq,0,none⟩),.int .u64 (y:Int)] w fun e w' => e = .returned (.tuple #[.int .u64 (l2.head?.getD 0:Int),.bool (decide (0 < l2.length))]) /\ Below w.heap.size w w'
theorem KF.of {P:World -> Prop} {L:Lay} {s:St} {bs:List UInt8} {Z:Nat -> Option Zd} {gq gl:Nat} {Ls:Nat -> Nat -> List Nat} {w0:World} (h:QW w0 L qc s bs Z gq gl Ls) (hP:∀ w,P w -> QW w L qc s bs Z gq gl Ls) (x k:Int):KF P gq x k (revX Ls x k):=by
 refine ⟨?_,fun w p => ?_,fun w p => ?_,fun w p l1 y l2 hl => ?_⟩
 ·unfold revX
  rw [List.length_reverse]
  unfold lsN
  split
  ·rename_i hv
   obtain ⟨F,S1,q⟩:=h
   rw [<- q.n _ _ (by omega) (by omega)]
   exact q.nB S1.okc S1.zs.good (by omega) (by omega)
  ·simp
 ·have:=tailC (hP w p) x k
  unfold revX
  rw [List.head?_reverse,List.length_reverse]
  exact this
 ·have:=lenC (hP w p) x k
  unfold revX
  rw [List.length_reverse]
  exact this
 ·have Q:=hP w p
  have Q':=Q
  obtain ⟨F,S1,q⟩:=Q'
  unfold revX lsN at hl
  split at hl
  ·rename_i hv
   have hl':Ls x.toNat (k.toNat - 1) = l2.reverse ++ y :: l1.reverse:=by
    have:=congrArg List.reverse hl
    rw [List.reverse_reverse] at this
    rw [this]
    simp
   obtain ⟨e1,e2,e3⟩:=q.prev_in S1.okc S1.zs.good (by omega) (by omega) hl'
   have:=aheadC Q y e3
   rw [e2,e1,List.getLast?_reverse,List.length_reverse] at this
   exact ⟨e3,this⟩
  ·simp at hl
theorem only_drew {S:Nat -> Prop} {w w':World} (o:Only S w w') (n:Nat):Only S w (w'.drewN n):=o.below (below_drewN (Below.refl _ _) n) o.size
theorem kind_at0 (w:World):Sem.run Tryz.prog (Instr.index 183 (.agg #[.int .i64 3,.int .i64 2,.int .i64 1]) (.int .i64 0)) w = .ok (.int .i64 3) w:=by kernel_rfl
theorem kind_at1 (w:World):Sem.run Tryz.prog (Instr.index 183 (.agg #[.int .i64 3,.int .i64 2,.int .i64 1]) (.int .i64 1)) w = .ok (.int .i64 2) w:=by kernel_rfl
theorem kind_at2 (w:World):Sem.run Tryz.prog (Instr.index 183 (.agg #[.int .i64 3,.int .i64 2,.int .i64 1]) (.int .i64 2)) w = .ok (.int .i64 1) w:=by kernel_rfl
set_option maxHeartbeats 3200000 in
theorem row1_in {w:World} {L:Lay} {s:St} {bs:List UInt8} {Z:Nat -> Option Zd} {gq gl:Nat} {Ls:Nat -> Nat -> List Nat} {mk:Nat -> Nat} {g:Nat} {hot warm:Int} (h:LS w L s bs Z gq gl Ls mk g hot warm) (x:Int) (n:Nat) (hn : 2 <= n) (l Bl Bc:Nat)
  (S:Nat -> Prop) (hS:∀ b,b < w.heap.size -> ¬ S b) (hB:¬ S Bl /\ ¬ S Bc) (J Jx:List HU -> World -> Prop) (W:World) (hw:Below w.heap.size w W) (hJ:AbidesFrom W.heap.size J)
  (hY:∀ pre (y:HU) W1,J pre W1 -> pre.length < (rowX Ls x).length -> YieldAt Fence.wide (n - 1) Tryz.prog l #[.int .u64 (y.1:Int)] W1 fun e W' =>
   (e = .returned (.bool true) /\ J (pre ++ [y]) W' /\ Only S W1 W') \/ (e = .returned (.bool false) /\ Jx (pre ++ [y]) W'))
  (cl:W.cell? ⟨Bl,0,none⟩ = some (.pointer (some ⟨g,0,none⟩))) (cc:W.cell? ⟨Bc,0,none⟩ = some (.int .i64 x)) (h0:J [] W) :
  CallsIn Fence.wide n Tryz.prog 105 #[.func (.yield l) #[] #[],.pointer (some ⟨Bl,0,none⟩),.pointer (some ⟨Bc,0,none⟩)] W fun e W' => (∃ v,e = .returned v) /\
   ((∃ ys:List HU,ys.map (·.1) = rowX Ls x /\ J ys W') \/ (∃ pre:List HU,pre.map (·.1) <+: rowX Ls x /\ Jx pre W')):=by
 have LSw:∀ wr,Only S W wr -> LS wr L s bs Z gq gl Ls mk g hot warm:=fun wr o => h.below (hw.trans (o.toBelow fun k hk => ⟨by have:=hw.size; omega,hS k hk⟩))
 have cells:∀ wr,Only S W wr -> wr.cell? ⟨Bl,0,none⟩ = some (.pointer (some ⟨g,0,none⟩)) /\ wr.cell? ⟨Bc,0,none⟩ = some (.int .i64 x) /\ wr.cell? ⟨g,1,none⟩ = some (.pointer (some ⟨gq,0,none⟩)):=fun wr o =>
  ⟨(World.cell?_of_block (a:=⟨Bl,0,none⟩) (o.block Bl (World.block_lt_of_cell? W _ cl) hB.1)).trans cl,(World.cell?_of_block (a:=⟨Bc,0,none⟩) (o.block Bc (World.block_lt_of_cell? W _ cc) hB.2)).trans cc,(LSw wr o).cells.2.1⟩
 have K3:=KF.of h.q (fun wr (o:Only S W wr) => (LSw wr o).q) x 3
 have K2:=KF.of h.q (fun wr (o:Only S W wr) => (LSw wr o).q) x 2
 have K1:=KF.of h.q (fun wr (o:Only S W wr) => (LSw wr o).q) x 1
 unfold rowX at hY ⊢
 generalize revX Ls x 3 = R3 at *
 generalize revX Ls x 2 = R2 at *
 generalize revX Ls x 1 = R1 at *
 have sm3:=K3.small
 have sm2:=K2.small
 have sm1:=K1.small
 replace K3:=Lib.hid K3
 replace K2:=Lib.hid K2
 replace K1:=Lib.hid K1
 replace cells:=Lib.hid cells
 replace hY:=Lib.hid hY
 replace hJ:=Lib.hid hJ
 replace h0:=Lib.hid h0
 clear hS hB hw cl cc LSw h
 refine callsIn_of_wp Tryz.func105 rfl trivial ?_ rfl
 simp only [Tryz.ntmps105,List.size_toArray,List.length_cons,List.length_nil,Nat.reduceAdd,Nat.reduceSub,Array.replicate_succ,Array.replicate_zero,List.push_toArray,List.append_toArray,List.nil_append,List.cons_append]
 gi_wp2_with fail
 gi_loopw [10] (fun vi wr => ∃ pre:List HU,Hid (J pre wr) /\ Hid (Only S W wr) /\ ((vi = .int .i64 0 /\ Hid (pre.map (·.1) = [])) \/ (vi = .int .i64 1 /\ Hid (pre.map (·.1) = R3)) \/ (vi = .int .i64 2 /\ Hid (pre.map (·.1) = R3 ++ R2)) \/ (vi = .int .i64 3 /\ Hid (pre.map (·.1) = R3 ++ R2 ++ R1)))) (fun vi _ => 3 - (intOf vi).toNat)
 case atStart => exact ⟨[],h0,Lib.hid (Only.refl _ _),.inl ⟨rfl,Lib.hid rfl⟩⟩
 case round =>
  obtain ⟨pre0,hJ0,ho,⟨rfl,hp0⟩ | ⟨rfl,hp0⟩ | ⟨rfl,hp0⟩ | ⟨rfl,hp0⟩⟩:=hrel
  ·have ix:=kind_at0 wr
   have q9:IntKind.i64.wrap (0 + 1) = 1:=rfl
   obtain ⟨cl1,cc1,cg1⟩:=cells.out wr ho.out
   have TC:=Lib.hid (fun nq => K3.out.tc (wr.drewN nq) (only_drew ho.out nq))
   gi_upto_region 3 with fail
   refine wpIn_region_quiet_lit rfl (by kernel_rfl) (by kernel_rfl) ?_
   iterate 6 (quiet_step_in (fail))
   refine wpQuietIn_step (by intro _ _ _ _; trivial) (fun K hK => ?_)
   go_simp
   apply Exists.intro
   refine ⟨fun _ => ⟨fun _ => by omega,CallsIn.quiet_of_same ((callsIn_wide.2 (TC.out _)).mono fun _ _ ⟨a,b⟩ => ⟨a,b.symm⟩)⟩,hK _ ?_⟩
   clear hK K
   repeat (quiet_step_in (fail))
   refine wpQuietIn_nil ?_
   intro _ hw'
   obtain ⟨nq,hw''⟩:=hw'
   subst hw''
   obtain ⟨w2,hw2⟩:∃ w2,w2 = wr.drewN nq:=⟨_,rfl⟩
   rw [<- hw2]
   have o2:Only S W w2:=by rw [hw2]; exact only_drew ho.out nq
   have J2:J pre0 w2:=by rw [hw2]; exact hJ.out _ _ _ none hJ0.out (grown_of_below (below_drewN (Below.refl _ _) nq)) (fun r e => by cases e)
   obtain ⟨cl1,cc1,cg1⟩:=cells.out w2 o2
   have LC:=Lib.hid (fun nq => K3.out.lc (w2.drewN nq) (only_drew o2 nq))
   replace o2:=Lib.hid o2
   replace J2:=Lib.hid J2
   replace hw2:=Lib.hid hw2
   clear TC hJ0 ho
   gi_upto_region 4 with fail
   refine wpIn_region_quiet_lit rfl (by kernel_rfl) (by kernel_rfl) ?_
   iterate 6 (quiet_step_in (fail))
   refine wpQuietIn_step (by intro _ _ _ _; trivial) (fun K hK => ?_)
   go_simp
   apply Exists.intro
   refine ⟨fun _ => ⟨fun _ => by omega,CallsIn.quiet_of_same ((callsIn_wide.2 (LC.out _)).mono fun _ _ ⟨a,b⟩ => ⟨a,b.symm⟩)⟩,hK _ ?_⟩
   clear hK K
   repeat (quiet_step_in (fail))
   refine wpQuietIn_nil ?_
   intro _ hw'
   obtain ⟨nq2,hw''⟩:=hw'
   subst hw''
   obtain ⟨w3,hw3⟩:∃ w3,w3 = w2.drewN nq2:=⟨_,rfl⟩
   rw [<- hw3]
   have o3:=Lib.hid (show Only S W w3 by rw [hw3]; exact only_drew o2.out nq2)
   have J3:=Lib.hid (show J pre0 w3 by rw [hw3]; exact hJ.out _ _ _ none J2.out (grown_of_below (below_drewN (Below.refl _ _) nq2)) (fun r e => by cases e))
   replace hw3:=Lib.hid hw3
   clear LC J2 o2
   gi_wp2_with fail
   gi_loopw [6,7,8] (fun th tk tn wr => ∃ (pre:List HU) (done rest:List Nat),th = .int .u64 (rest.head?.getD 0:Int) /\ tk = .bool (decide (0 < rest.length)) /\ tn = .int .i64 (rest.length:Int) /\ Hid (R3 = done ++ rest) /\ Hid (pre.map (·.1) = [] ++ done) /\ Hid (J pre wr) /\ Hid (Only S W wr)) (fun _ _ tn _ => (intOf tn).toNat)
   case atStart => exact ⟨pre0,[],R3,rfl,rfl,rfl,Lib.hid rfl,Lib.hid (by rw [hp0.out]; simp),J3,o3⟩
   case round =>
    obtain ⟨pre,done,rest,rfl,rfl,rfl,hx,hp,hJs,ho⟩:=hrel
    obtain ⟨cl1,cc1,cg1⟩:=cells.out wr ho.out
    cases rest with
    | nil =>
     have e1:(([]:List Nat).head?.getD 0) = 0:=rfl
     have e2:decide (0 < ([]:List Nat).length) = false:=rfl
     have hpe:=Lib.hid (show pre.map (·.1) = R3 by rw [hp.out,hx.out]; simp)
     rw [e1,e2]
     gi_wp2
     go_roundw
     case rel => exact ⟨pre,hJs,ho,.inr (.inl ⟨rfl,hpe⟩)⟩
     case measure => simp [intOf]
    | cons y rest =>
     obtain ⟨hy64, -⟩:=K3.out.ac wr ho.out _ _ _ hx.out
     have hfull:R3 ++ R2 ++ R1 = pre.map (·.1) ++ y :: (rest ++ (R2 ++ R1)):=by rw [hp.out,hx.out]; simp
     obtain ⟨fn,tmps,assign,body,hy,hR⟩:=hY.out pre ⟨y,hy64⟩ wr hJs.out (by rw [hfull,List.length_append,List.length_map,List.length_cons]; omega)
     dsimp only at hy
     have e1:((y :: rest).head?.getD 0) = y:=rfl
     have e2:decide (0 < (y :: rest).length) = true:=by simp
     obtain ⟨m,hm⟩:∃ m,m = (y :: rest).length:=⟨_,rfl⟩
     have hm1:m = rest.length + 1:=by rw [hm]; rfl
     rw [e1,e2, <- hm]
     have d1:decide ((0:Int) < (m:Int)) = true:=decide_eq_true (by omega)
     have d2:(0:Int) < (m:Int):=by omega
     have q1:IntKind.i64.wrap ((m:Int) - 1) = (rest.length:Int):=by
      have hl:R3.length = done.length + m:=by rw [hx.out,List.length_append, <- hm]
      rw [IntWalk.i64_in _ (by omega)]; omega
     replace hm:=Lib.hid hm
     replace hm1:=Lib.hid hm1
     replace hfull:=Lib.hid hfull
     clear e1 e2
     gi_wp2
     refine ⟨fun _ => by omega,?_⟩
     refine hR.mono ?_
     rintro e W3 (⟨rfl,hJ3,hk3⟩ | ⟨rfl,hJx3⟩)
     ·have o5:=ho.out.trans hk3 fun _ _ h => h
      obtain ⟨cl3,cc3,cg3⟩:=cells.out W3 o5
      have BB:=Lib.hid (K3.out.ac W3 o5 _ _ _ hx.out).2
      replace hJ3:=Lib.hid hJ3
      replace o5:=Lib.hid o5
      clear hk3 hJs ho
      gi_wp2_with (first | (refine ⟨trivial,fun _ => by omega,?_⟩; gi_at_call 47; refine (callsIn_wide.2 BB.out).mono ?_; rintro e w4 ⟨rfl,b4⟩) | (refine ⟨trivial,?_⟩; gi_at_call 47; refine (callsIn_wide.2 BB.out).mono ?_; rintro e w4 ⟨rfl,b4⟩) | fail)
      go_roundw
      case rel => exact ⟨pre ++ [⟨y,hy64⟩],done ++ [y],rest,rfl,rfl,rfl,Lib.hid (by rw [hx.out]; simp),Lib.hid (by rw [List.map_append,hp.out]; simp),Lib.hid (hJ.out _ _ _ none hJ3.out (grown_of_below b4) (fun r e => by cases e)),Lib.hid (o5.out.below b4 o5.out.size)⟩
      case measure => simp [intOf]; have:=hm1.out; omega
     ·gi_wp2
      refine bodyPost_ret (results_none rfl _ _ _) rfl ?_
      exact ⟨⟨_,rfl⟩,.inr ⟨pre ++ [⟨y,hy64⟩],⟨rest ++ (R2 ++ R1),by rw [hfull.out,List.map_append]; simp⟩,hJx3⟩⟩
  ·have ix:=kind_at1 wr
   have q9:IntKind.i64.wrap (1 + 1) = 2:=rfl
   obtain ⟨cl1,cc1,cg1⟩:=cells.out wr ho.out
   have TC:=Lib.hid (fun nq => K2.out.tc (wr.drewN nq) (only_drew ho.out nq))
   gi_upto_region 3 with fail
   refine wpIn_region_quiet_lit rfl (by kernel_rfl) (by kernel_rfl) ?_
   iterate 6 (quiet_step_in (fail))
   refine wpQuietIn_step (by intro _ _ _ _; trivial) (fun K hK => ?_)
   go_simp
   apply Exists.intro
   refine ⟨fun _ => ⟨fun _ => by omega,CallsIn.quiet_of_same ((callsIn_wide.2 (TC.out _)).mono fun _ _ ⟨a,b⟩ => ⟨a,b.symm⟩)⟩,hK _ ?_⟩
   clear hK K
   repeat (quiet_step_in (fail))
   refine wpQuietIn_nil ?_
   intro _ hw'
   obtain ⟨nq,hw''⟩:=hw'
   subst hw''
   obtain ⟨w2,hw2⟩:∃ w2,w2 = wr.drewN nq:=⟨_,rfl⟩
   rw [<- hw2]
   have o2:Only S W w2:=by rw [hw2]; exact only_drew ho.out nq
   have J2:J pre0 w2:=by rw [hw2]; exact hJ.out _ _ _ none hJ0.out (grown_of_below (below_drewN (Below.refl _ _) nq)) (fun r e => by cases e)
   obtain ⟨cl1,cc1,cg1⟩:=cells.out w2 o2
   have LC:=Lib.hid (fun nq => K2.out.lc (w2.drewN nq) (only_drew o2 nq))
   replace o2:=Lib.hid o2
   replace J2:=Lib.hid J2
   replace hw2:=Lib.hid hw2
   clear TC hJ0 ho
   gi_upto_region 4 with fail
   refine wpIn_region_quiet_lit rfl (by kernel_rfl) (by kernel_rfl) ?_
   iterate 6 (quiet_step_in (fail))
   refine wpQuietIn_step (by intro _ _ _ _; trivial) (fun K hK => ?_)
   go_simp
   apply Exists.intro
   refine ⟨fun _ => ⟨fun _ => by omega,CallsIn.quiet_of_same ((callsIn_wide.2 (LC.out _)).mono fun _ _ ⟨a,b⟩ => ⟨a,b.symm⟩)⟩,hK _ ?_⟩
   clear hK K
   repeat (quiet_step_in (fail))
   refine wpQuietIn_nil ?_
   intro _ hw'
   obtain ⟨nq2,hw''⟩:=hw'
   subst hw''
   obtain ⟨w3,hw3⟩:∃ w3,w3 = w2.drewN nq2:=⟨_,rfl⟩
   rw [<- hw3]
   have o3:=Lib.hid (show Only S W w3 by rw [hw3]; exact only_drew o2.out nq2)
   have J3:=Lib.hid (show J pre0 w3 by rw [hw3]; exact hJ.out _ _ _ none J2.out (grown_of_below (below_drewN (Below.refl _ _) nq2)) (fun r e => by cases e))
   replace hw3:=Lib.hid hw3
   clear LC J2 o2
   gi_wp2_with fail
   gi_loopw [6,7,8] (fun th tk tn wr => ∃ (pre:List HU) (done rest:List Nat),th = .int .u64 (rest.head?.getD 0:Int) /\ tk = .bool (decide (0 < rest.length)) /\ tn = .int .i64 (rest.length:Int) /\ Hid (R2 = done ++ rest) /\ Hid (pre.map (·.1) = R3 ++ done) /\ Hid (J pre wr) /\ Hid (Only S W wr)) (fun _ _ tn _ => (intOf tn).toNat)
   case atStart => exact ⟨pre0,[],R2,rfl,rfl,rfl,Lib.hid rfl,Lib.hid (by rw [hp0.out]; simp),J3,o3⟩
   case round =>
    obtain ⟨pre,done,rest,rfl,rfl,rfl,hx,hp,hJs,ho⟩:=hrel
    obtain ⟨cl1,cc1,cg1⟩:=cells.out wr ho.out
    cases rest with
    | nil =>
     have e1:(([]:List Nat).head?.getD 0) = 0:=rfl
     have e2:decide (0 < ([]:List Nat).length) = false:=rfl
     have hpe:=Lib.hid (show pre.map (·.1) = R3 ++ R2 by rw [hp.out,hx.out]; simp)
     rw [e1,e2]
     gi_wp2
     go_roundw
     case rel => exact ⟨pre,hJs,ho,.inr (.inr (.inl ⟨rfl,hpe⟩))⟩
     case measure => simp [intOf]
    | cons y rest =>
     obtain ⟨hy64, -⟩:=K2.out.ac wr ho.out _ _ _ hx.out
     have hfull:R3 ++ R2 ++ R1 = pre.map (·.1) ++ y :: (rest ++ (R1)):=by rw [hp.out,hx.out]; simp
     obtain ⟨fn,tmps,assign,body,hy,hR⟩:=hY.out pre ⟨y,hy64⟩ wr hJs.out (by rw [hfull,List.length_append,List.length_map,List.length_cons]; omega)
     dsimp only at hy
     have e1:((y :: rest).head?.getD 0) = y:=rfl
     have e2:decide (0 < (y :: rest).length) = true:=by simp
     obtain ⟨m,hm⟩:∃ m,m = (y :: rest).length:=⟨_,rfl⟩
     have hm1:m = rest.length + 1:=by rw [hm]; rfl
     rw [e1,e2, <- hm]
     have d1:decide ((0:Int) < (m:Int)) = true:=decide_eq_true (by omega)
     have d2:(0:Int) < (m:Int):=by omega
     have q1:IntKind.i64.wrap ((m:Int) - 1) = (rest.length:Int):=by
      have hl:R2.length = done.length + m:=by rw [hx.out,List.length_append, <- hm]
      rw [IntWalk.i64_in _ (by omega)]; omega
     replace hm:=Lib.hid hm
     replace hm1:=Lib.hid hm1
     replace hfull:=Lib.hid hfull
     clear e1 e2
     gi_wp2
     refine ⟨fun _ => by omega,?_⟩
     refine hR.mono ?_
     rintro e W3 (⟨rfl,hJ3,hk3⟩ | ⟨rfl,hJx3⟩)
     ·have o5:=ho.out.trans hk3 fun _ _ h => h
      obtain ⟨cl3,cc3,cg3⟩:=cells.out W3 o5
      have BB:=Lib.hid (K2.out.ac W3 o5 _ _ _ hx.out).2
      replace hJ3:=Lib.hid hJ3
      replace o5:=Lib.hid o5
      clear hk3 hJs ho
      gi_wp2_with (first | (refine ⟨trivial,fun _ => by omega,?_⟩; gi_at_call 47; refine (callsIn_wide.2 BB.out).mono ?_; rintro e w4 ⟨rfl,b4⟩) | (refine ⟨trivial,?_⟩; gi_at_call 47; refine (callsIn_wide.2 BB.out).mono ?_; rintro e w4 ⟨rfl,b4⟩) | fail)
      go_roundw
      case rel => exact ⟨pre ++ [⟨y,hy64⟩],done ++ [y],rest,rfl,rfl,rfl,Lib.hid (by rw [hx.out]; simp),Lib.hid (by rw [List.map_append,hp.out]; simp),Lib.hid (hJ.out _ _ _ none hJ3.out (grown_of_below b4) (fun r e => by cases e)),Lib.hid (o5.out.below b4 o5.out.size)⟩
      case measure => simp [intOf]; have:=hm1.out; omega
     ·gi_wp2
      refine bodyPost_ret (results_none rfl _ _ _) rfl ?_
      exact ⟨⟨_,rfl⟩,.inr ⟨pre ++ [⟨y,hy64⟩],⟨rest ++ (R1),by rw [hfull.out,List.map_append]; simp⟩,hJx3⟩⟩
  ·have ix:=kind_at2 wr
   have q9:IntKind.i64.wrap (2 + 1) = 3:=rfl
   obtain ⟨cl1,cc1,cg1⟩:=cells.out wr ho.out
   have TC:=Lib.hid (fun nq => K1.out.tc (wr.drewN nq) (only_drew ho.out nq))
   gi_upto_region 3 with fail
   refine wpIn_region_quiet_lit rfl (by kernel_rfl) (by kernel_rfl) ?_
   iterate 6 (quiet_step_in (fail))
   refine wpQuietIn_step (by intro _ _ _ _; trivial) (fun K hK => ?_)
   go_simp
   apply Exists.intro
   refine ⟨fun _ => ⟨fun _ => by omega,CallsIn.quiet_of_same ((callsIn_wide.2 (TC.out _)).mono fun _ _ ⟨a,b⟩ => ⟨a,b.symm⟩)⟩,hK _ ?_⟩
   clear hK K
   repeat (quiet_step_in (fail))
   refine wpQuietIn_nil ?_
   intro _ hw'
   obtain ⟨nq,hw''⟩:=hw'
   subst hw''
   obtain ⟨w2,hw2⟩:∃ w2,w2 = wr.drewN nq:=⟨_,rfl⟩
   rw [<- hw2]
   have o2:Only S W w2:=by rw [hw2]; exact only_drew ho.out nq
   have J2:J pre0 w2:=by rw [hw2]; exact hJ.out _ _ _ none hJ0.out (grown_of_below (below_drewN (Below.refl _ _) nq)) (fun r e => by cases e)
   obtain ⟨cl1,cc1,cg1⟩:=cells.out w2 o2
   have LC:=Lib.hid (fun nq => K1.out.lc (w2.drewN nq) (only_drew o2 nq))
   replace o2:=Lib.hid o2
   replace J2:=Lib.hid J2
   replace hw2:=Lib.hid hw2
   clear TC hJ0 ho
   gi_upto_region 4 with fail
   refine wpIn_region_quiet_lit rfl (by kernel_rfl) (by kernel_rfl) ?_
   iterate 6 (quiet_step_in (fail))
   refine wpQuietIn_step (by intro _ _ _ _; trivial) (fun K hK => ?_)
   go_simp
   apply Exists.intro
   refine ⟨fun _ => ⟨fun _ => by omega,CallsIn.quiet_of_same ((callsIn_wide.2 (LC.out _)).mono fun _ _ ⟨a,b⟩ => ⟨a,b.symm⟩)⟩,hK _ ?_⟩
   clear hK K
   repeat (quiet_step_in (fail))
   refine wpQuietIn_nil ?_
   intro _ hw'
   obtain ⟨nq2,hw''⟩:=hw'
   subst hw''
   obtain ⟨w3,hw3⟩:∃ w3,w3 = w2.drewN nq2:=⟨_,rfl⟩
   rw [<- hw3]
   have o3:=Lib.hid (show Only S W w3 by rw [hw3]; exact only_drew o2.out nq2)
   have J3:=Lib.hid (show J pre0 w3 by rw [hw3]; exact hJ.out _ _ _ none J2.out (grown_of_below (below_drewN (Below.refl _ _) nq2)) (fun r e => by cases e))
   replace hw3:=Lib.hid hw3
   clear LC J2 o2
   gi_wp2_with fail
   gi_loopw [6,7,8] (fun th tk tn wr => ∃ (pre:List HU) (done rest:List Nat),th = .int .u64 (rest.head?.getD 0:Int) /\ tk = .bool (decide (0 < rest.length)) /\ tn = .int .i64 (rest.length:Int) /\ Hid (R1 = done ++ rest) /\ Hid (pre.map (·.1) = (R3 ++ R2) ++ done) /\ Hid (J pre wr) /\ Hid (Only S W wr)) (fun _ _ tn _ => (intOf tn).toNat)
   case atStart => exact ⟨pre0,[],R1,rfl,rfl,rfl,Lib.hid rfl,Lib.hid (by rw [hp0.out]; simp),J3,o3⟩
   case round =>
    obtain ⟨pre,done,rest,rfl,rfl,rfl,hx,hp,hJs,ho⟩:=hrel
    obtain ⟨cl1,cc1,cg1⟩:=cells.out wr ho.out
    cases rest with
    | nil =>
     have e1:(([]:List Nat).head?.getD 0) = 0:=rfl
     have e2:decide (0 < ([]:List Nat).length) = false:=rfl
     have hpe:=Lib.hid (show pre.map (·.1) = R3 ++ R2 ++ R1 by rw [hp.out,hx.out]; simp)
     rw [e1,e2]
     gi_wp2
     go_roundw
     case rel => exact ⟨pre,hJs,ho,.inr (.inr (.inr ⟨rfl,hpe⟩))⟩
     case measure => simp [intOf]
    | cons y rest =>
     obtain ⟨hy64, -⟩:=K1.out.ac wr ho.out _ _ _ hx.out
     have hfull:R3 ++ R2 ++ R1 = pre.map (·.1) ++ y :: (rest ++ ([])):=by rw [hp.out,hx.out]; simp
     obtain ⟨fn,tmps,assign,body,hy,hR⟩:=hY.out pre ⟨y,hy64⟩ wr hJs.out (by rw [hfull,List.length_append,List.length_map,List.length_cons]; omega)
     dsimp only at hy
     have e1:((y :: rest).head?.getD 0) = y:=rfl
     have e2:decide (0 < (y :: rest).length) = true:=by simp
     obtain ⟨m,hm⟩:∃ m,m = (y :: rest).length:=⟨_,rfl⟩
     have hm1:m = rest.length + 1:=by rw [hm]; rfl
     rw [e1,e2, <- hm]
     have d1:decide ((0:Int) < (m:Int)) = true:=decide_eq_true (by omega)
     have d2:(0:Int) < (m:Int):=by omega
     have q1:IntKind.i64.wrap ((m:Int) - 1) = (rest.length:Int):=by
      have hl:R1.length = done.length + m:=by rw [hx.out,List.length_append, <- hm]
      rw [IntWalk.i64_in _ (by omega)]; omega
     replace hm:=Lib.hid hm
     replace hm1:=Lib.hid hm1
     replace hfull:=Lib.hid hfull
     clear e1 e2
     gi_wp2
     refine ⟨fun _ => by omega,?_⟩
     refine hR.mono ?_
     rintro e W3 (⟨rfl,hJ3,hk3⟩ | ⟨rfl,hJx3⟩)
     ·have o5:=ho.out.trans hk3 fun _ _ h => h
      obtain ⟨cl3,cc3,cg3⟩:=cells.out W3 o5
      have BB:=Lib.hid (K1.out.ac W3 o5 _ _ _ hx.out).2
      replace hJ3:=Lib.hid hJ3
      replace o5:=Lib.hid o5
      clear hk3 hJs ho
      gi_wp2_with (first | (refine ⟨trivial,fun _ => by omega,?_⟩; gi_at_call 47; refine (callsIn_wide.2 BB.out).mono ?_; rintro e w4 ⟨rfl,b4⟩) | (refine ⟨trivial,?_⟩; gi_at_call 47; refine (callsIn_wide.2 BB.out).mono ?_; rintro e w4 ⟨rfl,b4⟩) | fail)
      go_roundw
      case rel => exact ⟨pre ++ [⟨y,hy64⟩],done ++ [y],rest,rfl,rfl,rfl,Lib.hid (by rw [hx.out]; simp),Lib.hid (by rw [List.map_append,hp.out]; simp),Lib.hid (hJ.out _ _ _ none hJ3.out (grown_of_below b4) (fun r e => by cases e)),Lib.hid (o5.out.below b4 o5.out.size)⟩
      case measure => simp [intOf]; have:=hm1.out; omega
     ·gi_wp2
      refine bodyPost_ret (results_none rfl _ _ _) rfl ?_
      exact ⟨⟨_,rfl⟩,.inr ⟨pre ++ [⟨y,hy64⟩],⟨rest ++ ([]),by rw [hfull.out,List.map_append]; simp⟩,hJx3⟩⟩
  ·gi_wp2
   go_end0
   exact ⟨⟨_,rfl⟩,.inl ⟨pre0,hp0.out,hJ0.out⟩⟩
end Go.Proofs.YtngehaiigbbknaaGreat.Que
/-
  What ranges over All need, that names no statement.
-/
namespace Go.Proofs.YtngehaiigbbknaaGreat.Que
open Go.RowKit Base Arena Cls Itm Go.Shelf
attribute [local go_sem] Oper.semAt_some
theorem ownFrom_only {β:Type} {B:Nat} {S:Nat -> Prop} {w:World} (hB:w.heap.size <= B):OwnFrom B (fun (_ : β) W => Only S w W):=fun _ X Y row hs hg hr => hs.grown hg fun k e hk => by have:=(hr k e).1; omega
theorem results_cell_one {P:Program} {fn:Func} {p:Tmp} {ty:TypeId} (h:fn.results = #[.cell p ty]) (tmps:Array Value) (w:World) (g:Nat) (v:Value) (d:TypeDesc)
  (hp:tmps.getD p undef = .pointer (some ⟨g,0,none⟩)) (hg:w.cell? ⟨g,0,none⟩ = some v)
  (hu:P.underlying ty = some d) (hd:(match d with | .struct _ | .array _ _ => true | _ => false) = false) :
  (results fn tmps).run P w = .ok v w:=by
 have hp':tmps[p]?.getD undef = .pointer (some ⟨g,0,none⟩):=by simpa using hp
 have hagg:(isAgg ty).run P w = .ok false w:=by
  unfold isAgg
  rw [Sem.run_bind,run_underlying hu w]
  cases d <;> simp_all
 simp [results,h,hp',asAddr,loadVar,Sem.run_bind,hagg,hg,go_sem]
theorem prefix_snoc {p l:List Nat} {z:Nat} (h:p <+: l) (hz:l[p.length]? = some z):p ++ [z] <+: l:=by
 obtain ⟨t,rfl⟩:=h
 rw [List.getElem?_append_right (Nat.le_refl _),Nat.sub_self] at hz
 cases t with
 | nil => cases hz
 | cons a t =>
  injection hz with hz
  subst hz
  exact ⟨t,by simp⟩
theorem prefix_not {p l:List Nat} {y z:Nat} (hz:l[p.length]? = some z) (hne:¬ y = z):¬ p ++ [y] <+: l:=by
 rintro ⟨t,rfl⟩
 rw [List.append_assoc,List.getElem?_append_right (Nat.le_refl _),Nat.sub_self] at hz
 injection hz with hz
 exact hne hz
end Go.Proofs.YtngehaiigbbknaaGreat.Que
/-
  The program's Lru: the row's iterator, for Pick.
-/
namespace Go.Proofs.YtngehaiigbbknaaGreat.Que
open Go.RowKit Base Arena Cls Itm Go.Shelf
attribute [local go_sem] Oper.semAt_some
theorem rowC0 (w:World) (g:Nat) (x:Int):Calls Tryz.prog 69 #[.pointer (some ⟨g,0,none⟩),.int .i64 x] w fun e w' =>
  e = .returned (.func (.func 105) #[] #[.pointer (some ⟨w.heap.size,0,none⟩),.pointer (some ⟨w.heap.size + 1,0,none⟩)]) /\
  w' = (w.alloc (.cells #[.pointer (some ⟨g,0,none⟩)] 25)).alloc (.cells #[.int .i64 x] 3):=by
 go_enter Tryz.func69,Tryz.ntmps69
 go_wp2
 go_ret
 exact ⟨rfl,rfl⟩
theorem nil_funcB (w:World):Sem.run Tryz.prog (binOp BinOp.neq 54 .nilFunc .nilFunc) w = .ok (.bool false) w:=by kernel_rfl
theorem results_cells3 {P:Program} {fn:Func} {p q r:Tmp} {t1 t2 t3:TypeId} (h:fn.results = #[.cell p t1,.cell q t2,.cell r t3]) (tmps:Array Value) (w:World) (g1 g2 g3:Nat) (v1 v2 v3:Value) (d1 d2 d3:TypeDesc)
  (hp:tmps.getD p undef = .pointer (some ⟨g1,0,none⟩)) (hq:tmps.getD q undef = .pointer (some ⟨g2,0,none⟩)) (hr:tmps.getD r undef = .pointer (some ⟨g3,0,none⟩))
  (c1:w.cell? ⟨g1,0,none⟩ = some v1) (c2:w.cell? ⟨g2,0,none⟩ = some v2) (c3:w.cell? ⟨g3,0,none⟩ = some v3)
  (u1:P.underlying t1 = some d1) (u2:P.underlying t2 = some d2) (u3:P.underlying t3 = some d3)
  (n1:(match d1 with | .struct _ | .array _ _ => true | _ => false) = false) (n2:(match d2 with | .struct _ | .array _ _ => true | _ => false) = false) (n3:(match d3 with | .struct _ | .array _ _ => true | _ => false) = false) :
  (results fn tmps).run P w = .ok (.tuple #[v1,v2,v3]) w:=by
 have hp':tmps[p]?.getD undef = .pointer (some ⟨g1,0,none⟩):=by simpa using hp
 have hq':tmps[q]?.getD undef = .pointer (some ⟨g2,0,none⟩):=by simpa using hq
 have hr':tmps[r]?.getD undef = .pointer (some ⟨g3,0,none⟩):=by simpa using hr
 have a1:(isAgg t1).run P w = .ok false w:=by
  unfold isAgg
  rw [Sem.run_bind,run_underlying u1 w]
  cases d1 <;> simp_all
 have a2:(isAgg t2).run P w = .ok false w:=by
  unfold isAgg
  rw [Sem.run_bind,run_underlying u2 w]
  cases d2 <;> simp_all
 have a3:(isAgg t3).run P w = .ok false w:=by
  unfold isAgg
  rw [Sem.run_bind,run_underlying u3 w]
  cases d3 <;> simp_all
 simp [results,h,hp',hq',hr',asAddr,loadVar,Sem.run_bind,a1,a2,a3,c1,c2,c3,go_sem]
theorem row_seq {w:World} {L:Lay} {s:St} {bs:List UInt8} {Z:Nat -> Option Zd} {gq gl:Nat} {Ls:Nat -> Nat -> List Nat} {mk:Nat -> Nat} {g:Nat} {hot warm:Int} (h:LS w L s bs Z gq gl Ls mk g hot warm) (x:Int) (n:Nat) (hn : 2 <= n) (Bl Bc:Nat) (S:Nat -> Prop) (w0:World) (hw:Below w.heap.size w w0) (hS:∀ b,b < w.heap.size -> ¬ S b) (hB:¬ S Bl /\ ¬ S Bc)
  (cl:w0.cell? ⟨Bl,0,none⟩ = some (.pointer (some ⟨g,0,none⟩))) (cc:w0.cell? ⟨Bc,0,none⟩ = some (.int .i64 x)) :
  SeqStopsK Fence.wide n Tryz.prog 105 #[.pointer (some ⟨Bl,0,none⟩),.pointer (some ⟨Bc,0,none⟩)] (fun y:HU => #[Value.int .u64 (y.1:Int)]) (Only S)
   (fun ys:List HU => ys.map (·.1) = rowX Ls x) (fun pre:List HU => pre.map (·.1) <+: rowX Ls x) (rowX Ls x).length w0:=fun l' J' Jx' W' hb' hJ' hJx' hY' h0' =>
 row1_in h x n hn l' Bl Bc S hS hB J' Jx' W' (hw.trans (hb'.mono hw.size)) hJ' hY' ((hb'.cell (p:=⟨Bl,0,none⟩) (World.block_lt_of_cell? w0 _ cl)).trans cl) ((hb'.cell (p:=⟨Bc,0,none⟩) (World.block_lt_of_cell? w0 _ cc)).trans cc) h0'
section
variable {w:World} {L:Lay} {s:St} {bs:List UInt8} {Z:Nat -> Option Zd} {gq gl:Nat} {Ls:Nat -> Nat -> List Nat} {mk:Nat -> Nat} {g:Nat} {hot warm:Int} (h:LS w L s bs Z gq gl Ls mk g hot warm)
include h
theorem LS.rowB (x:Int):(rowX Ls x).length <= 402653187:=by
 have h1:=h.lenB x 1
 have h2:=h.lenB x 2
 have h3:=h.lenB x 3
 unfold rowX revX
 rw [List.length_append,List.length_append,List.length_reverse,List.length_reverse,List.length_reverse]
 unfold lenX at h1 h2 h3
 omega
end
end Go.Proofs.YtngehaiigbbknaaGreat.Que
/-
  Pick in plain numbers: who is looked at, and who is named.
-/
namespace Go.Proofs.YtngehaiigbbknaaGreat.Que
open Go.RowKit Base Arena Cls Itm
def seenN (D:Nat -> Bool):Nat -> List Nat -> List Nat
 | 0,_ => []
 | _ + 1,[] => []
 | k + 1,y :: l => y :: (if D y = true then [] else seenN D k l)
def othN (own:Nat) (l:List Nat):List Nat:=l.filter (fun y => !decide (y = own))
def deadN (D:Nat -> Bool) (l:List Nat):Bool:=match l.getLast? with | some y => D y | none => false
def calmN (A:Nat -> Bool) (l:List Nat):Nat:=(l.find? (fun y => !A y)).getD (l.head?.getD 0)
def namedN (A D:Nat -> Bool) (l:List Nat):Nat:=if deadN D l = true then l.getLast?.getD 0 else calmN A l
theorem othN_app (own:Nat) (l m:List Nat):othN own (l ++ m) = othN own l ++ othN own m:=List.filter_append ..
theorem othN_own (own:Nat) (l:List Nat) (y:Nat) (h:y = own):othN own (l ++ [y]) = othN own l:=by
 rw [othN_app]
 subst h
 unfold othN
 simp
theorem othN_new (own:Nat) (l:List Nat) (y:Nat) (h:¬ y = own):othN own (l ++ [y]) = othN own l ++ [y]:=by
 rw [othN_app]
 unfold othN
 simp [h]
theorem othN_len (own:Nat) (l:List Nat):(othN own l).length <= l.length:=List.length_filter_le _ _
theorem mem_othN {own:Nat} {l:List Nat} {y:Nat} (h:y ∈ othN own l):y ∈ l /\ y ≠ own:=by
 unfold othN at h
 simpa using h
theorem seenN_app {D:Nat -> Bool}:∀ {a:List Nat} {k:Nat} (l:List Nat),(∀ y ∈ a,D y = false) -> a.length <= k -> seenN D k (a ++ l) = a ++ seenN D (k - a.length) l
 | [],k,l,_,_ => rfl
 | y :: a,0,l,_,hk => by simp at hk
 | y :: a,k + 1,l,h,hk => by
  have e1:D y = false:=h y (List.mem_cons_self ..)
  have ih:=seenN_app (k:=k) l (fun z hz => h z (List.mem_cons_of_mem _ hz)) (by simpa using hk)
  show y :: (if D y = true then [] else seenN D k (a ++ l)) = _
  rw [e1,if_neg (by decide),ih,List.length_cons,Nat.add_sub_add_right]
  rfl
structure GoesP (D:Nat -> Bool) (own k:Nat) (pre:List Nat):Prop where
 no:∀ y ∈ othN own pre,D y = false
 lt:(othN own pre).length < k
theorem GoesP.done {D:Nat -> Bool} {own k:Nat} {pre:List Nat} (h:GoesP D own k pre):seenN D k (othN own pre) = othN own pre:=by
 have:=seenN_app (k:=k) [] h.no (Nat.le_of_lt h.lt)
 rw [List.append_nil] at this
 rw [this]
 cases hk:k - (othN own pre).length <;> simp [seenN]
theorem deadN_no {D:Nat -> Bool} {l:List Nat} (h:∀ y ∈ l,D y = false):deadN D l = false:=by
 unfold deadN
 cases e:l.getLast? with
 | none => rfl
 | some y => exact h y (List.mem_of_getLast? e)
theorem seenN_full {D:Nat -> Bool} {own k:Nat} {pre l:List Nat} (h:∀ y ∈ othN own pre,D y = false) (e:(othN own pre).length = k):seenN D k (othN own (pre ++ l)) = othN own pre:=by
 rw [othN_app,seenN_app _ h (Nat.le_of_eq e),e,Nat.sub_self]
 simp [seenN]
theorem seenN_dead {D:Nat -> Bool} {own k:Nat} {pre l:List Nat} {y:Nat} (h:GoesP D own k pre) (hy:¬ y = own) (hd:D y = true):seenN D k (othN own (pre ++ [y] ++ l)) = othN own pre ++ [y]:=by
 have h1:=h.lt
 rw [othN_app,othN_new own pre y hy,List.append_assoc,seenN_app _ h.no (Nat.le_of_lt h1)]
 obtain ⟨j,hj⟩:∃ j,k - (othN own pre).length = j + 1:=⟨k - (othN own pre).length - 1,by omega⟩
 rw [hj]
 show _ ++ (y :: (if D y = true then [] else seenN D j (othN own l))) = _
 rw [if_pos hd]
theorem namedN_dead {A D:Nat -> Bool} {l:List Nat} {y:Nat} (hd:D y = true):namedN A D (l ++ [y]) = y /\ deadN D (l ++ [y]) = true:=by
 have e:deadN D (l ++ [y]) = true:=by unfold deadN; rw [List.getLast?_concat]; exact hd
 refine ⟨?_,e⟩
 unfold namedN
 rw [if_pos e,List.getLast?_concat]
 rfl
theorem namedN_no {A D:Nat -> Bool} {l:List Nat} (h:∀ y ∈ l,D y = false):namedN A D l = calmN A l /\ deadN D l = false:=by
 have e:=deadN_no h
 refine ⟨?_,e⟩
 unfold namedN
 rw [e,if_neg (by decide)]
def fstN (a:List Nat):Nat:=a.head?.getD 0
def cmN (A:Nat -> Bool) (a:List Nat):Nat:=(a.find? (fun y => !A y)).getD 0
theorem calmN_eq {A:Nat -> Bool} {a:List Nat} (h:∀ z ∈ a,z ≠ 0):calmN A a = if cmN A a = 0 then fstN a else cmN A a:=by
 unfold calmN cmN fstN
 cases e:a.find? (fun y => !A y) with
 | none => simp
 | some b =>
  have hb:b ≠ 0:=h b (List.mem_of_find?_eq_some e)
  simp [hb]
section
variable {w:World} {L:Lay} {s:St} {bs:List UInt8} {Z:Nat -> Option Zd} {gq gl:Nat} {Ls:Nat -> Nat -> List Nat}
theorem row_ne0 (h:QW w L qc s bs Z gq gl Ls) (x:Int):∀ y ∈ rowX Ls x,y ≠ 0:=by
 obtain ⟨F,S,q⟩:=h
 have one:∀ k:Int,∀ y ∈ revX Ls x k,y ≠ 0:=fun k y hy => by
  unfold revX lsN at hy
  split at hy
  ·rename_i hv
   rw [List.mem_reverse] at hy
   exact q.ne0 (by omega) (by omega) hy
  ·simp at hy
 intro y hy
 unfold rowX at hy
 rw [List.mem_append,List.mem_append] at hy
 rcases hy with (h1 | h1) | h1
 ·exact one _ y h1
 ·exact one _ y h1
 ·exact one _ y h1
end
def IsU (X:World) (b:Nat):Prop:=∃ cs fr,X.heap[b]? = some (.cells cs 50 fr)
theorem isU_not {X:World} {b:Nat} {cs:Array Value} {t:TypeId} {fr:Nat × Nat} (h:X.heap[b]? = some (.cells cs t fr)) (ht:t ≠ 50):¬ IsU X b:=by
 rintro ⟨cs',fr',e⟩
 rw [h] at e
 injection e with e
 injection e with e1 e2 e3
 exact ht e2
theorem isU_cells {X:World} {b:Nat} {o:Obj} (h:X.heap[b]? = some o) (ho:o.isCells = false):¬ IsU X b:=by
 rintro ⟨cs',fr',e⟩
 rw [h] at e
 injection e with e
 subst e
 cases ho
structure DeadFn (lo hi:Nat) (D:Nat -> Bool) (dv:Value) (J:List Nat -> World -> Prop):Prop where
 le:lo <= hi
 stay:∀ a X Y,J a X -> X.heap.size <= Y.heap.size -> (∀ b,b < X.heap.size -> (b < hi \/ IsU X b) -> Y.heap[b]? = X.heap[b]?) -> J a Y
 ask:(dv = .nilFunc /\ (∀ y,D y = false) /\ ∀ a y X,J a X -> J (a ++ [y]) X) \/ ∃ fd caps,dv = .func (.func fd) #[] caps /\ (∀ args w,(callFunc fd args).run Tryz.prog w = .ok (.enter fd args) w) /\
  ∀ a (y:Nat) X,y < 18446744073709551616 -> J a X -> hi <= X.heap.size -> a.length <= 402653187 -> Calls Tryz.prog fd (#[.int .u64 (y:Int)] ++ caps) X fun e X' => e = .returned (.bool (D y)) /\ J (a ++ [y]) X' /\ Only (fun b => lo <= b /\ (b < hi \/ IsU X b)) X X'
section
variable {lo hi:Nat} {D:Nat -> Bool} {dv:Value} {J:List Nat -> World -> Prop} (h:DeadFn lo hi D dv J)
include h
theorem DeadFn.below {a:List Nat} {X Y:World} (j:J a X) (b:Below X.heap.size X Y):J a Y:=h.stay a X Y j b.size fun k hk _ => b.block k hk
theorem DeadFn.set_ {a:List Nat} {X:World} (j:J a X) {b:Nat} {cs:Array Value} {t:TypeId} (B:X.heap[b]? = some (.cells cs t (0,0))) (ht:t ≠ 50) (hb:hi <= b) (v:Value):J a (X.setCell ⟨b,0,none⟩ v) :=
 h.stay a X _ j (by simp) fun k hk hc => Below.heap_setCell _ _ _ _ (show k ≠ b from fun e => by
  subst e
  rcases hc with hc | hc
  ·omega
  ·exact isU_not B ht hc)
theorem DeadFn.own {β:Type} (B:Nat) (f : β -> List Nat) (hB:hi <= B):OwnFrom B (fun (s : β) W => J (f s) W):=fun s X Y row hs hg hr =>
 h.stay _ X Y hs hg.size fun k hk hc => hg.block k hk fun e => by
  obtain ⟨h1,o,h2,h3⟩:=hr k e.symm
  rcases hc with hc | hc
  ·omega
  ·exact isU_cells h2 h3 hc
end
def NoU (M:Nat) (X:World):Prop:=∀ b,M <= b -> b < M + 11 -> ¬ IsU X b
theorem NoU.of {M:Nat} {S:Nat -> Prop} {X Y:World} (h:NoU M X) (o:Only S X Y) (hs:∀ b,M <= b -> b < M + 11 -> S b -> b = M + 6 \/ b = M + 7 \/ b = M + 8) (hM:M + 11 <= X.heap.size)
  {v6 v7 v8:Value} (b6:Boxed Y (M + 6) 3 v6) (b7:Boxed Y (M + 7) 51 v7) (b8:Boxed Y (M + 8) 51 v8):NoU M Y:=by
 intro b h1 h2
 by_cases hS:S b
 ·rcases hs b h1 h2 hS with rfl | rfl | rfl
  ·exact isU_not b6 (by decide)
  ·exact isU_not b7 (by decide)
  ·exact isU_not b8 (by decide)
 ·rintro ⟨cs,fr,e⟩
  exact h b h1 h2 ⟨cs,fr,(o.block b (by omega) hS).symm.trans e⟩
def PkS (lo M:Nat) (b:Nat):Prop:=lo <= b /\ b < M \/ b = M + 6 \/ b = M + 7 \/ b = M + 8 \/ M + 11 <= b
theorem pks_dead {lo M:Nat} {X X':World} (n:NoU M X) (o:Only (fun b => lo <= b /\ (b < M \/ IsU X b)) X X'):Only (PkS lo M) X X' /\ KeepsFrom (M + 11) X X':=by
 constructor
 ·exact o.mono fun b hb ⟨h1,h2⟩ => by
   by_cases hM:b < M
   ·exact .inl ⟨h1,hM⟩
   ·rcases Nat.lt_or_ge b (M + 11) with h3 | h3
    ·exact absurd (h2.resolve_left hM) (n b (by omega) h3)
    ·exact .inr (.inr (.inr (.inr h3)))
 ·exact ⟨o.size,fun k ob hk ho hc => (o.block k (heap_lt ho) (fun ⟨h1,h2⟩ => by
   rcases h2 with h2 | h2
   ·omega
   ·exact isU_cells ho hc h2)).trans ho⟩
theorem pks_set {lo M:Nat} {X:World} {b:Nat} (hb:b = M + 6 \/ b = M + 7 \/ b = M + 8) (v:Value):Only (PkS lo M) X (X.setCell ⟨b,0,none⟩ v) /\ KeepsFrom (M + 11) X (X.setCell ⟨b,0,none⟩ v):=by
 have o:Only (fun k => k = b) X (X.setCell ⟨b,0,none⟩ v):=only_cell1 (S:=fun k => k = b) X b 0 v rfl
 refine ⟨o.mono fun k _ e => ?_,⟨o.size,fun k ob hk ho hc => (o.block k (heap_lt ho) (fun e => by omega)).trans ho⟩⟩
 subst e
 unfold PkS
 omega
theorem pks_below {lo M:Nat} {X Y:World} (b:Below X.heap.size X Y):Only (PkS lo M) X Y /\ KeepsFrom (M + 11) X Y:=⟨below_any b,b.size,fun k ob hk ho hc => (b.block k (heap_lt ho)).trans ho⟩
theorem pks_trans {lo M:Nat} {X Y Z:World} (h:Only (PkS lo M) X Y /\ KeepsFrom (M + 11) X Y) (k:Only (PkS lo M) Y Z /\ KeepsFrom (M + 11) Y Z):Only (PkS lo M) X Z /\ KeepsFrom (M + 11) X Z:=⟨h.1.trans k.1 fun _ _ e => e,h.2.trans k.2⟩
end Go.Proofs.YtngehaiigbbknaaGreat.Que
