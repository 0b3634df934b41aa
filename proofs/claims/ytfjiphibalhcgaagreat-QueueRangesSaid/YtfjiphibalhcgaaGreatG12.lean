/-
  Contracts and lemmas, joined: QueueSeq3, QueueAllLaw, QueueDoesLaw, QueueDoesAll, QueueEnds, QueueWakes, QueueExactLaw, QueueArg, QueueRowPlain, QueueRowAt, RoundQuiet, RoundTail, QueueRg.
-/
import Derived.Sort.QuietTacIn
import Derived.OwnWalkIn
import Derived.StillTail
import Derived.Test.YtfjiphibalhcgaaGreatG1
import Derived.Test.YtfjiphibalhcgaaGreatG10
import Derived.Test.YtfjiphibalhcgaaGreatG11
set_option linter.unusedSimpArgs false
set_option linter.unusedVariables false
set_option linter.unusedSectionVars false
set_option maxRecDepth 100000
/-
  The queue's iterators: All's closure.
-/
namespace Go.Proofs.YtfjiphibalhcgaaGreat.Que
open Go.RowKit Base Arena Cls Itm Go.Shelf
attribute [local go_sem] Oper.semAt_some
theorem infoH:(Tryz.prog.info? 50).map (fun i => (i.zero,i.size,i.bytes)) = some (some (.int .u64 0),1,8):=by kernel_rfl
theorem own_less {w:World} {N B n:Nat} {e:TypeId} {v:Value} {xs:List Value} (h:w.ownsRow B e 1 v n xs) (hN:N <= B):w.ownsRow N e 1 v n xs :=
 ⟨h.1,h.2.imp id fun ⟨g,cap,cur,e1,hB,hh⟩ => ⟨g,cap,cur,e1,by omega,hh⟩⟩
def hv (x:HU):Value:=.int .u64 (x.1:Int)
set_option maxHeartbeats 2000000 in
theorem all1_in {w:World} {L:Lay} {c:Conf} {s:St} {bs:List UInt8} {Z:Nat -> Option Zd} {gq gl:Nat} {Ls:Nat -> Nat -> List Nat} (h:QW w L c s bs Z gq gl Ls) (x kind:Int) (n:Nat) (hn : 6 <= n) (l Bq Bc Bk D:Nat)
  (J Jx:List HU -> World -> Prop) (W:World) (hw:Below w.heap.size w W) (hD:D <= W.heap.size) (hJ:OwnFrom W.heap.size J) (hJx:OwnFrom W.heap.size Jx)
  (hY:∀ pre (y:HU) W1,J pre W1 -> pre.length < (lsN c Ls x kind).length -> YieldAt Fence.wide (n - 1) Tryz.prog l #[.int .u64 (y.1:Int)] W1 fun e W' =>
   (e = .returned (.bool true) /\ J (pre ++ [y]) W' /\ KeepP D W1 W') \/ (e = .returned (.bool false) /\ Jx (pre ++ [y]) W' /\ KeepP D W1 W'))
  (cq:W.cell? ⟨Bq,0,none⟩ = some (.pointer (some ⟨gq,0,none⟩))) (cc:W.cell? ⟨Bc,0,none⟩ = some (.int .i64 x)) (ck:W.cell? ⟨Bk,0,none⟩ = some (.int .i64 kind)) (h0:J [] W) :
  CallsIn Fence.wide n Tryz.prog 52 #[.func (.yield l) #[] #[],.pointer (some ⟨Bq,0,none⟩),.pointer (some ⟨Bc,0,none⟩),.pointer (some ⟨Bk,0,none⟩)] W fun e W' => (∃ v,e = .returned v) /\
   ((∃ ys:List HU,ys.map (·.1) = lsN c Ls x kind /\ J ys W') \/ (∃ pre:List HU,pre.map (·.1) <+: lsN c Ls x kind /\ Jx pre W')):=by
 obtain ⟨i0,hi,hz0,hz1,hz2⟩:=info_parts infoH
 have h1 : 1 <= n:=by omega
 have AC:=Lib.hid (fun w1 => alongC w1 gq x kind)
 obtain ⟨M,hM⟩:∃ M,M = W.heap.size:=⟨_,rfl⟩
 obtain ⟨W1,hW1⟩:∃ W1,W1 = (((W.alloc (.cells #[.slice none 0 0] 94)).alloc (.cells #[.pointer (some ⟨gq,0,none⟩)] 29)).alloc (.cells #[.int .i64 x] 3)).alloc (.cells #[.int .i64 kind] 3):=⟨_,rfl⟩
 have z1:W1.heap.size = M + 4:=by rw [hW1,hM,World.size_alloc,World.size_alloc,World.size_alloc,World.size_alloc]
 have bT:Boxed W1 M 94 (.slice none 0 0):=by rw [hW1,hM]; exact (((Boxed.new W _ _).alloc _).alloc _).alloc _
 have b1:Below W.heap.size W W1:=by rw [hW1]; exact ((((Below.refl _ W).alloc (Nat.le_refl _) _).alloc (by simp) _).alloc (by simp; omega) _).alloc (by simp; omega) _
 have d1:W1.cell? ⟨M + 1,0,none⟩ = some (.pointer (some ⟨gq,0,none⟩)):=by
  rw [hW1,hM]
  exact (((blk_new' (World.size_alloc _ _)).alloc _).alloc _).cell 0
 have d2:W1.cell? ⟨M + 2,0,none⟩ = some (.int .i64 x):=by
  rw [hW1,hM]
  exact ((blk_new' (by rw [World.size_alloc,World.size_alloc])).alloc _).cell 0
 have d3:W1.cell? ⟨M + 3,0,none⟩ = some (.int .i64 kind):=by
  rw [hW1,hM]
  exact (blk_new' (by rw [World.size_alloc,World.size_alloc,World.size_alloc])).cell 0
 have cq1:=(World.cell?_alloc_lt W (.cells #[.slice none 0 0] 94) _ (World.block_lt_of_cell? W _ cq)).trans cq
 have cc1:=(World.cell?_alloc_lt W (.cells #[.slice none 0 0] 94) _ (World.block_lt_of_cell? W _ cc)).trans cc
 have ck1:=(World.cell?_alloc_lt W (.cells #[.slice none 0 0] 94) _ (World.block_lt_of_cell? W _ ck)).trans ck
 have mA:M <= W.heap.size:=by omega
 have mB:W.heap.size <= M:=by omega
 have zA:W1.heap.size <= M + 4:=by omega
 have zB:M + 4 <= W1.heap.size:=by omega
 replace hW1:=Lib.hid hW1
 replace hM:=Lib.hid hM
 replace z1:=Lib.hid z1
 replace h0:=Lib.hid h0
 replace hJ:=Lib.hid hJ
 replace hY:=Lib.hid hY
 refine callsIn_of_wp_marks Tryz.func52 rfl trivial ?_ rfl
 simp only [Tryz.ntmps52,List.size_toArray,List.length_cons,List.length_nil,Nat.reduceAdd,Nat.reduceSub,Array.replicate_succ,Array.replicate_zero,List.push_toArray,List.append_toArray,List.nil_append,List.cons_append]
 gi_wp2_with (first | (refine ⟨trivial,?_⟩; gi_at_call 53; refine (callsIn_wide.2 (AC.out _)).mono ?_; rintro e w' ⟨rfl,rfl⟩) | fail)
 rw [<- hW1.out, <- hM.out]
 have sw:=hw.size
 have small:(lsN c Ls x kind).length <= 134217729:=by
  unfold lsN
  split
  ·rename_i hv
   obtain ⟨F,S1,q⟩:=h
   rw [<- q.n _ _ (by omega) (by omega)]
   exact q.nB S1.okc S1.zs.good (by omega) (by omega)
  ·simp
 have hseq:SeqStopsK Fence.wide (n - 1) Tryz.prog 95 #[.pointer (some ⟨M + 1,0,none⟩),.pointer (some ⟨M + 2,0,none⟩),.pointer (some ⟨M + 3,0,none⟩)] (fun y:HU => #[Value.int .u64 (y.1:Int)])
   (Only fun b => b = M \/ W1.heap.size <= b) (fun ys:List HU => ys.map (·.1) = lsN c Ls x kind) (fun pre:List HU => pre.map (·.1) <+: lsN c Ls x kind) (lsN c Ls x kind).length W1:=fun l' J' Jx' W' hb' hJ' hJx' hY' h0' => by
  have e1:=hb'
  exact along1_in h x kind (n - 1) (by omega) l' (M + 1) (M + 2) (M + 3) (fun b => b = M \/ W1.heap.size <= b) (fun b hb hS => by omega) ⟨fun hS => by omega,fun hS => by omega,fun hS => by omega⟩ J' Jx' W' ((hw.trans (b1.mono sw)).trans (hb'.mono (by omega))) hJ' hY'
   ((hb'.cell (p:=⟨M + 1,0,none⟩) (by show M + 1 < _; omega)).trans d1) ((hb'.cell (p:=⟨M + 2,0,none⟩) (by show M + 2 < _; omega)).trans d2) ((hb'.cell (p:=⟨M + 3,0,none⟩) (by show M + 3 < _; omega)).trans d3) h0'
 refine wpIn_rangeFunc_ownG rfl h1 (gf:=95) (lb:=#[.pointer (some ⟨M + 1,0,none⟩),.pointer (some ⟨M + 2,0,none⟩),.pointer (some ⟨M + 3,0,none⟩)]) rfl trivial (enters_of Tryz.func95 (by kernel_rfl) rfl)
  hseq (fun h k => h.trans k fun _ _ h => h) (fun W' l' o o' hl ho h1 h2 => ⟨rfl,rfl,rfl,(grownBy_putObj' W' l' o').size,fun b hb hS => World.putObj_heap_other (fun e => hS (.inr (e ▸ hl)))⟩) (Below.refl _ _) (fun _ => rfl)
  (fun pre Wx => (∃ v,Boxed Wx M 94 v /\ Wx.ownsRow W1.heap.size 50 1 v pre.length (pre.map hv) /\ True) /\ (Below W.heap.size W Wx /\ W1.heap.size <= Wx.heap.size))
  (fun _ _ _ => False)
  (OwnFrom.and (Own.from (holdsRow_own W1.heap.size M 94 50 1 (fun pre:List HU => pre.length) (fun pre:List HU => pre.map hv) (fun _ _ => True)) _) (OwnFrom.and (ownFrom_below (Nat.le_refl _) (by omega)) (fun _ _ _ _ hs hg _ => Nat.le_trans hs hg.size)))
  (fun _ _ _ _ _ hs _ _ => hs)
  ⟨⟨_,bT,World.ownsRow_nil _ _ _ _,trivial⟩,b1,Nat.le_refl _⟩
  (fun y => { tmps:=#[.func (.yield l) #[] #[],.pointer (some ⟨Bq,0,none⟩),.pointer (some ⟨Bc,0,none⟩),.pointer (some ⟨Bk,0,none⟩),undef,.pointer (some ⟨M,0,none⟩),.int .u64 (y.1:Int),undef,undef,.pointer (some ⟨gq,0,none⟩),.int .i64 x,.int .i64 kind,
   .func (.func 95) #[] #[.pointer (some ⟨M + 1,0,none⟩),.pointer (some ⟨M + 2,0,none⟩),.pointer (some ⟨M + 3,0,none⟩)],.int .u64 (y.1:Int),undef,undef,undef,undef,undef,undef,undef,undef,undef,undef,undef,undef,undef,undef,undef],defers:=[] }) ?assign ?body ?done ?stop
 case assign =>
  intro l' y W' K hK
  gi_wp2
  exact hK
 case body =>
  rintro l' pre y Wx ⟨⟨v,hv',hrow, -⟩,hB,hS⟩ hlt
  have hc:=hv'.cell
  have sB:=hB.size
  gi_wp2_with (gi_at_builtin; refine wpListIn_append_own _ rfl _ _ 94 rfl W1.heap.size 50 i0 (.int .u64 0) 1 8 Tryz.underlying94 hi hz0 hz1 hz2 rfl (by decide) _ _ _ rfl (hrow.alloc _) ⟨Wx.heap.size,0,none⟩ 1 1 [.int .u64 (y.1:Int)] rfl rfl (cell_one_new _ _ _) ?b0 ?b1 ?b2 ?b3 ?_)
  case b0 => simp [Value.oneCell']
  case b1 => unfold maxLen; omega
  case b2 => omega
  case b3 => omega
  intro v' w1 hown' hgrow _
  obtain ⟨g',cap',rfl⟩:=ownsRow_succ hown'
  obtain ⟨hv1,hv2, -,hk2, -⟩:=hv'.appended (n₀:=0) (by decide) (own_less hrow (Nat.zero_le _)) (Nat.zero_le _) (Nat.zero_le _) (own_less hown' (Nat.zero_le _)) hgrow
  have hc1:=hv1.cell
  have hf1:=hv1.frozen
  have hr2:=hown'.kept (grownBy_setCell' w1 M (.slice (some ⟨g',0,none⟩) (pre.length + 1) cap')) (.inr (hv1.not_row (by decide) hown').symm)
  have oS:Only (fun b => b = M \/ W1.heap.size <= b) Wx (w1.setCell ⟨M,0,none⟩ (.slice (some ⟨g',0,none⟩) (pre.length + 1) cap')):=(((Only.refl _ Wx).alloc _).grown hgrow (fun k e hk => .inr (own_base hrow e))).setCell (p:=⟨M,0,none⟩) (fun _ => .inl rfl) _
  have bF:=hB.trans (oS.toBelow (B:=W.heap.size) fun k hk => ⟨by omega,fun e => by omega⟩)
  replace hr2:=Lib.hid hr2
  replace hv2:=Lib.hid hv2
  replace hk2:=Lib.hid hk2
  replace oS:=Lib.hid oS
  replace bF:=Lib.hid bF
  clear hown' hgrow hrow hB hv'
  gi_wp2
  exact ⟨hk2.out.from _,oS.out,⟨_,hv2.out,by have:=hr2.out; simpa [hv] using this,trivial⟩,bF.out,Nat.le_trans hS oS.out.size⟩
 case done =>
  rintro D' ys Wx hD' hys ⟨⟨v,hv',hrow, -⟩,hB,hS⟩ hK
  obtain ⟨A,cp,rfl⟩:=own_is hrow
  have hc:=hv'.cell
  have hl:ys.length = (lsN c Ls x kind).length:=by rw [<- hys,List.length_map]
  have hJ0:=hJ.out [] W Wx none h0.out (grown_of_below hB) (fun r e => by cases e)
  obtain ⟨K,hKl⟩:∃ K,K = ys.length:=⟨_,rfl⟩
  rw [<- hKl] at hc
  have at_:∀ i (hi:i < ys.length),∃ g,A = some ⟨g,0,none⟩ /\ D <= g /\ ∃ o,Wx.heap[g]? = some o /\ prot o = true /\ Wx.cell? ⟨g,i,none⟩ = some (.int .u64 (ys[i].1:Int)):=by
   intro i hi
   have hx:(ys.map hv)[i]? = some (hv ys[i]):=by rw [List.getElem?_map,List.getElem?_eq_getElem hi]; rfl
   rcases hrow.2 with ⟨e0,h0⟩ | ⟨g,cap,cur,hv2,hBg,hg,h1,h2,h3,h4⟩
   ·have:=hrow.1
    omega
   ·injection hv2 with hv2 hv3 hv4
    refine ⟨g,hv2,by omega,_,hg,rfl,?_⟩
    rw [cell_of_row Wx g i cur _ (0,0) hg]
    rw [<- h4,List.getElem?_take] at hx
    split at hx
    ·simpa [hv] using hx
    ·cases hx
  have hkK:K <= 134217729:=by omega
  replace at_:=Lib.hid at_
  replace hys:=Lib.hid hys
  replace hJ0:=Lib.hid hJ0
  replace hK:=Lib.hid hK
  replace hKl:=Lib.hid hKl
  replace hl:=Lib.hid hl
  clear hrow hv' hB
  gi_wp2
  gi_loopw [20] (fun ti wr => ∃ i:Nat,ti = .int .i64 (i:Int) /\ i <= K /\ Hid (J (ys.take i) wr) /\ Hid (KeepP D Wx wr)) (fun ti _ => K - (intOf ti).toNat)
  case atStart => exact ⟨0,rfl,Nat.zero_le _,hJ0,Lib.hid (KeepP.refl _ _)⟩
  case round =>
   obtain ⟨i,rfl,hi',hJs,kp⟩:=hrel
   by_cases hlt:i < K
   ·have hiy:i < ys.length:=by rw [<- hKl.out]; exact hlt
    obtain ⟨g,rfl,hDg,o,hgo,hpo,hcl⟩:=at_.out i hiy
    have hcr:wr.cell? ⟨g,i,none⟩ = some (.int .u64 (ys[i].1:Int)):=(World.cell?_of_block (a:=⟨g,i,none⟩) ((kp.out.same g o hDg hgo hpo).trans hgo.symm)).trans hcl
    obtain ⟨fn,tmps,assign,body,hy,hR⟩:=hY.out (ys.take i) ys[i] wr hJs.out (by rw [List.length_take]; have:=hl.out; omega)
    have hts:ys.take (i + 1) = ys.take i ++ [ys[i]]:=by rw [List.take_add_one,List.getElem?_eq_getElem hiy]; rfl
    rw [<- hts] at hR
    generalize ys[i] = y at *
    have i0':(0:Int) <= (i:Int):=by omega
    have i1':(i:Int) < (K:Int):=by omega
    have d1':decide ((i:Int) < (K:Int)) = true:=decide_eq_true i1'
    have q1:IntKind.i64.wrap ((i:Int) + 1) = (i:Int) + 1:=IntWalk.i64_in _ (by omega)
    replace hts:=Lib.hid hts
    clear hcl hgo hiy
    gi_wp2
    refine hR.mono ?_
    rintro e W3 (⟨rfl,hJ3,hk3⟩ | ⟨rfl,hJx3,hk3⟩)
    ·gi_wp2
     go_roundw
     case rel => exact ⟨i + 1,by simp,by omega,Lib.hid hJ3,Lib.hid (kp.out.trans hk3)⟩
     case measure => simp [intOf] <;> omega
    ·have hK3:=(kp.out.trans hk3).same D' _ (by omega) hK.out rfl
     gi_wp2
     refine ⟨by simp,.inl ⟨_,_,rfl,run_takeDeferred hK3,?_⟩⟩
     exact ⟨_,results_none rfl _ _ _,⟨_,rfl⟩,.inr ⟨ys.take (i + 1),by rw [<- hys.out,List.map_take]; exact List.take_prefix _ _,hJx.putObj _ hJx3 (by omega) hK3 rfl⟩⟩
   ·obtain rfl:i = K:=by omega
    have hK3:=kp.out.same D' _ (by omega) hK.out rfl
    have d1':decide ((i:Int) < (i:Int)) = false:=by simp
    gi_wp2
    refine ⟨by simp,.inl ⟨_,_,rfl,run_takeDeferred hK3,?_⟩⟩
    exact ⟨_,results_none rfl _ _ _,⟨_,rfl⟩,.inl ⟨ys,hys.out,by have:=hJs.out; rw [List.take_of_length_le (by rw [<- hKl.out]; exact Nat.le_refl _)] at this; exact hJ.out.putObj _ this (by omega) hK3 rfl⟩⟩
 case stop =>
  rintro D' c' pre Wx _ _ h _
  exact h.elim
end Go.Proofs.YtfjiphibalhcgaaGreat.Que
/-
  The walk of all.
-/
namespace Go.Proofs.YtfjiphibalhcgaaGreat.Que
open Go.RowKit Base Arena Cls Itm Go.Shelf
attribute [local go_sem] Oper.semAt_some
theorem all_seq {w:World} {L:Lay} {c:Conf} {s:St} {bs:List UInt8} {Z:Nat -> Option Zd} {gq gl:Nat} {Ls:Nat -> Nat -> List Nat} (h:QW w L c s bs Z gq gl Ls) (x kind:Int) (n:Nat) (hn : 6 <= n) (Bq Bc Bk:Nat)
    (cq:w.cell? ⟨Bq,0,none⟩ = some (.pointer (some ⟨gq,0,none⟩))) (cc:w.cell? ⟨Bc,0,none⟩ = some (.int .i64 x)) (ck:w.cell? ⟨Bk,0,none⟩ = some (.int .i64 kind)) :
    SeqP n Tryz.prog 52 #[.pointer (some ⟨Bq,0,none⟩),.pointer (some ⟨Bc,0,none⟩),.pointer (some ⟨Bk,0,none⟩)] (fun y:HU => #[Value.int .u64 (y.1:Int)]) (KeepP w.heap.size)
      (fun ys:List HU => ys.map (·.1) = lsN c Ls x kind) (fun pre:List HU => pre.map (·.1) <+: lsN c Ls x kind) (lsN c Ls x kind).length w:=fun l J Jx W hw hJ hJx hY h0 =>
  all1_in h x kind n hn l Bq Bc Bk w.heap.size J Jx W hw hw.size hJ hJx hY ((hw.cell (p:=⟨Bq,0,none⟩) (World.block_lt_of_cell? w _ cq)).trans cq) ((hw.cell (p:=⟨Bc,0,none⟩) (World.block_lt_of_cell? w _ cc)).trans cc) ((hw.cell (p:=⟨Bk,0,none⟩) (World.block_lt_of_cell? w _ ck)).trans ck) h0
theorem ownFrom_only {β:Type} {B:Nat} {S:Nat -> Prop} {w:World} (hB:w.heap.size <= B):OwnFrom B (fun (_ : β) W => Only S w W):=fun _ X Y row hs hg hr => hs.grown hg fun k e hk => by have:=(hr k e).1; omega
theorem results_cell_one {P:Program} {fn:Func} {p:Tmp} {ty:TypeId} (h:fn.results = #[.cell p ty]) (tmps:Array Value) (w:World) (g:Nat) (v:Value) (d:TypeDesc)
    (hp:tmps.getD p undef = .pointer (some ⟨g,0,none⟩)) (hg:w.cell? ⟨g,0,none⟩ = some v)
    (hu:P.underlying ty = some d) (hd:(match d with | .struct _ | .array _ _ => true | _ => false) = false) :
    (results fn tmps).run P w = .ok v w:=by
  have hp':tmps[p]?.getD undef = .pointer (some ⟨g,0,none⟩):=by simpa using hp
  have hagg:(isAgg ty).run P w = .ok false w:=by
    unfold isAgg
    rw [Sem.run_bind,run_underlying hu w]
    cases d <;> simp_all
  simp [results,h,hp',asAddr,loadVar,Sem.run_bind,hagg,hg,go_sem]
theorem prefix_snoc {p l:List Nat} {z:Nat} (h:p <+: l) (hz:l[p.length]? = some z):p ++ [z] <+: l:=by
  obtain ⟨t,rfl⟩:=h
  rw [List.getElem?_append_right (Nat.le_refl _),Nat.sub_self] at hz
  cases t with
  | nil => cases hz
  | cons a t =>
    injection hz with hz
    subst hz
    exact ⟨t,by simp⟩
theorem prefix_not {p l:List Nat} {y z:Nat} (hz:l[p.length]? = some z) (hne:¬ y = z):¬ p ++ [y] <+: l:=by
  rintro ⟨t,rfl⟩
  rw [List.append_assoc,List.getElem?_append_right (Nat.le_refl _),Nat.sub_self] at hz
  injection hz with hz
  exact hne hz
theorem func_nil (a b d:Nat) (w:World):Sem.run Tryz.prog (binOp BinOp.eql 41 (.func (.func 52) #[] #[.pointer (some ⟨a,0,none⟩),.pointer (some ⟨b,0,none⟩),.pointer (some ⟨d,0,none⟩)]) .nilFunc) w = .ok (.bool false) w:=by kernel_rfl
section
variable {N:Nat} {w:World} {W:W6} {s:St} {bs:List UInt8} {Z:Nat -> Option Zd} {Ls:Nat -> Nat -> List Nat} {r:RS} {laid told:List Nat} {t:Nat} (h:WI N w W s bs Z Ls r laid told t) (ht:t <= 60000)
include h ht
set_option maxHeartbeats 2000000 in
theorem allLawC (x kind:Int):Calls Tryz.prog 40 #[.pointer (some ⟨W.b,0,none⟩),.int .i64 x,.int .i64 kind] w fun e w' => e = .returned (.bool true) /\ Below w.heap.size w w':=by
  refine (callsIn_wide (n:=20)).1 ?_
  obtain ⟨M,hM⟩:∃ M,M = w.heap.size:=⟨_,rfl⟩
  obtain ⟨w1,hw1⟩:∃ w1,w1 = w.alloc (.cells #[.bool false] 4):=⟨_,rfl⟩
  have b1:Below w.heap.size w w1:=by rw [hw1]; exact (Below.refl _ _).alloc (Nat.le_refl _) _
  have z1:w1.heap.size = M + 1:=by rw [hw1,hM]; exact World.size_alloc _ _
  have bx6:Boxed w1 M 4 (.bool false):=by rw [hw1,hM]; exact Boxed.new _ _ _
  have h1:=h.below b1
  have AC:=((h1.d6 ht).all x kind)
  obtain ⟨y0,y1,y2,y3,y4⟩:=h1.wat.cW
  obtain ⟨l,hl⟩:∃ l,l = lsN qc Ls x kind:=⟨_,rfl⟩
  rw [<- hl] at AC
  obtain ⟨K,hK⟩:∃ K,K = l.length:=⟨_,rfl⟩
  rw [<- hK] at AC
  have hK1:K <= 134217729:=by
    rw [hK,hl]
    obtain ⟨F,S1,q⟩:=h.wat.q
    unfold lsN
    split
    · rename_i hv
      rw [<- q.n _ _ (by omega) (by omega)]
      exact q.nB S1.okc S1.zs.good (by omega) (by omega)
    · simp
  replace hl:=Lib.hid hl
  replace hK:=Lib.hid hK
  have y3a:=y3
  rw [hw1] at y3a
  replace AC:=Lib.hid AC
  replace hw1:=Lib.hid hw1
  replace hM:=Lib.hid hM
  refine callsIn_of_wp_marks Tryz.func40 rfl trivial ?_ rfl
  simp only [Tryz.ntmps40,List.size_toArray,List.length_cons,List.length_nil,Nat.reduceAdd,Nat.reduceSub,Array.replicate_succ,Array.replicate_zero,List.push_toArray,List.append_toArray,List.nil_append,List.cons_append]
  gi_wp2_with fail
  rw [<- hw1.out, <- hM.out]
  refine ⟨trivial,?_⟩
  gi_at_call 18
  refine (callsIn_wide.2 AC.out).mono ?_
  rintro e w2 ⟨A,cp,rfl,b2,own2⟩
  have h2:=h1.below b2
  obtain ⟨w3,hw3⟩:∃ w3,w3 = w2.alloc (.cells #[.slice A K cp] 45):=⟨_,rfl⟩
  obtain ⟨B7,hB7⟩:∃ B7,B7 = w2.heap.size:=⟨_,rfl⟩
  have b3:Below w2.heap.size w2 w3:=by rw [hw3]; exact (Below.refl _ _).alloc (Nat.le_refl _) _
  have z3:w3.heap.size = B7 + 1:=by rw [hw3,hB7]; exact World.size_alloc _ _
  have bx7:Boxed w3 B7 45 (.slice A K cp):=by rw [hw3,hB7]; exact Boxed.new _ _ _
  have own3:w3.ownsRow w1.heap.size 26 1 (.slice A K cp) K (l.map uv):=by rw [hw3]; exact own2.alloc _
  have h3:=h2.below b3
  obtain ⟨-,y1, -, -, -⟩:=h3.wat.cW
  have y1a:=y1
  rw [hw3] at y1a
  have C0:=Lib.hid (allC0 w3 W.gq x kind)
  have zz2:M + 1 <= w2.heap.size:=by have:=b2.size; omega
  have b63:Below (M + 1) w1 w3:=(b2.mono (by omega)).trans (b3.mono (by omega))
  have bx63:Boxed w3 M 4 (.bool false):=(b63.block M (by omega)).trans bx6
  have bw3:Below w.heap.size w w3:=b1.trans (b63.mono (by have:=hM.out; omega))
  replace hw3:=Lib.hid hw3
  replace hB7:=Lib.hid hB7
  replace z3:=Lib.hid z3
  replace z1:=Lib.hid z1
  clear AC h1 h2 b2 b3 own2 y0 y2 y3 y4 y3a b1 bx6 b63
  gi_wp2_with fail
  rw [<- hw3.out]
  refine ⟨trivial,?_⟩
  gi_at_call 17
  refine (callsIn_wide.2 C0.out).mono ?_
  rintro e w' ⟨rfl,hw4⟩
  obtain ⟨w4,hw4b⟩:∃ w4,w4 = w':=⟨_,rfl⟩
  rw [<- hw4b]
  rw [<- hw4b] at hw4
  clear hw4b
  obtain ⟨C1,hC1⟩:∃ C1,C1 = w3.heap.size:=⟨_,rfl⟩
  have b4:Below w3.heap.size w3 w4:=by rw [hw4]; exact (((Below.refl _ w3).alloc (Nat.le_refl _) _).alloc (by rw [World.size_alloc]; omega) _).alloc (by rw [World.size_alloc,World.size_alloc]; omega) _
  have z4:w4.heap.size = C1 + 3:=by rw [hw4,hC1,World.size_alloc,World.size_alloc,World.size_alloc]
  have d1:w4.cell? ⟨C1,0,none⟩ = some (.pointer (some ⟨W.gq,0,none⟩)):=by rw [hw4,hC1]; exact (((Blk.new w3 _ _).alloc _).alloc _).cell 0
  have d2:w4.cell? ⟨C1 + 1,0,none⟩ = some (.int .i64 x):=by rw [hw4,hC1]; exact ((blk_new' (World.size_alloc _ _)).alloc _).cell 0
  have d3:w4.cell? ⟨C1 + 2,0,none⟩ = some (.int .i64 kind):=by rw [hw4,hC1]; exact (blk_new' (by rw [World.size_alloc,World.size_alloc])).cell 0
  rw [<- hC1, <- hB7.out]
  have sz3:C1 <= w3.heap.size:=by omega
  obtain ⟨B9,hB9⟩:∃ B9,B9 = w4.heap.size:=⟨_,rfl⟩
  obtain ⟨w5,hw5⟩:∃ w5,w5 = w4.alloc (.cells #[.int .i64 0] 3):=⟨_,rfl⟩
  have b5:Below w4.heap.size w4 w5:=by rw [hw5]; exact (Below.refl _ _).alloc (Nat.le_refl _) _
  have z5:w5.heap.size = B9 + 1:=by rw [hw5,hB9]; exact World.size_alloc _ _
  have bx9:Boxed w5 B9 3 (.int .i64 0):=by rw [hw5,hB9]; exact Boxed.new _ _ _
  have b35:Below w3.heap.size w3 w5:=b4.trans (b5.mono (by omega))
  have q1:B7 + 1 <= w3.heap.size:=by rw [z3.out]; exact Nat.le_refl _
  have q2:M + 1 <= B7:=by rw [hB7.out]; exact zz2
  have q3:w3.heap.size + 3 <= B9:=by omega
  have q4:B9 + 1 <= w5.heap.size:=by omega
  have q5:w5.heap.size <= B9 + 1:=by omega
  have bx65:Boxed w5 M 4 (.bool false):=(b35.block M (by omega)).trans bx63
  have bx75:Boxed w5 B7 45 (.slice A K cp):=(b35.block B7 (by omega)).trans bx7
  have e1:=(b5.cell (p:=⟨C1,0,none⟩) (by show C1 < _; omega)).trans d1
  have e2:=(b5.cell (p:=⟨C1 + 1,0,none⟩) (by show C1 + 1 < _; omega)).trans d2
  have e3:=(b5.cell (p:=⟨C1 + 2,0,none⟩) (by show C1 + 2 < _; omega)).trans d3
  have hseq:=all_seq (h3.wat.below b35).q x kind (20 - 1) (by omega) C1 (C1 + 1) (C1 + 2) e1 e2 e3
  rw [<- hl.out, <- hK.out] at hseq
  have bw5:Below w.heap.size w w5:=bw3.trans (b35.mono bw3.size)
  have els:∀ (i z:Nat),l[i]? = some z -> ∃ g,A = some ⟨g,0,none⟩ /\ g < w5.heap.size /\ g ≠ M /\ g ≠ B9 /\ w5.cell? ⟨g,i,none⟩ = some (.int .u64 (z:Int)):=by
    intro i z hz
    obtain ⟨g,c',hv,u⟩:=own_uv own3 hz
    injection hv with hv1 hv2 hv3
    have hgl:=own_blockN own3 (b:=g) (by rw [hv1]; rfl)
    have hgb:=own_base own3 (b:=g) (by rw [hv1]; rfl)
    refine ⟨g,hv1,by omega,by have:=z1.out; omega,by omega,(b35.cell (p:=⟨g,i,none⟩) hgl).trans u⟩
  replace hw5:=Lib.hid hw5
  replace hB9:=Lib.hid hB9
  replace hC1:=Lib.hid hC1
  replace z4:=Lib.hid z4
  replace z5:=Lib.hid z5
  replace els:=Lib.hid els
  replace hw4:=Lib.hid hw4
  clear h3 C0 y1 y1a bx7 own3 bx63 b4 b5 b35 d1 d2 d3 e1 e2 e3 sz3
  have fn0:=func_nil C1 (C1 + 1) (C1 + 2) w4
  gi_wp2_with fail
  rw [<- hw5.out, <- hB9.out]
  refine range_law (by omega) (gf:=52) (lb:=#[.pointer (some ⟨C1,0,none⟩),.pointer (some ⟨C1 + 1,0,none⟩),.pointer (some ⟨C1 + 2,0,none⟩)]) rfl (enters_of Tryz.func52 (by kernel_rfl) rfl) hseq (fun _ => rfl)
    (fun pre Wx => Boxed Wx B9 3 (.int .i64 (pre.length:Int)) /\ (Only (fun b => b = B9 \/ w5.heap.size <= b) w5 Wx /\ pre.map (·.1) <+: l))
    (fun c pre Wx => c = .ret /\ Boxed Wx M 4 (.bool false) /\ (Only (fun b => b = M \/ b = B9 \/ w5.heap.size <= b) w5 Wx /\ ¬ pre.map (·.1) <+: l))
    (OwnFrom.and (Own.from (boxed_own B9 3 fun pre:List HU => .int .i64 (pre.length:Int)) _) (OwnFrom.and (ownFrom_only (Nat.le_refl _)) (ownFrom_pure _ _)))
    (fun c => OwnFrom.and (ownFrom_pure _ _) (OwnFrom.and (Own.from (boxed_own M 4 fun _:List HU => .bool false) _) (OwnFrom.and (ownFrom_only (Nat.le_refl _)) (ownFrom_pure _ _))))
    ⟨bx9,Only.refl _ _,List.nil_prefix⟩
    (fun y => { tmps:=#[.pointer (some ⟨W.b,0,none⟩),.int .i64 x,.int .i64 kind,undef,undef,undef,.pointer (some ⟨M,0,none⟩),.pointer (some ⟨B7,0,none⟩),.func (.func 52) #[] #[.pointer (some ⟨C1,0,none⟩),.pointer (some ⟨C1 + 1,0,none⟩),.pointer (some ⟨C1 + 2,0,none⟩)],.pointer (some ⟨B9,0,none⟩),.int .u64 (y.1:Int),.pointer (some ⟨W.b,0,none⟩),.pointer (some ⟨W.b,0,none⟩),.pointer (some ⟨W.b,3,none⟩),.pointer (some ⟨W.R.b,0,none⟩),.int .i64 x,.int .i64 kind,.slice A K cp,.pointer (some ⟨W.b,0,none⟩),.pointer (some ⟨W.b,0,none⟩),.pointer (some ⟨W.b,1,none⟩),.pointer (some ⟨W.gq,0,none⟩),.int .i64 x,.int .i64 kind,.func (.func 52) #[] #[.pointer (some ⟨C1,0,none⟩),.pointer (some ⟨C1 + 1,0,none⟩),.pointer (some ⟨C1 + 2,0,none⟩)],.func (.func 52) #[] #[.pointer (some ⟨C1,0,none⟩),.pointer (some ⟨C1 + 1,0,none⟩),.pointer (some ⟨C1 + 2,0,none⟩)],.bool false,.func (.func 52) #[] #[.pointer (some ⟨C1,0,none⟩),.pointer (some ⟨C1 + 1,0,none⟩),.pointer (some ⟨C1 + 2,0,none⟩)],.int .u64 (y.1:Int),undef,undef,undef,undef,undef,undef,undef,undef,undef,undef,undef,undef,undef,undef,undef,undef,undef,undef],defers:=[] }) ?assign ?body ?done ?stop
  case assign =>
    intro l' y W' K' hK'
    gi_wp2
    exact hK'
  case body =>
    rintro l' pre y Wx hl1 hl2 ⟨rec,hrec⟩ ⟨bx,oW,hp⟩ hlt
    obtain ⟨n,hn⟩:∃ n,n = pre.length:=⟨_,rfl⟩
    rw [<- hn] at bx hlt
    have c9:=bx.cell
    have f9:=bx.frozen
    have h7:Boxed Wx B7 45 (.slice A K cp):=(oW.block B7 (by omega) (by omega)).trans bx75
    have h6:Boxed Wx M 4 (.bool false):=(oW.block M (by omega) (by omega)).trans bx65
    have c7:=h7.cell
    have c6:=h6.cell
    have f6:=h6.frozen
    obtain ⟨z,hz⟩:∃ z,l[n]? = some z:=⟨l[n]'(by rw [<- hK.out]; exact hlt),List.getElem?_eq_getElem _⟩
    obtain ⟨g,rfl,g1,g2,g3,cz⟩:=els.out n z hz
    have cz:=(World.cell?_of_block (a:=⟨g,n,none⟩) (oW.block g g1 (by omega))).trans cz
    have i0:(0:Int) <= (n:Int):=by omega
    have i1:(n:Int) < (K:Int):=by omega
    have d1:decide ((K:Int) <= (n:Int)) = false:=decide_eq_false (by omega)
    have q1:IntKind.i64.wrap ((n:Int) + 1) = ((n + 1:Nat):Int):=by rw [IntWalk.i64_in _ (by omega)]; omega
    have kp:∀ b v,b < w5.heap.size -> KeepP w5.heap.size Wx (Wx.setCell ⟨b,0,none⟩ v) /\ (Wx.setCell ⟨b,0,none⟩ v).heap[l']? = Wx.heap[l']?:=fun b v hb =>
      ⟨KeepP.only (only_cell1 (S:=(· = b)) Wx b 0 v rfl) fun b' o hb' _ _ e => by omega,(only_cell1 (S:=(· = b)) Wx b 0 v rfl).block l' hl2 (by omega)⟩
    replace hn:=Lib.hid hn
    replace hz:=Lib.hid hz
    replace kp:=Lib.hid kp
    replace bx:=Lib.hid bx
    replace h6:=Lib.hid h6
    replace oW:=Lib.hid oW
    replace hp:=Lib.hid hp
    clear hrec h7
    by_cases hyz:y.1 = z
    · have e1:((y.1:Int) == (z:Int)) = true:=by rw [beq_iff_eq]; omega
      have e2:((y.1:Int) != (z:Int)) = false:=by rw [bne_eq_false_iff_eq]; omega
      have e3:decide ((y.1:Int) = (z:Int)) = true:=decide_eq_true (by omega)
      have T:=Lib.hid (show KeepP w5.heap.size Wx (Wx.setCell ⟨B9,0,none⟩ (.int .i64 ((n + 1:Nat):Int))) /\ (Wx.setCell ⟨B9,0,none⟩ (.int .i64 ((n + 1:Nat):Int))).heap[l']? = Wx.heap[l']? /\ (Boxed (Wx.setCell ⟨B9,0,none⟩ (.int .i64 ((n + 1:Nat):Int))) B9 3 (.int .i64 ((pre ++ [y]).length:Int)) /\ Only (fun b => b = B9 \/ w5.heap.size <= b) w5 (Wx.setCell ⟨B9,0,none⟩ (.int .i64 ((n + 1:Nat):Int))) /\ (pre ++ [y]).map (·.1) <+: l) from by
        obtain ⟨k1,k2⟩:=kp.out B9 (.int .i64 ((n + 1:Nat):Int)) (by omega)
        refine ⟨k1,k2,?_,oW.out.setCell (p:=⟨B9,0,none⟩) (fun _ => .inl rfl) _,?_⟩
        · rw [List.length_append,List.length_singleton, <- hn.out]
          exact bx.out.set _
        · rw [List.map_append]
          exact prefix_snoc hp.out (by rw [List.length_map, <- hn.out,hz.out, <- hyz]))
      replace hyz:=Lib.hid hyz
      gi_wp2
      exact T.out
    · have e1:((y.1:Int) == (z:Int)) = false:=by rw [beq_eq_false_iff_ne]; omega
      have e2:((y.1:Int) != (z:Int)) = true:=by rw [bne_iff_ne]; omega
      have e3:decide ((y.1:Int) = (z:Int)) = false:=decide_eq_false (by omega)
      have T:=Lib.hid (show KeepP w5.heap.size Wx (Wx.setCell ⟨M,0,none⟩ (.bool false)) /\ (Wx.setCell ⟨M,0,none⟩ (.bool false)).heap[l']? = Wx.heap[l']? /\ (Code.ret = Code.ret /\ Boxed (Wx.setCell ⟨M,0,none⟩ (.bool false)) M 4 (.bool false) /\ (Only (fun b => b = M \/ b = B9 \/ w5.heap.size <= b) w5 (Wx.setCell ⟨M,0,none⟩ (.bool false)) /\ ¬ (pre ++ [y]).map (·.1) <+: l)) from by
        obtain ⟨k1,k2⟩:=kp.out M (.bool false) (by omega)
        refine ⟨k1,k2,rfl,h6.out.set _,(oW.out.mono fun b _ e => .inr e).setCell (p:=⟨M,0,none⟩) (fun _ => .inl rfl) _,?_⟩
        rw [List.map_append]
        exact prefix_not (by rw [List.length_map, <- hn.out,hz.out]) hyz)
      replace hyz:=Lib.hid hyz
      gi_wp2
      exact ⟨T.out.1,T.out.2.1,rfl,T.out.2.2.2⟩
  case done =>
    rintro D' ys Wx hD' hS ⟨bx,oW,hp⟩ hKd
    have hlen:ys.length = K:=by rw [hK.out, <- hS,List.length_map]
    rw [hlen] at bx
    have c9:=bx.cell
    have h7:Boxed Wx B7 45 (.slice A K cp):=(oW.block B7 (by omega) (by omega)).trans bx75
    have h6:Boxed Wx M 4 (.bool false):=(oW.block M (by omega) (by omega)).trans bx65
    have c7:=h7.cell
    have c6:=h6.cell
    have f6:=h6.frozen
    have e1:((K:Int) == (K:Int)) = true:=by simp
    have bF:Below w.heap.size w Wx:=bw5.trans (oW.toBelow fun k hk => ⟨by have:=hM.out; omega,fun e => by have:=hM.out; omega⟩)
    have hK2:=(KeepsOthers.setCell Wx ⟨M,0,none⟩ (.bool true)).same D' _ hKd rfl
    have h62:=h6.set (.bool true)
    have bF2:=bF.setCell (p:=⟨M,0,none⟩) (by show w.heap.size <= M; rw [hM.out]; exact Nat.le_refl _) (.bool true)
    replace hlen:=Lib.hid hlen
    replace hS:=Lib.hid hS
    replace bF2:=Lib.hid bF2
    replace h62:=Lib.hid h62
    clear bx oW hp h7 h6 bF
    gi_wp2
    refine ⟨by simp,.inl ⟨_,_,rfl,run_takeDeferred hK2,?_⟩⟩
    have hMp:((Wx.setCell ⟨M,0,none⟩ (.bool true)).putObj D' (.deferred none)).heap[M]? = some (.cells #[.bool true] 4 (0,0)):=(World.putObj_heap_other (by omega)).trans h62.out
    have hMc:((Wx.setCell ⟨M,0,none⟩ (.bool true)).putObj D' (.deferred none)).cell? ⟨M,0,none⟩ = some (.bool true):=Blk.cell (g:=M) hMp 0
    exact ⟨_,results_cell_one (P:=Tryz.prog) rfl _ _ M _ _ rfl hMc Tryz.underlying4 rfl,rfl,bF2.out.grown (grownBy_putObj' _ D' _) bF2.out.size (fun k e => by cases e; have:=hM.out; omega)⟩
  case stop =>
    rintro D' c' pre Wx hD' hSp ⟨rfl,bx,oW,hn⟩ hKd
    exact absurd hSp hn
end
end Go.Proofs.YtfjiphibalhcgaaGreat.Que
/-
  The law's does, arm by arm.
-/
namespace Go.Proofs.YtfjiphibalhcgaaGreat.Que
open Go.RowKit Base Arena Cls Itm
section
variable (w:World) (b:Nat) (o:Op6) (P:World -> Prop)
set_option maxHeartbeats 1600000 in
theorem doesArm2 (hd:o.dO = 2) (MC:Calls Tryz.prog 20 #[.pointer (some ⟨b,0,none⟩),.agg o.cells] (w.alloc (.cells o.cells 28)) fun e w' => e = .returned (.bool true) /\ P w') :
  Calls Tryz.prog 11 #[.pointer (some ⟨b,0,none⟩),.agg o.cells] w fun e w' => e = .returned (.bool true) /\ P w':=by
 obtain ⟨w1,hw1⟩:∃ w1,w1 = w.alloc (.cells o.cells 28):=⟨_,rfl⟩
 have B1:Blk w1 w.heap.size 28 o.cells:=by rw [hw1]; exact Blk.new w _ _
 obtain ⟨x0,x1,x2,x3,x4,x5⟩:=op6_cells B1
 rw [<- hw1] at MC
 unfold Op6.cells at MC hw1 ⊢
 rw [hd] at MC hw1 x0 ⊢
 replace MC:=Lib.hid MC
 replace hw1:=Lib.hid hw1
 clear B1 hd
 generalize hN:w.heap.size = N at *
 replace hN:=Lib.hid hN
 go_enter Tryz.func11,Tryz.ntmps11
 go_upto_region 1 with fail
 rw [hN.out, <- hw1.out]
 go_wp2_with fail
 refine MC.out.mono ?_
 rintro e w2 ⟨rfl,hP⟩
 replace hP:=Lib.hid hP
 go_wp2
 go_ret
 exact ⟨rfl,hP.out⟩
set_option maxHeartbeats 1600000 in
theorem doesArm3 (hd:o.dO = 3) (MC:Calls Tryz.prog 47 #[.pointer (some ⟨b,0,none⟩),.agg o.cells] (w.alloc (.cells o.cells 28)) fun e w' => e = .returned (.bool true) /\ P w') :
  Calls Tryz.prog 11 #[.pointer (some ⟨b,0,none⟩),.agg o.cells] w fun e w' => e = .returned (.bool true) /\ P w':=by
 obtain ⟨w1,hw1⟩:∃ w1,w1 = w.alloc (.cells o.cells 28):=⟨_,rfl⟩
 have B1:Blk w1 w.heap.size 28 o.cells:=by rw [hw1]; exact Blk.new w _ _
 obtain ⟨x0,x1,x2,x3,x4,x5⟩:=op6_cells B1
 rw [<- hw1] at MC
 unfold Op6.cells at MC hw1 ⊢
 rw [hd] at MC hw1 x0 ⊢
 replace MC:=Lib.hid MC
 replace hw1:=Lib.hid hw1
 clear B1 hd
 generalize hN:w.heap.size = N at *
 replace hN:=Lib.hid hN
 go_enter Tryz.func11,Tryz.ntmps11
 go_upto_region 1 with fail
 rw [hN.out, <- hw1.out]
 go_wp2_with fail
 refine MC.out.mono ?_
 rintro e w2 ⟨rfl,hP⟩
 replace hP:=Lib.hid hP
 go_wp2
 go_ret
 exact ⟨rfl,hP.out⟩
set_option maxHeartbeats 1600000 in
theorem doesArm4 (hd:o.dO = 4) (MC:Calls Tryz.prog 48 #[.pointer (some ⟨b,0,none⟩),.agg o.cells] (w.alloc (.cells o.cells 28)) fun e w' => e = .returned (.bool true) /\ P w') :
  Calls Tryz.prog 11 #[.pointer (some ⟨b,0,none⟩),.agg o.cells] w fun e w' => e = .returned (.bool true) /\ P w':=by
 obtain ⟨w1,hw1⟩:∃ w1,w1 = w.alloc (.cells o.cells 28):=⟨_,rfl⟩
 have B1:Blk w1 w.heap.size 28 o.cells:=by rw [hw1]; exact Blk.new w _ _
 obtain ⟨x0,x1,x2,x3,x4,x5⟩:=op6_cells B1
 rw [<- hw1] at MC
 unfold Op6.cells at MC hw1 ⊢
 rw [hd] at MC hw1 x0 ⊢
 replace MC:=Lib.hid MC
 replace hw1:=Lib.hid hw1
 clear B1 hd
 generalize hN:w.heap.size = N at *
 replace hN:=Lib.hid hN
 go_enter Tryz.func11,Tryz.ntmps11
 go_upto_region 1 with fail
 rw [hN.out, <- hw1.out]
 go_wp2_with fail
 refine MC.out.mono ?_
 rintro e w2 ⟨rfl,hP⟩
 replace hP:=Lib.hid hP
 go_wp2
 go_ret
 exact ⟨rfl,hP.out⟩
set_option maxHeartbeats 1600000 in
theorem doesArm5 (hd:o.dO = 5) (MC:Calls Tryz.prog 48 #[.pointer (some ⟨b,0,none⟩),.agg o.cells] (w.alloc (.cells o.cells 28)) fun e w' => e = .returned (.bool true) /\ P w') :
  Calls Tryz.prog 11 #[.pointer (some ⟨b,0,none⟩),.agg o.cells] w fun e w' => e = .returned (.bool true) /\ P w':=by
 obtain ⟨w1,hw1⟩:∃ w1,w1 = w.alloc (.cells o.cells 28):=⟨_,rfl⟩
 have B1:Blk w1 w.heap.size 28 o.cells:=by rw [hw1]; exact Blk.new w _ _
 obtain ⟨x0,x1,x2,x3,x4,x5⟩:=op6_cells B1
 rw [<- hw1] at MC
 unfold Op6.cells at MC hw1 ⊢
 rw [hd] at MC hw1 x0 ⊢
 replace MC:=Lib.hid MC
 replace hw1:=Lib.hid hw1
 clear B1 hd
 generalize hN:w.heap.size = N at *
 replace hN:=Lib.hid hN
 go_enter Tryz.func11,Tryz.ntmps11
 go_upto_region 1 with fail
 rw [hN.out, <- hw1.out]
 go_wp2_with fail
 refine MC.out.mono ?_
 rintro e w2 ⟨rfl,hP⟩
 replace hP:=Lib.hid hP
 go_wp2
 go_ret
 exact ⟨rfl,hP.out⟩
set_option maxHeartbeats 1600000 in
theorem doesArm6 (hd:o.dO = 6) (MC:Calls Tryz.prog 48 #[.pointer (some ⟨b,0,none⟩),.agg o.cells] (w.alloc (.cells o.cells 28)) fun e w' => e = .returned (.bool true) /\ P w') :
  Calls Tryz.prog 11 #[.pointer (some ⟨b,0,none⟩),.agg o.cells] w fun e w' => e = .returned (.bool true) /\ P w':=by
 obtain ⟨w1,hw1⟩:∃ w1,w1 = w.alloc (.cells o.cells 28):=⟨_,rfl⟩
 have B1:Blk w1 w.heap.size 28 o.cells:=by rw [hw1]; exact Blk.new w _ _
 obtain ⟨x0,x1,x2,x3,x4,x5⟩:=op6_cells B1
 rw [<- hw1] at MC
 unfold Op6.cells at MC hw1 ⊢
 rw [hd] at MC hw1 x0 ⊢
 replace MC:=Lib.hid MC
 replace hw1:=Lib.hid hw1
 clear B1 hd
 generalize hN:w.heap.size = N at *
 replace hN:=Lib.hid hN
 go_enter Tryz.func11,Tryz.ntmps11
 go_upto_region 1 with fail
 rw [hN.out, <- hw1.out]
 go_wp2_with fail
 refine MC.out.mono ?_
 rintro e w2 ⟨rfl,hP⟩
 replace hP:=Lib.hid hP
 go_wp2
 go_ret
 exact ⟨rfl,hP.out⟩
set_option maxHeartbeats 1600000 in
theorem doesArm7 (hd:o.dO = 7) (MC:Calls Tryz.prog 48 #[.pointer (some ⟨b,0,none⟩),.agg o.cells] (w.alloc (.cells o.cells 28)) fun e w' => e = .returned (.bool true) /\ P w') :
  Calls Tryz.prog 11 #[.pointer (some ⟨b,0,none⟩),.agg o.cells] w fun e w' => e = .returned (.bool true) /\ P w':=by
 obtain ⟨w1,hw1⟩:∃ w1,w1 = w.alloc (.cells o.cells 28):=⟨_,rfl⟩
 have B1:Blk w1 w.heap.size 28 o.cells:=by rw [hw1]; exact Blk.new w _ _
 obtain ⟨x0,x1,x2,x3,x4,x5⟩:=op6_cells B1
 rw [<- hw1] at MC
 unfold Op6.cells at MC hw1 ⊢
 rw [hd] at MC hw1 x0 ⊢
 replace MC:=Lib.hid MC
 replace hw1:=Lib.hid hw1
 clear B1 hd
 generalize hN:w.heap.size = N at *
 replace hN:=Lib.hid hN
 go_enter Tryz.func11,Tryz.ntmps11
 go_upto_region 1 with fail
 rw [hN.out, <- hw1.out]
 go_wp2_with fail
 refine MC.out.mono ?_
 rintro e w2 ⟨rfl,hP⟩
 replace hP:=Lib.hid hP
 go_wp2
 go_ret
 exact ⟨rfl,hP.out⟩
set_option maxHeartbeats 1600000 in
theorem doesArm12 (hd:o.dO = 12) (MC:Calls Tryz.prog 48 #[.pointer (some ⟨b,0,none⟩),.agg o.cells] (w.alloc (.cells o.cells 28)) fun e w' => e = .returned (.bool true) /\ P w') :
  Calls Tryz.prog 11 #[.pointer (some ⟨b,0,none⟩),.agg o.cells] w fun e w' => e = .returned (.bool true) /\ P w':=by
 obtain ⟨w1,hw1⟩:∃ w1,w1 = w.alloc (.cells o.cells 28):=⟨_,rfl⟩
 have B1:Blk w1 w.heap.size 28 o.cells:=by rw [hw1]; exact Blk.new w _ _
 obtain ⟨x0,x1,x2,x3,x4,x5⟩:=op6_cells B1
 rw [<- hw1] at MC
 unfold Op6.cells at MC hw1 ⊢
 rw [hd] at MC hw1 x0 ⊢
 replace MC:=Lib.hid MC
 replace hw1:=Lib.hid hw1
 clear B1 hd
 generalize hN:w.heap.size = N at *
 replace hN:=Lib.hid hN
 go_enter Tryz.func11,Tryz.ntmps11
 go_upto_region 1 with fail
 rw [hN.out, <- hw1.out]
 go_wp2_with fail
 refine MC.out.mono ?_
 rintro e w2 ⟨rfl,hP⟩
 replace hP:=Lib.hid hP
 go_wp2
 go_ret
 exact ⟨rfl,hP.out⟩
set_option maxHeartbeats 1600000 in
theorem doesArm8 (hd:o.dO = 8) (MC:Calls Tryz.prog 38 #[.pointer (some ⟨b,0,none⟩),.int .i64 o.a,.int .i64 o.b] (w.alloc (.cells o.cells 28)) fun e w' => e = .returned (.bool true) /\ P w') :
  Calls Tryz.prog 11 #[.pointer (some ⟨b,0,none⟩),.agg o.cells] w fun e w' => e = .returned (.bool true) /\ P w':=by
 obtain ⟨w1,hw1⟩:∃ w1,w1 = w.alloc (.cells o.cells 28):=⟨_,rfl⟩
 have B1:Blk w1 w.heap.size 28 o.cells:=by rw [hw1]; exact Blk.new w _ _
 obtain ⟨x0,x1,x2,x3,x4,x5⟩:=op6_cells B1
 rw [<- hw1] at MC
 unfold Op6.cells at hw1 ⊢
 rw [hd] at hw1 x0 ⊢
 replace MC:=Lib.hid MC
 replace hw1:=Lib.hid hw1
 clear B1 hd
 generalize hN:w.heap.size = N at *
 replace hN:=Lib.hid hN
 go_enter Tryz.func11,Tryz.ntmps11
 go_upto_region 1 with fail
 rw [hN.out, <- hw1.out]
 go_wp2_with fail
 refine MC.out.mono ?_
 rintro e w2 ⟨rfl,hP⟩
 replace hP:=Lib.hid hP
 go_wp2
 go_ret
 exact ⟨rfl,hP.out⟩
set_option maxHeartbeats 1600000 in
theorem doesArm10 (hd:o.dO = 10) (MC:Calls Tryz.prog 40 #[.pointer (some ⟨b,0,none⟩),.int .i64 o.a,.int .i64 o.b] (w.alloc (.cells o.cells 28)) fun e w' => e = .returned (.bool true) /\ P w') :
  Calls Tryz.prog 11 #[.pointer (some ⟨b,0,none⟩),.agg o.cells] w fun e w' => e = .returned (.bool true) /\ P w':=by
 obtain ⟨w1,hw1⟩:∃ w1,w1 = w.alloc (.cells o.cells 28):=⟨_,rfl⟩
 have B1:Blk w1 w.heap.size 28 o.cells:=by rw [hw1]; exact Blk.new w _ _
 obtain ⟨x0,x1,x2,x3,x4,x5⟩:=op6_cells B1
 rw [<- hw1] at MC
 unfold Op6.cells at hw1 ⊢
 rw [hd] at hw1 x0 ⊢
 replace MC:=Lib.hid MC
 replace hw1:=Lib.hid hw1
 clear B1 hd
 generalize hN:w.heap.size = N at *
 replace hN:=Lib.hid hN
 go_enter Tryz.func11,Tryz.ntmps11
 go_upto_region 1 with fail
 rw [hN.out, <- hw1.out]
 go_wp2_with fail
 refine MC.out.mono ?_
 rintro e w2 ⟨rfl,hP⟩
 replace hP:=Lib.hid hP
 go_wp2
 go_ret
 exact ⟨rfl,hP.out⟩
set_option maxHeartbeats 1600000 in
theorem doesArm9 (hd:o.dO = 9) (H:Nat) (HC:Calls Tryz.prog 31 #[.pointer (some ⟨b,0,none⟩),.agg o.cells] (w.alloc (.cells o.cells 28)) fun e w' => e = .returned (.int .u64 (H:Int)) /\ Calls Tryz.prog 39 #[.pointer (some ⟨b,0,none⟩),.int .u64 (H:Int)] w' fun e w' => e = .returned (.bool true) /\ P w') :
  Calls Tryz.prog 11 #[.pointer (some ⟨b,0,none⟩),.agg o.cells] w fun e w' => e = .returned (.bool true) /\ P w':=by
 obtain ⟨w1,hw1⟩:∃ w1,w1 = w.alloc (.cells o.cells 28):=⟨_,rfl⟩
 have B1:Blk w1 w.heap.size 28 o.cells:=by rw [hw1]; exact Blk.new w _ _
 obtain ⟨x0,x1,x2,x3,x4,x5⟩:=op6_cells B1
 rw [<- hw1] at HC
 unfold Op6.cells at HC hw1 ⊢
 rw [hd] at HC hw1 x0 ⊢
 replace HC:=Lib.hid HC
 replace hw1:=Lib.hid hw1
 clear B1 hd
 generalize hN:w.heap.size = N at *
 replace hN:=Lib.hid hN
 go_enter Tryz.func11,Tryz.ntmps11
 go_upto_region 1 with fail
 rw [hN.out, <- hw1.out]
 go_wp2_with fail
 refine HC.out.mono ?_
 rintro e w3 ⟨rfl,MC⟩
 replace MC:=Lib.hid MC
 go_wp2_with fail
 refine MC.out.mono ?_
 rintro e w2 ⟨rfl,hP⟩
 replace hP:=Lib.hid hP
 go_wp2
 go_ret
 exact ⟨rfl,hP.out⟩
set_option maxHeartbeats 1600000 in
theorem doesArm11 (hd:o.dO = 11) (H:Nat) (HC:Calls Tryz.prog 31 #[.pointer (some ⟨b,0,none⟩),.agg o.cells] (w.alloc (.cells o.cells 28)) fun e w' => e = .returned (.int .u64 (H:Int)) /\ Calls Tryz.prog 49 #[.pointer (some ⟨b,0,none⟩),.int .u64 (H:Int)] w' fun e w' => e = .returned (.bool true) /\ P w') :
  Calls Tryz.prog 11 #[.pointer (some ⟨b,0,none⟩),.agg o.cells] w fun e w' => e = .returned (.bool true) /\ P w':=by
 obtain ⟨w1,hw1⟩:∃ w1,w1 = w.alloc (.cells o.cells 28):=⟨_,rfl⟩
 have B1:Blk w1 w.heap.size 28 o.cells:=by rw [hw1]; exact Blk.new w _ _
 obtain ⟨x0,x1,x2,x3,x4,x5⟩:=op6_cells B1
 rw [<- hw1] at HC
 unfold Op6.cells at HC hw1 ⊢
 rw [hd] at HC hw1 x0 ⊢
 replace HC:=Lib.hid HC
 replace hw1:=Lib.hid hw1
 clear B1 hd
 generalize hN:w.heap.size = N at *
 replace hN:=Lib.hid hN
 go_enter Tryz.func11,Tryz.ntmps11
 go_upto_region 1 with fail
 rw [hN.out, <- hw1.out]
 go_wp2_with fail
 refine HC.out.mono ?_
 rintro e w3 ⟨rfl,MC⟩
 replace MC:=Lib.hid MC
 go_wp2_with fail
 refine MC.out.mono ?_
 rintro e w2 ⟨rfl,hP⟩
 replace hP:=Lib.hid hP
 go_wp2
 go_ret
 exact ⟨rfl,hP.out⟩
set_option maxHeartbeats 1600000 in
theorem doesElse (hd:o.dO ≠ 1 /\ o.dO ≠ 2 /\ o.dO ≠ 3 /\ o.dO ≠ 4 /\ o.dO ≠ 5 /\ o.dO ≠ 6 /\ o.dO ≠ 7 /\ o.dO ≠ 8 /\ o.dO ≠ 9 /\ o.dO ≠ 10 /\ o.dO ≠ 11 /\ o.dO ≠ 12) (hP:∀ w',Below w.heap.size w w' -> P w') :
  Calls Tryz.prog 11 #[.pointer (some ⟨b,0,none⟩),.agg o.cells] w fun e w' => e = .returned (.bool true) /\ P w':=by
 obtain ⟨w1,hw1⟩:∃ w1,w1 = w.alloc (.cells o.cells 28):=⟨_,rfl⟩
 have B1:Blk w1 w.heap.size 28 o.cells:=by rw [hw1]; exact Blk.new w _ _
 obtain ⟨x0,x1,x2,x3,x4,x5⟩:=op6_cells B1
 have b1:Below w.heap.size w w1:=by rw [hw1]; exact (Below.refl _ _).alloc (Nat.le_refl _) _
 replace b1:=Lib.hid (hP w1 b1)
 obtain ⟨n1,n2,n3,n4,n5,n6,n7,n8,n9,n10,n11,n12⟩:=hd
 have e1:(o.dO == 1) = false:=by simpa using n1
 have d1:decide (o.dO = 1) = false:=decide_eq_false n1
 have e2:(o.dO == 2) = false:=by simpa using n2
 have d2:decide (o.dO = 2) = false:=decide_eq_false n2
 have e3:(o.dO == 3) = false:=by simpa using n3
 have d3:decide (o.dO = 3) = false:=decide_eq_false n3
 have e4:(o.dO == 4) = false:=by simpa using n4
 have d4:decide (o.dO = 4) = false:=decide_eq_false n4
 have e5:(o.dO == 5) = false:=by simpa using n5
 have d5:decide (o.dO = 5) = false:=decide_eq_false n5
 have e6:(o.dO == 6) = false:=by simpa using n6
 have d6:decide (o.dO = 6) = false:=decide_eq_false n6
 have e7:(o.dO == 7) = false:=by simpa using n7
 have d7:decide (o.dO = 7) = false:=decide_eq_false n7
 have e8:(o.dO == 8) = false:=by simpa using n8
 have d8:decide (o.dO = 8) = false:=decide_eq_false n8
 have e9:(o.dO == 9) = false:=by simpa using n9
 have d9:decide (o.dO = 9) = false:=decide_eq_false n9
 have e10:(o.dO == 10) = false:=by simpa using n10
 have d10:decide (o.dO = 10) = false:=decide_eq_false n10
 have e11:(o.dO == 11) = false:=by simpa using n11
 have d11:decide (o.dO = 11) = false:=decide_eq_false n11
 have e12:(o.dO == 12) = false:=by simpa using n12
 have d12:decide (o.dO = 12) = false:=decide_eq_false n12
 unfold Op6.cells at hw1 ⊢
 replace hw1:=Lib.hid hw1
 clear B1
 generalize hN:w.heap.size = N at *
 replace hN:=Lib.hid hN
 go_enter Tryz.func11,Tryz.ntmps11
 go_upto_region 1 with fail
 rw [hN.out, <- hw1.out]
 go_wp2
 go_ret
 exact ⟨rfl,b1.out⟩
end
theorem Goes.behind {N:Nat} {w w1 w':World} {W:W6} {s:St} {t:Nat} (b:Below w.heap.size w w1) (h:Goes N w1 w' W s t):Goes N w w' W s t:=by
 obtain ⟨W',s',bs',Z',Ls',r',laid',told',e,G,T⟩:=h
 exact ⟨W',s',bs',Z',Ls',r',laid',told',e,((Grew.refl _ _ _ _).step b).trans G,T⟩
theorem Goes.more {N:Nat} {w w':World} {W:W6} {s:St} {t t':Nat} (ht:t <= t') (h:Goes N w w' W s t):Goes N w w' W s t':=by
 obtain ⟨W',s',bs',Z',Ls',r',laid',told',e,G,T⟩:=h
 exact ⟨W',s',bs',Z',Ls',r',laid',told',e,G,T.more ht⟩
section
variable {N:Nat} {w:World} {W:W6} {s:St} {bs:List UInt8} {Z:Nat -> Option Zd} {Ls:Nat -> Nat -> List Nat} {r:RS} {laid told:List Nat} {t:Nat} (h:WI N w W s bs Z Ls r laid told t) (ht:t <= 60000) (o:Op6) (ok:o.Ok)
include h ht ok
theorem doesC:Calls Tryz.prog 11 #[.pointer (some ⟨W.b,0,none⟩),.agg o.cells] w fun e w' => e = .returned (.bool true) /\ Goes N w w' W s (t + 1):=by
 have b1:Below w.heap.size w (w.alloc (.cells o.cells 28)):=(Below.refl _ _).alloc (Nat.le_refl _) _
 have h1:=h.below b1
 have hH:=hdN_lt h.tlt ok
 have st:∀ w2 w3,Below w.heap.size w w2 -> Below w2.heap.size w2 w3 -> Goes N w w3 W s (t + 1):=fun w2 w3 b2 b3 => h.stays (b2.trans (b3.mono b2.size)) (Nat.le_succ _)
 have gm:∀ w',Goes N (w.alloc (.cells o.cells 28)) w' W s t -> Goes N w w' W s (t + 1):=fun w' G => (G.more (Nat.le_succ _)).behind b1
 by_cases d1:o.dO = 1
 ·exact doesMakeC w W.b o d1 _ ((makesC h1 ht o ok).mono fun e w' ⟨e1,G⟩ => ⟨e1,G.behind b1⟩)
 by_cases d2:o.dO = 2
 ·exact doesArm2 w W.b o _ d2 ((makesC h1 ht o ok).mono fun e w' ⟨e1,G⟩ => ⟨e1,G.behind b1⟩)
 by_cases d3:o.dO = 3
 ·exact doesArm3 w W.b o _ d3 ((givesLawC h1 ht o ok).mono fun e w' ⟨e1,G⟩ => ⟨e1,gm _ G⟩)
 by_cases d4:o.dO = 4
 ·exact doesArm4 w W.b o _ d4 ((movesPush h1 ht o ok d4).mono fun e w' ⟨e1,G⟩ => ⟨e1,gm _ G.goes⟩)
 by_cases d5:o.dO = 5
 ·exact doesArm5 w W.b o _ d5 ((movesLast h1 ht o ok d5).mono fun e w' ⟨e1,G⟩ => ⟨e1,gm _ G.goes⟩)
 by_cases d6:o.dO = 6
 ·exact doesArm6 w W.b o _ d6 ((movesDrop h1 ht o ok d6).mono fun e w' ⟨e1,G⟩ => ⟨e1,gm _ G.goes⟩)
 by_cases d7:o.dO = 7
 ·exact doesArm7 w W.b o _ d7 ((movesShift h1 ht o ok d7).mono fun e w' ⟨e1,G⟩ => ⟨e1,gm _ G.goes⟩)
 by_cases d8:o.dO = 8
 ·exact doesArm8 w W.b o _ d8 ((looksC h1 ht o.a o.b).mono fun e w' ⟨e1,b⟩ => ⟨e1,st _ _ b1 b⟩)
 by_cases d9:o.dO = 9
 ·refine doesArm9 w W.b o _ d9 (hdN told o) ((handleC h1 ht o ok).mono fun e w2 ⟨e1,b2⟩ => ⟨e1,?_⟩)
  exact (lnextC (h1.below b2) ht _ hH).mono fun e w' ⟨e1,b⟩ => ⟨e1,st _ _ (b1.trans (b2.mono b1.size)) b⟩
 by_cases d10:o.dO = 10
 ·exact doesArm10 w W.b o _ d10 ((allLawC h1 ht o.a o.b).mono fun e w' ⟨e1,b⟩ => ⟨e1,st _ _ b1 b⟩)
 by_cases d11:o.dO = 11
 ·refine doesArm11 w W.b o _ d11 (hdN told o) ((handleC h1 ht o ok).mono fun e w2 ⟨e1,b2⟩ => ⟨e1,?_⟩)
  exact (headerC (h1.below b2) ht _ hH).mono fun e w' ⟨e1,b⟩ => ⟨e1,st _ _ (b1.trans (b2.mono b1.size)) b⟩
 by_cases d12:o.dO = 12
 ·exact doesArm12 w W.b o _ d12 ((movesSwap h1 ht o ok d12).mono fun e w' ⟨e1,G⟩ => ⟨e1,gm _ G.goes⟩)
 exact doesElse w W.b o _ ⟨d1,d2,d3,d4,d5,d6,d7,d8,d9,d10,d11,d12⟩ fun w' b => h.stays b (Nat.le_succ _)
end
section
variable {N:Nat} {w:World} {W:W6} {s:St} {bs:List UInt8} {Z:Nat -> Option Zd} {Ls:Nat -> Nat -> List Nat} {r:RS} {laid told:List Nat} {t:Nat} (h:WI N w W s bs Z Ls r laid told t) (ht:t <= 60000)
include h ht
set_option maxHeartbeats 3200000 in
theorem qendsC:Calls Tryz.prog 13 #[.pointer (some ⟨W.b,0,none⟩)] w fun e w' => e = .returned (.bool true) /\ Below w.heap.size w w':=by
 have LC:=fun w2 (b:Below w.heap.size w w2) x k => looksC (h.below b) ht x k
 have AC:=fun w2 (b:Below w.heap.size w w2) x k => allLawC (h.below b) ht x k
 have NC:=fun w2 (b:Below w.heap.size w w2) H hH => lnextC (h.below b) ht H hH
 have HC:=fun w2 (b:Below w.heap.size w w2) H hH => headerC (h.below b) ht H hH
 have htl:=h.tl
 have TC:∃ A cp,∀ w2,Below w.heap.size w w2 -> w2.cell? ⟨W.b,4,none⟩ = some (.slice A told.length cp) /\ ∀ (i x:Nat),told[i]? = some x -> ∃ g,A = some ⟨g,0,none⟩ /\ w2.cell? ⟨g,i,none⟩ = some (.int .u64 (x:Int)) /\ x < 18446744073709551616:=by
  obtain ⟨A,cp,hv⟩:=own_is h.wat.told
  refine ⟨A,cp,fun w2 b => ?_⟩
  have h2:=h.below b
  obtain ⟨-, -, -, -,y4⟩:=h2.wat.cW
  have own:=h2.wat.told
  rw [hv] at y4 own
  refine ⟨y4,fun i x hx => ?_⟩
  obtain ⟨g,c',hv2,u⟩:=own_uv own hx
  injection hv2 with e1 e2 e3
  exact ⟨g,e1,u,h.tlt x (List.mem_of_getElem? hx)⟩
 obtain ⟨A,cp,TC⟩:=TC
 replace LC:=Lib.hid LC
 replace AC:=Lib.hid AC
 replace NC:=Lib.hid NC
 replace HC:=Lib.hid HC
 replace TC:=Lib.hid TC
 clear h
 go_enter Tryz.func13,Tryz.ntmps13
 go_wp2
 go_loopw [3] (fun v wr => ∃ c:Int,v = .int .i64 c /\ -1 <= c /\ c <= 4 /\ Hid (Below w.heap.size w wr)) (fun v _ => (4 - intOf v).toNat)
 case atStart => exact ⟨-1,rfl,by omega,by omega,Lib.hid (Below.refl _ _)⟩
 case round =>
  obtain ⟨c,rfl,hc0,hc1,hB⟩:=hrel
  by_cases hc:c <= 3
  ·have d1:decide (c <= 3) = true:=decide_eq_true hc
   have q1:IntKind.i64.wrap (c + 1) = c + 1:=IntWalk.i64_in _ (by omega)
   go_wp2
   go_loopw [4] (fun v wx => ∃ k:Int,v = .int .i64 k /\ 0 <= k /\ k <= 5 /\ Hid (Below w.heap.size w wx)) (fun v _ => (5 - intOf v).toNat)
   case atStart => exact ⟨0,rfl,by omega,by omega,hB⟩
   case round =>
    obtain ⟨k,rfl,hk0,hk1,hB⟩:=hrel
    by_cases hk:k <= 4
    ·have d2:decide (k <= 4) = true:=decide_eq_true hk
     have q2:IntKind.i64.wrap (k + 1) = k + 1:=IntWalk.i64_in _ (by omega)
     go_wp2_with fail
     refine (LC.out _ hB.out c k).mono ?_
     rintro e w1 ⟨rfl,b1⟩
     have hB1:=Lib.hid (hB.out.trans (b1.mono hB.out.size))
     clear b1
     go_wp2_with fail
     refine (AC.out _ hB1.out c k).mono ?_
     rintro e w2 ⟨rfl,b2⟩
     have hB2:=Lib.hid (hB1.out.trans (b2.mono hB1.out.size))
     clear b2
     go_wp2
     go_roundw
     case rel => exact ⟨k + 1,rfl,by omega,by omega,hB2⟩
     case measure => simp [intOf] <;> omega
    ·obtain rfl:k = 5:=by omega
     go_wp2
     go_roundw
     case rel => exact ⟨c + 1,rfl,by omega,by omega,hB⟩
     case measure => simp [intOf] <;> omega
  ·obtain rfl:c = 4:=by omega
   go_wp2
   go_loopw [5] (fun v wx => ∃ k:Nat,v = .int .i64 (k:Int) /\ k <= told.length /\ Hid (Below w.heap.size w wx)) (fun v _ => told.length - (intOf v).toNat)
   case atStart => exact ⟨0,rfl,by omega,hB⟩
   case round =>
    obtain ⟨k,rfl,hk1,hB⟩:=hrel
    obtain ⟨y4,TT⟩:=TC.out _ hB.out
    by_cases hk:k < told.length
    ·have hx:told[k]? = some told[k]:=List.getElem?_eq_getElem hk
     obtain ⟨g,rfl,u,hlt⟩:=TT k _ hx
     have k0:(0:Int) <= (k:Int):=by omega
     have k1:(k:Int) < (told.length:Int):=by omega
     have d1:decide ((k:Int) < (told.length:Int)) = true:=decide_eq_true k1
     have q2:IntKind.i64.wrap ((k:Int) + 1) = (k:Int) + 1:=IntWalk.i64_in _ (by omega)
     replace TT:=Lib.hid TT
     have NC1:=NC.out _ hB.out told[k] hlt
     have HC1:=fun w2 b => HC.out w2 b told[k] hlt
     have TD:=fun w2 b => (TC.out w2 b).2 k _ hx
     generalize told[k] = H at *
     generalize told.length = n at *
     replace NC1:=Lib.hid NC1
     replace HC1:=Lib.hid HC1
     replace TD:=Lib.hid TD
     clear hx TT
     go_wp2_with fail
     refine NC1.out.mono ?_
     rintro e w1 ⟨rfl,b1⟩
     have hB1:=Lib.hid (hB.out.trans (b1.mono hB.out.size))
     clear b1 y4 u NC1
     obtain ⟨y4, -⟩:=TC.out _ hB1.out
     obtain ⟨g',eg,u, -⟩:=TD.out _ hB1.out
     injection eg with eg
     injection eg with eg
     subst eg
     have HC2:=Lib.hid (HC1.out _ hB1.out)
     go_wp2_with fail
     refine HC2.out.mono ?_
     rintro e w2 ⟨rfl,b2⟩
     have hB2:=Lib.hid (hB1.out.trans (b2.mono hB1.out.size))
     clear b2
     go_wp2
     go_roundw
     case rel => exact ⟨k + 1,by simp,by omega,hB2⟩
     case measure => simp [intOf] <;> omega
    ·obtain rfl:k = told.length:=by omega
     have d1:decide ((told.length:Int) < (told.length:Int)) = false:=by simp
     replace TT:=Lib.hid TT
     go_wp2
     go_ret
     exact ⟨rfl,hB.out⟩
end
theorem push_one {s:St} {Z:Nat -> Option Zd} {H i x p:Nat} (hf:findN qc.cf s H = some (i,x,p)) (hc:s.cls i = 0) (hz:(Z H).isSome = true) {Ls:Nat -> Nat -> List Nat} (hn:stK 0 Ls H = 0) (last:Bool):pushN qc s Z Ls H 1 last = (0,putN 0 Ls H 0 last):=by
 have ec:clsN qc s H = 0:=by unfold clsN; rw [hf]; exact hc
 have ei:isN qc s Z H = true:=by unfold isN; rw [hf,hz]; rfl
 unfold pushN
 rw [if_neg (by omega),if_neg (by rw [ei]; exact Bool.noConfusion),if_neg (by rw [ec]; exact fun h => h hn),ec]
 rfl
theorem QW.drewN {w:World} {L:Lay} {c:Conf} {s:St} {bs:List UInt8} {Z:Nat -> Option Zd} {gq gl:Nat} {Ls:Nat -> Nat -> List Nat} (h:QW w L c s bs Z gq gl Ls) (n:Nat):QW (w.drewN n) L c s bs Z gq gl Ls:=by
 obtain ⟨F,S,q⟩:=h
 exact ⟨F,S.drewN n,q⟩
set_option maxHeartbeats 1600000 in
theorem wakesC (w:World):Calls Tryz.prog 15 #[] w fun e w' => e = .returned (.bool true) /\ Below w.heap.size w w':=by
 have BC:=Lib.hid (begunC6 w)
 have n0:=fun w => numC6 w 0
 go_enter Tryz.func15,Tryz.ntmps15
 go_wp2_with fail
 refine BC.out.mono ?_
 rintro e w1 ⟨b1,W1,rfl,A1⟩
 have ok:=A1.okc
 have hk : 0 < qc.cf.nc:=by decide
 have hr1:=room_new ok 0
 obtain ⟨gs1,l1,p1,hp1⟩:=room_good ok A1.good hk hr1
 obtain ⟨H1,hH1⟩:∃ H1,H1 = hnd p1 ((widenS qc.cf (new0 qc.cf) 0 0).gens (p1 / qc.cf.ps) (p1 % qc.cf.ps / qc.cf.sz 0)):=⟨_,rfl⟩
 have D1:=doesO0 A1 (rel_new _) (by simp) (by decide) (by decide) (by decide) hr1 hp1 hH1
 obtain ⟨⟨i1,x1,f1,c1⟩, -, -⟩:=took_find ok A1.good hk hr1 hp1 hH1
 have g2:=(took ok A1.good hk hr1 hp1).1
 obtain ⟨s3,hr3⟩:=room_two ok (by decide) 0 0 p1
 generalize takeS qc.cf (widenS qc.cf (new0 qc.cf) 0 0) 0 p1 = s2 at *
 obtain ⟨gs3,l3,p3,hp3⟩:=room_good ok g2 hk hr3
 obtain ⟨H2,hH2⟩:∃ H2,H2 = hnd p3 (s3.gens (p3 / qc.cf.ps) (p3 % qc.cf.ps / qc.cf.sz 0)):=⟨_,rfl⟩
 obtain ⟨⟨i2,x2,f2,c2⟩,TB, -⟩:=took_find ok g2 hk hr3 hp3 hH2
 obtain ⟨f1',c1',hne, -⟩:=TB H1 i1 x1 p1 f1
 rw [c1] at c1'
 replace D1:=Lib.hid D1
 replace b1:=Lib.hid b1
 replace f1':=Lib.hid f1'
 replace f2:=Lib.hid f2
 replace c1':=Lib.hid c1'
 replace c2:=Lib.hid c2
 replace hne:=Lib.hid hne
 replace hr3:=Lib.hid hr3
 replace hp3:=Lib.hid hp3
 replace hH2:=Lib.hid hH2
 replace ok:=Lib.hid ok
 clear hr1 hp1 hH1 gs1 gs3 TB c1 f1 g2 A1 hk
 go_wp2_with fail
 refine D1.out.mono ?_
 rintro e w2 ⟨rfl,b2,W2,r2,eb2, -,Rl2,hl2,bs2,hb2,A2⟩
 have D2:=doesO0 A2 Rl2 (by rw [hb2]; simp) (by have:rnew0.ch.length = 0:=rfl; omega) (by simp) (by unfold laidN; simp) hr3.out hp3.out hH2.out
 rw [eb2] at D2
 replace D2:=Lib.hid D2
 replace b2:=Lib.hid (b1.out.trans b2)
 clear D1 b1 A2 Rl2 hl2 hb2
 go_wp2_with fail
 refine D2.out.mono ?_
 rintro e w3 ⟨rfl,b3,W3,r3,eb3, -, -, -,bs3, -,A3⟩
 generalize takeS qc.cf s3 0 p3 = s4 at *
 have B3:=A3.own
 unfold W6.cells at B3
 rw [eb3] at B3
 have T3:w3.ownsRow 0 26 1 W3.vT 2 ([H1,H2].map uv):=A3.told
 obtain ⟨g3,cp3,hv3,u0⟩:=own_uv (i:=0) (x:=H1) T3 rfl
 obtain ⟨g3',cp3',hv3',u1⟩:=own_uv (i:=1) (x:=H2) T3 rfl
 rw [hv3] at hv3' B3
 injection hv3' with e1 e2 e3
 injection e1 with e1
 injection e1 with e1
 subst e1
 have nT:¬ Two W3.L W3.gl W1.b:=by
  rw [<- eb3]
  rintro (e | e)
  ·have:=A3.sep .own .set W3.b (.inl rfl) (by rw [e]; exact ⟨.bytes,rfl⟩); cases this
  ·have:=A3.sep .own .queue W3.b (.inl rfl) (.inr e); cases this
 have y1:=B3.cell 1
 have y4:=B3.cell 4
 have Q3:=A3.q
 have b3':=b2.out.trans b3
 have bT:∀ k,Two W3.L W3.gl k -> w.heap.size <= k:=by
  rintro k (e | e)
  ·exact A3.base .set k (by rw [e]; exact ⟨.bytes,rfl⟩)
  ·exact A3.base .queue k (.inr e)
 have lN:w.heap.size <= w3.heap.size:=A3.hN0
 replace b3':=Lib.hid b3'
 replace Q3:=Lib.hid Q3
 replace B3:=Lib.hid B3
 replace nT:=Lib.hid nT
 replace bT:=Lib.hid bT
 clear D2 b2 b3 A3 T3 hv3 e2 e3
 go_upto_region 7 with fail
 go_quiet (fail)
 rename Nat => nq1
 obtain ⟨w4,hw4⟩:∃ w4,w3.drewN nq1 = w4:=⟨_,rfl⟩
 rw [hw4]
 have Q4:=QW.drewN Q3.out nq1
 rw [hw4] at Q4
 have B4:=B3.out.drewN nq1
 rw [hw4] at B4
 have b4:Below w.heap.size w w4:=by rw [<- hw4]; exact below_drewN b3'.out _
 have k1:H1 < 18446744073709551616:=good_lt ok.out (by obtain ⟨F,S,q⟩:=Q4; exact S.zs.good) f1'.out
 have k2:H2 < 18446744073709551616:=good_lt ok.out (by obtain ⟨F,S,q⟩:=Q4; exact S.zs.good) f2.out
 have P1:=(pushC Q4 H1 k1 1).1
 rw [push_one f1'.out c1'.out (by rw [upd_ne _ _ hne.out,upd_at]; rfl) (by unfold stK; simp) false] at P1
 have y1:=B4.cell 1
 replace P1:=Lib.hid P1
 replace B4:=Lib.hid B4
 replace b4:=Lib.hid b4
 clear Q3 B3 hw4 u0 u1 y4 Q4 b3'
 go_wp2_with fail
 refine P1.out.mono ?_
 rintro e w5 ⟨rfl,o5,bs5,Z5, -,dz, -,Q5⟩
 have B5:Blk w5 W1.b 47 _:=(o5.block _ B4.out.lt nT.out).trans B4.out
 have P2:=(pushC Q5 H2 k2 1).2
 have st2:stK 0 (putN 0 (fun _ _ => []) H1 0 false) H2 = 0:=by
  have e0:putN 0 (fun _ _ => []) H1 0 false 0 0 = [H1]:=updL_at _ _ _ _
  have e1:putN 0 (fun _ _ => []) H1 0 false 0 1 = []:=updL_ne (by omega)
  have e2:putN 0 (fun _ _ => []) H1 0 false 0 2 = []:=updL_ne (by omega)
  unfold stK
  rw [e0,e1,e2]
  have:=hne.out
  simp
  omega
 rw [push_one f2.out c2.out (by rw [dz,upd_at]; rfl) st2 true] at P2
 have y1:=B5.cell 1
 have b5:=b4.out.trans (o5.toBelow (B:=w.heap.size) fun k hk => ⟨by have:=b4.out.size; omega,fun e => by have:=bT.out k e; omega⟩)
 replace P2:=Lib.hid P2
 replace B5:=Lib.hid B5
 replace b5:=Lib.hid b5
 clear P1 Q5 o5 B4 b4 dz st2
 go_wp2_with fail
 refine P2.out.mono ?_
 rintro e w6 ⟨rfl,o6,bs6,Z6, -, -, -,Q6⟩
 have B6:Blk w6 W1.b 47 _:=(o6.block _ B5.out.lt nT.out).trans B5.out
 have b6:=b5.out.trans (o6.toBelow (B:=w.heap.size) fun k hk => ⟨by have:=b5.out.size; omega,fun e => by have:=bT.out k e; omega⟩)
 have HC:=headC Q6 0 1
 have TC:=tailC Q6 0 1
 have NC:=lenC Q6 0 1
 have el:lsN qc (putN 0 (putN 0 (fun _ _ => []) H1 0 false) H2 0 true) 0 1 = [H1,H2]:=by
  unfold lsN
  rw [if_pos (by rw [qc_nc]; decide)]
  exact (updL_at _ _ _ _).trans (by rw [if_pos rfl]; show putN 0 (fun _ _ => []) H1 0 false 0 0 ++ [H2] = _; rw [show putN 0 (fun _ _ => []) H1 0 false 0 0 = [H1] from updL_at _ _ _ _]; rfl)
 rw [el] at HC TC NC
 have y1:=B6.cell 1
 replace HC:=Lib.hid HC
 replace TC:=Lib.hid TC
 replace NC:=Lib.hid NC
 replace b6:=Lib.hid b6
 clear P2 Q6 o6 B5 b5 B6 el
 go_wp2_with fail
 refine HC.out.mono ?_
 rintro e w7 ⟨rfl,rfl⟩
 go_wp2_with fail
 refine TC.out.mono ?_
 rintro e w7 ⟨rfl,rfl⟩
 go_wp2_with (first | (go_at_call 14; refine (n0 _).mono ?_; rintro e w' ⟨rfl,rfl⟩) | (go_at_call 29; refine NC.out.mono ?_; rintro e w' ⟨rfl,rfl⟩))
 go_ret
 exact ⟨rfl,b6.out⟩
def OCells (w:World) (b o:Nat) (p:Op6):Prop:=w.cell? ⟨b,o,none⟩ = some (.int .i64 p.dO) /\ w.cell? ⟨b,o + 1,none⟩ = some (.int .i64 p.a) /\ w.cell? ⟨b,o + 2,none⟩ = some (.int .i64 p.b) /\
 w.cell? ⟨b,o + 3,none⟩ = some (.int .i64 p.c) /\ w.cell? ⟨b,o + 4,none⟩ = some (.int .u64 (p.h:Int)) /\ w.cell? ⟨b,o + 5,none⟩ = some (.bool p.raw)
def ORow (W:World) (a0:Option Addr) (k:Nat) (p:Op6):Prop:=∃ b off,a0 = some (⟨b,off,none⟩:Addr) /\ b < W.heap.size /\ p.Ok /\ OCells W b (off + k * 6) p
theorem OCells.below {W w:World} {B b o:Nat} {p:Op6} (h:OCells W b o p) (k:Below B W w) (hb:b < B):OCells w b o p :=
 ⟨(k.cell (p:=⟨b,o,none⟩) hb).trans h.1,(k.cell (p:=⟨b,o + 1,none⟩) hb).trans h.2.1,(k.cell (p:=⟨b,o + 2,none⟩) hb).trans h.2.2.1,(k.cell (p:=⟨b,o + 3,none⟩) hb).trans h.2.2.2.1,(k.cell (p:=⟨b,o + 4,none⟩) hb).trans h.2.2.2.2.1,(k.cell (p:=⟨b,o + 5,none⟩) hb).trans h.2.2.2.2.2⟩
theorem WI.new {w:World} {N:Nat} {W:W6} (h:WAt N w W qc (new0 qc.cf) (List.replicate (qc.cf.ps * qc.cf.np) 0) (fun _ => none) (fun _ _ => []) (fun _ _ => []) rnew0 [] []) :
  WI N w W (new0 qc.cf) (List.replicate (qc.cf.ps * qc.cf.np) 0) (fun _ => none) (fun _ _ => []) rnew0 [] [] 0 :=
 ⟨h,rel_new _,fun H i x p _ => ⟨fun e => (by cases e),fun e => (by cases e)⟩,List.length_replicate,Nat.zero_le _,Nat.zero_le _,Nat.zero_le _,fun H e => (by cases e),fun H e => (by cases e),List.nodup_nil,fun H e => (by cases e)⟩
end Go.Proofs.YtfjiphibalhcgaaGreat.Que
/-
  What the argument is that holds operations of the queue's laws.
-/
namespace Go.Proofs.YtfjiphibalhcgaaGreat.QueArg
open Go.ChangeShapes Go.WideShapes Go.ChangeAt Go.RowKit LawFrame Go.Deep ClsArg
variable {H:Type} {enc:TypeId × Value -> H}
theorem ops6_at {W:World} {fuel len cap:Nat} {A:Option Addr} {x:DataW H × List MemPlace} (h:DataW.trod enc Tryz.prog W 0 (fun _ => true) true fuel 22 [.slice A len cap] = some x) :
  ∃ l:List Que.Op6,l.length = len /\ len <= cap /\ cap <= maxLen /\ ∀ (k:Nat) (hk:k < l.length),Que.ORow W A k l[k]:=by
 obtain ⟨hl,hm,hi⟩:=fields_at Tryz.underlying22 Tryz.underlying28 (by kernel_rfl) (by kernel_rfl) (by decide) h
 obtain ⟨l,hlen,hP⟩:=list_of (fun k (p:Que.Op6) => Que.ORow W A k p) len (by
  intro k hk
  obtain ⟨b,off,n,rfl,hb,hfi⟩:=hi k hk
  obtain ⟨v0,y0,hc0,ht0⟩:=hfi 0 _ rfl
  obtain ⟨v1,y1,hc1,ht1⟩:=hfi 1 _ rfl
  obtain ⟨v2,y2,hc2,ht2⟩:=hfi 2 _ rfl
  obtain ⟨v3,y3,hc3,ht3⟩:=hfi 3 _ rfl
  obtain ⟨v4,y4,hc4,ht4⟩:=hfi 4 _ rfl
  obtain ⟨v5,y5,hc5,ht5⟩:=hfi 5 _ rfl
  obtain ⟨x0,e0, -,wx0⟩:=DataW.trod_int Tryz.underlying3 ht0
  obtain ⟨x1,e1, -,wx1⟩:=DataW.trod_int Tryz.underlying3 ht1
  obtain ⟨x2,e2, -,wx2⟩:=DataW.trod_int Tryz.underlying3 ht2
  obtain ⟨x3,e3, -,wx3⟩:=DataW.trod_int Tryz.underlying3 ht3
  obtain ⟨x4,e4, -,wx4⟩:=DataW.trod_int Tryz.underlying26 ht4
  obtain ⟨x5,e5, -⟩:=DataW.trod_bool Tryz.underlying4 ht5
  simp only [List.cons.injEq,and_true] at e0 e1 e2 e3 e4 e5
  obtain ⟨u4,e4',hu4⟩:=u64_nat wx4
  subst e4'
  subst e0 e1 e2 e3 e4 e5
  exact ⟨⟨x0,x1,x2,x3,u4,x5⟩,b,off,rfl,hb,⟨i64_bd wx0,i64_bd wx1,i64_bd wx2,i64_bd wx3,hu4⟩,hc0,hc1,hc2,hc3,hc4,hc5⟩)
 exact ⟨l,hlen,hl,hm,fun k hk => hP k hk⟩
end Go.Proofs.YtfjiphibalhcgaaGreat.QueArg
/-
  QueueRow's row in plain numbers.
-/
namespace Go.Proofs.YtfjiphibalhcgaaGreat.Que
open Go.RowKit Base Arena Cls Itm
def oneL (k:Nat) (l:List Nat):Nat -> Nat -> List Nat:=fun a b => if a = 0 /\ b = k then l else []
structure RowI (s:St) (Z:Nat -> Option Zd) (told want:List Nat):Prop where
 it:∀ H ∈ told,∃ i x p,findN qc.cf s H = some (i,x,p) /\ s.cls i = 0
 is:∀ H ∈ told,(Z H).isSome = true
 sub:∀ H ∈ want,H ∈ told
 nd:want.Nodup
def Rm (s:St) (i:Nat):Prop:=(i = 0 /\ s = new0 qc.cf) \/ (0 < i /\ (s.free 0).length + i = 64)
section
variable {s:St} {Z:Nat -> Option Zd} {told want:List Nat} (h:RowI s Z told want) {H:Nat} (hH:H ∈ told) {k:Nat} (hk:k < 3) {l:List Nat}
include h hH
include hk
end
theorem WAt.only {N:Nat} {w w':World} {W:W6} {c:Conf} {s:St} {bs:List UInt8} {Z:Nat -> Option Zd} {Ls Ld:Nat -> Nat -> List Nat} {r:RS} {laid told:List Nat} (h:WAt N w W c s bs Z Ls Ld r laid told) {S:Nat -> Prop} (o:Only S w w') (hs:∀ i b,W.foot c s i b -> ¬ S b) :
  WAt N w' W c s bs Z Ls Ld r laid told:=by
 obtain ⟨F,S,q⟩:=h.q
 exact ⟨⟨F,⟨S.zs.only o fun b hb => hs .set b hb,S.q.only o (hs .queue _ (.inl rfl)) (hs .queue _ (.inr rfl)),S.fq,S.fl⟩,q⟩,h.ref.only o fun b hb => hs .ref b hb,h.doc.only o fun b hb => hs .doc b hb,
  (o.block _ h.own.lt (hs .own _ (.inl rfl))).trans h.own,own_keptN h.told fun b e => o.block b (own_blockN h.told e) (hs .own b (.inr e)),h.sep,h.tb,h.base⟩
structure RowAt (N:Nat) (w0 w:World) (W:W6) (k:Nat) (s:St) (bs:List UInt8) (Z:Nat -> Option Zd) (r:RS) (laid told want l:List Nat) (v:Value):Prop where
 bel:Below N w0 w
 wat:WAt N w W qc s bs Z (oneL k l) (fun _ _ => []) r laid told
 row:RowI s Z told want
 rel:Rel qc.cf s r
 rm:Rm s told.length
 bs:bs.length = qc.cf.ps * qc.cf.np
 ch:r.ch.length <= 16384 * told.length
 la:laid.length <= told.length
 own:w.ownsRow N 26 1 v want.length (want.map uv)
 far:∀ b,v.ownBlock = some b -> ∀ i,¬ W.foot qc s i b
def RwAt (N:Nat) (w0 w:World) (W:W6) (k:Nat) (told want l:List Nat) (v:Value):Prop:=∃ s bs Z r laid,RowAt N w0 w W k s bs Z r laid told want l v
section
variable {N:Nat} {w0 w:World} {W:W6} {k:Nat} {told want l:List Nat} {v:Value} (h:RwAt N w0 w W k told want l v)
include h
variable (hk:k < 3) {H:Nat} (hH:H ∈ told)
include hk hH
end
section
variable {N:Nat} {w0 w:World} {W:W6} {k:Nat} {told want l:List Nat} {v:Value} (h:RwAt N w0 w W k told want l v) (hk:k < 3)
include h hk
end
end Go.Proofs.YtfjiphibalhcgaaGreat.Que
/-
  A region that draws its order inside a round of a range over a function: one walk of the lexical order serves every order. Nothing here names a function of the program.
-/
namespace Go.Proofs.YtfjiphibalhcgaaGreat.Base
open Go.RowKit
section
variable {F:Fence} {n:Nat} {P:Program} {ops:Array Oper} {md:Region.Mode} {C:World -> Prop}
def noDefer (ops:Array Oper):Bool:=ops.toList.all fun o => match o.op with
 | .defer _ => false
 | _ => true
theorem noDefer_spec (h:noDefer ops = true) {j:Nat} {o:Oper} (ho:ops[j]? = some o):∀ c,o.op ≠ .defer c:=fun c e => by
 have hm:o ∈ ops.toList:=by simpa using Array.mem_of_getElem? ho
 have:=List.all_eq_true.1 h o hm
 rw [e] at this
 cases this
theorem wpIn_of_quiet_r {o:Oper} {a:Act} {K:Act -> Prop} {K':Act -> World -> Prop} {Q':Exit -> Act -> World -> Prop} {w:World} (hd:∀ c,o.op ≠ .defer c) (hw:C w) (h:∀ a w',C w' -> K a -> K' a w')
  (ha:o.askedIn F P a C) (hh:o.quietIn F n P a C K):o.wpIn F n P a w K' Q':=by
 obtain ⟨v,h1,h2⟩:=hh
 have h3:=h1 w hw
 unfold Oper.quietAtIn at h3
 unfold Oper.wpIn
 refine ⟨ha w hw,?_⟩
 rw [Oper.semAt_plain F _ _ hd]
 generalize (execOp a.eval o).run P w = r at *
 cases r with
 | ok x w' =>
  cases x <;> simp only [Oper.quietUponIn] at h3 <;> simp only [Oper.uponIn]
  case value u =>
   obtain ⟨e1,e2⟩:=h3
   rw [e1,e2]
   exact h _ _ hw h2
  case skip =>
   obtain ⟨e1,e2⟩:=h3
   rw [e1, <- e2]
   exact h _ _ hw h2
  case enter f args =>
   obtain ⟨e1,hd,hc⟩:=h3
   rw [e1]
   exact ⟨hd,hc.mono fun e w'' ⟨he,hw''⟩ => by subst he; exact h _ _ hw'' h2⟩
 | halt x w' => simp only [Oper.quietUponIn] at h3
theorem wpOpIn_of_qOpIn_r {i:Nat} {a:Act} {K:Act -> Prop} {K':Act -> World -> Prop} {Q':Exit -> Act -> World -> Prop} {w:World} (hd:noDefer ops = true) (hC:C w) (h:∀ a w',C w' -> K a -> K' a w')
  (hh:qOpIn F n P ops C i K a):wpOpIn F n P ops Q' i K' a w:=by
 unfold qOpIn at hh
 unfold wpOpIn
 split
 ·rename_i ho; simp only [ho] at hh; exact h _ _ hC hh
 ·rename_i o ho
  simp only [ho] at hh
  obtain ⟨ha,hh⟩:=hh
  split
  ·rename_i hw; simp only [hw,if_true] at hh; exact wpIn_of_quiet_r (noDefer_spec hd ho) hC h ha hh
  ·rename_i hw; simp only [hw] at hh; exact ⟨ha w hC,h _ _ hC hh⟩
end
end Go.Proofs.YtfjiphibalhcgaaGreat.Base
/-
  A region that draws its order, inside a fence and in rounds too: operations that only read or draw, and then a tail in one forced order that may write. One walk of the text's order serves every order.
-/
namespace Go.Proofs.YtfjiphibalhcgaaGreat.Base
open Go
section
variable {F:Fence} {rm:Nat} {P:Program} {ops:Array Oper} {md:Region.Mode} {C:World -> Prop}
theorem wpAnyIn_of_seqR {Q':Exit -> Act -> World -> Prop}:∀ (l:List Oper) (k:Nat) (listed:Array Bool) (a:Act) (w:World),(∀ j,l[j]? = ops[k + j]?) ->
  Region.seqB md ops l.length k listed = true -> wpListIn F rm P ops Q' l a w -> wpAnyIn F rm P md ops Q' l.length listed a w
 | [],_,_,_,_,_,hB,h => ⟨by simpa [Region.seqB] using hB,h⟩
 | o :: l,k,listed,a,w,hl,hB,h => by
  have h0:ops[k]? = some o:=by simpa using (hl 0).symm
  simp only [List.length_cons,Region.seqB,Bool.and_eq_true,decide_eq_true_eq] at hB
  refine ⟨fun h1 => (by rw [hB.1] at h1; cases h1),fun i hi => ?_⟩
  rw [hB.1] at hi
  have hik:i = k:=by simpa using hi
  subst hik
  have hw:wpOpIn F rm P ops Q' i (wpListIn F rm P ops Q' l) a w:=by unfold wpOpIn; simp only [h0]; exact h
  exact wpOpIn_mono (fun a' w' h' => wpAnyIn_of_seqR l (i + 1) _ a' w' (fun j => by have:=hl (j + 1); simpa [Nat.add_assoc,Nat.add_comm 1 j] using this) hB.2 h') hw
def headAnyR (F:Fence) (rm:Nat) (P:Program) (md:Region.Mode) (ops:Array Oper) (C:World -> Prop) (n:Nat) (L:Array Bool -> Act -> Prop):Nat -> Array Bool -> Act -> Prop
 | 0,listed,a => L listed a
 | f + 1,listed,a => Region.ready md ops listed ≠ [] /\ ∀ i ∈ Region.ready md ops listed,i < n /\ qOpIn F rm P ops C i (headAnyR F rm P md ops C n L f (listed.setIfInBounds i true)) a
theorem any_of_headR (hd:noDefer ops = true) {n k:Nat} {L:Array Bool -> Act -> Prop} {Q:Exit -> Act -> World -> Prop} (hL:∀ listed a w,C w -> L listed a -> wpAnyIn F rm P md ops Q k listed a w) :
  ∀ (f:Nat) (listed:Array Bool) (a:Act) (w:World),C w -> headAnyR F rm P md ops C n L f listed a -> wpAnyIn F rm P md ops Q (f + k) listed a w:=by
 intro f
 induction f with
 | zero => intro listed a w hw h; rw [Nat.zero_add]; exact hL _ _ _ hw h
 | succ f ih =>
  intro listed a w hw h
  rw [Nat.succ_add]
  exact ⟨fun h0 => absurd h0 h.1,fun i hi => wpOpIn_of_qOpIn_r hd hw (fun a' w' hw' h' => ih _ a' w' hw' h') (h.2 i hi).2⟩
theorem head_firstR {n i:Nat} {o:Oper} {v:Value} {L:Array Bool -> Act -> Prop} (ho:ops[i]? = some o) (hsel:∀ (j:Nat) (o:Oper) cs b,ops[j]? = some o -> o.op ≠ .select cs b)
  (hs:Region.sinkB md ops n = true) (hc:Region.chainB md ops n = true) (hn:n < ops.size) (hin:i < n) (hdone:∀ listed a,L listed a -> ∀ j ∈ Region.ready md ops listed,n <= j) :
  ∀ (f:Nat) (listed:Array Bool) (a:Act),HeadInv md ops n listed ->
   (∀ j oj,ops[j]? = some oj -> j ≠ i -> listed.getD j true = false -> (∀ e ∈ oj.after,Region.binds md e = true -> e.on ≠ i) -> o.apart ops oj = true) ->
   i ∈ Region.ready md ops listed -> YieldsQuiet F rm P ops C o v a -> headAnyR F rm P md ops C n L f (listed.setIfInBounds i true) (a.put o.dst v) -> headAnyR F rm P md ops C n L (f + 1) listed a:=by
 intro f
 induction f with
 | zero =>
  intro listed a inv hfree hr hy H
  have hi0:=(mem_ready.1 hr).1
  have low:∀ j ∈ Region.ready md ops listed,j < n:=fun j hj => by
   rcases Nat.lt_or_ge j n with h | h
   ·exact h
   ·exact absurd hj (tail_waits hs hc hn inv _ i rfl hin hi0 j h)
  refine ⟨fun h => (by rw [h] at hr; cases hr),fun j hj => ⟨low j hj,?_⟩⟩
  by_cases hji:j = i
  ·rw [hji]; exact hy.qOpIn ho H
  ·have h1:=hdone _ _ H j (ready_mono hj hji)
   have h2:=low j hj
   omega
 | succ f ih =>
  intro listed a inv hfree hr hy H
  have hi0:=(mem_ready.1 hr).1
  have low:∀ j ∈ Region.ready md ops listed,j < n:=fun j hj => by
   rcases Nat.lt_or_ge j n with h | h
   ·exact h
   ·exact absurd hj (tail_waits hs hc hn inv _ i rfl hin hi0 j h)
  refine ⟨fun h => (by rw [h] at hr; cases hr),fun j hj => ⟨low j hj,?_⟩⟩
  by_cases hji:j = i
  ·rw [hji]; exact hy.qOpIn ho H
  obtain ⟨hj0,oj,hoj,hall⟩:=mem_ready.1 hj
  have hnot:∀ e ∈ oj.after,Region.binds md e = true -> e.on ≠ i:=fun e he hb heq => by
   have h1:=hall e he hb
   rw [heq,getD_both hi0] at h1
   cases h1
  have h1:=(H.2 j (ready_mono hj hji)).2
  have h2:=qOpIn_put hoj (hfree j oj hoj hji hj0 hnot) (fun cs b => hsel i o cs b ho) (fun cs b => hsel j oj cs b hoj) hy h1
  refine qOpIn_mono (fun a' h3 => ih (listed.setIfInBounds j true) a' (inv.set hj (low j hj)) ?_ (ready_mono hr (Ne.symm hji)) h3.1 ?_) h2
  ·intro k ok hk hki hun hno
   refine hfree k ok hk hki ?_ hno
   by_cases hjk:j = k
   ·rw [<- hjk]; exact hj0
   ·rwa [getD_set_ne true hjk] at hun
  ·rw [Array.setIfInBounds_comm _ _ hji]
   exact h3.2
theorem head_lexR {n k:Nat} {R:Act -> Prop} (hsel:Region.noSelect ops = true) (hs:Region.sinkB md ops n = true) (hc:Region.chainB md ops n = true) (hn:n < ops.size) :
  ∀ (l:List Oper) (m:Nat) (listed:Array Bool) (a:Act),(∀ j,j < l.length -> l[j]? = ops[m + j]?) -> m + l.length = n -> HeadInv md ops n listed -> Region.lexHead md ops k l.length m listed = true ->
   wpQuietIn F rm P ops C R l a -> headAnyR F rm P md ops C n (fun listed' a' => Region.seqB md ops k n listed' = true /\ R a') l.length listed a:=by
 intro l
 induction l with
 | nil =>
  intro m listed a _ hm _ hB h
  have:m = n:=by simpa using hm
  subst this
  exact ⟨by simpa [Region.lexHead] using hB,h⟩
 | cons o l ih =>
  intro m listed a hl hm inv hB h
  have h0:ops[m]? = some o:=by simpa using (hl 0 (by simp)).symm
  simp only [List.length_cons,Region.lexHead,Bool.and_eq_true] at hB
  have hmn:m < n:=by simp only [List.length_cons] at hm; omega
  have hr:m ∈ Region.ready md ops listed:=by simpa using hB.1.1
  have hq:qOpIn F rm P ops C m (wpQuietIn F rm P ops C R l) a:=by unfold qOpIn; simp only [h0]; exact h
  obtain ⟨v,hy,hK⟩:=yieldsQuiet_of_qOpIn h0 hq
  refine head_firstR h0 (Region.noSelect_spec hsel) hs hc hn hmn (fun listed' a' hL => seqB_ready hL.1) l.length listed a inv (Region.free_spec h0 hB.1.2) hr hy ?_
  exact ih (m + 1) _ _ (fun j hj => by have:=hl (j + 1) (by simp; omega); simpa [Nat.add_assoc,Nat.add_comm 1 j] using this) (by simp only [List.length_cons] at hm; omega) (inv.set hr hmn) hB.2 hK
theorem region_quiet_tailR {id:Nat} {Q:Exit -> Act -> World -> Prop} {a:Act} {w:World} {l:List Oper} (n:Nat) (hm:P.follows .mixedOrders = true) (hd:noDefer l.toArray = true) (hB:Region.lexTailB .any l.toArray n = true)
  (h:wpQuietIn F rm P l.toArray (fun w' => ∃ m,w' = w.drewN m) (fun a' => ∀ w',(∃ m,w' = w.drewN m) -> wpListIn F rm P l.toArray Q (l.drop n) a' w') (l.take n) a):(Code.region id l.toArray true).wpIn F rm P Q a w:=by
 simp only [Region.lexTailB,Bool.and_eq_true,decide_eq_true_eq] at hB
 obtain ⟨⟨⟨⟨hsel,hn⟩,hs⟩,hc⟩,hlex⟩:=hB
 have hn':n < l.length:=by simpa using hn
 have htl:(l.take n).length = n:=by simp; omega
 have hdl:(l.drop n).length = l.toArray.size - n:=by simp
 have inv0:HeadInv .any l.toArray n (Array.replicate l.toArray.size false) :=
  ⟨by simp,fun j oj _ hl => (by rw [getD_replicate_false] at hl; cases hl),fun t _ ht => getD_in (by simpa using ht) (getD_replicate_false _ _)⟩
 have H:=head_lexR (F:=F) (rm:=rm) (md:=.any) (C:=fun w' => ∃ m,w' = w.drewN m) (k:=l.toArray.size - n) hsel hs hc hn (l.take n) 0 _ a (fun j hj => by rw [htl] at hj; simp [hj]) (by simpa using htl) inv0 (by rw [htl]; exact hlex) h
 refine wpIn_region_any hm ?_
 have G:=any_of_headR (F:=F) (rm:=rm) hd (Q:=Q) (k:=l.toArray.size - n) (C:=fun w' => ∃ m,w' = w.drewN m) (fun listed a' w' hw' hL => by
  have:=wpAnyIn_of_seqR (md:=.any) (Q':=Q) (l.drop n) n listed a' w' (fun j => by simp [List.getElem?_drop]) (by rw [hdl]; exact hL.1) (hL.2 w' hw')
  rwa [hdl] at this) _ _ _ w.drew ⟨1,rfl⟩ H
 rw [htl,show n + (l.toArray.size - n) = l.toArray.size by omega] at G
 exact G
end
end Go.Proofs.YtfjiphibalhcgaaGreat.Base
/-
  What the body of a range over All may call, over the statements' world: the lists go on, the document's rows come to new memory.
-/
namespace Go.Proofs.YtfjiphibalhcgaaGreat.Que
open Go.RowKit Base Arena Cls Itm Go.Shelf
def URow (w:World) (b:Nat):Prop:=∃ xs fr,w.heap[b]? = some (.cells xs 26 fr)
theorem own_urow {w:World} {N n:Nat} {v:Value} {xs:List Value} {b:Nat} (h:w.ownsRow N 26 1 v n xs) (hb:v.ownBlock = some b):URow w b:=by
 rcases h.2 with ⟨rfl,_⟩ | ⟨g,cap,cur,rfl,hB,hg,_⟩
 ·cases hb
 ·have:g = b:=by simpa [Value.ownBlock] using hb
  subst this
  exact ⟨_,_,hg⟩
theorem r6_urow {w:World} {R:R6} {mb n:Nat} {laid:List Nat} {lists:Nat -> List Nat} (h:R6At w R mb n laid lists) {b:Nat} (hb:F6 R n b):b = R.b \/ b = R.gL \/ URow w b:=by
 obtain ⟨p,hp⟩:=hb
 cases p with
 | head => exact .inl (Option.some.inj hp).symm
 | laid => exact .inr (.inr (own_urow h.laidR hp))
 | grid => exact .inr (.inl (Option.some.inj hp).symm)
 | row k =>
  by_cases hk:k < n
  ·rw [R6.blk,if_pos hk] at hp; exact .inr (.inr (own_urow (h.row hk) hp))
  ·rw [R6.blk,if_neg hk] at hp; cases hp
def RG (N:Nat) (W0 w0 wx:World) (D:Nat) (E:Nat -> Prop) (W:W6) (s:St) (r:RS) (laid told:List Nat) (t:Nat):Prop :=
 ∃ bs Z R' Ls,R'.b = W.R.b /\ R'.gL = W.R.gL /\ WI N wx { W with R:=R' } s bs Z Ls r laid told t /\ (∀ i b,W6.foot { W with R:=R' } qc s i b -> (∃ j,W.foot qc s j b) \/ D <= b) /\
  Only (fun b => E b \/ (∃ i,W.foot qc s i b) \/ D <= b) w0 wx /\ Below N W0 wx
theorem GoesM.behind {N:Nat} {w w1 w':World} {W:W6} {s:St} {bs:List UInt8} {Z:Nat -> Option Zd} {r:RS} {laid told:List Nat} {t:Nat} (b:Below w.heap.size w w1) (h:GoesM N w1 w' W s bs Z r laid told t):GoesM N w w' W s bs Z r laid told t:=by
 obtain ⟨bs',Z',R',Ls',e1,e2,G,E,z,T⟩:=h
 exact ⟨bs',Z',R',Ls',e1,e2,((Grew.refl _ _ _ _).step b).trans G,E,z,T⟩
theorem WI.goesM {N:Nat} {w w':World} {W:W6} {s:St} {bs:List UInt8} {Z:Nat -> Option Zd} {Ls:Nat -> Nat -> List Nat} {r:RS} {laid told:List Nat} {t:Nat} (h:WI N w W s bs Z Ls r laid told t) (b:Below w.heap.size w w'):GoesM N w w' W s bs Z r laid told t :=
 ⟨bs,Z,W.R,Ls,rfl,rfl,(Grew.refl _ _ _ _).step b,Ed.refl _ _,fun _ => rfl,h.below b⟩
section
variable {N:Nat} {W0 w0 wx:World} {D:Nat} {E:Nat -> Prop} {W:W6} {s:St} {r:RS} {laid told:List Nat} {t:Nat}
theorem RG.start {bs:List UInt8} {Z:Nat -> Option Zd} {Ls:Nat -> Nat -> List Nat} (h:WI N w0 W s bs Z Ls r laid told t) (hB:Below N W0 w0):RG N W0 w0 w0 D E W s r laid told t :=
 ⟨bs,Z,W.R,Ls,rfl,rfl,h,fun i b hb => .inl ⟨i,hb⟩,Only.refl _ _,hB⟩
variable (h:RG N W0 w0 wx D E W s r laid told t)
include h
theorem RG.at_ (hf:∀ i b,W.foot qc s i b -> b < D):∃ bs Z R' Ls,R'.b = W.R.b /\ R'.gL = W.R.gL /\ WI N wx { W with R:=R' } s bs Z Ls r laid told t /\ (∀ i b,W6.foot { W with R:=R' } qc s i b -> (∃ j,W.foot qc s j b) \/ D <= b /\ URow wx b):=by
 obtain ⟨bs,Z,R',Ls,e1,e2,T,hF,o,B⟩:=h
 refine ⟨bs,Z,R',Ls,e1,e2,T,fun i b hb => ?_⟩
 rcases hF i b hb with h1 | h1
 ·exact .inl h1
 ·cases i with
  | set => exact .inl ⟨.set,hb⟩
  | ref => exact .inl ⟨.ref,hb⟩
  | queue => exact .inl ⟨.queue,hb⟩
  | own => exact .inl ⟨.own,hb⟩
  | doc =>
   rcases r6_urow T.wat.doc hb with e | e | e
   ·exact .inl ⟨.doc,.head,by rw [e]; show some W.R.b = some R'.b; rw [e1]⟩
   ·exact .inl ⟨.doc,.grid,by rw [e]; show some W.R.gL = some R'.gL; rw [e2]⟩
   ·exact .inr ⟨h1,e⟩
theorem RG.only {S:Nat -> Prop} {w':World} (o:Only S wx w') (hS:∀ b,S b -> (E b \/ D <= b) /\ N <= b) (hn:∀ bs Z R' Ls,R'.b = W.R.b -> R'.gL = W.R.gL -> WI N wx { W with R:=R' } s bs Z Ls r laid told t -> (∀ i b,W6.foot { W with R:=R' } qc s i b -> (∃ j,W.foot qc s j b) \/ D <= b) -> ∀ i b,W6.foot { W with R:=R' } qc s i b -> ¬ S b):RG N W0 w0 w' D E W s r laid told t:=by
 obtain ⟨bs,Z,R',Ls,e1,e2,T,hF,o0,B⟩:=h
 refine ⟨bs,Z,R',Ls,e1,e2,⟨T.wat.only o (hn bs Z R' Ls e1 e2 T hF),T.rel,T.agr,T.bs,T.ch,T.la,T.tl,T.tlt,T.lg,T.ln,T.lt⟩,hF,o0.trans o fun b _ e => (hS b e).1.imp id fun h => .inr h,B.trans (o.toBelow fun k hk => ⟨by have:=T.wat.hN0; omega,fun e => by have:=(hS k e).2; omega⟩)⟩
theorem RG.below {w':World} (b:Below wx.heap.size wx w'):RG N W0 w0 w' D E W s r laid told t:=by
 obtain ⟨bs,Z,R',Ls,e1,e2,T,hF,o0,B⟩:=h
 exact ⟨bs,Z,R',Ls,e1,e2,T.below b,hF,o0.below b o0.size,B.trans (b.mono T.wat.hN0)⟩
theorem RG.onlyR:Only (fun b => E b \/ (∃ i,W.foot qc s i b) \/ D <= b) w0 wx /\ Below N W0 wx:=by
 obtain ⟨bs,Z,R',Ls,e1,e2,T,hF,o0,B⟩:=h
 exact ⟨o0,B⟩
theorem RG.call (hf:∀ i b,W.foot qc s i b -> b < D) (hD:D <= wx.heap.size) {F:FuncId} {args:Array Value} (C:∀ bs Z R' Ls,R'.b = W.R.b -> WI N wx { W with R:=R' } s bs Z Ls r laid told t -> Calls Tryz.prog F args wx fun e w' => e = .returned (.bool true) /\ GoesM N wx w' { W with R:=R' } s bs Z r laid told t) :
  Calls Tryz.prog F args wx fun e w' => e = .returned (.bool true) /\ RG N W0 w0 w' D E W s r laid told t /\ KeepP D wx w' /\ (∀ b,b < D -> (∀ i,¬ W.foot qc s i b) -> w'.heap[b]? = wx.heap[b]?) /\ (∀ l,D <= l -> (∃ x,wx.heap[l]? = some (.loop x)) -> w'.heap[l]? = wx.heap[l]?):=by
 obtain ⟨bs1,Z1,R1,Ls1,f1,f2,T1,hU⟩:=h.at_ hf
 have h:=h
 obtain ⟨-, -, -, -, -, -, -, -,o0,B⟩:=h
 refine (C bs1 Z1 R1 Ls1 f1 T1).mono ?_
 rintro e w' ⟨e0,bs',Z',R',Ls',e1,e2,G,Ee,z,T⟩
 have oo:=G.only
 have nU:∀ b ob,wx.heap[b]? = some ob -> prot ob = true -> D <= b -> ¬ ∃ i,W6.foot { W with R:=R1 } qc s i b:=fun b ob hb hp hD ⟨i,e⟩ => by
  rcases hU i b e with ⟨j,hj⟩ | ⟨-,xs,fr,hx⟩
  ·have:=hf j b hj; omega
  ·rw [hx] at hb
   have:=Option.some.inj hb
   subst this
   have hp:decide (26 ≠ 26) = true:=hp
   simp at hp
 refine ⟨e0,⟨bs',Z',R',Ls',e1.trans f1,e2.trans f2,T,fun i b hb => ?_,o0.trans oo fun b _ ⟨i,e⟩ => ?_,B.trans (G.below T1.wat.base T1.wat.hN0)⟩,KeepP.only oo fun b ob hb ho hp => nU b ob ho hp hb,fun b hb hn => ?_,fun l hl ⟨x,hx⟩ => oo.block l (heap_lt hx) ?_⟩
 ·rcases G.foot i b hb with ⟨j,hj⟩ | hj
  ·exact (hU j b hj).imp id fun h => h.1
  ·exact .inr (Nat.le_trans hD hj)
 ·rcases hU i b e with h1 | h1
  ·exact .inr (.inl h1)
  ·exact .inr (.inr h1.1)
 ·refine oo.block b (by omega) fun ⟨i,e⟩ => ?_
  rcases hU i b e with ⟨j,hj⟩ | ⟨h1, -⟩
  ·exact hn j hj
  ·omega
 ·rintro ⟨i,e⟩
  rcases hU i l e with ⟨j,hj⟩ | ⟨-,xs,fr,h2⟩
  ·have:=hf j l hj; omega
  ·rw [hx] at h2; cases h2
end
theorem rg_own {β:Type} {N:Nat} {W0 w0:World} {D B:Nat} {E:Nat -> Prop} {W:W6} {s:St} {r:RS} {laid told:List Nat} {t:Nat} (hf:∀ i b,W.foot qc s i b -> b < D) (hB:D <= B) (hN:N <= D):OwnFrom B (fun (_ : β) Wx => RG N W0 w0 Wx D E W s r laid told t):=fun _ X Y row hs hg hr => by
 obtain ⟨bs1,Z1,R1,Ls1,f1,f2,T1,hU⟩:=hs.at_ hf
 obtain ⟨-, -, -, -, -, -, -, -,o0,BB⟩:=hs
 have o:Only (fun b => row = some b) X Y:=(Only.refl _ X).grown hg fun k e hk => e
 have hlo:∀ b,row = some b -> D <= b:=fun b e => by have:=(hr b e).1; omega
 refine ⟨bs1,Z1,R1,Ls1,f1,f2,⟨T1.wat.only o fun i b hb e => ?_,T1.rel,T1.agr,T1.bs,T1.ch,T1.la,T1.tl,T1.tlt,T1.lg,T1.ln,T1.lt⟩,fun i b hb => (hU i b hb).imp id fun h => h.1,o0.trans o fun b _ e => .inr (.inr (hlo b e)),BB.trans (o.toBelow fun k hk => ⟨by have:=T1.wat.hN0; omega,fun e => by have:=hlo k e; omega⟩)⟩
 rcases hU i b hb with ⟨j,hj⟩ | ⟨-,xs,fr,h2⟩
 ·have:=hf j b hj; have:=hlo b e; omega
 ·obtain ⟨-,ob,h3,h4⟩:=hr b e
  rw [h2] at h3
  have:=Option.some.inj h3
  subst this
  cases h4
theorem RG.lift {N:Nat} {W0 w6 w8 wx:World} {D6 D8:Nat} {E:Nat -> Prop} {W:W6} {s:St} {r:RS} {laid told:List Nat} {t:Nat} {R1:R6} (e1:R1.b = W.R.b) (e2:R1.gL = W.R.gL) (f1:∀ i b,W6.foot { W with R:=R1 } qc s i b -> (∃ j,W.foot qc s j b) \/ D6 <= b)
  (o1:Only (fun b => False \/ (∃ i,W.foot qc s i b) \/ D6 <= b) w6 w8) (hD:D6 <= D8) (hE:∀ b,E b -> D6 <= b) (k:RG N W0 w8 wx D8 E { W with R:=R1 } s r laid told t):RG N W0 w6 wx D6 (fun _ => False) W s r laid told t:=by
 obtain ⟨bs,Z,R',Ls,g1,g2,T,hF,o0,B⟩:=k
 refine ⟨bs,Z,R',Ls,g1.trans e1,g2.trans e2,T,fun i b hb => ?_,o1.trans o0 fun b _ e => ?_,B⟩
 ·rcases hF i b hb with ⟨j,hj⟩ | h1
  ·exact f1 j b hj
  ·exact .inr (Nat.le_trans hD h1)
 ·rcases e with e | ⟨i,e⟩ | e
  ·exact .inr (.inr (hE b e))
  ·exact (f1 i b e).elim (fun h => .inr (.inl h)) fun h => .inr (.inr h)
  ·exact .inr (.inr (Nat.le_trans hD e))
end Go.Proofs.YtfjiphibalhcgaaGreat.Que
