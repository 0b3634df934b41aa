/-
  Contracts and lemmas, joined: QueueRangesLaw.
-/
import Derived.Sort.CutIn
import Derived.Test.YtfjiphibalhcgaaGreatG12
import Derived.Test.YtfjiphibalhcgaaGreatG13
set_option linter.unusedSimpArgs false
set_option linter.unusedVariables false
set_option linter.unusedSectionVars false
set_option maxRecDepth 100000
/-
  The law QueueRanges.
-/
namespace Go.Proofs.YtfjiphibalhcgaaGreat.Que
open Go.RowKit Base Arena Cls Itm Go.Shelf
attribute [local go_sem] Oper.semAt_some
theorem cut_block {F:Fence} {rm:Nat} {P:Program} {s:Code} {id:Nat} {K:Act -> World -> Prop} {Q':Exit -> Act -> World -> Prop} {a:Act} {w:World} (R:Act -> World -> Prop)
    (first:∀ J:Act -> World -> Prop,(∀ a' w',R a' w' -> J a' w') -> s.wpIn F rm P (Exit.inBlock id (Exit.then J Q')) a w) (rest:∀ a' w',R a' w' -> K a' w'):s.wpIn F rm P (Exit.inBlock id (Exit.then K Q')) a w:=by
  refine wpIn_mono (first R fun _ _ h => h) ?_
  intro e a' w' hq
  cases e with
  | normal => exact rest _ _ hq
  | exit i =>
    unfold Exit.inBlock at hq ⊢
    simp only at hq ⊢
    split
    · rename_i h
      rw [if_pos h] at hq
      exact rest _ _ hq
    · rename_i h
      rw [if_neg h] at hq
      exact hq
  | goto l => exact hq
  | ret => exact hq
  | panic ch => exact hq
  | outgrown => exact hq
def GoQ (N:Nat) (W0:World) (b V:Nat) (w:World) (t:Nat):Prop:=∃ W s bs Z Ls r laid told,W.b = b /\ Below N W0 w /\ N <= w.heap.size /\ WI N w W s bs Z Ls r laid told t /\ Blk w V 23 #[.pointer (some ⟨b,0,none⟩)] /\ ∀ i,¬ W.foot qc s i V
theorem GoQ.next {N:Nat} {W0 w w':World} {W:W6} {s:St} {bs:List UInt8} {Z:Nat -> Option Zd} {Ls:Nat -> Nat -> List Nat} {r:RS} {laid told:List Nat} {t t' V b:Nat} (h:WI N w W s bs Z Ls r laid told t) (hB:Below N W0 w) (eb:W.b = b) (B:Blk w V 23 #[.pointer (some ⟨b,0,none⟩)]) (hn:∀ i,¬ W.foot qc s i V) (G:Goes N w w' W s t'):GoQ N W0 b V w' t':=by
  obtain ⟨W',s',bs',Z',Ls',r',laid',told',e,G,T⟩:=G
  obtain ⟨a1,a2⟩:=G.away B.lt hn
  exact ⟨W',s',bs',Z',Ls',r',laid',told',e.trans eb,hB.trans (G.below h.wat.base h.wat.hN0),T.wat.hN0,T,a1.trans B,a2⟩
def DefQ (lo:Nat) (w:World) (k:Nat) (ds:List Deferred):Prop :=
  (k = 0 /\ ds = []) \/ (k = 1 /\ ∃ D1,lo <= D1 /\ ds = [{ target:=.collected D1,args:=#[] }] /\ w.heap[D1]? = some (.deferred (some []))) \/
    (k = 2 /\ ∃ D1 D2,lo <= D1 /\ lo <= D2 /\ D1 ≠ D2 /\ ds = [{ target:=.collected D2,args:=#[] }, { target:=.collected D1,args:=#[] }] /\ w.heap[D1]? = some (.deferred (some [])) /\ w.heap[D2]? = some (.deferred (some [])))
theorem DefQ.next {lo k:Nat} {ds:List Deferred} {w v:World} {D':Nat} (h:DefQ lo w k ds) (hk:k < 2) (kp:∀ D1,lo <= D1 -> w.heap[D1]? = some (.deferred (some [])) -> v.heap[D1]? = w.heap[D1]?) (hlo:lo <= D') (hd:v.heap[D']? = some (.deferred (some []))) (hw:w.heap.size <= D') :
    DefQ lo v (k + 1) ({ target:=.collected D',args:=#[] } :: ds):=by
  rcases h with ⟨rfl,rfl⟩ | ⟨rfl,D1,e2,rfl,e4⟩ | ⟨rfl, -⟩
  · exact .inr (.inl ⟨rfl,D',hlo,rfl,hd⟩)
  · exact .inr (.inr ⟨rfl,D1,D',e2,hlo,by have:=heap_lt e4; omega,rfl,(kp D1 e2 e4).trans e4,hd⟩)
  · omega
theorem DefQ.keep {lo k:Nat} {ds:List Deferred} {w v:World} (h:DefQ lo w k ds) (kp:∀ D1,lo <= D1 -> w.heap[D1]? = some (.deferred (some [])) -> v.heap[D1]? = w.heap[D1]?):DefQ lo v k ds:=by
  rcases h with ⟨rfl,rfl⟩ | ⟨rfl,D1,e2,rfl,e4⟩ | ⟨rfl,D1,D2,e1,e2,e3,rfl,e4,e5⟩
  · exact .inl ⟨rfl,rfl⟩
  · exact .inr (.inl ⟨rfl,D1,e2,rfl,(kp D1 e2 e4).trans e4⟩)
  · exact .inr (.inr ⟨rfl,D1,D2,e1,e2,e3,rfl,(kp D1 e1 e4).trans e4,(kp D2 e2 e5).trans e5⟩)
theorem ownFrom_orQ {β:Type} {B:Nat} {I I' : β -> World -> Prop} (h:OwnFrom B I) (h':OwnFrom B I'):OwnFrom B (fun s W => I s W \/ I' s W):=fun s W W' row hs hg hr => hs.elim (fun e => .inl (h s W W' row e hg hr)) (fun e => .inr (h' s W W' row e hg hr))
def VCells (w:World) (b o:Nat) (p:Vis):Prop:=w.cell? ⟨b,o,none⟩ = some (.int .i64 p.dO) /\ w.cell? ⟨b,o + 1,none⟩ = some (.int .i64 p.a) /\ w.cell? ⟨b,o + 2,none⟩ = some (.int .i64 p.b) /\ w.cell? ⟨b,o + 3,none⟩ = some (.bool p.other) /\ w.cell? ⟨b,o + 4,none⟩ = some (.bool p.stop)
def VRow (W:World) (a0:Option Addr) (k:Nat) (p:Vis):Prop:=∃ b off,a0 = some (⟨b,off,none⟩:Addr) /\ b < W.heap.size /\ p.Ok /\ VCells W b (off + k * 5) p
theorem VCells.of {W w:World} {b o:Nat} {p:Vis} (h:VCells W b o p) (k:w.heap[b]? = W.heap[b]?):VCells w b o p :=
  ⟨(World.cell?_of_block (a:=⟨b,o,none⟩) k).trans h.1,(World.cell?_of_block (a:=⟨b,o + 1,none⟩) k).trans h.2.1,(World.cell?_of_block (a:=⟨b,o + 2,none⟩) k).trans h.2.2.1,(World.cell?_of_block (a:=⟨b,o + 3,none⟩) k).trans h.2.2.2.1,(World.cell?_of_block (a:=⟨b,o + 4,none⟩) k).trans h.2.2.2.2⟩
theorem RG.visit {N:Nat} {W0 w0 wx:World} {D:Nat} {E:Nat -> Prop} {W:W6} {s:St} {r:RS} {laid told:List Nat} {t:Nat} (h:RG N W0 w0 wx D E W s r laid told t) (hf:∀ i b,W.foot qc s i b -> b < D) (hD:D <= wx.heap.size) (ht:t <= 60000) (v:Vis) (ok:v.Ok) (H:Nat) (hH:H < 18446744073709551616) (b:Nat) (eb:W.b = b) :
    Calls Tryz.prog 19 #[.pointer (some ⟨b,0,none⟩),.agg #[.int .i64 v.dO,.int .i64 v.a,.int .i64 v.b,.bool v.other,.bool v.stop],.int .u64 (H:Int)] wx fun e w' => e = .returned (.bool true) /\ RG N W0 w0 w' D E W s r laid told t /\ KeepP D wx w' /\ (∀ b,b < D -> (∀ i,¬ W.foot qc s i b) -> w'.heap[b]? = wx.heap[b]?) /\ (∀ l,D <= l -> (∃ x,wx.heap[l]? = some (.loop x)) -> w'.heap[l]? = wx.heap[l]?) :=
  h.call hf hD fun bs Z R' Ls _ T => by rw [<- eb]; exact visitC T ht v ok H hH
set_option maxHeartbeats 4000000 in
theorem queueRangesC (W:World) (a0:Option Addr) (cap:Nat) (l:List Op6) (hP:∀ (k:Nat) (hk:k < l.length),ORow W a0 k l[k]) (hl:l.length <= maxLen) (c kn0:Int) (hc:Cls.In c) (hkn:Cls.In kn0)
    (Av:Option Addr) (cv:Nat) (vs:List Vis) (hav:∀ (k:Nat) (hk:k < vs.length),VRow W Av k vs[k]) (hvs:vs.length <= maxLen) :
    Calls Tryz.prog 4 #[.agg #[.slice a0 l.length cap,.int .i64 c,.int .i64 kn0,.slice Av vs.length cv]] W fun e w' => e = .returned (.bool true) /\ Below W.heap.size W w':=by
  refine (callsIn_wide (n:=20)).1 ?_
  obtain ⟨w1,hw1⟩:∃ w1,w1 = (W.alloc (.cells #[.slice a0 l.length cap,.int .i64 c,.int .i64 kn0,.slice Av vs.length cv] 38)).alloc (.cells #[.bool false] 4):=⟨_,rfl⟩
  have b1:Below W.heap.size W w1:=by rw [hw1]; exact ((Below.refl _ _).alloc (Nat.le_refl _) _).alloc (by rw [World.size_alloc]; omega) _
  have B1:Blk w1 W.heap.size 38 #[.slice a0 l.length cap,.int .i64 c,.int .i64 kn0,.slice Av vs.length cv]:=by rw [hw1]; exact (Blk.new W _ _).alloc _
  have R1:Boxed w1 (W.heap.size + 1) 4 (.bool false):=by rw [hw1]; exact blk_new' (World.size_alloc _ _)
  have z1:w1.heap.size = W.heap.size + 2:=by rw [hw1,World.size_alloc,World.size_alloc]
  have HP:∀ (k:Nat) (hk:k < l.length),ORow w1 a0 k l[k]:=fun k hk => by
    obtain ⟨b9,off,e,h1,h2,h3⟩:=hP k hk
    exact ⟨b9,off,e,Nat.lt_of_lt_of_le h1 b1.size,h2,h3.below b1 h1⟩
  obtain ⟨vc,hvc⟩:∃ vc,vc = vs.length:=⟨_,rfl⟩
  rw [<- hvc] at B1 hw1 hvs ⊢
  have hav:∀ (k:Nat),k < vc -> ∃ d g off,d.Ok /\ Av = some ⟨g,off,none⟩ /\ g < W.heap.size /\ VCells w1 g (off + k * 5) d:=fun k hk => by
    obtain ⟨g,off,e,h1,h2,h3⟩:=hav k (by omega)
    exact ⟨_,g,off,h2,e,h1,h3.of (b1.block g h1)⟩
  have WI1:=Lib.hid (fun w => withinI (w:=w) c 3 hc (by omega) (by omega))
  have WI2:=Lib.hid (fun w => withinI (w:=w) kn0 3 hkn (by omega) (by omega))
  have WC:=Lib.hid wakesC
  have BC:=begunC6 w1
  have hcl:=withinI_lt c (n:=3) (by omega)
  have hkl:=withinI_lt kn0 (n:=3) (by omega)
  obtain ⟨cn,hcn⟩:∃ cn,cn = (c % ((3:Nat):Int)).toNat:=⟨_,rfl⟩
  obtain ⟨kn,hkn'⟩:∃ kn,kn = (kn0 % ((3:Nat):Int)).toNat:=⟨_,rfl⟩
  rw [<- hcn] at WI1 hcl
  rw [<- hkn'] at WI2 hkl
  obtain ⟨N0,hN⟩:∃ N0,N0 = W.heap.size:=⟨_,rfl⟩
  rw [<- hN] at B1 R1 b1 z1 hav ⊢
  obtain ⟨N1,hN1⟩:∃ N1,N1 = w1.heap.size:=⟨_,rfl⟩
  rw [<- hN1] at z1 BC
  have lN:N0 + 2 <= N1 /\ N1 <= N0 + 2:=by omega
  clear z1
  have hlm:(l.length:Int) <= 9223372036854775807:=by unfold maxLen at hl; omega
  replace BC:=Lib.hid BC
  replace B1:=Lib.hid B1
  replace R1:=Lib.hid R1
  replace b1:=Lib.hid b1
  replace hN:=Lib.hid hN
  replace hN1:=Lib.hid hN1
  replace hw1:=Lib.hid hw1
  replace hcn:=Lib.hid hcn
  replace hkn':=Lib.hid hkn'
  replace hvc:=Lib.hid hvc
  replace hav:=Lib.hid hav
  replace HP:=Lib.hid HP
  clear hP hl hc hkn
  refine callsIn_of_wp_marks Tryz.func4 rfl trivial ?_ rfl
  simp only [Tryz.ntmps4,List.size_toArray,List.length_cons,List.length_nil,Nat.reduceAdd,Nat.reduceSub,Array.replicate_succ,Array.replicate_zero,List.push_toArray,List.append_toArray,List.nil_append,List.cons_append]
  gi_upto_region 1 with fail
  rw [<- hN.out, <- hw1.out]
  gi_wp2_with fail
  first | refine ⟨trivial,fun _ => by omega,?_⟩ | refine ⟨trivial,?_⟩
  gi_at_call 10
  refine (callsIn_wide.2 BC.out).mono ?_
  rintro e w2 ⟨b2,W1,rfl,A1⟩
  obtain ⟨V,hV⟩:∃ V,V = w2.heap.size:=⟨_,rfl⟩
  obtain ⟨w3,hw3⟩:∃ w3,w3 = w2.alloc (.cells #[.pointer (some ⟨W1.b,0,none⟩)] 23):=⟨_,rfl⟩
  have BV:Blk w3 V 23 #[.pointer (some ⟨W1.b,0,none⟩)]:=by rw [hw3,hV]; exact Blk.new w2 _ _
  have b3:Below w2.heap.size w2 w3:=by rw [hw3]; exact (Below.refl _ _).alloc (Nat.le_refl _) _
  have G1:GoQ N1 w1 W1.b V w3 0:=⟨W1,_,_,_,_,_,_,_,rfl,b2.trans (b3.mono A1.hN0),Nat.le_trans A1.hN0 b3.size,(WI.new A1).below b3,BV,fun i e => by have:=A1.lt i _ e; omega⟩
  have cV:=BV.cell 0
  generalize W1.b = b0 at *
  replace G1:=Lib.hid G1
  replace hV:=Lib.hid hV
  replace hw3:=Lib.hid hw3
  clear b2 A1 BV b3 BC
  gi_upto_region 2 with fail
  rw [<- hV.out, <- hw3.out]
  gi_upto_region 4 with fail
  gi_wp2_with fail
  clear cV
  refine cut_block (fun a' wr => ∃ (u4 u17 u18 u19 u20 u21 u22 u23 u24 u25 u26 u27 u28 u29 u30 u31 u32 u33 u34 u35:Value),(∃ i:Nat,i <= 250 /\ Hid (GoQ N1 w1 b0 V wr i)) /\ a' = { tmps:=#[.agg #[.slice a0 l.length cap,.int .i64 c,.int .i64 kn0,.slice Av vc cv],.pointer (some ⟨N0,0,none⟩),.pointer (some ⟨N0 + 1,0,none⟩),.pointer (some ⟨V,0,none⟩),u4,undef,undef,undef,undef,undef,undef,undef,undef,undef,.pointer (some ⟨b0,0,none⟩),.pointer (some ⟨b0,0,none⟩),.bool false,u17,u18,u19,u20,u21,u22,u23,u24,u25,u26,u27,u28,u29,u30,u31,u32,u33,u34,u35,undef,undef,undef,undef,undef,undef,undef,undef,undef,undef,undef,undef,undef,undef,undef,undef,undef,undef,undef,undef,undef,undef,undef,undef,undef,undef,undef,undef,undef,undef,undef,undef,undef,undef,undef,undef,undef,undef,undef,undef,undef,undef,undef,undef,undef,undef,undef,undef,undef,undef,undef,undef,undef,undef,undef,undef,undef,undef,undef,undef,undef,undef,undef,undef,undef,undef,undef,undef,undef,undef,undef,undef,undef,undef,undef,undef,undef,undef,undef,undef,undef,undef],defers:=[] }) ?first ?rest
  case first =>
    intro J hJ
    gi_loopw [4] (fun vi wr => ∃ i:Nat,vi = .int .i64 (i:Int) /\ i <= l.length /\ i <= 250 /\ Hid (GoQ N1 w1 b0 V wr i)) (fun vi _ => l.length - (intOf vi).toNat)
    case atStart => exact ⟨0,rfl,Nat.zero_le _,Nat.zero_le _,G1⟩
    case round =>
      obtain ⟨i,rfl,hi,hi2,G⟩:=hrel
      clear G1
      obtain ⟨W2,s2,bs2,Z2,Ls2,r2,laid2,told2,eb,hB,hNr,T,BV,nV⟩:=G.out
      have x0:=(hB.cell (p:=⟨N0,0,none⟩) (by show N0 < N1; omega)).trans (B1.out.cell 0)
      have cV:=BV.cell 0
      by_cases hlt:i < l.length /\ i < 250
      · obtain ⟨h1,h2⟩:=hlt
        have d1:decide ((i:Int) < (l.length:Int)) = true:=decide_eq_true (by omega)
        have d1':decide (i < l.length) = true:=decide_eq_true h1
        have d2:decide ((i:Int) < 250) = true:=decide_eq_true (by omega)
        have q1:IntKind.i64.wrap ((i:Int) + 1) = (i:Int) + 1:=IntWalk.i64_in _ (by omega)
        have i0:(0:Int) <= (i:Int):=by omega
        have i1:(i:Int) < (l.length:Int):=by omega
        obtain ⟨b9,off,rfl,hbl,ok,O1⟩:=HP.out i h1
        have hbN:b9 < N1:=by rw [hN1.out]; exact hbl
        generalize l[i] = o at *
        obtain ⟨z0,z1,z2,z3,z4,z5⟩:=O1.below hB hbN
        have DC:=fun nq => doesC (T.below (below_drewN (Below.refl wr.heap.size wr) nq)) (show i <= 60000 by omega) o ok
        have GN:=fun nq w' (G:Goes N1 (wr.drewN nq) w' W2 s2 (i + 1)) => GoQ.next (T.below (below_drewN (Below.refl wr.heap.size wr) nq)) (hB.trans ((below_drewN (Below.refl wr.heap.size wr) nq).mono hNr)) eb (BV.below (below_drewN (Below.refl wr.heap.size wr) nq) BV.lt) nV G
        rw [eb] at DC
        unfold Op6.cells at DC
        replace DC:=Lib.hid DC
        replace GN:=Lib.hid GN
        clear T hB hbl O1 ok hNr G BV nV eb
        gi_upto_region 7 with fail
        refine region_quiet_tailR 6 (by kernel_rfl) (by kernel_rfl) (by kernel_rfl) ?_
        simp only [List.take_succ_cons,List.take_zero,List.drop_succ_cons,List.drop_zero]
        iterate 6 (quiet_step_in (fail))
        refine wpQuietIn_nil ?_
        rintro _ ⟨nq,rfl⟩
        have D1:=Lib.hid (DC.out nq)
        have GN1:=Lib.hid (GN.out nq)
        clear x0 cV z0 z1 z2 z3 z4 z5 DC GN
        gi_wp2_with fail
        first | refine ⟨trivial,fun _ => by omega,?_⟩ | refine ⟨trivial,?_⟩
        gi_at_call 11
        refine (callsIn_wide.2 D1.out).mono ?_
        rintro e w5 ⟨rfl,G9⟩
        have G3:=Lib.hid (GN1.out _ G9)
        clear G9 D1 GN1
        gi_wp2
        go_roundw
        case rel => exact ⟨i + 1,by simp,by omega,by omega,G3⟩
        case measure => simp [intOf] <;> omega
      have GE:=G
      clear G T hB hNr BV nV eb
      rcases Nat.lt_or_ge i l.length with h1 | h1
      · have d1:decide ((i:Int) < (l.length:Int)) = true:=decide_eq_true (by omega)
        have d1':decide (i < l.length) = true:=decide_eq_true h1
        have d2:decide ((i:Int) < 250) = false:=decide_eq_false (by omega)
        clear hlt
        gi_wp2
        exact ⟨i,hi2,GE⟩
      · have d1:decide ((i:Int) < (l.length:Int)) = false:=decide_eq_false (by omega)
        have d1':decide (i < l.length) = false:=decide_eq_false (by omega)
        clear hlt
        gi_wp2
        exact ⟨i,hi2,GE⟩
  intro _ wr hinv
  obtain ⟨u4,hinv⟩:=hinv
  obtain ⟨u17,hinv⟩:=hinv
  obtain ⟨u18,hinv⟩:=hinv
  obtain ⟨u19,hinv⟩:=hinv
  obtain ⟨u20,hinv⟩:=hinv
  obtain ⟨u21,hinv⟩:=hinv
  obtain ⟨u22,hinv⟩:=hinv
  obtain ⟨u23,hinv⟩:=hinv
  obtain ⟨u24,hinv⟩:=hinv
  obtain ⟨u25,hinv⟩:=hinv
  obtain ⟨u26,hinv⟩:=hinv
  obtain ⟨u27,hinv⟩:=hinv
  obtain ⟨u28,hinv⟩:=hinv
  obtain ⟨u29,hinv⟩:=hinv
  obtain ⟨u30,hinv⟩:=hinv
  obtain ⟨u31,hinv⟩:=hinv
  obtain ⟨u32,hinv⟩:=hinv
  obtain ⟨u33,hinv⟩:=hinv
  obtain ⟨u34,hinv⟩:=hinv
  obtain ⟨u35,hinv⟩:=hinv
  obtain ⟨⟨t,ht,G⟩,ha⟩:=hinv
  subst ha
  obtain ⟨W2,s,bs,Z,Ls,r,laid,told,eb,hB,hN2,T,BV,nV⟩:=G.out
  clear G1 G
  try dsimp only
  have ht6:t <= 60000:=by omega
  have hfo:∀ i b,W2.foot qc s i b -> b < wr.heap.size:=fun i b e => T.wat.lt i b e
  have hba:∀ i b,W2.foot qc s i b -> N1 <= b:=fun i b e => T.wat.base i b e
  obtain ⟨C1,hC1⟩:∃ C1,C1 = wr.heap.size:=⟨_,rfl⟩
  rw [<- hC1] at hfo
  obtain ⟨kd,hkd⟩:∃ kd,kd = kn + 1:=⟨_,rfl⟩
  have qk:IntKind.i64.wrap (1 + (kn:Int)) = (kd:Int):=by rw [IntWalk.i64_in _ (by omega)]; omega
  obtain ⟨w4,hw4⟩:∃ w4,w4 = ((wr.alloc (.cells #[.pointer (some ⟨W2.gq,0,none⟩)] 29)).alloc (.cells #[.int .i64 (cn:Int)] 3)).alloc (.cells #[.int .i64 (kd:Int)] 3):=⟨_,rfl⟩
  obtain ⟨w6,hw6⟩:∃ w6,w6 = w4.alloc (.cells #[.int .i64 0] 3):=⟨_,rfl⟩
  have z4:w4.heap.size = C1 + 3:=by rw [hw4,World.size_alloc,World.size_alloc,World.size_alloc,hC1]
  have z6:w6.heap.size = C1 + 4:=by rw [hw6,World.size_alloc,z4]
  have b4:Below wr.heap.size wr w4:=by rw [hw4]; exact (((Below.refl _ _).alloc (Nat.le_refl _) _).alloc (by rw [World.size_alloc]; omega) _).alloc (by rw [World.size_alloc,World.size_alloc]; omega) _
  have b46:Below w4.heap.size w4 w6:=by rw [hw6]; exact (Below.refl _ _).alloc (Nat.le_refl _) _
  have b6:Below wr.heap.size wr w6:=b4.trans (b46.mono b4.size)
  have BQ:Blk w4 C1 29 #[.pointer (some ⟨W2.gq,0,none⟩)]:=by rw [hw4,hC1]; exact ((Blk.new wr _ _).alloc _).alloc _
  have BX:Blk w4 (C1 + 1) 3 #[.int .i64 (cn:Int)]:=by rw [hw4]; exact (blk_new' (by rw [World.size_alloc,hC1])).alloc _
  have BK:Blk w4 (C1 + 2) 3 #[.int .i64 (kd:Int)]:=by rw [hw4]; exact blk_new' (by rw [World.size_alloc,World.size_alloc,hC1])
  have Bk0:Boxed w6 (C1 + 3) 3 (.int .i64 0):=by rw [hw6, <- z4]; exact Boxed.new w4 _ _
  have T6:=T.below b6
  have hB6:Below N1 w1 w6:=hB.trans (b6.mono hN2)
  have lNV:N1 <= C1:=by rw [hC1]; exact hN2
  have lV:V < C1:=by rw [hC1]; exact BV.lt
  have CE:∀ v,Only (fun b => False \/ (∃ i,W2.foot qc s i b) \/ C1 + 4 <= b) w6 v -> v.cell? ⟨N0,3,none⟩ = some (.slice Av vc cv) /\ Boxed v (N0 + 1) 4 (.bool false) /\ v.cell? ⟨V,0,none⟩ = some (.pointer (some ⟨b0,0,none⟩)) /\ v.cell? ⟨C1,0,none⟩ = some (.pointer (some ⟨W2.gq,0,none⟩)) /\ v.cell? ⟨C1 + 1,0,none⟩ = some (.int .i64 (cn:Int)) /\ v.cell? ⟨C1 + 2,0,none⟩ = some (.int .i64 (kd:Int)) /\
      ∀ k,k < vc -> ∃ d g off,d.Ok /\ Av = some ⟨g,off,none⟩ /\ VCells v g (off + k * 5) d:=fun v o => by
    have ob:∀ p,p < N1 \/ p = V \/ C1 <= p /\ p < C1 + 4 -> v.heap[p]? = w6.heap[p]?:=fun p hp => o.block p (by omega) (by
      rintro (e | ⟨i,e⟩ | e)
      · exact e
      · have h1:=hfo i p e
        have h2:=hba i p e
        rcases hp with hp | hp | hp
        · omega
        · exact nV i (hp ▸ e)
        · omega
      · omega)
    have o1:∀ p,p < N1 -> v.heap[p]? = w1.heap[p]?:=fun p hp => (ob p (.inl hp)).trans (hB6.block p hp)
    refine ⟨(World.cell?_of_block (a:=⟨N0,3,none⟩) (o1 N0 (by omega))).trans (B1.out.cell 3),(o1 (N0 + 1) (by omega)).trans R1.out,(World.cell?_of_block (a:=⟨V,0,none⟩) (ob V (.inr (.inl rfl)))).trans ((b6.cell (p:=⟨V,0,none⟩) BV.lt).trans (BV.cell 0)),(World.cell?_of_block (a:=⟨C1,0,none⟩) (ob C1 (by omega))).trans ((b46.cell (p:=⟨C1,0,none⟩) BQ.lt).trans (BQ.cell 0)),(World.cell?_of_block (a:=⟨C1 + 1,0,none⟩) (ob (C1 + 1) (by omega))).trans ((b46.cell (p:=⟨C1 + 1,0,none⟩) BX.lt).trans (BX.cell 0)),(World.cell?_of_block (a:=⟨C1 + 2,0,none⟩) (ob (C1 + 2) (by omega))).trans ((b46.cell (p:=⟨C1 + 2,0,none⟩) BK.lt).trans (BK.cell 0)),fun k hk => ?_⟩
    obtain ⟨d,g9,off,h1,h2,h3,h4⟩:=hav.out k hk
    exact ⟨d,g9,off,h1,h2,h4.of (o1 g9 (by omega))⟩
  have RG6:RG N1 w1 w6 w6 (C1 + 4) (fun _ => False) W2 s r laid told t:=RG.start T6 hB6
  have x1:=(hB.cell (p:=⟨N0,1,none⟩) (by show N0 < N1; omega)).trans (B1.out.cell 1)
  have x2:=(hB.cell (p:=⟨N0,2,none⟩) (by show N0 < N1; omega)).trans (B1.out.cell 2)
  have cV:=BV.cell 0
  have y1:=T.wat.cW.2.1
  rw [eb] at y1
  have AC:=Lib.hid (allC0 wr W2.gq (cn:Int) (kd:Int))
  have fn0:=func_nil C1 (C1 + 1) (C1 + 2)
  replace CE:=Lib.hid CE
  replace RG6:=Lib.hid RG6
  replace hfo:=Lib.hid hfo
  replace hba:=Lib.hid hba
  replace hw4:=Lib.hid hw4
  replace hw6:=Lib.hid hw6
  replace hC1:=Lib.hid hC1
  replace hkd:=Lib.hid hkd
  replace z4:=Lib.hid z4
  replace z6:=Lib.hid z6
  replace eb:=Lib.hid eb
  replace nV:=Lib.hid nV
  have Bk0:=Lib.hid Bk0
  clear hB hN2 T BV b4 b46 b6 BQ BX BK T6 hB6
  gi_wp2_with fail
  first | refine ⟨trivial,fun _ => by omega,?_⟩ | refine ⟨trivial,?_⟩
  gi_at_call 16
  refine (callsIn_wide.2 (WI1.out _)).mono ?_
  rintro e w' ⟨rfl,rfl⟩
  gi_wp2_with fail
  first | refine ⟨trivial,fun _ => by omega,?_⟩ | refine ⟨trivial,?_⟩
  gi_at_call 16
  refine (callsIn_wide.2 (WI2.out _)).mono ?_
  rintro e w' ⟨rfl,rfl⟩
  gi_wp2_with fail
  first | refine ⟨trivial,fun _ => by omega,?_⟩ | refine ⟨trivial,?_⟩
  gi_at_call 17
  refine (callsIn_wide.2 AC.out).mono ?_
  rintro e w' ⟨rfl,rfl⟩
  rw [<- hw4.out, <- hC1.out]
  clear cV x1 x2 y1 AC
  gi_wp2_with fail
  rw [z4.out, <- hw6.out]
  clear fn0
  refine wpIn_loop_ghost_k (fun n a' wr => ∃ (u8 u9 u10 u11 u12 u13 u52 u53 u54 u55 u56 u57 u58 u59 u60 u61 u62 u63 u64 u65 u66 u67 u68 u69 u70 u71 u72 u73 u74 u75 u76 u77 u78 u79 u80 u81 u82 u83 u84 u85 u86 u87 u88 u89 u90 u91 u92 u93 u94 u95 u96 u97 u98 u99 u100 u101 u102 u103 u104 u105 u106 u107 u108 u109 u110 u111 u112:Value) (ds:List Deferred),(∃ (k Bk:Nat) (bs':List UInt8) (Z':Nat -> Option Zd) (R9:R6) (Ls':Nat -> Nat -> List Nat),n = 2 - k /\ u8 = .pointer (some ⟨Bk,0,none⟩) /\ k <= 2 /\ C1 + 3 <= Bk /\ Hid (Boxed wr Bk 3 (.int .i64 (k:Int))) /\ Hid (R9.b = W2.R.b /\ R9.gL = W2.R.gL) /\ Hid (WI N1 wr { W2 with R:=R9 } s bs' Z' Ls' r laid told t) /\ Hid (∀ i b,W6.foot { W2 with R:=R9 } qc s i b -> (∃ j,W2.foot qc s j b) \/ C1 + 4 <= b) /\
      Hid (Only (fun b => False \/ (∃ i,W2.foot qc s i b) \/ C1 + 4 <= b) w6 wr) /\ Hid (Below N1 w1 wr) /\ Hid (∀ i,¬ W6.foot { W2 with R:=R9 } qc s i Bk) /\ Hid (DefQ (C1 + 4) wr k ds)) /\ a' = { tmps:=#[.agg #[.slice a0 l.length cap,.int .i64 c,.int .i64 kn0,.slice Av vc cv],.pointer (some ⟨N0,0,none⟩),.pointer (some ⟨N0 + 1,0,none⟩),.pointer (some ⟨V,0,none⟩),u4,.int .i64 (cn:Int),.int .i64 (kd:Int),.func (.func 52) #[] #[.pointer (some ⟨C1,0,none⟩),.pointer (some ⟨C1 + 1,0,none⟩),.pointer (some ⟨C1 + 2,0,none⟩)],u8,u9,u10,u11,u12,u13,.pointer (some ⟨b0,0,none⟩),.pointer (some ⟨b0,0,none⟩),.bool false,u17,u18,u19,u20,u21,u22,u23,u24,u25,u26,u27,u28,u29,u30,u31,u32,u33,u34,u35,.pointer (some ⟨N0,1,none⟩),.int .i64 c,.int .i64 (cn:Int),.pointer (some ⟨N0,2,none⟩),.int .i64 kn0,.int .i64 (kn:Int),.int .i64 (kd:Int),.pointer (some ⟨b0,0,none⟩),.pointer (some ⟨b0,0,none⟩),.pointer (some ⟨b0,1,none⟩),.pointer (some ⟨W2.gq,0,none⟩),.int .i64 (cn:Int),.int .i64 (kd:Int),.func (.func 52) #[] #[.pointer (some ⟨C1,0,none⟩),.pointer (some ⟨C1 + 1,0,none⟩),.pointer (some ⟨C1 + 2,0,none⟩)],.func (.func 52) #[] #[.pointer (some ⟨C1,0,none⟩),.pointer (some ⟨C1 + 1,0,none⟩),.pointer (some ⟨C1 + 2,0,none⟩)],.bool false,u52,u53,u54,u55,u56,u57,u58,u59,u60,u61,u62,u63,u64,u65,u66,u67,u68,u69,u70,u71,u72,u73,u74,u75,u76,u77,u78,u79,u80,u81,u82,u83,u84,u85,u86,u87,u88,u89,u90,u91,u92,u93,u94,u95,u96,u97,u98,u99,u100,u101,u102,u103,u104,u105,u106,u107,u108,u109,u110,u111,u112,undef,undef,undef,undef,undef],defers:=ds }) 2 ?start2 ?round2
  case start2 =>
    (repeat apply Exists.intro)
    refine ⟨?relS2,rfl⟩
    obtain ⟨bs',Z',R',Ls',e1,e2,T0,hF0,o0,B0⟩:=RG6.out
    exact ⟨0,C1 + 3,bs',Z',R',Ls',rfl,rfl,by omega,Nat.le_refl _,Bk0,Lib.hid ⟨e1,e2⟩,Lib.hid T0,Lib.hid hF0,Lib.hid o0,Lib.hid B0,Lib.hid (fun i e => by
      rcases hF0 i _ e with ⟨j,hj⟩ | h
      · have:=hfo.out j _ hj; omega
      · omega),Lib.hid (.inl ⟨rfl,rfl⟩)⟩
  case round2 =>
    intro n _ wr hinv J K hJ hK
    obtain ⟨u8,hinv⟩:=hinv
    obtain ⟨u9,hinv⟩:=hinv
    obtain ⟨u10,hinv⟩:=hinv
    obtain ⟨u11,hinv⟩:=hinv
    obtain ⟨u12,hinv⟩:=hinv
    obtain ⟨u13,hinv⟩:=hinv
    obtain ⟨u52,hinv⟩:=hinv
    obtain ⟨u53,hinv⟩:=hinv
    obtain ⟨u54,hinv⟩:=hinv
    obtain ⟨u55,hinv⟩:=hinv
    obtain ⟨u56,hinv⟩:=hinv
    obtain ⟨u57,hinv⟩:=hinv
    obtain ⟨u58,hinv⟩:=hinv
    obtain ⟨u59,hinv⟩:=hinv
    obtain ⟨u60,hinv⟩:=hinv
    obtain ⟨u61,hinv⟩:=hinv
    obtain ⟨u62,hinv⟩:=hinv
    obtain ⟨u63,hinv⟩:=hinv
    obtain ⟨u64,hinv⟩:=hinv
    obtain ⟨u65,hinv⟩:=hinv
    obtain ⟨u66,hinv⟩:=hinv
    obtain ⟨u67,hinv⟩:=hinv
    obtain ⟨u68,hinv⟩:=hinv
    obtain ⟨u69,hinv⟩:=hinv
    obtain ⟨u70,hinv⟩:=hinv
    obtain ⟨u71,hinv⟩:=hinv
    obtain ⟨u72,hinv⟩:=hinv
    obtain ⟨u73,hinv⟩:=hinv
    obtain ⟨u74,hinv⟩:=hinv
    obtain ⟨u75,hinv⟩:=hinv
    obtain ⟨u76,hinv⟩:=hinv
    obtain ⟨u77,hinv⟩:=hinv
    obtain ⟨u78,hinv⟩:=hinv
    obtain ⟨u79,hinv⟩:=hinv
    obtain ⟨u80,hinv⟩:=hinv
    obtain ⟨u81,hinv⟩:=hinv
    obtain ⟨u82,hinv⟩:=hinv
    obtain ⟨u83,hinv⟩:=hinv
    obtain ⟨u84,hinv⟩:=hinv
    obtain ⟨u85,hinv⟩:=hinv
    obtain ⟨u86,hinv⟩:=hinv
    obtain ⟨u87,hinv⟩:=hinv
    obtain ⟨u88,hinv⟩:=hinv
    obtain ⟨u89,hinv⟩:=hinv
    obtain ⟨u90,hinv⟩:=hinv
    obtain ⟨u91,hinv⟩:=hinv
    obtain ⟨u92,hinv⟩:=hinv
    obtain ⟨u93,hinv⟩:=hinv
    obtain ⟨u94,hinv⟩:=hinv
    obtain ⟨u95,hinv⟩:=hinv
    obtain ⟨u96,hinv⟩:=hinv
    obtain ⟨u97,hinv⟩:=hinv
    obtain ⟨u98,hinv⟩:=hinv
    obtain ⟨u99,hinv⟩:=hinv
    obtain ⟨u100,hinv⟩:=hinv
    obtain ⟨u101,hinv⟩:=hinv
    obtain ⟨u102,hinv⟩:=hinv
    obtain ⟨u103,hinv⟩:=hinv
    obtain ⟨u104,hinv⟩:=hinv
    obtain ⟨u105,hinv⟩:=hinv
    obtain ⟨u106,hinv⟩:=hinv
    obtain ⟨u107,hinv⟩:=hinv
    obtain ⟨u108,hinv⟩:=hinv
    obtain ⟨u109,hinv⟩:=hinv
    obtain ⟨u110,hinv⟩:=hinv
    obtain ⟨u111,hinv⟩:=hinv
    obtain ⟨u112,hinv⟩:=hinv
    obtain ⟨ds,hinv⟩:=hinv
    obtain ⟨⟨k,Bk,bs',Z',R9,Ls',hnk,hu8,hk2,hBk,BkB,e9,T9,hF9,o9,B9w,nBk,DK⟩,ha⟩:=hinv
    subst ha
    subst hu8
    clear RG6 Bk0
    try dsimp only
    obtain ⟨q3,q5,q6,q7,q8,q9,qv⟩:=CE.out wr o9.out
    have cK:=BkB.out.cell
    by_cases hk:k < 2
    · have d1:decide ((k:Int) < 2) = true:=decide_eq_true (by omega)
      have d1':decide (k < 2) = true:=decide_eq_true hk
      have q1:IntKind.i64.wrap ((k:Int) + 1) = (k:Int) + 1:=IntWalk.i64_in _ (by omega)
      have y3:=T9.out.wat.cW.2.2.2.1
      simp only at y3
      rw [eb.out,e9.out.1] at y3
      have AC:=(T9.out.d6 ht6).all (cn:Int) (kd:Int)
      obtain ⟨row,hrow⟩:∃ row,row = lsN qc Ls' (cn:Int) (kd:Int):=⟨_,rfl⟩
      have hrl:row.length <= 134217729:=by
        rw [hrow]
        obtain ⟨F,S1,q⟩:=T9.out.wat.q
        unfold lsN
        split
        · rename_i hv
          rw [<- q.n _ _ (by omega) (by omega)]
          exact q.nB S1.okc S1.zs.good (by omega) (by omega)
        · simp
      rw [<- hrow,e9.out.1] at AC
      obtain ⟨KL,hKL⟩:∃ KL,KL = row.length:=⟨_,rfl⟩
      rw [<- hKL] at AC hrl
      replace AC:=Lib.hid AC
      replace hrow:=Lib.hid hrow
      replace hKL:=Lib.hid hKL
      replace hnk:=Lib.hid hnk
      gi_wp2_with fail
      first | refine ⟨trivial,fun _ => by omega,?_⟩ | refine ⟨trivial,?_⟩
      gi_at_call 18
      refine (callsIn_wide.2 AC.out).mono ?_
      rintro e w7 ⟨A,cp,rfl,b7,own7⟩
      obtain ⟨B9,hB9⟩:∃ B9,B9 = w7.heap.size:=⟨_,rfl⟩
      obtain ⟨w8,hw8⟩:∃ w8,w8 = ((w7.alloc (.cells #[.slice A KL cp] 45)).alloc (.cells #[.int .i64 0] 3)).alloc (.cells #[.bool false] 4):=⟨_,rfl⟩
      have b78:Below w7.heap.size w7 w8:=by rw [hw8]; exact (((Below.refl _ w7).alloc (Nat.le_refl _) _).alloc (by rw [World.size_alloc]; omega) _).alloc (by rw [World.size_alloc,World.size_alloc]; omega) _
      obtain ⟨D,hD⟩:∃ D,D = w8.heap.size:=⟨_,rfl⟩
      have z8:D <= B9 + 3 /\ B9 + 3 <= D:=by
        have:D = B9 + 3:=by rw [hD,hw8,World.size_alloc,World.size_alloc,World.size_alloc,hB9]
        omega
      have Bw:Blk w8 B9 45 #[.slice A KL cp]:=by rw [hw8,hB9]; exact ((Blk.new w7 _ _).alloc _).alloc _
      have Bn:Boxed w8 (B9 + 1) 3 (.int .i64 0):=by rw [hw8,hB9]; exact (blk_new' (World.size_alloc _ _)).alloc _
      have Bs:Boxed w8 (B9 + 2) 4 (.bool false):=by rw [hw8,hB9]; exact blk_new' (by rw [World.size_alloc,World.size_alloc])
      have br8:Below wr.heap.size wr w8:=b7.trans (b78.mono b7.size)
      have szr:C1 + 4 <= wr.heap.size:=by have:=o9.out.size; have:=z6.out; omega
      have sz9:wr.heap.size <= B9:=by rw [hB9]; exact b7.size
      have lBk:Bk < wr.heap.size:=Blk.lt BkB.out
      have T8:=T9.out.below br8
      have hB8:Below N1 w1 w8:=B9w.out.trans (br8.mono T9.out.wat.hN0)
      have ft1:∀ i b,W6.foot { W2 with R:=R9 } qc s i b -> b < wr.heap.size:=fun i b e => T9.out.wat.lt i b e
      have RG8:RG N1 w1 w8 w8 D (fun b => b = B9 + 1 \/ b = B9 + 2) { W2 with R:=R9 } s r laid told t:=RG.start T8 hB8
      have o69:Only (fun b => False \/ (∃ i,W2.foot qc s i b) \/ C1 + 4 <= b) w6 w8:=o9.out.below br8 o9.out.size
      obtain ⟨q3,q5,q6,q7,q8,q9,qv⟩:=CE.out w8 o69
      have hseq:=all_seq T8.wat.q (cn:Int) (kd:Int) (20 - 1) (by omega) C1 (C1 + 1) (C1 + 2) q7 q8 q9
      rw [<- hrow.out, <- hKL.out] at hseq
      have rg9:RG N1 w1 wr wr wr.heap.size (fun _ => False) { W2 with R:=R9 } s r laid told t:=RG.start T9.out B9w.out
      have hU:∀ i b,W6.foot { W2 with R:=R9 } qc s i b -> b < C1 \/ URow wr b:=fun i b e => by
        rcases hF9.out i b e with ⟨j,hj⟩ | h
        · exact .inl (hfo.out j b hj)
        · cases i with
          | doc =>
            rcases r6_urow T9.out.wat.doc e with e1 | e1 | e1
            · exact .inl (hfo.out .doc b ⟨.head,by rw [e1]; show some W2.R.b = some R9.b; rw [e9.out.1]⟩)
            · exact .inl (hfo.out .doc b ⟨.grid,by rw [e1]; show some W2.R.gL = some R9.gL; rw [e9.out.2]⟩)
            · exact .inr e1
          | set => exact .inl (hfo.out .set b e)
          | ref => exact .inl (hfo.out .ref b e)
          | queue => exact .inl (hfo.out .queue b e)
          | own => exact .inl (hfo.out .own b e)
      have nd:∀ D1,C1 + 4 <= D1 -> wr.heap[D1]? = some (.deferred (some [])) -> (∀ i,¬ W6.foot { W2 with R:=R9 } qc s i D1) /\ D1 < wr.heap.size:=fun D1 h1 h2 => by
        refine ⟨fun i e => ?_,heap_lt h2⟩
        rcases hU i D1 e with h | ⟨xs,fr,h⟩
        · omega
        · rw [h2] at h; cases h
      have els:∀ (i z:Nat),row[i]? = some z -> ∃ g,A = some ⟨g,0,none⟩ /\ wr.heap.size <= g /\ g < B9 /\ w8.cell? ⟨g,i,none⟩ = some (.int .u64 (z:Int)):=fun i z hz => by
        obtain ⟨g,c',hv,u⟩:=own_uv own7 hz
        injection hv with hv1 hv2 hv3
        have hgl:=own_blockN own7 (b:=g) (by rw [hv1]; rfl)
        have hgb:=own_base own7 (b:=g) (by rw [hv1]; rfl)
        exact ⟨g,hv1,hgb,by omega,(b78.cell (p:=⟨g,i,none⟩) hgl).trans u⟩
      have CX:∀ v,RG N1 w1 w8 v D (fun b => b = B9 + 1 \/ b = B9 + 2) { W2 with R:=R9 } s r laid told t -> v.cell? ⟨N0,3,none⟩ = some (.slice Av vc cv) /\ Boxed v (N0 + 1) 4 (.bool false) /\ v.cell? ⟨V,0,none⟩ = some (.pointer (some ⟨b0,0,none⟩)) /\ v.cell? ⟨B9,0,none⟩ = some (.slice A KL cp) /\ v.cell? ⟨Bk,0,none⟩ = some (.int .i64 (k:Int)) /\
          (∀ k,k < vc -> ∃ d g off,d.Ok /\ Av = some ⟨g,off,none⟩ /\ VCells v g (off + k * 5) d) /\ (∀ (i z:Nat),row[i]? = some z -> ∃ g,A = some ⟨g,0,none⟩ /\ v.cell? ⟨g,i,none⟩ = some (.int .u64 (z:Int))) /\ D <= v.heap.size /\ (∀ D1,C1 + 4 <= D1 -> wr.heap[D1]? = some (.deferred (some [])) -> v.heap[D1]? = wr.heap[D1]?):=fun v hv => by
        obtain ⟨o, -⟩:=hv.onlyR
        have o2:Only (fun b => False \/ (∃ i,W2.foot qc s i b) \/ C1 + 4 <= b) w6 v:=o69.trans o fun b hb e => by
          rcases e with e | ⟨i,e⟩ | e
          · exact .inr (.inr (by omega))
          · exact .inr (hF9.out i b e)
          · exact .inr (.inr (by omega))
        obtain ⟨p3,p5,p6,p7,p8,p9,pv⟩:=CE.out v o2
        have nS:∀ p,p < B9 + 1 -> (∀ i,¬ W6.foot { W2 with R:=R9 } qc s i p) -> v.heap[p]? = w8.heap[p]?:=fun p h2 h3 => o.block p (by omega) (by
          rintro (e | ⟨i,e⟩ | e)
          · omega
          · exact h3 i e
          · omega)
        refine ⟨p3,p5,p6,(World.cell?_of_block (a:=⟨B9,0,none⟩) (nS B9 (by omega) fun i e => by have:=ft1 i _ e; omega)).trans (Bw.cell 0),(World.cell?_of_block (a:=⟨Bk,0,none⟩) (nS Bk (by omega) nBk.out)).trans ((br8.cell (p:=⟨Bk,0,none⟩) lBk).trans BkB.out.cell),pv,fun i z hz => ?_,by rw [hD]; exact o.size,fun D1 h1 h2 => ?_⟩
        · obtain ⟨g,h1,h2,h3,h4⟩:=els i z hz
          exact ⟨g,h1,(World.cell?_of_block (a:=⟨g,i,none⟩) (nS g (by omega) fun j e => by have:=ft1 j _ e; omega)).trans h4⟩
        · obtain ⟨n1,n2⟩:=nd D1 h1 h2
          exact (nS D1 (by omega) n1).trans (br8.block D1 n2)
      have LF:∀ v,RG N1 w1 w8 v D (fun b => b = B9 + 1 \/ b = B9 + 2) { W2 with R:=R9 } s r laid told t -> RG N1 w1 w6 v (C1 + 4) (fun _ => False) W2 s r laid told t:=fun v hv => RG.lift e9.out.1 e9.out.2 hF9.out o69 (by omega) (fun b e => by omega) hv
      have hfD:∀ i b,W6.foot { W2 with R:=R9 } qc s i b -> b < D:=fun i b e => by have:=ft1 i b e; omega
      have hND:N1 <= D:=by omega
      replace CX:=Lib.hid CX
      replace LF:=Lib.hid LF
      replace hw8:=Lib.hid hw8
      replace hD:=Lib.hid hD
      replace hB9:=Lib.hid hB9
      replace hfD:=Lib.hid hfD
      replace ft1:=Lib.hid ft1
      replace RG8:=Lib.hid RG8
      clear AC own7 b7 b78 Bw br8 els T8 hB8 T9 o9 B9w nBk BkB rg9 hU nd q3 q5 q6 q7 q8 q9 qv y3 cK o69 hF9
      gi_upto_region 20 with fail
      rw [<- hB9.out, <- hw8.out]
      gi_wp2_with fail
      refine range_law (by omega) (gf:=52) (lb:=#[.pointer (some ⟨C1,0,none⟩),.pointer (some ⟨C1 + 1,0,none⟩),.pointer (some ⟨C1 + 2,0,none⟩)]) rfl (enters_of Tryz.func52 (by kernel_rfl) rfl) (by rw [<- hD.out]; rw [<- hD.out] at hseq; exact hseq) (fun _ => rfl)
        (fun pre Wx => Boxed Wx (B9 + 1) 3 (.int .i64 (pre.length:Int)) /\ (Boxed Wx (B9 + 2) 4 (.bool false) /\ (RG N1 w1 w8 Wx D (fun b => b = B9 + 1 \/ b = B9 + 2) { W2 with R:=R9 } s r laid told t /\ pre.map (·.1) <+: row)))
        (fun c' pre Wx => (c' = .ret /\ ¬ pre.map (·.1) <+: row) \/ (c' = .exit 4 /\ (Boxed Wx (B9 + 2) 4 (.bool true) /\ RG N1 w1 w8 Wx D (fun b => b = B9 + 1 \/ b = B9 + 2) { W2 with R:=R9 } s r laid told t)))
        (OwnFrom.and (Own.from (boxed_own (B9 + 1) 3 fun pre:List HU => .int .i64 (pre.length:Int)) _) (OwnFrom.and (Own.from (boxed_own (B9 + 2) 4 fun _:List HU => .bool false) _) (OwnFrom.and (rg_own hfD.out (by rw [<- hD.out]; exact Nat.le_refl _) hND) (ownFrom_pure _ _))))
        (fun c' => ownFrom_orQ (OwnFrom.and (ownFrom_pure _ _) (ownFrom_pure _ _)) (OwnFrom.and (ownFrom_pure _ _) (OwnFrom.and (Own.from (boxed_own (B9 + 2) 4 fun _:List HU => .bool true) _) (rg_own hfD.out (by rw [<- hD.out]; exact Nat.le_refl _) hND))))
        ⟨Bn,Bs,RG8.out,List.nil_prefix⟩
        (fun y => { tmps:=#[.agg #[.slice a0 l.length cap,.int .i64 c,.int .i64 kn0,.slice Av vc cv],.pointer (some ⟨N0,0,none⟩),.pointer (some ⟨N0 + 1,0,none⟩),.pointer (some ⟨V,0,none⟩),u4,.int .i64 (cn:Int),.int .i64 (kd:Int),.func (.func 52) #[] #[.pointer (some ⟨C1,0,none⟩),.pointer (some ⟨C1 + 1,0,none⟩),.pointer (some ⟨C1 + 2,0,none⟩)],.pointer (some ⟨Bk,0,none⟩),.pointer (some ⟨B9,0,none⟩),.pointer (some ⟨B9 + 1,0,none⟩),.pointer (some ⟨B9 + 2,0,none⟩),.int .u64 (y.1:Int),u13,.pointer (some ⟨b0,0,none⟩),.pointer (some ⟨b0,0,none⟩),.bool false,u17,u18,u19,u20,u21,u22,u23,u24,u25,u26,u27,u28,u29,u30,u31,u32,u33,u34,u35,.pointer (some ⟨N0,1,none⟩),.int .i64 c,.int .i64 (cn:Int),.pointer (some ⟨N0,2,none⟩),.int .i64 kn0,.int .i64 (kn:Int),.int .i64 (kd:Int),.pointer (some ⟨b0,0,none⟩),.pointer (some ⟨b0,0,none⟩),.pointer (some ⟨b0,1,none⟩),.pointer (some ⟨W2.gq,0,none⟩),.int .i64 (cn:Int),.int .i64 (kd:Int),.func (.func 52) #[] #[.pointer (some ⟨C1,0,none⟩),.pointer (some ⟨C1 + 1,0,none⟩),.pointer (some ⟨C1 + 2,0,none⟩)],.func (.func 52) #[] #[.pointer (some ⟨C1,0,none⟩),.pointer (some ⟨C1 + 1,0,none⟩),.pointer (some ⟨C1 + 2,0,none⟩)],.bool false,.int .i64 (k:Int),.bool true,u54,u55,.pointer (some ⟨b0,0,none⟩),.pointer (some ⟨b0,0,none⟩),.pointer (some ⟨b0,3,none⟩),.pointer (some ⟨W2.R.b,0,none⟩),.int .i64 (cn:Int),.int .i64 (kd:Int),.slice A KL cp,.func (.func 52) #[] #[.pointer (some ⟨C1,0,none⟩),.pointer (some ⟨C1 + 1,0,none⟩),.pointer (some ⟨C1 + 2,0,none⟩)],.int .u64 (y.1:Int),u65,u66,u67,u68,u69,u70,u71,u72,u73,u74,u75,u76,u77,u78,u79,u80,u81,u82,u83,u84,u85,u86,u87,u88,u89,u90,u91,u92,u93,u94,u95,u96,u97,u98,u99,u100,u101,u102,u103,u104,u105,u106,u107,u108,u109,u110,u111,u112,undef,undef,undef,undef,undef],defers:=[] }) ?assign ?body ?done ?stop
      case assign =>
        intro l' y W' K' hK'
        gi_wp2
        exact hK'
      case body =>
        rw [<- hD.out]
        rintro l' pre y Wx hl1 hl2 ⟨rec,hrec⟩ ⟨bn,bs',RX,hp⟩ hlt
        obtain ⟨n1,hn1⟩:∃ n1,n1 = pre.length:=⟨_,rfl⟩
        rw [<- hn1] at bn hlt
        obtain ⟨p3,p5,p6,p9,pk,pv,pe,hDx, -⟩:=CX.out Wx RX
        have cn8:=bn.cell
        have fn8:=bn.frozen
        have cs8:=bs'.cell
        have fs8:=bs'.frozen
        have c5:=p5.cell
        have f5:=p5.frozen
        have i0:(0:Int) <= (n1:Int):=by omega
        have i1:(n1:Int) < (KL:Int):=by omega
        have g1:decide ((KL:Int) <= (n1:Int)) = false:=decide_eq_false (by omega)
        have g1':decide (KL <= n1) = false:=decide_eq_false (by omega)
        have q2:IntKind.i64.wrap ((n1:Int) + 1) = ((n1 + 1:Nat):Int):=by rw [IntWalk.i64_in _ (by omega)]; omega
        obtain ⟨z,hz⟩:∃ z,row[n1]? = some z:=⟨row[n1]'(by rw [<- hKL.out]; exact hlt),List.getElem?_eq_getElem _⟩
        obtain ⟨g9,rfl,cz⟩:=pe n1 z hz
        clear pe
        by_cases hyz:y.1 = z
        · have e1:((y.1:Int) == (z:Int)) = true:=by rw [beq_iff_eq]; omega
          have e2:((y.1:Int) != (z:Int)) = false:=by rw [bne_eq_false_iff_eq]; omega
          have e3:decide ((y.1:Int) = (z:Int)) = true:=decide_eq_true (by omega)
          have hyl:=y.2
          have hpre:(pre ++ [y]).map (·.1) <+: row:=by
            rw [List.map_append]
            exact prefix_snoc hp (by rw [List.length_map, <- hn1,hz, <- hyz])
          obtain ⟨n2,hn2⟩:∃ n2,n2 = n1 + 1:=⟨_,rfl⟩
          rw [<- hn2] at q2
          have hn3:(pre ++ [y]).length = n2:=by rw [List.length_append,List.length_singleton, <- hn1,hn2]
          have hn2b:n2 <= 134217730:=by omega
          obtain ⟨X1,hX1⟩:∃ X1,X1 = Wx.setCell ⟨B9 + 1,0,none⟩ (.int .i64 (n2:Int)):=⟨_,rfl⟩
          have o1:Only (· = B9 + 1) Wx X1:=by rw [hX1]; exact only_cell1 (S:=(· = B9 + 1)) Wx (B9 + 1) 0 _ rfl
          have bn1:Boxed X1 (B9 + 1) 3 (.int .i64 (n2:Int)):=by rw [hX1]; exact bn.set _
          have bs1:Boxed X1 (B9 + 2) 4 (.bool false):=by rw [hX1]; exact bs'.other (by omega) _
          have R1x:RG N1 w1 w8 X1 D (fun b => b = B9 + 1 \/ b = B9 + 2) { W2 with R:=R9 } s r laid told t:=RX.only o1 (fun b e => ⟨.inl (.inl e),by omega⟩) (fun bs Z R' Ls _ _ _ hF i b hb e => by
            rcases hF i b hb with ⟨j,hj⟩ | h
            · have:=ft1.out j b hj; omega
            · omega)
          have k1:KeepP D Wx X1 /\ X1.heap[l']? = Wx.heap[l']?:=⟨KeepP.only o1 fun b o hb _ _ e => by omega,o1.block l' hl2 (by omega)⟩
          obtain ⟨r3,r5,r6,r9,rk,rv, -, -, -⟩:=CX.out X1 R1x
          have cn1:=bn1.cell
          have hrec1:=k1.2.trans hrec
          have hrecW:=hrec
          have fin:∀ X3,RG N1 w1 w8 X3 D (fun b => b = B9 + 1 \/ b = B9 + 2) { W2 with R:=R9 } s r laid told t -> KeepP D Wx X3 -> X3.heap[l']? = Wx.heap[l']? -> Boxed X3 (B9 + 1) 3 (.int .i64 (n2:Int)) -> Boxed X3 (B9 + 2) 4 (.bool false) -> (KeepP D Wx X3 /\ X3.heap[l']? = Wx.heap[l']? /\ (Boxed X3 (B9 + 1) 3 (.int .i64 ((pre ++ [y]).length:Int)) /\ (Boxed X3 (B9 + 2) 4 (.bool false) /\ (RG N1 w1 w8 X3 D (fun b => b = B9 + 1 \/ b = B9 + 2) { W2 with R:=R9 } s r laid told t /\ (pre ++ [y]).map (·.1) <+: row)))):=fun X3 r k h c1 c2 => ⟨k,h,by rw [hn3]; exact c1,c2,r,hpre⟩
          replace hX1:=Lib.hid hX1
          replace fin:=Lib.hid fin
          replace hyz:=Lib.hid hyz
          replace hn1:=Lib.hid hn1
          replace hz:=Lib.hid hz
          replace hn2:=Lib.hid hn2
          replace hn3:=Lib.hid hn3
          replace hpre:=Lib.hid hpre
          replace hrec1:=Lib.hid hrec1
          replace k1:=Lib.hid k1
          replace hrecW:=Lib.hid hrecW
          clear bn bs' RX hp p5 pv hrec o1
          gi_upto_region 25 with fail
          rw [<- hX1.out]
          clear cn8 fn8 cs8 fs8 c5 f5 p3 p6 p9 pk cz hX1
          by_cases hv0:vc = 0
          · have h0:((vc:Int) == 0) = true:=by rw [beq_iff_eq]; omega
            have h0':decide ((vc:Int) = 0) = true:=decide_eq_true (by omega)
            have h0'':decide (vc = 0) = true:=decide_eq_true hv0
            have T:=Lib.hid (fin.out X1 R1x k1.out.1 k1.out.2 bn1 bs1)
            replace hv0:=Lib.hid hv0
            clear fin bn1 bs1 R1x rv r5
            gi_wp2
            exact T.out
          · have h0:((vc:Int) == 0) = false:=by rw [beq_eq_false_iff_ne]; omega
            have h0':decide ((vc:Int) = 0) = false:=decide_eq_false (by omega)
            have h0'':decide (vc = 0) = false:=decide_eq_false hv0
            obtain ⟨nk,hnk2⟩:∃ nk,nk = n2 + k:=⟨_,rfl⟩
            have q3:IntKind.i64.wrap ((n2:Int) + (k:Int)) = (nk:Int):=by rw [IntWalk.i64_in _ (by omega)]; omega
            have hm:nk % vc < vc:=Nat.mod_lt _ (by omega)
            obtain ⟨d,g10,off,hd,rfl,cd⟩:=rv (nk % vc) hm
            obtain ⟨m,hme⟩:∃ m,m = nk % vc:=⟨_,rfl⟩
            rw [<- hme] at cd hm
            have er:Int.tmod (nk:Int) (vc:Int) = (m:Int):=by rw [hme]; exact (Int.ofNat_tmod nk vc).symm
            have i3:(0:Int) <= (m:Int):=by omega
            have i4:(m:Int) < (vc:Int):=by omega
            obtain ⟨cd0,cd1,cd2,cd3,cd4⟩:=cd
            replace hme:=Lib.hid hme
            replace hnk2:=Lib.hid hnk2
            replace bn1:=Lib.hid bn1
            replace bs1:=Lib.hid bs1
            replace R1x:=Lib.hid R1x
            clear rv r5
            gi_upto_region 26 with fail
            have SA:∀ v,Below X1.heap.size X1 v -> v.cell? ⟨N0,3,none⟩ = some (.slice (some ⟨g10,off,none⟩) vc cv) /\ v.cell? ⟨B9 + 1,0,none⟩ = some (.int .i64 (n2:Int)) /\ v.cell? ⟨Bk,0,none⟩ = some (.int .i64 (k:Int)) /\ v.cell? ⟨g10,off + m * 5,none⟩ = some (.int .i64 d.dO) /\ v.cell? ⟨g10,off + m * 5 + 1,none⟩ = some (.int .i64 d.a) /\ v.cell? ⟨g10,off + m * 5 + 2,none⟩ = some (.int .i64 d.b) /\ v.cell? ⟨g10,off + m * 5 + 3,none⟩ = some (.bool d.other) /\ v.cell? ⟨g10,off + m * 5 + 4,none⟩ = some (.bool d.stop) /\ Below X1.heap.size X1 v:=fun v h => ⟨(h.cell (World.block_lt_of_cell? _ _ r3)).trans r3,(h.cell (World.block_lt_of_cell? _ _ cn1)).trans cn1,(h.cell (World.block_lt_of_cell? _ _ rk)).trans rk,(h.cell (World.block_lt_of_cell? _ _ cd0)).trans cd0,(h.cell (World.block_lt_of_cell? _ _ cd1)).trans cd1,(h.cell (World.block_lt_of_cell? _ _ cd2)).trans cd2,(h.cell (World.block_lt_of_cell? _ _ cd3)).trans cd3,(h.cell (World.block_lt_of_cell? _ _ cd4)).trans cd4,h⟩
            have bX:=below_drewN (Below.refl X1.heap.size X1) 1
            refine region_heldR (S:=fun v => v.cell? ⟨N0,3,none⟩ = some (.slice (some ⟨g10,off,none⟩) vc cv) /\ v.cell? ⟨B9 + 1,0,none⟩ = some (.int .i64 (n2:Int)) /\ v.cell? ⟨Bk,0,none⟩ = some (.int .i64 (k:Int)) /\ v.cell? ⟨g10,off + m * 5,none⟩ = some (.int .i64 d.dO) /\ v.cell? ⟨g10,off + m * 5 + 1,none⟩ = some (.int .i64 d.a) /\ v.cell? ⟨g10,off + m * 5 + 2,none⟩ = some (.int .i64 d.b) /\ v.cell? ⟨g10,off + m * 5 + 3,none⟩ = some (.bool d.other) /\ v.cell? ⟨g10,off + m * 5 + 4,none⟩ = some (.bool d.stop) /\ Below X1.heap.size X1 v) (by kernel_rfl) (SA _ bX) (fun hHeld => ?_)
            replace SA:=Lib.hid SA
            clear r3 r6 r9 rk cn1 cd0 cd1 cd2 cd3 cd4
            refine wpAnyHR_take (i:=0) (oi:=_) (v:=?_) (fun _ => trivial) (by kernel_rfl) rfl (by kernel_rfl) (by kernel_rfl) (by kernel_rfl) (fun _ _ _ h => h) (Or.inl ⟨by rfl,?_⟩) (by assumption) ?_
            rotate_left
            · try simp only [qA,qS,qZ]
              rintro w ⟨hS1,hS2,hS3,hS4,hS5,hS6,hS7,hS8,hS9⟩
              go_simp
              (try with_reducible rfl)
            try simp only [qA,qS,qZ,Act.put,qT,qO,qN]
            refine wpAnyHR_take (i:=1) (oi:=_) (v:=?_) (fun _ => trivial) (by kernel_rfl) rfl (by kernel_rfl) (by kernel_rfl) (by kernel_rfl) (fun _ _ _ h => h) (Or.inl ⟨by rfl,?_⟩) (by assumption) ?_
            rotate_left
            · try simp only [qA,qS,qZ]
              rintro w ⟨hS1,hS2,hS3,hS4,hS5,hS6,hS7,hS8,hS9⟩
              go_simp
              (try with_reducible rfl)
            try simp only [qA,qS,qZ,Act.put,qT,qO,qN]
            refine wpAnyHR_take (i:=2) (oi:=_) (v:=?_) (fun _ => trivial) (by kernel_rfl) rfl (by kernel_rfl) (by kernel_rfl) (by kernel_rfl) (fun _ _ _ h => h) (Or.inl ⟨by rfl,?_⟩) (by assumption) ?_
            rotate_left
            · try simp only [qA,qS,qZ]
              rintro w ⟨hS1,hS2,hS3,hS4,hS5,hS6,hS7,hS8,hS9⟩
              go_simp
              (try with_reducible rfl)
            try simp only [qA,qS,qZ,Act.put,qT,qO,qN]
            refine wpAnyHR_take (i:=3) (oi:=_) (v:=?_) (fun _ => trivial) (by kernel_rfl) rfl (by kernel_rfl) (by kernel_rfl) (by kernel_rfl) (fun _ _ _ h => h) (Or.inl ⟨by rfl,?_⟩) (by assumption) ?_
            rotate_left
            · try simp only [qA,qS,qZ]
              rintro w ⟨hS1,hS2,hS3,hS4,hS5,hS6,hS7,hS8,hS9⟩
              go_simp
              (try with_reducible rfl)
            try simp only [qA,qS,qZ,Act.put,qT,qO,qN]
            refine wpAnyHR_take (i:=4) (oi:=_) (v:=?_) (fun _ => trivial) (by kernel_rfl) rfl (by kernel_rfl) (by kernel_rfl) (by kernel_rfl) (fun _ _ _ h => h) (Or.inl ⟨by rfl,?_⟩) (by assumption) ?_
            rotate_left
            · try simp only [qA,qS,qZ]
              rintro w ⟨hS1,hS2,hS3,hS4,hS5,hS6,hS7,hS8,hS9⟩
              go_simp
              (try with_reducible rfl)
            try simp only [qA,qS,qZ,Act.put,qT,qO,qN]
            refine wpAnyHR_take (i:=5) (oi:=_) (v:=?_) (fun _ => trivial) (by kernel_rfl) rfl (by kernel_rfl) (by kernel_rfl) (by kernel_rfl) (fun _ _ _ h => h) (Or.inl ⟨by rfl,?_⟩) (by assumption) ?_
            rotate_left
            · try simp only [qA,qS,qZ]
              rintro w ⟨hS1,hS2,hS3,hS4,hS5,hS6,hS7,hS8,hS9⟩
              go_simp
              (try with_reducible rfl)
            try simp only [qA,qS,qZ,Act.put,qT,qO,qN]
            refine wpAnyHR_take (i:=6) (oi:=_) (v:=?_) (fun _ => trivial) (by kernel_rfl) rfl (by kernel_rfl) (by kernel_rfl) (by kernel_rfl) (fun _ _ _ h => h) (Or.inl ⟨by rfl,?_⟩) (by assumption) ?_
            rotate_left
            · try simp only [qA,qS,qZ]
              rintro w ⟨hS1,hS2,hS3,hS4,hS5,hS6,hS7,hS8,hS9⟩
              go_simp
              (try with_reducible rfl)
            try simp only [qA,qS,qZ,Act.put,qT,qO,qN]
            refine wpAnyHR_take (i:=7) (oi:=_) (v:=?_) (fun _ => trivial) (by kernel_rfl) rfl (by kernel_rfl) (by kernel_rfl) (by kernel_rfl) (fun _ _ _ h => h) (Or.inl ⟨by rfl,?_⟩) (by assumption) ?_
            rotate_left
            · try simp only [qA,qS,qZ]
              rintro w ⟨hS1,hS2,hS3,hS4,hS5,hS6,hS7,hS8,hS9⟩
              go_simp
              (try with_reducible rfl)
            try simp only [qA,qS,qZ,Act.put,qT,qO,qN]
            refine wpAnyHR_take (i:=8) (oi:=_) (v:=?_) (fun _ => trivial) (by kernel_rfl) rfl (by kernel_rfl) (by kernel_rfl) (by kernel_rfl) (fun _ _ _ h => h) (Or.inl ⟨by rfl,?_⟩) (by assumption) ?_
            rotate_left
            · try simp only [qA,qS,qZ]
              rintro w ⟨hS1,hS2,hS3,hS4,hS5,hS6,hS7,hS8,hS9⟩
              go_simp
              (try with_reducible rfl)
            try simp only [qA,qS,qZ,Act.put,qT,qO,qN]
            refine wpAnyHR_take (i:=9) (oi:=_) (v:=?_) (fun _ => trivial) (by kernel_rfl) rfl (by kernel_rfl) (by kernel_rfl) (by kernel_rfl) (fun _ _ _ h => h) (Or.inl ⟨by rfl,?_⟩) (by assumption) ?_
            rotate_left
            · try simp only [qA,qS,qZ]
              rintro w ⟨hS1,hS2,hS3,hS4,hS5,hS6,hS7,hS8,hS9⟩
              go_simp
              (try with_reducible rfl)
            try simp only [qA,qS,qZ,Act.put,qT,qO,qN]
            refine wpAnyHR_take (i:=10) (oi:=_) (v:=?_) (fun _ => trivial) (by kernel_rfl) rfl (by kernel_rfl) (by kernel_rfl) (by kernel_rfl) (fun _ _ _ h => h) (Or.inl ⟨by rfl,?_⟩) (by assumption) ?_
            rotate_left
            · try simp only [qA,qS,qZ]
              rintro w ⟨hS1,hS2,hS3,hS4,hS5,hS6,hS7,hS8,hS9⟩
              go_simp
              (try with_reducible rfl)
            try simp only [qA,qS,qZ,Act.put,qT,qO,qN]
            refine wpAnyHR_ready (rs:=[11]) (by kernel_rfl) (by simp) ?_
            refine AllReadyHR.cons (o:=_) rfl (fun K hK => ?_) ?_
            rotate_left
            · exact AllReadyHR.nil
            try simp only [qA,qS,qZ]
            go_simp
            refine hK.out _ _ (SA.out _ (bX.alloc (Nat.le_refl _) _)) (fun hHeld11 => ?_)
            clear hK K
            try simp only [qA,qS,qZ,Act.put,qT,qO,qN]
            refine wpAnyHR_ready (rs:=[12]) (by kernel_rfl) (by simp) ?_
            refine AllReadyHR.cons (o:=_) rfl (fun K hK => ?_) ?_
            rotate_left
            · exact AllReadyHR.nil
            try simp only [qA,qS,qZ]
            go_simp
            refine hK.out _ _ (SA.out _ (below_drewN ((Below.refl X1.heap.size X1).alloc (Nat.le_refl _) _) 1)) (fun hHeld12 => ?_)
            clear hK K
            try simp only [qA,qS,qZ,Act.put,qT,qO,qN]
            refine wpAnyHR_done (by kernel_rfl) ?_ _
            clear SA bX
            obtain ⟨X3,hX3⟩:∃ X3,X3 = (X1.alloc (.cells #[.int .i64 d.dO,.int .i64 d.a,.int .i64 d.b,.bool d.other,.bool d.stop] 52)).drew:=⟨_,rfl⟩
            have b13:Below X1.heap.size X1 X3:=by rw [hX3]; exact below_drewN ((Below.refl _ X1).alloc (Nat.le_refl _) _) 1
            obtain ⟨B13,hB13⟩:∃ B13,B13 = X1.heap.size:=⟨_,rfl⟩
            have BV2:=Blk.new X1 52 #[.int .i64 d.dO,.int .i64 d.a,.int .i64 d.b,.bool d.other,.bool d.stop]
            have BV3:Blk X3 B13 52 #[.int .i64 d.dO,.int .i64 d.a,.int .i64 d.b,.bool d.other,.bool d.stop]:=by rw [hX3,hB13]; exact Base.Blk.below BV2 (below_drewN (Below.refl _ _) 1) (Blk.lt BV2)
            clear BV2
            have R3x:RG N1 w1 w8 X3 D (fun b => b = B9 + 1 \/ b = B9 + 2) { W2 with R:=R9 } s r laid told t:=R1x.out.below b13
            obtain ⟨-, -,v6, -, -, -, -,D3, -⟩:=CX.out X3 R3x
            have D1:D <= B13:=by rw [hB13]; exact (CX.out X1 R1x.out).2.2.2.2.2.2.2.1
            have VCc:=R3x.visit hfD.out D3 ht6 d hd y.1 hyl b0 eb.out
            have c13:X3.cell? ⟨B13,0,none⟩ = some (.int .i64 d.dO):=BV3.cell 0
            have c14:X3.cell? ⟨B13,1,none⟩ = some (.int .i64 d.a):=BV3.cell 1
            have c15:X3.cell? ⟨B13,2,none⟩ = some (.int .i64 d.b):=BV3.cell 2
            have c16:X3.cell? ⟨B13,3,none⟩ = some (.bool d.other):=BV3.cell 3
            have c17:X3.cell? ⟨B13,4,none⟩ = some (.bool d.stop):=BV3.cell 4
            have go5:∀ X5,KeepP D X3 X5 -> (∀ b,b < D -> (∀ i,¬ W6.foot { W2 with R:=R9 } qc s i b) -> X5.heap[b]? = X3.heap[b]?) -> (∀ l,D <= l -> (∃ x,X3.heap[l]? = some (.loop x)) -> X5.heap[l]? = X3.heap[l]?) -> KeepP D Wx X5 /\ X5.heap[l']? = Wx.heap[l']? /\ Boxed X5 (B9 + 1) 3 (.int .i64 (n2:Int)) /\ Boxed X5 (B9 + 2) 4 (.bool false) /\ X5.cell? ⟨B13,4,none⟩ = some (.bool d.stop) /\ D <= X5.heap.size:=fun X5 kp st lp => by
              have l1:=heap_lt hrec1.out
              have nf:∀ b,B9 <= b -> ∀ i,¬ W6.foot { W2 with R:=R9 } qc s i b:=fun b hb i e => by have:=ft1.out i b e; omega
              have e1:=(st (B9 + 1) (by omega) (nf _ (by omega))).trans (b13.block (B9 + 1) (Blk.lt bn1.out))
              have e2:=(st (B9 + 2) (by omega) (nf _ (by omega))).trans (b13.block (B9 + 2) (Blk.lt bs1.out))
              have e3:=(b13.block l' l1).trans hrec1.out
              refine ⟨k1.out.1.trans ((KeepP.below b13).trans kp),(lp l' (by omega) ⟨rec,e3⟩).trans ((b13.block l' l1).trans k1.out.2),e1.trans bn1.out,e2.trans bs1.out,?_,Nat.le_trans D3 kp.size⟩
              exact (World.cell?_of_block (a:=⟨B13,4,none⟩) ((kp.same B13 _ D1 BV3 rfl).trans BV3.symm)).trans c17
            rw [<- hB13, <- hX3]
            replace VCc:=Lib.hid VCc
            replace go5:=Lib.hid go5
            replace hB13:=Lib.hid hB13
            replace hX3:=Lib.hid hX3
            replace b13:=Lib.hid b13
            replace hd:=Lib.hid hd
            clear R3x D3 R1x bn1 bs1 BV3 k1
            gi_wp2_with fail
            first | refine ⟨trivial,fun _ => by omega,?_⟩ | refine ⟨trivial,?_⟩
            gi_at_call 19
            refine (callsIn_wide.2 VCc.out).mono ?_
            rintro e X5 ⟨rfl,R5,kp,st,lp⟩
            obtain ⟨kX,eX,n5,s5,c5,D5⟩:=go5.out X5 kp st lp
            have s5c:=s5.cell
            have s5f:=s5.frozen
            have T1:=Lib.hid (fin.out X5 R5 kX eX n5 s5)
            have T2:=Lib.hid (show KeepP D Wx (X5.setCell ⟨B9 + 2,0,none⟩ (.bool true)) /\ (X5.setCell ⟨B9 + 2,0,none⟩ (.bool true)).heap[l']? = Wx.heap[l']? /\ Boxed (X5.setCell ⟨B9 + 2,0,none⟩ (.bool true)) (B9 + 2) 4 (.bool true) /\ RG N1 w1 w8 (X5.setCell ⟨B9 + 2,0,none⟩ (.bool true)) D (fun b => b = B9 + 1 \/ b = B9 + 2) { W2 with R:=R9 } s r laid told t from by
              have o:=only_cell1 (S:=(· = B9 + 2)) X5 (B9 + 2) 0 (.bool true) rfl
              refine ⟨kX.trans (KeepP.only o fun b ob hb _ _ e => by omega),(o.block l' (heap_lt (eX.trans hrecW.out)) (by omega)).trans eX,s5.set _,R5.only o (fun b e => ⟨.inl (.inr e),by omega⟩) (fun bs Z R' Ls _ _ _ hF i b hb e => ?_)⟩
              rcases hF i b hb with ⟨j,hj⟩ | h
              · have:=ft1.out j b hj; omega
              · omega)
            clear VCc go5 R5 kp st lp kX eX n5 s5 fin
            cases hst:d.stop with
            | false =>
              rw [hst] at c5
              replace hst:=Lib.hid hst
              gi_wp2
              exact T1.out
            | true =>
              rw [hst] at c5
              replace hst:=Lib.hid hst
              gi_wp2
              exact ⟨T2.out.1,T2.out.2.1,.inr ⟨rfl,T2.out.2.2⟩⟩
        · have e1:((y.1:Int) == (z:Int)) = false:=by rw [beq_eq_false_iff_ne]; omega
          have e2:((y.1:Int) != (z:Int)) = true:=by rw [bne_iff_ne]; omega
          have e3:decide ((y.1:Int) = (z:Int)) = false:=decide_eq_false (by omega)
          have T:=Lib.hid (show KeepP D Wx (Wx.setCell ⟨N0 + 1,0,none⟩ (.bool false)) /\ (Wx.setCell ⟨N0 + 1,0,none⟩ (.bool false)).heap[l']? = Wx.heap[l']? /\ ¬ (pre ++ [y]).map (·.1) <+: row from by
            have hlo:N0 + 1 < D:=by omega
            refine ⟨KeepP.only (only_cell1 (S:=(· = N0 + 1)) Wx (N0 + 1) 0 _ rfl) fun b' o hb' _ _ e => by omega,(only_cell1 (S:=(· = N0 + 1)) Wx (N0 + 1) 0 _ rfl).block l' hl2 (by omega),?_⟩
            rw [List.map_append]
            exact prefix_not (by rw [List.length_map, <- hn1,hz]) hyz)
          replace hyz:=Lib.hid hyz
          replace hn1:=Lib.hid hn1
          replace hz:=Lib.hid hz
          clear bn bs' RX hp p5 pv hrec
          gi_wp2
          exact ⟨T.out.1,T.out.2.1,.inl ⟨rfl,T.out.2.2⟩⟩
      case done =>
        rw [<- hD.out]
        rintro D' ys Wx hD' hys ⟨bn,bs',RX,hp⟩ hKd
        have hlen:ys.length = KL:=by rw [hKL.out, <- hys,List.length_map]
        rw [hlen] at bn
        have c8:=bn.cell
        have c9:=bs'.cell
        obtain ⟨p3,p5,p6,p9,pk, -, -,hDx,pd⟩:=CX.out Wx RX
        have e1:((KL:Int) != (KL:Int)) = false:=bne_self_eq_false _
        have RX6:=LF.out Wx RX
        have NX:=Lib.hid (DK.out.next (v:=Wx) hk pd (by omega) hKd (by omega))
        replace hys:=Lib.hid hys
        replace hlen:=Lib.hid hlen
        replace hKd:=Lib.hid hKd
        replace RX6:=Lib.hid RX6
        clear bn bs' RX hp p3 p5 p6 CX LF pd
        obtain ⟨bs8,Z8,R8,Ls8,f1,f2,T0,hF0,o0,B0⟩:=RX6.out
        have e0:((k + 1:Nat):Int) = (k:Int) + 1:=by omega
        obtain ⟨Xe,hXe⟩:∃ Xe,Xe = Wx.alloc (.cells #[.int .i64 ((k:Int) + 1)] 3):=⟨_,rfl⟩
        have bXe:Below Wx.heap.size Wx Xe:=by rw [hXe]; exact (Below.refl _ _).alloc (Nat.le_refl _) _
        have BkN:Boxed Xe Wx.heap.size 3 (.int .i64 ((k + 1:Nat):Int)):=by rw [hXe,e0]; exact Boxed.new Wx _ _
        have hsz:C1 + 4 <= Wx.heap.size:=by have:=o0.size; have:=z6.out; omega
        have hsl:∀ i b,W6.foot { W2 with R:=R8 } qc s i b -> b < Wx.heap.size:=fun i b e => T0.wat.lt i b e
        have T0e:=T0.below bXe
        have o0e:=o0.below bXe o0.size
        have B0e:=B0.trans (bXe.mono T0.wat.hN0)
        have NXe:=NX.out.keep (v:=Xe) fun D1 _ h => bXe.block D1 (heap_lt h)
        replace hsl:=Lib.hid hsl
        replace f1:=Lib.hid f1
        replace BkN:=Lib.hid BkN
        replace T0e:=Lib.hid T0e
        replace hF0:=Lib.hid hF0
        replace o0e:=Lib.hid o0e
        replace B0e:=Lib.hid B0e
        replace NXe:=Lib.hid NXe
        clear T0 o0 B0 bXe RX6 NX
        gi_wp2
        rw [<- hXe]
        refine Handed.intro (2 - (k + 1)) (by have:=hnk.out; omega) (hJ _ _ _ ?_)
        (repeat apply Exists.intro)
        refine ⟨?relA,rfl⟩
        exact ⟨k + 1,Wx.heap.size,bs8,Z8,R8,Ls8,rfl,rfl,by omega,by omega,BkN,Lib.hid ⟨f1.out,f2⟩,T0e,hF0,o0e,B0e,Lib.hid (fun i e => Nat.lt_irrefl _ (hsl.out i _ e)),NXe⟩
      case stop =>
        rw [<- hD.out]
        rintro D' c' pre Wx hD' hSp (⟨rfl,hn⟩ | ⟨rfl,bs',RX⟩) hKd
        · exact absurd hSp hn
        have c9:=bs'.cell
        obtain ⟨p3,p5,p6,p9,pk, -, -,hDx,pd⟩:=CX.out Wx RX
        have RX6:=LF.out Wx RX
        have NX:=Lib.hid (DK.out.next (v:=Wx) hk pd (by omega) hKd (by omega))
        replace hKd:=Lib.hid hKd
        replace RX6:=Lib.hid RX6
        clear bs' RX p3 p5 p6 CX LF pd
        try dsimp only
        obtain ⟨bs8,Z8,R8,Ls8,f1,f2,T0,hF0,o0,B0⟩:=RX6.out
        have e0:((k + 1:Nat):Int) = (k:Int) + 1:=by omega
        obtain ⟨Xe,hXe⟩:∃ Xe,Xe = Wx.alloc (.cells #[.int .i64 ((k:Int) + 1)] 3):=⟨_,rfl⟩
        have bXe:Below Wx.heap.size Wx Xe:=by rw [hXe]; exact (Below.refl _ _).alloc (Nat.le_refl _) _
        have BkN:Boxed Xe Wx.heap.size 3 (.int .i64 ((k + 1:Nat):Int)):=by rw [hXe,e0]; exact Boxed.new Wx _ _
        have hsz:C1 + 4 <= Wx.heap.size:=by have:=o0.size; have:=z6.out; omega
        have hsl:∀ i b,W6.foot { W2 with R:=R8 } qc s i b -> b < Wx.heap.size:=fun i b e => T0.wat.lt i b e
        have T0e:=T0.below bXe
        have o0e:=o0.below bXe o0.size
        have B0e:=B0.trans (bXe.mono T0.wat.hN0)
        have NXe:=NX.out.keep (v:=Xe) fun D1 _ h => bXe.block D1 (heap_lt h)
        replace hsl:=Lib.hid hsl
        replace f1:=Lib.hid f1
        replace BkN:=Lib.hid BkN
        replace T0e:=Lib.hid T0e
        replace hF0:=Lib.hid hF0
        replace o0e:=Lib.hid o0e
        replace B0e:=Lib.hid B0e
        replace NXe:=Lib.hid NXe
        clear T0 o0 B0 bXe RX6 NX
        gi_wp2
        rw [<- hXe]
        refine Handed.intro (2 - (k + 1)) (by have:=hnk.out; omega) (hJ _ _ _ ?_)
        (repeat apply Exists.intro)
        refine ⟨?relB,rfl⟩
        exact ⟨k + 1,Wx.heap.size,bs8,Z8,R8,Ls8,rfl,rfl,by omega,by omega,BkN,Lib.hid ⟨f1.out,f2⟩,T0e,hF0,o0e,B0e,Lib.hid (fun i e => Nat.lt_irrefl _ (hsl.out i _ e)),NXe⟩
    · obtain rfl:k = 2:=by omega
      have d1:decide (((2:Nat):Int) < 2) = false:=rfl
      rcases DK.out with ⟨e1, -⟩ | ⟨e1, -⟩ | ⟨-,D1,D2,hD1,hD2,hne,rfl,hd1,hd2⟩
      · omega
      · omega
      have c5:=q5.cell
      have f5:=q5.frozen
      have EC:Calls Tryz.prog 13 #[.pointer (some ⟨b0,0,none⟩)] wr fun e w' => e = .returned (.bool true) /\ Below wr.heap.size wr w':=by have E9:=qendsC T9.out ht6; rw [<- eb.out]; exact E9
      have b1r:Below N0 W wr:=b1.out.trans (B9w.out.mono (by omega))
      replace q5:=Lib.hid q5
      replace b1r:=Lib.hid b1r
      replace EC:=Lib.hid EC
      clear DK q7 q8 q9 qv CE
      gi_wp2_with fail
      first | refine ⟨trivial,fun _ => by omega,?_⟩ | refine ⟨trivial,?_⟩
      gi_at_call 13
      refine (callsIn_wide.2 EC.out).mono ?_
      rintro e X0 ⟨rfl,bX0⟩
      have WCr:=Lib.hid (WC.out X0)
      replace bX0:=Lib.hid bX0
      gi_wp2_with fail
      first | refine ⟨trivial,fun _ => by omega,?_⟩ | refine ⟨trivial,?_⟩
      gi_at_call 15
      refine (callsIn_wide.2 WCr.out).mono ?_
      rintro e X ⟨rfl,bX1⟩
      have bX:Below wr.heap.size wr X:=bX0.out.trans (bX1.mono bX0.out.size)
      have q5X:Boxed X (N0 + 1) 4 (.bool false):=Base.Blk.below q5.out bX (Blk.lt q5.out)
      have cX:=q5X.cell
      have fX:=q5X.frozen
      have d1X:=(bX.block D1 (heap_lt hd1)).trans hd1
      have d2X:=(bX.block D2 (heap_lt hd2)).trans hd2
      have bF:Below N0 W X:=b1r.out.trans (bX.mono (by rw [hN.out]; exact b1r.out.size))
      have q5Y:=q5X.set (.bool true)
      have oY:=only_cell1 (S:=(· = N0 + 1)) X (N0 + 1) 0 (.bool true) rfl
      have d1Y:=(oY.block D1 (heap_lt d1X) (by omega)).trans d1X
      have d2Y:=(oY.block D2 (heap_lt d2X) (by omega)).trans d2X
      have bY:=bF.setCell (p:=⟨N0 + 1,0,none⟩) (by show N0 <= N0 + 1; omega) (.bool true)
      have d1Z:=(World.putObj_heap_other (w:=X.setCell ⟨N0 + 1,0,none⟩ (.bool true)) (o:=.deferred none) (show D1 ≠ D2 by omega)).trans d1Y
      have q5Z:(((X.setCell ⟨N0 + 1,0,none⟩ (.bool true)).putObj D2 (.deferred none)).putObj D1 (.deferred none)).heap[N0 + 1]? = some (.cells #[.bool true] 4 (0,0)):=(World.putObj_heap_other (by omega)).trans ((World.putObj_heap_other (by omega)).trans q5Y)
      have hMc:(((X.setCell ⟨N0 + 1,0,none⟩ (.bool true)).putObj D2 (.deferred none)).putObj D1 (.deferred none)).cell? ⟨N0 + 1,0,none⟩ = some (.bool true):=Blk.cell (g:=N0 + 1) q5Z 0
      have bZ:=(bY.grown (grownBy_putObj' _ D2 (.deferred none)) (Nat.le_trans (Nat.le_of_eq hN.out) bY.size) (fun k e => by cases e; omega))
      have bZ2:=(bZ.grown (grownBy_putObj' _ D1 (.deferred none)) (Nat.le_trans (Nat.le_of_eq hN.out) bZ.size) (fun k e => by cases e; omega))
      replace bZ2:=Lib.hid bZ2
      replace q5Y:=Lib.hid q5Y
      replace q5Z:=Lib.hid q5Z
      clear bZ bY bF oY q5X d1X d2X bX q5 bX1 EC WCr
      gi_wp2
      refine ⟨by simp,.inl ⟨D2,_,rfl,run_takeDeferred d2Y,⟨by simp,.inl ⟨D1,_,rfl,run_takeDeferred d1Z,?_⟩⟩⟩⟩
      exact ⟨_,results_cell_one (P:=Tryz.prog) rfl _ _ (N0 + 1) _ _ rfl hMc Tryz.underlying4 rfl,rfl,bZ2.out⟩
end Go.Proofs.YtfjiphibalhcgaaGreat.Que
