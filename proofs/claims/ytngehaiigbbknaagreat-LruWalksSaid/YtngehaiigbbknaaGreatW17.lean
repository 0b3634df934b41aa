/-
  Contracts and lemmas, joined: LruWalksLaw.
-/
import Derived.Test.YtngehaiigbbknaaGreatW16
set_option linter.unusedSimpArgs false
set_option linter.unusedVariables false
set_option linter.unusedSectionVars false
set_option maxRecDepth 100000
/-
  The law LruWalks.
-/
namespace Go.Proofs.YtngehaiigbbknaaGreat.Que
open Go.RowKit Base Arena Cls Itm Go.Shelf
attribute [local go_sem] Oper.semAt_some
theorem walk_nil (a b:Nat) (w:World):Sem.run Tryz.prog (binOp BinOp.eql 81 (.func (.func 71) #[] #[.pointer (some ⟨a,0,none⟩),.pointer (some ⟨b,0,none⟩)]) .nilFunc) w = .ok (.bool false) w:=by kernel_rfl
theorem ownFrom_or8 {β:Type} {B:Nat} {I I' : β -> World -> Prop} (h:OwnFrom B I) (h':OwnFrom B I'):OwnFrom B (fun s W => I s W \/ I' s W):=fun s W W' row hs hg hr => hs.elim (fun e => .inl (h s W W' row e hg hr)) (fun e => .inr (h' s W W' row e hg hr))
theorem own_s8 {β:Type} {B D B7 gl:Nat} {L:Lay} {w:World} (hB:D <= B):OwnFrom B (fun (_ : β) W => Only (fun b => b = B7 + 1 \/ b = B7 + 2 \/ Two L gl b \/ D <= b) w W):=fun _ X Y row hs hg hr => hs.grown hg fun k e hk => .inr (.inr (.inr (by have:=(hr k e).1; omega)))
def DefK (lo:Nat) (w:World) (k:Nat) (ds:List Deferred):Prop :=
  (k = 0 /\ ds = []) \/ (k = 1 /\ ∃ D1,lo <= D1 /\ ds = [{ target:=.collected D1,args:=#[] }] /\ w.heap[D1]? = some (.deferred (some []))) \/
    (k = 2 /\ ∃ D1 D2,lo <= D1 /\ lo <= D2 /\ D1 ≠ D2 /\ ds = [{ target:=.collected D2,args:=#[] }, { target:=.collected D1,args:=#[] }] /\ w.heap[D1]? = some (.deferred (some [])) /\ w.heap[D2]? = some (.deferred (some [])))
theorem DefK.next {lo k:Nat} {ds:List Deferred} {w v:World} {D':Nat} (h:DefK lo w k ds) (hk:k < 2) (kp:∀ D1,lo <= D1 -> w.heap[D1]? = some (.deferred (some [])) -> v.heap[D1]? = w.heap[D1]?) (hlo:lo <= D') (hd:v.heap[D']? = some (.deferred (some []))) (hw:w.heap.size <= D') :
    DefK lo v (k + 1) ({ target:=.collected D',args:=#[] } :: ds):=by
  rcases h with ⟨rfl,rfl⟩ | ⟨rfl,D1,e2,rfl,e4⟩ | ⟨rfl, -⟩
  · exact .inr (.inl ⟨rfl,D',hlo,rfl,hd⟩)
  · exact .inr (.inr ⟨rfl,D1,D',e2,hlo,by have:=heap_lt e4; omega,rfl,(kp D1 e2 e4).trans e4,hd⟩)
  · omega
set_option maxHeartbeats 4000000 in
theorem lruWalksC (W:World) (a b:Int) (ha:Cls.In a) (hb:Cls.In b) (a0:Option Addr) (cap:Nat) (l:List Op6) (hP:∀ (k:Nat) (hk:k < l.length),ORow W a0 k l[k]) (hl:l.length <= maxLen) (c:Int) (hc:Cls.In c)
    (Av:Option Addr) (cv:Nat) (vs:List Int) (hav:∀ (k:Nat) (d:Int),vs[k]? = some d -> Cls.In d /\ ∃ g off,Av = some ⟨g,off,none⟩ /\ g < W.heap.size /\ W.cell? ⟨g,off + k,none⟩ = some (.int .i64 d)) (hvs:vs.length <= maxLen) :
    Calls Tryz.prog 10 #[.agg #[.int .i64 a,.int .i64 b,.slice a0 l.length cap,.int .i64 c,.slice Av vs.length cv]] W fun e w' => e = .returned (.bool true) /\ Below W.heap.size W w':=by
  refine (callsIn_wide (n:=20)).1 ?_
  obtain ⟨w1,hw1⟩:∃ w1,w1 = (W.alloc (.cells #[.int .i64 a,.int .i64 b,.slice a0 l.length cap,.int .i64 c,.slice Av vs.length cv] 79)).alloc (.cells #[.bool false] 4):=⟨_,rfl⟩
  have b1:Below W.heap.size W w1:=by rw [hw1]; exact ((Below.refl _ _).alloc (Nat.le_refl _) _).alloc (by rw [World.size_alloc]; omega) _
  have B1:Blk w1 W.heap.size 79 #[.int .i64 a,.int .i64 b,.slice a0 l.length cap,.int .i64 c,.slice Av vs.length cv]:=by rw [hw1]; exact (Blk.new W _ _).alloc _
  have R1:Boxed w1 (W.heap.size + 1) 4 (.bool false):=by rw [hw1]; exact blk_new' (World.size_alloc _ _)
  have z1:w1.heap.size = W.heap.size + 2:=by rw [hw1,World.size_alloc,World.size_alloc]
  have SC1:=Lib.hid (scriptedC w1 a b ha hb a0 cap l (fun k hk => by
    obtain ⟨b9,off,e,h1,h2,h3⟩:=hP k hk
    exact ⟨b9,off,e,Nat.lt_of_lt_of_le h1 b1.size,h2,h3.below b1 h1⟩) hl)
  have WI:=Lib.hid (fun w => withinI (w:=w) c 3 hc (by omega) (by omega))
  have WC:=Lib.hid wakesC
  obtain ⟨N0,hN⟩:∃ N0,N0 = W.heap.size:=⟨_,rfl⟩
  rw [<- hN] at B1 R1 b1 z1 ⊢
  obtain ⟨vc,hvc⟩:∃ vc,vc = vs.length:=⟨_,rfl⟩
  rw [<- hvc] at B1 hw1 hvs ⊢
  have hav:∀ (k:Nat),k < vc -> ∃ d g off,Cls.In d /\ Av = some ⟨g,off,none⟩ /\ g < N0 /\ w1.cell? ⟨g,off + k,none⟩ = some (.int .i64 d):=fun k hk => by
    obtain ⟨h1,g,off,e,h2,h3⟩:=hav k (vs[k]'(by omega)) (List.getElem?_eq_getElem _)
    exact ⟨_,g,off,h1,e,by omega,(b1.cell (p:=⟨g,off + k,none⟩) (by show g < N0; omega)).trans h3⟩
  have x0:=B1.cell 0
  have x1:=B1.cell 1
  have x2:=B1.cell 2
  have hcl:=withinI_lt c (n:=3) (by omega)
  obtain ⟨cn,hcn⟩:∃ cn,cn = (c % ((3:Nat):Int)).toNat:=⟨_,rfl⟩
  rw [<- hcn] at WI hcl
  have sh:=Lib.hid (begun_shr a b)
  replace hN:=Lib.hid hN
  replace hw1:=Lib.hid hw1
  replace hcn:=Lib.hid hcn
  replace hvc:=Lib.hid hvc
  replace hav:=Lib.hid hav
  clear hP hl ha hb hc
  generalize hotN a = hot at *
  generalize warmN a b = warm at *
  refine callsIn_of_wp_marks Tryz.func10 rfl trivial ?_ rfl
  simp only [Tryz.ntmps10,List.size_toArray,List.length_cons,List.length_nil,Nat.reduceAdd,Nat.reduceSub,Array.replicate_succ,Array.replicate_zero,List.push_toArray,List.append_toArray,List.nil_append,List.cons_append]
  gi_upto_region 1 with fail
  rw [<- hN.out, <- hw1.out]
  gi_wp2_with (first | (refine ⟨trivial,fun _ => by omega,?_⟩; gi_at_call 16; refine (callsIn_wide.2 SC1.out).mono ?_) | (refine ⟨trivial,?_⟩; gi_at_call 16; refine (callsIn_wide.2 SC1.out).mono ?_) | fail)
  rintro e w2 ⟨b0,g,rfl,t,ht,W2,s,bs,Z,Ls,r,laid,told,act,mk,eb,eg,eh,ew,hB,hN2,T⟩
  obtain ⟨N1,hN1⟩:∃ N1,N1 = w1.heap.size:=⟨_,rfl⟩
  rw [<- hN1] at hB hN2 T z1
  have R2:Rst N1 w1 w2 W2 s Ls r laid told act:=⟨bs,Z,Ls,mk,T.wat,T.laid_,hB,hN2⟩
  have hla:laid.length <= 900:=by have:=T.la; omega
  have sh2:=T.sh
  obtain ⟨V,hV⟩:∃ V,V = w2.heap.size:=⟨_,rfl⟩
  have two:∀ b,Two W2.L W2.gl b -> N1 <= b /\ b < V:=fun b e => by
    rcases e with e | e
    · exact ⟨T.wat.base .set b (by rw [e]; exact ⟨.bytes,rfl⟩),by rw [hV]; exact T.wat.lt .set b (by rw [e]; exact ⟨.bytes,rfl⟩)⟩
    · exact ⟨T.wat.base .queue b (.inr e),by rw [hV]; exact T.wat.lt .queue b (.inr e)⟩
  have foot:∀ i b,W2.foot qc s i b -> b < V:=fun i b e => by rw [hV]; exact T.wat.lt i b e
  obtain ⟨w4,hw4⟩:∃ w4,w4 = (w2.alloc (.cells #[.pointer (some ⟨b0,0,none⟩)] 23)).alloc (.cells #[.int .i64 (cn:Int)] 3):=⟨_,rfl⟩
  obtain ⟨w3,hw3⟩:∃ w3,w3 = w2.alloc (.cells #[.pointer (some ⟨b0,0,none⟩)] 23):=⟨_,rfl⟩
  have b24:Below w2.heap.size w2 w4:=by rw [hw4]; exact ((Below.refl _ _).alloc (Nat.le_refl _) _).alloc (by rw [World.size_alloc]; omega) _
  have b23:Below w2.heap.size w2 w3:=by rw [hw3]; exact (Below.refl _ _).alloc (Nat.le_refl _) _
  have z4:w4.heap.size = V + 2:=by rw [hw4,World.size_alloc,World.size_alloc,hV]
  have BV3:Blk w3 V 23 #[.pointer (some ⟨b0,0,none⟩)]:=by rw [hw3,hV]; exact Blk.new w2 _ _
  have BV:Blk w4 V 23 #[.pointer (some ⟨b0,0,none⟩)]:=by rw [hw4,hV]; exact (Blk.new w2 _ _).alloc _
  have BC:Blk w4 (V + 1) 3 #[.int .i64 (cn:Int)]:=by rw [hw4,hV]; exact blk_new' (World.size_alloc _ _)
  have e34:w4 = w3.alloc (.cells #[.int .i64 (cn:Int)] 3):=by rw [hw4,hw3]
  have cV3:=BV3.cell 0
  have x3:w3.cell? ⟨N0,3,none⟩ = some (.int .i64 c):=((hB.trans (b23.mono (by rw [<- hV] at hN2 ⊢; exact hN2))).cell (p:=⟨N0,3,none⟩) (by show N0 < N1; omega)).trans (B1.cell 3)
  have cV:=BV.cell 0
  have cC:=BC.cell 0
  have y2:=(R2.below b24).cells.2.2
  rw [eb,eg] at y2
  unfold ptrO at y2
  have z3:w3.heap.size = V + 1:=by rw [hw3,World.size_alloc,hV]
  have WLK0:=walk_nil
  have WLK:=Lib.hid (fun w => walkC0 w g (cn:Int))
  have b14:Below N1 w1 w4:=hB.trans (b24.mono (by rw [<- hV] at hN2 ⊢; exact hN2))
  have hVN:N1 <= V:=by rw [hV]; exact hN2
  replace R2:=Lib.hid R2
  replace b24:=Lib.hid b24
  replace b14:=Lib.hid b14
  replace two:=Lib.hid two
  replace foot:=Lib.hid foot
  replace hV:=Lib.hid hV
  replace hw4:=Lib.hid hw4
  replace hw3:=Lib.hid hw3
  replace e34:=Lib.hid e34
  replace z3:=Lib.hid z3
  replace z4:=Lib.hid z4
  replace z1:=Lib.hid z1
  replace hN1:=Lib.hid hN1
  replace eb:=Lib.hid eb
  replace eg:=Lib.hid eg
  replace BV:=Lib.hid BV
  replace BC:=Lib.hid BC
  replace B1:=Lib.hid B1
  replace R1:=Lib.hid R1
  have hB1:=Lib.hid b1
  clear SC1 T hB hN2 BV3 b23 eh ew b1 x0 x1 x2
  gi_upto_region 2 with fail
  rw [<- hV.out, <- hw3.out]
  gi_wp2_with (first | (refine ⟨trivial,fun _ => by omega,?_⟩; gi_at_call 31; refine (callsIn_wide.2 (WI.out _)).mono ?_; rintro e w' ⟨rfl,rfl⟩) | (refine ⟨trivial,?_⟩; gi_at_call 31; refine (callsIn_wide.2 (WI.out _)).mono ?_; rintro e w' ⟨rfl,rfl⟩) | fail)
  rw [z3.out, <- e34.out]
  clear x3 cV3
  refine region_quiet_tailR 5 (by kernel_rfl) (by kernel_rfl) (by kernel_rfl) ?_
  simp only [List.take_succ_cons,List.take_zero,List.drop_succ_cons,List.drop_zero]
  iterate 5 (quiet_step_in (fail))
  refine wpQuietIn_nil ?_
  rintro _ ⟨nq,rfl⟩
  obtain ⟨wd,hwd⟩:∃ wd,wd = w4.drewN nq:=⟨_,rfl⟩
  rw [<- hwd]
  have bd:Below w4.heap.size w4 wd:=by rw [hwd]; exact below_drewN (Below.refl _ _) _
  have zd:wd.heap.size = V + 2:=by rw [hwd]; exact z4.out
  obtain ⟨w6,hw6⟩:∃ w6,w6 = (wd.alloc (.cells #[.pointer (some ⟨g,0,none⟩)] 25)).alloc (.cells #[.int .i64 (cn:Int)] 3):=⟨_,rfl⟩
  have bd6:Below wd.heap.size wd w6:=by rw [hw6]; exact ((Below.refl _ _).alloc (Nat.le_refl _) _).alloc (by rw [World.size_alloc]; omega) _
  have z6:w6.heap.size = V + 4:=by rw [hw6,World.size_alloc,World.size_alloc,zd]
  have Bl:Blk w6 (V + 2) 25 #[.pointer (some ⟨g,0,none⟩)]:=by rw [hw6, <- zd]; exact (Blk.new wd _ _).alloc _
  have Bx:Blk w6 (V + 3) 3 #[.int .i64 (cn:Int)]:=by rw [hw6]; exact blk_new' (by rw [World.size_alloc,zd])
  have b46:Below w4.heap.size w4 w6:=bd.trans (bd6.mono bd.size)
  have b26:Below w2.heap.size w2 w6:=b24.out.trans (b46.mono b24.out.size)
  have b16:Below N1 w1 w6:=b14.out.trans (b46.mono (by have:=z4.out; omega))
  have R6:=R2.out.below b26
  have CE:∀ v,Only (fun b => Two W2.L W2.gl b \/ w6.heap.size <= b) w6 v -> v.cell? ⟨N0,4,none⟩ = some (.slice Av vc cv) /\ Boxed v (N0 + 1) 4 (.bool false) /\ v.cell? ⟨V,0,none⟩ = some (.pointer (some ⟨b0,0,none⟩)) /\ v.cell? ⟨V + 1,0,none⟩ = some (.int .i64 (cn:Int)) /\ v.cell? ⟨V + 2,0,none⟩ = some (.pointer (some ⟨g,0,none⟩)) /\ v.cell? ⟨V + 3,0,none⟩ = some (.int .i64 (cn:Int)) /\
      ∀ k,k < vc -> ∃ d g off,Cls.In d /\ Av = some ⟨g,off,none⟩ /\ g < N0 /\ v.cell? ⟨g,off + k,none⟩ = some (.int .i64 d):=fun v o => by
    have ob:∀ p,p < N1 \/ V <= p /\ p < V + 4 -> v.heap[p]? = w6.heap[p]?:=fun p hp => o.block p (by omega) (by
      rintro (e | e)
      · have:=two.out p e; omega
      · omega)
    have o1:∀ p,p < N1 -> v.heap[p]? = w1.heap[p]?:=fun p hp => (ob p (.inl hp)).trans (b16.block p hp)
    refine ⟨(World.cell?_of_block (a:=⟨N0,4,none⟩) (o1 N0 (by have:=z1.out; omega))).trans (B1.out.cell 4),(o1 (N0 + 1) (by have:=z1.out; omega)).trans R1.out,(World.cell?_of_block (a:=⟨V,0,none⟩) (ob V (by omega))).trans ((b46.cell (p:=⟨V,0,none⟩) BV.out.lt).trans (BV.out.cell 0)),(World.cell?_of_block (a:=⟨V + 1,0,none⟩) (ob (V + 1) (by omega))).trans ((b46.cell (p:=⟨V + 1,0,none⟩) BC.out.lt).trans (BC.out.cell 0)),(World.cell?_of_block (a:=⟨V + 2,0,none⟩) (ob (V + 2) (by omega))).trans (Bl.cell 0),(World.cell?_of_block (a:=⟨V + 3,0,none⟩) (ob (V + 3) (by omega))).trans (Bx.cell 0),fun k hk => ?_⟩
    obtain ⟨d,g9,off,h1,h2,h3,h4⟩:=hav.out k hk
    exact ⟨d,g9,off,h1,h2,h3,(World.cell?_of_block (a:=⟨g9,off + k,none⟩) (o1 g9 (by have:=z1.out; omega))).trans h4⟩
  replace b16:=Lib.hid b16
  replace CE:=Lib.hid CE
  replace R6:=Lib.hid R6
  replace hw6:=Lib.hid hw6
  replace zd:=Lib.hid zd
  clear hwd bd bd6 Bl Bx b46 b26 b24 cV cC y2 R2 BV BC B1 R1 hav z4 e34 hw4 hw3 z3
  gi_wp2_with (first | (refine ⟨trivial,fun _ => by omega,?_⟩; gi_at_call 34; refine (callsIn_wide.2 (WLK.out _)).mono ?_; rintro e w' ⟨rfl,rfl⟩) | (refine ⟨trivial,?_⟩; gi_at_call 34; refine (callsIn_wide.2 (WLK.out _)).mono ?_; rintro e w' ⟨rfl,rfl⟩) | fail)
  rw [<- hw6.out,zd.out]
  simp only [Nat.add_assoc,Nat.reduceAdd]
  clear WLK
  refine wpIn_loop (fun a' wr => ∃ (u6 u7 u8 u9 u10 u29 u30 u31 u32 u33 u34 u35 u36 u37 u38 u39 u40 u41 u42 u43 u44 u45 u46 u47 u48 u49 u50 u51 u52 u53 u54 u55 u56 u57 u58 u59 u60 u61 u62 u63 u64 u65 u66 u67 u68 u69 u70 u71 u72 u73 u74 u75 u76 u77 u78 u79 u80 u81 u82 u83 u84 u85 u86 u87 u88 u89 u90 u91 u92 u93 u94 u95 u96 u97 u98 u99 u100 u101 u102 u103 u104 u105 u106 u107 u108 u109 u110 u111 u112:Value) (ds:List Deferred),(∃ (k:Nat),u6 = .int .i64 (k:Int) /\ k <= 2 /\ Hid (Rst N1 w1 wr W2 s Ls r laid told act) /\ Hid (Only (fun b => Two W2.L W2.gl b \/ w6.heap.size <= b) w6 wr) /\ Hid (DefK (V + 4) wr k ds)) /\ a' = { tmps:=#[.agg #[.int .i64 a,.int .i64 b,.slice a0 l.length cap,.int .i64 c,.slice Av vc cv],.pointer (some ⟨N0,0,none⟩),.pointer (some ⟨N0 + 1,0,none⟩),.pointer (some ⟨V,0,none⟩),.pointer (some ⟨V + 1,0,none⟩),.func (.func 71) #[] #[.pointer (some ⟨V + 2,0,none⟩),.pointer (some ⟨V + 3,0,none⟩)],u6,u7,u8,u9,u10,.pointer (some ⟨N0,0,none⟩),.agg #[.int .i64 a,.int .i64 b],.pointer (some ⟨N0,2,none⟩),.slice a0 l.length cap,.pointer (some ⟨b0,0,none⟩),.pointer (some ⟨b0,0,none⟩),.bool false,.pointer (some ⟨N0,3,none⟩),.int .i64 c,.int .i64 (cn:Int),.pointer (some ⟨b0,0,none⟩),.pointer (some ⟨b0,0,none⟩),.pointer (some ⟨b0,2,none⟩),.pointer (some ⟨g,0,none⟩),.int .i64 (cn:Int),.func (.func 71) #[] #[.pointer (some ⟨V + 2,0,none⟩),.pointer (some ⟨V + 3,0,none⟩)],.func (.func 71) #[] #[.pointer (some ⟨V + 2,0,none⟩),.pointer (some ⟨V + 3,0,none⟩)],.bool false,u29,u30,u31,u32,u33,u34,u35,u36,u37,u38,u39,u40,u41,u42,u43,u44,u45,u46,u47,u48,u49,u50,u51,u52,u53,u54,u55,u56,u57,u58,u59,u60,u61,u62,u63,u64,u65,u66,u67,u68,u69,u70,u71,u72,u73,u74,u75,u76,u77,u78,u79,u80,u81,u82,u83,u84,u85,u86,u87,u88,u89,u90,u91,u92,u93,u94,u95,u96,u97,u98,u99,u100,u101,u102,u103,u104,u105,u106,u107,u108,u109,u110,u111,u112],defers:=ds }) (fun a' _ => 2 - (intOf (a'.tmps.getD 6 undef)).toNat) ?start ?round
  case start =>
    (repeat apply Exists.intro)
    refine ⟨?rel0,rfl⟩
    exact ⟨0,rfl,by omega,R6,Lib.hid (Only.refl _ _),Lib.hid (.inl ⟨rfl,rfl⟩)⟩
  case round =>
    intro _ wr hinv
    obtain ⟨u6,hinv⟩:=hinv
    obtain ⟨u7,hinv⟩:=hinv
    obtain ⟨u8,hinv⟩:=hinv
    obtain ⟨u9,hinv⟩:=hinv
    obtain ⟨u10,hinv⟩:=hinv
    obtain ⟨u29,hinv⟩:=hinv
    obtain ⟨u30,hinv⟩:=hinv
    obtain ⟨u31,hinv⟩:=hinv
    obtain ⟨u32,hinv⟩:=hinv
    obtain ⟨u33,hinv⟩:=hinv
    obtain ⟨u34,hinv⟩:=hinv
    obtain ⟨u35,hinv⟩:=hinv
    obtain ⟨u36,hinv⟩:=hinv
    obtain ⟨u37,hinv⟩:=hinv
    obtain ⟨u38,hinv⟩:=hinv
    obtain ⟨u39,hinv⟩:=hinv
    obtain ⟨u40,hinv⟩:=hinv
    obtain ⟨u41,hinv⟩:=hinv
    obtain ⟨u42,hinv⟩:=hinv
    obtain ⟨u43,hinv⟩:=hinv
    obtain ⟨u44,hinv⟩:=hinv
    obtain ⟨u45,hinv⟩:=hinv
    obtain ⟨u46,hinv⟩:=hinv
    obtain ⟨u47,hinv⟩:=hinv
    obtain ⟨u48,hinv⟩:=hinv
    obtain ⟨u49,hinv⟩:=hinv
    obtain ⟨u50,hinv⟩:=hinv
    obtain ⟨u51,hinv⟩:=hinv
    obtain ⟨u52,hinv⟩:=hinv
    obtain ⟨u53,hinv⟩:=hinv
    obtain ⟨u54,hinv⟩:=hinv
    obtain ⟨u55,hinv⟩:=hinv
    obtain ⟨u56,hinv⟩:=hinv
    obtain ⟨u57,hinv⟩:=hinv
    obtain ⟨u58,hinv⟩:=hinv
    obtain ⟨u59,hinv⟩:=hinv
    obtain ⟨u60,hinv⟩:=hinv
    obtain ⟨u61,hinv⟩:=hinv
    obtain ⟨u62,hinv⟩:=hinv
    obtain ⟨u63,hinv⟩:=hinv
    obtain ⟨u64,hinv⟩:=hinv
    obtain ⟨u65,hinv⟩:=hinv
    obtain ⟨u66,hinv⟩:=hinv
    obtain ⟨u67,hinv⟩:=hinv
    obtain ⟨u68,hinv⟩:=hinv
    obtain ⟨u69,hinv⟩:=hinv
    obtain ⟨u70,hinv⟩:=hinv
    obtain ⟨u71,hinv⟩:=hinv
    obtain ⟨u72,hinv⟩:=hinv
    obtain ⟨u73,hinv⟩:=hinv
    obtain ⟨u74,hinv⟩:=hinv
    obtain ⟨u75,hinv⟩:=hinv
    obtain ⟨u76,hinv⟩:=hinv
    obtain ⟨u77,hinv⟩:=hinv
    obtain ⟨u78,hinv⟩:=hinv
    obtain ⟨u79,hinv⟩:=hinv
    obtain ⟨u80,hinv⟩:=hinv
    obtain ⟨u81,hinv⟩:=hinv
    obtain ⟨u82,hinv⟩:=hinv
    obtain ⟨u83,hinv⟩:=hinv
    obtain ⟨u84,hinv⟩:=hinv
    obtain ⟨u85,hinv⟩:=hinv
    obtain ⟨u86,hinv⟩:=hinv
    obtain ⟨u87,hinv⟩:=hinv
    obtain ⟨u88,hinv⟩:=hinv
    obtain ⟨u89,hinv⟩:=hinv
    obtain ⟨u90,hinv⟩:=hinv
    obtain ⟨u91,hinv⟩:=hinv
    obtain ⟨u92,hinv⟩:=hinv
    obtain ⟨u93,hinv⟩:=hinv
    obtain ⟨u94,hinv⟩:=hinv
    obtain ⟨u95,hinv⟩:=hinv
    obtain ⟨u96,hinv⟩:=hinv
    obtain ⟨u97,hinv⟩:=hinv
    obtain ⟨u98,hinv⟩:=hinv
    obtain ⟨u99,hinv⟩:=hinv
    obtain ⟨u100,hinv⟩:=hinv
    obtain ⟨u101,hinv⟩:=hinv
    obtain ⟨u102,hinv⟩:=hinv
    obtain ⟨u103,hinv⟩:=hinv
    obtain ⟨u104,hinv⟩:=hinv
    obtain ⟨u105,hinv⟩:=hinv
    obtain ⟨u106,hinv⟩:=hinv
    obtain ⟨u107,hinv⟩:=hinv
    obtain ⟨u108,hinv⟩:=hinv
    obtain ⟨u109,hinv⟩:=hinv
    obtain ⟨u110,hinv⟩:=hinv
    obtain ⟨u111,hinv⟩:=hinv
    obtain ⟨u112,hinv⟩:=hinv
    obtain ⟨ds,hinv⟩:=hinv
    obtain ⟨⟨k,hu6,hk2,RR,oR,DK⟩,ha⟩:=hinv
    subst ha
    subst hu6
    clear R6
    try dsimp only
    obtain ⟨q4,q5,q6,q7,q8,q9,qv⟩:=CE.out wr oR.out
    by_cases hk:k < 2
    · have d1:decide ((k:Int) < 2) = true:=decide_eq_true (by omega)
      have d1':decide (k < 2) = true:=decide_eq_true hk
      have q1:IntKind.i64.wrap ((k:Int) + 1) = (k:Int) + 1:=IntWalk.i64_in _ (by omega)
      obtain ⟨row,hrl,RC,RS⟩:=RR.out.rowV eg.out hla (cn:Int)
      have RC:=RC wr (Below.refl _ _)
      rw [eb.out] at RC
      obtain ⟨K,hK⟩:∃ K,K = row.length:=⟨_,rfl⟩
      rw [<- hK] at RC hrl
      have szr:V + 4 <= wr.heap.size:=by have:=oR.out.size; rw [<- z6]; exact this
      replace RC:=Lib.hid RC
      replace RS:=Lib.hid RS
      replace hK:=Lib.hid hK
      replace szr:=Lib.hid szr
      gi_wp2_with (first | (refine ⟨trivial,fun _ => by omega,?_⟩; gi_at_call 22; refine (callsIn_wide.2 RC.out).mono ?_; rintro e w7 ⟨b7,A,cp,rfl,own7⟩) | (refine ⟨trivial,?_⟩; gi_at_call 22; refine (callsIn_wide.2 RC.out).mono ?_; rintro e w7 ⟨b7,A,cp,rfl,own7⟩) | fail)
      obtain ⟨B7,hB7⟩:∃ B7,B7 = w7.heap.size:=⟨_,rfl⟩
      have sz7:V + 4 <= B7:=by have:=b7.size; have:=szr.out; omega
      obtain ⟨w8,hw8⟩:∃ w8,w8 = ((w7.alloc (.cells #[.slice A K cp] 55)).alloc (.cells #[.int .i64 0] 3)).alloc (.cells #[.bool false] 4):=⟨_,rfl⟩
      have b78:Below w7.heap.size w7 w8:=by rw [hw8]; exact (((Below.refl _ w7).alloc (Nat.le_refl _) _).alloc (by rw [World.size_alloc]; omega) _).alloc (by rw [World.size_alloc,World.size_alloc]; omega) _
      obtain ⟨D,hD⟩:∃ D,D = w8.heap.size:=⟨_,rfl⟩
      have z8:D <= B7 + 3 /\ B7 + 3 <= D:=by
        have:D = B7 + 3:=by rw [hD,hw8,World.size_alloc,World.size_alloc,World.size_alloc,hB7]
        omega
      have Bw:Blk w8 B7 55 #[.slice A K cp]:=by rw [hw8,hB7]; exact ((Blk.new w7 _ _).alloc _).alloc _
      have Bn:Boxed w8 (B7 + 1) 3 (.int .i64 0):=by rw [hw8,hB7]; exact (blk_new' (World.size_alloc _ _)).alloc _
      have Bs:Boxed w8 (B7 + 2) 4 (.bool false):=by rw [hw8,hB7]; exact blk_new' (by rw [World.size_alloc,World.size_alloc])
      have br8:Below wr.heap.size wr w8:=b7.trans (b78.mono b7.size)
      have o68:Only (fun b => Two W2.L W2.gl b \/ w6.heap.size <= b) w6 w8:=oR.out.below br8 oR.out.size
      have R8:=RR.out.below br8
      obtain ⟨q4,q5,q6,q7,q8,q9,qv⟩:=CE.out w8 o68
      have hseq:=RS.out w8 br8 (20 - 1) (by omega) (V + 2) (V + 3) q8 q9
      rw [<- hK.out, <- hD] at hseq
      have nb1:¬ w8.heap[B7 + 1]? = some (.deferred (some [])):=fun e => by have:=Bn.symm.trans e; cases this
      have nb2:¬ w8.heap[B7 + 2]? = some (.deferred (some [])):=fun e => by have:=Bs.symm.trans e; cases this
      have DK8:DefK (V + 4) w8 k ds /\ (∀ D1,V + 4 <= D1 -> wr.heap[D1]? = some (.deferred (some [])) -> D1 < B7):=by
        have hb:∀ D1,wr.heap[D1]? = some (.deferred (some [])) -> w8.heap[D1]? = some (.deferred (some [])) /\ D1 < B7:=fun D1 h => ⟨(br8.block D1 (heap_lt h)).trans h,by have:=heap_lt h; have:=b7.size; omega⟩
        refine ⟨?_,fun D1 _ h => (hb D1 h).2⟩
        rcases DK.out with ⟨e1,e2⟩ | ⟨e1,D1,e2,e3,e4⟩ | ⟨e1,D1,D2,e2,e3,e4,e5,e6,e7⟩
        · exact .inl ⟨e1,e2⟩
        · exact .inr (.inl ⟨e1,D1,e2,e3,(hb D1 e4).1⟩)
        · exact .inr (.inr ⟨e1,D1,D2,e2,e3,e4,e5,(hb D1 e6).1,(hb D2 e7).1⟩)
      have els:∀ (i z:Nat),row[i]? = some z -> ∃ g,A = some ⟨g,0,none⟩ /\ V + 4 <= g /\ g < B7 /\ w8.cell? ⟨g,i,none⟩ = some (.int .u64 (z:Int)):=fun i z hz => by
        obtain ⟨g,c',hv,u⟩:=own_uvt own7 hz
        injection hv with hv1 hv2 hv3
        have hgl:=own_blockN own7 (b:=g) (by rw [hv1]; rfl)
        have hgb:=own_base own7 (b:=g) (by rw [hv1]; rfl)
        exact ⟨g,hv1,by have:=szr.out; omega,by omega,(b78.cell (p:=⟨g,i,none⟩) hgl).trans u⟩
      have CX:∀ v,Only (fun b => b = B7 + 1 \/ b = B7 + 2 \/ Two W2.L W2.gl b \/ D <= b) w8 v -> v.cell? ⟨N0,4,none⟩ = some (.slice Av vc cv) /\ Boxed v (N0 + 1) 4 (.bool false) /\ v.cell? ⟨V,0,none⟩ = some (.pointer (some ⟨b0,0,none⟩)) /\ v.cell? ⟨V + 1,0,none⟩ = some (.int .i64 (cn:Int)) /\ v.cell? ⟨B7,0,none⟩ = some (.slice A K cp) /\
          (∀ k,k < vc -> ∃ d g off,Cls.In d /\ Av = some ⟨g,off,none⟩ /\ v.cell? ⟨g,off + k,none⟩ = some (.int .i64 d)) /\ (∀ (i z:Nat),row[i]? = some z -> ∃ g,A = some ⟨g,0,none⟩ /\ v.cell? ⟨g,i,none⟩ = some (.int .u64 (z:Int))) /\ Only (fun b => Two W2.L W2.gl b \/ w6.heap.size <= b) w6 v /\ D <= v.heap.size:=fun v o => by
        have o2:Only (fun b => Two W2.L W2.gl b \/ w6.heap.size <= b) w6 v:=o68.trans o fun b hb e => by
          rcases e with e | e | e | e
          · omega
          · omega
          · exact .inl e
          · omega
        obtain ⟨p4,p5,p6,p7,p8,p9,pv⟩:=CE.out v o2
        have nS:∀ p,V + 4 <= p -> p < B7 + 1 -> v.heap[p]? = w8.heap[p]?:=fun p h1 h2 => o.block p (by omega) (by
          rintro (e | e | e | e)
          · omega
          · omega
          · have:=(two.out p e).2; omega
          · omega)
        refine ⟨p4,p5,p6,p7,(World.cell?_of_block (a:=⟨B7,0,none⟩) (nS B7 (by omega) (by omega))).trans (Bw.cell 0),fun k hk => ?_,fun i z hz => ?_,o2,by rw [hD]; exact o.size⟩
        · obtain ⟨d,g,off,h1,h2,h3,h4⟩:=pv k hk
          exact ⟨d,g,off,h1,h2,h4⟩
        · obtain ⟨g,h1,h2,h3,h4⟩:=els i z hz
          exact ⟨g,h1,(World.cell?_of_block (a:=⟨g,i,none⟩) (nS g h2 (by omega))).trans h4⟩
      have Dlo:V + 4 <= D:=by omega
      replace CX:=Lib.hid CX
      replace DK8:=Lib.hid DK8
      replace hw8:=Lib.hid hw8
      replace hD:=Lib.hid hD
      replace hB7:=Lib.hid hB7
      replace R8:=Lib.hid R8
      replace hKr:=hK
      have ftD:∀ i b,W2.foot qc s i b -> b < D:=fun i b e => by have:=foot.out i b e; omega
      clear RC RS own7 b7 b78 Bw br8 o68 els RR oR DK q4 q5 q6 q7 q8 q9 qv
      gi_upto_region 14 with fail
      rw [<- hw8.out, <- hB7.out]
      refine range_law (by omega) (gf:=71) (lb:=#[.pointer (some ⟨V + 2,0,none⟩),.pointer (some ⟨V + 3,0,none⟩)]) rfl (enters_of Tryz.func71 (by kernel_rfl) rfl) (by rw [<- hD.out]; exact hseq) (fun _ => rfl)
        (fun pre Wx => Boxed Wx (B7 + 1) 3 (.int .i64 (pre.length:Int)) /\ (Boxed Wx (B7 + 2) 4 (.bool false) /\ (Rst N1 w1 Wx W2 s Ls r laid told act /\ (Only (fun b => b = B7 + 1 \/ b = B7 + 2 \/ Two W2.L W2.gl b \/ D <= b) w8 Wx /\ pre.map (·.1) <+: row))))
        (fun c' pre Wx => (c' = .ret /\ ¬ pre.map (·.1) <+: row) \/ (c' = .exit 2 /\ (Boxed Wx (B7 + 2) 4 (.bool true) /\ (Rst N1 w1 Wx W2 s Ls r laid told act /\ Only (fun b => b = B7 + 1 \/ b = B7 + 2 \/ Two W2.L W2.gl b \/ D <= b) w8 Wx))))
        (OwnFrom.and (Own.from (boxed_own (B7 + 1) 3 fun pre:List HU => .int .i64 (pre.length:Int)) _) (OwnFrom.and (Own.from (boxed_own (B7 + 2) 4 fun _:List HU => .bool false) _) (OwnFrom.and (rst_own (by rw [<- hD.out]; exact ftD) (by rw [<- hD.out]; omega)) (OwnFrom.and (own_s8 (by rw [<- hD.out]; exact Nat.le_refl _)) (ownFrom_pure _ _)))))
        (fun c' => ownFrom_or8 (OwnFrom.and (ownFrom_pure _ _) (ownFrom_pure _ _)) (OwnFrom.and (ownFrom_pure _ _) (OwnFrom.and (Own.from (boxed_own (B7 + 2) 4 fun _:List HU => .bool true) _) (OwnFrom.and (rst_own (by rw [<- hD.out]; exact ftD) (by rw [<- hD.out]; omega)) (own_s8 (by rw [<- hD.out]; exact Nat.le_refl _))))))
        ⟨Bn,Bs,R8.out,Only.refl _ _,List.nil_prefix⟩
        (fun y => { tmps:=#[.agg #[.int .i64 a,.int .i64 b,.slice a0 l.length cap,.int .i64 c,.slice Av vc cv],.pointer (some ⟨N0,0,none⟩),.pointer (some ⟨N0 + 1,0,none⟩),.pointer (some ⟨V,0,none⟩),.pointer (some ⟨V + 1,0,none⟩),.func (.func 71) #[] #[.pointer (some ⟨V + 2,0,none⟩),.pointer (some ⟨V + 3,0,none⟩)],.int .i64 (k:Int),.pointer (some ⟨B7,0,none⟩),.pointer (some ⟨B7 + 1,0,none⟩),.pointer (some ⟨B7 + 2,0,none⟩),.int .u64 (y.1:Int),.pointer (some ⟨N0,0,none⟩),.agg #[.int .i64 a,.int .i64 b],.pointer (some ⟨N0,2,none⟩),.slice a0 l.length cap,.pointer (some ⟨b0,0,none⟩),.pointer (some ⟨b0,0,none⟩),.bool false,.pointer (some ⟨N0,3,none⟩),.int .i64 c,.int .i64 (cn:Int),.pointer (some ⟨b0,0,none⟩),.pointer (some ⟨b0,0,none⟩),.pointer (some ⟨b0,2,none⟩),.pointer (some ⟨g,0,none⟩),.int .i64 (cn:Int),.func (.func 71) #[] #[.pointer (some ⟨V + 2,0,none⟩),.pointer (some ⟨V + 3,0,none⟩)],.func (.func 71) #[] #[.pointer (some ⟨V + 2,0,none⟩),.pointer (some ⟨V + 3,0,none⟩)],.bool false,.int .i64 (k:Int),.bool true,u31,u32,.pointer (some ⟨b0,0,none⟩),.int .i64 (cn:Int),.slice A K cp,.func (.func 71) #[] #[.pointer (some ⟨V + 2,0,none⟩),.pointer (some ⟨V + 3,0,none⟩)],.int .u64 (y.1:Int),u38,u39,u40,u41,u42,u43,u44,u45,u46,u47,u48,u49,u50,u51,u52,u53,u54,u55,u56,u57,u58,u59,u60,u61,u62,u63,u64,u65,u66,u67,u68,u69,u70,u71,u72,u73,u74,u75,u76,u77,u78,u79,u80,u81,u82,u83,u84,u85,u86,u87,u88,u89,u90,u91,u92,u93,u94,u95,u96,u97,u98,u99,u100,u101,u102,u103,u104,u105,u106,u107,u108,u109,u110,u111,u112],defers:=[] }) ?assign ?body ?done ?stop
      case assign =>
        intro l' y W' K' hK'
        gi_wp2
        exact hK'
      case body =>
        rw [<- hD.out]
        rintro l' pre y Wx hl1 hl2 ⟨rec,hrec⟩ ⟨bn,bs',RX,oX,hp⟩ hlt
        obtain ⟨n,hn⟩:∃ n,n = pre.length:=⟨_,rfl⟩
        rw [<- hn] at bn hlt
        obtain ⟨p4,p5,p6,p7,p9,pv,pe,oX6,hDx⟩:=CX.out Wx oX
        have cn8:=bn.cell
        have fn8:=bn.frozen
        have cs8:=bs'.cell
        have fs8:=bs'.frozen
        have c5:=p5.cell
        have f5:=p5.frozen
        have i0:(0:Int) <= (n:Int):=by omega
        have i1:(n:Int) < (K:Int):=by omega
        have g1:decide ((K:Int) <= (n:Int)) = false:=decide_eq_false (by omega)
        have g1':decide (K <= n) = false:=decide_eq_false (by omega)
        have q2:IntKind.i64.wrap ((n:Int) + 1) = ((n + 1:Nat):Int):=by rw [IntWalk.i64_in _ (by omega)]; omega
        obtain ⟨z,hz⟩:∃ z,row[n]? = some z:=⟨row[n]'(by rw [<- hKr.out]; exact hlt),List.getElem?_eq_getElem _⟩
        obtain ⟨g9,rfl,cz⟩:=pe n z hz
        clear hrec pe
        by_cases hyz:y.1 = z
        · have e1:((y.1:Int) == (z:Int)) = true:=by rw [beq_iff_eq]; omega
          have e2:((y.1:Int) != (z:Int)) = false:=by rw [bne_eq_false_iff_eq]; omega
          have e3:decide ((y.1:Int) = (z:Int)) = true:=decide_eq_true (by omega)
          have hyl:=y.2
          have hpre:(pre ++ [y]).map (·.1) <+: row:=by
            rw [List.map_append]
            exact prefix_snoc hp (by rw [List.length_map, <- hn,hz, <- hyz])
          obtain ⟨n1,hn1⟩:∃ n1,n1 = n + 1:=⟨_,rfl⟩
          rw [<- hn1] at q2
          have hn2:(pre ++ [y]).length = n1:=by rw [List.length_append,List.length_singleton, <- hn,hn1]
          obtain ⟨X1,hX1⟩:∃ X1,X1 = Wx.setCell ⟨B7 + 1,0,none⟩ (.int .i64 (n1:Int)):=⟨_,rfl⟩
          have o1:Only (fun b => b = B7 + 1 \/ b = B7 + 2 \/ Two W2.L W2.gl b) Wx X1:=by rw [hX1]; exact only_cell1 Wx (B7 + 1) 0 _ (.inl rfl)
          have bn1:Boxed X1 (B7 + 1) 3 (.int .i64 (n1:Int)):=by rw [hX1]; exact bn.set _
          have bs1:Boxed X1 (B7 + 2) 4 (.bool false):=by rw [hX1]; exact bs'.other (by omega) _
          have R1x:Rst N1 w1 X1 W2 s Ls r laid told act:=RX.only (S:=(· = B7 + 1)) (by rw [hX1]; exact only_cell1 (S:=(· = B7 + 1)) Wx (B7 + 1) 0 _ rfl) (fun i b hb e => by have:=foot.out i b hb; omega) (fun b e => by omega)
          have kp:∀ X3,Only (fun b => b = B7 + 1 \/ b = B7 + 2 \/ Two W2.L W2.gl b) Wx X3 -> KeepP D Wx X3 /\ X3.heap[l']? = Wx.heap[l']? /\ Only (fun b => b = B7 + 1 \/ b = B7 + 2 \/ Two W2.L W2.gl b \/ D <= b) w8 X3:=fun X3 o => by
            refine ⟨KeepP.only o fun b' o hb' _ _ e => ?_,o.block l' hl2 (fun e => ?_),oX.trans o fun b _ e => ?_⟩
            · rcases e with e | e | e
              · omega
              · omega
              · have:=(two.out _ e).2; omega
            · rcases e with e | e | e
              · omega
              · omega
              · have:=(two.out _ e).2; omega
            · rcases e with e | e | e
              · exact .inl e
              · exact .inr (.inl e)
              · exact .inr (.inr (.inl e))
          have fin:∀ X3,Only (fun b => b = B7 + 1 \/ b = B7 + 2 \/ Two W2.L W2.gl b) Wx X3 -> Boxed X3 (B7 + 1) 3 (.int .i64 (n1:Int)) -> Boxed X3 (B7 + 2) 4 (.bool false) -> Rst N1 w1 X3 W2 s Ls r laid told act -> (KeepP D Wx X3 /\ X3.heap[l']? = Wx.heap[l']? /\ (Boxed X3 (B7 + 1) 3 (.int .i64 ((pre ++ [y]).length:Int)) /\ (Boxed X3 (B7 + 2) 4 (.bool false) /\ (Rst N1 w1 X3 W2 s Ls r laid told act /\ (Only (fun b => b = B7 + 1 \/ b = B7 + 2 \/ Two W2.L W2.gl b \/ D <= b) w8 X3 /\ (pre ++ [y]).map (·.1) <+: row))))):=fun X3 o c1 c2 r => by
            obtain ⟨k1,k2,k3⟩:=kp X3 o
            exact ⟨k1,k2,by rw [hn2]; exact c1,c2,r,k3,hpre⟩
          have finX:∀ X3,Only (fun b => b = B7 + 1 \/ b = B7 + 2 \/ Two W2.L W2.gl b) Wx X3 -> Boxed X3 (B7 + 2) 4 (.bool true) -> Rst N1 w1 X3 W2 s Ls r laid told act -> KeepP D Wx X3 /\ X3.heap[l']? = Wx.heap[l']? /\ (Boxed X3 (B7 + 2) 4 (.bool true) /\ (Rst N1 w1 X3 W2 s Ls r laid told act /\ Only (fun b => b = B7 + 1 \/ b = B7 + 2 \/ Two W2.L W2.gl b \/ D <= b) w8 X3)):=fun X3 o c2 r => by
            obtain ⟨k1,k2,k3⟩:=kp X3 o
            exact ⟨k1,k2,c2,r,k3⟩
          obtain ⟨r4,r5,r6,r7,r9,rv, -, -, -⟩:=CX.out X1 (kp X1 o1).2.2
          have cn1:=bn1.cell
          replace hX1:=Lib.hid hX1
          replace fin:=Lib.hid fin
          replace finX:=Lib.hid finX
          replace hyz:=Lib.hid hyz
          replace hn:=Lib.hid hn
          replace hz:=Lib.hid hz
          replace hn2:=Lib.hid hn2
          replace hn1:=Lib.hid hn1
          replace hpre:=Lib.hid hpre
          clear kp bn bs' RX oX hp p5 pv oX6
          gi_upto_region 19 with fail
          rw [<- hX1.out]
          clear cn8 fn8 cs8 fs8 c5 f5 p4 p6 p7 p9 cz hX1
          by_cases hv0:vc = 0
          · have h0:((vc:Int) == 0) = true:=by rw [beq_iff_eq]; omega
            have h0':decide ((vc:Int) = 0) = true:=decide_eq_true (by omega)
            have h0'':decide (vc = 0) = true:=decide_eq_true hv0
            have T:=Lib.hid (fin.out X1 o1 bn1 bs1 R1x)
            replace hv0:=Lib.hid hv0
            clear fin finX o1 bn1 bs1 R1x rv r5
            gi_wp2
            exact T.out
          · have h0:((vc:Int) == 0) = false:=by rw [beq_eq_false_iff_ne]; omega
            have h0':decide ((vc:Int) = 0) = false:=decide_eq_false (by omega)
            have h0'':decide (vc = 0) = false:=decide_eq_false hv0
            have hm:n1 % vc < vc:=Nat.mod_lt _ (by omega)
            obtain ⟨d,g10,off,hd,rfl,cd⟩:=rv (n1 % vc) hm
            have WD:=fun w => withinI (w:=w) d 6 hd (by omega) (by omega)
            have hol:=withinI_lt d (n:=6) (by omega)
            obtain ⟨o,hoe⟩:∃ o,o = (d % ((6:Nat):Int)).toNat:=⟨_,rfl⟩
            rw [<- hoe] at WD hol
            obtain ⟨m,hme⟩:∃ m,m = n1 % vc:=⟨_,rfl⟩
            rw [<- hme] at cd hm
            have er:Int.tmod (n1:Int) (vc:Int) = (m:Int):=by rw [hme]; exact (Int.ofNat_tmod n1 vc).symm
            have i3:(0:Int) <= (m:Int):=by omega
            have i4:(m:Int) < (vc:Int):=by omega
            replace WD:=Lib.hid WD
            replace hoe:=Lib.hid hoe
            replace hme:=Lib.hid hme
            replace o1:=Lib.hid o1
            replace bn1:=Lib.hid bn1
            replace bs1:=Lib.hid bs1
            replace R1x:=Lib.hid R1x
            clear rv r5
            gi_upto_region 20 with fail
            refine region_quiet_r (by kernel_rfl) (by kernel_rfl) (by kernel_rfl) ?_
            iterate 9 (quiet_step_in (fail))
            refine wpQuietIn_step (by intro _ _ _ _; trivial) (fun K' hK' => ?_)
            go_simp
            apply Exists.intro
            refine ⟨fun _ => CallsIn.quiet_of_same ((callsIn_wide.2 (WD.out _)).mono fun _ _ ⟨a,b⟩ => ⟨a,b.symm⟩),hK' _ ?_⟩
            clear hK' K'
            refine wpQuietIn_nil ?_
            rintro _ ⟨nq9,rfl⟩
            obtain ⟨X2,hX2⟩:∃ X2,X2 = X1.drewN nq9:=⟨_,rfl⟩
            rw [<- hX2]
            have b12:Below X1.heap.size X1 X2:=by rw [hX2]; exact below_drewN (Below.refl _ _) _
            have bn2:Boxed X2 (B7 + 1) 3 (.int .i64 (n1:Int)):=Base.Blk.below bn1.out b12 (Blk.lt bn1.out)
            have bs2:Boxed X2 (B7 + 2) 4 (.bool false):=Base.Blk.below bs1.out b12 (Blk.lt bs1.out)
            have R2x:=R1x.out.below b12
            have o2:Only (fun b => b = B7 + 1 \/ b = B7 + 2 \/ Two W2.L W2.gl b) Wx X2:=o1.out.below b12 o1.out.size
            have v0:=(b12.cell (p:=⟨V,0,none⟩) (World.block_lt_of_cell? X1 _ r6)).trans r6
            have v1:=(b12.cell (p:=⟨V + 1,0,none⟩) (World.block_lt_of_cell? X1 _ r7)).trans r7
            have v2:=R2x.cells.2.2
            rw [eb.out,eg.out] at v2
            unfold ptrO at v2
            have s2:=bs2.cell
            have sf2:=bs2.frozen
            have fin2:∀ X3,Rst N1 w1 X3 W2 s Ls r laid told act -> Only (Two W2.L W2.gl) X2 X3 -> (KeepP D Wx X3 /\ X3.heap[l']? = Wx.heap[l']? /\ (Boxed X3 (B7 + 1) 3 (.int .i64 ((pre ++ [y]).length:Int)) /\ (Boxed X3 (B7 + 2) 4 (.bool false) /\ (Rst N1 w1 X3 W2 s Ls r laid told act /\ (Only (fun b => b = B7 + 1 \/ b = B7 + 2 \/ Two W2.L W2.gl b \/ D <= b) w8 X3 /\ (pre ++ [y]).map (·.1) <+: row))))) /\ X3.cell? ⟨B7 + 2,0,none⟩ = some (.bool false):=fun X3 r o => by
              have nt:∀ p,V <= p -> p < X2.heap.size -> X3.heap[p]? = X2.heap[p]?:=fun p hp hl => o.block p hl (fun e => by have:=(two.out p e).2; omega)
              have c1:Boxed X3 (B7 + 1) 3 (.int .i64 (n1:Int)):=(nt _ (by omega) (Blk.lt bn2)).trans bn2
              have c2:Boxed X3 (B7 + 2) 4 (.bool false):=(nt _ (by omega) (Blk.lt bs2)).trans bs2
              exact ⟨fin.out X3 (o2.trans o fun b _ e => .inr (.inr e)) c1 c2 r,c2.cell⟩
            have VL:=R2x.leaveV eg.out y.1 hyl
            have VE:=R2x.enterV eg.out y.1 hyl
            have VH:=R2x.hitV eg.out y.1 hyl
            have VB:=fun X4 (b:Below X2.heap.size X2 X4) => (R2x.below b).balV eg.out sh2 (cn:Int)
            have tX:=fin2 X2 R2x (Only.refl _ _)
            have tS:=finX.out (X2.setCell ⟨B7 + 2,0,none⟩ (.bool true)) (o2.setCell (p:=⟨B7 + 2,0,none⟩) (fun _ => .inr (.inl rfl)) _) (bs2.set _) (R2x.only (only_cell1 (S:=(· = B7 + 2)) X2 (B7 + 2) 0 _ rfl) (fun i b hb e => by have:=foot.out i b hb; omega) (fun b e => by omega))
            have bt:=fun X4 X3 (b:Below X2.heap.size X2 X4) (o:Only (Two W2.L W2.gl) X4 X3) => (show Only (Two W2.L W2.gl) X2 X3 from (below_any b).trans o fun _ _ e => e)
            replace VL:=Lib.hid VL
            replace VE:=Lib.hid VE
            replace VH:=Lib.hid VH
            replace VB:=Lib.hid VB
            replace fin2:=Lib.hid fin2
            replace tX:=Lib.hid tX
            replace tS:=Lib.hid tS
            replace bt:=Lib.hid bt
            clear fin finX bn2 bs2 R2x o2 b12 r4 r6 r7 r9 cn1 bn1 bs1 R1x o1 hX2 cd er i3 i4 WD
            have ho6:o = 0 \/ o = 1 \/ o = 2 \/ o = 3 \/ o = 4 \/ o = 5:=by omega
            rcases ho6 with ho | ho | ho | ho | ho | ho
            · have s1:((o:Int) == 1) = false:=by rw [beq_eq_false_iff_ne]; omega
              have t1:decide ((o:Int) = 1) = false:=decide_eq_false (by omega)
              have v1:decide (o = 1) = false:=decide_eq_false (by omega)
              have s2:((o:Int) == 2) = false:=by rw [beq_eq_false_iff_ne]; omega
              have t2:decide ((o:Int) = 2) = false:=decide_eq_false (by omega)
              have v2:decide (o = 2) = false:=decide_eq_false (by omega)
              have s3:((o:Int) == 3) = false:=by rw [beq_eq_false_iff_ne]; omega
              have t3:decide ((o:Int) = 3) = false:=decide_eq_false (by omega)
              have v3:decide (o = 3) = false:=decide_eq_false (by omega)
              have s4:((o:Int) == 4) = false:=by rw [beq_eq_false_iff_ne]; omega
              have t4:decide ((o:Int) = 4) = false:=decide_eq_false (by omega)
              have v4:decide (o = 4) = false:=decide_eq_false (by omega)
              have s5:((o:Int) == 5) = false:=by rw [beq_eq_false_iff_ne]; omega
              have t5:decide ((o:Int) = 5) = false:=decide_eq_false (by omega)
              have v5:decide (o = 5) = false:=decide_eq_false (by omega)
              replace ho:=Lib.hid ho
              clear VL VE VH VB fin2 tS bt
              gi_wp2
              exact tX.out.1
            · have s1:((o:Int) == 1) = true:=by rw [beq_iff_eq]; omega
              have t1:decide ((o:Int) = 1) = true:=decide_eq_true (by omega)
              have v1:decide (o = 1) = true:=decide_eq_true ho
              have s2:((o:Int) == 2) = false:=by rw [beq_eq_false_iff_ne]; omega
              have t2:decide ((o:Int) = 2) = false:=decide_eq_false (by omega)
              have v2:decide (o = 2) = false:=decide_eq_false (by omega)
              have s3:((o:Int) == 3) = false:=by rw [beq_eq_false_iff_ne]; omega
              have t3:decide ((o:Int) = 3) = false:=decide_eq_false (by omega)
              have v3:decide (o = 3) = false:=decide_eq_false (by omega)
              have s4:((o:Int) == 4) = false:=by rw [beq_eq_false_iff_ne]; omega
              have t4:decide ((o:Int) = 4) = false:=decide_eq_false (by omega)
              have v4:decide (o = 4) = false:=decide_eq_false (by omega)
              have s5:((o:Int) == 5) = false:=by rw [beq_eq_false_iff_ne]; omega
              have t5:decide ((o:Int) = 5) = false:=decide_eq_false (by omega)
              have v5:decide (o = 5) = false:=decide_eq_false (by omega)
              replace ho:=Lib.hid ho
              clear tX tS
              gi_wp2_with fail
              first | refine ⟨trivial,fun _ => by omega,?_⟩ | refine ⟨trivial,?_⟩
              gi_at_call 35
              refine (callsIn_wide.2 VL.out).mono ?_
              rintro e X3 ⟨⟨v9,rfl⟩,R3,o3⟩
              obtain ⟨T,c93⟩:=fin2.out X3 R3 o3
              replace T:=Lib.hid T
              clear fin2 R3 o3 VL VE VH VB bt s2 sf2 v0 v1 v2
              gi_wp2
              exact T.out
            · have s1:((o:Int) == 1) = false:=by rw [beq_eq_false_iff_ne]; omega
              have t1:decide ((o:Int) = 1) = false:=decide_eq_false (by omega)
              have v1:decide (o = 1) = false:=decide_eq_false (by omega)
              have s2:((o:Int) == 2) = true:=by rw [beq_iff_eq]; omega
              have t2:decide ((o:Int) = 2) = true:=decide_eq_true (by omega)
              have v2:decide (o = 2) = true:=decide_eq_true ho
              have s3:((o:Int) == 3) = false:=by rw [beq_eq_false_iff_ne]; omega
              have t3:decide ((o:Int) = 3) = false:=decide_eq_false (by omega)
              have v3:decide (o = 3) = false:=decide_eq_false (by omega)
              have s4:((o:Int) == 4) = false:=by rw [beq_eq_false_iff_ne]; omega
              have t4:decide ((o:Int) = 4) = false:=decide_eq_false (by omega)
              have v4:decide (o = 4) = false:=decide_eq_false (by omega)
              have s5:((o:Int) == 5) = false:=by rw [beq_eq_false_iff_ne]; omega
              have t5:decide ((o:Int) = 5) = false:=decide_eq_false (by omega)
              have v5:decide (o = 5) = false:=decide_eq_false (by omega)
              replace ho:=Lib.hid ho
              clear tX tS
              gi_wp2_with fail
              first | refine ⟨trivial,fun _ => by omega,?_⟩ | refine ⟨trivial,?_⟩
              gi_at_call 36
              refine (callsIn_wide.2 VE.out).mono ?_
              rintro e X3 ⟨⟨v9,rfl⟩,R3,o3⟩
              obtain ⟨T,c93⟩:=fin2.out X3 R3 o3
              replace T:=Lib.hid T
              clear fin2 R3 o3 VL VE VH VB bt s2 sf2 v0 v1 v2
              gi_wp2
              exact T.out
            · have s1:((o:Int) == 1) = false:=by rw [beq_eq_false_iff_ne]; omega
              have t1:decide ((o:Int) = 1) = false:=decide_eq_false (by omega)
              have v1:decide (o = 1) = false:=decide_eq_false (by omega)
              have s2:((o:Int) == 2) = false:=by rw [beq_eq_false_iff_ne]; omega
              have t2:decide ((o:Int) = 2) = false:=decide_eq_false (by omega)
              have v2:decide (o = 2) = false:=decide_eq_false (by omega)
              have s3:((o:Int) == 3) = true:=by rw [beq_iff_eq]; omega
              have t3:decide ((o:Int) = 3) = true:=decide_eq_true (by omega)
              have v3:decide (o = 3) = true:=decide_eq_true ho
              have s4:((o:Int) == 4) = false:=by rw [beq_eq_false_iff_ne]; omega
              have t4:decide ((o:Int) = 4) = false:=decide_eq_false (by omega)
              have v4:decide (o = 4) = false:=decide_eq_false (by omega)
              have s5:((o:Int) == 5) = false:=by rw [beq_eq_false_iff_ne]; omega
              have t5:decide ((o:Int) = 5) = false:=decide_eq_false (by omega)
              have v5:decide (o = 5) = false:=decide_eq_false (by omega)
              replace ho:=Lib.hid ho
              clear tX tS
              gi_wp2_with fail
              first | refine ⟨trivial,fun _ => by omega,?_⟩ | refine ⟨trivial,?_⟩
              gi_at_call 37
              refine (callsIn_wide.2 VH.out).mono ?_
              rintro e X3 ⟨⟨v9,rfl⟩,R3,o3⟩
              obtain ⟨T,c93⟩:=fin2.out X3 R3 o3
              replace T:=Lib.hid T
              clear fin2 R3 o3 VL VE VH VB bt s2 sf2 v0 v1 v2
              gi_wp2
              exact T.out
            · have s1:((o:Int) == 1) = false:=by rw [beq_eq_false_iff_ne]; omega
              have t1:decide ((o:Int) = 1) = false:=decide_eq_false (by omega)
              have v1:decide (o = 1) = false:=decide_eq_false (by omega)
              have s2:((o:Int) == 2) = false:=by rw [beq_eq_false_iff_ne]; omega
              have t2:decide ((o:Int) = 2) = false:=decide_eq_false (by omega)
              have v2:decide (o = 2) = false:=decide_eq_false (by omega)
              have s3:((o:Int) == 3) = false:=by rw [beq_eq_false_iff_ne]; omega
              have t3:decide ((o:Int) = 3) = false:=decide_eq_false (by omega)
              have v3:decide (o = 3) = false:=decide_eq_false (by omega)
              have s4:((o:Int) == 4) = true:=by rw [beq_iff_eq]; omega
              have t4:decide ((o:Int) = 4) = true:=decide_eq_true (by omega)
              have v4:decide (o = 4) = true:=decide_eq_true ho
              have s5:((o:Int) == 5) = false:=by rw [beq_eq_false_iff_ne]; omega
              have t5:decide ((o:Int) = 5) = false:=decide_eq_false (by omega)
              have v5:decide (o = 5) = false:=decide_eq_false (by omega)
              replace ho:=Lib.hid ho
              clear tX tS VL VE VH
              gi_upto_region 28 with fail
              refine region_quiet_tailR 5 (by kernel_rfl) (by kernel_rfl) (by kernel_rfl) ?_
              simp only [List.take_succ_cons,List.take_zero,List.drop_succ_cons,List.drop_zero]
              iterate 5 (quiet_step_in (fail))
              refine wpQuietIn_nil ?_
              rintro _ ⟨nq8,rfl⟩
              obtain ⟨X4,hX4⟩:∃ X4,X4 = X2.drewN nq8:=⟨_,rfl⟩
              rw [<- hX4]
              have b24:Below X2.heap.size X2 X4:=by rw [hX4]; exact below_drewN (Below.refl _ _) _
              have VB4:=Lib.hid (VB.out X4 b24)
              replace b24:=Lib.hid b24
              clear hX4 VB s2 sf2 v0 v1 v2
              gi_wp2_with fail
              first | refine ⟨trivial,fun _ => by omega,?_⟩ | refine ⟨trivial,?_⟩
              gi_at_call 19
              refine (callsIn_wide.2 VB4.out).mono ?_
              rintro e X3 ⟨⟨v9,rfl⟩,R3,o3⟩
              obtain ⟨T,c93⟩:=fin2.out X3 R3 (bt.out X4 X3 b24.out o3)
              replace T:=Lib.hid T
              clear fin2 R3 o3 VB4 bt b24
              gi_wp2
              exact T.out
            · have s1:((o:Int) == 1) = false:=by rw [beq_eq_false_iff_ne]; omega
              have t1:decide ((o:Int) = 1) = false:=decide_eq_false (by omega)
              have v1:decide (o = 1) = false:=decide_eq_false (by omega)
              have s2:((o:Int) == 2) = false:=by rw [beq_eq_false_iff_ne]; omega
              have t2:decide ((o:Int) = 2) = false:=decide_eq_false (by omega)
              have v2:decide (o = 2) = false:=decide_eq_false (by omega)
              have s3:((o:Int) == 3) = false:=by rw [beq_eq_false_iff_ne]; omega
              have t3:decide ((o:Int) = 3) = false:=decide_eq_false (by omega)
              have v3:decide (o = 3) = false:=decide_eq_false (by omega)
              have s4:((o:Int) == 4) = false:=by rw [beq_eq_false_iff_ne]; omega
              have t4:decide ((o:Int) = 4) = false:=decide_eq_false (by omega)
              have v4:decide (o = 4) = false:=decide_eq_false (by omega)
              have s5:((o:Int) == 5) = true:=by rw [beq_iff_eq]; omega
              have t5:decide ((o:Int) = 5) = true:=decide_eq_true (by omega)
              have v5:decide (o = 5) = true:=decide_eq_true ho
              replace ho:=Lib.hid ho
              clear VL VE VH VB fin2 tX bt
              gi_wp2
              exact ⟨tS.out.1,tS.out.2.1,.inr ⟨rfl,tS.out.2.2⟩⟩
        · have e1:((y.1:Int) == (z:Int)) = false:=by rw [beq_eq_false_iff_ne]; omega
          have e2:((y.1:Int) != (z:Int)) = true:=by rw [bne_iff_ne]; omega
          have e3:decide ((y.1:Int) = (z:Int)) = false:=decide_eq_false (by omega)
          have T:=Lib.hid (show KeepP D Wx (Wx.setCell ⟨N0 + 1,0,none⟩ (.bool false)) /\ (Wx.setCell ⟨N0 + 1,0,none⟩ (.bool false)).heap[l']? = Wx.heap[l']? /\ ¬ (pre ++ [y]).map (·.1) <+: row from by
            have hlo:N0 + 1 < D:=by have:=z1.out; omega
            refine ⟨KeepP.only (only_cell1 (S:=(· = N0 + 1)) Wx (N0 + 1) 0 _ rfl) fun b' o hb' _ _ e => by omega,(only_cell1 (S:=(· = N0 + 1)) Wx (N0 + 1) 0 _ rfl).block l' hl2 (by omega),?_⟩
            rw [List.map_append]
            exact prefix_not (by rw [List.length_map, <- hn,hz]) hyz)
          replace hyz:=Lib.hid hyz
          replace hn:=Lib.hid hn
          replace hz:=Lib.hid hz
          clear bn bs' RX oX hp p5 pv oX6
          gi_wp2
          exact ⟨T.out.1,T.out.2.1,.inl ⟨rfl,T.out.2.2⟩⟩
      case done =>
        rw [<- hD.out]
        rintro D' ys Wx hD' hys ⟨bn,bs',RX,oX,hp⟩ hKd
        have hlen:ys.length = K:=by rw [hKr.out, <- hys,List.length_map]
        rw [hlen] at bn
        have c8:=bn.cell
        have c9:=bs'.cell
        obtain ⟨p4,p5,p6,p7,p9,pv,pe,oX6,hDx⟩:=CX.out Wx oX
        have e1:((K:Int) != (K:Int)) = false:=bne_self_eq_false _
        have NX:=Lib.hid (DK8.out.1.next (v:=Wx) hk (fun D1 h1 h2 => oX.block D1 (heap_lt h2) (by
          rintro (e | e | e | e)
          · exact nb1 (by rw [<- e]; exact h2)
          · exact nb2 (by rw [<- e]; exact h2)
          · have:=(two.out D1 e).2; omega
          · have:=heap_lt h2; rw [<- hD.out] at this; omega)) (by omega) hKd (by rw [<- hD.out]; exact hD'))
        replace RX:=Lib.hid RX
        replace oX6:=Lib.hid oX6
        replace hKd:=Lib.hid hKd
        replace hys:=Lib.hid hys
        replace hlen:=Lib.hid hlen
        clear bn bs' oX hp p4 p5 p6 p7 pv pe CX
        gi_wp2
        refine ⟨?inv,?measure⟩
        case inv =>
          (repeat apply Exists.intro)
          refine ⟨?relA,rfl⟩
          exact ⟨k + 1,by simp,by omega,RX,oX6,NX⟩
        case measure => simp [intOf] <;> omega
      case stop =>
        rw [<- hD.out]
        rintro D' c' pre Wx hD' hSp (⟨rfl,hn⟩ | ⟨rfl,bs',RX,oX⟩) hKd
        · exact absurd hSp hn
        · have c9:=bs'.cell
          obtain ⟨p4,p5,p6,p7,p9,pv,pe,oX6,hDx⟩:=CX.out Wx oX
          have NX:=Lib.hid (DK8.out.1.next (v:=Wx) hk (fun D1 h1 h2 => oX.block D1 (heap_lt h2) (by
            rintro (e | e | e | e)
            · exact nb1 (by rw [<- e]; exact h2)
            · exact nb2 (by rw [<- e]; exact h2)
            · have:=(two.out D1 e).2; omega
            · have:=heap_lt h2; rw [<- hD.out] at this; omega)) (by omega) hKd (by rw [<- hD.out]; exact hD'))
          replace RX:=Lib.hid RX
          replace oX6:=Lib.hid oX6
          replace hKd:=Lib.hid hKd
          clear bs' oX p4 p5 p6 p7 pv pe CX
          try dsimp only
          gi_wp2
          refine ⟨?inv,?measure⟩
          case inv =>
            (repeat apply Exists.intro)
            refine ⟨?relB,rfl⟩
            exact ⟨k + 1,by simp,by omega,RX,oX6,NX⟩
          case measure => simp [intOf] <;> omega
    · obtain rfl:k = 2:=by omega
      have d1:decide (((2:Nat):Int) < 2) = false:=rfl
      rcases DK.out with ⟨e1, -⟩ | ⟨e1, -⟩ | ⟨-,D1,D2,hD1,hD2,hne,rfl,hd1,hd2⟩
      · omega
      · omega
      have c5:=q5.cell
      have f5:=q5.frozen
      have WCr:=Lib.hid (WC.out wr)
      have b1r:Below N0 W wr:=hB1.out.trans ((b16.out.trans (oR.out.toBelow fun k hk => ⟨by have:=b16.out.size; omega,fun e => by
        rcases e with e | e
        · have:=(two.out k e).1; omega
        · have:=z6; omega⟩)).mono (by have:=z1.out; omega))
      replace q5:=Lib.hid q5
      replace b1r:=Lib.hid b1r
      clear DK RR oR CE q4 q6 q7 q8 q9 qv
      gi_wp2_with fail
      first | refine ⟨trivial,fun _ => by omega,?_⟩ | refine ⟨trivial,?_⟩
      gi_at_call 15
      refine (callsIn_wide.2 WCr.out).mono ?_
      rintro e X ⟨rfl,bX⟩
      have q5X:Boxed X (N0 + 1) 4 (.bool false):=Base.Blk.below q5.out bX (Blk.lt q5.out)
      have cX:=q5X.cell
      have fX:=q5X.frozen
      have d1X:=(bX.block D1 (heap_lt hd1)).trans hd1
      have d2X:=(bX.block D2 (heap_lt hd2)).trans hd2
      have bF:Below N0 W X:=b1r.out.trans (bX.mono (by rw [hN.out]; exact b1r.out.size))
      have q5Y:=q5X.set (.bool true)
      have oY:=only_cell1 (S:=(· = N0 + 1)) X (N0 + 1) 0 (.bool true) rfl
      have d1Y:=(oY.block D1 (heap_lt d1X) (by have:=z1.out; omega)).trans d1X
      have d2Y:=(oY.block D2 (heap_lt d2X) (by have:=z1.out; omega)).trans d2X
      have bY:=bF.setCell (p:=⟨N0 + 1,0,none⟩) (by show N0 <= N0 + 1; omega) (.bool true)
      have d1Z:=(World.putObj_heap_other (w:=X.setCell ⟨N0 + 1,0,none⟩ (.bool true)) (o:=.deferred none) (show D1 ≠ D2 by omega)).trans d1Y
      have q5Z:(((X.setCell ⟨N0 + 1,0,none⟩ (.bool true)).putObj D2 (.deferred none)).putObj D1 (.deferred none)).heap[N0 + 1]? = some (.cells #[.bool true] 4 (0,0)):=(World.putObj_heap_other (by have:=z1.out; omega)).trans ((World.putObj_heap_other (by have:=z1.out; omega)).trans q5Y)
      have hMc:(((X.setCell ⟨N0 + 1,0,none⟩ (.bool true)).putObj D2 (.deferred none)).putObj D1 (.deferred none)).cell? ⟨N0 + 1,0,none⟩ = some (.bool true):=Blk.cell (g:=N0 + 1) q5Z 0
      have bZ:=(bY.grown (grownBy_putObj' _ D2 (.deferred none)) (Nat.le_trans (Nat.le_of_eq hN.out) bY.size) (fun k e => by cases e; have:=z1.out; omega))
      have bZ2:=(bZ.grown (grownBy_putObj' _ D1 (.deferred none)) (Nat.le_trans (Nat.le_of_eq hN.out) bZ.size) (fun k e => by cases e; have:=z1.out; omega))
      replace bZ2:=Lib.hid bZ2
      replace q5Y:=Lib.hid q5Y
      replace q5Z:=Lib.hid q5Z
      clear bZ bY bF oY q5X d1X d2X bX q5
      gi_wp2
      refine ⟨by simp,.inl ⟨D2,_,rfl,run_takeDeferred d2Y,⟨by simp,.inl ⟨D1,_,rfl,run_takeDeferred d1Z,?_⟩⟩⟩⟩
      exact ⟨_,results_cell_one (P:=Tryz.prog) rfl _ _ (N0 + 1) _ _ rfl hMc Tryz.underlying4 rfl,rfl,bZ2.out⟩
end Go.Proofs.YtngehaiigbbknaaGreat.Que
