/-
  Contracts and lemmas, joined: LruMakes2, LruMakes3, LruItem, LruMakes4, LruChunks, LruBegun, LruRowPlain, QueueSeq, QueueSeq2, RangeLaw, QueueSeq3.
-/
import Derived.RangeFuncNested
import Derived.RangeFuncBound
import Derived.RangeFuncCalls
import Derived.RangeFuncLeaves
import Derived.RangeFuncBox
import Derived.Shelf.Abstract
import Derived.WalkKit
import Derived.OwnWalkIn
import Derived.TacticsInMore
import Derived.LoopNIn
import Derived.LoopIn
import Derived.Maps.AppendAt
import Derived.Test.YtngehaiigbbknaaGreatW6
import Derived.Test.YtngehaiigbbknaaGreatW7
import Derived.Test.YtngehaiigbbknaaGreatW8
import Derived.Test.YtngehaiigbbknaaGreatW9
set_option linter.unusedSimpArgs false
set_option linter.unusedVariables false
set_option linter.unusedSectionVars false
set_option maxRecDepth 100000
/-
  The walk of makes: a chunk is taken.
-/
namespace Go.Proofs.YtngehaiigbbknaaGreat.Que
open Go.RowKit Base Arena Cls Itm
theorem took6_begin {N:Nat} {w:World} {W:W6} {s:St} {bs:List UInt8} {Z:Nat -> Option Zd} {Ls Ld:Nat -> Nat -> List Nat} {r:RS} {laid told act:List Nat} {mk:Nat -> Nat} (h:WAt N w W qc s bs Z Ls Ld r laid told act mk) (o:Op6) :
    Took6 N w.heap.size w (w.alloc (.cells o.cells 64)) W s W s bs Z Ls Ld r laid told act mk o :=
  ⟨h.below ((Below.refl _ _).alloc (Nat.le_refl _) _),Blk.new w _ _,fun i hi => by have:=h.lt i _ hi; omega,(Below.refl N w).alloc h.hN0 _,(Grew.refl _ _ _ _).step ((Below.refl _ _).alloc (Nat.le_refl _) _)⟩
section
variable {N N0:Nat} {w0 w:World} {W0:W6} {s0:St} {W:W6} {s:St} {bs:List UInt8} {Z:Nat -> Option Zd} {Ls Ld:Nat -> Nat -> List Nat} {r:RS} {laid told act:List Nat} {mk:Nat -> Nat} {o:Op6} (h:Took6 N N0 w0 w W0 s0 W s bs Z Ls Ld r laid told act mk o)
include h
theorem Took6.take {w':World} {L':Lay} {s1:St} {k:Nat} (hk:k < qc.cf.nc) (hr:roomS qc.cf s k = some s1) {l:List Nat} {p:Nat} (hp:s1.free k = l ++ [p]) {H0:Nat} (h0:H0 = hnd p (s1.gens (p / qc.cf.ps) (p % qc.cf.ps / qc.cf.sz k))) (G:Nat) (eg:L'.g = W.L.g)
    (hb:bs.length = qc.cf.ps * qc.cf.np) (M:SetAt w' L' qc (takeS qc.cf s1 k p) (takeB bs p G)) (We:Went w w' W.L L' qc s (takeS qc.cf s1 k p)):Took6 N N0 w0 w' W0 s0 { W with L:=L' } (takeS qc.cf s1 k p) (takeB bs p G) (upd Z H0 none) Ls Ld r laid told act mk o:=by
  obtain ⟨A,B⟩:=We.away h.op (h.far .set)
  refine ⟨h.wat.take hk hr hp h0 G eg hb M We,A,fun i hi => ?_,h.below.trans (We.only.toBelow (B:=N) fun k hk => ⟨by have:=h.wat.hN0; omega,fun e => by have:=h.wat.base .set k e; omega⟩),h.grew.trans (grew_take We)⟩
  cases i with
  | set => exact B hi
  | ref => exact h.far .ref hi
  | queue => exact h.far .queue hi
  | doc => exact h.far .doc hi
  | own => exact h.far .own hi
  | lru => exact h.far .lru hi
  | act => exact h.far .act hi
theorem Took6.rtake {w':World} {M':RL} {r':RS} (R:RSetAt w' M' qc r') (We:RWent w w' W.M M' qc):Took6 N N0 w0 w' W0 s0 { W with M:=M' } s bs Z Ls Ld r' laid told act mk o:=by
  refine ⟨h.wat.rtake R We,(We.only.block _ h.op.lt (h.far .ref)).trans h.op,fun i hi => ?_,h.below.trans (We.only.toBelow (B:=N) fun k hk => ⟨by have:=h.wat.hN0; omega,fun e => by have:=h.wat.base .ref k e; omega⟩),h.grew.trans (grew_rtake We)⟩
  cases i with
  | set => exact h.far .set hi
  | ref =>
    rcases We.foot _ hi with h1 | h1
    · exact h.far .ref h1
    · have:=h.op.lt; omega
  | queue => exact h.far .queue hi
  | doc => exact h.far .doc hi
  | own => exact h.far .own hi
  | lru => exact h.far .lru hi
  | act => exact h.far .act hi
theorem Took6.tell {w6:World} {v':Value} {H:Nat} (oo:Only (fun b => W.vT.ownBlock = some b) w w6) (own6:w6.ownsRow 0 50 1 v' (told.length + 1) (told.map uv ++ [uv H])) (hat:∀ b,v'.ownBlock = some b -> W.vT.ownBlock = some b \/ w.heap.size <= b) :
    Took6 N N0 w0 (w6.setCell ⟨W.b,6,none⟩ v') W0 s0 { W with vT:=v' } s bs Z Ls Ld r laid (told ++ [H]) act mk o:=by
  have o2:=only_cell1 (S:=fun b => b = W.b \/ W.vT.ownBlock = some b) w6 W.b 6 v' (.inl rfl)
  have o3:Only (fun b => b = W.b \/ W.vT.ownBlock = some b) w (w6.setCell ⟨W.b,6,none⟩ v'):=(oo.mono fun b _ e => .inr e).trans o2 fun _ _ h => h
  refine ⟨h.wat.tell oo own6 hat,(o3.block _ h.op.lt (h.far .own)).trans h.op,fun i hi => ?_,h.below.trans (o3.toBelow (B:=N) fun k hk => ⟨by have:=h.wat.hN0; omega,fun e => by have:=h.wat.base .own k e; omega⟩),h.grew.trans (grew_tell o3 hat)⟩
  cases i with
  | set => exact h.far .set hi
  | ref => exact h.far .ref hi
  | queue => exact h.far .queue hi
  | doc => exact h.far .doc hi
  | own =>
    rcases hi with h1 | h1
    · exact h.far .own (.inl h1)
    · rcases hat _ h1 with h2 | h2
      · exact h.far .own (.inr h2)
      · have:=h.op.lt; omega
  | lru => exact h.far .lru hi
  | act => exact h.far .act hi
theorem Took6.acts {w6:World} {v':Value} {dm:Nat} (ed:W.dm = some dm) {act':List Nat} (oo:Below w.heap.size w w6) (own6:w6.ownsRow 0 50 1 v' act'.length (act'.map uv)) (hat:∀ b,v'.ownBlock = some b -> w.heap.size <= b) :
    Took6 N N0 w0 (w6.setCell ⟨dm,3,none⟩ v') W0 s0 { W with vA:=v' } s bs Z Ls Ld r laid told act' mk o:=by
  have hd:=h.far .act
  have hne:N0 ≠ dm:=fun e => hd (.inl (by rw [e]; exact ed))
  have G:=grew_acts (c:=qc) (s:=s) ed oo hat
  refine ⟨h.wat.acts ed oo own6 hat,((only_cell1 (S:=(· = dm)) w6 dm 3 v' rfl).block N0 (Nat.lt_of_lt_of_le h.op.lt oo.size) hne).trans (h.op.below oo h.op.lt),fun i hi => ?_,h.below.trans (G.below h.wat.base h.wat.hN0),h.grew.trans G⟩
  cases i with
  | act =>
    rcases hi with hi | hi
    · exact h.far .act (.inl hi)
    · have:=hat _ hi; have:=h.op.lt; omega
  | set => exact h.far .set hi
  | ref => exact h.far .ref hi
  | queue => exact h.far .queue hi
  | doc => exact h.far .doc hi
  | own => exact h.far .own hi
  | lru => exact h.far .lru hi
end
theorem rroom_len {r r1:RS} {k:Nat} (hk:k < 3) (hr:rroomS qc.cf r k = some r1):r1.ch.length <= r.ch.length + 64:=by
 have hn:=(qc_sz k hk).2
 unfold rroomS at hr
 split at hr
 ·split at hr
  ·injection hr with hr
   subst hr
   unfold rpage rcuts
   simp
   omega
  ·cases hr
 ·injection hr with hr
  subst hr
  omega
section
variable {N:Nat} {w:World} {W:W6} {s:St} {bs:List UInt8} {Z:Nat -> Option Zd} {Ls Ld:Nat -> Nat -> List Nat} {r:RS} {laid told act:List Nat} {mk:Nat -> Nat} (h:WAt N w W qc s bs Z Ls Ld r laid told act mk)
include h
set_option maxHeartbeats 1600000 in
theorem makesBare (o:Op6) (ok:o.Ok) (Rl:Rel qc.cf s r) (hb:bs.length = qc.cf.ps * qc.cf.np) (hlen:r.ch.length + 16384 <= 1073741824) (hfr:(s.free (o.b % 3).toNat).length + 16384 <= 1073741824) (htl:told.length + 1 <= 1073741824)
  {s1:St} (hr:roomS qc.cf s (o.b % 3).toNat = some s1) {l:List Nat} {p:Nat} (hp:s1.free (o.b % 3).toNat = l ++ [p]) {H0:Nat} (h0:H0 = hnd p (s1.gens (p / qc.cf.ps) (p % qc.cf.ps / qc.sz (o.b % 3).toNat))) (hd:o.dO = 2) :
  Calls Tryz.prog 42 #[.pointer (some ⟨W.b,0,none⟩),.agg o.cells] w fun e w' => e = .returned (.bool true) /\ Below N w w' /\ ∃ W' r',Sm W' W /\ Grew qc w w' W W' s (takeS qc.cf s1 (o.b % 3).toNat p) /\ Rel qc.cf (takeS qc.cf s1 (o.b % 3).toNat p) r' /\ r'.ch.length <= r.ch.length + 16384 /\
   WAt N w' W' qc (takeS qc.cf s1 (o.b % 3).toNat p) (takeB bs p (s1.gens (p / qc.cf.ps) (p % qc.cf.ps / qc.sz (o.b % 3).toNat))) (upd Z H0 none) Ls Ld r' laid (told ++ [H0]) act mk:=by
 have hk:(o.b % 3).toNat < 3:=by omega
 have hkn:(o.b % 3).toNat < qc.nc:=by rw [qc_nc]; exact hk
 have T1:=took6_begin h o
 obtain ⟨w1,hw1⟩:∃ w1,w1 = w.alloc (.cells o.cells 64):=⟨_,rfl⟩
 rw [<- hw1] at T1
 have WC:=withinI o.b 3 ok.b (by omega) (by omega)
 rw [show ((3:Nat):Int) = 3 from rfl] at WC
 have TC:=takeYes w1 W.L qc s bs T1.wat.set T1.wat.good _ hkn s1 hr l p hp
 rw [<- h0] at TC
 have okc:=T1.wat.okc
 have g1:=(room_good okc T1.wat.good hkn hr).1
 obtain ⟨r1,hr1,Rl1⟩:=(Rl.room okc T1.wat.good (k:=(o.b % 3).toNat) hkn).2 s1 hr
 obtain ⟨l',j,hj,hx,Rl2⟩:=Rl1.take okc g1 hkn hp
 generalize hkE:(o.b % 3).toNat = k at *
 have RK:=fun w2 M' (R:RSetAt w2 M' qc r) => rtakeYes w2 M' qc r R hlen k hkn (by rw [Rl.row_len hkn]; exact hfr) r1 hr1 l' j _ hj hx (Nat.le_of_lt (Nat.lt_of_lt_of_le (Rl1.pl j _ hx) (by decide))) (g1.gen _ _)
 have hnm:(RC.name ⟨p,k,s1.gens (p / qc.cf.ps) (p % qc.cf.ps / qc.cf.sz k),false,false⟩) = H0:=h0.symm
 have hcl:(rtake r1 k j).ch.length <= r.ch.length + 16384:=by
  have:=rroom_len hk hr1
  unfold rtake
  simp only [List.length_modify]
  omega
 obtain ⟨x0,y0,y2,y3,y4⟩:=T1.cells
 have xb:w1.cell? ⟨w.heap.size,2,none⟩ = some (.int .i64 o.b):=T1.op.cell 2
 rw [hd] at x0
 have n1:=fun w => numC6 w 0
 have H9:(takeS qc.cf s1 k p) = takeS qc.cf s1 k p:=rfl
 replace TC:=Lib.hid TC
 replace WC:=Lib.hid WC
 replace T1:=Lib.hid T1
 replace hnm:=Lib.hid hnm
 replace Rl2:=Lib.hid Rl2
 replace hcl:=Lib.hid hcl
 replace hp:=Lib.hid hp
 replace hr:=Lib.hid hr
 replace h0:=Lib.hid h0
 replace hb:=Lib.hid hb
 replace htl:=Lib.hid htl
 replace hkn:=Lib.hid hkn
 replace hkE:=Lib.hid hkE
 clear Rl Rl1 hj hx hr1 g1 okc hlen hfr H9 hk
 replace RK:=Lib.hid RK
 have hdE:=Lib.hid hd
 unfold Op6.cells at hw1 ⊢
 rw [hd] at hw1 ⊢
 replace hw1:=Lib.hid hw1
 clear hd
 generalize hN:w.heap.size = N0 at *
 replace hN:=Lib.hid hN
 go_enter Tryz.func42,Tryz.ntmps42
 go_upto_region 1 with fail
 rw [hN.out, <- hw1.out]
 go_wp2_with fail
 refine (WC.out _).mono ?_
 rintro e w' ⟨rfl,rfl⟩
 go_wp2_with fail
 refine TC.out.mono ?_
 rintro e w2 ⟨rfl,L',eg,M2,We2⟩
 have T2:=T1.out.take (H0:=H0) hkn.out hr.out hp.out h0.out _ eg hb.out M2 We2
 obtain ⟨x0,y0,y2,y3,y4⟩:=T2.cells
 rw [hdE.out] at x0
 have RC2:=RK.out w2 W.M T2.wat.ref
 rw [hnm.out] at RC2
 replace RC2:=Lib.hid RC2
 replace T2:=Lib.hid T2
 clear TC WC T1 M2 We2 RK hw1 eg
 go_wp2_with fail
 refine RC2.out.mono ?_
 rintro e w3 ⟨rfl,M',R3,We3⟩
 have T3:=T2.out.rtake R3 We3
 obtain ⟨x0,y0,y2,y3,y4⟩:=T3.cells
 rw [hdE.out] at x0
 have wb:=We3.b
 obtain ⟨A,cp,hv⟩:=own_is T3.wat.told
 have own:=T3.wat.told
 have fz:=T3.wat.own.frozen 6
 have z1:∀ o,(w3.alloc o).frozen? ⟨W.b,6,none⟩ = false:=fun o => (T3.wat.own.alloc o).frozen 6
 simp only at hv y4 own
 rw [hv] at y4 own
 replace T3:=Lib.hid T3
 replace hv:=Lib.hid hv
 replace own:=Lib.hid own
 clear RC2 T2 R3 We3 wb
 go_wp2_with (first | (go_at_call 14; refine (n1 _).mono ?_; rintro e w' ⟨rfl,rfl⟩) | (at_builtin; refine wpList_app rfl _ _ _ rfl eiL 0 _ _ _ rfl (own.out.alloc _) (w3.heap.size + 1) (some ⟨w3.heap.size,0,none⟩) 1 1 [.int .u64 (H0:Int)] rfl ?c1 ?c2 ?c3 ?c4 ?c5 ?_))
 case c1 => exact reads_v w3 _ _
 case c2 => intro u hu; rw [List.mem_singleton] at hu; subst hu; rfl
 case c3 => have:=htl.out; unfold maxLen; omega
 case c4 => have:=htl.out; omega
 case c5 => exact Nat.zero_le _
 intro VV w6 own6 hg6 hat6
 obtain ⟨A6,cp6,rfl⟩:=own_is own6
 have o6:Only (fun k => W.vT.ownBlock = some k) w3 w6:=((Only.refl _ w3).alloc _).grown hg6 (fun k e _ => by rw [hv.out]; exact e)
 have hat:∀ b,(Value.slice A6 (told.length + 1) cp6).ownBlock = some b -> W.vT.ownBlock = some b \/ w3.heap.size <= b:=fun b e => by
  rcases hat6 with h6 | h6
  ·rw [hv.out, <- h6]; exact .inl e
  ·rw [h6] at e
   injection e with e
   exact .inr (by omega)
 have T6:=T3.out.tell o6 own6 hat
 have B6:Blk w6 W.b 36 _:=(o6.block _ T3.out.wat.own.lt T3.out.wat.tb).trans T3.out.wat.own
 have r1:=B6.cell 6
 have r2:=B6.frozen 6
 obtain ⟨x0, -, -, -, -⟩:=T6.cells
 rw [hdE.out] at x0
 simp only at x0
 replace T6:=Lib.hid T6
 replace B6:=Lib.hid B6
 clear own6 hg6 hat6 o6 hat z1 fz own T3 hv
 go_wp2_with fail
 go_ret
 exact ⟨rfl,T6.out.below,⟨W.b,L',M',W.gq,W.gl,W.R,.slice A6 (told.length + 1) cp6,W.gm,W.dm,W.vA,W.hot,W.warm⟩,_,⟨rfl,rfl,rfl,rfl,rfl⟩,T6.out.grew,Rl2.out,hcl.out,T6.out.wat⟩
end
theorem bvE {x:Nat} (hx:x < 256):bv (UInt8.ofNat x) = .int .u8 (x:Int):=by
 unfold bv
 rw [UInt8.toNat_ofNat',Nat.mod_eq_of_lt hx]
theorem bytes_blk {w:World} {b B:Nat} {l:List UInt8} {cs:Array Value} (h:Blk w b 5 cs) (e:cs = (l.map bv).toArray) (hb:b < B):Bytes w B (some ⟨b,0,none⟩) l:=fun _ => ⟨b,0,rfl,hb,fun k x hx => by
 rw [Nat.zero_add,h.cell,e]
 simpa using hx⟩
theorem two_legal {a b:Nat} (ha:a < 26) (hb:b < 26):legalN [UInt8.ofNat (97 + a),UInt8.ofNat (97 + b)] = true:=by
 have h1:∀ a:Fin 26,okB (UInt8.ofNat (97 + a.val)) = true:=by decide
 have e1:=h1 ⟨a,ha⟩
 have e2:=h1 ⟨b,hb⟩
 simp only at e1 e2
 unfold legalN
 rw [List.all_cons,List.all_cons,List.all_nil,e1,e2]
 rfl
theorem layItemC {w:World} {L:Lay} {s:St} {bs:List UInt8} {Z:Nat -> Option Zd} {gq gl:Nat} {Ls:Nat -> Nat -> List Nat} (h:QW w L qc s bs Z gq gl Ls) {mk:Nat -> Nat} (m:Mks qc s bs Z mk) {H i x p:Nat} (hf:findN qc.cf s H = some (i,x,p)) (hz:Z H = none) (gen:Nat) (hg:(bs.drop (p + 12)).take 4 = putB 4 gen)
  {na nb nm a:Nat} (ha:na < 26) (hb:nb < 26) (hm:nm < 16) (K:Blk w a 5 #[.int .u8 (97 + (na:Int)),.int .u8 (97 + (nb:Int))]) (ea:a ≠ L.ha) :
  Calls Tryz.prog 85 #[.pointer (some ⟨L.g,0,none⟩),.int .u64 (H:Int),.agg #[.slice (some ⟨a,0,none⟩) 2 2,.slice none 0 0,.int .u64 0,.int .i64 0,.int .i64 0,.int .u64 0,.int .i64 4,.int .i64 (nm:Int)]] w fun e w' => e = .returned (.int .i64 0) /\ Only (Two L gl) w w' /\
   ∃ bs',bs'.length = bs.length /\ QW w' L qc s bs' (upd Z H (some ⟨4,0,0⟩)) gq gl Ls /\ Mks qc s bs' (upd Z H (some ⟨4,0,0⟩)) (upd mk H nm):=by
 have hnl:∀ x k,x < qc.nc -> k < 3 -> H ∉ Ls x k:=by
  intro x k hx hk hh
  obtain ⟨F,S,q⟩:=h
  obtain ⟨z,hz2⟩:=(q.is hx hk hh).2
  rw [hz] at hz2
  cases hz2
 have Kt:Tkn qc.cf s i x p (s.cls i) (H / 4294967296):=by obtain ⟨F,S,q⟩:=h; exact (Tkn.of S.okc S.zs.good hf).1
 have kN:s.cls i < 3:=by have:=Kt.kN; rw [show qc.cf.nc = qc.nc from rfl,qc_nc] at this; exact this
 have hsz:=(qc_sz _ kN).1
 have F:It.Fine ⟨[UInt8.ofNat (97 + na),UInt8.ofNat (97 + nb)],[],0,0,0,0,4,nm⟩:=⟨two_legal ha hb,by show 0 < _; omega,by show 0 < _; omega,by show 0 < _; omega,by show 0 < _; omega,by show 1 <= 4; omega,by show 4 <= 4; omega,hm⟩
 obtain ⟨K2,ok,g⟩:Chk qc s bs.length H i x p (s.cls i) (qc.sz (s.cls i)) /\ qc.cf.Ok /\ Cls.Good qc.cf s:=by
  obtain ⟨F,S,q⟩:=h
  exact ⟨Chk.of S.zs.set S.zs.good (good_lt S.okc S.zs.good hf) hf,S.okc,S.zs.good⟩
 have hlen:p + 64 <= bs.length:=by
  have:=K2.ck.all
  have:=K2.n64
  omega
 have MM:=m.laid ok g K2 ⟨[UInt8.ofNat (97 + na),UInt8.ofNat (97 + nb)],[],0,0,0,0,4,nm⟩ F (by show 58 + 2 + 0 <= _; omega) gen hg ⟨4,0,0⟩
 have kB:Bytes w (a + 1) (some ⟨a,0,none⟩) [UInt8.ofNat (97 + na),UInt8.ofNat (97 + nb)]:=bytes_blk K (by
  show _ = #[bv _,bv _]
  rw [bvE (by omega),bvE (by omega)]
  simp) (by omega)
 have vB:Bytes w (a + 1) none []:=fun e => by simp at e
 have C:=laidC h hf hnl _ F rfl (by show 58 + 2 + 0 <= _; omega) gen hg (some ⟨a,0,none⟩) none 2 0 _ kB vB (fun b' off e => by injection e with e; injection e with e; exact e ▸ ea) (fun e => (e rfl).elim)
 exact C.mono fun e w' ⟨h1,h2,h3⟩ => ⟨h1,h2,_,itemB_len _ _ _ _ (by show p + 58 + 2 + 0 <= _; omega),h3,MM⟩
def laidN (H:Nat) (l:List Nat):List Nat:=if H ∈ l then l else l ++ [H]
theorem lay6C (w:World) (R:R6) (mb n:Nat) (laid:List Nat) (lists:Nat -> List Nat) (h:R6At w R mb n laid lists) (hlen:laid.length + 1 <= 1073741824) (H:Nat):Calls Tryz.prog 84 #[.pointer (some ⟨R.b,0,none⟩),.int .u64 (H:Int)] w fun e w' => e = .returned (.tuple #[]) /\ ∃ R',R'.b = R.b /\ Went6 w w' R R' n /\ R6At w' R' mb n (laidN H laid) lists:=by
  by_cases hm:H ∈ laid
  · have e:laidN H laid = laid:=if_pos hm
    rw [e]
    exact (lay6In w R mb n laid lists h hlen H hm).mono fun e w' ⟨h1,h2⟩ => ⟨h1,R,rfl,h2 ▸ ⟨Only.refl _ _,fun b hb => .inl hb,rfl⟩,h2 ▸ h⟩
  · have e:laidN H laid = laid ++ [H]:=if_neg hm
    rw [e]
    exact lay6Out w R mb n laid lists h hlen H hm
theorem Took6.step {N N0:Nat} {w0 w w':World} {W0:W6} {s0:St} {W:W6} {s:St} {bs:List UInt8} {Z:Nat -> Option Zd} {Ls Ld:Nat -> Nat -> List Nat} {r:RS} {laid told act:List Nat} {mk:Nat -> Nat} {o:Op6} (h:Took6 N N0 w0 w W0 s0 W s bs Z Ls Ld r laid told act mk o) (b:Below w.heap.size w w'):Took6 N N0 w0 w' W0 s0 W s bs Z Ls Ld r laid told act mk o :=
  ⟨h.wat.below b,h.op.below b h.op.lt,h.far,h.below.trans (b.mono h.wat.hN0),h.grew.step b⟩
theorem Took6.doc_ {N N0:Nat} {w0 w w':World} {W0:W6} {s0:St} {W:W6} {s:St} {bs:List UInt8} {Z:Nat -> Option Zd} {Ls Ld:Nat -> Nat -> List Nat} {r:RS} {laid laid' told act:List Nat} {mk:Nat -> Nat} {o:Op6} (h:Took6 N N0 w0 w W0 s0 W s bs Z Ls Ld r laid told act mk o) {R':R6} (D:R6At w' R' W.M.b (3 * qc.nc) laid' (fun i => Ld (i / 3) (i % 3))) (eb:R'.b = W.R.b) (We:Went6 w w' W.R R' (3 * qc.nc)) :
    Took6 N N0 w0 w' W0 s0 { W with R:=R' } s bs Z Ls Ld r laid' told act mk o:=by
  refine ⟨h.wat.doc_ D eb We,(We.only.block _ h.op.lt (h.far .doc)).trans h.op,fun i hi => ?_,h.below.trans (We.only.toBelow (B:=N) fun k hk => ⟨by have:=h.wat.hN0; omega,fun e => by have:=h.wat.base .doc k e; omega⟩),h.grew.trans (grew_doc We)⟩
  cases i with
  | set => exact h.far .set hi
  | ref => exact h.far .ref hi
  | queue => exact h.far .queue hi
  | doc =>
    rcases We.foot _ hi with h1 | h1
    · exact h.far .doc h1
    · have:=h.op.lt; omega
  | own => exact h.far .own hi
  | lru => exact h.far .lru hi
  | act => exact h.far .act hi
theorem Took6.laid {N N0:Nat} {w0 w w':World} {W0:W6} {s0:St} {W:W6} {s:St} {bs bs':List UInt8} {Z Z':Nat -> Option Zd} {Ls Ld:Nat -> Nat -> List Nat} {r:RS} {laid told act:List Nat} {mk:Nat -> Nat} {o:Op6} (h:Took6 N N0 w0 w W0 s0 W s bs Z Ls Ld r laid told act mk o) (oz:Only (Two W.L W.gl) w w') (Q:QW w' W.L qc s bs' Z' W.gq W.gl Ls) {mk':Nat -> Nat} (m:Mks qc s bs' Z' mk') :
    WAt N w' W qc s bs' Z' Ls Ld r laid told act mk' /\ Below N w0 w' /\ Grew qc w0 w' W0 W s0 s:=by
  refine ⟨h.wat.turn oz Q m,h.below.trans (oz.toBelow (B:=N) fun k hk => ⟨by have:=h.wat.hN0; omega,fun e => ?_⟩),h.grew.trans (grew_turn oz)⟩
  rcases e with e | e
  · have:=h.wat.base .set k (by rw [e]; exact ⟨.bytes,rfl⟩); omega
  · have:=h.wat.base .queue k (.inr e); omega
def markN (n:Nat):Nat:=n * 7 % 16
def oddB (m:Nat):Bool:=m % 2 == 1
theorem marksF (n:Nat) (hn:n <= 1073741825) (w:World):Calls Tryz.prog 83 #[.int .i64 (n:Int)] w fun e w' => e = .returned (.int .i64 (markN n:Int)) /\ w = w':=by
  have q1:IntKind.i64.wrap ((n:Int) * 7) = ((n * 7:Nat):Int):=by rw [IntWalk.i64_in _ (by omega)]; omega
  have q2:((n * 7:Nat):Int).tmod 16 = (markN n:Int):=tmodN (n * 7) 16
  generalize markN n = M at *
  generalize n * 7 = P at *
  go_enter Tryz.func83,Tryz.ntmps83
  go_wp2
  go_ret
  exact ⟨rfl,rfl⟩
section
variable {N:Nat} {w:World} {W:W6} {s:St} {bs:List UInt8} {Z:Nat -> Option Zd} {Ls Ld:Nat -> Nat -> List Nat} {r:RS} {laid told act:List Nat} {mk:Nat -> Nat} (h:WAt N w W qc s bs Z Ls Ld r laid told act mk)
include h
set_option maxHeartbeats 1600000 in
theorem makesItem (o:Op6) (ok:o.Ok) (Rl:Rel qc.cf s r) (hb:bs.length = qc.cf.ps * qc.cf.np) (hlen:r.ch.length + 16384 <= 1073741824) (hfr:(s.free (o.b % 3).toNat).length + 16384 <= 1073741824) (htl:told.length + 1 <= 1073741824) (hla:laid.length + 1 <= 1073741824) (hal:act.length <= 1073741823) {dmb:Nat} (ed:W.dm = some dmb)
    {s1:St} (hr:roomS qc.cf s (o.b % 3).toNat = some s1) {l:List Nat} {p:Nat} (hp:s1.free (o.b % 3).toNat = l ++ [p]) {H0:Nat} (h0:H0 = hnd p (s1.gens (p / qc.cf.ps) (p % qc.cf.ps / qc.sz (o.b % 3).toNat))) (hd:o.dO ≠ 2) :
    Calls Tryz.prog 42 #[.pointer (some ⟨W.b,0,none⟩),.agg o.cells] w fun e w' => e = .returned (.bool true) /\ Below N w w' /\ ∃ W' r',Sm W' W /\ Grew qc w w' W W' s (takeS qc.cf s1 (o.b % 3).toNat p) /\ Rel qc.cf (takeS qc.cf s1 (o.b % 3).toNat p) r' /\ r'.ch.length <= r.ch.length + 16384 /\
      ∃ bs',bs'.length = bs.length /\ WAt N w' W' qc (takeS qc.cf s1 (o.b % 3).toNat p) bs' (upd Z H0 (some ⟨4,0,0⟩)) Ls Ld r' (laidN H0 laid) (told ++ [H0]) (actN H0 (oddB (markN (told.length + 1))) act) (upd mk H0 (markN (told.length + 1))):=by
  have hk:(o.b % 3).toNat < 3:=by omega
  have hkn:(o.b % 3).toNat < qc.nc:=by rw [qc_nc]; exact hk
  have T1:=took6_begin h o
  obtain ⟨w1,hw1⟩:∃ w1,w1 = w.alloc (.cells o.cells 64):=⟨_,rfl⟩
  rw [<- hw1] at T1
  have WC:=withinI o.b 3 ok.b (by omega) (by omega)
  rw [show ((3:Nat):Int) = 3 from rfl] at WC
  have TC:=takeYes w1 W.L qc s bs T1.wat.set T1.wat.good _ hkn s1 hr l p hp
  rw [<- h0] at TC
  have okc:=T1.wat.okc
  have g1:=(room_good okc T1.wat.good hkn hr).1
  obtain ⟨r1,hr1,Rl1⟩:=(Rl.room okc T1.wat.good (k:=(o.b % 3).toNat) hkn).2 s1 hr
  obtain ⟨l',j,hj,hx,Rl2⟩:=Rl1.take okc g1 hkn hp
  generalize hkE:(o.b % 3).toNat = k at *
  have RK:=fun w2 M' (R:RSetAt w2 M' qc r) => rtakeYes w2 M' qc r R hlen k hkn (by rw [Rl.row_len hkn]; exact hfr) r1 hr1 l' j _ hj hx (Nat.le_of_lt (Nat.lt_of_lt_of_le (Rl1.pl j _ hx) (by decide))) (g1.gen _ _)
  have hnm:(RC.name ⟨p,k,s1.gens (p / qc.cf.ps) (p % qc.cf.ps / qc.cf.sz k),false,false⟩) = H0:=h0.symm
  have hcl:(rtake r1 k j).ch.length <= r.ch.length + 16384:=by
    have:=rroom_len hk hr1
    unfold rtake
    simp only [List.length_modify]
    omega
  obtain ⟨x0,y0,y2,y3,y4⟩:=T1.cells
  have xb:w1.cell? ⟨w.heap.size,2,none⟩ = some (.int .i64 o.b):=T1.op.cell 2
  have n1:=fun w => numC6 w 0
  have H9:(takeS qc.cf s1 k p) = takeS qc.cf s1 k p:=rfl
  replace TC:=Lib.hid TC
  replace WC:=Lib.hid WC
  replace T1:=Lib.hid T1
  replace hnm:=Lib.hid hnm
  replace Rl2:=Lib.hid Rl2
  replace hcl:=Lib.hid hcl
  replace hp:=Lib.hid hp
  replace hr:=Lib.hid hr
  replace h0:=Lib.hid h0
  replace hb:=Lib.hid hb
  replace htl:=Lib.hid htl
  replace hkn:=Lib.hid hkn
  replace hal:=Lib.hid hal
  replace ed:=Lib.hid ed
  replace hkE:=Lib.hid hkE
  clear Rl Rl1 hj hx hr1 g1 okc hlen hfr H9 hk
  replace RK:=Lib.hid RK
  have d1:decide (o.dO = 2) = false:=decide_eq_false hd
  have d2:(o.dO == 2) = false:=by rw [beq_eq_false_iff_ne]; exact hd
  unfold Op6.cells at hw1 ⊢
  replace hw1:=Lib.hid hw1
  clear hd
  generalize hN:w.heap.size = N0 at *
  replace hN:=Lib.hid hN
  go_enter Tryz.func42,Tryz.ntmps42
  go_upto_region 1 with fail
  rw [hN.out, <- hw1.out]
  go_wp2_with fail
  refine (WC.out _).mono ?_
  rintro e w' ⟨rfl,rfl⟩
  go_wp2_with fail
  refine TC.out.mono ?_
  rintro e w2 ⟨rfl,L',eg,M2,We2⟩
  have T2:=T1.out.take (H0:=H0) hkn.out hr.out hp.out h0.out _ eg hb.out M2 We2
  obtain ⟨x0,y0,y2,y3,y4⟩:=T2.cells
  have RC2:=RK.out w2 W.M T2.wat.ref
  rw [hnm.out] at RC2
  replace RC2:=Lib.hid RC2
  replace T2:=Lib.hid T2
  clear TC WC T1 M2 We2 RK hw1 eg
  go_wp2_with fail
  refine RC2.out.mono ?_
  rintro e w3 ⟨rfl,M',R3,We3⟩
  have T3:=T2.out.rtake R3 We3
  obtain ⟨x0,y0,y2,y3,y4⟩:=T3.cells
  have wb:=We3.b
  obtain ⟨A,cp,hv⟩:=own_is T3.wat.told
  have own:=T3.wat.told
  have fz:=T3.wat.own.frozen 6
  have z1:∀ o,(w3.alloc o).frozen? ⟨W.b,6,none⟩ = false:=fun o => (T3.wat.own.alloc o).frozen 6
  simp only at hv y4 own
  rw [hv] at y4 own
  replace T3:=Lib.hid T3
  replace hv:=Lib.hid hv
  replace own:=Lib.hid own
  clear RC2 T2 R3 We3 wb
  go_wp2_with (first | (go_at_call 14; refine (n1 _).mono ?_; rintro e w' ⟨rfl,rfl⟩) | (at_builtin; refine wpList_app rfl _ _ _ rfl eiL 0 _ _ _ rfl (own.out.alloc _) (w3.heap.size + 1) (some ⟨w3.heap.size,0,none⟩) 1 1 [.int .u64 (H0:Int)] rfl ?c1 ?c2 ?c3 ?c4 ?c5 ?_))
  case c1 => exact reads_v w3 _ _
  case c2 => intro u hu; rw [List.mem_singleton] at hu; subst hu; rfl
  case c3 => have:=htl.out; unfold maxLen; omega
  case c4 => have:=htl.out; omega
  case c5 => exact Nat.zero_le _
  intro VV w6 own6 hg6 hat6
  obtain ⟨A6,cp6,rfl⟩:=own_is own6
  have o6:Only (fun k => W.vT.ownBlock = some k) w3 w6:=((Only.refl _ w3).alloc _).grown hg6 (fun k e _ => by rw [hv.out]; exact e)
  have hat:∀ b,(Value.slice A6 (told.length + 1) cp6).ownBlock = some b -> W.vT.ownBlock = some b \/ w3.heap.size <= b:=fun b e => by
    rcases hat6 with h6 | h6
    · rw [hv.out, <- h6]; exact .inl e
    · rw [h6] at e
      injection e with e
      exact .inr (by omega)
  have T6:=T3.out.tell o6 own6 hat
  have B6:Blk w6 W.b 36 _:=(o6.block _ T3.out.wat.own.lt T3.out.wat.tb).trans T3.out.wat.own
  have r1:=B6.cell 6
  have r2:=B6.frozen 6
  obtain ⟨x0, -, -, -, -⟩:=T6.cells
  simp only at x0
  obtain ⟨-,y0, -,y3,y4⟩:=T6.cells
  simp only at y0 y3 y4
  obtain ⟨n,hn⟩:∃ n,n = told.length + 1:=⟨_,rfl⟩
  rw [<- hn] at T6 y0 y3 y4 x0 ⊢
  obtain ⟨w7,hw7⟩:∃ w7,w7 = w6.setCell ⟨W.b,6,none⟩ (.slice A6 n cp6):=⟨_,rfl⟩
  rw [<- hw7] at T6 x0 y0 y3 y4
  replace T6:=Lib.hid T6
  replace B6:=Lib.hid B6
  replace hn:=Lib.hid hn
  replace hw7:=Lib.hid hw7
  clear own6 hg6 hat6 o6 hat z1 fz own T3 hv
  go_upto_region 9 with fail
  rw [<- hw7.out]
  clear hw7 r1 r2 B6
  go_upto_region 12 with fail
  have hn9:n <= 1073741824:=by have:=hn.out; have:=htl.out; omega
  obtain ⟨nq,hnq⟩:∃ nq,nq = n / 26:=⟨_,rfl⟩
  obtain ⟨na,hna⟩:∃ na,na = n % 26:=⟨_,rfl⟩
  obtain ⟨nb,hnb⟩:∃ nb,nb = nq % 26:=⟨_,rfl⟩
  obtain ⟨nm,hnm2⟩:∃ nm,nm = markN n:=⟨_,rfl⟩
  obtain ⟨on,hon⟩:∃ on,on = oddB nm:=⟨_,rfl⟩
  have MF:=Lib.hid (fun w => marksF n (by omega) w)
  rw [<- hnm2] at MF
  have m1:((n:Int)).tmod 26 = (na:Int):=by rw [hna]; exact tmodN n 26
  have m2:((n:Int)).tdiv 26 = (nq:Int):=by rw [hnq]; exact tdivN n 26
  have m3:((nq:Int)).tmod 26 = (nb:Int):=by rw [hnb]; exact tmodN nq 26
  have i1:na < 26:=by omega
  have i2:nb < 26:=by omega
  have i3:nm < 16:=by rw [hnm2]; exact Nat.mod_lt _ (by omega)
  have q0:IntKind.i64.wrap (nq:Int) = (nq:Int):=IntWalk.i64_in _ (by omega)
  have q1:IntKind.i64.wrap (97 + (na:Int)) = ((97 + na:Nat):Int):=by rw [IntWalk.i64_in _ (by omega)]; omega
  have q2:IntKind.i64.wrap (97 + (nb:Int)) = ((97 + nb:Nat):Int):=by rw [IntWalk.i64_in _ (by omega)]; omega
  obtain ⟨n2,hn2⟩:∃ n2,n2 = nm % 2:=⟨_,rfl⟩
  have m6:((nm:Int)).tmod 2 = (n2:Int):=by rw [hn2]; exact tmodN nm 2
  have m7:((n2:Int) == 1) = on:=by
    rw [hon]; unfold oddB; rw [<- hn2]
    have:n2 = 0 \/ n2 = 1:=by omega
    rcases this with e | e <;> rw [e] <;> rfl
  have m8:decide ((n2:Int) = 1) = on:=by
    rw [hon]; unfold oddB; rw [<- hn2]
    have:n2 = 0 \/ n2 = 1:=by omega
    rcases this with e | e <;> rw [e] <;> rfl
  replace hnq:=Lib.hid hnq
  replace hna:=Lib.hid hna
  replace hnb:=Lib.hid hnb
  replace hnm2:=Lib.hid hnm2
  replace hon:=Lib.hid hon
  replace hn2:=Lib.hid hn2
  go_upto_region 13 with (first | (go_at_call 83; refine (MF.out _).mono ?_; rintro e w' ⟨rfl,rfl⟩) | fail)
  obtain ⟨w8,hw8⟩:∃ w8,w8 = (w7.alloc (.cells #[.int .u8 (97 + (na:Int)),.int .u8 (97 + (nb:Int))] 5)).alloc (.cells #[.slice (some ⟨w7.heap.size,0,none⟩) 2 2,.slice none 0 0,.int .u64 0,.int .i64 0,.int .i64 0,.int .u64 0,.int .i64 4,.int .i64 (nm:Int)] 151):=⟨_,rfl⟩
  rw [<- hw8]
  have K8:Blk w8 w7.heap.size 5 #[.int .u8 (97 + (na:Int)),.int .u8 (97 + (nb:Int))]:=by rw [hw8]; exact (Blk.new w7 _ _).alloc _
  have I8:Blk w8 (w7.heap.size + 1) 151 #[.slice (some ⟨w7.heap.size,0,none⟩) 2 2,.slice none 0 0,.int .u64 0,.int .i64 0,.int .i64 0,.int .u64 0,.int .i64 4,.int .i64 (nm:Int)]:=by rw [hw8]; exact blk_new' (World.size_alloc _ _)
  have b8:Below w7.heap.size w7 w8:=by rw [hw8]; exact ((Below.refl _ w7).alloc (Nat.le_refl _) _).alloc (by rw [World.size_alloc]; omega) _
  have T8:=T6.out.step b8
  have LC:=Lib.hid (lay6C w8 W.R _ _ laid _ T8.wat.doc hla H0)
  obtain ⟨-,y0, -,y3, -⟩:=T8.cells
  simp only at y0 y3
  have wl:∀ i b,W6.foot ⟨W.b,L',M',W.gq,W.gl,W.R,.slice A6 n cp6,W.gm,W.dm,W.vA,W.hot,W.warm⟩ qc (takeS qc.cf s1 k p) i b -> b < w7.heap.size:=fun i b hb => T6.out.wat.lt i b hb
  replace wl:=Lib.hid wl
  replace T8:=Lib.hid T8
  replace K8:=Lib.hid K8
  replace I8:=Lib.hid I8
  clear hw8 b8 T6 m1 m2 m3 q0 q1 q2 x0 y4 xb y2
  go_wp2_with fail
  refine LC.out.mono ?_
  rintro e w9 ⟨rfl,R',eb,W9,D9⟩
  have T9:=T8.out.doc_ D9 eb W9
  have nf:∀ b,w7.heap.size <= b -> ¬ F6 W.R (3 * qc.nc) b:=fun b hb hf => by have:=wl.out .doc b hf; omega
  have K9:Blk w9 w7.heap.size 5 _:=(W9.only.block _ K8.out.lt (nf _ (by omega))).trans K8.out
  have I9:Blk w9 (w7.heap.size + 1) 151 _:=(W9.only.block _ I8.out.lt (nf _ (by omega))).trans I8.out
  have d7:dmb < w7.heap.size:=wl.out .act dmb (.inl ed.out)
  obtain ⟨-,y5⟩:=T9.wat.cL
  simp only at y5
  rw [ed.out] at y5
  unfold ptrO at y5
  have wl9:∀ i b,W6.foot ⟨W.b,L',M',W.gq,W.gl,R',.slice A6 n cp6,W.gm,W.dm,W.vA,W.hot,W.warm⟩ qc (takeS qc.cf s1 k p) i b -> i ≠ .doc -> b < w7.heap.size:=fun i b hb hi => by
    cases i with
    | doc => exact absurd rfl hi
    | set => exact wl.out .set b hb
    | ref => exact wl.out .ref b hb
    | queue => exact wl.out .queue b hb
    | own => exact wl.out .own b hb
    | lru => exact wl.out .lru b hb
    | act => exact wl.out .act b hb
  replace T9:=Lib.hid T9
  replace K9:=Lib.hid K9
  replace I9:=Lib.hid I9
  replace wl9:=Lib.hid wl9
  clear T8 LC K8 I8 D9 W9 nf y3 wl y0
  go_upto_region 14 with fail
  go_cut [] from 81 to 90 (fun wx => ∃ (A7:Option Addr) (cp7:Nat),Hid (Took6 N N0 w wx W s ⟨W.b,L',M',W.gq,W.gl,R',.slice A6 n cp6,W.gm,W.dm,.slice A7 (actN H0 on act).length cp7,W.hot,W.warm⟩ (takeS qc.cf s1 k p) (takeB bs p (s1.gens (p / qc.cf.ps) (p % qc.cf.ps / qc.cf.sz k))) (upd Z H0 none) Ls Ld (rtake r1 k j) (laidN H0 laid) (told ++ [H0]) (actN H0 on act) mk o) /\
    Hid (Blk wx w7.heap.size 5 #[.int .u8 (97 + (na:Int)),.int .u8 (97 + (nb:Int))]) /\ Hid (Blk wx (w7.heap.size + 1) 151 #[.slice (some ⟨w7.heap.size,0,none⟩) 2 2,.slice none 0 0,.int .u64 0,.int .i64 0,.int .i64 0,.int .u64 0,.int .i64 4,.int .i64 (nm:Int)]))
  case first =>
    have bd:Below w9.heap.size w9 w9.drew:=below_drewN (Below.refl _ _) 1
    obtain ⟨w10,hw10⟩:∃ w10,w10 = w9.drew:=⟨_,rfl⟩
    rw [<- hw10] at bd
    have T10:=T9.out.step bd
    have K10:=K9.out.below bd K9.out.lt
    have I10:=I9.out.below bd I9.out.lt
    obtain ⟨Aa,cpa,hva⟩:=own_is T10.wat.row
    have rowA:=T10.wat.row
    have D10:=T10.wat.dlr dmb ed.out
    unfold W6.dc at D10
    simp only at hva rowA D10
    rw [hva] at rowA D10
    have SC:=setA w10 dmb 0 cpa Aa _ _ _ act D10 rowA hal.out H0 on
    have y5a:=D10.lt
    rw [hw10] at SC
    replace SC:=Lib.hid SC
    replace T10:=Lib.hid T10
    replace K10:=Lib.hid K10
    replace I10:=Lib.hid I10
    clear D10 rowA hva
    go_region_law ((go_simp; first | (go_at_call 83; refine (MF.out _).mono ?_; rintro e w' ⟨rfl,rfl⟩) | (go_at_call 68; refine SC.out.mono ?_; rintro e w11 ⟨rfl,wz,A7,cp7,rfl,bz,oz⟩)))
    all_goals
      rw [<- hw10] at bz oz
      have hat:∀ b,(Value.slice A7 (actN H0 on act).length cp7).ownBlock = some b -> w10.heap.size <= b:=fun b e => own_base oz e
      have oz0:=own_weak oz (Nat.zero_le _)
      have T11:=Lib.hid (T10.out.acts ed.out bz oz0 hat)
      have s10:=bd.size
      have lt9:w7.heap.size + 1 < w10.heap.size:=I10.out.lt
      have oc:=only_cell1 (S:=(· = dmb)) wz dmb 3 (.slice A7 (actN H0 on act).length cp7) rfl
      have K11:=Lib.hid (show Blk (wz.setCell ⟨dmb,3,none⟩ (.slice A7 (actN H0 on act).length cp7)) w7.heap.size 5 _ from (oc.block _ (by have:=bz.size; omega) (by omega)).trans (K10.out.below bz K10.out.lt))
      have I11:=Lib.hid (show Blk (wz.setCell ⟨dmb,3,none⟩ (.slice A7 (actN H0 on act).length cp7)) (w7.heap.size + 1) 151 _ from (oc.block _ (by have:=bz.size; omega) (by omega)).trans (I10.out.below bz I10.out.lt))
      clear bz oz oz0 hat oc
      go_wp2_with fail
      go_meet
      exact ⟨A7,cp7,T11,K11,I11⟩
  case rest =>
    obtain ⟨A7,cp7,T11,K11,I11⟩:=hcut
    rename World => w11
    clear T9 K9 I9 y5
    have z0:=I11.out.cell 0
    have z1:=I11.out.cell 1
    have z2:=I11.out.cell 2
    have z3:=I11.out.cell 3
    have z4:=I11.out.cell 4
    have z5:=I11.out.cell 5
    have z6:=I11.out.cell 6
    have z7:=I11.out.cell 7
    have eLa:∀ b,w7.heap.size <= b -> b ≠ L'.ha:=fun b hb e => by have:=wl9.out .set b (by rw [e]; exact ⟨.bytes,rfl⟩) (by simp); omega
    obtain ⟨-,y0, -, -, -⟩:=T11.out.cells
    simp only at y0
    have hgd:=h.good
    have okc:=T11.out.wat.okc
    obtain ⟨⟨fi,fx,f0, -⟩, -, -⟩:=took_find okc hgd hkn.out hr.out hp.out h0.out
    have hfit:p + 64 <= bs.length:=by
      obtain ⟨t0, -⟩:=Tkn.of okc T11.out.wat.good f0
      obtain ⟨a1,a2,a3,a4,a5⟩:=t0.fit okc
      have:=(okc.sz _ t0.kN).1
      rw [hb.out,Nat.mul_comm]
      omega
    have bd:Below w11.heap.size w11 w11.drew:=below_drewN (Below.refl _ _) 1
    have T12:=T11.out.step bd
    have YC:=layItemC T12.wat.q T12.wat.mks f0 (upd_at _ _ _) _ (take_gen (by omega)) i1 i2 i3 (K11.out.below bd K11.out.lt) (eLa _ (Nat.le_refl _))
    have tl:(takeB bs p (s1.gens (p / qc.cf.ps) (p % qc.cf.ps / qc.sz k))).length = bs.length:=take_len (by omega)
    replace tl:=Lib.hid tl
    replace YC:=Lib.hid YC
    replace T12:=Lib.hid T12
    clear T11 K11 I11 f0 hgd okc hfit eLa bd
    go_upto_region 15 with fail
    go_region_law ((go_simp; first | (go_at_call 85; refine YC.out.mono ?_; rintro e wz ⟨rfl,oz,bz,lz,Qz,Mz⟩) | (go_at_call 14; refine (n1 _).mono ?_; rintro e w' ⟨rfl,rfl⟩)))
    all_goals
      have TT:=T12.out.laid oz Qz Mz
      replace TT:=Lib.hid TT
      go_wp2
      go_ret
      exact ⟨rfl,TT.out.2.1,⟨W.b,L',M',W.gq,W.gl,R',.slice A6 n cp6,W.gm,W.dm,.slice A7 (actN H0 on act).length cp7,W.hot,W.warm⟩,⟨rfl,rfl,rfl,rfl,rfl⟩,TT.out.2.2,_,Rl2.out,hcl.out,bz,lz.trans tl.out,by have:=TT.out.1; rw [upd_upd] at this; rw [<- hn.out, <- hnm2.out, <- hon.out]; exact this⟩
end
theorem qc_cells:qc.cells = #[.int .i64 4096,.int .i64 4,.int .i64 200,.int .i64 64,.int .i64 256,.int .i64 0,.int .i64 0]:=rfl
theorem qc_rcells:qc.rcells = #[.int .i64 4096,.int .i64 4,.int .i64 200,.int .i64 64,.int .i64 256]:=rfl
set_option maxHeartbeats 1600000 in
theorem chunksC (w:World):Calls Tryz.prog 11 #[] w fun e w' => Below w.heap.size w w' /\ ∃ W:W6,e = .returned (.pointer (some ⟨W.b,0,none⟩)) /\ W.gm = none /\ W.dm = none /\ W.vA = .slice none 0 0 /\ WAt w.heap.size w' W qc (new0 qc.cf) (List.replicate (qc.cf.ps * qc.cf.np) 0) (fun _ => none) (fun _ _ => []) (fun _ _ => []) rnew0 [] [] [] (fun _ => 0):=by
 have RC:∀ w,_:=fun w => refNewC w qc
 have NC:=Cls.newC w qc
 rw [qc_cells] at NC
 simp only [qc_rcells] at RC
 have hr:refN qc = 0:=qc_ref
 have hnc:qc.nc = 3:=qc_nc
 have hnp:qc.cf.np = 4:=qc_np
 generalize qc = c at *
 have n1:=fun w => numC6 w 0
 replace NC:=Lib.hid NC
 replace RC:=Lib.hid RC
 go_enter Tryz.func11,Tryz.ntmps11
 go_wp2_with fail
 refine NC.out.mono ?_
 rintro e w3 ⟨b3,⟨h0, -⟩ | ⟨-,L,rfl,M,F⟩⟩
 ·exact absurd hr h0
 have l23:=b3.size
 have b13:=b3
 have RC3:=Lib.hid (RC.out w3)
 replace b13:=Lib.hid b13
 replace M:=Lib.hid M
 replace F:=Lib.hid F
 clear NC RC b3
 go_wp2_with fail
 refine RC3.out.mono ?_
 rintro e w4 ⟨b4,⟨h0, -⟩ | ⟨-,r2,rfl,R⟩⟩
 ·exact absurd hr h0
 have M4:=M.out.kept fun d hd => b4.block d (M.out.lt hd)
 have l34:=b4.size
 have b14:=b13.out.trans (b4.mono (B':=w.heap.size) (by omega))
 obtain ⟨M2,eb,RS4,F2⟩:=RSetAt.new hr (by omega) (by omega) R
 have FM:∀ d,Foot L c (new0 c.cf) d -> w.heap.size <= d /\ d < w3.heap.size:=fun d hd => ⟨F.out d hd,M.out.lt hd⟩
 have QC:=Lib.hid (newC w4 L c _ _ M4)
 subst eb
 replace b14:=Lib.hid b14
 replace M4:=Lib.hid M4
 replace RS4:=Lib.hid RS4
 replace F2:=Lib.hid F2
 replace FM:=Lib.hid FM
 clear RC3 b4 b13 M F R
 go_wp2_with (first | (go_at_call 14; refine (n1 _).mono ?_; rintro e w' ⟨rfl,rfl⟩) | (go_at_call 40; refine QC.out.mono ?_; rintro e w5 ⟨gq,gl,rfl,b5,g1,g2,Q5⟩) | fail)
 have RS5:=RS4.out.kept fun d hd => b5.block d (RS4.out.lt hd)
 have M5:=M4.out.kept fun d hd => b5.block d (M4.out.lt hd)
 have l45:=b5.size
 have b15:=b14.out.trans (b5.mono (B':=w.heap.size) (by omega))
 have NC6:=Lib.hid (new6C w5 M2 c _ RS5 (by omega))
 have FR:∀ d,RFoot M2 c d -> w3.heap.size <= d /\ d < w4.heap.size:=fun d hd => ⟨F2.out d hd,RS4.out.lt hd⟩
 have lq:=Q5.ltq
 have ll:=Q5.ltl
 replace b15:=Lib.hid b15
 replace RS5:=Lib.hid RS5
 replace M5:=Lib.hid M5
 replace FR:=Lib.hid FR
 replace Q5:=Lib.hid Q5
 clear QC b14 b5 M4 RS4 F2
 go_wp2_with fail
 refine NC6.out.mono ?_
 rintro e w6 ⟨R,rfl,b6,F6',D6⟩
 have l56:=b6.size
 have RS6:=RS5.out.kept fun d hd => b6.block d (RS5.out.lt hd)
 have M6:=M5.out.kept fun d hd => b6.block d (M5.out.lt hd)
 have Q6:=Q5.out.below b6
 have b16:=b15.out.trans (b6.mono (B':=w.heap.size) (by omega))
 have FD:∀ d,F6 R (3 * c.nc) d -> w5.heap.size <= d /\ d < w6.heap.size:=fun d hd => ⟨F6' d hd,D6.lt hd⟩
 replace b16:=Lib.hid b16
 replace RS6:=Lib.hid RS6
 replace M6:=Lib.hid M6
 replace Q6:=Lib.hid Q6
 replace D6:=Lib.hid D6
 replace FD:=Lib.hid FD
 clear NC6 b15 b6 RS5 M5 Q5 F6'
 go_wp2_with fail
 go_ret
 have a6:∀ o,Below w6.heap.size w6 (w6.alloc o):=fun o => (Below.refl _ _).alloc (Nat.le_refl _) o
 refine ⟨b16.out.alloc (by omega) _,⟨w6.heap.size,L,M2,gq,gl,R,.slice none 0 0,none,none,.slice none 0 0,0,0⟩,rfl,rfl,rfl,rfl,?_⟩
 refine ⟨QW.new (M6.out.alloc _) (Q6.out.below (a6 _)) (fun h => by have:=FM.out gq h; omega) (fun h => by have:=FM.out gl h; omega),RS6.out.alloc _,D6.out.below (a6 _),Blk.new w6 _ _,⟨rfl,.inl ⟨rfl,rfl⟩⟩,?_,?_,?_,fun g e => (by cases e),fun d e => (by cases e),⟨rfl,.inl ⟨rfl,rfl⟩⟩,fun d e => (by cases e),fun H i x p _ e => (by cases e)⟩
 ·have key:∀ i b,W6.foot ⟨w6.heap.size,L,M2,gq,gl,R,.slice none 0 0,none,none,.slice none 0 0,0,0⟩ c (new0 c.cf) i b -> (i = .set /\ w.heap.size <= b /\ b < w3.heap.size) \/ (i = .ref /\ w3.heap.size <= b /\ b < w4.heap.size) \/ (i = .queue /\ w4.heap.size <= b /\ b < w5.heap.size) \/ (i = .doc /\ w5.heap.size <= b /\ b < w6.heap.size) \/ (i = .own /\ b = w6.heap.size):=by
   intro i b hb
   cases i with
   | set => exact .inl ⟨rfl,FM.out b hb⟩
   | ref => exact .inr (.inl ⟨rfl,FR.out b hb⟩)
   | queue => exact .inr (.inr (.inl ⟨rfl,by have hb:b = gq \/ b = gl:=hb; omega⟩))
   | doc => exact .inr (.inr (.inr (.inl ⟨rfl,FD.out b hb⟩)))
   | own => exact .inr (.inr (.inr (.inr ⟨rfl,by
     rcases hb with hb | hb
     ·exact hb
     ·cases hb⟩)))
   | lru => cases hb
   | act => rcases hb with hb | hb <;> cases hb
  intro i j b hi hj
  rcases key i b hi with ⟨rfl,h1⟩ | ⟨rfl,h1⟩ | ⟨rfl,h1⟩ | ⟨rfl,h1⟩ | ⟨rfl,h1⟩ <;> rcases key j b hj with ⟨rfl,h2⟩ | ⟨rfl,h2⟩ | ⟨rfl,h2⟩ | ⟨rfl,h2⟩ | ⟨rfl,h2⟩ <;> first | rfl | (exfalso; omega)
 ·intro h; cases h
 ·intro i b hb
  cases i with
  | set => have:=FM.out b hb; omega
  | ref => have:=FR.out b hb; omega
  | queue =>
   have hb:b = gq \/ b = gl:=hb
   omega
  | doc => have:=FD.out b hb; omega
  | own =>
   rcases hb with rfl | hb
   ·show w.heap.size <= w6.heap.size
    omega
   ·cases hb
  | lru => cases hb
  | act => rcases hb with hb | hb <;> cases hb
section
variable {N:Nat} {w:World} {W:W6} {c:Conf} {s:St} {bs:List UInt8} {Z:Nat -> Option Zd} {Ls Ld:Nat -> Nat -> List Nat} {r:RS} {laid told act:List Nat} {mk:Nat -> Nat} (h:WAt N w W c s bs Z Ls Ld r laid told act mk)
include h
theorem WAt.shares (hg:W.gm = none) (hd:W.dm = none) (a b:Int):WAt N w { W with hot:=a,warm:=b } c s bs Z Ls Ld r laid told act mk:=by
  have ef:∀ i,({ W with hot:=a,warm:=b }:W6).foot c s i = W.foot c s i:=fun i => by cases i <;> rfl
  refine ⟨h.q,h.ref,h.doc,h.own,h.told,fun i j b hi hj => h.sep i j b (by rw [<- ef]; exact hi) (by rw [<- ef]; exact hj),h.tb,fun i b hb => h.base i b (by rw [<- ef]; exact hb),fun g e => ?_,fun d e => ?_,h.row,h.ad,h.mks⟩
  · rw [show ({ W with hot:=a,warm:=b }:W6).gm = W.gm from rfl,hg] at e; cases e
  · rw [show ({ W with hot:=a,warm:=b }:W6).dm = W.dm from rfl,hd] at e; cases e
theorem WAt.weak {N':Nat} (hN:N' <= N):WAt N' w W c s bs Z Ls Ld r laid told act mk:=⟨h.q,h.ref,h.doc,h.own,h.told,h.sep,h.tb,fun i b e => Nat.le_trans hN (h.base i b e),h.lru,h.dlr,h.row,h.ad,h.mks⟩
theorem WAt.setL (hg:W.gm = none) {g:Nat} (B:Blk w g 97 W.lc) (hf:∀ i,¬ W.foot c s i g) (hN:N <= g):WAt N (w.setCell ⟨W.b,2,none⟩ (.pointer (some ⟨g,0,none⟩))) { W with gm:=some g } c s bs Z Ls Ld r laid told act mk:=by
  have o2:=only_cell1 (S:=(· = W.b)) w W.b 2 (.pointer (some ⟨g,0,none⟩)) rfl
  have ns:∀ i b,i ≠ .own -> W.foot c s i b -> b ≠ W.b:=fun i b hi hb e => hi (h.sep i .own b hb (.inl e))
  have gb:g ≠ W.b:=fun e => hf .own (.inl e)
  have key:∀ i b,({ W with gm:=some g }:W6).foot c s i b -> (i = .lru /\ b = g) \/ W.foot c s i b:=fun i b hb => by
    cases i with
    | lru => exact .inl ⟨rfl,by injection (show some g = some b from hb) with e; exact e.symm⟩
    | _ => exact .inr hb
  obtain ⟨F,S,q⟩:=h.q
  refine ⟨⟨F,⟨S.zs.only o2 fun b hb => ns .set b (by simp) hb,S.q.only o2 (ns .queue _ (by simp) (.inl rfl)) (ns .queue _ (by simp) (.inr rfl)),S.fq,S.fl⟩,q⟩,h.ref.only o2 fun b hb => ns .ref b (by simp) hb,h.doc.only o2 fun b hb => ns .doc b (by simp) hb,h.own.set_ 2 _,own_keptN h.told fun b e => o2.block b (own_blockN h.told e) (fun e2 => h.tb (e2 ▸ e)),fun i j b hi hj => ?_,h.tb,fun i b hb => ?_,fun g' e => ?_,fun d e => (o2.block _ (h.dlr d e).lt (ns .act d (by simp) (.inl e))).trans (h.dlr d e),own_keptN h.row fun b e => o2.block b (own_blockN h.row e) (ns .act b (by simp) (.inr e)),h.ad,h.mks⟩
  · rcases key i b hi with ⟨e1,h1⟩ | h1 <;> rcases key j b hj with ⟨e2,h2⟩ | h2
    · rw [e1,e2]
    · exact absurd (h1 ▸ h2) (hf j)
    · exact absurd (h2 ▸ h1) (hf i)
    · exact h.sep i j b h1 h2
  · rcases key i b hb with ⟨e1,h1⟩ | h1
    · rw [h1]; exact hN
    · exact h.base i b h1
  · obtain rfl:g = g':=by injection (show some g = some g' from e)
    exact (o2.block _ B.lt gb).trans B
theorem WAt.setM (hd:W.dm = none) {d:Nat} (B:Blk w d 99 W.dc) (hv:W.vA.ownBlock = none) (hf:∀ i,¬ W.foot c s i d) (hN:N <= d):WAt N (w.setCell ⟨W.b,5,none⟩ (.pointer (some ⟨d,0,none⟩))) { W with dm:=some d } c s bs Z Ls Ld r laid told act mk:=by
  have o2:=only_cell1 (S:=(· = W.b)) w W.b 5 (.pointer (some ⟨d,0,none⟩)) rfl
  have ns:∀ i b,i ≠ .own -> W.foot c s i b -> b ≠ W.b:=fun i b hi hb e => hi (h.sep i .own b hb (.inl e))
  have gb:d ≠ W.b:=fun e => hf .own (.inl e)
  have key:∀ i b,({ W with dm:=some d }:W6).foot c s i b -> (i = .act /\ b = d) \/ W.foot c s i b:=fun i b hb => by
    cases i with
    | act =>
      rcases hb with hb | hb
      · exact .inl ⟨rfl,by injection (show some d = some b from hb) with e; exact e.symm⟩
      · exact .inr (.inr hb)
    | _ => exact .inr hb
  obtain ⟨F,S,q⟩:=h.q
  refine ⟨⟨F,⟨S.zs.only o2 fun b hb => ns .set b (by simp) hb,S.q.only o2 (ns .queue _ (by simp) (.inl rfl)) (ns .queue _ (by simp) (.inr rfl)),S.fq,S.fl⟩,q⟩,h.ref.only o2 fun b hb => ns .ref b (by simp) hb,h.doc.only o2 fun b hb => ns .doc b (by simp) hb,h.own.set_ 5 _,own_keptN h.told fun b e => o2.block b (own_blockN h.told e) (fun e2 => h.tb (e2 ▸ e)),fun i j b hi hj => ?_,h.tb,fun i b hb => ?_,fun g e => (o2.block _ (h.lru g e).lt (ns .lru g (by simp) e)).trans (h.lru g e),fun d' e => ?_,own_keptN h.row fun b e => o2.block b (own_blockN h.row e) (ns .act b (by simp) (.inr e)),fun d' e => ?_,h.mks⟩
  · rcases key i b hi with ⟨e1,h1⟩ | h1 <;> rcases key j b hj with ⟨e2,h2⟩ | h2
    · rw [e1,e2]
    · exact absurd (h1 ▸ h2) (hf j)
    · exact absurd (h2 ▸ h1) (hf i)
    · exact h.sep i j b h1 h2
  · rcases key i b hb with ⟨e1,h1⟩ | h1
    · rw [h1]; exact hN
    · exact h.base i b h1
  · obtain rfl:d = d':=by injection (show some d = some d' from e)
    exact (o2.block _ B.lt gb).trans B
  · show W.vA.ownBlock ≠ some d'
    rw [hv]
    intro e; cases e
end
theorem lruNewC (w:World) (g gq:Nat) (a b:Int) (h1 : 1 <= a) (h2 : 1 <= b) (h3:a + b <= 90):Calls Tryz.prog 12 #[.pointer (some ⟨g,0,none⟩),.pointer (some ⟨gq,0,none⟩),.int .i64 a,.int .i64 b] w fun e w' => e = .returned (.tuple #[.pointer (some ⟨w.heap.size,0,none⟩),.int .i64 0]) /\
    w' = w.alloc (.cells #[.pointer (some ⟨g,0,none⟩),.pointer (some ⟨gq,0,none⟩),.int .i64 a,.int .i64 b] 97):=by
  have d1:decide (a < 1) = false:=decide_eq_false (by omega)
  have d2:decide (b < 1) = false:=decide_eq_false (by omega)
  have d3:decide (90 < a) = false:=decide_eq_false (by omega)
  have q1:IntKind.i64.wrap (90 - a) = 90 - a:=IntWalk.i64_in _ (by omega)
  have d4:decide (90 - a < b) = false:=decide_eq_false (by omega)
  go_enter Tryz.func12,Tryz.ntmps12
  go_wp2
  go_ret2
  exact ⟨rfl,rfl⟩
theorem rlruNewC (w:World) (g:Nat) (a b:Int) (h1 : 1 <= a) (h2 : 1 <= b) (h3:a + b <= 90):Calls Tryz.prog 13 #[.pointer (some ⟨g,0,none⟩),.int .i64 a,.int .i64 b] w fun e w' => e = .returned (.tuple #[.pointer (some ⟨w.heap.size,0,none⟩),.int .i64 0]) /\
    w' = w.alloc (.cells #[.pointer (some ⟨g,0,none⟩),.int .i64 a,.int .i64 b,.slice none 0 0] 99):=by
  have d1:decide (a < 1) = false:=decide_eq_false (by omega)
  have d2:decide (b < 1) = false:=decide_eq_false (by omega)
  have d3:decide (90 < a) = false:=decide_eq_false (by omega)
  have d5:decide (90 < b) = false:=decide_eq_false (by omega)
  have q1:IntKind.i64.wrap (a + b) = a + b:=IntWalk.i64_in _ (by omega)
  have d4:decide (90 < a + b) = false:=decide_eq_false (by omega)
  go_enter Tryz.func13,Tryz.ntmps13
  go_wp2
  go_ret2
  exact ⟨rfl,rfl⟩
def hotN (a:Int):Nat:=1 + (a % 89).toNat
def warmN (a b:Int):Nat:=1 + (b % ((90 - hotN a:Nat):Int)).toNat
theorem shares_in (a b:Int) : 1 <= hotN a /\ hotN a <= 89 /\ 1 <= warmN a b /\ hotN a + warmN a b <= 90:=by
  have h1:hotN a <= 89:=by unfold hotN; omega
  have h2:b % ((90 - hotN a:Nat):Int) < ((90 - hotN a:Nat):Int):=Int.emod_lt_of_pos _ (by omega)
  have h3 : 0 <= b % ((90 - hotN a:Nat):Int):=Int.emod_nonneg _ (by omega)
  refine ⟨by unfold hotN; omega,h1,by unfold warmN; omega,?_⟩
  unfold warmN
  omega
theorem sharedC (w:World) (a b:Int) (ha:Cls.In a) (hb:Cls.In b):Calls Tryz.prog 17 #[.agg #[.int .i64 a,.int .i64 b]] w fun e w' => e = .returned (.agg #[.int .i64 (hotN a:Int),.int .i64 (warmN a b:Int)]) /\ Below w.heap.size w w':=by
  obtain ⟨s1,s2,s3,s4⟩:=shares_in a b
  have WA:=Lib.hid (fun w => withinI (w:=w) a 89 ha (by omega) (by omega))
  have WB:=Lib.hid (fun w => withinI (w:=w) b (90 - hotN a) hb (by omega) (by omega))
  have e1:hotN a = 1 + (a % ((89:Nat):Int)).toNat:=rfl
  have e2:warmN a b = 1 + (b % ((90 - hotN a:Nat):Int)).toNat:=rfl
  generalize hA:(a % ((89:Nat):Int)).toNat = A at *
  generalize hotN a = H at *
  generalize hB:(b % ((90 - H:Nat):Int)).toNat = B at *
  generalize warmN a b = V at *
  have q1:IntKind.i64.wrap (1 + (A:Int)) = (H:Int):=by rw [IntWalk.i64_in _ (by omega)]; omega
  have q2:IntKind.i64.wrap (90 - (H:Int)) = ((90 - H:Nat):Int):=by rw [IntWalk.i64_in _ (by omega)]; omega
  have q3:IntKind.i64.wrap (1 + (B:Int)) = (V:Int):=by rw [IntWalk.i64_in _ (by omega)]; omega
  generalize 90 - H = D at *
  obtain ⟨w1,hw1⟩:∃ w1,w1 = (w.alloc (.cells #[.int .i64 a,.int .i64 b] 38)).alloc (.cells #[.int .i64 0,.int .i64 0] 38):=⟨_,rfl⟩
  have B1:Blk w1 w.heap.size 38 #[.int .i64 a,.int .i64 b]:=by rw [hw1]; exact (Blk.new w _ _).alloc _
  have C1:Blk w1 (w.heap.size + 1) 38 #[.int .i64 0,.int .i64 0]:=by rw [hw1]; exact blk_new' (World.size_alloc _ _)
  have b1:Below w.heap.size w w1:=by rw [hw1]; exact ((Below.refl _ _).alloc (Nat.le_refl _) _).alloc (by rw [World.size_alloc]; omega) _
  have x0:=B1.cell 0
  have x1:=B1.cell 1
  have c0:=C1.cell 0
  have c1:=C1.cell 1
  have f0:=C1.frozen 0
  have f1:=C1.frozen 1
  replace hw1:=Lib.hid hw1
  replace b1:=Lib.hid b1
  replace hA:=Lib.hid hA
  replace hB:=Lib.hid hB
  clear ha hb s1 s2 s3 s4 e1 e2
  generalize hN:w.heap.size = N at *
  replace hN:=Lib.hid hN
  rw [show ((89:Nat):Int) = 89 from rfl] at WA
  generalize hN1:N + 1 = N1 at *
  have hle:N <= N1:=by omega
  go_enter Tryz.func17,Tryz.ntmps17
  go_upto_region 1 with fail
  rw [hN.out,hN1, <- hw1.out]
  go_wp2_with fail
  refine (WA.out _).mono ?_
  rintro e w' ⟨rfl,rfl⟩
  go_wp2_with fail
  refine (WB.out _).mono ?_
  rintro e w' ⟨rfl,rfl⟩
  go_wp2
  have C2:Blk ((w1.setCell ⟨N1,0,none⟩ (.int .i64 (H:Int))).setCell ⟨N1,1,none⟩ (.int .i64 (V:Int))) N1 38 #[.int .i64 (H:Int),.int .i64 (V:Int)]:=(C1.set_ 0 _).set_ 1 _
  have b2:Below N w ((w1.setCell ⟨N1,0,none⟩ (.int .i64 (H:Int))).setCell ⟨N1,1,none⟩ (.int .i64 (V:Int))):=(b1.out.setCell (p:=⟨N1,0,none⟩) hle _).setCell (p:=⟨N1,1,none⟩) hle _
  exact bodyPost_ret (results_cell_row (P:=Tryz.prog) rfl _ _ N1 38 _ (0,0) _ rfl C2 Tryz.underlying38 rfl (by kernel_rfl)) rfl ⟨rfl,b2⟩
set_option maxHeartbeats 1600000 in
theorem begunC8 (w:World) (a b:Int) (ha:Cls.In a) (hb:Cls.In b):Calls Tryz.prog 23 #[.agg #[.int .i64 a,.int .i64 b]] w fun e w' => Below w.heap.size w w' /\ ∃ (W:W6) (g d:Nat),e = .returned (.pointer (some ⟨W.b,0,none⟩)) /\ W.gm = some g /\ W.dm = some d /\ W.hot = (hotN a:Int) /\ W.warm = (warmN a b:Int) /\
    WAt w.heap.size w' W qc (new0 qc.cf) (List.replicate (qc.cf.ps * qc.cf.np) 0) (fun _ => none) (fun _ _ => []) (fun _ _ => []) rnew0 [] [] [] (fun _ => 0):=by
  obtain ⟨s1,s2,s3,s4⟩:=shares_in a b
  have SC:=fun w => sharedC w a b ha hb
  generalize hotN a = h at *
  generalize warmN a b = v at *
  have n1:=fun w => numC6 w 0
  have LN:=fun w g gq => lruNewC w g gq (h:Int) (v:Int) (by omega) (by omega) (by omega)
  have RN:=fun w g => rlruNewC w g (h:Int) (v:Int) (by omega) (by omega) (by omega)
  obtain ⟨w1,hw1⟩:∃ w1,w1 = w.alloc (.cells #[.int .i64 a,.int .i64 b] 38):=⟨_,rfl⟩
  have B1:Blk w1 w.heap.size 38 #[.int .i64 a,.int .i64 b]:=by rw [hw1]; exact Blk.new w _ _
  have b1:Below w.heap.size w w1:=by rw [hw1]; exact (Below.refl _ _).alloc (Nat.le_refl _) _
  have CC:=Lib.hid (chunksC w1)
  replace SC:=Lib.hid SC
  replace LN:=Lib.hid LN
  replace RN:=Lib.hid RN
  replace hw1:=Lib.hid hw1
  clear ha hb s1 s2 s3 s4
  generalize hN:w.heap.size = N at *
  replace hN:=Lib.hid hN
  go_enter Tryz.func23,Tryz.ntmps23
  go_upto_region 1 with fail
  rw [hN.out, <- hw1.out]
  go_wp2_with fail
  refine CC.out.mono ?_
  rintro e w2 ⟨b2,W,rfl,eg,ed,ev,A2⟩
  have N1:N <= w1.heap.size:=by have:=b1.size; rw [hN.out] at this; exact this
  have b12:=b1.trans (b2.mono (B':=N) N1)
  have B2:=B1.below b2 B1.lt
  have x0:=B2.cell 0
  have x1:=B2.cell 1
  replace b12:=Lib.hid b12
  replace A2:=Lib.hid A2
  replace eg:=Lib.hid eg
  replace ed:=Lib.hid ed
  replace ev:=Lib.hid ev
  clear b1 b2 B1 B2 CC
  go_wp2_with fail
  refine (SC.out w2).mono ?_
  rintro e w3 ⟨rfl,b3⟩
  obtain ⟨w4,hw4⟩:∃ w4,w4 = w3.alloc (.cells #[.int .i64 (h:Int),.int .i64 (v:Int)] 38):=⟨_,rfl⟩
  obtain ⟨M,hM⟩:∃ M,M = w3.heap.size:=⟨_,rfl⟩
  have B4:Blk w4 M 38 #[.int .i64 (h:Int),.int .i64 (v:Int)]:=by rw [hw4,hM]; exact Blk.new w3 _ _
  have c4:Below w2.heap.size w2 w4:=by rw [hw4]; exact b3.alloc b3.size _
  have A4:=A2.out.below c4
  have b4:=b12.out.trans (c4.mono (B':=N) (Nat.le_trans N1 (by have:=A2.out.hN0; exact this)))
  obtain ⟨y0,y1,y3,y4,y6⟩:=A4.cW
  obtain ⟨z2,z5⟩:=A4.cL
  rw [eg.out] at z2
  rw [ed.out] at z5
  unfold ptrO at z2 z5
  have x0:=B4.cell 0
  have x1:=B4.cell 1
  replace hw4:=Lib.hid hw4
  replace hM:=Lib.hid hM
  replace b4:=Lib.hid b4
  replace A4:=Lib.hid A4
  clear b3 c4 A2 b12 SC
  go_upto_region 5 with fail
  rw [<- hM.out, <- hw4.out]
  go_cut [5,6] from 14 to 29 (fun s5 s6 wx => ∃ g:Nat,s5 = .pointer (some ⟨g,0,none⟩) /\ s6 = .int .i64 0 /\ Hid (Below w4.heap.size w4 wx /\ w4.heap.size <= g /\ Blk wx g 97 #[.pointer (some ⟨W.L.g,0,none⟩),.pointer (some ⟨W.gq,0,none⟩),.int .i64 (h:Int),.int .i64 (v:Int)]))
  case first =>
    obtain ⟨wd,hwd⟩:∃ wd,wd = w4.drew:=⟨_,rfl⟩
    have bd:Below w4.heap.size w4 wd:=by rw [hwd]; exact below_drewN (Below.refl _ _) 1
    have Sd:wd.cell? ⟨W.b,0,none⟩ = some (.pointer (some ⟨W.L.g,0,none⟩)) /\ wd.cell? ⟨W.b,1,none⟩ = some (.pointer (some ⟨W.gq,0,none⟩)) /\ wd.cell? ⟨M,0,none⟩ = some (.int .i64 (h:Int)) /\ wd.cell? ⟨M,1,none⟩ = some (.int .i64 (v:Int)):=by rw [hwd]; exact ⟨y0,y1,x0,x1⟩
    replace bd:=Lib.hid bd
    refine wp_region_noPanic ?_
    refine wp_region_held_drew (S:=fun u => u.cell? ⟨W.b,0,none⟩ = some (.pointer (some ⟨W.L.g,0,none⟩)) /\ u.cell? ⟨W.b,1,none⟩ = some (.pointer (some ⟨W.gq,0,none⟩)) /\ u.cell? ⟨M,0,none⟩ = some (.int .i64 (h:Int)) /\ u.cell? ⟨M,1,none⟩ = some (.int .i64 (v:Int))) (by kernel_rfl) (by rw [<- hwd]; exact Sd) (fun hHeld => ?_)
    rw [<- hwd] at hHeld ⊢
    clear hwd
    refine tkh (i:=0) (v:=?_) rfl ?_ ?_
    rotate_left
    · try simp only [qA,qS,qZ]
      rintro w ⟨hS1,hS2,hS3,hS4⟩
      go_simp
      (try with_reducible rfl)
    try simp only [qA,qS,qZ,Act.put,qT,qO,qN]
    refine tkh (i:=1) (v:=?_) rfl ?_ ?_
    rotate_left
    · try simp only [qA,qS,qZ]
      rintro w ⟨hS1,hS2,hS3,hS4⟩
      go_simp
      (try with_reducible rfl)
    try simp only [qA,qS,qZ,Act.put,qT,qO,qN]
    refine tkh (i:=2) (v:=?_) rfl ?_ ?_
    rotate_left
    · try simp only [qA,qS,qZ]
      rintro w ⟨hS1,hS2,hS3,hS4⟩
      go_simp
      (try with_reducible rfl)
    try simp only [qA,qS,qZ,Act.put,qT,qO,qN]
    refine tkh (i:=3) (v:=?_) rfl ?_ ?_
    rotate_left
    · try simp only [qA,qS,qZ]
      rintro w ⟨hS1,hS2,hS3,hS4⟩
      go_simp
      (try with_reducible rfl)
    try simp only [qA,qS,qZ,Act.put,qT,qO,qN]
    refine tkh (i:=4) (v:=?_) rfl ?_ ?_
    rotate_left
    · try simp only [qA,qS,qZ]
      rintro w ⟨hS1,hS2,hS3,hS4⟩
      go_simp
      (try with_reducible rfl)
    try simp only [qA,qS,qZ,Act.put,qT,qO,qN]
    refine tkh (i:=5) (v:=?_) rfl ?_ ?_
    rotate_left
    · try simp only [qA,qS,qZ]
      rintro w ⟨hS1,hS2,hS3,hS4⟩
      go_simp
      (try with_reducible rfl)
    try simp only [qA,qS,qZ,Act.put,qT,qO,qN]
    refine tkh (i:=6) (v:=?_) rfl ?_ ?_
    rotate_left
    · try simp only [qA,qS,qZ]
      rintro w ⟨hS1,hS2,hS3,hS4⟩
      go_simp
      (try with_reducible rfl)
    try simp only [qA,qS,qZ,Act.put,qT,qO,qN]
    refine tkh (i:=7) (v:=?_) rfl ?_ ?_
    rotate_left
    · try simp only [qA,qS,qZ]
      rintro w ⟨hS1,hS2,hS3,hS4⟩
      go_simp
      (try with_reducible rfl)
    try simp only [qA,qS,qZ,Act.put,qT,qO,qN]
    refine tkh (i:=8) (v:=?_) rfl ?_ ?_
    rotate_left
    · try simp only [qA,qS,qZ]
      rintro w ⟨hS1,hS2,hS3,hS4⟩
      go_simp
      (try with_reducible rfl)
    try simp only [qA,qS,qZ,Act.put,qT,qO,qN]
    refine tkh (i:=9) (v:=?_) rfl ?_ ?_
    rotate_left
    · try simp only [qA,qS,qZ]
      rintro w ⟨hS1,hS2,hS3,hS4⟩
      go_simp
      (try with_reducible rfl)
    try simp only [qA,qS,qZ,Act.put,qT,qO,qN]
    refine tkh (i:=10) (v:=?_) rfl ?_ ?_
    rotate_left
    · try simp only [qA,qS,qZ]
      rintro w ⟨hS1,hS2,hS3,hS4⟩
      go_simp
      (try with_reducible rfl)
    try simp only [qA,qS,qZ,Act.put,qT,qO,qN]
    refine tkh (i:=11) (v:=?_) rfl ?_ ?_
    rotate_left
    · try simp only [qA,qS,qZ]
      rintro w ⟨hS1,hS2,hS3,hS4⟩
      go_simp
      (try with_reducible rfl)
    try simp only [qA,qS,qZ,Act.put,qT,qO,qN]
    refine wpAnyH_ready (rs:=[12]) (by kernel_rfl) (by simp) ?_
    refine AllReadyH.cons (o:=_) rfl (fun K hK => ?_) ?_
    · try simp only [qA,qS,qZ]
      go_simp
      go_at_call 12
      refine (LN.out _ _ _).mono ?_
      rintro e we ⟨rfl,hwe⟩
      have be:Below wd.heap.size wd we:=by rw [hwe]; exact (Below.refl _ _).alloc (Nat.le_refl _) _
      have Be:Blk we wd.heap.size 97 #[.pointer (some ⟨W.L.g,0,none⟩),.pointer (some ⟨W.gq,0,none⟩),.int .i64 (h:Int),.int .i64 (v:Int)]:=by rw [hwe]; exact Blk.new wd _ _
      have Se:we.cell? ⟨W.b,0,none⟩ = some (.pointer (some ⟨W.L.g,0,none⟩)) /\ we.cell? ⟨W.b,1,none⟩ = some (.pointer (some ⟨W.gq,0,none⟩)) /\ we.cell? ⟨M,0,none⟩ = some (.int .i64 (h:Int)) /\ we.cell? ⟨M,1,none⟩ = some (.int .i64 (v:Int)):=by
        obtain ⟨u0,u1,u2,u3⟩:=Sd
        exact ⟨(be.cell (World.block_lt_of_cell? _ _ u0)).trans u0,(be.cell (World.block_lt_of_cell? _ _ u1)).trans u1,(be.cell (World.block_lt_of_cell? _ _ u2)).trans u2,(be.cell (World.block_lt_of_cell? _ _ u3)).trans u3⟩
      have fin:=Lib.hid (show Below w4.heap.size w4 we /\ w4.heap.size <= wd.heap.size /\ Blk we wd.heap.size 97 #[.pointer (some ⟨W.L.g,0,none⟩),.pointer (some ⟨W.gq,0,none⟩),.int .i64 (h:Int),.int .i64 (v:Int)] from ⟨bd.out.trans (be.mono bd.out.size),by have:=bd.out.size; omega,Be⟩)
      clear be Be hwe
      go_wp2_with fail
      refine hK.out _ _ Se (fun hHeld => ?_)
      clear hK K hHeld
      try simp only [qA,qS,qZ,Act.put,qT,qO,qN]
      refine tkh (i:=13) (v:=?_) rfl ?_ ?_
      rotate_left
      · try simp only [qA,qS,qZ]
        rintro w ⟨hS1,hS2,hS3,hS4⟩
        go_simp
        (try with_reducible rfl)
      try simp only [qA,qS,qZ,Act.put,qT,qO,qN]
      refine tkh (i:=14) (v:=?_) rfl ?_ ?_
      rotate_left
      · try simp only [qA,qS,qZ]
        rintro w ⟨hS1,hS2,hS3,hS4⟩
        go_simp
        (try with_reducible rfl)
      try simp only [qA,qS,qZ,Act.put,qT,qO,qN]
      refine tkh (i:=15) (v:=?_) rfl ?_ ?_
      rotate_left
      · try simp only [qA,qS,qZ]
        rintro w ⟨hS1,hS2,hS3,hS4⟩
        go_simp
        (try with_reducible rfl)
      try simp only [qA,qS,qZ,Act.put,qT,qO,qN]
      refine tkh (i:=16) (v:=?_) rfl ?_ ?_
      rotate_left
      · try simp only [qA,qS,qZ]
        rintro w ⟨hS1,hS2,hS3,hS4⟩
        go_simp
        (try with_reducible rfl)
      try simp only [qA,qS,qZ,Act.put,qT,qO,qN]
      refine tkh (i:=17) (v:=?_) rfl ?_ ?_
      rotate_left
      · try simp only [qA,qS,qZ]
        rintro w ⟨hS1,hS2,hS3,hS4⟩
        go_simp
        (try with_reducible rfl)
      try simp only [qA,qS,qZ,Act.put,qT,qO,qN]
      refine wpAnyH_done (by kernel_rfl) ?_ _
      refine NoPanic.normal ?_
      go_wp2_with fail
      go_meet
      exact ⟨wd.heap.size,rfl,rfl,fin⟩
    exact AllReadyH.nil
  case rest =>
    obtain ⟨g,rfl,rfl,G⟩:=hcut
    rename World => w5
    obtain ⟨c5,hg5,BL⟩:=G.out
    have A5:=A4.out.below c5
    have B5:=B4.below c5 B4.lt
    have b5:=b4.out.trans (c5.mono (B':=N) (Nat.le_trans N1 (Nat.le_trans (A4.out.base .own W.b (.inl rfl)) (Nat.le_of_lt A4.out.own.lt))))
    obtain ⟨y0,y1,y3,y4,y6⟩:=A5.cW
    have x0:=B5.cell 0
    have x1:=B5.cell 1
    replace A5:=Lib.hid A5
    replace b5:=Lib.hid b5
    replace BL:=Lib.hid BL
    replace c5:=Lib.hid c5
    go_upto_region 6 with fail
    go_cut [7,8] from 30 to 41 (fun s7 s8 wx => ∃ g:Nat,s7 = .pointer (some ⟨g,0,none⟩) /\ s8 = .int .i64 0 /\ Hid (Below w5.heap.size w5 wx /\ w5.heap.size <= g /\ Blk wx g 99 #[.pointer (some ⟨W.R.b,0,none⟩),.int .i64 (h:Int),.int .i64 (v:Int),.slice none 0 0]))
    case first =>
      obtain ⟨wd,hwd⟩:∃ wd,wd = w5.drew:=⟨_,rfl⟩
      have bd:Below w5.heap.size w5 wd:=by rw [hwd]; exact below_drewN (Below.refl _ _) 1
      have Sd:wd.cell? ⟨W.b,4,none⟩ = some (.pointer (some ⟨W.R.b,0,none⟩)) /\ wd.cell? ⟨M,0,none⟩ = some (.int .i64 (h:Int)) /\ wd.cell? ⟨M,1,none⟩ = some (.int .i64 (v:Int)):=by rw [hwd]; exact ⟨y4,x0,x1⟩
      replace bd:=Lib.hid bd
      refine wp_region_noPanic ?_
      refine wp_region_held_drew (S:=fun u => u.cell? ⟨W.b,4,none⟩ = some (.pointer (some ⟨W.R.b,0,none⟩)) /\ u.cell? ⟨M,0,none⟩ = some (.int .i64 (h:Int)) /\ u.cell? ⟨M,1,none⟩ = some (.int .i64 (v:Int))) (by kernel_rfl) (by rw [<- hwd]; exact Sd) (fun hHeld => ?_)
      rw [<- hwd] at hHeld ⊢
      clear hwd
      refine tkh (i:=0) (v:=?_) rfl ?_ ?_
      rotate_left
      · try simp only [qA,qS,qZ]
        rintro w ⟨hS1,hS2,hS3⟩
        go_simp
        (try with_reducible rfl)
      try simp only [qA,qS,qZ,Act.put,qT,qO,qN]
      refine tkh (i:=1) (v:=?_) rfl ?_ ?_
      rotate_left
      · try simp only [qA,qS,qZ]
        rintro w ⟨hS1,hS2,hS3⟩
        go_simp
        (try with_reducible rfl)
      try simp only [qA,qS,qZ,Act.put,qT,qO,qN]
      refine tkh (i:=2) (v:=?_) rfl ?_ ?_
      rotate_left
      · try simp only [qA,qS,qZ]
        rintro w ⟨hS1,hS2,hS3⟩
        go_simp
        (try with_reducible rfl)
      try simp only [qA,qS,qZ,Act.put,qT,qO,qN]
      refine tkh (i:=3) (v:=?_) rfl ?_ ?_
      rotate_left
      · try simp only [qA,qS,qZ]
        rintro w ⟨hS1,hS2,hS3⟩
        go_simp
        (try with_reducible rfl)
      try simp only [qA,qS,qZ,Act.put,qT,qO,qN]
      refine tkh (i:=4) (v:=?_) rfl ?_ ?_
      rotate_left
      · try simp only [qA,qS,qZ]
        rintro w ⟨hS1,hS2,hS3⟩
        go_simp
        (try with_reducible rfl)
      try simp only [qA,qS,qZ,Act.put,qT,qO,qN]
      refine tkh (i:=5) (v:=?_) rfl ?_ ?_
      rotate_left
      · try simp only [qA,qS,qZ]
        rintro w ⟨hS1,hS2,hS3⟩
        go_simp
        (try with_reducible rfl)
      try simp only [qA,qS,qZ,Act.put,qT,qO,qN]
      refine tkh (i:=6) (v:=?_) rfl ?_ ?_
      rotate_left
      · try simp only [qA,qS,qZ]
        rintro w ⟨hS1,hS2,hS3⟩
        go_simp
        (try with_reducible rfl)
      try simp only [qA,qS,qZ,Act.put,qT,qO,qN]
      refine tkh (i:=7) (v:=?_) rfl ?_ ?_
      rotate_left
      · try simp only [qA,qS,qZ]
        rintro w ⟨hS1,hS2,hS3⟩
        go_simp
        (try with_reducible rfl)
      try simp only [qA,qS,qZ,Act.put,qT,qO,qN]
      refine wpAnyH_ready (rs:=[8]) (by kernel_rfl) (by simp) ?_
      refine AllReadyH.cons (o:=_) rfl (fun K hK => ?_) ?_
      · try simp only [qA,qS,qZ]
        go_simp
        go_at_call 13
        refine (RN.out _ _).mono ?_
        rintro e we ⟨rfl,hwe⟩
        have be:Below wd.heap.size wd we:=by rw [hwe]; exact (Below.refl _ _).alloc (Nat.le_refl _) _
        have Be:Blk we wd.heap.size 99 #[.pointer (some ⟨W.R.b,0,none⟩),.int .i64 (h:Int),.int .i64 (v:Int),.slice none 0 0]:=by rw [hwe]; exact Blk.new wd _ _
        have Se:we.cell? ⟨W.b,4,none⟩ = some (.pointer (some ⟨W.R.b,0,none⟩)) /\ we.cell? ⟨M,0,none⟩ = some (.int .i64 (h:Int)) /\ we.cell? ⟨M,1,none⟩ = some (.int .i64 (v:Int)):=by
          obtain ⟨u0,u1,u2⟩:=Sd
          exact ⟨(be.cell (World.block_lt_of_cell? _ _ u0)).trans u0,(be.cell (World.block_lt_of_cell? _ _ u1)).trans u1,(be.cell (World.block_lt_of_cell? _ _ u2)).trans u2⟩
        have fin:=Lib.hid (show Below w5.heap.size w5 we /\ w5.heap.size <= wd.heap.size /\ Blk we wd.heap.size 99 #[.pointer (some ⟨W.R.b,0,none⟩),.int .i64 (h:Int),.int .i64 (v:Int),.slice none 0 0] from ⟨bd.out.trans (be.mono bd.out.size),by have:=bd.out.size; omega,Be⟩)
        clear be Be hwe
        go_wp2_with fail
        refine hK.out _ _ Se (fun hHeld => ?_)
        clear hK K hHeld
        try simp only [qA,qS,qZ,Act.put,qT,qO,qN]
        refine tkh (i:=9) (v:=?_) rfl ?_ ?_
        rotate_left
        · try simp only [qA,qS,qZ]
          rintro w ⟨hS1,hS2,hS3⟩
          go_simp
          (try with_reducible rfl)
        try simp only [qA,qS,qZ,Act.put,qT,qO,qN]
        refine tkh (i:=10) (v:=?_) rfl ?_ ?_
        rotate_left
        · try simp only [qA,qS,qZ]
          rintro w ⟨hS1,hS2,hS3⟩
          go_simp
          (try with_reducible rfl)
        try simp only [qA,qS,qZ,Act.put,qT,qO,qN]
        refine tkh (i:=11) (v:=?_) rfl ?_ ?_
        rotate_left
        · try simp only [qA,qS,qZ]
          rintro w ⟨hS1,hS2,hS3⟩
          go_simp
          (try with_reducible rfl)
        try simp only [qA,qS,qZ,Act.put,qT,qO,qN]
        refine tkh (i:=12) (v:=?_) rfl ?_ ?_
        rotate_left
        · try simp only [qA,qS,qZ]
          rintro w ⟨hS1,hS2,hS3⟩
          go_simp
          (try with_reducible rfl)
        try simp only [qA,qS,qZ,Act.put,qT,qO,qN]
        refine tkh (i:=13) (v:=?_) rfl ?_ ?_
        rotate_left
        · try simp only [qA,qS,qZ]
          rintro w ⟨hS1,hS2,hS3⟩
          go_simp
          (try with_reducible rfl)
        try simp only [qA,qS,qZ,Act.put,qT,qO,qN]
        refine wpAnyH_done (by kernel_rfl) ?_ _
        refine NoPanic.normal ?_
        go_wp2_with fail
        go_meet
        exact ⟨wd.heap.size,rfl,rfl,fin⟩
      exact AllReadyH.nil
    case rest =>
      obtain ⟨d,rfl,rfl,G2⟩:=hcut
      rename World => w6
      obtain ⟨c6,hg6,BD⟩:=G2.out
      have A6:=A5.out.below c6
      have BL6:=BL.out.below c6 BL.out.lt
      have b6:=b5.out.trans (c6.mono (B':=N) (Nat.le_trans N1 (Nat.le_trans (A5.out.base .own W.b (.inl rfl)) (Nat.le_of_lt A5.out.own.lt))))
      obtain ⟨z2,z5⟩:=A6.cL
      rw [eg.out] at z2
      rw [ed.out] at z5
      unfold ptrO at z2 z5
      have f2:=A6.own.frozen 2
      have f5:=A6.own.frozen 5
      have T1:=A6.shares eg.out ed.out (h:Int) (v:Int)
      have lt4:∀ i k,W.foot qc (new0 qc.cf) i k -> k < w4.heap.size:=fun i k e => A4.out.lt i k e
      have hN4:N <= w4.heap.size:=by have:=A4.out.base .own W.b (.inl rfl); have:=A4.out.own.lt; omega
      have T2:=T1.setL eg.out (g:=g) BL6 (fun i e => by
        have:W.foot qc (new0 qc.cf) i g:=by cases i <;> exact e
        have:=lt4 i g this; omega) (Nat.le_trans (by have:=A4.out.hN0; exact this) hg5)
      have gb:d ≠ W.b:=fun e => by have:=A5.out.own.lt; omega
      have BD2:Blk (w6.setCell ⟨W.b,2,none⟩ (.pointer (some ⟨g,0,none⟩))) d 99 (W6.dc { W with hot:=(h:Int),warm:=(v:Int),gm:=some g }):=by
        unfold W6.dc
        rw [ev.out]
        exact BD.far (by exact gb) _
      have lt5:∀ i k,({ W with hot:=(h:Int),warm:=(v:Int),gm:=some g }:W6).foot qc (new0 qc.cf) i k -> k < w5.heap.size:=fun i k e => by
        cases i with
        | lru =>
          have:g = k:=by injection (show some g = some k from e)
          have:=BL.out.lt
          omega
        | set => exact A5.out.lt .set k e
        | ref => exact A5.out.lt .ref k e
        | queue => exact A5.out.lt .queue k e
        | doc => exact A5.out.lt .doc k e
        | own => exact A5.out.lt .own k e
        | act => exact A5.out.lt .act k e
      have T3:=T2.setM (d:=d) ed.out BD2 (by rw [show ({ W with hot:=(h:Int),warm:=(v:Int),gm:=some g }:W6).vA = W.vA from rfl,ev.out]; rfl) (fun i e => by have:=lt5 i d e; omega) (Nat.le_trans (by have:=A5.out.hN0; exact this) hg6)
      have bz:Below N w ((w6.setCell ⟨W.b,2,none⟩ (.pointer (some ⟨g,0,none⟩))).setCell ⟨W.b,5,none⟩ (.pointer (some ⟨d,0,none⟩))):=(b6.setCell (p:=⟨W.b,2,none⟩) (by show N <= W.b; have:=A4.out.base .own W.b (.inl rfl); omega) _).setCell (p:=⟨W.b,5,none⟩) (by show N <= W.b; have:=A4.out.base .own W.b (.inl rfl); omega) _
      replace T3:=Lib.hid (T3.weak N1)
      replace bz:=Lib.hid bz
      clear T1 T2 A6 BL6 BD BD2 c6 b6 lt4 lt5 y0 y1 y3 y4 y6 x0 x1
      go_wp2_with (first | (go_at_call 14; refine (n1 _).mono ?_; rintro e w' ⟨rfl,rfl⟩) | fail)
      go_ret
      exact ⟨bz.out, { W with hot:=(h:Int),warm:=(v:Int),gm:=some g,dm:=some d },g,d,rfl,rfl,rfl,rfl,rfl,T3.out⟩
theorem free_short {s:St} (g:Cls.Good qc.cf s) (ok:qc.cf.Ok) {k:Nat} (hk:k < qc.cf.nc):(s.free k).length <= 16384:=by
 refine nodup_le _ _ (g.nodup k hk) fun p hp => ?_
 obtain ⟨i,x,h1, -, -, -,h5, -,rfl, -⟩:=g.last ok hk hp
 obtain ⟨-, -, -,h6, -⟩:=place_of ok (i:=i) hk h5
 have h9:(i + 1) * qc.cf.ps <= 4 * 4096:=Nat.mul_le_mul (by have:qc.cf.np = 4:=qc_np; omega) (by decide)
 rw [Nat.succ_mul] at h9
 have:=(ok.sz k hk).1
 omega
def oneL (k:Nat) (l:List Nat):Nat -> Nat -> List Nat:=fun a b => if a = 0 /\ b = k then l else []
theorem oneL_at (k:Nat) (l:List Nat):oneL k l 0 k = l:=if_pos ⟨rfl,rfl⟩
theorem oneL_upd (k:Nat) (l l':List Nat):updL (oneL k l) 0 k l' = oneL k l':=by
 funext a b
 unfold updL oneL
 split <;> rfl
theorem oneL_nil (k:Nat):oneL k [] = fun _ _ => []:=by
 funext a b
 unfold oneL
 split <;> rfl
theorem oneL_no {k:Nat} {l:List Nat} {H:Nat} (h:H ∉ l):stK 0 (oneL k l) H = 0:=by
 have key:∀ j,H ∉ oneL k l 0 j:=by
  intro j hm
  unfold oneL at hm
  split at hm
  ·exact h hm
  ·cases hm
 unfold stK
 rw [if_neg (key 0),if_neg (key 1),if_neg (key 2)]
structure RowI (s:St) (Z:Nat -> Option Zd) (told want:List Nat):Prop where
 it:∀ H ∈ told,∃ i x p,findN qc.cf s H = some (i,x,p) /\ s.cls i = 0
 is:∀ H ∈ told,(Z H).isSome = true
 sub:∀ H ∈ want,H ∈ told
 nd:want.Nodup
def Rm (s:St) (i:Nat):Prop:=(i = 0 /\ s = new0 qc.cf) \/ (0 < i /\ (s.free 0).length + i = 64)
theorem Rm.room {s:St} {i:Nat} (ok:qc.cf.Ok) (h:Rm s i) (hi:i < 64):∃ s1,roomS qc.cf s 0 = some s1 /\ (s1.free 0).length + i = 64:=by
 rcases h with ⟨rfl,rfl⟩ | ⟨h1,h2⟩
 ·exact ⟨_,room_new ok 0,by decide⟩
 ·refine ⟨s,?_,h2⟩
  unfold roomS
  split
  ·rename_i e
   rw [e] at h2
   simp at h2
   omega
  ·rfl
theorem Rm.take {s1:St} {i p:Nat} (h:(s1.free 0).length + i = 64) (hi:i < 64):Rm (takeS qc.cf s1 0 p) (i + 1):=by
 refine .inr ⟨by omega,?_⟩
 show (upd s1.free 0 (s1.free 0).dropLast 0).length + (i + 1) = 64
 rw [upd_at,List.length_dropLast]
 omega
theorem RowI.z {s:St} {Z Z':Nat -> Option Zd} {told want:List Nat} (h:RowI s Z told want) (hz:∀ H,(Z' H).isSome = (Z H).isSome):RowI s Z' told want :=
 ⟨h.it,fun H hH => (hz H).trans (h.is H hH),h.sub,h.nd⟩
theorem RowI.make {s s1:St} {Z:Nat -> Option Zd} {told want:List Nat} (ok:qc.cf.Ok) (g:Cls.Good qc.cf s) (h:RowI s Z told want) (hr:roomS qc.cf s 0 = some s1) {l:List Nat} {p:Nat} (hp:s1.free 0 = l ++ [p]) {H0:Nat}
  (h0:H0 = hnd p (s1.gens (p / qc.cf.ps) (p % qc.cf.ps / qc.cf.sz 0))) :
  H0 ∉ told /\ RowI (takeS qc.cf s1 0 p) (upd Z H0 (some ⟨4,0,0⟩)) (told ++ [H0]) want:=by
 obtain ⟨⟨i,x,f,c⟩,A, -⟩:=took_find ok g (by decide) hr hp h0
 have hn:H0 ∉ told:=fun hm => by
  obtain ⟨i,x,p,hf, -⟩:=h.it H0 hm
  exact (A _ _ _ _ hf).2.2.1 rfl
 have it:∀ H ∈ told ++ [H0],∃ i x q,findN qc.cf (takeS qc.cf s1 0 p) H = some (i,x,q) /\ (takeS qc.cf s1 0 p).cls i = 0:=by
  intro H hH
  rcases List.mem_append.1 hH with hH | hH
  ·obtain ⟨i,x,q,hf,hc⟩:=h.it H hH
   exact ⟨i,x,q,(A _ _ _ _ hf).1,(A _ _ _ _ hf).2.1.trans hc⟩
  ·rw [List.mem_singleton] at hH
   subst hH
   exact ⟨i,x,p,f,c⟩
 have is:∀ H ∈ told ++ [H0],(upd Z H0 (some ⟨4,0,0⟩) H).isSome = true:=by
  intro H hH
  by_cases e:H = H0
  ·subst e; rw [upd_at]; rfl
  ·rw [upd_ne _ _ e]
   rcases List.mem_append.1 hH with hH | hH
   ·exact h.is H hH
   ·exact absurd (List.mem_singleton.1 hH) e
 exact ⟨hn,it,is,fun H hH => List.mem_append.2 (.inl (h.sub H hH)),h.nd⟩
theorem RowI.add {s:St} {Z:Nat -> Option Zd} {told want:List Nat} (h:RowI s Z told want) {H:Nat} (hH:H ∈ told) (hn:H ∉ want):RowI s Z told (H :: want) /\ RowI s Z told (want ++ [H]):=by
 refine ⟨⟨h.it,h.is,fun x hx => ?_,List.nodup_cons.2 ⟨hn,h.nd⟩⟩,⟨h.it,h.is,fun x hx => ?_,List.nodup_append.2 ⟨h.nd,by simp,fun a ha b hb e => ?_⟩⟩⟩
 ·rcases List.mem_cons.1 hx with rfl | hx
  ·exact hH
  ·exact h.sub x hx
 ·rcases List.mem_append.1 hx with hx | hx
  ·exact h.sub x hx
  ·rw [List.mem_singleton] at hx; exact hx ▸ hH
 ·rw [List.mem_singleton] at hb
  exact hn (hb ▸ e ▸ ha)
section
variable {s:St} {Z:Nat -> Option Zd} {told want:List Nat} (h:RowI s Z told want) {H:Nat} (hH:H ∈ told) {k:Nat} (hk:k < 3) {l:List Nat}
include h hH
theorem RowI.cl:clsN qc s H = 0:=by
 obtain ⟨i,x,p,hf,hc⟩:=h.it H hH
 unfold clsN
 rw [hf]
 exact hc
theorem RowI.lt (ok:qc.cf.Ok) (g:Cls.Good qc.cf s):H < 18446744073709551616:=by
 obtain ⟨i,x,p,hf,hc⟩:=h.it H hH
 exact good_lt ok g hf
include hk
theorem RowI.push (hn:H ∉ l) (last:Bool):pushN qc s Z (oneL k l) H ((k:Int) + 1) last = (0,oneL k (if last then l ++ [H] else H :: l)):=by
 obtain ⟨i,x,p,hf,hc⟩:=h.it H hH
 have ei:isN qc s Z H = true:=by unfold isN; rw [hf,h.is H hH]; rfl
 unfold pushN
 rw [if_neg (by omega),if_neg (by rw [ei]; exact Bool.noConfusion),h.cl hH,if_neg (fun e => e (oneL_no hn)),show ((k:Int) + 1).toNat - 1 = k by omega]
 unfold putN
 rw [oneL_at,oneL_upd]
end
end Go.Proofs.YtngehaiigbbknaaGreat.Que
/-
  The queue's iterators: along.
-/
namespace Go.Proofs.YtngehaiigbbknaaGreat.Que
open Go.RowKit Base Arena Cls Itm Go.Shelf
attribute [local go_sem] Oper.semAt_some
abbrev HU:={ H:Nat // H < 18446744073709551616 }
def hu (x:HU):Array Value:=#[.int .u64 (x.1:Int)]
theorem grown_of_below {w w':World} (h:Below w.heap.size w w'):w.grownBy w' none:=⟨h.os,h.tape,h.output,h.size,fun k hk _ => h.block k hk⟩
end Go.Proofs.YtngehaiigbbknaaGreat.Que
/-
  The queue's iterators: along's closure.
-/
namespace Go.Proofs.YtngehaiigbbknaaGreat.Que
open Go.RowKit Base Arena Cls Itm Go.Shelf
attribute [local go_sem] Oper.semAt_some
end Go.Proofs.YtngehaiigbbknaaGreat.Que
/-
  A range over a function whose iterator holds a range of its own: what a round keeps is told of all blocks but loops' records and rows of uint64. Nothing here names a function of the program.
-/
namespace Go.Proofs.YtngehaiigbbknaaGreat.Que
open Go.RowKit Base Arena Cls Itm Go.Shelf
def prot:Obj -> Bool
 | .loop _ => false
 | .cells _ t _ => decide (t ≠ 50)
 | _ => true
structure KeepP (D:Nat) (A B:World):Prop where
 size:A.heap.size <= B.heap.size
 same:∀ (b:Nat) (o:Obj),D <= b -> A.heap[b]? = some o -> prot o = true -> B.heap[b]? = some o
theorem KeepP.refl (D:Nat) (A:World):KeepP D A A:=⟨Nat.le_refl _,fun _ _ _ h _ => h⟩
theorem KeepP.trans {D:Nat} {A B C:World} (h:KeepP D A B) (k:KeepP D B C):KeepP D A C:=⟨Nat.le_trans h.size k.size,fun b o hb ho hp => k.same b o hb (h.same b o hb ho hp) hp⟩
theorem KeepP.only {D:Nat} {S:Nat -> Prop} {A B:World} (h:Only S A B) (hs:∀ b o,D <= b -> A.heap[b]? = some o -> prot o = true -> ¬ S b):KeepP D A B:=⟨h.size,fun b o hb ho hp => (h.block b (heap_lt ho) (hs b o hb ho hp)).trans ho⟩
theorem KeepP.putLoop {D:Nat} (A:World) (l:Nat) {r:Loop} (o':Obj) (h:A.heap[l]? = some (.loop r)):KeepP D A (A.putObj l o') :=
 ⟨(grownBy_putObj' A l o').size,fun b o _ ho hp => (World.putObj_heap_other (fun e => by subst e; rw [h] at ho; cases ho; cases hp)).trans ho⟩
def roundEnd {α:Type} (D l:Nat) (I:List α -> World -> Prop) (Ix:Code -> List α -> World -> Prop) (xs:List α) (W:World):Exit -> Act -> World -> Prop
 | .normal,_,W' => KeepP D W W' /\ W'.heap[l]? = W.heap[l]? /\ I xs W'
 | .ret,_,W' => KeepP D W W' /\ W'.heap[l]? = W.heap[l]? /\ Ix .ret xs W'
 | .exit id,_,W' => KeepP D W W' /\ W'.heap[l]? = W.heap[l]? /\ Ix (.exit id) xs W'
 | .goto t,_,W' => KeepP D W W' /\ W'.heap[l]? = W.heap[l]? /\ Ix (.goto t) xs W'
 | .panic _,_,_ => False
 | .outgrown,_,_ => False
def SeqP {α:Type} (n:Nat) (P:Program) (g:Nat) (lb:Array Value) (encs : α -> Array Value) (Kp:World -> World -> Prop) (S Sp:List α -> Prop) (N:Nat) (w:World):Prop :=
 ∀ (l:Nat) (J Jx:List α -> World -> Prop) (W:World),Below w.heap.size w W -> OwnFrom W.heap.size J -> OwnFrom W.heap.size Jx ->
  (∀ pre x W1,J pre W1 -> pre.length < N -> YieldAt Fence.wide (n - 1) P l (encs x) W1 fun e W' =>
   (e = .returned (.bool true) /\ J (pre ++ [x]) W' /\ Kp W1 W') \/ (e = .returned (.bool false) /\ Jx (pre ++ [x]) W' /\ Kp W1 W')) ->
  J [] W ->
  CallsIn Fence.wide n P g (#[.func (.yield l) #[] #[]] ++ lb) W fun e W' => (∃ v,e = .returned v) /\ ((∃ xs,S xs /\ J xs W') \/ (∃ pre,Sp pre /\ Jx pre W'))
section
variable {P:Program} {n:Nat} {w:World}
theorem range_law {α:Type} {g:Operand} {ps:Array Tmp} {assign body:Code} {Q:Exit -> Act -> World -> Prop} {a:Act} (h1 : 1 <= n) {gf:Nat} {lb:Array Value} (hg:a.eval g = .func (.func gf) #[] lb)
  (eg:∀ args w,(callFunc gf args).run P w = .ok (.enter gf args) w) {encs : α -> Array Value} {S Sp:List α -> Prop} {N:Nat} (hseq:SeqP (n - 1) P gf lb encs (KeepP w.heap.size) S Sp N w) (hps:∀ x,(encs x).size = ps.size)
  (I:List α -> World -> Prop) (Ix:Code -> List α -> World -> Prop) (hI:OwnFrom w.heap.size I) (hIx:∀ c,OwnFrom w.heap.size (Ix c)) (h0:I [] w) (a₁ : α -> Act)
  (hassign:∀ (l:Nat) (x : α) (W:World) (K:Act -> World -> Prop),K (a₁ x) W ->
   assign.wpIn (Fence.wide.inRound l) (n - 1 - 1) P (Exit.then K (fun _ _ _ => False)) { tmps:=(ps.zip (encs x)).foldl (fun t (p,v) => t.setIfInBounds p v) a.tmps,defers:=[] } W)
  (hbody:∀ (l:Nat) (pre:List α) (x : α) (W:World),w.heap.size < l -> l < W.heap.size -> (∃ r,W.heap[l]? = some (.loop r)) -> I pre W -> pre.length < N -> body.wpIn (Fence.wide.inRound l) (n - 1 - 1) P (roundEnd w.heap.size l I Ix (pre ++ [x]) W) (a₁ x) W)
  (hdone:∀ (D:Nat) (xs:List α) (W:World),w.heap.size <= D -> S xs -> I xs W -> W.heap[D]? = some (.deferred (some [])) -> Q .normal { a with defers:={ target:=.collected D,args:=#[] } :: a.defers } W)
  (hstop:∀ (D:Nat) (c:Code) (pre:List α) (W:World),w.heap.size <= D -> Sp pre -> Ix c pre W -> W.heap[D]? = some (.deferred (some [])) -> c.wpIn Fence.wide n P Q { a with defers:={ target:=.collected D,args:=#[] } :: a.defers } W) :
  (Code.rangeFunc g ps assign body).wpIn Fence.wide n P Q a w:=by
 refine wpIn_rangeFunc ?_
 intro fn hfn
 rw [show Fence.wide.round = none from rfl]
 obtain ⟨M,hM⟩:∃ M,M = w.heap.size:=⟨_,rfl⟩
 obtain ⟨rec,hrec⟩:∃ rec:LoopState -> Option Code -> Loop,rec = fun st pe => { state:=st,pending:=pe,fn,tmps:=a.tmps,params:=ps,assign,body,defers:=M }:=⟨_,rfl⟩
 obtain ⟨W1,hW1⟩:∃ W1,W1 = (w.alloc (.deferred (some []))).alloc (.loop (rec .ready none)):=⟨_,rfl⟩
 have z1:W1.heap.size = M + 2:=by rw [hW1,hM,World.size_alloc,World.size_alloc]
 have hD1:W1.heap[M]? = some (.deferred (some [])):=by rw [hW1,hM]; exact (Below.heap_alloc _ _ _ (by simp)).trans (World.alloc_heap_new w _)
 have hL1:W1.heap[M + 1]? = some (.loop (rec .ready none)):=by
  have:=World.alloc_heap_new (w.alloc (.deferred (some []))) (.loop (rec .ready none))
  rw [World.size_alloc] at this
  rw [hW1,hM]; exact this
 have b1:Below w.heap.size w W1:=by rw [hW1]; exact ((Below.refl _ w).alloc (Nat.le_refl _) _).alloc (by simp) _
 have i1:I [] W1:=by rw [hW1]; exact hI.alloc _ (hI.alloc _ h0)
 rw [<- hM] at hI hIx hseq hbody hdone hstop b1
 refine ⟨M + 1,[{ target:=.collected M,args:=#[] }],W1, { target:=.fn (.func gf) lb,args:=#[.func (.yield (M + 1)) #[] #[]] },W1,gf,#[.func (.yield (M + 1)) #[] #[]] ++ lb,W1,?_,?_,?_,?_,fun _ => h1,?_⟩
 ·rw [hW1,hrec,hM]
  exact run_enterLoop_outer _ _ _ _ _
 ·simp only [resolve,hg]
  simp [go_sem]
 ·intro f' hf'
  trivial
 ·simp [invoke,go_sem,eg]
 obtain ⟨Kn,hKn⟩:∃ Kn:LoopState -> Option Code -> World -> Prop,Kn = fun st pe W => W.heap[M + 1]? = some (.loop (rec st pe)) /\ W.heap[M]? = some (.deferred (some [])):=⟨_,rfl⟩
 have kK:∀ {st pe} {A B:World} {row:Option Nat},Kn st pe A -> A.grownBy B row -> (∀ r,row = some r -> W1.heap.size <= r /\ ∃ o:Obj,A.heap[r]? = some o /\ o.isCells = false) -> Kn st pe B:=by
  intro st pe A B row h hg' hr
  rw [hKn] at h ⊢
  have ne:∀ k,k < M + 2 -> some k ≠ row:=fun k hk e => by have:=(hr k e.symm).1; omega
  exact ⟨(hg'.block _ (heap_lt h.1) (ne _ (by omega))).trans h.1,(hg'.block _ (heap_lt h.2) (ne _ (by omega))).trans h.2⟩
 have rw_:∀ {A:World} {row:Option Nat},(∀ r,row = some r -> W1.heap.size <= r /\ ∃ o:Obj,A.heap[r]? = some o /\ o.isCells = false) -> ∀ r,row = some r -> M <= r /\ ∃ o:Obj,A.heap[r]? = some o /\ o.isCells = false:=by
  intro A row hr r e
  obtain ⟨hB,o,ho,hw⟩:=hr r e
  exact ⟨by omega,o,ho,hw⟩
 have turn:∀ {st pe st' pe'} {A:World},Kn st pe A -> Kn st' pe' (A.putObj (M + 1) (.loop (rec st' pe'))):=by
  intro st pe st' pe' A h
  rw [hKn] at h ⊢
  exact ⟨World.putObj_heap_same (heap_lt h.1),(World.putObj_heap_other (by omega)).trans h.2⟩
 refine (hseq (M + 1) (fun pre W => I pre W /\ Kn .ready none W) (fun pre W => ∃ c,Ix c pre W /\ Kn .done (some c) W) W1 (by rw [<- hM]; exact b1)
  (fun s A B row hs hg' hr => ⟨hI s A B row hs.1 hg' (rw_ (A:=A) hr),kK hs.2 hg' hr⟩)
  (fun s A B row hs hg' hr => by
   obtain ⟨c,hc,hk⟩:=hs
   exact ⟨c,hIx c s A B row hc hg' (rw_ (A:=A) hr),kK hk hg' hr⟩) ?_ ⟨i1,by rw [hKn]; exact ⟨hL1,hD1⟩⟩).mono ?_
 ·rintro pre x W ⟨hi,hk⟩ hlen
  have hl:W.heap[M + 1]? = some (.loop (rec .ready none)):=by rw [hKn] at hk; exact hk.1
  have hy:=run_yield (P:=P) (args:=encs x) hl (by rw [hrec]; exact hps x)
  rw [hrec] at hy
  have hk2:Kn .busy none (W.putObj (M + 1) (.loop (rec .busy none))):=turn hk
  have hl2:(W.putObj (M + 1) (.loop (rec .busy none))).heap[M + 1]? = some (.loop (rec .busy none)):=by rw [hKn] at hk2; exact hk2.1
  refine ⟨fn,_,assign,body,hy,roundIn_of_wpIn hfn (hassign _ x W _ ⟨W.putObj (M + 1) (.loop (rec .busy none)),?_,?_⟩)⟩
  ·have:=run_beginRound (P:=P) hl (by rw [hrec])
   rw [hrec] at this ⊢
   exact this
  refine wpIn_mono (hbody (M + 1) pre x _ (by omega) (heap_lt hl2) ⟨_,hl2⟩ (hI.putObj _ hi (by omega) hl rfl) hlen) ?_
  have fin:∀ (jump:Option Code) (W3:World),KeepP M (W.putObj (M + 1) (.loop (rec .busy none))) W3 -> W3.heap[M + 1]? = (W.putObj (M + 1) (.loop (rec .busy none))).heap[M + 1]? ->
    (Instr.endRound (M + 1) jump).run P W3 = .ok (.bool jump.isNone) (W3.putObj (M + 1) (.loop (rec (if jump.isNone then .ready else .done) jump))) /\ W3.heap[M + 1]? = some (.loop (rec .busy none)) /\ Kn (if jump.isNone then .ready else .done) jump (W3.putObj (M + 1) (.loop (rec (if jump.isNone then .ready else .done) jump))):=by
   intro jump W3 kp hl3
   have hl3:=hl3.trans hl2
   have hd3:W3.heap[M]? = some (.deferred (some [])):=kp.same M _ (Nat.le_refl _) (by rw [hKn] at hk2; exact hk2.2) rfl
   have hr:=run_endRound (P:=P) jump (w:=W3) (l:=M + 1) (by rw [hrec] at hl3; exact hl3)
   refine ⟨by rw [hrec]; exact hr,hl3,?_⟩
   have:Kn .busy none W3:=by rw [hKn]; exact ⟨hl3,hd3⟩
   exact turn this
  have out:∀ (c:Code) (W3:World),KeepP M (W.putObj (M + 1) (.loop (rec .busy none))) W3 -> W3.heap[M + 1]? = (W.putObj (M + 1) (.loop (rec .busy none))).heap[M + 1]? -> Ix c (pre ++ [x]) W3 ->
    ∃ c' ,Ix c' (pre ++ [x]) (W3.putObj (M + 1) (.loop (rec .done (some c)))) /\ Kn .done (some c') (W3.putObj (M + 1) (.loop (rec .done (some c)))):=by
   intro c W3 kp hl3 hi3
   obtain ⟨-,hl4,hk4⟩:=fin (some c) W3 kp hl3
   exact ⟨c,(hIx c).putObj _ hi3 (by omega) hl4 rfl,hk4⟩
  have kall:∀ (jump:Option Code) (W3:World),KeepP M (W.putObj (M + 1) (.loop (rec .busy none))) W3 -> W3.heap[M + 1]? = some (.loop (rec .busy none)) -> KeepP M W (W3.putObj (M + 1) (.loop (rec (if jump.isNone then .ready else .done) jump))):=fun jump W3 kp hl4 =>
   ((KeepP.putLoop W (M + 1) _ hl).trans kp).trans (KeepP.putLoop W3 (M + 1) _ hl4)
  rintro e a3 W3 hp
  cases e with
  | normal =>
   obtain ⟨kp,hl3,hi3⟩:=hp
   obtain ⟨hr,hl4,hk4⟩:=fin none W3 kp hl3
   exact ⟨_,_,hr,.inl ⟨rfl,⟨hI.putObj _ hi3 (by omega) hl4 rfl,hk4⟩,((KeepP.putLoop W (M + 1) _ hl).trans kp).trans (KeepP.putLoop W3 (M + 1) _ hl4)⟩⟩
  | ret =>
   obtain ⟨kp,hl3,hi3⟩:=hp
   exact ⟨_,_,(fin (some .ret) W3 kp hl3).1,.inr ⟨rfl,out .ret W3 kp hl3 hi3,kall (some .ret) W3 kp (fin (some .ret) W3 kp hl3).2.1⟩⟩
  | exit id =>
   obtain ⟨kp,hl3,hi3⟩:=hp
   exact ⟨_,_,(fin (some (.exit id)) W3 kp hl3).1,.inr ⟨rfl,out (.exit id) W3 kp hl3 hi3,kall (some (.exit id)) W3 kp (fin (some (.exit id)) W3 kp hl3).2.1⟩⟩
  | goto t =>
   obtain ⟨kp,hl3,hi3⟩:=hp
   exact ⟨_,_,(fin (some (.goto t)) W3 kp hl3).1,.inr ⟨rfl,out (.goto t) W3 kp hl3 hi3,kall (some (.goto t)) W3 kp (fin (some (.goto t)) W3 kp hl3).2.1⟩⟩
  | panic ch => exact hp.elim
  | outgrown => exact hp.elim
 ·rintro e W2 ⟨⟨v,rfl⟩,(⟨xs,hS,hi,hk⟩ | ⟨pre,hSp,c,hi,hk⟩)⟩
  ·rw [hKn] at hk
   have hr:=run_endLoop (P:=P) hk.1 (by rw [hrec]; simp)
   rw [hrec] at hr
   exact ⟨none,_,hr,hdone M xs _ (Nat.le_refl _) hS (hI.putObj _ hi (by omega) hk.1 rfl) ((World.putObj_heap_other (by omega)).trans hk.2)⟩
  ·rw [hKn] at hk
   have hr:=run_endLoop (P:=P) hk.1 (by rw [hrec]; simp)
   rw [hrec] at hr
   exact ⟨some c,_,hr,hstop M c pre _ (Nat.le_refl _) hSp ((hIx c).putObj _ hi (by omega) hk.1 rfl) ((World.putObj_heap_other (by omega)).trans hk.2)⟩
end
attribute [local go_sem] Oper.semAt_some
theorem infoH:(Tryz.prog.info? 51).map (fun i => (i.zero,i.size,i.bytes)) = some (some (.int .u64 0),1,8):=by kernel_rfl
theorem own_less {w:World} {N B n:Nat} {e:TypeId} {v:Value} {xs:List Value} (h:w.ownsRow B e 1 v n xs) (hN:N <= B):w.ownsRow N e 1 v n xs :=
 ⟨h.1,h.2.imp id fun ⟨g,cap,cur,e1,hB,hh⟩ => ⟨g,cap,cur,e1,by omega,hh⟩⟩
def hv (x:HU):Value:=.int .u64 (x.1:Int)
end Go.Proofs.YtngehaiigbbknaaGreat.Que
