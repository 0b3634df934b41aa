/-
  Contracts and lemmas, joined: QueueMakes2, QueueMakes3, QueueItem, QueueMakes4, QueueDoes, QueueTwo, QueueWI, QueueMade, QueueSwap, Ref6Swap, QueueLooks, QueueHeader, QueueMoves0.
-/
import Derived.Lib.QuietBelow
import Derived.Test.YtfjiphibalhcgaaGreatG6
import Derived.Test.YtfjiphibalhcgaaGreatG9
set_option linter.unusedSimpArgs false
set_option linter.unusedVariables false
set_option linter.unusedSectionVars false
set_option maxRecDepth 100000
/-
  The walk of makes: a chunk is taken.
-/
namespace Go.Proofs.YtfjiphibalhcgaaGreat.Que
open Go.RowKit Base Arena Cls Itm
theorem took6_begin {N:Nat} {w:World} {W:W6} {s:St} {bs:List UInt8} {Z:Nat -> Option Zd} {Ls Ld:Nat -> Nat -> List Nat} {r:RS} {laid told:List Nat} (h:WAt N w W qc s bs Z Ls Ld r laid told) (o:Op6) :
  Took6 N w.heap.size w (w.alloc (.cells o.cells 28)) W s W s bs Z Ls Ld r laid told o :=
 ⟨h.below ((Below.refl _ _).alloc (Nat.le_refl _) _),Blk.new w _ _,fun i hi => by have:=h.lt i _ hi; omega,(Below.refl N w).alloc h.hN0 _,(Grew.refl _ _ _ _).step ((Below.refl _ _).alloc (Nat.le_refl _) _)⟩
section
variable {N N0:Nat} {w0 w:World} {W0:W6} {s0:St} {W:W6} {s:St} {bs:List UInt8} {Z:Nat -> Option Zd} {Ls Ld:Nat -> Nat -> List Nat} {r:RS} {laid told:List Nat} {o:Op6} (h:Took6 N N0 w0 w W0 s0 W s bs Z Ls Ld r laid told o)
include h
theorem Took6.take {w':World} {L':Lay} {s1:St} {k:Nat} (hk:k < qc.cf.nc) (hr:roomS qc.cf s k = some s1) {l:List Nat} {p:Nat} (hp:s1.free k = l ++ [p]) {H0:Nat} (h0:H0 = hnd p (s1.gens (p / qc.cf.ps) (p % qc.cf.ps / qc.cf.sz k))) (G:Nat) (eg:L'.g = W.L.g)
  (hb:bs.length = qc.cf.ps * qc.cf.np) (M:SetAt w' L' qc (takeS qc.cf s1 k p) (takeB bs p G)) (We:Went w w' W.L L' qc s (takeS qc.cf s1 k p)):Took6 N N0 w0 w' W0 s0 { W with L:=L' } (takeS qc.cf s1 k p) (takeB bs p G) (upd Z H0 none) Ls Ld r laid told o:=by
 obtain ⟨A,B⟩:=We.away h.op (h.far .set)
 refine ⟨h.wat.take hk hr hp h0 G eg hb M We,A,fun i hi => ?_,h.below.trans (We.only.toBelow (B:=N) fun k hk => ⟨by have:=h.wat.hN0; omega,fun e => by have:=h.wat.base .set k e; omega⟩),h.grew.trans (grew_take We)⟩
 cases i with
 | set => exact B hi
 | ref => exact h.far .ref hi
 | queue => exact h.far .queue hi
 | doc => exact h.far .doc hi
 | own => exact h.far .own hi
theorem Took6.rtake {w':World} {M':RL} {r':RS} (R:RSetAt w' M' qc r') (We:RWent w w' W.M M' qc):Took6 N N0 w0 w' W0 s0 { W with M:=M' } s bs Z Ls Ld r' laid told o:=by
 refine ⟨h.wat.rtake R We,(We.only.block _ h.op.lt (h.far .ref)).trans h.op,fun i hi => ?_,h.below.trans (We.only.toBelow (B:=N) fun k hk => ⟨by have:=h.wat.hN0; omega,fun e => by have:=h.wat.base .ref k e; omega⟩),h.grew.trans (grew_rtake We)⟩
 cases i with
 | set => exact h.far .set hi
 | ref =>
  rcases We.foot _ hi with h1 | h1
  ·exact h.far .ref h1
  ·have:=h.op.lt; omega
 | queue => exact h.far .queue hi
 | doc => exact h.far .doc hi
 | own => exact h.far .own hi
theorem Took6.tell {w6:World} {v':Value} {H:Nat} (oo:Only (fun b => W.vT.ownBlock = some b) w w6) (own6:w6.ownsRow 0 26 1 v' (told.length + 1) (told.map uv ++ [uv H])) (hat:∀ b,v'.ownBlock = some b -> W.vT.ownBlock = some b \/ w.heap.size <= b) :
  Took6 N N0 w0 (w6.setCell ⟨W.b,4,none⟩ v') W0 s0 { W with vT:=v' } s bs Z Ls Ld r laid (told ++ [H]) o:=by
 have o2:=only_cell1 (S:=fun b => b = W.b \/ W.vT.ownBlock = some b) w6 W.b 4 v' (.inl rfl)
 have o3:Only (fun b => b = W.b \/ W.vT.ownBlock = some b) w (w6.setCell ⟨W.b,4,none⟩ v'):=(oo.mono fun b _ e => .inr e).trans o2 fun _ _ h => h
 refine ⟨h.wat.tell oo own6 hat,(o3.block _ h.op.lt (h.far .own)).trans h.op,fun i hi => ?_,h.below.trans (o3.toBelow (B:=N) fun k hk => ⟨by have:=h.wat.hN0; omega,fun e => by have:=h.wat.base .own k e; omega⟩),h.grew.trans (grew_tell o3 hat)⟩
 cases i with
 | set => exact h.far .set hi
 | ref => exact h.far .ref hi
 | queue => exact h.far .queue hi
 | doc => exact h.far .doc hi
 | own =>
  rcases hi with h1 | h1
  ·exact h.far .own (.inl h1)
  ·rcases hat _ h1 with h2 | h2
   ·exact h.far .own (.inr h2)
   ·have:=h.op.lt; omega
end
theorem rroom_len {r r1:RS} {k:Nat} (hk:k < 3) (hr:rroomS qc.cf r k = some r1):r1.ch.length <= r.ch.length + 64:=by
 have hn:=(qc_sz k hk).2
 unfold rroomS at hr
 split at hr
 ·split at hr
  ·injection hr with hr
   subst hr
   unfold rpage rcuts
   simp
   omega
  ·cases hr
 ·injection hr with hr
  subst hr
  omega
section
variable {N:Nat} {w:World} {W:W6} {s:St} {bs:List UInt8} {Z:Nat -> Option Zd} {Ls Ld:Nat -> Nat -> List Nat} {r:RS} {laid told:List Nat} (h:WAt N w W qc s bs Z Ls Ld r laid told)
include h
set_option maxHeartbeats 1600000 in
theorem makesBare (o:Op6) (ok:o.Ok) (Rl:Rel qc.cf s r) (hb:bs.length = qc.cf.ps * qc.cf.np) (hlen:r.ch.length + 16384 <= 1073741824) (hfr:(s.free (o.b % 3).toNat).length + 16384 <= 1073741824) (htl:told.length + 1 <= 1073741824)
  {s1:St} (hr:roomS qc.cf s (o.b % 3).toNat = some s1) {l:List Nat} {p:Nat} (hp:s1.free (o.b % 3).toNat = l ++ [p]) {H0:Nat} (h0:H0 = hnd p (s1.gens (p / qc.cf.ps) (p % qc.cf.ps / qc.sz (o.b % 3).toNat))) (hd:o.dO = 2) :
  Calls Tryz.prog 20 #[.pointer (some ⟨W.b,0,none⟩),.agg o.cells] w fun e w' => e = .returned (.bool true) /\ Below N w w' /\ ∃ W' r',W'.b = W.b /\ Grew qc w w' W W' s (takeS qc.cf s1 (o.b % 3).toNat p) /\ Rel qc.cf (takeS qc.cf s1 (o.b % 3).toNat p) r' /\ r'.ch.length <= r.ch.length + 16384 /\
   WAt N w' W' qc (takeS qc.cf s1 (o.b % 3).toNat p) (takeB bs p (s1.gens (p / qc.cf.ps) (p % qc.cf.ps / qc.sz (o.b % 3).toNat))) (upd Z H0 none) Ls Ld r' laid (told ++ [H0]):=by
 have hk:(o.b % 3).toNat < 3:=by omega
 have hkn:(o.b % 3).toNat < qc.nc:=by rw [qc_nc]; exact hk
 have T1:=took6_begin h o
 obtain ⟨w1,hw1⟩:∃ w1,w1 = w.alloc (.cells o.cells 28):=⟨_,rfl⟩
 rw [<- hw1] at T1
 have WC:=withinI o.b 3 ok.b (by omega) (by omega)
 rw [show ((3:Nat):Int) = 3 from rfl] at WC
 have TC:=takeYes w1 W.L qc s bs T1.wat.set T1.wat.good _ hkn s1 hr l p hp
 rw [<- h0] at TC
 have okc:=T1.wat.okc
 have g1:=(room_good okc T1.wat.good hkn hr).1
 obtain ⟨r1,hr1,Rl1⟩:=(Rl.room okc T1.wat.good (k:=(o.b % 3).toNat) hkn).2 s1 hr
 obtain ⟨l',j,hj,hx,Rl2⟩:=Rl1.take okc g1 hkn hp
 generalize hkE:(o.b % 3).toNat = k at *
 have RK:=fun w2 M' (R:RSetAt w2 M' qc r) => rtakeYes w2 M' qc r R hlen k hkn (by rw [Rl.row_len hkn]; exact hfr) r1 hr1 l' j _ hj hx (Nat.le_of_lt (Nat.lt_of_lt_of_le (Rl1.pl j _ hx) (by decide))) (g1.gen _ _)
 have hnm:(RC.name ⟨p,k,s1.gens (p / qc.cf.ps) (p % qc.cf.ps / qc.cf.sz k),false,false⟩) = H0:=h0.symm
 have hcl:(rtake r1 k j).ch.length <= r.ch.length + 16384:=by
  have:=rroom_len hk hr1
  unfold rtake
  simp only [List.length_modify]
  omega
 obtain ⟨x0,y0,y2,y3,y4⟩:=T1.cells
 have xb:w1.cell? ⟨w.heap.size,2,none⟩ = some (.int .i64 o.b):=T1.op.cell 2
 rw [hd] at x0
 have n1:=fun w => numC6 w 0
 have H9:(takeS qc.cf s1 k p) = takeS qc.cf s1 k p:=rfl
 replace TC:=Lib.hid TC
 replace WC:=Lib.hid WC
 replace T1:=Lib.hid T1
 replace hnm:=Lib.hid hnm
 replace Rl2:=Lib.hid Rl2
 replace hcl:=Lib.hid hcl
 replace hp:=Lib.hid hp
 replace hr:=Lib.hid hr
 replace h0:=Lib.hid h0
 replace hb:=Lib.hid hb
 replace htl:=Lib.hid htl
 replace hkn:=Lib.hid hkn
 replace hkE:=Lib.hid hkE
 clear Rl Rl1 hj hx hr1 g1 okc hlen hfr H9 hk
 replace RK:=Lib.hid RK
 have hdE:=Lib.hid hd
 unfold Op6.cells at hw1 ⊢
 rw [hd] at hw1 ⊢
 replace hw1:=Lib.hid hw1
 clear hd
 generalize hN:w.heap.size = N0 at *
 replace hN:=Lib.hid hN
 go_enter Tryz.func20,Tryz.ntmps20
 go_upto_region 1 with fail
 rw [hN.out, <- hw1.out]
 go_wp2_with fail
 refine (WC.out _).mono ?_
 rintro e w' ⟨rfl,rfl⟩
 go_wp2_with fail
 refine TC.out.mono ?_
 rintro e w2 ⟨rfl,L',eg,M2,We2⟩
 have T2:=T1.out.take (H0:=H0) hkn.out hr.out hp.out h0.out _ eg hb.out M2 We2
 obtain ⟨x0,y0,y2,y3,y4⟩:=T2.cells
 rw [hdE.out] at x0
 have RC2:=RK.out w2 W.M T2.wat.ref
 rw [hnm.out] at RC2
 replace RC2:=Lib.hid RC2
 replace T2:=Lib.hid T2
 clear TC WC T1 M2 We2 RK hw1 eg
 go_wp2_with fail
 refine RC2.out.mono ?_
 rintro e w3 ⟨rfl,M',R3,We3⟩
 have T3:=T2.out.rtake R3 We3
 obtain ⟨x0,y0,y2,y3,y4⟩:=T3.cells
 rw [hdE.out] at x0
 have wb:=We3.b
 obtain ⟨A,cp,hv⟩:=own_is T3.wat.told
 have own:=T3.wat.told
 have fz:=T3.wat.own.frozen 4
 have z1:∀ o,(w3.alloc o).frozen? ⟨W.b,4,none⟩ = false:=fun o => (T3.wat.own.alloc o).frozen 4
 simp only at hv y4 own
 rw [hv] at y4 own
 replace T3:=Lib.hid T3
 replace hv:=Lib.hid hv
 replace own:=Lib.hid own
 clear RC2 T2 R3 We3 wb
 go_wp2_with (first | (go_at_call 14; refine (n1 _).mono ?_; rintro e w' ⟨rfl,rfl⟩) | (at_builtin; refine wpList_app rfl _ _ _ rfl eiL 0 _ _ _ rfl (own.out.alloc _) (w3.heap.size + 1) (some ⟨w3.heap.size,0,none⟩) 1 1 [.int .u64 (H0:Int)] rfl ?c1 ?c2 ?c3 ?c4 ?c5 ?_))
 case c1 => exact reads_v w3 _ _
 case c2 => intro u hu; rw [List.mem_singleton] at hu; subst hu; rfl
 case c3 => have:=htl.out; unfold maxLen; omega
 case c4 => have:=htl.out; omega
 case c5 => exact Nat.zero_le _
 intro VV w6 own6 hg6 hat6
 obtain ⟨A6,cp6,rfl⟩:=own_is own6
 have o6:Only (fun k => W.vT.ownBlock = some k) w3 w6:=((Only.refl _ w3).alloc _).grown hg6 (fun k e _ => by rw [hv.out]; exact e)
 have hat:∀ b,(Value.slice A6 (told.length + 1) cp6).ownBlock = some b -> W.vT.ownBlock = some b \/ w3.heap.size <= b:=fun b e => by
  rcases hat6 with h6 | h6
  ·rw [hv.out, <- h6]; exact .inl e
  ·rw [h6] at e
   injection e with e
   exact .inr (by omega)
 have T6:=T3.out.tell o6 own6 hat
 have B6:Blk w6 W.b 47 _:=(o6.block _ T3.out.wat.own.lt T3.out.wat.tb).trans T3.out.wat.own
 have r1:=B6.cell 4
 have r2:=B6.frozen 4
 obtain ⟨x0, -, -, -, -⟩:=T6.cells
 rw [hdE.out] at x0
 simp only at x0
 replace T6:=Lib.hid T6
 replace B6:=Lib.hid B6
 clear own6 hg6 hat6 o6 hat z1 fz own T3 hv
 go_wp2_with fail
 go_ret
 exact ⟨rfl,T6.out.below,⟨W.b,L',M',W.gq,W.gl,W.R,.slice A6 (told.length + 1) cp6⟩,_,rfl,T6.out.grew,Rl2.out,hcl.out,T6.out.wat⟩
end
theorem bvE {x:Nat} (hx:x < 256):bv (UInt8.ofNat x) = .int .u8 (x:Int):=by
 unfold bv
 rw [UInt8.toNat_ofNat',Nat.mod_eq_of_lt hx]
theorem bytes_blk {w:World} {b B:Nat} {l:List UInt8} {cs:Array Value} (h:Blk w b 5 cs) (e:cs = (l.map bv).toArray) (hb:b < B):Bytes w B (some ⟨b,0,none⟩) l:=fun _ => ⟨b,0,rfl,hb,fun k x hx => by
 rw [Nat.zero_add,h.cell,e]
 simpa using hx⟩
theorem two_legal {a b:Nat} (ha:a < 26) (hb:b < 26):legalN [UInt8.ofNat (97 + a),UInt8.ofNat (97 + b)] = true:=by
 have h1:∀ a:Fin 26,okB (UInt8.ofNat (97 + a.val)) = true:=by decide
 have e1:=h1 ⟨a,ha⟩
 have e2:=h1 ⟨b,hb⟩
 simp only at e1 e2
 unfold legalN
 rw [List.all_cons,List.all_cons,List.all_nil,e1,e2]
 rfl
theorem layItemC {w:World} {L:Lay} {s:St} {bs:List UInt8} {Z:Nat -> Option Zd} {gq gl:Nat} {Ls:Nat -> Nat -> List Nat} (h:QW w L qc s bs Z gq gl Ls) {H i x p:Nat} (hf:findN qc.cf s H = some (i,x,p)) (hz:Z H = none) (gen:Nat) (hg:(bs.drop (p + 12)).take 4 = putB 4 gen)
  {na nb nv n nm a b:Nat} (ha:na < 26) (hb:nb < 26) (hv:nv < 256) (hn:n <= 1073741824) (hm:nm < 16) (K:Blk w a 5 #[.int .u8 (97 + (na:Int)),.int .u8 (97 + (nb:Int))]) (V:Blk w b 5 #[.int .u8 (nv:Int)]) (ea:a ≠ L.ha) (eb:b ≠ L.ha) :
  Calls Tryz.prog 58 #[.pointer (some ⟨L.g,0,none⟩),.int .u64 (H:Int),.agg #[.slice (some ⟨a,0,none⟩) 2 2,.slice (some ⟨b,0,none⟩) 1 1,.int .u64 (n:Int),.int .i64 (n:Int),.int .i64 0,.int .u64 (n:Int),.int .i64 4,.int .i64 (nm:Int)]] w fun e w' => e = .returned (.int .i64 0) /\ Only (Two L gl) w w' /\
   ∃ bs',bs'.length = bs.length /\ QW w' L qc s bs' (upd Z H (some ⟨4,0,0⟩)) gq gl Ls:=by
 have hnl:∀ x k,x < qc.nc -> k < 3 -> H ∉ Ls x k:=by
  intro x k hx hk hh
  obtain ⟨F,S,q⟩:=h
  obtain ⟨z,hz2⟩:=(q.is hx hk hh).2
  rw [hz] at hz2
  cases hz2
 have Kt:Tkn qc.cf s i x p (s.cls i) (H / 4294967296):=by obtain ⟨F,S,q⟩:=h; exact (Tkn.of S.okc S.zs.good hf).1
 have kN:s.cls i < 3:=by have:=Kt.kN; rw [show qc.cf.nc = qc.nc from rfl,qc_nc] at this; exact this
 have hsz:=(qc_sz _ kN).1
 have hlen:p + 64 <= bs.length:=by
  obtain ⟨F,S,q⟩:=h
  have K2:=Chk.of S.zs.set S.zs.good (good_lt S.okc S.zs.good hf) hf
  have:=K2.ck.all
  have:=K2.n64
  omega
 have F:It.Fine ⟨[UInt8.ofNat (97 + na),UInt8.ofNat (97 + nb)],[UInt8.ofNat nv],n,n,0,n,4,nm⟩:=⟨two_legal ha hb,by show n < _; omega,by show n < _; omega,by show 0 < _; omega,by show n < _; omega,by show 1 <= 4; omega,by show 4 <= 4; omega,hm⟩
 have kB:Bytes w (max a b + 1) (some ⟨a,0,none⟩) [UInt8.ofNat (97 + na),UInt8.ofNat (97 + nb)]:=bytes_blk K (by
  show _ = #[bv _,bv _]
  rw [bvE (by omega),bvE (by omega)]
  simp) (by omega)
 have vB:Bytes w (max a b + 1) (some ⟨b,0,none⟩) [UInt8.ofNat nv]:=bytes_blk V (by
  show _ = #[bv _]
  rw [bvE hv]) (by omega)
 have C:=laidC h hf hnl _ F rfl (by show 58 + 2 + 1 <= _; omega) gen hg (some ⟨a,0,none⟩) (some ⟨b,0,none⟩) 2 1 _ kB vB (fun b' off e => by injection e with e; injection e with e; exact e ▸ ea) (fun _ b' off e => by injection e with e; injection e with e; exact e ▸ eb)
 exact C.mono fun e w' ⟨h1,h2,h3⟩ => ⟨h1,h2,_,itemB_len _ _ _ _ (by show p + 58 + 2 + 1 <= _; omega),h3⟩
def laidN (H:Nat) (l:List Nat):List Nat:=if H ∈ l then l else l ++ [H]
theorem lay6C (w:World) (R:R6) (mb n:Nat) (laid:List Nat) (lists:Nat -> List Nat) (h:R6At w R mb n laid lists) (hlen:laid.length + 1 <= 1073741824) (H:Nat):Calls Tryz.prog 57 #[.pointer (some ⟨R.b,0,none⟩),.int .u64 (H:Int)] w fun e w' => e = .returned (.tuple #[]) /\ ∃ R',R'.b = R.b /\ Went6 w w' R R' n /\ R6At w' R' mb n (laidN H laid) lists:=by
 by_cases hm:H ∈ laid
 ·have e:laidN H laid = laid:=if_pos hm
  rw [e]
  exact (lay6In w R mb n laid lists h hlen H hm).mono fun e w' ⟨h1,h2⟩ => ⟨h1,R,rfl,h2 ▸ ⟨Only.refl _ _,fun b hb => .inl hb,rfl⟩,h2 ▸ h⟩
 ·have e:laidN H laid = laid ++ [H]:=if_neg hm
  rw [e]
  exact lay6Out w R mb n laid lists h hlen H hm
theorem Took6.step {N N0:Nat} {w0 w w':World} {W0:W6} {s0:St} {W:W6} {s:St} {bs:List UInt8} {Z:Nat -> Option Zd} {Ls Ld:Nat -> Nat -> List Nat} {r:RS} {laid told:List Nat} {o:Op6} (h:Took6 N N0 w0 w W0 s0 W s bs Z Ls Ld r laid told o) (b:Below w.heap.size w w'):Took6 N N0 w0 w' W0 s0 W s bs Z Ls Ld r laid told o :=
 ⟨h.wat.below b,h.op.below b h.op.lt,h.far,h.below.trans (b.mono h.wat.hN0),h.grew.step b⟩
theorem Took6.doc_ {N N0:Nat} {w0 w w':World} {W0:W6} {s0:St} {W:W6} {s:St} {bs:List UInt8} {Z:Nat -> Option Zd} {Ls Ld:Nat -> Nat -> List Nat} {r:RS} {laid laid' told:List Nat} {o:Op6} (h:Took6 N N0 w0 w W0 s0 W s bs Z Ls Ld r laid told o) {R':R6} (D:R6At w' R' W.M.b (3 * qc.nc) laid' (fun i => Ld (i / 3) (i % 3))) (eb:R'.b = W.R.b) (We:Went6 w w' W.R R' (3 * qc.nc)) :
  Took6 N N0 w0 w' W0 s0 { W with R:=R' } s bs Z Ls Ld r laid' told o:=by
 refine ⟨h.wat.doc_ D eb We,(We.only.block _ h.op.lt (h.far .doc)).trans h.op,fun i hi => ?_,h.below.trans (We.only.toBelow (B:=N) fun k hk => ⟨by have:=h.wat.hN0; omega,fun e => by have:=h.wat.base .doc k e; omega⟩),h.grew.trans (grew_doc We)⟩
 cases i with
 | set => exact h.far .set hi
 | ref => exact h.far .ref hi
 | queue => exact h.far .queue hi
 | doc =>
  rcases We.foot _ hi with h1 | h1
  ·exact h.far .doc h1
  ·have:=h.op.lt; omega
 | own => exact h.far .own hi
theorem Took6.laid {N N0:Nat} {w0 w w':World} {W0:W6} {s0:St} {W:W6} {s:St} {bs bs':List UInt8} {Z Z':Nat -> Option Zd} {Ls Ld:Nat -> Nat -> List Nat} {r:RS} {laid told:List Nat} {o:Op6} (h:Took6 N N0 w0 w W0 s0 W s bs Z Ls Ld r laid told o) (oz:Only (Two W.L W.gl) w w') (Q:QW w' W.L qc s bs' Z' W.gq W.gl Ls) :
  WAt N w' W qc s bs' Z' Ls Ld r laid told /\ Below N w0 w' /\ Grew qc w0 w' W0 W s0 s:=by
 refine ⟨h.wat.turn oz Q,h.below.trans (oz.toBelow (B:=N) fun k hk => ⟨by have:=h.wat.hN0; omega,fun e => ?_⟩),h.grew.trans (grew_turn oz)⟩
 rcases e with e | e
 ·have:=h.wat.base .set k (by rw [e]; exact ⟨.bytes,rfl⟩); omega
 ·have:=h.wat.base .queue k (.inr e); omega
section
variable {N:Nat} {w:World} {W:W6} {s:St} {bs:List UInt8} {Z:Nat -> Option Zd} {Ls Ld:Nat -> Nat -> List Nat} {r:RS} {laid told:List Nat} (h:WAt N w W qc s bs Z Ls Ld r laid told)
include h
set_option maxHeartbeats 1600000 in
theorem makesItem (o:Op6) (ok:o.Ok) (Rl:Rel qc.cf s r) (hb:bs.length = qc.cf.ps * qc.cf.np) (hlen:r.ch.length + 16384 <= 1073741824) (hfr:(s.free (o.b % 3).toNat).length + 16384 <= 1073741824) (htl:told.length + 1 <= 1073741824) (hla:laid.length + 1 <= 1073741824)
  {s1:St} (hr:roomS qc.cf s (o.b % 3).toNat = some s1) {l:List Nat} {p:Nat} (hp:s1.free (o.b % 3).toNat = l ++ [p]) {H0:Nat} (h0:H0 = hnd p (s1.gens (p / qc.cf.ps) (p % qc.cf.ps / qc.sz (o.b % 3).toNat))) (hd:o.dO ≠ 2) :
  Calls Tryz.prog 20 #[.pointer (some ⟨W.b,0,none⟩),.agg o.cells] w fun e w' => e = .returned (.bool true) /\ Below N w w' /\ ∃ W' r',W'.b = W.b /\ Grew qc w w' W W' s (takeS qc.cf s1 (o.b % 3).toNat p) /\ Rel qc.cf (takeS qc.cf s1 (o.b % 3).toNat p) r' /\ r'.ch.length <= r.ch.length + 16384 /\
   ∃ bs',bs'.length = bs.length /\ WAt N w' W' qc (takeS qc.cf s1 (o.b % 3).toNat p) bs' (upd Z H0 (some ⟨4,0,0⟩)) Ls Ld r' (laidN H0 laid) (told ++ [H0]):=by
 have hk:(o.b % 3).toNat < 3:=by omega
 have hkn:(o.b % 3).toNat < qc.nc:=by rw [qc_nc]; exact hk
 have T1:=took6_begin h o
 obtain ⟨w1,hw1⟩:∃ w1,w1 = w.alloc (.cells o.cells 28):=⟨_,rfl⟩
 rw [<- hw1] at T1
 have WC:=withinI o.b 3 ok.b (by omega) (by omega)
 rw [show ((3:Nat):Int) = 3 from rfl] at WC
 have TC:=takeYes w1 W.L qc s bs T1.wat.set T1.wat.good _ hkn s1 hr l p hp
 rw [<- h0] at TC
 have okc:=T1.wat.okc
 have g1:=(room_good okc T1.wat.good hkn hr).1
 obtain ⟨r1,hr1,Rl1⟩:=(Rl.room okc T1.wat.good (k:=(o.b % 3).toNat) hkn).2 s1 hr
 obtain ⟨l',j,hj,hx,Rl2⟩:=Rl1.take okc g1 hkn hp
 generalize hkE:(o.b % 3).toNat = k at *
 have RK:=fun w2 M' (R:RSetAt w2 M' qc r) => rtakeYes w2 M' qc r R hlen k hkn (by rw [Rl.row_len hkn]; exact hfr) r1 hr1 l' j _ hj hx (Nat.le_of_lt (Nat.lt_of_lt_of_le (Rl1.pl j _ hx) (by decide))) (g1.gen _ _)
 have hnm:(RC.name ⟨p,k,s1.gens (p / qc.cf.ps) (p % qc.cf.ps / qc.cf.sz k),false,false⟩) = H0:=h0.symm
 have hcl:(rtake r1 k j).ch.length <= r.ch.length + 16384:=by
  have:=rroom_len hk hr1
  unfold rtake
  simp only [List.length_modify]
  omega
 obtain ⟨x0,y0,y2,y3,y4⟩:=T1.cells
 have xb:w1.cell? ⟨w.heap.size,2,none⟩ = some (.int .i64 o.b):=T1.op.cell 2
 have n1:=fun w => numC6 w 0
 have H9:(takeS qc.cf s1 k p) = takeS qc.cf s1 k p:=rfl
 replace TC:=Lib.hid TC
 replace WC:=Lib.hid WC
 replace T1:=Lib.hid T1
 replace hnm:=Lib.hid hnm
 replace Rl2:=Lib.hid Rl2
 replace hcl:=Lib.hid hcl
 replace hp:=Lib.hid hp
 replace hr:=Lib.hid hr
 replace h0:=Lib.hid h0
 replace hb:=Lib.hid hb
 replace htl:=Lib.hid htl
 replace hkn:=Lib.hid hkn
 replace hkE:=Lib.hid hkE
 clear Rl Rl1 hj hx hr1 g1 okc hlen hfr H9 hk
 replace RK:=Lib.hid RK
 have d1:decide (o.dO = 2) = false:=decide_eq_false hd
 have d2:(o.dO == 2) = false:=by rw [beq_eq_false_iff_ne]; exact hd
 unfold Op6.cells at hw1 ⊢
 replace hw1:=Lib.hid hw1
 clear hd
 generalize hN:w.heap.size = N0 at *
 replace hN:=Lib.hid hN
 go_enter Tryz.func20,Tryz.ntmps20
 go_upto_region 1 with fail
 rw [hN.out, <- hw1.out]
 go_wp2_with fail
 refine (WC.out _).mono ?_
 rintro e w' ⟨rfl,rfl⟩
 go_wp2_with fail
 refine TC.out.mono ?_
 rintro e w2 ⟨rfl,L',eg,M2,We2⟩
 have T2:=T1.out.take (H0:=H0) hkn.out hr.out hp.out h0.out _ eg hb.out M2 We2
 obtain ⟨x0,y0,y2,y3,y4⟩:=T2.cells
 have RC2:=RK.out w2 W.M T2.wat.ref
 rw [hnm.out] at RC2
 replace RC2:=Lib.hid RC2
 replace T2:=Lib.hid T2
 clear TC WC T1 M2 We2 RK hw1 eg
 go_wp2_with fail
 refine RC2.out.mono ?_
 rintro e w3 ⟨rfl,M',R3,We3⟩
 have T3:=T2.out.rtake R3 We3
 obtain ⟨x0,y0,y2,y3,y4⟩:=T3.cells
 have wb:=We3.b
 obtain ⟨A,cp,hv⟩:=own_is T3.wat.told
 have own:=T3.wat.told
 have fz:=T3.wat.own.frozen 4
 have z1:∀ o,(w3.alloc o).frozen? ⟨W.b,4,none⟩ = false:=fun o => (T3.wat.own.alloc o).frozen 4
 simp only at hv y4 own
 rw [hv] at y4 own
 replace T3:=Lib.hid T3
 replace hv:=Lib.hid hv
 replace own:=Lib.hid own
 clear RC2 T2 R3 We3 wb
 go_wp2_with (first | (go_at_call 14; refine (n1 _).mono ?_; rintro e w' ⟨rfl,rfl⟩) | (at_builtin; refine wpList_app rfl _ _ _ rfl eiL 0 _ _ _ rfl (own.out.alloc _) (w3.heap.size + 1) (some ⟨w3.heap.size,0,none⟩) 1 1 [.int .u64 (H0:Int)] rfl ?c1 ?c2 ?c3 ?c4 ?c5 ?_))
 case c1 => exact reads_v w3 _ _
 case c2 => intro u hu; rw [List.mem_singleton] at hu; subst hu; rfl
 case c3 => have:=htl.out; unfold maxLen; omega
 case c4 => have:=htl.out; omega
 case c5 => exact Nat.zero_le _
 intro VV w6 own6 hg6 hat6
 obtain ⟨A6,cp6,rfl⟩:=own_is own6
 have o6:Only (fun k => W.vT.ownBlock = some k) w3 w6:=((Only.refl _ w3).alloc _).grown hg6 (fun k e _ => by rw [hv.out]; exact e)
 have hat:∀ b,(Value.slice A6 (told.length + 1) cp6).ownBlock = some b -> W.vT.ownBlock = some b \/ w3.heap.size <= b:=fun b e => by
  rcases hat6 with h6 | h6
  ·rw [hv.out, <- h6]; exact .inl e
  ·rw [h6] at e
   injection e with e
   exact .inr (by omega)
 have T6:=T3.out.tell o6 own6 hat
 have B6:Blk w6 W.b 47 _:=(o6.block _ T3.out.wat.own.lt T3.out.wat.tb).trans T3.out.wat.own
 have r1:=B6.cell 4
 have r2:=B6.frozen 4
 obtain ⟨x0, -, -, -, -⟩:=T6.cells
 simp only at x0
 obtain ⟨-,y0, -,y3,y4⟩:=T6.cells
 simp only at y0 y3 y4
 obtain ⟨n,hn⟩:∃ n,n = told.length + 1:=⟨_,rfl⟩
 rw [<- hn] at T6 y0 y3 y4 x0 ⊢
 obtain ⟨w7,hw7⟩:∃ w7,w7 = w6.setCell ⟨W.b,4,none⟩ (.slice A6 n cp6):=⟨_,rfl⟩
 rw [<- hw7] at T6 x0 y0 y3 y4
 replace T6:=Lib.hid T6
 replace B6:=Lib.hid B6
 replace hn:=Lib.hid hn
 replace hw7:=Lib.hid hw7
 clear own6 hg6 hat6 o6 hat z1 fz own T3 hv
 go_upto_region 9 with fail
 rw [<- hw7.out]
 clear hw7 r1 r2 B6
 go_upto_region 12 with fail
 have hn9:n <= 1073741824:=by have:=hn.out; have:=htl.out; omega
 obtain ⟨nq,hnq⟩:∃ nq,nq = n / 26:=⟨_,rfl⟩
 obtain ⟨na,hna⟩:∃ na,na = n % 26:=⟨_,rfl⟩
 obtain ⟨nb,hnb⟩:∃ nb,nb = nq % 26:=⟨_,rfl⟩
 obtain ⟨nm,hnm2⟩:∃ nm,nm = n % 16:=⟨_,rfl⟩
 obtain ⟨nv,hnv⟩:∃ nv,nv = n % 256:=⟨_,rfl⟩
 have m1:((n:Int)).tmod 26 = (na:Int):=by rw [hna]; exact tmodN n 26
 have m2:((n:Int)).tdiv 26 = (nq:Int):=by rw [hnq]; exact tdivN n 26
 have m3:((nq:Int)).tmod 26 = (nb:Int):=by rw [hnb]; exact tmodN nq 26
 have m4:((n:Int)).tmod 16 = (nm:Int):=by rw [hnm2]; exact tmodN n 16
 have m5:((n:Int)) % 256 = (nv:Int):=by omega
 have i1:na < 26:=by omega
 have i2:nb < 26:=by omega
 have i3:nm < 16:=by omega
 have i4:nv < 256:=by omega
 have q0:IntKind.i64.wrap (nq:Int) = (nq:Int):=IntWalk.i64_in _ (by omega)
 have q1:IntKind.i64.wrap (97 + (na:Int)) = ((97 + na:Nat):Int):=by rw [IntWalk.i64_in _ (by omega)]; omega
 have q2:IntKind.i64.wrap (97 + (nb:Int)) = ((97 + nb:Nat):Int):=by rw [IntWalk.i64_in _ (by omega)]; omega
 have q3:IntKind.u64.wrap (n:Int) = (n:Int):=by show ((n:Int)) % 18446744073709551616 = n; omega
 replace hnq:=Lib.hid hnq
 replace hna:=Lib.hid hna
 replace hnb:=Lib.hid hnb
 replace hnm2:=Lib.hid hnm2
 replace hnv:=Lib.hid hnv
 go_upto_region 13 with fail
 obtain ⟨w8,hw8⟩:∃ w8,w8 = ((w7.alloc (.cells #[.int .u8 (97 + (na:Int)),.int .u8 (97 + (nb:Int))] 5)).alloc (.cells #[.int .u8 (nv:Int)] 5)).alloc (.cells #[.slice (some ⟨w7.heap.size,0,none⟩) 2 2,.slice (some ⟨w7.heap.size + 1,0,none⟩) 1 1,.int .u64 (n:Int),.int .i64 (n:Int),.int .i64 0,.int .u64 (n:Int),.int .i64 4,.int .i64 (nm:Int)] 103):=⟨_,rfl⟩
 rw [<- hw8]
 have K8:Blk w8 w7.heap.size 5 #[.int .u8 (97 + (na:Int)),.int .u8 (97 + (nb:Int))]:=by rw [hw8]; exact ((Blk.new w7 _ _).alloc _).alloc _
 have V8:Blk w8 (w7.heap.size + 1) 5 #[.int .u8 (nv:Int)]:=by rw [hw8]; exact (blk_new' (World.size_alloc _ _)).alloc _
 have I8:Blk w8 (w7.heap.size + 1 + 1) 103 #[.slice (some ⟨w7.heap.size,0,none⟩) 2 2,.slice (some ⟨w7.heap.size + 1,0,none⟩) 1 1,.int .u64 (n:Int),.int .i64 (n:Int),.int .i64 0,.int .u64 (n:Int),.int .i64 4,.int .i64 (nm:Int)]:=by rw [hw8]; exact blk_new' (by rw [World.size_alloc,World.size_alloc])
 have b8:Below w7.heap.size w7 w8:=by rw [hw8]; exact (((Below.refl _ w7).alloc (Nat.le_refl _) _).alloc (by rw [World.size_alloc]; omega) _).alloc (by rw [World.size_alloc,World.size_alloc]; omega) _
 have T8:=T6.out.step b8
 have LC:=Lib.hid (lay6C w8 W.R _ _ laid _ T8.wat.doc hla H0)
 obtain ⟨-,y0, -,y3, -⟩:=T8.cells
 simp only at y0 y3
 have wl:∀ i b,W6.foot ⟨W.b,L',M',W.gq,W.gl,W.R,.slice A6 n cp6⟩ qc (takeS qc.cf s1 k p) i b -> b < w7.heap.size:=fun i b hb => T6.out.wat.lt i b hb
 replace wl:=Lib.hid wl
 replace T8:=Lib.hid T8
 replace K8:=Lib.hid K8
 replace V8:=Lib.hid V8
 replace I8:=Lib.hid I8
 clear hw8 b8 T6 m1 m2 m3 m4 m5 q0 q1 q2 q3 x0 y4 xb y2
 go_wp2_with fail
 refine LC.out.mono ?_
 rintro e w9 ⟨rfl,R',eb,W9,D9⟩
 have T9:=T8.out.doc_ D9 eb W9
 have nf:∀ b,w7.heap.size <= b -> ¬ F6 W.R (3 * qc.nc) b:=fun b hb hf => by have:=wl.out .doc b hf; omega
 have K9:Blk w9 w7.heap.size 5 _:=(W9.only.block _ K8.out.lt (nf _ (by omega))).trans K8.out
 have V9:Blk w9 (w7.heap.size + 1) 5 _:=(W9.only.block _ V8.out.lt (nf _ (by omega))).trans V8.out
 have I9:Blk w9 (w7.heap.size + 1 + 1) 103 _:=(W9.only.block _ I8.out.lt (nf _ (by omega))).trans I8.out
 have z0:=I9.cell 0
 have z1:=I9.cell 1
 have z2:=I9.cell 2
 have z3:=I9.cell 3
 have z4:=I9.cell 4
 have z5:=I9.cell 5
 have z6:=I9.cell 6
 have z7:=I9.cell 7
 have eLa:∀ b,w7.heap.size <= b -> b ≠ L'.ha:=fun b hb e => by have:=wl.out .set b (by rw [e]; exact ⟨.bytes,rfl⟩); omega
 obtain ⟨-,y0, -, -, -⟩:=T9.cells
 simp only at y0
 have hgd:=h.good
 have okc:=T9.wat.okc
 obtain ⟨⟨fi,fx,f0, -⟩, -, -⟩:=took_find okc hgd hkn.out hr.out hp.out h0.out
 have hfit:p + 64 <= bs.length:=by
  obtain ⟨t0, -⟩:=Tkn.of okc T9.wat.good f0
  obtain ⟨a1,a2,a3,a4,a5⟩:=t0.fit okc
  have:=(okc.sz _ t0.kN).1
  rw [hb.out,Nat.mul_comm]
  omega
 have bd:Below w9.heap.size w9 w9.drew:=below_drewN (Below.refl _ _) 1
 have T10:=T9.step bd
 have YC:=layItemC T10.wat.q f0 (upd_at _ _ _) _ (take_gen (by omega)) i1 i2 i4 hn9 i3 (K9.below bd K9.lt) (V9.below bd V9.lt) (eLa _ (Nat.le_refl _)) (eLa _ (Nat.le_succ _))
 have tl:(takeB bs p (s1.gens (p / qc.cf.ps) (p % qc.cf.ps / qc.sz k))).length = bs.length:=take_len (by omega)
 replace tl:=Lib.hid tl
 replace YC:=Lib.hid YC
 replace T10:=Lib.hid T10
 replace I9:=Lib.hid I9
 clear T9 T8 LC K8 V8 I8 D9 W9 nf y3 K9 V9 f0 hgd okc hfit eLa bd
 go_upto_region 14 with fail
 go_region_law ((go_simp; first | (go_at_call 58; refine YC.out.mono ?_; rintro e wz ⟨rfl,oz,bz,lz,Qz⟩) | (go_at_call 14; refine (n1 _).mono ?_; rintro e w' ⟨rfl,rfl⟩)))
 all_goals
  have TT:=T10.out.laid oz Qz
  replace TT:=Lib.hid TT
  go_wp2
  go_ret
  exact ⟨rfl,TT.out.2.1,⟨W.b,L',M',W.gq,W.gl,R',.slice A6 n cp6⟩,_,rfl,TT.out.2.2,Rl2.out,hcl.out,bz,lz.trans tl.out,by have:=TT.out.1; rwa [upd_upd] at this⟩
end
theorem doesMakeC (w:World) (b:Nat) (o:Op6) (hd:o.dO = 1) (P:World -> Prop) (MC:Calls Tryz.prog 20 #[.pointer (some ⟨b,0,none⟩),.agg o.cells] (w.alloc (.cells o.cells 28)) fun e w' => e = .returned (.bool true) /\ P w') :
  Calls Tryz.prog 11 #[.pointer (some ⟨b,0,none⟩),.agg o.cells] w fun e w' => e = .returned (.bool true) /\ P w':=by
 obtain ⟨w1,hw1⟩:∃ w1,w1 = w.alloc (.cells o.cells 28):=⟨_,rfl⟩
 have B1:Blk w1 w.heap.size 28 o.cells:=by rw [hw1]; exact Blk.new w _ _
 obtain ⟨x0,x1,x2,x3,x4,x5⟩:=op6_cells B1
 rw [<- hw1] at MC
 unfold Op6.cells at MC hw1 ⊢
 rw [hd] at MC hw1 x0 ⊢
 replace MC:=Lib.hid MC
 replace hw1:=Lib.hid hw1
 clear B1 hd
 generalize hN:w.heap.size = N at *
 replace hN:=Lib.hid hN
 go_enter Tryz.func11,Tryz.ntmps11
 go_upto_region 1 with fail
 rw [hN.out, <- hw1.out]
 go_wp2_with fail
 refine MC.out.mono ?_
 rintro e w2 ⟨rfl,hP⟩
 replace hP:=Lib.hid hP
 go_wp2
 go_ret
 exact ⟨rfl,hP.out⟩
def o0:Op6:=⟨1,0,0,0,0,false⟩
theorem o0_ok:o0.Ok:=⟨⟨by decide,by decide⟩,⟨by decide,by decide⟩,⟨by decide,by decide⟩,⟨by decide,by decide⟩,by decide⟩
theorem free_short {s:St} (g:Cls.Good qc.cf s) (ok:qc.cf.Ok) {k:Nat} (hk:k < qc.cf.nc):(s.free k).length <= 16384:=by
 refine nodup_le _ _ (g.nodup k hk) fun p hp => ?_
 obtain ⟨i,x,h1, -, -, -,h5, -,rfl, -⟩:=g.last ok hk hp
 obtain ⟨-, -, -,h6, -⟩:=place_of ok (i:=i) hk h5
 have h9:(i + 1) * qc.cf.ps <= 4 * 4096:=Nat.mul_le_mul (by have:qc.cf.np = 4:=qc_np; omega) (by decide)
 rw [Nat.succ_mul] at h9
 have:=(ok.sz k hk).1
 omega
section
variable {N:Nat} {w:World} {W:W6} {s:St} {bs:List UInt8} {Z:Nat -> Option Zd} {Ls Ld:Nat -> Nat -> List Nat} {r:RS} {laid told:List Nat} (h:WAt N w W qc s bs Z Ls Ld r laid told)
include h
theorem doesItem (o:Op6) (ok:o.Ok) (hd:o.dO = 1) (Rl:Rel qc.cf s r) (hb:bs.length = qc.cf.ps * qc.cf.np) (hlen:r.ch.length + 16384 <= 1073741824) (htl:told.length + 1 <= 1073741824) (hla:laid.length + 1 <= 1073741824)
  {s1:St} (hr:roomS qc.cf s (o.b % 3).toNat = some s1) {l:List Nat} {p:Nat} (hp:s1.free (o.b % 3).toNat = l ++ [p]) {H0:Nat} (h0:H0 = hnd p (s1.gens (p / qc.cf.ps) (p % qc.cf.ps / qc.sz (o.b % 3).toNat))) :
  Calls Tryz.prog 11 #[.pointer (some ⟨W.b,0,none⟩),.agg o.cells] w fun e w' => e = .returned (.bool true) /\ Below N w w' /\ ∃ W' r',W'.b = W.b /\ Grew qc w w' W W' s (takeS qc.cf s1 (o.b % 3).toNat p) /\ Rel qc.cf (takeS qc.cf s1 (o.b % 3).toNat p) r' /\ r'.ch.length <= r.ch.length + 16384 /\
   ∃ bs',bs'.length = bs.length /\ WAt N w' W' qc (takeS qc.cf s1 (o.b % 3).toNat p) bs' (upd Z H0 (some ⟨4,0,0⟩)) Ls Ld r' (laidN H0 laid) (told ++ [H0]):=by
 have hkn:(o.b % 3).toNat < qc.cf.nc:=by show _ < qc.nc; rw [qc_nc]; omega
 have b1:Below w.heap.size w (w.alloc (.cells o.cells 28)):=(Below.refl _ _).alloc (Nat.le_refl _) _
 have h1:=h.below b1
 have M:=makesItem h1 o ok Rl hb hlen (by have:=free_short h.good h.okc hkn; omega) htl hla hr hp h0 (by omega)
 have bN:Below N w (w.alloc (.cells o.cells 28)):=(Below.refl N w).alloc h.hN0 _
 exact doesMakeC w W.b o hd _ (M.mono fun e w' ⟨a1,a2,W',r',a3,a4,a5⟩ => ⟨a1,bN.trans a2,W',r',a3,((Grew.refl _ _ _ _).step b1).trans a4,a5⟩)
theorem doesO0 (Rl:Rel qc.cf s r) (hb:bs.length = qc.cf.ps * qc.cf.np) (hlen:r.ch.length + 16384 <= 1073741824) (htl:told.length + 1 <= 1073741824) (hla:laid.length + 1 <= 1073741824)
  {s1:St} (hr:roomS qc.cf s 0 = some s1) {l:List Nat} {p:Nat} (hp:s1.free 0 = l ++ [p]) {H0:Nat} (h0:H0 = hnd p (s1.gens (p / qc.cf.ps) (p % qc.cf.ps / qc.cf.sz 0))) :
  Calls Tryz.prog 11 #[.pointer (some ⟨W.b,0,none⟩),.agg #[.int .i64 1,.int .i64 0,.int .i64 0,.int .i64 0,.int .u64 0,.bool false]] w fun e w' => e = .returned (.bool true) /\ Below N w w' /\ ∃ W' r',W'.b = W.b /\ Grew qc w w' W W' s (takeS qc.cf s1 0 p) /\ Rel qc.cf (takeS qc.cf s1 0 p) r' /\ r'.ch.length <= r.ch.length + 16384 /\
   ∃ bs',bs'.length = bs.length /\ WAt N w' W' qc (takeS qc.cf s1 0 p) bs' (upd Z H0 (some ⟨4,0,0⟩)) Ls Ld r' (laidN H0 laid) (told ++ [H0]) :=
 doesItem h o0 o0_ok rfl Rl hb hlen htl hla hr hp h0
end
structure WI (N:Nat) (w:World) (W:W6) (s:St) (bs:List UInt8) (Z:Nat -> Option Zd) (Ls:Nat -> Nat -> List Nat) (r:RS) (laid told:List Nat) (t:Nat):Prop where
 wat:WAt N w W qc s bs Z Ls Ls r laid told
 rel:Rel qc.cf s r
 agr:∀ H i x p,findN qc.cf s H = some (i,x,p) -> ((Z H).isSome = true ↔ H ∈ laid)
 bs:bs.length = qc.cf.ps * qc.cf.np
 ch:r.ch.length <= 16384 * t
 la:laid.length <= t
 tl:told.length <= t
 tlt:∀ H ∈ told,H < 18446744073709551616
 lg:∀ H ∈ laid,∃ i x p,findN qc.cf s H = some (i,x,p)
 ln:laid.Nodup
 lt:∀ H ∈ laid,H ∈ told
def Goes (N:Nat) (w w':World) (W:W6) (s:St) (t:Nat):Prop:=∃ W' s' bs' Z' Ls' r' laid' told',W'.b = W.b /\ Grew qc w w' W W' s s' /\ WI N w' W' s' bs' Z' Ls' r' laid' told' t
section
variable {N:Nat} {w:World} {W:W6} {s:St} {bs:List UInt8} {Z:Nat -> Option Zd} {Ls:Nat -> Nat -> List Nat} {r:RS} {laid told:List Nat} {t:Nat} (h:WI N w W s bs Z Ls r laid told t)
include h
theorem WI.q:∃ F,QI qc s Z F Ls:=by
 obtain ⟨F,S,q⟩:=h.wat.q
 exact ⟨F,q⟩
theorem WI.d6 (ht:t <= 60000):D6 w W.R W.M qc s Z Ls r laid :=
 ⟨h.wat.doc,h.wat.ref,h.rel,h.wat.okc,h.wat.good,h.q,h.agr,by have:=h.ch; omega,by have:=h.la; omega,fun b hr hd => by have:=h.wat.sep .ref .doc b hr hd; cases this⟩
theorem WI.below {w':World} (b:Below w.heap.size w w'):WI N w' W s bs Z Ls r laid told t:=⟨h.wat.below b,h.rel,h.agr,h.bs,h.ch,h.la,h.tl,h.tlt,h.lg,h.ln,h.lt⟩
theorem WI.more {t':Nat} (ht:t <= t'):WI N w W s bs Z Ls r laid told t':=⟨h.wat,h.rel,h.agr,h.bs,by have:=h.ch; omega,by have:=h.la; omega,by have:=h.tl; omega,h.tlt,h.lg,h.ln,h.lt⟩
theorem WI.stays {w':World} (b:Below w.heap.size w w') {t':Nat} (ht:t <= t'):Goes N w w' W s t':=⟨W,s,bs,Z,Ls,r,laid,told,rfl,(Grew.refl _ _ _ _).step b,(h.below b).more ht⟩
end
def hdN (told:List Nat) (o:Op6):Nat:=if o.raw = true \/ told = [] then o.h else told[(o.a % (told.length:Int)).toNat]?.getD 0
def otN (told:List Nat) (o:Op6):Nat:=if told = [] then 0 else told[(o.c % (told.length:Int)).toNat]?.getD 0
theorem told_at {told:List Nat} (hne:told ≠ []) (a:Int):(a % (told.length:Int)).toNat < told.length /\ told[(a % (told.length:Int)).toNat]? = some (told[(a % (told.length:Int)).toNat]?.getD 0):=by
 have hp : 0 < told.length:=List.length_pos_iff.2 hne
 have h0:=Int.emod_nonneg a (show (told.length:Int) ≠ 0 by omega)
 have h1:=Int.emod_lt_of_pos a (show 0 < (told.length:Int) by omega)
 have hl:(a % (told.length:Int)).toNat < told.length:=by omega
 refine ⟨hl,?_⟩
 rw [List.getElem?_eq_getElem hl]
 rfl
theorem hdN_lt {told:List Nat} (ht:∀ H ∈ told,H < 18446744073709551616) {o:Op6} (ok:o.Ok):hdN told o < 18446744073709551616:=by
 unfold hdN
 split
 ·exact ok.h
 ·rename_i h
  obtain ⟨-,e⟩:=told_at (fun e => h (.inr e)) o.a
  exact ht _ (List.mem_of_getElem? e)
theorem otN_lt {told:List Nat} (ht:∀ H ∈ told,H < 18446744073709551616) (o:Op6):otN told o < 18446744073709551616:=by
 unfold otN
 split
 ·decide
 ·rename_i h
  obtain ⟨-,e⟩:=told_at h o.c
  exact ht _ (List.mem_of_getElem? e)
section
variable {N:Nat} {w:World} {W:W6} {s:St} {bs:List UInt8} {Z:Nat -> Option Zd} {Ls:Nat -> Nat -> List Nat} {r:RS} {laid told:List Nat} {t:Nat} (h:WI N w W s bs Z Ls r laid told t) (ht:t <= 60000) (o:Op6) (ok:o.Ok)
include h ht ok
theorem handleC:Calls Tryz.prog 31 #[.pointer (some ⟨W.b,0,none⟩),.agg o.cells] w fun e w' => e = .returned (.int .u64 (hdN told o:Int)) /\ Below w.heap.size w w':=by
 obtain ⟨w1,hw1⟩:∃ w1,w1 = w.alloc (.cells o.cells 28):=⟨_,rfl⟩
 have B1:Blk w1 w.heap.size 28 o.cells:=by rw [hw1]; exact Blk.new w _ _
 have b1:Below w.heap.size w w1:=by rw [hw1]; exact (Below.refl _ _).alloc (Nat.le_refl _) _
 obtain ⟨x0,x1,x2,x3,x4,x5⟩:=op6_cells B1
 have h1:=h.below b1
 obtain ⟨-, -, -, -,y4⟩:=h1.wat.cW
 obtain ⟨A,cp,hv⟩:=own_is h1.wat.told
 have own:=h1.wat.told
 rw [hv] at y4 own
 have htl:=h.tl
 unfold hdN
 unfold Op6.cells at hw1 ⊢
 replace b1:=Lib.hid b1
 replace hw1:=Lib.hid hw1
 by_cases hr:o.raw = true
 ·rw [if_pos (.inl hr)]
  rw [hr] at x5 hw1 ⊢
  clear h h1 B1 own hr hv
  generalize hN:w.heap.size = N0 at *
  replace hN:=Lib.hid hN
  go_enter Tryz.func31,Tryz.ntmps31
  go_upto_region 1 with fail
  rw [hN.out, <- hw1.out]
  go_wp2
  go_ret
  exact ⟨rfl,b1.out⟩
 ·have hr:o.raw = false:=by simpa using hr
  rw [hr] at x5 hw1 ⊢
  by_cases hn:told = []
  ·rw [if_pos (.inr hn)]
   have y4':w1.cell? ⟨W.b,4,none⟩ = some (.slice A 0 cp):=by rw [y4,hn]; rfl
   clear h h1 B1 own hr hv hn y4
   generalize hN:w.heap.size = N0 at *
   replace hN:=Lib.hid hN
   go_enter Tryz.func31,Tryz.ntmps31
   go_upto_region 1 with fail
   rw [hN.out, <- hw1.out]
   go_wp2
   go_ret
   exact ⟨rfl,b1.out⟩
  ·rw [if_neg (by simp [hn])]
   obtain ⟨hlt,hx⟩:=told_at hn o.a
   have WC:=withinI o.a told.length ok.a (by omega) (by omega)
   generalize told[(o.a % (told.length:Int)).toNat]?.getD 0 = H at *
   generalize (o.a % (told.length:Int)).toNat = i at *
   obtain ⟨g,c',hv2,u⟩:=own_uv own hx
   injection hv2 with e1 e2 e3
   subst e1 e3
   generalize told.length = n at *
   have i0:(0:Int) <= (i:Int):=by omega
   have i1:(i:Int) < (n:Int):=by omega
   have z0:((n:Int) == 0) = false:=by rw [beq_eq_false_iff_ne]; omega
   have z1:decide ((n:Int) = 0) = false:=decide_eq_false (by omega)
   have z2:¬ (n = 0):=by omega
   replace WC:=Lib.hid WC
   clear h h1 B1 own hr hv hn hx e2
   generalize hN:w.heap.size = N0 at *
   replace hN:=Lib.hid hN
   go_enter Tryz.func31,Tryz.ntmps31
   go_upto_region 1 with fail
   rw [hN.out, <- hw1.out]
   go_upto_region 3 with fail
   go_quiet (first | (go_at_call 16; with_reducible exact quiet_left (WC.out _)) | fail)
   go_wp2
   go_ret
   exact ⟨rfl,b1.out.trans (by first | exact below_drewN (Below.refl _ _) _ | exact Below.refl _ _)⟩
theorem otherC:Calls Tryz.prog 36 #[.pointer (some ⟨W.b,0,none⟩),.agg o.cells] w fun e w' => e = .returned (.int .u64 (otN told o:Int)) /\ Below w.heap.size w w':=by
 obtain ⟨w1,hw1⟩:∃ w1,w1 = w.alloc (.cells o.cells 28):=⟨_,rfl⟩
 have B1:Blk w1 w.heap.size 28 o.cells:=by rw [hw1]; exact Blk.new w _ _
 have b1:Below w.heap.size w w1:=by rw [hw1]; exact (Below.refl _ _).alloc (Nat.le_refl _) _
 obtain ⟨x0,x1,x2,x3,x4,x5⟩:=op6_cells B1
 have h1:=h.below b1
 obtain ⟨-, -, -, -,y4⟩:=h1.wat.cW
 obtain ⟨A,cp,hv⟩:=own_is h1.wat.told
 have own:=h1.wat.told
 rw [hv] at y4 own
 have htl:=h.tl
 unfold otN
 unfold Op6.cells at hw1 ⊢
 replace b1:=Lib.hid b1
 replace hw1:=Lib.hid hw1
 by_cases hn:told = []
 ·rw [if_pos hn]
  have y4':w1.cell? ⟨W.b,4,none⟩ = some (.slice A 0 cp):=by rw [y4,hn]; rfl
  clear h h1 B1 own hv hn y4
  generalize hN:w.heap.size = N0 at *
  replace hN:=Lib.hid hN
  go_enter Tryz.func36,Tryz.ntmps36
  go_upto_region 1 with fail
  rw [hN.out, <- hw1.out]
  go_wp2
  go_ret
  exact ⟨rfl,b1.out⟩
 ·rw [if_neg hn]
  obtain ⟨hlt,hx⟩:=told_at hn o.c
  have WC:=withinI o.c told.length ok.c (by omega) (by omega)
  generalize told[(o.c % (told.length:Int)).toNat]?.getD 0 = H at *
  generalize (o.c % (told.length:Int)).toNat = i at *
  obtain ⟨g,c',hv2,u⟩:=own_uv own hx
  injection hv2 with e1 e2 e3
  subst e1 e3
  generalize told.length = n at *
  have i0:(0:Int) <= (i:Int):=by omega
  have i1:(i:Int) < (n:Int):=by omega
  have z0:((n:Int) == 0) = false:=by rw [beq_eq_false_iff_ne]; omega
  have z1:decide ((n:Int) = 0) = false:=decide_eq_false (by omega)
  have z2:¬ (n = 0):=by omega
  replace WC:=Lib.hid WC
  clear h h1 B1 own hv hn hx e2
  generalize hN:w.heap.size = N0 at *
  replace hN:=Lib.hid hN
  go_enter Tryz.func36,Tryz.ntmps36
  go_upto_region 1 with fail
  rw [hN.out, <- hw1.out]
  go_upto_region 3 with fail
  go_quiet (first | (go_at_call 16; with_reducible exact quiet_left (WC.out _)) | fail)
  go_wp2
  go_ret
  exact ⟨rfl,b1.out.trans (by first | exact below_drewN (Below.refl _ _) _ | exact Below.refl _ _)⟩
end
section
variable {N:Nat} {w:World} {W:W6} {s:St} {bs:List UInt8} {Z:Nat -> Option Zd} {Ls:Nat -> Nat -> List Nat} {r:RS} {laid told:List Nat} {t:Nat} (h:WI N w W s bs Z Ls r laid told t) (ht:t <= 60000)
include h ht
theorem makesC (o:Op6) (ok:o.Ok):Calls Tryz.prog 20 #[.pointer (some ⟨W.b,0,none⟩),.agg o.cells] w fun e w' => e = .returned (.bool true) /\ Goes N w w' W s (t + 1):=by
 have hkn:(o.b % 3).toNat < qc.cf.nc:=by show _ < qc.nc; rw [qc_nc]; omega
 have okc:=h.wat.okc
 have g:=h.wat.good
 cases hr:roomS qc.cf s (o.b % 3).toNat with
 | none => exact (makesNo h.wat o ok h.rel hr).mono fun e w' ⟨e1,b⟩ => ⟨e1,h.stays b (Nat.le_succ _)⟩
 | some s1 =>
  obtain ⟨g1,l,p,hp⟩:=room_good okc g hkn hr
  obtain ⟨H0,h0⟩:∃ H0,H0 = hnd p (s1.gens (p / qc.cf.ps) (p % qc.cf.ps / qc.cf.sz (o.b % 3).toNat)):=⟨_,rfl⟩
  have hch:=h.ch
  have hla:=h.la
  have htl:=h.tl
  have hfr:=free_short g okc hkn
  obtain ⟨⟨i0,x0,f0, -⟩,A,B⟩:=took_find okc g hkn hr hp h0
  have g':=(took okc g hkn hr hp).1
  have H0lt:=good_lt okc g' f0
  have hnl:H0 ∉ laid:=fun hm => by
   obtain ⟨i,x,q,hf⟩:=h.lg H0 hm
   exact (A H0 i x q hf).2.2.1 rfl
  have tlt:∀ H ∈ told ++ [H0],H < 18446744073709551616:=fun H hm => by
   rcases List.mem_append.1 hm with hm | hm
   ·exact h.tlt H hm
   ·rw [List.mem_singleton.1 hm]; exact H0lt
  have hlg:∀ H ∈ laid,∃ i x q,findN qc.cf (takeS qc.cf s1 (o.b % 3).toNat p) H = some (i,x,q):=fun H hm => by
   obtain ⟨i,x,q,hf⟩:=h.lg H hm
   exact ⟨i,x,q,(A H i x q hf).1⟩
  have hfit:p + 56 <= bs.length:=by
   obtain ⟨t0, -⟩:=Tkn.of okc g' f0
   obtain ⟨a1,a2,a3,a4,a5⟩:=t0.fit okc
   have:=(okc.sz _ t0.kN).1
   rw [h.bs,Nat.mul_comm]
   omega
  by_cases hd:o.dO = 2
  ·refine (makesBare h.wat o ok h.rel h.bs (by omega) (by omega) (by omega) hr hp h0 hd).mono ?_
   rintro e w' ⟨e1, -,W',r',eW,G,R',hr',T⟩
   refine ⟨e1,W',_,_,_,_,_,_,_,eW,G,T,R',fun H i x q hf => ?_,(take_len hfit).trans h.bs,by omega,by omega,by rw [List.length_append,List.length_singleton]; omega,tlt,hlg,h.ln,fun H hm => List.mem_append_left _ (h.lt H hm)⟩
   rcases B H i x q hf with rfl | ⟨hne,hf'⟩
   ·rw [upd_at]
    exact ⟨fun e => (by cases e),fun e => absurd e hnl⟩
   ·rw [upd_ne _ _ hne]
    exact h.agr H i x q hf'
  ·refine (makesItem h.wat o ok h.rel h.bs (by omega) (by omega) (by omega) (by omega) hr hp h0 hd).mono ?_
   rintro e w' ⟨e1, -,W',r',eW,G,R',hr',bs',hbs,T⟩
   have el:laidN H0 laid = laid ++ [H0]:=if_neg hnl
   rw [el] at T
   refine ⟨e1,W',_,_,_,_,_,_,_,eW,G,T,R',fun H i x q hf => ?_,hbs.trans h.bs,by omega,by rw [List.length_append,List.length_singleton]; omega,by rw [List.length_append,List.length_singleton]; omega,tlt,fun H hm => ?_,?_,fun H hm => ?_⟩
   ·rcases B H i x q hf with rfl | ⟨hne,hf'⟩
    ·rw [upd_at]
     exact ⟨fun _ => List.mem_append_right _ (List.mem_singleton.2 rfl),fun _ => rfl⟩
    ·rw [upd_ne _ _ hne,List.mem_append,List.mem_singleton]
     exact (h.agr H i x q hf').trans ⟨.inl,fun e => e.resolve_right hne⟩
   ·rcases List.mem_append.1 hm with hm | hm
    ·exact hlg H hm
    ·rw [List.mem_singleton.1 hm]; exact ⟨_,_,_,f0⟩
   ·rw [List.nodup_append]
    refine ⟨h.ln,by simp,fun a ha b hb e => ?_⟩
    rw [List.mem_singleton.1 hb] at e
    exact hnl (e ▸ ha)
   ·rcases List.mem_append.1 hm with hm | hm
    ·exact List.mem_append_left _ (h.lt H hm)
    ·exact List.mem_append_right _ hm
end
theorem ptr_neq {P:Program} {t te:TypeId} {i:TypeInfo} (hp:P.underlying t = some (.pointer te)) (hte:P.info? te = some i) (hsz:i.size ≠ 0) (g a b:Nat) (w:World) :
  Sem.run P (binOp .neq t (.pointer (some ⟨g,a,none⟩)) (.pointer (some ⟨g,b,none⟩))) w = .ok (.bool (!decide (a = b))) w:=by
 have h:∀ d,Sem.run P (Op.equalIn (d + 1) t (.pointer (some ⟨g,a,none⟩)) (.pointer (some ⟨g,b,none⟩))) w = .ok (decide (a = b)) w:=fun d => by
  simp [Op.equalIn,run_underlying hp,sizeOf,typeInfo,hte,hsz,sameAddr]
  by_cases e:a = b <;> simp [e]
 simp only [binOp]
 simp [Op.equal,Op.maxDepth,h 9999]
theorem lst_neq (g a b:Nat) (w:World):Sem.run Tryz.prog (binOp .neq 109 (.pointer (some ⟨g,a,none⟩)) (.pointer (some ⟨g,b,none⟩))) w = .ok (.bool (!decide (a = b))) w:=by
 obtain ⟨i,h1,h2⟩:∃ i,Tryz.prog.info? 114 = some i /\ i.size = 3:=by
  have h:=(show (Tryz.prog.info? 114).map (·.size) = some 3 by kernel_rfl)
  cases hi:Tryz.prog.info? 114 with
  | none => rw [hi] at h; cases h
  | some i => rw [hi] at h; injection h with h; exact ⟨i,rfl,h⟩
 exact ptr_neq Tryz.underlying109 h1 (by omega) g a b w
def swL (l:List Nat) (old H:Nat):List Nat:=l.set (l.idxOf old) H
theorem swL_split {l1 l2:List Nat} {old H:Nat} (h:old ∉ l1):swL (l1 ++ old :: l2) old H = l1 ++ H :: l2:=by
 unfold swL
 rw [idx_split h]
 simp
def swapN (c:Conf) (s:St) (Z:Nat -> Option Zd) (Ls:Nat -> Nat -> List Nat) (old H:Nat):Nat × (Nat -> Nat -> List Nat) :=
 if stK (clsN c s old) Ls old = 0 \/ isN c s Z H = false then (20,Ls) else if stK (clsN c s H) Ls H ≠ 0 then (8,Ls) else if clsN c s old ≠ clsN c s H then (1,Ls)
 else (0,updL Ls (clsN c s old) (stK (clsN c s old) Ls old - 1) (swL (Ls (clsN c s old) (stK (clsN c s old) Ls old - 1)) old H))
section
variable {w:World} {L:Lay} {c:Conf} {s:St} {bs:List UInt8} {Z:Nat -> Option Zd} {gq gl:Nat} {Ls:Nat -> Nat -> List Nat} (h:QW w L c s bs Z gq gl Ls)
include h
set_option maxHeartbeats 1600000 in
theorem swapC (old H:Nat) (ho:old < 18446744073709551616) (hH:H < 18446744073709551616) :
  Calls Tryz.prog 35 #[.pointer (some ⟨gq,0,none⟩),.int .u64 (old:Int),.int .u64 (H:Int)] w fun e w' => e = .returned (.int .i64 ((swapN c s Z Ls old H).1:Int)) /\ Did w w' L c s bs Z gq gl (swapN c s Z Ls old H):=by
 have SC:=standsC h old ho
 have hw:=Lib.hid h
 by_cases h0:stK (clsN c s old) Ls old = 0
 ·have er:swapN c s Z Ls old H = (20,Ls):=by unfold swapN; rw [if_pos (.inl h0)]
  rw [er]
  rw [if_pos h0] at SC
  replace SC:=Lib.hid SC
  clear h er h0
  go_enter Tryz.func35,Tryz.ntmps35
  go_wp2_with fail
  refine SC.out.mono ?_
  rintro e w1 ⟨rfl,b1⟩
  have D:=Lib.hid (hw.out.same (R:=20) b1)
  clear b1
  go_wp2
  go_ret
  exact ⟨rfl,D.out⟩
 rw [if_neg h0] at SC
 obtain ⟨F,S,q⟩:=h
 obtain ⟨k,i,y,p,hk,e,hf,ec,hx,hm⟩:=q.of_stK S.okc S.zs.good h0
 obtain ⟨l1,l2,hl,he,hz⟩:=q.split hx hk hm
 rw [e,Nat.add_sub_cancel] at SC
 have hnd:=q.nd _ _ hx hk
 rw [hl] at hnd
 have n1:old ∉ l1:=fun e => (List.nodup_append.1 hnd).2.2 old e old (List.mem_cons_self ..) rfl
 have ST:∀ w1,Below w.heap.size w w1 -> Calls Tryz.prog 80 #[.pointer (some ⟨L.g,0,none⟩),.int .u64 (old:Int)] w1 fun e w' => e = .returned (.tuple #[.int .i64 ((k:Int) + 1),.int .i64 0]) /\ Below w1.heap.size w1 w':=fun w1 b => by
  have:=zStateYes (S.below b).zs (H:=old) ho hf
  rw [hz] at this
  exact this
 have q0:=fun w1 (b:Below w.heap.size w w1) => (S.below b).q.c0
 have QB:∀ w1,Below w.heap.size w w1 -> QW w1 L c s bs Z gq gl Ls:=fun w1 b => ⟨F,S.below b,q⟩
 by_cases hR:(pushN c s Z Ls H ((k:Int) + 1) false).1 = 0
 ·have hR2:=hR
  unfold pushN at hR2
  rw [if_neg (by omega)] at hR2
  have hi:¬ isN c s Z H = false:=fun e => by rw [if_pos e] at hR2; cases hR2
  rw [if_neg hi] at hR2
  have hs:stK (clsN c s H) Ls H = 0:=Classical.not_not.1 fun e => by rw [if_pos e] at hR2; cases hR2
  have hi2:isN c s Z H = true:=by simpa using hi
  have hi3:=hi2
  unfold isN at hi3
  obtain ⟨⟨i',y',p'⟩,hf'⟩:=Option.isSome_iff_exists.1 (Bool.and_eq_true_iff.1 hi3).1
  obtain ⟨z',hz'⟩:=Option.isSome_iff_exists.1 (Bool.and_eq_true_iff.1 hi3).2
  have hnH:=q.not_stK hs
  have ec':clsN c s H = s.cls i':=by unfold clsN; rw [hf']
  have FY:∀ w1,Below w.heap.size w w1 -> Calls Tryz.prog 62 #[.pointer (some ⟨gq,0,none⟩),.int .u64 (H:Int),.int .i64 ((k:Int) + 1)] w1 fun e w' => e = .returned (.tuple #[.pointer (some ⟨gl,clsN c s H * 9 + k * 3,none⟩),.int .i64 0]) /\ Below w1.heap.size w1 w':=fun w1 b => by
   rw [ec']
   exact freeYes (S.below b) H k hk ⟨⟨i',y',p',hf'⟩,z',hz'⟩ hf' (q.free hf' hnH)
  by_cases hcc:clsN c s old = clsN c s H
  ·have er:swapN c s Z Ls old H = (0,updL Ls (clsN c s old) k (l1 ++ H :: l2)):=by
    unfold swapN
    rw [if_neg (by rw [hi2]; simp [h0]),if_neg (by omega),if_neg (by simp [hcc]),e,Nat.add_sub_cancel,ec,hl,swL_split n1]
   rw [er]
   rw [<- hcc] at FY
   have LK:=fun w1 (b:Below w.heap.size w w1) => zLinksC (S.below b) old ⟨⟨i,y,p,hf⟩,_,hz⟩ _ hz
   have DC:∀ w1,Below w.heap.size w w1 -> Calls Tryz.prog 24 #[.pointer (some ⟨gq,0,none⟩),.int .u64 (old:Int)] w1 fun e w' => e = .returned (.int .i64 0) /\ Did w1 w' L c s bs Z gq gl (0,updL Ls (clsN c s old) k (l1 ++ l2)):=fun w1 b => by
    have:=dropC (QB w1 b) old ho
    unfold dropN outN at this
    rw [if_neg h0,e,Nat.add_sub_cancel,ec,he, <- ec] at this
    exact this
   obtain ⟨X,hX⟩:∃ X,X = clsN c s old:=⟨_,rfl⟩
   rw [<- hX] at SC FY DC ⊢
   have hXi:X = s.cls i:=by rw [hX,ec]
   have hXi':s.cls i' = X:=by rw [hX,hcc,ec']
   have hXn:X < c.nc:=by rw [hXi]; exact hx
   obtain ⟨a,hA⟩:∃ a,a = l1.getLast?.getD 0:=⟨_,rfl⟩
   obtain ⟨b,hB⟩:∃ b,b = l2.head?.getD 0:=⟨_,rfl⟩
   rw [<- hA, <- hB] at LK
   have LY:∀ w1 bs1 Z1,(∀ H',(Z1 H').isSome = (Z H').isSome) -> QW w1 L c s bs1 Z1 gq gl (updL Ls X k (l1 ++ l2)) ->
     Calls Tryz.prog 63 #[.pointer (some ⟨gq,0,none⟩),.pointer (some ⟨gl,X * 9 + k * 3,none⟩),.int .u64 (H:Int),.int .i64 ((k:Int) + 1),.int .u64 (a:Int),.int .u64 (b:Int)] w1 fun e w' => e = .returned (.tuple #[]) /\ Did w1 w' L c s bs1 Z1 gq gl (0,updL Ls X k (l1 ++ H :: l2)):=by
    rintro w1 bs1 Z1 dz ⟨F1,S1,q1⟩
    have hIt:∀ y ∈ l1 ++ l2,It c s Z1 y:=fun y hy => q1.is hXn hk (by rw [updL_at]; exact hy)
    have hIH:It c s Z1 H:=⟨⟨i',y',p',hf'⟩,Option.isSome_iff_exists.1 ((dz H).trans (by rw [hz']; rfl))⟩
    have hout:∀ x j,x < c.nc -> j < 3 -> H ∉ updL Ls X k (l1 ++ l2) x j:=by
     intro x j hx' hj hm'
     by_cases ee:x = X /\ j = k
     ·obtain ⟨rfl,rfl⟩:=ee
      rw [updL_at] at hm'
      refine hnH x j hx' hj ?_
      rw [hXi,hl]
      rcases List.mem_append.1 hm' with hm' | hm'
      ·exact List.mem_append.2 (.inl hm')
      ·exact List.mem_append.2 (.inr (List.mem_cons_of_mem _ hm'))
     ·rw [updL_ne ee] at hm'
      exact hnH x j hx' hj hm'
    have hlay:=q1.lay S1.okc S1.zs.good hXn hk hf' hXi' hout l1 l2 (updL_at _ _ _ _)
    rw [<- hA, <- hB] at hlay
    have hn1:F1.n X k < 1073741824:=by have:=q1.nB S1.okc S1.zs.good hXn hk; omega
    refine (layC S1 hXn hk H a b hIH ?_ ?_ hn1).mono ?_
    ·rw [hA]
     exact last_in.imp id fun hm' => hIt _ (List.mem_append.2 (.inl hm'))
    ·rw [hB]
     exact head_in.imp id fun hm' => hIt _ (List.mem_append.2 (.inr hm'))
    ·rintro e2 w' ⟨rfl,o2,bs2,E2,S2⟩
     have eU:updL (updL Ls X k (l1 ++ l2)) X k (l1 ++ H :: l2) = updL Ls X k (l1 ++ H :: l2):=by
      funext u v
      unfold updL
      split <;> rfl
     rw [eU] at hlay
     exact ⟨rfl,o2,bs2,_,E2,fun H' => jZ_some.trans (jZ_some.trans (upd_some hIH.2 H')),fun h => absurd rfl h,_,S2,hlay⟩
   replace SC:=Lib.hid SC
   replace ST:=Lib.hid ST
   replace FY:=Lib.hid FY
   replace LK:=Lib.hid LK
   replace DC:=Lib.hid DC
   replace LY:=Lib.hid LY
   replace q0:=Lib.hid q0
   clear h0 q S hf hz hx hm hl he hnd n1 QB hR hR2 hi hs hi2 hi3 hf' hz' hnH er ec ec' e hcc hX hXi hXi' hXn hA hB
   go_enter Tryz.func35,Tryz.ntmps35
   go_wp2_with fail
   refine SC.out.mono ?_
   rintro e w1 ⟨rfl,b1⟩
   have g0:=q0.out w1 b1
   have D:=Lib.hid (ST.out w1 b1)
   replace b1:=Lib.hid b1
   clear SC ST
   go_wp2_with fail
   refine D.out.mono ?_
   rintro e w2 ⟨rfl,b2⟩
   have bb:=b1.out.trans (b2.mono b1.out.size)
   have D2:=Lib.hid (FY.out w2 bb)
   replace bb:=Lib.hid bb
   clear D FY b1 b2 g0
   go_wp2_with fail
   refine D2.out.mono ?_
   rintro e w3 ⟨rfl,b3⟩
   have bc:=bb.out.trans (b3.mono bb.out.size)
   have g0:=q0.out w3 bc
   have D3:=Lib.hid (LK.out w3 bc).1
   have pn:=lst_neq gl (X * 9 + k * 3) (X * 9 + k * 3) w3
   rw [decide_eq_true rfl] at pn
   replace bc:=Lib.hid bc
   clear D2 bb b3
   go_wp2_with fail
   refine D3.out.mono ?_
   rintro e w4 ⟨rfl,b4⟩
   have bd:=bc.out.trans (b4.mono bc.out.size)
   have g0:=q0.out w4 bd
   have D4:=Lib.hid (LK.out w4 bd).2
   replace bd:=Lib.hid bd
   clear D3 LK bc b4
   go_wp2_with fail
   refine D4.out.mono ?_
   rintro e w5 ⟨rfl,b5⟩
   have be:=bd.out.trans (b5.mono bd.out.size)
   have D5:=Lib.hid (DC.out w5 be)
   replace be:=Lib.hid be
   clear D4 DC bd b5 g0 q0
   go_wp2_with fail
   refine D5.out.mono ?_
   rintro e w6 ⟨rfl,o6,bs6,Z6,E6,dz6, -,Q6⟩
   have D6:=Lib.hid (LY.out w6 bs6 Z6 dz6 Q6)
   replace o6:=Lib.hid o6
   replace E6:=Lib.hid E6
   replace dz6:=Lib.hid dz6
   clear D5 LY Q6
   go_wp2_with fail
   refine D6.out.mono ?_
   rintro e w7 ⟨rfl,o7,bs7,Z7,E7,dz7, -,Q7⟩
   obtain ⟨o8,E8,dz8⟩:=did_trans o6.out o7 E6.out dz6.out E7 dz7
   have T:=Lib.hid (show Did w w7 L c s bs Z gq gl (0,updL Ls X k (l1 ++ H :: l2)) from ⟨two_trans (below_two be.out) o8,bs7,Z7,E8,dz8,fun h => absurd rfl h,Q7⟩)
   clear D6 o6 E6 dz6 o7 E7 dz7 Q7 o8 E8 dz8 be
   go_wp2
   go_ret
   exact ⟨rfl,T.out⟩
  ·have er:swapN c s Z Ls old H = (1,Ls):=by
    unfold swapN
    rw [if_neg (by rw [hi2]; simp [h0]),if_neg (by omega),if_pos hcc]
   rw [er]
   have hab:¬ (clsN c s H * 9 + k * 3 = clsN c s old * 9 + k * 3):=fun e => hcc (by omega)
   generalize clsN c s H * 9 + k * 3 = a at *
   generalize clsN c s old * 9 + k * 3 = b at *
   replace SC:=Lib.hid SC
   replace ST:=Lib.hid ST
   replace FY:=Lib.hid FY
   replace q0:=Lib.hid q0
   clear h0 q S hf hz hx hm hl he hnd n1 QB hR hR2 hi hs hi2 hi3 hf' hz' hnH er ec ec' e hcc
   go_enter Tryz.func35,Tryz.ntmps35
   go_wp2_with fail
   refine SC.out.mono ?_
   rintro e w1 ⟨rfl,b1⟩
   have g0:=q0.out w1 b1
   have D:=Lib.hid (ST.out w1 b1)
   replace b1:=Lib.hid b1
   clear SC ST
   go_wp2_with fail
   refine D.out.mono ?_
   rintro e w2 ⟨rfl,b2⟩
   have bb:=b1.out.trans (b2.mono b1.out.size)
   have D2:=Lib.hid (FY.out w2 bb)
   replace bb:=Lib.hid bb
   clear D FY b1 b2 g0
   go_wp2_with fail
   refine D2.out.mono ?_
   rintro e w3 ⟨rfl,b3⟩
   have T:=Lib.hid (hw.out.same (R:=1) (bb.out.trans (b3.mono bb.out.size)))
   have pn:=lst_neq gl a b w3
   rw [decide_eq_false hab] at pn
   replace hab:=Lib.hid hab
   clear D2 bb b3
   go_wp2
   go_ret
   exact ⟨rfl,T.out⟩
 ·obtain ⟨R,hRR⟩:∃ R,R = (pushN c s Z Ls H ((k:Int) + 1) false).1:=⟨_,rfl⟩
  have er:swapN c s Z Ls old H = (R,Ls):=by
   rw [hRR]
   unfold pushN at hR ⊢
   rw [if_neg (by omega)] at hR ⊢
   unfold swapN
   by_cases hi:isN c s Z H = false
   ·rw [if_pos hi,if_pos (.inr hi)]
   ·rw [if_neg hi] at hR ⊢
    rw [if_neg (by simp [h0,hi])]
    by_cases hs:stK (clsN c s H) Ls H ≠ 0
    ·rw [if_pos hs,if_pos hs]
    ·rw [if_neg hs] at hR
     exact absurd rfl hR
  rw [er]
  have FN:=fun w1 (b:Below w.heap.size w w1) => qFreeC (QB w1 b) H hH ((k:Int) + 1) false R hRR.symm (by rw [hRR]; exact hR)
  obtain ⟨r1,r2⟩:((R:Int) == 0) = false /\ decide ((R:Int) = 0) = false:=by
   have:R ≠ 0:=by rw [hRR]; exact hR
   exact ⟨by rw [beq_eq_false_iff_ne]; omega,decide_eq_false (by omega)⟩
  have r3:¬ (R = 0):=by rw [hRR]; exact hR
  generalize clsN c s old * 9 + k * 3 = b at *
  replace SC:=Lib.hid SC
  replace ST:=Lib.hid ST
  replace FN:=Lib.hid FN
  replace q0:=Lib.hid q0
  replace hRR:=Lib.hid hRR
  clear h0 q S hf hz hx hm hl he hnd n1 QB hR er ec e
  go_enter Tryz.func35,Tryz.ntmps35
  go_wp2_with fail
  refine SC.out.mono ?_
  rintro e w1 ⟨rfl,b1⟩
  have g0:=q0.out w1 b1
  have D:=Lib.hid (ST.out w1 b1)
  replace b1:=Lib.hid b1
  clear SC ST
  go_wp2_with fail
  refine D.out.mono ?_
  rintro e w2 ⟨rfl,b2⟩
  have bb:=b1.out.trans (b2.mono b1.out.size)
  have D2:=Lib.hid (FN.out w2 bb)
  replace bb:=Lib.hid bb
  clear D FN b1 b2 g0
  go_wp2_with fail
  refine D2.out.mono ?_
  rintro e w3 ⟨rfl,b3⟩
  have T:=Lib.hid (hw.out.same (R:=R) (bb.out.trans (b3.mono bb.out.size)))
  clear D2 bb b3
  go_wp2
  go_ret
  exact ⟨rfl,T.out⟩
end
theorem drewN_add (w:World) (a b:Nat):w.drewN (a + b) = (w.drewN a).drewN b:=by simp [World.drewN,Nat.add_assoc]
theorem drewN_one (w:World) (a:Nat):(w.drewN a).drew = w.drewN (a + 1):=by simp [World.drewN,World.drew,Nat.add_assoc]
theorem own_put {w:World} {N n g cp k:Nat} {e:TypeId} {xs:List Value} (h:w.ownsRow N e 1 (.slice (some ⟨g,0,none⟩) n cp) n xs) (u:Value) (hk:k < n):(w.setCell ⟨g,k,none⟩ u).ownsRow N e 1 (.slice (some ⟨g,0,none⟩) n cp) n (xs.set k u):=by
  refine ⟨by rw [List.length_set]; exact h.1,?_⟩
  rcases h.2 with ⟨e0,h0⟩ | ⟨g',cap,cur,hv,hB,hg,h1,h2,h3,h4⟩
  · cases e0
  · injection hv with hv1 hv2 hv3
    injection hv1 with hv1
    injection hv1 with hv1
    subst hv1 hv3
    refine .inr ⟨g,cp,cur.setIfInBounds k u,rfl,hB,?_,h1,h2,by simpa using h3,?_⟩
    · simp [World.setCell,Array.getElem?_modify,hg]
    · rw [Array.toList_setIfInBounds,List.take_set,h4]
theorem R6At.setAt {w w6:World} {R R':R6} {mb n:Nat} {laid:List Nat} {lists:Nat -> List Nat} (h:R6At w6 R' mb n laid lists) (We:Went6 w w6 R R' n) {j k:Nat} (hj:j < n) {g K cp:Nat} (hF:R'.F j = .slice (some ⟨g,0,none⟩) K cp) (hK:(lists j).length = K) (hk:k < K) (H:Nat) :
    R6At (w6.setCell ⟨g,k,none⟩ (.int .u64 (H:Int))) R' mb n laid (upd lists j ((lists j).set k H)) /\ Went6 w (w6.setCell ⟨g,k,none⟩ (.int .u64 (H:Int))) R R' n:=by
  have o:=h.row hj
  rw [hF,hK] at o
  have hb:R'.blk n (.row j) = some g:=by
    show (if j < n then (R'.F j).ownBlock else none) = some g
    rw [if_pos hj,hF]; rfl
  have far:∀ d,d < w6.heap.size -> d ≠ g -> (w6.setCell ⟨g,k,none⟩ (.int .u64 (H:Int))).heap[d]? = w6.heap[d]?:=fun d hd hne => (only_cell1 (S:=(· = g)) w6 g k _ rfl).block d hd hne
  have kp:∀ p d,p ≠ .row j -> R'.blk n p = some d -> (w6.setCell ⟨g,k,none⟩ (.int .u64 (H:Int))).heap[d]? = w6.heap[d]?:=fun p d hp hd => far d (h.lt ⟨p,hd⟩) (fun e => hp (h.inj p (.row j) d hd (by rw [e]; exact hb)))
  refine ⟨⟨fun p => ?_,h.inj⟩,⟨We.only.trans (only_cell1 (S:=F6 R' n) w6 g k _ ⟨.row j,hb⟩) (fun x hx hf => (We.foot x hf).resolve_right (by omega)),fun b hb' => We.foot b hb',We.gl⟩⟩
  cases p with
  | head => exact (kp .head _ (by simp) rfl).trans h.head
  | laid => exact own_keptN h.laidR fun d e => kp .laid d (by simp) e
  | grid => exact h.grid.kept (kp .grid _ (by simp) rfl)
  | row i =>
    intro hi
    by_cases e:i = j
    · subst e
      show World.ownsRow _ 0 _ 1 (R'.F i) (upd lists i ((lists i).set k H) i).length ((upd lists i ((lists i).set k H) i).map uv)
      rw [upd_at,List.length_set,hK,hF,List.map_set]
      exact own_put o _ hk
    · show World.ownsRow _ 0 _ 1 (R'.F i) (upd lists j ((lists j).set k H) i).length ((upd lists j ((lists j).set k H) i).map uv)
      rw [upd_ne _ _ e]
      exact own_keptN (h.row hi) fun d hd => kp (.row i) d (fun e2 => by cases e2; exact e rfl) (by rw [R6.blk,if_pos hi]; exact hd)
section
variable {w:World} {R:R6} {M:RL} {c:Conf} {s:St} {Z:Nat -> Option Zd} {Ls:Nat -> Nat -> List Nat} {r:RS} {laid:List Nat} (h:D6 w R M c s Z Ls r laid)
include h
theorem D6.atC {H i x p:Nat} (hf:findN c.cf s H = some (i,x,p)):∃ P:Nat,Calls Tryz.prog 59 #[.pointer (some ⟨M.b,0,none⟩),.int .u64 (H:Int)] w fun e w' => e = .returned (.tuple #[.int .i64 (P:Int),.int .i64 (clsN c s H:Int),.int .i64 0]) /\ ∃ m,w.drewN m = w':=by
  obtain ⟨j,hj,hx⟩:=h.rel.find_some h.ok h.good hf
  have ec:clsN c s H = s.cls i:=by unfold clsN; rw [hf]
  have:=ratC w M c r h.ref h.fine h.ch H
  rw [hj] at this
  unfold ratV at this
  simp only [hx] at this
  rw [ec]
  exact ⟨_,this⟩
set_option maxHeartbeats 2000000 in
theorem swap6C (old H:Nat):Calls Tryz.prog 37 #[.pointer (some ⟨R.b,0,none⟩),.int .u64 (old:Int),.int .u64 (H:Int)] w fun e w' => e = .returned (.int .i64 ((swapN c s Z Ls old H).1:Int)) /\ ∃ R',R'.b = R.b /\ Went6 w w' R R' (3 * c.nc) /\ R6At w' R' M.b (3 * c.nc) laid (rows6 (swapN c s Z Ls old H).2):=by
  have IC:=is6C h H
  unfold swapN
  have WO:=D6.whereC h old
  have hnc:=h.hnc
  by_cases h0:stK (clsN c s old) Ls old = 0
  · rw [if_pos (.inl h0)]
    rw [if_pos h0] at WO
    have hD:=Lib.hid h
    replace WO:=Lib.hid WO
    clear h h0 IC
    go_enter Tryz.func37,Tryz.ntmps37
    go_wp2_with fail
    refine WO.out.mono ?_
    rintro e w1 ⟨⟨q,rfl⟩,rfl⟩
    go_wp2
    go_ret
    exact ⟨rfl,R,rfl,went6_refl 0,hD.out.doc⟩
  rcases h.at6 old with ⟨e0, -⟩ | ⟨k,l1,l2,e,ha, -, -, -,hl⟩
  · exact absurd e0 h0
  clear WO
  have WO:=where6 w R M.b c laid Ls h.doc h.hnc (fun x k hx hk => Nat.le_succ_of_le (h.hll x k hx hk)) old ha
  obtain ⟨hX,hk, -,hn1, -⟩:=ha
  rw [e,Nat.add_sub_cancel]
  obtain ⟨j,hj⟩:∃ j,j = 3 * clsN c s old + k:=⟨_,rfl⟩
  rw [<- hj] at WO
  have hjn:j < 3 * c.nc:=by omega
  have dj:decide ((j:Int) < 0) = false:=decide_eq_false (by omega)
  obtain ⟨q,hq⟩:∃ q,q = l1.length:=⟨_,rfl⟩
  rw [<- hq] at WO
  by_cases hi:isN c s Z H = false
  · rw [if_pos (.inr hi)]
    rw [hi] at IC
    have hD:=Lib.hid h
    replace WO:=Lib.hid WO
    replace IC:=Lib.hid IC
    replace hj:=Lib.hid hj
    replace hq:=Lib.hid hq
    clear h h0 hi e hl hn1 hX
    go_enter Tryz.func37,Tryz.ntmps37
    go_wp2_with fail
    refine WO.out.mono ?_
    rintro e w1 ⟨rfl,rfl⟩
    go_wp2_with fail
    refine IC.out.mono ?_
    rintro e w2 ⟨rfl,m,hw⟩
    replace hw:=Lib.hid hw
    go_wp2
    go_ret
    exact ⟨rfl,R,rfl,by rw [<- hw.out]; exact went6_refl m,by rw [<- hw.out]; exact (hD.out.draw m).doc⟩
  have hi2:isN c s Z H = true:=by simpa using hi
  rw [if_neg (by simp [h0,hi2])]
  rw [hi2] at IC
  have WH:=fun m => D6.whereC (h.draw m) H
  by_cases hs:stK (clsN c s H) Ls H ≠ 0
  · rw [if_pos hs]
    rw [if_neg hs] at WH
    obtain ⟨z,hz⟩:∃ z:Nat,z = 3 * clsN c s H + (stK (clsN c s H) Ls H - 1):=⟨_,rfl⟩
    rw [<- hz] at WH
    have dz:decide ((0:Int) <= (z:Int)) = true:=decide_eq_true (by omega)
    have hD:=Lib.hid h
    replace WO:=Lib.hid WO
    replace IC:=Lib.hid IC
    replace WH:=Lib.hid WH
    replace hj:=Lib.hid hj
    replace hq:=Lib.hid hq
    replace hz:=Lib.hid hz
    clear h h0 hi hi2 hs e hl hn1 hX
    go_enter Tryz.func37,Tryz.ntmps37
    go_wp2_with fail
    refine WO.out.mono ?_
    rintro e w1 ⟨rfl,rfl⟩
    go_wp2_with fail
    refine IC.out.mono ?_
    rintro e w2 ⟨rfl,m,hw⟩
    have WH1:=Lib.hid (WH.out m)
    rw [hw] at WH1
    replace hw:=Lib.hid hw
    clear IC WH
    go_wp2_with fail
    refine WH1.out.mono ?_
    rintro e w3 ⟨⟨q',rfl⟩,rfl⟩
    go_wp2
    go_ret
    exact ⟨rfl,R,rfl,by rw [<- hw.out]; exact went6_refl m,by rw [<- hw.out]; exact (hD.out.draw m).doc⟩
  rw [if_neg hs]
  rw [if_pos (Classical.not_not.1 hs)] at WH
  have hi3:=hi2
  unfold isN at hi3
  obtain ⟨⟨i',y',p'⟩,hf'⟩:=Option.isSome_iff_exists.1 (Bool.and_eq_true_iff.1 hi3).1
  obtain ⟨F,Q⟩:=h.q
  obtain ⟨-,i,y,p, -, -,hf, -⟩:=Q.of_stK h.ok h.good h0
  have AO:=fun m => (h.draw m).atC hf
  have AH:=fun m => (h.draw m).atC hf'
  by_cases hcc:clsN c s old = clsN c s H
  · rw [if_neg (by simp [hcc])]
    rw [<- hcc] at AH
    have hlb:=h.hll _ _ hX hk
    have eL:=rows6_at Ls (X:=clsN c s old) hk
    have eS:swL (Ls (clsN c s old) k) old H = (Ls (clsN c s old) k).set q H:=by unfold swL; rw [hl,idx_split hn1,hq]
    have hqK:q < (Ls (clsN c s old) k).length:=by rw [hl,hq]; simp
    have eU:=rows6_upd Ls (clsN c s old) k hk ((Ls (clsN c s old) k).set q H)
    rw [eS, <- eU, <- hj]
    rw [<- hj] at eL
    rw [<- eL] at hlb hqK ⊢
    have rg:∀ m,R6At (w.drewN m) R M.b (3 * c.nc) laid (rows6 Ls):=fun m => (h.draw m).doc
    have c0:=fun m => (h.draw m).doc.c0
    generalize rows6 Ls = lists at *
    generalize clsN c s old = X at *
    generalize hn : 3 * c.nc = n at *
    replace WO:=Lib.hid WO
    replace IC:=Lib.hid IC
    replace WH:=Lib.hid WH
    replace AO:=Lib.hid AO
    replace AH:=Lib.hid AH
    replace rg:=Lib.hid rg
    replace c0:=Lib.hid c0
    clear h h0 hi hi2 hi3 hs e hl hn1 hX hf hf' hcc eS eU eL Q hq hj
    go_enter Tryz.func37,Tryz.ntmps37
    go_wp2_with fail
    refine WO.out.mono ?_
    rintro e w1 ⟨rfl,rfl⟩
    go_wp2_with fail
    refine IC.out.mono ?_
    rintro e w2 ⟨rfl,m,hw⟩
    have WH1:=Lib.hid (WH.out m)
    rw [hw] at WH1
    replace hw:=Lib.hid hw
    clear IC WH WO
    go_wp2_with fail
    refine WH1.out.mono ?_
    rintro e w3 ⟨⟨q',rfl⟩,rfl⟩
    have c0a:=c0.out m
    obtain ⟨P1,AO1⟩:=AO.out m
    rw [hw.out] at c0a AO1
    replace AO1:=Lib.hid AO1
    clear WH1 AO
    go_wp2_with fail
    refine AO1.out.mono ?_
    rintro e w4 ⟨rfl,m4,hw4⟩
    have e4:w.drewN (m + m4) = w4:=by rw [<- hw4, <- hw.out]; exact drewN_add _ _ _
    have c0b:=c0.out (m + m4)
    obtain ⟨P2,AH1⟩:=AH.out (m + m4)
    rw [e4] at c0b AH1
    replace AH1:=Lib.hid AH1
    replace hw4:=Lib.hid hw4
    replace e4:=Lib.hid e4
    clear AO1 AH c0a c0 hw
    go_wp2_with fail
    refine AH1.out.mono ?_
    rintro e w6 ⟨rfl,m6,hw6⟩
    have e6:w.drewN (m + m4 + m6) = w6:=by rw [<- hw6, <- e4.out]; exact drewN_add _ _ _
    have rg6:=rg.out (m + m4 + m6)
    rw [e6] at rg6
    replace rg6:=Lib.hid rg6
    replace hw6:=Lib.hid hw6
    replace e6:=Lib.hid e6
    clear AH1 c0b rg e4 hw4
    go_upto_region 11 with fail
    obtain ⟨w5,hw5⟩:∃ w5,w5 = w6.drew:=⟨_,rfl⟩
    have h5:R6At w5 R M.b n laid lists:=by rw [hw5]; exact rg6.out.drew
    obtain ⟨K,cp,A,r5⟩:=h5.reg hjn
    obtain ⟨c2,hRb,⟨cs,GB⟩,hGl,hne,rd⟩:=r5.facts
    have cl:=r5.cl
    have hK':K <= 1073741823:=by rw [<- r5.len]; exact hlb
    have hqK':q < K:=by rw [<- r5.len]; exact hqK
    have bw5:=Below.refl w5.heap.size w5
    have j0:(0:Int) <= (j:Int):=by omega
    have j1:(j:Int) < (n:Int):=by omega
    have fin:∀ v V,Below w5.heap.size w5 v -> v.ownsRow w5.heap.size 26 1 V K ([] ++ (lists j).map uv) -> ∃ g cp',V = .slice (some ⟨g,0,none⟩) K cp' /\
        ((v.setCell ⟨R.gL,j,none⟩ V).cell? ⟨R.b,2,none⟩ = some (.slice (some ⟨R.gL,0,none⟩) n n) /\ (v.setCell ⟨R.gL,j,none⟩ V).cell? ⟨R.gL,j,none⟩ = some V /\ (∃ u,(v.setCell ⟨R.gL,j,none⟩ V).cell? ⟨g,q,none⟩ = some (.int .u64 u)) /\ (v.setCell ⟨R.gL,j,none⟩ V).frozen? ⟨g,q,none⟩ = false) /\
        ∃ R',R'.b = R.b /\ Went6 w ((v.setCell ⟨R.gL,j,none⟩ V).setCell ⟨g,q,none⟩ (.int .u64 (H:Int))) R R' n /\ R6At ((v.setCell ⟨R.gL,j,none⟩ V).setCell ⟨g,q,none⟩ (.int .u64 (H:Int))) R' M.b n laid (upd lists j ((lists j).set q H)):=by
      intro v V b6 o6
      obtain ⟨a1,a2⟩:=h5.setRow hjn (l:=lists j) b6 (by rw [r5.len]; exact o6)
      obtain ⟨g,c',hV,hg⟩:=own_uv (i:=q) (x:=(lists j)[q]'hqK) o6 (List.getElem?_eq_getElem hqK)
      have a3:=R6At.setAt a1 (went6_draw (m + m4 + m6 + 1) (by rw [hw5, <- e6.out]; exact drewN_one w _) a2) hjn (k:=q) (g:=g) (K:=K) (cp:=c') (by show upd R.F j V j = _; rw [upd_at]; exact hV) (by rw [upd_at]; exact r5.len) hqK' H
      have eu:upd (upd lists j (lists j)) j ((upd lists j (lists j) j).set q H) = upd lists j ((lists j).set q H):=by rw [upd_at,upd_upd]
      rw [eu] at a3
      have hgb:V.ownBlock = some g:=by rw [hV]; rfl
      have hgn:g ≠ R.gL:=fun e => by have:=own_base o6 hgb; omega
      have hor:=a1.row hjn
      have hfr:(v.setCell ⟨R.gL,j,none⟩ V).frozen? ⟨g,q,none⟩ = false:=by
        rcases o6.2 with ⟨e0,h0⟩ | ⟨g',cap,cur,hv',hB,hg', -⟩
        · rw [hV] at e0; cases e0
        · rw [hV] at hv'
          injection hv' with hv1
          injection hv1 with hv1
          injection hv1 with hv1
          subst hv1
          exact Blk.frozen (Blk.far (p:=⟨R.gL,j,none⟩) (show Blk v g _ cur from hg') hgn V) q
      refine ⟨g,c',hV,⟨a1.c2,?_,⟨_,(World.cell?_setCell_far _ _ _ _ (Ne.symm hgn)).trans hg⟩,hfr⟩, { R with F:=upd R.F j V },rfl,a3.2,a3.1⟩
      have:=a1.grid.cell j 0 hjn (by decide)
      rw [Nat.mul_one,Nat.add_zero] at this
      rw [this]
      show some (upd R.F j V j) = some V
      rw [upd_at]
    have q0:(0:Int) <= (q:Int):=by omega
    have q1:(q:Int) < (K:Int):=by omega
    replace rd:=Lib.hid rd
    replace fin:=Lib.hid fin
    clear r5 h5 rg6 e6
    refine wp_region_noPanic ?_
    refine wp_region_held_drew (S:=fun w' => w'.cell? ⟨R.b,2,none⟩ = some (.slice (some ⟨R.gL,0,none⟩) n n)) (by kernel_rfl) (by rw [<- hw5]; exact c2) (fun hHeld => ?_)
    rw [<- hw5] at hHeld ⊢
    clear hw5
    refine tkh (i:=0) (v:=?_) rfl ?_ ?_
    rotate_left
    · try simp only [qA,qS,qZ]
      intro w hSw
      (try dsimp only at hSw)
      go_simp
      (try with_reducible rfl)
    try simp only [qA,qS,qZ,Act.put,qT,qO,qN]
    refine tkh (i:=1) (v:=?_) rfl ?_ ?_
    rotate_left
    · try simp only [qA,qS,qZ]
      intro w hSw
      (try dsimp only at hSw)
      go_simp
      (try with_reducible rfl)
    try simp only [qA,qS,qZ,Act.put,qT,qO,qN]
    refine tkh (i:=2) (v:=?_) rfl ?_ ?_
    rotate_left
    · try simp only [qA,qS,qZ]
      intro w hSw
      (try dsimp only at hSw)
      go_simp
      (try with_reducible rfl)
    try simp only [qA,qS,qZ,Act.put,qT,qO,qN]
    refine tkh (i:=3) (v:=?_) rfl ?_ ?_
    rotate_left
    · try simp only [qA,qS,qZ]
      intro w hSw
      (try dsimp only at hSw)
      go_simp
      (try with_reducible rfl)
    try simp only [qA,qS,qZ,Act.put,qT,qO,qN]
    refine tkh (i:=4) (v:=?_) rfl ?_ ?_
    rotate_left
    · try simp only [qA,qS,qZ]
      intro w hSw
      (try dsimp only at hSw)
      go_simp
      (try with_reducible rfl)
    try simp only [qA,qS,qZ,Act.put,qT,qO,qN]
    refine tkh (i:=6) (v:=?_) rfl ?_ ?_
    rotate_left
    · try simp only [qA,qS,qZ]
      intro w hSw
      (try dsimp only at hSw)
      go_simp
      (try with_reducible rfl)
    try simp only [qA,qS,qZ,Act.put,qT,qO,qN]
    refine tkh (i:=7) (v:=?_) rfl ?_ ?_
    rotate_left
    · try simp only [qA,qS,qZ]
      intro w hSw
      (try dsimp only at hSw)
      go_simp
      (try with_reducible rfl)
    try simp only [qA,qS,qZ,Act.put,qT,qO,qN]
    refine tkh (i:=8) (v:=?_) rfl ?_ ?_
    rotate_left
    · try simp only [qA,qS,qZ]
      intro w hSw
      (try dsimp only at hSw)
      go_simp
      (try with_reducible rfl)
    try simp only [qA,qS,qZ,Act.put,qT,qO,qN]
    refine tkh (i:=9) (v:=?_) rfl ?_ ?_
    rotate_left
    · try simp only [qA,qS,qZ]
      intro w hSw
      (try dsimp only at hSw)
      go_simp
      (try with_reducible rfl)
    try simp only [qA,qS,qZ,Act.put,qT,qO,qN]
    refine tkh (i:=10) (v:=?_) rfl ?_ ?_
    rotate_left
    · try simp only [qA,qS,qZ]
      intro w hSw
      (try dsimp only at hSw)
      go_simp
      (try with_reducible rfl)
    try simp only [qA,qS,qZ,Act.put,qT,qO,qN]
    refine tkh (i:=11) (v:=?_) rfl ?_ ?_
    rotate_left
    · try simp only [qA,qS,qZ]
      intro w hSw
      (try dsimp only at hSw)
      go_simp
      (try with_reducible rfl)
    try simp only [qA,qS,qZ,Act.put,qT,qO,qN]
    refine wpAnyH_ready (rs:=[5,12]) (by kernel_rfl) (by simp) ?_
    refine AllReadyH.cons (o:=_) rfl (fun K hK => ?_) ?_
    · try simp only [qA,qS,qZ,Act.put,qT,qO,qN]
      go_simp
      obtain ⟨v6,hv6⟩:∃ x,x = World.alloc w5 (.cells #[] 26):=⟨_,rfl⟩
      have bv6:Below w5.heap.size w5 v6:=by rw [hv6]; exact bw5.alloc bw5.size _
      have sv6:=Lib.hid (show v6.heap.size = w5.heap.size + 1 by rw [hv6]; exact World.size_alloc _ _)
      have oAv6:=own_zero w5 w5.heap.size bw5.size
      rw [<- hv6] at oAv6
      rw [<- hv6]
      clear hv6
      refine hK.out _ _ ((bv6.cell (p:=⟨R.b,2,none⟩) hRb).trans c2) (fun hHeld => ?_)
      clear hK K
      try simp only [qA,qS,qZ,Act.put,qT,qO,qN]
      refine wpAnyH_ready (rs:=[12]) (by kernel_rfl) (by simp) ?_
      refine AllReadyH.cons (o:=_) rfl (fun K hK => ?_) ?_
      · try simp only [qA,qS,qZ,Act.put,qT,qO,qN]
        have clv7:=(bv6.cell (p:=⟨R.gL,j,none⟩) hGl).trans cl
        go_simp
        refine hK.out _ _ ((bv6.cell (p:=⟨R.b,2,none⟩) hRb).trans c2) (fun hHeld => ?_)
        clear hK K
        try simp only [qA,qS,qZ,Act.put,qT,qO,qN]
        clear clv7
        refine wpAnyH_ready (rs:=[13]) (by kernel_rfl) (by simp) ?_
        refine AllReadyH.cons (o:=_) rfl (fun K hK => ?_) ?_
        · try simp only [qA,qS,qZ,Act.put,qT,qO,qN]
          refine step_ap (a:=⟨_,_⟩) (by rfl) (.tmp 67) (.tmp 74) 45 (by rfl) eiL w5.heap.size _ _ _ (by rfl) oAv6 _ _ _ _ _ (by rfl) (rd.out.below bv6) ?ga1 ?gb1 ?gc1 bv6.size ?_
          case ga1 => first | exact uvs_cells _ | (intro u hu; rw [List.mem_singleton] at hu; subst hu; rfl)
          case gb1 => unfold maxLen; omega
          case gc1 => omega
          intro V v8 oAv8 hgv8 hatv8
          (try rw [Nat.zero_add] at oAv8)
          obtain ⟨Av8,cv8,rfl⟩:=own_is oAv8
          have bv8:Below w5.heap.size w5 v8:=bv6.grown hgv8 bv6.size (fun k e => own_base oAv6 e)
          refine hK.out _ _ ((bv8.cell (p:=⟨R.b,2,none⟩) hRb).trans c2) (fun hHeld => ?_)
          clear hK K
          try simp only [qA,qS,qZ,Act.put,qT,qO,qN]
          refine tkh (i:=14) (v:=?_) rfl ?_ ?_
          rotate_left
          · try simp only [qA,qS,qZ]
            intro w hSw
            (try dsimp only at hSw)
            go_simp
            (try with_reducible rfl)
          try simp only [qA,qS,qZ,Act.put,qT,qO,qN]
          refine wpAnyH_ready (rs:=[15]) (by kernel_rfl) (by simp) ?_
          refine AllReadyH.cons (o:=_) rfl (fun K hK => ?_) ?_
          · try simp only [qA,qS,qZ,Act.put,qT,qO,qN]
            have clv9:=(bv8.cell (p:=⟨R.gL,j,none⟩) hGl).trans cl
            have zzv9:Blk v8 R.gL 45 _:=(bv8.block R.gL hGl).trans GB
            have zfv9:=zzv9.frozen j
            replace zzv9:=Lib.hid zzv9
            go_simp
            refine hK.out _ _ ((World.cell?_setCell_far _ _ _ _ hne).trans ((bv8.cell (p:=⟨R.b,2,none⟩) hRb).trans c2)) (fun hHeld => ?_)
            clear hK K
            try simp only [qA,qS,qZ,Act.put,qT,qO,qN]
            clear clv9 zfv9 zzv9
            refine wpAnyH_done (by kernel_rfl) ?_ _
            refine NoPanic.normal ?_
            obtain ⟨gF,cF,hVF,⟨f1,f2,⟨u,f3⟩,f4⟩,T⟩:=fin.out v8 _ bv8 oAv8
            injection hVF with hV1 hV2 hV3
            subst hV1 hV3
            replace T:=Lib.hid T
            go_wp2
            go_ret
            exact ⟨rfl,T.out⟩
          exact AllReadyH.nil
        exact AllReadyH.nil
      exact AllReadyH.nil
    refine AllReadyH.cons (o:=_) rfl (fun K hK => ?_) ?_
    · try simp only [qA,qS,qZ,Act.put,qT,qO,qN]
      have clv6:=(bw5.cell (p:=⟨R.gL,j,none⟩) hGl).trans cl
      go_simp
      refine hK.out _ _ ((bw5.cell (p:=⟨R.b,2,none⟩) hRb).trans c2) (fun hHeld => ?_)
      clear hK K
      try simp only [qA,qS,qZ,Act.put,qT,qO,qN]
      clear clv6
      refine wpAnyH_ready (rs:=[5]) (by kernel_rfl) (by simp) ?_
      refine AllReadyH.cons (o:=_) rfl (fun K hK => ?_) ?_
      · try simp only [qA,qS,qZ,Act.put,qT,qO,qN]
        go_simp
        obtain ⟨v7,hv7⟩:∃ x,x = World.alloc w5 (.cells #[] 26):=⟨_,rfl⟩
        have bv7:Below w5.heap.size w5 v7:=by rw [hv7]; exact bw5.alloc bw5.size _
        have sv7:=Lib.hid (show v7.heap.size = w5.heap.size + 1 by rw [hv7]; exact World.size_alloc _ _)
        have oAv7:=own_zero w5 w5.heap.size bw5.size
        rw [<- hv7] at oAv7
        rw [<- hv7]
        clear hv7
        refine hK.out _ _ ((bv7.cell (p:=⟨R.b,2,none⟩) hRb).trans c2) (fun hHeld => ?_)
        clear hK K
        try simp only [qA,qS,qZ,Act.put,qT,qO,qN]
        refine wpAnyH_ready (rs:=[13]) (by kernel_rfl) (by simp) ?_
        refine AllReadyH.cons (o:=_) rfl (fun K hK => ?_) ?_
        · try simp only [qA,qS,qZ,Act.put,qT,qO,qN]
          refine step_ap (a:=⟨_,_⟩) (by rfl) (.tmp 67) (.tmp 74) 45 (by rfl) eiL w5.heap.size _ _ _ (by rfl) oAv7 _ _ _ _ _ (by rfl) (rd.out.below bv7) ?ga2 ?gb2 ?gc2 bv7.size ?_
          case ga2 => first | exact uvs_cells _ | (intro u hu; rw [List.mem_singleton] at hu; subst hu; rfl)
          case gb2 => unfold maxLen; omega
          case gc2 => omega
          intro V v8 oAv8 hgv8 hatv8
          (try rw [Nat.zero_add] at oAv8)
          obtain ⟨Av8,cv8,rfl⟩:=own_is oAv8
          have bv8:Below w5.heap.size w5 v8:=bv7.grown hgv8 bv7.size (fun k e => own_base oAv7 e)
          refine hK.out _ _ ((bv8.cell (p:=⟨R.b,2,none⟩) hRb).trans c2) (fun hHeld => ?_)
          clear hK K
          try simp only [qA,qS,qZ,Act.put,qT,qO,qN]
          refine tkh (i:=14) (v:=?_) rfl ?_ ?_
          rotate_left
          · try simp only [qA,qS,qZ]
            intro w hSw
            (try dsimp only at hSw)
            go_simp
            (try with_reducible rfl)
          try simp only [qA,qS,qZ,Act.put,qT,qO,qN]
          refine wpAnyH_ready (rs:=[15]) (by kernel_rfl) (by simp) ?_
          refine AllReadyH.cons (o:=_) rfl (fun K hK => ?_) ?_
          · try simp only [qA,qS,qZ,Act.put,qT,qO,qN]
            have clv9:=(bv8.cell (p:=⟨R.gL,j,none⟩) hGl).trans cl
            have zzv9:Blk v8 R.gL 45 _:=(bv8.block R.gL hGl).trans GB
            have zfv9:=zzv9.frozen j
            replace zzv9:=Lib.hid zzv9
            go_simp
            refine hK.out _ _ ((World.cell?_setCell_far _ _ _ _ hne).trans ((bv8.cell (p:=⟨R.b,2,none⟩) hRb).trans c2)) (fun hHeld => ?_)
            clear hK K
            try simp only [qA,qS,qZ,Act.put,qT,qO,qN]
            clear clv9 zfv9 zzv9
            refine wpAnyH_done (by kernel_rfl) ?_ _
            refine NoPanic.normal ?_
            obtain ⟨gF,cF,hVF,⟨f1,f2,⟨u,f3⟩,f4⟩,T⟩:=fin.out v8 _ bv8 oAv8
            injection hVF with hV1 hV2 hV3
            subst hV1 hV3
            replace T:=Lib.hid T
            go_wp2
            go_ret
            exact ⟨rfl,T.out⟩
          exact AllReadyH.nil
        exact AllReadyH.nil
      exact AllReadyH.nil
    exact AllReadyH.nil
  · rw [if_pos hcc]
    have dc:((clsN c s old:Int) == (clsN c s H:Int)) = false:=by rw [beq_eq_false_iff_ne]; omega
    have dc2:((clsN c s old:Int) != (clsN c s H:Int)) = true:=by rw [bne_iff_ne]; omega
    have dc3:decide ((clsN c s old:Int) = (clsN c s H:Int)) = false:=decide_eq_false (by omega)
    have c0:=fun m => (h.draw m).doc.c0
    generalize clsN c s old = X at *
    generalize clsN c s H = X' at *
    have hD:=Lib.hid h
    replace WO:=Lib.hid WO
    replace IC:=Lib.hid IC
    replace WH:=Lib.hid WH
    replace AO:=Lib.hid AO
    replace AH:=Lib.hid AH
    replace c0:=Lib.hid c0
    replace hj:=Lib.hid hj
    replace hq:=Lib.hid hq
    clear h h0 hi hi2 hi3 hs e hl hn1 hX hf hf' hcc Q
    go_enter Tryz.func37,Tryz.ntmps37
    go_wp2_with fail
    refine WO.out.mono ?_
    rintro e w1 ⟨rfl,rfl⟩
    go_wp2_with fail
    refine IC.out.mono ?_
    rintro e w2 ⟨rfl,m,hw⟩
    have WH1:=Lib.hid (WH.out m)
    rw [hw] at WH1
    replace hw:=Lib.hid hw
    clear IC WH WO
    go_wp2_with fail
    refine WH1.out.mono ?_
    rintro e w3 ⟨⟨q',rfl⟩,rfl⟩
    have c0a:=c0.out m
    obtain ⟨P1,AO1⟩:=AO.out m
    rw [hw.out] at c0a AO1
    replace AO1:=Lib.hid AO1
    clear WH1 AO
    go_wp2_with fail
    refine AO1.out.mono ?_
    rintro e w4 ⟨rfl,m4,hw4⟩
    have e4:w.drewN (m + m4) = w4:=by rw [<- hw4, <- hw.out]; exact drewN_add _ _ _
    have c0b:=c0.out (m + m4)
    obtain ⟨P2,AH1⟩:=AH.out (m + m4)
    rw [e4] at c0b AH1
    replace AH1:=Lib.hid AH1
    replace hw4:=Lib.hid hw4
    replace e4:=Lib.hid e4
    clear AO1 AH c0a c0 hw
    go_wp2_with fail
    refine AH1.out.mono ?_
    rintro e w6 ⟨rfl,m6,hw6⟩
    have e6:w.drewN (m + m4 + m6) = w6:=by rw [<- hw6, <- e4.out]; exact drewN_add _ _ _
    replace hw6:=Lib.hid hw6
    replace e6:=Lib.hid e6
    go_wp2
    go_ret
    exact ⟨rfl,R,rfl,by rw [<- e6.out]; exact went6_refl _,by rw [<- e6.out]; exact (hD.out.draw _).doc⟩
end
theorem rg_keep {P:Program} {f:FuncId} {args:Array Value} {w:World} {d:Nat} {os:Array Obj} {v:Value} (h:Calls P f args (Go.Sort.grow (redrawn w d) os) fun e w' => e = .returned v /\ Go.Sort.grow (redrawn w d) os = w') :
  Calls P f args (Go.Sort.grow (redrawn w d) os) fun e w'' => e = .returned v /\ ∃ p:Regrown,w'' = Go.Sort.grow (redrawn w p.d) p.os:=h.mono fun e w' ⟨h1,h2⟩ => ⟨h1,⟨d,os⟩,h2.symm⟩
theorem toldC (w:World) (H:Nat) (b:Bool):Calls Tryz.prog 83 #[.int .u64 (H:Int),.bool b,.int .u64 (H:Int),.bool b] w fun e w' => e = .returned (.bool true) /\ w = w':=by
 have d0:((H:Int) == (H:Int)) = true:=by simp
 have d1:decide ((H:Int) = (H:Int)) = true:=by simp
 have d2:(b == b) = true:=by simp
 cases b
 ·go_enter Tryz.func83,Tryz.ntmps83
  go_wp2
  go_ret
  exact ⟨rfl,rfl⟩
 ·go_enter Tryz.func83,Tryz.ntmps83
  go_wp2
  go_ret
  exact ⟨rfl,rfl⟩
section
variable {N:Nat} {w:World} {W:W6} {s:St} {bs:List UInt8} {Z:Nat -> Option Zd} {Ls:Nat -> Nat -> List Nat} {r:RS} {laid told:List Nat} {t:Nat} (h:WI N w W s bs Z Ls r laid told t) (ht:t <= 60000)
include h ht
set_option maxHeartbeats 1600000 in
theorem looksC (x kind:Int):Calls Tryz.prog 38 #[.pointer (some ⟨W.b,0,none⟩),.int .i64 x,.int .i64 kind] w fun e w' => e = .returned (.bool true) /\ Below w.heap.size w w':=by
 have HC:=headC h.wat.q x kind
 have TC:=tailC h.wat.q x kind
 have H6:=(h.d6 ht).head x kind
 have T6:=fun w1 (b:Below w.heap.size w w1) => ((h.below b).d6 ht).tail x kind
 have LC:=fun w1 (b:Below w.heap.size w w1) => lenC (h.below b).wat.q x kind
 have L6:=fun w1 (b:Below w.heap.size w w1) => ((h.below b).d6 ht).len x kind
 have cW:=fun w1 (b:Below w.heap.size w w1) => (h.below b).wat.cW
 obtain ⟨y0,y1,y2,y3,y4⟩:=h.wat.cW
 have tc:=toldC
 generalize (lsN qc Ls x kind).head?.getD 0 = hd at *
 generalize (lsN qc Ls x kind).getLast?.getD 0 = tl at *
 generalize decide (0 < (lsN qc Ls x kind).length) = hb at *
 generalize (lsN qc Ls x kind).length = ln at *
 replace HC:=Lib.hid HC
 replace TC:=Lib.hid TC
 replace H6:=Lib.hid H6
 replace T6:=Lib.hid T6
 replace LC:=Lib.hid LC
 replace L6:=Lib.hid L6
 replace cW:=Lib.hid cW
 replace tc:=Lib.hid tc
 clear h
 go_enter Tryz.func38,Tryz.ntmps38
 go_wp2_with fail
 refine HC.out.mono ?_
 rintro e w' ⟨rfl,rfl⟩
 go_wp2_with fail
 refine TC.out.mono ?_
 rintro e w' ⟨rfl,rfl⟩
 go_wp2_with fail
 refine H6.out.mono ?_
 rintro e w1 ⟨rfl,b1⟩
 obtain ⟨-,y1, -,y3, -⟩:=cW.out w1 b1
 have TT:=Lib.hid (T6.out w1 b1)
 replace b1:=Lib.hid b1
 clear HC TC H6 y0 y2 y4
 go_wp2_with fail
 refine TT.out.mono ?_
 rintro e w2 ⟨rfl,b2⟩
 have bb:=b1.out.trans (b2.mono b1.out.size)
 obtain ⟨-,yy1, -,yy3, -⟩:=cW.out w2 bb
 clear TT y1 y3 b2 b1 T6
 have y1:=fun p:Regrown => cell_regrown yy1 p.d p.os
 have y3:=fun p:Regrown => cell_regrown yy3 p.d p.os
 have LC2:=Lib.hid (fun p:Regrown => LC.out _ (bb.trans ((below_regrown w2 p.d p.os).mono bb.size)))
 have L62:=Lib.hid (fun p:Regrown => L6.out _ (bb.trans ((below_regrown w2 p.d p.os).mono bb.size)))
 replace bb:=Lib.hid bb
 clear LC L6 cW yy1 yy3
 go_upto_region 5 with fail
 refine wp_region_quiet_below (by kernel_rfl) (by kernel_rfl) ?_
 repeat (go_big_quiet_step ((first | (go_at_call 83; exact rg_keep (tc.out _ _ _)) | (go_at_call 29; exact rg_keep (LC2.out _)) | (go_at_call 84; exact Calls.regrown_of (L62.out _)))))
 refine wpQuiet_nil ?_
 intro _ hw'
 obtain ⟨⟨dq,osq⟩,hw''⟩:=hw'
 subst hw''
 have bF:=Lib.hid (bb.out.trans ((below_regrown w2 dq osq).mono bb.out.size))
 clear y1 y3 LC2 L62 bb
 generalize Go.Sort.grow (redrawn w2 dq) osq = wf at *
 go_wp2
 go_ret
 exact ⟨rfl,bF.out⟩
set_option maxHeartbeats 1600000 in
theorem lnextC (H:Nat) (hH:H < 18446744073709551616):Calls Tryz.prog 39 #[.pointer (some ⟨W.b,0,none⟩),.int .u64 (H:Int)] w fun e w' => e = .returned (.bool true) /\ Below w.heap.size w w':=by
 have A1:=aheadC h.wat.q H hH
 have A2:=fun w1 (b:Below w.heap.size w w1) => behindC (h.below b).wat.q H hH
 have A3:=fun w1 (b:Below w.heap.size w w1) => ahead6C ((h.below b).d6 ht) H
 have A4:=fun w1 (b:Below w.heap.size w w1) => behind6C ((h.below b).d6 ht) H
 have cW:=fun w1 (b:Below w.heap.size w w1) => (h.below b).wat.cW
 obtain ⟨y0,y1,y2,y3,y4⟩:=h.wat.cW
 have tc:=toldC
 generalize prevN qc s Ls H = p at *
 generalize nextN qc s Ls H = q at *
 generalize decide (p ≠ 0) = pb at *
 generalize decide (q ≠ 0) = qb at *
 replace A1:=Lib.hid A1
 replace A2:=Lib.hid A2
 replace A3:=Lib.hid A3
 replace A4:=Lib.hid A4
 replace cW:=Lib.hid cW
 replace tc:=Lib.hid tc
 clear h
 go_enter Tryz.func39,Tryz.ntmps39
 go_wp2_with fail
 refine A1.out.mono ?_
 rintro e w1 ⟨rfl,b1⟩
 obtain ⟨-,y1, -,y3, -⟩:=cW.out w1 b1
 have B2:=Lib.hid (A2.out w1 b1)
 replace b1:=Lib.hid b1
 clear A1 A2 y0 y2 y4
 go_wp2_with fail
 refine B2.out.mono ?_
 rintro e w2 ⟨rfl,b2⟩
 have bb:=b1.out.trans (b2.mono b1.out.size)
 obtain ⟨-, -, -,y3, -⟩:=cW.out w2 bb
 have B3:=Lib.hid (A3.out w2 bb)
 have B4:=Lib.hid (A4.out w2 bb)
 replace bb:=Lib.hid bb
 clear B2 A3 A4 y1 b1 b2
 go_wp2_with fail
 refine B3.out.mono ?_
 rintro e w' ⟨rfl,rfl⟩
 go_wp2_with fail
 refine B4.out.mono ?_
 rintro e w' ⟨rfl,rfl⟩
 go_wp2_with (first | (go_at_call 83; refine (tc.out _ _ _).mono ?_; rintro e w' ⟨rfl,rfl⟩) | fail)
 go_ret
 exact ⟨rfl,bb.out⟩
end
theorem QI.head_ {c:Conf} {s:St} {Z:Nat -> Option Zd} {F:QN} {Ls:Nat -> Nat -> List Nat} (q:QI c s Z F Ls) (ok:c.cf.Ok) (g:Cls.Good c.cf s) {H:Nat} (hi:isN c s Z H = true) :
  ∃ z i x p,Z H = some z /\ findN c.cf s H = some (i,x,p) /\ z.st = stateN c s Z Ls H /\ z.a = prevN c s Ls H /\ z.b = nextN c s Ls H:=by
 have hi2:=hi
 unfold isN at hi2
 obtain ⟨⟨i,x,p⟩,hf⟩:=Option.isSome_iff_exists.1 (Bool.and_eq_true_iff.1 hi2).1
 obtain ⟨z,hz⟩:=Option.isSome_iff_exists.1 (Bool.and_eq_true_iff.1 hi2).2
 refine ⟨z,i,x,p,hz,hf,?_⟩
 by_cases h0:stK (clsN c s H) Ls H = 0
 ·have hz4:z = ⟨4,0,0⟩:=q.out H z ⟨i,x,p,hf⟩ hz (q.not_stK h0)
  subst hz4
  unfold stateN prevN nextN
  rw [if_pos h0,if_pos h0,if_pos h0,if_pos hi]
  exact ⟨rfl,rfl,rfl⟩
 ·obtain ⟨z',hz', -,h1,h2,h3⟩:=q.links ok g h0
  rw [hz] at hz'
  injection hz' with hz'
  subst hz'
  refine ⟨?_,h2,h3⟩
  unfold stateN
  rw [if_neg h0]
  exact h1
section
variable {N:Nat} {w:World} {W:W6} {s:St} {bs:List UInt8} {Z:Nat -> Option Zd} {Ls:Nat -> Nat -> List Nat} {r:RS} {laid told:List Nat} {t:Nat} (h:WI N w W s bs Z Ls r laid told t) (ht:t <= 60000)
include h ht
set_option maxHeartbeats 1600000 in
theorem headerC (H:Nat) (hH:H < 18446744073709551616):Calls Tryz.prog 49 #[.pointer (some ⟨W.b,0,none⟩),.int .u64 (H:Int)] w fun e w' => e = .returned (.bool true) /\ Below w.heap.size w w':=by
 have IC:=is6C (h.d6 ht) H
 obtain ⟨y0,y1,y2,y3,y4⟩:=h.wat.cW
 have n0:=fun w => numC6 w 0
 by_cases hi:isN qc s Z H = false
 ·rw [hi] at IC
  replace IC:=Lib.hid IC
  clear h hi y0 y1 y2 y4
  go_enter Tryz.func49,Tryz.ntmps49
  go_wp2_with fail
  refine IC.out.mono ?_
  rintro e w' ⟨rfl,m,hw⟩
  replace hw:=Lib.hid hw
  go_wp2
  go_ret
  exact ⟨rfl,by rw [<- hw.out]; exact below_drewN (Below.refl _ _) m⟩
 ·have hi:isN qc s Z H = true:=by simpa using hi
  rw [hi] at IC
  have hq:=h.wat.q
  obtain ⟨F,S,q⟩:=hq
  obtain ⟨z,i,x,p,hz,hf,e1,e2,e3⟩:=q.head_ S.okc S.zs.good hi
  have C1:=fun w1 (b:Below w.heap.size w w1) => zStateYes (S.below b).zs (H:=H) hH hf
  have C2:=fun w1 (b:Below w.heap.size w w1) => (zLinksC (S.below b) H ⟨⟨i,x,p,hf⟩,z,hz⟩ z hz).1
  have C3:=fun w1 (b:Below w.heap.size w w1) => (zLinksC (S.below b) H ⟨⟨i,x,p,hf⟩,z,hz⟩ z hz).2
  have A3:=fun w1 (b:Below w.heap.size w w1) => ahead6C ((h.below b).d6 ht) H
  have A4:=fun w1 (b:Below w.heap.size w w1) => behind6C ((h.below b).d6 ht) H
  have SC:=fun w1 (b:Below w.heap.size w w1) => state6C ((h.below b).d6 ht) H
  have cW:=fun w1 (b:Below w.heap.size w w1) => (h.below b).wat.cW
  have ez:zst (Z H) = stateN qc s Z Ls H:=by rw [hz]; exact e1
  rw [ez] at C1
  rw [e2] at C2
  rw [e3] at C3
  generalize prevN qc s Ls H = pv at *
  generalize nextN qc s Ls H = nx at *
  generalize stateN qc s Z Ls H = st at *
  generalize decide (pv ≠ 0) = pb at *
  generalize decide (nx ≠ 0) = nb at *
  replace IC:=Lib.hid IC
  replace C1:=Lib.hid C1
  replace C2:=Lib.hid C2
  replace C3:=Lib.hid C3
  replace A3:=Lib.hid A3
  replace A4:=Lib.hid A4
  replace SC:=Lib.hid SC
  replace cW:=Lib.hid cW
  clear h hi q S hz hf e1 e2 e3 ez y0 y1 y2 y4
  go_enter Tryz.func49,Tryz.ntmps49
  go_wp2_with fail
  refine IC.out.mono ?_
  rintro e w1 ⟨rfl,m,hw⟩
  have b1:Below w.heap.size w w1:=by rw [<- hw]; exact below_drewN (Below.refl _ _) m
  obtain ⟨y0, -, -, -, -⟩:=cW.out w1 b1
  have D:=Lib.hid (C1.out w1 b1)
  replace b1:=Lib.hid b1
  replace hw:=Lib.hid hw
  clear IC C1 y3
  go_wp2_with fail
  refine D.out.mono ?_
  rintro e w2 ⟨rfl,b2⟩
  have bb:=b1.out.trans (b2.mono b1.out.size)
  obtain ⟨y0, -, -, -, -⟩:=cW.out w2 bb
  have D2:=Lib.hid (C2.out w2 bb)
  replace bb:=Lib.hid bb
  clear D C2 b1 b2
  go_wp2_with fail
  refine D2.out.mono ?_
  rintro e w3 ⟨rfl,b3⟩
  have bc:=bb.out.trans (b3.mono bb.out.size)
  obtain ⟨y0, -, -, -, -⟩:=cW.out w3 bc
  have D3:=Lib.hid (C3.out w3 bc)
  replace bc:=Lib.hid bc
  clear D2 C3 bb b3
  go_wp2_with fail
  refine D3.out.mono ?_
  rintro e w4 ⟨rfl,b4⟩
  have bd:=bc.out.trans (b4.mono bc.out.size)
  obtain ⟨-, -, -,y3, -⟩:=cW.out w4 bd
  have D4:=Lib.hid (A3.out w4 bd)
  have D5:=Lib.hid (A4.out w4 bd)
  have D6:=Lib.hid (SC.out w4 bd)
  replace bd:=Lib.hid bd
  clear D3 A3 A4 SC bc b4
  go_wp2_with fail
  refine D4.out.mono ?_
  rintro e w' ⟨rfl,rfl⟩
  go_wp2_with fail
  refine D5.out.mono ?_
  rintro e w' ⟨rfl,rfl⟩
  go_wp2_with (first | (go_at_call 14; refine (n0 _).mono ?_; rintro e w' ⟨rfl,rfl⟩) | (go_at_call 94; refine D6.out.mono ?_; rintro e w5 ⟨rfl,m5,hw5⟩; replace hw5:=Lib.hid hw5) | fail)
  go_ret
  exact ⟨rfl,bd.out.trans (by rw [<- hw5.out]; exact below_drewN ((Below.refl _ _).mono bd.out.size) m5)⟩
end
def GoesM (N:Nat) (w w':World) (W:W6) (s:St) (bs:List UInt8) (Z:Nat -> Option Zd) (r:RS) (laid told:List Nat) (t:Nat):Prop:=∃ bs' Z' R' Ls',R'.b = W.R.b /\ R'.gL = W.R.gL /\ Grew qc w w' W { W with R:=R' } s s /\ Ed (Itp qc s Z) bs bs' /\ (∀ H,(Z' H).isSome = (Z H).isSome) /\
 WI N w' { W with R:=R' } s bs' Z' Ls' r laid told t
theorem GoesM.goes {N:Nat} {w w':World} {W:W6} {s:St} {bs:List UInt8} {Z:Nat -> Option Zd} {r:RS} {laid told:List Nat} {t:Nat} (h:GoesM N w w' W s bs Z r laid told t):Goes N w w' W s t:=by
 obtain ⟨bs',Z',R',Ls', -, -,G, -, -,T⟩:=h
 exact ⟨{ W with R:=R' },s,bs',Z',Ls',r,laid,told,rfl,G,T⟩
section
variable {N N0:Nat} {w0 w:World} {W0:W6} {s0:St} {W:W6} {s:St} {bs:List UInt8} {Z:Nat -> Option Zd} {Ls Ld:Nat -> Nat -> List Nat} {r:RS} {laid told:List Nat} {o:Op6} (h:Took6 N N0 w0 w W0 s0 W s bs Z Ls Ld r laid told o)
include h
theorem Took6.turn {w':World} {bs':List UInt8} {Z':Nat -> Option Zd} {Ls':Nat -> Nat -> List Nat} (oz:Only (Two W.L W.gl) w w') (Q:QW w' W.L qc s bs' Z' W.gq W.gl Ls'):Took6 N N0 w0 w' W0 s0 W s bs' Z' Ls' Ld r laid told o:=by
 refine ⟨h.wat.turn oz Q,(oz.block _ h.op.lt (fun e => ?_)).trans h.op,h.far,h.below.trans (oz.toBelow (B:=N) fun k hk => ⟨by have:=h.wat.hN0; omega,fun e => ?_⟩),h.grew.trans (grew_turn oz)⟩
 ·rcases e with e | e
  ·exact h.far .set (by rw [e]; exact ⟨.bytes,rfl⟩)
  ·exact h.far .queue (.inr e)
 ·rcases e with e | e
  ·have:=h.wat.base .set k (by rw [e]; exact ⟨.bytes,rfl⟩); omega
  ·have:=h.wat.base .queue k (.inr e); omega
theorem Took6.docL {w':World} {laid':List Nat} {Ld':Nat -> Nat -> List Nat} {R':R6} (D:R6At w' R' W.M.b (3 * qc.nc) laid' (rows6 Ld')) (eb:R'.b = W.R.b) (We:Went6 w w' W.R R' (3 * qc.nc)) :
  Took6 N N0 w0 w' W0 s0 { W with R:=R' } s bs Z Ls Ld' r laid' told o:=by
 refine ⟨h.wat.doc_ D eb We,(We.only.block _ h.op.lt (h.far .doc)).trans h.op,fun i hi => ?_,h.below.trans (We.only.toBelow (B:=N) fun k hk => ⟨by have:=h.wat.hN0; omega,fun e => by have:=h.wat.base .doc k e; omega⟩),h.grew.trans (grew_doc We)⟩
 cases i with
 | set => exact h.far .set hi
 | ref => exact h.far .ref hi
 | queue => exact h.far .queue hi
 | doc =>
  rcases We.foot _ hi with h1 | h1
  ·exact h.far .doc h1
  ·have:=h.op.lt; omega
 | own => exact h.far .own hi
theorem Took6.mv:w.cell? ⟨W.b,1,none⟩ = some (.pointer (some ⟨W.gq,0,none⟩)) /\ w.cell? ⟨W.b,3,none⟩ = some (.pointer (some ⟨W.R.b,0,none⟩)) /\ w.cell? ⟨N0,2,none⟩ = some (.int .i64 o.b):=by
 obtain ⟨-,y1, -,y3, -⟩:=h.wat.cW
 exact ⟨y1,y3,h.op.cell 2⟩
end
theorem D6.at_ {w v:World} {R:R6} {M:RL} {c:Conf} {s:St} {Z:Nat -> Option Zd} {Ls:Nat -> Nat -> List Nat} {r:RS} {laid:List Nat} (h:D6 w R M c s Z Ls r laid) (d:R6At v R M.b (3 * c.nc) laid (rows6 Ls)) (rf:RSetAt v M c r):D6 v R M c s Z Ls r laid :=
 ⟨d,rf,h.rel,h.ok,h.good,h.q,h.agr,h.ch,h.la,h.sep⟩
end Go.Proofs.YtfjiphibalhcgaaGreat.Que
