/-
  Contracts and lemmas, joined: ClassTook, ClassOf, ItemSets, ItemLink, Zed, QueueMem, QueuePlain, ItemLengths, QueueCore, QueueJoin, QueueLay, QueueStands, QueueFree, QueueTold.
-/
import Derived.Lib.QuietBelow
import Derived.BigQuiet
import Derived.Test.YtfjiphibalhcgaaGreatH4
set_option linter.unusedSimpArgs false
set_option linter.unusedVariables false
set_option linter.unusedSectionVars false
set_option maxRecDepth 100000
/-
  What a Take makes of the chunks, in plain numbers: the new one is found, the others stay; two chunks share no byte.
-/
namespace Go.Proofs.YtfjiphibalhcgaaGreat.Cls
structure Tkn (d:Cf) (s:St) (i x p k G:Nat):Prop where
 iN:i < d.np
 ow:s.own i = true
 cl:s.cls i = k
 kN:k < d.nc
 xN:x < d.n k
 tk:s.tkn i x = true
 ge:s.gens i x = G
 pE:p = i * d.ps + x * d.sz k
theorem Tkn.find {d:Cf} (ok:d.Ok) {s:St} {i x p k G:Nat} (h:Tkn d s i x p k G):findN d s (hnd p G) = some (i,x,p):=by
 obtain ⟨h1,h2,h3,h4,h5,h6,h7,h8⟩:=h
 subst h3 h8
 exact find_hnd ok h1 h2 h4 h5 h6 h7
theorem Tkn.of {d:Cf} (ok:d.Ok) {s:St} (g:Good d s) {H i x p:Nat} (h:findN d s H = some (i,x,p)):Tkn d s i x p (s.cls i) (H / 4294967296) /\ H = hnd p (H / 4294967296):=by
 obtain ⟨h1,h2,h3,h4,h5,h6,h7⟩:=findN_some g h
 refine ⟨⟨h1,h2,rfl,g.cls i h1 h2,h3,h4,h5,h6⟩,?_⟩
 have hm:H % 4294967296 ≠ 0:=by
  intro e
  unfold findN at h
  rw [if_pos (.inl e)] at h
  cases h
 unfold hnd
 omega
theorem Tkn.fit {d:Cf} (ok:d.Ok) {s:St} {i x p k G:Nat} (h:Tkn d s i x p k G):p + d.sz k <= (i + 1) * d.ps /\ i * d.ps <= p /\ (i + 1) * d.ps <= d.np * d.ps /\ p % 8 = 0 /\ p / d.ps = i /\ p % d.ps = x * d.sz k /\ x * d.sz k / d.sz k = x:=by
 obtain ⟨p1,p2,p3,p4,p5⟩:=place_of ok (i:=i) h.kN h.xN
 have hm:(i + 1) * d.ps <= d.np * d.ps:=Nat.mul_le_mul_right _ h.iN
 have hps8:=ok.ps8
 have hp:=h.pE
 rw [<- hp] at p1 p2
 have h8:p % 8 = 0:=by rw [hp,Nat.add_mod,Nat.mul_mod,hps8,Nat.mul_zero,Nat.zero_mod,p5]
 refine ⟨?_,by omega,hm,h8,p1,p2,p3⟩
 rw [Nat.succ_mul]
 omega
theorem Tkn.hlt {d:Cf} (ok:d.Ok) {s:St} (g:Good d s) {i x p k G:Nat} (h:Tkn d s i x p k G):hnd p G < 18446744073709551616 /\ hnd p G ≠ 0 /\ hnd p G % 4294967296 = p / 8 + 1 /\ hnd p G / 4294967296 = G /\ p < 1073741824:=by
 obtain ⟨f1,f2,f3,f4, -⟩:=h.fit ok
 have hg:=g.gen i x
 rw [h.ge] at hg
 have hb:d.np * d.ps <= 1024 * 1048576:=Nat.mul_le_mul ok.npb ok.psb
 have hz:=(ok.sz k h.kN).1
 unfold hnd
 omega
theorem Tkn.apart {d:Cf} (ok:d.Ok) {s:St} {i x p k G i' x' p' k' G':Nat} (h:Tkn d s i x p k G) (h':Tkn d s i' x' p' k' G') (hne:p ≠ p'):p + d.sz k <= p' \/ p' + d.sz k' <= p:=by
 obtain ⟨f1,f2,f3, -⟩:=h.fit ok
 obtain ⟨e1,e2,e3, -⟩:=h'.fit ok
 rcases Nat.lt_trichotomy i i' with hi | hi | hi
 ·left
  have:(i + 1) * d.ps <= i' * d.ps:=Nat.mul_le_mul_right _ hi
  omega
 ·subst hi
  have hk:k = k':=by rw [<- h.cl,h'.cl]
  subst hk
  have hp:=h.pE
  have hp':=h'.pE
  rcases Nat.lt_trichotomy x x' with hx | hx | hx
  ·left
   have:(x + 1) * d.sz k <= x' * d.sz k:=Nat.mul_le_mul_right _ hx
   rw [Nat.succ_mul] at this
   omega
  ·subst hx; omega
  ·right
   have:(x' + 1) * d.sz k <= x * d.sz k:=Nat.mul_le_mul_right _ hx
   rw [Nat.succ_mul] at this
   omega
 ·right
  have:(i' + 1) * d.ps <= i * d.ps:=Nat.mul_le_mul_right _ hi
  omega
theorem Tkn.same {d:Cf} (ok:d.Ok) {s:St} {i x p k G i' x' k' G':Nat} (h:Tkn d s i x p k G) (h':Tkn d s i' x' p k' G'):i = i' /\ x = x' /\ k = k' /\ G = G':=by
 obtain ⟨-, -, -, -,a1,a2,a3⟩:=h.fit ok
 obtain ⟨-, -, -, -,b1,b2,b3⟩:=h'.fit ok
 have hi:i = i':=by omega
 subst hi
 have hk:k = k':=by rw [<- h.cl,h'.cl]
 subst hk
 have hx:x = x':=by rw [<- a3, <- b3, <- a2, <- b2]
 subst hx
 exact ⟨rfl,rfl,rfl,by rw [<- h.ge,h'.ge]⟩
theorem Tkn.widen {d:Cf} {s:St} {i x p k G:Nat} (h:Tkn d s i x p k G) {c j:Nat} (hj:s.own j = false):Tkn d (widenS d s c j) i x p k G:=by
 have hij:i ≠ j:=fun e => by rw [e] at h; rw [h.ow] at hj; cases hj
 refine ⟨h.iN,?_,?_,h.kN,h.xN,?_,?_,h.pE⟩
 ·simp only [widenS,joinS,widen1,upd,if_neg hij]; exact h.ow
 ·simp only [widenS,joinS,widen1,upd,if_neg hij]; exact h.cl
 ·simp only [widenS,joinS,widen1,upd,if_neg hij]; exact h.tk
 ·simp only [widenS,joinS,widen1,upd,if_neg hij]; exact h.ge
theorem Tkn.room {d:Cf} {s s1:St} {i x p k G:Nat} (h:Tkn d s i x p k G) {c:Nat} (hr:roomS d s c = some s1):Tkn d s1 i x p k G:=by
 unfold roomS at hr
 split at hr
 ·split at hr
  ·rename_i j hj
   obtain ⟨-,h2, -⟩:=low_some hj
   cases hr
   exact h.widen h2
  ·cases hr
 ·cases hr
  exact h
theorem Tkn.take {d:Cf} {s:St} {i x p k G:Nat} (h:Tkn d s i x p k G) {c q:Nat}:Tkn d (takeS d s c q) i x p k G:=by
 refine ⟨h.iN,h.ow,h.cl,h.kN,h.xN,?_,h.ge,h.pE⟩
 simp only [takeS,upd]
 split
 ·rename_i e
  unfold upd
  split
  ·rfl
  ·rw [<- e]; exact h.tk
 ·exact h.tk
theorem took {d:Cf} (ok:d.Ok) {s s1:St} (g:Good d s) {k:Nat} (hk:k < d.nc) (hr:roomS d s k = some s1) {l:List Nat} {p:Nat} (hp:s1.free k = l ++ [p]) :
  Good d (takeS d s1 k p) /\ Tkn d (takeS d s1 k p) (p / d.ps) (p % d.ps / d.sz k) p k (s1.gens (p / d.ps) (p % d.ps / d.sz k)) /\ s1.tkn (p / d.ps) (p % d.ps / d.sz k) = false /\
   ∀ {i x q c G:Nat},Tkn d s i x q c G -> Tkn d (takeS d s1 k p) i x q c G /\ q ≠ p:=by
 obtain ⟨g1, -⟩:=room_good ok g hk hr
 obtain ⟨i,x,h1,h2,h3,h4,h5,h6,h7,h8,h9⟩:=g1.last ok hk (show p ∈ s1.free k by rw [hp]; simp)
 rw [h8,h9]
 have T:Tkn d (takeS d s1 k p) i x p k (s1.gens i x):=by
  refine ⟨h1,h2,h3,hk,h5,?_,rfl,h7⟩
  simp only [takeS,upd,h8,h9,if_true]
 refine ⟨g1.take ok hk hp,T,h6,fun {i' x' q c G} t => ?_⟩
 have t1:=t.room hr
 refine ⟨t1.take,fun e => ?_⟩
 subst e
 obtain ⟨e1,e2, -⟩:=Tkn.same ok t1.take T
 subst e1 e2
 rw [t1.tk] at h6
 cases h6
theorem room_new {d:Cf} (ok:d.Ok) (k:Nat):roomS d (new0 d) k = some (widenS d (new0 d) k 0):=by
 have hn:=ok.np
 have:low d (new0 d) = some 0:=by
  unfold low
  obtain ⟨n,hn'⟩:∃ n,d.np = n + 1:=⟨d.np - 1,by omega⟩
  rw [hn']
  rfl
 unfold roomS
 have e:(new0 d).free k = []:=rfl
 rw [e,this]
theorem room_two {d:Cf} (ok:d.Ok) (h2 : 2 <= d.np) (k c p:Nat):∃ s1,roomS d (takeS d (widenS d (new0 d) k 0) k p) c = some s1:=by
 unfold roomS
 split
 ·have hlow:low d (takeS d (widenS d (new0 d) k 0) k p) = some 1:=by
   unfold low
   obtain ⟨n,hn'⟩:∃ n,d.np = n + 2:=⟨d.np - 2,by omega⟩
   rw [hn']
   simp [lowFrom,takeS,widenS,joinS,widen1,upd,new0]
  rw [hlow]
  exact ⟨_,rfl⟩
 ·exact ⟨_,rfl⟩
end Go.Proofs.YtfjiphibalhcgaaGreat.Cls
/-
  The walk of Of.
-/
namespace Go.Proofs.YtfjiphibalhcgaaGreat.Cls
open Go.RowKit Base MapG
def ofN (d:Cf) (s:St) (p:Int):Option Nat :=
 match chunkN d s p with
 | some (i,x) => if s.tkn i x = true then some (hnd p.toNat (s.gens i x)) else none
 | none => none
def ofV:Option Nat -> Value
 | some h => .tuple #[.int .u64 (h:Int),.bool true]
 | none => .tuple #[.int .u64 0,.bool false]
theorem chunkN_some {d:Cf} {s:St} (g:Good d s) {p:Int} {i x:Nat} (h:chunkN d s p = some (i,x)):i < d.np /\ s.own i = true /\ x < d.n (s.cls i) /\ 0 <= p /\ p < ((d.ps * d.np:Nat):Int):=by
 unfold chunkN at h
 split at h
 ·rename_i hp
  split at h
  ·rename_i hh
   injection h with h
   injection h with e1 e2
   rw [e1] at hh e2
   rw [e2] at hh
   exact ⟨g.top i hh.1,hh.1,hh.2.2,hp.1,hp.2⟩
  ·cases h
 ·cases h
theorem ofC (w:World) (L:Lay) (c:Conf) (s:St) (bs:List UInt8) (h:SetAt w L c s bs) (g:Good c.cf s) (p:Int) :
  Calls Tryz.prog 116 #[.pointer (some ⟨L.g,0,none⟩),.int .i64 p] w fun e w' => e = .returned (ofV (ofN c.cf s p)) /\ ∃ m,w.drewN m = w':=by
 have CC:=chunkC w L c s bs h g p
 unfold ofN
 cases hc:chunkN c.cf s p with
 | none =>
  rw [hc] at CC
  unfold chunkV at CC
  unfold ofV
  simp only at CC ⊢
  replace CC:=Lib.hid CC
  clear h g hc
  go_enter Tryz.func116,Tryz.ntmps116
  go_wp2_with fail
  refine CC.out.mono ?_
  rintro e w' ⟨rfl,m,rfl⟩
  go_wp2
  go_ret2
  exact ⟨rfl,_,rfl⟩
 | some r =>
  obtain ⟨i,x⟩:=r
  obtain ⟨h1,h2,h3,h4,h5⟩:=chunkN_some g hc
  rw [hc] at CC
  unfold chunkV at CC
  simp only at CC ⊢
  have x0:(0:Int) <= (x:Int):=by omega
  have x1:(x:Int) < (c.cf.n (s.cls i):Int):=by omega
  have p4:=fun m => (h.drewN m).p4 h1 h2
  have tk:=fun m => (h.drewN m).tk h1 h2 h3
  cases ht:s.tkn i x with
  | false =>
   rw [if_neg (by simp)]
   unfold ofV
   simp only [ht] at tk
   replace CC:=Lib.hid CC
   clear h g hc
   go_enter Tryz.func116,Tryz.ntmps116
   go_wp2_with fail
   refine CC.out.mono ?_
   rintro e w' ⟨rfl,m,rfl⟩
   have p4:=p4 m
   have tk:=tk m
   go_wp2
   go_ret2
   exact ⟨rfl,_,rfl⟩
  | true =>
   rw [if_pos rfl]
   unfold ofV
   simp only [ht] at tk
   have p3:=fun m => (h.drewN m).p3 h1 h2
   have gn:=fun m => (h.drewN m).gen h1 h2 h3
   have hgb:=g.gen i x
   have ok:=h.okc
   have hpb:c.cf.ps * c.cf.np <= 1048576 * 1024:=Nat.mul_le_mul ok.psb ok.npb
   obtain ⟨P,rfl⟩:=Int.eq_ofNat_of_zero_le h4
   have HC:=Lib.hid fun W => handleC W P (s.gens i x) (by omega) hgb
   rw [Int.toNat_natCast]
   replace CC:=Lib.hid CC
   clear h g hc ok hpb h5
   go_enter Tryz.func116,Tryz.ntmps116
   go_wp2_with fail
   refine CC.out.mono ?_
   rintro e w' ⟨rfl,m,rfl⟩
   have p4:=p4 m
   have tk:=tk m
   have p3:=p3 m
   have gn:=gn m
   go_wp2_with fail
   refine (HC.out _).mono ?_
   rintro e w' ⟨rfl,rfl⟩
   go_wp2
   go_ret2
   exact ⟨rfl,_,rfl⟩
end Go.Proofs.YtfjiphibalhcgaaGreat.Cls
/-
  The fields' stores of an item that there is.
-/
namespace Go.Proofs.YtfjiphibalhcgaaGreat.Itm
open Go.RowKit Base Arena Cls
section
variable (w:World) (L:Lay) (c:Conf) (s:St) (bs:List UInt8) (h:SetAt w L c s bs) (g:Cls.Good c.cf s) {H i x p k n:Nat} (K:Chk c s bs.length H i x p k n) (h44:rd bs (p + 44) 1 ≠ 0) (v:Nat)
include h g K h44
theorem setStC (h1 : 1 <= v) (h4:v <= 4):Calls Tryz.prog 68 #[.pointer (some ⟨L.g,0,none⟩),.int .u64 (H:Int),.int .i64 (v:Int)] w fun e w' => e = .returned (.int .i64 0) /\ SetAt w' L c s (lay bs (p + 45) (putB 1 v)) /\ Only (· = L.ha) w w':=by
  have S:=set8Yes w L c s bs h g K h44 45 v (by omega) (by omega)
  rw [show ((45:Nat):Int) = 45 from rfl] at S
  refine setStateW _ H (v:Int) w 0 _ ?_
  rw [IntWalk.u8_in _ (by omega),decide_eq_true (show (1:Int) <= (v:Int) by omega),decide_eq_true (show (v:Int) <= 4 by omega)]
  exact S
end
end Go.Proofs.YtfjiphibalhcgaaGreat.Itm
namespace Go.Proofs.YtfjiphibalhcgaaGreat.Cls
theorem chunk_at {d:Cf} (ok:d.Ok) {s:St} {i x p k G:Nat} (t:Tkn d s i x p k G):chunkN d s (p:Int) = some (i,x):=by
  obtain ⟨f1,f2,f3,f4,f5,f6,f7⟩:=t.fit ok
  have hz:=(ok.sz k t.kN).1
  unfold chunkN
  rw [if_pos (by constructor; omega; rw [Nat.mul_comm]; omega)]
  rw [Int.toNat_natCast,f5,f6,if_pos ⟨t.ow,by rw [t.cl,Nat.mul_mod_left],by rw [t.cl,f7]; exact t.xN⟩,t.cl,f7]
theorem Tkn.of_ {d:Cf} (ok:d.Ok) {s:St} {i x p k G:Nat} (t:Tkn d s i x p k G):ofN d s (p:Int) = some (hnd p G):=by
  unfold ofN
  rw [chunk_at ok t]
  simp only [if_pos t.tk,Int.toNat_natCast,t.ge]
end Go.Proofs.YtfjiphibalhcgaaGreat.Cls
/-
  item's Link and SetLink (printed by wip/gen_link.py).
-/
namespace Go.Proofs.YtfjiphibalhcgaaGreat.Itm
open Go.RowKit Base Arena Cls
section
variable (w:World) (L:Lay) (c:Conf) (s:St) (bs:List UInt8) (h:SetAt w L c s bs) (g:Cls.Good c.cf s)
include h g
theorem linkNone {H i x p k n:Nat} (K:Chk c s bs.length H i x p k n) (m:Nat) (hm:m <= 2) (h44:rd bs (p + 44) 1 = 0):Calls Tryz.prog 65 #[.pointer (some ⟨L.g,0,none⟩),.int .u64 (H:Int),.int .i64 (m:Int)] w fun e w' => e = .returned (.tuple #[.int .u64 0,.int .i64 0]) /\ Below w.heap.size w w':=by
  have OC:=openK w L c s bs h g K
  rw [kv_eq] at OC
  have k0:decide ((m:Int) < 0) = false:=decide_eq_false (by omega)
  have k1:decide (2 < (m:Int)) = false:=decide_eq_false (by omega)
  have k2:decide (2 < m) = false:=decide_eq_false (by omega)
  obtain ⟨V,hV⟩:∃ V,V = rd bs (p + 44) 1:=⟨_,rfl⟩
  have d1:decide ((V:Int) = 0) = true:=decide_eq_true (by omega)
  have d2:((V:Int) == 0) = true:=by rw [beq_iff_eq]; omega
  replace OC:=Lib.hid OC
  replace hV:=Lib.hid hV
  replace h:=Lib.hid h
  replace K:=Lib.hid K
  clear g h44 hm
  go_enter Tryz.func65,Tryz.ntmps65
  go_wp2_with fail
  refine OC.out.mono ?_
  rintro e w2 ⟨rfl,b2⟩
  obtain ⟨w3,hw3⟩:∃ w3,w3 = w2.alloc (.cells #[.pointer (some ⟨L.ga,0,none⟩),.int .i64 (p:Int),.int .i64 (k:Int),.int .i64 (n:Int)] 171):=⟨_,rfl⟩
  have S:OS w.heap.size w w3 L c s bs w2.heap.size p k n:=by rw [hw3]; exact OS.op p k n h.out b2 b2 b2.size
  obtain ⟨y0,y1,y2,y3⟩:=S.cells
  have KC:=Lib.hid (S.key K.out hV.out)
  replace S:=Lib.hid S
  replace hw3:=Lib.hid hw3
  clear b2 OC
  generalize hN2:w2.heap.size = N1 at *
  replace hN2:=Lib.hid hN2
  go_upto_region 2 with fail
  rw [hN2.out, <- hw3.out]
  clear hN2 hw3
  go_wp2_with fail
  refine KC.out.mono ?_
  rintro e w4 ⟨rfl,b4⟩
  replace S:=S.out.step b4
  obtain ⟨y0,y1,y2,y3⟩:=S.cells
  replace S:=Lib.hid S
  clear KC b4 K hV h
  go_wp2
  go_ret2
  exact ⟨rfl,S.out.below⟩
theorem linkZero {H i x p k n:Nat} (K:Chk c s bs.length H i x p k n) (m:Nat) (hm:m <= 2) (h44:rd bs (p + 44) 1 ≠ 0) (hr:rd bs (p + 4 * m) 4 = 0):Calls Tryz.prog 65 #[.pointer (some ⟨L.g,0,none⟩),.int .u64 (H:Int),.int .i64 (m:Int)] w fun e w' => e = .returned (.tuple #[.int .u64 0,.int .i64 0]) /\ Below w.heap.size w w':=by
  have OC:=openK w L c s bs h g K
  rw [kv_eq] at OC
  have k0:decide ((m:Int) < 0) = false:=decide_eq_false (by omega)
  have k1:decide (2 < (m:Int)) = false:=decide_eq_false (by omega)
  have k2:decide (2 < m) = false:=decide_eq_false (by omega)
  obtain ⟨V,hV⟩:∃ V,V = rd bs (p + 44) 1:=⟨_,rfl⟩
  have d1:decide ((V:Int) = 0) = false:=decide_eq_false (by omega)
  have d2:((V:Int) == 0) = false:=by rw [beq_eq_false_iff_ne]; omega
  have q1:IntKind.i64.wrap (4 * (m:Int)) = ((4 * m:Nat):Int):=by rw [IntWalk.i64_in _ (by omega)]; omega
  have q2:IntKind.i64.wrap ((4 * m:Nat):Int) = ((4 * m:Nat):Int):=IntWalk.i64_in _ (by omega)
  have hm4 : 4 * m + 4 <= 12:=by omega
  obtain ⟨M,hM⟩:∃ M,M = rd bs (p + 4 * m) 4:=⟨_,rfl⟩
  rw [<- hM] at hr
  have hlt:=rd_lt bs (p + 4 * m) 4
  rw [<- hM] at hlt
  have e1:decide ((M:Int) = 0) = true:=decide_eq_true (by omega)
  have e2:((M:Int) == 0) = true:=by rw [beq_iff_eq]; omega
  generalize 4 * m = m4 at *
  replace hM:=Lib.hid hM
  clear hr hlt
  replace OC:=Lib.hid OC
  replace hV:=Lib.hid hV
  replace h:=Lib.hid h
  replace K:=Lib.hid K
  clear g h44 hm
  go_enter Tryz.func65,Tryz.ntmps65
  go_wp2_with fail
  refine OC.out.mono ?_
  rintro e w2 ⟨rfl,b2⟩
  obtain ⟨w3,hw3⟩:∃ w3,w3 = w2.alloc (.cells #[.pointer (some ⟨L.ga,0,none⟩),.int .i64 (p:Int),.int .i64 (k:Int),.int .i64 (n:Int)] 171):=⟨_,rfl⟩
  have S:OS w.heap.size w w3 L c s bs w2.heap.size p k n:=by rw [hw3]; exact OS.op p k n h.out b2 b2 b2.size
  obtain ⟨y0,y1,y2,y3⟩:=S.cells
  have KC:=Lib.hid (S.key K.out hV.out)
  replace S:=Lib.hid S
  replace hw3:=Lib.hid hw3
  clear b2 OC
  generalize hN2:w2.heap.size = N1 at *
  replace hN2:=Lib.hid hN2
  go_upto_region 2 with fail
  rw [hN2.out, <- hw3.out]
  clear hN2 hw3
  go_wp2_with fail
  refine KC.out.mono ?_
  rintro e w4 ⟨rfl,b4⟩
  replace S:=S.out.step b4
  obtain ⟨y0,y1,y2,y3⟩:=S.cells
  have GC:=get32C w4 L.ga L.ha c.cf.ps bs S.at_ p m4 k n (K.out.ck.there m4 4 (by have:=K.out.n64; omega))
  rw [kv_eq, <- hM.out] at GC
  replace GC:=Lib.hid GC
  replace S:=Lib.hid S
  clear KC b4 K hV h
  go_wp2_with fail
  refine GC.out.mono ?_
  rintro e w5 ⟨rfl,b5⟩
  replace S:=Lib.hid (S.out.step b5)
  clear GC b5 y0 y1 y2 y3 hM
  go_wp2
  go_ret2
  exact ⟨rfl,S.out.below⟩
theorem linkTo {H i x p k n:Nat} (K:Chk c s bs.length H i x p k n) (m:Nat) (hm:m <= 2) (h44:rd bs (p + 44) 1 ≠ 0) (r:Nat) (hr:rd bs (p + 4 * m) 4 = r + 1) (T:Nat) (hT:ofN c.cf s ((8 * r:Nat):Int) = some T):Calls Tryz.prog 65 #[.pointer (some ⟨L.g,0,none⟩),.int .u64 (H:Int),.int .i64 (m:Int)] w fun e w' => e = .returned (.tuple #[.int .u64 (T:Int),.int .i64 0]) /\ Below w.heap.size w w':=by
  have OC:=openK w L c s bs h g K
  rw [kv_eq] at OC
  have k0:decide ((m:Int) < 0) = false:=decide_eq_false (by omega)
  have k1:decide (2 < (m:Int)) = false:=decide_eq_false (by omega)
  have k2:decide (2 < m) = false:=decide_eq_false (by omega)
  obtain ⟨V,hV⟩:∃ V,V = rd bs (p + 44) 1:=⟨_,rfl⟩
  have d1:decide ((V:Int) = 0) = false:=decide_eq_false (by omega)
  have d2:((V:Int) == 0) = false:=by rw [beq_eq_false_iff_ne]; omega
  have q1:IntKind.i64.wrap (4 * (m:Int)) = ((4 * m:Nat):Int):=by rw [IntWalk.i64_in _ (by omega)]; omega
  have q2:IntKind.i64.wrap ((4 * m:Nat):Int) = ((4 * m:Nat):Int):=IntWalk.i64_in _ (by omega)
  have hm4 : 4 * m + 4 <= 12:=by omega
  obtain ⟨M,hM⟩:∃ M,M = rd bs (p + 4 * m) 4:=⟨_,rfl⟩
  rw [<- hM] at hr
  have hlt:=rd_lt bs (p + 4 * m) 4
  rw [<- hM] at hlt
  have e1:decide ((M:Int) = 0) = false:=decide_eq_false (by omega)
  have e2:((M:Int) == 0) = false:=by rw [beq_eq_false_iff_ne]; omega
  have q3:IntKind.i64.wrap (M:Int) = (M:Int):=IntWalk.i64_in _ (by omega)
  have q4:IntKind.i64.wrap ((M:Int) - 1) = (r:Int):=by rw [IntWalk.i64_in _ (by omega)]; omega
  have q5:IntKind.i64.wrap (8 * (r:Int)) = ((8 * r:Nat):Int):=by rw [IntWalk.i64_in _ (by omega)]; omega
  have TC:=fun w h => ofC w L c s bs h g ((8 * r:Nat):Int)
  rw [hT] at TC
  unfold ofV at TC
  simp only at TC
  replace TC:=Lib.hid TC
  generalize 8 * r = r8 at *
  generalize 4 * m = m4 at *
  replace hM:=Lib.hid hM
  clear hr hlt
  replace OC:=Lib.hid OC
  replace hV:=Lib.hid hV
  replace h:=Lib.hid h
  replace K:=Lib.hid K
  clear g h44 hm
  go_enter Tryz.func65,Tryz.ntmps65
  go_wp2_with fail
  refine OC.out.mono ?_
  rintro e w2 ⟨rfl,b2⟩
  obtain ⟨w3,hw3⟩:∃ w3,w3 = w2.alloc (.cells #[.pointer (some ⟨L.ga,0,none⟩),.int .i64 (p:Int),.int .i64 (k:Int),.int .i64 (n:Int)] 171):=⟨_,rfl⟩
  have S:OS w.heap.size w w3 L c s bs w2.heap.size p k n:=by rw [hw3]; exact OS.op p k n h.out b2 b2 b2.size
  obtain ⟨y0,y1,y2,y3⟩:=S.cells
  have KC:=Lib.hid (S.key K.out hV.out)
  replace S:=Lib.hid S
  replace hw3:=Lib.hid hw3
  clear b2 OC
  generalize hN2:w2.heap.size = N1 at *
  replace hN2:=Lib.hid hN2
  go_upto_region 2 with fail
  rw [hN2.out, <- hw3.out]
  clear hN2 hw3
  go_wp2_with fail
  refine KC.out.mono ?_
  rintro e w4 ⟨rfl,b4⟩
  replace S:=S.out.step b4
  obtain ⟨y0,y1,y2,y3⟩:=S.cells
  have GC:=get32C w4 L.ga L.ha c.cf.ps bs S.at_ p m4 k n (K.out.ck.there m4 4 (by have:=K.out.n64; omega))
  rw [kv_eq, <- hM.out] at GC
  replace GC:=Lib.hid GC
  replace S:=Lib.hid S
  clear KC b4 K hV h
  go_wp2_with fail
  refine GC.out.mono ?_
  rintro e w5 ⟨rfl,b5⟩
  replace S:=Lib.hid (S.out.step b5)
  clear GC b5 y0 y1 y2 y3 hM
  have TC2:=Lib.hid (TC.out w5 S.out.set)
  clear TC
  go_wp2_with fail
  refine TC2.out.mono ?_
  rintro e w6 ⟨rfl,m6,rfl⟩
  clear TC2
  go_wp2
  go_ret2
  exact ⟨rfl,below_drew S.out.below _⟩
theorem setLinkBad {H i x p k n:Nat} (K:Chk c s bs.length H i x p k n) (h44:rd bs (p + 44) 1 ≠ 0) (m:Nat) (hm:m <= 2) (T:Nat) (hT:T < 18446744073709551616) (hT0:T ≠ 0) (hTf:findN c.cf s T = none):Calls Tryz.prog 67 #[.pointer (some ⟨L.g,0,none⟩),.int .u64 (H:Int),.int .i64 (m:Int),.int .u64 (T:Int)] w fun e w' => e = .returned (.int .i64 20) /\ Below w.heap.size w w':=by
  have OC:=editYes w L c s bs h g K h44
  rw [kv_eq] at OC
  have k0:decide ((m:Int) < 0) = false:=decide_eq_false (by omega)
  have k1:decide (2 < (m:Int)) = false:=decide_eq_false (by omega)
  have k2:decide (2 < m) = false:=decide_eq_false (by omega)
  have q1:IntKind.i64.wrap (4 * (m:Int)) = ((4 * m:Nat):Int):=by rw [IntWalk.i64_in _ (by omega)]; omega
  have q2:IntKind.i64.wrap ((4 * m:Nat):Int) = ((4 * m:Nat):Int):=IntWalk.i64_in _ (by omega)
  have hm4 : 4 * m + 4 <= 12:=by omega
  generalize 4 * m = m4 at *
  have e1:decide ((T:Int) = 0) = false:=decide_eq_false (by omega)
  have e2:((T:Int) != 0) = true:=by rw [bne_iff_ne]; omega
  have e3:decide (T = 0) = false:=decide_eq_false (by omega)
  have TC:=fun w h => atC w L c s bs h g T hT
  rw [hTf] at TC
  unfold atV at TC
  simp only at TC
  replace TC:=Lib.hid TC
  replace OC:=Lib.hid OC
  replace h:=Lib.hid h
  replace K:=Lib.hid K
  clear g h44 hm
  go_enter Tryz.func67,Tryz.ntmps67
  go_wp2_with fail
  refine OC.out.mono ?_
  rintro e w2 ⟨rfl,b2⟩
  obtain ⟨w3,hw3⟩:∃ w3,w3 = w2.alloc (.cells #[.pointer (some ⟨L.ga,0,none⟩),.int .i64 (p:Int),.int .i64 (k:Int),.int .i64 (n:Int)] 171):=⟨_,rfl⟩
  have S:OS w.heap.size w w3 L c s bs w2.heap.size p k n:=by rw [hw3]; exact OS.op p k n h.out b2 b2 b2.size
  obtain ⟨y0,y1,y2,y3⟩:=S.cells
  replace S:=Lib.hid S
  replace hw3:=Lib.hid hw3
  clear b2 OC
  generalize hN2:w2.heap.size = N1 at *
  replace hN2:=Lib.hid hN2
  go_upto_region 2 with fail
  rw [hN2.out, <- hw3.out]
  clear hN2 hw3
  have TC2:=Lib.hid (TC.out w3 S.out.set)
  clear TC
  go_wp2_with fail
  refine TC2.out.mono ?_
  rintro e w4 ⟨rfl,m6,rfl⟩
  clear TC2
  replace S:=S.out.drewN m6
  obtain ⟨y0,y1,y2,y3⟩:=S.cells
  replace S:=Lib.hid S
  go_wp2
  go_ret
  exact ⟨rfl,S.out.below⟩
theorem setLinkZero {H i x p k n:Nat} (K:Chk c s bs.length H i x p k n) (h44:rd bs (p + 44) 1 ≠ 0) (m:Nat) (hm:m <= 2)  : Calls Tryz.prog 67 #[.pointer (some ⟨L.g,0,none⟩),.int .u64 (H:Int),.int .i64 (m:Int),.int .u64 0] w fun e w' => e = .returned (.int .i64 0) /\ SetAt w' L c s (lay bs (p + 4 * m) (putB 4 0)) /\ Only (· = L.ha) w w':=by
  have OC:=editYes w L c s bs h g K h44
  rw [kv_eq] at OC
  have k0:decide ((m:Int) < 0) = false:=decide_eq_false (by omega)
  have k1:decide (2 < (m:Int)) = false:=decide_eq_false (by omega)
  have k2:decide (2 < m) = false:=decide_eq_false (by omega)
  have q1:IntKind.i64.wrap (4 * (m:Int)) = ((4 * m:Nat):Int):=by rw [IntWalk.i64_in _ (by omega)]; omega
  have q2:IntKind.i64.wrap ((4 * m:Nat):Int) = ((4 * m:Nat):Int):=IntWalk.i64_in _ (by omega)
  have hm4 : 4 * m + 4 <= 12:=by omega
  generalize 4 * m = m4 at *
  replace OC:=Lib.hid OC
  replace h:=Lib.hid h
  replace K:=Lib.hid K
  clear g h44 hm
  go_enter Tryz.func67,Tryz.ntmps67
  go_wp2_with fail
  refine OC.out.mono ?_
  rintro e w2 ⟨rfl,b2⟩
  obtain ⟨w3,hw3⟩:∃ w3,w3 = w2.alloc (.cells #[.pointer (some ⟨L.ga,0,none⟩),.int .i64 (p:Int),.int .i64 (k:Int),.int .i64 (n:Int)] 171):=⟨_,rfl⟩
  have S:OS w.heap.size w w3 L c s bs w2.heap.size p k n:=by rw [hw3]; exact OS.op p k n h.out b2 b2 b2.size
  obtain ⟨y0,y1,y2,y3⟩:=S.cells
  replace S:=Lib.hid S
  replace hw3:=Lib.hid hw3
  clear b2 OC
  generalize hN2:w2.heap.size = N1 at *
  replace hN2:=Lib.hid hN2
  go_upto_region 2 with fail
  rw [hN2.out, <- hw3.out]
  clear hN2 hw3
  have PC:=put32C w3 L.ga L.ha c.cf.ps bs S.out.at_ p m4 k n 0 (by omega) (K.out.ck.there m4 4 (by have:=K.out.n64; omega))
  rw [kv_eq] at PC
  rw [show ((0:Nat):Int) = 0 from rfl] at PC
  replace PC:=Lib.hid PC
  go_wp2_with fail
  refine PC.out.mono ?_
  rintro e w5 ⟨rfl,A,o5⟩
  clear PC y0 y1 y2 y3
  have T:=Lib.hid (S.out.set.laid o5 A.bytes (putlen _ _ _ _ (by have h1:=K.out.ck.all; have h2:=K.out.n64; omega)))
  replace o5:=Lib.hid ((Only.of_below S.out.below (Nat.le_refl _) (· = L.ha)).trans o5 fun _ _ h => h)
  clear A S
  go_wp2
  go_ret
  exact ⟨rfl,T.out,o5.out⟩
theorem setLinkTo {H i x p k n:Nat} (K:Chk c s bs.length H i x p k n) (h44:rd bs (p + 44) 1 ≠ 0) (m:Nat) (hm:m <= 2) (T:Nat) (hT:T < 18446744073709551616) (hT0:T ≠ 0) {ti tx tp:Nat} (hTf:findN c.cf s T = some (ti,tx,tp)):Calls Tryz.prog 67 #[.pointer (some ⟨L.g,0,none⟩),.int .u64 (H:Int),.int .i64 (m:Int),.int .u64 (T:Int)] w fun e w' => e = .returned (.int .i64 0) /\ SetAt w' L c s (lay bs (p + 4 * m) (putB 4 (T % 4294967296))) /\ Only (· = L.ha) w w':=by
  have OC:=editYes w L c s bs h g K h44
  rw [kv_eq] at OC
  have k0:decide ((m:Int) < 0) = false:=decide_eq_false (by omega)
  have k1:decide (2 < (m:Int)) = false:=decide_eq_false (by omega)
  have k2:decide (2 < m) = false:=decide_eq_false (by omega)
  have q1:IntKind.i64.wrap (4 * (m:Int)) = ((4 * m:Nat):Int):=by rw [IntWalk.i64_in _ (by omega)]; omega
  have q2:IntKind.i64.wrap ((4 * m:Nat):Int) = ((4 * m:Nat):Int):=IntWalk.i64_in _ (by omega)
  have hm4 : 4 * m + 4 <= 12:=by omega
  generalize 4 * m = m4 at *
  have e1:decide ((T:Int) = 0) = false:=decide_eq_false (by omega)
  have e2:((T:Int) != 0) = true:=by rw [bne_iff_ne]; omega
  have e3:decide (T = 0) = false:=decide_eq_false (by omega)
  have TC:=fun w h => atC w L c s bs h g T hT
  rw [hTf] at TC
  unfold atV at TC
  simp only at TC
  replace TC:=Lib.hid TC
  obtain ⟨T4,hT4⟩:∃ T4,T4 = T % 4294967296:=⟨_,rfl⟩
  have q3:IntKind.u32.wrap (T:Int) = (T4:Int):=by rw [IntKind.wrap_u32]; omega
  have hv:T4 < 4294967296:=by omega
  rw [<- hT4]
  clear hT4 hTf
  replace OC:=Lib.hid OC
  replace h:=Lib.hid h
  replace K:=Lib.hid K
  clear g h44 hm
  go_enter Tryz.func67,Tryz.ntmps67
  go_wp2_with fail
  refine OC.out.mono ?_
  rintro e w2 ⟨rfl,b2⟩
  obtain ⟨w3,hw3⟩:∃ w3,w3 = w2.alloc (.cells #[.pointer (some ⟨L.ga,0,none⟩),.int .i64 (p:Int),.int .i64 (k:Int),.int .i64 (n:Int)] 171):=⟨_,rfl⟩
  have S:OS w.heap.size w w3 L c s bs w2.heap.size p k n:=by rw [hw3]; exact OS.op p k n h.out b2 b2 b2.size
  obtain ⟨y0,y1,y2,y3⟩:=S.cells
  replace S:=Lib.hid S
  replace hw3:=Lib.hid hw3
  clear b2 OC
  generalize hN2:w2.heap.size = N1 at *
  replace hN2:=Lib.hid hN2
  go_upto_region 2 with fail
  rw [hN2.out, <- hw3.out]
  clear hN2 hw3
  have TC2:=Lib.hid (TC.out w3 S.out.set)
  clear TC
  go_wp2_with fail
  refine TC2.out.mono ?_
  rintro e w4 ⟨rfl,m6,rfl⟩
  clear TC2
  replace S:=S.out.drewN m6
  obtain ⟨y0,y1,y2,y3⟩:=S.cells
  replace S:=Lib.hid S
  have PC:=put32C (w3.drewN m6) L.ga L.ha c.cf.ps bs S.out.at_ p m4 k n T4 hv (K.out.ck.there m4 4 (by have:=K.out.n64; omega))
  rw [kv_eq] at PC
  replace PC:=Lib.hid PC
  go_wp2_with fail
  refine PC.out.mono ?_
  rintro e w5 ⟨rfl,A,o5⟩
  clear PC y0 y1 y2 y3
  have T:=Lib.hid (S.out.set.laid o5 A.bytes (putlen _ _ _ _ (by have h1:=K.out.ck.all; have h2:=K.out.n64; omega)))
  replace o5:=Lib.hid ((Only.of_below S.out.below (Nat.le_refl _) (· = L.ha)).trans o5 fun _ _ h => h)
  clear A S
  go_wp2
  go_ret
  exact ⟨rfl,T.out,o5.out⟩
end
end Go.Proofs.YtfjiphibalhcgaaGreat.Itm
/-
  Of each good handle's chunk: has it an item, its state, its links 1 and 2; in plain numbers, and what the stores make of them.
-/
namespace Go.Proofs.YtfjiphibalhcgaaGreat.Que
open Go.RowKit Base Arena Cls Itm
section
variable {w:World} {L:Lay} {c:Conf} {s:St} {bs:List UInt8} (h:SetAt w L c s bs) (g:Cls.Good c.cf s) {H i x p k n:Nat} (K:Chk c s bs.length H i x p k n) (h44:rd bs (p + 44) 1 ≠ 0) (j:Nat) (hj:j <= 2) (T:Nat)
include h g K h44 hj
theorem zSetLinkC (hT:T = 0 \/ T < 18446744073709551616 /\ T ≠ 0 /\ ∃ ti tx tp,findN c.cf s T = some (ti,tx,tp)):Calls Tryz.prog 67 #[.pointer (some ⟨L.g,0,none⟩),.int .u64 (H:Int),.int .i64 (j:Int),.int .u64 (T:Int)] w fun e w' => e = .returned (.int .i64 0) /\ SetAt w' L c s (lay bs (p + 4 * j) (putB 4 (T % 4294967296))) /\ Only (· = L.ha) w w':=by
  rcases hT with rfl | ⟨h1,h2,ti,tx,tp,h3⟩
  · exact setLinkZero w L c s bs h g K h44 j hj
  · exact setLinkTo w L c s bs h g K h44 j hj T h1 h2 h3
theorem zLinkC (hr:rd bs (p + 4 * j) 4 = T % 4294967296) (hT:T = 0 \/ ∃ r,T % 4294967296 = r + 1 /\ ofN c.cf s ((8 * r:Nat):Int) = some T):Calls Tryz.prog 65 #[.pointer (some ⟨L.g,0,none⟩),.int .u64 (H:Int),.int .i64 (j:Int)] w fun e w' => e = .returned (.tuple #[.int .u64 (T:Int),.int .i64 0]) /\ Below w.heap.size w w':=by
  rcases hT with rfl | ⟨r,h1,h2⟩
  · exact linkZero w L c s bs h g K j hj h44 hr
  · exact linkTo w L c s bs h g K j hj h44 r (hr.trans h1) T h2
end
structure Zd where
  st:Nat
  a:Nat
  b:Nat
def ZAt (bs:List UInt8) (p:Nat):Option Zd -> Prop
  | none => rd bs (p + 44) 1 = 0
  | some z => rd bs (p + 44) 1 ≠ 0 /\ rd bs (p + 45) 1 = z.st /\ rd bs (p + 4) 4 = z.a % 4294967296 /\ rd bs (p + 8) 4 = z.b % 4294967296
def GoodL (d:Cf) (s:St) (T:Nat):Prop:=T = 0 \/ T < 18446744073709551616 /\ ∃ i x p,findN d s T = some (i,x,p)
structure Lk (c:Conf) (s:St) (bs:List UInt8) (Z:Nat -> Option Zd):Prop where
  at_:∀ H i x p,H < 18446744073709551616 -> findN c.cf s H = some (i,x,p) -> ZAt bs p (Z H)
  st:∀ H z,Z H = some z -> z.st < 256
  lk:∀ H z,(∃ i x p,findN c.cf s H = some (i,x,p)) -> Z H = some z -> GoodL c.cf s z.a /\ GoodL c.cf s z.b
theorem good_ne {d:Cf} {s:St} {T i x p:Nat} (h:findN d s T = some (i,x,p)):T ≠ 0:=by
  rintro rfl
  unfold findN at h
  rw [if_pos (.inl rfl)] at h
  cases h
theorem GoodL.set {d:Cf} {s:St} {T:Nat} (h:GoodL d s T):T = 0 \/ T < 18446744073709551616 /\ T ≠ 0 /\ ∃ ti tx tp,findN d s T = some (ti,tx,tp):=by
  rcases h with h | ⟨h1,i,x,p,h2⟩
  · exact .inl h
  · exact .inr ⟨h1,good_ne h2,i,x,p,h2⟩
theorem GoodL.of {d:Cf} (ok:d.Ok) {s:St} (g:Cls.Good d s) {T:Nat} (h:GoodL d s T):T = 0 \/ ∃ r,T % 4294967296 = r + 1 /\ ofN d s ((8 * r:Nat):Int) = some T:=by
  rcases h with h | ⟨h1,i,x,p,h2⟩
  · exact .inl h
  · obtain ⟨t,hT⟩:=Tkn.of ok g h2
    obtain ⟨-, -, -,p8, -⟩:=t.fit ok
    obtain ⟨-, -,h3, -, -⟩:=t.hlt ok g
    rw [<- hT] at h3
    refine .inr ⟨p / 8,h3,?_⟩
    rw [show 8 * (p / 8) = p by omega,t.of_ ok, <- hT]
theorem good_apart {d:Cf} (ok:d.Ok) {s:St} (g:Cls.Good d s) {H H' i x p i' x' p':Nat} (h:findN d s H = some (i,x,p)) (h':findN d s H' = some (i',x',p')) (hne:H ≠ H'):p + 64 <= p' \/ p' + 64 <= p:=by
  obtain ⟨t,e⟩:=Tkn.of ok g h
  obtain ⟨t',e'⟩:=Tkn.of ok g h'
  have hp:p ≠ p':=by
    rintro rfl
    obtain ⟨-, -, -,eG⟩:=t.same ok t'
    apply hne
    rw [e,e',eG]
  have z:=(ok.sz _ t.kN).1
  have z':=(ok.sz _ t'.kN).1
  rcases t.apart ok t' hp with h1 | h1
  · left; omega
  · right; omega
theorem zat_far {bs:List UInt8} {p q o n v:Nat} {Z:Option Zd} (h:ZAt bs q Z) (hb:p + o + n <= bs.length) (ho:o + n <= 64) (hd:p + 64 <= q \/ q + 64 <= p):ZAt (lay bs (p + o) (putB n v)) q Z:=by
  have key:∀ a m,a + m <= 64 -> rd (lay bs (p + o) (putB n v)) (q + a) m = rd bs (q + a) m:=fun a m ha => rd_out _ _ _ _ _ (by rw [putB_len]; exact hb) (by rw [putB_len]; omega)
  cases Z with
  | none => unfold ZAt at h ⊢; rw [key 44 1 (by omega)]; exact h
  | some z => unfold ZAt at h ⊢; rw [key 44 1 (by omega),key 45 1 (by omega),key 4 4 (by omega),key 8 4 (by omega)]; exact h
section
variable {c:Conf} {s:St} {bs:List UInt8} {Z:Nat -> Option Zd} (h:Lk c s bs Z) (ok:c.cf.Ok) (g:Cls.Good c.cf s) {H i x p k n:Nat} (K:Chk c s bs.length H i x p k n)
include h ok g K
theorem Lk.put {o m v:Nat} (ho:o + m <= 64) (z':Zd) (hst:z'.st < 256) (hz:ZAt (lay bs (p + o) (putB m v)) p (some z')) (hl:GoodL c.cf s z'.a /\ GoodL c.cf s z'.b):Lk c s (lay bs (p + o) (putB m v)) (upd Z H (some z')):=by
  have hall:=K.ck.all
  have n64:=K.n64
  refine ⟨fun H' i' x' p' hH' hf => ?_,fun H' z hzz => ?_,fun H' z hf hzz => ?_⟩
  · by_cases e:H' = H
    · subst e
      have e2:p' = p:=by rw [K.hf] at hf; simp only [Option.some.injEq,Prod.mk.injEq] at hf; exact hf.2.2.symm
      subst e2
      rw [upd_at]; exact hz
    · rw [upd_ne _ _ e]
      exact zat_far (h.at_ H' i' x' p' hH' hf) (by omega) ho (good_apart ok g K.hf hf (fun e' => e e'.symm))
  · by_cases e:H' = H
    · subst e; rw [upd_at] at hzz; injection hzz with hzz; subst hzz; exact hst
    · rw [upd_ne _ _ e] at hzz; exact h.st H' z hzz
  · by_cases e:H' = H
    · subst e; rw [upd_at] at hzz; injection hzz with hzz; subst hzz; exact hl
    · rw [upd_ne _ _ e] at hzz; exact h.lk H' z hf hzz
theorem Lk.set_a {z:Zd} (hz:Z H = some z) {T:Nat} (hT:GoodL c.cf s T):Lk c s (lay bs (p + 4) (putB 4 (T % 4294967296))) (upd Z H (some ⟨z.st,T,z.b⟩)):=by
  have hall:=K.ck.all
  have n64:=K.n64
  have ha:=h.at_ H i x p K.hH K.hf
  rw [hz] at ha
  obtain ⟨a1,a2,a3,a4⟩:=ha
  refine h.put ok g K (by omega) ⟨z.st,T,z.b⟩ (h.st H z hz) ⟨?_,?_,?_,?_⟩ ⟨hT,(h.lk H z ⟨i,x,p,K.hf⟩ hz).2⟩
  · rw [rd_out _ _ _ _ _ (by rw [putB_len]; omega) (by rw [putB_len]; omega)]; exact a1
  · rw [rd_out _ _ _ _ _ (by rw [putB_len]; omega) (by rw [putB_len]; omega)]; exact a2
  · exact rd_lay _ _ _ _ (by omega) (Nat.mod_lt _ (by omega))
  · rw [rd_out _ _ _ _ _ (by rw [putB_len]; omega) (by rw [putB_len]; omega)]; exact a4
theorem Lk.set_b {z:Zd} (hz:Z H = some z) {T:Nat} (hT:GoodL c.cf s T):Lk c s (lay bs (p + 8) (putB 4 (T % 4294967296))) (upd Z H (some ⟨z.st,z.a,T⟩)):=by
  have hall:=K.ck.all
  have n64:=K.n64
  have ha:=h.at_ H i x p K.hH K.hf
  rw [hz] at ha
  obtain ⟨a1,a2,a3,a4⟩:=ha
  refine h.put ok g K (by omega) ⟨z.st,z.a,T⟩ (h.st H z hz) ⟨?_,?_,?_,?_⟩ ⟨(h.lk H z ⟨i,x,p,K.hf⟩ hz).1,hT⟩
  · rw [rd_out _ _ _ _ _ (by rw [putB_len]; omega) (by rw [putB_len]; omega)]; exact a1
  · rw [rd_out _ _ _ _ _ (by rw [putB_len]; omega) (by rw [putB_len]; omega)]; exact a2
  · rw [rd_out _ _ _ _ _ (by rw [putB_len]; omega) (by rw [putB_len]; omega)]; exact a3
  · exact rd_lay _ _ _ _ (by omega) (Nat.mod_lt _ (by omega))
theorem Lk.set_s {z:Zd} (hz:Z H = some z) {v:Nat} (hv:v < 256):Lk c s (lay bs (p + 45) (putB 1 v)) (upd Z H (some ⟨v,z.a,z.b⟩)):=by
  have hall:=K.ck.all
  have n64:=K.n64
  have ha:=h.at_ H i x p K.hH K.hf
  rw [hz] at ha
  obtain ⟨a1,a2,a3,a4⟩:=ha
  refine h.put ok g K (by omega) ⟨v,z.a,z.b⟩ hv ⟨?_,?_,?_,?_⟩ (h.lk H z ⟨i,x,p,K.hf⟩ hz)
  · rw [rd_out _ _ _ _ _ (by rw [putB_len]; omega) (by rw [putB_len]; omega)]; exact a1
  · exact rd_lay _ _ _ _ (by omega) (by omega)
  · rw [rd_out _ _ _ _ _ (by rw [putB_len]; omega) (by rw [putB_len]; omega)]; exact a3
  · rw [rd_out _ _ _ _ _ (by rw [putB_len]; omega) (by rw [putB_len]; omega)]; exact a4
end
def Ed (D:Nat -> Prop) (bs bs':List UInt8):Prop:=bs'.length = bs.length /\ ∀ j:Nat,(∀ p,D p -> ¬ (p + 4 <= j /\ j < p + 12 \/ j = p + 45)) -> bs'[j]? = bs[j]?
def Itp (c:Conf) (s:St) (Z:Nat -> Option Zd):Nat -> Prop:=fun p => ∃ H i x,findN c.cf s H = some (i,x,p) /\ (Z H).isSome = true
theorem Ed.refl (D:Nat -> Prop) (bs:List UInt8):Ed D bs bs:=⟨rfl,fun _ _ => rfl⟩
theorem Ed.trans {D:Nat -> Prop} {a b c:List UInt8} (h:Ed D a b) (k:Ed D b c):Ed D a c:=⟨k.1.trans h.1,fun j hj => (k.2 j hj).trans (h.2 j hj)⟩
theorem itp_congr {c:Conf} {s:St} {Z Z':Nat -> Option Zd} (h:∀ H,(Z' H).isSome = (Z H).isSome):Itp c s Z' = Itp c s Z:=by
  funext p
  unfold Itp
  simp only [h]
theorem ed_put {D:Nat -> Prop} {bs:List UInt8} {p o n v:Nat} (hD:D p) (hb:p + o + n <= bs.length) (ho : 4 <= o /\ o + n <= 12 \/ o = 45 /\ n = 1):Ed D bs (lay bs (p + o) (putB n v)):=by
  refine ⟨lay_len _ _ _ (by rw [putB_len]; exact hb),fun j hj => ?_⟩
  rw [lay_get _ _ _ (by rw [putB_len]; exact hb),putB_len,if_neg]
  intro h
  have:=hj p hD
  omega
structure ZS (w:World) (L:Lay) (c:Conf) (s:St) (bs:List UInt8) (Z:Nat -> Option Zd):Prop where
  set:SetAt w L c s bs
  good:Cls.Good c.cf s
  lk:Lk c s bs Z
theorem ZS.step {w w':World} {L:Lay} {c:Conf} {s:St} {bs:List UInt8} {Z:Nat -> Option Zd} (h:ZS w L c s bs Z) (b:Below w.heap.size w w'):ZS w' L c s bs Z:=⟨h.set.kept fun d hd => b.block d (h.set.lt hd),h.good,h.lk⟩
theorem ZS.drewN {w:World} {L:Lay} {c:Conf} {s:St} {bs:List UInt8} {Z:Nat -> Option Zd} (h:ZS w L c s bs Z) (n:Nat):ZS (w.drewN n) L c s bs Z:=⟨h.set.drewN n,h.good,h.lk⟩
theorem ZS.only {w w':World} {L:Lay} {c:Conf} {s:St} {bs:List UInt8} {Z:Nat -> Option Zd} {S:Nat -> Prop} (h:ZS w L c s bs Z) (o:Only S w w') (hs:∀ b,Foot L c s b -> ¬ S b):ZS w' L c s bs Z:=⟨h.set.only o hs,h.good,h.lk⟩
section
variable {w:World} {L:Lay} {c:Conf} {s:St} {bs:List UInt8} {Z:Nat -> Option Zd} (h:ZS w L c s bs Z) {H i x p:Nat} (hH:H < 18446744073709551616)
include h hH
theorem zStateNo (hf:findN c.cf s H = none):Calls Tryz.prog 80 #[.pointer (some ⟨L.g,0,none⟩),.int .u64 (H:Int)] w fun e w' => e = .returned (.tuple #[.int .i64 0,.int .i64 20]) /\ Below w.heap.size w w' :=
  stateW _ H w 0 20 _ (by
    have:=tell8No w L c s bs h.set h.good 45 H hH hf
    rw [show ((45:Nat):Int) = 45 from rfl] at this
    exact this) (by omega) (by omega)
def zst:Option Zd -> Nat
  | none => 0
  | some z => z.st
theorem zStateYes (hf:findN c.cf s H = some (i,x,p)):Calls Tryz.prog 80 #[.pointer (some ⟨L.g,0,none⟩),.int .u64 (H:Int)] w fun e w' => e = .returned (.tuple #[.int .i64 (zst (Z H):Int),.int .i64 0]) /\ Below w.heap.size w w':=by
  have K:=Chk.of h.set h.good hH hf
  have ha:=h.lk.at_ H i x p hH hf
  cases hz:Z H with
  | none =>
    rw [hz] at ha
    refine stateW _ H w 0 0 _ ?_ (by omega) (by omega)
    have:=tell8None w L c s bs h.set h.good K ha 45 (by omega)
    rw [show ((45:Nat):Int) = 45 from rfl] at this
    exact this
  | some z =>
    rw [hz] at ha
    obtain ⟨a1,a2, -⟩:=ha
    have hs:=h.lk.st H z hz
    refine stateW _ H w (z.st:Int) 0 _ ?_ (by omega) (by omega)
    have:=tell8Yes w L c s bs h.set h.good K a1 45 (by omega)
    rw [a2,show ((45:Nat):Int) = 45 from rfl] at this
    exact this
theorem zLinkYes (hf:findN c.cf s H = some (i,x,p)) (z:Zd) (hz:Z H = some z) :
    (Calls Tryz.prog 65 #[.pointer (some ⟨L.g,0,none⟩),.int .u64 (H:Int),.int .i64 1] w fun e w' => e = .returned (.tuple #[.int .u64 (z.a:Int),.int .i64 0]) /\ Below w.heap.size w w') /\
    (Calls Tryz.prog 65 #[.pointer (some ⟨L.g,0,none⟩),.int .u64 (H:Int),.int .i64 2] w fun e w' => e = .returned (.tuple #[.int .u64 (z.b:Int),.int .i64 0]) /\ Below w.heap.size w w'):=by
  have K:=Chk.of h.set h.good hH hf
  have ha:=h.lk.at_ H i x p hH hf
  rw [hz] at ha
  obtain ⟨a1,a2,a3,a4⟩:=ha
  obtain ⟨l1,l2⟩:=h.lk.lk H z ⟨i,x,p,hf⟩ hz
  have ok:=h.set.okc
  have r1:=zLinkC h.set h.good K a1 1 (by omega) z.a a3 (l1.of ok h.good)
  have r2:=zLinkC h.set h.good K a1 2 (by omega) z.b a4 (l2.of ok h.good)
  exact ⟨r1,r2⟩
theorem zSetA (hf:findN c.cf s H = some (i,x,p)) (z:Zd) (hz:Z H = some z) (T:Nat) (hT:GoodL c.cf s T) :
    Calls Tryz.prog 67 #[.pointer (some ⟨L.g,0,none⟩),.int .u64 (H:Int),.int .i64 1,.int .u64 (T:Int)] w fun e w' => e = .returned (.int .i64 0) /\ Only (· = L.ha) w w' /\ ∃ bs',Ed (Itp c s Z) bs bs' /\ ZS w' L c s bs' (upd Z H (some ⟨z.st,T,z.b⟩)):=by
  have K:=Chk.of h.set h.good hH hf
  have ha:=h.lk.at_ H i x p hH hf
  rw [hz] at ha
  have:=zSetLinkC h.set h.good K ha.1 1 (by omega) T hT.set
  exact this.mono fun e w' ⟨h1,h2,h3⟩ => ⟨h1,h3,_,ed_put ⟨H,i,x,hf,by rw [hz]; rfl⟩ (by have:=K.ck.all; have:=K.n64; omega) (by omega),h2,h.good,h.lk.set_a h.set.okc h.good K hz hT⟩
theorem zSetB (hf:findN c.cf s H = some (i,x,p)) (z:Zd) (hz:Z H = some z) (T:Nat) (hT:GoodL c.cf s T) :
    Calls Tryz.prog 67 #[.pointer (some ⟨L.g,0,none⟩),.int .u64 (H:Int),.int .i64 2,.int .u64 (T:Int)] w fun e w' => e = .returned (.int .i64 0) /\ Only (· = L.ha) w w' /\ ∃ bs',Ed (Itp c s Z) bs bs' /\ ZS w' L c s bs' (upd Z H (some ⟨z.st,z.a,T⟩)):=by
  have K:=Chk.of h.set h.good hH hf
  have ha:=h.lk.at_ H i x p hH hf
  rw [hz] at ha
  have:=zSetLinkC h.set h.good K ha.1 2 (by omega) T hT.set
  exact this.mono fun e w' ⟨h1,h2,h3⟩ => ⟨h1,h3,_,ed_put ⟨H,i,x,hf,by rw [hz]; rfl⟩ (by have:=K.ck.all; have:=K.n64; omega) (by omega),h2,h.good,h.lk.set_b h.set.okc h.good K hz hT⟩
theorem zSetS (hf:findN c.cf s H = some (i,x,p)) (z:Zd) (hz:Z H = some z) (v:Nat) (h1 : 1 <= v) (h4:v <= 4) :
    Calls Tryz.prog 68 #[.pointer (some ⟨L.g,0,none⟩),.int .u64 (H:Int),.int .i64 (v:Int)] w fun e w' => e = .returned (.int .i64 0) /\ Only (· = L.ha) w w' /\ ∃ bs',Ed (Itp c s Z) bs bs' /\ ZS w' L c s bs' (upd Z H (some ⟨v,z.a,z.b⟩)):=by
  have K:=Chk.of h.set h.good hH hf
  have ha:=h.lk.at_ H i x p hH hf
  rw [hz] at ha
  have:=setStC w L c s bs h.set h.good K ha.1 v h1 h4
  exact this.mono fun e w' ⟨h1,h2,h3⟩ => ⟨h1,h3,_,ed_put ⟨H,i,x,hf,by rw [hz]; rfl⟩ (by have:=K.ck.all; have:=K.n64; omega) (by omega),h2,h.good,h.lk.set_s h.set.okc h.good K hz (by omega)⟩
end
structure QN where
 hd:Nat -> Nat -> Nat
 tl:Nat -> Nat -> Nat
 n:Nat -> Nat -> Nat
def qcv (F:QN):Nat -> Nat -> Value
 | x,0 => .int .u64 (F.hd x 0:Int)
 | x,1 => .int .u64 (F.tl x 0:Int)
 | x,2 => .int .i64 (F.n x 0:Int)
 | x,3 => .int .u64 (F.hd x 1:Int)
 | x,4 => .int .u64 (F.tl x 1:Int)
 | x,5 => .int .i64 (F.n x 1:Int)
 | x,6 => .int .u64 (F.hd x 2:Int)
 | x,7 => .int .u64 (F.tl x 2:Int)
 | x,_ => .int .i64 (F.n x 2:Int)
structure QAt (w:World) (L:Lay) (c:Conf) (gq gl:Nat) (F:QN):Prop where
 head:Blk w gq 92 #[.pointer (some ⟨L.g,0,none⟩),.slice (some ⟨gl,0,none⟩) c.nc c.nc]
 grid:Grid w gl 187 c.nc 9 (qcv F)
def updF (f:Nat -> Nat -> Nat) (x k v:Nat):Nat -> Nat -> Nat:=fun a b => if a = x /\ b = k then v else f a b
def QN.setHd (F:QN) (x k v:Nat):QN:={ F with hd:=updF F.hd x k v }
def QN.setTl (F:QN) (x k v:Nat):QN:={ F with tl:=updF F.tl x k v }
def QN.setN (F:QN) (x k v:Nat):QN:={ F with n:=updF F.n x k v }
section
variable {w w':World} {L:Lay} {c:Conf} {gq gl:Nat} {F:QN} (q:QAt w L c gq gl F)
include q
theorem QAt.ltq:gq < w.heap.size:=q.head.lt
theorem QAt.ltl:gl < w.heap.size:=q.grid.lt
theorem QAt.c0:w.cell? ⟨gq,0,none⟩ = some (.pointer (some ⟨L.g,0,none⟩)):=q.head.cell 0
theorem QAt.c1:w.cell? ⟨gq,1,none⟩ = some (.slice (some ⟨gl,0,none⟩) c.nc c.nc):=q.head.cell 1
theorem QAt.kept (hb:∀ b,b = gq \/ b = gl -> w'.heap[b]? = w.heap[b]?):QAt w' L c gq gl F:=⟨(hb gq (.inl rfl)).trans q.head,q.grid.kept (hb gl (.inr rfl))⟩
theorem QAt.only {S:Nat -> Prop} (o:Only S w w') (h1:¬ S gq) (h2:¬ S gl):QAt w' L c gq gl F :=
 q.kept fun b hb => by
  rcases hb with rfl | rfl
  ·exact o.block _ q.ltq h1
  ·exact o.block _ q.ltl h2
theorem QAt.below (b:Below w.heap.size w w'):QAt w' L c gq gl F:=q.kept fun d hd => b.block d (by rcases hd with rfl | rfl; exact q.ltq; exact q.ltl)
theorem QAt.drewN (n:Nat):QAt (w.drewN n) L c gq gl F:=q.kept fun _ _ => rfl
theorem QAt.ne:gq ≠ gl:=ne_ty ⟨_,q.head⟩ q.grid.blk (by decide)
theorem QAt.qhd {x k:Nat} (hx:x < c.nc) (hk:k < 3):w.cell? ⟨gl,x * 9 + k * 3,none⟩ = some (.int .u64 (F.hd x k:Int)):=by
 have:=q.grid.cell x (k * 3) hx (by omega)
 rw [this]
 obtain rfl | rfl | rfl:k = 0 \/ k = 1 \/ k = 2:=by omega
 all_goals rfl
theorem QAt.qtl {x k:Nat} (hx:x < c.nc) (hk:k < 3):w.cell? ⟨gl,x * 9 + k * 3 + 1,none⟩ = some (.int .u64 (F.tl x k:Int)):=by
 have:=q.grid.cell x (k * 3 + 1) hx (by omega)
 rw [Nat.add_assoc,this]
 obtain rfl | rfl | rfl:k = 0 \/ k = 1 \/ k = 2:=by omega
 all_goals rfl
theorem QAt.qn {x k:Nat} (hx:x < c.nc) (hk:k < 3):w.cell? ⟨gl,x * 9 + k * 3 + 2,none⟩ = some (.int .i64 (F.n x k:Int)):=by
 have:=q.grid.cell x (k * 3 + 2) hx (by omega)
 rw [Nat.add_assoc,this]
 obtain rfl | rfl | rfl:k = 0 \/ k = 1 \/ k = 2:=by omega
 all_goals rfl
theorem QAt.set_ (F':QN) {x j:Nat} (hx:x < c.nc) (hj:j < 9) (v:Value) (he:∀ a b,a < c.nc -> b < 9 -> put2 (qcv F) x j v a b = qcv F' a b):QAt (w.setCell ⟨gl,x * 9 + j,none⟩ v) L c gq gl F':=by
 refine ⟨?_,(q.grid.set x j hx hj v).congr he⟩
 exact q.head.far (p:=⟨gl,x * 9 + j,none⟩) q.ne v
end
theorem qcv_hd (F:QN) (x k v:Nat) (hk:k < 3):∀ a b,b < 9 -> put2 (qcv F) x (k * 3) (.int .u64 (v:Int)) a b = qcv (F.setHd x k v) a b:=by
 intro a b hb
 unfold put2
 obtain rfl | rfl | rfl:k = 0 \/ k = 1 \/ k = 2:=by omega
 all_goals
  obtain rfl | rfl | rfl | rfl | rfl | rfl | rfl | rfl | rfl:b = 0 \/ b = 1 \/ b = 2 \/ b = 3 \/ b = 4 \/ b = 5 \/ b = 6 \/ b = 7 \/ b = 8:=by omega
  all_goals
   by_cases ha:a = x <;> simp [qcv,QN.setHd,updF,ha]
theorem qcv_tl (F:QN) (x k v:Nat) (hk:k < 3):∀ a b,b < 9 -> put2 (qcv F) x (k * 3 + 1) (.int .u64 (v:Int)) a b = qcv (F.setTl x k v) a b:=by
 intro a b hb
 unfold put2
 obtain rfl | rfl | rfl:k = 0 \/ k = 1 \/ k = 2:=by omega
 all_goals
  obtain rfl | rfl | rfl | rfl | rfl | rfl | rfl | rfl | rfl:b = 0 \/ b = 1 \/ b = 2 \/ b = 3 \/ b = 4 \/ b = 5 \/ b = 6 \/ b = 7 \/ b = 8:=by omega
  all_goals
   by_cases ha:a = x <;> simp [qcv,QN.setTl,updF,ha]
theorem qcv_n (F:QN) (x k v:Nat) (hk:k < 3):∀ a b,b < 9 -> put2 (qcv F) x (k * 3 + 2) (.int .i64 (v:Int)) a b = qcv (F.setN x k v) a b:=by
 intro a b hb
 unfold put2
 obtain rfl | rfl | rfl:k = 0 \/ k = 1 \/ k = 2:=by omega
 all_goals
  obtain rfl | rfl | rfl | rfl | rfl | rfl | rfl | rfl | rfl:b = 0 \/ b = 1 \/ b = 2 \/ b = 3 \/ b = 4 \/ b = 5 \/ b = 6 \/ b = 7 \/ b = 8:=by omega
  all_goals
   by_cases ha:a = x <;> simp [qcv,QN.setN,updF,ha]
section
variable {w w':World} {L:Lay} {c:Conf} {gq gl:Nat} {F:QN} (q:QAt w L c gq gl F) {x k:Nat} (hx:x < c.nc) (hk:k < 3) (v:Nat)
include q hx hk
theorem QAt.setHd:QAt (w.setCell ⟨gl,x * 9 + k * 3,none⟩ (.int .u64 (v:Int))) L c gq gl (F.setHd x k v) :=
 q.set_ _ hx (by omega) _ fun a b _ hb => qcv_hd F x k v hk a b hb
theorem QAt.setTl:QAt (w.setCell ⟨gl,x * 9 + k * 3 + 1,none⟩ (.int .u64 (v:Int))) L c gq gl (F.setTl x k v):=by
 rw [Nat.add_assoc]
 exact q.set_ _ hx (by omega) _ fun a b _ hb => qcv_tl F x k v hk a b hb
theorem QAt.setN:QAt (w.setCell ⟨gl,x * 9 + k * 3 + 2,none⟩ (.int .i64 (v:Int))) L c gq gl (F.setN x k v):=by
 rw [Nat.add_assoc]
 exact q.set_ _ hx (by omega) _ fun a b _ hb => qcv_n F x k v hk a b hb
end
end Go.Proofs.YtfjiphibalhcgaaGreat.Que
/-
  Lists of items that hang together, in plain numbers: what a list's links say, and how they change where one is laid, taken out, exchanged.
-/
namespace Go.Proofs.YtfjiphibalhcgaaGreat.Que
open Cls
def Chain (Z:Nat -> Option Zd) (k:Nat):Nat -> List Nat -> Nat -> Prop
 | _,[],_ => True
 | p,h :: t,n => Z h = some ⟨k,p,t.head?.getD n⟩ /\ Chain Z k h t n
def zb (Z:Nat -> Option Zd) (x y:Nat):Nat -> Option Zd:=if x = 0 then Z else upd Z x ((Z x).map fun z => ⟨z.st,z.a,y⟩)
def za (Z:Nat -> Option Zd) (x y:Nat):Nat -> Option Zd:=if x = 0 then Z else upd Z x ((Z x).map fun z => ⟨z.st,y,z.b⟩)
theorem zb_ne {Z:Nat -> Option Zd} {x y h:Nat} (hn:h ≠ x):zb Z x y h = Z h:=by
 unfold zb
 split
 ·rfl
 ·exact upd_ne _ _ hn
theorem za_ne {Z:Nat -> Option Zd} {x y h:Nat} (hn:h ≠ x):za Z x y h = Z h:=by
 unfold za
 split
 ·rfl
 ·exact upd_ne _ _ hn
theorem zb_at {Z:Nat -> Option Zd} {x y:Nat} {z:Zd} (hx:x ≠ 0) (hz:Z x = some z):zb Z x y x = some ⟨z.st,z.a,y⟩:=by
 unfold zb
 rw [if_neg hx,upd_at,hz]
 rfl
theorem za_at {Z:Nat -> Option Zd} {x y:Nat} {z:Zd} (hx:x ≠ 0) (hz:Z x = some z):za Z x y x = some ⟨z.st,y,z.b⟩:=by
 unfold za
 rw [if_neg hx,upd_at,hz]
 rfl
theorem Chain.congr {Z Z':Nat -> Option Zd} {k:Nat}:∀ {l:List Nat} {p n:Nat},Chain Z k p l n -> (∀ h ∈ l,Z' h = Z h) -> Chain Z' k p l n
 | [],_,_,_,_ => trivial
 | h :: t,p,n,hc,he => ⟨by rw [he h (List.mem_cons_self ..)]; exact hc.1,Chain.congr hc.2 fun x hx => he x (List.mem_cons_of_mem _ hx)⟩
theorem chain_app {Z:Nat -> Option Zd} {k:Nat}:∀ {l1 l2:List Nat} {p n:Nat},Chain Z k p (l1 ++ l2) n ↔ Chain Z k p l1 (l2.head?.getD n) /\ Chain Z k (l1.getLast?.getD p) l2 n
 | [],l2,p,n => by simp [Chain]
 | h :: t,l2,p,n => by
  have ih:=chain_app (Z:=Z) (k:=k) (l1:=t) (l2:=l2) (p:=h) (n:=n)
  have e1:(t ++ l2).head?.getD n = t.head?.getD (l2.head?.getD n):=by cases t <;> rfl
  have e2:(h :: t).getLast?.getD p = t.getLast?.getD h:=by
   cases t with
   | nil => rfl
   | cons x u => rw [List.getLast?_cons_cons]; cases hx:(x :: u).getLast? with
    | none => simp at hx
    | some y => rfl
  rw [List.cons_append,e2]
  show (Z h = some ⟨k,p,(t ++ l2).head?.getD n⟩ /\ Chain Z k h (t ++ l2) n) ↔ ((Z h = some ⟨k,p,t.head?.getD (l2.head?.getD n)⟩ /\ Chain Z k h t (l2.head?.getD n)) /\ Chain Z k (t.getLast?.getD h) l2 n)
  rw [ih,e1,and_assoc]
theorem Chain.last {Z:Nat -> Option Zd} {k:Nat} {l:List Nat} {p n:Nat} (h:Chain Z k p l n) (hd:l.Nodup) (h0:∀ x ∈ l,x ≠ 0) (n':Nat):Chain (zb Z (l.getLast?.getD 0) n') k p l n':=by
 rcases List.eq_nil_or_concat l with rfl | ⟨l1,x,rfl⟩
 ·trivial
 ·rw [List.concat_eq_append] at h hd h0 ⊢
  have e:(l1 ++ [x]).getLast?.getD 0 = x:=by rw [List.getLast?_concat]; rfl
  rw [e]
  rw [chain_app] at h ⊢
  have hx0:=h0 x (by simp)
  have hxn:∀ y ∈ l1,y ≠ x:=fun y hy e => by
   subst e
   have:=(List.nodup_append.1 hd).2.2 y hy y (by simp)
   exact this rfl
  refine ⟨h.1.congr fun y hy => zb_ne (hxn y hy),?_,trivial⟩
  have:=zb_at (y:=n') hx0 h.2.1
  exact this
theorem Chain.first {Z:Nat -> Option Zd} {k:Nat} {l:List Nat} {p n:Nat} (h:Chain Z k p l n) (hd:l.Nodup) (h0:∀ x ∈ l,x ≠ 0) (p':Nat):Chain (za Z (l.head?.getD 0) p') k p' l n:=by
 cases l with
 | nil => trivial
 | cons x t =>
  have hx0:=h0 x (by simp)
  have hxn:∀ y ∈ t,y ≠ x:=fun y hy e => by
   subst e
   exact (List.nodup_cons.1 hd).1 hy
  refine ⟨?_,h.2.congr fun y hy => za_ne (hxn y hy)⟩
  exact za_at (y:=p') hx0 h.1
def jZ (Z:Nat -> Option Zd) (a b:Nat):Nat -> Option Zd:=za (zb Z a b) b a
theorem jZ_ne {Z:Nat -> Option Zd} {a b h:Nat} (ha:h ≠ a) (hb:h ≠ b):jZ Z a b h = Z h:=(za_ne hb).trans (zb_ne ha)
theorem zb_some {Z:Nat -> Option Zd} {x y h:Nat}:(zb Z x y h).isSome = (Z h).isSome:=by
 unfold zb
 split
 ·rfl
 ·by_cases e:h = x
  ·subst e; rw [upd_at]; cases Z h <;> rfl
  ·rw [upd_ne _ _ e]
theorem za_some {Z:Nat -> Option Zd} {x y h:Nat}:(za Z x y h).isSome = (Z h).isSome:=by
 unfold za
 split
 ·rfl
 ·by_cases e:h = x
  ·subst e; rw [upd_at]; cases Z h <;> rfl
  ·rw [upd_ne _ _ e]
theorem jZ_some {Z:Nat -> Option Zd} {a b h:Nat}:(jZ Z a b h).isSome = (Z h).isSome:=za_some.trans zb_some
theorem last_mem {l:List Nat} (h:l.getLast?.getD 0 ≠ 0):l.getLast?.getD 0 ∈ l:=by
 rcases List.eq_nil_or_concat l with rfl | ⟨l1,x,rfl⟩
 ·exact absurd rfl h
 ·rw [List.concat_eq_append,List.getLast?_concat]
  simp
theorem head_mem {l:List Nat} (h:l.head?.getD 0 ≠ 0):l.head?.getD 0 ∈ l:=by
 cases l with
 | nil => exact absurd rfl h
 | cons x t => exact List.mem_cons_self ..
theorem last_in {l:List Nat}:l.getLast?.getD 0 = 0 \/ l.getLast?.getD 0 ∈ l:=(Nat.eq_zero_or_pos _).imp id fun h => last_mem (by omega)
theorem head_in {l:List Nat}:l.head?.getD 0 = 0 \/ l.head?.getD 0 ∈ l:=(Nat.eq_zero_or_pos _).imp id fun h => head_mem (by omega)
theorem chain_join {Z:Nat -> Option Zd} {k:Nat} {l1 l2:List Nat} {m m' n:Nat} (h1:Chain Z k 0 l1 m) (h2:Chain Z k m' l2 n) (hn:l2.head?.getD n = l2.head?.getD 0) (hd:(l1 ++ l2).Nodup) (h0:∀ x ∈ l1 ++ l2,x ≠ 0) :
  Chain (jZ Z (l1.getLast?.getD 0) (l2.head?.getD 0)) k 0 (l1 ++ l2) n:=by
 obtain ⟨d1,d2,d3⟩:=List.nodup_append.1 hd
 have z1:∀ x ∈ l1,x ≠ 0:=fun x hx => h0 x (List.mem_append.2 (.inl hx))
 have z2:∀ x ∈ l2,x ≠ 0:=fun x hx => h0 x (List.mem_append.2 (.inr hx))
 rw [chain_app,hn]
 constructor
 ·refine (h1.last d1 z1 (l2.head?.getD 0)).congr fun y hy => za_ne fun e => ?_
  rcases head_in (l:=l2) with h | h
  ·exact z1 y hy (e.trans h)
  ·exact d3 y hy _ h e
 ·have h2':Chain (zb Z (l1.getLast?.getD 0) (l2.head?.getD 0)) k m' l2 n:=h2.congr fun y hy => zb_ne fun e => by
   rcases last_in (l:=l1) with h | h
   ·exact z2 y hy (e.trans h)
   ·exact d3 _ h y hy e.symm
  exact h2'.first d2 z2 _
def layZ (Z:Nat -> Option Zd) (h k a b:Nat):Nat -> Option Zd:=jZ (jZ (upd Z h (some ⟨k,a,b⟩)) a h) h b
theorem layZ_ne {Z:Nat -> Option Zd} {h k a b y:Nat} (h1:y ≠ h) (h2:y ≠ a) (h3:y ≠ b):layZ Z h k a b y = Z y :=
 (jZ_ne h1 h3).trans ((jZ_ne h2 h1).trans (upd_ne _ _ h1))
theorem chain_lay {Z:Nat -> Option Zd} {k:Nat} {l1 l2:List Nat} {h:Nat} (hc:Chain Z k 0 (l1 ++ l2) 0) (hd:(l1 ++ l2).Nodup) (h0:∀ x ∈ l1 ++ l2,x ≠ 0) (hh:h ≠ 0) (hn:h ∉ l1 ++ l2) :
  Chain (layZ Z h k (l1.getLast?.getD 0) (l2.head?.getD 0)) k 0 (l1 ++ h :: l2) 0:=by
 obtain ⟨d1,d2,d3⟩:=List.nodup_append.1 hd
 obtain ⟨c1,c2⟩:=chain_app.1 hc
 have n1:h ∉ l1:=fun e => hn (List.mem_append.2 (.inl e))
 have n2:h ∉ l2:=fun e => hn (List.mem_append.2 (.inr e))
 have z1:∀ x ∈ l1,x ≠ 0:=fun x hx => h0 x (List.mem_append.2 (.inl hx))
 have z2:∀ x ∈ l2,x ≠ 0:=fun x hx => h0 x (List.mem_append.2 (.inr hx))
 have e1:Chain (upd Z h (some ⟨k,l1.getLast?.getD 0,l2.head?.getD 0⟩)) k 0 l1 (l2.head?.getD 0):=c1.congr fun y hy => upd_ne _ _ (fun e => n1 (e ▸ hy))
 have e2:Chain (upd Z h (some ⟨k,l1.getLast?.getD 0,l2.head?.getD 0⟩)) k (l1.getLast?.getD 0) l2 0:=c2.congr fun y hy => upd_ne _ _ (fun e => n2 (e ▸ hy))
 have e3:Chain (upd Z h (some ⟨k,l1.getLast?.getD 0,l2.head?.getD 0⟩)) k (l1.getLast?.getD 0) [h] (l2.head?.getD 0):=⟨upd_at _ _ _,trivial⟩
 have f1:=chain_join e1 e3 rfl (List.nodup_append.2 ⟨d1,by simp,fun y hy z hz e => by
  rw [List.mem_singleton] at hz; subst hz; subst e; exact n1 hy⟩) (fun x hx => by
   rcases List.mem_append.1 hx with hx | hx
   ·exact z1 x hx
   ·rw [List.mem_singleton] at hx; subst hx; exact hh)
 have f2:Chain (jZ (upd Z h (some ⟨k,l1.getLast?.getD 0,l2.head?.getD 0⟩)) (l1.getLast?.getD 0) h) k (l1.getLast?.getD 0) l2 0:=e2.congr fun y hy => jZ_ne (fun e => by
   rcases last_in (l:=l1) with h | h
   ·exact z2 y hy (e.trans h)
   ·exact d3 _ h y hy e.symm) (fun e => n2 (e ▸ hy))
 have f3:=chain_join f1 f2 rfl (by
  rw [List.append_assoc]
  refine List.nodup_append.2 ⟨d1,?_,fun y hy z hz e => ?_⟩
  ·exact List.nodup_cons.2 ⟨n2,d2⟩
  ·subst e
   rcases List.mem_cons.1 hz with e | hz
   ·subst e; exact n1 hy
   ·exact d3 y hy y hz rfl) (fun x hx => by
   rw [List.append_assoc] at hx
   rcases List.mem_append.1 hx with hx | hx
   ·exact z1 x hx
   ·rcases List.mem_cons.1 hx with e | hx
    ·subst e; exact hh
    ·exact z2 x hx)
 have e:(l1 ++ [h]).getLast?.getD 0 = h:=by rw [List.getLast?_concat]; rfl
 rw [e,List.append_assoc] at f3
 exact f3
def outZ (Z:Nat -> Option Zd) (h a b:Nat):Nat -> Option Zd:=upd (jZ Z a b) h (some ⟨4,0,0⟩)
theorem outZ_ne {Z:Nat -> Option Zd} {h a b y:Nat} (h1:y ≠ h) (h2:y ≠ a) (h3:y ≠ b):outZ Z h a b y = Z y:=(upd_ne _ _ h1).trans (jZ_ne h2 h3)
theorem chain_out {Z:Nat -> Option Zd} {k:Nat} {l1 l2:List Nat} {h:Nat} (hc:Chain Z k 0 (l1 ++ h :: l2) 0) (hd:(l1 ++ h :: l2).Nodup) (h0:∀ x ∈ l1 ++ h :: l2,x ≠ 0) :
  Z h = some ⟨k,l1.getLast?.getD 0,l2.head?.getD 0⟩ /\ Chain (outZ Z h (l1.getLast?.getD 0) (l2.head?.getD 0)) k 0 (l1 ++ l2) 0:=by
 obtain ⟨d1,d2,d3⟩:=List.nodup_append.1 hd
 obtain ⟨n2,d2⟩:=List.nodup_cons.1 d2
 obtain ⟨c1,c2,c3⟩:=chain_app.1 hc
 have n1:h ∉ l1:=fun e => d3 h e h (List.mem_cons_self ..) rfl
 refine ⟨c2,?_⟩
 have f:=chain_join c1 c3 rfl (List.nodup_append.2 ⟨d1,d2,fun y hy z hz => d3 y hy z (List.mem_cons_of_mem _ hz)⟩) (fun x hx => h0 x (by
  rcases List.mem_append.1 hx with hx | hx
  ·exact List.mem_append.2 (.inl hx)
  ·exact List.mem_append.2 (.inr (List.mem_cons_of_mem _ hx))))
 exact f.congr fun y hy => upd_ne _ _ (fun e => by
  subst e
  rcases List.mem_append.1 hy with hy | hy
  ·exact n1 hy
  ·exact n2 hy)
end Go.Proofs.YtfjiphibalhcgaaGreat.Que
/-
  The walk of item.Lengths.
-/
namespace Go.Proofs.YtfjiphibalhcgaaGreat.Itm
open Go.RowKit Base Arena Cls
section
variable (w:World) (L:Lay) (c:Conf) (s:St) (bs:List UInt8) (h:SetAt w L c s bs) (g:Cls.Good c.cf s)
include h g
theorem lengthsNo (H:Nat) (hH:H < 18446744073709551616) (hf:findN c.cf s H = none):Calls Tryz.prog 113 #[.pointer (some ⟨L.g,0,none⟩),.int .u64 (H:Int)] w fun e w' => e = .returned (.tuple #[.int .i64 0,.int .i64 0,.int .i64 20]) /\ Below w.heap.size w w':=by
 have OC:=openNo w L c s bs h g H hH hf
 rw [zc_eq] at OC
 replace OC:=Lib.hid OC
 clear h g hf
 go_enter Tryz.func113,Tryz.ntmps113
 go_wp2_with fail
 refine OC.out.mono ?_
 rintro e w2 ⟨rfl,b2⟩
 replace b2:=Lib.hid b2
 go_wp2
 go_ret3
 exact ⟨rfl,b2.out.alloc b2.out.size _⟩
theorem lengthsNone {H i x p k n:Nat} (K:Chk c s bs.length H i x p k n) (h44:rd bs (p + 44) 1 = 0):Calls Tryz.prog 113 #[.pointer (some ⟨L.g,0,none⟩),.int .u64 (H:Int)] w fun e w' => e = .returned (.tuple #[.int .i64 0,.int .i64 0,.int .i64 0]) /\ Below w.heap.size w w':=by
 have OC:=openK w L c s bs h g K
 rw [kv_eq] at OC
 obtain ⟨V,hV⟩:∃ V,V = rd bs (p + 44) 1:=⟨_,rfl⟩
 have d1:decide ((V:Int) = 0) = true:=decide_eq_true (by omega)
 have d2:((V:Int) == 0) = true:=by rw [beq_iff_eq]; omega
 replace OC:=Lib.hid OC
 replace hV:=Lib.hid hV
 replace h:=Lib.hid h
 replace K:=Lib.hid K
 clear g h44
 go_enter Tryz.func113,Tryz.ntmps113
 go_wp2_with fail
 refine OC.out.mono ?_
 rintro e w2 ⟨rfl,b2⟩
 obtain ⟨w3,hw3⟩:∃ w3,w3 = w2.alloc (.cells #[.pointer (some ⟨L.ga,0,none⟩),.int .i64 (p:Int),.int .i64 (k:Int),.int .i64 (n:Int)] 171):=⟨_,rfl⟩
 have S:OS w.heap.size w w3 L c s bs w2.heap.size p k n:=by rw [hw3]; exact OS.op p k n h.out b2 b2 b2.size
 obtain ⟨y0,y1,y2,y3⟩:=S.cells
 have KC:=Lib.hid (S.key K.out hV.out)
 replace S:=Lib.hid S
 replace hw3:=Lib.hid hw3
 clear b2 OC
 generalize hN2:w2.heap.size = N1 at *
 replace hN2:=Lib.hid hN2
 go_upto_region 2 with fail
 rw [hN2.out, <- hw3.out]
 clear hN2 hw3
 go_wp2_with fail
 refine KC.out.mono ?_
 rintro e w4 ⟨rfl,b4⟩
 replace S:=S.out.step b4
 obtain ⟨y0,y1,y2,y3⟩:=S.cells
 replace S:=Lib.hid S
 clear KC b4 K hV h
 go_wp2
 go_ret3
 exact ⟨rfl,S.out.below⟩
theorem lengthsYes {H i x p k n:Nat} (K:Chk c s bs.length H i x p k n) (h44:rd bs (p + 44) 1 ≠ 0):Calls Tryz.prog 113 #[.pointer (some ⟨L.g,0,none⟩),.int .u64 (H:Int)] w fun e w' => e = .returned (.tuple #[.int .i64 ((rd bs (p + 44) 1:Nat):Int),.int .i64 ((rd bs (p + 48) 4:Nat):Int),.int .i64 0]) /\ Below w.heap.size w w':=by
 have OC:=openK w L c s bs h g K
 rw [kv_eq] at OC
 obtain ⟨V,hV⟩:∃ V,V = rd bs (p + 44) 1:=⟨_,rfl⟩
 obtain ⟨U,hU⟩:∃ U,U = rd bs (p + 48) 4:=⟨_,rfl⟩
 have d1:decide ((V:Int) = 0) = false:=decide_eq_false (by omega)
 have d2:((V:Int) == 0) = false:=by rw [beq_eq_false_iff_ne]; omega
 rw [<- hV, <- hU]
 replace OC:=Lib.hid OC
 replace hV:=Lib.hid hV
 replace hU:=Lib.hid hU
 replace h:=Lib.hid h
 replace K:=Lib.hid K
 clear g h44
 go_enter Tryz.func113,Tryz.ntmps113
 go_wp2_with fail
 refine OC.out.mono ?_
 rintro e w2 ⟨rfl,b2⟩
 obtain ⟨w3,hw3⟩:∃ w3,w3 = w2.alloc (.cells #[.pointer (some ⟨L.ga,0,none⟩),.int .i64 (p:Int),.int .i64 (k:Int),.int .i64 (n:Int)] 171):=⟨_,rfl⟩
 have S:OS w.heap.size w w3 L c s bs w2.heap.size p k n:=by rw [hw3]; exact OS.op p k n h.out b2 b2 b2.size
 obtain ⟨y0,y1,y2,y3⟩:=S.cells
 have KC:=Lib.hid (S.key K.out hV.out)
 replace S:=Lib.hid S
 replace hw3:=Lib.hid hw3
 clear b2 OC
 generalize hN2:w2.heap.size = N1 at *
 replace hN2:=Lib.hid hN2
 go_upto_region 2 with fail
 rw [hN2.out, <- hw3.out]
 clear hN2 hw3
 go_wp2_with fail
 refine KC.out.mono ?_
 rintro e w4 ⟨rfl,b4⟩
 replace S:=S.out.step b4
 obtain ⟨yy0,yy1,yy2,yy3⟩:=S.cells
 have y0:=fun p:Regrown => cell_regrown yy0 p.d p.os
 have y1:=fun p:Regrown => cell_regrown yy1 p.d p.os
 have y2:=fun p:Regrown => cell_regrown yy2 p.d p.os
 have y3:=fun p:Regrown => cell_regrown yy3 p.d p.os
 have KC2:=Lib.hid (fun p:Regrown => (S.step (below_regrown w4 p.d p.os)).key K.out hV.out)
 have VC:=Lib.hid (fun p:Regrown => (S.step (below_regrown w4 p.d p.os)).value K.out hU.out)
 replace S:=Lib.hid S
 clear KC b4 yy0 yy1 yy2 yy3
 go_upto_region 4 with fail
 refine wp_region_quiet_below (by kernel_rfl) (by kernel_rfl) ?_
 repeat (go_big_quiet_step ((first | (go_at_call 114; exact Calls.regrown_of (KC2.out _)) | (go_at_call 134; exact Calls.regrown_of (VC.out _)))))
 refine wpQuiet_nil ?_
 intro _ hw'
 obtain ⟨⟨dq,osq⟩,hw''⟩:=hw'
 subst hw''
 have S5:=Lib.hid (S.out.step (below_regrown w4 dq osq))
 clear y0 y1 y2 y3 KC2 VC S
 generalize Go.Sort.grow (redrawn w4 dq) osq = wf at *
 go_wp2
 go_ret3
 exact ⟨rfl,S5.out.below⟩
end
end Go.Proofs.YtfjiphibalhcgaaGreat.Itm
/-
  The queue: its lists with the chunks; which list, who is in it, neighbours.
-/
namespace Go.Proofs.YtfjiphibalhcgaaGreat.Que
open Go.RowKit Base Arena Cls Itm
structure QS (w:World) (L:Lay) (c:Conf) (s:St) (bs:List UInt8) (Z:Nat -> Option Zd) (gq gl:Nat) (F:QN):Prop where
  zs:ZS w L c s bs Z
  q:QAt w L c gq gl F
  fq:¬ Foot L c s gq
  fl:¬ Foot L c s gl
def It (c:Conf) (s:St) (Z:Nat -> Option Zd) (H:Nat):Prop:=(∃ i x p,findN c.cf s H = some (i,x,p)) /\ ∃ z,Z H = some z
def Two (L:Lay) (gl:Nat):Nat -> Prop:=fun b => b = L.ha \/ b = gl
theorem good_lt {c:Conf} (ok:c.cf.Ok) {s:St} (g:Cls.Good c.cf s) {H i x p:Nat} (h:findN c.cf s H = some (i,x,p)):H < 18446744073709551616:=by
  obtain ⟨t,e⟩:=Tkn.of ok g h
  rw [e]
  exact (t.hlt ok g).1
section
variable {w w':World} {L:Lay} {c:Conf} {s:St} {bs:List UInt8} {Z:Nat -> Option Zd} {gq gl:Nat} {F:QN} (h:QS w L c s bs Z gq gl F)
include h
theorem QS.okc:c.cf.Ok:=h.zs.set.okc
theorem QS.below (b:Below w.heap.size w w'):QS w' L c s bs Z gq gl F:=⟨h.zs.step b,h.q.below b,h.fq,h.fl⟩
theorem QS.drewN (n:Nat):QS (w.drewN n) L c s bs Z gq gl F:=⟨h.zs.drewN n,h.q.drewN n,h.fq,h.fl⟩
theorem QS.ha_ne:gq ≠ L.ha /\ gl ≠ L.ha:=⟨fun e => h.fq (by rw [e]; exact ⟨.bytes,rfl⟩),fun e => h.fl (by rw [e]; exact ⟨.bytes,rfl⟩)⟩
theorem QS.bytes {bs':List UInt8} {Z':Nat -> Option Zd} (o:Only (· = L.ha) w w') (h':ZS w' L c s bs' Z'):QS w' L c s bs' Z' gq gl F :=
  ⟨h',h.q.only o h.ha_ne.1 h.ha_ne.2,h.fq,h.fl⟩
theorem QS.cell {F':QN} {j:Nat} {v:Value} (q':QAt (w.setCell ⟨gl,j,none⟩ v) L c gq gl F'):QS (w.setCell ⟨gl,j,none⟩ v) L c s bs Z gq gl F' /\ Only (Two L gl) w (w.setCell ⟨gl,j,none⟩ v) :=
  ⟨⟨h.zs.only (only_cell w gl j v) (fun b hb e => h.fl (e ▸ hb)),q',h.fq,h.fl⟩,(Only.refl (Two L gl) w).setCell (p:=⟨gl,j,none⟩) (fun _ => .inr rfl) v⟩
end
theorem two_bytes {w w':World} {L:Lay} {gl:Nat} (o:Only (· = L.ha) w w'):Only (Two L gl) w w':=o.mono fun b _ hb => .inl hb
theorem isKindC (w:World) (k:Int):Calls Tryz.prog 69 #[.int .i64 k] w fun e w' => e = .returned (.bool (decide (1 <= k /\ k <= 3))) /\ w = w':=by
  by_cases h0 : 1 <= k
  · by_cases h1:k <= 3
    · rw [decide_eq_true ⟨h0,h1⟩]
      go_enter Tryz.func69,Tryz.ntmps69
      go_wp2
      go_ret
      exact ⟨rfl,rfl⟩
    · rw [decide_eq_false (fun e => h1 e.2)]
      go_enter Tryz.func69,Tryz.ntmps69
      go_wp2
      go_ret
      exact ⟨rfl,rfl⟩
  · rw [decide_eq_false (fun e => h0 e.1)]
    go_enter Tryz.func69,Tryz.ntmps69
    go_wp2
    go_ret
    exact ⟨rfl,rfl⟩
section
variable {w:World} {L:Lay} {c:Conf} {gq gl:Nat} {F:QN} (q:QAt w L c gq gl F)
include q
theorem listNo (x kind:Int) (hn:¬ (0 <= x /\ x < (c.nc:Int) /\ 1 <= kind /\ kind <= 3)):Calls Tryz.prog 74 #[.pointer (some ⟨gq,0,none⟩),.int .i64 x,.int .i64 kind] w fun e w' => e = .returned (.pointer none) /\ w = w':=by
  have c1:=q.c1
  have IK:=fun w => isKindC w kind
  clear q
  by_cases h0:x < 0
  · clear IK hn
    go_enter Tryz.func74,Tryz.ntmps74
    go_wp2
    go_ret
    exact ⟨rfl,rfl⟩
  · by_cases h1:(c.nc:Int) <= x
    · clear IK hn
      go_enter Tryz.func74,Tryz.ntmps74
      go_wp2
      go_ret
      exact ⟨rfl,rfl⟩
    · have h2:¬ (1 <= kind /\ kind <= 3):=fun e => hn ⟨by omega,by omega,e⟩
      rw [decide_eq_false h2] at IK
      replace IK:=Lib.hid IK
      clear hn h2
      go_enter Tryz.func74,Tryz.ntmps74
      go_wp2_with (first | (go_at_call 69; refine (IK.out _).mono ?_; rintro e w' ⟨rfl,rfl⟩) | fail)
      go_ret
      exact ⟨rfl,rfl⟩
theorem listYes (x k:Nat) (hx:x < c.nc) (hk:k < 3) (hnc:c.nc < 1048576):Calls Tryz.prog 74 #[.pointer (some ⟨gq,0,none⟩),.int .i64 (x:Int),.int .i64 ((k:Int) + 1)] w fun e w' => e = .returned (.pointer (some ⟨gl,x * 9 + k * 3,none⟩)) /\ w = w':=by
  have c1:=q.c1
  have IK:=fun w => isKindC w ((k:Int) + 1)
  rw [decide_eq_true (show 1 <= (k:Int) + 1 /\ (k:Int) + 1 <= 3 by omega)] at IK
  replace IK:=Lib.hid IK
  clear q
  have x0:(0:Int) <= (x:Int):=by omega
  have x1:(x:Int) < (c.nc:Int):=by omega
  have k0:(0:Int) <= (k:Int):=by omega
  have k1:(k:Int) < 3:=by omega
  have s1:IntKind.i64.wrap ((k:Int) + 1 - 1) = (k:Int):=by
    rw [show (k:Int) + 1 - 1 = (k:Int) by omega]; exact IntWalk.i64_in _ (by omega)
  go_enter Tryz.func74,Tryz.ntmps74
  go_wp2_with (first | (go_at_call 69; refine (IK.out _).mono ?_; rintro e w' ⟨rfl,rfl⟩) | fail)
  go_ret
  exact ⟨rfl,rfl⟩
end
def jH (F:QN) (x k a b:Nat):QN:=if a = 0 then F.setHd x k b else F
def jF (F:QN) (x k a b:Nat):QN:=if b = 0 then (jH F x k a b).setTl x k a else jH F x k a b
theorem zb_it {c:Conf} {s:St} {Z:Nat -> Option Zd} {x y H:Nat} (h:It c s Z H):It c s (zb Z x y) H:=⟨h.1,Option.isSome_iff_exists.1 (zb_some.trans (Option.isSome_iff_exists.2 h.2))⟩
theorem It.goodl {c:Conf} {s:St} {Z:Nat -> Option Zd} {H:Nat} (ok:c.cf.Ok) (g:Cls.Good c.cf s) (h:H = 0 \/ It c s Z H):GoodL c.cf s H:=by
 rcases h with h | ⟨⟨i,x,p,h⟩, -⟩
 ·exact .inl h
 ·exact .inr ⟨good_lt ok g h,i,x,p,h⟩
section
variable {w:World} {L:Lay} {c:Conf} {s:St} {bs:List UInt8} {Z:Nat -> Option Zd} {gq gl:Nat} {F:QN} (h:QS w L c s bs Z gq gl F)
include h
theorem QS.setB {a b:Nat} (ha:It c s Z a) (a0:a ≠ 0) (hb:b = 0 \/ It c s Z b):Calls Tryz.prog 67 #[.pointer (some ⟨L.g,0,none⟩),.int .u64 (a:Int),.int .i64 2,.int .u64 (b:Int)] w fun e w' => e = .returned (.int .i64 0) /\ Only (Two L gl) w w' /\ ∃ bs',Ed (Itp c s Z) bs bs' /\ QS w' L c s bs' (zb Z a b) gq gl F:=by
 obtain ⟨⟨i,x,p,hf⟩,z,hz⟩:=ha
 have e:zb Z a b = upd Z a (some ⟨z.st,z.a,b⟩):=by unfold zb; rw [if_neg a0,hz]; rfl
 rw [e]
 exact (zSetB h.zs (good_lt h.okc h.zs.good hf) hf z hz b (It.goodl h.okc h.zs.good hb)).mono fun e w' ⟨h1,h2,bs',h3,h4⟩ => ⟨h1,two_bytes h2,bs',h3,h.bytes h2 h4⟩
theorem QS.setA {a b:Nat} (ha:It c s Z a) (a0:a ≠ 0) (hb:b = 0 \/ It c s Z b):Calls Tryz.prog 67 #[.pointer (some ⟨L.g,0,none⟩),.int .u64 (a:Int),.int .i64 1,.int .u64 (b:Int)] w fun e w' => e = .returned (.int .i64 0) /\ Only (Two L gl) w w' /\ ∃ bs',Ed (Itp c s Z) bs bs' /\ QS w' L c s bs' (za Z a b) gq gl F:=by
 obtain ⟨⟨i,x,p,hf⟩,z,hz⟩:=ha
 have e:za Z a b = upd Z a (some ⟨z.st,b,z.b⟩):=by unfold za; rw [if_neg a0,hz]; rfl
 rw [e]
 exact (zSetA h.zs (good_lt h.okc h.zs.good hf) hf z hz b (It.goodl h.okc h.zs.good hb)).mono fun e w' ⟨h1,h2,bs',h3,h4⟩ => ⟨h1,two_bytes h2,bs',h3,h.bytes h2 h4⟩
end
theorem two_trans {L:Lay} {gl:Nat} {a b c:World} (h:Only (Two L gl) a b) (k:Only (Two L gl) b c):Only (Two L gl) a c:=h.trans k fun _ _ h => h
theorem eq0 {a:Nat} (h:a = 0):decide ((a:Int) = 0) = true /\ ((a:Int) == 0) = true:=⟨decide_eq_true (by omega),by rw [beq_iff_eq]; omega⟩
theorem ne0 {a:Nat} (h:¬ a = 0):decide ((a:Int) = 0) = false /\ ((a:Int) == 0) = false:=⟨decide_eq_false (by omega),by rw [beq_eq_false_iff_ne]; omega⟩
section
variable {w:World} {L:Lay} {c:Conf} {s:St} {bs:List UInt8} {Z:Nat -> Option Zd} {gq gl:Nat} {F:QN} (h:QS w L c s bs Z gq gl F) {x k:Nat} (hx:x < c.nc) (hk:k < 3) (a b:Nat) (ha:a = 0 \/ It c s Z a) (hb:b = 0 \/ It c s Z b)
include h hx hk ha hb
theorem joinYY (a0:a = 0) (b0:b = 0):Calls Tryz.prog 66 #[.pointer (some ⟨gq,0,none⟩),.pointer (some ⟨gl,x * 9 + k * 3,none⟩),.int .u64 (a:Int),.int .u64 (b:Int)] w fun e w' => e = .returned (.tuple #[]) /\ Only (Two L gl) w w' /\ ∃ bs',Ed (Itp c s Z) bs bs' /\ QS w' L c s bs' (jZ Z a b) gq gl (jF F x k a b):=by
 obtain ⟨d1,d2⟩:=eq0 a0
 obtain ⟨d3,d4⟩:=eq0 b0
 have q0:=h.q.c0
 have p1:=h.q.qhd hx hk
 have p2:=h.q.grid.frozen (x * 9 + k * 3)
 obtain ⟨w1,hw1⟩:∃ w1,w1 = w.setCell ⟨gl,x * 9 + k * 3,none⟩ (.int .u64 (b:Int)):=⟨_,rfl⟩
 have S1:QS w1 L c s bs (zb Z a b) gq gl (jH F x k a b) /\ Only (Two L gl) w w1:=by
  rw [hw1]
  have e:zb Z a b = Z:=by unfold zb; rw [if_pos a0]
  have e2:jH F x k a b = F.setHd x k b:=by unfold jH; rw [if_pos a0]
  rw [e,e2]
  exact h.cell (h.q.setHd hx hk b)
 replace S1:=Lib.hid S1
 replace hw1:=Lib.hid hw1
 replace h:=Lib.hid h
 replace ha:=Lib.hid ha
 replace hb:=Lib.hid hb
 replace a0:=Lib.hid a0
 replace b0:=Lib.hid b0
 go_enter Tryz.func66,Tryz.ntmps66
 go_upto_region 3 with fail
 rw [<- hw1.out]
 obtain ⟨S,o1⟩:=S1.out
 have E1:=Lib.hid (Ed.refl (Itp c s Z) bs)
 obtain ⟨bs1,hbs⟩:∃ b,b = bs:=⟨_,rfl⟩
 rw [<- hbs] at S
 replace E1:RowKit.Hid (Ed (Itp c s Z) bs bs1):=Lib.hid (by rw [hbs]; exact E1.out)
 clear p1 p2 S1 hw1 hbs q0
 have q0:=S.q.c0
 have p1:=S.q.qtl hx hk
 have p2:=S.q.grid.frozen (x * 9 + k * 3 + 1)
 obtain ⟨w2,hw2⟩:∃ w2,w2 = w1.setCell ⟨gl,x * 9 + k * 3 + 1,none⟩ (.int .u64 (a:Int)):=⟨_,rfl⟩
 have S2:QS w2 L c s bs1 (jZ Z a b) gq gl (jF F x k a b) /\ Only (Two L gl) w1 w2:=by
  rw [hw2]
  have e:jZ Z a b = zb Z a b:=by unfold jZ za; rw [if_pos b0.out]
  have e2:jF F x k a b = (jH F x k a b).setTl x k a:=by unfold jF; rw [if_pos b0.out]
  rw [e,e2]
  exact S.cell (S.q.setTl hx hk a)
 replace S2:=Lib.hid S2
 replace hw2:=Lib.hid hw2
 replace S:=Lib.hid S
 replace o1:=Lib.hid o1
 go_wp2_with fail
 go_end0
 rw [<- hw2.out]
 exact ⟨rfl,two_trans o1.out S2.out.2,bs1,E1.out,S2.out.1⟩
theorem joinYN (a0:a = 0) (b0:¬ b = 0):Calls Tryz.prog 66 #[.pointer (some ⟨gq,0,none⟩),.pointer (some ⟨gl,x * 9 + k * 3,none⟩),.int .u64 (a:Int),.int .u64 (b:Int)] w fun e w' => e = .returned (.tuple #[]) /\ Only (Two L gl) w w' /\ ∃ bs',Ed (Itp c s Z) bs bs' /\ QS w' L c s bs' (jZ Z a b) gq gl (jF F x k a b):=by
 obtain ⟨d1,d2⟩:=eq0 a0
 obtain ⟨d3,d4⟩:=ne0 b0
 have q0:=h.q.c0
 have p1:=h.q.qhd hx hk
 have p2:=h.q.grid.frozen (x * 9 + k * 3)
 obtain ⟨w1,hw1⟩:∃ w1,w1 = w.setCell ⟨gl,x * 9 + k * 3,none⟩ (.int .u64 (b:Int)):=⟨_,rfl⟩
 have S1:QS w1 L c s bs (zb Z a b) gq gl (jH F x k a b) /\ Only (Two L gl) w w1:=by
  rw [hw1]
  have e:zb Z a b = Z:=by unfold zb; rw [if_pos a0]
  have e2:jH F x k a b = F.setHd x k b:=by unfold jH; rw [if_pos a0]
  rw [e,e2]
  exact h.cell (h.q.setHd hx hk b)
 replace S1:=Lib.hid S1
 replace hw1:=Lib.hid hw1
 replace h:=Lib.hid h
 replace ha:=Lib.hid ha
 replace hb:=Lib.hid hb
 replace a0:=Lib.hid a0
 replace b0:=Lib.hid b0
 go_enter Tryz.func66,Tryz.ntmps66
 go_upto_region 3 with fail
 rw [<- hw1.out]
 obtain ⟨S,o1⟩:=S1.out
 have E1:=Lib.hid (Ed.refl (Itp c s Z) bs)
 obtain ⟨bs1,hbs⟩:∃ b,b = bs:=⟨_,rfl⟩
 rw [<- hbs] at S
 replace E1:RowKit.Hid (Ed (Itp c s Z) bs bs1):=Lib.hid (by rw [hbs]; exact E1.out)
 clear p1 p2 S1 hw1 hbs q0
 have q0:=S.q.c0
 have C2:=Lib.hid (S.setA (zb_it (hb.out.resolve_left b0.out)) b0.out (ha.out.imp id zb_it))
 replace S:=Lib.hid S
 replace o1:=Lib.hid o1
 go_wp2_with fail
 refine C2.out.mono ?_
 rintro e w2 ⟨rfl,o2,bs2,E2,S2⟩
 rw [itp_congr (fun H => zb_some)] at E2
 have e2:jF F x k a b = jH F x k a b:=by unfold jF; rw [if_neg b0.out]
 replace e2:=Lib.hid e2
 replace S2:=Lib.hid S2
 replace E2:=Lib.hid E2
 replace o2:=Lib.hid o2
 go_wp2_with fail
 go_end0
 rw [e2.out]
 exact ⟨rfl,two_trans o1.out o2.out,bs2,E1.out.trans E2.out,S2.out⟩
theorem joinNY (a0:¬ a = 0) (b0:b = 0):Calls Tryz.prog 66 #[.pointer (some ⟨gq,0,none⟩),.pointer (some ⟨gl,x * 9 + k * 3,none⟩),.int .u64 (a:Int),.int .u64 (b:Int)] w fun e w' => e = .returned (.tuple #[]) /\ Only (Two L gl) w w' /\ ∃ bs',Ed (Itp c s Z) bs bs' /\ QS w' L c s bs' (jZ Z a b) gq gl (jF F x k a b):=by
 obtain ⟨d1,d2⟩:=ne0 a0
 obtain ⟨d3,d4⟩:=eq0 b0
 have q0:=h.q.c0
 have C1:=Lib.hid (h.setB (ha.resolve_left a0) a0 hb)
 have ej:jH F x k a b = F:=by unfold jH; rw [if_neg a0]
 replace ej:=Lib.hid ej
 replace h:=Lib.hid h
 replace ha:=Lib.hid ha
 replace hb:=Lib.hid hb
 replace a0:=Lib.hid a0
 replace b0:=Lib.hid b0
 go_enter Tryz.func66,Tryz.ntmps66
 go_wp2_with fail
 refine C1.out.mono ?_
 rintro e w1 ⟨rfl,o1,bs1,E1,S⟩
 rw [<- ej.out] at S
 replace E1:=Lib.hid E1
 clear C1 q0
 have q0:=S.q.c0
 have p1:=S.q.qtl hx hk
 have p2:=S.q.grid.frozen (x * 9 + k * 3 + 1)
 obtain ⟨w2,hw2⟩:∃ w2,w2 = w1.setCell ⟨gl,x * 9 + k * 3 + 1,none⟩ (.int .u64 (a:Int)):=⟨_,rfl⟩
 have S2:QS w2 L c s bs1 (jZ Z a b) gq gl (jF F x k a b) /\ Only (Two L gl) w1 w2:=by
  rw [hw2]
  have e:jZ Z a b = zb Z a b:=by unfold jZ za; rw [if_pos b0.out]
  have e2:jF F x k a b = (jH F x k a b).setTl x k a:=by unfold jF; rw [if_pos b0.out]
  rw [e,e2]
  exact S.cell (S.q.setTl hx hk a)
 replace S2:=Lib.hid S2
 replace hw2:=Lib.hid hw2
 replace S:=Lib.hid S
 replace o1:=Lib.hid o1
 go_wp2_with fail
 go_end0
 rw [<- hw2.out]
 exact ⟨rfl,two_trans o1.out S2.out.2,bs1,E1.out,S2.out.1⟩
theorem joinNN (a0:¬ a = 0) (b0:¬ b = 0):Calls Tryz.prog 66 #[.pointer (some ⟨gq,0,none⟩),.pointer (some ⟨gl,x * 9 + k * 3,none⟩),.int .u64 (a:Int),.int .u64 (b:Int)] w fun e w' => e = .returned (.tuple #[]) /\ Only (Two L gl) w w' /\ ∃ bs',Ed (Itp c s Z) bs bs' /\ QS w' L c s bs' (jZ Z a b) gq gl (jF F x k a b):=by
 obtain ⟨d1,d2⟩:=ne0 a0
 obtain ⟨d3,d4⟩:=ne0 b0
 have q0:=h.q.c0
 have C1:=Lib.hid (h.setB (ha.resolve_left a0) a0 hb)
 have ej:jH F x k a b = F:=by unfold jH; rw [if_neg a0]
 replace ej:=Lib.hid ej
 replace h:=Lib.hid h
 replace ha:=Lib.hid ha
 replace hb:=Lib.hid hb
 replace a0:=Lib.hid a0
 replace b0:=Lib.hid b0
 go_enter Tryz.func66,Tryz.ntmps66
 go_wp2_with fail
 refine C1.out.mono ?_
 rintro e w1 ⟨rfl,o1,bs1,E1,S⟩
 rw [<- ej.out] at S
 replace E1:=Lib.hid E1
 clear C1 q0
 have q0:=S.q.c0
 have C2:=Lib.hid (S.setA (zb_it (hb.out.resolve_left b0.out)) b0.out (ha.out.imp id zb_it))
 replace S:=Lib.hid S
 replace o1:=Lib.hid o1
 go_wp2_with fail
 refine C2.out.mono ?_
 rintro e w2 ⟨rfl,o2,bs2,E2,S2⟩
 rw [itp_congr (fun H => zb_some)] at E2
 have e2:jF F x k a b = jH F x k a b:=by unfold jF; rw [if_neg b0.out]
 replace e2:=Lib.hid e2
 replace S2:=Lib.hid S2
 replace E2:=Lib.hid E2
 replace o2:=Lib.hid o2
 go_wp2_with fail
 go_end0
 rw [e2.out]
 exact ⟨rfl,two_trans o1.out o2.out,bs2,E1.out.trans E2.out,S2.out⟩
theorem joinC:Calls Tryz.prog 66 #[.pointer (some ⟨gq,0,none⟩),.pointer (some ⟨gl,x * 9 + k * 3,none⟩),.int .u64 (a:Int),.int .u64 (b:Int)] w fun e w' => e = .returned (.tuple #[]) /\ Only (Two L gl) w w' /\ ∃ bs',Ed (Itp c s Z) bs bs' /\ QS w' L c s bs' (jZ Z a b) gq gl (jF F x k a b):=by
 by_cases a0:a = 0
 ·by_cases b0:b = 0
  ·exact joinYY h hx hk a b ha hb a0 b0
  ·exact joinYN h hx hk a b ha hb a0 b0
 ·by_cases b0:b = 0
  ·exact joinNY h hx hk a b ha hb a0 b0
  ·exact joinNN h hx hk a b ha hb a0 b0
end
theorem upd_it {c:Conf} {s:St} {Z:Nat -> Option Zd} {x H:Nat} {z:Zd} (h:It c s Z H):It c s (upd Z x (some z)) H:=by
 refine ⟨h.1,?_⟩
 by_cases e:H = x
 ·subst e; exact ⟨z,upd_at _ _ _⟩
 ·rw [upd_ne _ _ e]; exact h.2
theorem upd_upd {α:Type} (f:Nat -> α) (x:Nat) (a b : α):upd (upd f x a) x b = upd f x b:=by
 funext y
 by_cases e:y = x
 ·subst e; rw [upd_at,upd_at]
 ·rw [upd_ne _ _ e,upd_ne _ _ e,upd_ne _ _ e]
theorem upd_some {Z:Nat -> Option Zd} {x:Nat} {z:Zd} (h:∃ z,Z x = some z) (H:Nat):(upd Z x (some z) H).isSome = (Z H).isSome:=by
 by_cases e:H = x
 ·subst e; obtain ⟨z,h⟩:=h; rw [upd_at,h]; rfl
 ·rw [upd_ne _ _ e]
theorem jZ_it {c:Conf} {s:St} {Z:Nat -> Option Zd} {a b H:Nat} (h:It c s Z H):It c s (jZ Z a b) H:=⟨h.1,Option.isSome_iff_exists.1 (jZ_some.trans (Option.isSome_iff_exists.2 h.2))⟩
theorem jF_n (F:QN) (x k a b:Nat):(jF F x k a b).n = F.n:=by
 unfold jF jH
 split <;> split <;> rfl
def lF (F:QN) (x k h a b:Nat):QN:=(jF (jF F x k a h) x k h b).setN x k (F.n x k + 1)
section
variable {w:World} {L:Lay} {c:Conf} {s:St} {bs:List UInt8} {Z:Nat -> Option Zd} {gq gl:Nat} {F:QN} (h:QS w L c s bs Z gq gl F)
include h
theorem QS.putA {H b:Nat} {z:Zd} (hh:It c s Z H) (hz:Z H = some z) (hb:b = 0 \/ It c s Z b):Calls Tryz.prog 67 #[.pointer (some ⟨L.g,0,none⟩),.int .u64 (H:Int),.int .i64 1,.int .u64 (b:Int)] w fun e w' => e = .returned (.int .i64 0) /\ Only (Two L gl) w w' /\ ∃ bs',Ed (Itp c s Z) bs bs' /\ QS w' L c s bs' (upd Z H (some ⟨z.st,b,z.b⟩)) gq gl F:=by
 obtain ⟨⟨i,x,p,hf⟩, -⟩:=hh
 exact (zSetA h.zs (good_lt h.okc h.zs.good hf) hf z hz b (It.goodl h.okc h.zs.good hb)).mono fun e w' ⟨h1,h2,bs',h3,h4⟩ => ⟨h1,two_bytes h2,bs',h3,h.bytes h2 h4⟩
theorem QS.putB {H b:Nat} {z:Zd} (hh:It c s Z H) (hz:Z H = some z) (hb:b = 0 \/ It c s Z b):Calls Tryz.prog 67 #[.pointer (some ⟨L.g,0,none⟩),.int .u64 (H:Int),.int .i64 2,.int .u64 (b:Int)] w fun e w' => e = .returned (.int .i64 0) /\ Only (Two L gl) w w' /\ ∃ bs',Ed (Itp c s Z) bs bs' /\ QS w' L c s bs' (upd Z H (some ⟨z.st,z.a,b⟩)) gq gl F:=by
 obtain ⟨⟨i,x,p,hf⟩, -⟩:=hh
 exact (zSetB h.zs (good_lt h.okc h.zs.good hf) hf z hz b (It.goodl h.okc h.zs.good hb)).mono fun e w' ⟨h1,h2,bs',h3,h4⟩ => ⟨h1,two_bytes h2,bs',h3,h.bytes h2 h4⟩
theorem QS.putS {H:Nat} {z:Zd} (hh:It c s Z H) (hz:Z H = some z) (v:Int) (k:Nat) (hv:v = (k:Int)) (k1 : 1 <= k) (k4:k <= 4):Calls Tryz.prog 68 #[.pointer (some ⟨L.g,0,none⟩),.int .u64 (H:Int),.int .i64 v] w fun e w' => e = .returned (.int .i64 0) /\ Only (Two L gl) w w' /\ ∃ bs',Ed (Itp c s Z) bs bs' /\ QS w' L c s bs' (upd Z H (some ⟨k,z.a,z.b⟩)) gq gl F:=by
 obtain ⟨⟨i,x,p,hf⟩, -⟩:=hh
 subst hv
 exact (zSetS h.zs (good_lt h.okc h.zs.good hf) hf z hz k k1 k4).mono fun e w' ⟨h1,h2,bs',h3,h4⟩ => ⟨h1,two_bytes h2,bs',h3,h.bytes h2 h4⟩
end
section
variable {w:World} {L:Lay} {c:Conf} {s:St} {bs:List UInt8} {Z:Nat -> Option Zd} {gq gl:Nat} {F:QN} (h:QS w L c s bs Z gq gl F) {x k:Nat} (hx:x < c.nc) (hk:k < 3) (H a b:Nat) (hH:It c s Z H) (ha:a = 0 \/ It c s Z a) (hb:b = 0 \/ It c s Z b) (hn:F.n x k < 1073741824)
include h hx hk hH ha hb hn
theorem layC:Calls Tryz.prog 63 #[.pointer (some ⟨gq,0,none⟩),.pointer (some ⟨gl,x * 9 + k * 3,none⟩),.int .u64 (H:Int),.int .i64 ((k:Int) + 1),.int .u64 (a:Int),.int .u64 (b:Int)] w fun e w' => e = .returned (.tuple #[]) /\ Only (Two L gl) w w' /\ ∃ bs',Ed (Itp c s Z) bs bs' /\ QS w' L c s bs' (layZ Z H (k + 1) a b) gq gl (lF F x k H a b):=by
 have q0:=h.q.c0
 obtain ⟨z,hz⟩:=hH.2
 have C1:=Lib.hid (h.putA hH hz ha)
 replace hH:=Lib.hid hH
 replace ha:=Lib.hid ha
 replace hb:=Lib.hid hb
 replace hz:=Lib.hid hz
 replace hn:=Lib.hid hn
 clear h
 go_enter Tryz.func63,Tryz.ntmps63
 go_wp2_with fail
 refine C1.out.mono ?_
 rintro e w1 ⟨rfl,o1,bs1,E1,S⟩
 have hz1:=Lib.hid (upd_at Z H (some ⟨z.st,a,z.b⟩))
 have q0:=S.q.c0
 have C2:=Lib.hid (S.putB (upd_it hH.out) hz1.out (hb.out.imp id upd_it))
 replace E1:=Lib.hid E1
 replace o1:=Lib.hid o1
 clear C1 S
 go_wp2_with fail
 refine C2.out.mono ?_
 rintro e w2 ⟨rfl,o2,bs2,E2,S⟩
 rw [itp_congr (upd_some hH.out.2)] at E2
 simp only [upd_upd] at S
 replace E2:=Lib.hid (E1.out.trans E2)
 replace o2:=Lib.hid (two_trans o1.out o2)
 have hz2:=Lib.hid (upd_at Z H (some ⟨z.st,a,b⟩))
 have q0:=S.q.c0
 have C3:=Lib.hid (S.putS (upd_it hH.out) hz2.out ((k:Int) + 1) (k + 1) (by omega) (by omega) (by omega))
 clear C2 S E1 o1 hz1
 go_wp2_with fail
 refine C3.out.mono ?_
 rintro e w3 ⟨rfl,o3,bs3,E3,S⟩
 rw [itp_congr (upd_some hH.out.2)] at E3
 simp only [upd_upd] at S
 replace E3:=Lib.hid (E2.out.trans E3)
 replace o3:=Lib.hid (two_trans o2.out o3)
 have C4:=Lib.hid (joinC S hx hk a H (ha.out.imp id upd_it) (.inr (upd_it hH.out)))
 clear C3 S E2 o2 hz2 q0
 go_wp2_with fail
 refine C4.out.mono ?_
 rintro e w4 ⟨rfl,o4,bs4,E4,S⟩
 rw [itp_congr (upd_some hH.out.2)] at E4
 replace E4:=Lib.hid (E3.out.trans E4)
 replace o4:=Lib.hid (two_trans o3.out o4)
 have C5:=Lib.hid (joinC S hx hk H b (.inr (jZ_it (upd_it hH.out))) (hb.out.imp id fun h => jZ_it (upd_it h)))
 clear C4 S E3 o3
 go_wp2_with fail
 refine C5.out.mono ?_
 rintro e w5 ⟨rfl,o5,bs5,E5,S⟩
 rw [itp_congr (fun H => jZ_some),itp_congr (upd_some hH.out.2)] at E5
 replace E5:=Lib.hid (E4.out.trans E5)
 replace o5:=Lib.hid (two_trans o4.out o5)
 have en:(jF (jF F x k a H) x k H b).n x k = F.n x k:=by rw [jF_n,jF_n]
 have p1:=S.q.qn hx hk
 rw [en] at p1
 have p2:=S.q.grid.frozen (x * 9 + k * 3 + 2)
 have s1:IntKind.i64.wrap ((F.n x k:Int) + 1) = (F.n x k:Int) + 1:=IntWalk.i64_in _ (by have:=hn.out; omega)
 have S6:=Lib.hid (S.cell (S.q.setN hx hk (F.n x k + 1)))
 replace S:=Lib.hid S
 clear C5 E4 o4 en
 go_wp2_with fail
 go_end0
 exact ⟨rfl,two_trans o5.out S6.out.2,bs5,E5.out,S6.out.1⟩
end
section
variable {w:World} {L:Lay} {c:Conf} {s:St} {bs:List UInt8} {Z:Nat -> Option Zd} {gq gl:Nat} {F:QN} (h:QS w L c s bs Z gq gl F)
include h
theorem standsNo (H:Nat) (hH:H < 18446744073709551616) (hf:findN c.cf s H = none):Calls Tryz.prog 64 #[.pointer (some ⟨gq,0,none⟩),.int .u64 (H:Int)] w fun e w' => e = .returned (.pointer none) /\ Below w.heap.size w w':=by
 have AC:=atC w L c s bs h.zs.set h.zs.good H hH
 rw [hf] at AC
 simp only [atV] at AC
 have q0:=h.q.c0
 replace AC:=Lib.hid AC
 clear h hf
 go_enter Tryz.func64,Tryz.ntmps64
 go_wp2_with fail
 refine AC.out.mono ?_
 rintro e w1 ⟨rfl,m,rfl⟩
 go_wp2
 go_ret
 exact ⟨rfl,below_drewN (Below.refl _ _) _⟩
theorem standsOut (H:Nat) {i x p:Nat} (hf:findN c.cf s H = some (i,x,p)) (hz:zst (Z H) = 0 \/ 4 <= zst (Z H)):Calls Tryz.prog 64 #[.pointer (some ⟨gq,0,none⟩),.int .u64 (H:Int)] w fun e w' => e = .returned (.pointer none) /\ Below w.heap.size w w':=by
 have hH:=good_lt h.okc h.zs.good hf
 have AC:=atC w L c s bs h.zs.set h.zs.good H hH
 rw [hf] at AC
 simp only [atV] at AC
 have q0:=h.q.c0
 have SC:=Lib.hid (fun m => zStateYes (h.zs.drewN m) hH hf)
 have LC:=Lib.hid (fun w' (q:QAt w' L c gq gl F) => listNo q (s.cls i:Int) (zst (Z H):Int) (by omega))
 have b0:=Lib.hid (fun m => below_drewN (Below.refl w.heap.size w) m)
 replace AC:=Lib.hid AC
 replace h:=Lib.hid h
 replace hf:=Lib.hid hf
 clear hz
 go_enter Tryz.func64,Tryz.ntmps64
 go_wp2_with fail
 refine AC.out.mono ?_
 rintro e w1 ⟨rfl,m,hm⟩
 have SC:=SC.out m
 have b1:=b0.out m
 have S:=h.out.drewN m
 rw [hm] at SC b1 S
 have q0:=S.q.c0
 replace SC:=Lib.hid SC
 replace b1:=Lib.hid b1
 replace S:=Lib.hid S
 replace hm:=Lib.hid hm
 clear AC b0
 go_wp2_with fail
 refine SC.out.mono ?_
 rintro e w2 ⟨rfl,b2⟩
 have LC:=Lib.hid (LC.out w2 (S.out.below b2).q)
 replace b2:=Lib.hid (b1.out.trans (b2.mono b1.out.size))
 clear SC S b1
 go_wp2_with fail
 refine LC.out.mono ?_
 rintro e w3 ⟨rfl,rfl⟩
 go_wp2
 go_ret
 exact ⟨rfl,b2.out⟩
theorem standsIn (H:Nat) {i x p k:Nat} (hf:findN c.cf s H = some (i,x,p)) (hk:k < 3) (hz:zst (Z H) = k + 1):Calls Tryz.prog 64 #[.pointer (some ⟨gq,0,none⟩),.int .u64 (H:Int)] w fun e w' => e = .returned (.pointer (some ⟨gl,s.cls i * 9 + k * 3,none⟩)) /\ Below w.heap.size w w':=by
 have hH:=good_lt h.okc h.zs.good hf
 have AC:=atC w L c s bs h.zs.set h.zs.good H hH
 rw [hf] at AC
 simp only [atV] at AC
 have q0:=h.q.c0
 have SC:=(fun m => zStateYes (h.zs.drewN m) hH hf)
 rw [hz,show ((k + 1:Nat):Int) = (k:Int) + 1 by omega] at SC
 replace SC:=Lib.hid SC
 have kN:=(Tkn.of h.okc h.zs.good hf).1.kN
 have nb:c.cf.nc <= 62:=h.okc.ncb
 have LC:=Lib.hid (fun w' (q:QAt w' L c gq gl F) => listYes q (s.cls i) k kN hk (by have:c.cf.nc = c.nc:=rfl; omega))
 have b0:=Lib.hid (fun m => below_drewN (Below.refl w.heap.size w) m)
 replace AC:=Lib.hid AC
 replace h:=Lib.hid h
 replace hf:=Lib.hid hf
 clear hz kN nb
 go_enter Tryz.func64,Tryz.ntmps64
 go_wp2_with fail
 refine AC.out.mono ?_
 rintro e w1 ⟨rfl,m,hm⟩
 have SC:=SC.out m
 have b1:=b0.out m
 have S:=h.out.drewN m
 rw [hm] at SC b1 S
 have q0:=S.q.c0
 replace SC:=Lib.hid SC
 replace b1:=Lib.hid b1
 replace S:=Lib.hid S
 replace hm:=Lib.hid hm
 clear AC b0
 go_wp2_with fail
 refine SC.out.mono ?_
 rintro e w2 ⟨rfl,b2⟩
 have LC:=Lib.hid (LC.out w2 (S.out.below b2).q)
 replace b2:=Lib.hid (b1.out.trans (b2.mono b1.out.size))
 clear SC S b1
 go_wp2_with fail
 refine LC.out.mono ?_
 rintro e w3 ⟨rfl,rfl⟩
 go_wp2
 go_ret
 exact ⟨rfl,b2.out⟩
end
section
variable {w:World} {L:Lay} {c:Conf} {s:St} {bs:List UInt8} {Z:Nat -> Option Zd} {gq gl:Nat} {F:QN} (h:QS w L c s bs Z gq gl F)
include h
theorem zLengthsNo (H:Nat) (hH:H < 18446744073709551616) (hf:findN c.cf s H = none \/ (∃ i x p,findN c.cf s H = some (i,x,p)) /\ Z H = none):Calls Tryz.prog 113 #[.pointer (some ⟨L.g,0,none⟩),.int .u64 (H:Int)] w fun e w' => (e = .returned (.tuple #[.int .i64 0,.int .i64 0,.int .i64 20]) \/ e = .returned (.tuple #[.int .i64 0,.int .i64 0,.int .i64 0])) /\ Below w.heap.size w w':=by
 rcases hf with hf | ⟨⟨i,x,p,hf⟩,hz⟩
 ·exact (lengthsNo w L c s bs h.zs.set h.zs.good H hH hf).mono fun e w' h => ⟨.inl h.1,h.2⟩
 ·have ha:=h.zs.lk.at_ H i x p hH hf
  rw [hz] at ha
  exact (lengthsNone w L c s bs h.zs.set h.zs.good (Chk.of h.zs.set h.zs.good hH hf) ha).mono fun e w' h => ⟨.inr h.1,h.2⟩
theorem zLengthsYes (H:Nat) (hi:It c s Z H):Calls Tryz.prog 113 #[.pointer (some ⟨L.g,0,none⟩),.int .u64 (H:Int)] w fun e w' => (∃ a b:Nat,a ≠ 0 /\ e = .returned (.tuple #[.int .i64 (a:Int),.int .i64 (b:Int),.int .i64 0])) /\ Below w.heap.size w w':=by
 obtain ⟨⟨i,x,p,hf⟩,z,hz⟩:=hi
 have hH:=good_lt h.okc h.zs.good hf
 have ha:=h.zs.lk.at_ H i x p hH hf
 rw [hz] at ha
 exact (lengthsYes w L c s bs h.zs.set h.zs.good (Chk.of h.zs.set h.zs.good hH hf) ha.1).mono fun e w' h => ⟨⟨_,_,ha.1,h.1⟩,h.2⟩
theorem freeArg (H:Nat) (k:Int) (hk:¬ (1 <= k /\ k <= 3)):Calls Tryz.prog 62 #[.pointer (some ⟨gq,0,none⟩),.int .u64 (H:Int),.int .i64 k] w fun e w' => e = .returned (.tuple #[.pointer none,.int .i64 1]) /\ w = w':=by
 have IK:=isKindC w k
 rw [decide_eq_false hk] at IK
 replace IK:=Lib.hid IK
 clear h hk
 go_enter Tryz.func62,Tryz.ntmps62
 go_wp2_with fail
 refine IK.out.mono ?_
 rintro e w1 ⟨rfl,rfl⟩
 go_wp2
 go_ret2
 exact ⟨rfl,rfl⟩
theorem freeNo (H:Nat) (hH:H < 18446744073709551616) (k:Nat) (hk:k < 3) (hf:findN c.cf s H = none \/ (∃ i x p,findN c.cf s H = some (i,x,p)) /\ Z H = none):Calls Tryz.prog 62 #[.pointer (some ⟨gq,0,none⟩),.int .u64 (H:Int),.int .i64 ((k:Int) + 1)] w fun e w' => e = .returned (.tuple #[.pointer none,.int .i64 20]) /\ Below w.heap.size w w':=by
 have IK:=isKindC w ((k:Int) + 1)
 rw [decide_eq_true (show 1 <= (k:Int) + 1 /\ (k:Int) + 1 <= 3 by omega)] at IK
 replace IK:=Lib.hid IK
 have q0:=h.q.c0
 have LC:=Lib.hid (zLengthsNo h H hH hf)
 clear h hk hf
 go_enter Tryz.func62,Tryz.ntmps62
 go_wp2_with fail
 refine IK.out.mono ?_
 rintro e w1 ⟨rfl,rfl⟩
 go_wp2_with fail
 refine LC.out.mono ?_
 rintro e w1 ⟨rfl | rfl,b1⟩
 all_goals
  replace b1:=Lib.hid b1
  go_wp2
  go_ret2
  exact ⟨rfl,b1.out⟩
theorem freeTwice (H:Nat) (k:Nat) (hk:k < 3) (hi:It c s Z H) {i x p j:Nat} (hf:findN c.cf s H = some (i,x,p)) (hj:j < 3) (hz:zst (Z H) = j + 1):Calls Tryz.prog 62 #[.pointer (some ⟨gq,0,none⟩),.int .u64 (H:Int),.int .i64 ((k:Int) + 1)] w fun e w' => e = .returned (.tuple #[.pointer none,.int .i64 8]) /\ Below w.heap.size w w':=by
 have IK:=isKindC w ((k:Int) + 1)
 rw [decide_eq_true (show 1 <= (k:Int) + 1 /\ (k:Int) + 1 <= 3 by omega)] at IK
 replace IK:=Lib.hid IK
 have q0:=h.q.c0
 have LC:=Lib.hid (zLengthsYes h H hi)
 replace h:=Lib.hid h
 replace hi:=Lib.hid hi
 replace hf:=Lib.hid hf
 replace hj:=Lib.hid hj
 replace hz:=Lib.hid hz
 go_enter Tryz.func62,Tryz.ntmps62
 go_wp2_with fail
 refine IK.out.mono ?_
 rintro e w1 ⟨rfl,rfl⟩
 go_wp2_with fail
 refine LC.out.mono ?_
 rintro e w1 ⟨⟨va,vb,va0,rfl⟩,b1⟩
 obtain ⟨d1,d2⟩:=ne0 va0
 have S:=h.out.below b1
 have SC:=Lib.hid (standsIn S H hf.out hj.out hz.out)
 replace b1:=Lib.hid b1
 replace S:=Lib.hid S
 clear LC IK q0 va0
 go_wp2_with fail
 refine SC.out.mono ?_
 rintro e w2 ⟨rfl,b2⟩
 replace S:=S.out.below b2
 replace b2:=Lib.hid (b1.out.trans (b2.mono b1.out.size))
 clear SC b1
 replace S:=Lib.hid S
 go_wp2
 go_ret2
 exact ⟨rfl,b2.out⟩
theorem freeYes (H:Nat) (k:Nat) (hk:k < 3) (hi:It c s Z H) {i x p:Nat} (hf:findN c.cf s H = some (i,x,p)) (hz:zst (Z H) = 0 \/ 4 <= zst (Z H)):Calls Tryz.prog 62 #[.pointer (some ⟨gq,0,none⟩),.int .u64 (H:Int),.int .i64 ((k:Int) + 1)] w fun e w' => e = .returned (.tuple #[.pointer (some ⟨gl,s.cls i * 9 + k * 3,none⟩),.int .i64 0]) /\ Below w.heap.size w w':=by
 have hH:=good_lt h.okc h.zs.good hf
 have kN:=(Tkn.of h.okc h.zs.good hf).1.kN
 have nb:c.cf.nc <= 62:=h.okc.ncb
 have YC:=Lib.hid (fun w' (q:QAt w' L c gq gl F) => listYes q (s.cls i) k kN hk (by have:c.cf.nc = c.nc:=rfl; omega))
 have IK:=isKindC w ((k:Int) + 1)
 rw [decide_eq_true (show 1 <= (k:Int) + 1 /\ (k:Int) + 1 <= 3 by omega)] at IK
 replace IK:=Lib.hid IK
 have q0:=h.q.c0
 have LC:=Lib.hid (zLengthsYes h H hi)
 replace h:=Lib.hid h
 replace hi:=Lib.hid hi
 replace hf:=Lib.hid hf
 replace hz:=Lib.hid hz
 clear kN nb
 go_enter Tryz.func62,Tryz.ntmps62
 go_wp2_with fail
 refine IK.out.mono ?_
 rintro e w1 ⟨rfl,rfl⟩
 go_wp2_with fail
 refine LC.out.mono ?_
 rintro e w1 ⟨⟨va,vb,va0,rfl⟩,b1⟩
 obtain ⟨d1,d2⟩:=ne0 va0
 have S:=h.out.below b1
 have SC:=Lib.hid (standsOut S H hf.out hz.out)
 replace b1:=Lib.hid b1
 replace S:=Lib.hid S
 clear LC IK q0 va0
 go_wp2_with fail
 refine SC.out.mono ?_
 rintro e w2 ⟨rfl,b2⟩
 replace S:=S.out.below b2
 replace b2:=Lib.hid (b1.out.trans (b2.mono b1.out.size))
 clear SC b1
 have q0:=S.q.c0
 have AC:=atC w2 L c s bs S.zs.set S.zs.good H hH
 rw [hf.out] at AC
 simp only [atV] at AC
 replace AC:=Lib.hid AC
 replace S:=Lib.hid S
 go_wp2_with fail
 refine AC.out.mono ?_
 rintro e w3 ⟨rfl,m,hm⟩
 have b3:=below_drewN b2.out m
 have S3:=S.out.drewN m
 rw [hm] at b3 S3
 have YC:=Lib.hid (YC.out w3 S3.q)
 replace b3:=Lib.hid b3
 replace hm:=Lib.hid hm
 clear AC S S3 b2 q0
 go_wp2_with fail
 refine YC.out.mono ?_
 rintro e w4 ⟨rfl,rfl⟩
 go_wp2
 go_ret2
 exact ⟨rfl,b3.out⟩
end
section
variable {w:World} {L:Lay} {c:Conf} {gq gl:Nat} {F:QN} (q:QAt w L c gq gl F)
include q
theorem headNo (x kind:Int) (hn:¬ (0 <= x /\ x < (c.nc:Int) /\ 1 <= kind /\ kind <= 3)):Calls Tryz.prog 51 #[.pointer (some ⟨gq,0,none⟩),.int .i64 x,.int .i64 kind] w fun e w' => e = .returned (.tuple #[.int .u64 0,.bool false]) /\ w = w':=by
 have LC:=Lib.hid (listNo q x kind hn)
 clear q hn
 go_enter Tryz.func51,Tryz.ntmps51
 go_wp2_with fail
 refine LC.out.mono ?_
 rintro e w1 ⟨rfl,rfl⟩
 go_wp2
 go_ret2
 exact ⟨rfl,rfl⟩
theorem headZero (x k:Nat) (hx:x < c.nc) (hk:k < 3) (hnc:c.nc <= 62) (hn:F.n x k = 0):Calls Tryz.prog 51 #[.pointer (some ⟨gq,0,none⟩),.int .i64 (x:Int),.int .i64 ((k:Int) + 1)] w fun e w' => e = .returned (.tuple #[.int .u64 0,.bool false]) /\ w = w':=by
 have LC:=Lib.hid (listYes q x k hx hk (by omega))
 have p1:=q.qn hx hk
 obtain ⟨d1,d2⟩:=eq0 hn
 clear q hn
 go_enter Tryz.func51,Tryz.ntmps51
 go_wp2_with fail
 refine LC.out.mono ?_
 rintro e w1 ⟨rfl,rfl⟩
 go_wp2
 go_ret2
 exact ⟨rfl,rfl⟩
theorem headYes (x k:Nat) (hx:x < c.nc) (hk:k < 3) (hnc:c.nc <= 62) (hn:F.n x k ≠ 0):Calls Tryz.prog 51 #[.pointer (some ⟨gq,0,none⟩),.int .i64 (x:Int),.int .i64 ((k:Int) + 1)] w fun e w' => e = .returned (.tuple #[.int .u64 (F.hd x k:Int),.bool true]) /\ w = w':=by
 have LC:=Lib.hid (listYes q x k hx hk (by omega))
 have p1:=q.qn hx hk
 have p2:=q.qhd hx hk
 obtain ⟨d1,d2⟩:=ne0 hn
 clear q hn
 go_enter Tryz.func51,Tryz.ntmps51
 go_wp2_with fail
 refine LC.out.mono ?_
 rintro e w1 ⟨rfl,rfl⟩
 go_wp2
 go_ret2
 exact ⟨rfl,rfl⟩
theorem tailNo (x kind:Int) (hn:¬ (0 <= x /\ x < (c.nc:Int) /\ 1 <= kind /\ kind <= 3)):Calls Tryz.prog 28 #[.pointer (some ⟨gq,0,none⟩),.int .i64 x,.int .i64 kind] w fun e w' => e = .returned (.tuple #[.int .u64 0,.bool false]) /\ w = w':=by
 have LC:=Lib.hid (listNo q x kind hn)
 clear q hn
 go_enter Tryz.func28,Tryz.ntmps28
 go_wp2_with fail
 refine LC.out.mono ?_
 rintro e w1 ⟨rfl,rfl⟩
 go_wp2
 go_ret2
 exact ⟨rfl,rfl⟩
theorem tailZero (x k:Nat) (hx:x < c.nc) (hk:k < 3) (hnc:c.nc <= 62) (hn:F.n x k = 0):Calls Tryz.prog 28 #[.pointer (some ⟨gq,0,none⟩),.int .i64 (x:Int),.int .i64 ((k:Int) + 1)] w fun e w' => e = .returned (.tuple #[.int .u64 0,.bool false]) /\ w = w':=by
 have LC:=Lib.hid (listYes q x k hx hk (by omega))
 have p1:=q.qn hx hk
 obtain ⟨d1,d2⟩:=eq0 hn
 clear q hn
 go_enter Tryz.func28,Tryz.ntmps28
 go_wp2_with fail
 refine LC.out.mono ?_
 rintro e w1 ⟨rfl,rfl⟩
 go_wp2
 go_ret2
 exact ⟨rfl,rfl⟩
theorem tailYes (x k:Nat) (hx:x < c.nc) (hk:k < 3) (hnc:c.nc <= 62) (hn:F.n x k ≠ 0):Calls Tryz.prog 28 #[.pointer (some ⟨gq,0,none⟩),.int .i64 (x:Int),.int .i64 ((k:Int) + 1)] w fun e w' => e = .returned (.tuple #[.int .u64 (F.tl x k:Int),.bool true]) /\ w = w':=by
 have LC:=Lib.hid (listYes q x k hx hk (by omega))
 have p1:=q.qn hx hk
 have p2:=q.qtl hx hk
 obtain ⟨d1,d2⟩:=ne0 hn
 clear q hn
 go_enter Tryz.func28,Tryz.ntmps28
 go_wp2_with fail
 refine LC.out.mono ?_
 rintro e w1 ⟨rfl,rfl⟩
 go_wp2
 go_ret2
 exact ⟨rfl,rfl⟩
theorem lenNo (x kind:Int) (hn:¬ (0 <= x /\ x < (c.nc:Int) /\ 1 <= kind /\ kind <= 3)):Calls Tryz.prog 29 #[.pointer (some ⟨gq,0,none⟩),.int .i64 x,.int .i64 kind] w fun e w' => e = .returned (.int .i64 0) /\ w = w':=by
 have LC:=Lib.hid (listNo q x kind hn)
 clear q hn
 go_enter Tryz.func29,Tryz.ntmps29
 go_wp2_with fail
 refine LC.out.mono ?_
 rintro e w1 ⟨rfl,rfl⟩
 go_wp2
 go_ret
 exact ⟨rfl,rfl⟩
theorem lenYes (x k:Nat) (hx:x < c.nc) (hk:k < 3) (hnc:c.nc <= 62):Calls Tryz.prog 29 #[.pointer (some ⟨gq,0,none⟩),.int .i64 (x:Int),.int .i64 ((k:Int) + 1)] w fun e w' => e = .returned (.int .i64 (F.n x k:Int)) /\ w = w':=by
 have LC:=Lib.hid (listYes q x k hx hk (by omega))
 have p1:=q.qn hx hk
 clear q
 go_enter Tryz.func29,Tryz.ntmps29
 go_wp2_with fail
 refine LC.out.mono ?_
 rintro e w1 ⟨rfl,rfl⟩
 go_wp2
 go_ret
 exact ⟨rfl,rfl⟩
end
end Go.Proofs.YtfjiphibalhcgaaGreat.Que
