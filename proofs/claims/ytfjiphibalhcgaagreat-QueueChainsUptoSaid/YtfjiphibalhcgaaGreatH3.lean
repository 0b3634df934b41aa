/-
  Contracts and lemmas, joined: ClassWent, ClassJoin, ClassWiden, ClassNew0, ClassNew, ClassRefNew, ClassBegun, ClassFind, ClassTold.
-/
import Derived.Deep.RegionHeld3
import Derived.StillTailTactics
import Derived.BigRegion
import Derived.Deep.QuietTactic
import Derived.Test.YtfjiphibalhcgaaGreatH2
set_option linter.unusedSimpArgs false
set_option linter.unusedVariables false
set_option linter.unusedSectionVars false
set_option maxRecDepth 100000
/-
  A Set in memory: frames, what a config that is right gives, the cells that walks read.
-/
namespace Go.Proofs.YtfjiphibalhcgaaGreat.Cls
open Go.RowKit Base MapG
theorem wp_append_new {P:Program} (w:World) {ops:Array Oper} {o:Oper} {a:Act} {K:Act -> World -> Prop} {Q:Exit -> Act -> World -> Prop} (hgd:o.guard = none) (s x:Operand) (t:TypeId)
  (ho:o.op = .call { callee:=.builtin .append,args:=#[s,x],argTypes:=#[t,t] })
  (base:Nat) (e:TypeId) (i:TypeInfo) (z:Value) (size bytes:Nat) (ht:P.underlying t = some (.slice e)) (hi:P.info? e = some i) (hz:i.zero = some z)
  (hsize:i.size = size) (hby:i.bytes = bytes) (hzs:z.cells.size = size) (hsz : 0 < size)
  (v:Value) (n:Nat) (xs:List Value) (hs:a.eval s = v) (hown:w.ownsRow base e size v n xs)
  (B:Nat) (A:Option Addr) (m c:Nat) (news:List Value) (hx:a.eval x = .slice A m c) (hr:Reads w B size A m news) (h1:∀ u ∈ news,u.oneCell' = true)
  (h63:n + m <= maxLen) (hbytes:(n + m) * bytes <= 140737488355328) (hbase:base <= w.heap.size) (hm : 0 < n + m)
  (h:∀ b cap w',w'.ownsRow base e size (.slice (some ⟨b,0,none⟩) (n + m) cap) (n + m) (xs ++ news) -> w.grownBy w' v.ownBlock -> (v.ownBlock = some b \/ b = w.heap.size) -> b < w'.heap.size -> K (a.put o.dst (.slice (some ⟨b,0,none⟩) (n + m) cap)) w'):Oper.wp P o a w K Q:=by
 have:=step_append_new (P:=P) w (ops:=ops) (E:=True) (Q:=Q) hgd s x t ho base e i z size bytes ht hi hz hsize hby hzs hsz v n xs hs hown B A m c news hx hr h1 h63 hbytes hbase hm h
 rwa [if_pos (by simp [Region.wanted,hgd])] at this
structure Went (w w':World) (L L':Lay) (c:Conf) (s s':St):Prop where
 only:Only (Foot L c s) w w'
 foot:∀ b,Foot L' c s' b -> Foot L c s b \/ w.heap.size <= b
theorem Went.refl (w:World) (L:Lay) (c:Conf) (s:St):Went w w L L c s s:=⟨Only.refl _ _,fun _ h => .inl h⟩
theorem Went.trans {w w1 w2:World} {L L1 L2:Lay} {c:Conf} {s s1 s2:St} (h:Went w w1 L L1 c s s1) (k:Went w1 w2 L1 L2 c s1 s2):Went w w2 L L2 c s s2 :=
 ⟨h.only.trans k.only fun x hx hf => (h.foot x hf).resolve_right (by omega),fun b hb => (k.foot b hb).elim (h.foot b) fun hb => .inr (Nat.le_trans h.only.size hb)⟩
theorem Went.next {w w1 w2:World} {L L1 L2:Lay} {c:Conf} {s s1 s2:St} (h:Went w w1 L L1 c s s1) (o:Only (Foot L1 c s1) w1 w2) (hf:∀ p,L2.blk c.cf s2 p = L1.blk c.cf s1 p):Went w w2 L L2 c s s2 :=
 h.trans ⟨o,fun b ⟨p,hp⟩ => .inl ⟨p,(hf p).symm.trans hp⟩⟩
theorem only_at {S:Nat -> Prop} (w:World) (b j:Nat) (v:Value) (h:S b):Only S w (w.setCell ⟨b,j,none⟩ v):=(Only.refl S w).setCell (p:=⟨b,j,none⟩) (fun _ => h) v
theorem okOf {c:Conf} (h:refN c = 0):c.cf.Ok /\ Right c:=by
 unfold refN at h
 by_cases hR:Right c
 ·refine ⟨?_,hR⟩
  rw [if_pos hR] at h
  have h62:c.nc <= 62:=by
   rcases Nat.lt_or_ge 62 c.nc with h1 | h1
   ·rw [if_pos h1] at h; cases h
   ·exact h1
  have a1:=hR.ps
  have a2:=hR.np1
  have a3:=hR.np2
  unfold Page9 at a1
  have hn:=szs_nice hR.nice
  have hl:=lim_le c.il.toNat
  have a4:=hR.il2
  have hlp:lim c.il.toNat <= c.ps.toNat:=by unfold lim; omega
  refine ⟨?_,?_,?_,?_,?_,(cntN_ok _ _ _).pos,h62,fun k _ => ?_⟩
  ·show 4096 <= c.ps.toNat; omega
  ·show c.ps.toNat <= 1048576; omega
  ·show c.ps.toNat % 8 = 0; omega
  ·show 1 <= c.np.toNat; omega
  ·show c.np.toNat <= 1024; omega
  ·obtain ⟨b1,b2,b3⟩:=hn k
   exact ⟨b2,Nat.le_trans b3 hlp,b1⟩
 ·rw [if_neg hR] at h; cases h
theorem nodup_le:∀ (N:Nat) (l:List Nat),l.Nodup -> (∀ x ∈ l,x < N) -> l.length <= N
 | 0,[],_,_ => Nat.le_refl _
 | 0,x :: l,_,h => absurd (h x (List.mem_cons_self ..)) (by omega)
 | N + 1,l,hd,h => by
  have h1:=nodup_le N (l.erase N) (hd.erase _) fun x hx => by
   have h2:=(List.Nodup.mem_erase_iff hd).1 hx
   have:=h x h2.2
   omega
  rw [List.length_erase] at h1
  split at h1 <;> omega
theorem Good.short {c:Cf} {s:St} (g:Good c s) (ok:c.Ok) {k:Nat} (hk:k < c.nc):(s.free k).length <= 1073741824:=by
 refine nodup_le _ _ (g.nodup k hk) fun p hp => ?_
 obtain ⟨i,x,h1, -, -, -,h5, -,rfl, -⟩:=g.last ok hk hp
 obtain ⟨-, -, -,h6, -⟩:=place_of ok (i:=i) hk h5
 have h7:=ok.psb
 have h8:=ok.npb
 have h9:(i + 1) * c.ps <= 1024 * 1048576:=Nat.mul_le_mul (by omega) h7
 rw [Nat.succ_mul] at h9
 have:=(ok.sz k hk).1
 omega
theorem Right.psE {c:Conf} (h:Right c):c.ps = (c.cf.ps:Int):=by have:=h.ps; unfold Page9 at this; show c.ps = ((c.ps.toNat:Nat):Int); omega
theorem Right.npE {c:Conf} (h:Right c):c.np = (c.cf.np:Int):=by have:=h.np1; show c.np = ((c.np.toNat:Nat):Int); omega
theorem upd_self {α:Type} (f:Nat -> α) (i:Nat):upd f i (f i) = f:=by
 funext j
 unfold upd
 split
 ·rename_i h; rw [h]
 ·rfl
theorem upd_upd {α:Type} (f:Nat -> α) (i:Nat) (u v : α):upd (upd f i u) i v = upd f i v:=by
 funext j
 unfold upd
 split <;> rfl
theorem freesTo_len (c:Cf) (s:St) (i:Nat):∀ n,(freesTo c s i n).length <= n
 | 0 => Nat.le_refl _
 | n + 1 => by
  have:=freesTo_len c s i n
  unfold freesTo
  split
  ·omega
  ·simp only [List.length_cons]; omega
section
variable {w:World} {L:Lay} {c:Conf} {s:St} {bs:List UInt8} (h:SetAt w L c s bs)
include h
theorem SetAt.okc:c.cf.Ok:=(okOf h.ok).1
theorem SetAt.right:Right c:=(okOf h.ok).2
theorem SetAt.cPs:w.cell? ⟨L.g,0,none⟩ = some (.int .i64 (c.cf.ps:Int)):=by rw [h.headB.cell 0, <- h.right.psE]; rfl
theorem SetAt.cArena:w.cell? ⟨L.g,7,none⟩ = some (.pointer (some ⟨L.ga,0,none⟩)):=by rw [h.headB.cell 7]; rfl
theorem SetAt.cSizes:w.cell? ⟨L.g,8,none⟩ = some (.slice (some ⟨L.gs,0,none⟩) c.nc L.sc):=by rw [h.headB.cell 8]; rfl
theorem SetAt.cPages:w.cell? ⟨L.g,9,none⟩ = some (.slice (some ⟨L.gp,0,none⟩) c.cf.np c.cf.np):=by rw [h.headB.cell 9]; rfl
theorem SetAt.cRows:w.cell? ⟨L.g,10,none⟩ = some (.slice (some ⟨L.gr,0,none⟩) c.nc c.nc):=by rw [h.headB.cell 10]; rfl
theorem SetAt.cSpare:w.cell? ⟨L.g,11,none⟩ = some (.int .i64 (s.spare:Int)):=by rw [h.headB.cell 11]; rfl
theorem SetAt.fz (i:Nat):w.frozen? ⟨L.g,i,none⟩ = false:=h.headB.frozen i
theorem SetAt.fzP (i:Nat):w.frozen? ⟨L.gp,i,none⟩ = false:=h.pagesB.frozen i
theorem SetAt.fzR (i:Nat):w.frozen? ⟨L.gr,i,none⟩ = false:=h.rowsB.frozen i
theorem SetAt.sz {k:Nat} (hk:k < c.nc):w.cell? ⟨L.gs,k,none⟩ = some (.int .i64 (c.sz k:Int)):=h.sizesB.cell1 k hk
theorem SetAt.p0 {i:Nat} (hi:i < c.cf.np):w.cell? ⟨L.gp,i * 7,none⟩ = some (.bool (s.own i)):=h.pagesB.cell i 0 hi (by omega)
theorem SetAt.p2 {i:Nat} (hi:i < c.cf.np):w.cell? ⟨L.gp,i * 7 + 2,none⟩ = some (.int .i64 (s.cls i:Int)):=h.pagesB.cell i 2 hi (by omega)
theorem SetAt.p3 {i:Nat} (hi:i < c.cf.np) (ho:s.own i = true):w.cell? ⟨L.gp,i * 7 + 3,none⟩ = some (.slice (some ⟨L.G i,0,none⟩) (c.cf.n (s.cls i)) (c.cf.n (s.cls i))):=by
 rw [h.pagesB.cell i 3 hi (by omega)]; show some (rowV c.cf s L.G i) = _; unfold rowV; rw [if_pos ho]
theorem SetAt.p4 {i:Nat} (hi:i < c.cf.np) (ho:s.own i = true):w.cell? ⟨L.gp,i * 7 + 4,none⟩ = some (.slice (some ⟨L.T i,0,none⟩) (c.cf.n (s.cls i)) (c.cf.n (s.cls i))):=by
 rw [h.pagesB.cell i 4 hi (by omega)]; show some (rowV c.cf s L.T i) = _; unfold rowV; rw [if_pos ho]
theorem SetAt.p5 {i:Nat} (hi:i < c.cf.np):w.cell? ⟨L.gp,i * 7 + 5,none⟩ = some (.int .i64 (s.held i:Int)):=h.pagesB.cell i 5 hi (by omega)
theorem SetAt.p6 {i:Nat} (hi:i < c.cf.np):w.cell? ⟨L.gp,i * 7 + 6,none⟩ = some (.map (L.O i)):=h.pagesB.cell i 6 hi (by omega)
theorem SetAt.gen {i:Nat} (hi:i < c.cf.np) (ho:s.own i = true) {x:Nat} (hx:x < c.cf.n (s.cls i)):w.cell? ⟨L.G i,x,none⟩ = some (.int .u32 (s.gens i x:Int)):=(h.gensB hi ho).cell1 x hx
theorem SetAt.tk {i:Nat} (hi:i < c.cf.np) (ho:s.own i = true) {x:Nat} (hx:x < c.cf.n (s.cls i)):w.cell? ⟨L.T i,x,none⟩ = some (.bool (s.tkn i x)):=(h.tknB hi ho).cell1 x hx
theorem SetAt.r0 {k:Nat} (hk:k < c.nc):w.cell? ⟨L.gr,k * 4,none⟩ = some (L.F k):=h.rowsB.cell k 0 hk (by omega)
theorem SetAt.r1 {k:Nat} (hk:k < c.nc):w.cell? ⟨L.gr,k * 4 + 1,none⟩ = some (.int .i64 (s.rt k:Int)):=h.rowsB.cell k 1 hk (by omega)
theorem SetAt.r2 {k:Nat} (hk:k < c.nc):w.cell? ⟨L.gr,k * 4 + 2,none⟩ = some (.int .i64 (s.rp k:Int)):=h.rowsB.cell k 2 hk (by omega)
theorem SetAt.r3 {k:Nat} (hk:k < c.nc):w.cell? ⟨L.gr,k * 4 + 3,none⟩ = some (.int .i64 (s.rs k:Int)):=h.rowsB.cell k 3 hk (by omega)
end
theorem cel_alloc (w:World) (o:Obj) (g i:Nat) (hg:g < w.heap.size):(w.alloc o).cell? ⟨g,i,none⟩ = w.cell? ⟨g,i,none⟩:=World.cell?_alloc_lt w o ⟨g,i,none⟩ hg
theorem frz_alloc (w:World) (o:Obj) (g i:Nat) (hg:g < w.heap.size):(w.alloc o).frozen? ⟨g,i,none⟩ = w.frozen? ⟨g,i,none⟩:=by
 simp [World.frozen?,Below.heap_alloc w o g hg]
theorem cel_set (w:World) {g i h j:Nat} (v:Value) (hg:g ≠ h):(w.setCell ⟨h,j,none⟩ v).cell? ⟨g,i,none⟩ = w.cell? ⟨g,i,none⟩:=World.cell?_setCell_other w ⟨h,j,none⟩ ⟨g,i,none⟩ v (fun e => by injection e with e1; exact hg e1.symm)
set_option maxHeartbeats 3200000 in
theorem joinC (w:World) (L:Lay) (c:Conf) (s:St) (bs:List UInt8) (h:SetAt w L c s bs) (i k:Nat) (hi:i < c.cf.np) (ho:s.own i = true) (hc:s.cls i = k) (hk:k < c.nc)
  (hf:(s.free k).length <= 1073741824) (hr:s.rs k < 1073741824) :
  Calls Tryz.prog 127 #[.pointer (some ⟨L.g,0,none⟩),.int .i64 (i:Int)] w fun e w' => e = .returned (.tuple #[]) /\
   ∃ v,SetAt w' { L with F:=upd L.F k v } c (joinS c.cf s i) bs /\ Went w w' L { L with F:=upd L.F k v } c s (joinS c.cf s i):=by
 have H:=Lib.hid h
 have ok:=h.okc
 obtain ⟨n1,n2⟩:=n_pos ok hk
 have c0:=h.cPs
 have c8:=h.cSizes
 have c9:=h.cPages
 have c10:=h.cRows
 have p2:=h.p2 hi
 have p4:=h.p4 hi ho
 rw [hc] at p2 p4
 have r3:=h.r3 hk
 have z3:=h.fzR (k * 4 + 3)
 clear h
 have i0:(0:Int) <= (i:Int):=by omega
 have i1:(i:Int) < (c.cf.np:Int):=by omega
 have k0:(0:Int) <= (k:Int):=by omega
 have k1:(k:Int) < (c.nc:Int):=by omega
 have q1:IntKind.i64.wrap ((s.rs k:Int) + 1) = (s.rs k:Int) + 1:=IntWalk.i64_in _ (by omega)
 have hnp:=ok.npb
 have hnc:=ok.ncb
 replace ok:=Lib.hid ok
 go_enter Tryz.func127,Tryz.ntmps127
 go_wp2
 go_quiet (fail)
 go_upto_region 2 with fail
 obtain ⟨w0,hw0⟩:∃ w0,w0 = w.drewN nq:=⟨_,rfl⟩
 have H0:SetAt w0 L c s bs:=by rw [hw0]; exact H.out.drewN nq
 have W0:Went w w0 L L c s s:=⟨by rw [hw0]; exact (Only.refl _ _).drewN nq,fun _ h => .inl h⟩
 rw [<- hw0]
 have r3:=H0.r3 hk
 have z3:=H0.fzR (k * 4 + 3)
 have p4:=H0.p4 hi ho
 rw [hc] at p4
 have q2:IntKind.i64.wrap ((c.cf.n k:Int) - 1) = (c.cf.n k:Int) - 1:=IntWalk.i64_in _ (by omega)
 have q3:∀ v,(w0.setCell ⟨L.gr,k * 4 + 3,none⟩ v).cell? ⟨L.gp,i * 7 + 4,none⟩ = w0.cell? ⟨L.gp,i * 7 + 4,none⟩:=fun v => World.cell?_setCell_other w0 _ _ v (fun e => by
  injection e with e1
  have:=H0.inj .pages .rows L.gp rfl (by show some L.gr = some L.gp; rw [e1])
  cases this)
 replace hw0:=Lib.hid hw0
 replace H0:=Lib.hid H0
 replace W0:=Lib.hid W0
 replace hc:=Lib.hid hc
 clear H c0 c8 c9 c10 p2
 go_wp2
 obtain ⟨w1,hw1⟩:∃ w1,w1 = w0.setCell ⟨L.gr,k * 4 + 3,none⟩ (.int .i64 ((s.rs k:Int) + 1)):=⟨_,rfl⟩
 rw [<- hw1]
 have H1:SetAt w1 { L with F:=upd L.F k (L.F k) } c { s with rs:=upd s.rs k (s.rs k + 1),free:=upd s.free k (s.free k ++ []) } bs:=by
  rw [hw1,upd_self,List.append_nil,upd_self,show ((s.rs k:Int) + 1) = ((s.rs k + 1:Nat):Int) by omega]
  exact H0.out.setRs k (s.rs k + 1) hk
 have W1:Went w w1 L { L with F:=upd L.F k (L.F k) } c s { s with rs:=upd s.rs k (s.rs k + 1),free:=upd s.free k (s.free k ++ []) }:=by
  rw [upd_self,List.append_nil,upd_self]
  refine ⟨?_,fun b h => .inl (by obtain ⟨p,hp⟩:=h; exact ⟨p,by cases p <;> exact hp⟩)⟩
  rw [hw1]
  exact W0.out.only.setCell (fun _ => ⟨.rows,rfl⟩) _
 replace H1:=Lib.hid H1
 replace W1:=Lib.hid W1
 replace hw1:=Lib.hid hw1
 clear q1 q2 q3 r3 z3 p4 H0 W0 hw0
 obtain ⟨s1,hs1⟩:∃ s1,s1 = { s with rs:=upd s.rs k (s.rs k + 1) }:=⟨_,rfl⟩
 go_loopw [6] (fun v wr => ∃ (m:Nat) (x:Value) (done:List Nat),v = .int .i64 ((m:Int) - 1) /\ m <= c.cf.n k /\ Hid (done ++ freesTo c.cf s i m = frees c.cf s i) /\
  Hid (SetAt wr { L with F:=upd L.F k x } c { s with rs:=upd s.rs k (s.rs k + 1),free:=upd s.free k (s.free k ++ done) } bs) /\ Hid (Went w wr L { L with F:=upd L.F k x } c s { s with rs:=upd s.rs k (s.rs k + 1),free:=upd s.free k (s.free k ++ done) })) (fun v _ => (intOf v + 1).toNat)
 case atStart => exact ⟨c.cf.n k,L.F k,[],rfl,Nat.le_refl _,Lib.hid (by unfold frees; rw [hc.out]; rfl),H1,W1⟩
 case round =>
  obtain ⟨m,x,done,rfl,hm,hd,HR,WR⟩:=hrel
  clear H1 W1
  rcases Nat.eq_zero_or_pos m with hz | hz
  ·subst hz
   have e : { s with rs:=upd s.rs k (s.rs k + 1),free:=upd s.free k (s.free k ++ done) } = joinS c.cf s i:=by
    unfold joinS
    rw [hc.out, <- hd.out]
    unfold freesTo
    rw [List.append_nil]
   rw [e] at HR WR
   clear e
   go_wp2
   go_end0
   exact ⟨rfl,x,HR.out,WR.out⟩
  ·obtain ⟨m,rfl⟩:∃ r',m = r' + 1:=⟨m - 1,by omega⟩
   have hi1:((((m + 1:Nat):Int)) - 1) = (m:Int):=by omega
   rw [hi1]
   clear hi1
   have m0:(0:Int) <= (m:Int):=by omega
   have m1:(m:Int) < (c.cf.n k:Int):=by omega
   have q4:IntKind.i64.wrap ((m:Int) - 1) = (m:Int) - 1:=IntWalk.i64_in _ (by omega)
   have p4:=HR.out.p4 hi ho
   have tk:=HR.out.tk hi ho (x:=m) (by show m < c.cf.n (s.cls i); rw [hc.out]; omega)
   simp only [hc.out] at p4
   by_cases ht:s.tkn i m = true
   ·simp only [ht] at tk
    have hd':Hid (done ++ freesTo c.cf s i m = frees c.cf s i):=by rw [<- hd.out]; exact Lib.hid (by conv => rhs; unfold freesTo; rw [if_pos ht])
    go_wp2
    go_roundw
    case rel => exact ⟨m,x,done,rfl,by omega,hd',HR,WR⟩
    case measure => simp [intOf] <;> omega
   ·have ht':s.tkn i m = false:=by simpa using ht
    simp only [ht'] at tk
    have hd':Hid ((done ++ [i * c.cf.ps + m * c.sz k]) ++ freesTo c.cf s i m = frees c.cf s i):=by
     rw [<- hd.out]
     refine Lib.hid ?_
     conv => rhs; unfold freesTo; rw [if_neg ht]
     rw [List.append_assoc,hc.out]; rfl
    have hdl:done.length + 1 <= c.cf.n k:=by
     have h1:=freesTo_len c.cf s i (c.cf.n (s.cls i))
     have h2:(frees c.cf s i).length <= c.cf.n (s.cls i):=h1
     rw [<- hd'.out,hc.out] at h2
     simp only [List.length_append,List.length_singleton] at h2
     omega
    obtain ⟨b1,b2,b3⟩:=ok.out.sz k hk
    have b4:=ok.out.psb
    have b5:=ok.out.ps
    have hA:i * c.cf.ps <= 1023 * 1048576:=Nat.mul_le_mul (by omega) b4
    have hB:m * c.sz k <= 16384 * 1048576:=Nat.mul_le_mul (by omega) (Nat.le_trans b2 b4)
    have qa:IntKind.i64.wrap ((i:Int) * (c.cf.ps:Int)) = ((i * c.cf.ps:Nat):Int):=by rw [Int.natCast_mul]; exact IntWalk.i64_in _ (by rw [<- Int.natCast_mul]; omega)
    have qb:IntKind.i64.wrap ((m:Int) * (c.sz k:Int)) = ((m * c.sz k:Nat):Int):=by rw [Int.natCast_mul]; exact IntWalk.i64_in _ (by rw [<- Int.natCast_mul]; omega)
    generalize i * c.cf.ps = A at *
    generalize m * c.sz k = B at *
    have qc:IntKind.i64.wrap ((A:Int) + (B:Int)) = ((A + B:Nat):Int):=by rw [IntWalk.i64_in _ (by omega)]; omega
    generalize A + B = P at *
    have c0:=HR.out.cPs
    have c8:=HR.out.cSizes
    have p2:=HR.out.p2 hi
    have cz:=HR.out.sz hk
    have r0:=HR.out.r0 hk
    have z0:=HR.out.fzR (k * 4)
    have own:=HR.out.freeB hk
    have hle:(s.free k ++ done).length = (s.free k).length + done.length:=List.length_append
    have hxn:∀ q,q ≠ Part.free k -> ∀ b,Lay.blk { L with F:=upd L.F k x } c.cf { s with rs:=upd s.rs k (s.rs k + 1),free:=upd s.free k (s.free k ++ done) } q = some b -> some b ≠ x.ownBlock:=by
     intro q hq b hb e
     exact hq (HR.out.inj q (.free k) b hb (by rw [Lay.blk,if_pos (show k < c.cf.nc from hk)]; show (upd L.F k x k).ownBlock = _; rw [upd_at]; exact e.symm))
    have x1:=hxn .head (fun e => by cases e) L.g rfl
    have x2:=hxn .sizes (fun e => by cases e) L.gs rfl
    have x3:=hxn .pages (fun e => by cases e) L.gp rfl
    have x4:=hxn .rows (fun e => by cases e) L.gr rfl
    have hg1:L.g < wr.heap.size:=HR.out.headB.lt
    have hg2:L.gs < wr.heap.size:=HR.out.sizesB.lt
    have hg3:L.gp < wr.heap.size:=HR.out.pagesB.lt
    have y1:L.g ≠ L.gr:=fun e => by have:=HR.out.inj .head .rows L.g rfl (by show some L.gr = some L.g; rw [e]); cases this
    have y2:L.gs ≠ L.gr:=fun e => by have:=HR.out.inj .sizes .rows L.gs rfl (by show some L.gr = some L.gs; rw [e]); cases this
    have y3:L.gp ≠ L.gr:=fun e => by have:=HR.out.inj .pages .rows L.gp rfl (by show some L.gr = some L.gp; rw [e]); cases this
    clear hxn
    simp only [hc.out,upd_at] at p2 r0 own
    generalize hF:s.free k ++ done = Fl at *
    have hg4:L.gr < wr.heap.size:=HR.out.rowsB.lt
    replace hle:=Lib.hid hle
    replace hF:=Lib.hid hF
    replace hd:=Lib.hid hd
    clear ht hA hB b1 b2 b3 b4 b5
    have bx0:∀ W:World,W.heap.size = wr.heap.size -> Reads (W.alloc (.cells #[.int .i64 (P:Int)] 3)) (wr.heap.size + 1) 1 (some ⟨wr.heap.size,0,none⟩) 1 ([P].map iv):=by
     intro W hW
     have:=reads_one W P
     rwa [hW] at this
    replace bx0:=Lib.hid bx0
    obtain ⟨ie,hie,hz0,hz1,hz2⟩:=eiI.info
    have one:=Lib.hid (iv_one [P])
    have hlc:Fl.length <= 1073800000:=by have:=hle.out; omega
    go_upto_region 7 with fail
    have cx:=And.intro c0 (And.intro c8 (And.intro p2 cz))
    have r0':=(cel_alloc wr (.cells #[.int .i64 (P:Int)] 3) L.gr (k * 4) hg4).trans r0
    refine wp_region_noPanic ?_
    refine wp_region_held_drew (S:=(fun w' => w'.cell? ⟨L.g,0,none⟩ = some (.int .i64 (c.cf.ps:Int)) /\ w'.cell? ⟨L.g,8,none⟩ = some (.slice (some ⟨L.gs,0,none⟩) c.nc L.sc) /\ w'.cell? ⟨L.gp,i * 7 + 2,none⟩ = some (.int .i64 (k:Int)) /\ w'.cell? ⟨L.gs,k,none⟩ = some (.int .i64 (c.sz k:Int)))) (by kernel_rfl) ?_ (fun hHeld => ?_)
    ·(try dsimp only)
     (first | (go_keep; done) | exact ⟨(cel_alloc wr _ L.g 0 hg1).trans c0,(cel_alloc wr _ L.g 8 hg1).trans c8,(cel_alloc wr _ L.gp _ hg3).trans p2,(cel_alloc wr _ L.gs _ hg2).trans cz⟩ | exact ⟨d0,d8,d2,dz⟩ | exact ⟨(cel_set w3 _ y1).trans d0,(cel_set w3 _ y1).trans d8,(cel_set w3 _ y3).trans d2,(cel_set w3 _ y2).trans dz⟩)
    refine tkh (i:=0) (v:=?_) rfl ?_ ?_
    rotate_left
    ·try simp only [qA,qS,qZ]
     intro w hSw
     (try dsimp only at hSw)
     go_simp
     (try with_reducible rfl)
    try simp only [qA,qS,qZ,Act.put,qT,qO,qN]
    refine tkh (i:=1) (v:=?_) rfl ?_ ?_
    rotate_left
    ·try simp only [qA,qS,qZ]
     intro w hSw
     (try dsimp only at hSw)
     go_simp
     (try with_reducible rfl)
    try simp only [qA,qS,qZ,Act.put,qT,qO,qN]
    refine tkh (i:=2) (v:=?_) rfl ?_ ?_
    rotate_left
    ·try simp only [qA,qS,qZ]
     intro w hSw
     (try dsimp only at hSw)
     go_simp
     (try with_reducible rfl)
    try simp only [qA,qS,qZ,Act.put,qT,qO,qN]
    refine tkh (i:=3) (v:=?_) rfl ?_ ?_
    rotate_left
    ·try simp only [qA,qS,qZ]
     intro w hSw
     (try dsimp only at hSw)
     go_simp
     (try with_reducible rfl)
    try simp only [qA,qS,qZ,Act.put,qT,qO,qN]
    refine tkh (i:=5) (v:=?_) rfl ?_ ?_
    rotate_left
    ·try simp only [qA,qS,qZ]
     intro w hSw
     (try dsimp only at hSw)
     go_simp
     (try with_reducible rfl)
    try simp only [qA,qS,qZ,Act.put,qT,qO,qN]
    refine tkh (i:=6) (v:=?_) rfl ?_ ?_
    rotate_left
    ·try simp only [qA,qS,qZ]
     intro w hSw
     (try dsimp only at hSw)
     go_simp
     (try with_reducible rfl)
    try simp only [qA,qS,qZ,Act.put,qT,qO,qN]
    refine tkh (i:=7) (v:=?_) rfl ?_ ?_
    rotate_left
    ·try simp only [qA,qS,qZ]
     intro w hSw
     (try dsimp only at hSw)
     go_simp
     (try with_reducible rfl)
    try simp only [qA,qS,qZ,Act.put,qT,qO,qN]
    refine tkh (i:=8) (v:=?_) rfl ?_ ?_
    rotate_left
    ·try simp only [qA,qS,qZ]
     intro w hSw
     (try dsimp only at hSw)
     go_simp
     (try with_reducible rfl)
    try simp only [qA,qS,qZ,Act.put,qT,qO,qN]
    refine tkh (i:=9) (v:=?_) rfl ?_ ?_
    rotate_left
    ·try simp only [qA,qS,qZ]
     intro w hSw
     (try dsimp only at hSw)
     go_simp
     (try with_reducible rfl)
    try simp only [qA,qS,qZ,Act.put,qT,qO,qN]
    refine tkh (i:=10) (v:=?_) rfl ?_ ?_
    rotate_left
    ·try simp only [qA,qS,qZ]
     intro w hSw
     (try dsimp only at hSw)
     go_simp
     (try with_reducible rfl)
    try simp only [qA,qS,qZ,Act.put,qT,qO,qN]
    refine tkh (i:=11) (v:=?_) rfl ?_ ?_
    rotate_left
    ·try simp only [qA,qS,qZ]
     intro w hSw
     (try dsimp only at hSw)
     go_simp
     (try with_reducible rfl)
    try simp only [qA,qS,qZ,Act.put,qT,qO,qN]
    refine tkh (i:=12) (v:=?_) rfl ?_ ?_
    rotate_left
    ·try simp only [qA,qS,qZ]
     intro w hSw
     (try dsimp only at hSw)
     go_simp
     (try with_reducible rfl)
    try simp only [qA,qS,qZ,Act.put,qT,qO,qN]
    refine tkh (i:=13) (v:=?_) rfl ?_ ?_
    rotate_left
    ·try simp only [qA,qS,qZ]
     intro w hSw
     (try dsimp only at hSw)
     go_simp
     (try with_reducible rfl)
    try simp only [qA,qS,qZ,Act.put,qT,qO,qN]
    refine tkh (i:=14) (v:=?_) rfl ?_ ?_
    rotate_left
    ·try simp only [qA,qS,qZ]
     intro w hSw
     (try dsimp only at hSw)
     go_simp
     (try with_reducible rfl)
    try simp only [qA,qS,qZ,Act.put,qT,qO,qN]
    refine tkh (i:=15) (v:=?_) rfl ?_ ?_
    rotate_left
    ·try simp only [qA,qS,qZ]
     intro w hSw
     (try dsimp only at hSw)
     go_simp
     (try with_reducible rfl)
    try simp only [qA,qS,qZ,Act.put,qT,qO,qN]
    refine tkh (i:=16) (v:=?_) rfl ?_ ?_
    rotate_left
    ·try simp only [qA,qS,qZ]
     intro w hSw
     (try dsimp only at hSw)
     go_simp
     (try with_reducible rfl)
    try simp only [qA,qS,qZ,Act.put,qT,qO,qN]
    refine tkh (i:=17) (v:=?_) rfl ?_ ?_
    rotate_left
    ·try simp only [qA,qS,qZ]
     intro w hSw
     (try dsimp only at hSw)
     go_simp
     (try with_reducible rfl)
    try simp only [qA,qS,qZ,Act.put,qT,qO,qN]
    refine tkh (i:=18) (v:=?_) rfl ?_ ?_
    rotate_left
    ·try simp only [qA,qS,qZ]
     intro w hSw
     (try dsimp only at hSw)
     go_simp
     (try with_reducible rfl)
    try simp only [qA,qS,qZ,Act.put,qT,qO,qN]
    refine tkh (i:=19) (v:=?_) rfl ?_ ?_
    rotate_left
    ·try simp only [qA,qS,qZ]
     intro w hSw
     (try dsimp only at hSw)
     go_simp
     (try with_reducible rfl)
    try simp only [qA,qS,qZ,Act.put,qT,qO,qN]
    refine tkh (i:=20) (v:=?_) rfl ?_ ?_
    rotate_left
    ·try simp only [qA,qS,qZ]
     intro w hSw
     (try dsimp only at hSw)
     go_simp
     (try with_reducible rfl)
    try simp only [qA,qS,qZ,Act.put,qT,qO,qN]
    refine tkh (i:=21) (v:=?_) rfl ?_ ?_
    rotate_left
    ·try simp only [qA,qS,qZ]
     intro w hSw
     (try dsimp only at hSw)
     go_simp
     (try with_reducible rfl)
    try simp only [qA,qS,qZ,Act.put,qT,qO,qN]
    refine tkh (i:=22) (v:=?_) rfl ?_ ?_
    rotate_left
    ·try simp only [qA,qS,qZ]
     intro w hSw
     (try dsimp only at hSw)
     go_simp
     (try with_reducible rfl)
    try simp only [qA,qS,qZ,Act.put,qT,qO,qN]
    refine tkh (i:=23) (v:=?_) rfl ?_ ?_
    rotate_left
    ·try simp only [qA,qS,qZ]
     intro w hSw
     (try dsimp only at hSw)
     go_simp
     (try with_reducible rfl)
    try simp only [qA,qS,qZ,Act.put,qT,qO,qN]
    refine tkh (i:=24) (v:=?_) rfl ?_ ?_
    rotate_left
    ·try simp only [qA,qS,qZ]
     intro w hSw
     (try dsimp only at hSw)
     go_simp
     (try with_reducible rfl)
    try simp only [qA,qS,qZ,Act.put,qT,qO,qN]
    refine wpAnyH_ready (rs:=[4,25]) (by kernel_rfl) (by simp) ?_
    refine AllReadyH.cons (o:=_) rfl (fun K hK => ?_) (AllReadyH.cons (o:=_) rfl (fun K hK => ?_) AllReadyH.nil)
    ·try simp only [qA,qS,qZ]
     go_simp
     refine hK.out _ _ ?_ (fun hHeld26 => ?_)
     ·(try dsimp only)
      (first | (go_keep; done) | exact ⟨(cel_alloc wr _ L.g 0 hg1).trans c0,(cel_alloc wr _ L.g 8 hg1).trans c8,(cel_alloc wr _ L.gp _ hg3).trans p2,(cel_alloc wr _ L.gs _ hg2).trans cz⟩ | exact ⟨d0,d8,d2,dz⟩ | exact ⟨(cel_set w3 _ y1).trans d0,(cel_set w3 _ y1).trans d8,(cel_set w3 _ y3).trans d2,(cel_set w3 _ y2).trans dz⟩)
     clear hK K
     try simp only [qA,qS,qZ,Act.put,qT,qO,qN]
     refine wpAnyH_ready (rs:=[25]) (by kernel_rfl) (by simp) ?_
     refine AllReadyH.cons (o:=_) rfl (fun K hK => ?_) AllReadyH.nil
     try simp only [qA,qS,qZ]
     go_simp
     refine hK.out _ _ ?_ (fun hHeld27 => ?_)
     ·(try dsimp only)
      (first | (go_keep; done) | exact ⟨(cel_alloc wr _ L.g 0 hg1).trans c0,(cel_alloc wr _ L.g 8 hg1).trans c8,(cel_alloc wr _ L.gp _ hg3).trans p2,(cel_alloc wr _ L.gs _ hg2).trans cz⟩ | exact ⟨d0,d8,d2,dz⟩ | exact ⟨(cel_set w3 _ y1).trans d0,(cel_set w3 _ y1).trans d8,(cel_set w3 _ y3).trans d2,(cel_set w3 _ y2).trans dz⟩)
     clear hK K
     try simp only [qA,qS,qZ,Act.put,qT,qO,qN]
     refine wpAnyH_ready (rs:=[26]) (by kernel_rfl) (by simp) ?_
     refine AllReadyH.cons (o:=_) rfl (fun K hK => ?_) AllReadyH.nil
     try simp only [qA,qS,qZ]
     rw [if_pos (by simp [Region.wanted])]
     ((refine wp_append_new (ops:=#[]) _ (by rfl) _ _ _ (by rfl) 0 3 ie _ 1 8 Tryz.underlying55 hie hz0 hz1 hz2 rfl (by decide) x Fl.length (Fl.map iv) (by rfl) (own.alloc _) (wr.heap.size + 1) (some ⟨wr.heap.size,0,none⟩) 1 1 ([P].map iv) (by rfl) (bx0.out _ (by simp)) one.out (by unfold maxLen; omega) (by omega) (Nat.zero_le _) (by omega) ?_; intro b3 c3 w3 own3 hgrow hat3 hlt3; have r1:w3.frozen? ⟨L.gr,k * 4,none⟩ = false:=(hgrow.frozen_far _ (by simp; omega) x4).trans ((frz_alloc wr _ L.gr (k * 4) hg4).trans z0); have r2:w3.cell? ⟨L.gr,k * 4,none⟩ = some x:=(hgrow.cell_far _ (by simp; omega) x4).trans ((cel_alloc wr _ L.gr (k * 4) hg4).trans r0); have d0:w3.cell? ⟨L.g,0,none⟩ = some (.int .i64 (c.cf.ps:Int)):=(hgrow.cell_far _ (by simp; omega) x1).trans ((cel_alloc wr _ L.g 0 hg1).trans c0); have d8:w3.cell? ⟨L.g,8,none⟩ = some (.slice (some ⟨L.gs,0,none⟩) c.nc L.sc):=(hgrow.cell_far _ (by simp; omega) x1).trans ((cel_alloc wr _ L.g 8 hg1).trans c8); have d2:w3.cell? ⟨L.gp,i * 7 + 2,none⟩ = some (.int .i64 (k:Int)):=(hgrow.cell_far _ (by simp; omega) x3).trans ((cel_alloc wr _ L.gp _ hg3).trans p2); have dz:w3.cell? ⟨L.gs,k,none⟩ = some (.int .i64 (c.sz k:Int)):=(hgrow.cell_far _ (by simp; omega) x2).trans ((cel_alloc wr _ L.gs _ hg2).trans cz)))
     refine hK.out _ _ ?_ (fun hHeld29 => ?_)
     ·(try dsimp only)
      (first | (go_keep; done) | exact ⟨(cel_alloc wr _ L.g 0 hg1).trans c0,(cel_alloc wr _ L.g 8 hg1).trans c8,(cel_alloc wr _ L.gp _ hg3).trans p2,(cel_alloc wr _ L.gs _ hg2).trans cz⟩ | exact ⟨d0,d8,d2,dz⟩ | exact ⟨(cel_set w3 _ y1).trans d0,(cel_set w3 _ y1).trans d8,(cel_set w3 _ y3).trans d2,(cel_set w3 _ y2).trans dz⟩)
     clear hK K
     try simp only [qA,qS,qZ,Act.put,qT,qO,qN]
     refine tkh (i:=27) (v:=?_) rfl ?_ ?_
     rotate_left
     ·try simp only [qA,qS,qZ]
      intro w hSw
      (try dsimp only at hSw)
      go_simp
      (try with_reducible rfl)
     try simp only [qA,qS,qZ,Act.put,qT,qO,qN]
     refine tkh (i:=28) (v:=?_) rfl ?_ ?_
     rotate_left
     ·try simp only [qA,qS,qZ]
      intro w hSw
      (try dsimp only at hSw)
      go_simp
      (try with_reducible rfl)
     try simp only [qA,qS,qZ,Act.put,qT,qO,qN]
     refine wpAnyH_ready (rs:=[29]) (by kernel_rfl) (by simp) ?_
     refine AllReadyH.cons (o:=_) rfl (fun K hK => ?_) AllReadyH.nil
     try simp only [qA,qS,qZ]
     go_simp
     refine hK.out _ _ ?_ (fun hHeld32 => ?_)
     ·(try dsimp only)
      (first | (go_keep; done) | exact ⟨(cel_alloc wr _ L.g 0 hg1).trans c0,(cel_alloc wr _ L.g 8 hg1).trans c8,(cel_alloc wr _ L.gp _ hg3).trans p2,(cel_alloc wr _ L.gs _ hg2).trans cz⟩ | exact ⟨d0,d8,d2,dz⟩ | exact ⟨(cel_set w3 _ y1).trans d0,(cel_set w3 _ y1).trans d8,(cel_set w3 _ y3).trans d2,(cel_set w3 _ y2).trans dz⟩)
     clear hK K
     try simp only [qA,qS,qZ,Act.put,qT,qO,qN]
     refine wpAnyH_done (by kernel_rfl) ?_ _
     refine NoPanic.normal ?_
     have G:SetAt (w3.setCell ⟨L.gr,k * 4,none⟩ (.slice (some ⟨b3,0,none⟩) (Fl.length + 1) c3)) { L with F:=upd L.F k (.slice (some ⟨b3,0,none⟩) (Fl.length + 1) c3) } c { s with rs:=upd s.rs k (s.rs k + 1),free:=upd s.free k (s.free k ++ (done ++ [P])) } bs:=by
      have:=HR.out.setFree (S:=fun b => x.ownBlock = some b) k hk (.slice (some ⟨b3,0,none⟩) (Fl.length + 1) c3) (Fl ++ [P]) w3 (((Only.refl _ wr).alloc _).drew.grown hgrow (fun k e _ => e)) (fun b e _ => (congrArg Value.ownBlock (upd_at L.F k x)).trans e)
       (by rw [List.length_append,List.map_append]; exact own3) (fun b e => by
        have e2:b3 = b:=by simpa [Value.ownBlock] using e
        subst e2
        rcases hat3 with h3 | h3
        ·exact .inl ((congrArg Value.ownBlock (upd_at L.F k x)).trans h3)
        ·exact .inr (by rw [h3]; simp))
      simp only [upd_upd] at this
      rw [<- List.append_assoc,hF.out]
      exact this
     have WG:Went w (w3.setCell ⟨L.gr,k * 4,none⟩ (.slice (some ⟨b3,0,none⟩) (Fl.length + 1) c3)) L { L with F:=upd L.F k (.slice (some ⟨b3,0,none⟩) (Fl.length + 1) c3) } c s { s with rs:=upd s.rs k (s.rs k + 1),free:=upd s.free k (s.free k ++ (done ++ [P])) }:=by
      refine WR.out.trans ⟨((((Only.refl _ wr).alloc _).drew.grown hgrow (fun j e _ => ⟨.free k,by rw [Lay.blk,if_pos (show k < c.cf.nc from hk)]; exact (congrArg Value.ownBlock (upd_at L.F k x)).trans e⟩)).setCell (fun _ => ⟨.rows,rfl⟩) _),fun b hb => ?_⟩
      obtain ⟨p,hp⟩:=hb
      by_cases hpk:p = .free k
      ·subst hpk
       rw [Lay.blk,if_pos (show k < c.cf.nc from hk)] at hp
       have e2:b3 = b:=by
        have hp':(upd L.F k (Value.slice (some ⟨b3,0,none⟩) (Fl.length + 1) c3) k).ownBlock = some b:=hp
        rw [upd_at] at hp'
        simpa [Value.ownBlock] using hp'
       subst e2
       rcases hat3 with h3 | h3
       ·exact .inl ⟨.free k,by rw [Lay.blk,if_pos (show k < c.cf.nc from hk)]; exact (congrArg Value.ownBlock (upd_at L.F k x)).trans h3⟩
       ·exact .inr (by rw [h3]; simp)
      ·refine .inl ⟨p,?_⟩
       cases p with
       | free j =>
        have hj:j ≠ k:=fun e => hpk (by rw [e])
        by_cases hjn:j < c.cf.nc
        ·rw [Lay.blk,if_pos hjn] at hp ⊢
         have hp':(upd L.F k (Value.slice (some ⟨b3,0,none⟩) (Fl.length + 1) c3) j).ownBlock = some b:=hp
         show (upd L.F k x j).ownBlock = some b
         rw [upd_ne _ _ hj] at hp' ⊢
         exact hp'
        ·rw [Lay.blk,if_neg hjn] at hp; cases hp
       | _ => exact hp
     obtain ⟨w4,hw4⟩:∃ w4,w4 = w3.setCell ⟨L.gr,k * 4,none⟩ (.slice (some ⟨b3,0,none⟩) (Fl.length + 1) c3):=⟨_,rfl⟩
     rw [<- hw4] at G WG ⊢
     replace G:=Lib.hid G
     replace WG:=Lib.hid WG
     clear hw4 r1 r2 d0 d8 d2 dz own3 hgrow hat3 hlt3 c0 c8 p2 cz r0 r0' z0 own p4 tk cx bx0 one
     go_wp2
     go_roundw
     case rel => exact ⟨m,_,_,rfl,by omega,hd',G,WG⟩
     case measure => simp [intOf] <;> omega
    ·try simp only [qA,qS,qZ]
     go_simp
     refine hK.out _ _ ?_ (fun hHeld33 => ?_)
     ·(try dsimp only)
      (first | (go_keep; done) | exact ⟨(cel_alloc wr _ L.g 0 hg1).trans c0,(cel_alloc wr _ L.g 8 hg1).trans c8,(cel_alloc wr _ L.gp _ hg3).trans p2,(cel_alloc wr _ L.gs _ hg2).trans cz⟩ | exact ⟨d0,d8,d2,dz⟩ | exact ⟨(cel_set w3 _ y1).trans d0,(cel_set w3 _ y1).trans d8,(cel_set w3 _ y3).trans d2,(cel_set w3 _ y2).trans dz⟩)
     clear hK K
     try simp only [qA,qS,qZ,Act.put,qT,qO,qN]
     refine wpAnyH_ready (rs:=[4]) (by kernel_rfl) (by simp) ?_
     refine AllReadyH.cons (o:=_) rfl (fun K hK => ?_) AllReadyH.nil
     try simp only [qA,qS,qZ]
     go_simp
     refine hK.out _ _ ?_ (fun hHeld34 => ?_)
     ·(try dsimp only)
      (first | (go_keep; done) | exact ⟨(cel_alloc wr _ L.g 0 hg1).trans c0,(cel_alloc wr _ L.g 8 hg1).trans c8,(cel_alloc wr _ L.gp _ hg3).trans p2,(cel_alloc wr _ L.gs _ hg2).trans cz⟩ | exact ⟨d0,d8,d2,dz⟩ | exact ⟨(cel_set w3 _ y1).trans d0,(cel_set w3 _ y1).trans d8,(cel_set w3 _ y3).trans d2,(cel_set w3 _ y2).trans dz⟩)
     clear hK K
     try simp only [qA,qS,qZ,Act.put,qT,qO,qN]
     refine wpAnyH_ready (rs:=[26]) (by kernel_rfl) (by simp) ?_
     refine AllReadyH.cons (o:=_) rfl (fun K hK => ?_) AllReadyH.nil
     try simp only [qA,qS,qZ]
     rw [if_pos (by simp [Region.wanted])]
     ((refine wp_append_new (ops:=#[]) _ (by rfl) _ _ _ (by rfl) 0 3 ie _ 1 8 Tryz.underlying55 hie hz0 hz1 hz2 rfl (by decide) x Fl.length (Fl.map iv) (by rfl) (own.alloc _) (wr.heap.size + 1) (some ⟨wr.heap.size,0,none⟩) 1 1 ([P].map iv) (by rfl) (bx0.out _ (by simp)) one.out (by unfold maxLen; omega) (by omega) (Nat.zero_le _) (by omega) ?_; intro b3 c3 w3 own3 hgrow hat3 hlt3; have r1:w3.frozen? ⟨L.gr,k * 4,none⟩ = false:=(hgrow.frozen_far _ (by simp; omega) x4).trans ((frz_alloc wr _ L.gr (k * 4) hg4).trans z0); have r2:w3.cell? ⟨L.gr,k * 4,none⟩ = some x:=(hgrow.cell_far _ (by simp; omega) x4).trans ((cel_alloc wr _ L.gr (k * 4) hg4).trans r0); have d0:w3.cell? ⟨L.g,0,none⟩ = some (.int .i64 (c.cf.ps:Int)):=(hgrow.cell_far _ (by simp; omega) x1).trans ((cel_alloc wr _ L.g 0 hg1).trans c0); have d8:w3.cell? ⟨L.g,8,none⟩ = some (.slice (some ⟨L.gs,0,none⟩) c.nc L.sc):=(hgrow.cell_far _ (by simp; omega) x1).trans ((cel_alloc wr _ L.g 8 hg1).trans c8); have d2:w3.cell? ⟨L.gp,i * 7 + 2,none⟩ = some (.int .i64 (k:Int)):=(hgrow.cell_far _ (by simp; omega) x3).trans ((cel_alloc wr _ L.gp _ hg3).trans p2); have dz:w3.cell? ⟨L.gs,k,none⟩ = some (.int .i64 (c.sz k:Int)):=(hgrow.cell_far _ (by simp; omega) x2).trans ((cel_alloc wr _ L.gs _ hg2).trans cz)))
     refine hK.out _ _ ?_ (fun hHeld36 => ?_)
     ·(try dsimp only)
      (first | (go_keep; done) | exact ⟨(cel_alloc wr _ L.g 0 hg1).trans c0,(cel_alloc wr _ L.g 8 hg1).trans c8,(cel_alloc wr _ L.gp _ hg3).trans p2,(cel_alloc wr _ L.gs _ hg2).trans cz⟩ | exact ⟨d0,d8,d2,dz⟩ | exact ⟨(cel_set w3 _ y1).trans d0,(cel_set w3 _ y1).trans d8,(cel_set w3 _ y3).trans d2,(cel_set w3 _ y2).trans dz⟩)
     clear hK K
     try simp only [qA,qS,qZ,Act.put,qT,qO,qN]
     refine tkh (i:=27) (v:=?_) rfl ?_ ?_
     rotate_left
     ·try simp only [qA,qS,qZ]
      intro w hSw
      (try dsimp only at hSw)
      go_simp
      (try with_reducible rfl)
     try simp only [qA,qS,qZ,Act.put,qT,qO,qN]
     refine tkh (i:=28) (v:=?_) rfl ?_ ?_
     rotate_left
     ·try simp only [qA,qS,qZ]
      intro w hSw
      (try dsimp only at hSw)
      go_simp
      (try with_reducible rfl)
     try simp only [qA,qS,qZ,Act.put,qT,qO,qN]
     refine wpAnyH_ready (rs:=[29]) (by kernel_rfl) (by simp) ?_
     refine AllReadyH.cons (o:=_) rfl (fun K hK => ?_) AllReadyH.nil
     try simp only [qA,qS,qZ]
     go_simp
     refine hK.out _ _ ?_ (fun hHeld39 => ?_)
     ·(try dsimp only)
      (first | (go_keep; done) | exact ⟨(cel_alloc wr _ L.g 0 hg1).trans c0,(cel_alloc wr _ L.g 8 hg1).trans c8,(cel_alloc wr _ L.gp _ hg3).trans p2,(cel_alloc wr _ L.gs _ hg2).trans cz⟩ | exact ⟨d0,d8,d2,dz⟩ | exact ⟨(cel_set w3 _ y1).trans d0,(cel_set w3 _ y1).trans d8,(cel_set w3 _ y3).trans d2,(cel_set w3 _ y2).trans dz⟩)
     clear hK K
     try simp only [qA,qS,qZ,Act.put,qT,qO,qN]
     refine wpAnyH_done (by kernel_rfl) ?_ _
     refine NoPanic.normal ?_
     have G:SetAt (w3.setCell ⟨L.gr,k * 4,none⟩ (.slice (some ⟨b3,0,none⟩) (Fl.length + 1) c3)) { L with F:=upd L.F k (.slice (some ⟨b3,0,none⟩) (Fl.length + 1) c3) } c { s with rs:=upd s.rs k (s.rs k + 1),free:=upd s.free k (s.free k ++ (done ++ [P])) } bs:=by
      have:=HR.out.setFree (S:=fun b => x.ownBlock = some b) k hk (.slice (some ⟨b3,0,none⟩) (Fl.length + 1) c3) (Fl ++ [P]) w3 (((Only.refl _ wr).alloc _).drew.grown hgrow (fun k e _ => e)) (fun b e _ => (congrArg Value.ownBlock (upd_at L.F k x)).trans e)
       (by rw [List.length_append,List.map_append]; exact own3) (fun b e => by
        have e2:b3 = b:=by simpa [Value.ownBlock] using e
        subst e2
        rcases hat3 with h3 | h3
        ·exact .inl ((congrArg Value.ownBlock (upd_at L.F k x)).trans h3)
        ·exact .inr (by rw [h3]; simp))
      simp only [upd_upd] at this
      rw [<- List.append_assoc,hF.out]
      exact this
     have WG:Went w (w3.setCell ⟨L.gr,k * 4,none⟩ (.slice (some ⟨b3,0,none⟩) (Fl.length + 1) c3)) L { L with F:=upd L.F k (.slice (some ⟨b3,0,none⟩) (Fl.length + 1) c3) } c s { s with rs:=upd s.rs k (s.rs k + 1),free:=upd s.free k (s.free k ++ (done ++ [P])) }:=by
      refine WR.out.trans ⟨((((Only.refl _ wr).alloc _).drew.grown hgrow (fun j e _ => ⟨.free k,by rw [Lay.blk,if_pos (show k < c.cf.nc from hk)]; exact (congrArg Value.ownBlock (upd_at L.F k x)).trans e⟩)).setCell (fun _ => ⟨.rows,rfl⟩) _),fun b hb => ?_⟩
      obtain ⟨p,hp⟩:=hb
      by_cases hpk:p = .free k
      ·subst hpk
       rw [Lay.blk,if_pos (show k < c.cf.nc from hk)] at hp
       have e2:b3 = b:=by
        have hp':(upd L.F k (Value.slice (some ⟨b3,0,none⟩) (Fl.length + 1) c3) k).ownBlock = some b:=hp
        rw [upd_at] at hp'
        simpa [Value.ownBlock] using hp'
       subst e2
       rcases hat3 with h3 | h3
       ·exact .inl ⟨.free k,by rw [Lay.blk,if_pos (show k < c.cf.nc from hk)]; exact (congrArg Value.ownBlock (upd_at L.F k x)).trans h3⟩
       ·exact .inr (by rw [h3]; simp)
      ·refine .inl ⟨p,?_⟩
       cases p with
       | free j =>
        have hj:j ≠ k:=fun e => hpk (by rw [e])
        by_cases hjn:j < c.cf.nc
        ·rw [Lay.blk,if_pos hjn] at hp ⊢
         have hp':(upd L.F k (Value.slice (some ⟨b3,0,none⟩) (Fl.length + 1) c3) j).ownBlock = some b:=hp
         show (upd L.F k x j).ownBlock = some b
         rw [upd_ne _ _ hj] at hp' ⊢
         exact hp'
        ·rw [Lay.blk,if_neg hjn] at hp; cases hp
       | _ => exact hp
     obtain ⟨w4,hw4⟩:∃ w4,w4 = w3.setCell ⟨L.gr,k * 4,none⟩ (.slice (some ⟨b3,0,none⟩) (Fl.length + 1) c3):=⟨_,rfl⟩
     rw [<- hw4] at G WG ⊢
     replace G:=Lib.hid G
     replace WG:=Lib.hid WG
     clear hw4 r1 r2 d0 d8 d2 dz own3 hgrow hat3 hlt3 c0 c8 p2 cz r0 r0' z0 own p4 tk cx bx0 one
     go_wp2
     go_roundw
     case rel => exact ⟨m,_,_,rfl,by omega,hd',G,WG⟩
     case measure => simp [intOf] <;> omega
theorem eiU:EI Tryz.prog 159 165 (.int .u32 0) 1 4:=EI.mk' Tryz.underlying159 (by kernel_rfl) rfl (by decide)
theorem eiB:EI Tryz.prog 61 4 (.bool false) 1 1:=EI.mk' Tryz.underlying61 (by kernel_rfl) rfl (by decide)
theorem Grid.made1 (w:World) (e:TypeId) (z:Value) (n:Nat) (hz:z.cells = #[z]):Grid (w.alloc (.cells (madeCells z.cells (n * 1)) e)) w.heap.size e n 1 (fun _ _ => z):=by
  have hb:=Blk.new w e (madeCells z.cells (n * 1))
  refine ⟨⟨_,hb⟩,fun i j hi hj => ?_⟩
  obtain rfl:j = 0:=by omega
  rw [hb.cell,hz,Arena.made_one]
  simp [hi]
theorem look_nil (w:World) (x:Nat):(Instr.lookup 160 (.map none) (.int .i64 (x:Int)) false).run Tryz.prog w = .ok (.int .u32 0) w:=by kernel_rfl
theorem OldAt.look {w:World} {O:Option Nat} {n:Nat} {f:Nat -> Nat} (h:OldAt w O n f) (x:Nat) (hx:x < M63):(Instr.lookup 160 (.map O) (.int .i64 (x:Int)) false).run Tryz.prog w = .ok (.int .u32 (f x:Int)) w:=by
  cases O with
  | none =>
    rw [h.2 x]
    exact look_nil w x
  | some b =>
    obtain ⟨p,⟨D,h1,hD,h2⟩,h3⟩:=h
    obtain ⟨c,hrun,hat,hwc⟩:=h1.lookup_int keyedH Tryz.underlying160 Tryz.underlying165 (zeroInt w) (key_of hx)
    have e:=(h2 x).2
    rw [show vl 0 = (.lit (.int .u32 0):DataW Unit) from rfl,hat] at e
    unfold vl at e
    injection e with e
    injection e with _ e
    rw [hrun,e,h3]
def freshS (s:St) (k i:Nat):St:={ s with own:=upd s.own i true,cls:=upd s.cls i k,gens:=upd s.gens i (fun _ => 0),tkn:=upd s.tkn i (fun _ => false) }
theorem SetAt.widen {w w':World} {L:Lay} {c:Conf} {s:St} {bs:List UInt8} (h:SetAt w L c s bs) (k i a b:Nat) (hi:i < c.cf.np) (hoi:s.own i = false) (o:Only (· = L.gp) w w')
    (hp:Grid w' L.gp 162 c.cf.np 7 (put2 (put2 (put2 (put2 (pv c.cf L s) i 0 (.bool true)) i 2 (.int .i64 (k:Int))) i 3 (.slice (some ⟨a,0,none⟩) (c.cf.n k) (c.cf.n k))) i 4 (.slice (some ⟨b,0,none⟩) (c.cf.n k) (c.cf.n k))))
    (hA:Grid w' a 165 (c.cf.n k) 1 (fun _ _ => .int .u32 0)) (hB:Grid w' b 4 (c.cf.n k) 1 (fun _ _ => .bool false)) (ha:w.heap.size <= a) (hb:w.heap.size <= b) :
    SetAt w' { L with G:=upd L.G i a,T:=upd L.T i b } c (freshS s k i) bs /\ Went w w' L { L with G:=upd L.G i a,T:=upd L.T i b } c s (freshS s k i):=by
  have hab:a ≠ b:=ne_ty hA.blk hB.blk (by decide)
  have hat:∀ q,¬ (q = Part.pages \/ q = .gens i \/ q = .tkn i) -> ∀ b',Lay.blk { L with G:=upd L.G i a,T:=upd L.T i b } c.cf (freshS s k i) q = some b' -> L.blk c.cf s q = some b':=by
    intro q hq b' e
    cases q with
    | gens j =>
      have hj:j ≠ i:=fun e => hq (.inr (.inl (by rw [e])))
      have e':(if j < c.cf.np /\ upd s.own i true j = true then some (upd L.G i a j) else none) = some b':=e
      rw [upd_ne _ _ hj,upd_ne _ _ hj] at e'
      exact e'
    | tkn j =>
      have hj:j ≠ i:=fun e => hq (.inr (.inr (by rw [e])))
      have e':(if j < c.cf.np /\ upd s.own i true j = true then some (upd L.T i b j) else none) = some b':=e
      rw [upd_ne _ _ hj,upd_ne _ _ hj] at e'
      exact e'
    | pages => exact absurd (.inl rfl) hq
    | _ => exact e
  have e1:Lay.blk { L with G:=upd L.G i a,T:=upd L.T i b } c.cf (freshS s k i) (.gens i) = some a:=by
    show (if i < c.cf.np /\ upd s.own i true i = true then some (upd L.G i a i) else none) = some a
    rw [upd_at,upd_at,if_pos ⟨hi,rfl⟩]
  have e2:Lay.blk { L with G:=upd L.G i a,T:=upd L.T i b } c.cf (freshS s k i) (.tkn i) = some b:=by
    show (if i < c.cf.np /\ upd s.own i true i = true then some (upd L.T i b i) else none) = some b
    rw [upd_at,upd_at,if_pos ⟨hi,rfl⟩]
  have hpl:L.gp < w.heap.size:=h.pagesB.lt
  refine ⟨h.turns (fun p => p = .pages \/ p = .gens i \/ p = .tkn i) o (fun b' e _ => ⟨.pages,.inl rfl,by subst e; rfl⟩) ?_ ?_ hat ?_ rfl,⟨o.mono fun b' _ e => ⟨.pages,by subst e; rfl⟩,?_⟩⟩
  · rintro p (rfl | rfl | rfl)
    · refine Grid.congr hp fun x j hx hj => ?_
      unfold put2
      by_cases hxi:x = i
      · subst hxi
        obtain rfl | rfl | rfl | rfl | rfl | rfl | rfl:j = 0 \/ j = 1 \/ j = 2 \/ j = 3 \/ j = 4 \/ j = 5 \/ j = 6:=by omega
        all_goals simp [pv,freshS,upd,rowV]
      · obtain rfl | rfl | rfl | rfl | rfl | rfl | rfl:j = 0 \/ j = 1 \/ j = 2 \/ j = 3 \/ j = 4 \/ j = 5 \/ j = 6:=by omega
        all_goals simp [pv,freshS,upd,rowV,hxi]
    · intro _
      show Grid w' (upd L.G i a i) 165 (c.cf.n (upd s.cls i k i)) 1 (gv (upd s.gens i (fun _ => 0) i))
      rw [upd_at,upd_at,upd_at]
      exact hA
    · intro _
      show Grid w' (upd L.T i b i) 4 (c.cf.n (upd s.cls i k i)) 1 (tv (upd s.tkn i (fun _ => false) i))
      rw [upd_at,upd_at,upd_at]
      exact hB
  · intro q hq hp
    cases q with
    | gens j =>
      have hj:j ≠ i:=fun e => hq (.inr (.inl (by rw [e])))
      show j < c.cf.np /\ upd s.own i true j = true -> Grid w (upd L.G i a j) 165 (c.cf.n (upd s.cls i k j)) 1 (gv (upd s.gens i (fun _ => 0) j))
      rw [upd_ne _ _ hj,upd_ne _ _ hj,upd_ne _ _ hj,upd_ne _ _ hj]
      exact hp
    | tkn j =>
      have hj:j ≠ i:=fun e => hq (.inr (.inr (by rw [e])))
      show j < c.cf.np /\ upd s.own i true j = true -> Grid w (upd L.T i b j) 4 (c.cf.n (upd s.cls i k j)) 1 (tv (upd s.tkn i (fun _ => false) j))
      rw [upd_ne _ _ hj,upd_ne _ _ hj,upd_ne _ _ hj,upd_ne _ _ hj]
      exact hp
    | pages => exact absurd (.inl rfl) hq
    | _ => exact hp
  · rintro p b' (rfl | rfl | rfl) e
    · exact .inl e
    · rw [e1] at e
      injection e with e
      subst e
      refine .inr ⟨ha,?_⟩
      rintro q (rfl | rfl | rfl) eq
      · injection eq with eq
        have:L.gp = a:=eq
        omega
      · rfl
      · rw [e2] at eq; injection eq with eq; exact absurd eq.symm hab
    · rw [e2] at e
      injection e with e
      subst e
      refine .inr ⟨hb,?_⟩
      rintro q (rfl | rfl | rfl) eq
      · injection eq with eq
        have:L.gp = b:=eq
        omega
      · rw [e1] at eq; injection eq with eq; exact absurd eq hab
      · rfl
  · rintro b' ⟨q,hq⟩
    by_cases hP:q = Part.pages \/ q = .gens i \/ q = .tkn i
    · rcases hP with rfl | rfl | rfl
      · exact .inl ⟨.pages,hq⟩
      · rw [e1] at hq; injection hq with hq; subst hq; exact .inr ha
      · rw [e2] at hq; injection hq with hq; subst hq; exact .inr hb
    · exact .inl ⟨q,hat q hP b' hq⟩
theorem Grid.made (w:World) (e:TypeId) (z:Array Value) (n:Nat) (f:Nat -> Value) (hf:∀ j,j < z.size -> z[j]? = some (f j)):Grid (w.alloc (.cells (madeCells z (n * z.size)) e)) w.heap.size e n z.size (fun _ j => f j):=by
 have hb:=Blk.new w e (madeCells z (n * z.size))
 refine ⟨⟨_,hb⟩,fun i j hi hj => ?_⟩
 rw [hb.cell,madeCells_at z n i j hi hj,hf j hj]
def partTy:Part -> Option TypeId
 | .head => some 148
 | .arena => some 190
 | .bytes => some 5
 | .sizes => some 3
 | .pages => some 162
 | .rows => some 157
 | _ => none
theorem partTy_inj:∀ p q:Part,partTy p ≠ none -> partTy p = partTy q -> p = q:=by
 intro p q h e
 cases p <;> cases q <;> first | rfl | exact absurd rfl h | (simp [partTy] at e)
theorem SetAt.new {w:World} {L:Lay} {c:Conf} (hr:refN c = 0) (h0:Blk w L.g 148 (hv L c (new0 c.cf))) (h1:Arena.At w L.ga L.ha c.cf.ps (List.replicate (c.cf.ps * c.cf.np) 0))
  (h2:Grid w L.gs 3 c.nc 1 (fun i _ => iv (c.sz i))) (h3:Grid w L.gp 162 c.cf.np 7 (pv c.cf L (new0 c.cf))) (h4:Grid w L.gr 157 c.nc 4 (rv L (new0 c.cf)))
  (hF:∀ k,L.F k = .slice none 0 0) (hO:∀ i,L.O i = none):SetAt w L c (new0 c.cf) (List.replicate (c.cf.ps * c.cf.np) 0):=by
 have key:∀ p b,L.blk c.cf (new0 c.cf) p = some b -> ∃ t cur,partTy p = some t /\ Blk w b t cur:=by
  intro p b e
  cases p with
  | head => injection e with e; subst e; exact ⟨_,_,rfl,h0⟩
  | arena => injection e with e; subst e; exact ⟨_,_,rfl,h1.head⟩
  | bytes => injection e with e; subst e; exact ⟨_,_,rfl,h1.bytes⟩
  | sizes => injection e with e; subst e; obtain ⟨cur,hb⟩:=h2.blk; exact ⟨_,cur,rfl,hb⟩
  | pages => injection e with e; subst e; obtain ⟨cur,hb⟩:=h3.blk; exact ⟨_,cur,rfl,hb⟩
  | rows => injection e with e; subst e; obtain ⟨cur,hb⟩:=h4.blk; exact ⟨_,cur,rfl,hb⟩
  | gens i => rw [Lay.blk,if_neg (fun e => by cases e.2)] at e; cases e
  | tkn i => rw [Lay.blk,if_neg (fun e => by cases e.2)] at e; cases e
  | free k =>
   by_cases hk:k < c.cf.nc
   ·rw [Lay.blk,if_pos hk,hF] at e; cases e
   ·rw [Lay.blk,if_neg hk] at e; cases e
  | old i =>
   by_cases hk:i < c.cf.np
   ·rw [Lay.blk,if_pos hk,hO] at e; cases e
   ·rw [Lay.blk,if_neg hk] at e; cases e
 refine ⟨fun p => ?_,fun p q b e1 e2 => ?_,by simp,hr⟩
 ·cases p with
  | head => exact h0
  | arena =>
   have:=h1.head
   rw [List.length_replicate] at this
   exact this
  | bytes => exact h1.bytes
  | sizes => exact h2
  | pages => exact h3
  | rows => exact h4
  | gens i => exact fun e => by cases e.2
  | tkn i => exact fun e => by cases e.2
  | free k => exact fun _ => ⟨rfl,.inl ⟨by rw [hF],rfl⟩⟩
  | old i => exact fun _ => by rw [hO]; exact ⟨rfl,fun _ => rfl⟩
 ·obtain ⟨t,cur,a1,a2⟩:=key p b e1
  obtain ⟨t',cur',b1,b2⟩:=key q b e2
  unfold Blk at a2 b2
  rw [a2] at b2
  have e:t = t':=by injection b2 with b2; injection b2
  subst e
  exact partTy_inj p q (by rw [a1]; exact fun e => by cases e) (a1.trans b1.symm)
def zPage:Value:=.agg #[.bool false,.bool false,.int .i64 0,.slice none 0 0,.slice none 0 0,.int .i64 0,.map none]
def zRow:Value:=.agg #[.slice none 0 0,.int .i64 0,.int .i64 0,.int .i64 0]
theorem eiP:EI Tryz.prog 145 162 zPage 7 80:=EI.mk' Tryz.underlying145 (by kernel_rfl) rfl (by decide)
theorem eiR:EI Tryz.prog 146 157 zRow 4 48:=EI.mk' Tryz.underlying146 (by kernel_rfl) rfl (by decide)
theorem conf_cells {w:World} {b:Nat} {t:TypeId} {c:Conf} (h:Blk w b t c.cells):w.cell? ⟨b,0,none⟩ = some (.int .i64 c.ps) /\ w.cell? ⟨b,1,none⟩ = some (.int .i64 c.np) /\ w.cell? ⟨b,2,none⟩ = some (.int .i64 c.fa) /\ w.cell? ⟨b,3,none⟩ = some (.int .i64 c.mc) /\
  w.cell? ⟨b,4,none⟩ = some (.int .i64 c.il) /\ w.cell? ⟨b,5,none⟩ = some (.int .i64 c.hot) /\ w.cell? ⟨b,6,none⟩ = some (.int .i64 c.warm):=⟨h.cell 0,h.cell 1,h.cell 2,h.cell 3,h.cell 4,h.cell 5,h.cell 6⟩
theorem Blk.below {w w':World} {b B:Nat} {t:TypeId} {cs:Array Value} (h:Blk w b t cs) (k:Below B w w') (hb:b < B):Blk w' b t cs:=(k.block b hb).trans h
theorem refN_zero {c:Conf} (h:refN c = 0):Right c /\ ¬ 62 < c.nc /\ ¬ c.np < c.nc:=by
 unfold refN at h
 by_cases h1:Right c
 ·rw [if_pos h1] at h
  by_cases h2 : 62 < c.nc
  ·rw [if_pos h2] at h; cases h
  ·rw [if_neg h2] at h
   by_cases h3:c.np < c.nc
   ·rw [if_pos h3] at h; cases h
   ·exact ⟨h1,h2,h3⟩
 ·rw [if_neg h1] at h; cases h
theorem made_set {w4:World} {c:Conf} (hr:refN c = 0) {ga ha gs sc:Nat} (hA:Arena.At w4 ga ha c.cf.ps (List.replicate (c.cf.ps * c.cf.np) 0))
  (hS:Grid w4 gs 3 c.nc 1 (fun i _ => iv (c.sz i))) {w5:World} {gp gr g:Nat} (o:Only (fun _ => False) w4 w5) (L:Lay)
  (hL:L = { g:=g,ga:=ga,ha:=ha,gs:=gs,sc:=sc,gp:=gp,gr:=gr,G:=fun _ => 0,T:=fun _ => 0,F:=fun _ => .slice none 0 0,O:=fun _ => none })
  (h0:Blk w5 g 148 (hv L c (new0 c.cf))) (h3:Grid w5 gp 162 c.cf.np 7 (fun _ j => (zPage.cells[j]?).getD (.int .i64 0))) (h4:Grid w5 gr 157 c.nc 4 (fun _ j => (zRow.cells[j]?).getD (.int .i64 0))) :
  SetAt w5 L c (new0 c.cf) (List.replicate (c.cf.ps * c.cf.np) 0):=by
 subst hL
 refine SetAt.new hr h0 ?_ (hS.only o (fun e => e)) (h3.congr fun i j _ hj => ?_) (h4.congr fun i j _ hj => ?_) (fun _ => rfl) (fun _ => rfl)
 ·exact ⟨(o.block ga (heap_lt hA.head) (fun e => e)).trans hA.head,(o.block ha hA.bytes.lt (fun e => e)).trans hA.bytes,hA.pos,hA.small,hA.psmall⟩
 ·obtain rfl | rfl | rfl | rfl | rfl | rfl | rfl:j = 0 \/ j = 1 \/ j = 2 \/ j = 3 \/ j = 4 \/ j = 5 \/ j = 6:=by omega
  all_goals rfl
 ·obtain rfl | rfl | rfl | rfl:j = 0 \/ j = 1 \/ j = 2 \/ j = 3:=by omega
  all_goals rfl
theorem own_grid {w:World} {N n cap g:Nat} {f:Nat -> Nat} (hn : 1 <= n) (h:w.ownsRow N 3 1 (.slice (some ⟨g,0,none⟩) n cap) n (((List.range n).map f).map iv)):Grid w g 3 n 1 (fun i _ => iv (f i)):=by
 refine ⟨?_,fun i j hi hj => ?_⟩
 ·rcases h.2 with ⟨hv, -⟩ | ⟨g',cap',cur,hv, -,hg, -⟩
  ·cases hv
  ·injection hv with e1
   injection e1 with e1
   injection e1 with e1
   subst e1
   exact ⟨cur,hg⟩
 ·obtain rfl:j = 0:=by omega
  obtain ⟨g',c',hv,hc, -⟩:=own_iv (i:=i) (x:=f i) h (by rw [List.getElem?_map,List.getElem?_range hi]; rfl)
  injection hv with e1
  injection e1 with e1
  injection e1 with e1
  subst e1
  rw [Nat.mul_one]
  exact hc
theorem new_foot {L:Lay} {c:Conf} {B:Nat} (h0:B <= L.g) (h1:B <= L.ga) (h2:B <= L.ha) (h3:B <= L.gs) (h4:B <= L.gp) (h5:B <= L.gr) (hF:∀ k,L.F k = .slice none 0 0) (hO:∀ i,L.O i = none):∀ b,Foot L c (new0 c.cf) b -> B <= b:=by
 rintro b ⟨p,e⟩
 cases p with
 | head => injection e with e; subst e; exact h0
 | arena => injection e with e; subst e; exact h1
 | bytes => injection e with e; subst e; exact h2
 | sizes => injection e with e; subst e; exact h3
 | pages => injection e with e; subst e; exact h4
 | rows => injection e with e; subst e; exact h5
 | gens i => rw [Lay.blk,if_neg (fun e => by cases e.2)] at e; cases e
 | tkn i => rw [Lay.blk,if_neg (fun e => by cases e.2)] at e; cases e
 | free k =>
  by_cases hk:k < c.cf.nc
  ·rw [Lay.blk,if_pos hk,hF] at e; cases e
  ·rw [Lay.blk,if_neg hk] at e; cases e
 | old i =>
  by_cases hk:i < c.cf.np
  ·rw [Lay.blk,if_pos hk,hO] at e; cases e
  ·rw [Lay.blk,if_neg hk] at e; cases e
theorem grid_page (w:World) (n:Nat):Grid (w.alloc (.cells (madeCells zPage.cells (n * 7)) 162)) w.heap.size 162 n 7 (fun _ j => (zPage.cells[j]?).getD (.int .i64 0)) :=
 Grid.made w 162 zPage.cells n _ fun j hj => by
  have hj:j < 7:=hj
  obtain rfl | rfl | rfl | rfl | rfl | rfl | rfl:j = 0 \/ j = 1 \/ j = 2 \/ j = 3 \/ j = 4 \/ j = 5 \/ j = 6:=by omega
  all_goals rfl
theorem grid_row (w:World) (n:Nat):Grid (w.alloc (.cells (madeCells zRow.cells (n * 4)) 157)) w.heap.size 157 n 4 (fun _ j => (zRow.cells[j]?).getD (.int .i64 0)) :=
 Grid.made w 157 zRow.cells n _ fun j hj => by
  have hj:j < 4:=hj
  obtain rfl | rfl | rfl | rfl:j = 0 \/ j = 1 \/ j = 2 \/ j = 3:=by omega
  all_goals rfl
theorem only_allocs (w:World) (a b c:Obj):Only (fun _ => False) w (((w.alloc a).alloc b).alloc c).drew:=((((Only.refl _ w).alloc a).alloc b).alloc c).drew
set_option maxHeartbeats 1600000 in
theorem newC (w:World) (c:Conf) :
  Calls Tryz.prog 44 #[.agg c.cells] w fun e w' => Below w.heap.size w w' /\
   ((refN c ≠ 0 /\ e = .returned (.tuple #[.pointer none,.int .i64 (refN c)])) \/ (refN c = 0 /\ ∃ L,e = .returned (.tuple #[.pointer (some ⟨L.g,0,none⟩),.int .i64 0]) /\ SetAt w' L c (new0 c.cf) (List.replicate (c.cf.ps * c.cf.np) 0) /\ ∀ b,Foot L c (new0 c.cf) b -> w.heap.size <= b)):=by
 obtain ⟨w1,hw1⟩:∃ w1,w1 = w.alloc (.cells c.cells 79):=⟨_,rfl⟩
 have B1:Blk w1 w.heap.size 79 c.cells:=by rw [hw1]; exact Blk.new w _ _
 have b1:Below w.heap.size w w1:=by rw [hw1]; exact (Below.refl _ _).alloc (Nat.le_refl _) _
 have s1:w1.heap.size = w.heap.size + 1:=by rw [hw1]; exact World.size_alloc _ _
 obtain ⟨x0,x1,x2,x3,x4,x5,x6⟩:=conf_cells B1
 have RC:=Lib.hid (rightC c w1)
 have SC:=Lib.hid (fun h => sizesC c h)
 unfold Conf.cells at RC SC hw1 ⊢
 replace hw1:=Lib.hid hw1
 replace B1:=Lib.hid B1
 generalize hN:w.heap.size = N at *
 replace hN:=Lib.hid hN
 go_enter Tryz.func44,Tryz.ntmps44
 go_upto_region 1 with fail
 rw [hN.out, <- hw1.out]
 go_wp2_with fail
 refine RC.out.mono ?_
 rintro e w2 ⟨rfl,b2⟩
 by_cases hR:Right c
 rotate_left
 ·have e1:refN c = 1:=if_neg hR
  rw [decide_eq_false hR]
  clear hR
  replace e1:=Lib.hid e1
  replace b2:=Lib.hid b2
  replace b1:=Lib.hid b1
  go_wp2
  go_ret2
  exact ⟨b1.out.trans (b2.out.mono (by omega)),.inl ⟨by rw [e1.out]; decide,by rw [e1.out]; rfl⟩⟩
 rw [decide_eq_true hR]
 have B2:=B1.out.below b2 (by omega)
 obtain ⟨y0,y1,y2,y3,y4,y5,y6⟩:=conf_cells B2
 have S2:=Lib.hid (SC.out hR w2)
 have b12:=Lib.hid (b1.trans (b2.mono (B':=N) (by omega)))
 have s2:=b2.size
 replace B2:=Lib.hid B2
 replace hR:=Lib.hid hR
 clear x0 x1 x2 x3 x4 x5 x6 RC SC b2 b1 hw1 B1
 go_wp2_with fail
 refine S2.out.mono ?_
 rintro e w3 ⟨v,rfl,own,b3⟩
 have B3:=B2.out.below b3 (by omega)
 have b13:=Lib.hid (b12.out.trans (b3.mono (B':=N) (by omega)))
 have s3:=b3.size
 obtain ⟨A,cp,rfl⟩:=own_is own
 obtain ⟨z0,z1,z2,z3,z4,z5,z6⟩:=conf_cells B3
 replace own:=Lib.hid own
 replace B3:=Lib.hid B3
 clear y0 y1 y2 y3 y4 y5 y6 b12 b3 B2 S2
 by_cases h62 : 62 < c.nc
 ·have d1:decide (62 < (c.nc:Int)) = true:=by simp; omega
  have d1':decide (62 < c.nc) = true:=by simp; omega
  have e2:refN c = 2:=by unfold refN; rw [if_pos hR.out,if_pos h62]
  replace e2:=Lib.hid e2
  go_wp2
  go_ret2
  exact ⟨b13.out,.inl ⟨by rw [e2.out]; decide,by rw [e2.out]; rfl⟩⟩
 have d1:decide (62 < (c.nc:Int)) = false:=by simp; omega
 have d1':decide (62 < c.nc) = false:=by simp; omega
 by_cases hnp:c.np < c.nc
 ·have d2:decide (c.np < (c.nc:Int)) = true:=by simp; omega
  have e2:refN c = 3:=by unfold refN; rw [if_pos hR.out,if_neg h62,if_pos hnp]
  replace e2:=Lib.hid e2
  go_wp2
  go_ret2
  exact ⟨b13.out,.inl ⟨by rw [e2.out]; decide,by rw [e2.out]; rfl⟩⟩
 have d2:decide (c.np < (c.nc:Int)) = false:=by simp; omega
 have e0:refN c = 0:=by unfold refN; rw [if_pos hR.out,if_neg h62,if_neg hnp]
 have hrp:Arena.RightPage c.cf.ps:=by
  have:=hR.out.ps
  rw [hR.out.psE] at this
  unfold Page9 at this
  unfold Arena.RightPage
  omega
 have n1:=hR.out.np1
 have n2:=hR.out.np2
 have npE:=hR.out.npE
 have AC:=Arena.newYes w3 c.cf.ps c.cf.np hrp (by omega) (by omega)
 rw [<- hR.out.psE, <- hR.out.npE] at AC
 replace AC:=Lib.hid AC
 replace npE:=Lib.hid npE
 clear hrp
 go_wp2_with fail
 refine AC.out.mono ?_
 rintro e w4 ⟨rfl,A4,b4,s4⟩
 have B4:=B3.out.below b4 (by omega)
 obtain ⟨x0,x1,x2,x3,x4,x5,x6⟩:=conf_cells B4
 have hnc1 : 1 <= c.nc:=(okOf e0).1.nc
 obtain ⟨gs,cp',hsl, -,hgs1,hgs2⟩:=own_iv (i:=0) own.out (by rw [List.getElem?_map,List.getElem?_range hnc1]; rfl)
 injection hsl with hA1 hA2 hA3
 subst hA1 hA3
 have mP:∀ W:World,(Instr.makeSlice 145 (.int .i64 c.np) (.int .i64 c.np)).run Tryz.prog W = .ok (.slice (some ⟨W.heap.size,0,none⟩) c.cf.np c.cf.np) (W.alloc (.cells (madeCells zPage.cells (c.cf.np * 7)) 162)):=by
  rw [npE.out]
  exact fun W => eiP.make .i64 .i64 c.cf.np c.cf.np (Nat.le_refl _) (by have:=npE.out; omega) (by have:=npE.out; omega) W
 have mR:∀ W:World,(Instr.makeSlice 146 (.int .i64 (c.nc:Int)) (.int .i64 (c.nc:Int))).run Tryz.prog W = .ok (.slice (some ⟨W.heap.size,0,none⟩) c.nc c.nc) (W.alloc (.cells (madeCells zRow.cells (c.nc * 4)) 157)) :=
  fun W => eiR.make .i64 .i64 c.nc c.nc (Nat.le_refl _) (by omega) (by omega) W
 generalize hP:Obj.cells (madeCells zPage.cells (c.cf.np * 7)) 162 = P at *
 generalize hQ:Obj.cells (madeCells zRow.cells (c.nc * 4)) 157 = Q at *
 replace hP:=Lib.hid hP
 replace hQ:=Lib.hid hQ
 replace A4:=Lib.hid A4
 have b14:=Lib.hid (b13.out.trans (b4.mono (B':=N) (by omega)))
 have y1:∀ o,(w4.alloc o).cell? ⟨N,1,none⟩ = some (.int .i64 c.np):=fun o => (World.cell?_alloc_lt w4 o ⟨N,1,none⟩ (by show N < _; omega)).trans x1
 have y0:∀ o,(w4.alloc o).cell? ⟨N,0,none⟩ = some (.int .i64 c.ps):=fun o => (World.cell?_alloc_lt w4 o ⟨N,0,none⟩ (by show N < _; omega)).trans x0
 have y2:∀ o,(w4.alloc o).cell? ⟨N,2,none⟩ = some (.int .i64 c.fa):=fun o => (World.cell?_alloc_lt w4 o ⟨N,2,none⟩ (by show N < _; omega)).trans x2
 have y3:∀ o,(w4.alloc o).cell? ⟨N,3,none⟩ = some (.int .i64 c.mc):=fun o => (World.cell?_alloc_lt w4 o ⟨N,3,none⟩ (by show N < _; omega)).trans x3
 have y4:∀ o,(w4.alloc o).cell? ⟨N,4,none⟩ = some (.int .i64 c.il):=fun o => (World.cell?_alloc_lt w4 o ⟨N,4,none⟩ (by show N < _; omega)).trans x4
 have y5:∀ o,(w4.alloc o).cell? ⟨N,5,none⟩ = some (.int .i64 c.hot):=fun o => (World.cell?_alloc_lt w4 o ⟨N,5,none⟩ (by show N < _; omega)).trans x5
 have y6:∀ o,(w4.alloc o).cell? ⟨N,6,none⟩ = some (.int .i64 c.warm):=fun o => (World.cell?_alloc_lt w4 o ⟨N,6,none⟩ (by show N < _; omega)).trans x6
 have far:∀ (o o':Obj) (i:Nat),((w4.alloc o).alloc o').cell? ⟨N,i,none⟩ = (w4.alloc o).cell? ⟨N,i,none⟩:=fun o o' i => World.cell?_alloc_lt (w4.alloc o) o' ⟨N,i,none⟩ (by show N < _; rw [World.size_alloc]; omega)
 have b4':=b4.block
 clear z0 z1 z2 z3 z4 z5 z6 b13 AC b4 B3 B4
 go_upto_region 11 with fail
 have hS4:=(own_grid hnc1 own.out).kept (b4' gs hgs2)
 replace hS4:=Lib.hid hS4
 have s4':=Lib.hid s4
 have hgN:N <= gs:=by omega
 have e0':=Lib.hid e0
 clear b4' own e0 h62 hnp
 go_region
 ·obtain ⟨H,hH⟩:∃ H,H = Obj.cells #[.int .i64 c.ps,.int .i64 c.np,.int .i64 c.fa,.int .i64 c.mc,.int .i64 c.il,.int .i64 c.hot,.int .i64 c.warm,.pointer (some ⟨w3.heap.size + 1,0,none⟩),
   .slice (some ⟨gs,0,none⟩) c.nc cp,.slice (some ⟨w3.heap.size + 2,0,none⟩) c.cf.np c.cf.np,.slice (some ⟨w3.heap.size + 2 + 1,0,none⟩) c.nc c.nc,.int .i64 c.np] 148:=⟨_,rfl⟩
  rw [<- hH]
  obtain ⟨w5,hw5⟩:∃ w5,w5 = (((w4.alloc P).alloc Q).alloc H).drew:=⟨_,rfl⟩
  rw [<- hw5]
  have gP:=grid_page w4 c.cf.np
  rw [hP.out,s4'.out] at gP
  have gQ:=grid_row (w4.alloc P) c.nc
  rw [hQ.out,World.size_alloc,s4'.out] at gQ
  have o5:Only (fun _ => False) w4 w5:=by rw [hw5]; exact only_allocs w4 P Q H
  obtain ⟨L,hL⟩:∃ L,L = ({ g:=w3.heap.size + 2 + 1 + 1,ga:=w3.heap.size + 1,ha:=w3.heap.size,gs:=gs,sc:=cp,gp:=w3.heap.size + 2,gr:=w3.heap.size + 2 + 1,G:=fun _ => 0,T:=fun _ => 0,F:=fun _ => .slice none 0 0,O:=fun _ => none }:Lay):=⟨_,rfl⟩
  have h0:Blk w5 (w3.heap.size + 2 + 1 + 1) 148 (hv L c (new0 c.cf)):=by
   have:=Blk.new ((w4.alloc P).alloc Q) 148 (hv L c (new0 c.cf))
   rw [World.size_alloc,World.size_alloc,s4'.out] at this
   rw [hw5,hH,hL]
   rw [hL] at this
   unfold hv new0 at this
   simp only at this
   rw [<- npE.out] at this
   unfold hv new0
   simp only
   rw [<- npE.out]
   exact this
  have gP5:Grid w5 (w3.heap.size + 2) 162 c.cf.np 7 _:=gP.only (w':=w5) (S:=fun _ => False) (by rw [hw5]; exact (((Only.refl _ _).alloc Q).alloc H).drew) (fun e => e)
  have gQ5:Grid w5 (w3.heap.size + 2 + 1) 157 c.nc 4 _:=gQ.only (w':=w5) (S:=fun _ => False) (by rw [hw5]; exact ((Only.refl _ _).alloc H).drew) (fun e => e)
  have M:=made_set e0'.out A4.out hS4.out o5 L hL h0 gP5 gQ5
  have b5:Below N w w5:=by rw [hw5]; exact (((b14.out.alloc (by omega) P).alloc (by rw [World.size_alloc]; omega) Q).alloc (by rw [World.size_alloc,World.size_alloc]; omega) H).drew
  have fo:=new_foot (L:=L) (c:=c) (B:=N) (by rw [hL]; show N <= w3.heap.size + 2 + 1 + 1; omega) (by rw [hL]; show N <= w3.heap.size + 1; omega) (by rw [hL]; show N <= w3.heap.size; omega) (by rw [hL]; exact hgN) (by rw [hL]; show N <= w3.heap.size + 2; omega) (by rw [hL]; show N <= w3.heap.size + 2 + 1; omega) (by rw [hL]; exact fun _ => rfl) (by rw [hL]; exact fun _ => rfl)
  have hg:L.g = w3.heap.size + 2 + 1 + 1:=by rw [hL]
  replace hg:=Lib.hid hg
  replace M:=Lib.hid M
  replace b5:=Lib.hid b5
  replace fo:=Lib.hid fo
  clear h0 gP5 gQ5 gP gQ o5 hw5 hH hL
  go_wp2
  go_ret2
  exact ⟨b5.out,.inr ⟨e0'.out,L,by rw [hg.out]; rfl,M.out,fo.out⟩⟩
 ·obtain ⟨H,hH⟩:∃ H,H = Obj.cells #[.int .i64 c.ps,.int .i64 c.np,.int .i64 c.fa,.int .i64 c.mc,.int .i64 c.il,.int .i64 c.hot,.int .i64 c.warm,.pointer (some ⟨w3.heap.size + 1,0,none⟩),
   .slice (some ⟨gs,0,none⟩) c.nc cp,.slice (some ⟨w3.heap.size + 2 + 1,0,none⟩) c.cf.np c.cf.np,.slice (some ⟨w3.heap.size + 2,0,none⟩) c.nc c.nc,.int .i64 c.np] 148:=⟨_,rfl⟩
  rw [<- hH]
  obtain ⟨w5,hw5⟩:∃ w5,w5 = (((w4.alloc Q).alloc P).alloc H).drew:=⟨_,rfl⟩
  rw [<- hw5]
  have gQ:=grid_row w4 c.nc
  rw [hQ.out,s4'.out] at gQ
  have gP:=grid_page (w4.alloc Q) c.cf.np
  rw [hP.out,World.size_alloc,s4'.out] at gP
  have o5:Only (fun _ => False) w4 w5:=by rw [hw5]; exact only_allocs w4 Q P H
  obtain ⟨L,hL⟩:∃ L,L = ({ g:=w3.heap.size + 2 + 1 + 1,ga:=w3.heap.size + 1,ha:=w3.heap.size,gs:=gs,sc:=cp,gp:=w3.heap.size + 2 + 1,gr:=w3.heap.size + 2,G:=fun _ => 0,T:=fun _ => 0,F:=fun _ => .slice none 0 0,O:=fun _ => none }:Lay):=⟨_,rfl⟩
  have h0:Blk w5 (w3.heap.size + 2 + 1 + 1) 148 (hv L c (new0 c.cf)):=by
   have:=Blk.new ((w4.alloc Q).alloc P) 148 (hv L c (new0 c.cf))
   rw [World.size_alloc,World.size_alloc,s4'.out] at this
   rw [hw5,hH,hL]
   rw [hL] at this
   unfold hv new0 at this
   simp only at this
   rw [<- npE.out] at this
   unfold hv new0
   simp only
   rw [<- npE.out]
   exact this
  have gP5:Grid w5 (w3.heap.size + 2 + 1) 162 c.cf.np 7 _:=gP.only (w':=w5) (S:=fun _ => False) (by rw [hw5]; exact ((Only.refl _ _).alloc H).drew) (fun e => e)
  have gQ5:Grid w5 (w3.heap.size + 2) 157 c.nc 4 _:=gQ.only (w':=w5) (S:=fun _ => False) (by rw [hw5]; exact (((Only.refl _ _).alloc P).alloc H).drew) (fun e => e)
  have M:=made_set e0'.out A4.out hS4.out o5 L hL h0 gP5 gQ5
  have b5:Below N w w5:=by rw [hw5]; exact (((b14.out.alloc (by omega) Q).alloc (by rw [World.size_alloc]; omega) P).alloc (by rw [World.size_alloc,World.size_alloc]; omega) H).drew
  have fo:=new_foot (L:=L) (c:=c) (B:=N) (by rw [hL]; show N <= w3.heap.size + 2 + 1 + 1; omega) (by rw [hL]; show N <= w3.heap.size + 1; omega) (by rw [hL]; show N <= w3.heap.size; omega) (by rw [hL]; exact hgN) (by rw [hL]; show N <= w3.heap.size + 2 + 1; omega) (by rw [hL]; show N <= w3.heap.size + 2; omega) (by rw [hL]; exact fun _ => rfl) (by rw [hL]; exact fun _ => rfl)
  have hg:L.g = w3.heap.size + 2 + 1 + 1:=by rw [hL]
  replace hg:=Lib.hid hg
  replace M:=Lib.hid M
  replace b5:=Lib.hid b5
  replace fo:=Lib.hid fo
  clear h0 gP5 gQ5 gP gQ o5 hw5 hH hL
  go_wp2
  go_ret2
  exact ⟨b5.out,.inr ⟨e0'.out,L,by rw [hg.out]; rfl,M.out,fo.out⟩⟩
theorem eiII:EI Tryz.prog 152 55 (.slice none 0 0) 1 24:=EI.mk' Tryz.underlying152 (by kernel_rfl) rfl (by decide)
def rset (c:Conf) (vS vO vG vC vR:Value):Array Value:=#[.int .i64 c.ps,.int .i64 c.np,.int .i64 c.fa,.int .i64 c.mc,.int .i64 c.il,vS,vO,vG,vC,vR]
theorem rconf_cells {w:World} {b:Nat} {t:TypeId} {c:Conf} (h:Blk w b t c.rcells):w.cell? ⟨b,0,none⟩ = some (.int .i64 c.ps) /\ w.cell? ⟨b,1,none⟩ = some (.int .i64 c.np) /\ w.cell? ⟨b,2,none⟩ = some (.int .i64 c.fa) /\ w.cell? ⟨b,3,none⟩ = some (.int .i64 c.mc) /\
  w.cell? ⟨b,4,none⟩ = some (.int .i64 c.il):=⟨h.cell 0,h.cell 1,h.cell 2,h.cell 3,h.cell 4⟩
theorem reads_v (w:World) (v:Value) (e:TypeId):Reads (w.alloc (.cells #[v] e)) (w.heap.size + 1) 1 (some ⟨w.heap.size,0,none⟩) 1 [v] :=
 ⟨rfl,fun _ => ⟨_,rfl,Nat.lt_succ_self _,fun j u hj => by
  rw [add_explicit,Nat.zero_add,cell_of_row (w.alloc _) w.heap.size j _ e (0,0) (heap_alloc_new w _)]
  simpa using hj⟩⟩
structure RAt (w:World) (N b:Nat) (c:Conf) (i j:Nat):Prop where
 lt:N <= b
 parts:∃ vS A cp A' cp' A2 cp2,Blk w b 154 (rset c vS (.slice A i cp) (.slice A' i cp') (.slice none 0 0) (.slice A2 j cp2)) /\ w.ownsRow N 3 1 vS c.nc (((List.range c.nc).map c.sz).map iv) /\
  (∀ k,vS.ownBlock = some k -> k < b) /\ w.ownsRow (b + 1) 3 1 (.slice A i cp) i (List.replicate i (.int .i64 (-1))) /\ w.ownsRow (b + 1) 4 1 (.slice A' i cp') i (List.replicate i (.bool false)) /\
  w.ownsRow (b + 1) 55 1 (.slice A2 j cp2) j (List.replicate j (.slice none 0 0))
theorem own_base {w:World} {N n:Nat} {e:TypeId} {v:Value} {xs:List Value} {b:Nat} (h:w.ownsRow N e 1 v n xs) (hb:v.ownBlock = some b):N <= b:=by
 rcases h.2 with ⟨rfl,_⟩ | ⟨g,cap,cur,rfl,hB,hg,_⟩
 ·cases hb
 ·have:g = b:=by simpa [Value.ownBlock] using hb
  omega
theorem own_ne {w:World} {N n M m:Nat} {e e':TypeId} {v v':Value} {xs ys:List Value} {b:Nat} (h:w.ownsRow N e 1 v n xs) (h':w.ownsRow M e' 1 v' m ys) (he:e ≠ e') (hb:v.ownBlock = some b) (hb':v'.ownBlock = some b):False:=by
 rcases h.2 with ⟨rfl,_⟩ | ⟨g,cap,cur,rfl,_,hg,_⟩
 ·cases hb
 rcases h'.2 with ⟨rfl,_⟩ | ⟨g',cap',cur',rfl,_,hg',_⟩
 ·cases hb'
 have e1:g = b:=by simpa [Value.ownBlock] using hb
 have e2:g' = b:=by simpa [Value.ownBlock] using hb'
 subst e1 e2
 rw [hg] at hg'
 injection hg' with h1
 injection h1 with _ h2
 exact he h2
theorem kept_row {w w':World} {N n:Nat} {e:TypeId} {v:Value} {xs:List Value} {S:Nat -> Prop} (o:Only S w w') (h:w.ownsRow N e 1 v n xs) (hne:∀ k,v.ownBlock = some k -> ¬ S k):w'.ownsRow N e 1 v n xs :=
 own_kept h fun k e => o.block k (own_block h e) (hne k e)
theorem own_nil (w:World) (N:Nat) (e:TypeId):w.ownsRow N e 1 (.slice none 0 0) 0 []:=⟨rfl,.inl ⟨rfl,rfl⟩⟩
theorem rat_new {w3:World} {N M:Nat} {c:Conf} {A:Option Addr} {cp:Nat} (hM:N <= M) (h3:M <= w3.heap.size) (own:w3.ownsRow M 3 1 (.slice A c.nc cp) c.nc (((List.range c.nc).map c.sz).map iv)) :
  RAt (w3.alloc (.cells (rset c (.slice A c.nc cp) (.slice none 0 0) (.slice none 0 0) (.slice none 0 0) (.slice none 0 0)) 154)) N w3.heap.size c 0 0 :=
 ⟨by omega,_,none,0,none,0,none,0,Blk.new w3 _ _,(own_weak own hM).alloc _,fun k e => own_block own e,own_nil _ _ _,own_nil _ _ _,own_nil _ _ _⟩
theorem grown_row {w w6:World} {N b i n:Nat} {e t:TypeId} {cs:Array Value} {v v6 x:Value} {o:Obj} (hb:N <= b) (B:Blk w b t cs) (own:w.ownsRow (b + 1) e 1 v n (List.replicate n x)) (hg:(w.alloc o).grownBy w6 v.ownBlock)
  (own6:w6.ownsRow (b + 1) e 1 v6 (n + 1) (List.replicate n x ++ [x])):Only (fun k => v.ownBlock = some k) w w6 /\ Blk w6 b t cs /\ Blk (w6.setCell ⟨b,i,none⟩ v6) b t (cs.setIfInBounds i v6) /\ (w6.setCell ⟨b,i,none⟩ v6).ownsRow (b + 1) e 1 v6 (n + 1) (List.replicate (n + 1) x) /\
   Only (fun k => k = b \/ v.ownBlock = some k) w (w6.setCell ⟨b,i,none⟩ v6) /\ ∀ {B0:Nat} {w0:World},B0 <= b -> Below B0 w0 w -> Below B0 w0 (w6.setCell ⟨b,i,none⟩ v6):=by
 have o6:Only (fun k => v.ownBlock = some k) w w6:=((Only.refl _ w).alloc _).grown hg (fun k e _ => e)
 have B6:Blk w6 b t cs:=(o6.block b B.lt (fun e => by have:=own_base own e; omega)).trans B
 refine ⟨o6,B6,B6.set_ i v6,?_,(o6.mono fun k _ h => .inr h).setCell (fun _ => .inl rfl) v6,fun {B0 w0} h0 h1 => ?_⟩
 ·have e6:List.replicate (n + 1) x = List.replicate n x ++ [x]:=List.replicate_succ'
  rw [e6]
  refine own_kept own6 fun k ek => Below.heap_setCell w6 _ v6 k fun hk => ?_
  have:=own_base own6 ek
  have hk':k = b:=hk
  omega
 ·have hsz:=h1.size
  have hlt:=B.lt
  exact ((h1.alloc (by omega) o).grown hg (by rw [World.size_alloc]; omega) (fun k e => by have:=own_base own e; omega)).setCell h0 v6
set_option maxHeartbeats 1600000 in
theorem refNewC (w:World) (c:Conf) :
  Calls Tryz.prog 45 #[.agg c.rcells] w fun e w' => Below w.heap.size w w' /\
   ((refN c ≠ 0 /\ e = .returned (.tuple #[.pointer none,.int .i64 (refN c)])) \/ (refN c = 0 /\ ∃ b,e = .returned (.tuple #[.pointer (some ⟨b,0,none⟩),.int .i64 0]) /\ RAt w' w.heap.size b c c.cf.np c.nc)):=by
 obtain ⟨w1,hw1⟩:∃ w1,w1 = w.alloc (.cells c.rcells 81):=⟨_,rfl⟩
 have B1:Blk w1 w.heap.size 81 c.rcells:=by rw [hw1]; exact Blk.new w _ _
 have b1:Below w.heap.size w w1:=by rw [hw1]; exact (Below.refl _ _).alloc (Nat.le_refl _) _
 have s1:w1.heap.size = w.heap.size + 1:=by rw [hw1]; exact World.size_alloc _ _
 obtain ⟨x0,x1,x2,x3,x4⟩:=rconf_cells B1
 have RC:=Lib.hid (refusedC c w1)
 have SC:=Lib.hid (fun h => refSizesC c h)
 unfold Conf.rcells at RC SC hw1 ⊢
 replace hw1:=Lib.hid hw1
 replace B1:=Lib.hid B1
 generalize hN:w.heap.size = N at *
 replace hN:=Lib.hid hN
 go_enter Tryz.func45,Tryz.ntmps45
 go_upto_region 1 with fail
 rw [hN.out, <- hw1.out]
 go_wp2_with fail
 refine RC.out.mono ?_
 rintro e w2 ⟨rfl,b2⟩
 have B2:=B1.out.below b2 (by omega)
 have b12:=Lib.hid (b1.trans (b2.mono (B':=N) (by omega)))
 have s2:=b2.size
 by_cases hr:refN c = 0
 rotate_left
 ·have d1:(refN c != 0) = true:=by rw [bne_iff_ne]; exact hr
  have d2:decide (refN c = 0) = false:=by simp [hr]
  replace b1:=Lib.hid b1
  replace b2:=Lib.hid b2
  replace B2:=Lib.hid B2
  replace hr:=Lib.hid hr
  go_wp2
  go_ret2
  exact ⟨b12.out,.inl ⟨hr.out,rfl⟩⟩
 have hR:=(refN_zero hr).1
 rw [hr]
 obtain ⟨y0,y1,y2,y3,y4⟩:=rconf_cells B2
 have S2:=Lib.hid (SC.out hR w2.drew)
 have n1:=hR.np1
 have n2:=hR.np2
 have npE:=Lib.hid hR.npE
 replace B2:=Lib.hid B2
 replace hr:=Lib.hid hr
 replace hR:=Lib.hid hR
 clear x0 x1 x2 x3 x4 RC SC b1 hw1 B1 b2
 go_upto_region 4 with fail
 go_cut [5] from 13 to 17 (fun s5 wx => ∃ b,s5 = .pointer (some ⟨b,0,none⟩) /\ N + 1 <= b /\ Hid (RAt wx N b c 0 0) /\ Hid (Below (N + 1) w2 wx))
 case first =>
  go_region_law ((go_simp; first | (go_at_call 91; refine S2.out.mono ?_; rintro e w3 ⟨v,rfl,own,b3⟩; obtain ⟨A,cp,rfl⟩:=own_is own; have B3:=B2.out.below (Below.drew (Below.refl _ w2) |>.trans b3) (show N < w2.heap.size by omega); obtain ⟨z0,z1,z2,z3,z4⟩:=rconf_cells B3)))
  all_goals
   have M:=rat_new (N:=N) (c:=c) (by show N <= w2.heap.size; omega) b3.size own
   have b4:Below (N + 1) w2 (w3.alloc (.cells (rset c (.slice A c.nc cp) (.slice none 0 0) (.slice none 0 0) (.slice none 0 0) (.slice none 0 0)) 154)):=by
    have h3:=b3.size
    have h3':w2.heap.size <= w3.heap.size:=h3
    exact (((Below.refl _ w2).drew).trans (b3.mono (show N + 1 <= w2.heap.size by omega))).alloc (by omega) _
   have hb3:N + 1 <= w3.heap.size:=by
    have h3:=b3.size
    have h3':w2.heap.size <= w3.heap.size:=h3
    omega
   unfold rset at M b4
   replace M:=Lib.hid M
   replace b4:=Lib.hid b4
   clear own b3 B3
   go_wp2_with fail
   go_meet
   exact ⟨_,rfl,hb3,M,b4⟩
 case rest =>
  obtain ⟨b,rfl,hb,H,b23⟩:=hcut
  clear S2
  go_wp2_with fail
  go_loopw [6] (fun v wr => ∃ j:Nat,v = .int .i64 (j:Int) /\ j <= c.cf.np /\ Hid (RAt wr N b c j 0) /\ Hid (Below (N + 1) w2 wr)) (fun v _ => c.cf.np - (intOf v).toNat)
  case atStart => exact ⟨0,rfl,Nat.zero_le _,H,b23⟩
  case round =>
   obtain ⟨j,rfl,hj,H,b2r⟩:=hrel
   clear b23 y0 y1 y2 y3 y4
   obtain ⟨-,y1, -, -, -⟩:=rconf_cells (B2.out.below b2r.out (Nat.lt_succ_self N))
   obtain ⟨vS,A,cp,A',cp',A2,cp2,B,oS,hS,oO,oG,oR⟩:=H.out.parts
   have hnp:c.cf.np <= 1024:=by have:=npE.out; omega
   by_cases hjn:j < c.cf.np
   ·have d1:decide ((j:Int) < c.np) = true:=by have:=npE.out; rw [decide_eq_true_eq]; omega
    have c6:wr.cell? ⟨b,6,none⟩ = some (.slice A j cp):=B.cell 6
    have q1:IntKind.i64.wrap ((j:Int) + 1) = (j:Int) + 1:=IntWalk.i64_in _ (by omega)
    have hlt:=B.lt
    go_upto_region 8 with fail
    go_wp2_with (at_builtin; refine wpList_app rfl _ _ _ rfl eiI (b + 1) _ _ _ rfl (oO.alloc _) (wr.heap.size + 1) (some ⟨wr.heap.size,0,none⟩) 1 1 [.int .i64 (-1)] rfl ?c1 ?c2 ?c3 ?c4 ?c5 ?_)
    case c1 => exact reads_v wr _ _
    case c2 => intro u hu; rw [List.mem_singleton] at hu; subst hu; rfl
    case c3 => unfold maxLen; omega
    case c4 => omega
    case c5 => rw [World.size_alloc]; omega
    intro VV w6 own6 hg6 hat6
    obtain ⟨A6,cp6,rfl⟩:=own_is own6
    obtain ⟨o6,B6,B7,oO7,o7,bl7⟩:=grown_row (i:=6) (show N <= b by omega) B oO hg6 own6
    have f6:w6.frozen? ⟨b,6,none⟩ = false:=B6.frozen 6
    have c6':w6.cell? ⟨b,6,none⟩ = some (.slice A j cp):=B6.cell 6
    obtain ⟨w7,hw7⟩:∃ w7,w7 = w6.setCell ⟨b,6,none⟩ (.slice A6 (j + 1) cp6):=⟨_,rfl⟩
    rw [<- hw7] at B7 oO7 o7 bl7
    have b27:=bl7 hb b2r.out
    have oS7:=kept_row o7 oS (fun k e h => h.elim (fun h => by have:=hS k e; omega) (fun h => by have:=own_base oO h; have:=hS k e; omega))
    have oG7:=kept_row o7 oG (fun k e h => h.elim (fun h => by have:=own_base oG e; omega) (fun h => own_ne oO oG (by decide) h e))
    have oR7:=kept_row o7 oR (fun k e h => h.elim (fun h => by have:=own_base oR e; omega) (fun h => own_ne oO oR (by decide) h e))
    replace hw7:=Lib.hid hw7
    replace B7:=Lib.hid B7
    replace b27:=Lib.hid b27
    replace oS7:=Lib.hid oS7
    replace oO7:=Lib.hid oO7
    clear o6 o7 bl7 B oS oO oG oR own6 hg6 hat6 c6 B6 hlt
    go_upto_region 9 with fail
    rw [<- hw7.out]
    clear f6 c6'
    have c7:w7.cell? ⟨b,7,none⟩ = some (.slice A' j cp'):=B7.out.cell 7
    have hlt:=B7.out.lt
    go_wp2_with (at_builtin; refine wpList_app rfl _ _ _ rfl eiB (b + 1) _ _ _ rfl (oG7.alloc _) (w7.heap.size + 1) (some ⟨w7.heap.size,0,none⟩) 1 1 [.bool false] rfl ?c1 ?c2 ?c3 ?c4 ?c5 ?_)
    case c1 => exact reads_v w7 _ _
    case c2 => intro u hu; rw [List.mem_singleton] at hu; subst hu; rfl
    case c3 => unfold maxLen; omega
    case c4 => omega
    case c5 => rw [World.size_alloc]; omega
    intro VV w8 own8 hg8 hat8
    obtain ⟨A8,cp8,rfl⟩:=own_is own8
    obtain ⟨o8,B8,B9,oG9,o9,bl9⟩:=grown_row (i:=7) (show N <= b by omega) B7.out oG7 hg8 own8
    have f8:w8.frozen? ⟨b,7,none⟩ = false:=B8.frozen 7
    have c8':w8.cell? ⟨b,7,none⟩ = some (.slice A' j cp'):=B8.cell 7
    obtain ⟨w9,hw9⟩:∃ w9,w9 = w8.setCell ⟨b,7,none⟩ (.slice A8 (j + 1) cp8):=⟨_,rfl⟩
    rw [<- hw9] at B9 oG9 o9 bl9
    have b29:=Lib.hid (bl9 hb b27.out)
    have oS9:=kept_row o9 oS7.out (fun k e h => h.elim (fun h => by have:=hS k e; omega) (fun h => by have:=own_base oG7 h; have:=hS k e; omega))
    have oO9:=kept_row o9 oO7.out (fun k e h => h.elim (fun h => by have:=own_base oO7.out e; omega) (fun h => own_ne oG7 oO7.out (by decide) h e))
    have oR9:=kept_row o9 oR7 (fun k e h => h.elim (fun h => by have:=own_base oR7 e; omega) (fun h => own_ne oG7 oR7 (by decide) h e))
    have H9:Hid (RAt w9 N b c (j + 1) 0):=Lib.hid ⟨by omega,vS,A6,cp6,A8,cp8,A2,cp2,B9,oS9,hS,oO9,oG9,oR9⟩
    replace hw9:=Lib.hid hw9
    clear o8 B8 B9 oG9 o9 bl9 oS9 oO9 oR9 own8 hg8 hat8 oS7 oO7 oG7 oR7 B7 b27 hlt c7
    go_upto_region 7 with fail
    rw [<- hw9.out]
    clear f8 c8'
    go_wp2
    go_roundw
    case rel => exact ⟨j + 1,by simp,by omega,H9,b29⟩
    case measure => simp [intOf] <;> omega
   ·obtain rfl:j = c.cf.np:=by omega
    have d1:decide ((c.cf.np:Int) < c.np) = false:=by have:=npE.out; rw [decide_eq_false_iff_not]; omega
    clear oS hS oO oG oR B y1 d1
    have d1:decide ((c.cf.np:Int) < c.np) = false:=by have:=npE.out; rw [decide_eq_false_iff_not]; omega
    obtain ⟨-,y1, -, -, -⟩:=rconf_cells (B2.out.below b2r.out (Nat.lt_succ_self N))
    go_wp2_with fail
    clear y1 d1
    go_loopw [7] (fun v ws => ∃ j:Nat,v = .int .i64 (j:Int) /\ j <= c.nc /\ Hid (RAt ws N b c c.cf.np j) /\ Hid (Below (N + 1) w2 ws)) (fun v _ => c.nc - (intOf v).toNat)
    case atStart => exact ⟨0,rfl,Nat.zero_le _,H,b2r⟩
    case round =>
     obtain ⟨j,rfl,hj,H,b2r⟩:=hrel
     obtain ⟨vS,A,cp,A',cp',A2,cp2,B,oS,hS,oO,oG,oR⟩:=H.out.parts
     obtain ⟨AS,cS,rfl⟩:=own_is oS
     have c5:wr.cell? ⟨b,5,none⟩ = some (.slice AS c.nc cS):=B.cell 5
     have c9:wr.cell? ⟨b,9,none⟩ = some (.slice A2 j cp2):=B.cell 9
     by_cases hjn:j < c.nc
     ·have d1:decide ((j:Int) < (c.nc:Int)) = true:=by simp; omega
      have h62:c.nc <= 62:=(okOf hr.out).1.ncb
      have q1:IntKind.i64.wrap ((j:Int) + 1) = (j:Int) + 1:=IntWalk.i64_in _ (by omega)
      have hlt:=B.lt
      go_upto_region 13 with fail
      go_wp2_with (at_builtin; refine wpList_app rfl _ _ _ rfl eiII (b + 1) _ _ _ rfl (oR.alloc _) (wr.heap.size + 1) (some ⟨wr.heap.size,0,none⟩) 1 1 [.slice none 0 0] rfl ?c1 ?c2 ?c3 ?c4 ?c5 ?_)
      case c1 => exact reads_v wr _ _
      case c2 => intro u hu; rw [List.mem_singleton] at hu; subst hu; rfl
      case c3 => unfold maxLen; omega
      case c4 => omega
      case c5 => rw [World.size_alloc]; omega
      intro VV w6 own6 hg6 hat6
      obtain ⟨A6,cp6,rfl⟩:=own_is own6
      obtain ⟨o6,B6,B7,oR7,o7,bl7⟩:=grown_row (i:=9) (show N <= b by omega) B oR hg6 own6
      have f6:w6.frozen? ⟨b,9,none⟩ = false:=B6.frozen 9
      have c6':w6.cell? ⟨b,9,none⟩ = some (.slice A2 j cp2):=B6.cell 9
      obtain ⟨w7,hw7⟩:∃ w7,w7 = w6.setCell ⟨b,9,none⟩ (.slice A6 (j + 1) cp6):=⟨_,rfl⟩
      rw [<- hw7] at B7 oR7 o7 bl7
      have b27:=Lib.hid (bl7 hb b2r.out)
      have oS7:=kept_row o7 oS (fun k e h => h.elim (fun h => by have:=hS k e; omega) (fun h => by have:=own_base oR h; have:=hS k e; omega))
      have oG7:=kept_row o7 oG (fun k e h => h.elim (fun h => by have:=own_base oG e; omega) (fun h => own_ne oR oG (by decide) h e))
      have oO7:=kept_row o7 oO (fun k e h => h.elim (fun h => by have:=own_base oO e; omega) (fun h => own_ne oR oO (by decide) h e))
      have H7:Hid (RAt w7 N b c c.cf.np (j + 1)):=Lib.hid ⟨by omega,.slice AS c.nc cS,A,cp,A',cp',A6,cp6,B7,oS7,hS,oO7,oG7,oR7⟩
      replace hw7:=Lib.hid hw7
      clear o6 o7 bl7 B oS oO oG oR own6 hg6 hat6 c5 c9 B6 hlt oS7 oG7 oO7 oR7 B7
      go_upto_region 12 with fail
      rw [<- hw7.out]
      clear f6 c6'
      go_wp2
      go_roundw
      case rel => exact ⟨j + 1,by simp,by omega,H7,b27⟩
      case measure => simp [intOf] <;> omega
     ·obtain rfl:j = c.nc:=by omega
      have d1:decide ((c.nc:Int) < (c.nc:Int)) = false:=by simp
      clear oS hS oO oG oR B
      go_wp2
      go_ret2
      exact ⟨b12.out.trans (b2r.out.mono (Nat.le_succ N)),.inr ⟨hr.out,b,rfl,H.out⟩⟩
theorem arenaC (w:World) (L:Lay) (c:Conf) (s:St) (bs:List UInt8) (h:SetAt w L c s bs):Calls Tryz.prog 75 #[.pointer (some ⟨L.g,0,none⟩)] w fun e w' => e = .returned (.pointer (some ⟨L.ga,0,none⟩)) /\ w = w':=by
 have c7:=h.cArena
 clear h
 go_enter Tryz.func75,Tryz.ntmps75
 go_wp2
 go_ret
 exact ⟨rfl,rfl⟩
theorem Went.away {w w':World} {L L':Lay} {c:Conf} {s s':St} (h:Went w w' L L' c s s') {b:Nat} {t:TypeId} {cs:Array Value} (B:Blk w b t cs) (ha:¬ Foot L c s b):Blk w' b t cs /\ ¬ Foot L' c s' b :=
 ⟨(h.only.block b B.lt ha).trans B,fun hf => (h.foot b hf).elim ha fun h1 => by have:=B.lt; omega⟩
theorem Went.below {w w':World} {L L':Lay} {c:Conf} {s s':St} (h:Went w w' L L' c s s') {N:Nat} (F:∀ b,Foot L c s b -> N <= b) (hN:N <= w.heap.size):Below N w w' /\ (∀ b,Foot L' c s' b -> N <= b) /\ N <= w'.heap.size :=
 ⟨⟨h.only.os,h.only.tape,h.only.output,h.only.size,fun k hk => h.only.block k (by omega) fun hf => by have:=F k hf; omega⟩,fun b hf => (h.foot b hf).elim (F b) fun h1 => by omega,Nat.le_trans hN h.only.size⟩
def hnd (p g:Nat):Nat:=g * 4294967296 + (p / 8 + 1)
theorem handleC (w:World) (p g:Nat) (hp:p <= 1073741824) (hg:g < 4294967296):Calls Tryz.prog 100 #[.int .i64 (p:Int),.int .u32 (g:Int)] w fun e w' => e = .returned (.int .u64 (hnd p g:Int)) /\ w = w':=by
 have q1:((p:Int)).tdiv 8 = ((p / 8:Nat):Int):=by rw [Int.tdiv_eq_ediv_of_nonneg (by omega)]; omega
 have q2:IntKind.i64.wrap ((p / 8:Nat):Int) = ((p / 8:Nat):Int):=IntWalk.i64_in _ (by omega)
 have q3:IntKind.i64.wrap (((p / 8:Nat):Int) + 1) = ((p / 8:Nat):Int) + 1:=IntWalk.i64_in _ (by omega)
 have q4:IntKind.u64.wrap (((p / 8:Nat):Int) + 1) = ((p / 8:Nat):Int) + 1:=IntWalk.u64_in _ (by omega)
 have q5:IntKind.u64.wrap (g:Int) = (g:Int):=IntWalk.u64_in _ (by omega)
 have q6:IntKind.u64.wrap ((g:Int) * 4294967296) = (g:Int) * 4294967296:=IntWalk.u64_in _ (by omega)
 have q7:IntKind.u64.wrap ((g:Int) * 4294967296 + (((p / 8:Nat):Int) + 1)) = (hnd p g:Int):=by rw [IntWalk.u64_in _ (by omega)]; unfold hnd; omega
 generalize hq:p / 8 = q at *
 generalize hnd p g = H at *
 clear hq
 go_enter Tryz.func100,Tryz.ntmps100
 go_wp2
 go_ret
 exact ⟨rfl,rfl⟩
section
variable {w:World} {L:Lay} {c:Conf} {s:St} {bs:List UInt8}
theorem isC (h:SetAt w L c s bs) (k:Int):Calls Tryz.prog 96 #[.pointer (some ⟨L.g,0,none⟩),.int .i64 k] w fun e w' => e = .returned (.bool (decide (0 <= k /\ k < (c.nc:Int)))) /\ w = w':=by
 have c8:=h.cSizes
 clear h
 by_cases h0 : 0 <= k
 ·have d0:decide (0 <= k) = true:=decide_eq_true h0
  have e:decide (0 <= k /\ k < (c.nc:Int)) = decide (k < (c.nc:Int)):=by simp [h0]
  rw [e]
  clear e
  go_enter Tryz.func96,Tryz.ntmps96
  go_wp2
  go_ret
  exact ⟨rfl,rfl⟩
 ·have d0:decide (0 <= k) = false:=decide_eq_false h0
  have e:decide (0 <= k /\ k < (c.nc:Int)) = false:=by simp; omega
  rw [e]
  clear e
  go_enter Tryz.func96,Tryz.ntmps96
  go_wp2
  go_ret
  exact ⟨rfl,rfl⟩
end
theorem drew_here (w:World):∃ m,w.drewN m = w:=⟨0,rfl⟩
theorem drew_more {w w':World} {k:Nat} (h:∃ m,w.drewN m = w'):∃ m,w.drewN m = w'.drewN k:=by
 obtain ⟨m,rfl⟩:=h
 exact ⟨m + k,by simp [World.drewN,Nat.add_assoc]⟩
theorem tdivN (a b:Nat):((a:Int)).tdiv (b:Int) = ((a / b:Nat):Int):=by rw [Int.tdiv_eq_ediv_of_nonneg (by omega)]; exact (Int.natCast_ediv _ _).symm
theorem tmodN (a b:Nat):((a:Int)).tmod (b:Int) = ((a % b:Nat):Int):=by rw [Int.tmod_eq_emod_of_nonneg (by omega)]; exact (Int.natCast_emod _ _).symm
def chunkV (L:Lay) (r:Option (Nat × Nat)):Value :=
 match r with
 | some (i,x) => .tuple #[.pointer (some ⟨L.gp,i * 7,none⟩),.int .i64 (x:Int),.bool true]
 | none => .tuple #[.pointer none,.int .i64 0,.bool false]
def chunkN (d:Cf) (s:St) (p:Int):Option (Nat × Nat) :=
 if 0 <= p /\ p < ((d.ps * d.np:Nat):Int) then
  (if s.own (p.toNat / d.ps) = true /\ p.toNat % d.ps % d.sz (s.cls (p.toNat / d.ps)) = 0 /\ p.toNat % d.ps / d.sz (s.cls (p.toNat / d.ps)) < d.n (s.cls (p.toNat / d.ps)) then some (p.toNat / d.ps,p.toNat % d.ps / d.sz (s.cls (p.toNat / d.ps))) else none) else none
set_option maxHeartbeats 1600000 in
theorem chunkC (w:World) (L:Lay) (c:Conf) (s:St) (bs:List UInt8) (h:SetAt w L c s bs) (g:Good c.cf s) (p:Int) :
  Calls Tryz.prog 137 #[.pointer (some ⟨L.g,0,none⟩),.int .i64 p] w fun e w' => e = .returned (chunkV L (chunkN c.cf s p)) /\ ∃ m,w.drewN m = w':=by
 have ok:=h.okc
 have A:=h.arena ok
 have LC:=Lib.hid (Arena.lenC w L.ga L.ha c.cf.ps bs A)
 rw [h.len] at LC
 have c0:=h.cPs
 have c7:=h.cArena
 have c8:=h.cSizes
 have c9:=h.cPages
 have H:=Lib.hid h
 clear A h
 unfold chunkN
 by_cases h0 : 0 <= p
 ·obtain ⟨p,rfl⟩:=Int.eq_ofNat_of_zero_le h0
  have d0:decide ((p:Int) < 0) = false:=by simp
  by_cases h1:p < c.cf.ps * c.cf.np
  ·have d1:decide (((c.cf.ps * c.cf.np:Nat):Int) <= (p:Int)) = false:=by simp only [decide_eq_false_iff_not]; omega
   rw [if_pos ⟨h0,by omega⟩,Int.toNat_natCast]
   have d1':decide (c.cf.ps * c.cf.np <= p) = false:=by simp only [decide_eq_false_iff_not]; omega
   have b4:=ok.psb
   have b5:=ok.ps
   have b6:=ok.npb
   have hPb:c.cf.ps * c.cf.np <= 1048576 * 1024:=Nat.mul_le_mul b4 b6
   have hi:p / c.cf.ps < c.cf.np:=by
    refine (Nat.div_lt_iff_lt_mul (by omega)).2 ?_
    rwa [Nat.mul_comm]
   have hr:p % c.cf.ps < c.cf.ps:=Nat.mod_lt _ (by omega)
   have q1:=tdivN p c.cf.ps
   have q3:=tmodN p c.cf.ps
   have z0:¬ (c.cf.ps:Int) = 0:=by omega
   have p0:=H.out.p0 hi
   have p2:=H.out.p2 hi
   have p3:=fun ho => H.out.p3 hi ho
   have hcl:=g.cls (p / c.cf.ps) hi
   have hsz:=fun hk => H.out.sz (k:=s.cls (p / c.cf.ps)) hk
   have hok:=fun hk => ok.sz (s.cls (p / c.cf.ps)) hk
   generalize c.cf.ps * c.cf.np = T at *
   have hpT:p <= 1073741824:=by omega
   generalize p / c.cf.ps = i at *
   generalize p % c.cf.ps = r at *
   have q2:IntKind.i64.wrap (i:Int) = (i:Int):=IntWalk.i64_in _ (by omega)
   have q2r:IntKind.i64.wrap (r:Int) = (r:Int):=IntWalk.i64_in _ (by omega)
   have i0:(0:Int) <= (i:Int):=by omega
   have i1:(i:Int) < (c.cf.np:Int):=by omega
   replace ok:=Lib.hid ok
   replace hi:=Lib.hid hi
   by_cases ho:s.own i = true
   ·have hk:s.cls i < c.cf.nc:=hcl ho
    have hk':s.cls i < c.nc:=hk
    have dz:=hsz hk'
    have p3:=p3 ho
    obtain ⟨e1,e2,e3⟩:=hok hk
    have hn:=n_pos ok.out hk
    rw [ho] at p0
    clear hsz hok hcl p3
    have p3:=H.out.p3 hi.out ho
    have k0:(0:Int) <= (s.cls i:Int):=by omega
    have k1:(s.cls i:Int) < (c.nc:Int):=by omega
    have hnd:c.cf.n (s.cls i) = c.cf.n (s.cls i):=rfl
    have esz:c.cf.sz (s.cls i) = c.sz (s.cls i):=rfl
    rw [esz] at e1 e2 e3 ⊢
    generalize s.cls i = k at *
    generalize c.sz k = z at *
    generalize c.cf.n k = n at *
    have z1:¬ (z:Int) = 0:=by omega
    have q4:=tmodN r z
    have q5:=tdivN r z
    have hd:r / z <= r:=Nat.div_le_self r z
    have hm:r % z <= r:=Nat.mod_le r z
    generalize r % z = rm at *
    generalize r / z = rd at *
    have q6:IntKind.i64.wrap (rd:Int) = (rd:Int):=IntWalk.i64_in _ (by omega)
    have q7:IntKind.i64.wrap (rm:Int) = (rm:Int):=IntWalk.i64_in _ (by omega)
    clear hnd esz hk hk' e3
    by_cases h2:rm = 0
    ·subst h2
     by_cases h3:rd < n
     ·rw [if_pos ⟨ho,rfl,h3⟩]
      have d3:decide ((n:Int) <= (rd:Int)) = false:=by simp; omega
      have d3':decide (n <= rd) = false:=by simp; omega
      unfold chunkV
      clear h1
      go_enter Tryz.func137,Tryz.ntmps137
      go_wp2_with fail
      refine LC.out.mono ?_
      rintro e w' ⟨rfl,_,rfl⟩
      go_wp2
      try (go_quiet (fail); go_wp2)
      try (go_quiet (fail); go_wp2)
      try (go_quiet (fail); go_wp2)
      try (go_quiet (fail); go_wp2)
      go_ret3
      exact ⟨rfl,by repeat (first | exact drew_here _ | refine drew_more ?_)⟩
     ·rw [if_neg (fun e => h3 e.2.2)]
      have d3:decide ((n:Int) <= (rd:Int)) = true:=by simp; omega
      have d3':decide (n <= rd) = true:=by simp; omega
      unfold chunkV
      clear h1
      go_enter Tryz.func137,Tryz.ntmps137
      go_wp2_with fail
      refine LC.out.mono ?_
      rintro e w' ⟨rfl,_,rfl⟩
      go_wp2
      try (go_quiet (fail); go_wp2)
      try (go_quiet (fail); go_wp2)
      try (go_quiet (fail); go_wp2)
      try (go_quiet (fail); go_wp2)
      go_ret3
      exact ⟨rfl,by repeat (first | exact drew_here _ | refine drew_more ?_)⟩
    ·rw [if_neg (fun e => h2 e.2.1)]
     have d2:decide ((rm:Int) = 0) = false:=by simp; omega
     have d2':((rm:Int) != 0) = true:=by rw [bne_iff_ne]; omega
     unfold chunkV
     clear h1
     go_enter Tryz.func137,Tryz.ntmps137
     go_wp2_with fail
     refine LC.out.mono ?_
     rintro e w' ⟨rfl,_,rfl⟩
     go_wp2
     try (go_quiet (fail); go_wp2)
     try (go_quiet (fail); go_wp2)
     try (go_quiet (fail); go_wp2)
     try (go_quiet (fail); go_wp2)
     go_ret3
     exact ⟨rfl,by repeat (first | exact drew_here _ | refine drew_more ?_)⟩
   ·rw [if_neg (fun e => ho e.1)]
    have ho':s.own i = false:=by simpa using ho
    rw [ho'] at p0
    unfold chunkV
    clear h1 hsz hok hcl p3
    go_enter Tryz.func137,Tryz.ntmps137
    go_wp2_with fail
    refine LC.out.mono ?_
    rintro e w' ⟨rfl,_,rfl⟩
    go_wp2
    try (go_quiet (fail); go_wp2)
    go_ret3
    exact ⟨rfl,by repeat (first | exact drew_here _ | refine drew_more ?_)⟩
  ·rw [if_neg (fun e => h1 (by omega))]
   have d1:decide (((c.cf.ps * c.cf.np:Nat):Int) <= (p:Int)) = true:=by simp only [decide_eq_true_eq]; omega
   have d1':decide (c.cf.ps * c.cf.np <= p) = true:=by simp only [decide_eq_true_eq]; omega
   unfold chunkV
   generalize c.cf.ps * c.cf.np = T at *
   go_enter Tryz.func137,Tryz.ntmps137
   go_wp2_with fail
   refine LC.out.mono ?_
   rintro e w' ⟨rfl,rfl⟩
   go_wp2
   go_ret3
   exact ⟨rfl,0,rfl⟩
 ·rw [if_neg (fun e => h0 e.1)]
  have d0:decide (p < 0) = true:=by simp; omega
  unfold chunkV
  go_enter Tryz.func137,Tryz.ntmps137
  go_wp2
  go_ret3
  exact ⟨rfl,0,rfl⟩
theorem results_tmp4 {fn:Func} {t u v x:Tmp} (h:fn.results = #[.tmp t,.tmp u,.tmp v,.tmp x]) (tmps:Array Value) (P:Program) (w:World) :
  (results fn tmps).run P w = .ok (.tuple #[tmps.getD t undef,tmps.getD u undef,tmps.getD v undef,tmps.getD x undef]) w:=by
 simp [results,h]
theorem mask (h:Nat) (hh:h < 18446744073709551616):bits .and .u64 (h:Int) 4294967295 = ((h % 4294967296:Nat):Int):=by
 have:=u64_and_nat h 4294967295 hh (by decide)
 rw [show ((4294967295:Nat):Int) = 4294967295 from rfl] at this
 rw [this,show (4294967295:Nat) = 2 ^ 32 - 1 from rfl,Nat.and_two_pow_sub_one_eq_mod]
def findV (L:Lay) (d:Cf) (r:Option (Nat × Nat × Nat)):Value :=
 match r with
 | some (i,x,p) => .tuple #[.pointer (some ⟨L.gp,i * 7,none⟩),.int .i64 (x:Int),.int .i64 (p:Int),.bool true]
 | none => .tuple #[.pointer none,.int .i64 0,.int .i64 0,.bool false]
def findN (d:Cf) (s:St) (h:Nat):Option (Nat × Nat × Nat) :=
 if h % 4294967296 = 0 \/ d.ps * d.np / 8 < h % 4294967296 then none else
  match chunkN d s (((h % 4294967296 - 1) * 8:Nat):Int) with
  | some (i,x) => if s.tkn i x = true /\ s.gens i x = h / 4294967296 then some (i,x,(h % 4294967296 - 1) * 8) else none
  | none => none
set_option maxHeartbeats 1600000 in
theorem findC (w:World) (L:Lay) (c:Conf) (s:St) (bs:List UInt8) (h:SetAt w L c s bs) (g:Good c.cf s) (H:Nat) (hH:H < 18446744073709551616) :
  Calls Tryz.prog 119 #[.pointer (some ⟨L.g,0,none⟩),.int .u64 (H:Int)] w fun e w' => e = .returned (findV L c.cf (findN c.cf s H)) /\ ∃ m,w.drewN m = w':=by
 have ok:=h.okc
 have A:=h.arena ok
 have LC:=Lib.hid (Arena.lenC w L.ga L.ha c.cf.ps bs A)
 rw [h.len] at LC
 have CC:=Lib.hid (chunkC w L c s bs h g)
 have c7:=h.cArena
 have hs:=Lib.hid h
 clear A h
 have b4:=ok.psb
 have b5:=ok.ps
 have b6:=ok.npb
 have hPb:c.cf.ps * c.cf.np <= 1048576 * 1024:=Nat.mul_le_mul b4 b6
 have m1:=mask H hH
 have m2:((H:Int) / 4294967296) = ((H / 4294967296:Nat):Int):=by omega
 have m3:H / 4294967296 < 4294967296:=by omega
 have m4:H % 4294967296 < 4294967296:=by omega
 unfold findN
 have hcn:∀ p i x,chunkN c.cf s p = some (i,x) -> i < c.cf.np /\ s.own i = true /\ x < c.cf.n (s.cls i):=by
  intro p i x e
  unfold chunkN at e
  split at e
  ·rename_i hp
   split at e
   ·rename_i hh
    injection e with e
    injection e with e1 e2
    rw [e1] at hh e2
    rw [e2] at hh
    exact ⟨g.top i hh.1,hh.1,hh.2.2⟩
   ·cases e
  ·cases e
 generalize H % 4294967296 = n at *
 generalize H / 4294967296 = u at *
 have m5:IntKind.u32.wrap (u:Int) = (u:Int):=IntWalk.u32_in _ (by omega)
 have q1:(((c.cf.ps * c.cf.np:Nat):Int)).tdiv 8 = ((c.cf.ps * c.cf.np / 8:Nat):Int):=by rw [Int.tdiv_eq_ediv_of_nonneg (by omega)]; omega
 generalize c.cf.ps * c.cf.np = T at *
 have q2:IntKind.i64.wrap ((T / 8:Nat):Int) = ((T / 8:Nat):Int):=IntWalk.i64_in _ (by omega)
 have q3:IntKind.u64.wrap ((T / 8:Nat):Int) = ((T / 8:Nat):Int):=IntWalk.u64_in _ (by omega)
 have hT8:T / 8 <= 134217728:=by omega
 generalize T / 8 = t at *
 clear hPb
 replace ok:=Lib.hid ok
 by_cases h0:n = 0
 ·rw [if_pos (.inl h0)]
  have d0:decide ((n:Int) = 0) = true:=by simp; omega
  have d0':decide (n = 0) = true:=by simp; omega
  unfold findV
  clear hcn
  go_enter Tryz.func119,Tryz.ntmps119
  go_wp2
  (try simp only [Exit.inBlock,Exit.then]); refine bodyPost_ret (results_tmp4 rfl _ _ _) rfl ?_
  exact ⟨rfl,0,rfl⟩
 ·have d0:decide ((n:Int) = 0) = false:=by simp; omega
  have d0':decide (n = 0) = false:=by simp; omega
  by_cases h1:t < n
  ·rw [if_pos (.inr h1)]
   have d1:decide ((t:Int) < (n:Int)) = true:=by simp; omega
   have d1':decide (t < n) = true:=by simp; omega
   unfold findV
   clear hcn
   go_enter Tryz.func119,Tryz.ntmps119
   go_wp2_with fail
   refine LC.out.mono ?_
   rintro e w' ⟨rfl,rfl⟩
   go_wp2
   (try simp only [Exit.inBlock,Exit.then]); refine bodyPost_ret (results_tmp4 rfl _ _ _) rfl ?_
   exact ⟨rfl,0,rfl⟩
  ·rw [if_neg (fun e => e.elim h0 h1)]
   have d1:decide ((t:Int) < (n:Int)) = false:=by simp; omega
   have d1':decide (t < n) = false:=by simp; omega
   have q4:IntKind.u64.wrap ((n:Int) - 1) = (n:Int) - 1:=IntWalk.u64_in _ (by omega)
   have q5:IntKind.i64.wrap ((n:Int) - 1) = (n:Int) - 1:=IntWalk.i64_in _ (by omega)
   have q6:IntKind.i64.wrap (((n:Int) - 1) * 8) = (((n - 1) * 8:Nat):Int):=by rw [IntWalk.i64_in _ (by omega)]; omega
   have C1:=Lib.hid (CC.out (((n - 1) * 8:Nat):Int))
   have hcn:=hcn (((n - 1) * 8:Nat):Int)
   clear CC
   generalize (n - 1) * 8 = P at *
   cases hch:chunkN c.cf s (P:Int) with
   | none =>
    rw [hch] at C1
    unfold chunkV at C1
    clear hcn hch
    simp only
    unfold findV
    go_enter Tryz.func119,Tryz.ntmps119
    go_wp2_with fail
    refine LC.out.mono ?_
    rintro e w' ⟨rfl,rfl⟩
    go_wp2_with fail
    refine C1.out.mono ?_
    rintro e w' ⟨rfl,m,rfl⟩
    go_wp2
    (try simp only [Exit.inBlock,Exit.then]); refine bodyPost_ret (results_tmp4 rfl _ _ _) rfl ?_
    exact ⟨rfl,by repeat (first | exact drew_here _ | refine drew_more ?_)⟩
   | some r =>
    obtain ⟨i,x⟩:=r
    rw [hch] at C1
    obtain ⟨hi,ho,hx⟩:=hcn i x hch
    unfold chunkV at C1
    clear hcn hch
    simp only at C1 ⊢
    have x0:(0:Int) <= (x:Int):=by omega
    have x1:(x:Int) < (c.cf.n (s.cls i):Int):=by omega
    have p3:=fun m => (hs.out.drewN m).p3 hi ho
    have p4:=fun m => (hs.out.drewN m).p4 hi ho
    have tk:=fun m => (hs.out.drewN m).tk hi ho hx
    have gn:=fun m => (hs.out.drewN m).gen hi ho hx
    have hgb:=g.gen i x
    cases ht:s.tkn i x with
    | false =>
     rw [if_neg (fun e => by cases e.1)]
     unfold findV
     simp only [ht] at tk
     go_enter Tryz.func119,Tryz.ntmps119
     go_wp2_with fail
     refine LC.out.mono ?_
     rintro e w' ⟨rfl,rfl⟩
     go_wp2_with fail
     refine C1.out.mono ?_
     rintro e w' ⟨rfl,m,rfl⟩
     have p3:=p3 m
     have p4:=p4 m
     have tk:=tk m
     have gn:=gn m
     go_wp2
     (try simp only [Exit.inBlock,Exit.then]); refine bodyPost_ret (results_tmp4 rfl _ _ _) rfl ?_
     exact ⟨rfl,by repeat (first | exact drew_here _ | refine drew_more ?_)⟩
    | true =>
     simp only [ht] at tk
     by_cases hgu:s.gens i x = u
     ·rw [if_pos ⟨rfl,hgu⟩]
      unfold findV
      have d2:decide (s.gens i x = u) = true:=by simp [hgu]
      have d2n:((s.gens i x:Int) != (u:Int)) = false:=by rw [bne_eq_false_iff_eq]; omega
      replace hgu:=Lib.hid hgu
      go_enter Tryz.func119,Tryz.ntmps119
      go_wp2_with fail
      refine LC.out.mono ?_
      rintro e w' ⟨rfl,rfl⟩
      go_wp2_with fail
      refine C1.out.mono ?_
      rintro e w' ⟨rfl,m,rfl⟩
      have p3:=p3 m
      have p4:=p4 m
      have tk:=tk m
      have gn:=gn m
      go_wp2
      (try simp only [Exit.inBlock,Exit.then]); refine bodyPost_ret (results_tmp4 rfl _ _ _) rfl ?_
      exact ⟨rfl,by repeat (first | exact drew_here _ | refine drew_more ?_)⟩
     ·rw [if_neg (fun e => hgu e.2)]
      unfold findV
      have d2n:((s.gens i x:Int) != (u:Int)) = true:=by rw [bne_iff_ne]; omega
      go_enter Tryz.func119,Tryz.ntmps119
      go_wp2_with fail
      refine LC.out.mono ?_
      rintro e w' ⟨rfl,rfl⟩
      go_wp2_with fail
      refine C1.out.mono ?_
      rintro e w' ⟨rfl,m,rfl⟩
      have p3:=p3 m
      have p4:=p4 m
      have tk:=tk m
      have gn:=gn m
      go_wp2
      (try simp only [Exit.inBlock,Exit.then]); refine bodyPost_ret (results_tmp4 rfl _ _ _) rfl ?_
      exact ⟨rfl,by repeat (first | exact drew_here _ | refine drew_more ?_)⟩
section
variable (w:World) (L:Lay) (c:Conf) (s:St) (bs:List UInt8) (h:SetAt w L c s bs)
include h
theorem classesC:Calls Tryz.prog 50 #[.pointer (some ⟨L.g,0,none⟩)] w fun e w' => e = .returned (.int .i64 (c.nc:Int)) /\ w = w':=by
 have c8:=h.cSizes
 clear h
 go_enter Tryz.func50,Tryz.ntmps50
 go_wp2
 go_ret
 exact ⟨rfl,rfl⟩
theorem chunkSizeC (k:Int):Calls Tryz.prog 131 #[.pointer (some ⟨L.g,0,none⟩),.int .i64 k] w fun e w' => e = .returned (.int .i64 (if 0 <= k /\ k < (c.nc:Int) then (c.sz k.toNat:Int) else 0)) /\ w = w':=by
 have IC:=isC h k
 by_cases hk : 0 <= k /\ k < (c.nc:Int)
 ·rw [if_pos hk]
  rw [decide_eq_true hk] at IC
  obtain ⟨k,rfl⟩:=Int.eq_ofNat_of_zero_le hk.1
  obtain ⟨k0,k1⟩:=hk
  have c8:=h.cSizes
  have cz:=h.sz (k:=k) (by omega)
  rw [Int.toNat_natCast]
  replace IC:=Lib.hid IC
  clear h
  go_enter Tryz.func131,Tryz.ntmps131
  go_wp2_with fail
  refine IC.out.mono ?_
  rintro e w' ⟨rfl,rfl⟩
  go_wp2
  go_ret
  exact ⟨rfl,rfl⟩
 ·rw [if_neg hk]
  rw [decide_eq_false hk] at IC
  replace IC:=Lib.hid IC
  clear h
  go_enter Tryz.func131,Tryz.ntmps131
  go_wp2_with fail
  refine IC.out.mono ?_
  rintro e w' ⟨rfl,rfl⟩
  go_wp2
  go_ret
  exact ⟨rfl,rfl⟩
end
end Go.Proofs.YtfjiphibalhcgaaGreat.Cls
