/-
  Contracts and lemmas, joined: QueueGive, Ref6Give, QueueGives, QueueGivesLaw, QueueMoves, QueueSeq, QueueSeq2, RangeLaw.
-/
import Derived.RangeFuncNested
import Derived.RangeFuncBound
import Derived.RangeFuncCalls
import Derived.RangeFuncLeaves
import Derived.RangeFuncBox
import Derived.Shelf.Abstract
import Derived.WalkKit
import Derived.OwnWalkIn
import Derived.TacticsInMore
import Derived.LoopNIn
import Derived.LoopIn
import Derived.Maps.AppendAt
import Derived.Test.YtfjiphibalhcgaaGreatG4
import Derived.Test.YtfjiphibalhcgaaGreatG6
import Derived.Test.YtfjiphibalhcgaaGreatG7
import Derived.Test.YtfjiphibalhcgaaGreatG9
import Derived.Test.YtfjiphibalhcgaaGreatG10
set_option linter.unusedSimpArgs false
set_option linter.unusedVariables false
set_option linter.unusedSectionVars false
set_option maxRecDepth 100000
/-
  The queue where a chunk that stands in no list is given back.
-/
namespace Go.Proofs.YtfjiphibalhcgaaGreat.Que
open Go.RowKit Base Arena Cls Itm
theorem chain_links {Z:Nat -> Option Zd} {k:Nat}:∀ {l:List Nat} {p n h:Nat},Chain Z k p l n -> h ∈ l -> ∃ z,Z h = some z /\ (z.a = p \/ z.a ∈ l) /\ (z.b = n \/ z.b ∈ l)
 | [],_,_,_,_,hm => by cases hm
 | x :: t,p,n,h,hc,hm => by
  by_cases e:h = x
  ·subst e
   refine ⟨_,hc.1,.inl rfl,?_⟩
   cases t with
   | nil => exact .inl rfl
   | cons a t => exact .inr (List.mem_cons_of_mem _ (List.mem_cons_self ..))
  ·have hm':h ∈ t:=(List.mem_cons.1 hm).resolve_left e
   obtain ⟨z,hz,ha,hb⟩:=chain_links hc.2 hm'
   refine ⟨z,hz,.inr ?_,hb.imp id fun e => List.mem_cons_of_mem _ e⟩
   rcases ha with ha | ha
   ·rw [ha]; exact List.mem_cons_self ..
   ·exact List.mem_cons_of_mem _ ha
section
variable {d:Cf} (ok:d.Ok) {s:St} (g:Cls.Good d s) {H i x p:Nat} (hf:findN d s H = some (i,x,p))
include ok g hf
theorem gave_good:Cls.Good d (giveS d s i x):=by
 obtain ⟨a1,a2,a3,a4, -⟩:=findN_some g hf
 exact g.give ok a1 a2 a3 a4
theorem gave_find :
  (∀ H' i' x' q,findN d s H' = some (i',x',q) -> H' ≠ H -> findN d (giveS d s i x) H' = some (i',x',q) /\ (giveS d s i x).cls i' = s.cls i') /\
  (∀ H' i' x' q,findN d (giveS d s i x) H' = some (i',x',q) -> H' ≠ H /\ findN d s H' = some (i',x',q)):=by
 obtain ⟨t,e⟩:=Tkn.of ok g hf
 have g':=gave_good ok g hf
 have A:∀ H' i' x' q,findN d s H' = some (i',x',q) -> H' ≠ H -> findN d (giveS d s i x) H' = some (i',x',q) /\ (giveS d s i x).cls i' = s.cls i':=by
  intro H' i' x' q hf' hne
  obtain ⟨t',e'⟩:=Tkn.of ok g hf'
  have hn:¬ (i' = i /\ x' = x):=by
   rintro ⟨rfl,rfl⟩
   have h1:=t.pE
   have h2:=t'.pE
   have h3:=t.ge
   have h4:=t'.ge
   apply hne
   rw [e,e', <- h3, <- h4,h1,h2]
  have T:Tkn d (giveS d s i x) i' x' q (s.cls i') (H' / 4294967296):=by
   refine ⟨t'.iN,t'.ow,rfl,t'.kN,t'.xN,?_,?_,t'.pE⟩
   ·simp only [giveS]
    rw [upd2_ne _ _ hn]; exact t'.tk
   ·simp only [giveS]
    rw [upd2_ne _ _ hn]; exact t'.ge
  exact ⟨by have:=T.find ok; rwa [<- e'] at this,rfl⟩
 refine ⟨A,fun H' i' x' q hf' => ?_⟩
 obtain ⟨t',e'⟩:=Tkn.of ok g' hf'
 have hn:¬ (i' = i /\ x' = x):=by
  rintro ⟨rfl,rfl⟩
  have:=t'.tk
  simp only [giveS] at this
  rw [upd2_at] at this
  cases this
 have T:Tkn d s i' x' q ((giveS d s i x).cls i') (H' / 4294967296):=by
  have h1:=t'.tk
  have h2:=t'.ge
  simp only [giveS] at h1 h2
  rw [upd2_ne _ _ hn] at h1 h2
  exact ⟨t'.iN,t'.ow,rfl,t'.kN,t'.xN,h1,h2,t'.pE⟩
 have hf2:findN d s H' = some (i',x',q):=by have:=T.find ok; rwa [<- e'] at this
 refine ⟨fun e0 => ?_,hf2⟩
 rw [e0,hf] at hf2
 simp only [Option.some.injEq,Prod.mk.injEq] at hf2
 exact hn ⟨hf2.1.symm,hf2.2.1.symm⟩
end
section
variable {c:Conf} (ok:c.cf.Ok) {s:St} (g:Cls.Good c.cf s) {H i x p:Nat} (hf:findN c.cf s H = some (i,x,p)) {Z:Nat -> Option Zd} {F:QN} {Ls:Nat -> Nat -> List Nat} (q:QI c s Z F Ls) (hn:∀ x k,x < c.nc -> k < 3 -> H ∉ Ls x k)
include ok g hf q hn
theorem QI.farL {H':Nat} {z:Zd} (hf':∃ i x p,findN c.cf s H' = some (i,x,p)) (hz:Z H' = some z):z.a ≠ H /\ z.b ≠ H:=by
 have h0:=good_ne hf
 by_cases hm:∃ y k,y < c.nc /\ k < 3 /\ H' ∈ Ls y k
 ·obtain ⟨y,k,hy,hk,hm⟩:=hm
  obtain ⟨z',hz',ha,hb⟩:=chain_links (q.ch y k hy hk) hm
  rw [hz] at hz'
  cases hz'
  refine ⟨fun e => ?_,fun e => ?_⟩
  ·rcases ha with ha | ha
   ·omega
   ·exact hn y k hy hk (e ▸ ha)
  ·rcases hb with hb | hb
   ·omega
   ·exact hn y k hy hk (e ▸ hb)
 ·have e:=q.out H' z hf' hz fun y k hy hk hm' => hm ⟨y,k,hy,hk,hm'⟩
  subst e
  exact ⟨fun e => h0 e.symm,fun e => h0 e.symm⟩
theorem Lk.give {bs:List UInt8} (h:Lk c s bs Z):Lk c (giveS c.cf s i x) bs Z:=by
 obtain ⟨A,B⟩:=gave_find ok g hf
 refine ⟨fun H' i' x' p' hH hf' => h.at_ H' i' x' p' hH (B _ _ _ _ hf').2,h.st,fun H' z hf' hz => ?_⟩
 obtain ⟨i',x',p',hf'⟩:=hf'
 obtain ⟨hne,hf2⟩:=B _ _ _ _ hf'
 obtain ⟨n1,n2⟩:=QI.farL ok g hf q hn ⟨_,_,_,hf2⟩ hz
 have key:∀ T,T ≠ H -> GoodL c.cf s T -> GoodL c.cf (giveS c.cf s i x) T:=fun T hT hg => by
  rcases hg with hg | ⟨h1,a,b,e,h2⟩
  ·exact .inl hg
  ·exact .inr ⟨h1,a,b,e,(A T a b e h2 hT).1⟩
 obtain ⟨k1,k2⟩:=h.lk H' z ⟨_,_,_,hf2⟩ hz
 exact ⟨key _ n1 k1,key _ n2 k2⟩
theorem QI.give:QI c (giveS c.cf s i x) Z F Ls:=by
 obtain ⟨A,B⟩:=gave_find ok g hf
 refine ⟨q.ch,q.hd,q.tl,q.n,fun y k h hy hk hm => ?_,q.nd,q.dj,fun H' z hf' hz hn' => ?_⟩
 ·obtain ⟨a,b,e,h1,h2⟩:=q.it y k h hy hk hm
  have hne:h ≠ H:=fun e => hn y k hy hk (e ▸ hm)
  obtain ⟨h3,h4⟩:=A h a b e h1 hne
  exact ⟨a,b,e,h3,h4.trans h2⟩
 ·obtain ⟨a,b,e,h1⟩:=hf'
  exact q.out H' z ⟨a,b,e,(B _ _ _ _ h1).2⟩ hz hn'
end
theorem QW.give {c:Conf} {s:St} {w w':World} {L L':Lay} {bs:List UInt8} {Z:Nat -> Option Zd} {gq gl:Nat} {Ls:Nat -> Nat -> List Nat} (ok:c.cf.Ok) (g:Cls.Good c.cf s) {H i x p:Nat} (hf:findN c.cf s H = some (i,x,p)) (hn:∀ x k,x < c.nc -> k < 3 -> H ∉ Ls x k)
  (h:QW w L c s bs Z gq gl Ls) (eg:L'.g = L.g) (M:SetAt w' L' c (giveS c.cf s i x) bs) (W:Went w w' L L' c s (giveS c.cf s i x)):QW w' L' c (giveS c.cf s i x) bs Z gq gl Ls:=by
 obtain ⟨F,S,q⟩:=h
 have Q1:=(S.q.only W.only S.fq S.fl).head
 have Q2:=(S.q.only W.only S.fq S.fl).grid
 rw [<- eg] at Q1
 refine ⟨F,⟨⟨M,gave_good ok g hf,Lk.give ok g hf q hn S.zs.lk⟩,⟨Q1,Q2⟩,fun hf => ?_,fun hf => ?_⟩,QI.give ok g hf q hn⟩
 ·rcases W.foot gq hf with h1 | h1
  ·exact S.fq h1
  ·have:=S.q.ltq; omega
 ·rcases W.foot gl hf with h1 | h1
  ·exact S.fl h1
  ·have:=S.q.ltl; omega
section
variable {N:Nat} {w:World} {W:W6} {c:Conf} {s:St} {bs:List UInt8} {Z:Nat -> Option Zd} {Ls Ld:Nat -> Nat -> List Nat} {r:RS} {laid told:List Nat} (h:WAt N w W c s bs Z Ls Ld r laid told)
include h
theorem WAt.give {w':World} {L':Lay} {H i x p:Nat} (hf:findN c.cf s H = some (i,x,p)) (hn:∀ x k,x < c.nc -> k < 3 -> H ∉ Ls x k) (eg:L'.g = W.L.g) (M:SetAt w' L' c (giveS c.cf s i x) bs) (We:Went w w' W.L L' c s (giveS c.cf s i x)) :
  WAt N w' { W with L:=L' } c (giveS c.cf s i x) bs Z Ls Ld r laid told:=by
 have ns:∀ i b,i ≠ .set -> W.foot c s i b -> ¬ Foot W.L c s b:=fun i b hi hb hf => hi (h.sep i .set b hb hf)
 have sp:=h.sepOf (W':={ W with L:=L' }) (s':=giveS c.cf s i x) .set (fun i b hb => by
  cases i with
  | set => exact .inl ⟨rfl,We.foot b hb⟩
  | _ => exact .inr ⟨by simp,hb⟩) h.hN0
 have O:Blk w' W.b 47 W.cells:=(We.only.block _ h.own.lt (ns .own _ (by simp) (.inl rfl))).trans h.own
 refine ⟨h.q.give h.okc h.good hf hn eg M We,h.ref.only We.only fun b hb => ns .ref b (by simp) hb,h.doc.only We.only fun b hb => ns .doc b (by simp) hb,?_,own_keptN h.told fun b e => We.only.block b (own_blockN h.told e) (ns .own b (by simp) (.inr e)),sp.1,h.tb,sp.2⟩
 have e:W6.cells { W with L:=L' } = W.cells:=by unfold W6.cells; rw [eg]
 rw [e]
 exact O
end
theorem R6At.setLaid {w w6:World} {R:R6} {mb n:Nat} {laid:List Nat} {lists:Nat -> List Nat} (h:R6At w R mb n laid lists) {v':Value} {laid':List Nat} (o:Only (fun b => R.vL.ownBlock = some b) w w6)
    (own6:w6.ownsRow 0 26 1 v' laid'.length (laid'.map uv)) (hat:∀ b,v'.ownBlock = some b -> R.vL.ownBlock = some b \/ w.heap.size <= b) :
    R6At (w6.setCell ⟨R.b,1,none⟩ v') { R with vL:=v' } mb n laid' lists /\ Went6 w (w6.setCell ⟨R.b,1,none⟩ v') R { R with vL:=v' } n:=by
  have nb:∀ p b,p ≠ .laid -> R.blk n p = some b -> ¬ (R.vL.ownBlock = some b):=fun p b hp hb e => hp (h.inj p .laid b hb e)
  have hv:∀ p b,p ≠ .laid -> R.blk n p = some b -> ¬ (v'.ownBlock = some b):=fun p b hp hb e => by
    rcases hat b e with h1 | h1
    · exact nb p b hp hb h1
    · have:=h.lt ⟨p,hb⟩; omega
  have B6:Blk w6 R.b 97 (r6v mb R n):=(o.block _ h.head.lt (nb .head _ (by decide) rfl)).trans h.head
  have o2:=only_cell1 (S:=(· = R.b)) w6 R.b 1 v' rfl
  have far:∀ b,b < w6.heap.size -> b ≠ R.b -> (w6.setCell ⟨R.b,1,none⟩ v').heap[b]? = w6.heap[b]?:=fun b hb hne => o2.block b hb hne
  have ne:∀ p b,p ≠ .head -> R.blk n p = some b -> b ≠ R.b:=fun p b hp hb e => hp (h.inj p .head b hb (by rw [e]; rfl))
  have kp:∀ p b,p ≠ .head -> p ≠ .laid -> R.blk n p = some b -> (w6.setCell ⟨R.b,1,none⟩ v').heap[b]? = w.heap[b]?:=fun p b h1 h2 hb =>
    (far b (Nat.lt_of_lt_of_le (h.lt ⟨p,hb⟩) o.size) (ne p b h1 hb)).trans (o.block b (h.lt ⟨p,hb⟩) (nb p b h2 hb))
  have hbl:∀ p,p ≠ .laid -> R6.blk { R with vL:=v' } n p = R.blk n p:=fun p hp => by
    cases p with
    | laid => exact absurd rfl hp
    | _ => rfl
  refine ⟨⟨fun p => ?_,fun p q b hp hq => ?_⟩,?_,fun b ⟨p,hp⟩ => ?_,rfl⟩
  · cases p with
    | head => exact B6.set_ 1 v'
    | laid =>
      show World.ownsRow _ 0 _ 1 v' laid'.length (laid'.map uv)
      exact own_keptN own6 fun b e => far b (own_blockN own6 e) fun e2 => hv .head b (by decide) (by rw [e2]; rfl) e
    | grid => exact h.grid.kept (kp .grid _ (by decide) (by decide) rfl)
    | row k => exact fun hk => own_keptN (h.row hk) fun b e => kp (.row k) b (by simp) (by simp) (by rw [R6.blk,if_pos hk]; exact e)
  · by_cases p0:p = .laid
    · subst p0
      by_cases q0:q = .laid
      · exact q0.symm
      · rw [hbl q q0] at hq
        exact absurd hp (hv q b q0 hq)
    · rw [hbl p p0] at hp
      by_cases q0:q = .laid
      · subst q0
        exact absurd hq (hv p b p0 hp)
      · rw [hbl q q0] at hq
        exact h.inj p q b hp hq
  · refine (o.mono fun b _ e => ⟨.laid,e⟩).trans (only_cell1 (S:=F6 R n) w6 R.b 1 v' ⟨.head,rfl⟩) fun _ _ h => h
  · by_cases p0:p = .laid
    · subst p0
      exact (hat b hp).imp (fun e => ⟨.laid,e⟩) id
    · rw [hbl p p0] at hp
      exact .inl ⟨p,hp⟩
theorem erase_idx (H:Nat):∀ l:List Nat,H ∈ l -> l.eraseIdx (l.idxOf H) = l.erase H
  | [],h => by cases h
  | a :: t,h => by
    by_cases e:a = H
    · subst e; simp
    · have hm:H ∈ t:=(List.mem_cons.1 h).resolve_left (fun e2 => e e2.symm)
      have e1:(a :: t).idxOf H = t.idxOf H + 1:=by rw [List.idxOf_cons,show (a == H) = false by simpa using e]; rfl
      rw [e1,List.eraseIdx_cons_succ,erase_idx H t hm,List.erase_cons_tail (by simp [e])]
theorem free_short1 {d:Cf} {s:St} (g:Cls.Good d s) (ok:d.Ok) {H i x p:Nat} (hf:findN d s H = some (i,x,p)):(s.free (s.cls i)).length + 1 <= 1073741824:=by
  obtain ⟨a1,a2,a3,a4,a5,a6,a7⟩:=findN_some g hf
  have hk:=g.cls i a1 a2
  have hn:p ∉ s.free (s.cls i):=by
    intro hm
    rw [a6] at hm
    obtain ⟨j,y,b1,b2,b3,b4,b5,b6,b7⟩:=(g.free _ hk _).1 hm
    obtain ⟨rfl,rfl⟩:=place_inj ok hk a3 b5 b7
    rw [a4] at b6; cases b6
  have:=nodup_le 1073741824 (p :: s.free (s.cls i)) (List.nodup_cons.2 ⟨hn,g.nodup _ hk⟩) fun q hq => by
    rcases List.mem_cons.1 hq with rfl | hq
    · obtain ⟨t,e⟩:=Tkn.of ok g hf
      exact (t.hlt ok g).2.2.2.2
    · obtain ⟨i',x',h1, -, -, -,h5, -,rfl, -⟩:=g.last ok hk hq
      obtain ⟨-, -, -,h6, -⟩:=place_of ok (i:=i') hk h5
      have h7:=ok.psb
      have h8:=ok.npb
      have h9:(i' + 1) * d.ps <= 1024 * 1048576:=Nat.mul_le_mul (by omega) h7
      rw [Nat.succ_mul] at h9
      have:=(ok.sz _ hk).1
      omega
  simpa using this
section
variable {w:World} {R:R6} {M:RL} {c:Conf} {s:St} {Z:Nat -> Option Zd} {Ls:Nat -> Nat -> List Nat} {r:RS} {laid:List Nat} (h:D6 w R M c s Z Ls r laid) (H:Nat) (hH:H < 18446744073709551616)
include h hH
theorem give6No (hf:findN c.cf s H = none):Calls Tryz.prog 93 #[.pointer (some ⟨R.b,0,none⟩),.int .u64 (H:Int)] w fun e w' => e = .returned (.int .i64 20) /\ ∃ m,w.drewN m = w':=by
  have GC:=Lib.hid (rgiveNo w M c r h.ref h.fine h.ch H (h.rel.find_none h.ok h.good hf))
  have cc:∀ m,(w.drewN m).cell? ⟨R.b,0,none⟩ = some (.pointer (some ⟨M.b,0,none⟩)):=fun m => h.doc.c0
  have c0:=h.doc.c0
  obtain ⟨A,cp,hv⟩:=own_is h.doc.laidR
  have cl:∀ m,(w.drewN m).cell? ⟨R.b,1,none⟩ = some (.slice A laid.length cp):=fun m => by
    have:=(h.draw m).doc.c1
    rw [hv] at this
    exact this
  have AC:∀ m,_:=fun m => atC6 (w.drewN m) 0 cp A laid (by have:=(h.draw m).doc.laidR; rw [hv] at this; exact this) h.la H
  generalize atN laid H = q at *
  replace AC:=Lib.hid AC
  replace cl:=Lib.hid cl
  clear h hv hf cc
  go_enter Tryz.func93,Tryz.ntmps93
  go_wp2_with fail
  refine GC.out.mono ?_
  rintro e w1 ⟨rfl,m,hw1⟩
  have c1:=cl.out m
  have A1:=AC.out m
  rw [hw1] at c1 A1
  replace A1:=Lib.hid A1
  replace hw1:=Lib.hid hw1
  go_wp2_with fail
  refine A1.out.mono ?_
  rintro e w2 ⟨rfl,rfl⟩
  go_wp2
  go_ret
  exact ⟨rfl,_,hw1.out⟩
set_option maxHeartbeats 1600000 in
theorem give6Yes {i x p:Nat} (hf:findN c.cf s H = some (i,x,p)):Calls Tryz.prog 93 #[.pointer (some ⟨R.b,0,none⟩),.int .u64 (H:Int)] w fun e w' => e = .returned (.int .i64 0) /\
    ∃ w1 M' R' r',RSetAt w1 M' c r' /\ RWent w w1 M M' c /\ Rel c.cf (giveS c.cf s i x) r' /\ r'.ch.length = r.ch.length /\ R'.b = R.b /\ Went6 w1 w' R R' (3 * c.nc) /\ R6At w' R' M.b (3 * c.nc) (laid.erase H) (rows6 Ls):=by
  obtain ⟨j,f1,f2, -,f4⟩:=h.rel.give h.ok h.good hf
  obtain ⟨a1,a2,a3,a4,a5,a6,a7⟩:=findN_some h.good hf
  have hk:=h.good.cls i a1 a2
  have hrow:(r.rows (s.cls i)).length = (s.free (s.cls i)).length:=by
    have:=congrArg List.length (h.rel.row (s.cls i) hk)
    rwa [List.length_map,List.length_map] at this
  have hsh:(s.free (s.cls i)).length + 1 <= 1073741824:=free_short1 h.good h.ok hf
  have GC:=Lib.hid (rgiveYes w M c r h.ref h.fine h.ch H j f1 _ f2 hk (h.rel.pl j _ f2) (h.good.gen i x) (by simp only; omega))
  have hlen:(rgive c.cf r j (s.cls i) p).ch.length = r.ch.length:=by unfold rgive; simp only [List.length_modify]
  simp only at GC
  generalize rgive c.cf r j (s.cls i) p = r1 at *
  have c0:=h.doc.c0
  have D1:∀ w1 M',RWent w w1 M M' c -> R6At w1 R M.b (3 * c.nc) laid (rows6 Ls):=fun w1 M' We => h.doc.only We.only fun b hb hr => h.sep b hr hb
  have hla:=h.la
  obtain ⟨l',hl'⟩:∃ l',l' = laid.erase H:=⟨_,rfl⟩
  rw [<- hl']
  obtain ⟨A,cp,hv⟩:=own_is h.doc.laidR
  replace D1:=Lib.hid D1
  clear hf f1 f2 a1 a2 a3 a4 a5 a6 a7 hk hrow hsh h
  generalize rows6 Ls = lists at *
  generalize 3 * c.nc = n at *
  generalize giveS c.cf s i x = s1 at *
  replace f4:=Lib.hid f4
  replace hlen:=Lib.hid hlen
  go_enter Tryz.func93,Tryz.ntmps93
  go_wp2_with fail
  refine GC.out.mono ?_
  rintro e w1 ⟨rfl,M',hM,We⟩
  have D:=D1.out w1 M' We
  have c1:=D.c1
  have own:=D.laidR
  rw [hv] at c1 own
  have AC:=atC6 w1 0 cp A laid own hla H
  have fin:∀ w2 V,Below w1.heap.size w1 w2 -> w2.ownsRow w1.heap.size 26 1 V l'.length (l'.map uv) -> R6At (w2.setCell ⟨R.b,1,none⟩ V) { R with vL:=V } M.b n l' lists /\ Went6 w1 (w2.setCell ⟨R.b,1,none⟩ V) R { R with vL:=V } n :=
    fun w2 V b o => D.setLaid (Only.of_below b (Nat.le_refl _) _) (own_more0 o) fun d e => .inr (own_base o e)
  have hd:=D.head
  have hlt:=D.lt ⟨.head,rfl⟩
  by_cases hm:H ∈ laid
  · unfold atN at AC
    rw [if_pos hm] at AC
    have WC:=withoutC w1 0 cp A laid own hla (laid.idxOf H)
    rw [erase_idx H laid hm, <- hl'] at WC
    clear hl'
    generalize laid.idxOf H = ix at *
    have d1:decide ((0:Int) <= (ix:Int)) = true:=decide_eq_true (by omega)
    replace AC:=Lib.hid AC
    replace WC:=Lib.hid WC
    replace fin:=Lib.hid fin
    replace hM:=Lib.hid hM
    replace We:=Lib.hid We
    have hd':=Lib.hid hd
    clear D own hv c0 hd
    go_wp2_with fail
    refine AC.out.mono ?_
    rintro e w2 ⟨rfl,rfl⟩
    go_wp2_with fail
    refine WC.out.mono ?_
    rintro e w3 ⟨A',cp',rfl,b3,o3⟩
    have z:w3.frozen? ⟨R.b,1,none⟩ = false:=(show Blk w3 R.b 97 _ from (b3.block _ hlt).trans hd'.out).frozen 1
    have c3:w3.cell? ⟨R.b,1,none⟩ = some (.slice A laid.length cp):=(b3.cell (p:=⟨R.b,1,none⟩) hlt).trans c1
    have F3:=Lib.hid (fin.out _ _ b3 o3)
    clear b3 o3
    go_wp2
    go_ret
    exact ⟨rfl,w1,M', { R with vL:=.slice A' l'.length cp' },r1,hM.out,We.out,f4.out,hlen.out,rfl,F3.out.2,F3.out.1⟩
  · unfold atN at AC
    rw [if_neg hm] at AC
    replace AC:=Lib.hid AC
    have ee:l' = laid:=hl'.trans (List.erase_of_not_mem hm)
    subst ee
    clear hl'
    replace D:=Lib.hid D
    replace hM:=Lib.hid hM
    replace We:=Lib.hid We
    clear fin own hv c0 hd
    go_wp2_with fail
    refine AC.out.mono ?_
    rintro e w2 ⟨rfl,rfl⟩
    go_wp2
    go_ret
    exact ⟨rfl,w1,M',R,r1,hM.out,We.out,f4.out,hlen.out,rfl,⟨Only.refl _ _,fun b h => .inl h,rfl⟩,D.out⟩
end
def Gv (W:W6) (w:World):Prop:=w.cell? ⟨W.b,0,none⟩ = some (.pointer (some ⟨W.L.g,0,none⟩)) /\ w.cell? ⟨W.b,3,none⟩ = some (.pointer (some ⟨W.R.b,0,none⟩))
section
variable {N:Nat} {w:World} {W:W6} {s:St} {bs:List UInt8} {Z:Nat -> Option Zd} {Ls:Nat -> Nat -> List Nat} {r:RS} {laid told:List Nat} {t:Nat} (h:WI N w W s bs Z Ls r laid told t) (ht:t <= 60000) {H:Nat} (hH:H < 18446744073709551616)
include h ht hH
theorem WI.gv:Gv W w:=by
 obtain ⟨y0, -, -,y3, -⟩:=h.wat.cW
 exact ⟨y0,y3⟩
theorem giveBoth:∃ n:Nat,∀ w5,Below w.heap.size w w5 -> Calls Tryz.prog 92 #[.pointer (some ⟨W.L.g,0,none⟩),.int .u64 (H:Int)] w5 fun e v => e = .returned (.int .i64 (n:Int)) /\ Gv W v /\
  ((∀ x k,x < qc.nc -> k < 3 -> H ∉ Ls x k) -> Calls Tryz.prog 93 #[.pointer (some ⟨W.R.b,0,none⟩),.int .u64 (H:Int)] v fun e w' => e = .returned (.int .i64 (n:Int)) /\ Gv W w' /\ Goes N w w' W s t):=by
 cases hf:findN qc.cf s H with
 | none =>
  refine ⟨20,fun w5 b5 => ?_⟩
  have h5:=h.below b5
  refine (giveNo w5 W.L qc s bs h5.wat.set h5.wat.good H hH hf).mono ?_
  rintro e v ⟨e1,m,hv⟩
  have bv:Below w5.heap.size w5 v:=by rw [<- hv]; exact below_drewN (Below.refl _ _) m
  have hv:=h5.below bv
  refine ⟨e1,hv.gv ht hH,fun _ => ?_⟩
  refine (give6No (hv.d6 ht) H hH hf).mono ?_
  rintro e w' ⟨e2,m',hw'⟩
  have bw:Below v.heap.size v w':=by rw [<- hw']; exact below_drewN (Below.refl _ _) m'
  have hw:=hv.below bw
  exact ⟨e2,hw.gv ht hH,h.stays (b5.trans ((bv.mono b5.size).trans (bw.mono (Nat.le_trans b5.size bv.size)))) (Nat.le_refl _)⟩
 | some y =>
  obtain ⟨i,x,p⟩:=y
  refine ⟨0,fun w5 b5 => ?_⟩
  have h5:=h.below b5
  refine (giveYes w5 W.L qc s bs h5.wat.set h5.wat.good H hH i x p hf).mono ?_
  rintro e v ⟨e1,L',eg,M,We⟩
  have wb:W.b < w5.heap.size:=h5.wat.own.lt
  have nW:∀ i b,i ≠ .set -> W.foot qc s i b -> ¬ Foot W.L qc s b:=fun i b hi hb hf => hi (h5.wat.sep i .set b hb hf)
  have hblk:Blk v W.b 47 W.cells:=(We.only.block _ wb (nW .own _ (by simp) (.inl rfl))).trans h5.wat.own
  have gv:Gv W v:=⟨hblk.cell 0,hblk.cell 3⟩
  refine ⟨e1,gv,fun hn => ?_⟩
  have T:=h5.wat.give hf hn eg M We
  have G0:Grew qc w v W { W with L:=L' } s (giveS qc.cf s i x):=((Grew.refl _ _ _ _).step b5).trans (grew_take We)
  have d6:=(h5.d6 ht).at_ T.doc T.ref
  refine (give6Yes d6 H hH hf).mono ?_
  rintro e w' ⟨e2,w1,M',R',r',RM,RWe,rel',hlen,eb,DWe,D⟩
  have T1:=T.rtake RM RWe
  have eM:M'.b = W.M.b:=RWe.b
  have T2:=T1.doc_ (R':=R') (laid':=laid.erase H) (Ld':=Ls) (by show R6At w' R' M'.b _ _ _; rw [eM]; exact D) eb DWe
  obtain ⟨A,B⟩:=gave_find h.wat.okc h.wat.good hf
  have hlt:=h.tlt
  have G1:=(G0.trans (grew_rtake RWe)).trans (grew_doc (W:={ { W with L:=L' } with M:=M' }) DWe)
  obtain ⟨z0, -, -,z3, -⟩:=T2.cW
  refine ⟨e2,⟨by rw [<- eg]; exact z0,by rw [<- eb]; exact z3⟩, { { { W with L:=L' } with M:=M' } with R:=R' },giveS qc.cf s i x,bs,Z,Ls,r',laid.erase H,told,rfl,G1,T2,rel',fun H' i' x' p' hf' => ?_,h.bs,by rw [hlen]; exact h.ch,Nat.le_trans (List.length_erase_le) h.la,h.tl,h.tlt,fun H' hm => ?_,h.ln.erase _,fun H' hm => h.lt H' (List.mem_of_mem_erase hm)⟩
  ·obtain ⟨hne,hf2⟩:=B _ _ _ _ hf'
   rw [List.mem_erase_of_ne hne]
   exact h.agr H' i' x' p' hf2
  ·have hm2:=(h.ln.mem_erase_iff).1 hm
   obtain ⟨a,b,c,hf2⟩:=h.lg H' hm2.2
   exact ⟨a,b,c,(A _ _ _ _ hf2 hm2.1).1⟩
end
section
variable {N:Nat} {w:World} {W:W6} {s:St} {bs:List UInt8} {Z:Nat -> Option Zd} {Ls:Nat -> Nat -> List Nat} {r:RS} {laid told:List Nat} {t:Nat} (h:WI N w W s bs Z Ls r laid told t) (ht:t <= 60000) (o:Op6) (ok:o.Ok)
include h ht ok
set_option maxHeartbeats 3200000 in
theorem givesLawC:Calls Tryz.prog 47 #[.pointer (some ⟨W.b,0,none⟩),.agg o.cells] w fun e w' => e = .returned (.bool true) /\ Goes N w w' W s t:=by
 have hH:=hdN_lt h.tlt ok
 obtain ⟨w1,hw1⟩:∃ w1,w1 = w.alloc (.cells o.cells 28):=⟨_,rfl⟩
 have B1:Blk w1 w.heap.size 28 o.cells:=by rw [hw1]; exact Blk.new w _ _
 have b1:Below w.heap.size w w1:=by rw [hw1]; exact (Below.refl _ _).alloc (Nat.le_refl _) _
 obtain ⟨x0,x1,x2,x3,x4,x5⟩:=op6_cells B1
 have HC:=handleC (h.below b1) ht o ok
 obtain ⟨n,GB⟩:=giveBoth h ht hH
 have nR:=fun w => numC6 w n
 have WC:=fun w2 (b:Below w.heap.size w w2) => ((h.below b).d6 ht).whereC (hdN told o)
 have GV:=fun w2 (b:Below w.heap.size w w2) => (h.below b).gv ht hH
 have GO:=fun w2 (b:Below w.heap.size w w2) => h.stays b (Nat.le_refl _)
 have hin:stK (clsN qc s (hdN told o)) Ls (hdN told o) = 0 -> ∀ x k,x < qc.nc -> k < 3 -> hdN told o ∉ Ls x k:=fun e => by
  rcases (h.d6 ht).at6 (hdN told o) with ⟨-,e2⟩ | ⟨k,l1,l2,e2, -⟩
  ·exact e2
  ·omega
 generalize hdN told o = H at *
 generalize hst:stK (clsN qc s H) Ls H = sk at *
 generalize hcl:clsN qc s H = ck at *
 clear hst hcl
 unfold Op6.cells at hw1 HC ⊢
 replace HC:=Lib.hid HC
 replace GB:=Lib.hid GB
 replace nR:=Lib.hid nR
 replace WC:=Lib.hid WC
 replace GV:=Lib.hid GV
 replace GO:=Lib.hid GO
 replace hin:=Lib.hid hin
 replace hw1:=Lib.hid hw1
 clear h ht ok hH B1
 generalize hN:w.heap.size = N0 at *
 replace hN:=Lib.hid hN
 go_enter Tryz.func47,Tryz.ntmps47
 go_upto_region 1 with fail
 rw [hN.out, <- hw1.out]
 go_wp2_with fail
 refine HC.out.mono ?_
 rintro e w2 ⟨rfl,b2⟩
 have b02:Below N0 w w2:=b1.trans (b2.mono (by have:=hN.out; have:=b1.size; omega))
 obtain ⟨y0,y3⟩:=GV.out w2 b02
 have WC2:=Lib.hid (WC.out w2 b02)
 replace b02:=Lib.hid b02
 clear HC hw1 b1 b2 x0 x1 x2 x3 x4 x5 WC
 go_wp2_with fail
 refine WC2.out.mono ?_
 rintro e w3 ⟨⟨q,rfl⟩,rfl⟩
 clear WC2
 by_cases hs:sk = 0
 rotate_left
 ·rw [if_neg hs]
  have d0:decide ((0:Int) <= ((3 * ck + (sk - 1):Nat):Int)) = true:=decide_eq_true (by omega)
  go_wp2
  go_ret
  exact ⟨rfl,GO.out _ b02.out⟩
 ·rw [if_pos hs]
  replace hin:=Lib.hid (hin.out hs)
  clear hs
  go_upto_region 5 with fail
  obtain ⟨w5,hw5⟩:∃ w5,w5 = w2.drew:=⟨_,rfl⟩
  have bw5:Below N0 w w5:=by rw [hw5]; exact b02.out.trans (below_drewN (Below.refl _ _) 1)
  have Sw5:=GV.out w5 bw5
  replace bw5:=Lib.hid bw5
  clear b02 y0 y3
  refine wp_region_noPanic ?_
  refine wp_region_held_drew (S:=fun v => v.cell? ⟨W.b,0,none⟩ = some (.pointer (some ⟨W.L.g,0,none⟩)) /\ v.cell? ⟨W.b,3,none⟩ = some (.pointer (some ⟨W.R.b,0,none⟩))) (by kernel_rfl) (by rw [<- hw5]; exact Sw5) (fun hHeld => ?_)
  rw [<- hw5] at hHeld ⊢
  clear hw5
  refine tkh (i:=0) (v:=?_) rfl ?_ ?_
  rotate_left
  ·try simp only [qA,qS,qZ]
   rintro w ⟨hS1,hS2⟩
   go_simp
   (try with_reducible rfl)
  try simp only [qA,qS,qZ,Act.put,qT,qO,qN]
  refine tkh (i:=1) (v:=?_) rfl ?_ ?_
  rotate_left
  ·try simp only [qA,qS,qZ]
   rintro w ⟨hS1,hS2⟩
   go_simp
   (try with_reducible rfl)
  try simp only [qA,qS,qZ,Act.put,qT,qO,qN]
  refine tkh (i:=2) (v:=?_) rfl ?_ ?_
  rotate_left
  ·try simp only [qA,qS,qZ]
   rintro w ⟨hS1,hS2⟩
   go_simp
   (try with_reducible rfl)
  try simp only [qA,qS,qZ,Act.put,qT,qO,qN]
  refine tkh (i:=3) (v:=?_) rfl ?_ ?_
  rotate_left
  ·try simp only [qA,qS,qZ]
   rintro w ⟨hS1,hS2⟩
   go_simp
   (try with_reducible rfl)
  try simp only [qA,qS,qZ,Act.put,qT,qO,qN]
  refine tkh (i:=4) (v:=?_) rfl ?_ ?_
  rotate_left
  ·try simp only [qA,qS,qZ]
   rintro w ⟨hS1,hS2⟩
   go_simp
   (try with_reducible rfl)
  try simp only [qA,qS,qZ,Act.put,qT,qO,qN]
  refine tkh (i:=7) (v:=?_) rfl ?_ ?_
  rotate_left
  ·try simp only [qA,qS,qZ]
   rintro w ⟨hS1,hS2⟩
   go_simp
   (try with_reducible rfl)
  try simp only [qA,qS,qZ,Act.put,qT,qO,qN]
  refine tkh (i:=8) (v:=?_) rfl ?_ ?_
  rotate_left
  ·try simp only [qA,qS,qZ]
   rintro w ⟨hS1,hS2⟩
   go_simp
   (try with_reducible rfl)
  try simp only [qA,qS,qZ,Act.put,qT,qO,qN]
  refine tkh (i:=9) (v:=?_) rfl ?_ ?_
  rotate_left
  ·try simp only [qA,qS,qZ]
   rintro w ⟨hS1,hS2⟩
   go_simp
   (try with_reducible rfl)
  try simp only [qA,qS,qZ,Act.put,qT,qO,qN]
  refine tkh (i:=10) (v:=?_) rfl ?_ ?_
  rotate_left
  ·try simp only [qA,qS,qZ]
   rintro w ⟨hS1,hS2⟩
   go_simp
   (try with_reducible rfl)
  try simp only [qA,qS,qZ,Act.put,qT,qO,qN]
  refine tkh (i:=11) (v:=?_) rfl ?_ ?_
  rotate_left
  ·try simp only [qA,qS,qZ]
   rintro w ⟨hS1,hS2⟩
   go_simp
   (try with_reducible rfl)
  try simp only [qA,qS,qZ,Act.put,qT,qO,qN]
  refine wpAnyH_ready (rs:=[5]) (by kernel_rfl) (by simp) ?_
  refine AllReadyH.cons (o:=_) rfl (fun K hK => ?_) ?_
  ·try simp only [qA,qS,qZ]
   go_simp
   go_at_call 92
   refine (GB.out w5 bw5.out).mono ?_
   rintro e v6 ⟨rfl,S6,DC6⟩
   replace DC6:=Lib.hid (DC6 hin.out)
   go_wp2_with fail
   refine hK.out _ _ S6 (fun hHeld => ?_)
   clear hK K hHeld
   try simp only [qA,qS,qZ,Act.put,qT,qO,qN]
   refine wpAnyH_ready (rs:=[6]) (by kernel_rfl) (by simp) ?_
   refine AllReadyH.cons (o:=_) rfl (fun K hK => ?_) ?_
   ·try simp only [qA,qS,qZ]
    go_simp
    go_at_call 14
    refine (nR.out _).mono ?_
    rintro e w' ⟨rfl,rfl⟩
    go_wp2_with fail
    refine hK.out _ _ S6 (fun hHeld => ?_)
    clear hK K hHeld
    try simp only [qA,qS,qZ,Act.put,qT,qO,qN]
    refine wpAnyH_ready (rs:=[12]) (by kernel_rfl) (by simp) ?_
    refine AllReadyH.cons (o:=_) rfl (fun K hK => ?_) ?_
    ·try simp only [qA,qS,qZ]
     go_simp
     go_at_call 93
     refine DC6.out.mono ?_
     rintro e v7 ⟨rfl,S7,G7⟩
     replace G7:=Lib.hid G7
     go_wp2_with fail
     refine hK.out _ _ S7 (fun hHeld => ?_)
     clear hK K hHeld
     try simp only [qA,qS,qZ,Act.put,qT,qO,qN]
     refine tkh (i:=13) (v:=?_) rfl ?_ ?_
     rotate_left
     ·try simp only [qA,qS,qZ]
      rintro w ⟨hS1,hS2⟩
      go_simp
      (try with_reducible rfl)
     try simp only [qA,qS,qZ,Act.put,qT,qO,qN]
     refine tkh (i:=14) (v:=?_) rfl ?_ ?_
     rotate_left
     ·try simp only [qA,qS,qZ]
      rintro w ⟨hS1,hS2⟩
      go_simp
      (try with_reducible rfl)
     try simp only [qA,qS,qZ,Act.put,qT,qO,qN]
     refine wpAnyH_done (by kernel_rfl) ?_ _
     refine NoPanic.normal ?_
     go_wp2
     go_ret
     exact ⟨rfl,G7.out⟩
    exact AllReadyH.nil
   exact AllReadyH.nil
  exact AllReadyH.nil
end
section
variable {N:Nat} {w:World} {W:W6} {s:St} {bs:List UInt8} {Z:Nat -> Option Zd} {Ls:Nat -> Nat -> List Nat} {r:RS} {laid told:List Nat} {t:Nat} (h:WI N w W s bs Z Ls r laid told t) (ht:t <= 60000) (o:Op6) (ok:o.Ok)
include h ht ok
set_option maxHeartbeats 3200000 in
theorem movesPush (hd:o.dO = 4):Calls Tryz.prog 48 #[.pointer (some ⟨W.b,0,none⟩),.agg o.cells] w fun e w' => e = .returned (.bool true) /\ GoesM N w w' W s bs Z r laid told t:=by
 have hH:=hdN_lt h.tlt ok
 have hO:=otN_lt h.tlt o
 have T1:=took6_begin h.wat o
 obtain ⟨w1,hw1⟩:∃ w1,w1 = w.alloc (.cells o.cells 28):=⟨_,rfl⟩
 rw [<- hw1] at T1
 have b1:Below w.heap.size w w1:=by rw [hw1]; exact (Below.refl _ _).alloc (Nat.le_refl _) _
 have HC:=handleC (h.below b1) ht o ok
 have OC:=fun w2 (b:Below w1.heap.size w1 w2) => otherC ((h.below b1).below b) ht o ok
 have hd6:=h.d6 ht
 obtain ⟨RR,Lx,hP⟩:∃ RR Lx,pushN qc s Z Ls (hdN told o) o.b false = (RR,Lx):=⟨_,_,rfl⟩
 have PC:∀ v,QW v W.L qc s bs Z W.gq W.gl Ls -> Calls Tryz.prog 22 #[.pointer (some ⟨W.gq,0,none⟩),.int .u64 (hdN told o:Int),.int .i64 o.b] v fun e v' => e = .returned (.int .i64 (RR:Int)) /\ Did v v' W.L qc s bs Z W.gq W.gl (RR,Lx):=fun v q => by
  have:=(pushC q _ hH o.b).1
  rw [hP] at this
  exact this
 have DC:∀ v,D6 v W.R W.M qc s Z Ls r laid -> Calls Tryz.prog 32 #[.pointer (some ⟨W.R.b,0,none⟩),.int .u64 (hdN told o:Int),.int .i64 o.b,.bool false] v fun e v' => e = .returned (.int .i64 (RR:Int)) /\ ∃ R',R'.b = W.R.b /\ Went6 v v' W.R R' (3 * qc.nc) /\ R6At v' R' W.M.b (3 * qc.nc) laid (rows6 Lx):=fun v d => by
  have:=push6C d (hdN told o) o.b false
  rw [hP] at this
  exact this
 have fin:∀ v bs' Z' R',R'.b = W.R.b -> R'.gL = W.R.gL -> Took6 N w.heap.size w v W s { W with R:=R' } s bs' Z' Lx Lx r laid told o -> Ed (Itp qc s Z) bs bs' -> (∀ H,(Z' H).isSome = (Z H).isSome) -> GoesM N w v W s bs Z r laid told t :=
  fun v bs' Z' R' eb gb T E dz => ⟨bs',Z',R',Lx,eb,gb,T.grew,E,dz,T.wat,h.rel,fun H i x p hf => by rw [dz H]; exact h.agr H i x p hf,E.1.trans h.bs,h.ch,h.la,h.tl,h.tlt,h.lg,h.ln,h.lt⟩
 have nR:=fun w => numC6 w RR
 obtain ⟨x0, -, -, -, -⟩:=T1.cells
 rw [hd] at x0
 generalize hdN told o = H at *
 generalize otN told o = G at *
 replace HC:=Lib.hid HC
 replace OC:=Lib.hid OC
 replace PC:=Lib.hid PC
 replace DC:=Lib.hid DC
 replace fin:=Lib.hid fin
 replace nR:=Lib.hid nR
 replace hd6:=Lib.hid hd6
 replace hP:=Lib.hid hP
 replace T1:=Lib.hid T1
 unfold Op6.cells at hw1 HC OC ⊢
 rw [hd] at hw1 HC OC ⊢
 have hdE:=Lib.hid hd
 replace hw1:=Lib.hid hw1
 clear h ok ht b1 hH hO hd
 generalize hN:w.heap.size = N0 at *
 replace hN:=Lib.hid hN
 go_enter Tryz.func48,Tryz.ntmps48
 go_upto_region 1 with fail
 rw [hN.out, <- hw1.out]
 have B1:=T1.out.op
 unfold Op6.cells at B1
 rw [hdE.out] at B1
 have q0:=B1.cell 0
 have q1:=B1.cell 1
 have q2:=B1.cell 2
 have q3:=B1.cell 3
 have q4:=B1.cell 4
 have q5:=B1.cell 5
 replace B1:=Lib.hid B1
 go_wp2_with fail
 refine HC.out.mono ?_
 rintro e w2 ⟨rfl,b2⟩
 have T2:=T1.out.step b2
 obtain ⟨x0, -, -, -, -⟩:=T2.cells
 rw [hdE.out] at x0
 replace T2:=Lib.hid T2
 clear HC T1 b2 OC q0 q1 q2 q3 q4 q5
 go_upto_region 4 with fail
 obtain ⟨w5,hw5⟩:∃ w5,w5 = w2.drew:=⟨_,rfl⟩
 have Tw5:Took6 N N0 w w5 W s W s bs Z Ls Ls r laid told o:=by rw [hw5]; exact T2.out.step (below_drewN (Below.refl _ _) 1)
 have Sw5:=Tw5.mv
 replace Tw5:=Lib.hid Tw5
 clear T2
 refine wp_region_noPanic ?_
 refine wp_region_held_drew (S:=fun v => v.cell? ⟨W.b,1,none⟩ = some (.pointer (some ⟨W.gq,0,none⟩)) /\ v.cell? ⟨W.b,3,none⟩ = some (.pointer (some ⟨W.R.b,0,none⟩)) /\ v.cell? ⟨N0,2,none⟩ = some (.int .i64 o.b)) (by kernel_rfl) (by rw [<- hw5]; exact Sw5) (fun hHeld => ?_)
 rw [<- hw5] at hHeld ⊢
 clear hw5
 refine tkh (i:=0) (v:=?_) rfl ?_ ?_
 rotate_left
 ·try simp only [qA,qS,qZ]
  rintro w ⟨hS1,hS2,hS3⟩
  go_simp
  (try with_reducible rfl)
 try simp only [qA,qS,qZ,Act.put,qT,qO,qN]
 refine tkh (i:=1) (v:=?_) rfl ?_ ?_
 rotate_left
 ·try simp only [qA,qS,qZ]
  rintro w ⟨hS1,hS2,hS3⟩
  go_simp
  (try with_reducible rfl)
 try simp only [qA,qS,qZ,Act.put,qT,qO,qN]
 refine tkh (i:=2) (v:=?_) rfl ?_ ?_
 rotate_left
 ·try simp only [qA,qS,qZ]
  rintro w ⟨hS1,hS2,hS3⟩
  go_simp
  (try with_reducible rfl)
 try simp only [qA,qS,qZ,Act.put,qT,qO,qN]
 refine tkh (i:=3) (v:=?_) rfl ?_ ?_
 rotate_left
 ·try simp only [qA,qS,qZ]
  rintro w ⟨hS1,hS2,hS3⟩
  go_simp
  (try with_reducible rfl)
 try simp only [qA,qS,qZ,Act.put,qT,qO,qN]
 refine tkh (i:=4) (v:=?_) rfl ?_ ?_
 rotate_left
 ·try simp only [qA,qS,qZ]
  rintro w ⟨hS1,hS2,hS3⟩
  go_simp
  (try with_reducible rfl)
 try simp only [qA,qS,qZ,Act.put,qT,qO,qN]
 refine tkh (i:=5) (v:=?_) rfl ?_ ?_
 rotate_left
 ·try simp only [qA,qS,qZ]
  rintro w ⟨hS1,hS2,hS3⟩
  go_simp
  (try with_reducible rfl)
 try simp only [qA,qS,qZ,Act.put,qT,qO,qN]
 refine tkh (i:=6) (v:=?_) rfl ?_ ?_
 rotate_left
 ·try simp only [qA,qS,qZ]
  rintro w ⟨hS1,hS2,hS3⟩
  go_simp
  (try with_reducible rfl)
 try simp only [qA,qS,qZ,Act.put,qT,qO,qN]
 refine tkh (i:=9) (v:=?_) rfl ?_ ?_
 rotate_left
 ·try simp only [qA,qS,qZ]
  rintro w ⟨hS1,hS2,hS3⟩
  go_simp
  (try with_reducible rfl)
 try simp only [qA,qS,qZ,Act.put,qT,qO,qN]
 refine tkh (i:=10) (v:=?_) rfl ?_ ?_
 rotate_left
 ·try simp only [qA,qS,qZ]
  rintro w ⟨hS1,hS2,hS3⟩
  go_simp
  (try with_reducible rfl)
 try simp only [qA,qS,qZ,Act.put,qT,qO,qN]
 refine tkh (i:=11) (v:=?_) rfl ?_ ?_
 rotate_left
 ·try simp only [qA,qS,qZ]
  rintro w ⟨hS1,hS2,hS3⟩
  go_simp
  (try with_reducible rfl)
 try simp only [qA,qS,qZ,Act.put,qT,qO,qN]
 refine tkh (i:=12) (v:=?_) rfl ?_ ?_
 rotate_left
 ·try simp only [qA,qS,qZ]
  rintro w ⟨hS1,hS2,hS3⟩
  go_simp
  (try with_reducible rfl)
 try simp only [qA,qS,qZ,Act.put,qT,qO,qN]
 refine tkh (i:=13) (v:=?_) rfl ?_ ?_
 rotate_left
 ·try simp only [qA,qS,qZ]
  rintro w ⟨hS1,hS2,hS3⟩
  go_simp
  (try with_reducible rfl)
 try simp only [qA,qS,qZ,Act.put,qT,qO,qN]
 refine tkh (i:=14) (v:=?_) rfl ?_ ?_
 rotate_left
 ·try simp only [qA,qS,qZ]
  rintro w ⟨hS1,hS2,hS3⟩
  go_simp
  (try with_reducible rfl)
 try simp only [qA,qS,qZ,Act.put,qT,qO,qN]
 refine tkh (i:=15) (v:=?_) rfl ?_ ?_
 rotate_left
 ·try simp only [qA,qS,qZ]
  rintro w ⟨hS1,hS2,hS3⟩
  go_simp
  (try with_reducible rfl)
 try simp only [qA,qS,qZ,Act.put,qT,qO,qN]
 clear hHeld
 refine wpAnyH_ready (rs:=[7]) (by kernel_rfl) (by simp) ?_
 refine AllReadyH.cons (o:=_) rfl (fun K hK => ?_) ?_
 ·try simp only [qA,qS,qZ]
  go_simp
  go_at_call 22
  refine (PC.out w5 Tw5.out.wat.q).mono ?_
  rintro e v6 ⟨rfl,oP,bsP,ZP,edP,dzP, -,QP⟩
  have Tv6:=Tw5.out.turn oP QP
  have Sv6:=Tv6.mv
  replace Tv6:=Lib.hid Tv6
  replace edP:=Lib.hid edP
  replace dzP:=Lib.hid dzP
  clear oP QP
  go_wp2_with fail
  refine hK.out _ _ Sv6 (fun hHeld => ?_)
  clear hK K hHeld
  try simp only [qA,qS,qZ,Act.put,qT,qO,qN]
  refine wpAnyH_ready (rs:=[8]) (by kernel_rfl) (by simp) ?_
  refine AllReadyH.cons (o:=_) rfl (fun K hK => ?_) ?_
  ·try simp only [qA,qS,qZ]
   go_simp
   go_at_call 14
   refine (nR.out _).mono ?_
   rintro e w' ⟨rfl,rfl⟩
   go_wp2_with fail
   refine hK.out _ _ Sv6 (fun hHeld => ?_)
   clear hK K hHeld
   try simp only [qA,qS,qZ,Act.put,qT,qO,qN]
   refine wpAnyH_ready (rs:=[16]) (by kernel_rfl) (by simp) ?_
   refine AllReadyH.cons (o:=_) rfl (fun K hK => ?_) ?_
   ·try simp only [qA,qS,qZ]
    go_simp
    go_at_call 32
    refine (DC.out v6 (hd6.out.at_ Tv6.out.wat.doc Tv6.out.wat.ref)).mono ?_
    rintro e v8 ⟨rfl,RD,eb,WeD,DD⟩
    have Tv8:=Tv6.out.docL DD eb WeD
    have gb:=Lib.hid WeD.gl
    have Sv8:=Tv8.mv
    simp only at Sv8
    rw [eb] at Sv8
    replace Tv8:=Lib.hid Tv8
    replace eb:=Lib.hid eb
    clear WeD DD
    go_wp2_with fail
    refine hK.out _ _ Sv8 (fun hHeld => ?_)
    clear hK K hHeld
    try simp only [qA,qS,qZ,Act.put,qT,qO,qN]
    refine tkh (i:=17) (v:=?_) rfl ?_ ?_
    rotate_left
    ·try simp only [qA,qS,qZ]
     rintro w ⟨hS1,hS2,hS3⟩
     go_simp
     (try with_reducible rfl)
    try simp only [qA,qS,qZ,Act.put,qT,qO,qN]
    refine tkh (i:=18) (v:=?_) rfl ?_ ?_
    rotate_left
    ·try simp only [qA,qS,qZ]
     rintro w ⟨hS1,hS2,hS3⟩
     go_simp
     (try with_reducible rfl)
    try simp only [qA,qS,qZ,Act.put,qT,qO,qN]
    refine wpAnyH_done (by kernel_rfl) ?_ _
    refine NoPanic.normal ?_
    have FF:=Lib.hid (fin.out v8 bsP ZP RD eb.out gb.out Tv8.out edP.out dzP.out)
    go_wp2
    go_ret
    exact ⟨rfl,FF.out⟩
   exact AllReadyH.nil
  exact AllReadyH.nil
 exact AllReadyH.nil
set_option maxHeartbeats 3200000 in
theorem movesLast (hd:o.dO = 5):Calls Tryz.prog 48 #[.pointer (some ⟨W.b,0,none⟩),.agg o.cells] w fun e w' => e = .returned (.bool true) /\ GoesM N w w' W s bs Z r laid told t:=by
 have hH:=hdN_lt h.tlt ok
 have hO:=otN_lt h.tlt o
 have T1:=took6_begin h.wat o
 obtain ⟨w1,hw1⟩:∃ w1,w1 = w.alloc (.cells o.cells 28):=⟨_,rfl⟩
 rw [<- hw1] at T1
 have b1:Below w.heap.size w w1:=by rw [hw1]; exact (Below.refl _ _).alloc (Nat.le_refl _) _
 have HC:=handleC (h.below b1) ht o ok
 have OC:=fun w2 (b:Below w1.heap.size w1 w2) => otherC ((h.below b1).below b) ht o ok
 have hd6:=h.d6 ht
 obtain ⟨RR,Lx,hP⟩:∃ RR Lx,pushN qc s Z Ls (hdN told o) o.b true = (RR,Lx):=⟨_,_,rfl⟩
 have PC:∀ v,QW v W.L qc s bs Z W.gq W.gl Ls -> Calls Tryz.prog 23 #[.pointer (some ⟨W.gq,0,none⟩),.int .u64 (hdN told o:Int),.int .i64 o.b] v fun e v' => e = .returned (.int .i64 (RR:Int)) /\ Did v v' W.L qc s bs Z W.gq W.gl (RR,Lx):=fun v q => by
  have:=(pushC q _ hH o.b).2
  rw [hP] at this
  exact this
 have DC:∀ v,D6 v W.R W.M qc s Z Ls r laid -> Calls Tryz.prog 32 #[.pointer (some ⟨W.R.b,0,none⟩),.int .u64 (hdN told o:Int),.int .i64 o.b,.bool true] v fun e v' => e = .returned (.int .i64 (RR:Int)) /\ ∃ R',R'.b = W.R.b /\ Went6 v v' W.R R' (3 * qc.nc) /\ R6At v' R' W.M.b (3 * qc.nc) laid (rows6 Lx):=fun v d => by
  have:=push6C d (hdN told o) o.b true
  rw [hP] at this
  exact this
 have fin:∀ v bs' Z' R',R'.b = W.R.b -> R'.gL = W.R.gL -> Took6 N w.heap.size w v W s { W with R:=R' } s bs' Z' Lx Lx r laid told o -> Ed (Itp qc s Z) bs bs' -> (∀ H,(Z' H).isSome = (Z H).isSome) -> GoesM N w v W s bs Z r laid told t :=
  fun v bs' Z' R' eb gb T E dz => ⟨bs',Z',R',Lx,eb,gb,T.grew,E,dz,T.wat,h.rel,fun H i x p hf => by rw [dz H]; exact h.agr H i x p hf,E.1.trans h.bs,h.ch,h.la,h.tl,h.tlt,h.lg,h.ln,h.lt⟩
 have nR:=fun w => numC6 w RR
 obtain ⟨x0, -, -, -, -⟩:=T1.cells
 rw [hd] at x0
 generalize hdN told o = H at *
 generalize otN told o = G at *
 replace HC:=Lib.hid HC
 replace OC:=Lib.hid OC
 replace PC:=Lib.hid PC
 replace DC:=Lib.hid DC
 replace fin:=Lib.hid fin
 replace nR:=Lib.hid nR
 replace hd6:=Lib.hid hd6
 replace hP:=Lib.hid hP
 replace T1:=Lib.hid T1
 unfold Op6.cells at hw1 HC OC ⊢
 rw [hd] at hw1 HC OC ⊢
 have hdE:=Lib.hid hd
 replace hw1:=Lib.hid hw1
 clear h ok ht b1 hH hO hd
 generalize hN:w.heap.size = N0 at *
 replace hN:=Lib.hid hN
 go_enter Tryz.func48,Tryz.ntmps48
 go_upto_region 1 with fail
 rw [hN.out, <- hw1.out]
 have B1:=T1.out.op
 unfold Op6.cells at B1
 rw [hdE.out] at B1
 have q0:=B1.cell 0
 have q1:=B1.cell 1
 have q2:=B1.cell 2
 have q3:=B1.cell 3
 have q4:=B1.cell 4
 have q5:=B1.cell 5
 replace B1:=Lib.hid B1
 go_wp2_with fail
 refine HC.out.mono ?_
 rintro e w2 ⟨rfl,b2⟩
 have T2:=T1.out.step b2
 obtain ⟨x0, -, -, -, -⟩:=T2.cells
 rw [hdE.out] at x0
 replace T2:=Lib.hid T2
 clear HC T1 b2 OC q0 q1 q2 q3 q4 q5
 go_upto_region 6 with fail
 obtain ⟨w5,hw5⟩:∃ w5,w5 = w2.drew:=⟨_,rfl⟩
 have Tw5:Took6 N N0 w w5 W s W s bs Z Ls Ls r laid told o:=by rw [hw5]; exact T2.out.step (below_drewN (Below.refl _ _) 1)
 have Sw5:=Tw5.mv
 replace Tw5:=Lib.hid Tw5
 clear T2
 refine wp_region_noPanic ?_
 refine wp_region_held_drew (S:=fun v => v.cell? ⟨W.b,1,none⟩ = some (.pointer (some ⟨W.gq,0,none⟩)) /\ v.cell? ⟨W.b,3,none⟩ = some (.pointer (some ⟨W.R.b,0,none⟩)) /\ v.cell? ⟨N0,2,none⟩ = some (.int .i64 o.b)) (by kernel_rfl) (by rw [<- hw5]; exact Sw5) (fun hHeld => ?_)
 rw [<- hw5] at hHeld ⊢
 clear hw5
 refine tkh (i:=0) (v:=?_) rfl ?_ ?_
 rotate_left
 ·try simp only [qA,qS,qZ]
  rintro w ⟨hS1,hS2,hS3⟩
  go_simp
  (try with_reducible rfl)
 try simp only [qA,qS,qZ,Act.put,qT,qO,qN]
 refine tkh (i:=1) (v:=?_) rfl ?_ ?_
 rotate_left
 ·try simp only [qA,qS,qZ]
  rintro w ⟨hS1,hS2,hS3⟩
  go_simp
  (try with_reducible rfl)
 try simp only [qA,qS,qZ,Act.put,qT,qO,qN]
 refine tkh (i:=2) (v:=?_) rfl ?_ ?_
 rotate_left
 ·try simp only [qA,qS,qZ]
  rintro w ⟨hS1,hS2,hS3⟩
  go_simp
  (try with_reducible rfl)
 try simp only [qA,qS,qZ,Act.put,qT,qO,qN]
 refine tkh (i:=3) (v:=?_) rfl ?_ ?_
 rotate_left
 ·try simp only [qA,qS,qZ]
  rintro w ⟨hS1,hS2,hS3⟩
  go_simp
  (try with_reducible rfl)
 try simp only [qA,qS,qZ,Act.put,qT,qO,qN]
 refine tkh (i:=4) (v:=?_) rfl ?_ ?_
 rotate_left
 ·try simp only [qA,qS,qZ]
  rintro w ⟨hS1,hS2,hS3⟩
  go_simp
  (try with_reducible rfl)
 try simp only [qA,qS,qZ,Act.put,qT,qO,qN]
 refine tkh (i:=5) (v:=?_) rfl ?_ ?_
 rotate_left
 ·try simp only [qA,qS,qZ]
  rintro w ⟨hS1,hS2,hS3⟩
  go_simp
  (try with_reducible rfl)
 try simp only [qA,qS,qZ,Act.put,qT,qO,qN]
 refine tkh (i:=6) (v:=?_) rfl ?_ ?_
 rotate_left
 ·try simp only [qA,qS,qZ]
  rintro w ⟨hS1,hS2,hS3⟩
  go_simp
  (try with_reducible rfl)
 try simp only [qA,qS,qZ,Act.put,qT,qO,qN]
 refine tkh (i:=9) (v:=?_) rfl ?_ ?_
 rotate_left
 ·try simp only [qA,qS,qZ]
  rintro w ⟨hS1,hS2,hS3⟩
  go_simp
  (try with_reducible rfl)
 try simp only [qA,qS,qZ,Act.put,qT,qO,qN]
 refine tkh (i:=10) (v:=?_) rfl ?_ ?_
 rotate_left
 ·try simp only [qA,qS,qZ]
  rintro w ⟨hS1,hS2,hS3⟩
  go_simp
  (try with_reducible rfl)
 try simp only [qA,qS,qZ,Act.put,qT,qO,qN]
 refine tkh (i:=11) (v:=?_) rfl ?_ ?_
 rotate_left
 ·try simp only [qA,qS,qZ]
  rintro w ⟨hS1,hS2,hS3⟩
  go_simp
  (try with_reducible rfl)
 try simp only [qA,qS,qZ,Act.put,qT,qO,qN]
 refine tkh (i:=12) (v:=?_) rfl ?_ ?_
 rotate_left
 ·try simp only [qA,qS,qZ]
  rintro w ⟨hS1,hS2,hS3⟩
  go_simp
  (try with_reducible rfl)
 try simp only [qA,qS,qZ,Act.put,qT,qO,qN]
 refine tkh (i:=13) (v:=?_) rfl ?_ ?_
 rotate_left
 ·try simp only [qA,qS,qZ]
  rintro w ⟨hS1,hS2,hS3⟩
  go_simp
  (try with_reducible rfl)
 try simp only [qA,qS,qZ,Act.put,qT,qO,qN]
 refine tkh (i:=14) (v:=?_) rfl ?_ ?_
 rotate_left
 ·try simp only [qA,qS,qZ]
  rintro w ⟨hS1,hS2,hS3⟩
  go_simp
  (try with_reducible rfl)
 try simp only [qA,qS,qZ,Act.put,qT,qO,qN]
 refine tkh (i:=15) (v:=?_) rfl ?_ ?_
 rotate_left
 ·try simp only [qA,qS,qZ]
  rintro w ⟨hS1,hS2,hS3⟩
  go_simp
  (try with_reducible rfl)
 try simp only [qA,qS,qZ,Act.put,qT,qO,qN]
 clear hHeld
 refine wpAnyH_ready (rs:=[7]) (by kernel_rfl) (by simp) ?_
 refine AllReadyH.cons (o:=_) rfl (fun K hK => ?_) ?_
 ·try simp only [qA,qS,qZ]
  go_simp
  go_at_call 23
  refine (PC.out w5 Tw5.out.wat.q).mono ?_
  rintro e v6 ⟨rfl,oP,bsP,ZP,edP,dzP, -,QP⟩
  have Tv6:=Tw5.out.turn oP QP
  have Sv6:=Tv6.mv
  replace Tv6:=Lib.hid Tv6
  replace edP:=Lib.hid edP
  replace dzP:=Lib.hid dzP
  clear oP QP
  go_wp2_with fail
  refine hK.out _ _ Sv6 (fun hHeld => ?_)
  clear hK K hHeld
  try simp only [qA,qS,qZ,Act.put,qT,qO,qN]
  refine wpAnyH_ready (rs:=[8]) (by kernel_rfl) (by simp) ?_
  refine AllReadyH.cons (o:=_) rfl (fun K hK => ?_) ?_
  ·try simp only [qA,qS,qZ]
   go_simp
   go_at_call 14
   refine (nR.out _).mono ?_
   rintro e w' ⟨rfl,rfl⟩
   go_wp2_with fail
   refine hK.out _ _ Sv6 (fun hHeld => ?_)
   clear hK K hHeld
   try simp only [qA,qS,qZ,Act.put,qT,qO,qN]
   refine wpAnyH_ready (rs:=[16]) (by kernel_rfl) (by simp) ?_
   refine AllReadyH.cons (o:=_) rfl (fun K hK => ?_) ?_
   ·try simp only [qA,qS,qZ]
    go_simp
    go_at_call 32
    refine (DC.out v6 (hd6.out.at_ Tv6.out.wat.doc Tv6.out.wat.ref)).mono ?_
    rintro e v8 ⟨rfl,RD,eb,WeD,DD⟩
    have Tv8:=Tv6.out.docL DD eb WeD
    have gb:=Lib.hid WeD.gl
    have Sv8:=Tv8.mv
    simp only at Sv8
    rw [eb] at Sv8
    replace Tv8:=Lib.hid Tv8
    replace eb:=Lib.hid eb
    clear WeD DD
    go_wp2_with fail
    refine hK.out _ _ Sv8 (fun hHeld => ?_)
    clear hK K hHeld
    try simp only [qA,qS,qZ,Act.put,qT,qO,qN]
    refine tkh (i:=17) (v:=?_) rfl ?_ ?_
    rotate_left
    ·try simp only [qA,qS,qZ]
     rintro w ⟨hS1,hS2,hS3⟩
     go_simp
     (try with_reducible rfl)
    try simp only [qA,qS,qZ,Act.put,qT,qO,qN]
    refine tkh (i:=18) (v:=?_) rfl ?_ ?_
    rotate_left
    ·try simp only [qA,qS,qZ]
     rintro w ⟨hS1,hS2,hS3⟩
     go_simp
     (try with_reducible rfl)
    try simp only [qA,qS,qZ,Act.put,qT,qO,qN]
    refine wpAnyH_done (by kernel_rfl) ?_ _
    refine NoPanic.normal ?_
    have FF:=Lib.hid (fin.out v8 bsP ZP RD eb.out gb.out Tv8.out edP.out dzP.out)
    go_wp2
    go_ret
    exact ⟨rfl,FF.out⟩
   exact AllReadyH.nil
  exact AllReadyH.nil
 exact AllReadyH.nil
set_option maxHeartbeats 3200000 in
theorem movesDrop (hd:o.dO = 6):Calls Tryz.prog 48 #[.pointer (some ⟨W.b,0,none⟩),.agg o.cells] w fun e w' => e = .returned (.bool true) /\ GoesM N w w' W s bs Z r laid told t:=by
 have hH:=hdN_lt h.tlt ok
 have hO:=otN_lt h.tlt o
 have T1:=took6_begin h.wat o
 obtain ⟨w1,hw1⟩:∃ w1,w1 = w.alloc (.cells o.cells 28):=⟨_,rfl⟩
 rw [<- hw1] at T1
 have b1:Below w.heap.size w w1:=by rw [hw1]; exact (Below.refl _ _).alloc (Nat.le_refl _) _
 have HC:=handleC (h.below b1) ht o ok
 have OC:=fun w2 (b:Below w1.heap.size w1 w2) => otherC ((h.below b1).below b) ht o ok
 have hd6:=h.d6 ht
 obtain ⟨RR,Lx,hP⟩:∃ RR Lx,dropN qc s Ls (hdN told o) = (RR,Lx):=⟨_,_,rfl⟩
 have PC:∀ v,QW v W.L qc s bs Z W.gq W.gl Ls -> Calls Tryz.prog 24 #[.pointer (some ⟨W.gq,0,none⟩),.int .u64 (hdN told o:Int)] v fun e v' => e = .returned (.int .i64 (RR:Int)) /\ Did v v' W.L qc s bs Z W.gq W.gl (RR,Lx):=fun v q => by
  have:=dropC q _ hH
  rw [hP] at this
  exact this
 have DC:∀ v,D6 v W.R W.M qc s Z Ls r laid -> Calls Tryz.prog 33 #[.pointer (some ⟨W.R.b,0,none⟩),.int .u64 (hdN told o:Int)] v fun e v' => e = .returned (.int .i64 (RR:Int)) /\ ∃ R',R'.b = W.R.b /\ Went6 v v' W.R R' (3 * qc.nc) /\ R6At v' R' W.M.b (3 * qc.nc) laid (rows6 Lx):=fun v d => by
  have:=drop6C d (hdN told o)
  rw [hP] at this
  exact this
 have fin:∀ v bs' Z' R',R'.b = W.R.b -> R'.gL = W.R.gL -> Took6 N w.heap.size w v W s { W with R:=R' } s bs' Z' Lx Lx r laid told o -> Ed (Itp qc s Z) bs bs' -> (∀ H,(Z' H).isSome = (Z H).isSome) -> GoesM N w v W s bs Z r laid told t :=
  fun v bs' Z' R' eb gb T E dz => ⟨bs',Z',R',Lx,eb,gb,T.grew,E,dz,T.wat,h.rel,fun H i x p hf => by rw [dz H]; exact h.agr H i x p hf,E.1.trans h.bs,h.ch,h.la,h.tl,h.tlt,h.lg,h.ln,h.lt⟩
 have nR:=fun w => numC6 w RR
 obtain ⟨x0, -, -, -, -⟩:=T1.cells
 rw [hd] at x0
 generalize hdN told o = H at *
 generalize otN told o = G at *
 replace HC:=Lib.hid HC
 replace OC:=Lib.hid OC
 replace PC:=Lib.hid PC
 replace DC:=Lib.hid DC
 replace fin:=Lib.hid fin
 replace nR:=Lib.hid nR
 replace hd6:=Lib.hid hd6
 replace hP:=Lib.hid hP
 replace T1:=Lib.hid T1
 unfold Op6.cells at hw1 HC OC ⊢
 rw [hd] at hw1 HC OC ⊢
 have hdE:=Lib.hid hd
 replace hw1:=Lib.hid hw1
 clear h ok ht b1 hH hO hd
 generalize hN:w.heap.size = N0 at *
 replace hN:=Lib.hid hN
 go_enter Tryz.func48,Tryz.ntmps48
 go_upto_region 1 with fail
 rw [hN.out, <- hw1.out]
 have B1:=T1.out.op
 unfold Op6.cells at B1
 rw [hdE.out] at B1
 have q0:=B1.cell 0
 have q1:=B1.cell 1
 have q2:=B1.cell 2
 have q3:=B1.cell 3
 have q4:=B1.cell 4
 have q5:=B1.cell 5
 replace B1:=Lib.hid B1
 go_wp2_with fail
 refine HC.out.mono ?_
 rintro e w2 ⟨rfl,b2⟩
 have T2:=T1.out.step b2
 obtain ⟨x0, -, -, -, -⟩:=T2.cells
 rw [hdE.out] at x0
 replace T2:=Lib.hid T2
 clear HC T1 b2 OC q0 q1 q2 q3 q4 q5
 go_upto_region 8 with fail
 obtain ⟨w5,hw5⟩:∃ w5,w5 = w2.drew:=⟨_,rfl⟩
 have Tw5:Took6 N N0 w w5 W s W s bs Z Ls Ls r laid told o:=by rw [hw5]; exact T2.out.step (below_drewN (Below.refl _ _) 1)
 have Sw5:=Tw5.mv
 replace Tw5:=Lib.hid Tw5
 clear T2
 refine wp_region_noPanic ?_
 refine wp_region_held_drew (S:=fun v => v.cell? ⟨W.b,1,none⟩ = some (.pointer (some ⟨W.gq,0,none⟩)) /\ v.cell? ⟨W.b,3,none⟩ = some (.pointer (some ⟨W.R.b,0,none⟩)) /\ v.cell? ⟨N0,2,none⟩ = some (.int .i64 o.b)) (by kernel_rfl) (by rw [<- hw5]; exact Sw5) (fun hHeld => ?_)
 rw [<- hw5] at hHeld ⊢
 clear hw5
 refine tkh (i:=0) (v:=?_) rfl ?_ ?_
 rotate_left
 ·try simp only [qA,qS,qZ]
  rintro w ⟨hS1,hS2,hS3⟩
  go_simp
  (try with_reducible rfl)
 try simp only [qA,qS,qZ,Act.put,qT,qO,qN]
 refine tkh (i:=1) (v:=?_) rfl ?_ ?_
 rotate_left
 ·try simp only [qA,qS,qZ]
  rintro w ⟨hS1,hS2,hS3⟩
  go_simp
  (try with_reducible rfl)
 try simp only [qA,qS,qZ,Act.put,qT,qO,qN]
 refine tkh (i:=2) (v:=?_) rfl ?_ ?_
 rotate_left
 ·try simp only [qA,qS,qZ]
  rintro w ⟨hS1,hS2,hS3⟩
  go_simp
  (try with_reducible rfl)
 try simp only [qA,qS,qZ,Act.put,qT,qO,qN]
 refine tkh (i:=3) (v:=?_) rfl ?_ ?_
 rotate_left
 ·try simp only [qA,qS,qZ]
  rintro w ⟨hS1,hS2,hS3⟩
  go_simp
  (try with_reducible rfl)
 try simp only [qA,qS,qZ,Act.put,qT,qO,qN]
 refine tkh (i:=4) (v:=?_) rfl ?_ ?_
 rotate_left
 ·try simp only [qA,qS,qZ]
  rintro w ⟨hS1,hS2,hS3⟩
  go_simp
  (try with_reducible rfl)
 try simp only [qA,qS,qZ,Act.put,qT,qO,qN]
 refine tkh (i:=7) (v:=?_) rfl ?_ ?_
 rotate_left
 ·try simp only [qA,qS,qZ]
  rintro w ⟨hS1,hS2,hS3⟩
  go_simp
  (try with_reducible rfl)
 try simp only [qA,qS,qZ,Act.put,qT,qO,qN]
 refine tkh (i:=8) (v:=?_) rfl ?_ ?_
 rotate_left
 ·try simp only [qA,qS,qZ]
  rintro w ⟨hS1,hS2,hS3⟩
  go_simp
  (try with_reducible rfl)
 try simp only [qA,qS,qZ,Act.put,qT,qO,qN]
 refine tkh (i:=9) (v:=?_) rfl ?_ ?_
 rotate_left
 ·try simp only [qA,qS,qZ]
  rintro w ⟨hS1,hS2,hS3⟩
  go_simp
  (try with_reducible rfl)
 try simp only [qA,qS,qZ,Act.put,qT,qO,qN]
 refine tkh (i:=10) (v:=?_) rfl ?_ ?_
 rotate_left
 ·try simp only [qA,qS,qZ]
  rintro w ⟨hS1,hS2,hS3⟩
  go_simp
  (try with_reducible rfl)
 try simp only [qA,qS,qZ,Act.put,qT,qO,qN]
 refine tkh (i:=11) (v:=?_) rfl ?_ ?_
 rotate_left
 ·try simp only [qA,qS,qZ]
  rintro w ⟨hS1,hS2,hS3⟩
  go_simp
  (try with_reducible rfl)
 try simp only [qA,qS,qZ,Act.put,qT,qO,qN]
 clear hHeld
 refine wpAnyH_ready (rs:=[5]) (by kernel_rfl) (by simp) ?_
 refine AllReadyH.cons (o:=_) rfl (fun K hK => ?_) ?_
 ·try simp only [qA,qS,qZ]
  go_simp
  go_at_call 24
  refine (PC.out w5 Tw5.out.wat.q).mono ?_
  rintro e v6 ⟨rfl,oP,bsP,ZP,edP,dzP, -,QP⟩
  have Tv6:=Tw5.out.turn oP QP
  have Sv6:=Tv6.mv
  replace Tv6:=Lib.hid Tv6
  replace edP:=Lib.hid edP
  replace dzP:=Lib.hid dzP
  clear oP QP
  go_wp2_with fail
  refine hK.out _ _ Sv6 (fun hHeld => ?_)
  clear hK K hHeld
  try simp only [qA,qS,qZ,Act.put,qT,qO,qN]
  refine wpAnyH_ready (rs:=[6]) (by kernel_rfl) (by simp) ?_
  refine AllReadyH.cons (o:=_) rfl (fun K hK => ?_) ?_
  ·try simp only [qA,qS,qZ]
   go_simp
   go_at_call 14
   refine (nR.out _).mono ?_
   rintro e w' ⟨rfl,rfl⟩
   go_wp2_with fail
   refine hK.out _ _ Sv6 (fun hHeld => ?_)
   clear hK K hHeld
   try simp only [qA,qS,qZ,Act.put,qT,qO,qN]
   refine wpAnyH_ready (rs:=[12]) (by kernel_rfl) (by simp) ?_
   refine AllReadyH.cons (o:=_) rfl (fun K hK => ?_) ?_
   ·try simp only [qA,qS,qZ]
    go_simp
    go_at_call 33
    refine (DC.out v6 (hd6.out.at_ Tv6.out.wat.doc Tv6.out.wat.ref)).mono ?_
    rintro e v8 ⟨rfl,RD,eb,WeD,DD⟩
    have Tv8:=Tv6.out.docL DD eb WeD
    have gb:=Lib.hid WeD.gl
    have Sv8:=Tv8.mv
    simp only at Sv8
    rw [eb] at Sv8
    replace Tv8:=Lib.hid Tv8
    replace eb:=Lib.hid eb
    clear WeD DD
    go_wp2_with fail
    refine hK.out _ _ Sv8 (fun hHeld => ?_)
    clear hK K hHeld
    try simp only [qA,qS,qZ,Act.put,qT,qO,qN]
    refine tkh (i:=13) (v:=?_) rfl ?_ ?_
    rotate_left
    ·try simp only [qA,qS,qZ]
     rintro w ⟨hS1,hS2,hS3⟩
     go_simp
     (try with_reducible rfl)
    try simp only [qA,qS,qZ,Act.put,qT,qO,qN]
    refine tkh (i:=14) (v:=?_) rfl ?_ ?_
    rotate_left
    ·try simp only [qA,qS,qZ]
     rintro w ⟨hS1,hS2,hS3⟩
     go_simp
     (try with_reducible rfl)
    try simp only [qA,qS,qZ,Act.put,qT,qO,qN]
    refine wpAnyH_done (by kernel_rfl) ?_ _
    refine NoPanic.normal ?_
    have FF:=Lib.hid (fin.out v8 bsP ZP RD eb.out gb.out Tv8.out edP.out dzP.out)
    go_wp2
    go_ret
    exact ⟨rfl,FF.out⟩
   exact AllReadyH.nil
  exact AllReadyH.nil
 exact AllReadyH.nil
set_option maxHeartbeats 3200000 in
theorem movesSwap (hd:o.dO = 12):Calls Tryz.prog 48 #[.pointer (some ⟨W.b,0,none⟩),.agg o.cells] w fun e w' => e = .returned (.bool true) /\ GoesM N w w' W s bs Z r laid told t:=by
 have hH:=hdN_lt h.tlt ok
 have hO:=otN_lt h.tlt o
 have T1:=took6_begin h.wat o
 obtain ⟨w1,hw1⟩:∃ w1,w1 = w.alloc (.cells o.cells 28):=⟨_,rfl⟩
 rw [<- hw1] at T1
 have b1:Below w.heap.size w w1:=by rw [hw1]; exact (Below.refl _ _).alloc (Nat.le_refl _) _
 have HC:=handleC (h.below b1) ht o ok
 have OC:=fun w2 (b:Below w1.heap.size w1 w2) => otherC ((h.below b1).below b) ht o ok
 have hd6:=h.d6 ht
 obtain ⟨RR,Lx,hP⟩:∃ RR Lx,swapN qc s Z Ls (hdN told o) (otN told o) = (RR,Lx):=⟨_,_,rfl⟩
 have PC:∀ v,QW v W.L qc s bs Z W.gq W.gl Ls -> Calls Tryz.prog 35 #[.pointer (some ⟨W.gq,0,none⟩),.int .u64 (hdN told o:Int),.int .u64 (otN told o:Int)] v fun e v' => e = .returned (.int .i64 (RR:Int)) /\ Did v v' W.L qc s bs Z W.gq W.gl (RR,Lx):=fun v q => by
  have:=swapC q _ _ hH hO
  rw [hP] at this
  exact this
 have DC:∀ v,D6 v W.R W.M qc s Z Ls r laid -> Calls Tryz.prog 37 #[.pointer (some ⟨W.R.b,0,none⟩),.int .u64 (hdN told o:Int),.int .u64 (otN told o:Int)] v fun e v' => e = .returned (.int .i64 (RR:Int)) /\ ∃ R',R'.b = W.R.b /\ Went6 v v' W.R R' (3 * qc.nc) /\ R6At v' R' W.M.b (3 * qc.nc) laid (rows6 Lx):=fun v d => by
  have:=swap6C d (hdN told o) (otN told o)
  rw [hP] at this
  exact this
 have fin:∀ v bs' Z' R',R'.b = W.R.b -> R'.gL = W.R.gL -> Took6 N w.heap.size w v W s { W with R:=R' } s bs' Z' Lx Lx r laid told o -> Ed (Itp qc s Z) bs bs' -> (∀ H,(Z' H).isSome = (Z H).isSome) -> GoesM N w v W s bs Z r laid told t :=
  fun v bs' Z' R' eb gb T E dz => ⟨bs',Z',R',Lx,eb,gb,T.grew,E,dz,T.wat,h.rel,fun H i x p hf => by rw [dz H]; exact h.agr H i x p hf,E.1.trans h.bs,h.ch,h.la,h.tl,h.tlt,h.lg,h.ln,h.lt⟩
 have nR:=fun w => numC6 w RR
 obtain ⟨x0, -, -, -, -⟩:=T1.cells
 rw [hd] at x0
 generalize hdN told o = H at *
 generalize otN told o = G at *
 replace HC:=Lib.hid HC
 replace OC:=Lib.hid OC
 replace PC:=Lib.hid PC
 replace DC:=Lib.hid DC
 replace fin:=Lib.hid fin
 replace nR:=Lib.hid nR
 replace hd6:=Lib.hid hd6
 replace hP:=Lib.hid hP
 replace T1:=Lib.hid T1
 unfold Op6.cells at hw1 HC OC ⊢
 rw [hd] at hw1 HC OC ⊢
 have hdE:=Lib.hid hd
 replace hw1:=Lib.hid hw1
 clear h ok ht b1 hH hO hd
 generalize hN:w.heap.size = N0 at *
 replace hN:=Lib.hid hN
 go_enter Tryz.func48,Tryz.ntmps48
 go_upto_region 1 with fail
 rw [hN.out, <- hw1.out]
 have B1:=T1.out.op
 unfold Op6.cells at B1
 rw [hdE.out] at B1
 have q0:=B1.cell 0
 have q1:=B1.cell 1
 have q2:=B1.cell 2
 have q3:=B1.cell 3
 have q4:=B1.cell 4
 have q5:=B1.cell 5
 replace B1:=Lib.hid B1
 go_wp2_with fail
 refine HC.out.mono ?_
 rintro e w2 ⟨rfl,b2⟩
 have T2:=T1.out.step b2
 have B2:=T2.op
 unfold Op6.cells at B2
 rw [hdE.out] at B2
 have q0:=B2.cell 0
 have q1:=B2.cell 1
 have q2:=B2.cell 2
 have q3:=B2.cell 3
 have q4:=B2.cell 4
 have q5:=B2.cell 5
 have OC2:=Lib.hid (OC.out w2 b2)
 replace B2:=Lib.hid B2
 replace T2:=Lib.hid T2
 clear HC T1 b2 x0 OC
 go_wp2_with fail
 refine OC2.out.mono ?_
 rintro e w3 ⟨rfl,b3⟩
 have T2:=T2.out.step b3
 obtain ⟨w2,hw2⟩:∃ w2,w2 = w3:=⟨_,rfl⟩
 rw [<- hw2] at T2 ⊢
 clear hw2 b3 OC2
 replace T2:=Lib.hid T2
 clear q0 q1 q2 q3 q4 q5
 go_upto_region 11 with fail
 obtain ⟨w5,hw5⟩:∃ w5,w5 = w2.drew:=⟨_,rfl⟩
 have Tw5:Took6 N N0 w w5 W s W s bs Z Ls Ls r laid told o:=by rw [hw5]; exact T2.out.step (below_drewN (Below.refl _ _) 1)
 have Sw5:=Tw5.mv
 replace Tw5:=Lib.hid Tw5
 clear T2
 refine wp_region_noPanic ?_
 refine wp_region_held_drew (S:=fun v => v.cell? ⟨W.b,1,none⟩ = some (.pointer (some ⟨W.gq,0,none⟩)) /\ v.cell? ⟨W.b,3,none⟩ = some (.pointer (some ⟨W.R.b,0,none⟩)) /\ v.cell? ⟨N0,2,none⟩ = some (.int .i64 o.b)) (by kernel_rfl) (by rw [<- hw5]; exact Sw5) (fun hHeld => ?_)
 rw [<- hw5] at hHeld ⊢
 clear hw5
 refine tkh (i:=0) (v:=?_) rfl ?_ ?_
 rotate_left
 ·try simp only [qA,qS,qZ]
  rintro w ⟨hS1,hS2,hS3⟩
  go_simp
  (try with_reducible rfl)
 try simp only [qA,qS,qZ,Act.put,qT,qO,qN]
 refine tkh (i:=1) (v:=?_) rfl ?_ ?_
 rotate_left
 ·try simp only [qA,qS,qZ]
  rintro w ⟨hS1,hS2,hS3⟩
  go_simp
  (try with_reducible rfl)
 try simp only [qA,qS,qZ,Act.put,qT,qO,qN]
 refine tkh (i:=2) (v:=?_) rfl ?_ ?_
 rotate_left
 ·try simp only [qA,qS,qZ]
  rintro w ⟨hS1,hS2,hS3⟩
  go_simp
  (try with_reducible rfl)
 try simp only [qA,qS,qZ,Act.put,qT,qO,qN]
 refine tkh (i:=3) (v:=?_) rfl ?_ ?_
 rotate_left
 ·try simp only [qA,qS,qZ]
  rintro w ⟨hS1,hS2,hS3⟩
  go_simp
  (try with_reducible rfl)
 try simp only [qA,qS,qZ,Act.put,qT,qO,qN]
 refine tkh (i:=4) (v:=?_) rfl ?_ ?_
 rotate_left
 ·try simp only [qA,qS,qZ]
  rintro w ⟨hS1,hS2,hS3⟩
  go_simp
  (try with_reducible rfl)
 try simp only [qA,qS,qZ,Act.put,qT,qO,qN]
 refine tkh (i:=5) (v:=?_) rfl ?_ ?_
 rotate_left
 ·try simp only [qA,qS,qZ]
  rintro w ⟨hS1,hS2,hS3⟩
  go_simp
  (try with_reducible rfl)
 try simp only [qA,qS,qZ,Act.put,qT,qO,qN]
 refine tkh (i:=8) (v:=?_) rfl ?_ ?_
 rotate_left
 ·try simp only [qA,qS,qZ]
  rintro w ⟨hS1,hS2,hS3⟩
  go_simp
  (try with_reducible rfl)
 try simp only [qA,qS,qZ,Act.put,qT,qO,qN]
 refine tkh (i:=9) (v:=?_) rfl ?_ ?_
 rotate_left
 ·try simp only [qA,qS,qZ]
  rintro w ⟨hS1,hS2,hS3⟩
  go_simp
  (try with_reducible rfl)
 try simp only [qA,qS,qZ,Act.put,qT,qO,qN]
 refine tkh (i:=10) (v:=?_) rfl ?_ ?_
 rotate_left
 ·try simp only [qA,qS,qZ]
  rintro w ⟨hS1,hS2,hS3⟩
  go_simp
  (try with_reducible rfl)
 try simp only [qA,qS,qZ,Act.put,qT,qO,qN]
 refine tkh (i:=11) (v:=?_) rfl ?_ ?_
 rotate_left
 ·try simp only [qA,qS,qZ]
  rintro w ⟨hS1,hS2,hS3⟩
  go_simp
  (try with_reducible rfl)
 try simp only [qA,qS,qZ,Act.put,qT,qO,qN]
 refine tkh (i:=12) (v:=?_) rfl ?_ ?_
 rotate_left
 ·try simp only [qA,qS,qZ]
  rintro w ⟨hS1,hS2,hS3⟩
  go_simp
  (try with_reducible rfl)
 try simp only [qA,qS,qZ,Act.put,qT,qO,qN]
 refine tkh (i:=13) (v:=?_) rfl ?_ ?_
 rotate_left
 ·try simp only [qA,qS,qZ]
  rintro w ⟨hS1,hS2,hS3⟩
  go_simp
  (try with_reducible rfl)
 try simp only [qA,qS,qZ,Act.put,qT,qO,qN]
 clear hHeld
 refine wpAnyH_ready (rs:=[6]) (by kernel_rfl) (by simp) ?_
 refine AllReadyH.cons (o:=_) rfl (fun K hK => ?_) ?_
 ·try simp only [qA,qS,qZ]
  go_simp
  go_at_call 35
  refine (PC.out w5 Tw5.out.wat.q).mono ?_
  rintro e v6 ⟨rfl,oP,bsP,ZP,edP,dzP, -,QP⟩
  have Tv6:=Tw5.out.turn oP QP
  have Sv6:=Tv6.mv
  replace Tv6:=Lib.hid Tv6
  replace edP:=Lib.hid edP
  replace dzP:=Lib.hid dzP
  clear oP QP
  go_wp2_with fail
  refine hK.out _ _ Sv6 (fun hHeld => ?_)
  clear hK K hHeld
  try simp only [qA,qS,qZ,Act.put,qT,qO,qN]
  refine wpAnyH_ready (rs:=[7]) (by kernel_rfl) (by simp) ?_
  refine AllReadyH.cons (o:=_) rfl (fun K hK => ?_) ?_
  ·try simp only [qA,qS,qZ]
   go_simp
   go_at_call 14
   refine (nR.out _).mono ?_
   rintro e w' ⟨rfl,rfl⟩
   go_wp2_with fail
   refine hK.out _ _ Sv6 (fun hHeld => ?_)
   clear hK K hHeld
   try simp only [qA,qS,qZ,Act.put,qT,qO,qN]
   refine wpAnyH_ready (rs:=[14]) (by kernel_rfl) (by simp) ?_
   refine AllReadyH.cons (o:=_) rfl (fun K hK => ?_) ?_
   ·try simp only [qA,qS,qZ]
    go_simp
    go_at_call 37
    refine (DC.out v6 (hd6.out.at_ Tv6.out.wat.doc Tv6.out.wat.ref)).mono ?_
    rintro e v8 ⟨rfl,RD,eb,WeD,DD⟩
    have Tv8:=Tv6.out.docL DD eb WeD
    have gb:=Lib.hid WeD.gl
    have Sv8:=Tv8.mv
    simp only at Sv8
    rw [eb] at Sv8
    replace Tv8:=Lib.hid Tv8
    replace eb:=Lib.hid eb
    clear WeD DD
    go_wp2_with fail
    refine hK.out _ _ Sv8 (fun hHeld => ?_)
    clear hK K hHeld
    try simp only [qA,qS,qZ,Act.put,qT,qO,qN]
    refine tkh (i:=15) (v:=?_) rfl ?_ ?_
    rotate_left
    ·try simp only [qA,qS,qZ]
     rintro w ⟨hS1,hS2,hS3⟩
     go_simp
     (try with_reducible rfl)
    try simp only [qA,qS,qZ,Act.put,qT,qO,qN]
    refine tkh (i:=16) (v:=?_) rfl ?_ ?_
    rotate_left
    ·try simp only [qA,qS,qZ]
     rintro w ⟨hS1,hS2,hS3⟩
     go_simp
     (try with_reducible rfl)
    try simp only [qA,qS,qZ,Act.put,qT,qO,qN]
    refine wpAnyH_done (by kernel_rfl) ?_ _
    refine NoPanic.normal ?_
    have FF:=Lib.hid (fin.out v8 bsP ZP RD eb.out gb.out Tv8.out edP.out dzP.out)
    go_wp2
    go_ret
    exact ⟨rfl,FF.out⟩
   exact AllReadyH.nil
  exact AllReadyH.nil
 exact AllReadyH.nil
set_option maxHeartbeats 3200000 in
theorem movesShift (hd:o.dO = 7):Calls Tryz.prog 48 #[.pointer (some ⟨W.b,0,none⟩),.agg o.cells] w fun e w' => e = .returned (.bool true) /\ GoesM N w w' W s bs Z r laid told t:=by
 have hH:=hdN_lt h.tlt ok
 have hO:=otN_lt h.tlt o
 have T1:=took6_begin h.wat o
 obtain ⟨w1,hw1⟩:∃ w1,w1 = w.alloc (.cells o.cells 28):=⟨_,rfl⟩
 rw [<- hw1] at T1
 have b1:Below w.heap.size w w1:=by rw [hw1]; exact (Below.refl _ _).alloc (Nat.le_refl _) _
 have HC:=handleC (h.below b1) ht o ok
 have OC:=fun w2 (b:Below w1.heap.size w1 w2) => otherC ((h.below b1).below b) ht o ok
 have hd6:=h.d6 ht
 obtain ⟨RR,Lx,hP⟩:∃ RR Lx,shiftN qc s Ls (hdN told o) o.b = (RR,Lx):=⟨_,_,rfl⟩
 have PC:∀ v,QW v W.L qc s bs Z W.gq W.gl Ls -> Calls Tryz.prog 25 #[.pointer (some ⟨W.gq,0,none⟩),.int .u64 (hdN told o:Int),.int .i64 o.b] v fun e v' => e = .returned (.int .i64 (RR:Int)) /\ Did v v' W.L qc s bs Z W.gq W.gl (RR,Lx):=fun v q => by
  have:=shiftC q _ hH o.b
  rw [hP] at this
  exact this
 have DC:∀ v,D6 v W.R W.M qc s Z Ls r laid -> Calls Tryz.prog 34 #[.pointer (some ⟨W.R.b,0,none⟩),.int .u64 (hdN told o:Int),.int .i64 o.b] v fun e v' => e = .returned (.int .i64 (RR:Int)) /\ ∃ R',R'.b = W.R.b /\ Went6 v v' W.R R' (3 * qc.nc) /\ R6At v' R' W.M.b (3 * qc.nc) laid (rows6 Lx):=fun v d => by
  have:=shift6C d (hdN told o) o.b
  rw [hP] at this
  exact this
 have fin:∀ v bs' Z' R',R'.b = W.R.b -> R'.gL = W.R.gL -> Took6 N w.heap.size w v W s { W with R:=R' } s bs' Z' Lx Lx r laid told o -> Ed (Itp qc s Z) bs bs' -> (∀ H,(Z' H).isSome = (Z H).isSome) -> GoesM N w v W s bs Z r laid told t :=
  fun v bs' Z' R' eb gb T E dz => ⟨bs',Z',R',Lx,eb,gb,T.grew,E,dz,T.wat,h.rel,fun H i x p hf => by rw [dz H]; exact h.agr H i x p hf,E.1.trans h.bs,h.ch,h.la,h.tl,h.tlt,h.lg,h.ln,h.lt⟩
 have nR:=fun w => numC6 w RR
 obtain ⟨x0, -, -, -, -⟩:=T1.cells
 rw [hd] at x0
 generalize hdN told o = H at *
 generalize otN told o = G at *
 replace HC:=Lib.hid HC
 replace OC:=Lib.hid OC
 replace PC:=Lib.hid PC
 replace DC:=Lib.hid DC
 replace fin:=Lib.hid fin
 replace nR:=Lib.hid nR
 replace hd6:=Lib.hid hd6
 replace hP:=Lib.hid hP
 replace T1:=Lib.hid T1
 unfold Op6.cells at hw1 HC OC ⊢
 rw [hd] at hw1 HC OC ⊢
 have hdE:=Lib.hid hd
 replace hw1:=Lib.hid hw1
 clear h ok ht b1 hH hO hd
 generalize hN:w.heap.size = N0 at *
 replace hN:=Lib.hid hN
 go_enter Tryz.func48,Tryz.ntmps48
 go_upto_region 1 with fail
 rw [hN.out, <- hw1.out]
 have B1:=T1.out.op
 unfold Op6.cells at B1
 rw [hdE.out] at B1
 have q0:=B1.cell 0
 have q1:=B1.cell 1
 have q2:=B1.cell 2
 have q3:=B1.cell 3
 have q4:=B1.cell 4
 have q5:=B1.cell 5
 replace B1:=Lib.hid B1
 go_wp2_with fail
 refine HC.out.mono ?_
 rintro e w2 ⟨rfl,b2⟩
 have T2:=T1.out.step b2
 obtain ⟨x0, -, -, -, -⟩:=T2.cells
 rw [hdE.out] at x0
 replace T2:=Lib.hid T2
 clear HC T1 b2 OC q0 q1 q2 q3 q4 q5
 go_upto_region 12 with fail
 obtain ⟨w5,hw5⟩:∃ w5,w5 = w2.drew:=⟨_,rfl⟩
 have Tw5:Took6 N N0 w w5 W s W s bs Z Ls Ls r laid told o:=by rw [hw5]; exact T2.out.step (below_drewN (Below.refl _ _) 1)
 have Sw5:=Tw5.mv
 replace Tw5:=Lib.hid Tw5
 clear T2
 refine wp_region_noPanic ?_
 refine wp_region_held_drew (S:=fun v => v.cell? ⟨W.b,1,none⟩ = some (.pointer (some ⟨W.gq,0,none⟩)) /\ v.cell? ⟨W.b,3,none⟩ = some (.pointer (some ⟨W.R.b,0,none⟩)) /\ v.cell? ⟨N0,2,none⟩ = some (.int .i64 o.b)) (by kernel_rfl) (by rw [<- hw5]; exact Sw5) (fun hHeld => ?_)
 rw [<- hw5] at hHeld ⊢
 clear hw5
 refine tkh (i:=0) (v:=?_) rfl ?_ ?_
 rotate_left
 ·try simp only [qA,qS,qZ]
  rintro w ⟨hS1,hS2,hS3⟩
  go_simp
  (try with_reducible rfl)
 try simp only [qA,qS,qZ,Act.put,qT,qO,qN]
 refine tkh (i:=1) (v:=?_) rfl ?_ ?_
 rotate_left
 ·try simp only [qA,qS,qZ]
  rintro w ⟨hS1,hS2,hS3⟩
  go_simp
  (try with_reducible rfl)
 try simp only [qA,qS,qZ,Act.put,qT,qO,qN]
 refine tkh (i:=2) (v:=?_) rfl ?_ ?_
 rotate_left
 ·try simp only [qA,qS,qZ]
  rintro w ⟨hS1,hS2,hS3⟩
  go_simp
  (try with_reducible rfl)
 try simp only [qA,qS,qZ,Act.put,qT,qO,qN]
 refine tkh (i:=3) (v:=?_) rfl ?_ ?_
 rotate_left
 ·try simp only [qA,qS,qZ]
  rintro w ⟨hS1,hS2,hS3⟩
  go_simp
  (try with_reducible rfl)
 try simp only [qA,qS,qZ,Act.put,qT,qO,qN]
 refine tkh (i:=4) (v:=?_) rfl ?_ ?_
 rotate_left
 ·try simp only [qA,qS,qZ]
  rintro w ⟨hS1,hS2,hS3⟩
  go_simp
  (try with_reducible rfl)
 try simp only [qA,qS,qZ,Act.put,qT,qO,qN]
 refine tkh (i:=5) (v:=?_) rfl ?_ ?_
 rotate_left
 ·try simp only [qA,qS,qZ]
  rintro w ⟨hS1,hS2,hS3⟩
  go_simp
  (try with_reducible rfl)
 try simp only [qA,qS,qZ,Act.put,qT,qO,qN]
 refine tkh (i:=6) (v:=?_) rfl ?_ ?_
 rotate_left
 ·try simp only [qA,qS,qZ]
  rintro w ⟨hS1,hS2,hS3⟩
  go_simp
  (try with_reducible rfl)
 try simp only [qA,qS,qZ,Act.put,qT,qO,qN]
 refine tkh (i:=9) (v:=?_) rfl ?_ ?_
 rotate_left
 ·try simp only [qA,qS,qZ]
  rintro w ⟨hS1,hS2,hS3⟩
  go_simp
  (try with_reducible rfl)
 try simp only [qA,qS,qZ,Act.put,qT,qO,qN]
 refine tkh (i:=10) (v:=?_) rfl ?_ ?_
 rotate_left
 ·try simp only [qA,qS,qZ]
  rintro w ⟨hS1,hS2,hS3⟩
  go_simp
  (try with_reducible rfl)
 try simp only [qA,qS,qZ,Act.put,qT,qO,qN]
 refine tkh (i:=11) (v:=?_) rfl ?_ ?_
 rotate_left
 ·try simp only [qA,qS,qZ]
  rintro w ⟨hS1,hS2,hS3⟩
  go_simp
  (try with_reducible rfl)
 try simp only [qA,qS,qZ,Act.put,qT,qO,qN]
 refine tkh (i:=12) (v:=?_) rfl ?_ ?_
 rotate_left
 ·try simp only [qA,qS,qZ]
  rintro w ⟨hS1,hS2,hS3⟩
  go_simp
  (try with_reducible rfl)
 try simp only [qA,qS,qZ,Act.put,qT,qO,qN]
 refine tkh (i:=13) (v:=?_) rfl ?_ ?_
 rotate_left
 ·try simp only [qA,qS,qZ]
  rintro w ⟨hS1,hS2,hS3⟩
  go_simp
  (try with_reducible rfl)
 try simp only [qA,qS,qZ,Act.put,qT,qO,qN]
 refine tkh (i:=14) (v:=?_) rfl ?_ ?_
 rotate_left
 ·try simp only [qA,qS,qZ]
  rintro w ⟨hS1,hS2,hS3⟩
  go_simp
  (try with_reducible rfl)
 try simp only [qA,qS,qZ,Act.put,qT,qO,qN]
 refine tkh (i:=15) (v:=?_) rfl ?_ ?_
 rotate_left
 ·try simp only [qA,qS,qZ]
  rintro w ⟨hS1,hS2,hS3⟩
  go_simp
  (try with_reducible rfl)
 try simp only [qA,qS,qZ,Act.put,qT,qO,qN]
 clear hHeld
 refine wpAnyH_ready (rs:=[7]) (by kernel_rfl) (by simp) ?_
 refine AllReadyH.cons (o:=_) rfl (fun K hK => ?_) ?_
 ·try simp only [qA,qS,qZ]
  go_simp
  go_at_call 25
  refine (PC.out w5 Tw5.out.wat.q).mono ?_
  rintro e v6 ⟨rfl,oP,bsP,ZP,edP,dzP, -,QP⟩
  have Tv6:=Tw5.out.turn oP QP
  have Sv6:=Tv6.mv
  replace Tv6:=Lib.hid Tv6
  replace edP:=Lib.hid edP
  replace dzP:=Lib.hid dzP
  clear oP QP
  go_wp2_with fail
  refine hK.out _ _ Sv6 (fun hHeld => ?_)
  clear hK K hHeld
  try simp only [qA,qS,qZ,Act.put,qT,qO,qN]
  refine wpAnyH_ready (rs:=[8]) (by kernel_rfl) (by simp) ?_
  refine AllReadyH.cons (o:=_) rfl (fun K hK => ?_) ?_
  ·try simp only [qA,qS,qZ]
   go_simp
   go_at_call 14
   refine (nR.out _).mono ?_
   rintro e w' ⟨rfl,rfl⟩
   go_wp2_with fail
   refine hK.out _ _ Sv6 (fun hHeld => ?_)
   clear hK K hHeld
   try simp only [qA,qS,qZ,Act.put,qT,qO,qN]
   refine wpAnyH_ready (rs:=[16]) (by kernel_rfl) (by simp) ?_
   refine AllReadyH.cons (o:=_) rfl (fun K hK => ?_) ?_
   ·try simp only [qA,qS,qZ]
    go_simp
    go_at_call 34
    refine (DC.out v6 (hd6.out.at_ Tv6.out.wat.doc Tv6.out.wat.ref)).mono ?_
    rintro e v8 ⟨rfl,RD,eb,WeD,DD⟩
    have Tv8:=Tv6.out.docL DD eb WeD
    have gb:=Lib.hid WeD.gl
    have Sv8:=Tv8.mv
    simp only at Sv8
    rw [eb] at Sv8
    replace Tv8:=Lib.hid Tv8
    replace eb:=Lib.hid eb
    clear WeD DD
    go_wp2_with fail
    refine hK.out _ _ Sv8 (fun hHeld => ?_)
    clear hK K hHeld
    try simp only [qA,qS,qZ,Act.put,qT,qO,qN]
    refine tkh (i:=17) (v:=?_) rfl ?_ ?_
    rotate_left
    ·try simp only [qA,qS,qZ]
     rintro w ⟨hS1,hS2,hS3⟩
     go_simp
     (try with_reducible rfl)
    try simp only [qA,qS,qZ,Act.put,qT,qO,qN]
    refine tkh (i:=18) (v:=?_) rfl ?_ ?_
    rotate_left
    ·try simp only [qA,qS,qZ]
     rintro w ⟨hS1,hS2,hS3⟩
     go_simp
     (try with_reducible rfl)
    try simp only [qA,qS,qZ,Act.put,qT,qO,qN]
    refine wpAnyH_done (by kernel_rfl) ?_ _
    refine NoPanic.normal ?_
    have FF:=Lib.hid (fin.out v8 bsP ZP RD eb.out gb.out Tv8.out edP.out dzP.out)
    go_wp2
    go_ret
    exact ⟨rfl,FF.out⟩
   exact AllReadyH.nil
  exact AllReadyH.nil
 exact AllReadyH.nil
end
end Go.Proofs.YtfjiphibalhcgaaGreat.Que
/-
  The queue's iterators: along.
-/
namespace Go.Proofs.YtfjiphibalhcgaaGreat.Que
open Go.RowKit Base Arena Cls Itm Go.Shelf
attribute [local go_sem] Oper.semAt_some
abbrev HU:={ H:Nat // H < 18446744073709551616 }
def hu (x:HU):Array Value:=#[.int .u64 (x.1:Int)]
theorem QI.next_in {c:Conf} {s:St} {Z:Nat -> Option Zd} {F:QN} {Ls:Nat -> Nat -> List Nat} (q:QI c s Z F Ls) (ok:c.cf.Ok) (g:Cls.Good c.cf s) {x k H:Nat} (hx:x < c.nc) (hk:k < 3) {l1 l2:List Nat} (hl:Ls x k = l1 ++ H :: l2) :
  nextN c s Ls H = l2.head?.getD 0 /\ (decide (nextN c s Ls H ≠ 0)) = decide (0 < l2.length) /\ H < 18446744073709551616:=by
 have hm:H ∈ Ls x k:=by rw [hl]; simp
 obtain ⟨i,y,p,hf,hc⟩:=q.it x k H hx hk hm
 have ec:clsN c s H = x:=by unfold clsN; rw [hf]; exact hc
 have h0:stK (clsN c s H) Ls H ≠ 0:=fun e => stK_zero e k hk (by rw [ec]; exact hm)
 obtain ⟨k',i',y',p',hk',e,hf',ec',hx',hm'⟩:=q.of_stK ok g h0
 rw [<- ec',ec] at hm'
 obtain ⟨-,rfl⟩:=q.dj x k' x k H hx hk' hx hk hm' hm
 have hnd:=q.nd x k' hx hk
 rw [hl] at hnd
 have n1:H ∉ l1:=fun e => (List.nodup_append.1 hnd).2.2 H e H (List.mem_cons_self ..) rfl
 have en:nextN c s Ls H = l2.head?.getD 0:=by
  unfold nextN
  rw [if_neg h0,e,ec,Nat.add_sub_cancel,hl,behind_split n1]
 refine ⟨en,?_,good_lt ok g hf⟩
 rw [en]
 cases l2 with
 | nil => rfl
 | cons a t =>
  have ha:a ≠ 0:=q.ne0 hx hk (show a ∈ Ls x k' by rw [hl]; simp)
  show decide (a ≠ 0) = decide (0 < (a :: t).length)
  rw [decide_eq_true ha,decide_eq_true (by simp)]
theorem grown_of_below {w w':World} (h:Below w.heap.size w w'):w.grownBy w' none:=⟨h.os,h.tape,h.output,h.size,fun k hk _ => h.block k hk⟩
theorem QW.below {w w':World} {L:Lay} {c:Conf} {s:St} {bs:List UInt8} {Z:Nat -> Option Zd} {gq gl:Nat} {Ls:Nat -> Nat -> List Nat} (h:QW w L c s bs Z gq gl Ls) (b:Below w.heap.size w w'):QW w' L c s bs Z gq gl Ls:=by
 obtain ⟨F,S,q⟩:=h
 exact ⟨F,S.below b,q⟩
theorem alongC (w:World) (gq:Nat) (x kind:Int):Calls Tryz.prog 53 #[.pointer (some ⟨gq,0,none⟩),.int .i64 x,.int .i64 kind] w fun e w' =>
  e = .returned (.func (.func 95) #[] #[.pointer (some ⟨w.heap.size,0,none⟩),.pointer (some ⟨w.heap.size + 1,0,none⟩),.pointer (some ⟨w.heap.size + 2,0,none⟩)]) /\
  w' = ((w.alloc (.cells #[.pointer (some ⟨gq,0,none⟩)] 29)).alloc (.cells #[.int .i64 x] 3)).alloc (.cells #[.int .i64 kind] 3):=by
 go_enter Tryz.func53,Tryz.ntmps53
 go_wp2
 go_ret
 exact ⟨rfl,rfl⟩
theorem allC0 (w:World) (gq:Nat) (x kind:Int):Calls Tryz.prog 17 #[.pointer (some ⟨gq,0,none⟩),.int .i64 x,.int .i64 kind] w fun e w' =>
  e = .returned (.func (.func 52) #[] #[.pointer (some ⟨w.heap.size,0,none⟩),.pointer (some ⟨w.heap.size + 1,0,none⟩),.pointer (some ⟨w.heap.size + 2,0,none⟩)]) /\
  w' = ((w.alloc (.cells #[.pointer (some ⟨gq,0,none⟩)] 29)).alloc (.cells #[.int .i64 x] 3)).alloc (.cells #[.int .i64 kind] 3):=by
 go_enter Tryz.func17,Tryz.ntmps17
 go_wp2
 go_ret
 exact ⟨rfl,rfl⟩
end Go.Proofs.YtfjiphibalhcgaaGreat.Que
/-
  The queue's iterators: along's closure.
-/
namespace Go.Proofs.YtfjiphibalhcgaaGreat.Que
open Go.RowKit Base Arena Cls Itm Go.Shelf
attribute [local go_sem] Oper.semAt_some
set_option maxHeartbeats 2000000 in
theorem along1_in {w:World} {L:Lay} {c:Conf} {s:St} {bs:List UInt8} {Z:Nat -> Option Zd} {gq gl:Nat} {Ls:Nat -> Nat -> List Nat} (h:QW w L c s bs Z gq gl Ls) (x kind:Int) (n:Nat) (hn : 2 <= n) (l Bq Bc Bk:Nat)
  (S:Nat -> Prop) (hS:∀ b,b < w.heap.size -> ¬ S b) (hB:¬ S Bq /\ ¬ S Bc /\ ¬ S Bk) (J Jx:List HU -> World -> Prop) (W:World) (hw:Below w.heap.size w W) (hJ:AbidesFrom W.heap.size J)
  (hY:∀ pre (y:HU) W1,J pre W1 -> pre.length < (lsN c Ls x kind).length -> YieldAt Fence.wide (n - 1) Tryz.prog l #[.int .u64 (y.1:Int)] W1 fun e W' =>
   (e = .returned (.bool true) /\ J (pre ++ [y]) W' /\ Only S W1 W') \/ (e = .returned (.bool false) /\ Jx (pre ++ [y]) W'))
  (cq:W.cell? ⟨Bq,0,none⟩ = some (.pointer (some ⟨gq,0,none⟩))) (cc:W.cell? ⟨Bc,0,none⟩ = some (.int .i64 x)) (ck:W.cell? ⟨Bk,0,none⟩ = some (.int .i64 kind)) (h0:J [] W) :
  CallsIn Fence.wide n Tryz.prog 95 #[.func (.yield l) #[] #[],.pointer (some ⟨Bq,0,none⟩),.pointer (some ⟨Bc,0,none⟩),.pointer (some ⟨Bk,0,none⟩)] W fun e W' => (∃ v,e = .returned v) /\
   ((∃ ys:List HU,ys.map (·.1) = lsN c Ls x kind /\ J ys W') \/ (∃ pre:List HU,pre.map (·.1) <+: lsN c Ls x kind /\ Jx pre W')):=by
 have QS:∀ wr,Only S W wr -> QW wr L c s bs Z gq gl Ls:=fun wr o => h.below (hw.trans (o.toBelow fun k hk => ⟨by have:=hw.size; omega,hS k hk⟩))
 have cells:∀ wr,Only S W wr -> wr.cell? ⟨Bq,0,none⟩ = some (.pointer (some ⟨gq,0,none⟩)) /\ wr.cell? ⟨Bc,0,none⟩ = some (.int .i64 x) /\ wr.cell? ⟨Bk,0,none⟩ = some (.int .i64 kind):=fun wr o =>
  ⟨(World.cell?_of_block (a:=⟨Bq,0,none⟩) (o.block Bq (World.block_lt_of_cell? W _ cq) hB.1)).trans cq,(World.cell?_of_block (a:=⟨Bc,0,none⟩) (o.block Bc (World.block_lt_of_cell? W _ cc) hB.2.1)).trans cc,(World.cell?_of_block (a:=⟨Bk,0,none⟩) (o.block Bk (World.block_lt_of_cell? W _ ck) hB.2.2)).trans ck⟩
 have HC:=headC (QS W (Only.refl _ _)) x kind
 have LC:=lenC (QS W (Only.refl _ _)) x kind
 have small:(lsN c Ls x kind).length <= 134217729:=by
  unfold lsN
  split
  ·rename_i hv
   obtain ⟨F,S1,q⟩:=h
   rw [<- q.n _ _ (by omega) (by omega)]
   exact q.nB S1.okc S1.zs.good (by omega) (by omega)
  ·simp
 have BC:∀ wr,Only S W wr -> ∀ (l1:List Nat) (y:Nat) (l2:List Nat),lsN c Ls x kind = l1 ++ y :: l2 -> y < 18446744073709551616 /\ Calls Tryz.prog 61 #[.pointer (some ⟨gq,0,none⟩),.int .u64 (y:Int)] wr fun e w' => e = .returned (.tuple #[.int .u64 (l2.head?.getD 0:Int),.bool (decide (0 < l2.length))]) /\ Below wr.heap.size wr w':=by
  intro wr o l1 y l2 hl
  have Q:=QS wr o
  have Q':=Q
  obtain ⟨F,S1,q⟩:=Q'
  unfold lsN at hl
  split at hl
  ·rename_i hv
   obtain ⟨e1,e2,e3⟩:=q.next_in S1.okc S1.zs.good (by omega) (by omega) hl
   have:=behindC Q y e3
   rw [e2,e1] at this
   exact ⟨e3,this⟩
  ·simp at hl
 generalize lsN c Ls x kind = LS at *
 obtain ⟨cq0,cc0,ck0⟩:=cells W (Only.refl _ _)
 replace h:=Lib.hid h
 replace QS:=Lib.hid QS
 replace cells:=Lib.hid cells
 replace HC:=Lib.hid HC
 replace LC:=Lib.hid LC
 replace BC:=Lib.hid BC
 replace hY:=Lib.hid hY
 replace hJ:=Lib.hid hJ
 replace h0:=Lib.hid h0
 clear hS hB hw cq cc ck
 refine callsIn_of_wp Tryz.func95 rfl trivial ?_ rfl
 simp only [Tryz.ntmps95,List.size_toArray,List.length_cons,List.length_nil,Nat.reduceAdd,Nat.reduceSub,Array.replicate_succ,Array.replicate_zero,List.push_toArray,List.append_toArray,List.nil_append,List.cons_append]
 gi_wp2_with (first | (refine ⟨trivial,fun _ => by omega,?_⟩; gi_at_call 51; refine (callsIn_wide.2 HC.out).mono ?_; rintro e w' ⟨rfl,rfl⟩) | (refine ⟨trivial,fun _ => by omega,?_⟩; gi_at_call 29; refine (callsIn_wide.2 LC.out).mono ?_; rintro e w' ⟨rfl,rfl⟩) | fail)
 gi_loopw [5,6,7] (fun th tk tn wr => ∃ (pre:List HU) (rest:List Nat),th = .int .u64 (rest.head?.getD 0:Int) /\ tk = .bool (decide (0 < rest.length)) /\ tn = .int .i64 (rest.length:Int) /\ Hid (LS = pre.map (·.1) ++ rest) /\ Hid (J pre wr) /\ Hid (Only S W wr)) (fun _ _ tn _ => (intOf tn).toNat)
 case atStart => exact ⟨[],LS,rfl,rfl,rfl,Lib.hid rfl,h0,Lib.hid (Only.refl _ _)⟩
 case round =>
  obtain ⟨pre,rest,rfl,rfl,rfl,hx,hJs,ho⟩:=hrel
  obtain ⟨cq1,cc1,ck1⟩:=cells.out wr ho.out
  cases rest with
  | nil =>
   have e1:(([]:List Nat).head?.getD 0) = 0:=rfl
   have e2:decide (0 < ([]:List Nat).length) = false:=rfl
   rw [e1,e2]
   gi_wp2
   refine ⟨fun _ h => (by cases h),?_⟩
   gi_wp2
   go_end0
   exact ⟨⟨_,rfl⟩,.inl ⟨pre,by rw [hx.out,List.append_nil],hJs.out⟩⟩
  | cons y rest =>
   obtain ⟨hy64, -⟩:=BC.out wr ho.out _ _ _ hx.out
   obtain ⟨fn,tmps,assign,body,hy,hR⟩:=hY.out pre ⟨y,hy64⟩ wr hJs.out (by rw [hx.out,List.length_append,List.length_map,List.length_cons]; omega)
   dsimp only at hy
   have e1:((y :: rest).head?.getD 0) = y:=rfl
   have e2:decide (0 < (y :: rest).length) = true:=by simp
   obtain ⟨m,hm⟩:∃ m,m = (y :: rest).length:=⟨_,rfl⟩
   have hm1:m = rest.length + 1:=by rw [hm]; rfl
   rw [e1,e2, <- hm]
   have d1:decide ((0:Int) < (m:Int)) = true:=decide_eq_true (by omega)
   have d2:(0:Int) < (m:Int):=by omega
   have q1:IntKind.i64.wrap ((m:Int) - 1) = (rest.length:Int):=by
    have hl:LS.length = pre.length + m:=by rw [hx.out,List.length_append,List.length_map, <- hm]
    rw [IntWalk.i64_in _ (by omega)]; omega
   replace hm:=Lib.hid hm
   replace hm1:=Lib.hid hm1
   clear e1 e2
   gi_wp2
   refine ⟨fun _ => by omega,?_⟩
   refine hR.mono ?_
   rintro e W3 (⟨rfl,hJ3,hk3⟩ | ⟨rfl,hJx3⟩)
   ·have o3:=ho.out.trans hk3 fun _ _ h => h
    obtain ⟨cq3,cc3,ck3⟩:=cells.out W3 o3
    have BB:=Lib.hid (BC.out W3 o3 _ _ _ hx.out).2
    replace hJ3:=Lib.hid hJ3
    replace o3:=Lib.hid o3
    clear hk3 hJs ho
    gi_wp2_with (first | (refine ⟨trivial,fun _ => by omega,?_⟩; gi_at_call 61; refine (callsIn_wide.2 BB.out).mono ?_; rintro e w4 ⟨rfl,b4⟩) | fail)
    go_roundw
    case rel => exact ⟨pre ++ [⟨y,hy64⟩],rest,rfl,rfl,rfl,Lib.hid (by rw [hx.out]; simp),Lib.hid (hJ.out _ _ _ none hJ3.out (grown_of_below b4) (fun r e => by cases e)),Lib.hid (o3.out.below b4 o3.out.size)⟩
    case measure => simp [intOf]; have:=hm1.out; omega
   ·gi_wp2
    go_end0
    exact ⟨⟨_,rfl⟩,.inr ⟨pre ++ [⟨y,hy64⟩],⟨rest,by rw [hx.out]; simp⟩,hJx3⟩⟩
end Go.Proofs.YtfjiphibalhcgaaGreat.Que
/-
  A range over a function whose iterator holds a range of its own: what a round keeps is told of all blocks but loops' records and rows of uint64. Nothing here names a function of the program.
-/
namespace Go.Proofs.YtfjiphibalhcgaaGreat.Que
open Go.RowKit Base Arena Cls Itm Go.Shelf
def prot:Obj -> Bool
 | .loop _ => false
 | .cells _ t _ => decide (t ≠ 26)
 | _ => true
structure KeepP (D:Nat) (A B:World):Prop where
 size:A.heap.size <= B.heap.size
 same:∀ (b:Nat) (o:Obj),D <= b -> A.heap[b]? = some o -> prot o = true -> B.heap[b]? = some o
theorem KeepP.refl (D:Nat) (A:World):KeepP D A A:=⟨Nat.le_refl _,fun _ _ _ h _ => h⟩
theorem KeepP.trans {D:Nat} {A B C:World} (h:KeepP D A B) (k:KeepP D B C):KeepP D A C:=⟨Nat.le_trans h.size k.size,fun b o hb ho hp => k.same b o hb (h.same b o hb ho hp) hp⟩
theorem KeepP.below {D:Nat} {A B:World} (h:Below A.heap.size A B):KeepP D A B:=⟨h.size,fun b o _ ho _ => (h.block b (heap_lt ho)).trans ho⟩
theorem KeepP.only {D:Nat} {S:Nat -> Prop} {A B:World} (h:Only S A B) (hs:∀ b o,D <= b -> A.heap[b]? = some o -> prot o = true -> ¬ S b):KeepP D A B:=⟨h.size,fun b o hb ho hp => (h.block b (heap_lt ho) (hs b o hb ho hp)).trans ho⟩
theorem KeepP.putLoop {D:Nat} (A:World) (l:Nat) {r:Loop} (o':Obj) (h:A.heap[l]? = some (.loop r)):KeepP D A (A.putObj l o') :=
 ⟨(grownBy_putObj' A l o').size,fun b o _ ho hp => (World.putObj_heap_other (fun e => by subst e; rw [h] at ho; cases ho; cases hp)).trans ho⟩
def roundEnd {α:Type} (D l:Nat) (I:List α -> World -> Prop) (Ix:Code -> List α -> World -> Prop) (xs:List α) (W:World):Exit -> Act -> World -> Prop
 | .normal,_,W' => KeepP D W W' /\ W'.heap[l]? = W.heap[l]? /\ I xs W'
 | .ret,_,W' => KeepP D W W' /\ W'.heap[l]? = W.heap[l]? /\ Ix .ret xs W'
 | .exit id,_,W' => KeepP D W W' /\ W'.heap[l]? = W.heap[l]? /\ Ix (.exit id) xs W'
 | .goto t,_,W' => KeepP D W W' /\ W'.heap[l]? = W.heap[l]? /\ Ix (.goto t) xs W'
 | .panic _,_,_ => False
 | .outgrown,_,_ => False
def SeqP {α:Type} (n:Nat) (P:Program) (g:Nat) (lb:Array Value) (encs : α -> Array Value) (Kp:World -> World -> Prop) (S Sp:List α -> Prop) (N:Nat) (w:World):Prop :=
 ∀ (l:Nat) (J Jx:List α -> World -> Prop) (W:World),Below w.heap.size w W -> OwnFrom W.heap.size J -> OwnFrom W.heap.size Jx ->
  (∀ pre x W1,J pre W1 -> pre.length < N -> YieldAt Fence.wide (n - 1) P l (encs x) W1 fun e W' =>
   (e = .returned (.bool true) /\ J (pre ++ [x]) W' /\ Kp W1 W') \/ (e = .returned (.bool false) /\ Jx (pre ++ [x]) W' /\ Kp W1 W')) ->
  J [] W ->
  CallsIn Fence.wide n P g (#[.func (.yield l) #[] #[]] ++ lb) W fun e W' => (∃ v,e = .returned v) /\ ((∃ xs,S xs /\ J xs W') \/ (∃ pre,Sp pre /\ Jx pre W'))
section
variable {P:Program} {n:Nat} {w:World}
theorem range_law {α:Type} {g:Operand} {ps:Array Tmp} {assign body:Code} {Q:Exit -> Act -> World -> Prop} {a:Act} (h1 : 1 <= n) {gf:Nat} {lb:Array Value} (hg:a.eval g = .func (.func gf) #[] lb)
  (eg:∀ args w,(callFunc gf args).run P w = .ok (.enter gf args) w) {encs : α -> Array Value} {S Sp:List α -> Prop} {N:Nat} (hseq:SeqP (n - 1) P gf lb encs (KeepP w.heap.size) S Sp N w) (hps:∀ x,(encs x).size = ps.size)
  (I:List α -> World -> Prop) (Ix:Code -> List α -> World -> Prop) (hI:OwnFrom w.heap.size I) (hIx:∀ c,OwnFrom w.heap.size (Ix c)) (h0:I [] w) (a₁ : α -> Act)
  (hassign:∀ (l:Nat) (x : α) (W:World) (K:Act -> World -> Prop),K (a₁ x) W ->
   assign.wpIn (Fence.wide.inRound l) (n - 1 - 1) P (Exit.then K (fun _ _ _ => False)) { tmps:=(ps.zip (encs x)).foldl (fun t (p,v) => t.setIfInBounds p v) a.tmps,defers:=[] } W)
  (hbody:∀ (l:Nat) (pre:List α) (x : α) (W:World),w.heap.size < l -> l < W.heap.size -> (∃ r,W.heap[l]? = some (.loop r)) -> I pre W -> pre.length < N -> body.wpIn (Fence.wide.inRound l) (n - 1 - 1) P (roundEnd w.heap.size l I Ix (pre ++ [x]) W) (a₁ x) W)
  (hdone:∀ (D:Nat) (xs:List α) (W:World),w.heap.size <= D -> S xs -> I xs W -> W.heap[D]? = some (.deferred (some [])) -> Q .normal { a with defers:={ target:=.collected D,args:=#[] } :: a.defers } W)
  (hstop:∀ (D:Nat) (c:Code) (pre:List α) (W:World),w.heap.size <= D -> Sp pre -> Ix c pre W -> W.heap[D]? = some (.deferred (some [])) -> c.wpIn Fence.wide n P Q { a with defers:={ target:=.collected D,args:=#[] } :: a.defers } W) :
  (Code.rangeFunc g ps assign body).wpIn Fence.wide n P Q a w:=by
 refine wpIn_rangeFunc ?_
 intro fn hfn
 rw [show Fence.wide.round = none from rfl]
 obtain ⟨M,hM⟩:∃ M,M = w.heap.size:=⟨_,rfl⟩
 obtain ⟨rec,hrec⟩:∃ rec:LoopState -> Option Code -> Loop,rec = fun st pe => { state:=st,pending:=pe,fn,tmps:=a.tmps,params:=ps,assign,body,defers:=M }:=⟨_,rfl⟩
 obtain ⟨W1,hW1⟩:∃ W1,W1 = (w.alloc (.deferred (some []))).alloc (.loop (rec .ready none)):=⟨_,rfl⟩
 have z1:W1.heap.size = M + 2:=by rw [hW1,hM,World.size_alloc,World.size_alloc]
 have hD1:W1.heap[M]? = some (.deferred (some [])):=by rw [hW1,hM]; exact (Below.heap_alloc _ _ _ (by simp)).trans (World.alloc_heap_new w _)
 have hL1:W1.heap[M + 1]? = some (.loop (rec .ready none)):=by
  have:=World.alloc_heap_new (w.alloc (.deferred (some []))) (.loop (rec .ready none))
  rw [World.size_alloc] at this
  rw [hW1,hM]; exact this
 have b1:Below w.heap.size w W1:=by rw [hW1]; exact ((Below.refl _ w).alloc (Nat.le_refl _) _).alloc (by simp) _
 have i1:I [] W1:=by rw [hW1]; exact hI.alloc _ (hI.alloc _ h0)
 rw [<- hM] at hI hIx hseq hbody hdone hstop b1
 refine ⟨M + 1,[{ target:=.collected M,args:=#[] }],W1, { target:=.fn (.func gf) lb,args:=#[.func (.yield (M + 1)) #[] #[]] },W1,gf,#[.func (.yield (M + 1)) #[] #[]] ++ lb,W1,?_,?_,?_,?_,fun _ => h1,?_⟩
 ·rw [hW1,hrec,hM]
  exact run_enterLoop_outer _ _ _ _ _
 ·simp only [resolve,hg]
  simp [go_sem]
 ·intro f' hf'
  trivial
 ·simp [invoke,go_sem,eg]
 obtain ⟨Kn,hKn⟩:∃ Kn:LoopState -> Option Code -> World -> Prop,Kn = fun st pe W => W.heap[M + 1]? = some (.loop (rec st pe)) /\ W.heap[M]? = some (.deferred (some [])):=⟨_,rfl⟩
 have kK:∀ {st pe} {A B:World} {row:Option Nat},Kn st pe A -> A.grownBy B row -> (∀ r,row = some r -> W1.heap.size <= r /\ ∃ o:Obj,A.heap[r]? = some o /\ o.isCells = false) -> Kn st pe B:=by
  intro st pe A B row h hg' hr
  rw [hKn] at h ⊢
  have ne:∀ k,k < M + 2 -> some k ≠ row:=fun k hk e => by have:=(hr k e.symm).1; omega
  exact ⟨(hg'.block _ (heap_lt h.1) (ne _ (by omega))).trans h.1,(hg'.block _ (heap_lt h.2) (ne _ (by omega))).trans h.2⟩
 have rw_:∀ {A:World} {row:Option Nat},(∀ r,row = some r -> W1.heap.size <= r /\ ∃ o:Obj,A.heap[r]? = some o /\ o.isCells = false) -> ∀ r,row = some r -> M <= r /\ ∃ o:Obj,A.heap[r]? = some o /\ o.isCells = false:=by
  intro A row hr r e
  obtain ⟨hB,o,ho,hw⟩:=hr r e
  exact ⟨by omega,o,ho,hw⟩
 have turn:∀ {st pe st' pe'} {A:World},Kn st pe A -> Kn st' pe' (A.putObj (M + 1) (.loop (rec st' pe'))):=by
  intro st pe st' pe' A h
  rw [hKn] at h ⊢
  exact ⟨World.putObj_heap_same (heap_lt h.1),(World.putObj_heap_other (by omega)).trans h.2⟩
 refine (hseq (M + 1) (fun pre W => I pre W /\ Kn .ready none W) (fun pre W => ∃ c,Ix c pre W /\ Kn .done (some c) W) W1 (by rw [<- hM]; exact b1)
  (fun s A B row hs hg' hr => ⟨hI s A B row hs.1 hg' (rw_ (A:=A) hr),kK hs.2 hg' hr⟩)
  (fun s A B row hs hg' hr => by
   obtain ⟨c,hc,hk⟩:=hs
   exact ⟨c,hIx c s A B row hc hg' (rw_ (A:=A) hr),kK hk hg' hr⟩) ?_ ⟨i1,by rw [hKn]; exact ⟨hL1,hD1⟩⟩).mono ?_
 ·rintro pre x W ⟨hi,hk⟩ hlen
  have hl:W.heap[M + 1]? = some (.loop (rec .ready none)):=by rw [hKn] at hk; exact hk.1
  have hy:=run_yield (P:=P) (args:=encs x) hl (by rw [hrec]; exact hps x)
  rw [hrec] at hy
  have hk2:Kn .busy none (W.putObj (M + 1) (.loop (rec .busy none))):=turn hk
  have hl2:(W.putObj (M + 1) (.loop (rec .busy none))).heap[M + 1]? = some (.loop (rec .busy none)):=by rw [hKn] at hk2; exact hk2.1
  refine ⟨fn,_,assign,body,hy,roundIn_of_wpIn hfn (hassign _ x W _ ⟨W.putObj (M + 1) (.loop (rec .busy none)),?_,?_⟩)⟩
  ·have:=run_beginRound (P:=P) hl (by rw [hrec])
   rw [hrec] at this ⊢
   exact this
  refine wpIn_mono (hbody (M + 1) pre x _ (by omega) (heap_lt hl2) ⟨_,hl2⟩ (hI.putObj _ hi (by omega) hl rfl) hlen) ?_
  have fin:∀ (jump:Option Code) (W3:World),KeepP M (W.putObj (M + 1) (.loop (rec .busy none))) W3 -> W3.heap[M + 1]? = (W.putObj (M + 1) (.loop (rec .busy none))).heap[M + 1]? ->
    (Instr.endRound (M + 1) jump).run P W3 = .ok (.bool jump.isNone) (W3.putObj (M + 1) (.loop (rec (if jump.isNone then .ready else .done) jump))) /\ W3.heap[M + 1]? = some (.loop (rec .busy none)) /\ Kn (if jump.isNone then .ready else .done) jump (W3.putObj (M + 1) (.loop (rec (if jump.isNone then .ready else .done) jump))):=by
   intro jump W3 kp hl3
   have hl3:=hl3.trans hl2
   have hd3:W3.heap[M]? = some (.deferred (some [])):=kp.same M _ (Nat.le_refl _) (by rw [hKn] at hk2; exact hk2.2) rfl
   have hr:=run_endRound (P:=P) jump (w:=W3) (l:=M + 1) (by rw [hrec] at hl3; exact hl3)
   refine ⟨by rw [hrec]; exact hr,hl3,?_⟩
   have:Kn .busy none W3:=by rw [hKn]; exact ⟨hl3,hd3⟩
   exact turn this
  have out:∀ (c:Code) (W3:World),KeepP M (W.putObj (M + 1) (.loop (rec .busy none))) W3 -> W3.heap[M + 1]? = (W.putObj (M + 1) (.loop (rec .busy none))).heap[M + 1]? -> Ix c (pre ++ [x]) W3 ->
    ∃ c' ,Ix c' (pre ++ [x]) (W3.putObj (M + 1) (.loop (rec .done (some c)))) /\ Kn .done (some c') (W3.putObj (M + 1) (.loop (rec .done (some c)))):=by
   intro c W3 kp hl3 hi3
   obtain ⟨-,hl4,hk4⟩:=fin (some c) W3 kp hl3
   exact ⟨c,(hIx c).putObj _ hi3 (by omega) hl4 rfl,hk4⟩
  have kall:∀ (jump:Option Code) (W3:World),KeepP M (W.putObj (M + 1) (.loop (rec .busy none))) W3 -> W3.heap[M + 1]? = some (.loop (rec .busy none)) -> KeepP M W (W3.putObj (M + 1) (.loop (rec (if jump.isNone then .ready else .done) jump))):=fun jump W3 kp hl4 =>
   ((KeepP.putLoop W (M + 1) _ hl).trans kp).trans (KeepP.putLoop W3 (M + 1) _ hl4)
  rintro e a3 W3 hp
  cases e with
  | normal =>
   obtain ⟨kp,hl3,hi3⟩:=hp
   obtain ⟨hr,hl4,hk4⟩:=fin none W3 kp hl3
   exact ⟨_,_,hr,.inl ⟨rfl,⟨hI.putObj _ hi3 (by omega) hl4 rfl,hk4⟩,((KeepP.putLoop W (M + 1) _ hl).trans kp).trans (KeepP.putLoop W3 (M + 1) _ hl4)⟩⟩
  | ret =>
   obtain ⟨kp,hl3,hi3⟩:=hp
   exact ⟨_,_,(fin (some .ret) W3 kp hl3).1,.inr ⟨rfl,out .ret W3 kp hl3 hi3,kall (some .ret) W3 kp (fin (some .ret) W3 kp hl3).2.1⟩⟩
  | exit id =>
   obtain ⟨kp,hl3,hi3⟩:=hp
   exact ⟨_,_,(fin (some (.exit id)) W3 kp hl3).1,.inr ⟨rfl,out (.exit id) W3 kp hl3 hi3,kall (some (.exit id)) W3 kp (fin (some (.exit id)) W3 kp hl3).2.1⟩⟩
  | goto t =>
   obtain ⟨kp,hl3,hi3⟩:=hp
   exact ⟨_,_,(fin (some (.goto t)) W3 kp hl3).1,.inr ⟨rfl,out (.goto t) W3 kp hl3 hi3,kall (some (.goto t)) W3 kp (fin (some (.goto t)) W3 kp hl3).2.1⟩⟩
  | panic ch => exact hp.elim
  | outgrown => exact hp.elim
 ·rintro e W2 ⟨⟨v,rfl⟩,(⟨xs,hS,hi,hk⟩ | ⟨pre,hSp,c,hi,hk⟩)⟩
  ·rw [hKn] at hk
   have hr:=run_endLoop (P:=P) hk.1 (by rw [hrec]; simp)
   rw [hrec] at hr
   exact ⟨none,_,hr,hdone M xs _ (Nat.le_refl _) hS (hI.putObj _ hi (by omega) hk.1 rfl) ((World.putObj_heap_other (by omega)).trans hk.2)⟩
  ·rw [hKn] at hk
   have hr:=run_endLoop (P:=P) hk.1 (by rw [hrec]; simp)
   rw [hrec] at hr
   exact ⟨some c,_,hr,hstop M c pre _ (Nat.le_refl _) hSp ((hIx c).putObj _ hi (by omega) hk.1 rfl) ((World.putObj_heap_other (by omega)).trans hk.2)⟩
end
end Go.Proofs.YtfjiphibalhcgaaGreat.Que
