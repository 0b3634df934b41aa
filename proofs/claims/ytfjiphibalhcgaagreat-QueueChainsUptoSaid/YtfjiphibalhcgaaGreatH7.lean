/-
  Contracts and lemmas, joined: Ref2Turn, QueueTook, QueueLaid, QueueNew, Ref2Mem, Ref2New, Ref6At, Ref6Mem, Ref6Lay, Ref2Ask, Ref6Ask, Ref6All, Ref6Next, Ref6Row, Ref2At, Ref6Put, Ref6Drop, Ref6Moves, Ref6Moves2, QueueSetup, Ref2Put.
-/
import Derived.Test.YtfjiphibalhcgaaGreatH3
import Derived.Test.YtfjiphibalhcgaaGreatH4
import Derived.Test.YtfjiphibalhcgaaGreatH6
set_option linter.unusedSimpArgs false
set_option linter.unusedVariables false
set_option linter.unusedSectionVars false
set_option maxRecDepth 100000
/-
  How Take and Give of the document's Set go with the program's: the chunk itself.
-/
namespace Go.Proofs.YtfjiphibalhcgaaGreat.Cls
theorem upd2_ne {α:Type} (f:Nat -> Nat -> α) {i x a b:Nat} (v : α) (h:¬ (a = i /\ b = x)):upd f i (upd (f i) x v) a b = f a b:=by
 by_cases e:a = i
 ·subst e
  rw [upd_at,upd_ne _ _ (fun e => h ⟨rfl,e⟩)]
 ·rw [upd_ne _ _ e]
theorem upd2_at {α:Type} (f:Nat -> Nat -> α) (i x:Nat) (v : α):upd f i (upd (f i) x v) i x = v:=by rw [upd_at,upd_at]
theorem get_modify (l:List RC) (j n:Nat) (f:RC -> RC):(l.modify j f)[n]? = if j = n then l[n]?.map f else l[n]?:=by
 rw [List.getElem?_modify]
 split
 ·rfl
 ·cases l[n]? <;> rfl
theorem rows_modify (ch:List RC) (j:Nat) {f:RC -> RC} (hf:∀ y,(f y).place = y.place /\ (f y).gone = y.gone) (l:List Nat) :
  l.map (fun n => (ch.modify j f)[n]?.map fun y => (y.place,y.gone)) = l.map (fun n => ch[n]?.map fun y => (y.place,y.gone)):=by
 refine List.map_congr_left fun m _ => ?_
 rw [get_modify]
 split
 ·cases ch[m]? with
  | none => rfl
  | some y => simp only [Option.map_some,(hf y).1,(hf y).2]
 ·rfl
section
variable {d:Cf} (ok:d.Ok) {s:St} (g:Good d s) {r:RS} (h:Rel d s r)
include h
include ok g
theorem Rel.change {i x j:Nat} {f:RC -> RC} (hi:i < d.np) (ho:s.own i = true) (hx:x < d.n (s.cls i)) (hj:r.ch[j]? = some ⟨i * d.ps + x * d.sz (s.cls i),s.cls i,s.gens i x,s.tkn i x,false⟩)
  (s':St) (h1:s'.own = s.own) (h2:s'.lvs = s.lvs) (h3:s'.cls = s.cls) (h4:s'.old = s.old) (ht:∀ a b,¬ (a = i /\ b = x) -> s'.tkn a b = s.tkn a b) (hg:∀ a b,¬ (a = i /\ b = x) -> s'.gens a b = s.gens a b)
  (hf:f ⟨i * d.ps + x * d.sz (s.cls i),s.cls i,s.gens i x,s.tkn i x,false⟩ = ⟨i * d.ps + x * d.sz (s.cls i),s.cls i,s'.gens i x,s'.tkn i x,false⟩)
  (rows':Nat -> List Nat) (hr:∀ k,k < d.nc -> (rows' k).map (fun n => (r.ch.modify j f)[n]?.map fun y => (y.place,y.gone)) = (s'.free k).map fun p => some (p,false)) :
  Rel d s' { r with ch:=r.ch.modify j f,rows:=rows' }:=by
 have hup:∀ {n:Nat} {y:RC},(r.ch.modify j f)[n]? = some y -> n = j /\ y = ⟨i * d.ps + x * d.sz (s.cls i),s.cls i,s'.gens i x,s'.tkn i x,false⟩ \/ n ≠ j /\ r.ch[n]? = some y:=fun {n y} hn => by
  rw [get_modify] at hn
  split at hn
  ·rename_i e
   subst e
   rw [hj] at hn
   simp only [Option.map_some,Option.some.injEq] at hn
   exact .inl ⟨rfl,by rw [<- hn,hf]⟩
  ·rename_i e
   exact .inr ⟨fun e' => e e'.symm,hn⟩
 have hne:∀ {n:Nat},n ≠ j -> (r.ch.modify j f)[n]? = r.ch[n]?:=fun hn => by rw [get_modify,if_neg (fun e => hn e.symm)]
 have hat:(r.ch.modify j f)[j]? = some ⟨i * d.ps + x * d.sz (s.cls i),s.cls i,s'.gens i x,s'.tkn i x,false⟩:=by rw [get_modify,if_pos rfl,hj]; simp only [Option.map_some,hf]
 have hinj:∀ {a b:Nat},a < d.np -> s.own a = true -> b < d.n (s.cls a) -> a * d.ps + b * d.sz (s.cls a) = i * d.ps + x * d.sz (s.cls i) -> a = i /\ b = x:=fun {a b} ha hoa hb e => by
  obtain ⟨p1, -⟩:=place_of ok (i:=a) (g.cls a ha hoa) hb
  obtain ⟨q1, -⟩:=place_of ok (i:=i) (g.cls i hi ho) hx
  rw [e,q1] at p1
  subst p1
  obtain ⟨-,e2⟩:=place_inj ok (g.cls i hi ho) hb hx e
  exact ⟨rfl,e2⟩
 refine ⟨fun a ha => ?_,fun a ha => ?_,fun a b ha hoa hb => ?_,fun n y hn hgn => ?_,fun n y hn hgn => ?_,fun n n' y y' hnn hn hn' hp => ?_,hr,fun n y hn => ?_,fun a o ha hoo => ?_⟩
 ·rw [h1,h3]; exact h.own a ha
 ·rw [h2]; exact h.lvs a ha
 ·rw [h3] at hb ⊢
  rw [h1] at hoa
  by_cases e:a = i /\ b = x
  ·obtain ⟨rfl,rfl⟩:=e
   exact ⟨j,hat⟩
  ·obtain ⟨n,hn⟩:=h.has a b ha hoa hb
   have hnj:n ≠ j:=fun e' => by
    subst e'
    rw [hj] at hn
    injection hn with hn
    injection hn with hn
    exact e (hinj ha hoa hb hn.symm)
   exact ⟨n,by rw [hne hnj,ht a b e,hg a b e]; exact hn⟩
 ·rw [h1,h3]
  rcases hup hn with ⟨rfl,rfl⟩ | ⟨hnj,hn⟩
  ·exact ⟨i,x,hi,ho,hx,rfl⟩
  ·obtain ⟨a,b,b1,b2,b3,b4⟩:=h.live n y hn hgn
   refine ⟨a,b,b1,b2,b3,?_⟩
   have e:¬ (a = i /\ b = x):=fun ⟨e1,e2⟩ => by
    subst e1 e2
    exact hnj (h.uniq hn hj hgn rfl (by rw [b4]))
   rw [ht a b e,hg a b e]
   exact b4
 ·rcases hup hn with ⟨rfl,rfl⟩ | ⟨hnj,hn⟩
  ·cases hgn
  ·exact h.gone n y hn hgn
 ·rcases hup hn with ⟨e1,e2⟩ | ⟨hnj,hn1⟩
  ·rcases hup hn' with ⟨e3,e4⟩ | ⟨hnj',hn2⟩
   ·omega
   ·have:=h.last j n' _ y' (by omega) hj hn2 (by rw [<- hp,e2])
    cases this
  ·rcases hup hn' with ⟨e3,e4⟩ | ⟨hnj',hn2⟩
   ·exact h.last n j y _ (by omega) hn1 hj (by rw [hp,e4])
   ·exact h.last n n' y y' hnn hn1 hn2 hp
 ·rcases hup hn with ⟨rfl,rfl⟩ | ⟨hnj,hn⟩
  ·have:=h.pl _ _ hj
   exact this
  ·exact h.pl n y hn
 ·show rgen (r.ch.modify j f) (a * d.ps + o) = _
  rw [rgen_modify r.ch j f hj (by rw [hf]) (fun j' hj' z hz hp => by have:=h.last j j' _ z hj' hj hz hp.symm; cases this) (a * d.ps + o),h1,h3,h4,hf]
  obtain ⟨z1,z2,z3⟩:=ok.sz _ (g.cls i hi ho)
  split
  ·rename_i e0
   have e:a * d.ps + o = i * d.ps + x * d.sz (s.cls i):=e0
   obtain ⟨q1,q2,q3, -⟩:=place_of ok (i:=i) (g.cls i hi ho) hx
   have e1:a = i:=by rw [<- q1, <- e,Nat.add_comm,Nat.add_mul_div_right _ _ (by have:=ok.ps; omega),Nat.div_eq_of_lt hoo,Nat.zero_add]
   subst e1
   have e2:o = x * d.sz (s.cls a):=by omega
   rw [if_pos ⟨ho,by rw [e2,Nat.mul_mod_left],by rw [e2,q3]; exact hx⟩,e2,q3]
  ·rename_i e
   rw [h.old a o ha hoo]
   split
   ·rename_i hc
    obtain ⟨c1,c2,c3⟩:=hc
    rw [hg a (o / d.sz (s.cls a)) (fun ⟨e1,e2⟩ => by
     subst e1
     apply e
     rw [<- e2,Nat.div_mul_cancel (Nat.dvd_of_mod_eq_zero c2)])]
   ·rfl
theorem Rel.take {k p:Nat} {l:List Nat} (hk:k < d.nc) (hl:s.free k = l ++ [p]) :
  ∃ l' j,r.rows k = l' ++ [j] /\ r.ch[j]? = some ⟨p,k,s.gens (p / d.ps) (p % d.ps / d.sz k),false,false⟩ /\ Rel d (takeS d s k p) (rtake r k j):=by
 obtain ⟨i,x,a1,a2,a3,a4,a5,a6,a7,a8,a9⟩:=g.last ok hk (show p ∈ s.free k by rw [hl]; simp)
 have hlen:=h.row_len hk
 have hne:r.rows k ≠ []:=fun e => by rw [e,hl] at hlen; simp at hlen
 obtain ⟨l',j,hr⟩:∃ l' j,r.rows k = l' ++ [j]:=⟨(r.rows k).dropLast,(r.rows k).getLast hne,(List.dropLast_concat_getLast hne).symm⟩
 have hrow:=h.row k hk
 rw [hr,hl,List.map_append,List.map_append,List.map_singleton,List.map_singleton] at hrow
 have hll:l'.length = l.length:=by rw [hr,hl] at hlen; simpa using hlen
 obtain ⟨hr1,hr2⟩:=List.append_inj hrow (by simpa using hll)
 simp only [List.cons.injEq,and_true] at hr2
 obtain ⟨y,hy⟩:∃ y,r.ch[j]? = some y:=by
  cases hc:r.ch[j]? with
  | none => rw [hc] at hr2; cases hr2
  | some y => exact ⟨y,rfl⟩
 rw [hy] at hr2
 simp only [Option.map_some,Option.some.injEq,Prod.mk.injEq] at hr2
 obtain ⟨i',x',b1,b2,b3,b4⟩:=h.live j y hy hr2.2
 subst a3
 have hpl:i' * d.ps + x' * d.sz (s.cls i') = i * d.ps + x * d.sz (s.cls i):=by rw [<- a7, <- hr2.1,b4]
 obtain ⟨p1, -⟩:=place_of ok (i:=i') (g.cls i' b1 b2) b3
 rw [hpl, <- a7,a8] at p1
 subst p1
 obtain ⟨-,e2⟩:=place_inj ok hk b3 a5 hpl
 subst e2
 rw [b4] at hy
 refine ⟨l',j,hr,by rw [a8,a9,hy,a6,a7],?_⟩
 refine Rel.change ok g h a1 a2 a5 hy (f:=RC.taken) (takeS d s (s.cls i) p) rfl rfl rfl rfl (fun a b hab => ?_) (fun a b _ => rfl) ?_ (upd r.rows (s.cls i) (r.rows (s.cls i)).dropLast) (fun k' hk' => ?_)
 ·show upd s.tkn (p / d.ps) (upd (s.tkn (p / d.ps)) (p % d.ps / d.sz (s.cls i)) true) a b = s.tkn a b
  rw [a8,a9]
  exact upd2_ne _ _ hab
 ·show (⟨_,_,_,true,_⟩:RC) = ⟨_,_,_,upd s.tkn (p / d.ps) (upd (s.tkn (p / d.ps)) (p % d.ps / d.sz (s.cls i)) true) i x',_⟩
  rw [a8,a9,upd2_at]
  rfl
 ·show (upd r.rows (s.cls i) (r.rows (s.cls i)).dropLast k').map _ = (upd s.free (s.cls i) (s.free (s.cls i)).dropLast k').map _
  by_cases e:k' = s.cls i
  ·subst e
   rw [upd_at,upd_at,rows_modify _ _ (f:=RC.taken) (fun y => ⟨rfl,rfl⟩),hr,hl,List.dropLast_concat,List.dropLast_concat]
   exact hr1
  ·rw [upd_ne _ _ e,upd_ne _ _ e,rows_modify _ _ (f:=RC.taken) (fun y => ⟨rfl,rfl⟩)]
   exact h.row k' hk'
end
end Go.Proofs.YtfjiphibalhcgaaGreat.Cls
/-
  The queue where a chunk is taken and where an item is laid.
-/
namespace Go.Proofs.YtfjiphibalhcgaaGreat.Que
open Go.RowKit Base Arena Cls Itm
theorem tkn_widen_back {d:Cf} {s:St} {i x p k G c j:Nat} (h:Tkn d (widenS d s c j) i x p k G):Tkn d s i x p k G:=by
 by_cases hij:i = j
 ·have ht:=h.tk
  simp only [widenS,joinS,widen1,upd,if_pos hij] at ht
  cases ht
 ·obtain ⟨h1,h2,h3,h4,h5,h6,h7,h8⟩:=h
  simp only [widenS,joinS,widen1,upd,if_neg hij] at h2 h3 h6 h7
  exact ⟨h1,h2,h3,h4,h5,h6,h7,h8⟩
theorem tkn_room_back {d:Cf} {s s1:St} {i x p k G c:Nat} (hr:roomS d s c = some s1) (h:Tkn d s1 i x p k G):Tkn d s i x p k G:=by
 unfold roomS at hr
 split at hr
 ·split at hr
  ·cases hr
   exact tkn_widen_back h
  ·cases hr
 ·cases hr
  exact h
section
variable {d:Cf} (ok:d.Ok) {s s1:St} (g:Cls.Good d s) {k:Nat} (hk:k < d.nc) (hr:roomS d s k = some s1) {l:List Nat} {p:Nat} (hp:s1.free k = l ++ [p])
include ok g hk hr hp
theorem took_back {i x q c G:Nat} (t:Tkn d (takeS d s1 k p) i x q c G):q = p \/ Tkn d s i x q c G:=by
 obtain ⟨g',T,h3,h4⟩:=took ok g hk hr hp
 by_cases e:i = p / d.ps /\ x = p % d.ps / d.sz k
 ·obtain ⟨rfl,rfl⟩:=e
  left
  have e1:=t.pE
  have e2:=T.pE
  have e3:c = k:=t.cl.symm.trans T.cl
  rw [e3] at e1
  omega
 ·right
  refine tkn_room_back hr ⟨t.iN,t.ow,t.cl,t.kN,t.xN,?_,t.ge,t.pE⟩
  have:=t.tk
  simp only [takeS] at this
  rwa [upd2_ne _ _ e] at this
theorem took_find {H0:Nat} (h0:H0 = hnd p (s1.gens (p / d.ps) (p % d.ps / d.sz k))) :
  (∃ i x,findN d (takeS d s1 k p) H0 = some (i,x,p) /\ (takeS d s1 k p).cls i = k) /\
  (∀ H i x q,findN d s H = some (i,x,q) -> findN d (takeS d s1 k p) H = some (i,x,q) /\ (takeS d s1 k p).cls i = s.cls i /\ H ≠ H0 /\ q ≠ p) /\
  (∀ H i x q,findN d (takeS d s1 k p) H = some (i,x,q) -> H = H0 \/ H ≠ H0 /\ findN d s H = some (i,x,q)):=by
 obtain ⟨g',T,h3,h4⟩:=took ok g hk hr hp
 have A:∀ H i x q,findN d s H = some (i,x,q) -> findN d (takeS d s1 k p) H = some (i,x,q) /\ (takeS d s1 k p).cls i = s.cls i /\ H ≠ H0 /\ q ≠ p:=by
  intro H i x q hf
  obtain ⟨t,e⟩:=Tkn.of ok g hf
  obtain ⟨t',hne⟩:=h4 t
  refine ⟨by rw [e]; exact t'.find ok,t'.cl,fun e0 => hne ?_,hne⟩
  obtain ⟨-, -,a3, -, -⟩:=t.hlt ok g
  obtain ⟨-, -,b3, -, -⟩:=T.hlt ok g'
  obtain ⟨-, -, -,p8, -⟩:=t.fit ok
  obtain ⟨-, -, -,p8', -⟩:=T.fit ok
  rw [<- e,e0] at a3
  rw [<- h0] at b3
  omega
 refine ⟨⟨_,_,by rw [h0]; exact T.find ok,T.cl⟩,A,fun H i x q hf => ?_⟩
 obtain ⟨t,e⟩:=Tkn.of ok g' hf
 rcases took_back ok g hk hr hp t with rfl | t1
 ·left
  rw [e,h0]
  obtain ⟨-, -, -,eG⟩:=t.same ok T
  rw [eG]
 ·right
  have hf':findN d s H = some (i,x,q):=by rw [e]; exact t1.find ok
  exact ⟨(A H i x q hf').2.2.1,hf'⟩
end
section
variable {c:Conf} (ok:c.cf.Ok) {s s1:St} (g:Cls.Good c.cf s) {k:Nat} (hk:k < c.cf.nc) (hr:roomS c.cf s k = some s1) {l:List Nat} {p:Nat} (hp:s1.free k = l ++ [p]) {H0:Nat} (h0:H0 = hnd p (s1.gens (p / c.cf.ps) (p % c.cf.ps / c.cf.sz k)))
include ok g hk hr hp h0
theorem GoodL.take {T:Nat} (h:GoodL c.cf s T):GoodL c.cf (takeS c.cf s1 k p) T:=by
 rcases h with h | ⟨h1,i,x,q,h2⟩
 ·exact .inl h
 ·exact .inr ⟨h1,i,x,q,((took_find ok g hk hr hp h0).2.1 T i x q h2).1⟩
theorem Lk.take {bs:List UInt8} {Z:Nat -> Option Zd} (hb:bs.length = c.cf.ps * c.cf.np) (h:Lk c s bs Z) (G:Nat):Lk c (takeS c.cf s1 k p) (takeB bs p G) (upd Z H0 none):=by
 obtain ⟨⟨i0,x0,f0, -⟩,A,B⟩:=took_find ok g hk hr hp h0
 have g':=(took ok g hk hr hp).1
 obtain ⟨t0, -⟩:=Tkn.of ok g' f0
 have hfit:p + 64 <= bs.length:=by
  obtain ⟨a1,a2,a3,a4,a5⟩:=t0.fit ok
  have:=(ok.sz _ t0.kN).1
  rw [hb,Nat.mul_comm]
  omega
 refine ⟨fun H i x q hH hf => ?_,fun H z hz => ?_,fun H z hf hz => ?_⟩
 ·rcases B H i x q hf with rfl | ⟨hne,hf'⟩
  ·rw [upd_at]
   have e:q = p:=by rw [f0] at hf; simp only [Option.some.injEq,Prod.mk.injEq] at hf; exact hf.2.2.symm
   subst e
   exact take_zero (by omega)
  ·rw [upd_ne _ _ hne]
   have ha:=h.at_ H i x q hH hf'
   have hd:=good_apart ok g' f0 hf (fun e => hne e.symm)
   have key:∀ a m,a + m <= 64 -> rd (takeB bs p G) (q + a) m = rd bs (q + a) m:=fun a m ham => by
    unfold rd
    rw [take_far (by omega) (by omega)]
   cases hZ:Z H with
   | none => rw [hZ] at ha; unfold ZAt at ha ⊢; rw [key 44 1 (by omega)]; exact ha
   | some z => rw [hZ] at ha; unfold ZAt at ha ⊢; rw [key 44 1 (by omega),key 45 1 (by omega),key 4 4 (by omega),key 8 4 (by omega)]; exact ha
 ·by_cases e:H = H0
  ·subst e; rw [upd_at] at hz; cases hz
  ·rw [upd_ne _ _ e] at hz; exact h.st H z hz
 ·by_cases e:H = H0
  ·subst e; rw [upd_at] at hz; cases hz
  ·rw [upd_ne _ _ e] at hz
   obtain ⟨i,x,q,hf⟩:=hf
   rcases B H i x q hf with e' | ⟨-,hf'⟩
   ·exact absurd e' e
   ·obtain ⟨a,b⟩:=h.lk H z ⟨i,x,q,hf'⟩ hz
    exact ⟨GoodL.take ok g hk hr hp h0 a,GoodL.take ok g hk hr hp h0 b⟩
theorem QI.take {Z:Nat -> Option Zd} {F:QN} {Ls:Nat -> Nat -> List Nat} (q:QI c s Z F Ls):QI c (takeS c.cf s1 k p) (upd Z H0 none) F Ls:=by
 obtain ⟨⟨i0,x0,f0, -⟩,A,B⟩:=took_find ok g hk hr hp h0
 refine ⟨fun x j hx hj => (q.ch x j hx hj).congr fun y hy => upd_ne _ _ ?_,q.hd,q.tl,q.n,fun x j y hx hj hy => ?_,q.nd,q.dj,fun H z hf hz hn => ?_⟩
 ·obtain ⟨i,a,b,hf, -⟩:=q.it x j y hx hj hy
  exact (A _ _ _ _ hf).2.2.1
 ·obtain ⟨i,a,b,hf,hc⟩:=q.it x j y hx hj hy
  exact ⟨i,a,b,(A _ _ _ _ hf).1,(A _ _ _ _ hf).2.1.trans hc⟩
 ·by_cases e:H = H0
  ·subst e; rw [upd_at] at hz; cases hz
  ·rw [upd_ne _ _ e] at hz
   obtain ⟨i,x,y,hf⟩:=hf
   rcases B H i x y hf with e' | ⟨-,hf'⟩
   ·exact absurd e' e
   ·exact q.out H z ⟨i,x,y,hf'⟩ hz hn
theorem QW.take {w w':World} {L L':Lay} {bs:List UInt8} {Z:Nat -> Option Zd} {gq gl:Nat} {Ls:Nat -> Nat -> List Nat} (hb:bs.length = c.cf.ps * c.cf.np) (h:QW w L c s bs Z gq gl Ls) (G:Nat) (eg:L'.g = L.g)
  (M:SetAt w' L' c (takeS c.cf s1 k p) (takeB bs p G)) (W:Went w w' L L' c s (takeS c.cf s1 k p)):QW w' L' c (takeS c.cf s1 k p) (takeB bs p G) (upd Z H0 none) gq gl Ls:=by
 obtain ⟨F,S,q⟩:=h
 have Q1:=(S.q.only W.only S.fq S.fl).head
 have Q2:=(S.q.only W.only S.fq S.fl).grid
 rw [<- eg] at Q1
 refine ⟨F,⟨⟨M,(took ok g hk hr hp).1,Lk.take ok g hk hr hp h0 hb S.zs.lk G⟩,⟨Q1,Q2⟩,fun hf => ?_,fun hf => ?_⟩,QI.take ok g hk hr hp h0 q⟩
 ·rcases W.foot gq hf with h1 | h1
  ·exact S.fq h1
  ·have:=S.q.ltq; omega
 ·rcases W.foot gl hf with h1 | h1
  ·exact S.fl h1
  ·have:=S.q.ltl; omega
end
section
variable {c:Conf} {s:St} {Z:Nat -> Option Zd} {F:QN} {Ls:Nat -> Nat -> List Nat}
theorem QI.laid (q:QI c s Z F Ls) {H:Nat} (hn:∀ x k,x < c.nc -> k < 3 -> H ∉ Ls x k):QI c s (upd Z H (some ⟨4,0,0⟩)) F Ls:=by
 refine ⟨fun x j hx hj => (q.ch x j hx hj).congr fun y hy => upd_ne _ _ (fun e => hn x j hx hj (e ▸ hy)),q.hd,q.tl,q.n,q.it,q.nd,q.dj,fun H' z hf hz hn' => ?_⟩
 by_cases e:H' = H
 ·subst e; rw [upd_at] at hz; injection hz with hz; exact hz.symm
 ·rw [upd_ne _ _ e] at hz; exact q.out H' z hf hz hn'
theorem Lk.laid (ok:c.cf.Ok) (g:Cls.Good c.cf s) {bs:List UInt8} (h:Lk c s bs Z) {H i x p k n:Nat} (K:Chk c s bs.length H i x p k n) (t:Itm.It) (F:t.Fine) (hfit : 58 + t.key.length + t.val.length <= n) (gen:Nat) (hg:(bs.drop (p + 12)).take 4 = putB 4 gen) :
  Lk c s (itemB bs p k t) (upd Z H (some ⟨t.st,0,0⟩)):=by
 have hall:=K.ck.all
 obtain ⟨k1,k2⟩:=legal_len F.legal
 have f4:=F.st4
 have e:=itemB_enc bs p k gen t (by omega) hg
 have hl:=Whole.enc_len ⟨0,0,0,gen,k,t⟩
 have HH:Has (itemB bs p k t) p ⟨0,0,0,gen,k,t⟩:=by rw [e]; exact Has.lay_ bs p _ (by show p + (58 + t.key.length + t.val.length) <= bs.length; omega)
 refine ⟨fun H' i' x' p' hH' hf => ?_,fun H' z hz => ?_,fun H' z hf hz => ?_⟩
 ·by_cases eH:H' = H
  ·subst eH
   have e2:p' = p:=by rw [K.hf] at hf; simp only [Option.some.injEq,Prod.mk.injEq] at hf; exact hf.2.2.symm
   subst e2
   rw [upd_at]
   refine ⟨?_,?_,?_,?_⟩
   ·rw [HH.key_len (by show t.key.length < 256; omega)]; show t.key.length ≠ 0; omega
   ·exact HH.st (by show t.st < 256; omega)
   ·exact HH.l1_ (by show 0 < 4294967296; omega)
   ·exact HH.l2_ (by show 0 < 4294967296; omega)
  ·rw [upd_ne _ _ eH,e]
   have ha:=h.at_ H' i' x' p' hH' hf
   obtain ⟨tk,e1⟩:=Tkn.of ok g K.hf
   obtain ⟨tk',e2⟩:=Tkn.of ok g hf
   have hp:p ≠ p':=by
    rintro rfl
    obtain ⟨-, -, -,eG⟩:=tk.same ok tk'
    exact eH (by rw [e1,e2,eG])
   have hs:c.cf.sz (s.cls i) = n:=by rw [K.hk]; exact K.sz
   have hd:p + n <= p' \/ p' + 64 <= p:=by
    have z':=(ok.sz _ tk'.kN).1
    rcases tk.apart ok tk' hp with h1 | h1
    ·left; rw [hs] at h1; exact h1
    ·right; omega
   have hl':(Whole.enc ⟨0,0,0,gen,k,t⟩).length = 58 + t.key.length + t.val.length:=hl
   have key:∀ a m,a + m <= 64 -> rd (lay bs p (Whole.enc ⟨0,0,0,gen,k,t⟩)) (p' + a) m = rd bs (p' + a) m:=fun a m ham => rd_out _ _ _ _ _ (by rw [hl']; omega) (by rw [hl']; omega)
   cases hZ:Z H' with
   | none => rw [hZ] at ha; unfold ZAt at ha ⊢; rw [key 44 1 (by omega)]; exact ha
   | some z => rw [hZ] at ha; unfold ZAt at ha ⊢; rw [key 44 1 (by omega),key 45 1 (by omega),key 4 4 (by omega),key 8 4 (by omega)]; exact ha
 ·by_cases eH:H' = H
  ·subst eH; rw [upd_at] at hz; injection hz with hz; subst hz; show t.st < 256; omega
  ·rw [upd_ne _ _ eH] at hz; exact h.st H' z hz
 ·by_cases eH:H' = H
  ·subst eH; rw [upd_at] at hz; injection hz with hz; subst hz; exact ⟨.inl rfl,.inl rfl⟩
  ·rw [upd_ne _ _ eH] at hz; exact h.lk H' z hf hz
end
theorem laidC {w:World} {L:Lay} {c:Conf} {s:St} {bs:List UInt8} {Z:Nat -> Option Zd} {gq gl:Nat} {Ls:Nat -> Nat -> List Nat} (h:QW w L c s bs Z gq gl Ls) {H i x p:Nat} (hf:findN c.cf s H = some (i,x,p)) (hn:∀ x k,x < c.nc -> k < 3 -> H ∉ Ls x k)
  (t:Itm.It) (F:t.Fine) (st4:t.st = 4) (hfit : 58 + t.key.length + t.val.length <= c.sz (s.cls i)) (gen:Nat) (hg:(bs.drop (p + 12)).take 4 = putB 4 gen) (Ak Av:Option Addr) (ck cv B:Nat) (hK:Bytes w B Ak t.key) (hV:Bytes w B Av t.val)
  (ak:∀ b off,Ak = some ⟨b,off,none⟩ -> b ≠ L.ha) (av:t.val ≠ [] -> ∀ b off,Av = some ⟨b,off,none⟩ -> b ≠ L.ha) :
  Calls Tryz.prog 58 #[.pointer (some ⟨L.g,0,none⟩),.int .u64 (H:Int),.agg (t.cells Ak Av ck cv)] w fun e w' => e = .returned (.int .i64 0) /\ Only (Two L gl) w w' /\ QW w' L c s (itemB bs p (s.cls i) t) (upd Z H (some ⟨4,0,0⟩)) gq gl Ls:=by
 obtain ⟨Fq,S,q⟩:=h
 have ok:=S.okc
 have hH:=good_lt ok S.zs.good hf
 have K:=Chk.of S.zs.set S.zs.good hH hf
 have hnc:c.cf.nc <= 62:=ok.ncb
 have e:c.cf.nc = c.nc:=rfl
 refine (itemLayYes w L c s bs S.zs.set S.zs.good H hH i x p hf K.kn (by omega) K.ck t F hfit Ak Av ck cv B hK hV ak av).mono ?_
 rintro e2 w' ⟨rfl,M,o⟩
 have lk:=Lk.laid ok S.zs.good S.zs.lk K t F hfit gen hg
 rw [st4] at lk
 exact ⟨rfl,two_bytes o,Fq,S.bytes o ⟨M,S.zs.good,lk⟩,q.laid hn⟩
def zThree:Value:=.agg #[.int .u64 0,.int .u64 0,.int .i64 0,.int .u64 0,.int .u64 0,.int .i64 0,.int .u64 0,.int .u64 0,.int .i64 0]
theorem eiQ:EI Tryz.prog 89 187 zThree 9 72:=EI.mk' Tryz.underlying89 (by kernel_rfl) rfl (by decide)
theorem grid_three (w:World) (n:Nat):Grid (w.alloc (.cells (madeCells zThree.cells (n * 9)) 187)) w.heap.size 187 n 9 (qcv ⟨fun _ _ => 0,fun _ _ => 0,fun _ _ => 0⟩) :=
 (Grid.made w 187 zThree.cells n (fun j => (zThree.cells[j]?).getD (.int .i64 0)) fun j hj => by
  have hj:j < 9:=hj
  obtain rfl | rfl | rfl | rfl | rfl | rfl | rfl | rfl | rfl:j = 0 \/ j = 1 \/ j = 2 \/ j = 3 \/ j = 4 \/ j = 5 \/ j = 6 \/ j = 7 \/ j = 8:=by omega
  all_goals rfl).congr fun i j _ hj => by
  have hj:j < 9:=hj
  obtain rfl | rfl | rfl | rfl | rfl | rfl | rfl | rfl | rfl:j = 0 \/ j = 1 \/ j = 2 \/ j = 3 \/ j = 4 \/ j = 5 \/ j = 6 \/ j = 7 \/ j = 8:=by omega
  all_goals rfl
theorem new_none {d:Cf} {H:Nat}:findN d (new0 d) H = none:=by
 cases h:findN d (new0 d) H with
 | none => rfl
 | some v =>
  obtain ⟨i,x,p⟩:=v
  obtain ⟨-,h2, -⟩:=findN_some new0_good h
  cases h2
theorem newC (w:World) (L:Lay) (c:Conf) (s:St) (bs:List UInt8) (h:SetAt w L c s bs) :
  Calls Tryz.prog 12 #[.pointer (some ⟨L.g,0,none⟩)] w fun e w' => ∃ gq gl,e = .returned (.tuple #[.pointer (some ⟨gq,0,none⟩),.int .i64 0]) /\ Below w.heap.size w w' /\ w.heap.size <= gq /\ w.heap.size <= gl /\ QAt w' L c gq gl ⟨fun _ _ => 0,fun _ _ => 0,fun _ _ => 0⟩:=by
 have CC:=Lib.hid (classesC w L c s bs h)
 have hnc:c.cf.nc <= 62:=h.okc.ncb
 have ec:c.cf.nc = c.nc:=rfl
 have mQ:∀ W:World,(Instr.makeSlice 89 (.int .i64 (c.nc:Int)) (.int .i64 (c.nc:Int))).run Tryz.prog W = .ok (.slice (some ⟨W.heap.size,0,none⟩) c.nc c.nc) (W.alloc (.cells (madeCells zThree.cells (c.nc * 9)) 187)) :=
  fun W => eiQ.make .i64 .i64 c.nc c.nc (Nat.le_refl _) (by omega) (by omega) W
 have gQ:=Lib.hid (grid_three w c.nc)
 have sP:=Lib.hid (World.size_alloc w (.cells (madeCells zThree.cells (c.nc * 9)) 187))
 generalize hP:Obj.cells (madeCells zThree.cells (c.nc * 9)) 187 = P at *
 replace hP:=Lib.hid hP
 clear h ec hnc
 go_enter Tryz.func12,Tryz.ntmps12
 go_wp2_with fail
 refine CC.out.mono ?_
 rintro e w1 ⟨rfl,rfl⟩
 clear CC
 go_wp2_with fail
 go_ret2
 refine ⟨w.heap.size + 1,w.heap.size,rfl,?_,by omega,by omega,⟨?_,?_⟩⟩
 ·exact ((Below.refl _ w).alloc (Nat.le_refl _) P).alloc (by rw [sP.out]; omega) _
 ·have:=Blk.new (w.alloc P) 92 #[.pointer (some ⟨L.g,0,none⟩),.slice (some ⟨w.heap.size,0,none⟩) c.nc c.nc]
  rw [sP.out] at this
  exact this
 ·have:=gQ.out
  exact this.only (S:=fun _ => False) ((Only.refl _ _).alloc _) (fun h => h)
theorem QW.new {w:World} {L:Lay} {c:Conf} {bs:List UInt8} {gq gl:Nat} (M:SetAt w L c (new0 c.cf) bs) (q:QAt w L c gq gl ⟨fun _ _ => 0,fun _ _ => 0,fun _ _ => 0⟩) (f1:¬ Foot L c (new0 c.cf) gq) (f2:¬ Foot L c (new0 c.cf) gl) :
  QW w L c (new0 c.cf) bs (fun _ => none) gq gl (fun _ _ => []):=by
 refine ⟨_,⟨⟨M,new0_good,?_⟩,q,f1,f2⟩,?_⟩
 ·refine ⟨fun H i x p hH hf => ?_,fun H z hz => ?_,fun H z hf hz => ?_⟩
  ·rw [new_none] at hf; cases hf
  ·cases hz
  ·cases hz
 ·refine ⟨fun _ _ _ _ => trivial,fun _ _ _ _ => rfl,fun _ _ _ _ => rfl,fun _ _ _ _ => rfl,fun x k h _ _ hh => ?_,fun _ _ _ _ => List.nodup_nil,fun x k x' k' h _ _ _ _ hh => ?_,fun H z hf hz => ?_⟩
  ·cases hh
  ·cases hh
  ·cases hz
end Go.Proofs.YtfjiphibalhcgaaGreat.Que
/-
  The document's Set in memory.
-/
namespace Go.Proofs.YtfjiphibalhcgaaGreat.Cls
open Go.RowKit Base
structure RL where
  b:Nat
  gs:Nat
  cS:Nat
  go:Nat
  cO:Nat
  gg:Nat
  cG:Nat
  vC:Value
  gr:Nat
  cR:Nat
  F:Nat -> Value
inductive RP where
  | head
  | sizes
  | own
  | lvs
  | ch
  | rows
  | row (k:Nat)
  deriving DecidableEq
def RL.blk (M:RL) (nc:Nat):RP -> Option Nat
  | .head => some M.b
  | .sizes => some M.gs
  | .own => some M.go
  | .lvs => some M.gg
  | .ch => M.vC.ownBlock
  | .rows => some M.gr
  | .row k => if k < nc then (M.F k).ownBlock else none
def ownV:Option Nat -> Value
  | some k => .int .i64 (k:Int)
  | none => .int .i64 (-1)
def RC.cells (x:RC):List Value:=[.int .i64 (x.place:Int),.int .i64 (x.cls:Int),.int .u64 (x.gen:Int),.bool x.tk,.bool x.gone]
def chV (l:List RC):List Value:=l.flatMap RC.cells
theorem chV_at {l:List RC} {j:Nat} {x:RC} (h:l[j]? = some x):∀ i,i < 5 -> (chV l)[j * 5 + i]? = x.cells[i]?:=by
  induction l generalizing j with
  | nil => cases h
  | cons y l ih =>
    intro i hi
    have e:chV (y :: l) = y.cells ++ chV l:=rfl
    have hy:y.cells.length = 5:=rfl
    rw [e]
    cases j with
    | zero =>
      injection h with h
      subst h
      rw [List.getElem?_append_left (by rw [hy]; omega)]
      congr 1
      omega
    | succ j =>
      rw [List.getElem?_append_right (by rw [hy]; omega),hy,show (j + 1) * 5 + i - 5 = j * 5 + i by omega]
      exact ih h i hi
theorem chV_app (l:List RC) (x:RC):chV (l ++ [x]) = chV l ++ x.cells:=by simp [chV]
theorem chV_set {l:List RC} {j:Nat} {x y:RC} (h:l[j]? = some x) (i:Nat) (hi:i < 5) (v:Value) (he:y.cells = x.cells.set i v):chV (l.set j y) = (chV l).set (j * 5 + i) v:=by
  induction l generalizing j with
  | nil => cases h
  | cons z l ih =>
    have e:chV (z :: l) = z.cells ++ chV l:=rfl
    have hz:z.cells.length = 5:=rfl
    cases j with
    | zero =>
      injection h with h
      subst h
      rw [qO,e,show chV (y :: l) = y.cells ++ chV l from rfl,he,List.set_append_left _ _ (by rw [hz]; omega)]
      congr 2
      omega
    | succ j =>
      rw [qN,e,show chV (z :: l.set j y) = z.cells ++ chV (l.set j y) from rfl,ih h,List.set_append_right _ _ (by rw [hz]; omega),hz,show (j + 1) * 5 + i - 5 = j * 5 + i by omega]
theorem modify_set {l:List RC} {j:Nat} {x:RC} (h:l[j]? = some x) (f:RC -> RC):l.modify j f = l.set j (f x):=by
  apply List.ext_getElem?
  intro n
  rw [get_modify,List.getElem?_set]
  split
  · rename_i e
    subst e
    rw [h,if_pos (List.getElem?_eq_some_iff.1 h).1]
    rfl
  · rfl
def RPartAt (w:World) (M:RL) (c:Conf) (r:RS):RP -> Prop
  | .head => Blk w M.b 154 (rset c (.slice (some ⟨M.gs,0,none⟩) c.nc M.cS) (.slice (some ⟨M.go,0,none⟩) c.cf.np M.cO) (.slice (some ⟨M.gg,0,none⟩) c.cf.np M.cG) M.vC (.slice (some ⟨M.gr,0,none⟩) c.nc M.cR))
  | .sizes => Grid w M.gs 3 c.nc 1 (fun i _ => iv (c.sz i))
  | .own => Grid w M.go 3 c.cf.np 1 (fun i _ => ownV (r.own i))
  | .lvs => Grid w M.gg 4 c.cf.np 1 (fun i _ => .bool (r.lvs i))
  | .ch => w.ownsRow 0 168 5 M.vC r.ch.length (chV r.ch)
  | .rows => Grid w M.gr 55 c.nc 1 (fun k _ => M.F k)
  | .row k => k < c.nc -> w.ownsRow 0 3 1 (M.F k) (r.rows k).length ((r.rows k).map iv)
structure RSetAt (w:World) (M:RL) (c:Conf) (r:RS):Prop where
  parts:∀ p,RPartAt w M c r p
  inj:∀ p q b,M.blk c.nc p = some b -> M.blk c.nc q = some b -> p = q
  ok:refN c = 0
  caps:c.cf.np <= M.cO /\ M.cO <= maxLen /\ c.cf.np <= M.cG /\ M.cG <= maxLen /\ c.nc <= M.cR /\ M.cR <= maxLen /\ c.nc <= M.cS
def RFoot (M:RL) (c:Conf) (b:Nat):Prop:=∃ p,M.blk c.nc p = some b
theorem own_blockN {w:World} {N n size:Nat} {e:TypeId} {v:Value} {xs:List Value} {b:Nat} (h:w.ownsRow N e size v n xs) (hb:v.ownBlock = some b):b < w.heap.size:=(h.lt b hb).2
theorem own_keptN {w w':World} {N n size:Nat} {e:TypeId} {v:Value} {xs:List Value} (h:w.ownsRow N e size v n xs) (hb:∀ b,v.ownBlock = some b -> w'.heap[b]? = w.heap[b]?):w'.ownsRow N e size v n xs:=by
  refine ⟨h.1,?_⟩
  rcases h.2 with h1 | ⟨g,cap,cur,rfl,hB,hg,h2⟩
  · exact .inl h1
  · exact .inr ⟨g,cap,cur,rfl,hB,(hb g rfl).trans hg,h2⟩
theorem own_put {w:World} {N n size g cap:Nat} {e:TypeId} {xs:List Value} (h:w.ownsRow N e size (.slice (some ⟨g,0,none⟩) n cap) n xs) (i:Nat) (hi:i < n * size) (v:Value) :
    (w.setCell ⟨g,i,none⟩ v).ownsRow N e size (.slice (some ⟨g,0,none⟩) n cap) n (xs.set i v):=by
  refine ⟨by rw [List.length_set]; exact h.1,?_⟩
  rcases h.2 with ⟨h1, -⟩ | ⟨g',cap',cur,hv,hB,hg,h3,h4,h5,h6⟩
  · cases h1
  · simp only [Value.slice.injEq,Option.some.injEq,Addr.mk.injEq,and_true,true_and] at hv
    obtain ⟨rfl,rfl⟩:=hv
    refine .inr ⟨g,cap,cur.setIfInBounds i v,rfl,hB,Blk.set_ hg i v,h3,h4,by rw [Array.size_setIfInBounds]; exact h5,?_⟩
    rw [Array.toList_setIfInBounds,List.take_set,h6]
section
variable {w w':World} {M M':RL} {c:Conf} {r r':RS}
theorem RPartAt.kept {p:RP} (h:RPartAt w M c r p) (hb:∀ b,M.blk c.nc p = some b -> w'.heap[b]? = w.heap[b]?):RPartAt w' M c r p:=by
  cases p with
  | head => exact (hb _ rfl).trans h
  | sizes => exact Grid.kept h (hb _ rfl)
  | own => exact Grid.kept h (hb _ rfl)
  | lvs => exact Grid.kept h (hb _ rfl)
  | ch => exact own_keptN h (fun b e => hb b e)
  | rows => exact Grid.kept h (hb _ rfl)
  | row k => exact fun hk => own_kept (h hk) (fun b e => hb b ((if_pos hk).trans e))
theorem RPartAt.lt {p:RP} (h:RPartAt w M c r p) {b:Nat} (hb:M.blk c.nc p = some b):b < w.heap.size:=by
  cases p with
  | head => injection hb with hb; subst hb; exact Blk.lt h
  | sizes => injection hb with hb; subst hb; exact Grid.lt h
  | own => injection hb with hb; subst hb; exact Grid.lt h
  | lvs => injection hb with hb; subst hb; exact Grid.lt h
  | ch => exact own_blockN h hb
  | rows => injection hb with hb; subst hb; exact Grid.lt h
  | row k =>
    by_cases hi:k < c.nc
    · rw [RL.blk,if_pos hi] at hb; exact own_block (h hi) hb
    · rw [RL.blk,if_neg hi] at hb; cases hb
theorem RSetAt.lt (h:RSetAt w M c r) {b:Nat} (hb:RFoot M c b):b < w.heap.size:=by
  obtain ⟨p,hp⟩:=hb
  exact (h.parts p).lt hp
theorem RSetAt.kept (h:RSetAt w M c r) (hb:∀ b,RFoot M c b -> w'.heap[b]? = w.heap[b]?):RSetAt w' M c r :=
  ⟨fun p => (h.parts p).kept fun b e => hb b ⟨p,e⟩,h.inj,h.ok,h.caps⟩
theorem RSetAt.only {S:Nat -> Prop} (h:RSetAt w M c r) (o:Only S w w') (hs:∀ b,RFoot M c b -> ¬ S b):RSetAt w' M c r :=
  h.kept fun b hb => o.block b (h.lt hb) (hs b hb)
theorem RSetAt.drewN (h:RSetAt w M c r) (n:Nat):RSetAt (w.drewN n) M c r:=h.kept fun _ _ => rfl
theorem RSetAt.drew (h:RSetAt w M c r):RSetAt w.drew M c r:=h.kept fun _ _ => rfl
theorem RSetAt.alloc (h:RSetAt w M c r) (o:Obj):RSetAt (w.alloc o) M c r:=h.kept fun b hb => Below.heap_alloc w o b (h.lt hb)
theorem RSetAt.turns (P:RP -> Prop) {S:Nat -> Prop} (h:RSetAt w M c r) (o:Only S w w') (hs:∀ b,S b -> b < w.heap.size -> ∃ p,P p /\ M.blk c.nc p = some b)
    (hp:∀ p,P p -> RPartAt w' M' c r' p) (hq:∀ q,¬ P q -> RPartAt w M c r q -> RPartAt w M' c r' q)
    (hat:∀ q,¬ P q -> ∀ b,M'.blk c.nc q = some b -> M.blk c.nc q = some b)
    (hin:∀ p b,P p -> M'.blk c.nc p = some b -> M.blk c.nc p = some b \/ (w.heap.size <= b /\ ∀ q,P q -> M'.blk c.nc q = some b -> q = p))
    (hc:M'.cO = M.cO /\ M'.cG = M.cG /\ M'.cR = M.cR /\ M'.cS = M.cS):RSetAt w' M' c r':=by
  have lt1:∀ p b,M.blk c.nc p = some b -> b < w.heap.size:=fun p b e => (h.parts p).lt e
  refine ⟨fun q => ?_,fun p q b e1 e2 => ?_,h.ok,by rw [hc.1,hc.2.1,hc.2.2.1,hc.2.2.2]; exact h.caps⟩
  · by_cases hP:P q
    · exact hp q hP
    · refine (hq q hP (h.parts q)).kept fun b e => ?_
      have e':=hat q hP b e
      refine o.block b (lt1 q b e') fun hS => ?_
      obtain ⟨p,hp1,hp2⟩:=hs b hS (lt1 q b e')
      have:=h.inj p q b hp2 e'
      subst this
      exact hP hp1
  · by_cases h1:P p
    · rcases hin p b h1 e1 with h3 | ⟨h3,h4⟩
      · by_cases h2:P q
        · rcases hin q b h2 e2 with h5 | ⟨h5, -⟩
          · exact h.inj p q b h3 h5
          · have:=lt1 p b h3; omega
        · exact h.inj p q b h3 (hat q h2 b e2)
      · by_cases h2:P q
        · exact (h4 q h2 e2).symm
        · have:=lt1 q b (hat q h2 b e2); omega
    · have h3:=hat p h1 b e1
      by_cases h2:P q
      · rcases hin q b h2 e2 with h5 | ⟨h5, -⟩
        · exact h.inj p q b h3 h5
        · have:=lt1 p b h3; omega
      · exact h.inj p q b h3 (hat q h2 b e2)
theorem RSetAt.turn (p:RP) {S:Nat -> Prop} (h:RSetAt w M c r) (o:Only S w w') (hs:∀ b,S b -> b < w.heap.size -> M.blk c.nc p = some b)
    (hp:RPartAt w' M' c r' p) (hq:∀ q,q ≠ p -> RPartAt w M c r q -> RPartAt w M' c r' q)
    (hat:∀ q,q ≠ p -> ∀ b,M'.blk c.nc q = some b -> M.blk c.nc q = some b)
    (hin:∀ b,M'.blk c.nc p = some b -> M.blk c.nc p = some b \/ w.heap.size <= b) (hc:M'.cO = M.cO /\ M'.cG = M.cG /\ M'.cR = M.cR /\ M'.cS = M.cS):RSetAt w' M' c r' :=
  h.turns (· = p) o (fun b hS hlt => ⟨p,rfl,hs b hS hlt⟩) (fun q e => by subst e; exact hp) hq hat
    (fun q b e hb => by subst e; exact (hin b hb).imp id fun h1 => ⟨h1,fun q e _ => e⟩) hc
theorem RSetAt.okc (h:RSetAt w M c r):c.cf.Ok:=(okOf h.ok).1
theorem RSetAt.right (h:RSetAt w M c r):Right c:=(okOf h.ok).2
theorem RSetAt.headB (h:RSetAt w M c r):Blk w M.b 154 (rset c (.slice (some ⟨M.gs,0,none⟩) c.nc M.cS) (.slice (some ⟨M.go,0,none⟩) c.cf.np M.cO) (.slice (some ⟨M.gg,0,none⟩) c.cf.np M.cG) M.vC (.slice (some ⟨M.gr,0,none⟩) c.nc M.cR)):=h.parts .head
theorem RSetAt.ownB (h:RSetAt w M c r):Grid w M.go 3 c.cf.np 1 (fun i _ => ownV (r.own i)):=h.parts .own
theorem RSetAt.sizesB (h:RSetAt w M c r):Grid w M.gs 3 c.nc 1 (fun i _ => iv (c.sz i)):=h.parts .sizes
theorem RSetAt.chB (h:RSetAt w M c r):w.ownsRow 0 168 5 M.vC r.ch.length (chV r.ch):=h.parts .ch
theorem RSetAt.rowsB (h:RSetAt w M c r):Grid w M.gr 55 c.nc 1 (fun k _ => M.F k):=h.parts .rows
theorem RSetAt.rowB (h:RSetAt w M c r) {k:Nat} (hk:k < c.nc):w.ownsRow 0 3 1 (M.F k) (r.rows k).length ((r.rows k).map iv):=h.parts (.row k) hk
theorem RSetAt.cPs (h:RSetAt w M c r):w.cell? ⟨M.b,0,none⟩ = some (.int .i64 (c.cf.ps:Int)):=by rw [h.headB.cell 0, <- h.right.psE]; rfl
theorem RSetAt.cSizes (h:RSetAt w M c r):w.cell? ⟨M.b,5,none⟩ = some (.slice (some ⟨M.gs,0,none⟩) c.nc M.cS):=by rw [h.headB.cell 5]; rfl
theorem RSetAt.cOwn (h:RSetAt w M c r):w.cell? ⟨M.b,6,none⟩ = some (.slice (some ⟨M.go,0,none⟩) c.cf.np M.cO):=by rw [h.headB.cell 6]; rfl
theorem RSetAt.cCh (h:RSetAt w M c r):w.cell? ⟨M.b,8,none⟩ = some M.vC:=by rw [h.headB.cell 8]; rfl
theorem RSetAt.cRows (h:RSetAt w M c r):w.cell? ⟨M.b,9,none⟩ = some (.slice (some ⟨M.gr,0,none⟩) c.nc M.cR):=by rw [h.headB.cell 9]; rfl
theorem RSetAt.sz (h:RSetAt w M c r) {k:Nat} (hk:k < c.nc):w.cell? ⟨M.gs,k,none⟩ = some (.int .i64 (c.sz k:Int)):=h.sizesB.cell1 k hk
theorem RSetAt.ow (h:RSetAt w M c r) {i:Nat} (hi:i < c.cf.np):w.cell? ⟨M.go,i,none⟩ = some (ownV (r.own i)):=h.ownB.cell1 i hi
theorem RSetAt.rw_ (h:RSetAt w M c r) {k:Nat} (hk:k < c.nc):w.cell? ⟨M.gr,k,none⟩ = some (M.F k):=h.rowsB.cell1 k hk
theorem RSetAt.chs (h:RSetAt w M c r):∃ A cp,M.vC = .slice A r.ch.length cp /\ r.ch.length <= cp:=by
  rcases h.chB.2 with ⟨h1,h2⟩ | ⟨g,cap,cur,h1, -, -,h3, -⟩
  · exact ⟨none,0,by rw [h2]; exact h1,by omega⟩
  · exact ⟨_,_,h1,h3⟩
theorem RSetAt.chAt (h:RSetAt w M c r) {j:Nat} {x:RC} (hj:r.ch[j]? = some x):∃ g cp,M.vC = .slice (some ⟨g,0,none⟩) r.ch.length cp /\ w.cell? ⟨g,j * 5,none⟩ = some (.int .i64 (x.place:Int)) /\ w.cell? ⟨g,j * 5 + 1,none⟩ = some (.int .i64 (x.cls:Int)) /\
    w.cell? ⟨g,j * 5 + 2,none⟩ = some (.int .u64 (x.gen:Int)) /\ w.cell? ⟨g,j * 5 + 3,none⟩ = some (.bool x.tk) /\ w.cell? ⟨g,j * 5 + 4,none⟩ = some (.bool x.gone) /\ (∀ i,w.frozen? ⟨g,i,none⟩ = false) /\ j < r.ch.length:=by
  have hjl:j < r.ch.length:=(List.getElem?_eq_some_iff.1 hj).1
  rcases h.chB.2 with ⟨h1,h2⟩ | ⟨g,cap,cur,h1,hB,hg,h3,h4,h5,h6⟩
  · omega
  · have key:∀ i u,i < 5 -> x.cells[i]? = some u -> w.cell? ⟨g,j * 5 + i,none⟩ = some u:=fun i u hi hu => by
      have e:=chV_at hj i hi
      rw [hu, <- h6,List.getElem?_take,if_pos (by omega)] at e
      rw [cell_of_row w g _ cur _ (0,0) hg, <- Array.getElem?_toList]
      exact e
    exact ⟨g,cap,h1,key 0 _ (by omega) rfl,key 1 _ (by omega) rfl,key 2 _ (by omega) rfl,key 3 _ (by omega) rfl,key 4 _ (by omega) rfl,fun i => Blk.frozen hg i,hjl⟩
end
end Go.Proofs.YtfjiphibalhcgaaGreat.Cls
/-
  The document's Set as New leaves it.
-/
namespace Go.Proofs.YtfjiphibalhcgaaGreat.Cls
open Go.RowKit Base MapG
theorem own_rep {w:World} {N n cp:Nat} {e:TypeId} {A:Option Addr} {xs:List Value} {f:Nat -> Value} (hn : 1 <= n) (h:w.ownsRow N e 1 (.slice A n cp) n xs) (hx:∀ i,i < n -> xs[i]? = some (f i)) :
  ∃ g,A = some ⟨g,0,none⟩ /\ N <= g /\ n <= cp /\ cp <= maxLen /\ Grid w g e n 1 (fun i _ => f i):=by
 have hl:=h.1
 rcases h.2 with ⟨hv,h0⟩ | ⟨g,cap,cur,hv,hB,hg,h1,h2,h3,h4⟩
 ·omega
 ·injection hv with e1 e2 e3
  subst e1 e3
  refine ⟨g,rfl,hB,h1,h2,⟨cur,hg⟩,fun i j hi hj => ?_⟩
  obtain rfl:j = 0:=by omega
  rw [Nat.mul_one,Nat.add_zero,cell_of_row w g i cur _ (0,0) hg]
  have h5:=hx i hi
  rw [<- h4,List.getElem?_take] at h5
  split at h5
  ·simpa using h5
  ·cases h5
theorem RSetAt.new {w:World} {N b:Nat} {c:Conf} (hr:refN c = 0) (np1 : 1 <= c.cf.np) (nc1 : 1 <= c.nc) (h:RAt w N b c c.cf.np c.nc):∃ M:RL,M.b = b /\ RSetAt w M c rnew0 /\ ∀ d,RFoot M c d -> N <= d:=by
 obtain ⟨hb,vS,A,cp,A',cp',A2,cp2,B,oS,hS,oO,oG,oR⟩:=h
 obtain ⟨AS,cS,rfl⟩:=own_is oS
 obtain ⟨gs,rfl,s1,s2,s3,gS⟩:=own_rep (f:=fun i => iv (c.sz i)) nc1 oS (fun i hi => by rw [List.getElem?_map,List.getElem?_map,List.getElem?_range hi]; rfl)
 obtain ⟨go,rfl,o1,o2,o3,gO⟩:=own_rep (f:=fun _ => Value.int .i64 (-1)) np1 oO (fun i hi => by rw [List.getElem?_replicate,if_pos hi])
 obtain ⟨gg,rfl,g1,g2,g3,gG⟩:=own_rep (f:=fun _ => Value.bool false) np1 oG (fun i hi => by rw [List.getElem?_replicate,if_pos hi])
 obtain ⟨gr,rfl,r1,r2,r3,gR⟩:=own_rep (f:=fun _ => Value.slice none 0 0) nc1 oR (fun i hi => by rw [List.getElem?_replicate,if_pos hi])
 have hgs:gs < b:=hS gs rfl
 have n1:b ≠ gs:=ne_ty ⟨_,B⟩ gS.blk (by decide)
 have n2:b ≠ go:=ne_ty ⟨_,B⟩ gO.blk (by decide)
 have n3:b ≠ gg:=ne_ty ⟨_,B⟩ gG.blk (by decide)
 have n4:b ≠ gr:=ne_ty ⟨_,B⟩ gR.blk (by decide)
 have n5:gs ≠ go:=by omega
 have n6:gs ≠ gg:=ne_ty gS.blk gG.blk (by decide)
 have n7:gs ≠ gr:=ne_ty gS.blk gR.blk (by decide)
 have n8:go ≠ gg:=ne_ty gO.blk gG.blk (by decide)
 have n9:go ≠ gr:=ne_ty gO.blk gR.blk (by decide)
 have n10:gg ≠ gr:=ne_ty gG.blk gR.blk (by decide)
 refine ⟨⟨b,gs,cS,go,cp,gg,cp',.slice none 0 0,gr,cp2,fun _ => .slice none 0 0⟩,rfl,⟨fun p => ?_,fun p q d hp hq => ?_,hr,o2,o3,g2,g3,r2,r3,s2⟩,fun d ⟨p,hp⟩ => ?_⟩
 ·cases p with
  | head => exact B
  | sizes => exact gS
  | own => exact gO
  | lvs => exact gG
  | ch => exact ⟨rfl,.inl ⟨rfl,rfl⟩⟩
  | rows => exact gR
  | row k => exact fun _ => ⟨rfl,.inl ⟨rfl,rfl⟩⟩
 ·have rn:∀ k,(RL.blk ⟨b,gs,cS,go,cp,gg,cp',.slice none 0 0,gr,cp2,fun _ => .slice none 0 0⟩ c.nc (.row k)) = none:=fun k => by
   show (if k < c.nc then none else none) = none
   split <;> rfl
  cases p with
  | ch => cases hp
  | row k => rw [rn] at hp; cases hp
  | _ =>
   cases q with
   | ch => cases hq
   | row k => rw [rn] at hq; cases hq
   | _ =>
    injection hp with hp
    injection hq with hq
    simp only at hp hq
    first | rfl | (exfalso; omega)
 ·cases p with
  | head =>
   have hp:b = d:=by injection hp
   omega
  | sizes =>
   have hp:gs = d:=by injection hp
   omega
  | own => injection hp with hp; simp only at hp; omega
  | lvs => injection hp with hp; simp only at hp; omega
  | ch => cases hp
  | rows => injection hp with hp; simp only at hp; omega
  | row k =>
   have:(if k < c.nc then (none:Option Nat) else none) = some d:=hp
   split at this <;> cases this
end Go.Proofs.YtfjiphibalhcgaaGreat.Cls
/-
  The document's queue: where a handle stands in a list.
-/
namespace Go.Proofs.YtfjiphibalhcgaaGreat.Que
open Go.RowKit Base Arena Cls Itm
def uv (x:Nat):Value:=.int .u64 (x:Int)
def atN (l:List Nat) (H:Nat):Int:=if H ∈ l then (l.idxOf H:Int) else -1
theorem own_uv {w:World} {N n i x:Nat} {v:Value} {l:List Nat} (h:w.ownsRow N 26 1 v n (l.map uv)) (hx:l[i]? = some x):∃ g c,v = .slice (some ⟨g,0,none⟩) n c /\ w.cell? ⟨g,i,none⟩ = some (.int .u64 (x:Int)):=by
 have hl:=h.1
 have hi:i < l.length:=(List.getElem?_eq_some_iff.1 hx).1
 rw [List.length_map] at hl
 rcases h.2 with ⟨rfl,h0⟩ | ⟨g,cap,cur,rfl,hB,hg,h1,h2,h3,h4⟩
 ·omega
 ·refine ⟨g,cap,rfl,?_⟩
  rw [cell_of_row w g i cur _ (0,0) hg]
  have h5:(l.map uv)[i]? = some (uv x):=by rw [List.getElem?_map,hx]; rfl
  rw [<- h4,List.getElem?_take] at h5
  split at h5
  ·simpa [uv] using h5
  ·cases h5
theorem atN_no {l:List Nat} {H:Nat} (h:∀ j,j < l.length -> l[j]? ≠ some H):atN l H = -1:=by
 unfold atN
 rw [if_neg fun hm => ?_]
 obtain ⟨j,hj⟩:=List.mem_iff_getElem?.1 hm
 exact h j (List.getElem?_eq_some_iff.1 hj).1 hj
theorem atN_yes {l:List Nat} {H i:Nat} (hi:l[i]? = some H) (h:∀ j,j < i -> l[j]? ≠ some H):atN l H = (i:Int):=by
 have hil:=(List.getElem?_eq_some_iff.1 hi).1
 have hg:=(List.getElem?_eq_some_iff.1 hi).2
 have e:l = l.take i ++ H :: l.drop (i + 1):=by
  rw [<- hg,List.getElem_cons_drop,List.take_append_drop]
 have hn:H ∉ l.take i:=fun hm => by
  obtain ⟨j,hj⟩:=List.mem_iff_getElem?.1 hm
  rw [List.getElem?_take] at hj
  split at hj
  ·rename_i hlt; exact h j hlt hj
  ·cases hj
 unfold atN
 rw [if_pos (List.mem_of_getElem? hi)]
 have:=idx_split (l2:=l.drop (i + 1)) hn
 rw [<- e,List.length_take] at this
 omega
theorem atC6 (w:World) (N cp:Nat) (A:Option Addr) (l:List Nat) (h:w.ownsRow N 26 1 (.slice A l.length cp) l.length (l.map uv)) (hlen:l.length <= 1073741824) (H:Nat) :
  Calls Tryz.prog 71 #[.slice A l.length cp,.int .u64 (H:Int)] w fun e w' => e = .returned (.int .i64 (atN l H)) /\ w = w':=by
 replace h:=Lib.hid h
 go_enter Tryz.func71,Tryz.ntmps71
 go_wp2
 go_loopw [5] (fun v wr => ∃ i:Nat,v = .int .i64 (i:Int) /\ i <= l.length /\ w = wr /\ Hid (∀ j,j < i -> l[j]? ≠ some H)) (fun v _ => l.length + 1 - (intOf v).toNat)
 case atStart => exact ⟨0,rfl,Nat.zero_le _,rfl,Lib.hid (fun j hj => absurd hj (by omega))⟩
 case round =>
  obtain ⟨i,rfl,hi,rfl,hno⟩:=hrel
  by_cases hil:i < l.length
  ·have hx:l[i]? = some l[i]:=List.getElem?_eq_getElem hil
   generalize l[i] = x at *
   obtain ⟨g,cp',hv,y⟩:=own_uv h.out hx
   injection hv with hv1 hv2 hv3
   subst hv1 hv3
   have k0:(0:Int) <= (i:Int):=by omega
   have k1:(i:Int) < (l.length:Int):=by omega
   have d1:decide ((i:Int) < (l.length:Int)) = true:=decide_eq_true (by omega)
   have qi:IntKind.i64.wrap ((i:Int) + 1) = ((i + 1:Nat):Int):=by rw [IntWalk.i64_in _ (by omega)]; rfl
   by_cases he:x = H
   ·have d2:((x:Int) == (H:Int)) = true:=by rw [beq_iff_eq]; omega
    have d3:decide ((x:Int) = (H:Int)) = true:=decide_eq_true (by omega)
    have hf:=Lib.hid (atN_yes (he ▸ hx) hno.out)
    replace he:=Lib.hid he
    replace hx:=Lib.hid hx
    go_wp2
    go_ret
    exact ⟨by rw [hf.out]; rfl,rfl⟩
   ·have d2:((x:Int) == (H:Int)) = false:=by rw [beq_eq_false_iff_ne]; omega
    have d3:decide ((x:Int) = (H:Int)) = false:=decide_eq_false (by omega)
    have hno':=Lib.hid (show ∀ j,j < i + 1 -> l[j]? ≠ some H from fun j hj => by
     rcases Nat.lt_or_ge j i with h1 | h1
     ·exact hno.out j h1
     ·obtain rfl:j = i:=by omega
      rw [hx]
      intro e
      injection e with e
      exact he e)
    replace he:=Lib.hid he
    replace hx:=Lib.hid hx
    go_wp2
    go_roundw
    case rel => exact ⟨i + 1,rfl,by omega,trivial,hno'⟩
    case measure => simp [intOf] <;> omega
  ·obtain rfl:i = l.length:=by omega
   have d1:decide ((l.length:Int) < (l.length:Int)) = false:=by simp
   have hf:=Lib.hid (atN_no hno.out)
   go_wp2
   go_ret
   exact ⟨by rw [hf.out]; rfl,rfl⟩
structure R6 where
 b:Nat
 vL:Value
 gL:Nat
 F:Nat -> Value
inductive P6 where
 | head
 | laid
 | grid
 | row (k:Nat)
 deriving DecidableEq
def R6.blk (R:R6) (n:Nat):P6 -> Option Nat
 | .head => some R.b
 | .laid => R.vL.ownBlock
 | .grid => some R.gL
 | .row k => if k < n then (R.F k).ownBlock else none
def r6v (mb:Nat) (R:R6) (n:Nat):Array Value:=#[.pointer (some ⟨mb,0,none⟩),R.vL,.slice (some ⟨R.gL,0,none⟩) n n]
def P6At (w:World) (R:R6) (mb n:Nat) (laid:List Nat) (lists:Nat -> List Nat):P6 -> Prop
 | .head => Blk w R.b 97 (r6v mb R n)
 | .laid => w.ownsRow 0 26 1 R.vL laid.length (laid.map uv)
 | .grid => Grid w R.gL 45 n 1 (fun k _ => R.F k)
 | .row k => k < n -> w.ownsRow 0 26 1 (R.F k) (lists k).length ((lists k).map uv)
structure R6At (w:World) (R:R6) (mb n:Nat) (laid:List Nat) (lists:Nat -> List Nat):Prop where
 parts:∀ p,P6At w R mb n laid lists p
 inj:∀ p q b,R.blk n p = some b -> R.blk n q = some b -> p = q
def F6 (R:R6) (n:Nat) (b:Nat):Prop:=∃ p,R.blk n p = some b
section
variable {w w':World} {R:R6} {mb n:Nat} {laid:List Nat} {lists:Nat -> List Nat} (h:R6At w R mb n laid lists)
include h
theorem R6At.head:Blk w R.b 97 (r6v mb R n):=h.parts .head
theorem R6At.laidR:w.ownsRow 0 26 1 R.vL laid.length (laid.map uv):=h.parts .laid
theorem R6At.grid:Grid w R.gL 45 n 1 (fun k _ => R.F k):=h.parts .grid
theorem R6At.row {k:Nat} (hk:k < n):w.ownsRow 0 26 1 (R.F k) (lists k).length ((lists k).map uv):=h.parts (.row k) hk
theorem R6At.c0:w.cell? ⟨R.b,0,none⟩ = some (.pointer (some ⟨mb,0,none⟩)):=h.head.cell 0
theorem R6At.c1:w.cell? ⟨R.b,1,none⟩ = some R.vL:=h.head.cell 1
theorem R6At.lt {b:Nat} (hb:F6 R n b):b < w.heap.size:=by
 obtain ⟨p,hp⟩:=hb
 cases p with
 | head => injection hp with hp; subst hp; exact h.head.lt
 | laid => exact own_blockN h.laidR hp
 | grid => injection hp with hp; subst hp; exact h.grid.lt
 | row k =>
  by_cases hk:k < n
  ·rw [R6.blk,if_pos hk] at hp; exact own_blockN (h.row hk) hp
  ·rw [R6.blk,if_neg hk] at hp; cases hp
theorem R6At.kept (hb:∀ b,F6 R n b -> w'.heap[b]? = w.heap[b]?):R6At w' R mb n laid lists:=by
 refine ⟨fun p => ?_,h.inj⟩
 cases p with
 | head => exact (hb _ ⟨.head,rfl⟩).trans h.head
 | laid => exact own_keptN h.laidR fun b e => hb b ⟨.laid,e⟩
 | grid => exact h.grid.kept (hb _ ⟨.grid,rfl⟩)
 | row k => exact fun hk => own_keptN (h.row hk) fun b e => hb b ⟨.row k,by rw [R6.blk,if_pos hk]; exact e⟩
theorem R6At.only {S:Nat -> Prop} (o:Only S w w') (hs:∀ b,F6 R n b -> ¬ S b):R6At w' R mb n laid lists:=h.kept fun b hb => o.block b (h.lt hb) (hs b hb)
theorem R6At.below (b:Below w.heap.size w w'):R6At w' R mb n laid lists:=h.kept fun d hd => b.block d (h.lt hd)
end
structure Went6 (w w':World) (R R':R6) (n:Nat):Prop where
 only:Only (F6 R n) w w'
 foot:∀ b,F6 R' n b -> F6 R n b \/ w.heap.size <= b
 gl:R'.gL = R.gL
theorem eiU:EI Tryz.prog 95 45 (.slice none 0 0) 1 24:=EI.mk' Tryz.underlying95 (by kernel_rfl) rfl (by decide)
theorem new6C (w:World) (M:RL) (c:Conf) (r:RS) (h:RSetAt w M c r) (hnc:c.nc <= 62):Calls Tryz.prog 46 #[.pointer (some ⟨M.b,0,none⟩)] w fun e w' =>
  ∃ R,e = .returned (.pointer (some ⟨R.b,0,none⟩)) /\ Below w.heap.size w w' /\ (∀ b,F6 R (3 * c.nc) b -> w.heap.size <= b) /\ R6At w' R M.b (3 * c.nc) [] (fun _ => []):=by
 have c5:=h.cSizes
 have q1:(3:Int) * (c.nc:Int) = ((3 * c.nc:Nat):Int):=by omega
 have q2:IntKind.i64.wrap ((3:Int) * (c.nc:Int)) = ((3 * c.nc:Nat):Int):=by rw [q1]; exact IntWalk.i64_in _ (by omega)
 clear h q1
 obtain ⟨m,hm⟩:∃ m,m = 3 * c.nc:=⟨_,rfl⟩
 rw [<- hm] at q2 ⊢
 have mQ:∀ W:World,(Instr.makeSlice 95 (.int .i64 (m:Int)) (.int .i64 (m:Int))).run Tryz.prog W = .ok (.slice (some ⟨W.heap.size,0,none⟩) m m) (W.alloc (.cells (madeCells (Value.slice none 0 0).cells (m * 1)) 45)) :=
  fun W => eiU.make .i64 .i64 m m (Nat.le_refl _) (by omega) (by omega) W
 have gQ:Hid (Grid (w.alloc (.cells (madeCells (Value.slice none 0 0).cells (m * 1)) 45)) w.heap.size 45 m 1 (fun _ _ => .slice none 0 0)):=Lib.hid (Grid.made w 45 (Value.slice none 0 0).cells m (fun _ => .slice none 0 0) fun j hj => by
  have hj:j < 1:=hj
  obtain rfl:j = 0:=by omega
  rfl)
 have sP:=Lib.hid (World.size_alloc w (.cells (madeCells (Value.slice none 0 0).cells (m * 1)) 45))
 generalize Obj.cells (madeCells (Value.slice none 0 0).cells (m * 1)) 45 = P at *
 replace hm:=Lib.hid hm
 go_enter Tryz.func46,Tryz.ntmps46
 go_wp2_with fail
 go_ret
 have B:=Blk.new (w.alloc P) 97 #[.pointer (some ⟨M.b,0,none⟩),.slice none 0 0,.slice (some ⟨w.heap.size,0,none⟩) m m]
 rw [sP.out] at B
 have rn:∀ k,(R6.blk ⟨w.heap.size + 1,.slice none 0 0,w.heap.size,fun _ => .slice none 0 0⟩ m (.row k)) = none:=fun k => by
  show (if k < m then none else none) = none
  split <;> rfl
 refine ⟨⟨w.heap.size + 1,.slice none 0 0,w.heap.size,fun _ => .slice none 0 0⟩,rfl,?_,fun d ⟨p,hp⟩ => ?_,fun p => ?_,fun p q d hp hq => ?_⟩
 ·exact ((Below.refl _ w).alloc (Nat.le_refl _) P).alloc (by rw [sP.out]; omega) _
 ·cases p with
  | head =>
   have hp:w.heap.size + 1 = d:=by injection hp
   omega
  | laid => cases hp
  | grid =>
   have hp:w.heap.size = d:=by injection hp
   omega
  | row k => rw [rn] at hp; cases hp
 ·cases p with
  | head => exact B
  | laid => exact ⟨rfl,.inl ⟨rfl,rfl⟩⟩
  | grid => exact gQ.out.only (S:=fun _ => False) ((Only.refl _ _).alloc _) (fun h => h)
  | row k => exact fun _ => ⟨rfl,.inl ⟨rfl,rfl⟩⟩
 ·cases p with
  | laid => cases hp
  | row k => rw [rn] at hp; cases hp
  | head =>
   have hp:w.heap.size + 1 = d:=by injection hp
   cases q with
   | laid => cases hq
   | row k => rw [rn] at hq; cases hq
   | head => rfl
   | grid =>
    have hq:w.heap.size = d:=by injection hq
    omega
  | grid =>
   have hp:w.heap.size = d:=by injection hp
   cases q with
   | laid => cases hq
   | row k => rw [rn] at hq; cases hq
   | grid => rfl
   | head =>
    have hq:w.heap.size + 1 = d:=by injection hq
    omega
theorem eiL:EI Tryz.prog 45 26 (.int .u64 0) 1 8:=EI.mk' Tryz.underlying45 (by kernel_rfl) rfl (by decide)
theorem only_cell1 {S:Nat -> Prop} (w:World) (g i:Nat) (v:Value) (hg:S g):Only S w (w.setCell ⟨g,i,none⟩ v):=(Only.refl S w).setCell (p:=⟨g,i,none⟩) (fun _ => hg) v
theorem R6At.newLaid {w w6:World} {R:R6} {mb n:Nat} {laid:List Nat} {lists:Nat -> List Nat} (h:R6At w R mb n laid lists) {v':Value} {H:Nat} (o:Only (fun b => R.vL.ownBlock = some b) w w6)
    (own6:w6.ownsRow 0 26 1 v' (laid.length + 1) (laid.map uv ++ [uv H])) (hat:∀ b,v'.ownBlock = some b -> R.vL.ownBlock = some b \/ w.heap.size <= b) :
    R6At (w6.setCell ⟨R.b,1,none⟩ v') { R with vL:=v' } mb n (laid ++ [H]) lists /\ Went6 w (w6.setCell ⟨R.b,1,none⟩ v') R { R with vL:=v' } n:=by
  have nb:∀ p b,p ≠ .laid -> R.blk n p = some b -> ¬ (R.vL.ownBlock = some b):=fun p b hp hb e => hp (h.inj p .laid b hb e)
  have hv:∀ p b,p ≠ .laid -> R.blk n p = some b -> ¬ (v'.ownBlock = some b):=fun p b hp hb e => by
    rcases hat b e with h1 | h1
    · exact nb p b hp hb h1
    · have:=h.lt ⟨p,hb⟩; omega
  have B6:Blk w6 R.b 97 (r6v mb R n):=(o.block _ h.head.lt (nb .head _ (by decide) rfl)).trans h.head
  have o2:=only_cell1 (S:=(· = R.b)) w6 R.b 1 v' rfl
  have far:∀ b,b < w6.heap.size -> b ≠ R.b -> (w6.setCell ⟨R.b,1,none⟩ v').heap[b]? = w6.heap[b]?:=fun b hb hne => o2.block b hb hne
  have ne:∀ p b,p ≠ .head -> R.blk n p = some b -> b ≠ R.b:=fun p b hp hb e => hp (h.inj p .head b hb (by rw [e]; rfl))
  have kp:∀ p b,p ≠ .head -> p ≠ .laid -> R.blk n p = some b -> (w6.setCell ⟨R.b,1,none⟩ v').heap[b]? = w.heap[b]?:=fun p b h1 h2 hb =>
    (far b (Nat.lt_of_lt_of_le (h.lt ⟨p,hb⟩) o.size) (ne p b h1 hb)).trans (o.block b (h.lt ⟨p,hb⟩) (nb p b h2 hb))
  have hbl:∀ p,p ≠ .laid -> R6.blk { R with vL:=v' } n p = R.blk n p:=fun p hp => by
    cases p with
    | laid => exact absurd rfl hp
    | _ => rfl
  refine ⟨⟨fun p => ?_,fun p q b hp hq => ?_⟩,?_,fun b ⟨p,hp⟩ => ?_,rfl⟩
  · cases p with
    | head => exact B6.set_ 1 v'
    | laid =>
      have e:(laid ++ [H]).map uv = laid.map uv ++ [uv H]:=List.map_append
      show World.ownsRow _ 0 _ 1 v' (laid ++ [H]).length ((laid ++ [H]).map uv)
      rw [e,List.length_append]
      exact own_keptN own6 fun b e => far b (own_blockN own6 e) fun e2 => hv .head b (by decide) (by rw [e2]; rfl) e
    | grid => exact h.grid.kept (kp .grid _ (by decide) (by decide) rfl)
    | row k => exact fun hk => own_keptN (h.row hk) fun b e => kp (.row k) b (by simp) (by simp) (by rw [R6.blk,if_pos hk]; exact e)
  · by_cases p0:p = .laid
    · subst p0
      by_cases q0:q = .laid
      · exact q0.symm
      · rw [hbl q q0] at hq
        exact absurd hp (hv q b q0 hq)
    · rw [hbl p p0] at hp
      by_cases q0:q = .laid
      · subst q0
        exact absurd hq (hv p b p0 hp)
      · rw [hbl q q0] at hq
        exact h.inj p q b hp hq
  · refine (o.mono fun b _ e => ⟨.laid,e⟩).trans (only_cell1 (S:=F6 R n) w6 R.b 1 v' ⟨.head,rfl⟩) fun _ _ h => h
  · by_cases p0:p = .laid
    · subst p0
      exact (hat b hp).imp (fun e => ⟨.laid,e⟩) id
    · rw [hbl p p0] at hp
      exact .inl ⟨p,hp⟩
section
variable (w:World) (R:R6) (mb n:Nat) (laid:List Nat) (lists:Nat -> List Nat) (h:R6At w R mb n laid lists) (hlen:laid.length + 1 <= 1073741824) (H:Nat)
include h hlen
theorem lay6In (hm:H ∈ laid):Calls Tryz.prog 57 #[.pointer (some ⟨R.b,0,none⟩),.int .u64 (H:Int)] w fun e w' => e = .returned (.tuple #[]) /\ w = w':=by
  have c1:=h.c1
  obtain ⟨A,cp,hv⟩:=own_is h.laidR
  have own:=h.laidR
  rw [hv] at c1 own
  have AC:=atC6 w 0 cp A laid own (by omega) H
  unfold atN at AC
  rw [if_pos hm] at AC
  have d1:decide ((laid.idxOf H:Int) < 0) = false:=decide_eq_false (by omega)
  generalize laid.idxOf H = ix at *
  replace AC:=Lib.hid AC
  clear h own hv hm
  go_enter Tryz.func57,Tryz.ntmps57
  go_wp2_with fail
  refine AC.out.mono ?_
  rintro e w1 ⟨rfl,rfl⟩
  go_wp2
  go_end0
  exact ⟨rfl,rfl⟩
theorem lay6Out (hm:H ∉ laid):Calls Tryz.prog 57 #[.pointer (some ⟨R.b,0,none⟩),.int .u64 (H:Int)] w fun e w' => e = .returned (.tuple #[]) /\ ∃ R',R'.b = R.b /\ Went6 w w' R R' n /\ R6At w' R' mb n (laid ++ [H]) lists:=by
  have c1:=h.c1
  have fz:=h.head.frozen 1
  have z1:∀ o,(w.alloc o).frozen? ⟨R.b,1,none⟩ = false:=fun o => (h.head.alloc o).frozen 1
  obtain ⟨A,cp,hv⟩:=own_is h.laidR
  have own:=h.laidR
  have hb:=h.head
  rw [hv] at c1 own
  have AC:=atC6 w 0 cp A laid own (by omega) H
  unfold atN at AC
  rw [if_neg hm] at AC
  replace AC:=Lib.hid AC
  replace h:=Lib.hid h
  replace hv:=Lib.hid hv
  replace own:=Lib.hid own
  clear hm
  go_enter Tryz.func57,Tryz.ntmps57
  go_wp2_with fail
  refine AC.out.mono ?_
  rintro e w1 ⟨rfl,rfl⟩
  clear AC
  go_wp2_with (at_builtin; refine wpList_app rfl _ _ _ rfl eiL 0 _ _ _ rfl (own.out.alloc _) (w.heap.size + 1) (some ⟨w.heap.size,0,none⟩) 1 1 [.int .u64 (H:Int)] rfl ?c1 ?c2 ?c3 ?c4 ?c5 ?_)
  case c1 => exact reads_v w _ _
  case c2 => intro u hu; rw [List.mem_singleton] at hu; subst hu; rfl
  case c3 => unfold maxLen; omega
  case c4 => omega
  case c5 => exact Nat.zero_le _
  intro VV w6 own6 hg6 hat6
  obtain ⟨A6,cp6,rfl⟩:=own_is own6
  have o6:Only (fun k => R.vL.ownBlock = some k) w w6:=((Only.refl _ w).alloc _).grown hg6 (fun k e _ => by rw [hv.out]; exact e)
  have hat:∀ b,(Value.slice A6 (laid.length + 1) cp6).ownBlock = some b -> R.vL.ownBlock = some b \/ w.heap.size <= b:=fun b e => by
    rcases hat6 with h6 | h6
    · rw [hv.out, <- h6]; exact .inl e
    · rw [h6] at e
      injection e with e
      exact .inr (by omega)
  have T:=Lib.hid (h.out.newLaid o6 own6 hat)
  have B6:Blk w6 R.b 97 (r6v mb R n):=(o6.block _ hb.lt (fun e => by have:=h.out.inj .head .laid R.b rfl e; cases this)).trans hb
  have r1:=B6.cell 1
  have r2:=B6.frozen 1
  clear own6 hg6 hat6 o6 hat z1 c1 fz own hb
  go_wp2
  go_end0
  exact ⟨rfl, { R with vL:=.slice A6 (laid.length + 1) cp6 },rfl,T.out.2,T.out.1⟩
end
end Go.Proofs.YtfjiphibalhcgaaGreat.Que
/-
  The walks of the document's Is, Handle, Find, At and gen.
-/
namespace Go.Proofs.YtfjiphibalhcgaaGreat.Cls
open Go.RowKit Base
def RFine (r:RS):Prop:=∀ (j:Nat) (y:RC),r.ch[j]? = some y -> y.tk = true -> y.place <= 1073741824 /\ y.gen < 4294967296
theorem Rel.fine {d:Cf} (ok:d.Ok) {s:St} (g:Good d s) {r:RS} (h:Rel d s r):RFine r:=fun j y hj ht => by
 have hl:=h.tk_live hj ht
 obtain ⟨i,x,a1,a2,a3,a4⟩:=h.live j y hj hl
 have h1:=h.pl j y hj
 have h2:d.np * d.ps <= 1024 * 1048576:=Nat.mul_le_mul ok.npb ok.psb
 refine ⟨by omega,?_⟩
 rw [a4]
 exact g.gen i x
section
variable {w:World} {M:RL} {c:Conf} {r:RS} (h:RSetAt w M c r)
include h
theorem risC (k:Int):Calls Tryz.prog 101 #[.pointer (some ⟨M.b,0,none⟩),.int .i64 k] w fun e w' => e = .returned (.bool (decide (0 <= k /\ k < (c.nc:Int)))) /\ w = w':=by
 have c8:=h.cSizes
 clear h
 by_cases h0 : 0 <= k
 ·have d0:decide (0 <= k) = true:=decide_eq_true h0
  have e:decide (0 <= k /\ k < (c.nc:Int)) = decide (k < (c.nc:Int)):=by simp [h0]
  rw [e]
  clear e
  go_enter Tryz.func101,Tryz.ntmps101
  go_wp2
  go_ret
  exact ⟨rfl,rfl⟩
 ·have d0:decide (0 <= k) = false:=decide_eq_false h0
  have e:decide (0 <= k /\ k < (c.nc:Int)) = false:=by simp; omega
  rw [e]
  clear e
  go_enter Tryz.func101,Tryz.ntmps101
  go_wp2
  go_ret
  exact ⟨rfl,rfl⟩
theorem rhandleC {j:Nat} {x:RC} (hj:r.ch[j]? = some x) (hp:x.place <= 1073741824) (hg:x.gen < 4294967296):Calls Tryz.prog 103 #[.pointer (some ⟨M.b,0,none⟩),.int .i64 (j:Int)] w fun e w' => e = .returned (.int .u64 (x.name:Int)) /\ ∃ m,w.drewN m = w':=by
 have c8:=h.cCh
 obtain ⟨g,cp,hv,y0, -,y2, -, -, -,hjl⟩:=h.chAt hj
 rw [hv] at c8
 have k0:(0:Int) <= (j:Int):=by omega
 have k1:(j:Int) < (r.ch.length:Int):=by omega
 unfold RC.name
 generalize x.place = p at *
 generalize x.gen = G at *
 have q1:((p:Int)).tdiv 8 = ((p / 8:Nat):Int):=by rw [Int.tdiv_eq_ediv_of_nonneg (by omega)]; omega
 have q2:IntKind.i64.wrap ((p / 8:Nat):Int) = ((p / 8:Nat):Int):=IntWalk.i64_in _ (by omega)
 have q3:IntKind.i64.wrap (((p / 8:Nat):Int) + 1) = ((p / 8:Nat):Int) + 1:=IntWalk.i64_in _ (by omega)
 have q4:IntKind.u64.wrap (((p / 8:Nat):Int) + 1) = ((p / 8:Nat):Int) + 1:=IntWalk.u64_in _ (by omega)
 have q6:IntKind.u64.wrap ((G:Int) * 4294967296) = (G:Int) * 4294967296:=IntWalk.u64_in _ (by omega)
 have q7:IntKind.u64.wrap ((G:Int) * 4294967296 + (((p / 8:Nat):Int) + 1)) = (hnd p G:Int):=by rw [IntWalk.u64_in _ (by omega)]; unfold hnd; omega
 generalize hq:p / 8 = q at *
 generalize hnd p G = H at *
 generalize r.ch.length = len at *
 clear hq h hv hj hjl
 go_enter Tryz.func103,Tryz.ntmps103
 go_wp2_with fail
 go_quiet (fail)
 go_wp2
 go_ret
 exact ⟨rfl,by repeat (first | exact drew_here _ | refine drew_more ?_)⟩
end
def findIV:Option Nat -> Value
 | some j => .int .i64 (j:Int)
 | none => .int .i64 (-1)
theorem rfind_some {l:List RC} {H i:Nat} {x:RC} (hx:l[i]? = some x) (ht:x.tk = true) (hn:x.name = H) (hb:∀ j,j < i -> ∀ y:RC,l[j]? = some y -> ¬ (y.tk = true /\ y.name = H)):rfind l H = some i:=by
 unfold rfind
 obtain ⟨hl,he⟩:=List.getElem?_eq_some_iff.1 hx
 rw [List.findIdx?_eq_some_iff_getElem]
 refine ⟨hl,by rw [he]; simp [ht,hn],fun j hj => ?_⟩
 have:=hb j hj _ (List.getElem?_eq_getElem (by omega))
 simpa using this
theorem rfind_none {l:List RC} {H:Nat} (hb:∀ (j:Nat) (y:RC),l[j]? = some y -> ¬ (y.tk = true /\ y.name = H)):rfind l H = none:=by
 unfold rfind
 rw [List.findIdx?_eq_none_iff]
 intro y hy
 obtain ⟨j,hj,rfl⟩:=List.getElem_of_mem hy
 have:=hb j _ (List.getElem?_eq_getElem hj)
 simpa using this
set_option maxHeartbeats 1600000 in
theorem rfindC (w:World) (M:RL) (c:Conf) (r:RS) (h:RSetAt w M c r) (fi:RFine r) (hlen:r.ch.length <= 1073741824) (H:Nat):Calls Tryz.prog 70 #[.pointer (some ⟨M.b,0,none⟩),.int .u64 (H:Int)] w fun e w' => e = .returned (findIV (rfind r.ch H)) /\ ∃ m,w.drewN m = w':=by
 replace fi:=Lib.hid fi
 replace h:=Lib.hid h
 go_enter Tryz.func70,Tryz.ntmps70
 go_wp2
 go_loopw [5] (fun v wr => ∃ i:Nat,v = .int .i64 (i:Int) /\ i <= r.ch.length /\ Hid (RSetAt wr M c r) /\ Hid (∃ m,w.drewN m = wr) /\ Hid (∀ j,j < i -> ∀ y:RC,r.ch[j]? = some y -> ¬ (y.tk = true /\ y.name = H))) (fun v _ => r.ch.length - (intOf v).toNat)
 case atStart => exact ⟨0,rfl,Nat.zero_le _,h,Lib.hid ⟨0,rfl⟩,Lib.hid (fun j hj => absurd hj (by omega))⟩
 case round =>
  obtain ⟨i,rfl,hi,R,hm,hno⟩:=hrel
  have c8:=R.out.cCh
  by_cases hil:i < r.ch.length
  ·have hx:r.ch[i]? = some r.ch[i]:=List.getElem?_eq_getElem hil
   generalize r.ch[i] = x at *
   obtain ⟨g,cp,hv, -, -, -,y3, -, -, -⟩:=R.out.chAt hx
   rw [hv] at c8
   have k0:(0:Int) <= (i:Int):=by omega
   have k1:(i:Int) < (r.ch.length:Int):=by omega
   have d1:decide ((i:Int) < (r.ch.length:Int)) = true:=decide_eq_true (by omega)
   have qi:IntKind.i64.wrap ((i:Int) + 1) = ((i + 1:Nat):Int):=by rw [IntWalk.i64_in _ (by omega)]; rfl
   replace hv:=Lib.hid hv
   cases ht:x.tk with
   | false =>
    rw [ht] at y3
    have hno':=Lib.hid (show ∀ j,j < i + 1 -> ∀ y:RC,r.ch[j]? = some y -> ¬ (y.tk = true /\ y.name = H) from fun j hj y hy hh => by
     rcases Nat.lt_or_ge j i with h1 | h1
     ·exact hno.out j h1 y hy hh
     ·obtain rfl:j = i:=by omega
      rw [hx] at hy
      injection hy with hy
      subst hy
      rw [ht] at hh
      cases hh.1)
    replace hx:=Lib.hid hx
    replace ht:=Lib.hid ht
    clear hno
    go_wp2
    go_roundw
    case rel => exact ⟨i + 1,rfl,by omega,R,hm,hno'⟩
    case measure => simp [intOf] <;> omega
   | true =>
    rw [ht] at y3
    obtain ⟨f1,f2⟩:=fi.out i x hx ht
    have HC:=Lib.hid (rhandleC R.out hx f1 f2)
    replace hx:=Lib.hid hx
    replace ht:=Lib.hid ht
    obtain ⟨nm,hnm⟩:∃ nm,nm = x.name:=⟨_,rfl⟩
    rw [<- hnm] at HC
    by_cases he:nm = H
    ·have hf:=Lib.hid (rfind_some hx.out ht.out (hnm.symm.trans he) hno.out)
     have d2:((nm:Int) == (H:Int)) = true:=by rw [beq_iff_eq]; omega
     have d3:decide ((nm:Int) = (H:Int)) = true:=decide_eq_true (by omega)
     replace he:=Lib.hid he
     replace hnm:=Lib.hid hnm
     go_wp2_with fail
     refine HC.out.mono ?_
     rintro e wz ⟨rfl,mz,hmz⟩
     obtain ⟨m0,hm0⟩:=hm.out
     have hfin:=Lib.hid (show ∃ m,w.drewN m = wz from ⟨m0 + mz,by rw [<- hmz, <- hm0]; simp [World.drewN,Nat.add_assoc]⟩)
     clear hmz hm0 HC
     go_wp2
     go_ret
     exact ⟨by rw [hf.out]; rfl,hfin.out⟩
    ·have hno':=Lib.hid (show ∀ j,j < i + 1 -> ∀ y:RC,r.ch[j]? = some y -> ¬ (y.tk = true /\ y.name = H) from fun j hj y hy hh => by
      rcases Nat.lt_or_ge j i with h1 | h1
      ·exact hno.out j h1 y hy hh
      ·obtain rfl:j = i:=by omega
       rw [hx.out] at hy
       injection hy with hy
       subst hy
       exact he (hnm.trans hh.2))
     have d2:((nm:Int) == (H:Int)) = false:=by rw [beq_eq_false_iff_ne]; omega
     have d3:decide ((nm:Int) = (H:Int)) = false:=decide_eq_false (by omega)
     replace he:=Lib.hid he
     replace hnm:=Lib.hid hnm
     go_wp2_with fail
     refine HC.out.mono ?_
     rintro e wz ⟨rfl,mz,hmz⟩
     obtain ⟨m0,hm0⟩:=hm.out
     have hfin:=Lib.hid (show ∃ m,w.drewN m = wz from ⟨m0 + mz,by rw [<- hmz, <- hm0]; simp [World.drewN,Nat.add_assoc]⟩)
     have R2:Hid (RSetAt wz M c r):=Lib.hid (by rw [<- hmz]; exact R.out.drewN mz)
     clear hmz hm0 HC c8 y3 R
     go_wp2
     go_roundw
     case rel => exact ⟨i + 1,rfl,by omega,R2,hfin,hno'⟩
     case measure => simp [intOf] <;> omega
  ·obtain rfl:i = r.ch.length:=by omega
   obtain ⟨A,cp,hv, -⟩:=R.out.chs
   rw [hv] at c8
   have d1:decide ((r.ch.length:Int) < (r.ch.length:Int)) = false:=by simp
   have hf:=Lib.hid (rfind_none (l:=r.ch) (H:=H) fun j y hy => hno.out j (List.getElem?_eq_some_iff.1 hy).1 y hy)
   have hm':=Lib.hid hm.out
   replace hv:=Lib.hid hv
   clear hil
   go_wp2
   go_ret
   exact ⟨by rw [hf.out]; rfl,hm'.out⟩
end Go.Proofs.YtfjiphibalhcgaaGreat.Cls
/-
  The document's queue: list, Where, Is.
-/
namespace Go.Proofs.YtfjiphibalhcgaaGreat.Que
open Go.RowKit Base Arena Cls Itm
section
variable (w:World) (R:R6) (mb n:Nat) (laid:List Nat) (lists:Nat -> List Nat) (h:R6At w R mb n laid lists) (hn:n <= 1048576) (hll:∀ i,i < n -> (lists i).length <= 1073741824) (H:Nat)
include h hn hll
end
theorem isC6 (w:World) (R:R6) (M:RL) (c:Conf) (r:RS) (n:Nat) (laid:List Nat) (lists:Nat -> List Nat) (h:R6At w R M.b n laid lists) (hr:RSetAt w M c r) (fi:RFine r) (hlen:r.ch.length <= 1073741824) (hla:laid.length <= 1073741824) (H:Nat) :
  Calls Tryz.prog 26 #[.pointer (some ⟨R.b,0,none⟩),.int .u64 (H:Int)] w fun e w' => e = .returned (.bool ((rfind r.ch H).isSome && decide (H ∈ laid))) /\ ∃ m,w.drewN m = w':=by
 have c0:=h.c0
 have FC:=rfindC w M c r hr fi hlen H
 cases hf:rfind r.ch H with
 | none =>
  rw [hf] at FC
  unfold findIV at FC
  replace FC:=Lib.hid FC
  clear h hr fi hf
  go_enter Tryz.func26,Tryz.ntmps26
  go_wp2_with fail
  refine FC.out.mono ?_
  rintro e w1 ⟨rfl,m1,hw1⟩
  go_wp2
  go_ret
  exact ⟨rfl,m1,hw1⟩
 | some j =>
  rw [hf] at FC
  unfold findIV at FC
  have LA:∀ m,R6At (w.drewN m) R M.b n laid lists:=fun m => h.kept fun _ _ => rfl
  have j0:decide ((0:Int) <= (j:Int)) = true:=decide_eq_true (by omega)
  have aC:∀ m,(w.drewN m).cell? ⟨R.b,1,none⟩ = some R.vL /\ Calls Tryz.prog 71 #[R.vL,.int .u64 (H:Int)] (w.drewN m) fun e w' => e = .returned (.int .i64 (atN laid H)) /\ w.drewN m = w':=by
   intro m
   obtain ⟨A,cp,hv⟩:=own_is (LA m).laidR
   have own:=(LA m).laidR
   have c1:=(LA m).c1
   rw [hv] at own ⊢
   exact ⟨c1.trans (by rw [hv]),atC6 (w.drewN m) 0 cp A laid own hla H⟩
  obtain ⟨A,cp,hv⟩:=own_is h.laidR
  rw [hv] at aC
  have d0:decide ((0:Int) <= atN laid H) = decide (H ∈ laid):=by
   unfold atN
   split
   ·rename_i hm
    rw [decide_eq_true hm,decide_eq_true (by omega)]
   ·rename_i hm
    rw [decide_eq_false hm]; rfl
  generalize atN laid H = z at *
  generalize decide (H ∈ laid) = D at *
  replace FC:=Lib.hid FC
  replace aC:=Lib.hid aC
  clear h hr fi hf LA hv
  generalize laid.length = ln at *
  go_enter Tryz.func26,Tryz.ntmps26
  go_wp2_with fail
  refine FC.out.mono ?_
  rintro e w1 ⟨rfl,m1,hw1⟩
  obtain ⟨c1,AC⟩:=aC.out m1
  rw [hw1] at c1 AC
  replace AC:=Lib.hid AC
  replace hw1:=Lib.hid hw1
  go_wp2_with fail
  refine AC.out.mono ?_
  rintro e w2 ⟨rfl,rfl⟩
  go_wp2
  go_ret
  exact ⟨rfl,m1,hw1.out⟩
theorem own_one (w:World) (N H:Nat) (hN:N <= w.heap.size):(w.alloc (.cells #[.int .u64 (H:Int)] 26)).ownsRow N 26 1 (.slice (some ⟨w.heap.size,0,none⟩) 1 1) 1 [uv H] :=
 ⟨rfl,.inr ⟨w.heap.size,1,#[uv H],rfl,hN,Blk.new w _ _,Nat.le_refl _,by unfold maxLen; decide,rfl,rfl⟩⟩
abbrev rows6 (Ls:Nat -> Nat -> List Nat):Nat -> List Nat:=fun i => Ls (i / 3) (i % 3)
section
variable (w:World) (R:R6) (M:RL) (c:Conf) (r:RS) (laid:List Nat) (Ls:Nat -> Nat -> List Nat) (h:R6At w R M.b (3 * c.nc) laid (rows6 Ls)) (hr:RSetAt w M c r) (hnc:c.nc <= 62) (hll:∀ x k,x < c.nc -> k < 3 -> (Ls x k).length <= 1073741824) (x kind:Int)
include h hr hnc hll
end
section
variable (w:World) (R:R6) (mb:Nat) (c:Conf) (laid:List Nat) (Ls:Nat -> Nat -> List Nat) (h:R6At w R mb (3 * c.nc) laid (rows6 Ls)) (hnc:c.nc <= 62) (hll:∀ x k,x < c.nc -> k < 3 -> (Ls x k).length <= 1073741824) (H:Nat)
include h hnc hll
end
end Go.Proofs.YtfjiphibalhcgaaGreat.Que
/-
  The walks of the document's At, Of and gen.
-/
namespace Go.Proofs.YtfjiphibalhcgaaGreat.Cls
open Go.RowKit Base
theorem rfind_at {l:List RC} {H j:Nat} (h:rfind l H = some j):∃ x,l[j]? = some x /\ x.tk = true /\ x.name = H:=by
 unfold rfind at h
 rw [List.findIdx?_eq_some_iff_getElem] at h
 obtain ⟨hl,h1, -⟩:=h
 simp only [Bool.and_eq_true,beq_iff_eq] at h1
 exact ⟨_,List.getElem?_eq_getElem hl,h1.1,h1.2⟩
def ratV (l:List RC):Option Nat -> Value
 | some j => match l[j]? with
  | some x => .tuple #[.int .i64 (x.place:Int),.int .i64 (x.cls:Int),.int .i64 0]
  | none => .tuple #[.int .i64 0,.int .i64 0,.int .i64 20]
 | none => .tuple #[.int .i64 0,.int .i64 0,.int .i64 20]
theorem ratC (w:World) (M:RL) (c:Conf) (r:RS) (h:RSetAt w M c r) (fi:RFine r) (hlen:r.ch.length <= 1073741824) (H:Nat):Calls Tryz.prog 59 #[.pointer (some ⟨M.b,0,none⟩),.int .u64 (H:Int)] w fun e w' => e = .returned (ratV r.ch (rfind r.ch H)) /\ ∃ m,w.drewN m = w':=by
 have FC:=rfindC w M c r h fi hlen H
 cases hf:rfind r.ch H with
 | none =>
  rw [hf] at FC
  unfold findIV at FC
  unfold ratV
  simp only at FC ⊢
  replace FC:=Lib.hid FC
  clear h hf
  go_enter Tryz.func59,Tryz.ntmps59
  go_wp2_with fail
  refine FC.out.mono ?_
  rintro e w2 ⟨rfl,m,hm⟩
  replace hm:=Lib.hid hm
  clear FC
  go_wp2
  go_ret3
  exact ⟨rfl,m,hm.out⟩
 | some j =>
  obtain ⟨x,hx, -, -⟩:=rfind_at hf
  rw [hf] at FC
  unfold findIV at FC
  simp only [ratV,hx]
  simp only at FC
  replace FC:=Lib.hid FC
  replace h:=Lib.hid h
  replace hx:=Lib.hid hx
  clear hf
  go_enter Tryz.func59,Tryz.ntmps59
  go_wp2_with fail
  refine FC.out.mono ?_
  rintro e w2 ⟨rfl,m,hm⟩
  have h2:RSetAt w2 M c r:=by rw [<- hm]; exact h.out.drewN m
  have c8:=h2.cCh
  obtain ⟨g,cp,hv,y0,y1, -, -, -, -,hjl⟩:=h2.chAt hx.out
  rw [hv] at c8
  have k0:(0:Int) <= (j:Int):=by omega
  have k1:(j:Int) < (r.ch.length:Int):=by omega
  have d1:decide ((j:Int) < 0) = false:=decide_eq_false (by omega)
  replace hm:=Lib.hid hm
  replace hv:=Lib.hid hv
  clear FC h2
  go_wp2_with fail
  go_quiet (fail)
  rename Nat => nq
  go_wp2
  go_ret3
  exact ⟨rfl,m + nq,by rw [<- hm.out]; simp [World.drewN,Nat.add_assoc]⟩
set_option maxHeartbeats 1600000 in
theorem rgenC (w:World) (M:RL) (c:Conf) (r:RS) (h:RSetAt w M c r) (hlen:r.ch.length <= 1073741824) (p:Nat):Calls Tryz.prog 130 #[.pointer (some ⟨M.b,0,none⟩),.int .i64 (p:Int)] w fun e w' => e = .returned (.int .u64 (rgen r.ch p:Int)) /\ w = w':=by
 have c8:=h.cCh
 obtain ⟨A,cp,hv, -⟩:=h.chs
 rw [hv] at c8
 have q0:IntKind.i64.wrap ((r.ch.length:Int) - 1) = (r.ch.length:Int) - 1:=IntWalk.i64_in _ (by omega)
 replace hv:=Lib.hid hv
 replace h:=Lib.hid h
 go_enter Tryz.func130,Tryz.ntmps130
 go_wp2
 clear c8
 go_loopw [5] (fun v wr => ∃ k:Nat,v = .int .i64 ((k:Int) - 1) /\ k <= r.ch.length /\ w = wr /\ Hid (∀ j,k <= j -> ∀ y:RC,r.ch[j]? = some y -> y.place ≠ p)) (fun v _ => (intOf v + 1).toNat)
 case atStart => exact ⟨r.ch.length,rfl,Nat.le_refl _,rfl,Lib.hid (fun j hj y hy => by have:=(List.getElem?_eq_some_iff.1 hy).1; omega)⟩
 case round =>
  obtain ⟨k,rfl,hk,rfl,hno⟩:=hrel
  cases k with
  | zero =>
   have d1:decide ((0:Int) <= ((0:Nat):Int) - 1) = false:=by decide
   have hf:=Lib.hid (rgen_none (l:=r.ch) (p:=p) fun x hx => by
    obtain ⟨j,hj,rfl⟩:=List.getElem_of_mem hx
    exact hno.out j (Nat.zero_le _) _ (List.getElem?_eq_getElem hj))
   go_wp2
   go_ret
   exact ⟨by rw [hf.out]; rfl,rfl⟩
  | succ k =>
   have e1:((k + 1:Nat):Int) - 1 = (k:Int):=by omega
   rw [e1]
   have hx:r.ch[k]? = some r.ch[k]:=List.getElem?_eq_getElem (by omega)
   generalize r.ch[k] = x at *
   have c8:=h.out.cCh
   obtain ⟨g,cp2,hv2,y0, -,y2, -, -, -, -⟩:=h.out.chAt hx
   rw [hv2] at c8
   have k0:(0:Int) <= (k:Int):=by omega
   have k1:(k:Int) < (r.ch.length:Int):=by omega
   have d1:decide ((0:Int) <= (k:Int)) = true:=decide_eq_true (by omega)
   have qi:IntKind.i64.wrap ((k:Int) - 1) = (k:Int) - 1:=IntWalk.i64_in _ (by omega)
   replace hv2:=Lib.hid hv2
   by_cases hp:x.place = p
   ·have hf:=Lib.hid (show rgen r.ch p = x.gen by rw [<- hp]; exact rgen_last hx fun j hj y hy => by rw [hp]; exact hno.out j (by omega) y hy)
    have d2:((x.place:Int) == (p:Int)) = true:=by rw [beq_iff_eq]; omega
    have d3:decide ((x.place:Int) = (p:Int)) = true:=decide_eq_true (by omega)
    generalize (x.place:Int) = pp at *
    replace hx:=Lib.hid hx
    replace hp:=Lib.hid hp
    go_wp2
    go_ret
    exact ⟨by rw [hf.out]; rfl,rfl⟩
   ·have hno':=Lib.hid (show ∀ j,k <= j -> ∀ y:RC,r.ch[j]? = some y -> y.place ≠ p from fun j hj y hy => by
     rcases Nat.lt_or_ge k j with h1 | h1
     ·exact hno.out j (by omega) y hy
     ·obtain rfl:j = k:=by omega
      rw [hx] at hy
      injection hy with hy
      subst hy
      exact hp)
    have d2:((x.place:Int) == (p:Int)) = false:=by rw [beq_eq_false_iff_ne]; omega
    have d3:decide ((x.place:Int) = (p:Int)) = false:=decide_eq_false (by omega)
    generalize (x.place:Int) = pp at *
    replace hx:=Lib.hid hx
    clear hno hp
    go_wp2
    go_roundw
    case rel => exact ⟨k,rfl,by omega,trivial,hno'⟩
    case measure => simp [intOf] <;> omega
end Go.Proofs.YtfjiphibalhcgaaGreat.Cls
/-
  The document's queue: put.
-/
namespace Go.Proofs.YtfjiphibalhcgaaGreat.Que
open Go.RowKit Base Arena Cls Itm
structure Reg6 (w:World) (R:R6) (mb n:Nat) (laid:List Nat) (lists:Nat -> List Nat) (j K cp:Nat) (A:Option Addr):Prop where
 at_:R6At w R mb n laid lists
 hj:j < n
 len:(lists j).length = K
 cl:w.cell? ⟨R.gL,j,none⟩ = some (.slice A K cp)
 own:w.ownsRow 0 26 1 (.slice A K cp) K ((lists j).map uv)
section
variable (w:World) (R:R6) (M:RL) (c:Conf) (r:RS) (laid:List Nat) (Ls:Nat -> Nat -> List Nat) (h:R6At w R M.b (3 * c.nc) laid (rows6 Ls)) (hr:RSetAt w M c r) (fi:RFine r) (hlen:r.ch.length <= 1073741824) (hnc:c.nc <= 62) (hll:∀ x k,x < c.nc -> k < 3 -> (Ls x k).length <= 1073741823) (H i:Nat) (x:RC) (hf:rfind r.ch H = some i) (hx:r.ch[i]? = some x) (hxc:x.cls < c.nc) (k:Nat) (hk:k < 3)
include h hr fi hlen hnc hll hf hx hxc hk
end
section
variable (w:World) (R:R6) (mb:Nat) (c:Conf) (laid:List Nat) (Ls:Nat -> Nat -> List Nat) (h:R6At w R mb (3 * c.nc) laid (rows6 Ls)) (hnc:c.nc <= 62) (hll:∀ x k,x < c.nc -> k < 3 -> (Ls x k).length <= 1073741823) (H:Nat)
include h hnc hll
end
structure D6 (w:World) (R:R6) (M:RL) (c:Conf) (s:St) (Z:Nat -> Option Zd) (Ls:Nat -> Nat -> List Nat) (r:RS) (laid:List Nat):Prop where
 doc:R6At w R M.b (3 * c.nc) laid (rows6 Ls)
 ref:RSetAt w M c r
 rel:Rel c.cf s r
 ok:c.cf.Ok
 good:Cls.Good c.cf s
 q:∃ F,QI c s Z F Ls
 agr:∀ H i x p,findN c.cf s H = some (i,x,p) -> ((Z H).isSome = true ↔ H ∈ laid)
 ch:r.ch.length <= 1073741824
 la:laid.length <= 1073741824
 sep:∀ b,RFoot M c b -> ¬ F6 R (3 * c.nc) b
section
variable {w:World} {R:R6} {M:RL} {c:Conf} {s:St} {Z:Nat -> Option Zd} {Ls:Nat -> Nat -> List Nat} {r:RS} {laid:List Nat} (h:D6 w R M c s Z Ls r laid)
include h
end
section
variable {w:World} {R:R6} {M:RL} {c:Conf} {s:St} {Z:Nat -> Option Zd} {Ls:Nat -> Nat -> List Nat} {r:RS} {laid:List Nat} (h:D6 w R M c s Z Ls r laid)
include h
end
section
variable {w:World} {R:R6} {M:RL} {c:Conf} {s:St} {Z:Nat -> Option Zd} {Ls:Nat -> Nat -> List Nat} {r:RS} {laid:List Nat} (h:D6 w R M c s Z Ls r laid)
include h
end
theorem results_cells2 {P:Program} {fn:Func} {p q:Tmp} {ty ty':TypeId} (h:fn.results = #[.cell p ty,.cell q ty']) (tmps:Array Value) (w:World) (g g':Nat) (t t':TypeId) (cs cs':Array Value) (fr fr':Nat × Nat) (d d':TypeDesc)
  (hp:tmps.getD p undef = .pointer (some ⟨g,0,none⟩)) (hq:tmps.getD q undef = .pointer (some ⟨g',0,none⟩)) (hg:w.heap[g]? = some (.cells cs t fr)) (hg':w.heap[g']? = some (.cells cs' t' fr'))
  (hu:P.underlying ty = some d) (hd:(match d with | .struct _ | .array _ _ => true | _ => false) = true) (hi:(P.info? ty).map (·.size) = some cs.size)
  (hu':P.underlying ty' = some d') (hd':(match d' with | .struct _ | .array _ _ => true | _ => false) = true) (hi':(P.info? ty').map (·.size) = some cs'.size) :
  (results fn tmps).run P w = .ok (.tuple #[.agg cs,.agg cs']) w:=by
 have hp':tmps[p]?.getD undef = .pointer (some ⟨g,0,none⟩):=by simpa using hp
 have hq':tmps[q]?.getD undef = .pointer (some ⟨g',0,none⟩):=by simpa using hq
 simp [results,h,hp',hq',asAddr,run_loadVar_row w g t ty cs fr d hg hu hd hi,run_loadVar_row w g' t' ty' cs' fr' d' hg' hu' hd' hi']
def qc:Conf:=⟨4096,4,200,64,256,0,0⟩
theorem qc_ref:refN qc = 0:=by kernel_rfl
theorem qc_nc:qc.nc = 3:=by kernel_rfl
theorem qc_np:qc.cf.np = 4:=by kernel_rfl
theorem numC6 (w:World) (n:Int):Calls Tryz.prog 14 #[.int .i64 n] w fun e w' => e = .returned (.int .i64 n) /\ w = w':=by
 go_enter Tryz.func14,Tryz.ntmps14
 go_wp2
 go_ret
 exact ⟨rfl,rfl⟩
theorem setupC (w:World):Calls Tryz.prog 43 #[] w fun e w' => e = .returned (.tuple #[.agg qc.cells,.agg qc.rcells]) /\ Below w.heap.size w w':=by
 obtain ⟨w1,hw1⟩:∃ w1,w1 = (w.alloc (.cells #[.int .i64 0,.int .i64 0,.int .i64 0,.int .i64 0,.int .i64 0,.int .i64 0,.int .i64 0] 79)).alloc (.cells #[.int .i64 0,.int .i64 0,.int .i64 0,.int .i64 0,.int .i64 0] 81):=⟨_,rfl⟩
 have B1:Blk w1 w.heap.size 79 #[.int .i64 0,.int .i64 0,.int .i64 0,.int .i64 0,.int .i64 0,.int .i64 0,.int .i64 0]:=by rw [hw1]; exact (Blk.new w _ _).alloc _
 have C1:Blk w1 (w.heap.size + 1) 81 #[.int .i64 0,.int .i64 0,.int .i64 0,.int .i64 0,.int .i64 0]:=by rw [hw1]; exact blk_new' (World.size_alloc _ _)
 have b1:Below w.heap.size w w1:=by rw [hw1]; exact ((Below.refl _ _).alloc (Nat.le_refl _) _).alloc (by rw [World.size_alloc]; omega) _
 replace hw1:=Lib.hid hw1
 generalize hN:w.heap.size = N at *
 replace hN:=Lib.hid hN
 generalize hN1:N + 1 = N1 at *
 have hne:N ≠ N1:=by omega
 have hle:N <= N1:=by omega
 go_enter Tryz.func43,Tryz.ntmps43
 go_upto_region 1 with fail
 rw [hN.out,hN1, <- hw1.out]
 iterate 8 (first | go_values | go_skip | go_guarded | go_step | go_upon | go_in)
 refine wp_store_whole (P:=Tryz.prog) 79 (.tmp 0) (.tmp 2) rfl N _ _ rfl rfl B1 (by kernel_rfl) rfl (by kernel_rfl) ?_
 intro w2 B2 o2 z2
 have C2:Blk w2 N1 81 _:=o2.at_ C1 (by omega)
 have b2:Below N w w2:=b1.trans (o2.toBelow (B:=N) fun k hk => ⟨by have:=B1.lt; omega,by omega⟩)
 replace b2:=Lib.hid b2
 replace B2:=Lib.hid B2
 clear o2 z2 B1 C1 b1 hw1
 iterate 2 (first | go_values | go_skip | go_guarded | go_step | go_upon | go_in)
 refine wp_store_whole (P:=Tryz.prog) 81 (.tmp 1) (.tmp 3) rfl N1 _ _ rfl rfl C2 (by kernel_rfl) rfl (by kernel_rfl) ?_
 intro w3 C3 o3 z3
 have B3:Blk w3 N 79 _:=o3.at_ B2.out (by omega)
 have b3:Below N w w3:=b2.out.trans (o3.toBelow (B:=N) fun k hk => ⟨by have:=B2.out.lt; omega,by omega⟩)
 replace b3:=Lib.hid b3
 replace B3:=Lib.hid B3
 replace C3:=Lib.hid C3
 clear o3 z3 B2 C2 b2
 go_wp2_with fail
 exact bodyPost_ret (results_cells2 (P:=Tryz.prog) rfl _ _ N N1 79 81 _ _ (0,0) (0,0) _ _ rfl rfl B3.out C3.out Tryz.underlying79 rfl (by kernel_rfl) Tryz.underlying81 rfl (by kernel_rfl)) rfl ⟨rfl,b3.out⟩
end Go.Proofs.YtfjiphibalhcgaaGreat.Que
/-
  The document's Set in memory: what one store makes of it.
-/
namespace Go.Proofs.YtfjiphibalhcgaaGreat.Cls
open Go.RowKit Base
theorem eiCh:EI Tryz.prog 151 168 (.agg #[.int .i64 0,.int .i64 0,.int .u64 0,.bool false,.bool false]) 5 32:=EI.mk' Tryz.underlying151 (by kernel_rfl) rfl (by decide)
section
variable {w w1:World} {M:RL} {c:Conf} {r:RS}
theorem RSetAt.setOwn (h:RSetAt w M c r) (i:Nat) (o:Option Nat) (hi:i < c.cf.np):RSetAt (w.setCell ⟨M.go,i,none⟩ (ownV o)) M c { r with own:=upd r.own i o }:=by
 refine h.turn .own (only_cell w M.go _ _) (fun b e _ => by subst e; rfl) ((h.ownB.set1 i hi _).congr fun a b _ hb => ?_) (by intro q hq hp; cases q <;> first | exact hp | exact absurd rfl hq) (by intro q hq b e; cases q <;> first | exact e | exact absurd rfl hq) (fun b e => .inl e) ⟨rfl,rfl,rfl,rfl⟩
 unfold put2 upd
 by_cases he:a = i
 ·rw [if_pos ⟨he,by omega⟩]; simp [he]
 ·rw [if_neg (fun e => he e.1)]; simp [he]
theorem RSetAt.setCh (h:RSetAt w M c r) {j:Nat} {x:RC} (hx:r.ch[j]? = some x) (f:RC -> RC) (i:Nat) (hi:i < 5) (v:Value) (hf:(f x).cells = x.cells.set i v) {g cp:Nat} (hv:M.vC = .slice (some ⟨g,0,none⟩) r.ch.length cp) :
  RSetAt (w.setCell ⟨g,j * 5 + i,none⟩ v) M c { r with ch:=r.ch.modify j f }:=by
 have hjl:=(List.getElem?_eq_some_iff.1 hx).1
 refine h.turn .ch (only_cell w g _ _) (fun b e _ => by subst e; show M.vC.ownBlock = _; rw [hv]; rfl) ?_ (by intro q hq hp; cases q <;> first | exact hp | exact absurd rfl hq) (by intro q hq b e; cases q <;> first | exact e | exact absurd rfl hq) (fun b e => .inl e) ⟨rfl,rfl,rfl,rfl⟩
 show World.ownsRow _ 0 _ 5 M.vC (r.ch.modify j f).length (chV (r.ch.modify j f))
 have:=h.chB
 rw [hv] at this ⊢
 rw [List.length_modify,modify_set hx,chV_set hx i hi v hf]
 exact own_put this _ (by omega) v
theorem RSetAt.newCh (h:RSetAt w M c r) {S:Nat -> Prop} (v:Value) (l:List RC) (o:Only S w w1) (hS:∀ b,S b -> b < w.heap.size -> M.vC.ownBlock = some b)
  (hv:w1.ownsRow 0 168 5 v l.length (chV l)) (hb:∀ b,v.ownBlock = some b -> M.vC.ownBlock = some b \/ w.heap.size <= b) :
  RSetAt (w1.setCell ⟨M.b,8,none⟩ v) { M with vC:=v } c { r with ch:=l }:=by
 have hrl:M.b < w.heap.size:=h.headB.lt
 have hFr:∀ b,M.vC.ownBlock = some b -> b ≠ M.b:=by
  intro b e he
  have:=h.inj .ch .head b e (by rw [he]; rfl)
  cases this
 have hr1:=o.at_ h.headB (fun e => hFr _ (hS _ e hrl) rfl)
 have hvb:∀ b,v.ownBlock = some b -> b ≠ M.b:=by
  intro b e he
  rcases hb b e with h1 | h1
  ·exact hFr b h1 he
  ·omega
 have hset:Blk (w1.setCell ⟨M.b,8,none⟩ v) M.b _ _:=Blk.set_ hr1 8 v
 have hv2:(w1.setCell ⟨M.b,8,none⟩ v).ownsRow 0 168 5 v l.length (chV l):=own_keptN hv fun b e => Below.heap_setCell w1 _ v b (hvb b e)
 refine h.turns (fun p => p = .head \/ p = .ch) (S:=fun b => S b \/ b = M.b) ((o.mono fun x _ hx => .inl hx).setCell (fun _ => .inr rfl) v) ?_ ?_ ?_ ?_ ?_ ⟨rfl,rfl,rfl,rfl⟩
 ·rintro b (h1 | h1) hlt
  ·exact ⟨.ch,.inr rfl,hS b h1 hlt⟩
  ·subst h1; exact ⟨.head,.inl rfl,rfl⟩
 ·rintro p (rfl | rfl)
  ·exact hset
  ·exact hv2
 ·intro q hq hp
  cases q with
  | head => exact absurd (.inl rfl) hq
  | ch => exact absurd (.inr rfl) hq
  | _ => exact hp
 ·intro q hq b e
  cases q with
  | head => exact absurd (.inl rfl) hq
  | ch => exact absurd (.inr rfl) hq
  | _ => exact e
 ·rintro p b (rfl | rfl) e
  ·exact .inl e
  ·rcases hb b e with h1 | h1
   ·exact .inl h1
   ·refine .inr ⟨h1,?_⟩
    rintro q (rfl | rfl) e2
    ·injection e2 with e2
     have:M.b = b:=e2
     omega
    ·rfl
theorem RSetAt.newRow (h:RSetAt w M c r) {S:Nat -> Prop} (k:Nat) (hk:k < c.nc) (v:Value) (l:List Nat) (o:Only S w w1) (hS:∀ b,S b -> b < w.heap.size -> (M.F k).ownBlock = some b)
  (hv:w1.ownsRow 0 3 1 v l.length (l.map iv)) (hb:∀ b,v.ownBlock = some b -> (M.F k).ownBlock = some b \/ w.heap.size <= b) :
  RSetAt (w1.setCell ⟨M.gr,k,none⟩ v) { M with F:=upd M.F k v } c { r with rows:=upd r.rows k l }:=by
 have hrl:M.gr < w.heap.size:=h.rowsB.lt
 have hFr:∀ b,(M.F k).ownBlock = some b -> b ≠ M.gr:=by
  intro b e he
  have:=h.inj (.row k) .rows b ((if_pos hk).trans e) (by rw [he]; rfl)
  cases this
 have hr1:Grid w1 M.gr 55 c.nc 1 (fun k _ => M.F k):=h.rowsB.only o fun e => hFr _ (hS _ e hrl) rfl
 have hvb:∀ b,v.ownBlock = some b -> b ≠ M.gr:=by
  intro b e he
  rcases hb b e with h1 | h1
  ·exact hFr b h1 he
  ·omega
 have hset:=hr1.set1 k hk v
 have hv2:(w1.setCell ⟨M.gr,k,none⟩ v).ownsRow 0 3 1 v l.length (l.map iv):=own_kept hv fun b e => Below.heap_setCell w1 _ v b (hvb b e)
 refine h.turns (fun p => p = .rows \/ p = .row k) (S:=fun b => S b \/ b = M.gr) ((o.mono fun x _ hx => .inl hx).setCell (fun _ => .inr rfl) v) ?_ ?_ ?_ ?_ ?_ ⟨rfl,rfl,rfl,rfl⟩
 ·rintro b (h1 | h1) hlt
  ·exact ⟨.row k,.inr rfl,(if_pos hk).trans (hS b h1 hlt)⟩
  ·subst h1; exact ⟨.rows,.inl rfl,rfl⟩
 ·rintro p (rfl | rfl)
  ·refine hset.congr fun a b _ hb4 => ?_
   unfold put2
   by_cases he:a = k
   ·subst he
    rw [if_pos ⟨rfl,by omega⟩]
    exact (upd_at M.F a v).symm
   ·rw [if_neg (fun e => he e.1)]
    exact (upd_ne M.F v he).symm
  ·intro _
   show World.ownsRow _ 0 _ 1 (upd M.F k v k) (upd r.rows k l k).length ((upd r.rows k l k).map iv)
   rw [upd_at,upd_at]
   exact hv2
 ·intro q hq hp
  cases q with
  | row j =>
   have hj:j ≠ k:=fun e => hq (.inr (by rw [e]))
   intro hh
   show World.ownsRow _ 0 _ 1 (upd M.F k v j) (upd r.rows k l j).length ((upd r.rows k l j).map iv)
   rw [upd_ne _ _ hj,upd_ne _ _ hj]
   exact hp hh
  | rows => exact absurd (.inl rfl) hq
  | _ => exact hp
 ·intro q hq b e
  cases q with
  | row j =>
   have hj:j ≠ k:=fun e => hq (.inr (by rw [e]))
   by_cases hjn:j < c.nc
   ·rw [RL.blk,if_pos hjn] at e ⊢
    have e2:(upd M.F k v j).ownBlock = some b:=e
    rwa [upd_ne _ _ hj] at e2
   ·rw [RL.blk,if_neg hjn] at e; cases e
  | rows => exact absurd (.inl rfl) hq
  | _ => exact e
 ·rintro p b (rfl | rfl) e
  ·exact .inl e
  ·rw [RL.blk,if_pos hk] at e
   have e2:(upd M.F k v k).ownBlock = some b:=e
   rw [upd_at] at e2
   rcases hb b e2 with h1 | h1
   ·exact .inl ((if_pos hk).trans h1)
   ·refine .inr ⟨h1,?_⟩
    rintro q (rfl | rfl) e3
    ·injection e3 with e3
     have:M.gr = b:=e3
     omega
    ·rfl
end
structure RWent (w w':World) (M M':RL) (c:Conf):Prop where
 only:Only (RFoot M c) w w'
 foot:∀ b,RFoot M' c b -> RFoot M c b \/ w.heap.size <= b
 b:M'.b = M.b
theorem RWent.refl (w:World) (M:RL) (c:Conf):RWent w w M M c:=⟨Only.refl _ _,fun _ h => .inl h,rfl⟩
theorem RWent.trans {w w1 w2:World} {M M1 M2:RL} {c:Conf} (h:RWent w w1 M M1 c) (k:RWent w1 w2 M1 M2 c):RWent w w2 M M2 c :=
 ⟨h.only.trans k.only fun x hx hf => (h.foot x hf).resolve_right (by omega),fun b hb => (k.foot b hb).elim (h.foot b) fun hb => .inr (Nat.le_trans h.only.size hb),k.b.trans h.b⟩
theorem RWent.drewN {w w1:World} {M M1:RL} {c:Conf} (h:RWent w w1 M M1 c) (n:Nat):RWent w (w1.drewN n) M M1 c :=
 ⟨⟨h.only.os,h.only.tape,h.only.output,h.only.size,h.only.block⟩,h.foot,h.b⟩
theorem RWent.below {w w':World} {M M':RL} {c:Conf} (h:RWent w w' M M' c) {N:Nat} (F:∀ b,RFoot M c b -> N <= b) (hN:N <= w.heap.size):Below N w w' /\ (∀ b,RFoot M' c b -> N <= b) /\ N <= w'.heap.size :=
 ⟨⟨h.only.os,h.only.tape,h.only.output,h.only.size,fun k hk => h.only.block k (by omega) fun hf => by have:=F k hf; omega⟩,fun b hf => (h.foot b hf).elim (F b) fun h1 => by omega,Nat.le_trans hN h.only.size⟩
theorem RWent.same {w w':World} {M:RL} {c:Conf} (o:Only (RFoot M c) w w'):RWent w w' M M c:=⟨o,fun _ h => .inl h,rfl⟩
theorem RSetAt.wentCh {w w1:World} {M:RL} {c:Conf} {r:RS} (h:RSetAt w M c r) {S:Nat -> Prop} (v:Value) (o:Only S w w1) (hS:∀ b,S b -> b < w.heap.size -> M.vC.ownBlock = some b)
  (hb:∀ b,v.ownBlock = some b -> M.vC.ownBlock = some b \/ w.heap.size <= b):RWent w (w1.setCell ⟨M.b,8,none⟩ v) M { M with vC:=v } c:=by
 refine ⟨(o.mono fun x hx hs => ⟨.ch,hS x hs hx⟩).setCell (fun _ => ⟨.head,rfl⟩) v,fun b ⟨p,hp⟩ => ?_,rfl⟩
 cases p with
 | ch => exact (hb b hp).imp (fun h1 => ⟨.ch,h1⟩) id
 | head => exact .inl ⟨.head,hp⟩
 | sizes => exact .inl ⟨.sizes,hp⟩
 | own => exact .inl ⟨.own,hp⟩
 | lvs => exact .inl ⟨.lvs,hp⟩
 | rows => exact .inl ⟨.rows,hp⟩
 | row k => exact .inl ⟨.row k,hp⟩
theorem RSetAt.wentRow {w w1:World} {M:RL} {c:Conf} {r:RS} (h:RSetAt w M c r) {S:Nat -> Prop} (k:Nat) (hk:k < c.nc) (v:Value) (o:Only S w w1) (hS:∀ b,S b -> b < w.heap.size -> (M.F k).ownBlock = some b)
  (hb:∀ b,v.ownBlock = some b -> (M.F k).ownBlock = some b \/ w.heap.size <= b):RWent w (w1.setCell ⟨M.gr,k,none⟩ v) M { M with F:=upd M.F k v } c:=by
 refine ⟨(o.mono fun x hx hs => ⟨.row k,(if_pos hk).trans (hS x hs hx)⟩).setCell (fun _ => ⟨.rows,rfl⟩) v,fun b ⟨p,hp⟩ => ?_,rfl⟩
 cases p with
 | row j =>
  by_cases hjn:j < c.nc
  ·rw [RL.blk,if_pos hjn] at hp
   have hp':(upd M.F k v j).ownBlock = some b:=hp
   by_cases e:j = k
   ·subst e
    rw [upd_at] at hp'
    exact (hb b hp').imp (fun h1 => ⟨.row j,(if_pos hjn).trans h1⟩) id
   ·rw [upd_ne _ _ e] at hp'
    exact .inl ⟨.row j,(if_pos hjn).trans hp'⟩
  ·rw [RL.blk,if_neg hjn] at hp; cases hp
 | ch => exact .inl ⟨.ch,hp⟩
 | head => exact .inl ⟨.head,hp⟩
 | sizes => exact .inl ⟨.sizes,hp⟩
 | own => exact .inl ⟨.own,hp⟩
 | lvs => exact .inl ⟨.lvs,hp⟩
 | rows => exact .inl ⟨.rows,hp⟩
theorem reads_cells (w:World) (l:List Value) (e:TypeId) (hl:l.length = 5):Reads (w.alloc (.cells l.toArray e)) (w.heap.size + 1) 5 (some ⟨w.heap.size,0,none⟩) 1 l :=
 ⟨by omega,fun _ => ⟨_,rfl,Nat.lt_succ_self _,fun j u hj => by
  rw [add_explicit,Nat.zero_add,cell_of_row (w.alloc _) w.heap.size j _ e (0,0) (heap_alloc_new w _)]
  simpa using hj⟩⟩
end Go.Proofs.YtfjiphibalhcgaaGreat.Cls
