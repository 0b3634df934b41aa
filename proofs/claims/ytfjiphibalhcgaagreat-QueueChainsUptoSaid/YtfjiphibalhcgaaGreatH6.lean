/-
  Contracts and lemmas, joined: QueueDrop, QueueRel, QueueAll, QueueNext, ItemTell, RegRel, ItemRead, ItemSame, ItemBegun, ItemBegun2, ClassTake2, ItemWakes, ItemTwo, Ref2Plain, Ref2Rel.
-/
import Derived.StillTail
import Derived.Deep.Quiet
import Derived.Deep.Draws
import Derived.Handy
import Derived.Deep.WholeRow
import Derived.Test.YtfjiphibalhcgaaGreatH3
import Derived.Test.YtfjiphibalhcgaaGreatH4
import Derived.Test.YtfjiphibalhcgaaGreatH5
set_option linter.unusedSimpArgs false
set_option linter.unusedVariables false
set_option linter.unusedSectionVars false
set_option maxRecDepth 100000
/-
  The walks of the queue's Push, Last, Drop, next: what they do to the cells and the headers.
-/
namespace Go.Proofs.YtfjiphibalhcgaaGreat.Que
open Go.RowKit Base Arena Cls Itm
def dF (F:QN) (x k a b:Nat):QN:=(jF F x k a b).setN x k (F.n x k - 1)
section
variable {w:World} {L:Lay} {c:Conf} {s:St} {bs:List UInt8} {Z:Nat -> Option Zd} {gq gl:Nat} {F:QN} (h:QS w L c s bs Z gq gl F)
include h
theorem zLinksC (H:Nat) (hi:It c s Z H) (z:Zd) (hz:Z H = some z) :
  (Calls Tryz.prog 65 #[.pointer (some ⟨L.g,0,none⟩),.int .u64 (H:Int),.int .i64 1] w fun e w' => e = .returned (.tuple #[.int .u64 (z.a:Int),.int .i64 0]) /\ Below w.heap.size w w') /\
  (Calls Tryz.prog 65 #[.pointer (some ⟨L.g,0,none⟩),.int .u64 (H:Int),.int .i64 2] w fun e w' => e = .returned (.tuple #[.int .u64 (z.b:Int),.int .i64 0]) /\ Below w.heap.size w w'):=by
 obtain ⟨⟨i,x,p,hf⟩, -⟩:=hi
 exact zLinkYes h.zs (good_lt h.okc h.zs.good hf) hf z hz
theorem pushRef (R:Nat) (r0:R ≠ 0) (H:Nat) (k:Int) (FC:Calls Tryz.prog 62 #[.pointer (some ⟨gq,0,none⟩),.int .u64 (H:Int),.int .i64 k] w fun e w' => e = .returned (.tuple #[.pointer none,.int .i64 (R:Int)]) /\ Below w.heap.size w w') :
  (Calls Tryz.prog 22 #[.pointer (some ⟨gq,0,none⟩),.int .u64 (H:Int),.int .i64 k] w fun e w' => e = .returned (.int .i64 (R:Int)) /\ Below w.heap.size w w') /\
  (Calls Tryz.prog 23 #[.pointer (some ⟨gq,0,none⟩),.int .u64 (H:Int),.int .i64 k] w fun e w' => e = .returned (.int .i64 (R:Int)) /\ Below w.heap.size w w'):=by
 obtain ⟨d1,d2⟩:=ne0 r0
 replace FC:=Lib.hid FC
 clear h r0
 constructor
 ·go_enter Tryz.func22,Tryz.ntmps22
  go_wp2_with fail
  refine FC.out.mono ?_
  rintro e w1 ⟨rfl,b1⟩
  replace b1:=Lib.hid b1
  go_wp2
  go_ret
  exact ⟨rfl,b1.out⟩
 ·go_enter Tryz.func23,Tryz.ntmps23
  go_wp2_with fail
  refine FC.out.mono ?_
  rintro e w1 ⟨rfl,b1⟩
  replace b1:=Lib.hid b1
  go_wp2
  go_ret
  exact ⟨rfl,b1.out⟩
theorem pushYes (H:Nat) (k:Nat) (hk:k < 3) (hi:It c s Z H) {i x p:Nat} (hf:findN c.cf s H = some (i,x,p)) (hz:zst (Z H) = 0 \/ 4 <= zst (Z H)) (hn:F.n (s.cls i) k < 1073741824) (ha:F.hd (s.cls i) k = 0 \/ It c s Z (F.hd (s.cls i) k)) :
  Calls Tryz.prog 22 #[.pointer (some ⟨gq,0,none⟩),.int .u64 (H:Int),.int .i64 ((k:Int) + 1)] w fun e w' => e = .returned (.int .i64 0) /\ ∃ w1,Below w.heap.size w w1 /\ Only (Two L gl) w1 w' /\ ∃ bs',Ed (Itp c s Z) bs bs' /\ QS w' L c s bs' (layZ Z H (k + 1) 0 (F.hd (s.cls i) k)) gq gl (lF F (s.cls i) k H 0 (F.hd (s.cls i) k)):=by
 have FC:=Lib.hid (freeYes h H k hk hi hf hz)
 have kN:s.cls i < c.nc:=(Tkn.of h.okc h.zs.good hf).1.kN
 replace h:=Lib.hid h
 replace hi:=Lib.hid hi
 replace hf:=Lib.hid hf
 replace hn:=Lib.hid hn
 replace ha:=Lib.hid ha
 replace kN:=Lib.hid kN
 clear hz
 go_enter Tryz.func22,Tryz.ntmps22
 go_wp2_with fail
 refine FC.out.mono ?_
 rintro e w1 ⟨rfl,b1⟩
 have S:=h.out.below b1
 have LC:=Lib.hid (layC S kN.out hk H 0 (F.hd (s.cls i) k) hi.out (.inl rfl) ha.out hn.out)
 have p1:=S.q.qhd kN.out hk
 replace b1:=Lib.hid b1
 clear FC S
 go_wp2_with fail
 refine LC.out.mono ?_
 rintro e w2 ⟨rfl,o2,bs2,E2,S2⟩
 replace o2:=Lib.hid o2
 replace E2:=Lib.hid E2
 replace S2:=Lib.hid S2
 go_wp2
 go_ret
 exact ⟨rfl,w1,b1.out,o2.out,bs2,E2.out,S2.out⟩
theorem lastYes (H:Nat) (k:Nat) (hk:k < 3) (hi:It c s Z H) {i x p:Nat} (hf:findN c.cf s H = some (i,x,p)) (hz:zst (Z H) = 0 \/ 4 <= zst (Z H)) (hn:F.n (s.cls i) k < 1073741824) (ha:F.tl (s.cls i) k = 0 \/ It c s Z (F.tl (s.cls i) k)) :
  Calls Tryz.prog 23 #[.pointer (some ⟨gq,0,none⟩),.int .u64 (H:Int),.int .i64 ((k:Int) + 1)] w fun e w' => e = .returned (.int .i64 0) /\ ∃ w1,Below w.heap.size w w1 /\ Only (Two L gl) w1 w' /\ ∃ bs',Ed (Itp c s Z) bs bs' /\ QS w' L c s bs' (layZ Z H (k + 1) (F.tl (s.cls i) k) 0) gq gl (lF F (s.cls i) k H (F.tl (s.cls i) k) 0):=by
 have FC:=Lib.hid (freeYes h H k hk hi hf hz)
 have kN:s.cls i < c.nc:=(Tkn.of h.okc h.zs.good hf).1.kN
 replace h:=Lib.hid h
 replace hi:=Lib.hid hi
 replace hf:=Lib.hid hf
 replace hn:=Lib.hid hn
 replace ha:=Lib.hid ha
 replace kN:=Lib.hid kN
 clear hz
 go_enter Tryz.func23,Tryz.ntmps23
 go_wp2_with fail
 refine FC.out.mono ?_
 rintro e w1 ⟨rfl,b1⟩
 have S:=h.out.below b1
 have LC:=Lib.hid (layC S kN.out hk H (F.tl (s.cls i) k) 0 hi.out ha.out (.inl rfl) hn.out)
 have p1:=S.q.qtl kN.out hk
 replace b1:=Lib.hid b1
 clear FC S
 go_wp2_with fail
 refine LC.out.mono ?_
 rintro e w2 ⟨rfl,o2,bs2,E2,S2⟩
 replace o2:=Lib.hid o2
 replace E2:=Lib.hid E2
 replace S2:=Lib.hid S2
 go_wp2
 go_ret
 exact ⟨rfl,w1,b1.out,o2.out,bs2,E2.out,S2.out⟩
theorem dropNo (H:Nat) (SC:Calls Tryz.prog 64 #[.pointer (some ⟨gq,0,none⟩),.int .u64 (H:Int)] w fun e w' => e = .returned (.pointer none) /\ Below w.heap.size w w') :
  Calls Tryz.prog 24 #[.pointer (some ⟨gq,0,none⟩),.int .u64 (H:Int)] w fun e w' => e = .returned (.int .i64 20) /\ Below w.heap.size w w':=by
 replace SC:=Lib.hid SC
 clear h
 go_enter Tryz.func24,Tryz.ntmps24
 go_wp2_with fail
 refine SC.out.mono ?_
 rintro e w1 ⟨rfl,b1⟩
 replace b1:=Lib.hid b1
 go_wp2
 go_ret
 exact ⟨rfl,b1.out⟩
theorem dropYes (H:Nat) (k:Nat) (hk:k < 3) {i x p:Nat} (hf:findN c.cf s H = some (i,x,p)) (z:Zd) (hz:Z H = some z) (hk1:z.st = k + 1) (ha:z.a = 0 \/ It c s Z z.a) (hb:z.b = 0 \/ It c s Z z.b) (hn : 1 <= F.n (s.cls i) k) (hn2:F.n (s.cls i) k < 1073741824) :
  Calls Tryz.prog 24 #[.pointer (some ⟨gq,0,none⟩),.int .u64 (H:Int)] w fun e w' => e = .returned (.int .i64 0) /\ ∃ w1,Below w.heap.size w w1 /\ Only (Two L gl) w1 w' /\ ∃ bs',Ed (Itp c s Z) bs bs' /\ QS w' L c s bs' (outZ Z H z.a z.b) gq gl (dF F (s.cls i) k z.a z.b):=by
 have hI:It c s Z H:=⟨⟨i,x,p,hf⟩,z,hz⟩
 have SC:=Lib.hid (standsIn h H hf hk (by rw [hz]; exact hk1))
 have kN:s.cls i < c.nc:=(Tkn.of h.okc h.zs.good hf).1.kN
 replace h:=Lib.hid h
 replace hI:=Lib.hid hI
 replace hf:=Lib.hid hf
 replace hn:=Lib.hid hn
 replace hn2:=Lib.hid hn2
 replace ha:=Lib.hid ha
 replace hb:=Lib.hid hb
 replace hz:=Lib.hid hz
 replace kN:=Lib.hid kN
 clear hk1
 go_enter Tryz.func24,Tryz.ntmps24
 go_wp2_with fail
 refine SC.out.mono ?_
 rintro e w1 ⟨rfl,b1⟩
 have S:=h.out.below b1
 have q0:=S.q.c0
 have C1:=Lib.hid (zLinksC S H hI.out z hz.out).1
 replace b1:=Lib.hid b1
 clear SC
 replace S:=Lib.hid S
 go_wp2_with fail
 refine C1.out.mono ?_
 rintro e w2 ⟨rfl,b2⟩
 replace S:=S.out.below b2
 have q0:=S.q.c0
 have C2:=Lib.hid (zLinksC S H hI.out z hz.out).2
 replace b2:=Lib.hid (b1.out.trans (b2.mono b1.out.size))
 replace S:=Lib.hid S
 clear C1 b1
 go_wp2_with fail
 refine C2.out.mono ?_
 rintro e w3 ⟨rfl,b3⟩
 replace S:=S.out.below b3
 have JC:=Lib.hid (joinC S kN.out hk z.a z.b ha.out hb.out)
 replace b3:=Lib.hid (b2.out.trans (b3.mono b2.out.size))
 clear C2 b2 S q0
 go_wp2_with fail
 refine JC.out.mono ?_
 rintro e w4 ⟨rfl,o4,bs4,E4,S⟩
 obtain ⟨z4,hz4⟩:=(jZ_it (a:=z.a) (b:=z.b) hI.out).2
 have C3:=Lib.hid (S.putA (jZ_it hI.out) hz4 (b:=0) (.inl rfl))
 have q0:=S.q.c0
 replace o4:=Lib.hid o4
 replace E4:=Lib.hid E4
 replace hz4:=Lib.hid hz4
 clear JC S
 go_wp2_with fail
 refine C3.out.mono ?_
 rintro e w5 ⟨rfl,o5,bs5,E5,S⟩
 rw [itp_congr (fun H => jZ_some)] at E5
 have hz5:=Lib.hid (upd_at (jZ Z z.a z.b) H (some ⟨z4.st,0,z4.b⟩))
 have C4:=Lib.hid (S.putB (upd_it (jZ_it hI.out)) hz5.out (b:=0) (.inl rfl))
 have q0:=S.q.c0
 replace o5:=Lib.hid (two_trans o4.out o5)
 replace E5:=Lib.hid (E4.out.trans E5)
 clear C3 S o4 E4
 go_wp2_with fail
 refine C4.out.mono ?_
 rintro e w6 ⟨rfl,o6,bs6,E6,S⟩
 rw [itp_congr (upd_some (jZ_it hI.out).2),itp_congr (fun H => jZ_some)] at E6
 simp only [upd_upd] at S
 have hz6:=Lib.hid (upd_at (jZ Z z.a z.b) H (some ⟨z4.st,0,0⟩))
 have C5:=Lib.hid (S.putS (upd_it (jZ_it hI.out)) hz6.out 4 4 rfl (by omega) (by omega))
 have q0:=S.q.c0
 replace o6:=Lib.hid (two_trans o5.out o6)
 replace E6:=Lib.hid (E5.out.trans E6)
 clear C4 S o5 E5 hz5
 go_wp2_with fail
 refine C5.out.mono ?_
 rintro e w7 ⟨rfl,o7,bs7,E7,S⟩
 rw [itp_congr (upd_some (jZ_it hI.out).2),itp_congr (fun H => jZ_some)] at E7
 simp only [upd_upd] at S
 replace o7:=Lib.hid (two_trans o6.out o7)
 replace E7:=Lib.hid (E6.out.trans E7)
 have p1:=S.q.qn kN.out hk
 rw [jF_n] at p1
 have p2:=S.q.grid.frozen (s.cls i * 9 + k * 3 + 2)
 have e1:(F.n (s.cls i) k:Int) - 1 = ((F.n (s.cls i) k - 1:Nat):Int):=by have:=hn.out; omega
 have s1:IntKind.i64.wrap ((F.n (s.cls i) k:Int) - 1) = ((F.n (s.cls i) k - 1:Nat):Int):=by
  rw [e1]; exact IntWalk.i64_in _ (by have:=hn2.out; omega)
 have S8:=Lib.hid (S.cell (S.q.setN kN.out hk (F.n (s.cls i) k - 1)))
 replace S:=Lib.hid S
 clear C5 o6 E6 hz6 q0 e1
 go_wp2_with fail
 go_ret
 exact ⟨rfl,w3,b3.out,two_trans o7.out S8.out.2,bs7,E7.out,S8.out.1⟩
end
structure QI (c:Conf) (s:St) (Z:Nat -> Option Zd) (F:QN) (Ls:Nat -> Nat -> List Nat):Prop where
  ch:∀ x k,x < c.nc -> k < 3 -> Chain Z (k + 1) 0 (Ls x k) 0
  hd:∀ x k,x < c.nc -> k < 3 -> F.hd x k = (Ls x k).head?.getD 0
  tl:∀ x k,x < c.nc -> k < 3 -> F.tl x k = (Ls x k).getLast?.getD 0
  n:∀ x k,x < c.nc -> k < 3 -> F.n x k = (Ls x k).length
  it:∀ x k h,x < c.nc -> k < 3 -> h ∈ Ls x k -> ∃ i y p,findN c.cf s h = some (i,y,p) /\ s.cls i = x
  nd:∀ x k,x < c.nc -> k < 3 -> (Ls x k).Nodup
  dj:∀ x k x' k' h,x < c.nc -> k < 3 -> x' < c.nc -> k' < 3 -> h ∈ Ls x k -> h ∈ Ls x' k' -> x = x' /\ k = k'
  out:∀ H z,(∃ i x p,findN c.cf s H = some (i,x,p)) -> Z H = some z -> (∀ x k,x < c.nc -> k < 3 -> H ∉ Ls x k) -> z = ⟨4,0,0⟩
def updL (Ls:Nat -> Nat -> List Nat) (x k:Nat) (l:List Nat):Nat -> Nat -> List Nat:=fun a b => if a = x /\ b = k then l else Ls a b
theorem updL_at (Ls:Nat -> Nat -> List Nat) (x k:Nat) (l:List Nat):updL Ls x k l x k = l:=if_pos ⟨rfl,rfl⟩
theorem updL_ne {Ls:Nat -> Nat -> List Nat} {x k a b:Nat} {l:List Nat} (h:¬ (a = x /\ b = k)):updL Ls x k l a b = Ls a b:=if_neg h
theorem updF_at (f:Nat -> Nat -> Nat) (x k v:Nat):updF f x k v x k = v:=if_pos ⟨rfl,rfl⟩
theorem updF_ne {f:Nat -> Nat -> Nat} {x k a b v:Nat} (h:¬ (a = x /\ b = k)):updF f x k v a b = f a b:=if_neg h
theorem jF_hd_ne {F:QN} {x k a b x' k':Nat} (e:¬ (x' = x /\ k' = k)):(jF F x k a b).hd x' k' = F.hd x' k':=by
  unfold jF jH
  split <;> split <;> first | rfl | exact updF_ne e
theorem jF_tl_ne {F:QN} {x k a b x' k':Nat} (e:¬ (x' = x /\ k' = k)):(jF F x k a b).tl x' k' = F.tl x' k':=by
  unfold jF jH
  split <;> split <;> first | rfl | exact updF_ne e
theorem jF_hd (F:QN) (x k a b:Nat):(jF F x k a b).hd x k = if a = 0 then b else F.hd x k:=by
  unfold jF jH
  split <;> split <;> first | rfl | exact updF_at _ _ _ _
theorem jF_tl (F:QN) (x k a b:Nat):(jF F x k a b).tl x k = if b = 0 then a else F.tl x k:=by
  unfold jF jH
  split <;> split <;> first | rfl | exact updF_at _ _ _ _
theorem chain_some {Z:Nat -> Option Zd} {k:Nat}:∀ {l:List Nat} {p n:Nat},Chain Z k p l n -> ∀ h ∈ l,∃ a b,Z h = some ⟨k,a,b⟩
  | [],_,_,_,h,hh => by cases hh
  | x :: t,p,n,hc,h,hh => by
    rcases List.mem_cons.1 hh with rfl | hh
    · exact ⟨_,_,hc.1⟩
    · exact chain_some hc.2 h hh
section
variable {c:Conf} {s:St} (ok:c.cf.Ok) (g:Cls.Good c.cf s)
include ok g
theorem good_mod {H H' i x p i' x' p':Nat} (h:findN c.cf s H = some (i,x,p)) (h':findN c.cf s H' = some (i',x',p')) (e:H % 4294967296 = H' % 4294967296):H = H':=by
  obtain ⟨t,eH⟩:=Tkn.of ok g h
  obtain ⟨t',eH'⟩:=Tkn.of ok g h'
  obtain ⟨-, -, -,p8, -⟩:=t.fit ok
  obtain ⟨-, -, -,p8', -⟩:=t'.fit ok
  obtain ⟨-, -,h3, -, -⟩:=t.hlt ok g
  obtain ⟨-, -,h3', -, -⟩:=t'.hlt ok g
  rw [<- eH] at h3
  rw [<- eH'] at h3'
  have hp:p = p':=by omega
  subst hp
  obtain ⟨-, -, -,eG⟩:=t.same ok t'
  rw [eH,eH',eG]
theorem good_short (l:List Nat) (hd:l.Nodup) (hl:∀ h ∈ l,∃ i x p,findN c.cf s h = some (i,x,p)):l.length <= 134217729:=by
  have h1:(l.map (· % 4294967296)).Nodup:=by
    unfold List.Nodup
    rw [List.pairwise_map]
    refine List.Pairwise.imp_of_mem ?_ hd
    intro a b ha hb hab e
    obtain ⟨i,x,p,hf⟩:=hl a ha
    obtain ⟨i',x',p',hf'⟩:=hl b hb
    exact hab (good_mod ok g hf hf' e)
  have h2:=nodup_le 134217729 _ h1 (by
    intro y hy
    obtain ⟨a,ha,rfl⟩:=List.mem_map.1 hy
    obtain ⟨i,x,p,hf⟩:=hl a ha
    obtain ⟨t,eH⟩:=Tkn.of ok g hf
    obtain ⟨-, -,h3, -,h5⟩:=t.hlt ok g
    rw [<- eH] at h3
    show a % 4294967296 < 134217729
    omega)
  rw [List.length_map] at h2
  exact h2
end
section
variable {c:Conf} {s:St} {Z:Nat -> Option Zd} {F:QN} {Ls:Nat -> Nat -> List Nat} (q:QI c s Z F Ls)
include q
theorem QI.ne0 {x k h:Nat} (hx:x < c.nc) (hk:k < 3) (hh:h ∈ Ls x k):h ≠ 0:=by
  obtain ⟨i,y,p,hf, -⟩:=q.it x k h hx hk hh
  exact good_ne hf
theorem QI.is {x k h:Nat} (hx:x < c.nc) (hk:k < 3) (hh:h ∈ Ls x k):It c s Z h:=by
  obtain ⟨i,y,p,hf, -⟩:=q.it x k h hx hk hh
  obtain ⟨a,b,hz⟩:=chain_some (q.ch x k hx hk) h hh
  exact ⟨⟨i,y,p,hf⟩,_,hz⟩
theorem QI.hdI {x k:Nat} (hx:x < c.nc) (hk:k < 3):F.hd x k = 0 \/ It c s Z (F.hd x k):=by
  rw [q.hd x k hx hk]
  exact head_in.imp id (q.is hx hk)
theorem QI.tlI {x k:Nat} (hx:x < c.nc) (hk:k < 3):F.tl x k = 0 \/ It c s Z (F.tl x k):=by
  rw [q.tl x k hx hk]
  exact last_in.imp id (q.is hx hk)
theorem QI.nB (ok:c.cf.Ok) (g:Cls.Good c.cf s) {x k:Nat} (hx:x < c.nc) (hk:k < 3):F.n x k <= 134217729:=by
  rw [q.n x k hx hk]
  exact good_short ok g _ (q.nd x k hx hk) fun h hh => by
    obtain ⟨i,y,p,hf, -⟩:=q.it x k h hx hk hh
    exact ⟨i,y,p,hf⟩
theorem QI.lay (ok:c.cf.Ok) (g:Cls.Good c.cf s) {x k H:Nat} (hx:x < c.nc) (hk:k < 3) {i y p:Nat} (hf:findN c.cf s H = some (i,y,p)) (hc:s.cls i = x) (hout:∀ x k,x < c.nc -> k < 3 -> H ∉ Ls x k) (l1 l2:List Nat) (hl:Ls x k = l1 ++ l2) :
    QI c s (layZ Z H (k + 1) (l1.getLast?.getD 0) (l2.head?.getD 0)) (lF F x k H (l1.getLast?.getD 0) (l2.head?.getD 0)) (updL Ls x k (l1 ++ H :: l2)):=by
  have h0:=good_ne hf
  have hnd:=q.nd x k hx hk
  have hch:=q.ch x k hx hk
  have hhd:=q.hd x k hx hk
  have htl:=q.tl x k hx hk
  have hz0:∀ y ∈ l1 ++ l2,y ≠ 0:=fun y hy => q.ne0 hx hk (hl ▸ hy)
  have hno:=hout x k hx hk
  have m1:∀ y ∈ l1,y ∈ Ls x k:=fun y hy => by rw [hl]; exact List.mem_append.2 (.inl hy)
  have m2:∀ y ∈ l2,y ∈ Ls x k:=fun y hy => by rw [hl]; exact List.mem_append.2 (.inr hy)
  have far:∀ x' k' y,x' < c.nc -> k' < 3 -> ¬ (x' = x /\ k' = k) -> y ∈ Ls x' k' -> layZ Z H (k + 1) (l1.getLast?.getD 0) (l2.head?.getD 0) y = Z y:=by
    intro x' k' y hx' hk' hne hy
    refine layZ_ne (fun e => hout x' k' hx' hk' (e ▸ hy)) (fun e => ?_) (fun e => ?_)
    · rcases last_in (l:=l1) with h | h
      · exact q.ne0 hx' hk' hy (e.trans h)
      · exact hne (q.dj x' k' x k y hx' hk' hx hk hy (e ▸ m1 _ h))
    · rcases head_in (l:=l2) with h | h
      · exact q.ne0 hx' hk' hy (e.trans h)
      · exact hne (q.dj x' k' x k y hx' hk' hx hk hy (e ▸ m2 _ h))
  have hn:F.n x k = (Ls x k).length:=q.n x k hx hk
  rw [hl] at hnd hch hhd htl hno hn
  constructor
  · intro x' k' hx' hk'
    by_cases e:x' = x /\ k' = k
    · obtain ⟨rfl,rfl⟩:=e
      rw [updL_at]
      exact chain_lay hch hnd hz0 h0 hno
    · rw [updL_ne e]
      exact (q.ch x' k' hx' hk').congr fun y hy => far x' k' y hx' hk' e hy
  · intro x' k' hx' hk'
    by_cases e:x' = x /\ k' = k
    · obtain ⟨rfl,rfl⟩:=e
      rw [updL_at]
      show (jF (jF F x' k' _ H) x' k' H _).hd x' k' = _
      rw [jF_hd,if_neg h0,jF_hd]
      cases l1 with
      | nil => rfl
      | cons a t =>
        have hne:((a :: t).getLast?.getD 0) ≠ 0:=fun e => by
          have:(a :: t).getLast?.getD 0 ∈ a :: t:=by
            rw [List.getLast?_eq_some_getLast (by simp)]
            exact List.getLast_mem _
          rw [e] at this
          exact hz0 0 (List.mem_append.2 (.inl this)) rfl
        rw [if_neg hne]
        exact hhd
    · rw [updL_ne e, <- q.hd x' k' hx' hk']
      exact (jF_hd_ne e).trans (jF_hd_ne e)
  · intro x' k' hx' hk'
    by_cases e:x' = x /\ k' = k
    · obtain ⟨rfl,rfl⟩:=e
      rw [updL_at]
      show (jF (jF F x' k' _ H) x' k' H _).tl x' k' = _
      rw [jF_tl,jF_tl,if_neg h0]
      cases l2 with
      | nil =>
        rw [if_pos (show (([]:List Nat).head?.getD 0) = 0 from rfl),List.getLast?_concat]
        rfl
      | cons a t =>
        have hne:((a :: t).head?.getD 0) ≠ 0:=hz0 a (by simp)
        rw [if_neg hne]
        have e2:(l1 ++ H :: a :: t).getLast?.getD 0 = (l1 ++ a :: t).getLast?.getD 0:=by
          rw [List.getLast?_append,List.getLast?_append,List.getLast?_cons_cons]
        rw [e2, <- htl]
    · rw [updL_ne e, <- q.tl x' k' hx' hk']
      exact (jF_tl_ne e).trans (jF_tl_ne e)
  · intro x' k' hx' hk'
    by_cases e:x' = x /\ k' = k
    · obtain ⟨rfl,rfl⟩:=e
      rw [updL_at]
      refine (updF_at _ _ _ _).trans ?_
      rw [hn]
      simp only [List.length_append,List.length_cons]
      omega
    · rw [updL_ne e, <- q.n x' k' hx' hk']
      refine (updF_ne e).trans ?_
      rw [jF_n,jF_n]
  · intro x' k' y' hx' hk' hy
    by_cases e:x' = x /\ k' = k
    · obtain ⟨rfl,rfl⟩:=e
      rw [updL_at] at hy
      rcases List.mem_append.1 hy with hy | hy
      · exact q.it x' k' y' hx hk (m1 _ hy)
      · rcases List.mem_cons.1 hy with rfl | hy
        · exact ⟨i,y,p,hf,hc⟩
        · exact q.it x' k' y' hx hk (m2 _ hy)
    · rw [updL_ne e] at hy
      exact q.it x' k' y' hx' hk' hy
  · intro x' k' hx' hk'
    by_cases e:x' = x /\ k' = k
    · obtain ⟨rfl,rfl⟩:=e
      rw [updL_at]
      obtain ⟨d1,d2,d3⟩:=List.nodup_append.1 hnd
      refine List.nodup_append.2 ⟨d1,List.nodup_cons.2 ⟨fun e => hno (List.mem_append.2 (.inr e)),d2⟩,fun a ha b hb e => ?_⟩
      rcases List.mem_cons.1 hb with rfl | hb
      · exact hno (List.mem_append.2 (.inl (e ▸ ha)))
      · exact d3 a ha b hb e
    · rw [updL_ne e]; exact q.nd x' k' hx' hk'
  · intro x1 k1 x2 k2 y' hx1 hk1 hx2 hk2 h1 h2
    have key:∀ a b,a < c.nc -> b < 3 -> y' ∈ updL Ls x k (l1 ++ H :: l2) a b -> y' = H /\ a = x /\ b = k \/ y' ≠ H /\ y' ∈ Ls a b:=by
      intro a b ha hb hy
      by_cases e:a = x /\ b = k
      · obtain ⟨rfl,rfl⟩:=e
        rw [updL_at] at hy
        by_cases eH:y' = H
        · exact .inl ⟨eH,rfl,rfl⟩
        · refine .inr ⟨eH,?_⟩
          rcases List.mem_append.1 hy with hy | hy
          · exact m1 _ hy
          · rcases List.mem_cons.1 hy with hy | hy
            · exact absurd hy eH
            · exact m2 _ hy
      · rw [updL_ne e] at hy
        exact .inr ⟨fun eH => hout a b ha hb (eH ▸ hy),hy⟩
    rcases key x1 k1 hx1 hk1 h1 with ⟨a1,a2,a3⟩ | ⟨a1,a2⟩ <;> rcases key x2 k2 hx2 hk2 h2 with ⟨b1,b2,b3⟩ | ⟨b1,b2⟩
    · exact ⟨a2.trans b2.symm,a3.trans b3.symm⟩
    · exact absurd a1 b1
    · exact absurd b1 a1
    · exact q.dj x1 k1 x2 k2 y' hx1 hk1 hx2 hk2 a2 b2
  · intro H' z hf' hz' hno'
    have hne:H' ≠ H:=fun e => hno' x k hx hk (by rw [updL_at,e]; simp)
    have hno2:∀ a b,a < c.nc -> b < 3 -> H' ∉ Ls a b:=by
      intro a b ha hb hy
      by_cases e:a = x /\ b = k
      · obtain ⟨rfl,rfl⟩:=e
        refine hno' a b ha hb ?_
        rw [updL_at]
        rw [hl] at hy
        rcases List.mem_append.1 hy with hy | hy
        · exact List.mem_append.2 (.inl hy)
        · exact List.mem_append.2 (.inr (List.mem_cons_of_mem _ hy))
      · exact hno' a b ha hb (by rw [updL_ne e]; exact hy)
    have h0':H' ≠ 0:=by obtain ⟨i,x,p,hf'⟩:=hf'; exact good_ne hf'
    rw [layZ_ne hne (fun e => by
      rcases last_in (l:=l1) with h | h
      · exact h0' (e.trans h)
      · exact hno2 x k hx hk (e ▸ m1 _ h)) (fun e => by
      rcases head_in (l:=l2) with h | h
      · exact h0' (e.trans h)
      · exact hno2 x k hx hk (e ▸ m2 _ h))] at hz'
    exact q.out H' z hf' hz' hno2
theorem QI.drop {x k H:Nat} (hx:x < c.nc) (hk:k < 3) (l1 l2:List Nat) (hl:Ls x k = l1 ++ H :: l2) :
    Z H = some ⟨k + 1,l1.getLast?.getD 0,l2.head?.getD 0⟩ /\ QI c s (outZ Z H (l1.getLast?.getD 0) (l2.head?.getD 0)) (dF F x k (l1.getLast?.getD 0) (l2.head?.getD 0)) (updL Ls x k (l1 ++ l2)):=by
  have hnd:=q.nd x k hx hk
  have hch:=q.ch x k hx hk
  have hhd:=q.hd x k hx hk
  have htl:=q.tl x k hx hk
  have hz0:∀ y ∈ l1 ++ H :: l2,y ≠ 0:=fun y hy => q.ne0 hx hk (hl ▸ hy)
  have m1:∀ y ∈ l1,y ∈ Ls x k:=fun y hy => by rw [hl]; exact List.mem_append.2 (.inl hy)
  have m2:∀ y ∈ l2,y ∈ Ls x k:=fun y hy => by rw [hl]; exact List.mem_append.2 (.inr (List.mem_cons_of_mem _ hy))
  have mH:H ∈ Ls x k:=by rw [hl]; simp
  have far:∀ x' k' y,x' < c.nc -> k' < 3 -> ¬ (x' = x /\ k' = k) -> y ∈ Ls x' k' -> outZ Z H (l1.getLast?.getD 0) (l2.head?.getD 0) y = Z y:=by
    intro x' k' y hx' hk' hne hy
    refine outZ_ne (fun e => hne (q.dj x' k' x k y hx' hk' hx hk hy (e ▸ mH))) (fun e => ?_) (fun e => ?_)
    · rcases last_in (l:=l1) with h | h
      · exact q.ne0 hx' hk' hy (e.trans h)
      · exact hne (q.dj x' k' x k y hx' hk' hx hk hy (e ▸ m1 _ h))
    · rcases head_in (l:=l2) with h | h
      · exact q.ne0 hx' hk' hy (e.trans h)
      · exact hne (q.dj x' k' x k y hx' hk' hx hk hy (e ▸ m2 _ h))
  have hn:F.n x k = (Ls x k).length:=q.n x k hx hk
  rw [hl] at hnd hch hhd htl hn
  obtain ⟨hZ,hC⟩:=chain_out hch hnd hz0
  obtain ⟨d1,d2,d3⟩:=List.nodup_append.1 hnd
  obtain ⟨d4,d5⟩:=List.nodup_cons.1 d2
  refine ⟨hZ,?_⟩
  constructor
  · intro x' k' hx' hk'
    by_cases e:x' = x /\ k' = k
    · obtain ⟨rfl,rfl⟩:=e
      rw [updL_at]
      exact hC
    · rw [updL_ne e]
      exact (q.ch x' k' hx' hk').congr fun y hy => far x' k' y hx' hk' e hy
  · intro x' k' hx' hk'
    by_cases e:x' = x /\ k' = k
    · obtain ⟨rfl,rfl⟩:=e
      rw [updL_at]
      show (jF F x' k' _ _).hd x' k' = _
      rw [jF_hd]
      cases l1 with
      | nil => rfl
      | cons a t =>
        have hne:((a :: t).getLast?.getD 0) ≠ 0:=fun e => by
          have:(a :: t).getLast?.getD 0 ∈ a :: t:=by
            rw [List.getLast?_eq_some_getLast (by simp)]
            exact List.getLast_mem _
          rw [e] at this
          exact hz0 0 (List.mem_append.2 (.inl this)) rfl
        rw [if_neg hne]
        exact hhd
    · rw [updL_ne e, <- q.hd x' k' hx' hk']
      exact jF_hd_ne e
  · intro x' k' hx' hk'
    by_cases e:x' = x /\ k' = k
    · obtain ⟨rfl,rfl⟩:=e
      rw [updL_at]
      show (jF F x' k' _ _).tl x' k' = _
      rw [jF_tl]
      cases l2 with
      | nil =>
        rw [if_pos (show (([]:List Nat).head?.getD 0) = 0 from rfl),List.append_nil]
      | cons a t =>
        have hne:((a :: t).head?.getD 0) ≠ 0:=hz0 a (by simp)
        rw [if_neg hne]
        have e2:(l1 ++ H :: a :: t).getLast?.getD 0 = (l1 ++ a :: t).getLast?.getD 0:=by
          rw [List.getLast?_append,List.getLast?_append,List.getLast?_cons_cons]
        rw [<- e2, <- htl]
    · rw [updL_ne e, <- q.tl x' k' hx' hk']
      exact jF_tl_ne e
  · intro x' k' hx' hk'
    by_cases e:x' = x /\ k' = k
    · obtain ⟨rfl,rfl⟩:=e
      rw [updL_at]
      refine (updF_at _ _ _ _).trans ?_
      rw [hn]
      simp only [List.length_append,List.length_cons]
      omega
    · rw [updL_ne e, <- q.n x' k' hx' hk']
      refine (updF_ne e).trans ?_
      rw [jF_n]
  · intro x' k' y' hx' hk' hy
    by_cases e:x' = x /\ k' = k
    · obtain ⟨rfl,rfl⟩:=e
      rw [updL_at] at hy
      rcases List.mem_append.1 hy with hy | hy
      · exact q.it x' k' y' hx hk (m1 _ hy)
      · exact q.it x' k' y' hx hk (m2 _ hy)
    · rw [updL_ne e] at hy
      exact q.it x' k' y' hx' hk' hy
  · intro x' k' hx' hk'
    by_cases e:x' = x /\ k' = k
    · obtain ⟨rfl,rfl⟩:=e
      rw [updL_at]
      exact List.nodup_append.2 ⟨d1,d5,fun a ha b hb => d3 a ha b (List.mem_cons_of_mem _ hb)⟩
    · rw [updL_ne e]; exact q.nd x' k' hx' hk'
  · intro x1 k1 x2 k2 y' hx1 hk1 hx2 hk2 h1 h2
    have key:∀ a b,a < c.nc -> b < 3 -> y' ∈ updL Ls x k (l1 ++ l2) a b -> y' ∈ Ls a b:=by
      intro a b ha hb hy
      by_cases e:a = x /\ b = k
      · obtain ⟨rfl,rfl⟩:=e
        rw [updL_at] at hy
        rcases List.mem_append.1 hy with hy | hy
        · exact m1 _ hy
        · exact m2 _ hy
      · rw [updL_ne e] at hy; exact hy
    exact q.dj x1 k1 x2 k2 y' hx1 hk1 hx2 hk2 (key _ _ hx1 hk1 h1) (key _ _ hx2 hk2 h2)
  · intro H' z hf' hz' hno'
    by_cases hne:H' = H
    · subst hne
      unfold outZ at hz'
      rw [upd_at] at hz'
      injection hz' with hz'
      exact hz'.symm
    have hno2:∀ a b,a < c.nc -> b < 3 -> H' ∉ Ls a b:=by
      intro a b ha hb hy
      by_cases e:a = x /\ b = k
      · obtain ⟨rfl,rfl⟩:=e
        refine hno' a b ha hb ?_
        rw [updL_at]
        rw [hl] at hy
        rcases List.mem_append.1 hy with hy | hy
        · exact List.mem_append.2 (.inl hy)
        · rcases List.mem_cons.1 hy with hy | hy
          · exact absurd hy hne
          · exact List.mem_append.2 (.inr hy)
      · exact hno' a b ha hb (by rw [updL_ne e]; exact hy)
    have h0':H' ≠ 0:=by obtain ⟨i,x,p,hf'⟩:=hf'; exact good_ne hf'
    rw [outZ_ne hne (fun e => by
      rcases last_in (l:=l1) with h | h
      · exact h0' (e.trans h)
      · exact hno2 x k hx hk (e ▸ m1 _ h)) (fun e => by
      rcases head_in (l:=l2) with h | h
      · exact h0' (e.trans h)
      · exact hno2 x k hx hk (e ▸ m2 _ h))] at hz'
    exact q.out H' z hf' hz' hno2
end
def QW (w:World) (L:Lay) (c:Conf) (s:St) (bs:List UInt8) (Z:Nat -> Option Zd) (gq gl:Nat) (Ls:Nat -> Nat -> List Nat):Prop:=∃ F,QS w L c s bs Z gq gl F /\ QI c s Z F Ls
def stK (x:Nat) (Ls:Nat -> Nat -> List Nat) (H:Nat):Nat:=if H ∈ Ls x 0 then 1 else if H ∈ Ls x 1 then 2 else if H ∈ Ls x 2 then 3 else 0
def clsN (c:Conf) (s:St) (H:Nat):Nat:=match findN c.cf s H with
 | some (i,_,_) => s.cls i
 | none => 0
def isN (c:Conf) (s:St) (Z:Nat -> Option Zd) (H:Nat):Bool:=(findN c.cf s H).isSome && (Z H).isSome
def putN (x:Nat) (Ls:Nat -> Nat -> List Nat) (H k:Nat) (last:Bool):Nat -> Nat -> List Nat:=updL Ls x k (if last then Ls x k ++ [H] else H :: Ls x k)
def pushN (c:Conf) (s:St) (Z:Nat -> Option Zd) (Ls:Nat -> Nat -> List Nat) (H:Nat) (kind:Int) (last:Bool):Nat × (Nat -> Nat -> List Nat) :=
 if ¬ (1 <= kind /\ kind <= 3) then (1,Ls) else if isN c s Z H = false then (20,Ls) else if stK (clsN c s H) Ls H ≠ 0 then (8,Ls) else (0,putN (clsN c s H) Ls H (kind.toNat - 1) last)
def outN (x:Nat) (Ls:Nat -> Nat -> List Nat) (H:Nat):Nat -> Nat -> List Nat:=updL Ls x (stK x Ls H - 1) ((Ls x (stK x Ls H - 1)).erase H)
def dropN (c:Conf) (s:St) (Ls:Nat -> Nat -> List Nat) (H:Nat):Nat × (Nat -> Nat -> List Nat):=if stK (clsN c s H) Ls H = 0 then (20,Ls) else (0,outN (clsN c s H) Ls H)
def Did (w w':World) (L:Lay) (c:Conf) (s:St) (bs:List UInt8) (Z:Nat -> Option Zd) (gq gl:Nat) (r:Nat × (Nat -> Nat -> List Nat)):Prop :=
 Only (Two L gl) w w' /\ ∃ bs' Z',Ed (Itp c s Z) bs bs' /\ (∀ H,(Z' H).isSome = (Z H).isSome) /\ (r.1 ≠ 0 -> bs' = bs) /\ QW w' L c s bs' Z' gq gl r.2
theorem below_two {w w':World} {L:Lay} {gl:Nat} (h:Below w.heap.size w w'):Only (Two L gl) w w':=⟨h.os,h.tape,h.output,h.size,fun i hi _ => h.block i hi⟩
theorem stK_zero {x:Nat} {Ls:Nat -> Nat -> List Nat} {H:Nat} (h:stK x Ls H = 0):∀ k,k < 3 -> H ∉ Ls x k:=by
 intro k hk
 unfold stK at h
 split at h
 ·omega
 split at h
 ·omega
 split at h
 ·omega
 obtain rfl | rfl | rfl:k = 0 \/ k = 1 \/ k = 2:=by omega
 all_goals assumption
theorem stK_pos {x:Nat} {Ls:Nat -> Nat -> List Nat} {H:Nat} (h:stK x Ls H ≠ 0):∃ k,k < 3 /\ stK x Ls H = k + 1 /\ H ∈ Ls x k:=by
 unfold stK at h ⊢
 split
 ·exact ⟨0,by omega,rfl,by assumption⟩
 split
 ·exact ⟨1,by omega,rfl,by assumption⟩
 split
 ·exact ⟨2,by omega,rfl,by assumption⟩
 ·rename_i h1 h2 h3
  rw [if_neg h1,if_neg h2,if_neg h3] at h
  exact absurd rfl h
section
variable {c:Conf} {s:St} {Z:Nat -> Option Zd} {F:QN} {Ls:Nat -> Nat -> List Nat} (q:QI c s Z F Ls)
include q
theorem QI.of_stK (ok:c.cf.Ok) (g:Cls.Good c.cf s) {H:Nat} (h:stK (clsN c s H) Ls H ≠ 0):∃ k i y p,k < 3 /\ stK (clsN c s H) Ls H = k + 1 /\ findN c.cf s H = some (i,y,p) /\ clsN c s H = s.cls i /\ s.cls i < c.nc /\ H ∈ Ls (s.cls i) k:=by
 obtain ⟨k,hk,e,hm⟩:=stK_pos h
 cases hf:findN c.cf s H with
 | none =>
  have e0:clsN c s H = 0:=by unfold clsN; rw [hf]
  rw [e0] at hm
  by_cases h0 : 0 < c.nc
  ·obtain ⟨i,y,p,hf', -⟩:=q.it 0 k H h0 hk hm
   rw [hf] at hf'; cases hf'
  ·exact absurd ok.nc h0
 | some v =>
  obtain ⟨i,y,p⟩:=v
  have e0:clsN c s H = s.cls i:=by unfold clsN; rw [hf]
  exact ⟨k,i,y,p,hk,e,rfl,e0,(Tkn.of ok g hf).1.kN,e0 ▸ hm⟩
theorem QI.not_stK {H:Nat} (h:stK (clsN c s H) Ls H = 0):∀ x k,x < c.nc -> k < 3 -> H ∉ Ls x k:=by
 intro x k hx hk hm
 obtain ⟨i,y,p,hf,hc⟩:=q.it x k H hx hk hm
 have e0:clsN c s H = x:=by unfold clsN; rw [hf]; exact hc
 rw [e0] at h
 exact stK_zero h k hk hm
theorem QI.split {x k H:Nat} (hx:x < c.nc) (hk:k < 3) (hm:H ∈ Ls x k):∃ l1 l2,Ls x k = l1 ++ H :: l2 /\ (Ls x k).erase H = l1 ++ l2 /\ Z H = some ⟨k + 1,l1.getLast?.getD 0,l2.head?.getD 0⟩:=by
 obtain ⟨l1,l2,hl⟩:=List.append_of_mem hm
 have hnd:=q.nd x k hx hk
 refine ⟨l1,l2,hl,?_,(q.drop hx hk l1 l2 hl).1⟩
 rw [hl] at hnd ⊢
 have n1:H ∉ l1:=fun e => (List.nodup_append.1 hnd).2.2 H e H (List.mem_cons_self ..) rfl
 rw [List.erase_append_right _ n1,List.erase_cons_head]
theorem QI.free {H:Nat} {i y p:Nat} (hf:findN c.cf s H = some (i,y,p)) (hn:∀ x k,x < c.nc -> k < 3 -> H ∉ Ls x k):zst (Z H) = 0 \/ 4 <= zst (Z H):=by
 cases hz:Z H with
 | none => exact .inl rfl
 | some z =>
  rw [q.out H z ⟨i,y,p,hf⟩ hz hn]
  exact .inr (Nat.le_refl 4)
end
section
variable {w:World} {L:Lay} {c:Conf} {s:St} {bs:List UInt8} {Z:Nat -> Option Zd} {gq gl:Nat} {Ls:Nat -> Nat -> List Nat} (h:QW w L c s bs Z gq gl Ls)
include h
theorem QW.same {w':World} {R:Nat} (b:Below w.heap.size w w'):Did w w' L c s bs Z gq gl (R,Ls):=by
 obtain ⟨F,S,q⟩:=h
 exact ⟨below_two b,bs,Z,Ed.refl _ _,fun _ => rfl,fun _ => rfl,F,S.below b,q⟩
theorem standsC (H:Nat) (hH:H < 18446744073709551616):Calls Tryz.prog 64 #[.pointer (some ⟨gq,0,none⟩),.int .u64 (H:Int)] w fun e w' => e = .returned (.pointer (if stK (clsN c s H) Ls H = 0 then none else some ⟨gl,clsN c s H * 9 + (stK (clsN c s H) Ls H - 1) * 3,none⟩)) /\ Below w.heap.size w w':=by
 obtain ⟨F,S,q⟩:=h
 by_cases h0:stK (clsN c s H) Ls H = 0
 ·rw [if_pos h0]
  cases hf:findN c.cf s H with
  | none => exact standsNo S H hH hf
  | some v =>
   obtain ⟨i,y,p⟩:=v
   exact standsOut S H hf (q.free hf (q.not_stK h0))
 ·rw [if_neg h0]
  obtain ⟨k,i,y,p,hk,e,hf,ec,hx,hm⟩:=q.of_stK S.okc S.zs.good h0
  obtain ⟨l1,l2,hl, -,hz⟩:=q.split hx hk hm
  rw [e,ec,Nat.add_sub_cancel]
  exact standsIn S H hf hk (by rw [hz]; rfl)
theorem qFreeC (H:Nat) (hH:H < 18446744073709551616) (kind:Int) (last:Bool) (R:Nat) (hR:(pushN c s Z Ls H kind last).1 = R) (r0:R ≠ 0):Calls Tryz.prog 62 #[.pointer (some ⟨gq,0,none⟩),.int .u64 (H:Int),.int .i64 kind] w fun e w' => e = .returned (.tuple #[.pointer none,.int .i64 (R:Int)]) /\ Below w.heap.size w w':=by
 obtain ⟨F,S,q⟩:=h
 unfold pushN at hR
 by_cases hk : 1 <= kind /\ kind <= 3
 ·rw [if_neg (Classical.not_not.2 hk)] at hR
  obtain ⟨k,hk3,rfl⟩:∃ k:Nat,k < 3 /\ kind = (k:Int) + 1:=⟨kind.toNat - 1,by omega,by omega⟩
  by_cases hi:isN c s Z H = false
  ·rw [if_pos hi] at hR
   subst hR
   refine freeNo S H hH k hk3 ?_
   unfold isN at hi
   rcases Bool.and_eq_false_iff.1 hi with h | h
   ·exact .inl (Option.isSome_eq_false_iff.1 h |> Option.isNone_iff_eq_none.1)
   ·cases hf:findN c.cf s H with
    | none => exact .inl rfl
    | some v => exact .inr ⟨⟨v.1,v.2.1,v.2.2,rfl⟩,Option.isSome_eq_false_iff.1 h |> Option.isNone_iff_eq_none.1⟩
  ·rw [if_neg hi] at hR
   by_cases hs:stK (clsN c s H) Ls H ≠ 0
   ·rw [if_pos hs] at hR
    subst hR
    obtain ⟨j,i,y,p,hj,e,hf,ec,hx,hm⟩:=q.of_stK S.okc S.zs.good hs
    obtain ⟨l1,l2,hl, -,hz⟩:=q.split hx hj hm
    exact freeTwice S H k hk3 ⟨⟨i,y,p,hf⟩,_,hz⟩ hf hj (by rw [hz]; rfl)
   ·rw [if_neg hs] at hR
    exact absurd hR.symm r0
 ·rw [if_pos hk] at hR
  subst hR
  exact (freeArg S H kind hk).mono fun e w' ⟨h1,h2⟩ => ⟨h1,h2 ▸ Below.refl _ _⟩
theorem pushC (H:Nat) (hH:H < 18446744073709551616) (kind:Int) :
  (Calls Tryz.prog 22 #[.pointer (some ⟨gq,0,none⟩),.int .u64 (H:Int),.int .i64 kind] w fun e w' => e = .returned (.int .i64 ((pushN c s Z Ls H kind false).1:Int)) /\ Did w w' L c s bs Z gq gl (pushN c s Z Ls H kind false)) /\
  (Calls Tryz.prog 23 #[.pointer (some ⟨gq,0,none⟩),.int .u64 (H:Int),.int .i64 kind] w fun e w' => e = .returned (.int .i64 ((pushN c s Z Ls H kind true).1:Int)) /\ Did w w' L c s bs Z gq gl (pushN c s Z Ls H kind true)):=by
 have key:∀ last,(pushN c s Z Ls H kind last).1 ≠ 0 -> (pushN c s Z Ls H kind last).2 = Ls:=by
  intro last h1
  unfold pushN at h1 ⊢
  split
  ·rfl
  split
  ·rfl
  split
  ·rfl
  ·rename_i a1 a2 a3
   rw [if_neg a1,if_neg a2,if_neg a3] at h1
   exact absurd rfl h1
 have eqs:(pushN c s Z Ls H kind false).1 = (pushN c s Z Ls H kind true).1:=by
  unfold pushN
  split
  ·rfl
  split
  ·rfl
  split <;> rfl
 have hw:=h
 obtain ⟨F,S,q⟩:=h
 by_cases h0:(pushN c s Z Ls H kind false).1 = 0
 ·have h1:=h0
  rw [eqs] at h1
  rw [h0,h1]
  unfold pushN at h0 ⊢
  by_cases hk : 1 <= kind /\ kind <= 3
  ·rw [if_neg (Classical.not_not.2 hk)] at h0
   simp only [if_neg (Classical.not_not.2 hk)]
   by_cases hi:isN c s Z H = false
   ·rw [if_pos hi] at h0; cases h0
   ·rw [if_neg hi] at h0
    simp only [if_neg hi]
    by_cases hs:stK (clsN c s H) Ls H ≠ 0
    ·rw [if_pos hs] at h0; cases h0
    ·simp only [if_neg hs]
     obtain ⟨k,hk3,rfl⟩:∃ k:Nat,k < 3 /\ kind = (k:Int) + 1:=⟨kind.toNat - 1,by omega,by omega⟩
     have ek:((k:Int) + 1).toNat - 1 = k:=by omega
     rw [ek]
     have hi2:isN c s Z H = true:=by simpa using hi
     unfold isN at hi2
     obtain ⟨i1,i2⟩:=Bool.and_eq_true_iff.1 hi2
     obtain ⟨⟨i,y,p⟩,hf⟩:=Option.isSome_iff_exists.1 i1
     obtain ⟨z,hz⟩:=Option.isSome_iff_exists.1 i2
     have hn:=q.not_stK (Classical.not_not.1 hs)
     have hI:It c s Z H:=⟨⟨i,y,p,hf⟩,z,hz⟩
     have ec:clsN c s H = s.cls i:=by unfold clsN; rw [hf]
     have hx:s.cls i < c.nc:=(Tkn.of S.okc S.zs.good hf).1.kN
     have hb:=q.nB S.okc S.zs.good hx hk3
     rw [ec]
     have dom:∀ a b H',(layZ Z H (k + 1) a b H').isSome = (Z H').isSome:=fun a b H' => jZ_some.trans (jZ_some.trans (upd_some ⟨z,hz⟩ H'))
     constructor
     ·refine (pushYes S H k hk3 hI hf (q.free hf hn) (by omega) (q.hdI hx hk3)).mono ?_
      rintro e w' ⟨rfl,w1,b1,o1,bs',E1,S1⟩
      refine ⟨rfl,two_trans (below_two b1) o1,bs',_,E1,dom _ _,fun h => absurd rfl h,_,S1,?_⟩
      have:=q.lay S.okc S.zs.good hx hk3 hf rfl hn [] (Ls (s.cls i) k) rfl
      rw [q.hd _ _ hx hk3]
      exact this
     ·refine (lastYes S H k hk3 hI hf (q.free hf hn) (by omega) (q.tlI hx hk3)).mono ?_
      rintro e w' ⟨rfl,w1,b1,o1,bs',E1,S1⟩
      refine ⟨rfl,two_trans (below_two b1) o1,bs',_,E1,dom _ _,fun h => absurd rfl h,_,S1,?_⟩
      have:=q.lay S.okc S.zs.good hx hk3 hf rfl hn (Ls (s.cls i) k) [] (List.append_nil _).symm
      rw [q.tl _ _ hx hk3]
      exact this
  ·rw [if_pos hk] at h0; cases h0
 ·have h1:=h0
  rw [eqs] at h1
  have FC:=qFreeC hw H hH kind false _ rfl h0
  have FC':=qFreeC hw H hH kind true _ rfl h1
  constructor
  ·refine (pushRef S _ h0 H kind FC).1.mono ?_
   rintro e w' ⟨rfl,b⟩
   refine ⟨rfl,?_⟩
   have:=hw.same (R:=(pushN c s Z Ls H kind false).1) b
   rwa [show ((pushN c s Z Ls H kind false).1,Ls) = pushN c s Z Ls H kind false from Prod.ext rfl (key false h0).symm] at this
  ·refine (pushRef S _ h1 H kind FC').2.mono ?_
   rintro e w' ⟨rfl,b⟩
   refine ⟨rfl,?_⟩
   have:=hw.same (R:=(pushN c s Z Ls H kind true).1) b
   rwa [show ((pushN c s Z Ls H kind true).1,Ls) = pushN c s Z Ls H kind true from Prod.ext rfl (key true h1).symm] at this
theorem dropC (H:Nat) (hH:H < 18446744073709551616) :
  Calls Tryz.prog 24 #[.pointer (some ⟨gq,0,none⟩),.int .u64 (H:Int)] w fun e w' => e = .returned (.int .i64 ((dropN c s Ls H).1:Int)) /\ Did w w' L c s bs Z gq gl (dropN c s Ls H):=by
 have hw:=h
 have SC:=standsC h H hH
 obtain ⟨F,S,q⟩:=h
 unfold dropN
 by_cases h0:stK (clsN c s H) Ls H = 0
 ·rw [if_pos h0] at SC ⊢
  refine (dropNo S H SC).mono ?_
  rintro e w' ⟨rfl,b⟩
  exact ⟨rfl,hw.same b⟩
 ·rw [if_neg h0]
  obtain ⟨k,i,y,p,hk,e,hf,ec,hx,hm⟩:=q.of_stK S.okc S.zs.good h0
  obtain ⟨l1,l2,hl,he,hz⟩:=q.split hx hk hm
  have hD:=(q.drop hx hk l1 l2 hl).2
  have hb:=q.nB S.okc S.zs.good hx hk
  have hn:=q.n _ _ hx hk
  have m1:∀ y ∈ l1,y ∈ Ls (s.cls i) k:=fun y hy => by rw [hl]; exact List.mem_append.2 (.inl hy)
  have m2:∀ y ∈ l2,y ∈ Ls (s.cls i) k:=fun y hy => by rw [hl]; exact List.mem_append.2 (.inr (List.mem_cons_of_mem _ hy))
  refine (dropYes S H k hk hf _ hz rfl (last_in.imp id fun h => q.is hx hk (m1 _ h)) (head_in.imp id fun h => q.is hx hk (m2 _ h)) (by rw [hn,hl,List.length_append,List.length_cons]; omega) (by omega)).mono ?_
  rintro e2 w' ⟨rfl,w1,b1,o1,bs',E1,S1⟩
  refine ⟨rfl,two_trans (below_two b1) o1,bs',_,E1,fun H' => (upd_some (jZ_it ⟨⟨i,y,p,hf⟩,_,hz⟩).2 H').trans jZ_some,fun h => absurd rfl h,_,S1,?_⟩
  show QI c s _ _ (outN (clsN c s H) Ls H)
  unfold outN
  rw [e,ec,Nat.add_sub_cancel,he]
  exact hD
end
theorem isN_it {c:Conf} {s:St} {Z:Nat -> Option Zd} {H:Nat} (h:It c s Z H):isN c s Z H = true:=by
 obtain ⟨⟨i,x,p,hf⟩,z,hz⟩:=h
 unfold isN
 rw [hf,hz]
 rfl
theorem pushN_congr {c:Conf} {s:St} {Z Z':Nat -> Option Zd} (h:∀ H,(Z' H).isSome = (Z H).isSome) (Ls:Nat -> Nat -> List Nat) (H:Nat) (kind:Int) (last:Bool):pushN c s Z' Ls H kind last = pushN c s Z Ls H kind last:=by
 unfold pushN isN
 rw [h H]
def shiftN (c:Conf) (s:St) (Ls:Nat -> Nat -> List Nat) (H:Nat) (kind:Int):Nat × (Nat -> Nat -> List Nat) :=
 if ¬ (1 <= kind /\ kind <= 3) then (1,Ls) else if stK (clsN c s H) Ls H = 0 then (20,Ls) else (0,putN (clsN c s H) (outN (clsN c s H) Ls H) H (kind.toNat - 1) false)
def aheadN (l:List Nat) (H:Nat):Nat:=(l.take (l.idxOf H)).getLast?.getD 0
def behindN (l:List Nat) (H:Nat):Nat:=(l.drop (l.idxOf H + 1)).head?.getD 0
def prevN (c:Conf) (s:St) (Ls:Nat -> Nat -> List Nat) (H:Nat):Nat:=if stK (clsN c s H) Ls H = 0 then 0 else aheadN (Ls (clsN c s H) (stK (clsN c s H) Ls H - 1)) H
def nextN (c:Conf) (s:St) (Ls:Nat -> Nat -> List Nat) (H:Nat):Nat:=if stK (clsN c s H) Ls H = 0 then 0 else behindN (Ls (clsN c s H) (stK (clsN c s H) Ls H - 1)) H
theorem idx_split {l1 l2:List Nat} {H:Nat} (h:H ∉ l1):(l1 ++ H :: l2).idxOf H = l1.length:=by
 rw [List.idxOf_append,if_neg h,List.idxOf_cons_self]
 simp
theorem ahead_split {l1 l2:List Nat} {H:Nat} (h:H ∉ l1):aheadN (l1 ++ H :: l2) H = l1.getLast?.getD 0:=by
 unfold aheadN
 rw [idx_split h,List.take_left]
theorem behind_split {l1 l2:List Nat} {H:Nat} (h:H ∉ l1):behindN (l1 ++ H :: l2) H = l2.head?.getD 0:=by
 unfold behindN
 rw [idx_split h,List.append_cons,List.drop_left' (by simp)]
section
variable {c:Conf} {s:St} {Z:Nat -> Option Zd} {F:QN} {Ls:Nat -> Nat -> List Nat} (q:QI c s Z F Ls)
include q
theorem QI.out0 (ok:c.cf.Ok) (g:Cls.Good c.cf s) {H:Nat} (h:stK (clsN c s H) Ls H ≠ 0):stK (clsN c s H) (outN (clsN c s H) Ls H) H = 0:=by
 obtain ⟨k,i,y,p,hk,e,hf,ec,hx,hm⟩:=q.of_stK ok g h
 obtain ⟨l1,l2,hl,he,hz⟩:=q.split hx hk hm
 have hnd:=q.nd _ _ hx hk
 rw [hl] at hnd
 obtain ⟨d1,d2,d3⟩:=List.nodup_append.1 hnd
 have n1:H ∉ l1:=fun e => d3 H e H (List.mem_cons_self ..) rfl
 have n2:H ∉ l2:=(List.nodup_cons.1 d2).1
 have key:∀ j,j < 3 -> H ∉ outN (clsN c s H) Ls H (clsN c s H) j:=by
  intro j hj hm'
  unfold outN at hm'
  rw [e,ec,Nat.add_sub_cancel,he] at hm'
  by_cases hjk:j = k
  ·subst hjk
   rw [updL_at] at hm'
   exact (List.mem_append.1 hm').elim n1 n2
  ·rw [updL_ne (fun e => hjk e.2)] at hm'
   exact hjk (q.dj _ _ _ _ H hx hj hx hk hm' hm).2
 unfold stK
 rw [if_neg (key 0 (by omega)),if_neg (key 1 (by omega)),if_neg (key 2 (by omega))]
theorem QI.links {H:Nat} (ok:c.cf.Ok) (g:Cls.Good c.cf s) (h:stK (clsN c s H) Ls H ≠ 0):∃ z,Z H = some z /\ It c s Z H /\ z.st = stK (clsN c s H) Ls H /\ z.a = prevN c s Ls H /\ z.b = nextN c s Ls H:=by
 obtain ⟨k,i,y,p,hk,e,hf,ec,hx,hm⟩:=q.of_stK ok g h
 obtain ⟨l1,l2,hl,he,hz⟩:=q.split hx hk hm
 have hnd:=q.nd _ _ hx hk
 rw [hl] at hnd
 have n1:H ∉ l1:=fun e => (List.nodup_append.1 hnd).2.2 H e H (List.mem_cons_self ..) rfl
 refine ⟨_,hz,⟨⟨i,y,p,hf⟩,_,hz⟩,e.symm,?_,?_⟩
 ·unfold prevN
  rw [if_neg h,e,ec,Nat.add_sub_cancel,hl,ahead_split n1]
 ·unfold nextN
  rw [if_neg h,e,ec,Nat.add_sub_cancel,hl,behind_split n1]
end
theorem did_trans {w w1 w2:World} {L:Lay} {c:Conf} {s:St} {bs bs1 bs2:List UInt8} {Z Z1 Z2:Nat -> Option Zd} {gl:Nat}
  (o1:Only (Two L gl) w w1) (o2:Only (Two L gl) w1 w2) (E1:Ed (Itp c s Z) bs bs1) (d1:∀ H,(Z1 H).isSome = (Z H).isSome) (E2:Ed (Itp c s Z1) bs1 bs2) (d2:∀ H,(Z2 H).isSome = (Z1 H).isSome) :
  Only (Two L gl) w w2 /\ Ed (Itp c s Z) bs bs2 /\ (∀ H,(Z2 H).isSome = (Z H).isSome):=by
 rw [itp_congr d1] at E2
 exact ⟨two_trans o1 o2,E1.trans E2,fun H => (d2 H).trans (d1 H)⟩
section
variable {w:World} {L:Lay} {c:Conf} {s:St} {bs:List UInt8} {Z:Nat -> Option Zd} {gq gl:Nat} {Ls:Nat -> Nat -> List Nat} (h:QW w L c s bs Z gq gl Ls)
include h
theorem shiftC (H:Nat) (hH:H < 18446744073709551616) (kind:Int) :
  Calls Tryz.prog 25 #[.pointer (some ⟨gq,0,none⟩),.int .u64 (H:Int),.int .i64 kind] w fun e w' => e = .returned (.int .i64 ((shiftN c s Ls H kind).1:Int)) /\ Did w w' L c s bs Z gq gl (shiftN c s Ls H kind):=by
 have IK:=isKindC w kind
 have DC:=dropC h H hH
 have hw:=Lib.hid h
 by_cases hk : 1 <= kind /\ kind <= 3
 ·rw [decide_eq_true hk] at IK
  replace IK:=Lib.hid IK
  by_cases h0:stK (clsN c s H) Ls H = 0
  ·have er:shiftN c s Ls H kind = (20,Ls):=by unfold shiftN; rw [if_neg (Classical.not_not.2 hk),if_pos h0]
   have er2:dropN c s Ls H = (20,Ls):=by unfold dropN; rw [if_pos h0]
   rw [er]
   rw [er2] at DC
   replace DC:=Lib.hid DC
   clear h hk h0 er er2
   go_enter Tryz.func25,Tryz.ntmps25
   go_wp2_with fail
   refine IK.out.mono ?_
   rintro e w1 ⟨rfl,rfl⟩
   go_wp2_with fail
   refine DC.out.mono ?_
   rintro e w1 ⟨rfl,D⟩
   replace D:=Lib.hid D
   go_wp2
   go_ret
   exact ⟨rfl,D.out⟩
  ·have er:shiftN c s Ls H kind = (0,putN (clsN c s H) (outN (clsN c s H) Ls H) H (kind.toNat - 1) false):=by unfold shiftN; rw [if_neg (Classical.not_not.2 hk),if_neg h0]
   have er2:dropN c s Ls H = (0,outN (clsN c s H) Ls H):=by unfold dropN; rw [if_neg h0]
   obtain ⟨F,S,q⟩:=h
   obtain ⟨z,hz,hI, -⟩:=q.links S.okc S.zs.good h0
   have er3:pushN c s Z (outN (clsN c s H) Ls H) H kind false = (0,putN (clsN c s H) (outN (clsN c s H) Ls H) H (kind.toNat - 1) false):=by
    unfold pushN
    rw [if_neg (Classical.not_not.2 hk),if_neg (by rw [isN_it hI]; exact Bool.noConfusion),if_neg (Classical.not_not.2 (q.out0 S.okc S.zs.good h0))]
   rw [er]
   rw [er2] at DC
   replace DC:=Lib.hid DC
   replace er3:=Lib.hid er3
   clear hk h0 er er2 q S hz hI
   go_enter Tryz.func25,Tryz.ntmps25
   go_wp2_with fail
   refine IK.out.mono ?_
   rintro e w1 ⟨rfl,rfl⟩
   go_wp2_with fail
   refine DC.out.mono ?_
   rintro e w1 ⟨rfl,D⟩
   obtain ⟨o1,bs1,Z1,E1,d1, -,Q1⟩:=D
   have PC:=(pushC Q1 H hH kind).1
   rw [pushN_congr d1,er3.out] at PC
   replace PC:=Lib.hid PC
   replace o1:=Lib.hid o1
   replace E1:=Lib.hid E1
   replace d1:=Lib.hid d1
   clear Q1 DC
   go_wp2_with fail
   refine PC.out.mono ?_
   rintro e w2 ⟨rfl,D⟩
   replace D:=Lib.hid D
   go_wp2
   go_ret
   obtain ⟨o2,bs2,Z2,E2,d2, -,Q2⟩:=D.out
   obtain ⟨o3,E3,d3⟩:=did_trans o1.out o2 E1.out d1.out E2 d2
   exact ⟨rfl,o3,bs2,Z2,E3,d3,fun h => absurd rfl h,Q2⟩
 ·have er:shiftN c s Ls H kind = (1,Ls):=by unfold shiftN; rw [if_pos hk]
  rw [decide_eq_false hk] at IK
  rw [er]
  replace IK:=Lib.hid IK
  clear h hk DC er
  go_enter Tryz.func25,Tryz.ntmps25
  go_wp2_with fail
  refine IK.out.mono ?_
  rintro e w1 ⟨rfl,rfl⟩
  go_wp2
  go_ret
  exact ⟨rfl,hw.out.same (Below.refl _ _)⟩
theorem nextC (H:Nat) (hH:H < 18446744073709551616) (j:Int) (T:Nat) (hj:j = 1 /\ T = prevN c s Ls H \/ j = 2 /\ T = nextN c s Ls H) :
  Calls Tryz.prog 112 #[.pointer (some ⟨gq,0,none⟩),.int .u64 (H:Int),.int .i64 j] w fun e w' => e = .returned (.tuple #[.int .u64 (T:Int),.bool (decide (T ≠ 0))]) /\ Below w.heap.size w w':=by
 have SC:=standsC h H hH
 by_cases h0:stK (clsN c s H) Ls H = 0
 ·have hT:T = 0:=by
   rcases hj with ⟨-,rfl⟩ | ⟨-,rfl⟩
   ·unfold prevN; rw [if_pos h0]
   ·unfold nextN; rw [if_pos h0]
  subst hT
  rw [if_pos h0] at SC
  replace SC:=Lib.hid SC
  clear h hj h0
  go_enter Tryz.func112,Tryz.ntmps112
  go_wp2_with fail
  refine SC.out.mono ?_
  rintro e w1 ⟨rfl,b1⟩
  replace b1:=Lib.hid b1
  go_wp2
  go_ret2
  exact ⟨rfl,b1.out⟩
 ·rw [if_neg h0] at SC
  obtain ⟨F,S,q⟩:=h
  obtain ⟨z,hz,hI, -,ea,eb⟩:=q.links S.okc S.zs.good h0
  have LC:∀ w1,QS w1 L c s bs Z gq gl F -> Calls Tryz.prog 65 #[.pointer (some ⟨L.g,0,none⟩),.int .u64 (H:Int),.int .i64 j] w1 fun e w' => e = .returned (.tuple #[.int .u64 (T:Int),.int .i64 0]) /\ Below w1.heap.size w1 w':=by
   intro w1 S1
   obtain ⟨A,B⟩:=zLinksC S1 H hI z hz
   rcases hj with ⟨rfl,rfl⟩ | ⟨rfl,rfl⟩
   ·rw [ea] at A; exact A
   ·rw [eb] at B; exact B
  replace LC:=Lib.hid LC
  replace SC:=Lib.hid SC
  replace S:=Lib.hid S
  clear q hz hI ea eb hj h0
  by_cases t0:T = 0
  ·subst t0
   go_enter Tryz.func112,Tryz.ntmps112
   go_wp2_with fail
   refine SC.out.mono ?_
   rintro e w1 ⟨rfl,b1⟩
   have S1:=S.out.below b1
   have q0:=S1.q.c0
   have LC:=Lib.hid (LC.out w1 S1)
   replace b1:=Lib.hid b1
   clear SC S1 S
   go_wp2_with fail
   refine LC.out.mono ?_
   rintro e w2 ⟨rfl,b2⟩
   replace b2:=Lib.hid (b1.out.trans (b2.mono b1.out.size))
   go_wp2
   go_ret2
   exact ⟨rfl,b2.out⟩
  ·obtain ⟨d1,d2⟩:=ne0 t0
   rw [decide_eq_true t0]
   go_enter Tryz.func112,Tryz.ntmps112
   go_wp2_with fail
   refine SC.out.mono ?_
   rintro e w1 ⟨rfl,b1⟩
   have S1:=S.out.below b1
   have q0:=S1.q.c0
   have LC:=Lib.hid (LC.out w1 S1)
   replace b1:=Lib.hid b1
   clear SC S1 S
   go_wp2_with fail
   refine LC.out.mono ?_
   rintro e w2 ⟨rfl,b2⟩
   replace b2:=Lib.hid (b1.out.trans (b2.mono b1.out.size))
   go_wp2
   go_ret2
   exact ⟨rfl,b2.out⟩
theorem aheadC (H:Nat) (hH:H < 18446744073709551616):Calls Tryz.prog 60 #[.pointer (some ⟨gq,0,none⟩),.int .u64 (H:Int)] w fun e w' => e = .returned (.tuple #[.int .u64 (prevN c s Ls H:Int),.bool (decide (prevN c s Ls H ≠ 0))]) /\ Below w.heap.size w w':=by
 have NC:=nextC h H hH 1 _ (.inl ⟨rfl,rfl⟩)
 generalize prevN c s Ls H = T at *
 obtain ⟨B,hB⟩:∃ B,B = decide (T ≠ 0):=⟨_,rfl⟩
 rw [<- hB] at NC ⊢
 clear hB
 replace NC:=Lib.hid NC
 clear h
 go_enter Tryz.func60,Tryz.ntmps60
 go_wp2_with fail
 refine NC.out.mono ?_
 rintro e w1 ⟨rfl,b1⟩
 replace b1:=Lib.hid b1
 go_wp2
 go_ret2
 exact ⟨rfl,b1.out⟩
theorem behindC (H:Nat) (hH:H < 18446744073709551616):Calls Tryz.prog 61 #[.pointer (some ⟨gq,0,none⟩),.int .u64 (H:Int)] w fun e w' => e = .returned (.tuple #[.int .u64 (nextN c s Ls H:Int),.bool (decide (nextN c s Ls H ≠ 0))]) /\ Below w.heap.size w w':=by
 have NC:=nextC h H hH 2 _ (.inr ⟨rfl,rfl⟩)
 generalize nextN c s Ls H = T at *
 obtain ⟨B,hB⟩:∃ B,B = decide (T ≠ 0):=⟨_,rfl⟩
 rw [<- hB] at NC ⊢
 clear hB
 replace NC:=Lib.hid NC
 clear h
 go_enter Tryz.func61,Tryz.ntmps61
 go_wp2_with fail
 refine NC.out.mono ?_
 rintro e w1 ⟨rfl,b1⟩
 replace b1:=Lib.hid b1
 go_wp2
 go_ret2
 exact ⟨rfl,b1.out⟩
end
def lsN (c:Conf) (Ls:Nat -> Nat -> List Nat) (x kind:Int):List Nat:=if 0 <= x /\ x < (c.nc:Int) /\ 1 <= kind /\ kind <= 3 then Ls x.toNat (kind.toNat - 1) else []
section
variable {w:World} {L:Lay} {c:Conf} {s:St} {bs:List UInt8} {Z:Nat -> Option Zd} {gq gl:Nat} {Ls:Nat -> Nat -> List Nat} (h:QW w L c s bs Z gq gl Ls) (x kind:Int)
include h
theorem headC:Calls Tryz.prog 51 #[.pointer (some ⟨gq,0,none⟩),.int .i64 x,.int .i64 kind] w fun e w' => e = .returned (.tuple #[.int .u64 ((lsN c Ls x kind).head?.getD 0:Int),.bool (decide (0 < (lsN c Ls x kind).length))]) /\ w = w':=by
 obtain ⟨F,S,q⟩:=h
 unfold lsN
 by_cases hv : 0 <= x /\ x < (c.nc:Int) /\ 1 <= kind /\ kind <= 3
 ·rw [if_pos hv]
  obtain ⟨X,hX,rfl⟩:∃ X:Nat,X < c.nc /\ x = (X:Int):=⟨x.toNat,by omega,by omega⟩
  obtain ⟨k,hk,rfl⟩:∃ k:Nat,k < 3 /\ kind = (k:Int) + 1:=⟨kind.toNat - 1,by omega,by omega⟩
  have e1:((k:Int) + 1).toNat - 1 = k:=by omega
  rw [Int.toNat_natCast,e1]
  by_cases h0:F.n X k = 0
  ·have hl:Ls X k = []:=List.length_eq_zero_iff.1 ((q.n X k hX hk).symm.trans h0)
   rw [hl]
   exact headZero S.q X k hX hk S.okc.ncb h0
  ·have:=headYes S.q X k hX hk S.okc.ncb h0
   rw [q.hd X k hX hk] at this
   rw [decide_eq_true (by rw [<- q.n X k hX hk]; omega)]
   exact this
 ·rw [if_neg hv]
  exact headNo S.q x kind hv
theorem tailC:Calls Tryz.prog 28 #[.pointer (some ⟨gq,0,none⟩),.int .i64 x,.int .i64 kind] w fun e w' => e = .returned (.tuple #[.int .u64 ((lsN c Ls x kind).getLast?.getD 0:Int),.bool (decide (0 < (lsN c Ls x kind).length))]) /\ w = w':=by
 obtain ⟨F,S,q⟩:=h
 unfold lsN
 by_cases hv : 0 <= x /\ x < (c.nc:Int) /\ 1 <= kind /\ kind <= 3
 ·rw [if_pos hv]
  obtain ⟨X,hX,rfl⟩:∃ X:Nat,X < c.nc /\ x = (X:Int):=⟨x.toNat,by omega,by omega⟩
  obtain ⟨k,hk,rfl⟩:∃ k:Nat,k < 3 /\ kind = (k:Int) + 1:=⟨kind.toNat - 1,by omega,by omega⟩
  have e1:((k:Int) + 1).toNat - 1 = k:=by omega
  rw [Int.toNat_natCast,e1]
  by_cases h0:F.n X k = 0
  ·have hl:Ls X k = []:=List.length_eq_zero_iff.1 ((q.n X k hX hk).symm.trans h0)
   rw [hl]
   exact tailZero S.q X k hX hk S.okc.ncb h0
  ·have:=tailYes S.q X k hX hk S.okc.ncb h0
   rw [q.tl X k hX hk] at this
   rw [decide_eq_true (by rw [<- q.n X k hX hk]; omega)]
   exact this
 ·rw [if_neg hv]
  exact tailNo S.q x kind hv
theorem lenC:Calls Tryz.prog 29 #[.pointer (some ⟨gq,0,none⟩),.int .i64 x,.int .i64 kind] w fun e w' => e = .returned (.int .i64 ((lsN c Ls x kind).length:Int)) /\ w = w':=by
 obtain ⟨F,S,q⟩:=h
 unfold lsN
 by_cases hv : 0 <= x /\ x < (c.nc:Int) /\ 1 <= kind /\ kind <= 3
 ·rw [if_pos hv]
  obtain ⟨X,hX,rfl⟩:∃ X:Nat,X < c.nc /\ x = (X:Int):=⟨x.toNat,by omega,by omega⟩
  obtain ⟨k,hk,rfl⟩:∃ k:Nat,k < 3 /\ kind = (k:Int) + 1:=⟨kind.toNat - 1,by omega,by omega⟩
  have e1:((k:Int) + 1).toNat - 1 = k:=by omega
  rw [Int.toNat_natCast,e1, <- q.n X k hX hk]
  exact lenYes S.q X k hX hk S.okc.ncb
 ·rw [if_neg hv]
  exact lenNo S.q x kind hv
end
end Go.Proofs.YtfjiphibalhcgaaGreat.Que
/-
  item.Read of no set.
-/
namespace Go.Proofs.YtfjiphibalhcgaaGreat.Itm
open Go.RowKit Base Arena Cls
def zi:Array Value:=#[.slice none 0 0,.slice none 0 0,.int .u64 0,.int .i64 0,.int .i64 0,.int .u64 0,.int .i64 0,.int .i64 0]
end Go.Proofs.YtfjiphibalhcgaaGreat.Itm
/-
  A region that draws its order, of operations that read, draw or make memory: one obligation an operation, under what is known of the operations that it waits for; then a tail in one forced order. Nothing here names the program.
-/
namespace Go.Proofs.YtfjiphibalhcgaaGreat.Rel
open Go
def valOf (o:Oper) (a:Act):Value:=match o.dst with | some d => a.tmps.getD d undef | none => undef
section
variable {P:Program} {ops:Array Oper} {Q:Exit -> Act -> World -> Prop} {n:Nat} {a0:Act} {R:World -> Prop} {le:World -> World -> Prop} {Φ:Nat -> Value -> World -> Prop} {Ψ:Nat -> Nat -> Value -> Value -> Prop}
structure RInv (ops:Array Oper) (n:Nat) (a0:Act) (R:World -> Prop) (Φ:Nat -> Value -> World -> Prop) (Ψ:Nat -> Nat -> Value -> Value -> Prop) (listed:Array Bool) (a:Act) (w:World):Prop where
 head:HeadInv .any ops n listed
 world:R w
 size:a.tmps.size = a0.tmps.size
 defers:a.defers = a0.defers
 rest:∀ k,(∀ i o,i < n -> ops[i]? = some o -> o.dst ≠ some k) -> a.tmps.getD k undef = a0.tmps.getD k undef
 known:∀ i o,i < n -> ops[i]? = some o -> listed.getD i false = true -> Φ i (valOf o a) w
 pairs:∀ i j oi oj,i < n -> j < n -> i ≠ j -> ops[i]? = some oi -> ops[j]? = some oj -> listed.getD i false = true -> listed.getD j false = true -> Ψ i j (valOf oi a) (valOf oj a) /\ Ψ j i (valOf oj a) (valOf oi a)
end
end Go.Proofs.YtfjiphibalhcgaaGreat.Rel
/-
  item.Read of a chunk that has an item (printed by wip/gen_read.py).
-/
namespace Go.Proofs.YtfjiphibalhcgaaGreat.Itm
open Go.RowKit Base Arena Cls Rel
section
variable {B:Nat} {w0 w w':World} {L:Lay} {c:Conf} {s:St} {bs:List UInt8} {N H i x p k n:Nat}
end
def sep (x y i j:Nat) (v u:Value):Prop:=∀ (b b' n n' c c':Nat),i = x -> j = y -> v = .slice (some ⟨b,0,none⟩) n c -> u = .slice (some ⟨b',0,none⟩) n' c' -> b ≠ b'
structure RS (w0 w:World) (L:Lay) (c:Conf) (s:St) (bs:List UInt8) (N N1 p k n:Nat):Prop where
 os:OS N w0 w L c s bs N1 p k n
 blk:Blk w N 103 zi
structure RK (B:Nat) (w0 w:World) (L:Lay) (c:Conf) (s:St) (bs:List UInt8) (N p k n:Nat) (A:Option Addr) (l:List UInt8):Prop where
 os:OS B w0 w L c s bs N p k n
 by_:Bytes w w.heap.size A l
section
variable (w:World) (L:Lay) (c:Conf) (s:St) (bs:List UInt8) (h:SetAt w L c s bs) (g:Cls.Good c.cf s)
include h g
end
end Go.Proofs.YtfjiphibalhcgaaGreat.Itm
/-
  The statements' configurations; Within.
-/
namespace Go.Proofs.YtfjiphibalhcgaaGreat.Itm
open Go.RowKit Base Arena Cls
theorem tmod_emod2 (i n:Int):(i.tmod n) % n = i % n:=by
  have h:=Int.mul_tdiv_add_tmod i n
  conv => rhs; rw [<- h]
  rw [Int.add_comm,Int.add_mul_emod_self_left]
theorem withinI (i:Int) (n:Nat) (hi:Cls.In i) (hn : 1 <= n) (hn2:n <= 1073741824) (w:World) :
    Calls Tryz.prog 16 #[.int .i64 i,.int .i64 (n:Int)] w fun e w' => e = .returned (.int .i64 (((i % (n:Int)).toNat:Nat):Int)) /\ w = w':=by
  obtain ⟨h1,h2⟩:=hi
  have t1:=Int.tmod_lt_of_pos i (show 0 < (n:Int) by omega)
  have t2:=Int.lt_tmod_of_pos i (show 0 < (n:Int) by omega)
  have t3:=Int.emod_nonneg (i.tmod n) (show (n:Int) ≠ 0 by omega)
  have t4:=Int.emod_lt_of_pos (i.tmod n) (show 0 < (n:Int) by omega)
  have he:=Lib.hid (show (i.tmod n + n) % n = i % n by have:=Int.add_mul_emod_self_left (i.tmod n) n 1; rw [Int.mul_one] at this; rw [this]; exact tmod_emod2 i n)
  have hz:(n:Int) ≠ 0:=by omega
  have h0:=Int.emod_nonneg i (show (n:Int) ≠ 0 by omega)
  rw [Int.toNat_of_nonneg h0]
  clear h0
  go_enter Tryz.func16,Tryz.ntmps16
  go_wp2
  go_ret
  exact ⟨by rw [<- he.out]; rfl,rfl⟩
theorem withinI_lt (i:Int) {n:Nat} (hn : 1 <= n):(i % (n:Int)).toNat < n:=by
  have h0:=Int.emod_nonneg i (show (n:Int) ≠ 0 by omega)
  have h1:=Int.emod_lt_of_pos i (show 0 < (n:Int) by omega)
  omega
theorem setRow_blk {w:World} {g:Nat} {t:TypeId} {c c':Array Value} (hg:Blk w g t c):Blk (w.setRow g c') g t c':=by
  unfold Blk World.setRow at *
  simp only [Array.getElem?_modify,if_true,hg,Option.map_some]
theorem setRow_only (w:World) (g:Nat) (c':Array Value):Only (· = g) w (w.setRow g c') :=
  ⟨rfl,rfl,rfl,by simp [World.setRow],fun k hk hs => by simp only [World.setRow,Array.getElem?_modify]; rw [if_neg (fun e => hs e.symm)]⟩
theorem blk_new' {w:World} {n:Nat} (h:w.heap.size = n) {t:TypeId} {cs:Array Value}:Blk (w.alloc (.cells cs t)) n t cs:=by subst h; exact Blk.new w t cs
theorem wp_store_whole {P:Program} {o:Oper} {a:Act} {w:World} {K:Act -> World -> Prop} {Q:Exit -> Act -> World -> Prop} (t:TypeId) (x y:Operand) (ho:o.op = .store t x y) (g:Nat) (c c':Array Value) (hx:a.eval x = .pointer (some ⟨g,0,none⟩)) (hy:a.eval y = .agg c')
    (hg:Blk w g t c) (hi:(P.info? t).map (·.size) = some c'.size) (hs:c.size = c'.size) (h1:c'.all (·.oneCell') = true) (hK:∀ w',Blk w' g t c' -> Only (· = g) w w' -> w'.heap.size = w.heap.size -> K (a.put o.dst undef) w'):o.wp P a w K Q:=by
  have hr:=run_storeVar_row (P:=P) w g t t c c' hg hi hs h1
  unfold Oper.wp
  simp only [execOp,ho,hx,hy,Instr.storeAt,Instr.sureAddr,Sem.run_bind,Sem.run_pure,Result.andThen,hr]
  refine hK _ ?_ ?_ ?_
  · exact setRow_blk hg
  · exact setRow_only w g c'
  · simp [World.setRow]
end Go.Proofs.YtfjiphibalhcgaaGreat.Itm
/-
  The walk of Take.
-/
namespace Go.Proofs.YtfjiphibalhcgaaGreat.Cls
open Go.RowKit Base MapG
theorem takeNo (w:World) (L:Lay) (c:Conf) (s:St) (bs:List UInt8) (h:SetAt w L c s bs) (k:Nat) (hk:k < c.nc) (hr:roomS c.cf s k = none) :
  Calls Tryz.prog 55 #[.pointer (some ⟨L.g,0,none⟩),.int .i64 (k:Int)] w fun e w' => e = .returned (.tuple #[.int .u64 0,.int .i64 21]) /\ w = w':=by
 have hf:s.free k = [] /\ low c.cf s = none:=by
  unfold roomS at hr
  split at hr
  ·rename_i e
   split at hr
   ·cases hr
   ·rename_i e2; exact ⟨e,e2⟩
  ·cases hr
 have IC:=isC h (k:Int)
 rw [decide_eq_true (show (0:Int) <= (k:Int) /\ (k:Int) < (c.nc:Int) by omega)] at IC
 replace IC:=Lib.hid IC
 have WC:=Lib.hid (widenNo w L c s bs h k (low_none hf.2))
 have c10:=h.cRows
 have r0:=h.r0 hk
 have own:=h.freeB hk
 rw [hf.1] at own
 obtain ⟨A,cp,hF⟩:=own_is own
 rw [hF] at r0
 clear h own hf hr hF
 have k0:(0:Int) <= (k:Int):=by omega
 have k1:(k:Int) < (c.nc:Int):=by omega
 go_enter Tryz.func55,Tryz.ntmps55
 go_wp2_with fail
 refine IC.out.mono ?_
 rintro e w' ⟨rfl,rfl⟩
 go_wp2_with fail
 refine WC.out.mono ?_
 rintro e w' ⟨rfl,rfl⟩
 go_wp2
 go_ret2
 exact ⟨rfl,rfl⟩
def takeB (bs:List UInt8) (p g:Nat):List UInt8:=lay (lay bs p (List.replicate 56 0)) (p + 12) (Arena.putB 4 g)
set_option maxHeartbeats 3200000 in
theorem takeYes (w:World) (L:Lay) (c:Conf) (s:St) (bs:List UInt8) (h:SetAt w L c s bs) (g:Good c.cf s) (k:Nat) (hk:k < c.nc) (s1:St) (hr:roomS c.cf s k = some s1) (l:List Nat) (p:Nat) (hp:s1.free k = l ++ [p]) :
  Calls Tryz.prog 55 #[.pointer (some ⟨L.g,0,none⟩),.int .i64 (k:Int)] w fun e w' =>
   e = .returned (.tuple #[.int .u64 (hnd p (s1.gens (p / c.cf.ps) (p % c.cf.ps / c.sz k)):Int),.int .i64 0]) /\
   ∃ L',L'.g = L.g /\ SetAt w' L' c (takeS c.cf s1 k p) (takeB bs p (s1.gens (p / c.cf.ps) (p % c.cf.ps / c.sz k))) /\ Went w w' L L' c s (takeS c.cf s1 k p):=by
 have IC:=isC h (k:Int)
 rw [decide_eq_true (show (0:Int) <= (k:Int) /\ (k:Int) < (c.nc:Int) by omega)] at IC
 replace IC:=Lib.hid IC
 have ok:=h.okc
 have g1:=(room_good ok g hk hr).1
 have HW:(∃ a t,s.free k = a :: t) /\ s1 = s \/ s.free k = [] /\ (Calls Tryz.prog 97 #[.pointer (some ⟨L.g,0,none⟩),.int .i64 (k:Int)] w fun e w' => e = .returned (.bool true) /\
   ∃ L',L'.g = L.g /\ L'.gr = L.gr /\ SetAt w' L' c s1 bs /\ Went w w' L L' c s s1):=by
  unfold roomS at hr
  split at hr
  ·rename_i he
   split at hr
   ·rename_i i hlow
    injection hr with hr
    subst hr
    obtain ⟨a1,a2,a3⟩:=low_some hlow
    exact .inr ⟨he,widenYes w L c s bs h g k i hk a1 a2 a3⟩
   ·cases hr
  ·rename_i a t he
   injection hr with hr
   exact .inl ⟨⟨a,t,he⟩,hr.symm⟩
 have c10:=h.cRows
 have r0:=h.r0 hk
 have own:=h.freeB hk
 have hS:=Lib.hid h
 have hfl:=g.short ok hk
 clear hr h
 have k0:(0:Int) <= (k:Int):=by omega
 have k1:(k:Int) < (c.nc:Int):=by omega
 go_enter Tryz.func55,Tryz.ntmps55
 go_wp2_with fail
 refine IC.out.mono ?_
 rintro e w' ⟨rfl,rfl⟩
 go_upto_region 4 with fail
 go_cut [31] from 20 to 31 (fun s31 wx => s31 = .bool false /\ ∃ L1,L1.g = L.g /\ L1.gr = L.gr /\ SetAt wx L1 c s1 bs /\ Went w wx L L1 c s s1)
 case first =>
  rcases HW with ⟨⟨a,t,he⟩,rfl⟩ | ⟨he,WC⟩
  ·rw [he] at own
   obtain ⟨A,cp,hF⟩:=own_is own
   rw [hF] at r0
   have hln:decide (((t.length + 1:Nat):Int) = 0) = false:=by simp; omega
   have hln2:(((a :: t).length:Nat)) = t.length + 1:=rfl
   rw [hln2] at r0
   clear own hF hln2
   go_wp2_with fail
   go_meet
   exact ⟨rfl,L,rfl,rfl,hS.out,Went.refl _ _ _ _⟩
  ·rw [he] at own
   obtain ⟨A,cp,hF⟩:=own_is own
   rw [hF] at r0
   replace WC:=Lib.hid WC
   clear own hF
   go_wp2_with fail
   refine WC.out.mono ?_
   rintro e w1 ⟨rfl,L1,e1,e2,H1,W1⟩
   go_wp2_with fail
   go_meet
   exact ⟨rfl,L1,e1,e2,H1,W1⟩
 case rest =>
  obtain ⟨rfl,L1,eg,egr,H1,W1⟩:=hcut
  obtain ⟨i,x,h1,h2,h3,h4,h5,h6,hpe,e1,e2⟩:=g1.last ok hk (p:=p) (by rw [hp]; simp)
  have e2':p % c.cf.ps / c.sz k = x:=e2
  have hTake:takeS c.cf s1 k p = { s1 with free:=upd s1.free k l,rt:=upd s1.rt k (s1.rt k + 1),tkn:=upd s1.tkn i (upd (s1.tkn i) x true),held:=upd s1.held i (s1.held i + 1) }:=by
   unfold takeS
   rw [e1,e2,hp,List.dropLast_concat]
  have own1:=H1.freeB hk
  rw [hp,List.length_append,List.length_singleton] at own1
  obtain ⟨b,cap,hF,cp, -,hbl⟩:=own_iv (x:=p) (i:=l.length) own1 (by simp)
  rw [hF] at own1
  have own2:=own_drop (x:=iv p) (by rw [List.map_append] at own1; exact own1)
  have hll:l.length + 1 <= 1073741824:=by
   have:=g1.short ok hk
   rw [hp,List.length_append,List.length_singleton] at this
   exact this
  have r0':wc.cell? ⟨L.gr,k * 4,none⟩ = some (.slice (some ⟨b,0,none⟩) (l.length + 1) cap):=by rw [<- egr,H1.r0 hk,hF]
  have hrt:s1.rt k <= 16777216:=by
   rw [g1.rt k hk]
   have:∀ n,sumTo (fun j => if s1.own j && s1.cls j == k then s1.held j else 0) n <= n * 16384:=by
    intro n
    induction n with
    | zero => exact Nat.le_refl _
    | succ n ih =>
     simp only [sumTo]
     have:(if s1.own n && s1.cls n == k then s1.held n else 0) <= 16384:=by
      split
      ·rename_i hh
       have ho:s1.own n = true:=by revert hh; cases s1.own n <;> simp
       have hn:=g1.top n ho
       rw [g1.held n hn ho]
       exact Nat.le_trans cnt_le (n_pos ok (g1.cls n hn ho)).2
      ·omega
     omega
   have h9:=this c.cf.np
   have:=ok.npb
   omega
  have hld:s1.held i <= 16384:=by
   rw [g1.held i h1 h2]
   exact Nat.le_trans cnt_le (by rw [h3]; exact (n_pos ok hk).2)
  have hgen:=g1.gen i x
  have hpb:p <= 1073741824 - 64 /\ p < c.cf.ps * c.cf.np:=by
   have:=there_of ok hk h1 h5 0 64 (by omega)
   rw [Nat.add_zero, <- hpe] at this
   obtain ⟨-, -,t3, -⟩:=this
   have:=Nat.mul_le_mul ok.psb ok.npb
   omega
  have th1:=there_of ok hk h1 h5 0 56 (by omega)
  have th2:=there_of ok hk h1 h5 12 4 (by omega)
  rw [Nat.add_zero, <- hpe] at th1
  rw [<- hpe] at th2
  have hn2:=(n_pos ok hk).2
  have q1:IntKind.i64.wrap (((l.length + 1:Nat):Int) - 1) = (l.length:Int):=by rw [IntWalk.i64_in _ (by omega)]; omega
  have q1':IntKind.i64.wrap ((l.length:Int) + 1 - 1) = (l.length:Int):=by rw [IntWalk.i64_in _ (by omega)]; omega
  have l0:(0:Int) <= (l.length:Int):=by omega
  have q1w:IntKind.i64.wrap (l.length:Int) = (l.length:Int):=IntWalk.i64_in _ (by omega)
  have l1:(l.length:Int) < ((l.length + 1:Nat):Int):=by omega
  have l1':(l.length:Int) < (l.length:Int) + 1:=by omega
  have l2:l.length < l.length + 1:=Nat.lt_succ_self _
  have hcap:l.length + 1 <= cap:=by
   rcases own1.2 with ⟨hv, -⟩ | ⟨g',cap',cur,hv, -, -,hc, -⟩
   ·cases hv
   ·injection hv with _ _ e; omega
  have hc1:(l.length:Int) <= (cap:Int):=by omega
  have hc2:l.length <= cap:=by omega
  have HC:=Lib.hid fun W => handleC W p (s1.gens i x) (by omega) hgen
  replace hpe:=Lib.hid hpe
  replace hTake:=Lib.hid hTake
  replace H1:=Lib.hid H1
  replace W1:=Lib.hid W1
  replace ok:=Lib.hid ok
  replace own1:=Lib.hid own1
  replace own2:=Lib.hid own2
  replace e2':=Lib.hid e2'
  replace e2:=Lib.hid e2
  replace e1:=Lib.hid e1
  replace hp:=Lib.hid hp
  replace hF:=Lib.hid hF
  clear HW own r0 c10 IC hS
  go_upto_region 6 with fail
  go_quiet (fail)
  go_upto_region 7 with fail
  obtain ⟨w2,hw2⟩:∃ w2,w2 = wc.drewN nq:=⟨_,rfl⟩
  rw [<- hw2]
  have H2:SetAt w2 L1 c s1 bs:=by rw [hw2]; exact H1.out.drewN nq
  have W2:Went w w2 L L1 c s s1:=by rw [hw2]; exact W1.out.next ((Only.refl _ _).drewN nq) (fun _ => rfl)
  have own3:w2.ownsRow 0 3 1 (.slice (some ⟨b,0,none⟩) l.length cap) l.length (l.map iv):=by rw [hw2]; exact own2.out
  have r0:w2.cell? ⟨L.gr,k * 4,none⟩ = some (.slice (some ⟨b,0,none⟩) (l.length + 1) cap):=by rw [hw2]; exact r0'
  have z0:w2.frozen? ⟨L.gr,k * 4,none⟩ = false:=by rw [<- egr]; exact H2.fzR _
  replace hw2:=Lib.hid hw2
  replace H2:=Lib.hid H2
  replace W2:=Lib.hid W2
  replace own3:=Lib.hid own3
  clear H1 W1 own1 own2 r0' cp hw2
  go_still_tail 14,(by kernel_rfl)
  change wpList _ _ _ _ _ w2.drew
  go_upto_region 8 with fail
  obtain ⟨L3,hL3⟩:∃ L3,L3 = ({ L1 with F:=upd L1.F k (.slice (some ⟨b,0,none⟩) l.length cap) }:Lay):=⟨_,rfl⟩
  obtain ⟨w3,hw3⟩:∃ w3,w3 = (w2.setCell ⟨L.gr,k * 4,none⟩ (.slice (some ⟨b,0,none⟩) l.length cap)).drew:=⟨_,rfl⟩
  rw [<- hw3]
  obtain ⟨s3,hs3⟩:∃ s3,s3 = ({ s1 with free:=upd s1.free k l }:St):=⟨_,rfl⟩
  have hFb:(L1.F k).ownBlock = some b:=by rw [hF.out]; rfl
  have H3:SetAt w3 L3 c s3 bs:=by
   rw [hw3,hL3,hs3, <- egr]
   exact (H2.out.setFree k hk (.slice (some ⟨b,0,none⟩) l.length cap) l w2 (Only.refl (fun b' => (L1.F k).ownBlock = some b') _) (fun _ e _ => e) own3.out (fun b' e => .inl (by rw [hFb]; exact e))).drew
  have W3:Went w w3 L L3 c s s3:=by
   rw [hw3,hL3,hs3, <- egr]
   refine W2.out.next ((Only.refl _ w2).setCell (p:=⟨L1.gr,k * 4,none⟩) (fun _ => ⟨.rows,rfl⟩) _).drew fun q => ?_
   cases q with
   | free j =>
    by_cases hj:j = k
    ·subst hj
     show (if j < c.cf.nc then (upd L1.F j (Value.slice (some ⟨b,0,none⟩) l.length cap) j).ownBlock else none) = (if j < c.cf.nc then (L1.F j).ownBlock else none)
     rw [upd_at,hFb]; rfl
    ·show (if j < c.cf.nc then (upd L1.F k (Value.slice (some ⟨b,0,none⟩) l.length cap) j).ownBlock else none) = (if j < c.cf.nc then (L1.F j).ownBlock else none)
     rw [upd_ne _ _ hj]
   | _ => rfl
  have e3g:L3.g = L.g:=by rw [hL3]; exact eg
  have e3r:L3.gr = L.gr:=by rw [hL3]; exact egr
  have t1:s3.own = s1.own:=by rw [hs3]
  have t2:s3.cls = s1.cls:=by rw [hs3]
  have t3:s3.tkn = s1.tkn:=by rw [hs3]
  have t4:s3.held = s1.held:=by rw [hs3]
  have t5:s3.rt = s1.rt:=by rw [hs3]
  have t6:s3.gens = s1.gens:=by rw [hs3]
  have r1:=H3.r1 hk
  have z1:=H3.fzR (k * 4 + 1)
  rw [e3r] at r1 z1
  rw [t5] at r1
  replace hs3:=Lib.hid hs3
  replace hL3:=Lib.hid hL3
  replace hw3:=Lib.hid hw3
  replace H3:=Lib.hid H3
  replace W3:=Lib.hid W3
  clear H2 W2 own3 r0 z0 hFb
  have q2:IntKind.i64.wrap ((s1.rt k:Int) + 1) = (s1.rt k:Int) + 1:=IntWalk.i64_in _ (by omega)
  go_upto_region 9 with fail
  obtain ⟨w4,hw4⟩:∃ w4,w4 = w3.setCell ⟨L.gr,k * 4 + 1,none⟩ (.int .i64 ((s1.rt k:Int) + 1)):=⟨_,rfl⟩
  rw [<- hw4]
  have H4:SetAt w4 L3 c { s3 with rt:=upd s3.rt k (s1.rt k + 1) } bs:=by
   rw [hw4, <- e3r,show ((s1.rt k:Int) + 1) = ((s1.rt k + 1:Nat):Int) by omega]
   exact H3.out.setRt k (s1.rt k + 1) hk
  have W4:Went w w4 L L3 c s { s3 with rt:=upd s3.rt k (s1.rt k + 1) }:=by
   rw [hw4, <- e3r]
   exact W3.out.next (only_at w3 _ _ _ ⟨.rows,rfl⟩) (fun q => by cases q <;> rfl)
  have d0:=H4.cPs
  have d8:=H4.cSizes
  have d9:=H4.cPages
  have d7:=H4.cArena
  rw [e3g] at d0 d7 d8 d9
  have dz:=H4.sz hk
  have i0:(0:Int) <= (i:Int):=by omega
  have i1:(i:Int) < (c.cf.np:Int):=by omega
  have x0:(0:Int) <= (x:Int):=by omega
  have x1:(x:Int) < (c.cf.n k:Int):=by have:x < c.cf.n k:=h5; omega
  have b5:=ok.out.ps
  have b6:=(ok.out.sz k hk).1
  have z2:¬ (c.cf.ps:Int) = 0:=by omega
  have z3:¬ (c.sz k:Int) = 0:=by have : 64 <= c.sz k:=b6; omega
  have q3:((p:Int)).tdiv (c.cf.ps:Int) = (i:Int):=by rw [tdivN,e1.out]
  have q4:IntKind.i64.wrap (i:Int) = (i:Int):=IntWalk.i64_in _ (by have:=ok.out.npb; omega)
  obtain ⟨r,hr⟩:∃ r,r = p % c.cf.ps:=⟨_,rfl⟩
  have hrb:r <= p:=by rw [hr]; exact Nat.mod_le _ _
  have q5:((p:Int)).tmod (c.cf.ps:Int) = (r:Int):=by rw [tmodN,hr]
  have q6:IntKind.i64.wrap (r:Int) = (r:Int):=IntWalk.i64_in _ (by omega)
  have q7:((r:Int)).tdiv (c.sz k:Int) = (x:Int):=by rw [tdivN,hr]; exact congrArg _ e2.out
  have q8:IntKind.i64.wrap (x:Int) = (x:Int):=IntWalk.i64_in _ (by omega)
  replace hr:=Lib.hid hr
  replace hw4:=Lib.hid hw4
  replace H4:=Lib.hid H4
  replace W4:=Lib.hid W4
  clear H3 W3 r1 z1 q2
  go_quiet (fail)
  rename Nat => nq1
  go_upto_region 10 with fail
  go_quiet (fail)
  rename Nat => nq2
  go_upto_region 11 with fail
  obtain ⟨w5,hw5⟩:∃ w5,w5 = (w4.drewN nq1).drewN nq2:=⟨_,rfl⟩
  rw [<- hw5]
  have H5:SetAt w5 L3 c { s3 with rt:=upd s3.rt k (s1.rt k + 1) } bs:=by rw [hw5]; exact (H4.out.drewN _).drewN _
  have W5:Went w w5 L L3 c s { s3 with rt:=upd s3.rt k (s1.rt k + 1) }:=by rw [hw5]; exact W4.out.next (((Only.refl _ _).drewN _).drewN _) (fun _ => rfl)
  replace hw5:=Lib.hid hw5
  have ho5:({ s3 with rt:=upd s3.rt k (s1.rt k + 1) }:St).own i = true:=by rw [t1]; exact h2
  have hc5:({ s3 with rt:=upd s3.rt k (s1.rt k + 1) }:St).cls i = k:=by rw [t2]; exact h3
  have p4:=H5.p4 h1 ho5
  rw [hc5] at p4
  have tk:=H5.tk h1 ho5 (x:=x) (by rw [hc5]; exact h5)
  have zt:w5.frozen? ⟨L3.T i,x,none⟩ = false:=(H5.tknB h1 ho5).frozen x
  have H6:=H5.setTkn i x true h1 ho5 (by rw [hc5]; exact h5)
  have W6:=W5.next (L2:=L3) (s2:={ s3 with rt:=upd s3.rt k (s1.rt k + 1),tkn:=upd s3.tkn i (upd (s3.tkn i) x true) }) (only_at w5 (L3.T i) x (.bool true) ⟨.tkn i,if_pos ⟨h1,ho5⟩⟩) (fun q => by cases q <;> rfl)
  obtain ⟨w6,hw6⟩:∃ w6,w6 = w5.setCell ⟨L3.T i,x,none⟩ (.bool true):=⟨_,rfl⟩
  rw [<- hw6] at H6 W6
  replace H5:=Lib.hid H5
  replace W5:=Lib.hid W5
  replace H6:=Lib.hid H6
  replace W6:=Lib.hid W6
  clear d0 d7 d8 d9 dz H4 W4
  clear hr
  go_upto_region 12 with fail
  rw [<- hw6]
  obtain ⟨s6,hs6⟩:∃ s6,s6 = ({ s3 with rt:=upd s3.rt k (s1.rt k + 1),tkn:=upd s3.tkn i (upd (s3.tkn i) x true) }:St):=⟨_,rfl⟩
  have H6':SetAt w6 L3 c s6 bs:=by rw [hs6]; exact H6.out
  have W6':Went w w6 L L3 c s s6:=by rw [hs6]; exact W6.out
  have u4:s6.held = s1.held:=by rw [hs6]; exact t4
  have u6:s6.gens = s1.gens:=by rw [hs6]; exact t6
  have u1:s6.own i = true:=by rw [hs6]; exact ho5
  have u2:s6.cls i = k:=by rw [hs6]; exact hc5
  have p5:=H6'.p5 h1
  have z5:=H6'.fzP (i * 7 + 5)
  rw [u4] at p5
  have q9:IntKind.i64.wrap ((s1.held i:Int) + 1) = (s1.held i:Int) + 1:=IntWalk.i64_in _ (by omega)
  obtain ⟨s7,hs7⟩:∃ s7,s7 = ({ s6 with held:=upd s6.held i (s1.held i + 1) }:St):=⟨_,rfl⟩
  have H7:SetAt (w6.setCell ⟨L3.gp,i * 7 + 5,none⟩ (.int .i64 ((s1.held i:Int) + 1))) L3 c s7 bs:=by
   rw [show ((s1.held i:Int) + 1) = ((s1.held i + 1:Nat):Int) by omega,hs7]
   exact H6'.setHeld i (s1.held i + 1) h1
  have W7:Went w (w6.setCell ⟨L3.gp,i * 7 + 5,none⟩ (.int .i64 ((s1.held i:Int) + 1))) L L3 c s s7:=by
   rw [hs7]
   exact W6'.next (only_at w6 L3.gp (i * 7 + 5) _ ⟨.pages,rfl⟩) (fun q => by cases q <;> rfl)
  obtain ⟨w7,hw7⟩:∃ w7,w7 = w6.setCell ⟨L3.gp,i * 7 + 5,none⟩ (.int .i64 ((s1.held i:Int) + 1)):=⟨_,rfl⟩
  rw [<- hw7] at H7 W7
  have v1:s7.own i = true:=by rw [hs7]; exact u1
  have v2:s7.cls i = k:=by rw [hs7]; exact u2
  have v6:s7.gens = s1.gens:=by rw [hs7]; exact u6
  have e7:takeS c.cf s1 k p = s7:=by
   rw [hTake.out,hs7,hs6,hs3.out]
  replace hw7:=Lib.hid hw7
  replace H7:=Lib.hid H7
  replace W7:=Lib.hid W7
  replace e7:=Lib.hid e7
  clear H5 W5 H6 W6 H6' W6' p4 tk zt hw6 ho5 hc5 hs6 hs7 hTake hs3 hL3 hw5 hw4 hw3 u1 u2 u4 u6 t1 t2 t3 t4 t5 t6 q3 q5 q6 q7
  go_upto_region 13 with fail
  rw [<- hw7.out]
  have d7:=H7.out.cArena
  rw [e3g] at d7
  have A7:=H7.out.arena ok.out
  have F7:=Arena.fillYes w7 L3.ga L3.ha c.cf.ps bs A7 (p:Int) 56 0 (by rw [H7.out.len]; exact th1)
  rw [show ((((0:UInt8)).toNat:Nat):Int) = 0 from rfl] at F7
  replace F7:=Lib.hid F7
  clear A7 p5 z5 q9
  go_wp2_with fail
  refine F7.out.mono ?_
  rintro e w8 ⟨rfl,A8,o8,hs8⟩
  obtain ⟨bs8,hb8⟩:∃ b,b = lay bs p (List.replicate 56 0):=⟨_,rfl⟩
  have A8':Arena.At w8 L3.ga L3.ha c.cf.ps bs8:=by rw [hb8]; exact A8
  have hb8l:bs8.length = bs.length:=by
   rw [hb8]
   refine lay_len _ _ _ ?_
   have:=th1
   rw [<- H7.out.len] at this
   obtain ⟨-, -,a3, -⟩:=this
   rw [List.length_replicate]
   omega
  have H8:SetAt w8 L3 c s7 bs8:=H7.out.laid o8 A8'.bytes hb8l
  have W8:Went w w8 L L3 c s s7:=W7.out.next (o8.mono fun b _ e => ⟨.bytes,by rw [e]; rfl⟩) (fun q => rfl)
  replace hb8:=Lib.hid hb8
  have d7:=H8.cArena
  rw [e3g] at d7
  have p3:=H8.p3 h1 v1
  rw [v2] at p3
  have gn:=H8.gen h1 v1 (x:=x) (by rw [v2]; exact h5)
  rw [v6] at gn
  have q10:IntKind.i64.wrap ((p:Int) + 12) = (p:Int) + 12:=IntWalk.i64_in _ (by omega)
  have th3:Arena.There c.cf.ps bs8.length ((p:Int) + 12) 4:=by
   have:=th2
   rw [<- H7.out.len, <- hb8l] at this
   exact this
  have P8:=Arena.putYes_u32 w8.drew L3.ga L3.ha c.cf.ps bs8 (H8.drew.arena ok.out) ((p:Int) + 12) (s1.gens i x) hgen th3
  replace P8:=Lib.hid P8
  replace H8:=Lib.hid H8
  replace W8:=Lib.hid W8
  clear A8 A8' o8 hs8 F7 H7 W7 hw7
  go_upto_region 14 with fail
  go_still_tail 13,(by kernel_rfl)
  change wpList _ _ _ _ _ w8.drew
  go_wp2_with fail
  refine P8.out.mono ?_
  rintro e w9 ⟨rfl,A9,o9,hs9⟩
  obtain ⟨bs9,hb9⟩:∃ b,b = lay bs8 (p + 12) (Arena.putB 4 (s1.gens i x)):=⟨_,rfl⟩
  have e12:((p:Int) + 12).toNat = p + 12:=by omega
  have A9':Arena.At w9 L3.ga L3.ha c.cf.ps bs9:=by rw [hb9, <- e12]; exact A9
  have hb9l:bs9.length = bs8.length:=by
   rw [hb9]
   refine lay_len _ _ _ ?_
   obtain ⟨-, -,a3, -⟩:=th3
   rw [Arena.putB_len]
   omega
  have H9:SetAt w9 L3 c s7 bs9:=H8.out.drew.laid o9 A9'.bytes hb9l
  have W9:Went w w9 L L3 c s s7:=W8.out.next ((Only.refl _ _).drew.trans o9 (fun b _ e => ⟨.bytes,by rw [e]; rfl⟩)) (fun q => rfl)
  have p3:=H9.p3 h1 v1
  rw [v2] at p3
  have gn:=H9.gen h1 v1 (x:=x) (by rw [v2]; exact h5)
  rw [v6] at gn
  have hb:bs9 = takeB bs p (s1.gens (p / c.cf.ps) (p % c.cf.ps / c.sz k)):=by
   rw [hb9,hb8.out,e1.out,e2'.out]; rfl
  rw [hb, <- e7.out] at H9
  rw [<- e7.out] at W9
  have hpg:hnd p (s1.gens (p / c.cf.ps) (p % c.cf.ps / c.sz k)) = hnd p (s1.gens i x):=by rw [e1.out,e2'.out]
  replace hpg:=Lib.hid hpg
  replace H9:=Lib.hid H9
  replace W9:=Lib.hid W9
  replace hb:=Lib.hid hb
  replace hb9:=Lib.hid hb9
  clear H8 W8 P8 A9 A9' o9 hs9 e12 hb9l d7 q10 hb
  go_wp2_with fail
  refine (HC.out _).mono ?_
  rintro e w' ⟨rfl,rfl⟩
  go_wp2
  go_ret2
  have hret:Ending.returned (.tuple #[.int .u64 (hnd p (s1.gens i x):Int),.int .i64 0]) = .returned (.tuple #[.int .u64 (hnd p (s1.gens (p / c.cf.ps) (p % c.cf.ps / c.sz k)):Int),.int .i64 0]):=by rw [hpg.out]
  exact ⟨hret,L3,e3g,H9.out,W9.out⟩
end Go.Proofs.YtfjiphibalhcgaaGreat.Cls
/-
  The walks of wakes and of ItemNames.
-/
namespace Go.Proofs.YtfjiphibalhcgaaGreat.Itm
open Go.RowKit Base Arena Cls
theorem take_gen {bs:List UInt8} {p g:Nat} (h:p + 56 <= bs.length):((takeB bs p g).drop (p + 12)).take 4 = putB 4 g:=by
 have e:(lay bs p (List.replicate 56 0)).length = bs.length:=lay_len _ _ _ (by simpa using h)
 have:=piece_lay (lay bs p (List.replicate 56 0)) (p + 12) (putB 4 g) (by rw [putB_len]; omega)
 rw [putB_len] at this
 exact this
theorem take_len {bs:List UInt8} {p g:Nat} (h:p + 56 <= bs.length):(takeB bs p g).length = bs.length:=by
 have e:(lay bs p (List.replicate 56 0)).length = bs.length:=lay_len _ _ _ (by simpa using h)
 unfold takeB
 rw [putlen _ _ _ _ (by omega),e]
theorem zero_at {bs:List UInt8} {p:Nat} (h:p + 56 <= bs.length):rd (lay bs p (List.replicate 56 0)) (p + 44) 1 = 0:=by
 have:((lay bs p (List.replicate 56 0)).drop (p + 44)).take 1 = [0]:=by
  apply List.ext_getElem?
  intro j
  rw [piece_get]
  split
  ·rename_i hj
   obtain rfl:j = 0:=by omega
   rw [lay_get _ _ _ (by simpa using h),if_pos (by simp)]
   rw [List.getElem?_replicate,if_pos (by omega)]
   rfl
  ·rename_i hj
   rw [List.getElem?_eq_none (by simp; omega)]
 unfold rd
 rw [this]
 rfl
theorem take_zero {bs:List UInt8} {p g:Nat} (h:p + 56 <= bs.length):rd (takeB bs p g) (p + 44) 1 = 0:=by
 have e:(lay bs p (List.replicate 56 0)).length = bs.length:=lay_len _ _ _ (by simpa using h)
 unfold takeB
 rw [rd_out _ _ _ _ _ (by rw [putB_len]; omega) (by rw [putB_len]; omega)]
 exact zero_at h
theorem take_far {bs:List UInt8} {p g a n:Nat} (h:p + 56 <= bs.length) (ha:a + n <= p \/ p + 56 <= a):((takeB bs p g).drop a).take n = (bs.drop a).take n:=by
 have e:(lay bs p (List.replicate 56 0)).length = bs.length:=lay_len _ _ _ (by simpa using h)
 unfold takeB
 rw [piece_out _ _ _ _ _ (by rw [putB_len]; omega) (by rw [putB_len]; omega),piece_out _ _ _ _ _ (by simpa using h) (by simpa using ha)]
end Go.Proofs.YtfjiphibalhcgaaGreat.Itm
/-
  The document's Set in plain numbers: its state, what Take and Give make of it, and how it goes with the program's.
-/
namespace Go.Proofs.YtfjiphibalhcgaaGreat.Cls
structure RC where
 place:Nat
 cls:Nat
 gen:Nat
 tk:Bool
 gone:Bool
structure RS where
 own:Nat -> Option Nat
 lvs:Nat -> Bool
 ch:List RC
 rows:Nat -> List Nat
def rnew0:RS:=⟨fun _ => none,fun _ => false,[],fun _ => []⟩
def RC.name (x:RC):Nat:=hnd x.place x.gen
def rfind (l:List RC) (H:Nat):Option Nat:=l.findIdx? fun x => x.tk && x.name == H
def rgen (l:List RC) (p:Nat):Nat:=((l.reverse.find? fun x => x.place == p).map (·.gen)).getD 0
def rcuts (d:Cf) (l:List RC) (k i:Nat) (n:Nat):List RC:=(List.range n).map fun x => ⟨i * d.ps + x * d.sz k,k,rgen l (i * d.ps + x * d.sz k),false,false⟩
def rpage (d:Cf) (r:RS) (k i:Nat):RS:={ r with
 own:=upd r.own i (some k),ch:=r.ch ++ rcuts d r.ch k i (d.n k),rows:=upd r.rows k (r.rows k ++ ((List.range (d.n k)).map (r.ch.length + ·)).reverse) }
def RC.taken (x:RC):RC:={ x with tk:=true }
def rtake (r:RS) (k j:Nat):RS:={ r with ch:=r.ch.modify j RC.taken,rows:=upd r.rows k (r.rows k).dropLast }
theorem rgen_app (l:List RC) (x:RC) (p:Nat):rgen (l ++ [x]) p = if x.place = p then x.gen else rgen l p:=by
 unfold rgen
 rw [List.reverse_append,List.reverse_singleton,List.singleton_append,List.find?_cons]
 by_cases h:x.place = p
 ·rw [if_pos h,show (x.place == p) = true by simpa using h]; rfl
 ·rw [if_neg h,show (x.place == p) = false by simpa using h]
theorem rgen_none {l:List RC} {p:Nat} (h:∀ x ∈ l,x.place ≠ p):rgen l p = 0:=by
 unfold rgen
 rw [List.find?_eq_none.2]
 ·rfl
 ·intro x hx
  simpa using h x (List.mem_reverse.1 hx)
theorem rgen_apps (l m:List RC) (p:Nat) (h:∀ x ∈ m,x.place ≠ p):rgen (l ++ m) p = rgen l p:=by
 unfold rgen
 rw [List.reverse_append,List.find?_append,List.find?_eq_none.2,Option.none_or]
 intro x hx
 simpa using h x (List.mem_reverse.1 hx)
theorem rgen_last {l:List RC} {j:Nat} {x:RC} (hj:l[j]? = some x) (hl:∀ j',j < j' -> ∀ y,l[j']? = some y -> y.place ≠ x.place):rgen l x.place = x.gen:=by
 have e:l = l.take (j + 1) ++ l.drop (j + 1):=(List.take_append_drop _ _).symm
 rw [e,rgen_apps,List.take_add_one,hj]
 ·show rgen (l.take j ++ [x]) x.place = x.gen
  rw [rgen_app,if_pos rfl]
 ·intro y hy
  obtain ⟨n,hn,hy'⟩:=List.getElem_of_mem hy
  refine hl (j + 1 + n) (by omega) y ?_
  rw [<- hy',List.getElem_drop,List.getElem?_eq_getElem]
structure Rel (d:Cf) (s:St) (r:RS):Prop where
 own:∀ i,i < d.np -> r.own i = if s.own i then some (s.cls i) else none
 lvs:∀ i,i < d.np -> r.lvs i = s.lvs i
 has:∀ i x,i < d.np -> s.own i = true -> x < d.n (s.cls i) -> ∃ j:Nat,r.ch[j]? = some ⟨i * d.ps + x * d.sz (s.cls i),s.cls i,s.gens i x,s.tkn i x,false⟩
 live:∀ (j:Nat) (y:RC),r.ch[j]? = some y -> y.gone = false -> ∃ i x,i < d.np /\ s.own i = true /\ x < d.n (s.cls i) /\ y = ⟨i * d.ps + x * d.sz (s.cls i),s.cls i,s.gens i x,s.tkn i x,false⟩
 gone:∀ (j:Nat) (y:RC),r.ch[j]? = some y -> y.gone = true -> y.tk = false
 last:∀ (j j':Nat) (y y':RC),j < j' -> r.ch[j]? = some y -> r.ch[j']? = some y' -> y.place = y'.place -> y.gone = true
 row:∀ k,k < d.nc -> (r.rows k).map (fun j => r.ch[j]?.map (fun y => (y.place,y.gone))) = (s.free k).map fun p => some (p,false)
 pl:∀ (j:Nat) (y:RC),r.ch[j]? = some y -> y.place < d.np * d.ps
 old:∀ i o,i < d.np -> o < d.ps -> rgen r.ch (i * d.ps + o) = if s.own i = true /\ o % d.sz (s.cls i) = 0 /\ o / d.sz (s.cls i) < d.n (s.cls i) then s.gens i (o / d.sz (s.cls i)) else s.old i o
theorem rel_new (d:Cf):Rel d (new0 d) rnew0 where
 own:=fun _ _ => rfl
 lvs:=fun _ _ => rfl
 has:=fun _ _ _ h => by cases h
 live:=fun _ _ h => by cases h
 gone:=fun _ _ h => by cases h
 last:=fun _ _ _ _ _ h => by cases h
 row:=fun _ _ => rfl
 pl:=fun _ _ h => by cases h
 old:=fun _ _ _ _ => by simp [new0,rnew0,rgen]
section
variable {d:Cf} (ok:d.Ok) {s:St} (g:Good d s) {r:RS} (h:Rel d s r)
include h
theorem Rel.uniq {j j':Nat} {y y':RC} (h1:r.ch[j]? = some y) (h2:r.ch[j']? = some y') (g1:y.gone = false) (g2:y'.gone = false) (e:y.place = y'.place):j = j':=by
 rcases Nat.lt_trichotomy j j' with hl | hl | hl
 ·rw [h.last j j' y y' hl h1 h2 e] at g1; cases g1
 ·exact hl
 ·rw [h.last j' j y' y hl h2 h1 e.symm] at g2; cases g2
theorem Rel.tk_live {j:Nat} {y:RC} (h1:r.ch[j]? = some y) (ht:y.tk = true):y.gone = false:=by
 cases hg:y.gone with
 | false => rfl
 | true => rw [h.gone j y h1 hg] at ht; cases ht
include ok g
theorem Rel.find_some {H i x p:Nat} (hf:findN d s H = some (i,x,p)):∃ j,rfind r.ch H = some j /\ r.ch[j]? = some ⟨p,s.cls i,s.gens i x,true,false⟩:=by
 obtain ⟨a1,a2,a3,a4,a5,a6,a7⟩:=findN_some g hf
 obtain ⟨t,hH⟩:=Tkn.of ok g hf
 obtain ⟨j,hj⟩:=h.has i x a1 a2 a3
 rw [<- a6,a4] at hj
 refine ⟨j,?_,hj⟩
 unfold rfind
 rw [List.findIdx?_eq_some_iff_getElem]
 obtain ⟨hjl,hje⟩:=List.getElem?_eq_some_iff.1 hj
 refine ⟨hjl,?_,fun j' hj' => ?_⟩
 ·rw [hje]
  simp only [RC.name,Bool.true_and,beq_iff_eq]
  rw [a5]
  exact hH.symm
 ·intro hc
  simp only [Bool.and_eq_true,beq_iff_eq] at hc
  obtain ⟨c1,c2⟩:=hc
  have hj2:r.ch[j']? = some r.ch[j']:=List.getElem?_eq_getElem (by omega)
  have gl:=h.tk_live hj2 c1
  obtain ⟨i',x',b1,b2,b3,b4⟩:=h.live j' _ hj2 gl
  have hpl:=h.pl j' _ hj2
  have hp2:=h.pl j _ hj
  rw [hH] at c2
  have h8:(r.ch[j']).place % 8 = 0:=by
   rw [b4]
   obtain ⟨-, -, -, -,p5⟩:=place_of ok (i:=i') (g.cls i' b1 b2) b3
   have:=ok.ps8
   show (i' * d.ps + x' * d.sz (s.cls i')) % 8 = 0
   rw [Nat.add_mod,Nat.mul_mod,this,Nat.mul_zero,Nat.zero_mod,p5]
  obtain ⟨-, -, -,p8, -⟩:=t.fit ok
  have hb:d.np * d.ps <= 1024 * 1048576:=Nat.mul_le_mul ok.npb ok.psb
  have e:(r.ch[j']).place = p:=by
   unfold RC.name hnd at c2
   simp only at hp2
   omega
  have:=h.uniq hj2 hj gl rfl e
  omega
end
theorem rgen_skip (a b:List RC) (y:RC) (p:Nat) (h:y.place ≠ p):rgen (a ++ y :: b) p = rgen (a ++ b) p:=by
 unfold rgen
 have hy:(y.place == p) = false:=by simpa using h
 simp only [List.reverse_append,List.reverse_cons,List.find?_append,List.find?_cons,hy,List.find?_nil,Option.or_none]
theorem modify_cut (l:List RC) (j:Nat) (f:RC -> RC) {y:RC} (hj:l[j]? = some y):l = l.take j ++ y :: l.drop (j + 1) /\ l.modify j f = l.take j ++ f y :: l.drop (j + 1):=by
 obtain ⟨hl,he⟩:=List.getElem?_eq_some_iff.1 hj
 have e:l = l.take j ++ y :: l.drop (j + 1):=by
  rw [<- he,List.getElem_cons_drop,List.take_append_drop]
 refine ⟨e,?_⟩
 apply List.ext_getElem?
 intro n
 rw [List.getElem?_modify]
 by_cases h1:j = n
 ·subst h1
  rw [hj,List.getElem?_append_right (by simp; omega)]
  simp [Nat.min_eq_left (Nat.le_of_lt hl)]
 ·simp only [if_neg h1,Option.map_id_fun',id_eq]
  rw [List.getElem?_append]
  split
  ·rename_i h2
   simp only [List.length_take] at h2
   rw [List.getElem?_take,if_pos (by omega)]
   cases l[n]? <;> rfl
  ·rename_i h2
   simp only [List.length_take] at h2
   have e2:n - (l.take j).length = (n - j - 1) + 1:=by simp only [List.length_take,Nat.min_eq_left (Nat.le_of_lt hl)] at h2 ⊢; omega
   have e3:j + 1 + (n - j - 1) = n:=by simp only [Nat.min_eq_left (Nat.le_of_lt hl)] at h2; omega
   rw [e2,List.getElem?_cons_succ,List.getElem?_drop,e3]
   cases l[n]? <;> rfl
theorem rgen_modify (l:List RC) (j:Nat) (f:RC -> RC) {y:RC} (hj:l[j]? = some y) (hf:(f y).place = y.place) (hl:∀ j',j < j' -> ∀ z,l[j']? = some z -> z.place ≠ y.place) (p:Nat) :
  rgen (l.modify j f) p = if p = y.place then (f y).gen else rgen l p:=by
 obtain ⟨e1,e2⟩:=modify_cut l j f hj
 split
 ·rename_i h
  subst h
  rw [<- hf]
  refine rgen_last (j:=j) ?_ fun j' hj' z hz => ?_
  ·rw [List.getElem?_modify_eq,hj]; rfl
  ·rw [List.getElem?_modify_ne _ _ (by omega)] at hz
   rw [hf]
   exact hl j' hj' z hz
 ·rename_i h
  rw [e2,rgen_skip _ _ _ _ (by rw [hf]; exact fun e => h e.symm)]
  conv => rhs; rw [e1]
  rw [rgen_skip _ _ _ _ (fun e => h e.symm)]
theorem freesTo_all {d:Cf} {s:St} {i:Nat}:∀ n,(∀ x,x < n -> s.tkn i x = false) -> freesTo d s i n = ((List.range n).map fun x => i * d.ps + x * d.sz (s.cls i)).reverse
 | 0,_ => rfl
 | n + 1,h => by
  unfold freesTo
  rw [if_neg (by rw [h n (by omega)]; simp),freesTo_all n (fun x hx => h x (by omega)),List.range_succ,List.map_append,List.reverse_append]
  rfl
theorem rcuts_at (d:Cf) (l:List RC) (k i n x:Nat):(rcuts d l k i n)[x]? = if x < n then some ⟨i * d.ps + x * d.sz k,k,rgen l (i * d.ps + x * d.sz k),false,false⟩ else none:=by
 unfold rcuts
 rw [List.getElem?_map]
 split
 ·rename_i h; rw [List.getElem?_range h]; rfl
 ·rename_i h; rw [List.getElem?_eq_none (by simp; omega)]; rfl
theorem rcuts_len (d:Cf) (l:List RC) (k i n:Nat):(rcuts d l k i n).length = n:=by simp [rcuts]
theorem place_page {d:Cf} (ok:d.Ok) {k i x:Nat} (hk:k < d.nc) (hx:x < d.n k):i * d.ps <= i * d.ps + x * d.sz k /\ i * d.ps + x * d.sz k < (i + 1) * d.ps:=by
 obtain ⟨-, -, -,p4, -⟩:=place_of ok (i:=i) hk hx
 have:=(ok.sz k hk).1
 rw [Nat.succ_mul]
 omega
section
variable {d:Cf} (ok:d.Ok) {s:St} (g:Good d s) {r:RS} (h:Rel d s r)
include h
theorem Rel.row_at {k:Nat} (hk:k < d.nc) {j:Nat} (hj:j ∈ r.rows k):∃ y,r.ch[j]? = some y /\ y.gone = false /\ y.place ∈ s.free k:=by
 have e:=h.row k hk
 have hm:(r.ch[j]?.map fun y => (y.place,y.gone)) ∈ (s.free k).map fun p => some (p,false):=by
  rw [<- e]
  exact List.mem_map_of_mem (f:=fun j => r.ch[j]?.map fun y => (y.place,y.gone)) hj
 obtain ⟨p,hp,he⟩:=List.mem_map.1 hm
 cases hc:r.ch[j]? with
 | none => rw [hc] at he; cases he
 | some y =>
  rw [hc] at he
  simp only [Option.map_some,Option.some.injEq,Prod.mk.injEq] at he
  exact ⟨y,rfl,he.2.symm,by rw [<- he.1]; exact hp⟩
theorem Rel.row_len {k:Nat} (hk:k < d.nc):(r.rows k).length = (s.free k).length:=by
 have:=congrArg List.length (h.row k hk)
 simpa using this
include ok g
theorem Rel.page {k i:Nat} (hk:k < d.nc) (hi:i < d.np) (ho:s.own i = false):Rel d (widenS d s k i) (rpage d r k i):=by
 have hcl:(widenS d s k i).cls = upd s.cls i k:=rfl
 have how:(widenS d s k i).own = upd s.own i true:=rfl
 have hgn:(widenS d s k i).gens = upd s.gens i (fun x => if x < d.n k then s.old i (x * d.sz k) else 0):=rfl
 have htk:(widenS d s k i).tkn = upd s.tkn i (fun _ => false):=rfl
 have hol:(widenS d s k i).old = s.old:=rfl
 have hlv:(widenS d s k i).lvs = s.lvs:=rfl
 have hrl:∀ x,x < d.n k -> rgen r.ch (i * d.ps + x * d.sz k) = s.old i (x * d.sz k):=fun x hx => by
  obtain ⟨-,p2⟩:=place_page ok (i:=i) hk hx
  rw [Nat.succ_mul] at p2
  rw [h.old i (x * d.sz k) hi (by omega),if_neg (by rw [ho]; simp)]
 have hlen:∀ {j:Nat} {y:RC},r.ch[j]? = some y -> j < r.ch.length:=fun hj => (List.getElem?_eq_some_iff.1 hj).1
 have hold:∀ {j:Nat} {y:RC},r.ch[j]? = some y -> (r.ch ++ rcuts d r.ch k i (d.n k))[j]? = some y:=fun hj => by rw [List.getElem?_append_left (hlen hj)]; exact hj
 have hcase:∀ {j:Nat} {y:RC},(r.ch ++ rcuts d r.ch k i (d.n k))[j]? = some y -> r.ch[j]? = some y \/ r.ch.length <= j /\ ∃ x,j = r.ch.length + x /\ x < d.n k /\ y = ⟨i * d.ps + x * d.sz k,k,s.old i (x * d.sz k),false,false⟩:=fun {j y} hj => by
  rw [List.getElem?_append] at hj
  split at hj
  ·exact .inl hj
  ·rename_i hl
   rw [rcuts_at] at hj
   split at hj
   ·rename_i hx
    injection hj with hj
    refine .inr ⟨by omega,j - r.ch.length,by omega,hx,?_⟩
    rw [<- hj,hrl _ hx]
   ·cases hj
 have hnew:∀ {x:Nat},x < d.n k -> (r.ch ++ rcuts d r.ch k i (d.n k))[r.ch.length + x]? = some ⟨i * d.ps + x * d.sz k,k,s.old i (x * d.sz k),false,false⟩:=fun {x} hx => by
  rw [List.getElem?_append_right (by omega),Nat.add_sub_cancel_left,rcuts_at,if_pos hx,hrl x hx]
 have hlive:∀ (j:Nat) (y:RC),r.ch[j]? = some y -> y.gone = false -> y.place / d.ps ≠ i:=fun j y hj hg => by
  obtain ⟨i',x,b1,b2,b3,b4⟩:=h.live j y hj hg
  obtain ⟨p1, -⟩:=place_of ok (i:=i') (g.cls i' b1 b2) b3
  rw [b4]
  show (i' * d.ps + x * d.sz (s.cls i')) / d.ps ≠ i
  rw [p1]
  intro e
  subst e
  rw [ho] at b2
  cases b2
 have hnp:∀ {x:Nat},x < d.n k -> (i * d.ps + x * d.sz k) / d.ps = i:=fun hx => (place_of ok hk hx).1
 refine ⟨fun i' hi' => ?_,fun i' hi' => h.lvs i' hi',fun i' x hi' ho' hx => ?_,fun j y hj hg => ?_,fun j y hj hg => ?_,fun j j' y y' hjj hj hj' hp => ?_,fun k' hk' => ?_,fun j y hj => ?_,fun i' o hi' ho' => ?_⟩
 ·show upd r.own i (some k) i' = if upd s.own i true i' then some (upd s.cls i k i') else none
  unfold upd
  split
  ·rfl
  ·exact h.own i' hi'
 ·show ∃ j:Nat,(r.ch ++ rcuts d r.ch k i (d.n k))[j]? = _
  rw [how] at ho'
  rw [hcl] at hx ⊢
  rw [hgn,htk]
  by_cases e:i' = i
  ·subst e
   rw [upd_at] at hx
   exact ⟨r.ch.length + x,by rw [hnew hx,upd_at,upd_at,upd_at,if_pos hx]⟩
  ·rw [upd_ne _ _ e] at ho' hx
   obtain ⟨j,hj⟩:=h.has i' x hi' ho' hx
   exact ⟨j,by rw [hold hj,upd_ne _ _ e,upd_ne _ _ e,upd_ne _ _ e]⟩
 ·rw [how,hcl,hgn,htk]
  rcases hcase hj with hj | ⟨-,x, -,hx,rfl⟩
  ·obtain ⟨i',x,b1,b2,b3,b4⟩:=h.live j y hj hg
   have e:i' ≠ i:=fun e => by subst e; rw [ho] at b2; cases b2
   exact ⟨i',x,b1,by rw [upd_ne _ _ e]; exact b2,by rw [upd_ne _ _ e]; exact b3,by rw [upd_ne _ _ e,upd_ne _ _ e,upd_ne _ _ e]; exact b4⟩
  ·exact ⟨i,x,hi,upd_at _ _ _,by rw [upd_at]; exact hx,by rw [upd_at,upd_at,upd_at,if_pos hx]⟩
 ·rcases hcase hj with hj | ⟨-,x, -,hx,rfl⟩
  ·exact h.gone j y hj hg
  ·cases hg
 ·rcases hcase hj with hj1 | ⟨hl,x,rfl,hx,rfl⟩
  ·rcases hcase hj' with hj2 | ⟨-,x', -,hx',rfl⟩
   ·exact h.last j j' y y' hjj hj1 hj2 hp
   ·cases hg:y.gone with
    | true => rfl
    | false =>
     have:=hlive j y hj1 hg
     rw [hp] at this
     exact absurd (hnp hx') this
  ·rcases hcase hj' with hj2 | ⟨-,x',rfl,hx',rfl⟩
   ·have:=hlen hj2; omega
   ·obtain ⟨-,e⟩:=place_inj ok hk hx hx' hp
    omega
 ·show (upd r.rows k (r.rows k ++ ((List.range (d.n k)).map (r.ch.length + ·)).reverse) k').map (fun j => (r.ch ++ rcuts d r.ch k i (d.n k))[j]?.map fun y => (y.place,y.gone)) = (upd s.free ((widen1 d s k i).cls i) (s.free ((widen1 d s k i).cls i) ++ frees d (widen1 d s k i) i) k').map _
  have hc1:(widen1 d s k i).cls i = k:=upd_at _ _ _
  have hsame:∀ m,m < d.nc -> (r.rows m).map (fun j => (r.ch ++ rcuts d r.ch k i (d.n k))[j]?.map fun y => (y.place,y.gone)) = (s.free m).map fun p => some (p,false):=fun m hm => by
   rw [<- h.row m hm]
   refine List.map_congr_left fun j hj => ?_
   obtain ⟨y,hy, -⟩:=h.row_at hm hj
   rw [hy,hold hy]
  rw [hc1]
  by_cases e:k' = k
  ·subst e
   rw [upd_at,upd_at,List.map_append,List.map_append,hsame k' hk]
   congr 1
   unfold frees
   rw [hc1,freesTo_all _ (fun x hx => by show upd s.tkn i (fun _ => false) i x = false; rw [upd_at]),hc1,List.map_reverse,List.map_reverse,List.map_map,List.map_map]
   congr 1
   refine List.map_congr_left fun x hx => ?_
   have hx:=List.mem_range.1 hx
   simp only [Function.comp_apply]
   rw [hnew hx]
   rfl
  ·rw [upd_ne _ _ e,upd_ne _ _ e]
   exact hsame k' hk'
 ·rcases hcase hj with hj | ⟨-,x, -,hx,rfl⟩
  ·exact h.pl j y hj
  ·obtain ⟨-,p2⟩:=place_page ok (i:=i) hk hx
   have:=Nat.mul_le_mul_right d.ps (show i + 1 <= d.np from hi)
   show i * d.ps + x * d.sz k < d.np * d.ps
   omega
 ·show rgen (r.ch ++ rcuts d r.ch k i (d.n k)) (i' * d.ps + o) = _
  rw [how,hcl,hgn,hol]
  by_cases e:i' = i
  ·subst e
   rw [upd_at,upd_at,upd_at]
   have hro:rgen r.ch (i' * d.ps + o) = s.old i' o:=by rw [h.old i' o hi' ho',if_neg (by rw [ho]; simp)]
   have hz:=(ok.sz k hk).1
   split
   ·rename_i hc
    obtain ⟨-,c2,c3⟩:=hc
    have e2:o / d.sz k * d.sz k = o:=Nat.div_mul_cancel (Nat.dvd_of_mod_eq_zero c2)
    generalize o / d.sz k = x0 at *
    have hn:=hnew c3
    rw [e2] at hn
    have:=rgen_last hn (fun j' hj' z hz' hp => by
     rcases hcase hz' with h1 | ⟨-,x',rfl,hx',rfl⟩
     ·have:=hlen h1; omega
     ·have hp':i' * d.ps + x' * d.sz k = i' * d.ps + x0 * d.sz k:=by rw [e2]; exact hp
      obtain ⟨-,e3⟩:=place_inj ok hk hx' c3 hp'
      omega)
    rw [if_pos c3,e2]
    exact this
   ·rename_i hc
    rw [rgen_apps,hro]
    intro z hz' hp
    obtain ⟨x',hx',rfl⟩:=List.getElem_of_mem hz'
    have hx2:x' < d.n k:=by rw [rcuts_len] at hx'; exact hx'
    have h2:(rcuts d r.ch k i' (d.n k))[x']? = some (rcuts d r.ch k i' (d.n k))[x']:=List.getElem?_eq_getElem hx'
    rw [rcuts_at,if_pos hx2] at h2
    injection h2 with h2
    rw [<- h2] at hp
    have hp:i' * d.ps + x' * d.sz k = i' * d.ps + o:=hp
    have:o = x' * d.sz k:=by omega
    exact hc ⟨rfl,by rw [this,Nat.mul_mod_left],by rw [this,Nat.mul_div_cancel _ (by omega)]; exact hx2⟩
  ·rw [upd_ne _ _ e,upd_ne _ _ e,upd_ne _ _ e,rgen_apps,h.old i' o hi' ho']
   intro z hz' hp
   obtain ⟨x',hx',rfl⟩:=List.getElem_of_mem hz'
   have hx2:x' < d.n k:=by rw [rcuts_len] at hx'; exact hx'
   have h2:(rcuts d r.ch k i (d.n k))[x']? = some (rcuts d r.ch k i (d.n k))[x']:=List.getElem?_eq_getElem hx'
   rw [rcuts_at,if_pos hx2] at h2
   injection h2 with h2
   rw [<- h2] at hp
   have hp:i * d.ps + x' * d.sz k = i' * d.ps + o:=hp
   obtain ⟨q1,q2⟩:=place_page ok (i:=i) hk hx2
   rcases Nat.lt_trichotomy i i' with hl | hl | hl
   ·have:=Nat.mul_le_mul_right d.ps (show i + 1 <= i' from hl); omega
   ·exact e hl.symm
   ·have:=Nat.mul_le_mul_right d.ps (show i' + 1 <= i from hl)
    rw [Nat.succ_mul] at this
    omega
end
end Go.Proofs.YtfjiphibalhcgaaGreat.Cls
