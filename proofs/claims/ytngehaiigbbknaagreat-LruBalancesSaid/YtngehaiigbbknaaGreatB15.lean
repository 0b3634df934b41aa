/-
  Contracts and lemmas, joined: LruMoves, LruMoves2, LruScript, LruArgs, LruLeft, LruWRow, LruActive, LruLook, LruDoc4, LruEnds, LruPickLaw, LruLeft2, LruLeft3, LruLeft4.
-/
import Derived.Test.YtngehaiigbbknaaGreatB1
import Derived.Test.YtngehaiigbbknaaGreatB9
import Derived.Test.YtngehaiigbbknaaGreatB10
import Derived.Test.YtngehaiigbbknaaGreatB11
import Derived.Test.YtngehaiigbbknaaGreatB14
set_option linter.unusedSimpArgs false
set_option linter.unusedVariables false
set_option linter.unusedSectionVars false
set_option maxRecDepth 100000
/-
  The law's moves.
-/
namespace Go.Proofs.YtngehaiigbbknaaGreat.Que
open Go.RowKit Base Arena Cls Itm
def Hf (N:Nat) (w1 v:World) (W:W6) (s:St) (bs:List UInt8) (Z:Nat -> Option Zd) (Ls Ld:Nat -> Nat -> List Nat) (r:RS) (laid told act:List Nat) (mk:Nat -> Nat):Prop :=
 ∃ bs' Z' W1,bs'.length = bs.length /\ (∀ H,(Z' H).isSome = (Z H).isSome) /\ (∃ R' vA',W1 = { W with R:=R',vA:=vA' } /\ R'.b = W.R.b) /\ Grew qc w1 v W W1 s s /\ DX N v W1 s bs' Z' Ls Ld r laid told act mk
theorem QL.cg {s:St} {Z Z':Nat -> Option Zd} {L:Nat -> Nat -> List Nat} (h:QL s Z L) (z:∀ H,(Z' H).isSome = (Z H).isSome):QL s Z' L:=by
 obtain ⟨Z1,F,e,q⟩:=h
 exact ⟨Z1,F,fun K => (e K).trans (z K).symm,q⟩
section
variable {N:Nat} {w1 v:World} {W:W6} {s:St} {bs:List UInt8} {Z:Nat -> Option Zd} {Ls Ld:Nat -> Nat -> List Nat} {r:RS} {laid told act:List Nat} {mk:Nat -> Nat} (h:Hf N w1 v W s bs Z Ls Ld r laid told act mk)
include h
theorem Hf.cells {N0:Nat} {o:Op6} (B:Blk w1 N0 64 o.cells) (hn:∀ i,¬ W.foot qc s i N0):Cmv W.b N0 W.gm W.dm W.L.g W.gq W.R.b o v:=by
 obtain ⟨bs',Z',W1,e1,z1,⟨R',vA',rfl,eb⟩,G,D⟩:=h
 have BO:=D.wat.own
 have B0:=(G.away B.lt hn).1.trans B
 have c4:=BO.cell 4
 refine ⟨⟨BO.cell 0,BO.cell 1,BO.cell 2,?_,BO.cell 5⟩,op6_cells B0⟩
 rw [<- eb]
 exact c4
theorem Hf.prog {F:FuncId} {args:Array Value} {x:Ending} {Lx:Nat -> Nat -> List Nat} {mk':Nat -> Nat} {g:Nat} (hg:W.gm = some g)
  (C:∀ bs' Z',(∀ H,(Z' H).isSome = (Z H).isSome) -> LS v W.L s bs' Z' W.gq W.gl Ls mk g W.hot W.warm -> Calls Tryz.prog F args v fun e v' => e = x /\ DL v v' W.L s bs' Z' W.gq W.gl Lx mk' g W.hot W.warm) :
  Calls Tryz.prog F args v fun e v' => e = x /\ Hf N w1 v' W s bs Z Lx Ld r laid told act mk':=by
 obtain ⟨bs',Z',W1,e1,z1,⟨R',vA',rfl,eb⟩,G,D⟩:=h
 refine (C bs' Z' z1 (D.wat.ls (g:=g) hg)).mono ?_
 rintro e v' ⟨rfl,D2⟩
 obtain ⟨bs2,Z2,e2,z2,G2,A⟩:=D.wat.dl (g:=g) hg D2
 exact ⟨rfl,bs2,Z2,_,e2.trans e1,fun H => (z2 H).trans (z1 H),⟨R',vA',rfl,eb⟩,G.trans G2,A,D.rel,fun H i x p hf => by rw [z2 H]; exact D.agr H i x p hf,D.ch,D.la,D.dq.cg z2,D.al⟩
theorem Hf.que {F:FuncId} {args:Array Value} {x:Ending} {RR:Nat} {Lx:Nat -> Nat -> List Nat}
  (C:∀ bs' Z',(∀ H,(Z' H).isSome = (Z H).isSome) -> QW v W.L qc s bs' Z' W.gq W.gl Ls -> Calls Tryz.prog F args v fun e v' => e = x /\ Did v v' W.L qc s bs' Z' W.gq W.gl (RR,Lx)) :
  Calls Tryz.prog F args v fun e v' => e = x /\ Hf N w1 v' W s bs Z Lx Ld r laid told act mk:=by
 obtain ⟨bs',Z',W1,e1,z1,⟨R',vA',rfl,eb⟩,G,D⟩:=h
 refine (C bs' Z' z1 D.wat.q).mono ?_
 rintro e v' ⟨rfl,o,bs2,Z2,hE,z2, -,Q⟩
 have A:=D.wat.turn o Q (D.wat.mks.ed D.wat.okc D.wat.good hE z2)
 exact ⟨rfl,bs2,Z2,_,hE.1.trans e1,fun H => (z2 H).trans (z1 H),⟨R',vA',rfl,eb⟩,G.trans (grew_turn o),A,D.rel,fun H i x p hf => by rw [z2 H]; exact D.agr H i x p hf,D.ch,D.la,D.dq.cg z2,D.al⟩
theorem Hf.docu {F:FuncId} {args:Array Value} {X:Ending -> Prop} {Lx:Nat -> Nat -> List Nat} {act':List Nat}
  (C:∀ bs' Z' W1,(∀ H,(Z' H).isSome = (Z H).isSome) -> W1.R.b = W.R.b -> W1.dm = W.dm -> W1.hot = W.hot -> W1.warm = W.warm -> DX N v W1 s bs' Z' Ls Ld r laid told act mk -> Calls Tryz.prog F args v fun e v' => X e /\ DG N v v' W1 s bs' Z' Ls Lx r laid told act' mk) :
  Calls Tryz.prog F args v fun e v' => X e /\ Hf N w1 v' W s bs Z Ls Lx r laid told act' mk:=by
 obtain ⟨bs',Z',W1,e1,z1,⟨R',vA',rfl,eb⟩,G,D⟩:=h
 refine (C bs' Z' { W with R:=R',vA:=vA' } z1 eb rfl rfl rfl D).mono ?_
 rintro e v' ⟨hX,R2,v2,e2,G2,D2⟩
 exact ⟨hX,bs',Z',_,e1,z1,⟨R2,v2,rfl,e2.trans eb⟩,G.trans G2,D2⟩
end
section
variable {N:Nat} {w:World} {W:W6} {s:St} {bs:List UInt8} {Z:Nat -> Option Zd} {Ls:Nat -> Nat -> List Nat} {r:RS} {laid told act:List Nat} {mk:Nat -> Nat} {t:Nat} (h:LI N w W s bs Z Ls r laid told act mk t)
include h
theorem LI.hf (ht:t <= 60000) {v:World} (b:Below w.heap.size w v):Hf N w v W s bs Z Ls Ls r laid told act mk :=
 ⟨bs,Z,W,rfl,fun _ => rfl,⟨W.R,W.vA,rfl,rfl⟩,(Grew.refl _ _ _ _).step b,(h.below b).dx ht⟩
theorem LI.end_ {v:World} {Lx:Nat -> Nat -> List Nat} {act':List Nat} {mk':Nat -> Nat} (H:Hf N w v W s bs Z Lx Lx r laid told act' mk') (hl:act'.length <= t + 1) (ab:∀ H,isN qc s Z H = true -> (H ∈ act' ↔ mk' H % 2 = 1)) (mr:∀ H,mk' H / 2 = mk H / 2):Goes N w v W s (t + 1):=by
 obtain ⟨bs',Z',W1,e1,z1,⟨R',vA',rfl,eb⟩,G,D⟩:=H
 exact ⟨{ W with R:=R',vA:=vA' },s,bs',Z',Lx,r,laid,told,act',mk',⟨rfl,rfl,rfl,rfl,rfl⟩,G,D.wat,h.rel,D.agr,e1.trans h.bs,by have:=h.ch; omega,by have:=h.la; omega,by have:=h.tl; omega,hl,h.tlt,h.lg,h.ln,h.lt,fun K hK => ab K (by rw [<- isN_congr z1]; exact hK),fun K hK => (mr K).trans (h.mr K (by rw [<- isN_congr z1]; exact hK)),h.dmS,h.sh⟩
end
theorem mk_div (mk:Nat -> Nat) (H:Nat) (on:Bool) (K:Nat):mkOn mk H on K / 2 = mk K / 2:=by
 unfold mkOn
 by_cases e:K = H
 ·rw [e,upd_at]
  cases on
  ·show 2 * (mk H / 2) / 2 = _; omega
  ·show (2 * (mk H / 2) + 1) / 2 = _; omega
 ·rw [upd_ne _ _ e]
theorem ab_on {mk:Nat -> Nat} {act:List Nat} (H:Nat) (on:Bool) {K:Nat} (h:K ∈ act ↔ mk K % 2 = 1):K ∈ actN H on act ↔ mkOn mk H on K % 2 = 1:=by
 unfold mkOn
 by_cases e:K = H
 ·rw [e,actN_self,upd_at]
  cases on
  ·exact ⟨fun e => (by cases e),fun e2 => by
    have e3 : 2 * (mk H / 2) % 2 = 1:=e2
    omega⟩
  ·refine ⟨fun _ => ?_,fun _ => rfl⟩
   show (2 * (mk H / 2) + 1) % 2 = 1
   omega
 ·rw [actN_other _ _ e,upd_ne _ _ e]
  exact h
theorem QL.tot {s:St} {Z:Nat -> Option Zd} {Ls:Nat -> Nat -> List Nat} (q:QL s Z Ls) {laid:List Nat} (hl:∀ H,isN qc s Z H = true -> H ∈ laid) (x:Int):totX Ls x <= laid.length:=by
 obtain ⟨Z1,F,e1,q⟩:=q
 unfold totX lenX lsN
 by_cases hx : 0 <= x /\ x < (qc.nc:Int)
 ·rw [if_pos ⟨hx.1,hx.2,by decide,by decide⟩,if_pos ⟨hx.1,hx.2,by decide,by decide⟩,if_pos ⟨hx.1,hx.2,by decide,by decide⟩]
  have hX:x.toNat < qc.nc:=by omega
  have:=nodup_sub (l:=(Ls x.toNat 0 ++ Ls x.toNat 1) ++ Ls x.toNat 2) (m:=laid) (by
   rw [List.nodup_append,List.nodup_append]
   refine ⟨⟨q.nd _ 0 hX (by decide),q.nd _ 1 hX (by decide),fun a ha b hb e => ?_⟩,q.nd _ 2 hX (by decide),fun a ha b hb e => ?_⟩
   ·subst e
    have:=(q.dj _ 0 _ 1 a hX (by decide) hX (by decide) ha hb).2
    omega
   ·subst e
    rcases List.mem_append.1 ha with ha | ha
    ·have:=(q.dj _ 0 _ 2 a hX (by decide) hX (by decide) ha hb).2
     omega
    ·have:=(q.dj _ 1 _ 2 a hX (by decide) hX (by decide) ha hb).2
     omega) (fun a ha => by
   refine hl a ?_
   rw [<- isN_congr e1]
   rcases List.mem_append.1 ha with ha | ha
   ·rcases List.mem_append.1 ha with ha | ha
    ·exact isN_it (q.is hX (by decide) ha)
    ·exact isN_it (q.is hX (by decide) ha)
   ·exact isN_it (q.is hX (by decide) ha))
  rw [List.length_append,List.length_append] at this
  exact this
 ·rw [if_neg (fun e => hx ⟨e.1,e.2.1⟩),if_neg (fun e => hx ⟨e.1,e.2.1⟩),if_neg (fun e => hx ⟨e.1,e.2.1⟩)]
  simp
theorem LI.laid_ {N:Nat} {w:World} {W:W6} {s:St} {bs:List UInt8} {Z:Nat -> Option Zd} {Ls:Nat -> Nat -> List Nat} {r:RS} {laid told act:List Nat} {mk:Nat -> Nat} {t:Nat} (h:LI N w W s bs Z Ls r laid told act mk t) (H:Nat) (hI:isN qc s Z H = true):H ∈ laid:=by
 unfold isN at hI
 obtain ⟨i1,i2⟩:=Bool.and_eq_true_iff.1 hI
 obtain ⟨⟨i,x,p⟩,hf⟩:=Option.isSome_iff_exists.1 i1
 exact (h.agr H i x p hf).1 i2
def bndN (l:Int):Int:=if l <= 2000 then l else 2000
theorem boundedC (w:World) (l:Int):Calls Tryz.prog 30 #[.int .i64 l] w fun e w' => e = .returned (.int .i64 (bndN l)) /\ w = w':=by
 unfold bndN
 by_cases h:l <= 2000
 ·rw [if_pos h]
  have d1:decide ((2000:Int) < l) = false:=decide_eq_false (by omega)
  clear h
  go_enter Tryz.func30,Tryz.ntmps30
  go_wp2
  go_ret
  exact ⟨rfl,rfl⟩
 ·rw [if_neg h]
  have d1:decide ((2000:Int) < l) = true:=decide_eq_true (by omega)
  clear h
  go_enter Tryz.func30,Tryz.ntmps30
  go_wp2
  go_ret
  exact ⟨rfl,rfl⟩
section
variable {N:Nat} {w:World} {W:W6} {s:St} {bs:List UInt8} {Z:Nat -> Option Zd} {Ls:Nat -> Nat -> List Nat} {r:RS} {laid told act:List Nat} {mk:Nat -> Nat} {t:Nat} (h:LI N w W s bs Z Ls r laid told act mk t) (ht:t <= 60000) (o:Op6) (ok:o.Ok)
include h ht ok
theorem LI.begin:∃ w1,w1 = w.alloc (.cells o.cells 64) /\ Below w.heap.size w w1 /\ LI N w1 W s bs Z Ls r laid told act mk t /\ Blk w1 w.heap.size 64 o.cells /\ (∀ i,¬ W.foot qc s i w.heap.size) /\
  Calls Tryz.prog 51 #[.pointer (some ⟨W.b,0,none⟩),.agg o.cells] w1 (fun e w' => e = .returned (.int .u64 (hdN told o:Int)) /\ Below w1.heap.size w1 w'):=by
 have b1:Below w.heap.size w (w.alloc (.cells o.cells 64)):=(Below.refl _ _).alloc (Nat.le_refl _) _
 refine ⟨_,rfl,b1,h.below b1,Blk.new w _ _,fun i e => ?_,handleC (h.below b1) ht o ok⟩
 have:=h.wat.lt i _ e
 omega
end
section
variable {N:Nat} {w:World} {W:W6} {s:St} {bs:List UInt8} {Z:Nat -> Option Zd} {Ls:Nat -> Nat -> List Nat} {r:RS} {laid told act:List Nat} {mk:Nat -> Nat} {t:Nat} (h:LI N w W s bs Z Ls r laid told act mk t) (ht:t <= 900) (o:Op6) (ok:o.Ok)
include h ht ok
theorem movesC (hgm:(∃ g,W.gm = some g) \/ (o.dO = 1 \/ o.dO = 2 \/ o.dO = 10 \/ o.dO = 12)):Calls Tryz.prog 26 #[.pointer (some ⟨W.b,0,none⟩),.agg o.cells] w fun e w' => e = .returned (.bool true) /\ Goes N w w' W s (t + 1):=by
 have ht6:t <= 60000:=by omega
 obtain ⟨w1,hw1,b1,h1,B1,hn,HC⟩:=h.begin ht6 o ok
 have hH:=hdN_lt h.tlt ok
 obtain ⟨d,edm⟩:=h.dmS
 have okc:=h.wat.okc
 have g:=h.wat.good
 have fin:∀ {v},Goes N w1 v W s (t + 1) -> Goes N w v W s (t + 1):=fun G => G.behind b1
 have P0s:∀ v n,Below w1.heap.size w1 v -> Below w1.heap.size w1 (v.drewN n):=fun v n b => below_drewN b n
 have P0c:∀ v,Below w1.heap.size w1 v -> Cmv W.b w.heap.size W.gm W.dm W.L.g W.gq W.R.b o v:=fun v b => (h1.hf ht6 b).cells B1 hn
 rw [hw1] at HC
 have hs:∀ v,Below w1.heap.size w1 v -> Hf N w1 v W s bs Z Ls Ls r laid told act mk:=fun v b => h1.hf ht6 b
 have hc:∀ {Lp Ld a m} v,Hf N w1 v W s bs Z Lp Ld r laid told a m -> Cmv W.b w.heap.size W.gm W.dm W.L.g W.gq W.R.b o v:=fun v H => H.cells B1 hn
 by_cases d1:o.dO = 1
 ·exact (armMake w W.b o _ W.gm W.dm W.L.g W.gq W.R.b (fun v => Below w1.heap.size w1 v) (fun v => Goes N w1 v W s (t + 1)) (by rw [<- hw1] at HC ⊢; exact HC) P0s P0c d1 fun v b => (makesC (h1.below b) ht6 o ok).mono fun e w' ⟨e1,G⟩ => ⟨e1,G.behind b⟩).mono fun e w' ⟨e1,G⟩ => ⟨e1,fin G⟩
 by_cases d2:o.dO = 2
 ·exact (armBare w W.b o _ W.gm W.dm W.L.g W.gq W.R.b (fun v => Below w1.heap.size w1 v) (fun v => Goes N w1 v W s (t + 1)) (by rw [<- hw1] at HC ⊢; exact HC) P0s P0c d2 fun v b => (makesC (h1.below b) ht6 o ok).mono fun e w' ⟨e1,G⟩ => ⟨e1,G.behind b⟩).mono fun e w' ⟨e1,G⟩ => ⟨e1,fin G⟩
 by_cases d3:o.dO = 3
 ·obtain ⟨n,GB⟩:=giveBoth h1 ht6 hH
  refine (armGive w W.b o (hdN told o) n W.gm W.dm W.L.g W.gq W.R.b (fun v => Below w1.heap.size w1 v) (fun v => Calls Tryz.prog 54 #[.pointer (some ⟨W.R.b,0,none⟩),.int .u64 (hdN told o:Int)] v fun e w' => e = .returned (.int .i64 (n:Int)) /\ Gv W w' /\ Goes N w1 w' W s t) (fun v => Goes N w1 v W s (t + 1)) (by rw [<- hw1] at HC ⊢; exact HC) P0s P0c d3 (stK (clsN qc s (hdN told o)) Ls (hdN told o)) (clsN qc s (hdN told o)) (fun v b => ((h1.below b).d6w ht6).whereC _) (fun v b _ => h1.stays b (Nat.le_succ _)) (fun v b h0 => ?_) (fun v P1 => P1.mono fun e w' ⟨e1,c,G⟩ => ⟨e1,c,G.more (Nat.le_succ _)⟩)).mono fun e w' ⟨e1,G⟩ => ⟨e1,fin G⟩
  refine (GB v b).mono fun e w' ⟨e1,c,P1⟩ => ⟨e1,c,P1 ?_⟩
  rcases (h1.d6w ht6).at6 (hdN told o) with ⟨-,e2⟩ | ⟨k,l1,l2,e2, -⟩
  ·exact e2
  ·omega
 by_cases d10:o.dO = 10
 ·refine (armShift w W.b o (hdN told o) (shiftN qc s Ls (hdN told o) o.b).1 W.gm W.dm W.L.g W.gq W.R.b (fun v => Below w1.heap.size w1 v) (fun v => Hf N w1 v W s bs Z (shiftN qc s Ls (hdN told o) o.b).2 Ls r laid told act mk) (fun v => Hf N w1 v W s bs Z (shiftN qc s Ls (hdN told o) o.b).2 (shiftN qc s Ls (hdN told o) o.b).2 r laid told act mk) (by rw [<- hw1] at HC ⊢; exact HC) P0s P0c hc hc d10 (fun v b => (hs v b).que fun bs' Z' z' q => shiftP q _ hH o.b) (fun v P1 => P1.docu fun bs' Z' W2 z' eb ed eh ew D => ?_)).mono fun e w' ⟨e1,H2⟩ => ⟨e1,fin (h1.end_ H2 (by have:=h.al; omega) h.ab fun _ => rfl)⟩
  rw [<- eb]
  exact D.shiftD _ o.b
 by_cases d12:o.dO = 12
 ·refine (armPush w W.b o (hdN told o) (pushN qc s Z Ls (hdN told o) o.b false).1 W.gm W.dm W.L.g W.gq W.R.b (fun v => Below w1.heap.size w1 v) (fun v => Hf N w1 v W s bs Z (pushN qc s Z Ls (hdN told o) o.b false).2 Ls r laid told act mk) (fun v => Hf N w1 v W s bs Z (pushN qc s Z Ls (hdN told o) o.b false).2 (pushN qc s Z Ls (hdN told o) o.b false).2 r laid told act mk) (by rw [<- hw1] at HC ⊢; exact HC) P0s P0c hc hc d12 (fun v b => (hs v b).que (RR:=(pushN qc s Z Ls (hdN told o) o.b false).1) fun bs' Z' z' q => ?_) (fun v P1 => P1.docu fun bs' Z' W2 z' eb ed eh ew D => ?_)).mono fun e w' ⟨e1,H2⟩ => ⟨e1,fin (h1.end_ H2 (by have:=h.al; omega) h.ab fun _ => rfl)⟩
  ·have:=pushP q _ hH o.b
   rw [pushN_cg z'] at this
   exact this
  ·have:=D.pushD (hdN told o) o.b false
   rw [pushN_cg z',eb] at this
   exact this
 by_cases dE:o.dO ≠ 4 /\ o.dO ≠ 5 /\ o.dO ≠ 6 /\ o.dO ≠ 7
 ·exact (armElse w W.b o _ W.gm W.dm W.L.g W.gq W.R.b (fun v => Below w1.heap.size w1 v) (fun v => Goes N w1 v W s (t + 1)) (by rw [<- hw1] at HC ⊢; exact HC) P0s P0c ⟨d1,d2,d3,dE.1,dE.2.1,dE.2.2.1,dE.2.2.2,d10,d12⟩ fun v b => h1.stays b (Nat.le_succ _)).mono fun e w' ⟨e1,G⟩ => ⟨e1,fin G⟩
 obtain ⟨gp,hg⟩:∃ g,W.gm = some g:=hgm.resolve_right (by omega)
 by_cases d4:o.dO = 4
 ·refine (armEnter w W.b o (hdN told o) (pushN qc s Z Ls (hdN told o) 1 false).1 W.gm W.dm W.L.g W.gq W.R.b (fun v => Below w1.heap.size w1 v) (fun v => Hf N w1 v W s bs Z (pushN qc s Z Ls (hdN told o) 1 false).2 Ls r laid told act (entM mk (hdN told o) (pushN qc s Z Ls (hdN told o) 1 false).1)) (fun v => Hf N w1 v W s bs Z (pushN qc s Z Ls (hdN told o) 1 false).2 (pushN qc s Z Ls (hdN told o) 1 false).2 r laid told (entA act (hdN told o) (pushN qc s Z Ls (hdN told o) 1 false).1) (entM mk (hdN told o) (pushN qc s Z Ls (hdN told o) 1 false).1)) (by rw [<- hw1] at HC ⊢; exact HC) P0s P0c hc hc d4 hg edm (fun v b => (hs v b).prog hg fun bs' Z' z' q => ?_) (fun v P1 => P1.docu fun bs' Z' W2 z' eb ed eh ew D => ?_)).mono fun e w' ⟨e1,H2⟩ => ⟨e1,fin (h1.end_ H2 ?_ ?_ ?_)⟩
  ·have:=enterC q _ hH
   rw [pushN_cg z'] at this
   exact this
  ·have:=D.enterD (dm:=d) (ed.trans edm) (hdN told o)
   rw [pushN_cg z'] at this
   exact this
  all_goals generalize (pushN qc s Z Ls (hdN told o) 1 false).1 = RR at *
  ·unfold entA
   have:=h.al
   have:=actN_len (hdN told o) false act
   split <;> omega
  ·intro K hK
   unfold entA entM
   split
   ·exact ab_on _ _ (h.ab K hK)
   ·exact h.ab K hK
  ·intro K
   unfold entM
   split
   ·exact mk_div _ _ _ _
   ·rfl
 by_cases d5:o.dO = 5
 ·refine (armLeave w W.b o (hdN told o) (dropN qc s Ls (hdN told o)).1 W.gm W.dm W.L.g W.gq W.R.b (fun v => Below w1.heap.size w1 v) (fun v => Hf N w1 v W s bs Z (dropN qc s Ls (hdN told o)).2 Ls r laid told act mk) (fun v => Hf N w1 v W s bs Z (dropN qc s Ls (hdN told o)).2 (dropN qc s Ls (hdN told o)).2 r laid told act mk) (by rw [<- hw1] at HC ⊢; exact HC) P0s P0c hc hc d5 hg edm (fun v b => (hs v b).prog hg fun bs' Z' z' q => leaveC q _ hH) (fun v P1 => P1.docu fun bs' Z' W2 z' eb ed eh ew D => ?_)).mono fun e w' ⟨e1,H2⟩ => ⟨e1,fin (h1.end_ H2 (by have:=h.al; omega) h.ab fun _ => rfl)⟩
  exact D.leaveD (dm:=d) (ed.trans edm) _
 by_cases d6:o.dO = 6
 ·refine (armHit w W.b o (hdN told o) (hitR s Ls (hdN told o)) W.gm W.dm W.L.g W.gq W.R.b (fun v => Below w1.heap.size w1 v) (fun v => Hf N w1 v W s bs Z Ls Ls r laid told act (hitM s Ls mk (hdN told o))) (fun v => Hf N w1 v W s bs Z Ls Ls r laid told (hitA s Ls act (hdN told o)) (hitM s Ls mk (hdN told o))) (by rw [<- hw1] at HC ⊢; exact HC) P0s P0c hc hc d6 hg edm (fun v b => (hs v b).prog hg fun bs' Z' z' q => hitC q _ hH) (fun v P1 => P1.docu fun bs' Z' W2 z' eb ed eh ew D => ?_)).mono fun e w' ⟨e1,H2⟩ => ⟨e1,fin (h1.end_ H2 ?_ ?_ ?_)⟩
  ·exact D.hitD (dm:=d) (ed.trans edm) _ (by have:=h.al; omega)
  ·unfold hitA
   have:=h.al
   have:=actN_len (hdN told o) true act
   split <;> omega
  ·intro K hK
   unfold hitA hitM
   split
   ·exact h.ab K hK
   ·exact ab_on _ _ (h.ab K hK)
  ·intro K
   unfold hitM
   split
   ·rfl
   ·exact mk_div _ _ _ _
 have d7:o.dO = 7:=by omega
 have q:=h.wat.q.ql
 have tot:=QL.tot q h.laid_ o.c
 have phi:=phi_two Ls mk o.c
 have la:=h.la
 obtain ⟨k1,k2,k3,k4,k5⟩:=bal_phi okc g h.sh o.b.toNat Ls mk (x:=o.c) q
 have eB:balN s Z W.hot W.warm o.c (bndN o.b).toNat Ls mk = balN s Z W.hot W.warm o.c o.b.toNat Ls mk:=by
  unfold bndN
  split
  ·rfl
  ·exact (k5 (by omega)).2 _ (by omega)
 obtain ⟨e1,e2,e3,e4⟩:=bal_both okc g h.sh (bndN o.b).toNat Ls mk act (x:=o.c) q h.ab
 rw [eB] at e1 e2 e3
 have hbd:bndN o.b <= 2000:=by unfold bndN; split <;> omega
 refine (armBalance w W.b o (hdN told o) (balN s Z W.hot W.warm o.c o.b.toNat Ls mk).1.length W.gm W.dm W.L.g W.gq W.R.b (fun v => Below w1.heap.size w1 v) (fun v => Hf N w1 v W s bs Z (balN s Z W.hot W.warm o.c o.b.toNat Ls mk).2.1 Ls r laid told act (balN s Z W.hot W.warm o.c o.b.toNat Ls mk).2.2) (fun v => Hf N w1 v W s bs Z (balN s Z W.hot W.warm o.c o.b.toNat Ls mk).2.1 (balN s Z W.hot W.warm o.c o.b.toNat Ls mk).2.1 r laid told (dbalN s W.hot W.warm o.c (bndN o.b).toNat Ls act).2.2 (balN s Z W.hot W.warm o.c o.b.toNat Ls mk).2.2) (by rw [<- hw1] at HC ⊢; exact HC) P0s P0c hc hc d7 hg edm (bndN o.b) (fun v => boundedC v _) (fun v b => (hs v b).prog hg fun bs' Z' z' q => ?_) (fun v P1 => (P1.docu (X:=fun e => ∃ A cp,e = .returned (.slice A (balN s Z W.hot W.warm o.c o.b.toNat Ls mk).1.length cp)) fun bs' Z' W2 z' eb ed eh ew D => ?_))).mono fun e w' ⟨e1,H2⟩ => ⟨e1,fin (h1.end_ H2 ?_ e3 k4)⟩
 ·have:=balanceC q h.sh o.c o.b ok.b
  rwa [balN_nxt z'] at this
 ·have:=D.balanceD (dm:=d) (ed.trans edm) (by rw [eh,ew]; exact h.sh) o.c (bndN o.b) hbd
  rw [eh,ew,e1,e2] at this
  exact this.mono fun e w' ⟨A,cp,e1,_,G⟩ => ⟨⟨A,cp,e1⟩,G⟩
 ·have:=h.al
  omega
end
def OCells (w:World) (b o:Nat) (p:Op6):Prop:=w.cell? ⟨b,o,none⟩ = some (.int .i64 p.dO) /\ w.cell? ⟨b,o + 1,none⟩ = some (.int .i64 p.a) /\ w.cell? ⟨b,o + 2,none⟩ = some (.int .i64 p.b) /\
 w.cell? ⟨b,o + 3,none⟩ = some (.int .i64 p.c) /\ w.cell? ⟨b,o + 4,none⟩ = some (.int .u64 (p.h:Int)) /\ w.cell? ⟨b,o + 5,none⟩ = some (.bool p.raw)
def ORow (W:World) (a0:Option Addr) (k:Nat) (p:Op6):Prop:=∃ b off,a0 = some (⟨b,off,none⟩:Addr) /\ b < W.heap.size /\ p.Ok /\ OCells W b (off + k * 6) p
theorem OCells.below {W w:World} {B b o:Nat} {p:Op6} (h:OCells W b o p) (k:Below B W w) (hb:b < B):OCells w b o p :=
 ⟨(k.cell (p:=⟨b,o,none⟩) hb).trans h.1,(k.cell (p:=⟨b,o + 1,none⟩) hb).trans h.2.1,(k.cell (p:=⟨b,o + 2,none⟩) hb).trans h.2.2.1,(k.cell (p:=⟨b,o + 3,none⟩) hb).trans h.2.2.2.1,(k.cell (p:=⟨b,o + 4,none⟩) hb).trans h.2.2.2.2.1,(k.cell (p:=⟨b,o + 5,none⟩) hb).trans h.2.2.2.2.2⟩
theorem LI.new {w:World} {N:Nat} {W:W6} (h:WAt N w W qc (new0 qc.cf) (List.replicate (qc.cf.ps * qc.cf.np) 0) (fun _ => none) (fun _ _ => []) (fun _ _ => []) rnew0 [] [] [] (fun _ => 0)) (dm:∃ d,W.dm = some d) (sh:Shr W.hot W.warm) :
  LI N w W (new0 qc.cf) (List.replicate (qc.cf.ps * qc.cf.np) 0) (fun _ => none) (fun _ _ => []) rnew0 [] [] [] (fun _ => 0) 0 :=
 ⟨h,rel_new _,fun H i x p _ => ⟨fun e => (by cases e),fun e => (by cases e)⟩,List.length_replicate,Nat.zero_le _,Nat.zero_le _,Nat.zero_le _,Nat.zero_le _,fun H e => (by cases e),fun H e => (by cases e),List.nodup_nil,fun H e => (by cases e),
  fun H e => (by unfold isN at e; simp at e),fun H e => (by unfold isN at e; simp at e),dm,sh⟩
theorem begun_shr (a b:Int):Shr (hotN a:Int) (warmN a b:Int):=by
 obtain ⟨s1,s2,s3,s4⟩:=shares_in a b
 exact ⟨by omega,by omega,by omega,by omega⟩
end Go.Proofs.YtngehaiigbbknaaGreat.Que
/-
  What the arguments of the laws of the Lru are: shares, lists of operations.
-/
namespace Go.Proofs.YtngehaiigbbknaaGreat.LrArg
open Go.ChangeShapes Go.WideShapes Go.ChangeAt Go.RowKit LawFrame Go.Deep ClsArg
variable {H:Type} {enc:TypeId × Value -> H}
theorem shareArg {W:World} {v:Value} {x:DataW H × List MemPlace} {fuel:Nat} (hv:Value.okWide Tryz.prog W .any 0 38 v)
  (hf:DataW.trod enc Tryz.prog W 0 (fun _ => true) true fuel 38 v.cells.toList = some x):∃ a b:Int,v = .agg #[.int .i64 a,.int .i64 b] /\ Cls.In a /\ Cls.In b:=by
 obtain ⟨cs,rfl,hsz⟩:=okWide_struct Tryz.underlying38 hv
 obtain ⟨n,hl,hfi⟩:=struct_at Tryz.underlying38 (by kernel_rfl) (by kernel_rfl) hf
 obtain ⟨v0,y0,hc0,ht0⟩:=hfi 0 _ rfl
 obtain ⟨v1,y1,hc1,ht1⟩:=hfi 1 _ rfl
 obtain ⟨x0,e0, -,wx0⟩:=DataW.trod_int Tryz.underlying3 ht0
 obtain ⟨x1,e1, -,wx1⟩:=DataW.trod_int Tryz.underlying3 ht1
 simp only [List.cons.injEq,and_true] at e0 e1
 subst e0 e1
 refine ⟨x0,x1,?_,i64_bd wx0,i64_bd wx1⟩
 obtain ⟨lc⟩:=cs
 match lc,hl with
 | [c0,c1],_ =>
  have g:∀ {a b:Value},some a = some b -> a = b:=fun h => by injection h
  have f0:c0 = .int .i64 x0:=g hc0
  have f1:c1 = .int .i64 x1:=g hc1
  subst f0 f1
  rfl
theorem ops8_at {W:World} {fuel len cap:Nat} {A:Option Addr} {x:DataW H × List MemPlace} (h:DataW.trod enc Tryz.prog W 0 (fun _ => true) true fuel 44 [.slice A len cap] = some x) :
  ∃ l:List Que.Op6,l.length = len /\ len <= cap /\ cap <= maxLen /\ ∀ (k:Nat) (hk:k < l.length),Que.ORow W A k l[k]:=by
 obtain ⟨hl,hm,hi⟩:=fields_at Tryz.underlying44 Tryz.underlying64 (by kernel_rfl) (by kernel_rfl) (by decide) h
 obtain ⟨l,hlen,hP⟩:=list_of (fun k (p:Que.Op6) => Que.ORow W A k p) len (by
  intro k hk
  obtain ⟨b,off,n,rfl,hb,hfi⟩:=hi k hk
  obtain ⟨v0,y0,hc0,ht0⟩:=hfi 0 _ rfl
  obtain ⟨v1,y1,hc1,ht1⟩:=hfi 1 _ rfl
  obtain ⟨v2,y2,hc2,ht2⟩:=hfi 2 _ rfl
  obtain ⟨v3,y3,hc3,ht3⟩:=hfi 3 _ rfl
  obtain ⟨v4,y4,hc4,ht4⟩:=hfi 4 _ rfl
  obtain ⟨v5,y5,hc5,ht5⟩:=hfi 5 _ rfl
  obtain ⟨x0,e0, -,wx0⟩:=DataW.trod_int Tryz.underlying3 ht0
  obtain ⟨x1,e1, -,wx1⟩:=DataW.trod_int Tryz.underlying3 ht1
  obtain ⟨x2,e2, -,wx2⟩:=DataW.trod_int Tryz.underlying3 ht2
  obtain ⟨x3,e3, -,wx3⟩:=DataW.trod_int Tryz.underlying3 ht3
  obtain ⟨x4,e4, -,wx4⟩:=DataW.trod_int Tryz.underlying50 ht4
  obtain ⟨x5,e5, -⟩:=DataW.trod_bool Tryz.underlying4 ht5
  simp only [List.cons.injEq,and_true] at e0 e1 e2 e3 e4 e5
  obtain ⟨u4,e4',hu4⟩:=u64_nat wx4
  subst e4'
  subst e0 e1 e2 e3 e4 e5
  exact ⟨⟨x0,x1,x2,x3,u4,x5⟩,b,off,rfl,hb,⟨i64_bd wx0,i64_bd wx1,i64_bd wx2,i64_bd wx3,hu4⟩,hc0,hc1,hc2,hc3,hc4,hc5⟩)
 exact ⟨l,hlen,hl,hm,fun k hk => hP k hk⟩
end Go.Proofs.YtngehaiigbbknaaGreat.LrArg
/-
  A step of the program's Lru that tells who moves, ahead of the move.
-/
namespace Go.Proofs.YtngehaiigbbknaaGreat.Que
open Go.RowKit Base Arena Cls Itm
theorem nil_funcL (k1 k2 k3 k4:Value) (w:World):Sem.run Tryz.prog (binOp BinOp.neq 67 (.func (.func 28) #[] #[k1,k2,k3,k4]) .nilFunc) w = .ok (.bool true) w:=by kernel_rfl
section
variable {w:World} {L:Lay} {s:St} {bs:List UInt8} {Z:Nat -> Option Zd} {gq gl:Nat} {Ls:Nat -> Nat -> List Nat} {mk:Nat -> Nat} {g:Nat} {hot warm:Int} (h:LS w L s bs Z gq gl Ls mk g hot warm)
include h
theorem LS.ruleB (x:Int) (k:Nat) (hk : 0 < lenX Ls x (k:Int)) (ed:dueK s Z Ls mk hot warm x = k) (k0:k ≠ 0) (k1 k2 k3 k4:Value) (R:World -> World -> Prop)
  (LC:∀ v,Below w.heap.size w v -> dueK s Z Ls mk hot warm x ≠ 0 -> Calls Tryz.prog 28 #[.int .u64 (stepH s Z Ls mk hot warm x:Int),k1,k2,k3,k4] v fun e v' => e = .returned (.tuple #[]) /\ R v v')
  (RL:∀ v v',Below w.heap.size w v -> R v v' -> LS v' L s bs Z gq gl Ls mk g hot warm):∃ (H:Nat) (B:Bool) (K:Int),H < 18446744073709551616 /\ (if B then (2:Int) else 3) = K /\
  (∀ v,Below w.heap.size w v -> Calls Tryz.prog 20 #[.pointer (some ⟨gq,0,none⟩),.int .i64 x,.int .i64 (k:Int)] v fun e v' => e = .returned (.tuple #[.int .u64 (H:Int),.bool true]) /\ v = v') /\
  (∀ v,Below w.heap.size w v -> Calls Tryz.prog 70 #[.pointer (some ⟨g,0,none⟩),.int .u64 (H:Int)] v fun e v' => e = .returned (.bool B) /\ Below v.heap.size v v') /\
  (∀ v,Below w.heap.size w v -> Calls Tryz.prog 28 #[.int .u64 (H:Int),k1,k2,k3,k4] v fun e u => e = .returned (.tuple #[]) /\ R v u /\ u.cell? ⟨g,1,none⟩ = some (.pointer (some ⟨gq,0,none⟩)) /\
   Calls Tryz.prog 58 #[.pointer (some ⟨gq,0,none⟩),.int .u64 (H:Int),.int .i64 K] u fun e v' => ∃ E:Nat,e = .returned (.int .i64 (E:Int)) /\
   Calls Tryz.prog 73 #[.pointer (some ⟨g,0,none⟩),.int .u64 (H:Int),.bool false] v' fun e v2 => e = .returned (.tuple #[]) /\ DL u v2 L s bs Z gq gl (nxtL s Z Ls mk hot warm x) (nxtM s Z Ls mk hot warm x) g hot warm):=by
 obtain ⟨hI,hH,hx,hm⟩:=h.tail hk
 have eH:stepH s Z Ls mk hot warm x = tailX Ls x (k:Int):=by unfold stepH; rw [ed]
 rw [eH] at LC
 refine ⟨tailX Ls x (k:Int),actB s Z mk (tailX Ls x (k:Int)),toK s Z mk (tailX Ls x (k:Int)),hH,rfl,fun v b => ?_,fun v b => activeC (h.below b) _ hH,fun v b => ?_⟩
 ·have:=tailC (h.below b).q x (k:Int)
  rw [show decide (0 < (lsN qc Ls x (k:Int)).length) = true from decide_eq_true hk] at this
  exact this
 ·refine (LC v b (by rw [ed]; exact k0)).mono ?_
  rintro e u ⟨e0,hR⟩
  have hv:=RL v u b hR
  refine ⟨e0,hR,hv.cells.2.1,?_⟩
  refine (shiftP hv.q _ hH (toK s Z mk (tailX Ls x (k:Int)))).mono ?_
  rintro e v' ⟨rfl,D⟩
  refine ⟨_,rfl,?_⟩
  have D1:=hv.did D
  obtain ⟨o1,bs1,Z1,e1,z1,S1⟩:=D1
  refine (lmarkC S1 _ hH (by rw [isN_congr z1]; exact isN_it hI) false).mono ?_
  rintro e v2 ⟨rfl,o2,bs2,Z2,e2,z2,S2⟩
  refine ⟨rfl,two_trans o1 o2,bs2,Z2,e2.trans e1,fun H => (z2 H).trans (z1 H),?_⟩
  unfold nxtL nxtM
  rw [if_neg (by rw [ed]; exact k0),if_neg (by rw [ed]; exact k0)]
  unfold stepL stepM
  rw [eH]
  exact S2
set_option maxHeartbeats 1600000 in
theorem stepLC (sh:Shr hot warm) (x:Int) (k1 k2 k3 k4:Value) (R:World -> World -> Prop)
  (LC:∀ v,Below w.heap.size w v -> dueK s Z Ls mk hot warm x ≠ 0 -> Calls Tryz.prog 28 #[.int .u64 (stepH s Z Ls mk hot warm x:Int),k1,k2,k3,k4] v fun e v' => e = .returned (.tuple #[]) /\ R v v')
  (RL:∀ v v',Below w.heap.size w v -> R v v' -> LS v' L s bs Z gq gl Ls mk g hot warm) :
  Calls Tryz.prog 44 #[.pointer (some ⟨g,0,none⟩),.int .i64 x,.func (.func 28) #[] #[k1,k2,k3,k4]] w fun e w' => e = .returned (.bool (decide (dueK s Z Ls mk hot warm x ≠ 0))) /\ (dueK s Z Ls mk hot warm x = 0 /\ DL w w' L s bs Z gq gl (nxtL s Z Ls mk hot warm x) (nxtM s Z Ls mk hot warm x) g hot warm \/ dueK s Z Ls mk hot warm x ≠ 0 /\ ∃ v v',Below w.heap.size w v /\ R v v' /\ DL v' w' L s bs Z gq gl (nxtL s Z Ls mk hot warm x) (nxtM s Z Ls mk hot warm x) g hot warm):=by
 obtain ⟨u1,u2,u3,u4⟩:=h.due sh x
 have CE:=fun v (b:Below w.heap.size w v) => (h.below b).cells.2.1
 have HL:=fun v (b:Below w.heap.size w v) => hotLongC (h.below b) sh x
 have WL:=fun v (b:Below w.heap.size w v) => warmLongC (h.below b) sh x
 have CL:=fun v (b:Below w.heap.size w v) => coldActiveC (h.below b) x
 have A1:=fun e => h.ruleB x 1 (u1 e) e (by decide) k1 k2 k3 k4 R LC RL
 have A2:=fun e => h.ruleB x 2 (u2 e) e (by decide) k1 k2 k3 k4 R LC RL
 have A3:=fun e => h.ruleB x 3 (u3 e) e (by decide) k1 k2 k3 k4 R LC RL
 have A0:=fun e v (b:Below w.heap.size w v) => h.stay x e b
 have hdu:dueK s Z Ls mk hot warm x = if hotB Ls hot x then 1 else if warmB Ls warm x then 2 else if coldB s Z Ls mk x then 3 else 0:=rfl
 have RC:=Lib.hid (rulesC w)
 generalize dueK s Z Ls mk hot warm x = D at *
 generalize hotB Ls hot x = bh at *
 generalize warmB Ls warm x = bw at *
 generalize coldB s Z Ls mk x = bc at *
 replace CE:=Lib.hid CE
 replace HL:=Lib.hid HL
 replace WL:=Lib.hid WL
 replace CL:=Lib.hid CL
 replace A0:=Lib.hid A0
 replace A1:=Lib.hid A1
 replace A2:=Lib.hid A2
 replace A3:=Lib.hid A3
 replace hdu:=Lib.hid hdu
 clear h u1 u2 u3 u4 sh LC RL
 go_enter Tryz.func44,Tryz.ntmps44
 go_wp2_with fail
 refine RC.out.mono ?_
 rintro e w1 ⟨rfl,b1⟩
 replace b1:=Lib.hid b1
 go_wp2_with fail
 go_loopw [13] (fun vi wr => Hid (Below w.heap.size w wr) /\ (vi = .int .i64 0 \/ (vi = .int .i64 1 /\ Hid (bh = false)) \/ (vi = .int .i64 2 /\ Hid (bh = false) /\ Hid (bw = false)) \/ (vi = .int .i64 3 /\ Hid (bh = false) /\ Hid (bw = false) /\ Hid (bc = false)))) (fun vi _ => 3 - (intOf vi).toNat)
 case atStart => exact ⟨b1,.inl rfl⟩
 case round =>
  obtain ⟨br,rfl | ⟨rfl,f1⟩ | ⟨rfl,f1,f2⟩ | ⟨rfl,f1,f2,f3⟩⟩:=hrel
  ·obtain ⟨N,hN⟩:∃ N,N = wr.heap.size:=⟨_,rfl⟩
   have ea:=Blk.new wr 156 #[.int .i64 1,.nilFunc]
   have sx:=store_func (wr.alloc (.cells #[.int .i64 1,.nilFunc] 156)) wr.heap.size 1 (.func 130) #[] #[] ea (by decide)
   obtain ⟨w2,hw2⟩:∃ w2,w2 = wr.alloc (.cells #[.int .i64 1,.func (.func 130) #[] #[]] 156):=⟨_,rfl⟩
   have B2:Blk w2 N 156 #[.int .i64 1,.func (.func 130) #[] #[]]:=by rw [hw2,hN]; exact Blk.new wr _ _
   have b2:Below w.heap.size w w2:=by rw [hw2]; exact br.out.alloc br.out.size _
   replace ea:=Lib.hid ea
   have x1:=B2.cell 1
   have DC:=Lib.hid (HL.out w2 b2)
   have q1:IntKind.i64.wrap (0 + 1) = 1:=rfl
   have ix:=rule_at0 wr
   replace hw2:=Lib.hid hw2
   replace hN:=Lib.hid hN
   replace B2:=Lib.hid B2
   replace b2:=Lib.hid b2
   clear br
   go_upto_region 4 with fail
   rw [<- hw2.out, <- hN.out]
   go_wp2_with fail
   refine DC.out.mono ?_
   rintro e w3 ⟨rfl,c3⟩
   have b3:=b2.out.trans (c3.mono b2.out.size)
   have B3:=B2.out.below c3 B2.out.lt
   have x0:=B3.cell 0
   cases hb:bh with
   | true =>
    have ed:D = 1:=by rw [hdu.out,hb]; rfl
    obtain ⟨H,B,K,hH,hK,TC,AC,SC⟩:=A1.out ed
    have y1:=CE.out w3 b3
    have e1:decide (D ≠ 0) = true:=by rw [ed]; rfl
    have TC3:=Lib.hid (fun nq => TC (w3.drewN nq) (below_drewN b3 nq))
    replace AC:=Lib.hid AC
    replace SC:=Lib.hid SC
    replace ed:=Lib.hid ed
    replace b3:=Lib.hid b3
    replace e1:=Lib.hid e1
    replace B3:=Lib.hid B3
    clear hb hH c3 DC TC
    cases B with
    | false =>
     obtain rfl:(3:Int) = K:=hK
     go_upto_region 5 with fail
     go_quiet (first | (go_at_call 20; with_reducible exact quiet_left (TC3.out _)) | fail)
     rename Nat => nq1
     obtain ⟨w4,hw4⟩:∃ w4,w4 = w3.drewN nq1:=⟨_,rfl⟩
     rw [<- hw4]
     have b4:Below w.heap.size w w4:=by rw [hw4]; exact below_drewN b3.out nq1
     have AC4:=Lib.hid (AC.out w4 b4)
     replace b4:=Lib.hid b4
     replace hw4:=Lib.hid hw4
     clear AC TC3 b3
     go_wp2_with fail
     refine AC4.out.mono ?_
     rintro e w5 ⟨rfl,c5⟩
     have b5:=b4.out.trans (c5.mono b4.out.size)
     have y5:=CE.out w5 b5
     have nf:=nil_funcL k1 k2 k3 k4 w5
     have SC5:=Lib.hid (SC.out w5 b5)
     clear c5 b4 AC4 SC y5
     replace b5:=Lib.hid b5
     go_wp2_with fail
     refine SC5.out.mono ?_
     rintro e v5 ⟨rfl,hR,y5,SH⟩
     replace hR:=Lib.hid hR
     replace SH:=Lib.hid SH
     clear SC5
     go_wp2_with fail
     refine SH.out.mono ?_
     rintro e w6 ⟨E,rfl,MK⟩
     replace MK:=Lib.hid MK
     clear SH
     go_wp2_with fail
     refine MK.out.mono ?_
     rintro e w7 ⟨rfl,T⟩
     replace T:=Lib.hid T
     clear MK
     go_wp2
     go_ret
     exact ⟨by rw [e1.out]; rfl,.inr ⟨by rw [ed.out]; decide,w5,v5,b5.out,hR.out,T.out⟩⟩
    | true =>
     obtain rfl:(2:Int) = K:=hK
     go_upto_region 5 with fail
     go_quiet (first | (go_at_call 20; with_reducible exact quiet_left (TC3.out _)) | fail)
     rename Nat => nq1
     obtain ⟨w4,hw4⟩:∃ w4,w4 = w3.drewN nq1:=⟨_,rfl⟩
     rw [<- hw4]
     have b4:Below w.heap.size w w4:=by rw [hw4]; exact below_drewN b3.out nq1
     have AC4:=Lib.hid (AC.out w4 b4)
     replace b4:=Lib.hid b4
     replace hw4:=Lib.hid hw4
     clear AC TC3 b3
     go_wp2_with fail
     refine AC4.out.mono ?_
     rintro e w5 ⟨rfl,c5⟩
     have b5:=b4.out.trans (c5.mono b4.out.size)
     have y5:=CE.out w5 b5
     have nf:=nil_funcL k1 k2 k3 k4 w5
     have SC5:=Lib.hid (SC.out w5 b5)
     clear c5 b4 AC4 SC y5
     replace b5:=Lib.hid b5
     go_wp2_with fail
     refine SC5.out.mono ?_
     rintro e v5 ⟨rfl,hR,y5,SH⟩
     replace hR:=Lib.hid hR
     replace SH:=Lib.hid SH
     clear SC5
     go_wp2_with fail
     refine SH.out.mono ?_
     rintro e w6 ⟨E,rfl,MK⟩
     replace MK:=Lib.hid MK
     clear SH
     go_wp2_with fail
     refine MK.out.mono ?_
     rintro e w7 ⟨rfl,T⟩
     replace T:=Lib.hid T
     clear MK
     go_wp2
     go_ret
     exact ⟨by rw [e1.out]; rfl,.inr ⟨by rw [ed.out]; decide,w5,v5,b5.out,hR.out,T.out⟩⟩
   | false =>
    have fx:=Lib.hid hb
    replace b3:=Lib.hid b3
    clear c3 DC B3 hb
    go_wp2
    go_roundw
    case rel => exact ⟨b3,.inr (.inl ⟨rfl,fx⟩)⟩
    case measure => simp [intOf]
  ·obtain ⟨N,hN⟩:∃ N,N = wr.heap.size:=⟨_,rfl⟩
   have ea:=Blk.new wr 156 #[.int .i64 2,.nilFunc]
   have sx:=store_func (wr.alloc (.cells #[.int .i64 2,.nilFunc] 156)) wr.heap.size 1 (.func 131) #[] #[] ea (by decide)
   obtain ⟨w2,hw2⟩:∃ w2,w2 = wr.alloc (.cells #[.int .i64 2,.func (.func 131) #[] #[]] 156):=⟨_,rfl⟩
   have B2:Blk w2 N 156 #[.int .i64 2,.func (.func 131) #[] #[]]:=by rw [hw2,hN]; exact Blk.new wr _ _
   have b2:Below w.heap.size w w2:=by rw [hw2]; exact br.out.alloc br.out.size _
   replace ea:=Lib.hid ea
   have x1:=B2.cell 1
   have DC:=Lib.hid (WL.out w2 b2)
   have q1:IntKind.i64.wrap (1 + 1) = 2:=rfl
   have ix:=rule_at1 wr
   replace hw2:=Lib.hid hw2
   replace hN:=Lib.hid hN
   replace B2:=Lib.hid B2
   replace b2:=Lib.hid b2
   clear br
   go_upto_region 4 with fail
   rw [<- hw2.out, <- hN.out]
   go_wp2_with fail
   refine DC.out.mono ?_
   rintro e w3 ⟨rfl,c3⟩
   have b3:=b2.out.trans (c3.mono b2.out.size)
   have B3:=B2.out.below c3 B2.out.lt
   have x0:=B3.cell 0
   cases hb:bw with
   | true =>
    have ed:D = 2:=by rw [hdu.out,f1.out,hb]; rfl
    obtain ⟨H,B,K,hH,hK,TC,AC,SC⟩:=A2.out ed
    have y1:=CE.out w3 b3
    have e1:decide (D ≠ 0) = true:=by rw [ed]; rfl
    have TC3:=Lib.hid (fun nq => TC (w3.drewN nq) (below_drewN b3 nq))
    replace AC:=Lib.hid AC
    replace SC:=Lib.hid SC
    replace ed:=Lib.hid ed
    replace b3:=Lib.hid b3
    replace e1:=Lib.hid e1
    replace B3:=Lib.hid B3
    clear hb hH c3 DC TC
    cases B with
    | false =>
     obtain rfl:(3:Int) = K:=hK
     go_upto_region 5 with fail
     go_quiet (first | (go_at_call 20; with_reducible exact quiet_left (TC3.out _)) | fail)
     rename Nat => nq1
     obtain ⟨w4,hw4⟩:∃ w4,w4 = w3.drewN nq1:=⟨_,rfl⟩
     rw [<- hw4]
     have b4:Below w.heap.size w w4:=by rw [hw4]; exact below_drewN b3.out nq1
     have AC4:=Lib.hid (AC.out w4 b4)
     replace b4:=Lib.hid b4
     replace hw4:=Lib.hid hw4
     clear AC TC3 b3
     go_wp2_with fail
     refine AC4.out.mono ?_
     rintro e w5 ⟨rfl,c5⟩
     have b5:=b4.out.trans (c5.mono b4.out.size)
     have y5:=CE.out w5 b5
     have nf:=nil_funcL k1 k2 k3 k4 w5
     have SC5:=Lib.hid (SC.out w5 b5)
     clear c5 b4 AC4 SC y5
     replace b5:=Lib.hid b5
     go_wp2_with fail
     refine SC5.out.mono ?_
     rintro e v5 ⟨rfl,hR,y5,SH⟩
     replace hR:=Lib.hid hR
     replace SH:=Lib.hid SH
     clear SC5
     go_wp2_with fail
     refine SH.out.mono ?_
     rintro e w6 ⟨E,rfl,MK⟩
     replace MK:=Lib.hid MK
     clear SH
     go_wp2_with fail
     refine MK.out.mono ?_
     rintro e w7 ⟨rfl,T⟩
     replace T:=Lib.hid T
     clear MK
     go_wp2
     go_ret
     exact ⟨by rw [e1.out]; rfl,.inr ⟨by rw [ed.out]; decide,w5,v5,b5.out,hR.out,T.out⟩⟩
    | true =>
     obtain rfl:(2:Int) = K:=hK
     go_upto_region 5 with fail
     go_quiet (first | (go_at_call 20; with_reducible exact quiet_left (TC3.out _)) | fail)
     rename Nat => nq1
     obtain ⟨w4,hw4⟩:∃ w4,w4 = w3.drewN nq1:=⟨_,rfl⟩
     rw [<- hw4]
     have b4:Below w.heap.size w w4:=by rw [hw4]; exact below_drewN b3.out nq1
     have AC4:=Lib.hid (AC.out w4 b4)
     replace b4:=Lib.hid b4
     replace hw4:=Lib.hid hw4
     clear AC TC3 b3
     go_wp2_with fail
     refine AC4.out.mono ?_
     rintro e w5 ⟨rfl,c5⟩
     have b5:=b4.out.trans (c5.mono b4.out.size)
     have y5:=CE.out w5 b5
     have nf:=nil_funcL k1 k2 k3 k4 w5
     have SC5:=Lib.hid (SC.out w5 b5)
     clear c5 b4 AC4 SC y5
     replace b5:=Lib.hid b5
     go_wp2_with fail
     refine SC5.out.mono ?_
     rintro e v5 ⟨rfl,hR,y5,SH⟩
     replace hR:=Lib.hid hR
     replace SH:=Lib.hid SH
     clear SC5
     go_wp2_with fail
     refine SH.out.mono ?_
     rintro e w6 ⟨E,rfl,MK⟩
     replace MK:=Lib.hid MK
     clear SH
     go_wp2_with fail
     refine MK.out.mono ?_
     rintro e w7 ⟨rfl,T⟩
     replace T:=Lib.hid T
     clear MK
     go_wp2
     go_ret
     exact ⟨by rw [e1.out]; rfl,.inr ⟨by rw [ed.out]; decide,w5,v5,b5.out,hR.out,T.out⟩⟩
   | false =>
    have fx:=Lib.hid hb
    replace b3:=Lib.hid b3
    clear c3 DC B3 hb
    go_wp2
    go_roundw
    case rel => exact ⟨b3,.inr (.inr (.inl ⟨rfl,f1,fx⟩))⟩
    case measure => simp [intOf]
  ·obtain ⟨N,hN⟩:∃ N,N = wr.heap.size:=⟨_,rfl⟩
   have ea:=Blk.new wr 156 #[.int .i64 3,.nilFunc]
   have sx:=store_func (wr.alloc (.cells #[.int .i64 3,.nilFunc] 156)) wr.heap.size 1 (.func 132) #[] #[] ea (by decide)
   obtain ⟨w2,hw2⟩:∃ w2,w2 = wr.alloc (.cells #[.int .i64 3,.func (.func 132) #[] #[]] 156):=⟨_,rfl⟩
   have B2:Blk w2 N 156 #[.int .i64 3,.func (.func 132) #[] #[]]:=by rw [hw2,hN]; exact Blk.new wr _ _
   have b2:Below w.heap.size w w2:=by rw [hw2]; exact br.out.alloc br.out.size _
   replace ea:=Lib.hid ea
   have x1:=B2.cell 1
   have DC:=Lib.hid (CL.out w2 b2)
   have q1:IntKind.i64.wrap (2 + 1) = 3:=rfl
   have ix:=rule_at2 wr
   replace hw2:=Lib.hid hw2
   replace hN:=Lib.hid hN
   replace B2:=Lib.hid B2
   replace b2:=Lib.hid b2
   clear br
   go_upto_region 4 with fail
   rw [<- hw2.out, <- hN.out]
   go_wp2_with fail
   refine DC.out.mono ?_
   rintro e w3 ⟨rfl,c3⟩
   have b3:=b2.out.trans (c3.mono b2.out.size)
   have B3:=B2.out.below c3 B2.out.lt
   have x0:=B3.cell 0
   cases hb:bc with
   | true =>
    have ed:D = 3:=by rw [hdu.out,f1.out,f2.out,hb]; rfl
    obtain ⟨H,B,K,hH,hK,TC,AC,SC⟩:=A3.out ed
    have y1:=CE.out w3 b3
    have e1:decide (D ≠ 0) = true:=by rw [ed]; rfl
    have TC3:=Lib.hid (fun nq => TC (w3.drewN nq) (below_drewN b3 nq))
    replace AC:=Lib.hid AC
    replace SC:=Lib.hid SC
    replace ed:=Lib.hid ed
    replace b3:=Lib.hid b3
    replace e1:=Lib.hid e1
    replace B3:=Lib.hid B3
    clear hb hH c3 DC TC
    cases B with
    | false =>
     obtain rfl:(3:Int) = K:=hK
     go_upto_region 5 with fail
     go_quiet (first | (go_at_call 20; with_reducible exact quiet_left (TC3.out _)) | fail)
     rename Nat => nq1
     obtain ⟨w4,hw4⟩:∃ w4,w4 = w3.drewN nq1:=⟨_,rfl⟩
     rw [<- hw4]
     have b4:Below w.heap.size w w4:=by rw [hw4]; exact below_drewN b3.out nq1
     have AC4:=Lib.hid (AC.out w4 b4)
     replace b4:=Lib.hid b4
     replace hw4:=Lib.hid hw4
     clear AC TC3 b3
     go_wp2_with fail
     refine AC4.out.mono ?_
     rintro e w5 ⟨rfl,c5⟩
     have b5:=b4.out.trans (c5.mono b4.out.size)
     have y5:=CE.out w5 b5
     have nf:=nil_funcL k1 k2 k3 k4 w5
     have SC5:=Lib.hid (SC.out w5 b5)
     clear c5 b4 AC4 SC y5
     replace b5:=Lib.hid b5
     go_wp2_with fail
     refine SC5.out.mono ?_
     rintro e v5 ⟨rfl,hR,y5,SH⟩
     replace hR:=Lib.hid hR
     replace SH:=Lib.hid SH
     clear SC5
     go_wp2_with fail
     refine SH.out.mono ?_
     rintro e w6 ⟨E,rfl,MK⟩
     replace MK:=Lib.hid MK
     clear SH
     go_wp2_with fail
     refine MK.out.mono ?_
     rintro e w7 ⟨rfl,T⟩
     replace T:=Lib.hid T
     clear MK
     go_wp2
     go_ret
     exact ⟨by rw [e1.out]; rfl,.inr ⟨by rw [ed.out]; decide,w5,v5,b5.out,hR.out,T.out⟩⟩
    | true =>
     obtain rfl:(2:Int) = K:=hK
     go_upto_region 5 with fail
     go_quiet (first | (go_at_call 20; with_reducible exact quiet_left (TC3.out _)) | fail)
     rename Nat => nq1
     obtain ⟨w4,hw4⟩:∃ w4,w4 = w3.drewN nq1:=⟨_,rfl⟩
     rw [<- hw4]
     have b4:Below w.heap.size w w4:=by rw [hw4]; exact below_drewN b3.out nq1
     have AC4:=Lib.hid (AC.out w4 b4)
     replace b4:=Lib.hid b4
     replace hw4:=Lib.hid hw4
     clear AC TC3 b3
     go_wp2_with fail
     refine AC4.out.mono ?_
     rintro e w5 ⟨rfl,c5⟩
     have b5:=b4.out.trans (c5.mono b4.out.size)
     have y5:=CE.out w5 b5
     have nf:=nil_funcL k1 k2 k3 k4 w5
     have SC5:=Lib.hid (SC.out w5 b5)
     clear c5 b4 AC4 SC y5
     replace b5:=Lib.hid b5
     go_wp2_with fail
     refine SC5.out.mono ?_
     rintro e v5 ⟨rfl,hR,y5,SH⟩
     replace hR:=Lib.hid hR
     replace SH:=Lib.hid SH
     clear SC5
     go_wp2_with fail
     refine SH.out.mono ?_
     rintro e w6 ⟨E,rfl,MK⟩
     replace MK:=Lib.hid MK
     clear SH
     go_wp2_with fail
     refine MK.out.mono ?_
     rintro e w7 ⟨rfl,T⟩
     replace T:=Lib.hid T
     clear MK
     go_wp2
     go_ret
     exact ⟨by rw [e1.out]; rfl,.inr ⟨by rw [ed.out]; decide,w5,v5,b5.out,hR.out,T.out⟩⟩
   | false =>
    have fx:=Lib.hid hb
    replace b3:=Lib.hid b3
    clear c3 DC B3 hb
    go_wp2
    go_roundw
    case rel => exact ⟨b3,.inr (.inr (.inr ⟨rfl,f1,f2,fx⟩))⟩
    case measure => simp [intOf]
  ·have ed:D = 0:=by rw [hdu.out,f1.out,f2.out,f3.out]; rfl
   have e1:decide (D ≠ 0) = false:=by rw [ed]; rfl
   have T:=Lib.hid (A0.out ed wr br.out)
   replace e1:=Lib.hid e1
   clear br
   go_wp2
   go_ret
   exact ⟨by rw [e1.out]; rfl,.inl ⟨ed,T.out⟩⟩
end
section
variable {w:World} {L:Lay} {s:St} {bs:List UInt8} {Z:Nat -> Option Zd} {gq gl:Nat} {Ls:Nat -> Nat -> List Nat} {mk:Nat -> Nat} {g:Nat} {hot warm:Int} (h:LS w L s bs Z gq gl Ls mk g hot warm)
include h
end
theorem QI.head8 {c:Conf} {s:St} {Z:Nat -> Option Zd} {F:QN} {Ls:Nat -> Nat -> List Nat} (q:QI c s Z F Ls) (ok:c.cf.Ok) (g:Cls.Good c.cf s) {H:Nat} (hi:isN c s Z H = true) :
  ∃ z i x p,Z H = some z /\ findN c.cf s H = some (i,x,p) /\ z.st = stateN c s Z Ls H:=by
 have hi2:=hi
 unfold isN at hi2
 obtain ⟨⟨i,x,p⟩,hf⟩:=Option.isSome_iff_exists.1 (Bool.and_eq_true_iff.1 hi2).1
 obtain ⟨z,hz⟩:=Option.isSome_iff_exists.1 (Bool.and_eq_true_iff.1 hi2).2
 refine ⟨z,i,x,p,hz,hf,?_⟩
 by_cases h0:stK (clsN c s H) Ls H = 0
 ·have hz4:z = ⟨4,0,0⟩:=q.out H z ⟨i,x,p,hf⟩ hz (q.not_stK h0)
  subst hz4
  unfold stateN
  rw [if_pos h0,if_pos hi]
 ·obtain ⟨z',hz', -,h1, -, -⟩:=q.links ok g h0
  rw [hz] at hz'
  injection hz' with hz'
  subst hz'
  unfold stateN
  rw [if_neg h0]
  exact h1
theorem QI.next8 {c:Conf} {s:St} {Z:Nat -> Option Zd} {F:QN} {Ls:Nat -> Nat -> List Nat} (q:QI c s Z F Ls) (ok:c.cf.Ok) (g:Cls.Good c.cf s) {x k H:Nat} (hx:x < c.nc) (hk:k < 3) {l1 l2:List Nat} (hl:Ls x k = l1 ++ H :: l2) :
  H < 18446744073709551616 /\ nextN c s Ls H = l2.head?.getD 0 /\ decide (nextN c s Ls H ≠ 0) = decide (0 < l2.length):=by
 obtain ⟨e1,e2,e3⟩:=q.next_in ok g hx hk hl
 exact ⟨e3,e1,e2⟩
theorem stateN_cg {s:St} {Z Z':Nat -> Option Zd} {Ls:Nat -> Nat -> List Nat} {H:Nat} (h:∀ K,(Z' K).isSome = (Z K).isSome):stateN qc s Z' Ls H = stateN qc s Z Ls H:=by
 unfold stateN
 rw [isN_congr h]
section
variable {N:Nat} {w:World} {W:W6} {s:St} {bs:List UInt8} {Z:Nat -> Option Zd} {Ls:Nat -> Nat -> List Nat} {r:RS} {laid told act:List Nat} {mk:Nat -> Nat} {t:Nat} (h:LI N w W s bs Z Ls r laid told act mk t) (ht:t <= 60000) {g:Nat} (hg:W.gm = some g)
include h ht hg
theorem LI.cells8:w.cell? ⟨W.b,0,none⟩ = some (.pointer (some ⟨W.L.g,0,none⟩)) /\ w.cell? ⟨W.b,1,none⟩ = some (.pointer (some ⟨W.gq,0,none⟩)) /\ w.cell? ⟨W.b,2,none⟩ = some (.pointer (some ⟨g,0,none⟩)) /\ w.cell? ⟨W.b,4,none⟩ = some (.pointer (some ⟨W.R.b,0,none⟩)) /\ ∃ d,W.dm = some d /\ w.cell? ⟨W.b,5,none⟩ = some (.pointer (some ⟨d,0,none⟩)):=by
 have B:=h.wat.own
 unfold W6.cells at B
 rw [hg] at B
 obtain ⟨d,ed⟩:=h.dmS
 rw [ed] at B
 exact ⟨B.cell 0,B.cell 1,B.cell 2,B.cell 4,d,ed,B.cell 5⟩
theorem lengthC8 (x:Int):Calls Tryz.prog 49 #[.pointer (some ⟨W.b,0,none⟩),.int .i64 x] w fun e w' => e = .returned (.bool true) /\ Below w.heap.size w w':=by
 obtain ⟨d,ed⟩:=h.dmS
 have LC:=lenC3 (h.wat.ls hg) x
 have LD:=fun w1 (b:Below w.heap.size w w1) => ((h.below b).dx ht).lenD ed x
 have CE:=fun w1 (b:Below w.heap.size w w1) => (h.below b).cells8 ht hg
 obtain ⟨-, -,y2, -, -⟩:=h.cells8 ht hg
 generalize lenX Ls x 1 = n1 at *
 generalize lenX Ls x 2 = n2 at *
 generalize lenX Ls x 3 = n3 at *
 have e1:((n1:Int) == (n1:Int)) = true:=by simp
 have e2:((n2:Int) == (n2:Int)) = true:=by simp
 have e3:((n3:Int) == (n3:Int)) = true:=by simp
 replace LC:=Lib.hid LC
 replace LD:=Lib.hid LD
 replace CE:=Lib.hid CE
 have ed2:=Lib.hid ed
 clear h hg ed
 go_enter Tryz.func49,Tryz.ntmps49
 go_wp2_with fail
 refine LC.out.mono ?_
 rintro e w1 ⟨rfl,b1⟩
 obtain ⟨-, -, -, -,d',ed',y5⟩:=CE.out w1 b1
 obtain rfl:d = d':=by rw [ed2.out] at ed'; injection ed'
 have LD1:=Lib.hid (LD.out w1 b1)
 replace b1:=Lib.hid b1
 clear y2 LC ed'
 go_wp2_with fail
 refine LD1.out.mono ?_
 rintro e w2 ⟨rfl,b2⟩
 have b12:=Lib.hid (b1.out.trans (b2.mono b1.out.size))
 clear b1 b2 LD1
 go_wp2
 go_ret
 exact ⟨rfl,b12.out⟩
theorem LI.toldA:∃ A cp,∀ w2,Below w.heap.size w w2 -> w2.cell? ⟨W.b,6,none⟩ = some (.slice A told.length cp) /\ ∀ (i x:Nat),told[i]? = some x -> ∃ g,A = some ⟨g,0,none⟩ /\ w2.cell? ⟨g,i,none⟩ = some (.int .u64 (x:Int)) /\ x < 18446744073709551616:=by
 obtain ⟨A,cp,hv⟩:=own_is h.wat.told
 refine ⟨A,cp,fun w2 b => ?_⟩
 have h2:=h.below b
 have B:=h2.wat.own
 have own:=h2.wat.told
 unfold W6.cells at B
 rw [hv] at B own
 refine ⟨B.cell 6,fun i x hx => ?_⟩
 obtain ⟨g,c',hv2,u⟩:=own_uv own hx
 injection hv2 with e1 e2 e3
 exact ⟨g,e1,u,h.tlt x (List.mem_of_getElem? hx)⟩
set_option maxHeartbeats 1600000 in
theorem headerC8 (H:Nat) (hH:H < 18446744073709551616):Calls Tryz.prog 50 #[.pointer (some ⟨W.b,0,none⟩),.int .u64 (H:Int)] w fun e w' => e = .returned (.bool true) /\ Below w.heap.size w w':=by
 obtain ⟨Zd,ez,d6⟩:=(h.dx ht).d6
 have IC:=is6C d6 H
 rw [isN_congr ez] at IC
 obtain ⟨y0, -, -,y4,d,ed,y5⟩:=h.cells8 ht hg
 have n0:=fun w => numC6 w 0
 by_cases hi:isN qc s Z H = false
 ·rw [hi] at IC
  replace IC:=Lib.hid IC
  clear h hi y0 y5 hg ez d6
  go_enter Tryz.func50,Tryz.ntmps50
  go_wp2_with fail
  refine IC.out.mono ?_
  rintro e w' ⟨rfl,m,hw⟩
  replace hw:=Lib.hid hw
  go_wp2
  go_ret
  exact ⟨rfl,by rw [<- hw.out]; exact below_drewN (Below.refl _ _) m⟩
 ·have hi:isN qc s Z H = true:=by simpa using hi
  rw [hi] at IC
  have hq:=h.wat.q
  obtain ⟨F,S,q⟩:=hq
  obtain ⟨z,i,x,p,hz,hf,e1⟩:=q.head8 S.okc S.zs.good hi
  have C1:=fun w1 (b:Below w.heap.size w w1) => zStateYes (S.below b).zs (H:=H) hH hf
  have C2:=fun w1 (b:Below w.heap.size w w1) => marksYes ((h.below b).wat.ls hg).q ((h.below b).wat.ls hg).m hH hf hz
  have SC:∀ w1,Below w.heap.size w w1 -> Calls Tryz.prog 95 #[.pointer (some ⟨W.R.b,0,none⟩),.int .u64 (H:Int)] w1 fun e w' => e = .returned (.int .i64 (stateN qc s Z Ls H:Int)) /\ ∃ m,w1.drewN m = w':=fun w1 b => by
   obtain ⟨Zd,ez,d6⟩:=((h.below b).dx ht).d6
   have:=state6C d6 H
   rw [stateN_cg ez] at this
   exact this
  have DI:=fun w1 (b:Below w.heap.size w w1) => ((h.below b).dx ht).isD ed H
  have CE:=fun w1 (b:Below w.heap.size w w1) => (h.below b).cells8 ht hg
  obtain ⟨A,cp,TC⟩:=h.toldA ht hg
  have htl:=h.tl
  have eq0:zst (Z H) = stateN qc s Z Ls H:=by rw [hz]; exact e1
  rw [eq0] at C1
  have hm:mk H = 2 * (markN (lastN told H) / 2) + (if decide (H ∈ act) = true then 1 else 0):=by
   have h1:=h.ab H hi
   have h2:=h.mr H hi
   by_cases hA:H ∈ act
   ·rw [decide_eq_true hA,if_pos rfl]
    have:=h1.1 hA
    omega
   ·rw [decide_eq_false hA,if_neg (by decide)]
    have:¬ mk H % 2 = 1:=fun e => hA (h1.2 e)
    omega
  have ed2:=Lib.hid ed
  generalize stateN qc s Z Ls H = st at *
  generalize mk H = mH at *
  obtain ⟨aB,haB⟩:∃ aB,aB = decide (H ∈ act):=⟨_,rfl⟩
  rw [<- haB] at hm
  have DI:∀ w1,Below w.heap.size w w1 -> Calls Tryz.prog 67 #[.pointer (some ⟨d,0,none⟩),.int .u64 (H:Int)] w1 fun e w' => e = .returned (.bool aB) /\ w1 = w':=by rw [haB]; exact DI
  obtain ⟨n,hn⟩:∃ n,n = told.length:=⟨_,rfl⟩
  rw [<- hn] at TC htl
  replace IC:=Lib.hid IC
  replace C1:=Lib.hid C1
  replace C2:=Lib.hid C2
  replace SC:=Lib.hid SC
  replace DI:=Lib.hid DI
  replace CE:=Lib.hid CE
  replace TC:=Lib.hid TC
  replace hm:=Lib.hid hm
  replace hn:=Lib.hid hn
  replace haB:=Lib.hid haB
  clear h hi q S hz hf e1 eq0 y0 y5 hg ez d6 ed
  go_enter Tryz.func50,Tryz.ntmps50
  go_wp2_with fail
  refine IC.out.mono ?_
  rintro e w1 ⟨rfl,m,hw⟩
  have b1:Below w.heap.size w w1:=by rw [<- hw]; exact below_drewN (Below.refl _ _) m
  obtain ⟨y6,TT⟩:=TC.out w1 b1
  replace TT:=Lib.hid TT
  replace b1:=Lib.hid b1
  replace hw:=Lib.hid hw
  clear IC y4
  go_wp2_with fail
  go_loopw [5,6] (fun vn vi wx => ∃ i m:Nat,vi = .int .i64 (i:Int) /\ vn = .int .i64 (m:Int) /\ i <= n /\ Hid (m = lastN (told.take i) H) /\ w1 = wx) (fun _ vi _ => n - (intOf vi).toNat)
  case atStart => exact ⟨0,0,rfl,rfl,Nat.zero_le _,Lib.hid rfl,rfl⟩
  case round =>
   obtain ⟨i,m2,rfl,rfl,hi2,hl,rfl⟩:=hrel
   by_cases hin:i < n
   ·obtain ⟨x2,hx⟩:∃ x,told[i]? = some x:=⟨told[i]'(by rw [<- hn.out]; exact hin),List.getElem?_eq_getElem _⟩
    obtain ⟨g2,rfl,u, -⟩:=TT.out i x2 hx
    have k0:(0:Int) <= (i:Int):=by omega
    have k1:(i:Int) < (n:Int):=by omega
    have d1:decide ((i:Int) < (n:Int)) = true:=decide_eq_true k1
    have d1':decide (i < n) = true:=decide_eq_true hin
    have q1:IntKind.i64.wrap ((i:Int) + 1) = ((i + 1:Nat):Int):=by rw [IntWalk.i64_in _ (by omega)]; omega
    have ht2:told.take (i + 1) = told.take i ++ [x2]:=by rw [List.take_add_one,hx]; rfl
    have hln:(told.take i).length = i:=by rw [List.length_take, <- hn.out]; omega
    by_cases hxH:x2 = H
    ·have e1:((x2:Int) == (H:Int)) = true:=by rw [beq_iff_eq]; omega
     have e2:decide ((x2:Int) = (H:Int)) = true:=decide_eq_true (by omega)
     have R1:Hid (i + 1 = lastN (told.take (i + 1)) H):=Lib.hid (by rw [ht2,lastN_app,if_pos hxH,hln])
     replace hxH:=Lib.hid hxH
     replace hx:=Lib.hid hx
     clear ht2 hln hl
     go_wp2
     go_roundw
     case rel => exact ⟨i + 1,i + 1,rfl,rfl,by omega,R1,by first | rfl | trivial⟩
     case measure => simp [intOf] <;> omega
    ·have e1:((x2:Int) == (H:Int)) = false:=by rw [beq_eq_false_iff_ne]; omega
     have e2:decide ((x2:Int) = (H:Int)) = false:=decide_eq_false (by omega)
     have R1:Hid (m2 = lastN (told.take (i + 1)) H):=Lib.hid (by rw [ht2,lastN_app,if_neg hxH]; exact hl.out)
     replace hxH:=Lib.hid hxH
     replace hx:=Lib.hid hx
     clear ht2 hln hl
     go_wp2
     go_roundw
     case rel => exact ⟨i + 1,m2,rfl,rfl,by omega,R1,by first | rfl | trivial⟩
     case measure => simp [intOf] <;> omega
   ·obtain rfl:i = n:=by omega
    have d1:decide ((i:Int) < (i:Int)) = false:=by simp
    have d1':decide (i < i) = false:=by simp
    have hl2:m2 = lastN told H:=by rw [hl.out,List.take_of_length_le (by rw [<- hn.out]; exact Nat.le_refl _)]
    have hlle:m2 <= i:=by
     rw [hl2,hn.out]
     clear hl hl2 hn hm TC TT
     induction told with
     | nil => exact Nat.le_refl _
     | cons a l ih =>
      unfold lastN
      split
      ·simp only [List.length_cons]; omega
      ·split
       ·simp only [List.length_cons]; omega
       ·exact Nat.zero_le _
    have hm2:=hm.out
    rw [<- hl2] at hm2
    obtain ⟨mm,hmm⟩:∃ mm,mm = markN m2:=⟨_,rfl⟩
    have hm16:mm < 16:=by rw [hmm]; unfold markN; omega
    have MF:=marksF m2 (by omega) w1
    rw [<- hmm] at MF hm2
    obtain ⟨-, -, -, -,d',ed',y5⟩:=CE.out w1 b1.out
    obtain rfl:d = d':=by rw [ed2.out] at ed'; injection ed'
    have q2:IntKind.i64.wrap ((mm:Int) / 2 * 2) = ((2 * (mm / 2):Nat):Int):=by rw [IntWalk.i64_in _ (by omega)]; omega
    have q3:IntKind.i64.wrap (((2 * (mm / 2):Nat):Int) + 1) = ((2 * (mm / 2) + 1:Nat):Int):=by rw [IntWalk.i64_in _ (by omega)]; omega
    have DI1:=DI.out w1 b1.out
    have C11:=Lib.hid (C1.out w1 b1.out)
    have C2':=C2.out
    have SC':=SC.out
    have CE':=CE.out
    obtain ⟨y0, -, -, -, -⟩:=CE.out w1 b1.out
    generalize 2 * (mm / 2) = m3 at *
    cases aB
    all_goals
     (try simp only [Bool.false_eq_true,if_false,if_true,Nat.add_zero] at hm2)
     subst hm2
     replace MF:=Lib.hid MF
     replace DI1:=Lib.hid DI1
     replace C2':=Lib.hid C2'
     replace SC':=Lib.hid SC'
     replace CE':=Lib.hid CE'
     clear hl hl2 hm C1 C2 SC DI CE TC TT ed' hlle hmm
     go_wp2_with fail
     refine MF.out.mono ?_
     rintro e w' ⟨rfl,rfl⟩
     go_wp2_with fail
     refine DI1.out.mono ?_
     rintro e w' ⟨rfl,rfl⟩
     go_wp2_with fail
     refine C11.out.mono ?_
     rintro e w2 ⟨rfl,b2⟩
     have b12:=b1.out.trans (b2.mono b1.out.size)
     obtain ⟨y0, -, -, -, -⟩:=CE'.out w2 b12
     have C22:=Lib.hid (C2'.out w2 b12)
     replace b12:=Lib.hid b12
     clear C11 b2 MF DI1 y6
     go_wp2_with fail
     refine C22.out.mono ?_
     rintro e w3 ⟨rfl,b3⟩
     have b13:=b12.out.trans (b3.mono b12.out.size)
     obtain ⟨-, -, -,y4, -⟩:=CE'.out w3 b13
     have S3:=Lib.hid (SC'.out w3 b13)
     replace b13:=Lib.hid b13
     clear C22 b3 b12 y0
     go_wp2_with fail
     refine (n0 _).mono ?_
     rintro e w' ⟨rfl,rfl⟩
     go_wp2_with fail
     refine (n0 _).mono ?_
     rintro e w' ⟨rfl,rfl⟩
     go_wp2_with fail
     refine S3.out.mono ?_
     rintro e w5 ⟨rfl,m5,hw5⟩
     replace hw5:=Lib.hid hw5
     go_wp2
     go_ret
     exact ⟨rfl,b13.out.trans (by rw [<- hw5.out]; exact below_drewN ((Below.refl _ _).mono b13.out.size) m5)⟩
end
theorem acc_own {w:World} {N:Nat} {A:Option Addr} {m cp:Nat} {l:List Nat} (h:w.ownsRow N 50 1 (.slice A m cp) m (l.map uv)) {i x:Nat} (hx:l[i]? = some x):∃ g,A = some ⟨g,0,none⟩ /\ w.cell? ⟨g,i,none⟩ = some (.int .u64 (x:Int)):=by
 obtain ⟨g,c',hv,u⟩:=own_uv h hx
 injection hv with e1 e2 e3
 exact ⟨g,e1,u⟩
section
variable {N:Nat} {w:World} {W:W6} {s:St} {bs:List UInt8} {Z:Nat -> Option Zd} {Ls Ld:Nat -> Nat -> List Nat} {r:RS} {laid told act:List Nat} {mk:Nat -> Nat} (h:DX N w W s bs Z Ls Ld r laid told act mk) {dm:Nat} (ed:W.dm = some dm)
include h ed
end
structure KB (P:World -> Prop) (gq:Nat) (x k:Int) (R:List Nat):Prop where
 small:R.length <= 134217729
 hc:∀ w,P w -> Calls Tryz.prog 63 #[.pointer (some ⟨gq,0,none⟩),.int .i64 x,.int .i64 k] w fun e w' => e = .returned (.tuple #[.int .u64 (R.head?.getD 0:Int),.bool (decide (0 < R.length))]) /\ w = w'
 bc:∀ w,P w -> ∀ (l1:List Nat) (y:Nat) (l2:List Nat),R = l1 ++ y :: l2 -> y < 18446744073709551616 /\ Calls Tryz.prog 64 #[.pointer (some ⟨gq,0,none⟩),.int .u64 (y:Int)] w fun e w' => e = .returned (.tuple #[.int .u64 (l2.head?.getD 0:Int),.bool (decide (0 < l2.length))]) /\ Below w.heap.size w w'
theorem KB.of {P:World -> Prop} {L:Lay} {s:St} {bs:List UInt8} {Z:Nat -> Option Zd} {gq gl:Nat} {Ls:Nat -> Nat -> List Nat} {w0:World} (h:QW w0 L qc s bs Z gq gl Ls) (hP:∀ w,P w -> QW w L qc s bs Z gq gl Ls) (x k:Int):KB P gq x k (lsN qc Ls x k):=by
 refine ⟨?_,fun w p => headC (hP w p) x k,fun w p l1 y l2 hl => ?_⟩
 ·unfold lsN
  split
  ·rename_i hv
   obtain ⟨F,S1,q⟩:=h
   rw [<- q.n _ _ (by omega) (by omega)]
   exact q.nB S1.okc S1.zs.good (by omega) (by omega)
  ·simp
 ·have Q:=hP w p
  have Q':=Q
  obtain ⟨F,S1,q⟩:=Q'
  unfold lsN at hl
  split at hl
  ·rename_i hv
   obtain ⟨e3,e1,e2⟩:=q.next8 S1.okc S1.zs.good (by omega) (by omega) hl
   have:=behindC Q y e3
   rw [e2,e1] at this
   exact ⟨e3,this⟩
  ·simp at hl
section
variable {N:Nat} {w:World} {W:W6} {s:St} {bs:List UInt8} {Z:Nat -> Option Zd} {Ls:Nat -> Nat -> List Nat} {r:RS} {laid told act:List Nat} {mk:Nat -> Nat} {t:Nat} (h:LI N w W s bs Z Ls r laid told act mk t) (ht:t <= 60000) {g:Nat} (hg:W.gm = some g)
include h ht hg
set_option maxHeartbeats 3200000 in
theorem queuesC8:Calls Tryz.prog 27 #[.pointer (some ⟨W.b,0,none⟩)] w fun e w' => e = .returned (.bool true) /\ Below w.heap.size w w':=by
 have LC:=fun w2 (b:Below w.heap.size w w2) x => lengthC8 (h.below b) ht hg x
 have CE:=fun w2 (b:Below w.heap.size w w2) => (h.below b).cells8 ht hg
 have AC:∀ w2,Below w.heap.size w w2 -> ∀ x k:Int,Calls Tryz.prog 62 #[.pointer (some ⟨W.R.b,0,none⟩),.int .i64 x,.int .i64 k] w2 fun e w' => ∃ A cp,e = .returned (.slice A (lsN qc Ls x k).length cp) /\ Below w2.heap.size w2 w' /\ w'.ownsRow w2.heap.size 50 1 (.slice A (lsN qc Ls x k).length cp) (lsN qc Ls x k).length ((lsN qc Ls x k).map uv):=fun w2 b x k => by
  obtain ⟨Zd, -,d⟩:=((h.below b).dx ht).d6
  exact d.all x k
 have KK:=fun x k:Int => KB.of (P:=fun w2 => Below w.heap.size w w2) h.wat.q (fun w2 b => (h.below b).wat.q) x k
 generalize lsN qc Ls = LN at *
 replace LC:=Lib.hid LC
 replace CE:=Lib.hid CE
 replace AC:=Lib.hid AC
 replace KK:=Lib.hid KK
 clear h hg
 go_enter Tryz.func27,Tryz.ntmps27
 go_wp2
 go_loopw [3] (fun v wr => ∃ c:Nat,v = .int .i64 (c:Int) /\ c <= 3 /\ Hid (Below w.heap.size w wr)) (fun v _ => 3 - (intOf v).toNat)
 case atStart => exact ⟨0,rfl,by omega,Lib.hid (Below.refl _ _)⟩
 case round =>
  obtain ⟨c,rfl,hc,hB⟩:=hrel
  by_cases hc3:c < 3
  ·have d1:decide ((c:Int) < 3) = true:=decide_eq_true (by omega)
   have d1':decide (c < 3) = true:=decide_eq_true hc3
   have q1:IntKind.i64.wrap ((c:Int) + 1) = ((c + 1:Nat):Int):=by rw [IntWalk.i64_in _ (by omega)]; omega
   go_wp2_with fail
   refine (LC.out _ hB.out (c:Int)).mono ?_
   rintro e w1 ⟨rfl,b1⟩
   have hB1:=Lib.hid (hB.out.trans (b1.mono hB.out.size))
   clear b1 hB
   go_wp2_with fail
   go_loopw [4] (fun v wr => ∃ k:Nat,v = .int .i64 (k:Int) /\ 1 <= k /\ k <= 4 /\ Hid (Below w.heap.size w wr)) (fun v _ => 4 - (intOf v).toNat)
   case atStart => exact ⟨1,rfl,by omega,by omega,hB1⟩
   case round =>
    obtain ⟨k,rfl,hk1,hk4,hB⟩:=hrel
    by_cases hk:k <= 3
    ·have d2:decide ((k:Int) <= 3) = true:=decide_eq_true (by omega)
     have d2':decide (k <= 3) = true:=decide_eq_true hk
     have q2:IntKind.i64.wrap ((k:Int) + 1) = ((k + 1:Nat):Int):=by rw [IntWalk.i64_in _ (by omega)]; omega
     have A1:=AC.out _ hB.out (c:Int) (k:Int)
     have K1:=KK.out (c:Int) (k:Int)
     obtain ⟨-, -, -,y4, -⟩:=CE.out _ hB.out
     generalize LN (c:Int) (k:Int) = R at *
     have sm:=K1.small
     obtain ⟨n,hn⟩:∃ n,n = R.length:=⟨_,rfl⟩
     rw [<- hn] at A1 sm
     replace A1:=Lib.hid A1
     replace K1:=Lib.hid K1
     replace hn:=Lib.hid hn
     go_wp2_with fail
     refine A1.out.mono ?_
     rintro e w2 ⟨A,cp,rfl,b2,own2⟩
     have hB2:=hB.out.trans (b2.mono hB.out.size)
     obtain ⟨-,y1, -, -, -⟩:=CE.out _ hB2
     have H1:=K1.out.hc w2 hB2
     have at_:∀ w3,Below w2.heap.size w2 w3 -> ∀ (i x:Nat),R[i]? = some x -> ∃ g,A = some ⟨g,0,none⟩ /\ w3.cell? ⟨g,i,none⟩ = some (.int .u64 (x:Int)):=fun w3 b i x hx => by
      obtain ⟨g,e,u⟩:=acc_own own2 hx
      exact ⟨g,e,(b.cell (p:=⟨g,i,none⟩) (World.block_lt_of_cell? w2 _ u)).trans u⟩
     replace hB2:=Lib.hid hB2
     replace H1:=Lib.hid H1
     replace at_:=Lib.hid at_
     clear A1 b2 own2 y4 hB
     go_wp2_with fail
     refine H1.out.mono ?_
     rintro e w' ⟨rfl,rfl⟩
     clear H1
     go_wp2_with fail
     go_loopw [6,7,8] (fun vh vo vi wr => ∃ (l1 l2:List Nat),vh = .int .u64 (l2.head?.getD 0:Int) /\ vo = .bool (decide (0 < l2.length)) /\ vi = .int .i64 (l1.length:Int) /\ Hid (R = l1 ++ l2) /\ Hid (Below w2.heap.size w2 wr)) (fun _ _ vi _ => n - (intOf vi).toNat)
     case atStart => exact ⟨[],R,rfl,rfl,rfl,Lib.hid rfl,Lib.hid (Below.refl _ _)⟩
     case round =>
      obtain ⟨l1,l2,rfl,rfl,rfl,hR,hB3⟩:=hrel
      have hlen:n = l1.length + l2.length:=by rw [hn.out,hR.out,List.length_append]
      cases l2 with
      | nil =>
       have e1:decide (0 < ([]:List Nat).length) = false:=rfl
       have d3:decide ((l1.length:Int) < (n:Int)) = false:=decide_eq_false (by rw [hlen]; simp)
       have d3':decide (l1.length < n) = false:=decide_eq_false (by rw [hlen]; simp)
       have hBf:=Lib.hid (hB2.out.trans (hB3.out.mono hB2.out.size))
       rw [e1]
       replace hlen:=Lib.hid hlen
       clear hB3
       go_wp2
       go_roundw
       case rel => exact ⟨k + 1,by simp,by omega,by omega,hBf⟩
       case measure => simp [intOf] <;> omega
      | cons y l2 =>
       have e1:decide (0 < (y :: l2).length) = true:=rfl
       have e0:((y :: l2).head?.getD 0) = y:=rfl
       rw [e1,e0]
       rw [List.length_cons] at hlen
       obtain ⟨g2,rfl,u⟩:=at_.out _ hB3.out l1.length y (by rw [hR.out]; simp)
       obtain ⟨hyl,BC⟩:=K1.out.bc _ (hB2.out.trans (hB3.out.mono hB2.out.size)) l1 y l2 hR.out
       obtain ⟨-,y1', -, -, -⟩:=CE.out _ (hB2.out.trans (hB3.out.mono hB2.out.size))
       obtain ⟨i,hi⟩:∃ i,i = l1.length:=⟨_,rfl⟩
       rw [<- hi] at u hlen ⊢
       have k0:(0:Int) <= (i:Int):=by omega
       have k1:(i:Int) < (n:Int):=by omega
       have d3:decide ((i:Int) < (n:Int)) = true:=decide_eq_true k1
       have d3':decide (i < n) = true:=decide_eq_true (by omega)
       have q3:IntKind.i64.wrap ((i:Int) + 1) = ((i + 1:Nat):Int):=by rw [IntWalk.i64_in _ (by omega)]; omega
       have e3:((y:Int) != (y:Int)) = false:=by simp
       replace BC:=Lib.hid BC
       replace hi:=Lib.hid hi
       replace hlen:=Lib.hid hlen
       clear e1 e0 y1
       go_wp2_with fail
       refine BC.out.mono ?_
       rintro e w4 ⟨rfl,b4⟩
       have hB4:=Lib.hid (hB3.out.trans (b4.mono hB3.out.size))
       clear b4 BC hB3
       go_wp2
       go_roundw
       case rel => exact ⟨l1 ++ [y],l2,rfl,rfl,by rw [List.length_append, <- hi.out]; rfl,Lib.hid (by rw [hR.out]; simp),hB4⟩
       case measure => have:=hlen.out; simp [intOf] <;> omega
    ·obtain rfl:k = 4:=by omega
     have d2:decide (((4:Nat):Int) <= 3) = false:=rfl
     go_wp2
     go_roundw
     case rel => exact ⟨c + 1,by simp,by omega,hB⟩
     case measure => simp [intOf] <;> omega
  ·obtain rfl:c = 3:=by omega
   go_wp2
   go_ret
   exact ⟨rfl,hB.out⟩
set_option maxHeartbeats 1600000 in
theorem endsC8:Calls Tryz.prog 25 #[.pointer (some ⟨W.b,0,none⟩)] w fun e w' => e = .returned (.bool true) /\ Below w.heap.size w w':=by
 have LC:=fun w2 (b:Below w.heap.size w w2) x => lengthC8 (h.below b) ht hg x
 have QC:=fun w2 (b:Below w.heap.size w w2) => queuesC8 (h.below b) ht hg
 have HC:=fun w2 (b:Below w.heap.size w w2) H hH => headerC8 (h.below b) ht hg H hH
 have htl:=h.tl
 obtain ⟨A,cp,TC⟩:=h.toldA ht hg
 obtain ⟨n,hn⟩:∃ n,n = told.length:=⟨_,rfl⟩
 rw [<- hn] at TC htl
 replace LC:=Lib.hid LC
 replace QC:=Lib.hid QC
 replace HC:=Lib.hid HC
 replace TC:=Lib.hid TC
 replace hn:=Lib.hid hn
 clear h hg
 go_enter Tryz.func25,Tryz.ntmps25
 go_wp2
 go_loopw [3] (fun v wr => ∃ k:Nat,v = .int .i64 (k:Int) /\ k <= n /\ Hid (Below w.heap.size w wr)) (fun v _ => n - (intOf v).toNat)
 case atStart => exact ⟨0,rfl,by omega,Lib.hid (Below.refl _ _)⟩
 case round =>
  obtain ⟨k,rfl,hk1,hB⟩:=hrel
  obtain ⟨y6,TT⟩:=TC.out _ hB.out
  by_cases hk:k < n
  ·obtain ⟨x,hx⟩:∃ x,told[k]? = some x:=⟨told[k]'(by rw [<- hn.out]; exact hk),List.getElem?_eq_getElem _⟩
   obtain ⟨g2,rfl,u,hlt⟩:=TT k x hx
   have k0:(0:Int) <= (k:Int):=by omega
   have k1:(k:Int) < (n:Int):=by omega
   have d1:decide ((k:Int) < (n:Int)) = true:=decide_eq_true k1
   have d1':decide (k < n) = true:=decide_eq_true hk
   have q2:IntKind.i64.wrap ((k:Int) + 1) = ((k + 1:Nat):Int):=by rw [IntWalk.i64_in _ (by omega)]; omega
   have HC1:=Lib.hid (HC.out _ hB.out x hlt)
   replace hx:=Lib.hid hx
   clear TT
   go_wp2_with fail
   refine HC1.out.mono ?_
   rintro e w2 ⟨rfl,b2⟩
   have hB2:=Lib.hid (hB.out.trans (b2.mono hB.out.size))
   clear b2 hB
   go_wp2
   go_roundw
   case rel => exact ⟨k + 1,by simp,by omega,hB2⟩
   case measure => simp [intOf] <;> omega
  ·obtain rfl:k = n:=by omega
   have d1:decide ((k:Int) < (k:Int)) = false:=by simp
   have d1':decide (k < k) = false:=by simp
   have Q1:=Lib.hid (QC.out _ hB.out)
   clear TT hk
   go_wp2_with fail
   refine Q1.out.mono ?_
   rintro e w2 ⟨rfl,b2⟩
   have hB2:=hB.out.trans (b2.mono hB.out.size)
   have L1:=Lib.hid (LC.out _ hB2 (-1))
   replace hB2:=Lib.hid hB2
   clear b2 hB Q1 y6
   go_wp2_with fail
   refine L1.out.mono ?_
   rintro e w3 ⟨rfl,b3⟩
   have hB3:=hB2.out.trans (b3.mono hB2.out.size)
   have L2:=Lib.hid (LC.out _ hB3 3)
   replace hB3:=Lib.hid hB3
   clear b3 hB2 L1
   go_wp2_with fail
   refine L2.out.mono ?_
   rintro e w4 ⟨rfl,b4⟩
   have hB4:=Lib.hid (hB3.out.trans (b4.mono hB3.out.size))
   clear b4 hB3 L2
   go_wp2
   go_ret
   exact ⟨rfl,hB4.out⟩
end
section
variable {N:Nat} {w:World} {W:W6} {s:St} {bs:List UInt8} {Z:Nat -> Option Zd} {Ls:Nat -> Nat -> List Nat} {r:RS} {laid told act:List Nat} {mk:Nat -> Nat} {t:Nat} (h:LI N w W s bs Z Ls r laid told act mk t) (ht:t <= 60000) {g:Nat} (hg:W.gm = some g)
include h ht hg
end
structure TellL (h0 T F:Nat) (X:World) (a:List Nat):Prop where
 t0:h0 <= T
 f0:h0 <= F
 tf:T ≠ F
 row:∃ A cp,Blk X T 34 #[.slice A a.length cp] /\ X.ownsRow h0 50 1 (.slice A a.length cp) a.length (a.map uv) /\ ∀ g,(Value.slice A a.length cp).ownBlock = some g -> g ≠ T /\ g ≠ F
 fine:Blk X F 4 #[.bool true]
set_option maxHeartbeats 1600000 in
theorem leftC {h0 T F V O b gq:Nat} {X:World} {a:List Nat} {x:Int} {t1 t2 t3:Nat} {o1 o2 o3:Bool} {H:Nat} (K:TellL h0 T F X a) (hla:a.length <= 1000000) (hh:h0 <= X.heap.size)
  (CV:∀ Y,Below h0 X Y -> Y.cell? ⟨V,0,none⟩ = some (.pointer (some ⟨b,0,none⟩)) /\ Y.cell? ⟨b,1,none⟩ = some (.pointer (some ⟨gq,0,none⟩)) /\ Y.cell? ⟨O,3,none⟩ = some (.int .i64 x))
  (TC1:∀ Y,Below h0 X Y -> Calls Tryz.prog 20 #[.pointer (some ⟨gq,0,none⟩),.int .i64 x,.int .i64 1] Y fun e Y' => e = .returned (.tuple #[.int .u64 (t1:Int),.bool o1]) /\ Y = Y')
  (TC2:∀ Y,Below h0 X Y -> Calls Tryz.prog 20 #[.pointer (some ⟨gq,0,none⟩),.int .i64 x,.int .i64 2] Y fun e Y' => e = .returned (.tuple #[.int .u64 (t2:Int),.bool o2]) /\ Y = Y')
  (TC3:∀ Y,Below h0 X Y -> Calls Tryz.prog 20 #[.pointer (some ⟨gq,0,none⟩),.int .i64 x,.int .i64 3] Y fun e Y' => e = .returned (.tuple #[.int .u64 (t3:Int),.bool o3]) /\ Y = Y')
  (key:(o1 = true /\ t1 = H) \/ (o2 = true /\ t2 = H) \/ (o3 = true /\ t3 = H)) :
  Calls Tryz.prog 28 #[.int .u64 (H:Int),.pointer (some ⟨T,0,none⟩),.pointer (some ⟨V,0,none⟩),.pointer (some ⟨O,0,none⟩),.pointer (some ⟨F,0,none⟩)] X fun e X' => e = .returned (.tuple #[]) /\ Below h0 X X' /\ TellL h0 T F X' (a ++ [H]):=by
 obtain ⟨t0,f0,tf,⟨A,cp,BT,own,hA⟩,BF⟩:=K
 have cT:=BT.cell 0
 replace key:=Lib.hid key
 replace CV:=Lib.hid CV
 have hT:=BT.lt
 have hF:=BF.lt
 obtain ⟨m,hm⟩:∃ m,m = a.length:=⟨_,rfl⟩
 rw [<- hm] at hla own BT cT hA
 replace hm:=Lib.hid hm
 go_enter Tryz.func28,Tryz.ntmps28
 go_wp2_with (at_builtin; refine wpList_app rfl _ _ _ rfl eiL h0 _ _ _ rfl (own.alloc _) (X.heap.size + 1) (some ⟨X.heap.size,0,none⟩) 1 1 [.int .u64 (H:Int)] rfl ?c1 ?c2 ?c3 ?c4 ?c5 ?_)
 case c1 => exact reads_v X _ _
 case c2 => intro u hu; rw [List.mem_singleton] at hu; subst hu; rfl
 case c3 => unfold maxLen; omega
 case c4 => omega
 case c5 => rw [World.size_alloc]; omega
 intro VV w6 own6 hg6 hat6
 obtain ⟨A6,cp6,rfl⟩:=own_is own6
 have gr:Below h0 X w6:=((Below.refl h0 X).alloc hh _).grown hg6 (by rw [World.size_alloc]; omega) (fun j e => own_base own e)
 have o6:Only (fun k => (Value.slice A m cp).ownBlock = some k) X w6:=((Only.refl _ X).alloc _).grown hg6 (fun k e _ => e)
 have B6:Blk w6 T 34 #[.slice A m cp]:=(o6.block _ hT (fun e => (hA T e).1 rfl)).trans BT
 have F6:Blk w6 F 4 #[.bool true]:=(o6.block _ hF (fun e => (hA F e).2 rfl)).trans BF
 have hA6:∀ g,(Value.slice A6 (m + 1) cp6).ownBlock = some g -> g ≠ T /\ g ≠ F:=fun g e => by
  rcases hat6 with h6 | h6
  ·exact hA g (by rw [<- h6]; exact e)
  ·rw [h6] at e
   injection e with e
   omega
 have c6:=B6.cell 0
 have z6:=B6.frozen 0
 obtain ⟨w7,hw7⟩:∃ w7,w7 = w6.setCell ⟨T,0,none⟩ (.slice A6 (m + 1) cp6):=⟨_,rfl⟩
 have B7:Blk w7 T 34 #[.slice A6 (m + 1) cp6]:=by rw [hw7]; exact B6.set_ 0 _
 have F7:Blk w7 F 4 #[.bool true]:=by rw [hw7]; exact F6.far (p:=⟨T,0,none⟩) (fun e => tf e.symm) _
 have b7:Below h0 X w7:=by rw [hw7]; exact gr.setCell (p:=⟨T,0,none⟩) t0 _
 have own7:w7.ownsRow h0 50 1 (.slice A6 (m + 1) cp6) (m + 1) ((a ++ [H]).map uv):=by
  rw [List.map_append]
  refine own_keptN own6 fun b e => ?_
  rw [hw7]
  exact Below.heap_setCell w6 ⟨T,0,none⟩ _ b (hA6 b e).1
 obtain ⟨v1,v2,v3⟩:=CV.out w7 b7
 replace hw7:=Lib.hid hw7
 replace B7:=Lib.hid B7
 replace F7:=Lib.hid F7
 replace b7:=Lib.hid b7
 replace own7:=Lib.hid own7
 replace hA6:=Lib.hid hA6
 clear own hg6 hat6 own6 gr o6 BT BF hA F6 cT
 go_upto_region 1 with fail
 rw [<- hw7.out]
 have TD1:=Lib.hid (fun nq => TC1 (w7.drewN nq) (below_drewN b7.out nq))
 go_quiet (first | (go_at_call 20; with_reducible exact quiet_left (TD1.out _)) | fail)
 rename Nat => nq1
 obtain ⟨w8,hw8⟩:∃ w8,w8 = w7.drewN nq1:=⟨_,rfl⟩
 rw [<- hw8]
 have bw8:=Lib.hid (show Below h0 X w8 by rw [hw8]; exact below_drewN b7.out nq1)
 have Bw8:=Lib.hid (show Blk w8 T 34 #[.slice A6 (m + 1) cp6] by rw [hw8]; exact B7.out)
 have Fw8:=Lib.hid (show Blk w8 F 4 #[.bool true] by rw [hw8]; exact F7.out)
 have ownw8:=Lib.hid (show w8.ownsRow h0 50 1 (.slice A6 (m + 1) cp6) (m + 1) ((a ++ [H]).map uv) by rw [hw8]; exact own7.out)
 obtain ⟨v1,v2,v3⟩:=CV.out w8 bw8.out
 replace hw8:=Lib.hid hw8
 clear TD1
 go_upto_region 2 with fail
 have TD2:=Lib.hid (fun nq => TC2 (w8.drewN nq) (below_drewN bw8.out nq))
 go_quiet (first | (go_at_call 20; with_reducible exact quiet_left (TD2.out _)) | fail)
 rename Nat => nq2
 obtain ⟨w9,hw9⟩:∃ w9,w9 = w8.drewN nq2:=⟨_,rfl⟩
 rw [<- hw9]
 have bw9:=Lib.hid (show Below h0 X w9 by rw [hw9]; exact below_drewN bw8.out nq2)
 have Bw9:=Lib.hid (show Blk w9 T 34 #[.slice A6 (m + 1) cp6] by rw [hw9]; exact Bw8.out)
 have Fw9:=Lib.hid (show Blk w9 F 4 #[.bool true] by rw [hw9]; exact Fw8.out)
 have ownw9:=Lib.hid (show w9.ownsRow h0 50 1 (.slice A6 (m + 1) cp6) (m + 1) ((a ++ [H]).map uv) by rw [hw9]; exact ownw8.out)
 obtain ⟨v1,v2,v3⟩:=CV.out w9 bw9.out
 replace hw9:=Lib.hid hw9
 clear TD2
 go_upto_region 3 with fail
 have TD3:=Lib.hid (fun nq => TC3 (w9.drewN nq) (below_drewN bw9.out nq))
 go_quiet (first | (go_at_call 20; with_reducible exact quiet_left (TD3.out _)) | fail)
 rename Nat => nq3
 obtain ⟨wa,hwa⟩:∃ wa,wa = w9.drewN nq3:=⟨_,rfl⟩
 rw [<- hwa]
 have bwa:=Lib.hid (show Below h0 X wa by rw [hwa]; exact below_drewN bw9.out nq3)
 have Bwa:=Lib.hid (show Blk wa T 34 #[.slice A6 (m + 1) cp6] by rw [hwa]; exact Bw9.out)
 have Fwa:=Lib.hid (show Blk wa F 4 #[.bool true] by rw [hwa]; exact Fw9.out)
 have ownwa:=Lib.hid (show wa.ownsRow h0 50 1 (.slice A6 (m + 1) cp6) (m + 1) ((a ++ [H]).map uv) by rw [hwa]; exact ownw9.out)
 obtain ⟨v1,v2,v3⟩:=CV.out wa bwa.out
 replace hwa:=Lib.hid hwa
 clear TD3
 have f1:=Fwa.out.cell 0
 have f2:=Fwa.out.frozen 0
 have hal:(a ++ [H]).length = m + 1:=by rw [List.length_append,hm.out]; rfl
 have FINI:=Lib.hid (show Below h0 X (wa.setCell ⟨F,0,none⟩ (.bool true)) /\ TellL h0 T F (wa.setCell ⟨F,0,none⟩ (.bool true)) (a ++ [H]) from ⟨bwa.out.setCell (p:=⟨F,0,none⟩) f0 _,⟨t0,f0,tf,⟨A6,cp6,by rw [hal]; exact Bwa.out.far (p:=⟨F,0,none⟩) tf _,by rw [hal]; exact own_keptN ownwa.out (fun b e => Below.heap_setCell wa ⟨F,0,none⟩ _ b (hA6.out b e).2),by rw [hal]; exact hA6.out⟩,Fwa.out.set_ 0 _⟩⟩)
 replace hal:=Lib.hid hal
 clear bwa Bwa Fwa ownwa hA6 TC1 TC2 TC3 CV tf t0 f0
 cases o1 with
 | false =>
  cases o2 with
  | false =>
   cases o3 with
   | false =>
    exact absurd key.out (by simp_all)
   | true =>
    by_cases h3:t3 = H
    ·have e3:((t3:Int) == (H:Int)) = true:=by rw [beq_iff_eq]; omega
     have d3:decide ((t3:Int) = (H:Int)) = true:=decide_eq_true (by omega)
     replace h3:=Lib.hid h3
     go_wp2
     go_end0
     exact ⟨rfl,FINI.out⟩
    ·have e3:((t3:Int) == (H:Int)) = false:=by rw [beq_eq_false_iff_ne]; omega
     have d3:decide ((t3:Int) = (H:Int)) = false:=decide_eq_false (by omega)
     exact absurd key.out (by simp_all)
  | true =>
   by_cases h2:t2 = H
   ·have e2:((t2:Int) == (H:Int)) = true:=by rw [beq_iff_eq]; omega
    have d2:decide ((t2:Int) = (H:Int)) = true:=decide_eq_true (by omega)
    replace h2:=Lib.hid h2
    go_wp2
    go_end0
    exact ⟨rfl,FINI.out⟩
   ·have e2:((t2:Int) == (H:Int)) = false:=by rw [beq_eq_false_iff_ne]; omega
    have d2:decide ((t2:Int) = (H:Int)) = false:=decide_eq_false (by omega)
    cases o3 with
    | false =>
     exact absurd key.out (by simp_all)
    | true =>
     by_cases h3:t3 = H
     ·have e3:((t3:Int) == (H:Int)) = true:=by rw [beq_iff_eq]; omega
      have d3:decide ((t3:Int) = (H:Int)) = true:=decide_eq_true (by omega)
      replace h3:=Lib.hid h3
      go_wp2
      go_end0
      exact ⟨rfl,FINI.out⟩
     ·have e3:((t3:Int) == (H:Int)) = false:=by rw [beq_eq_false_iff_ne]; omega
      have d3:decide ((t3:Int) = (H:Int)) = false:=decide_eq_false (by omega)
      exact absurd key.out (by simp_all)
 | true =>
  by_cases h1:t1 = H
  ·have e1:((t1:Int) == (H:Int)) = true:=by rw [beq_iff_eq]; omega
   have d1:decide ((t1:Int) = (H:Int)) = true:=decide_eq_true (by omega)
   replace h1:=Lib.hid h1
   go_wp2
   go_end0
   exact ⟨rfl,FINI.out⟩
  ·have e1:((t1:Int) == (H:Int)) = false:=by rw [beq_eq_false_iff_ne]; omega
   have d1:decide ((t1:Int) = (H:Int)) = false:=decide_eq_false (by omega)
   cases o2 with
   | false =>
    cases o3 with
    | false =>
     exact absurd key.out (by simp_all)
    | true =>
     by_cases h3:t3 = H
     ·have e3:((t3:Int) == (H:Int)) = true:=by rw [beq_iff_eq]; omega
      have d3:decide ((t3:Int) = (H:Int)) = true:=decide_eq_true (by omega)
      replace h3:=Lib.hid h3
      go_wp2
      go_end0
      exact ⟨rfl,FINI.out⟩
     ·have e3:((t3:Int) == (H:Int)) = false:=by rw [beq_eq_false_iff_ne]; omega
      have d3:decide ((t3:Int) = (H:Int)) = false:=decide_eq_false (by omega)
      exact absurd key.out (by simp_all)
   | true =>
    by_cases h2:t2 = H
    ·have e2:((t2:Int) == (H:Int)) = true:=by rw [beq_iff_eq]; omega
     have d2:decide ((t2:Int) = (H:Int)) = true:=decide_eq_true (by omega)
     replace h2:=Lib.hid h2
     go_wp2
     go_end0
     exact ⟨rfl,FINI.out⟩
    ·have e2:((t2:Int) == (H:Int)) = false:=by rw [beq_eq_false_iff_ne]; omega
     have d2:decide ((t2:Int) = (H:Int)) = false:=decide_eq_false (by omega)
     cases o3 with
     | false =>
      exact absurd key.out (by simp_all)
     | true =>
      by_cases h3:t3 = H
      ·have e3:((t3:Int) == (H:Int)) = true:=by rw [beq_iff_eq]; omega
       have d3:decide ((t3:Int) = (H:Int)) = true:=decide_eq_true (by omega)
       replace h3:=Lib.hid h3
       go_wp2
       go_end0
       exact ⟨rfl,FINI.out⟩
      ·have e3:((t3:Int) == (H:Int)) = false:=by rw [beq_eq_false_iff_ne]; omega
       have d3:decide ((t3:Int) = (H:Int)) = false:=decide_eq_false (by omega)
       exact absurd key.out (by simp_all)
theorem TellL.only {h0 T F:Nat} {X Y:World} {a:List Nat} (h:TellL h0 T F X a) {S:Nat -> Prop} (o:Only S X Y) (hS:∀ b,S b -> b < h0):TellL h0 T F Y a:=by
 obtain ⟨t0,f0,tf,⟨A,cp,BT,own,hA⟩,BF⟩:=h
 refine ⟨t0,f0,tf,⟨A,cp,(o.block _ BT.lt (fun e => by have:=hS _ e; omega)).trans BT,own_keptN own (fun b e => o.block b (own_blockN own e) (fun e2 => by have:=hS _ e2; have:=own_base own e; omega)),hA⟩,(o.block _ BF.lt (fun e => by have:=hS _ e; omega)).trans BF⟩
theorem TellL.below {h0 T F:Nat} {X Y:World} {a:List Nat} (h:TellL h0 T F X a) (b:Below X.heap.size X Y):TellL h0 T F Y a :=
 h.only (S:=fun _ => False) ⟨b.os,b.tape,b.output,b.size,fun k hk _ => b.block k hk⟩ (fun _ e => e.elim)
theorem below_onlyH {h0:Nat} {X Y:World} (b:Below h0 X Y):Only (fun k => h0 <= k) X Y:=⟨b.os,b.tape,b.output,b.size,fun k _ hn => b.block k (by omega)⟩
def tldN (a:List Nat) (k H:Nat):List Nat:=if k = 0 then a else a ++ [H]
theorem stepW {N:Nat} {w:World} {W:W6} {s:St} {bs:List UInt8} {Z:Nat -> Option Zd} {Ls Ld:Nat -> Nat -> List Nat} {r:RS} {laid told act:List Nat} {mk:Nat -> Nat} (h:WAt N w W qc s bs Z Ls Ld r laid told act mk) {g:Nat} (hg:W.gm = some g) (sh:Shr W.hot W.warm) (x:Int) {h0 T F V O:Nat} {a:List Nat}
  (hf:∀ i b,W.foot qc s i b -> b < h0) (hh:h0 <= w.heap.size) (hV:V < h0) (hO:O < h0) (cV:w.cell? ⟨V,0,none⟩ = some (.pointer (some ⟨W.b,0,none⟩))) (cO:w.cell? ⟨O,3,none⟩ = some (.int .i64 x)) (K:TellL h0 T F w a) (hla:a.length <= 1000000) :
  Calls Tryz.prog 44 #[.pointer (some ⟨g,0,none⟩),.int .i64 x,.func (.func 28) #[] #[.pointer (some ⟨T,0,none⟩),.pointer (some ⟨V,0,none⟩),.pointer (some ⟨O,0,none⟩),.pointer (some ⟨F,0,none⟩)]] w fun e w' =>
   e = .returned (.bool (decide (dueK s Z Ls mk W.hot W.warm x ≠ 0))) /\ ∃ bs' Z',bs'.length = bs.length /\ (∀ H,(Z' H).isSome = (Z H).isSome) /\ WAt N w' W qc s bs' Z' (nxtL s Z Ls mk W.hot W.warm x) Ld r laid told act (nxtM s Z Ls mk W.hot W.warm x) /\
    TellL h0 T F w' (tldN a (dueK s Z Ls mk W.hot W.warm x) (stepH s Z Ls mk W.hot W.warm x)) /\ Only (fun b => h0 <= b \/ ∃ i,W.foot qc s i b) w w':=by
 have hS:=h.ls hg
 obtain ⟨u1,u2,u3,u4⟩:=hS.due sh x
 have wa:∀ v Y,Below w.heap.size w v -> Below h0 v Y -> WAt N Y W qc s bs Z Ls Ld r laid told act mk:=fun v Y b y => (h.below b).only (below_onlyH y) (fun i b' e => by have:=hf i b' e; omega)
 refine (stepLC hS sh x _ _ _ _ (fun v v' => Below h0 v v' /\ TellL h0 T F v' (a ++ [stepH s Z Ls mk W.hot W.warm x])) (fun v b hd => ?_) (fun v v' b k => (wa v v' b k.1).ls hg)).mono ?_
 ·refine leftC (b:=W.b) (gq:=W.gq) (x:=x) (K.below b) hla (Nat.le_trans hh b.size) (fun Y y => ⟨?_,(wa v Y b y).cW.2.1,?_⟩) (fun Y y => tailC (wa v Y b y).q x 1) (fun Y y => tailC (wa v Y b y).q x 2) (fun Y y => tailC (wa v Y b y).q x 3) ?_
  ·exact (y.cell (p:=⟨V,0,none⟩) hV).trans ((b.cell (p:=⟨V,0,none⟩) (Nat.lt_of_lt_of_le hV hh)).trans cV)
  ·exact (y.cell (p:=⟨O,3,none⟩) hO).trans ((b.cell (p:=⟨O,3,none⟩) (Nat.lt_of_lt_of_le hO hh)).trans cO)
  ·have:dueK s Z Ls mk W.hot W.warm x = 1 \/ dueK s Z Ls mk W.hot W.warm x = 2 \/ dueK s Z Ls mk W.hot W.warm x = 3:=by omega
   rcases this with e | e | e
   ·exact .inl ⟨decide_eq_true (u1 e),by unfold stepH; rw [e]; rfl⟩
   ·exact .inr (.inl ⟨decide_eq_true (u2 e),by unfold stepH; rw [e]; rfl⟩)
   ·exact .inr (.inr ⟨decide_eq_true (u3 e),by unfold stepH; rw [e]; rfl⟩)
 ·rintro e w' ⟨rfl,⟨d0,D⟩ | ⟨d0,v,v',b,⟨k,K2⟩,D⟩⟩
  ·obtain ⟨bs',Z',e1,z1,G,A⟩:=h.dl hg D
   refine ⟨rfl,bs',Z',e1,z1,A,?_,⟨G.only.os,G.only.tape,G.only.output,G.only.size,fun k hk hn => G.only.block k hk (fun e => hn (.inr e))⟩⟩
   unfold tldN
   rw [if_pos d0]
   exact K.only G.only (fun b ⟨i,e⟩ => hf i b e)
  ·obtain ⟨bs',Z',e1,z1,G,A⟩:=(wa v v' b k).dl hg D
   refine ⟨rfl,bs',Z',e1,z1,A,?_,?_⟩
   ·unfold tldN
    rw [if_neg d0]
    exact K2.only G.only (fun b ⟨i,e⟩ => hf i b e)
   ·have hs:=Nat.le_trans b.size k.size
    refine ⟨G.only.os.trans (k.os.trans b.os),G.only.tape.trans (k.tape.trans b.tape),G.only.output.trans (k.output.trans b.output),Nat.le_trans hs G.only.size,fun j hj hn => ?_⟩
    have h1:j < h0:=by
     by_cases q:j < h0
     ·exact q
     ·exact absurd (.inl (by omega)) hn
    exact (G.only.block j (by omega) (fun e => hn (.inr e))).trans ((k.block j h1).trans (b.block j hj))
def WB (N:Nat) (w w':World) (W:W6) (s:St) (bs:List UInt8) (Z:Nat -> Option Zd) (Ld:Nat -> Nat -> List Nat) (r:RS) (laid told act:List Nat) (h0 T F:Nat) (a:List Nat) (L1:Nat -> Nat -> List Nat) (m1:Nat -> Nat):Prop :=
 ∃ bs' Z',bs'.length = bs.length /\ (∀ H,(Z' H).isSome = (Z H).isSome) /\ WAt N w' W qc s bs' Z' L1 Ld r laid told act m1 /\ TellL h0 T F w' a /\ Only (fun b => h0 <= b \/ ∃ i,W.foot qc s i b) w w'
set_option maxHeartbeats 1600000 in
theorem balanceLC {N:Nat} {w:World} {W:W6} {s:St} {bs:List UInt8} {Z:Nat -> Option Zd} {Ls Ld:Nat -> Nat -> List Nat} {r:RS} {laid told act:List Nat} {mk:Nat -> Nat} (h:WAt N w W qc s bs Z Ls Ld r laid told act mk) {g:Nat} (hg:W.gm = some g) (sh:Shr W.hot W.warm) (x links:Int) (hl:Cls.In links) {h0 T F V O:Nat}
  (hf:∀ i b,W.foot qc s i b -> b < h0) (hh:h0 <= w.heap.size) (hV:V < h0) (hO:O < h0) (nV:∀ i,¬ W.foot qc s i V) (nO:∀ i,¬ W.foot qc s i O) (cV:w.cell? ⟨V,0,none⟩ = some (.pointer (some ⟨W.b,0,none⟩))) (cO:w.cell? ⟨O,3,none⟩ = some (.int .i64 x)) (K:TellL h0 T F w []) (hb:(balN s Z W.hot W.warm x links.toNat Ls mk).1.length <= 1000000) :
  Calls Tryz.prog 19 #[.pointer (some ⟨g,0,none⟩),.int .i64 x,.int .i64 links,.func (.func 28) #[] #[.pointer (some ⟨T,0,none⟩),.pointer (some ⟨V,0,none⟩),.pointer (some ⟨O,0,none⟩),.pointer (some ⟨F,0,none⟩)]] w fun e w' =>
   e = .returned (.int .i64 ((balN s Z W.hot W.warm x links.toNat Ls mk).1.length:Int)) /\ WB N w w' W s bs Z Ld r laid told act h0 T F (balN s Z W.hot W.warm x links.toNat Ls mk).1 (balN s Z W.hot W.warm x links.toNat Ls mk).2.1 (balN s Z W.hot W.warm x links.toNat Ls mk).2.2:=by
 obtain ⟨hl1,hl2⟩:=hl
 have D0:WB N w w W s bs Z Ld r laid told act h0 T F [] Ls mk:=⟨bs,Z,rfl,fun _ => rfl,h,K,Only.refl _ _⟩
 obtain ⟨n,hn⟩:∃ n,n = links.toNat:=⟨_,rfl⟩
 rw [<- hn] at hb ⊢
 obtain ⟨P,hP⟩:∃ P,P = balN s Z W.hot W.warm x n Ls mk:=⟨_,rfl⟩
 rw [<- hP] at hb ⊢
 have ST:∀ (wr:World) (a:List Nat) (L1:Nat -> Nat -> List Nat) (m1:Nat -> Nat),a.length <= 1000000 -> WB N w wr W s bs Z Ld r laid told act h0 T F a L1 m1 ->
   Calls Tryz.prog 44 #[.pointer (some ⟨g,0,none⟩),.int .i64 x,.func (.func 28) #[] #[.pointer (some ⟨T,0,none⟩),.pointer (some ⟨V,0,none⟩),.pointer (some ⟨O,0,none⟩),.pointer (some ⟨F,0,none⟩)]] wr fun e w' =>
    e = .returned (.bool (decide (dueK s Z L1 m1 W.hot W.warm x ≠ 0))) /\ (dueK s Z L1 m1 W.hot W.warm x = 0 -> WB N w w' W s bs Z Ld r laid told act h0 T F a L1 m1) /\ (dueK s Z L1 m1 W.hot W.warm x ≠ 0 -> WB N w w' W s bs Z Ld r laid told act h0 T F (a ++ [stepH s Z L1 m1 W.hot W.warm x]) (stepL s Z L1 m1 W.hot W.warm x) (stepM s Z L1 m1 W.hot W.warm x)):=fun wr a L1 m1 ha ⟨bs1,Z1,e1,z1,A,K1,o1⟩ => by
  have ne:∀ {p:Nat},p < h0 -> (∀ i,¬ W.foot qc s i p) -> wr.heap[p]? = w.heap[p]?:=fun {p} hp hn => o1.block p (Nat.lt_of_lt_of_le hp hh) (fun e => by
   rcases e with e | ⟨i,e⟩
   ·omega
   ·exact hn i e)
  refine (stepW A hg sh x hf (Nat.le_trans hh o1.size) hV hO ((World.cell?_of_block (a:=⟨V,0,none⟩) (ne hV nV)).trans cV) ((World.cell?_of_block (a:=⟨O,3,none⟩) (ne hO nO)).trans cO) K1 ha).mono ?_
  rintro e w' ⟨e0,bs2,Z2,e2,z2,A2,K2,o2⟩
  rw [dueK_congr z1] at e0
  rw [dueK_congr z1,stepH_congr z1] at K2
  unfold nxtL nxtM at A2
  rw [dueK_congr z1,stepL_congr z1,stepM_congr z1] at A2
  have z3:∀ H,(Z2 H).isSome = (Z H).isSome:=fun H => (z2 H).trans (z1 H)
  have o3:=o1.trans o2 (fun _ _ e => e)
  refine ⟨e0,fun d => ?_,fun d => ?_⟩
  ·rw [if_pos d,if_pos d] at A2
   unfold tldN at K2
   rw [if_pos d] at K2
   exact ⟨bs2,Z2,e2.trans e1,z3,A2,K2,o3⟩
  ·rw [if_neg d,if_neg d] at A2
   unfold tldN at K2
   rw [if_neg d] at K2
   exact ⟨bs2,Z2,e2.trans e1,z3,A2,K2,o3⟩
 have hPl:P.1.length <= n:=by rw [hP]; exact balN_len ..
 have hn1:(n:Int) = links \/ n = 0 /\ links <= 0:=by omega
 have hl3:n <= 9223372036854775807:=by omega
 obtain ⟨hot,hhot⟩:∃ hot,hot = W.hot:=⟨_,rfl⟩
 obtain ⟨warm,hwarm⟩:∃ warm,warm = W.warm:=⟨_,rfl⟩
 rw [<- hhot, <- hwarm] at hP ST
 replace hn:=Lib.hid hn
 replace hP:=Lib.hid hP
 replace D0:=Lib.hid D0
 replace ST:=Lib.hid ST
 replace hhot:=Lib.hid hhot
 replace hwarm:=Lib.hid hwarm
 clear h hl1 K cV cO hf nV nO sh
 go_enter Tryz.func19,Tryz.ntmps19
 go_wp2_with fail
 go_loopw [9] (fun vi wr => ∃ (i:Nat) (a:List Nat) (L1:Nat -> Nat -> List Nat) (m1:Nat -> Nat),vi = .int .i64 (i:Int) /\ i <= n /\ Hid (a.length = i) /\ Hid (P.1 = a ++ (balN s Z hot warm x (n - i) L1 m1).1) /\ Hid (P.2 = (balN s Z hot warm x (n - i) L1 m1).2) /\ Hid (WB N w wr W s bs Z Ld r laid told act h0 T F a L1 m1)) (fun vi _ => n - (intOf vi).toNat)
 case atStart => exact ⟨0,[],Ls,mk,rfl,Nat.zero_le _,Lib.hid rfl,Lib.hid (by rw [hP.out]; simp),Lib.hid (by rw [hP.out]; rfl),D0⟩
 case round =>
  obtain ⟨i,a,L1,m1,rfl,hi,ha,h1,h2,D⟩:=hrel
  have SC:=ST.out wr a L1 m1 (by have:=congrArg List.length h1.out; rw [List.length_append] at this; omega) D.out
  have fin:∀ (M:List Nat × (Nat -> Nat -> List Nat) × (Nat -> Nat)) v,M.1 = [] -> P.1 = a ++ M.1 -> P.2 = (L1,m1) -> WB N w v W s bs Z Ld r laid told act h0 T F a L1 m1 -> P.1.length = i /\ WB N w v W s bs Z Ld r laid told act h0 T F P.1 P.2.1 P.2.2:=fun M v e0 e1 e2 k => by
   rw [e0,List.append_nil] at e1
   rw [e2,e1]
   exact ⟨ha.out,k⟩
  by_cases hin:i < n
  ·have d1:decide ((i:Int) < links) = true:=decide_eq_true (by omega)
   obtain ⟨m,hm⟩:∃ m,n - i = m + 1:=⟨n - i - 1,by omega⟩
   have hm2:n - (i + 1) = m:=by omega
   have q1:IntKind.i64.wrap ((i:Int) + 1) = (i:Int) + 1:=IntWalk.i64_in _ (by omega)
   by_cases hd:dueK s Z L1 m1 hot warm x = 0
   ·have ed:decide (dueK s Z L1 m1 hot warm x ≠ 0) = false:=decide_eq_false (by simpa using hd)
    rw [ed] at SC
    rw [balN_no hd] at h1 h2
    replace SC:=Lib.hid SC
    replace hd:=Lib.hid hd
    replace fin:=Lib.hid fin
    clear ed hm hm2
    go_wp2_with fail
    refine SC.out.mono ?_
    rintro e w2 ⟨rfl,k, -⟩
    have T:=Lib.hid (fin.out ([],L1,m1) w2 rfl h1.out h2.out (k hd.out))
    have T1:=Lib.hid T.out.1
    clear k
    go_wp2
    go_ret
    exact ⟨by rw [T1.out]; rfl,T.out.2⟩
   ·have ed:decide (dueK s Z L1 m1 hot warm x ≠ 0) = true:=decide_eq_true hd
    rw [ed] at SC
    rw [hm,balN_yes hd] at h1 h2
    replace SC:=Lib.hid SC
    replace hd:=Lib.hid hd
    replace hm:=Lib.hid hm
    replace hm2:=Lib.hid hm2
    clear ed fin
    go_wp2_with fail
    refine SC.out.mono ?_
    rintro e w2 ⟨rfl, -,k⟩
    have T:=Lib.hid (k hd.out)
    clear k
    go_wp2
    go_roundw
    case rel => exact ⟨i + 1,_,_,_,by simp,by omega,Lib.hid (by rw [List.length_append,ha.out]; rfl),Lib.hid (by rw [h1.out,hm2.out,List.append_assoc]; rfl),Lib.hid (by rw [h2.out,hm2.out]),T⟩
    case measure => simp [intOf] <;> omega
  ·obtain rfl:i = n:=by omega
   have d1:decide ((i:Int) < links) = false:=decide_eq_false (by omega)
   rw [Nat.sub_self] at h1 h2
   have T:=Lib.hid (fin ([],L1,m1) wr rfl h1.out h2.out D.out)
   have T1:=Lib.hid T.out.1
   clear fin SC
   go_wp2
   go_ret
   exact ⟨by rw [T1.out]; rfl,T.out.2⟩
end Go.Proofs.YtngehaiigbbknaaGreat.Que
