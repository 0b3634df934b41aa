/-
  Contracts and lemmas, joined: LruMoves, LruMoves2, LruScript, LruArgs, LruWRow, LruActive, LruLook, LruDoc4, LruEnds.
-/
import Derived.Test.YtngehaiigbbknaaGreatK1
import Derived.Test.YtngehaiigbbknaaGreatK10
import Derived.Test.YtngehaiigbbknaaGreatK11
import Derived.Test.YtngehaiigbbknaaGreatK14
set_option linter.unusedSimpArgs false
set_option linter.unusedVariables false
set_option linter.unusedSectionVars false
set_option maxRecDepth 100000
/-
  The law's moves.
-/
namespace Go.Proofs.YtngehaiigbbknaaGreat.Que
open Go.RowKit Base Arena Cls Itm
def Hf (N:Nat) (w1 v:World) (W:W6) (s:St) (bs:List UInt8) (Z:Nat -> Option Zd) (Ls Ld:Nat -> Nat -> List Nat) (r:RS) (laid told act:List Nat) (mk:Nat -> Nat):Prop :=
 ∃ bs' Z' W1,bs'.length = bs.length /\ (∀ H,(Z' H).isSome = (Z H).isSome) /\ (∃ R' vA',W1 = { W with R:=R',vA:=vA' } /\ R'.b = W.R.b) /\ Grew qc w1 v W W1 s s /\ DX N v W1 s bs' Z' Ls Ld r laid told act mk
theorem QL.cg {s:St} {Z Z':Nat -> Option Zd} {L:Nat -> Nat -> List Nat} (h:QL s Z L) (z:∀ H,(Z' H).isSome = (Z H).isSome):QL s Z' L:=by
 obtain ⟨Z1,F,e,q⟩:=h
 exact ⟨Z1,F,fun K => (e K).trans (z K).symm,q⟩
section
variable {N:Nat} {w1 v:World} {W:W6} {s:St} {bs:List UInt8} {Z:Nat -> Option Zd} {Ls Ld:Nat -> Nat -> List Nat} {r:RS} {laid told act:List Nat} {mk:Nat -> Nat} (h:Hf N w1 v W s bs Z Ls Ld r laid told act mk)
include h
theorem Hf.cells {N0:Nat} {o:Op6} (B:Blk w1 N0 64 o.cells) (hn:∀ i,¬ W.foot qc s i N0):Cmv W.b N0 W.gm W.dm W.L.g W.gq W.R.b o v:=by
 obtain ⟨bs',Z',W1,e1,z1,⟨R',vA',rfl,eb⟩,G,D⟩:=h
 have BO:=D.wat.own
 have B0:=(G.away B.lt hn).1.trans B
 have c4:=BO.cell 4
 refine ⟨⟨BO.cell 0,BO.cell 1,BO.cell 2,?_,BO.cell 5⟩,op6_cells B0⟩
 rw [<- eb]
 exact c4
theorem Hf.prog {F:FuncId} {args:Array Value} {x:Ending} {Lx:Nat -> Nat -> List Nat} {mk':Nat -> Nat} {g:Nat} (hg:W.gm = some g)
  (C:∀ bs' Z',(∀ H,(Z' H).isSome = (Z H).isSome) -> LS v W.L s bs' Z' W.gq W.gl Ls mk g W.hot W.warm -> Calls Tryz.prog F args v fun e v' => e = x /\ DL v v' W.L s bs' Z' W.gq W.gl Lx mk' g W.hot W.warm) :
  Calls Tryz.prog F args v fun e v' => e = x /\ Hf N w1 v' W s bs Z Lx Ld r laid told act mk':=by
 obtain ⟨bs',Z',W1,e1,z1,⟨R',vA',rfl,eb⟩,G,D⟩:=h
 refine (C bs' Z' z1 (D.wat.ls (g:=g) hg)).mono ?_
 rintro e v' ⟨rfl,D2⟩
 obtain ⟨bs2,Z2,e2,z2,G2,A⟩:=D.wat.dl (g:=g) hg D2
 exact ⟨rfl,bs2,Z2,_,e2.trans e1,fun H => (z2 H).trans (z1 H),⟨R',vA',rfl,eb⟩,G.trans G2,A,D.rel,fun H i x p hf => by rw [z2 H]; exact D.agr H i x p hf,D.ch,D.la,D.dq.cg z2,D.al⟩
theorem Hf.que {F:FuncId} {args:Array Value} {x:Ending} {RR:Nat} {Lx:Nat -> Nat -> List Nat}
  (C:∀ bs' Z',(∀ H,(Z' H).isSome = (Z H).isSome) -> QW v W.L qc s bs' Z' W.gq W.gl Ls -> Calls Tryz.prog F args v fun e v' => e = x /\ Did v v' W.L qc s bs' Z' W.gq W.gl (RR,Lx)) :
  Calls Tryz.prog F args v fun e v' => e = x /\ Hf N w1 v' W s bs Z Lx Ld r laid told act mk:=by
 obtain ⟨bs',Z',W1,e1,z1,⟨R',vA',rfl,eb⟩,G,D⟩:=h
 refine (C bs' Z' z1 D.wat.q).mono ?_
 rintro e v' ⟨rfl,o,bs2,Z2,hE,z2, -,Q⟩
 have A:=D.wat.turn o Q (D.wat.mks.ed D.wat.okc D.wat.good hE z2)
 exact ⟨rfl,bs2,Z2,_,hE.1.trans e1,fun H => (z2 H).trans (z1 H),⟨R',vA',rfl,eb⟩,G.trans (grew_turn o),A,D.rel,fun H i x p hf => by rw [z2 H]; exact D.agr H i x p hf,D.ch,D.la,D.dq.cg z2,D.al⟩
theorem Hf.docu {F:FuncId} {args:Array Value} {X:Ending -> Prop} {Lx:Nat -> Nat -> List Nat} {act':List Nat}
  (C:∀ bs' Z' W1,(∀ H,(Z' H).isSome = (Z H).isSome) -> W1.R.b = W.R.b -> W1.dm = W.dm -> W1.hot = W.hot -> W1.warm = W.warm -> DX N v W1 s bs' Z' Ls Ld r laid told act mk -> Calls Tryz.prog F args v fun e v' => X e /\ DG N v v' W1 s bs' Z' Ls Lx r laid told act' mk) :
  Calls Tryz.prog F args v fun e v' => X e /\ Hf N w1 v' W s bs Z Ls Lx r laid told act' mk:=by
 obtain ⟨bs',Z',W1,e1,z1,⟨R',vA',rfl,eb⟩,G,D⟩:=h
 refine (C bs' Z' { W with R:=R',vA:=vA' } z1 eb rfl rfl rfl D).mono ?_
 rintro e v' ⟨hX,R2,v2,e2,G2,D2⟩
 exact ⟨hX,bs',Z',_,e1,z1,⟨R2,v2,rfl,e2.trans eb⟩,G.trans G2,D2⟩
end
section
variable {N:Nat} {w:World} {W:W6} {s:St} {bs:List UInt8} {Z:Nat -> Option Zd} {Ls:Nat -> Nat -> List Nat} {r:RS} {laid told act:List Nat} {mk:Nat -> Nat} {t:Nat} (h:LI N w W s bs Z Ls r laid told act mk t)
include h
theorem LI.hf (ht:t <= 60000) {v:World} (b:Below w.heap.size w v):Hf N w v W s bs Z Ls Ls r laid told act mk :=
 ⟨bs,Z,W,rfl,fun _ => rfl,⟨W.R,W.vA,rfl,rfl⟩,(Grew.refl _ _ _ _).step b,(h.below b).dx ht⟩
theorem LI.end_ {v:World} {Lx:Nat -> Nat -> List Nat} {act':List Nat} {mk':Nat -> Nat} (H:Hf N w v W s bs Z Lx Lx r laid told act' mk') (hl:act'.length <= t + 1) (ab:∀ H,isN qc s Z H = true -> (H ∈ act' ↔ mk' H % 2 = 1)) (mr:∀ H,mk' H / 2 = mk H / 2):Goes N w v W s (t + 1):=by
 obtain ⟨bs',Z',W1,e1,z1,⟨R',vA',rfl,eb⟩,G,D⟩:=H
 exact ⟨{ W with R:=R',vA:=vA' },s,bs',Z',Lx,r,laid,told,act',mk',⟨rfl,rfl,rfl,rfl,rfl⟩,G,D.wat,h.rel,D.agr,e1.trans h.bs,by have:=h.ch; omega,by have:=h.la; omega,by have:=h.tl; omega,hl,h.tlt,h.lg,h.ln,h.lt,fun K hK => ab K (by rw [<- isN_congr z1]; exact hK),fun K hK => (mr K).trans (h.mr K (by rw [<- isN_congr z1]; exact hK)),h.dmS,h.sh⟩
end
theorem mk_div (mk:Nat -> Nat) (H:Nat) (on:Bool) (K:Nat):mkOn mk H on K / 2 = mk K / 2:=by
 unfold mkOn
 by_cases e:K = H
 ·rw [e,upd_at]
  cases on
  ·show 2 * (mk H / 2) / 2 = _; omega
  ·show (2 * (mk H / 2) + 1) / 2 = _; omega
 ·rw [upd_ne _ _ e]
theorem ab_on {mk:Nat -> Nat} {act:List Nat} (H:Nat) (on:Bool) {K:Nat} (h:K ∈ act ↔ mk K % 2 = 1):K ∈ actN H on act ↔ mkOn mk H on K % 2 = 1:=by
 unfold mkOn
 by_cases e:K = H
 ·rw [e,actN_self,upd_at]
  cases on
  ·exact ⟨fun e => (by cases e),fun e2 => by
    have e3 : 2 * (mk H / 2) % 2 = 1:=e2
    omega⟩
  ·refine ⟨fun _ => ?_,fun _ => rfl⟩
   show (2 * (mk H / 2) + 1) % 2 = 1
   omega
 ·rw [actN_other _ _ e,upd_ne _ _ e]
  exact h
theorem QL.tot {s:St} {Z:Nat -> Option Zd} {Ls:Nat -> Nat -> List Nat} (q:QL s Z Ls) {laid:List Nat} (hl:∀ H,isN qc s Z H = true -> H ∈ laid) (x:Int):totX Ls x <= laid.length:=by
 obtain ⟨Z1,F,e1,q⟩:=q
 unfold totX lenX lsN
 by_cases hx : 0 <= x /\ x < (qc.nc:Int)
 ·rw [if_pos ⟨hx.1,hx.2,by decide,by decide⟩,if_pos ⟨hx.1,hx.2,by decide,by decide⟩,if_pos ⟨hx.1,hx.2,by decide,by decide⟩]
  have hX:x.toNat < qc.nc:=by omega
  have:=nodup_sub (l:=(Ls x.toNat 0 ++ Ls x.toNat 1) ++ Ls x.toNat 2) (m:=laid) (by
   rw [List.nodup_append,List.nodup_append]
   refine ⟨⟨q.nd _ 0 hX (by decide),q.nd _ 1 hX (by decide),fun a ha b hb e => ?_⟩,q.nd _ 2 hX (by decide),fun a ha b hb e => ?_⟩
   ·subst e
    have:=(q.dj _ 0 _ 1 a hX (by decide) hX (by decide) ha hb).2
    omega
   ·subst e
    rcases List.mem_append.1 ha with ha | ha
    ·have:=(q.dj _ 0 _ 2 a hX (by decide) hX (by decide) ha hb).2
     omega
    ·have:=(q.dj _ 1 _ 2 a hX (by decide) hX (by decide) ha hb).2
     omega) (fun a ha => by
   refine hl a ?_
   rw [<- isN_congr e1]
   rcases List.mem_append.1 ha with ha | ha
   ·rcases List.mem_append.1 ha with ha | ha
    ·exact isN_it (q.is hX (by decide) ha)
    ·exact isN_it (q.is hX (by decide) ha)
   ·exact isN_it (q.is hX (by decide) ha))
  rw [List.length_append,List.length_append] at this
  exact this
 ·rw [if_neg (fun e => hx ⟨e.1,e.2.1⟩),if_neg (fun e => hx ⟨e.1,e.2.1⟩),if_neg (fun e => hx ⟨e.1,e.2.1⟩)]
  simp
theorem LI.laid_ {N:Nat} {w:World} {W:W6} {s:St} {bs:List UInt8} {Z:Nat -> Option Zd} {Ls:Nat -> Nat -> List Nat} {r:RS} {laid told act:List Nat} {mk:Nat -> Nat} {t:Nat} (h:LI N w W s bs Z Ls r laid told act mk t) (H:Nat) (hI:isN qc s Z H = true):H ∈ laid:=by
 unfold isN at hI
 obtain ⟨i1,i2⟩:=Bool.and_eq_true_iff.1 hI
 obtain ⟨⟨i,x,p⟩,hf⟩:=Option.isSome_iff_exists.1 i1
 exact (h.agr H i x p hf).1 i2
def bndN (l:Int):Int:=if l <= 2000 then l else 2000
theorem boundedC (w:World) (l:Int):Calls Tryz.prog 30 #[.int .i64 l] w fun e w' => e = .returned (.int .i64 (bndN l)) /\ w = w':=by
 unfold bndN
 by_cases h:l <= 2000
 ·rw [if_pos h]
  have d1:decide ((2000:Int) < l) = false:=decide_eq_false (by omega)
  clear h
  go_enter Tryz.func30,Tryz.ntmps30
  go_wp2
  go_ret
  exact ⟨rfl,rfl⟩
 ·rw [if_neg h]
  have d1:decide ((2000:Int) < l) = true:=decide_eq_true (by omega)
  clear h
  go_enter Tryz.func30,Tryz.ntmps30
  go_wp2
  go_ret
  exact ⟨rfl,rfl⟩
section
variable {N:Nat} {w:World} {W:W6} {s:St} {bs:List UInt8} {Z:Nat -> Option Zd} {Ls:Nat -> Nat -> List Nat} {r:RS} {laid told act:List Nat} {mk:Nat -> Nat} {t:Nat} (h:LI N w W s bs Z Ls r laid told act mk t) (ht:t <= 60000) (o:Op6) (ok:o.Ok)
include h ht ok
theorem LI.begin:∃ w1,w1 = w.alloc (.cells o.cells 64) /\ Below w.heap.size w w1 /\ LI N w1 W s bs Z Ls r laid told act mk t /\ Blk w1 w.heap.size 64 o.cells /\ (∀ i,¬ W.foot qc s i w.heap.size) /\
  Calls Tryz.prog 51 #[.pointer (some ⟨W.b,0,none⟩),.agg o.cells] w1 (fun e w' => e = .returned (.int .u64 (hdN told o:Int)) /\ Below w1.heap.size w1 w'):=by
 have b1:Below w.heap.size w (w.alloc (.cells o.cells 64)):=(Below.refl _ _).alloc (Nat.le_refl _) _
 refine ⟨_,rfl,b1,h.below b1,Blk.new w _ _,fun i e => ?_,handleC (h.below b1) ht o ok⟩
 have:=h.wat.lt i _ e
 omega
end
section
variable {N:Nat} {w:World} {W:W6} {s:St} {bs:List UInt8} {Z:Nat -> Option Zd} {Ls:Nat -> Nat -> List Nat} {r:RS} {laid told act:List Nat} {mk:Nat -> Nat} {t:Nat} (h:LI N w W s bs Z Ls r laid told act mk t) (ht:t <= 900) (o:Op6) (ok:o.Ok)
include h ht ok
theorem movesC (hgm:(∃ g,W.gm = some g) \/ (o.dO = 1 \/ o.dO = 2 \/ o.dO = 10 \/ o.dO = 12)):Calls Tryz.prog 26 #[.pointer (some ⟨W.b,0,none⟩),.agg o.cells] w fun e w' => e = .returned (.bool true) /\ Goes N w w' W s (t + 1):=by
 have ht6:t <= 60000:=by omega
 obtain ⟨w1,hw1,b1,h1,B1,hn,HC⟩:=h.begin ht6 o ok
 have hH:=hdN_lt h.tlt ok
 obtain ⟨d,edm⟩:=h.dmS
 have okc:=h.wat.okc
 have g:=h.wat.good
 have fin:∀ {v},Goes N w1 v W s (t + 1) -> Goes N w v W s (t + 1):=fun G => G.behind b1
 have P0s:∀ v n,Below w1.heap.size w1 v -> Below w1.heap.size w1 (v.drewN n):=fun v n b => below_drewN b n
 have P0c:∀ v,Below w1.heap.size w1 v -> Cmv W.b w.heap.size W.gm W.dm W.L.g W.gq W.R.b o v:=fun v b => (h1.hf ht6 b).cells B1 hn
 rw [hw1] at HC
 have hs:∀ v,Below w1.heap.size w1 v -> Hf N w1 v W s bs Z Ls Ls r laid told act mk:=fun v b => h1.hf ht6 b
 have hc:∀ {Lp Ld a m} v,Hf N w1 v W s bs Z Lp Ld r laid told a m -> Cmv W.b w.heap.size W.gm W.dm W.L.g W.gq W.R.b o v:=fun v H => H.cells B1 hn
 by_cases d1:o.dO = 1
 ·exact (armMake w W.b o _ W.gm W.dm W.L.g W.gq W.R.b (fun v => Below w1.heap.size w1 v) (fun v => Goes N w1 v W s (t + 1)) (by rw [<- hw1] at HC ⊢; exact HC) P0s P0c d1 fun v b => (makesC (h1.below b) ht6 o ok).mono fun e w' ⟨e1,G⟩ => ⟨e1,G.behind b⟩).mono fun e w' ⟨e1,G⟩ => ⟨e1,fin G⟩
 by_cases d2:o.dO = 2
 ·exact (armBare w W.b o _ W.gm W.dm W.L.g W.gq W.R.b (fun v => Below w1.heap.size w1 v) (fun v => Goes N w1 v W s (t + 1)) (by rw [<- hw1] at HC ⊢; exact HC) P0s P0c d2 fun v b => (makesC (h1.below b) ht6 o ok).mono fun e w' ⟨e1,G⟩ => ⟨e1,G.behind b⟩).mono fun e w' ⟨e1,G⟩ => ⟨e1,fin G⟩
 by_cases d3:o.dO = 3
 ·obtain ⟨n,GB⟩:=giveBoth h1 ht6 hH
  refine (armGive w W.b o (hdN told o) n W.gm W.dm W.L.g W.gq W.R.b (fun v => Below w1.heap.size w1 v) (fun v => Calls Tryz.prog 54 #[.pointer (some ⟨W.R.b,0,none⟩),.int .u64 (hdN told o:Int)] v fun e w' => e = .returned (.int .i64 (n:Int)) /\ Gv W w' /\ Goes N w1 w' W s t) (fun v => Goes N w1 v W s (t + 1)) (by rw [<- hw1] at HC ⊢; exact HC) P0s P0c d3 (stK (clsN qc s (hdN told o)) Ls (hdN told o)) (clsN qc s (hdN told o)) (fun v b => ((h1.below b).d6w ht6).whereC _) (fun v b _ => h1.stays b (Nat.le_succ _)) (fun v b h0 => ?_) (fun v P1 => P1.mono fun e w' ⟨e1,c,G⟩ => ⟨e1,c,G.more (Nat.le_succ _)⟩)).mono fun e w' ⟨e1,G⟩ => ⟨e1,fin G⟩
  refine (GB v b).mono fun e w' ⟨e1,c,P1⟩ => ⟨e1,c,P1 ?_⟩
  rcases (h1.d6w ht6).at6 (hdN told o) with ⟨-,e2⟩ | ⟨k,l1,l2,e2, -⟩
  ·exact e2
  ·omega
 by_cases d10:o.dO = 10
 ·refine (armShift w W.b o (hdN told o) (shiftN qc s Ls (hdN told o) o.b).1 W.gm W.dm W.L.g W.gq W.R.b (fun v => Below w1.heap.size w1 v) (fun v => Hf N w1 v W s bs Z (shiftN qc s Ls (hdN told o) o.b).2 Ls r laid told act mk) (fun v => Hf N w1 v W s bs Z (shiftN qc s Ls (hdN told o) o.b).2 (shiftN qc s Ls (hdN told o) o.b).2 r laid told act mk) (by rw [<- hw1] at HC ⊢; exact HC) P0s P0c hc hc d10 (fun v b => (hs v b).que fun bs' Z' z' q => shiftP q _ hH o.b) (fun v P1 => P1.docu fun bs' Z' W2 z' eb ed eh ew D => ?_)).mono fun e w' ⟨e1,H2⟩ => ⟨e1,fin (h1.end_ H2 (by have:=h.al; omega) h.ab fun _ => rfl)⟩
  rw [<- eb]
  exact D.shiftD _ o.b
 by_cases d12:o.dO = 12
 ·refine (armPush w W.b o (hdN told o) (pushN qc s Z Ls (hdN told o) o.b false).1 W.gm W.dm W.L.g W.gq W.R.b (fun v => Below w1.heap.size w1 v) (fun v => Hf N w1 v W s bs Z (pushN qc s Z Ls (hdN told o) o.b false).2 Ls r laid told act mk) (fun v => Hf N w1 v W s bs Z (pushN qc s Z Ls (hdN told o) o.b false).2 (pushN qc s Z Ls (hdN told o) o.b false).2 r laid told act mk) (by rw [<- hw1] at HC ⊢; exact HC) P0s P0c hc hc d12 (fun v b => (hs v b).que (RR:=(pushN qc s Z Ls (hdN told o) o.b false).1) fun bs' Z' z' q => ?_) (fun v P1 => P1.docu fun bs' Z' W2 z' eb ed eh ew D => ?_)).mono fun e w' ⟨e1,H2⟩ => ⟨e1,fin (h1.end_ H2 (by have:=h.al; omega) h.ab fun _ => rfl)⟩
  ·have:=pushP q _ hH o.b
   rw [pushN_cg z'] at this
   exact this
  ·have:=D.pushD (hdN told o) o.b false
   rw [pushN_cg z',eb] at this
   exact this
 by_cases dE:o.dO ≠ 4 /\ o.dO ≠ 5 /\ o.dO ≠ 6 /\ o.dO ≠ 7
 ·exact (armElse w W.b o _ W.gm W.dm W.L.g W.gq W.R.b (fun v => Below w1.heap.size w1 v) (fun v => Goes N w1 v W s (t + 1)) (by rw [<- hw1] at HC ⊢; exact HC) P0s P0c ⟨d1,d2,d3,dE.1,dE.2.1,dE.2.2.1,dE.2.2.2,d10,d12⟩ fun v b => h1.stays b (Nat.le_succ _)).mono fun e w' ⟨e1,G⟩ => ⟨e1,fin G⟩
 obtain ⟨gp,hg⟩:∃ g,W.gm = some g:=hgm.resolve_right (by omega)
 by_cases d4:o.dO = 4
 ·refine (armEnter w W.b o (hdN told o) (pushN qc s Z Ls (hdN told o) 1 false).1 W.gm W.dm W.L.g W.gq W.R.b (fun v => Below w1.heap.size w1 v) (fun v => Hf N w1 v W s bs Z (pushN qc s Z Ls (hdN told o) 1 false).2 Ls r laid told act (entM mk (hdN told o) (pushN qc s Z Ls (hdN told o) 1 false).1)) (fun v => Hf N w1 v W s bs Z (pushN qc s Z Ls (hdN told o) 1 false).2 (pushN qc s Z Ls (hdN told o) 1 false).2 r laid told (entA act (hdN told o) (pushN qc s Z Ls (hdN told o) 1 false).1) (entM mk (hdN told o) (pushN qc s Z Ls (hdN told o) 1 false).1)) (by rw [<- hw1] at HC ⊢; exact HC) P0s P0c hc hc d4 hg edm (fun v b => (hs v b).prog hg fun bs' Z' z' q => ?_) (fun v P1 => P1.docu fun bs' Z' W2 z' eb ed eh ew D => ?_)).mono fun e w' ⟨e1,H2⟩ => ⟨e1,fin (h1.end_ H2 ?_ ?_ ?_)⟩
  ·have:=enterC q _ hH
   rw [pushN_cg z'] at this
   exact this
  ·have:=D.enterD (dm:=d) (ed.trans edm) (hdN told o)
   rw [pushN_cg z'] at this
   exact this
  all_goals generalize (pushN qc s Z Ls (hdN told o) 1 false).1 = RR at *
  ·unfold entA
   have:=h.al
   have:=actN_len (hdN told o) false act
   split <;> omega
  ·intro K hK
   unfold entA entM
   split
   ·exact ab_on _ _ (h.ab K hK)
   ·exact h.ab K hK
  ·intro K
   unfold entM
   split
   ·exact mk_div _ _ _ _
   ·rfl
 by_cases d5:o.dO = 5
 ·refine (armLeave w W.b o (hdN told o) (dropN qc s Ls (hdN told o)).1 W.gm W.dm W.L.g W.gq W.R.b (fun v => Below w1.heap.size w1 v) (fun v => Hf N w1 v W s bs Z (dropN qc s Ls (hdN told o)).2 Ls r laid told act mk) (fun v => Hf N w1 v W s bs Z (dropN qc s Ls (hdN told o)).2 (dropN qc s Ls (hdN told o)).2 r laid told act mk) (by rw [<- hw1] at HC ⊢; exact HC) P0s P0c hc hc d5 hg edm (fun v b => (hs v b).prog hg fun bs' Z' z' q => leaveC q _ hH) (fun v P1 => P1.docu fun bs' Z' W2 z' eb ed eh ew D => ?_)).mono fun e w' ⟨e1,H2⟩ => ⟨e1,fin (h1.end_ H2 (by have:=h.al; omega) h.ab fun _ => rfl)⟩
  exact D.leaveD (dm:=d) (ed.trans edm) _
 by_cases d6:o.dO = 6
 ·refine (armHit w W.b o (hdN told o) (hitR s Ls (hdN told o)) W.gm W.dm W.L.g W.gq W.R.b (fun v => Below w1.heap.size w1 v) (fun v => Hf N w1 v W s bs Z Ls Ls r laid told act (hitM s Ls mk (hdN told o))) (fun v => Hf N w1 v W s bs Z Ls Ls r laid told (hitA s Ls act (hdN told o)) (hitM s Ls mk (hdN told o))) (by rw [<- hw1] at HC ⊢; exact HC) P0s P0c hc hc d6 hg edm (fun v b => (hs v b).prog hg fun bs' Z' z' q => hitC q _ hH) (fun v P1 => P1.docu fun bs' Z' W2 z' eb ed eh ew D => ?_)).mono fun e w' ⟨e1,H2⟩ => ⟨e1,fin (h1.end_ H2 ?_ ?_ ?_)⟩
  ·exact D.hitD (dm:=d) (ed.trans edm) _ (by have:=h.al; omega)
  ·unfold hitA
   have:=h.al
   have:=actN_len (hdN told o) true act
   split <;> omega
  ·intro K hK
   unfold hitA hitM
   split
   ·exact h.ab K hK
   ·exact ab_on _ _ (h.ab K hK)
  ·intro K
   unfold hitM
   split
   ·rfl
   ·exact mk_div _ _ _ _
 have d7:o.dO = 7:=by omega
 have q:=h.wat.q.ql
 have tot:=QL.tot q h.laid_ o.c
 have phi:=phi_two Ls mk o.c
 have la:=h.la
 obtain ⟨k1,k2,k3,k4,k5⟩:=bal_phi okc g h.sh o.b.toNat Ls mk (x:=o.c) q
 have eB:balN s Z W.hot W.warm o.c (bndN o.b).toNat Ls mk = balN s Z W.hot W.warm o.c o.b.toNat Ls mk:=by
  unfold bndN
  split
  ·rfl
  ·exact (k5 (by omega)).2 _ (by omega)
 obtain ⟨e1,e2,e3,e4⟩:=bal_both okc g h.sh (bndN o.b).toNat Ls mk act (x:=o.c) q h.ab
 rw [eB] at e1 e2 e3
 have hbd:bndN o.b <= 2000:=by unfold bndN; split <;> omega
 refine (armBalance w W.b o (hdN told o) (balN s Z W.hot W.warm o.c o.b.toNat Ls mk).1.length W.gm W.dm W.L.g W.gq W.R.b (fun v => Below w1.heap.size w1 v) (fun v => Hf N w1 v W s bs Z (balN s Z W.hot W.warm o.c o.b.toNat Ls mk).2.1 Ls r laid told act (balN s Z W.hot W.warm o.c o.b.toNat Ls mk).2.2) (fun v => Hf N w1 v W s bs Z (balN s Z W.hot W.warm o.c o.b.toNat Ls mk).2.1 (balN s Z W.hot W.warm o.c o.b.toNat Ls mk).2.1 r laid told (dbalN s W.hot W.warm o.c (bndN o.b).toNat Ls act).2.2 (balN s Z W.hot W.warm o.c o.b.toNat Ls mk).2.2) (by rw [<- hw1] at HC ⊢; exact HC) P0s P0c hc hc d7 hg edm (bndN o.b) (fun v => boundedC v _) (fun v b => (hs v b).prog hg fun bs' Z' z' q => ?_) (fun v P1 => (P1.docu (X:=fun e => ∃ A cp,e = .returned (.slice A (balN s Z W.hot W.warm o.c o.b.toNat Ls mk).1.length cp)) fun bs' Z' W2 z' eb ed eh ew D => ?_))).mono fun e w' ⟨e1,H2⟩ => ⟨e1,fin (h1.end_ H2 ?_ e3 k4)⟩
 ·have:=balanceC q h.sh o.c o.b ok.b
  rwa [balN_nxt z'] at this
 ·have:=D.balanceD (dm:=d) (ed.trans edm) (by rw [eh,ew]; exact h.sh) o.c (bndN o.b) hbd
  rw [eh,ew,e1,e2] at this
  exact this.mono fun e w' ⟨A,cp,e1,_,G⟩ => ⟨⟨A,cp,e1⟩,G⟩
 ·have:=h.al
  omega
end
def OCells (w:World) (b o:Nat) (p:Op6):Prop:=w.cell? ⟨b,o,none⟩ = some (.int .i64 p.dO) /\ w.cell? ⟨b,o + 1,none⟩ = some (.int .i64 p.a) /\ w.cell? ⟨b,o + 2,none⟩ = some (.int .i64 p.b) /\
 w.cell? ⟨b,o + 3,none⟩ = some (.int .i64 p.c) /\ w.cell? ⟨b,o + 4,none⟩ = some (.int .u64 (p.h:Int)) /\ w.cell? ⟨b,o + 5,none⟩ = some (.bool p.raw)
def ORow (W:World) (a0:Option Addr) (k:Nat) (p:Op6):Prop:=∃ b off,a0 = some (⟨b,off,none⟩:Addr) /\ b < W.heap.size /\ p.Ok /\ OCells W b (off + k * 6) p
theorem OCells.below {W w:World} {B b o:Nat} {p:Op6} (h:OCells W b o p) (k:Below B W w) (hb:b < B):OCells w b o p :=
 ⟨(k.cell (p:=⟨b,o,none⟩) hb).trans h.1,(k.cell (p:=⟨b,o + 1,none⟩) hb).trans h.2.1,(k.cell (p:=⟨b,o + 2,none⟩) hb).trans h.2.2.1,(k.cell (p:=⟨b,o + 3,none⟩) hb).trans h.2.2.2.1,(k.cell (p:=⟨b,o + 4,none⟩) hb).trans h.2.2.2.2.1,(k.cell (p:=⟨b,o + 5,none⟩) hb).trans h.2.2.2.2.2⟩
theorem LI.new {w:World} {N:Nat} {W:W6} (h:WAt N w W qc (new0 qc.cf) (List.replicate (qc.cf.ps * qc.cf.np) 0) (fun _ => none) (fun _ _ => []) (fun _ _ => []) rnew0 [] [] [] (fun _ => 0)) (dm:∃ d,W.dm = some d) (sh:Shr W.hot W.warm) :
  LI N w W (new0 qc.cf) (List.replicate (qc.cf.ps * qc.cf.np) 0) (fun _ => none) (fun _ _ => []) rnew0 [] [] [] (fun _ => 0) 0 :=
 ⟨h,rel_new _,fun H i x p _ => ⟨fun e => (by cases e),fun e => (by cases e)⟩,List.length_replicate,Nat.zero_le _,Nat.zero_le _,Nat.zero_le _,Nat.zero_le _,fun H e => (by cases e),fun H e => (by cases e),List.nodup_nil,fun H e => (by cases e),
  fun H e => (by unfold isN at e; simp at e),fun H e => (by unfold isN at e; simp at e),dm,sh⟩
def Goer (N:Nat) (W0:World) (b:Nat) (gm:Option Nat) (hot warm:Int) (w:World) (t:Nat):Prop:=∃ W s bs Z Ls r laid told act mk,W.b = b /\ W.gm = gm /\ W.hot = hot /\ W.warm = warm /\ Below N W0 w /\ N <= w.heap.size /\ LI N w W s bs Z Ls r laid told act mk t
theorem Goer.next {N:Nat} {W0 w w':World} {W:W6} {s:St} {bs:List UInt8} {Z:Nat -> Option Zd} {Ls:Nat -> Nat -> List Nat} {r:RS} {laid told act:List Nat} {mk:Nat -> Nat} {t t':Nat} {b:Nat} {gm:Option Nat} {hot warm:Int} (h:LI N w W s bs Z Ls r laid told act mk t) (hB:Below N W0 w)
  (e1:W.b = b) (e2:W.gm = gm) (e3:W.hot = hot) (e4:W.warm = warm) (G:Goes N w w' W s t'):Goer N W0 b gm hot warm w' t':=by
 obtain ⟨W',s',bs',Z',Ls',r',laid',told',act',mk',⟨f1,f2,f3,f4,f5⟩,G,T⟩:=G
 exact ⟨W',s',bs',Z',Ls',r',laid',told',act',mk',f1.trans e1,f2.trans e2,f4.trans e3,f5.trans e4,hB.trans (G.below h.wat.base h.wat.hN0),T.wat.hN0,T⟩
theorem begun_shr (a b:Int):Shr (hotN a:Int) (warmN a b:Int):=by
 obtain ⟨s1,s2,s3,s4⟩:=shares_in a b
 exact ⟨by omega,by omega,by omega,by omega⟩
end Go.Proofs.YtngehaiigbbknaaGreat.Que
/-
  What the arguments of the laws of the Lru are: shares, lists of operations.
-/
namespace Go.Proofs.YtngehaiigbbknaaGreat.LrArg
open Go.ChangeShapes Go.WideShapes Go.ChangeAt Go.RowKit LawFrame Go.Deep ClsArg
variable {H:Type} {enc:TypeId × Value -> H}
theorem shareArg {W:World} {v:Value} {x:DataW H × List MemPlace} {fuel:Nat} (hv:Value.okWide Tryz.prog W .any 0 38 v)
  (hf:DataW.trod enc Tryz.prog W 0 (fun _ => true) true fuel 38 v.cells.toList = some x):∃ a b:Int,v = .agg #[.int .i64 a,.int .i64 b] /\ Cls.In a /\ Cls.In b:=by
 obtain ⟨cs,rfl,hsz⟩:=okWide_struct Tryz.underlying38 hv
 obtain ⟨n,hl,hfi⟩:=struct_at Tryz.underlying38 (by kernel_rfl) (by kernel_rfl) hf
 obtain ⟨v0,y0,hc0,ht0⟩:=hfi 0 _ rfl
 obtain ⟨v1,y1,hc1,ht1⟩:=hfi 1 _ rfl
 obtain ⟨x0,e0, -,wx0⟩:=DataW.trod_int Tryz.underlying3 ht0
 obtain ⟨x1,e1, -,wx1⟩:=DataW.trod_int Tryz.underlying3 ht1
 simp only [List.cons.injEq,and_true] at e0 e1
 subst e0 e1
 refine ⟨x0,x1,?_,i64_bd wx0,i64_bd wx1⟩
 obtain ⟨lc⟩:=cs
 match lc,hl with
 | [c0,c1],_ =>
  have g:∀ {a b:Value},some a = some b -> a = b:=fun h => by injection h
  have f0:c0 = .int .i64 x0:=g hc0
  have f1:c1 = .int .i64 x1:=g hc1
  subst f0 f1
  rfl
theorem ops8_at {W:World} {fuel len cap:Nat} {A:Option Addr} {x:DataW H × List MemPlace} (h:DataW.trod enc Tryz.prog W 0 (fun _ => true) true fuel 44 [.slice A len cap] = some x) :
  ∃ l:List Que.Op6,l.length = len /\ len <= cap /\ cap <= maxLen /\ ∀ (k:Nat) (hk:k < l.length),Que.ORow W A k l[k]:=by
 obtain ⟨hl,hm,hi⟩:=fields_at Tryz.underlying44 Tryz.underlying64 (by kernel_rfl) (by kernel_rfl) (by decide) h
 obtain ⟨l,hlen,hP⟩:=list_of (fun k (p:Que.Op6) => Que.ORow W A k p) len (by
  intro k hk
  obtain ⟨b,off,n,rfl,hb,hfi⟩:=hi k hk
  obtain ⟨v0,y0,hc0,ht0⟩:=hfi 0 _ rfl
  obtain ⟨v1,y1,hc1,ht1⟩:=hfi 1 _ rfl
  obtain ⟨v2,y2,hc2,ht2⟩:=hfi 2 _ rfl
  obtain ⟨v3,y3,hc3,ht3⟩:=hfi 3 _ rfl
  obtain ⟨v4,y4,hc4,ht4⟩:=hfi 4 _ rfl
  obtain ⟨v5,y5,hc5,ht5⟩:=hfi 5 _ rfl
  obtain ⟨x0,e0, -,wx0⟩:=DataW.trod_int Tryz.underlying3 ht0
  obtain ⟨x1,e1, -,wx1⟩:=DataW.trod_int Tryz.underlying3 ht1
  obtain ⟨x2,e2, -,wx2⟩:=DataW.trod_int Tryz.underlying3 ht2
  obtain ⟨x3,e3, -,wx3⟩:=DataW.trod_int Tryz.underlying3 ht3
  obtain ⟨x4,e4, -,wx4⟩:=DataW.trod_int Tryz.underlying50 ht4
  obtain ⟨x5,e5, -⟩:=DataW.trod_bool Tryz.underlying4 ht5
  simp only [List.cons.injEq,and_true] at e0 e1 e2 e3 e4 e5
  obtain ⟨u4,e4',hu4⟩:=u64_nat wx4
  subst e4'
  subst e0 e1 e2 e3 e4 e5
  exact ⟨⟨x0,x1,x2,x3,u4,x5⟩,b,off,rfl,hb,⟨i64_bd wx0,i64_bd wx1,i64_bd wx2,i64_bd wx3,hu4⟩,hc0,hc1,hc2,hc3,hc4,hc5⟩)
 exact ⟨l,hlen,hl,hm,fun k hk => hP k hk⟩
end Go.Proofs.YtngehaiigbbknaaGreat.LrArg
/-
  The law's row: the row of a class, told by the queue.
-/
namespace Go.Proofs.YtngehaiigbbknaaGreat.Que
open Go.RowKit Base Arena Cls Itm
def accX (Ls:Nat -> Nat -> List Nat) (x:Int) (k:Nat):List Nat:=if k = 3 then [] else if k = 2 then revX Ls x 3 else if k = 1 then revX Ls x 3 ++ revX Ls x 2 else rowX Ls x
theorem accX_step (Ls:Nat -> Nat -> List Nat) (x:Int) {k:Nat} (h1 : 1 <= k) (h3:k <= 3):accX Ls x (k - 1) = accX Ls x k ++ revX Ls x (k:Int):=by
 have:k = 1 \/ k = 2 \/ k = 3:=by omega
 rcases this with rfl | rfl | rfl <;> rfl
theorem accX_le (Ls:Nat -> Nat -> List Nat) (x:Int) (k:Nat):(accX Ls x k).length <= (rowX Ls x).length:=by
 unfold accX rowX
 split
 ·simp
 split
 ·simp only [List.length_append]; omega
 split
 ·simp only [List.length_append]; omega
 ·exact Nat.le_refl _
section
variable {w:World} {L:Lay} {s:St} {bs:List UInt8} {Z:Nat -> Option Zd} {gq gl:Nat} {Ls:Nat -> Nat -> List Nat} {mk:Nat -> Nat} {g:Nat} {hot warm:Int} (h:LS w L s bs Z gq gl Ls mk g hot warm)
include h
end
theorem QI.head8 {c:Conf} {s:St} {Z:Nat -> Option Zd} {F:QN} {Ls:Nat -> Nat -> List Nat} (q:QI c s Z F Ls) (ok:c.cf.Ok) (g:Cls.Good c.cf s) {H:Nat} (hi:isN c s Z H = true) :
  ∃ z i x p,Z H = some z /\ findN c.cf s H = some (i,x,p) /\ z.st = stateN c s Z Ls H:=by
 have hi2:=hi
 unfold isN at hi2
 obtain ⟨⟨i,x,p⟩,hf⟩:=Option.isSome_iff_exists.1 (Bool.and_eq_true_iff.1 hi2).1
 obtain ⟨z,hz⟩:=Option.isSome_iff_exists.1 (Bool.and_eq_true_iff.1 hi2).2
 refine ⟨z,i,x,p,hz,hf,?_⟩
 by_cases h0:stK (clsN c s H) Ls H = 0
 ·have hz4:z = ⟨4,0,0⟩:=q.out H z ⟨i,x,p,hf⟩ hz (q.not_stK h0)
  subst hz4
  unfold stateN
  rw [if_pos h0,if_pos hi]
 ·obtain ⟨z',hz', -,h1, -, -⟩:=q.links ok g h0
  rw [hz] at hz'
  injection hz' with hz'
  subst hz'
  unfold stateN
  rw [if_neg h0]
  exact h1
theorem QI.next8 {c:Conf} {s:St} {Z:Nat -> Option Zd} {F:QN} {Ls:Nat -> Nat -> List Nat} (q:QI c s Z F Ls) (ok:c.cf.Ok) (g:Cls.Good c.cf s) {x k H:Nat} (hx:x < c.nc) (hk:k < 3) {l1 l2:List Nat} (hl:Ls x k = l1 ++ H :: l2) :
  H < 18446744073709551616 /\ nextN c s Ls H = l2.head?.getD 0 /\ decide (nextN c s Ls H ≠ 0) = decide (0 < l2.length):=by
 obtain ⟨e1,e2,e3⟩:=q.next_in ok g hx hk hl
 exact ⟨e3,e1,e2⟩
theorem stateN_cg {s:St} {Z Z':Nat -> Option Zd} {Ls:Nat -> Nat -> List Nat} {H:Nat} (h:∀ K,(Z' K).isSome = (Z K).isSome):stateN qc s Z' Ls H = stateN qc s Z Ls H:=by
 unfold stateN
 rw [isN_congr h]
section
variable {N:Nat} {w:World} {W:W6} {s:St} {bs:List UInt8} {Z:Nat -> Option Zd} {Ls:Nat -> Nat -> List Nat} {r:RS} {laid told act:List Nat} {mk:Nat -> Nat} {t:Nat} (h:LI N w W s bs Z Ls r laid told act mk t) (ht:t <= 60000) {g:Nat} (hg:W.gm = some g)
include h ht hg
theorem LI.cells8:w.cell? ⟨W.b,0,none⟩ = some (.pointer (some ⟨W.L.g,0,none⟩)) /\ w.cell? ⟨W.b,1,none⟩ = some (.pointer (some ⟨W.gq,0,none⟩)) /\ w.cell? ⟨W.b,2,none⟩ = some (.pointer (some ⟨g,0,none⟩)) /\ w.cell? ⟨W.b,4,none⟩ = some (.pointer (some ⟨W.R.b,0,none⟩)) /\ ∃ d,W.dm = some d /\ w.cell? ⟨W.b,5,none⟩ = some (.pointer (some ⟨d,0,none⟩)):=by
 have B:=h.wat.own
 unfold W6.cells at B
 rw [hg] at B
 obtain ⟨d,ed⟩:=h.dmS
 rw [ed] at B
 exact ⟨B.cell 0,B.cell 1,B.cell 2,B.cell 4,d,ed,B.cell 5⟩
theorem lengthC8 (x:Int):Calls Tryz.prog 49 #[.pointer (some ⟨W.b,0,none⟩),.int .i64 x] w fun e w' => e = .returned (.bool true) /\ Below w.heap.size w w':=by
 obtain ⟨d,ed⟩:=h.dmS
 have LC:=lenC3 (h.wat.ls hg) x
 have LD:=fun w1 (b:Below w.heap.size w w1) => ((h.below b).dx ht).lenD ed x
 have CE:=fun w1 (b:Below w.heap.size w w1) => (h.below b).cells8 ht hg
 obtain ⟨-, -,y2, -, -⟩:=h.cells8 ht hg
 generalize lenX Ls x 1 = n1 at *
 generalize lenX Ls x 2 = n2 at *
 generalize lenX Ls x 3 = n3 at *
 have e1:((n1:Int) == (n1:Int)) = true:=by simp
 have e2:((n2:Int) == (n2:Int)) = true:=by simp
 have e3:((n3:Int) == (n3:Int)) = true:=by simp
 replace LC:=Lib.hid LC
 replace LD:=Lib.hid LD
 replace CE:=Lib.hid CE
 have ed2:=Lib.hid ed
 clear h hg ed
 go_enter Tryz.func49,Tryz.ntmps49
 go_wp2_with fail
 refine LC.out.mono ?_
 rintro e w1 ⟨rfl,b1⟩
 obtain ⟨-, -, -, -,d',ed',y5⟩:=CE.out w1 b1
 obtain rfl:d = d':=by rw [ed2.out] at ed'; injection ed'
 have LD1:=Lib.hid (LD.out w1 b1)
 replace b1:=Lib.hid b1
 clear y2 LC ed'
 go_wp2_with fail
 refine LD1.out.mono ?_
 rintro e w2 ⟨rfl,b2⟩
 have b12:=Lib.hid (b1.out.trans (b2.mono b1.out.size))
 clear b1 b2 LD1
 go_wp2
 go_ret
 exact ⟨rfl,b12.out⟩
theorem LI.toldA:∃ A cp,∀ w2,Below w.heap.size w w2 -> w2.cell? ⟨W.b,6,none⟩ = some (.slice A told.length cp) /\ ∀ (i x:Nat),told[i]? = some x -> ∃ g,A = some ⟨g,0,none⟩ /\ w2.cell? ⟨g,i,none⟩ = some (.int .u64 (x:Int)) /\ x < 18446744073709551616:=by
 obtain ⟨A,cp,hv⟩:=own_is h.wat.told
 refine ⟨A,cp,fun w2 b => ?_⟩
 have h2:=h.below b
 have B:=h2.wat.own
 have own:=h2.wat.told
 unfold W6.cells at B
 rw [hv] at B own
 refine ⟨B.cell 6,fun i x hx => ?_⟩
 obtain ⟨g,c',hv2,u⟩:=own_uv own hx
 injection hv2 with e1 e2 e3
 exact ⟨g,e1,u,h.tlt x (List.mem_of_getElem? hx)⟩
set_option maxHeartbeats 1600000 in
theorem headerC8 (H:Nat) (hH:H < 18446744073709551616):Calls Tryz.prog 50 #[.pointer (some ⟨W.b,0,none⟩),.int .u64 (H:Int)] w fun e w' => e = .returned (.bool true) /\ Below w.heap.size w w':=by
 obtain ⟨Zd,ez,d6⟩:=(h.dx ht).d6
 have IC:=is6C d6 H
 rw [isN_congr ez] at IC
 obtain ⟨y0, -, -,y4,d,ed,y5⟩:=h.cells8 ht hg
 have n0:=fun w => numC6 w 0
 by_cases hi:isN qc s Z H = false
 ·rw [hi] at IC
  replace IC:=Lib.hid IC
  clear h hi y0 y5 hg ez d6
  go_enter Tryz.func50,Tryz.ntmps50
  go_wp2_with fail
  refine IC.out.mono ?_
  rintro e w' ⟨rfl,m,hw⟩
  replace hw:=Lib.hid hw
  go_wp2
  go_ret
  exact ⟨rfl,by rw [<- hw.out]; exact below_drewN (Below.refl _ _) m⟩
 ·have hi:isN qc s Z H = true:=by simpa using hi
  rw [hi] at IC
  have hq:=h.wat.q
  obtain ⟨F,S,q⟩:=hq
  obtain ⟨z,i,x,p,hz,hf,e1⟩:=q.head8 S.okc S.zs.good hi
  have C1:=fun w1 (b:Below w.heap.size w w1) => zStateYes (S.below b).zs (H:=H) hH hf
  have C2:=fun w1 (b:Below w.heap.size w w1) => marksYes ((h.below b).wat.ls hg).q ((h.below b).wat.ls hg).m hH hf hz
  have SC:∀ w1,Below w.heap.size w w1 -> Calls Tryz.prog 95 #[.pointer (some ⟨W.R.b,0,none⟩),.int .u64 (H:Int)] w1 fun e w' => e = .returned (.int .i64 (stateN qc s Z Ls H:Int)) /\ ∃ m,w1.drewN m = w':=fun w1 b => by
   obtain ⟨Zd,ez,d6⟩:=((h.below b).dx ht).d6
   have:=state6C d6 H
   rw [stateN_cg ez] at this
   exact this
  have DI:=fun w1 (b:Below w.heap.size w w1) => ((h.below b).dx ht).isD ed H
  have CE:=fun w1 (b:Below w.heap.size w w1) => (h.below b).cells8 ht hg
  obtain ⟨A,cp,TC⟩:=h.toldA ht hg
  have htl:=h.tl
  have eq0:zst (Z H) = stateN qc s Z Ls H:=by rw [hz]; exact e1
  rw [eq0] at C1
  have hm:mk H = 2 * (markN (lastN told H) / 2) + (if decide (H ∈ act) = true then 1 else 0):=by
   have h1:=h.ab H hi
   have h2:=h.mr H hi
   by_cases hA:H ∈ act
   ·rw [decide_eq_true hA,if_pos rfl]
    have:=h1.1 hA
    omega
   ·rw [decide_eq_false hA,if_neg (by decide)]
    have:¬ mk H % 2 = 1:=fun e => hA (h1.2 e)
    omega
  have ed2:=Lib.hid ed
  generalize stateN qc s Z Ls H = st at *
  generalize mk H = mH at *
  obtain ⟨aB,haB⟩:∃ aB,aB = decide (H ∈ act):=⟨_,rfl⟩
  rw [<- haB] at hm
  have DI:∀ w1,Below w.heap.size w w1 -> Calls Tryz.prog 67 #[.pointer (some ⟨d,0,none⟩),.int .u64 (H:Int)] w1 fun e w' => e = .returned (.bool aB) /\ w1 = w':=by rw [haB]; exact DI
  obtain ⟨n,hn⟩:∃ n,n = told.length:=⟨_,rfl⟩
  rw [<- hn] at TC htl
  replace IC:=Lib.hid IC
  replace C1:=Lib.hid C1
  replace C2:=Lib.hid C2
  replace SC:=Lib.hid SC
  replace DI:=Lib.hid DI
  replace CE:=Lib.hid CE
  replace TC:=Lib.hid TC
  replace hm:=Lib.hid hm
  replace hn:=Lib.hid hn
  replace haB:=Lib.hid haB
  clear h hi q S hz hf e1 eq0 y0 y5 hg ez d6 ed
  go_enter Tryz.func50,Tryz.ntmps50
  go_wp2_with fail
  refine IC.out.mono ?_
  rintro e w1 ⟨rfl,m,hw⟩
  have b1:Below w.heap.size w w1:=by rw [<- hw]; exact below_drewN (Below.refl _ _) m
  obtain ⟨y6,TT⟩:=TC.out w1 b1
  replace TT:=Lib.hid TT
  replace b1:=Lib.hid b1
  replace hw:=Lib.hid hw
  clear IC y4
  go_wp2_with fail
  go_loopw [5,6] (fun vn vi wx => ∃ i m:Nat,vi = .int .i64 (i:Int) /\ vn = .int .i64 (m:Int) /\ i <= n /\ Hid (m = lastN (told.take i) H) /\ w1 = wx) (fun _ vi _ => n - (intOf vi).toNat)
  case atStart => exact ⟨0,0,rfl,rfl,Nat.zero_le _,Lib.hid rfl,rfl⟩
  case round =>
   obtain ⟨i,m2,rfl,rfl,hi2,hl,rfl⟩:=hrel
   by_cases hin:i < n
   ·obtain ⟨x2,hx⟩:∃ x,told[i]? = some x:=⟨told[i]'(by rw [<- hn.out]; exact hin),List.getElem?_eq_getElem _⟩
    obtain ⟨g2,rfl,u, -⟩:=TT.out i x2 hx
    have k0:(0:Int) <= (i:Int):=by omega
    have k1:(i:Int) < (n:Int):=by omega
    have d1:decide ((i:Int) < (n:Int)) = true:=decide_eq_true k1
    have d1':decide (i < n) = true:=decide_eq_true hin
    have q1:IntKind.i64.wrap ((i:Int) + 1) = ((i + 1:Nat):Int):=by rw [IntWalk.i64_in _ (by omega)]; omega
    have ht2:told.take (i + 1) = told.take i ++ [x2]:=by rw [List.take_add_one,hx]; rfl
    have hln:(told.take i).length = i:=by rw [List.length_take, <- hn.out]; omega
    by_cases hxH:x2 = H
    ·have e1:((x2:Int) == (H:Int)) = true:=by rw [beq_iff_eq]; omega
     have e2:decide ((x2:Int) = (H:Int)) = true:=decide_eq_true (by omega)
     have R1:Hid (i + 1 = lastN (told.take (i + 1)) H):=Lib.hid (by rw [ht2,lastN_app,if_pos hxH,hln])
     replace hxH:=Lib.hid hxH
     replace hx:=Lib.hid hx
     clear ht2 hln hl
     go_wp2
     go_roundw
     case rel => exact ⟨i + 1,i + 1,rfl,rfl,by omega,R1,by first | rfl | trivial⟩
     case measure => simp [intOf] <;> omega
    ·have e1:((x2:Int) == (H:Int)) = false:=by rw [beq_eq_false_iff_ne]; omega
     have e2:decide ((x2:Int) = (H:Int)) = false:=decide_eq_false (by omega)
     have R1:Hid (m2 = lastN (told.take (i + 1)) H):=Lib.hid (by rw [ht2,lastN_app,if_neg hxH]; exact hl.out)
     replace hxH:=Lib.hid hxH
     replace hx:=Lib.hid hx
     clear ht2 hln hl
     go_wp2
     go_roundw
     case rel => exact ⟨i + 1,m2,rfl,rfl,by omega,R1,by first | rfl | trivial⟩
     case measure => simp [intOf] <;> omega
   ·obtain rfl:i = n:=by omega
    have d1:decide ((i:Int) < (i:Int)) = false:=by simp
    have d1':decide (i < i) = false:=by simp
    have hl2:m2 = lastN told H:=by rw [hl.out,List.take_of_length_le (by rw [<- hn.out]; exact Nat.le_refl _)]
    have hlle:m2 <= i:=by
     rw [hl2,hn.out]
     clear hl hl2 hn hm TC TT
     induction told with
     | nil => exact Nat.le_refl _
     | cons a l ih =>
      unfold lastN
      split
      ·simp only [List.length_cons]; omega
      ·split
       ·simp only [List.length_cons]; omega
       ·exact Nat.zero_le _
    have hm2:=hm.out
    rw [<- hl2] at hm2
    obtain ⟨mm,hmm⟩:∃ mm,mm = markN m2:=⟨_,rfl⟩
    have hm16:mm < 16:=by rw [hmm]; unfold markN; omega
    have MF:=marksF m2 (by omega) w1
    rw [<- hmm] at MF hm2
    obtain ⟨-, -, -, -,d',ed',y5⟩:=CE.out w1 b1.out
    obtain rfl:d = d':=by rw [ed2.out] at ed'; injection ed'
    have q2:IntKind.i64.wrap ((mm:Int) / 2 * 2) = ((2 * (mm / 2):Nat):Int):=by rw [IntWalk.i64_in _ (by omega)]; omega
    have q3:IntKind.i64.wrap (((2 * (mm / 2):Nat):Int) + 1) = ((2 * (mm / 2) + 1:Nat):Int):=by rw [IntWalk.i64_in _ (by omega)]; omega
    have DI1:=DI.out w1 b1.out
    have C11:=Lib.hid (C1.out w1 b1.out)
    have C2':=C2.out
    have SC':=SC.out
    have CE':=CE.out
    obtain ⟨y0, -, -, -, -⟩:=CE.out w1 b1.out
    generalize 2 * (mm / 2) = m3 at *
    cases aB
    all_goals
     (try simp only [Bool.false_eq_true,if_false,if_true,Nat.add_zero] at hm2)
     subst hm2
     replace MF:=Lib.hid MF
     replace DI1:=Lib.hid DI1
     replace C2':=Lib.hid C2'
     replace SC':=Lib.hid SC'
     replace CE':=Lib.hid CE'
     clear hl hl2 hm C1 C2 SC DI CE TC TT ed' hlle hmm
     go_wp2_with fail
     refine MF.out.mono ?_
     rintro e w' ⟨rfl,rfl⟩
     go_wp2_with fail
     refine DI1.out.mono ?_
     rintro e w' ⟨rfl,rfl⟩
     go_wp2_with fail
     refine C11.out.mono ?_
     rintro e w2 ⟨rfl,b2⟩
     have b12:=b1.out.trans (b2.mono b1.out.size)
     obtain ⟨y0, -, -, -, -⟩:=CE'.out w2 b12
     have C22:=Lib.hid (C2'.out w2 b12)
     replace b12:=Lib.hid b12
     clear C11 b2 MF DI1 y6
     go_wp2_with fail
     refine C22.out.mono ?_
     rintro e w3 ⟨rfl,b3⟩
     have b13:=b12.out.trans (b3.mono b12.out.size)
     obtain ⟨-, -, -,y4, -⟩:=CE'.out w3 b13
     have S3:=Lib.hid (SC'.out w3 b13)
     replace b13:=Lib.hid b13
     clear C22 b3 b12 y0
     go_wp2_with fail
     refine (n0 _).mono ?_
     rintro e w' ⟨rfl,rfl⟩
     go_wp2_with fail
     refine (n0 _).mono ?_
     rintro e w' ⟨rfl,rfl⟩
     go_wp2_with fail
     refine S3.out.mono ?_
     rintro e w5 ⟨rfl,m5,hw5⟩
     replace hw5:=Lib.hid hw5
     go_wp2
     go_ret
     exact ⟨rfl,b13.out.trans (by rw [<- hw5.out]; exact below_drewN ((Below.refl _ _).mono b13.out.size) m5)⟩
end
theorem drop_rev {l:List Nat} {j:Nat} {x:Nat} (hx:l[j]? = some x):(l.drop j).reverse = (l.drop (j + 1)).reverse ++ [x]:=by
 have hj:j < l.length:=(List.getElem?_eq_some_iff.1 hx).1
 rw [List.drop_eq_getElem_cons hj,List.reverse_cons]
 rw [List.getElem?_eq_getElem hj] at hx
 injection hx with hx
 rw [hx]
theorem acc_own {w:World} {N:Nat} {A:Option Addr} {m cp:Nat} {l:List Nat} (h:w.ownsRow N 50 1 (.slice A m cp) m (l.map uv)) {i x:Nat} (hx:l[i]? = some x):∃ g,A = some ⟨g,0,none⟩ /\ w.cell? ⟨g,i,none⟩ = some (.int .u64 (x:Int)):=by
 obtain ⟨g,c',hv,u⟩:=own_uv h hx
 injection hv with e1 e2 e3
 exact ⟨g,e1,u⟩
theorem inC8 (w:World) {N:Nat} {A:Option Addr} {cp:Nat} {l:List Nat} (own:w.ownsRow N 50 1 (.slice A l.length cp) l.length (l.map uv)) (hl:l.length <= maxLen) (H:Nat) :
  Calls Tryz.prog 136 #[.slice A l.length cp,.int .u64 (H:Int)] w fun e w' => e = .returned (.bool (decide (H ∈ l))) /\ w = w':=by
 have at_:∀ (k x:Nat),l[k]? = some x -> ∃ g,A = some ⟨g,0,none⟩ /\ w.cell? ⟨g,k,none⟩ = some (.int .u64 (x:Int)):=fun k x hx => acc_own own hx
 unfold maxLen at hl
 obtain ⟨n,hn⟩:∃ n,n = l.length:=⟨_,rfl⟩
 rw [<- hn] at hl ⊢
 replace at_:=Lib.hid at_
 replace hn:=Lib.hid hn
 clear own
 go_enter Tryz.func136,Tryz.ntmps136
 go_wp2
 go_loopw [5] (fun vi wr => ∃ k:Nat,vi = .int .i64 (k:Int) /\ k <= n /\ Hid (H ∉ l.take k) /\ w = wr) (fun vi _ => n - (intOf vi).toNat)
 case atStart => exact ⟨0,rfl,Nat.zero_le _,Lib.hid (by simp),rfl⟩
 case round =>
  obtain ⟨k,rfl,hk,hno,rfl⟩:=hrel
  by_cases hkn:k < n
  ·obtain ⟨x,hx⟩:∃ x,l[k]? = some x:=⟨l[k]'(by rw [<- hn.out]; exact hkn),List.getElem?_eq_getElem _⟩
   obtain ⟨g,rfl,cl⟩:=at_.out k x hx
   have k0:(0:Int) <= (k:Int):=by omega
   have k1:(k:Int) < (n:Int):=by omega
   have d1:decide ((k:Int) < (n:Int)) = true:=decide_eq_true k1
   have q1:IntKind.i64.wrap ((k:Int) + 1) = (k:Int) + 1:=IntWalk.i64_in _ (by omega)
   by_cases hxH:x = H
   ·have d2:((x:Int) == (H:Int)) = true:=by rw [beq_iff_eq]; omega
    have d3:decide ((x:Int) = (H:Int)) = true:=decide_eq_true (by omega)
    have hm:decide (H ∈ l) = true:=decide_eq_true (by rw [<- hxH]; exact List.mem_of_getElem? hx)
    replace hm:=Lib.hid hm
    replace hx:=Lib.hid hx
    replace hxH:=Lib.hid hxH
    go_wp2
    go_ret
    exact ⟨by rw [hm.out]; rfl,rfl⟩
   ·have d2:((x:Int) == (H:Int)) = false:=by rw [beq_eq_false_iff_ne]; omega
    have d3:decide ((x:Int) = (H:Int)) = false:=decide_eq_false (by omega)
    have hno2:H ∉ l.take (k + 1):=by
     rw [List.take_add_one,hx]
     intro e
     rcases List.mem_append.1 e with e | e
     ·exact hno.out e
     ·simp at e
      exact hxH e.symm
    replace hno2:=Lib.hid hno2
    replace hx:=Lib.hid hx
    replace hxH:=Lib.hid hxH
    clear hno
    go_wp2
    go_roundw
    case rel => exact ⟨k + 1,by simp,by omega,hno2,by first | rfl | trivial⟩
    case measure => simp [intOf] <;> omega
  ·obtain rfl:k = n:=by omega
   have d1:decide ((k:Int) < (k:Int)) = false:=by simp
   have hm:decide (H ∈ l) = false:=decide_eq_false (by
    have:=hno.out
    rw [hn.out,List.take_length] at this
    exact this)
   replace hm:=Lib.hid hm
   go_wp2
   go_ret
   exact ⟨by rw [hm.out]; rfl,rfl⟩
section
variable {N:Nat} {w:World} {W:W6} {s:St} {bs:List UInt8} {Z:Nat -> Option Zd} {Ls Ld:Nat -> Nat -> List Nat} {r:RS} {laid told act:List Nat} {mk:Nat -> Nat} (h:DX N w W s bs Z Ls Ld r laid told act mk) {dm:Nat} (ed:W.dm = some dm)
include h ed
set_option maxHeartbeats 1600000 in
theorem DX.rowD (x:Int):Calls Tryz.prog 135 #[.pointer (some ⟨dm,0,none⟩),.int .i64 x] w fun e w' => ∃ A cp,e = .returned (.slice A (rowX Ld x).length cp) /\ Below w.heap.size w w' /\ w'.ownsRow w.heap.size 50 1 (.slice A (rowX Ld x).length cp) (rowX Ld x).length ((rowX Ld x).map uv):=by
 have CE:=fun w1 (b:Below w.heap.size w w1) => ((h.below b).cA ed).1
 have AC:=fun w1 (b:Below w.heap.size w w1) (k:Int) => show Calls Tryz.prog 62 #[.pointer (some ⟨W.R.b,0,none⟩),.int .i64 x,.int .i64 k] w1 fun e w' => ∃ A cp,e = .returned (.slice A (lsN qc Ld x k).length cp) /\ Below w1.heap.size w1 w' /\ w'.ownsRow w1.heap.size 50 1 (.slice A (lsN qc Ld x k).length cp) (lsN qc Ld x k).length ((lsN qc Ld x k).map uv) from by
  obtain ⟨Zd, -,d⟩:=(h.below b).d6
  exact d.all x k
 have lb:∀ k:Int,(lsN qc Ld x k).length <= 134217729:=fun k => h.dq.lenB h.wat.okc h.wat.good x k
 have ac:=fun k => accX_le Ld x k
 have st:=fun {k:Nat} (h1 : 1 <= k) (h3:k <= 3) => accX_step Ld x h1 h3
 have a3:accX Ld x 3 = []:=rfl
 have a0:accX Ld x 0 = rowX Ld x:=rfl
 have rb:(rowX Ld x).length <= 402653187:=by
  have h1:=lb 1
  have h2:=lb 2
  have h3:=lb 3
  unfold rowX revX
  rw [List.length_append,List.length_append,List.length_reverse,List.length_reverse,List.length_reverse]
  omega
 unfold revX at st
 generalize lsN qc Ld x = LN at *
 generalize accX Ld x = AX at *
 generalize rowX Ld x = RX at *
 replace CE:=Lib.hid CE
 replace AC:=Lib.hid AC
 replace a3:=Lib.hid a3
 replace a0:=Lib.hid a0
 replace ac:=Lib.hid ac
 replace lb:=Lib.hid lb
 clear h
 go_enter Tryz.func135,Tryz.ntmps135
 go_wp2
 go_loopw [5,6] (fun vo vk wr => ∃ (k m cp:Nat) (A:Option Addr),vk = .int .i64 (k:Int) /\ k <= 3 /\ vo = .slice A m cp /\ Hid (m = (AX k).length) /\ Hid (Below w.heap.size w wr) /\ Hid (wr.ownsRow w.heap.size 50 1 (.slice A m cp) m ((AX k).map uv))) (fun _ vk _ => (intOf vk).toNat)
 case atStart => exact ⟨3,0,0,none,rfl,Nat.le_refl _,rfl,Lib.hid (by rw [a3.out]; rfl),Lib.hid (Below.refl _ _),Lib.hid (by rw [a3.out]; exact own_nil _ _ _)⟩
 case round =>
  obtain ⟨k,m,cp,A,rfl,hk3,rfl,hm,hB,ho⟩:=hrel
  by_cases hk : 1 <= k
  ·have d1:decide ((1:Int) <= (k:Int)) = true:=decide_eq_true (by omega)
   have d1':decide (1 <= k) = true:=decide_eq_true hk
   have q1:IntKind.i64.wrap ((k:Int) - 1) = ((k - 1:Nat):Int):=by rw [IntWalk.i64_in _ (by omega)]; omega
   have c1:=CE.out wr hB.out
   have hst:=st hk hk3
   have A1:=AC.out wr hB.out (k:Int)
   have lb1:=lb.out (k:Int)
   generalize LN (k:Int) = R at *
   obtain ⟨n,hn⟩:∃ n,n = R.length:=⟨_,rfl⟩
   rw [<- hn] at A1 lb1
   have q2:IntKind.i64.wrap ((n:Int) - 1) = (n:Int) - 1:=IntWalk.i64_in _ (by omega)
   replace hst:=Lib.hid hst
   replace A1:=Lib.hid A1
   replace hn:=Lib.hid hn
   go_wp2_with fail
   refine A1.out.mono ?_
   rintro e w1 ⟨Aq,cq,rfl,b1,own1⟩
   have hB1:=hB.out.trans (b1.mono hB.out.size)
   have ho1:=own_keptN ho.out fun b e => b1.block b (own_blockN ho.out e)
   have hdis:∀ b,Aq = some ⟨b,0,none⟩ -> (Value.slice A m cp).ownBlock ≠ some b:=fun b e e2 => by
    have h1:=own_base own1 (b:=b) (by rw [e]; rfl)
    have h2:=own_blockN ho.out e2
    omega
   have hbk:∀ b,Aq = some ⟨b,0,none⟩ -> b < w1.heap.size:=fun b e => own_blockN own1 (by rw [e]; rfl)
   have at_:∀ (k x:Nat),R[k]? = some x -> ∃ g,Aq = some ⟨g,0,none⟩ /\ w1.cell? ⟨g,k,none⟩ = some (.int .u64 (x:Int)):=fun k x hx => acc_own own1 hx
   have sz1:=hB1.size
   replace hB1:=Lib.hid hB1
   replace ho1:=Lib.hid ho1
   replace hdis:=Lib.hid hdis
   replace hbk:=Lib.hid hbk
   replace at_:=Lib.hid at_
   clear A1 c1 b1 own1 hB ho
   go_wp2_with fail
   go_loopw [5,8] (fun vo vi wr => ∃ (i m cp:Nat) (A:Option Addr) (v:Int),vi = .int .i64 v /\ Hid (v = (i:Int) - 1) /\ i <= n /\ vo = .slice A m cp /\ Hid (m = (AX k ++ (R.drop i).reverse).length) /\ Hid (Below w.heap.size w wr) /\ Hid (∀ g,Aq = some ⟨g,0,none⟩ -> wr.heap[g]? = w1.heap[g]? /\ (Value.slice A m cp).ownBlock ≠ some g) /\ w1.heap.size <= wr.heap.size /\ Hid (wr.ownsRow w.heap.size 50 1 (.slice A m cp) m ((AX k ++ (R.drop i).reverse).map uv))) (fun _ vi _ => (intOf vi + 1).toNat)
   case atStart => exact ⟨n,m,cp,A,_,rfl,Lib.hid rfl,Nat.le_refl _,rfl,Lib.hid (by rw [hn.out,List.drop_length]; simpa using hm.out),hB1,Lib.hid (fun g e => ⟨rfl,hdis.out g e⟩),Nat.le_refl _,by rw [hn.out,List.drop_length]; simpa using ho1⟩
   case round =>
    obtain ⟨i,m2,cp2,A2,v,rfl,hv,hi,rfl,hm2,hB2,hg2,hs2,ho2⟩:=hrel
    cases i with
    | zero =>
     obtain rfl:v = -1:=hv.out
     have hm3:Hid (m2 = (AX (k - 1)).length):=Lib.hid (by rw [hst.out]; exact hm2.out)
     have ho3:Hid (wr.ownsRow w.heap.size 50 1 (.slice A2 m2 cp2) m2 ((AX (k - 1)).map uv)):=Lib.hid (by rw [hst.out]; exact ho2.out)
     clear hm2 ho2 hg2 hst
     go_wp2
     go_roundw
     case rel => exact ⟨k - 1,m2,cp2,A2,by simp,by omega,rfl,hm3,hB2,ho3⟩
     case measure => simp [intOf] <;> omega
    | succ j =>
     obtain rfl:v = (j:Int):=by have:=hv.out; omega
     obtain ⟨y,hy⟩:∃ y,R[j]? = some y:=⟨R[j]'(by rw [<- hn.out]; omega),List.getElem?_eq_getElem _⟩
     obtain ⟨g,eg,cl⟩:=at_.out j y hy
     obtain ⟨hgw,hgd⟩:=hg2.out g eg
     have cl:=(World.cell?_of_block (a:=⟨g,j,none⟩) hgw).trans cl
     have hgl:=hbk.out g eg
     subst eg
     have i0:(0:Int) <= (j:Int):=by omega
     have i1:(j:Int) < (n:Int):=by omega
     have d2:decide ((0:Int) <= (j:Int)) = true:=decide_eq_true i0
     have q3:IntKind.i64.wrap ((j:Int) - 1) = (j:Int) - 1:=IntWalk.i64_in _ (by omega)
     have hle:m2 <= 402653187:=by
      have h1:=ac.out (k - 1)
      rw [hst.out,List.length_append] at h1
      have h2:=hm2.out
      rw [List.length_append,List.length_reverse,List.length_drop] at h2
      rw [List.length_reverse] at h1
      omega
     have sz:=hB2.out.size
     have hdr:=drop_rev hy
     replace hdr:=Lib.hid hdr
     replace hy:=Lib.hid hy
     replace hgw:=Lib.hid hgw
     go_wp2_with (at_builtin; refine wpList_app rfl _ _ _ rfl eiL w.heap.size _ _ _ rfl (ho2.out.alloc _) (wr.heap.size + 1) (some ⟨wr.heap.size,0,none⟩) 1 1 [.int .u64 (y:Int)] rfl ?c1 ?c2 ?c3 ?c4 ?c5 ?_)
     case c1 => exact reads_v wr _ _
     case c2 => intro u hu; rw [List.mem_singleton] at hu; subst hu; rfl
     case c3 => unfold maxLen; omega
     case c4 => omega
     case c5 => rw [World.size_alloc]; omega
     intro VV w6 own6 hg6 hat6
     obtain ⟨A6,cp6,rfl⟩:=own_is own6
     have b6:Below w.heap.size w w6:=(hB2.out.alloc sz _).grown hg6 (by rw [World.size_alloc]; omega) (fun j e => own_base ho2.out e)
     have sz6:wr.heap.size <= w6.heap.size:=by have:=hg6.size; rw [World.size_alloc] at this; omega
     have own6':w6.ownsRow w.heap.size 50 1 (.slice A6 (m2 + 1) cp6) (m2 + 1) ((AX k ++ (R.drop j).reverse).map uv):=by
      have:(AX k ++ (R.drop j).reverse).map uv = (AX k ++ (R.drop (j + 1)).reverse).map uv ++ [.int .u64 (y:Int)]:=by rw [hdr.out, <- List.append_assoc,List.map_append]; rfl
      rw [this]
      simpa using own6
     have hg6':∀ g',(some ⟨g,0,none⟩:Option Addr) = some ⟨g',0,none⟩ -> w6.heap[g']? = w1.heap[g']? /\ (Value.slice A6 (m2 + 1) cp6).ownBlock ≠ some g':=fun g' e => by
      have:g = g':=by injection e with e; injection e
      subst this
      refine ⟨((hg6.block g (by rw [World.size_alloc]; omega) (fun e => hgd e.symm)).trans (Below.heap_alloc _ _ _ (by omega))).trans hgw.out,fun e2 => ?_⟩
      rcases hat6 with h1 | h1
      ·rw [h1] at e2; exact hgd e2
      ·rw [h1] at e2
       injection e2 with e2
       omega
     replace own6':=Lib.hid own6'
     replace b6:=Lib.hid b6
     replace hg6':=Lib.hid hg6'
     clear own6 hg6 hat6 ho2 hB2 hg2 hgw
     go_wp2
     go_roundw
     case rel => exact ⟨j,m2 + 1,cp6,A6,_,rfl,Lib.hid rfl,by omega,rfl,Lib.hid (by rw [hdr.out, <- List.append_assoc,List.length_append, <- hm2.out]; rfl),b6,hg6',by omega,own6'⟩
     case measure => simp [intOf] <;> omega
  ·obtain rfl:k = 0:=by omega
   have d1:decide ((1:Int) <= ((0:Nat):Int)) = false:=rfl
   rw [a0.out] at hm ho
   replace d1:=Lib.hid d1
   clear hk hk3
   go_wp2
   go_ret
   exact ⟨A,cp,by rw [<- hm.out]; rfl,hB.out,by rw [<- hm.out]; exact ho.out⟩
set_option maxHeartbeats 3200000 in
theorem DX.pickD (x:Int) (own:Nat) (looks:Int) (hk:Cls.In looks) {N0:Nat} {Ad:Option Addr} {cd:Nat} {dl:List Nat} (od:w.ownsRow N0 50 1 (.slice Ad dl.length cd) dl.length (dl.map uv)) (hdl:dl.length <= maxLen) :
  Calls Tryz.prog 92 #[.pointer (some ⟨dm,0,none⟩),.int .i64 x,.int .u64 (own:Int),.int .i64 looks,.slice Ad dl.length cd] w fun e w' =>
   ∃ A cp,e = .returned (.tuple #[.int .u64 (namedN (fun y => decide (y ∈ act)) (fun y => decide (y ∈ dl)) (seenN (fun y => decide (y ∈ dl)) looks.toNat (othN own (rowX Ld x))):Int),.bool (deadN (fun y => decide (y ∈ dl)) (seenN (fun y => decide (y ∈ dl)) looks.toNat (othN own (rowX Ld x)))),.slice A (seenN (fun y => decide (y ∈ dl)) looks.toNat (othN own (rowX Ld x))).length cp]) /\ Below w.heap.size w w' /\ w'.ownsRow w.heap.size 50 1 (.slice A (seenN (fun y => decide (y ∈ dl)) looks.toNat (othN own (rowX Ld x))).length cp) (seenN (fun y => decide (y ∈ dl)) looks.toNat (othN own (rowX Ld x))).length ((seenN (fun y => decide (y ∈ dl)) looks.toNat (othN own (rowX Ld x))).map uv):=by
 have RC:=h.rowD ed x
 have IS:=fun w1 (b:Below w.heap.size w w1) (H:Nat) => (h.below b).isD ed H
 have IN:=fun w1 (b:Below w.heap.size w w1) (H:Nat) => inC8 w1 (own_keptN od fun k e => b.block k (own_blockN od e)) hdl H
 have rb:(rowX Ld x).length <= 402653187:=by
  have lb:∀ k:Int,(lsN qc Ld x k).length <= 134217729:=fun k => h.dq.lenB h.wat.okc h.wat.good x k
  have h1:=lb 1
  have h2:=lb 2
  have h3:=lb 3
  unfold rowX revX
  rw [List.length_append,List.length_append,List.length_reverse,List.length_reverse,List.length_reverse]
  omega
 obtain ⟨D,hD⟩:∃ D:Nat -> Bool,D = fun y => decide (y ∈ dl):=⟨_,rfl⟩
 have IN:∀ w1,Below w.heap.size w w1 -> ∀ H:Nat,Calls Tryz.prog 136 #[.slice Ad dl.length cd,.int .u64 (H:Int)] w1 fun e w' => e = .returned (.bool (D H)) /\ w1 = w':=by rw [hD]; exact IN
 rw [<- hD]
 obtain ⟨Ac,hAc⟩:∃ Ac:Nat -> Bool,Ac = fun y => decide (y ∈ act):=⟨_,rfl⟩
 have IS:∀ w1,Below w.heap.size w w1 -> ∀ H:Nat,Calls Tryz.prog 67 #[.pointer (some ⟨dm,0,none⟩),.int .u64 (H:Int)] w1 fun e w' => e = .returned (.bool (Ac H)) /\ w1 = w':=by rw [hAc]; exact IS
 rw [<- hAc]
 obtain ⟨row,hrow⟩:∃ row,row = rowX Ld x:=⟨_,rfl⟩
 rw [<- hrow] at RC rb ⊢
 obtain ⟨n,hn⟩:∃ n,n = row.length:=⟨_,rfl⟩
 rw [<- hn] at RC rb
 generalize dl.length = dn at *
 replace RC:=Lib.hid RC
 replace IS:=Lib.hid IS
 replace IN:=Lib.hid IN
 replace hn:=Lib.hid hn
 replace hrow:=Lib.hid hrow
 clear h ed od hdl hD hAc
 obtain ⟨sn,hsn⟩:∃ sn,sn = seenN D looks.toNat (othN own row):=⟨_,rfl⟩
 rw [<- hsn]
 replace hsn:=Lib.hid hsn
 go_enter Tryz.func92,Tryz.ntmps92
 go_wp2_with fail
 refine RC.out.mono ?_
 rintro e w1 ⟨Ar,cr,rfl,b1,own1⟩
 have at_:∀ w2,Below w1.heap.size w1 w2 -> ∀ (k x:Nat),row[k]? = some x -> ∃ g,Ar = some ⟨g,0,none⟩ /\ w2.cell? ⟨g,k,none⟩ = some (.int .u64 (x:Int)):=fun w2 b k x hx => by
  obtain ⟨g,e,u⟩:=acc_own own1 hx
  exact ⟨g,e,(b.cell (p:=⟨g,k,none⟩) (World.block_lt_of_cell? w1 _ u)).trans u⟩
 have bb:=fun w2 (b:Below w1.heap.size w1 w2) => b1.trans (b.mono b1.size)
 have s1:=b1.size
 replace at_:=Lib.hid at_
 replace bb:=Lib.hid bb
 clear b1 own1 RC
 go_wp2_with fail
 go_loopw [13,15] (fun vs vi wr => ∃ (i m cp:Nat) (A:Option Addr),vi = .int .i64 (i:Int) /\ i <= n /\ vs = .slice A m cp /\ Hid (m = (othN own (row.take i)).length) /\ Hid (m <= looks.toNat) /\ Hid (∀ y ∈ othN own (row.take i),D y = false) /\ Hid (Below w1.heap.size w1 wr) /\ Hid (wr.ownsRow w1.heap.size 50 1 (.slice A m cp) m ((othN own (row.take i)).map uv))) (fun _ vi _ => n - (intOf vi).toNat)
 case atStart => exact ⟨0,0,0,none,rfl,Nat.zero_le _,rfl,Lib.hid rfl,Lib.hid (Nat.zero_le _),Lib.hid (fun y hy => by cases hy),Lib.hid (Below.refl _ _),Lib.hid (own_nil _ _ _)⟩
 case round =>
  obtain ⟨i,m,cp,A,rfl,hi,rfl,hm,hmk,hno,hB,ho⟩:=hrel
  have hmB:m <= 402653187:=by
   have h1:=othN_len own (row.take i)
   rw [List.length_take] at h1
   have h2:=hm.out
   omega
  by_cases hgo:i < n /\ (m:Int) < looks
  ·obtain ⟨hin,hml⟩:=hgo
   have hml2:m < looks.toNat:=by omega
   have d1:decide ((i:Int) < (n:Int)) = true:=decide_eq_true (by omega)
   have d1':decide (i < n) = true:=decide_eq_true hin
   have d2:decide ((m:Int) < looks) = true:=decide_eq_true hml
   have q1:IntKind.i64.wrap ((i:Int) + 1) = (i:Int) + 1:=IntWalk.i64_in _ (by omega)
   obtain ⟨y,hy⟩:∃ y,row[i]? = some y:=⟨row[i]'(by rw [<- hn.out]; exact hin),List.getElem?_eq_getElem _⟩
   obtain ⟨g,rfl,cl⟩:=at_.out wr hB.out i y hy
   have i0:(0:Int) <= (i:Int):=by omega
   have i1:(i:Int) < (n:Int):=by omega
   have ht:row.take (i + 1) = row.take i ++ [y]:=by rw [List.take_add_one,hy]; rfl
   have hrs:row = row.take i ++ [y] ++ row.drop (i + 1):=by rw [<- ht,List.take_append_drop]
   by_cases hyo:y = own
   ·have e1:((y:Int) == (own:Int)) = true:=by rw [beq_iff_eq]; omega
    have e2:decide ((y:Int) = (own:Int)) = true:=decide_eq_true (by omega)
    have e3:othN own (row.take (i + 1)) = othN own (row.take i):=by rw [ht]; exact othN_own own _ y hyo
    have R1:Hid (m = (othN own (row.take (i + 1))).length):=Lib.hid (by rw [e3]; exact hm.out)
    have R2:Hid (∀ y ∈ othN own (row.take (i + 1)),D y = false):=Lib.hid (by rw [e3]; exact hno.out)
    have R3:Hid (wr.ownsRow w1.heap.size 50 1 (.slice A m cp) m ((othN own (row.take (i + 1))).map uv)):=Lib.hid (by rw [e3]; exact ho.out)
    replace hyo:=Lib.hid hyo
    replace hy:=Lib.hid hy
    clear ht hrs e3 hm hno ho
    go_wp2
    go_roundw
    case rel => exact ⟨i + 1,m,cp,A,by simp,by omega,rfl,R1,hmk,R2,hB,R3⟩
    case measure => simp [intOf] <;> omega
   ·have e1:((y:Int) == (own:Int)) = false:=by rw [beq_eq_false_iff_ne]; omega
    have e2:decide ((y:Int) = (own:Int)) = false:=decide_eq_false (by omega)
    have e3:othN own (row.take (i + 1)) = othN own (row.take i) ++ [y]:=by rw [ht]; exact othN_new own _ y hyo
    have sz:=hB.out.size
    have hdead:D y = true -> sn = othN own (row.take i) ++ [y]:=fun hd => by
     rw [hsn.out]
     have:=seenN_dead (l:=row.drop (i + 1)) (k:=looks.toNat) ⟨hno.out,by rw [<- hm.out]; exact hml2⟩ hyo hd
     rwa [<- hrs] at this
    replace hyo:=Lib.hid hyo
    replace hy:=Lib.hid hy
    replace e3:=Lib.hid e3
    replace ht:=Lib.hid ht
    replace hrs:=Lib.hid hrs
    replace hdead:=Lib.hid hdead
    go_wp2_with (at_builtin; refine wpList_app rfl _ _ _ rfl eiL w1.heap.size _ _ _ rfl (ho.out.alloc _) (wr.heap.size + 1) (some ⟨wr.heap.size,0,none⟩) 1 1 [.int .u64 (y:Int)] rfl ?c1 ?c2 ?c3 ?c4 ?c5 ?_)
    case c1 => exact reads_v wr _ _
    case c2 => intro u hu; rw [List.mem_singleton] at hu; subst hu; rfl
    case c3 => unfold maxLen; omega
    case c4 => omega
    case c5 => rw [World.size_alloc]; omega
    intro VV w6 own6 hg6 hat6
    obtain ⟨A6,cp6,rfl⟩:=own_is own6
    have b6:Below w1.heap.size w1 w6:=(hB.out.alloc sz _).grown hg6 (by rw [World.size_alloc]; omega) (fun j e => own_base ho.out e)
    have own6':w6.ownsRow w1.heap.size 50 1 (.slice A6 (m + 1) cp6) (m + 1) ((othN own (row.take i) ++ [y]).map uv):=by rw [List.map_append]; exact own6
    obtain ⟨g',eg',cl⟩:=at_.out w6 b6 i y hy.out
    obtain rfl:g = g':=by injection eg' with e; injection e
    have I6:=Lib.hid (IN.out w6 (bb.out w6 b6) y)
    replace own6':=Lib.hid own6'
    replace b6:=Lib.hid b6
    clear own6 hg6 hat6 ho hB eg'
    go_wp2_with fail
    refine I6.out.mono ?_
    rintro e w7 ⟨rfl,rfl⟩
    cases hDy:D y with
    | true =>
     have es:=hdead.out hDy
     have hnd:=namedN_dead (A:=Ac) (D:=D) (l:=othN own (row.take i)) hDy
     rw [<- es] at hnd own6'
     have el:m + 1 = sn.length:=by rw [es,List.length_append, <- hm.out]; rfl
     replace hnd:=Lib.hid hnd
     replace el:=Lib.hid el
     clear I6 es
     go_wp2
     go_ret3
     refine ⟨A6,cp6,?_,bb.out _ b6.out,?_⟩
     ·rw [hnd.out.1,hnd.out.2, <- el.out]; rfl
     ·rw [<- el.out]; exact own_weak own6'.out s1
    | false =>
     have R1:Hid (m + 1 = (othN own (row.take (i + 1))).length):=Lib.hid (by rw [e3.out,List.length_append, <- hm.out]; rfl)
     have R2:Hid (∀ y ∈ othN own (row.take (i + 1)),D y = false):=Lib.hid (by
      rw [e3.out]
      intro z hz
      rcases List.mem_append.1 hz with hz | hz
      ·exact hno.out z hz
      ·rw [List.mem_singleton] at hz
       rw [hz]; exact hDy)
     have R3:Hid (w6.ownsRow w1.heap.size 50 1 (.slice A6 (m + 1) cp6) (m + 1) ((othN own (row.take (i + 1))).map uv)):=Lib.hid (by rw [e3.out]; exact own6'.out)
     have R4:Hid (m + 1 <= looks.toNat):=Lib.hid hml2
     replace hDy:=Lib.hid hDy
     clear I6 own6' hm hno hmk
     go_wp2
     go_roundw
     case rel => exact ⟨i + 1,m + 1,cp6,A6,by simp,by omega,rfl,R1,R4,R2,b6,R3⟩
     case measure => simp [intOf] <;> omega
  ·have es:sn = othN own (row.take i):=by
    rw [hsn.out]
    have h1:row = row.take i ++ row.drop i:=(List.take_append_drop i row).symm
    have h2:=hm.out
    have h3:=hmk.out
    by_cases hin:i < n
    ·have:m = looks.toNat:=by
      have:¬ (m:Int) < looks:=fun e => hgo ⟨hin,e⟩
      omega
     conv => lhs; rw [h1]
     exact seenN_full hno.out (by omega)
    ·have h4:row.take i = row:=List.take_of_length_le (by rw [<- hn.out]; omega)
     rw [h4] at h2 ⊢
     have:=seenN_app (k:=looks.toNat) [] (by rw [h4] at hno; exact hno.out) (by omega)
     rw [List.append_nil] at this
     rw [this]
     cases hz:looks.toNat - (othN own row).length <;> simp [seenN]
   have nd:∀ y ∈ sn,D y = false:=by rw [es]; exact hno.out
   obtain ⟨hn1,hn2⟩:=namedN_no (A:=Ac) (D:=D) nd
   rw [<- es] at ho
   have el:m = sn.length:=by rw [es]; exact hm.out
   have tst:(decide ((i:Int) < (n:Int)) = true /\ decide (i < n) = true /\ decide ((m:Int) < looks) = false) \/ (decide ((i:Int) < (n:Int)) = false /\ decide (i < n) = false):=by
    by_cases hin:i < n
    ·exact .inl ⟨decide_eq_true (by omega),decide_eq_true hin,decide_eq_false fun e => hgo ⟨hin,e⟩⟩
    ·exact .inr ⟨decide_eq_false (by omega),decide_eq_false hin⟩
   have goal2:∀ (k:Nat) (z:Nat),sn[k]? = some z -> (∀ y ∈ sn.take k,Ac y = true) -> Ac z = false -> namedN Ac D sn = z:=fun k z hz h1 h2 => by
    rw [hn1]
    unfold calmN
    have hs:sn = sn.take k ++ z :: sn.drop (k + 1):=by
     have hkl:=(List.getElem?_eq_some_iff.1 hz).1
     have:sn.take (k + 1) = sn.take k ++ [z]:=by rw [List.take_add_one,hz]; rfl
     have h3:=List.take_append_drop (k + 1) sn
     rw [this] at h3
     rw [List.append_assoc] at h3
     exact h3.symm
    rw [hs,List.find?_append]
    have:(sn.take k).find? (fun y => !Ac y) = none:=by
     rw [List.find?_eq_none]
     intro y hy
     simp [h1 y hy]
    rw [this]
    simp [List.find?,h2]
   have goal3:(∀ y ∈ sn,Ac y = true) -> namedN Ac D sn = sn.head?.getD 0:=fun h1 => by
    rw [hn1]
    unfold calmN
    have:sn.find? (fun y => !Ac y) = none:=by
     rw [List.find?_eq_none]
     intro y hy
     simp [h1 y hy]
    rw [this]
    rfl
   have FIN:Hid (∀ v,Int.ofNat v = Int.ofNat (namedN Ac D sn) -> ∀ w9,Below w1.heap.size w1 w9 -> w9.ownsRow w1.heap.size 50 1 (.slice A m cp) m (sn.map uv) -> ∃ A' cp',Ending.returned (.tuple #[.int .u64 (v:Int),.bool false,.slice A m cp]) = .returned (.tuple #[.int .u64 (namedN Ac D sn:Int),.bool (deadN D sn),.slice A' sn.length cp']) /\ Below w.heap.size w w9 /\ w9.ownsRow w.heap.size 50 1 (.slice A' sn.length cp') sn.length (sn.map uv)):=Lib.hid (fun v ev w9 b9 o9 => by
    refine ⟨A,cp,?_,bb.out _ b9,?_⟩
    ·rw [hn2, <- el]
     have:v = namedN Ac D sn:=Int.ofNat.inj ev
     rw [this]
    ·rw [<- el]; exact own_weak o9 s1)
   replace goal2:=Lib.hid goal2
   replace goal3:=Lib.hid goal3
   replace es:=Lib.hid es
   replace nd:=Lib.hid nd
   replace el:=Lib.hid el
   replace hn2:=Lib.hid hn2
   replace hsn2:=Lib.hid hsn.out
   clear hn1 hm hno hmk hgo
   have at2:∀ (k z:Nat),sn[k]? = some z -> ∃ g,A = some ⟨g,0,none⟩ /\ wr.cell? ⟨g,k,none⟩ = some (.int .u64 (z:Int)):=fun k z hz => acc_own ho.out hz
   have IS2:=Lib.hid (fun H => IS.out wr (bb.out wr hB.out) H)
   have FZ:Hid (m = 0 -> ∃ A' cp',Ending.returned (.tuple #[.int .u64 0,.bool false,.slice none 0 0]) = .returned (.tuple #[.int .u64 (namedN Ac D sn:Int),.bool (deadN D sn),.slice A' sn.length cp']) /\ Below w.heap.size w wr /\ wr.ownsRow w.heap.size 50 1 (.slice A' sn.length cp') sn.length (sn.map uv)):=Lib.hid (fun hm0 => by
    have e0:sn = []:=List.eq_nil_of_length_eq_zero (by rw [<- el.out]; exact hm0)
    refine ⟨none,0,?_,bb.out _ hB.out,?_⟩
    ·rw [hn2.out,e0]; rfl
    ·rw [e0]; exact own_nil _ _ _)
   replace at2:=Lib.hid at2
   replace FIN:=Lib.hid (fun v e => FIN.out v e wr hB.out ho.out)
   clear at_ bb IS IN ho hB
   rcases tst with ⟨t1,t2,t3⟩ | ⟨t1,t2⟩
   all_goals
    go_wp2_with fail
    go_loopw [16] (fun vi wx => ∃ k:Nat,vi = .int .i64 (k:Int) /\ k <= m /\ Hid (∀ y ∈ sn.take k,Ac y = true) /\ wr = wx) (fun vi _ => m - (intOf vi).toNat)
    case atStart => exact ⟨0,rfl,Nat.zero_le _,Lib.hid (by simp),rfl⟩
    case round =>
     obtain ⟨k,rfl,hkm,ha,rfl⟩:=hrel
     by_cases hk2:k < m
     ·obtain ⟨z,hz⟩:∃ z,sn[k]? = some z:=⟨sn[k]'(by rw [<- el.out]; exact hk2),List.getElem?_eq_getElem _⟩
      obtain ⟨g,rfl,cl⟩:=at2.out k z hz
      have k0:(0:Int) <= (k:Int):=by omega
      have k1:(k:Int) < (m:Int):=by omega
      have s1:decide ((k:Int) < (m:Int)) = true:=decide_eq_true k1
      have s2:decide (k < m) = true:=decide_eq_true hk2
      have q1:IntKind.i64.wrap ((k:Int) + 1) = (k:Int) + 1:=IntWalk.i64_in _ (by omega)
      have I1:=IS2.out z
      cases hAz:Ac z with
      | true =>
       rw [hAz] at I1
       have ha2:Hid (∀ y ∈ sn.take (k + 1),Ac y = true):=Lib.hid (fun y hy => by
        rw [List.take_add_one,hz] at hy
        rcases List.mem_append.1 hy with hy | hy
        ·exact ha.out y hy
        ·simp at hy
         rw [hy]; exact hAz)
       replace I1:=Lib.hid I1
       replace hz:=Lib.hid hz
       replace hAz:=Lib.hid hAz
       clear ha
       go_wp2_with fail
       refine I1.out.mono ?_
       rintro e w7 ⟨rfl,rfl⟩
       go_wp2
       go_roundw
       case rel => exact ⟨k + 1,by simp,by omega,ha2,by first | rfl | trivial⟩
       case measure => simp [intOf] <;> omega
      | false =>
       rw [hAz] at I1
       have T:=Lib.hid (FIN.out z (by rw [goal2.out k z hz ha.out hAz]))
       replace I1:=Lib.hid I1
       replace hz:=Lib.hid hz
       replace hAz:=Lib.hid hAz
       clear ha
       go_wp2_with fail
       refine I1.out.mono ?_
       rintro e w7 ⟨rfl,rfl⟩
       go_wp2
       go_ret3
       exact T.out
     ·obtain rfl:k = m:=by omega
      have s1:decide ((k:Int) < (k:Int)) = false:=by simp
      have s2:decide (k < k) = false:=by simp
      have ha2:∀ y ∈ sn,Ac y = true:=by
       have:=ha.out
       rw [List.take_of_length_le (by rw [<- el.out]; exact Nat.le_refl _)] at this
       exact this
      have g3:=goal3.out ha2
      rcases Nat.eq_zero_or_pos k with hk0 | hk0
      ·have T:=Lib.hid (FZ.out hk0)
       subst hk0
       have u1:decide ((0:Int) < ((0:Nat):Int)) = false:=rfl
       replace g3:=Lib.hid g3
       replace ha2:=Lib.hid ha2
       clear ha hkm hk2
       go_wp2
       go_ret3
       exact T.out
      ·obtain ⟨z,hz⟩:∃ z,sn[0]? = some z:=⟨sn[0]'(by rw [<- el.out]; exact hk0),List.getElem?_eq_getElem _⟩
       obtain ⟨g,rfl,cl⟩:=at2.out 0 z hz
       have u1:decide ((0:Int) < (k:Int)) = true:=decide_eq_true (by omega)
       have u2:decide (0 < k) = true:=decide_eq_true hk0
       have k1:(0:Int) < (k:Int):=by omega
       have T:=Lib.hid (FIN.out z (by
        rw [g3,List.head?_eq_getElem?,hz]; rfl))
       replace g3:=Lib.hid g3
       replace ha2:=Lib.hid ha2
       replace hz:=Lib.hid hz
       clear ha hkm hk2
       go_wp2
       go_ret3
       exact T.out
end
structure KB (P:World -> Prop) (gq:Nat) (x k:Int) (R:List Nat):Prop where
 small:R.length <= 134217729
 hc:∀ w,P w -> Calls Tryz.prog 63 #[.pointer (some ⟨gq,0,none⟩),.int .i64 x,.int .i64 k] w fun e w' => e = .returned (.tuple #[.int .u64 (R.head?.getD 0:Int),.bool (decide (0 < R.length))]) /\ w = w'
 bc:∀ w,P w -> ∀ (l1:List Nat) (y:Nat) (l2:List Nat),R = l1 ++ y :: l2 -> y < 18446744073709551616 /\ Calls Tryz.prog 64 #[.pointer (some ⟨gq,0,none⟩),.int .u64 (y:Int)] w fun e w' => e = .returned (.tuple #[.int .u64 (l2.head?.getD 0:Int),.bool (decide (0 < l2.length))]) /\ Below w.heap.size w w'
theorem KB.of {P:World -> Prop} {L:Lay} {s:St} {bs:List UInt8} {Z:Nat -> Option Zd} {gq gl:Nat} {Ls:Nat -> Nat -> List Nat} {w0:World} (h:QW w0 L qc s bs Z gq gl Ls) (hP:∀ w,P w -> QW w L qc s bs Z gq gl Ls) (x k:Int):KB P gq x k (lsN qc Ls x k):=by
 refine ⟨?_,fun w p => headC (hP w p) x k,fun w p l1 y l2 hl => ?_⟩
 ·unfold lsN
  split
  ·rename_i hv
   obtain ⟨F,S1,q⟩:=h
   rw [<- q.n _ _ (by omega) (by omega)]
   exact q.nB S1.okc S1.zs.good (by omega) (by omega)
  ·simp
 ·have Q:=hP w p
  have Q':=Q
  obtain ⟨F,S1,q⟩:=Q'
  unfold lsN at hl
  split at hl
  ·rename_i hv
   obtain ⟨e3,e1,e2⟩:=q.next8 S1.okc S1.zs.good (by omega) (by omega) hl
   have:=behindC Q y e3
   rw [e2,e1] at this
   exact ⟨e3,this⟩
  ·simp at hl
section
variable {N:Nat} {w:World} {W:W6} {s:St} {bs:List UInt8} {Z:Nat -> Option Zd} {Ls:Nat -> Nat -> List Nat} {r:RS} {laid told act:List Nat} {mk:Nat -> Nat} {t:Nat} (h:LI N w W s bs Z Ls r laid told act mk t) (ht:t <= 60000) {g:Nat} (hg:W.gm = some g)
include h ht hg
set_option maxHeartbeats 3200000 in
theorem queuesC8:Calls Tryz.prog 27 #[.pointer (some ⟨W.b,0,none⟩)] w fun e w' => e = .returned (.bool true) /\ Below w.heap.size w w':=by
 have LC:=fun w2 (b:Below w.heap.size w w2) x => lengthC8 (h.below b) ht hg x
 have CE:=fun w2 (b:Below w.heap.size w w2) => (h.below b).cells8 ht hg
 have AC:∀ w2,Below w.heap.size w w2 -> ∀ x k:Int,Calls Tryz.prog 62 #[.pointer (some ⟨W.R.b,0,none⟩),.int .i64 x,.int .i64 k] w2 fun e w' => ∃ A cp,e = .returned (.slice A (lsN qc Ls x k).length cp) /\ Below w2.heap.size w2 w' /\ w'.ownsRow w2.heap.size 50 1 (.slice A (lsN qc Ls x k).length cp) (lsN qc Ls x k).length ((lsN qc Ls x k).map uv):=fun w2 b x k => by
  obtain ⟨Zd, -,d⟩:=((h.below b).dx ht).d6
  exact d.all x k
 have KK:=fun x k:Int => KB.of (P:=fun w2 => Below w.heap.size w w2) h.wat.q (fun w2 b => (h.below b).wat.q) x k
 generalize lsN qc Ls = LN at *
 replace LC:=Lib.hid LC
 replace CE:=Lib.hid CE
 replace AC:=Lib.hid AC
 replace KK:=Lib.hid KK
 clear h hg
 go_enter Tryz.func27,Tryz.ntmps27
 go_wp2
 go_loopw [3] (fun v wr => ∃ c:Nat,v = .int .i64 (c:Int) /\ c <= 3 /\ Hid (Below w.heap.size w wr)) (fun v _ => 3 - (intOf v).toNat)
 case atStart => exact ⟨0,rfl,by omega,Lib.hid (Below.refl _ _)⟩
 case round =>
  obtain ⟨c,rfl,hc,hB⟩:=hrel
  by_cases hc3:c < 3
  ·have d1:decide ((c:Int) < 3) = true:=decide_eq_true (by omega)
   have d1':decide (c < 3) = true:=decide_eq_true hc3
   have q1:IntKind.i64.wrap ((c:Int) + 1) = ((c + 1:Nat):Int):=by rw [IntWalk.i64_in _ (by omega)]; omega
   go_wp2_with fail
   refine (LC.out _ hB.out (c:Int)).mono ?_
   rintro e w1 ⟨rfl,b1⟩
   have hB1:=Lib.hid (hB.out.trans (b1.mono hB.out.size))
   clear b1 hB
   go_wp2_with fail
   go_loopw [4] (fun v wr => ∃ k:Nat,v = .int .i64 (k:Int) /\ 1 <= k /\ k <= 4 /\ Hid (Below w.heap.size w wr)) (fun v _ => 4 - (intOf v).toNat)
   case atStart => exact ⟨1,rfl,by omega,by omega,hB1⟩
   case round =>
    obtain ⟨k,rfl,hk1,hk4,hB⟩:=hrel
    by_cases hk:k <= 3
    ·have d2:decide ((k:Int) <= 3) = true:=decide_eq_true (by omega)
     have d2':decide (k <= 3) = true:=decide_eq_true hk
     have q2:IntKind.i64.wrap ((k:Int) + 1) = ((k + 1:Nat):Int):=by rw [IntWalk.i64_in _ (by omega)]; omega
     have A1:=AC.out _ hB.out (c:Int) (k:Int)
     have K1:=KK.out (c:Int) (k:Int)
     obtain ⟨-, -, -,y4, -⟩:=CE.out _ hB.out
     generalize LN (c:Int) (k:Int) = R at *
     have sm:=K1.small
     obtain ⟨n,hn⟩:∃ n,n = R.length:=⟨_,rfl⟩
     rw [<- hn] at A1 sm
     replace A1:=Lib.hid A1
     replace K1:=Lib.hid K1
     replace hn:=Lib.hid hn
     go_wp2_with fail
     refine A1.out.mono ?_
     rintro e w2 ⟨A,cp,rfl,b2,own2⟩
     have hB2:=hB.out.trans (b2.mono hB.out.size)
     obtain ⟨-,y1, -, -, -⟩:=CE.out _ hB2
     have H1:=K1.out.hc w2 hB2
     have at_:∀ w3,Below w2.heap.size w2 w3 -> ∀ (i x:Nat),R[i]? = some x -> ∃ g,A = some ⟨g,0,none⟩ /\ w3.cell? ⟨g,i,none⟩ = some (.int .u64 (x:Int)):=fun w3 b i x hx => by
      obtain ⟨g,e,u⟩:=acc_own own2 hx
      exact ⟨g,e,(b.cell (p:=⟨g,i,none⟩) (World.block_lt_of_cell? w2 _ u)).trans u⟩
     replace hB2:=Lib.hid hB2
     replace H1:=Lib.hid H1
     replace at_:=Lib.hid at_
     clear A1 b2 own2 y4 hB
     go_wp2_with fail
     refine H1.out.mono ?_
     rintro e w' ⟨rfl,rfl⟩
     clear H1
     go_wp2_with fail
     go_loopw [6,7,8] (fun vh vo vi wr => ∃ (l1 l2:List Nat),vh = .int .u64 (l2.head?.getD 0:Int) /\ vo = .bool (decide (0 < l2.length)) /\ vi = .int .i64 (l1.length:Int) /\ Hid (R = l1 ++ l2) /\ Hid (Below w2.heap.size w2 wr)) (fun _ _ vi _ => n - (intOf vi).toNat)
     case atStart => exact ⟨[],R,rfl,rfl,rfl,Lib.hid rfl,Lib.hid (Below.refl _ _)⟩
     case round =>
      obtain ⟨l1,l2,rfl,rfl,rfl,hR,hB3⟩:=hrel
      have hlen:n = l1.length + l2.length:=by rw [hn.out,hR.out,List.length_append]
      cases l2 with
      | nil =>
       have e1:decide (0 < ([]:List Nat).length) = false:=rfl
       have d3:decide ((l1.length:Int) < (n:Int)) = false:=decide_eq_false (by rw [hlen]; simp)
       have d3':decide (l1.length < n) = false:=decide_eq_false (by rw [hlen]; simp)
       have hBf:=Lib.hid (hB2.out.trans (hB3.out.mono hB2.out.size))
       rw [e1]
       replace hlen:=Lib.hid hlen
       clear hB3
       go_wp2
       go_roundw
       case rel => exact ⟨k + 1,by simp,by omega,by omega,hBf⟩
       case measure => simp [intOf] <;> omega
      | cons y l2 =>
       have e1:decide (0 < (y :: l2).length) = true:=rfl
       have e0:((y :: l2).head?.getD 0) = y:=rfl
       rw [e1,e0]
       rw [List.length_cons] at hlen
       obtain ⟨g2,rfl,u⟩:=at_.out _ hB3.out l1.length y (by rw [hR.out]; simp)
       obtain ⟨hyl,BC⟩:=K1.out.bc _ (hB2.out.trans (hB3.out.mono hB2.out.size)) l1 y l2 hR.out
       obtain ⟨-,y1', -, -, -⟩:=CE.out _ (hB2.out.trans (hB3.out.mono hB2.out.size))
       obtain ⟨i,hi⟩:∃ i,i = l1.length:=⟨_,rfl⟩
       rw [<- hi] at u hlen ⊢
       have k0:(0:Int) <= (i:Int):=by omega
       have k1:(i:Int) < (n:Int):=by omega
       have d3:decide ((i:Int) < (n:Int)) = true:=decide_eq_true k1
       have d3':decide (i < n) = true:=decide_eq_true (by omega)
       have q3:IntKind.i64.wrap ((i:Int) + 1) = ((i + 1:Nat):Int):=by rw [IntWalk.i64_in _ (by omega)]; omega
       have e3:((y:Int) != (y:Int)) = false:=by simp
       replace BC:=Lib.hid BC
       replace hi:=Lib.hid hi
       replace hlen:=Lib.hid hlen
       clear e1 e0 y1
       go_wp2_with fail
       refine BC.out.mono ?_
       rintro e w4 ⟨rfl,b4⟩
       have hB4:=Lib.hid (hB3.out.trans (b4.mono hB3.out.size))
       clear b4 BC hB3
       go_wp2
       go_roundw
       case rel => exact ⟨l1 ++ [y],l2,rfl,rfl,by rw [List.length_append, <- hi.out]; rfl,Lib.hid (by rw [hR.out]; simp),hB4⟩
       case measure => have:=hlen.out; simp [intOf] <;> omega
    ·obtain rfl:k = 4:=by omega
     have d2:decide (((4:Nat):Int) <= 3) = false:=rfl
     go_wp2
     go_roundw
     case rel => exact ⟨c + 1,by simp,by omega,hB⟩
     case measure => simp [intOf] <;> omega
  ·obtain rfl:c = 3:=by omega
   go_wp2
   go_ret
   exact ⟨rfl,hB.out⟩
set_option maxHeartbeats 1600000 in
theorem endsC8:Calls Tryz.prog 25 #[.pointer (some ⟨W.b,0,none⟩)] w fun e w' => e = .returned (.bool true) /\ Below w.heap.size w w':=by
 have LC:=fun w2 (b:Below w.heap.size w w2) x => lengthC8 (h.below b) ht hg x
 have QC:=fun w2 (b:Below w.heap.size w w2) => queuesC8 (h.below b) ht hg
 have HC:=fun w2 (b:Below w.heap.size w w2) H hH => headerC8 (h.below b) ht hg H hH
 have htl:=h.tl
 obtain ⟨A,cp,TC⟩:=h.toldA ht hg
 obtain ⟨n,hn⟩:∃ n,n = told.length:=⟨_,rfl⟩
 rw [<- hn] at TC htl
 replace LC:=Lib.hid LC
 replace QC:=Lib.hid QC
 replace HC:=Lib.hid HC
 replace TC:=Lib.hid TC
 replace hn:=Lib.hid hn
 clear h hg
 go_enter Tryz.func25,Tryz.ntmps25
 go_wp2
 go_loopw [3] (fun v wr => ∃ k:Nat,v = .int .i64 (k:Int) /\ k <= n /\ Hid (Below w.heap.size w wr)) (fun v _ => n - (intOf v).toNat)
 case atStart => exact ⟨0,rfl,by omega,Lib.hid (Below.refl _ _)⟩
 case round =>
  obtain ⟨k,rfl,hk1,hB⟩:=hrel
  obtain ⟨y6,TT⟩:=TC.out _ hB.out
  by_cases hk:k < n
  ·obtain ⟨x,hx⟩:∃ x,told[k]? = some x:=⟨told[k]'(by rw [<- hn.out]; exact hk),List.getElem?_eq_getElem _⟩
   obtain ⟨g2,rfl,u,hlt⟩:=TT k x hx
   have k0:(0:Int) <= (k:Int):=by omega
   have k1:(k:Int) < (n:Int):=by omega
   have d1:decide ((k:Int) < (n:Int)) = true:=decide_eq_true k1
   have d1':decide (k < n) = true:=decide_eq_true hk
   have q2:IntKind.i64.wrap ((k:Int) + 1) = ((k + 1:Nat):Int):=by rw [IntWalk.i64_in _ (by omega)]; omega
   have HC1:=Lib.hid (HC.out _ hB.out x hlt)
   replace hx:=Lib.hid hx
   clear TT
   go_wp2_with fail
   refine HC1.out.mono ?_
   rintro e w2 ⟨rfl,b2⟩
   have hB2:=Lib.hid (hB.out.trans (b2.mono hB.out.size))
   clear b2 hB
   go_wp2
   go_roundw
   case rel => exact ⟨k + 1,by simp,by omega,hB2⟩
   case measure => simp [intOf] <;> omega
  ·obtain rfl:k = n:=by omega
   have d1:decide ((k:Int) < (k:Int)) = false:=by simp
   have d1':decide (k < k) = false:=by simp
   have Q1:=Lib.hid (QC.out _ hB.out)
   clear TT hk
   go_wp2_with fail
   refine Q1.out.mono ?_
   rintro e w2 ⟨rfl,b2⟩
   have hB2:=hB.out.trans (b2.mono hB.out.size)
   have L1:=Lib.hid (LC.out _ hB2 (-1))
   replace hB2:=Lib.hid hB2
   clear b2 hB Q1 y6
   go_wp2_with fail
   refine L1.out.mono ?_
   rintro e w3 ⟨rfl,b3⟩
   have hB3:=hB2.out.trans (b3.mono hB2.out.size)
   have L2:=Lib.hid (LC.out _ hB3 3)
   replace hB3:=Lib.hid hB3
   clear b3 hB2 L1
   go_wp2_with fail
   refine L2.out.mono ?_
   rintro e w4 ⟨rfl,b4⟩
   have hB4:=Lib.hid (hB3.out.trans (b4.mono hB3.out.size))
   clear b4 hB3 L2
   go_wp2
   go_ret
   exact ⟨rfl,hB4.out⟩
set_option maxHeartbeats 1600000 in
theorem deadsC8 (bits:Int) (hbits:Cls.In bits):Calls Tryz.prog 90 #[.pointer (some ⟨W.b,0,none⟩),.int .i64 bits] w fun e w' => ∃ (dl:List Nat) (A:Option Addr) (cp:Nat),e = .returned (.slice A dl.length cp) /\ dl.length <= told.length /\ Below w.heap.size w w' /\ w'.ownsRow w.heap.size 50 1 (.slice A dl.length cp) dl.length (dl.map uv):=by
 have htl:=h.tl
 obtain ⟨A,cp,TC⟩:=h.toldA ht hg
 obtain ⟨n,hn⟩:∃ n,n = told.length:=⟨_,rfl⟩
 rw [<- hn] at TC htl ⊢
 replace TC:=Lib.hid TC
 replace hn:=Lib.hid hn
 clear h hg
 go_enter Tryz.func90,Tryz.ntmps90
 go_wp2
 go_loopw [5,6] (fun vo v wr => ∃ (k:Nat) (dl:List Nat) (A:Option Addr) (cp:Nat),v = .int .i64 (k:Int) /\ k <= n /\ vo = .slice A dl.length cp /\ dl.length <= k /\ Hid (Below w.heap.size w wr) /\ Hid (wr.ownsRow w.heap.size 50 1 (.slice A dl.length cp) dl.length (dl.map uv))) (fun _ v _ => n - (intOf v).toNat)
 case atStart => exact ⟨0,[],none,0,rfl,by omega,rfl,Nat.le_refl _,Lib.hid (Below.refl _ _),Lib.hid (own_nil _ _ _)⟩
 case round =>
  obtain ⟨k,dl,A2,cp2,rfl,hk1,rfl,hdl,hB,ho⟩:=hrel
  obtain ⟨y6,TT⟩:=TC.out _ hB.out
  by_cases hk:k < n
  ·obtain ⟨x,hx⟩:∃ x,told[k]? = some x:=⟨told[k]'(by rw [<- hn.out]; exact hk),List.getElem?_eq_getElem _⟩
   obtain ⟨g2,rfl,u,hlt⟩:=TT k x hx
   have k0:(0:Int) <= (k:Int):=by omega
   have k1:(k:Int) < (n:Int):=by omega
   have d1:decide ((k:Int) < (n:Int)) = true:=decide_eq_true k1
   have d1':decide (k < n) = true:=decide_eq_true hk
   have q2:IntKind.i64.wrap ((k:Int) + 1) = ((k + 1:Nat):Int):=by rw [IntWalk.i64_in _ (by omega)]; omega
   replace hx:=Lib.hid hx
   clear TT
   obtain ⟨X,hX⟩:∃ X,X = Go.bits BinOp.and IntKind.i64 (bits / 2 ^ (k % 62)) 1:=⟨_,rfl⟩
   by_cases h1:X = 1
   ·have e1:(Go.bits BinOp.and IntKind.i64 (bits / 2 ^ (k % 62)) 1 == 1) = true:=by rw [<- hX,h1]; rfl
    have e2:decide (Go.bits BinOp.and IntKind.i64 (bits / 2 ^ (k % 62)) 1 = 1) = true:=by rw [<- hX,h1]; rfl
    have e3:Go.bits BinOp.and IntKind.i64 (bits / 2 ^ (k % 62)) 1 = 1:=by rw [<- hX,h1]
    have sz:=hB.out.size
    replace hX:=Lib.hid hX
    replace h1:=Lib.hid h1
    go_wp2_with (at_builtin; refine wpList_app rfl _ _ _ rfl eiL w.heap.size _ _ _ rfl (ho.out.alloc _) (wr.heap.size + 1) (some ⟨wr.heap.size,0,none⟩) 1 1 [.int .u64 (x:Int)] rfl ?c1 ?c2 ?c3 ?c4 ?c5 ?_)
    case c1 => exact reads_v wr _ _
    case c2 => intro u hu; rw [List.mem_singleton] at hu; subst hu; rfl
    case c3 => unfold maxLen; omega
    case c4 => omega
    case c5 => rw [World.size_alloc]; omega
    intro VV w6 own6 hg6 hat6
    obtain ⟨A6,cp6,rfl⟩:=own_is own6
    have b6:Below w.heap.size w w6:=(hB.out.alloc sz _).grown hg6 (by rw [World.size_alloc]; omega) (fun j e => own_base ho.out e)
    have own6':w6.ownsRow w.heap.size 50 1 (.slice A6 (dl ++ [x]).length cp6) (dl ++ [x]).length ((dl ++ [x]).map uv):=by rw [List.map_append,List.length_append]; exact own6
    have hl6:(dl ++ [x]).length = dl.length + 1:=by rw [List.length_append]; rfl
    replace own6':=Lib.hid own6'
    replace b6:=Lib.hid b6
    replace hl6:=Lib.hid hl6
    clear own6 hg6 hat6 ho hB
    go_wp2
    go_roundw
    case rel => exact ⟨k + 1,dl ++ [x],A6,cp6,by simp,by omega,by rw [hl6.out],by have:=hl6.out; omega,b6,own6'⟩
    case measure => simp [intOf] <;> omega
   ·have h1':¬ Go.bits BinOp.and IntKind.i64 (bits / 2 ^ (k % 62)) 1 = 1:=by rw [<- hX]; exact h1
    have e1:(Go.bits BinOp.and IntKind.i64 (bits / 2 ^ (k % 62)) 1 == 1) = false:=by rw [beq_eq_false_iff_ne]; exact h1'
    have e2:decide (Go.bits BinOp.and IntKind.i64 (bits / 2 ^ (k % 62)) 1 = 1) = false:=decide_eq_false h1'
    replace hX:=Lib.hid hX
    replace h1:=Lib.hid h1
    replace h1':=Lib.hid h1'
    go_wp2
    go_roundw
    case rel => exact ⟨k + 1,dl,A2,cp2,by simp,by omega,rfl,by omega,hB,ho⟩
    case measure => simp [intOf] <;> omega
  ·obtain rfl:k = n:=by omega
   have d1:decide ((k:Int) < (k:Int)) = false:=by simp
   have d1':decide (k < k) = false:=by simp
   clear TT hk
   go_wp2
   go_ret
   exact ⟨dl,A2,cp2,rfl,hdl,hB.out,ho.out⟩
end
end Go.Proofs.YtngehaiigbbknaaGreat.Que
