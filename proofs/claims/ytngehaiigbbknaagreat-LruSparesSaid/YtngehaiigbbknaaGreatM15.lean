/-
  Contracts and lemmas, joined: LruMoves, LruMoves2, LruScript, LruArgs, LruWRow, LruActive, LruLook, LruDoc4, LruEnds, LruPickLaw, LruWakes, LruSpare.
-/
import Derived.Test.YtngehaiigbbknaaGreatM1
import Derived.Test.YtngehaiigbbknaaGreatM10
import Derived.Test.YtngehaiigbbknaaGreatM11
import Derived.Test.YtngehaiigbbknaaGreatM14
set_option linter.unusedSimpArgs false
set_option linter.unusedVariables false
set_option linter.unusedSectionVars false
set_option maxRecDepth 100000
/-
  The law's moves.
-/
namespace Go.Proofs.YtngehaiigbbknaaGreat.Que
open Go.RowKit Base Arena Cls Itm
def Hf (N:Nat) (w1 v:World) (W:W6) (s:St) (bs:List UInt8) (Z:Nat -> Option Zd) (Ls Ld:Nat -> Nat -> List Nat) (r:RS) (laid told act:List Nat) (mk:Nat -> Nat):Prop :=
 ∃ bs' Z' W1,bs'.length = bs.length /\ (∀ H,(Z' H).isSome = (Z H).isSome) /\ (∃ R' vA',W1 = { W with R:=R',vA:=vA' } /\ R'.b = W.R.b) /\ Grew qc w1 v W W1 s s /\ DX N v W1 s bs' Z' Ls Ld r laid told act mk
theorem QL.cg {s:St} {Z Z':Nat -> Option Zd} {L:Nat -> Nat -> List Nat} (h:QL s Z L) (z:∀ H,(Z' H).isSome = (Z H).isSome):QL s Z' L:=by
 obtain ⟨Z1,F,e,q⟩:=h
 exact ⟨Z1,F,fun K => (e K).trans (z K).symm,q⟩
section
variable {N:Nat} {w1 v:World} {W:W6} {s:St} {bs:List UInt8} {Z:Nat -> Option Zd} {Ls Ld:Nat -> Nat -> List Nat} {r:RS} {laid told act:List Nat} {mk:Nat -> Nat} (h:Hf N w1 v W s bs Z Ls Ld r laid told act mk)
include h
theorem Hf.cells {N0:Nat} {o:Op6} (B:Blk w1 N0 64 o.cells) (hn:∀ i,¬ W.foot qc s i N0):Cmv W.b N0 W.gm W.dm W.L.g W.gq W.R.b o v:=by
 obtain ⟨bs',Z',W1,e1,z1,⟨R',vA',rfl,eb⟩,G,D⟩:=h
 have BO:=D.wat.own
 have B0:=(G.away B.lt hn).1.trans B
 have c4:=BO.cell 4
 refine ⟨⟨BO.cell 0,BO.cell 1,BO.cell 2,?_,BO.cell 5⟩,op6_cells B0⟩
 rw [<- eb]
 exact c4
theorem Hf.prog {F:FuncId} {args:Array Value} {x:Ending} {Lx:Nat -> Nat -> List Nat} {mk':Nat -> Nat} {g:Nat} (hg:W.gm = some g)
  (C:∀ bs' Z',(∀ H,(Z' H).isSome = (Z H).isSome) -> LS v W.L s bs' Z' W.gq W.gl Ls mk g W.hot W.warm -> Calls Tryz.prog F args v fun e v' => e = x /\ DL v v' W.L s bs' Z' W.gq W.gl Lx mk' g W.hot W.warm) :
  Calls Tryz.prog F args v fun e v' => e = x /\ Hf N w1 v' W s bs Z Lx Ld r laid told act mk':=by
 obtain ⟨bs',Z',W1,e1,z1,⟨R',vA',rfl,eb⟩,G,D⟩:=h
 refine (C bs' Z' z1 (D.wat.ls (g:=g) hg)).mono ?_
 rintro e v' ⟨rfl,D2⟩
 obtain ⟨bs2,Z2,e2,z2,G2,A⟩:=D.wat.dl (g:=g) hg D2
 exact ⟨rfl,bs2,Z2,_,e2.trans e1,fun H => (z2 H).trans (z1 H),⟨R',vA',rfl,eb⟩,G.trans G2,A,D.rel,fun H i x p hf => by rw [z2 H]; exact D.agr H i x p hf,D.ch,D.la,D.dq.cg z2,D.al⟩
theorem Hf.que {F:FuncId} {args:Array Value} {x:Ending} {RR:Nat} {Lx:Nat -> Nat -> List Nat}
  (C:∀ bs' Z',(∀ H,(Z' H).isSome = (Z H).isSome) -> QW v W.L qc s bs' Z' W.gq W.gl Ls -> Calls Tryz.prog F args v fun e v' => e = x /\ Did v v' W.L qc s bs' Z' W.gq W.gl (RR,Lx)) :
  Calls Tryz.prog F args v fun e v' => e = x /\ Hf N w1 v' W s bs Z Lx Ld r laid told act mk:=by
 obtain ⟨bs',Z',W1,e1,z1,⟨R',vA',rfl,eb⟩,G,D⟩:=h
 refine (C bs' Z' z1 D.wat.q).mono ?_
 rintro e v' ⟨rfl,o,bs2,Z2,hE,z2, -,Q⟩
 have A:=D.wat.turn o Q (D.wat.mks.ed D.wat.okc D.wat.good hE z2)
 exact ⟨rfl,bs2,Z2,_,hE.1.trans e1,fun H => (z2 H).trans (z1 H),⟨R',vA',rfl,eb⟩,G.trans (grew_turn o),A,D.rel,fun H i x p hf => by rw [z2 H]; exact D.agr H i x p hf,D.ch,D.la,D.dq.cg z2,D.al⟩
theorem Hf.docu {F:FuncId} {args:Array Value} {X:Ending -> Prop} {Lx:Nat -> Nat -> List Nat} {act':List Nat}
  (C:∀ bs' Z' W1,(∀ H,(Z' H).isSome = (Z H).isSome) -> W1.R.b = W.R.b -> W1.dm = W.dm -> W1.hot = W.hot -> W1.warm = W.warm -> DX N v W1 s bs' Z' Ls Ld r laid told act mk -> Calls Tryz.prog F args v fun e v' => X e /\ DG N v v' W1 s bs' Z' Ls Lx r laid told act' mk) :
  Calls Tryz.prog F args v fun e v' => X e /\ Hf N w1 v' W s bs Z Ls Lx r laid told act' mk:=by
 obtain ⟨bs',Z',W1,e1,z1,⟨R',vA',rfl,eb⟩,G,D⟩:=h
 refine (C bs' Z' { W with R:=R',vA:=vA' } z1 eb rfl rfl rfl D).mono ?_
 rintro e v' ⟨hX,R2,v2,e2,G2,D2⟩
 exact ⟨hX,bs',Z',_,e1,z1,⟨R2,v2,rfl,e2.trans eb⟩,G.trans G2,D2⟩
end
section
variable {N:Nat} {w:World} {W:W6} {s:St} {bs:List UInt8} {Z:Nat -> Option Zd} {Ls:Nat -> Nat -> List Nat} {r:RS} {laid told act:List Nat} {mk:Nat -> Nat} {t:Nat} (h:LI N w W s bs Z Ls r laid told act mk t)
include h
theorem LI.hf (ht:t <= 60000) {v:World} (b:Below w.heap.size w v):Hf N w v W s bs Z Ls Ls r laid told act mk :=
 ⟨bs,Z,W,rfl,fun _ => rfl,⟨W.R,W.vA,rfl,rfl⟩,(Grew.refl _ _ _ _).step b,(h.below b).dx ht⟩
theorem LI.end_ {v:World} {Lx:Nat -> Nat -> List Nat} {act':List Nat} {mk':Nat -> Nat} (H:Hf N w v W s bs Z Lx Lx r laid told act' mk') (hl:act'.length <= t + 1) (ab:∀ H,isN qc s Z H = true -> (H ∈ act' ↔ mk' H % 2 = 1)) (mr:∀ H,mk' H / 2 = mk H / 2):Goes N w v W s (t + 1):=by
 obtain ⟨bs',Z',W1,e1,z1,⟨R',vA',rfl,eb⟩,G,D⟩:=H
 exact ⟨{ W with R:=R',vA:=vA' },s,bs',Z',Lx,r,laid,told,act',mk',⟨rfl,rfl,rfl,rfl,rfl⟩,G,D.wat,h.rel,D.agr,e1.trans h.bs,by have:=h.ch; omega,by have:=h.la; omega,by have:=h.tl; omega,hl,h.tlt,h.lg,h.ln,h.lt,fun K hK => ab K (by rw [<- isN_congr z1]; exact hK),fun K hK => (mr K).trans (h.mr K (by rw [<- isN_congr z1]; exact hK)),h.dmS,h.sh⟩
end
theorem mk_div (mk:Nat -> Nat) (H:Nat) (on:Bool) (K:Nat):mkOn mk H on K / 2 = mk K / 2:=by
 unfold mkOn
 by_cases e:K = H
 ·rw [e,upd_at]
  cases on
  ·show 2 * (mk H / 2) / 2 = _; omega
  ·show (2 * (mk H / 2) + 1) / 2 = _; omega
 ·rw [upd_ne _ _ e]
theorem ab_on {mk:Nat -> Nat} {act:List Nat} (H:Nat) (on:Bool) {K:Nat} (h:K ∈ act ↔ mk K % 2 = 1):K ∈ actN H on act ↔ mkOn mk H on K % 2 = 1:=by
 unfold mkOn
 by_cases e:K = H
 ·rw [e,actN_self,upd_at]
  cases on
  ·exact ⟨fun e => (by cases e),fun e2 => by
    have e3 : 2 * (mk H / 2) % 2 = 1:=e2
    omega⟩
  ·refine ⟨fun _ => ?_,fun _ => rfl⟩
   show (2 * (mk H / 2) + 1) % 2 = 1
   omega
 ·rw [actN_other _ _ e,upd_ne _ _ e]
  exact h
theorem QL.tot {s:St} {Z:Nat -> Option Zd} {Ls:Nat -> Nat -> List Nat} (q:QL s Z Ls) {laid:List Nat} (hl:∀ H,isN qc s Z H = true -> H ∈ laid) (x:Int):totX Ls x <= laid.length:=by
 obtain ⟨Z1,F,e1,q⟩:=q
 unfold totX lenX lsN
 by_cases hx : 0 <= x /\ x < (qc.nc:Int)
 ·rw [if_pos ⟨hx.1,hx.2,by decide,by decide⟩,if_pos ⟨hx.1,hx.2,by decide,by decide⟩,if_pos ⟨hx.1,hx.2,by decide,by decide⟩]
  have hX:x.toNat < qc.nc:=by omega
  have:=nodup_sub (l:=(Ls x.toNat 0 ++ Ls x.toNat 1) ++ Ls x.toNat 2) (m:=laid) (by
   rw [List.nodup_append,List.nodup_append]
   refine ⟨⟨q.nd _ 0 hX (by decide),q.nd _ 1 hX (by decide),fun a ha b hb e => ?_⟩,q.nd _ 2 hX (by decide),fun a ha b hb e => ?_⟩
   ·subst e
    have:=(q.dj _ 0 _ 1 a hX (by decide) hX (by decide) ha hb).2
    omega
   ·subst e
    rcases List.mem_append.1 ha with ha | ha
    ·have:=(q.dj _ 0 _ 2 a hX (by decide) hX (by decide) ha hb).2
     omega
    ·have:=(q.dj _ 1 _ 2 a hX (by decide) hX (by decide) ha hb).2
     omega) (fun a ha => by
   refine hl a ?_
   rw [<- isN_congr e1]
   rcases List.mem_append.1 ha with ha | ha
   ·rcases List.mem_append.1 ha with ha | ha
    ·exact isN_it (q.is hX (by decide) ha)
    ·exact isN_it (q.is hX (by decide) ha)
   ·exact isN_it (q.is hX (by decide) ha))
  rw [List.length_append,List.length_append] at this
  exact this
 ·rw [if_neg (fun e => hx ⟨e.1,e.2.1⟩),if_neg (fun e => hx ⟨e.1,e.2.1⟩),if_neg (fun e => hx ⟨e.1,e.2.1⟩)]
  simp
theorem LI.laid_ {N:Nat} {w:World} {W:W6} {s:St} {bs:List UInt8} {Z:Nat -> Option Zd} {Ls:Nat -> Nat -> List Nat} {r:RS} {laid told act:List Nat} {mk:Nat -> Nat} {t:Nat} (h:LI N w W s bs Z Ls r laid told act mk t) (H:Nat) (hI:isN qc s Z H = true):H ∈ laid:=by
 unfold isN at hI
 obtain ⟨i1,i2⟩:=Bool.and_eq_true_iff.1 hI
 obtain ⟨⟨i,x,p⟩,hf⟩:=Option.isSome_iff_exists.1 i1
 exact (h.agr H i x p hf).1 i2
def bndN (l:Int):Int:=if l <= 2000 then l else 2000
theorem boundedC (w:World) (l:Int):Calls Tryz.prog 30 #[.int .i64 l] w fun e w' => e = .returned (.int .i64 (bndN l)) /\ w = w':=by
 unfold bndN
 by_cases h:l <= 2000
 ·rw [if_pos h]
  have d1:decide ((2000:Int) < l) = false:=decide_eq_false (by omega)
  clear h
  go_enter Tryz.func30,Tryz.ntmps30
  go_wp2
  go_ret
  exact ⟨rfl,rfl⟩
 ·rw [if_neg h]
  have d1:decide ((2000:Int) < l) = true:=decide_eq_true (by omega)
  clear h
  go_enter Tryz.func30,Tryz.ntmps30
  go_wp2
  go_ret
  exact ⟨rfl,rfl⟩
section
variable {N:Nat} {w:World} {W:W6} {s:St} {bs:List UInt8} {Z:Nat -> Option Zd} {Ls:Nat -> Nat -> List Nat} {r:RS} {laid told act:List Nat} {mk:Nat -> Nat} {t:Nat} (h:LI N w W s bs Z Ls r laid told act mk t) (ht:t <= 60000) (o:Op6) (ok:o.Ok)
include h ht ok
theorem LI.begin:∃ w1,w1 = w.alloc (.cells o.cells 64) /\ Below w.heap.size w w1 /\ LI N w1 W s bs Z Ls r laid told act mk t /\ Blk w1 w.heap.size 64 o.cells /\ (∀ i,¬ W.foot qc s i w.heap.size) /\
  Calls Tryz.prog 51 #[.pointer (some ⟨W.b,0,none⟩),.agg o.cells] w1 (fun e w' => e = .returned (.int .u64 (hdN told o:Int)) /\ Below w1.heap.size w1 w'):=by
 have b1:Below w.heap.size w (w.alloc (.cells o.cells 64)):=(Below.refl _ _).alloc (Nat.le_refl _) _
 refine ⟨_,rfl,b1,h.below b1,Blk.new w _ _,fun i e => ?_,handleC (h.below b1) ht o ok⟩
 have:=h.wat.lt i _ e
 omega
end
section
variable {N:Nat} {w:World} {W:W6} {s:St} {bs:List UInt8} {Z:Nat -> Option Zd} {Ls:Nat -> Nat -> List Nat} {r:RS} {laid told act:List Nat} {mk:Nat -> Nat} {t:Nat} (h:LI N w W s bs Z Ls r laid told act mk t) (ht:t <= 900) (o:Op6) (ok:o.Ok)
include h ht ok
theorem movesC (hgm:(∃ g,W.gm = some g) \/ (o.dO = 1 \/ o.dO = 2 \/ o.dO = 10 \/ o.dO = 12)):Calls Tryz.prog 26 #[.pointer (some ⟨W.b,0,none⟩),.agg o.cells] w fun e w' => e = .returned (.bool true) /\ Goes N w w' W s (t + 1):=by
 have ht6:t <= 60000:=by omega
 obtain ⟨w1,hw1,b1,h1,B1,hn,HC⟩:=h.begin ht6 o ok
 have hH:=hdN_lt h.tlt ok
 obtain ⟨d,edm⟩:=h.dmS
 have okc:=h.wat.okc
 have g:=h.wat.good
 have fin:∀ {v},Goes N w1 v W s (t + 1) -> Goes N w v W s (t + 1):=fun G => G.behind b1
 have P0s:∀ v n,Below w1.heap.size w1 v -> Below w1.heap.size w1 (v.drewN n):=fun v n b => below_drewN b n
 have P0c:∀ v,Below w1.heap.size w1 v -> Cmv W.b w.heap.size W.gm W.dm W.L.g W.gq W.R.b o v:=fun v b => (h1.hf ht6 b).cells B1 hn
 rw [hw1] at HC
 have hs:∀ v,Below w1.heap.size w1 v -> Hf N w1 v W s bs Z Ls Ls r laid told act mk:=fun v b => h1.hf ht6 b
 have hc:∀ {Lp Ld a m} v,Hf N w1 v W s bs Z Lp Ld r laid told a m -> Cmv W.b w.heap.size W.gm W.dm W.L.g W.gq W.R.b o v:=fun v H => H.cells B1 hn
 by_cases d1:o.dO = 1
 ·exact (armMake w W.b o _ W.gm W.dm W.L.g W.gq W.R.b (fun v => Below w1.heap.size w1 v) (fun v => Goes N w1 v W s (t + 1)) (by rw [<- hw1] at HC ⊢; exact HC) P0s P0c d1 fun v b => (makesC (h1.below b) ht6 o ok).mono fun e w' ⟨e1,G⟩ => ⟨e1,G.behind b⟩).mono fun e w' ⟨e1,G⟩ => ⟨e1,fin G⟩
 by_cases d2:o.dO = 2
 ·exact (armBare w W.b o _ W.gm W.dm W.L.g W.gq W.R.b (fun v => Below w1.heap.size w1 v) (fun v => Goes N w1 v W s (t + 1)) (by rw [<- hw1] at HC ⊢; exact HC) P0s P0c d2 fun v b => (makesC (h1.below b) ht6 o ok).mono fun e w' ⟨e1,G⟩ => ⟨e1,G.behind b⟩).mono fun e w' ⟨e1,G⟩ => ⟨e1,fin G⟩
 by_cases d3:o.dO = 3
 ·obtain ⟨n,GB⟩:=giveBoth h1 ht6 hH
  refine (armGive w W.b o (hdN told o) n W.gm W.dm W.L.g W.gq W.R.b (fun v => Below w1.heap.size w1 v) (fun v => Calls Tryz.prog 54 #[.pointer (some ⟨W.R.b,0,none⟩),.int .u64 (hdN told o:Int)] v fun e w' => e = .returned (.int .i64 (n:Int)) /\ Gv W w' /\ Goes N w1 w' W s t) (fun v => Goes N w1 v W s (t + 1)) (by rw [<- hw1] at HC ⊢; exact HC) P0s P0c d3 (stK (clsN qc s (hdN told o)) Ls (hdN told o)) (clsN qc s (hdN told o)) (fun v b => ((h1.below b).d6w ht6).whereC _) (fun v b _ => h1.stays b (Nat.le_succ _)) (fun v b h0 => ?_) (fun v P1 => P1.mono fun e w' ⟨e1,c,G⟩ => ⟨e1,c,G.more (Nat.le_succ _)⟩)).mono fun e w' ⟨e1,G⟩ => ⟨e1,fin G⟩
  refine (GB v b).mono fun e w' ⟨e1,c,P1⟩ => ⟨e1,c,P1 ?_⟩
  rcases (h1.d6w ht6).at6 (hdN told o) with ⟨-,e2⟩ | ⟨k,l1,l2,e2, -⟩
  ·exact e2
  ·omega
 by_cases d10:o.dO = 10
 ·refine (armShift w W.b o (hdN told o) (shiftN qc s Ls (hdN told o) o.b).1 W.gm W.dm W.L.g W.gq W.R.b (fun v => Below w1.heap.size w1 v) (fun v => Hf N w1 v W s bs Z (shiftN qc s Ls (hdN told o) o.b).2 Ls r laid told act mk) (fun v => Hf N w1 v W s bs Z (shiftN qc s Ls (hdN told o) o.b).2 (shiftN qc s Ls (hdN told o) o.b).2 r laid told act mk) (by rw [<- hw1] at HC ⊢; exact HC) P0s P0c hc hc d10 (fun v b => (hs v b).que fun bs' Z' z' q => shiftP q _ hH o.b) (fun v P1 => P1.docu fun bs' Z' W2 z' eb ed eh ew D => ?_)).mono fun e w' ⟨e1,H2⟩ => ⟨e1,fin (h1.end_ H2 (by have:=h.al; omega) h.ab fun _ => rfl)⟩
  rw [<- eb]
  exact D.shiftD _ o.b
 by_cases d12:o.dO = 12
 ·refine (armPush w W.b o (hdN told o) (pushN qc s Z Ls (hdN told o) o.b false).1 W.gm W.dm W.L.g W.gq W.R.b (fun v => Below w1.heap.size w1 v) (fun v => Hf N w1 v W s bs Z (pushN qc s Z Ls (hdN told o) o.b false).2 Ls r laid told act mk) (fun v => Hf N w1 v W s bs Z (pushN qc s Z Ls (hdN told o) o.b false).2 (pushN qc s Z Ls (hdN told o) o.b false).2 r laid told act mk) (by rw [<- hw1] at HC ⊢; exact HC) P0s P0c hc hc d12 (fun v b => (hs v b).que (RR:=(pushN qc s Z Ls (hdN told o) o.b false).1) fun bs' Z' z' q => ?_) (fun v P1 => P1.docu fun bs' Z' W2 z' eb ed eh ew D => ?_)).mono fun e w' ⟨e1,H2⟩ => ⟨e1,fin (h1.end_ H2 (by have:=h.al; omega) h.ab fun _ => rfl)⟩
  ·have:=pushP q _ hH o.b
   rw [pushN_cg z'] at this
   exact this
  ·have:=D.pushD (hdN told o) o.b false
   rw [pushN_cg z',eb] at this
   exact this
 by_cases dE:o.dO ≠ 4 /\ o.dO ≠ 5 /\ o.dO ≠ 6 /\ o.dO ≠ 7
 ·exact (armElse w W.b o _ W.gm W.dm W.L.g W.gq W.R.b (fun v => Below w1.heap.size w1 v) (fun v => Goes N w1 v W s (t + 1)) (by rw [<- hw1] at HC ⊢; exact HC) P0s P0c ⟨d1,d2,d3,dE.1,dE.2.1,dE.2.2.1,dE.2.2.2,d10,d12⟩ fun v b => h1.stays b (Nat.le_succ _)).mono fun e w' ⟨e1,G⟩ => ⟨e1,fin G⟩
 obtain ⟨gp,hg⟩:∃ g,W.gm = some g:=hgm.resolve_right (by omega)
 by_cases d4:o.dO = 4
 ·refine (armEnter w W.b o (hdN told o) (pushN qc s Z Ls (hdN told o) 1 false).1 W.gm W.dm W.L.g W.gq W.R.b (fun v => Below w1.heap.size w1 v) (fun v => Hf N w1 v W s bs Z (pushN qc s Z Ls (hdN told o) 1 false).2 Ls r laid told act (entM mk (hdN told o) (pushN qc s Z Ls (hdN told o) 1 false).1)) (fun v => Hf N w1 v W s bs Z (pushN qc s Z Ls (hdN told o) 1 false).2 (pushN qc s Z Ls (hdN told o) 1 false).2 r laid told (entA act (hdN told o) (pushN qc s Z Ls (hdN told o) 1 false).1) (entM mk (hdN told o) (pushN qc s Z Ls (hdN told o) 1 false).1)) (by rw [<- hw1] at HC ⊢; exact HC) P0s P0c hc hc d4 hg edm (fun v b => (hs v b).prog hg fun bs' Z' z' q => ?_) (fun v P1 => P1.docu fun bs' Z' W2 z' eb ed eh ew D => ?_)).mono fun e w' ⟨e1,H2⟩ => ⟨e1,fin (h1.end_ H2 ?_ ?_ ?_)⟩
  ·have:=enterC q _ hH
   rw [pushN_cg z'] at this
   exact this
  ·have:=D.enterD (dm:=d) (ed.trans edm) (hdN told o)
   rw [pushN_cg z'] at this
   exact this
  all_goals generalize (pushN qc s Z Ls (hdN told o) 1 false).1 = RR at *
  ·unfold entA
   have:=h.al
   have:=actN_len (hdN told o) false act
   split <;> omega
  ·intro K hK
   unfold entA entM
   split
   ·exact ab_on _ _ (h.ab K hK)
   ·exact h.ab K hK
  ·intro K
   unfold entM
   split
   ·exact mk_div _ _ _ _
   ·rfl
 by_cases d5:o.dO = 5
 ·refine (armLeave w W.b o (hdN told o) (dropN qc s Ls (hdN told o)).1 W.gm W.dm W.L.g W.gq W.R.b (fun v => Below w1.heap.size w1 v) (fun v => Hf N w1 v W s bs Z (dropN qc s Ls (hdN told o)).2 Ls r laid told act mk) (fun v => Hf N w1 v W s bs Z (dropN qc s Ls (hdN told o)).2 (dropN qc s Ls (hdN told o)).2 r laid told act mk) (by rw [<- hw1] at HC ⊢; exact HC) P0s P0c hc hc d5 hg edm (fun v b => (hs v b).prog hg fun bs' Z' z' q => leaveC q _ hH) (fun v P1 => P1.docu fun bs' Z' W2 z' eb ed eh ew D => ?_)).mono fun e w' ⟨e1,H2⟩ => ⟨e1,fin (h1.end_ H2 (by have:=h.al; omega) h.ab fun _ => rfl)⟩
  exact D.leaveD (dm:=d) (ed.trans edm) _
 by_cases d6:o.dO = 6
 ·refine (armHit w W.b o (hdN told o) (hitR s Ls (hdN told o)) W.gm W.dm W.L.g W.gq W.R.b (fun v => Below w1.heap.size w1 v) (fun v => Hf N w1 v W s bs Z Ls Ls r laid told act (hitM s Ls mk (hdN told o))) (fun v => Hf N w1 v W s bs Z Ls Ls r laid told (hitA s Ls act (hdN told o)) (hitM s Ls mk (hdN told o))) (by rw [<- hw1] at HC ⊢; exact HC) P0s P0c hc hc d6 hg edm (fun v b => (hs v b).prog hg fun bs' Z' z' q => hitC q _ hH) (fun v P1 => P1.docu fun bs' Z' W2 z' eb ed eh ew D => ?_)).mono fun e w' ⟨e1,H2⟩ => ⟨e1,fin (h1.end_ H2 ?_ ?_ ?_)⟩
  ·exact D.hitD (dm:=d) (ed.trans edm) _ (by have:=h.al; omega)
  ·unfold hitA
   have:=h.al
   have:=actN_len (hdN told o) true act
   split <;> omega
  ·intro K hK
   unfold hitA hitM
   split
   ·exact h.ab K hK
   ·exact ab_on _ _ (h.ab K hK)
  ·intro K
   unfold hitM
   split
   ·rfl
   ·exact mk_div _ _ _ _
 have d7:o.dO = 7:=by omega
 have q:=h.wat.q.ql
 have tot:=QL.tot q h.laid_ o.c
 have phi:=phi_two Ls mk o.c
 have la:=h.la
 obtain ⟨k1,k2,k3,k4,k5⟩:=bal_phi okc g h.sh o.b.toNat Ls mk (x:=o.c) q
 have eB:balN s Z W.hot W.warm o.c (bndN o.b).toNat Ls mk = balN s Z W.hot W.warm o.c o.b.toNat Ls mk:=by
  unfold bndN
  split
  ·rfl
  ·exact (k5 (by omega)).2 _ (by omega)
 obtain ⟨e1,e2,e3,e4⟩:=bal_both okc g h.sh (bndN o.b).toNat Ls mk act (x:=o.c) q h.ab
 rw [eB] at e1 e2 e3
 have hbd:bndN o.b <= 2000:=by unfold bndN; split <;> omega
 refine (armBalance w W.b o (hdN told o) (balN s Z W.hot W.warm o.c o.b.toNat Ls mk).1.length W.gm W.dm W.L.g W.gq W.R.b (fun v => Below w1.heap.size w1 v) (fun v => Hf N w1 v W s bs Z (balN s Z W.hot W.warm o.c o.b.toNat Ls mk).2.1 Ls r laid told act (balN s Z W.hot W.warm o.c o.b.toNat Ls mk).2.2) (fun v => Hf N w1 v W s bs Z (balN s Z W.hot W.warm o.c o.b.toNat Ls mk).2.1 (balN s Z W.hot W.warm o.c o.b.toNat Ls mk).2.1 r laid told (dbalN s W.hot W.warm o.c (bndN o.b).toNat Ls act).2.2 (balN s Z W.hot W.warm o.c o.b.toNat Ls mk).2.2) (by rw [<- hw1] at HC ⊢; exact HC) P0s P0c hc hc d7 hg edm (bndN o.b) (fun v => boundedC v _) (fun v b => (hs v b).prog hg fun bs' Z' z' q => ?_) (fun v P1 => (P1.docu (X:=fun e => ∃ A cp,e = .returned (.slice A (balN s Z W.hot W.warm o.c o.b.toNat Ls mk).1.length cp)) fun bs' Z' W2 z' eb ed eh ew D => ?_))).mono fun e w' ⟨e1,H2⟩ => ⟨e1,fin (h1.end_ H2 ?_ e3 k4)⟩
 ·have:=balanceC q h.sh o.c o.b ok.b
  rwa [balN_nxt z'] at this
 ·have:=D.balanceD (dm:=d) (ed.trans edm) (by rw [eh,ew]; exact h.sh) o.c (bndN o.b) hbd
  rw [eh,ew,e1,e2] at this
  exact this.mono fun e w' ⟨A,cp,e1,_,G⟩ => ⟨⟨A,cp,e1⟩,G⟩
 ·have:=h.al
  omega
end
def OCells (w:World) (b o:Nat) (p:Op6):Prop:=w.cell? ⟨b,o,none⟩ = some (.int .i64 p.dO) /\ w.cell? ⟨b,o + 1,none⟩ = some (.int .i64 p.a) /\ w.cell? ⟨b,o + 2,none⟩ = some (.int .i64 p.b) /\
 w.cell? ⟨b,o + 3,none⟩ = some (.int .i64 p.c) /\ w.cell? ⟨b,o + 4,none⟩ = some (.int .u64 (p.h:Int)) /\ w.cell? ⟨b,o + 5,none⟩ = some (.bool p.raw)
def ORow (W:World) (a0:Option Addr) (k:Nat) (p:Op6):Prop:=∃ b off,a0 = some (⟨b,off,none⟩:Addr) /\ b < W.heap.size /\ p.Ok /\ OCells W b (off + k * 6) p
theorem OCells.below {W w:World} {B b o:Nat} {p:Op6} (h:OCells W b o p) (k:Below B W w) (hb:b < B):OCells w b o p :=
 ⟨(k.cell (p:=⟨b,o,none⟩) hb).trans h.1,(k.cell (p:=⟨b,o + 1,none⟩) hb).trans h.2.1,(k.cell (p:=⟨b,o + 2,none⟩) hb).trans h.2.2.1,(k.cell (p:=⟨b,o + 3,none⟩) hb).trans h.2.2.2.1,(k.cell (p:=⟨b,o + 4,none⟩) hb).trans h.2.2.2.2.1,(k.cell (p:=⟨b,o + 5,none⟩) hb).trans h.2.2.2.2.2⟩
theorem LI.new {w:World} {N:Nat} {W:W6} (h:WAt N w W qc (new0 qc.cf) (List.replicate (qc.cf.ps * qc.cf.np) 0) (fun _ => none) (fun _ _ => []) (fun _ _ => []) rnew0 [] [] [] (fun _ => 0)) (dm:∃ d,W.dm = some d) (sh:Shr W.hot W.warm) :
  LI N w W (new0 qc.cf) (List.replicate (qc.cf.ps * qc.cf.np) 0) (fun _ => none) (fun _ _ => []) rnew0 [] [] [] (fun _ => 0) 0 :=
 ⟨h,rel_new _,fun H i x p _ => ⟨fun e => (by cases e),fun e => (by cases e)⟩,List.length_replicate,Nat.zero_le _,Nat.zero_le _,Nat.zero_le _,Nat.zero_le _,fun H e => (by cases e),fun H e => (by cases e),List.nodup_nil,fun H e => (by cases e),
  fun H e => (by unfold isN at e; simp at e),fun H e => (by unfold isN at e; simp at e),dm,sh⟩
def Goer (N:Nat) (W0:World) (b:Nat) (gm:Option Nat) (hot warm:Int) (w:World) (t:Nat):Prop:=∃ W s bs Z Ls r laid told act mk,W.b = b /\ W.gm = gm /\ W.hot = hot /\ W.warm = warm /\ Below N W0 w /\ N <= w.heap.size /\ LI N w W s bs Z Ls r laid told act mk t
theorem Goer.next {N:Nat} {W0 w w':World} {W:W6} {s:St} {bs:List UInt8} {Z:Nat -> Option Zd} {Ls:Nat -> Nat -> List Nat} {r:RS} {laid told act:List Nat} {mk:Nat -> Nat} {t t':Nat} {b:Nat} {gm:Option Nat} {hot warm:Int} (h:LI N w W s bs Z Ls r laid told act mk t) (hB:Below N W0 w)
  (e1:W.b = b) (e2:W.gm = gm) (e3:W.hot = hot) (e4:W.warm = warm) (G:Goes N w w' W s t'):Goer N W0 b gm hot warm w' t':=by
 obtain ⟨W',s',bs',Z',Ls',r',laid',told',act',mk',⟨f1,f2,f3,f4,f5⟩,G,T⟩:=G
 exact ⟨W',s',bs',Z',Ls',r',laid',told',act',mk',f1.trans e1,f2.trans e2,f4.trans e3,f5.trans e4,hB.trans (G.below h.wat.base h.wat.hN0),T.wat.hN0,T⟩
theorem begun_shr (a b:Int):Shr (hotN a:Int) (warmN a b:Int):=by
 obtain ⟨s1,s2,s3,s4⟩:=shares_in a b
 exact ⟨by omega,by omega,by omega,by omega⟩
set_option maxHeartbeats 3200000 in
theorem scriptedC (W:World) (a b:Int) (ha:Cls.In a) (hb:Cls.In b) (a0:Option Addr) (cap:Nat) (l:List Op6) (hP:∀ (k:Nat) (hk:k < l.length),ORow W a0 k l[k]) (hl:l.length <= maxLen) :
  Calls Tryz.prog 16 #[.agg #[.int .i64 a,.int .i64 b],.slice a0 l.length cap] W fun e w' => ∃ b0 g,e = .returned (.pointer (some ⟨b0,0,none⟩)) /\ ∃ t,t <= 250 /\ Goer W.heap.size W b0 (some g) (hotN a:Int) (warmN a b:Int) w' t:=by
 obtain ⟨w1,hw1⟩:∃ w1,w1 = W.alloc (.cells #[.int .i64 a,.int .i64 b] 38):=⟨_,rfl⟩
 have B1:Blk w1 W.heap.size 38 #[.int .i64 a,.int .i64 b]:=by rw [hw1]; exact Blk.new W _ _
 have b1:Below W.heap.size W w1:=by rw [hw1]; exact (Below.refl _ _).alloc (Nat.le_refl _) _
 have x0:=B1.cell 0
 have x1:=B1.cell 1
 have BC:=Lib.hid (begunC8 w1 a b ha hb)
 have sh:=Lib.hid (begun_shr a b)
 have HP:=Lib.hid hP
 unfold maxLen at hl
 clear hP ha hb B1
 generalize hotN a = hot at *
 generalize warmN a b = warm at *
 obtain ⟨N,hN⟩:∃ N,W.heap.size = N:=⟨_,rfl⟩
 rw [hN] at b1 x0 x1 ⊢
 replace hN:=Lib.hid hN
 replace hw1:=Lib.hid hw1
 go_enter Tryz.func16,Tryz.ntmps16
 go_upto_region 1 with fail
 rw [hN.out, <- hw1.out]
 go_wp2_with fail
 refine BC.out.mono ?_
 rintro e w2 ⟨b2,W1,g,d,rfl,eg,ed,eh,ew,A1⟩
 have hN1:N <= w1.heap.size:=by have:=b1.size; rw [<- hN.out]; exact this
 have G1:Goer N W W1.b (some g) (hot:Int) (warm:Int) w2 0:=⟨W1,_,_,_,_,_,_,_,_,_,rfl,eg,eh,ew,b1.trans (b2.mono hN1),Nat.le_trans hN1 b2.size,LI.new (A1.weak hN1) ⟨d,ed⟩ (by rw [eh,ew]; exact sh.out)⟩
 generalize W1.b = b0 at *
 replace G1:=Lib.hid G1
 clear b1 b2 A1 BC x0 x1 hw1 eg ed eh ew
 go_wp2_with fail
 go_loopw [6] (fun vi wr => ∃ i:Nat,vi = .int .i64 (i:Int) /\ i <= l.length /\ i <= 250 /\ Hid (Goer N W b0 (some g) (hot:Int) (warm:Int) wr i)) (fun vi _ => l.length - (intOf vi).toNat)
 case atStart => exact ⟨0,rfl,Nat.zero_le _,Nat.zero_le _,G1⟩
 case round =>
  obtain ⟨i,rfl,hi,hi2,G⟩:=hrel
  clear G1
  by_cases hlt:i < l.length /\ i < 250
  ·obtain ⟨h1,h2⟩:=hlt
   have d1:decide ((i:Int) < (l.length:Int)) = true:=decide_eq_true (by omega)
   have d1':decide (i < l.length) = true:=decide_eq_true h1
   have d2:decide ((i:Int) < 250) = true:=decide_eq_true (by omega)
   have q1:IntKind.i64.wrap ((i:Int) + 1) = (i:Int) + 1:=IntWalk.i64_in _ (by omega)
   have i0:(0:Int) <= (i:Int):=by omega
   have i1:(i:Int) < (l.length:Int):=by omega
   obtain ⟨W2,s2,bs2,Z2,Ls2,r2,laid2,told2,act2,mk2,eb,eg,eh,ew,hB,hNr,T⟩:=G.out
   obtain ⟨b9,off,rfl,hbl,ok,O1⟩:=HP.out i h1
   have hbN:b9 < N:=by rw [<- hN.out]; exact hbl
   generalize l[i] = o at *
   have DC:=movesC T (by omega) o ok (.inl ⟨g,eg⟩)
   have GN:=fun w' (G:Goes N wr w' W2 s2 (i + 1)) => Goer.next T hB eb eg eh ew G
   rw [eb] at DC
   obtain ⟨z0,z1,z2,z3,z4,z5⟩:=O1.below hB hbN
   unfold Op6.cells at DC
   by_cases h8:o.dO = 8
   ·have n8:((8:Int) != 8) = false:=rfl
    rw [h8] at z0
    have G2:=Lib.hid ((GN wr (T.stays (Below.refl _ _) (Nat.le_succ _))))
    clear HP T hB hbl O1 ok hNr DC GN G h8 eb eg eh ew
    go_wp2
    go_roundw
    case rel => exact ⟨i + 1,by simp,by omega,by omega,G2⟩
    case measure => simp [intOf] <;> omega
   ·have n8:(o.dO != 8) = true:=by rw [bne_iff_ne]; exact h8
    have n9:decide (o.dO = 8) = false:=decide_eq_false h8
    replace DC:=Lib.hid DC
    replace GN:=Lib.hid GN
    replace h8:=Lib.hid h8
    clear HP T hB hbl O1 ok hNr G eb eg eh ew
    go_wp2_with fail
    refine DC.out.mono ?_
    rintro e w3 ⟨rfl,G⟩
    have G3:=Lib.hid (GN.out _ G)
    clear G DC GN z0 z1 z2 z3 z4 z5
    go_wp2
    go_roundw
    case rel => exact ⟨i + 1,by simp,by omega,by omega,G3⟩
    case measure => simp [intOf] <;> omega
  have GE:=Lib.hid (⟨i,hi2,G.out⟩:∃ t,t <= 250 /\ Goer N W b0 (some g) (hot:Int) (warm:Int) wr t)
  clear G HP
  rcases Nat.lt_or_ge i l.length with h1 | h1
  ·have d1:decide ((i:Int) < (l.length:Int)) = true:=decide_eq_true (by omega)
   have d1':decide (i < l.length) = true:=decide_eq_true h1
   have d2:decide ((i:Int) < 250) = false:=decide_eq_false (by omega)
   clear hlt
   go_wp2
   go_ret
   exact ⟨b0,g,rfl,GE.out⟩
  ·have d1:decide ((i:Int) < (l.length:Int)) = false:=decide_eq_false (by omega)
   have d1':decide (i < l.length) = false:=decide_eq_false (by omega)
   clear hlt
   go_wp2
   go_ret
   exact ⟨b0,g,rfl,GE.out⟩
end Go.Proofs.YtngehaiigbbknaaGreat.Que
/-
  What the arguments of the laws of the Lru are: shares, lists of operations.
-/
namespace Go.Proofs.YtngehaiigbbknaaGreat.LrArg
open Go.ChangeShapes Go.WideShapes Go.ChangeAt Go.RowKit LawFrame Go.Deep ClsArg
variable {H:Type} {enc:TypeId × Value -> H}
theorem ops8_at {W:World} {fuel len cap:Nat} {A:Option Addr} {x:DataW H × List MemPlace} (h:DataW.trod enc Tryz.prog W 0 (fun _ => true) true fuel 44 [.slice A len cap] = some x) :
  ∃ l:List Que.Op6,l.length = len /\ len <= cap /\ cap <= maxLen /\ ∀ (k:Nat) (hk:k < l.length),Que.ORow W A k l[k]:=by
 obtain ⟨hl,hm,hi⟩:=fields_at Tryz.underlying44 Tryz.underlying64 (by kernel_rfl) (by kernel_rfl) (by decide) h
 obtain ⟨l,hlen,hP⟩:=list_of (fun k (p:Que.Op6) => Que.ORow W A k p) len (by
  intro k hk
  obtain ⟨b,off,n,rfl,hb,hfi⟩:=hi k hk
  obtain ⟨v0,y0,hc0,ht0⟩:=hfi 0 _ rfl
  obtain ⟨v1,y1,hc1,ht1⟩:=hfi 1 _ rfl
  obtain ⟨v2,y2,hc2,ht2⟩:=hfi 2 _ rfl
  obtain ⟨v3,y3,hc3,ht3⟩:=hfi 3 _ rfl
  obtain ⟨v4,y4,hc4,ht4⟩:=hfi 4 _ rfl
  obtain ⟨v5,y5,hc5,ht5⟩:=hfi 5 _ rfl
  obtain ⟨x0,e0, -,wx0⟩:=DataW.trod_int Tryz.underlying3 ht0
  obtain ⟨x1,e1, -,wx1⟩:=DataW.trod_int Tryz.underlying3 ht1
  obtain ⟨x2,e2, -,wx2⟩:=DataW.trod_int Tryz.underlying3 ht2
  obtain ⟨x3,e3, -,wx3⟩:=DataW.trod_int Tryz.underlying3 ht3
  obtain ⟨x4,e4, -,wx4⟩:=DataW.trod_int Tryz.underlying50 ht4
  obtain ⟨x5,e5, -⟩:=DataW.trod_bool Tryz.underlying4 ht5
  simp only [List.cons.injEq,and_true] at e0 e1 e2 e3 e4 e5
  obtain ⟨u4,e4',hu4⟩:=u64_nat wx4
  subst e4'
  subst e0 e1 e2 e3 e4 e5
  exact ⟨⟨x0,x1,x2,x3,u4,x5⟩,b,off,rfl,hb,⟨i64_bd wx0,i64_bd wx1,i64_bd wx2,i64_bd wx3,hu4⟩,hc0,hc1,hc2,hc3,hc4,hc5⟩)
 exact ⟨l,hlen,hl,hm,fun k hk => hP k hk⟩
end Go.Proofs.YtngehaiigbbknaaGreat.LrArg
/-
  The law's row: the row of a class, told by the queue.
-/
namespace Go.Proofs.YtngehaiigbbknaaGreat.Que
open Go.RowKit Base Arena Cls Itm
theorem eiHd:EI Tryz.prog 55 51 (.int .u64 0) 1 8:=EI.mk' Tryz.underlying55 (by kernel_rfl) rfl (by decide)
theorem own_uvt {t:TypeId} {w:World} {N n i x:Nat} {v:Value} {l:List Nat} (h:w.ownsRow N t 1 v n (l.map uv)) (hx:l[i]? = some x):∃ g c,v = .slice (some ⟨g,0,none⟩) n c /\ w.cell? ⟨g,i,none⟩ = some (.int .u64 (x:Int)):=by
 have hl:=h.1
 have hi:i < l.length:=(List.getElem?_eq_some_iff.1 hx).1
 rw [List.length_map] at hl
 rcases h.2 with ⟨rfl,h0⟩ | ⟨g,cap,cur,rfl,hB,hg,h1,h2,h3,h4⟩
 ·omega
 ·refine ⟨g,cap,rfl,?_⟩
  rw [cell_of_row w g i cur _ (0,0) hg]
  have h5:(l.map uv)[i]? = some (uv x):=by rw [List.getElem?_map,hx]; rfl
  rw [<- h4,List.getElem?_take] at h5
  split at h5
  ·simpa [uv] using h5
  ·cases h5
def accX (Ls:Nat -> Nat -> List Nat) (x:Int) (k:Nat):List Nat:=if k = 3 then [] else if k = 2 then revX Ls x 3 else if k = 1 then revX Ls x 3 ++ revX Ls x 2 else rowX Ls x
theorem accX_step (Ls:Nat -> Nat -> List Nat) (x:Int) {k:Nat} (h1 : 1 <= k) (h3:k <= 3):accX Ls x (k - 1) = accX Ls x k ++ revX Ls x (k:Int):=by
 have:k = 1 \/ k = 2 \/ k = 3:=by omega
 rcases this with rfl | rfl | rfl <;> rfl
theorem accX_le (Ls:Nat -> Nat -> List Nat) (x:Int) (k:Nat):(accX Ls x k).length <= (rowX Ls x).length:=by
 unfold accX rowX
 split
 ·simp
 split
 ·simp only [List.length_append]; omega
 split
 ·simp only [List.length_append]; omega
 ·exact Nat.le_refl _
theorem rowX_len (Ls:Nat -> Nat -> List Nat) (x:Int):(rowX Ls x).length = totX Ls x:=by
 unfold rowX revX totX lenX
 simp only [List.length_append,List.length_reverse]
 omega
set_option maxHeartbeats 1600000 in
theorem rowC {w:World} {L:Lay} {s:St} {bs:List UInt8} {Z:Nat -> Option Zd} {gq gl:Nat} {Ls:Nat -> Nat -> List Nat} (h:QW w L qc s bs Z gq gl Ls) {b:Nat} (hb:w.cell? ⟨b,1,none⟩ = some (.pointer (some ⟨gq,0,none⟩))) (x:Int) (ht:totX Ls x <= 900) :
  Calls Tryz.prog 22 #[.pointer (some ⟨b,0,none⟩),.int .i64 x] w fun e w' => Below w.heap.size w w' /\ ∃ A cp,e = .returned (.slice A (rowX Ls x).length cp) /\ w'.ownsRow w.heap.size 51 1 (.slice A (rowX Ls x).length cp) (rowX Ls x).length ((rowX Ls x).map uv):=by
 have hbl:b < w.heap.size:=World.block_lt_of_cell? w _ hb
 have QP:∀ w',Below w.heap.size w w' -> QW w' L qc s bs Z gq gl Ls:=fun w' k => by
  obtain ⟨F,S,q⟩:=h
  exact ⟨F,S.below k,q⟩
 have KK:∀ k:Int,KF (fun w' => Below w.heap.size w w') gq x k (revX Ls x k):=fun k => KF.of h QP x k
 have CE:∀ w',Below w.heap.size w w' -> w'.cell? ⟨b,1,none⟩ = some (.pointer (some ⟨gq,0,none⟩)):=fun w' k => (k.cell (p:=⟨b,1,none⟩) hbl).trans hb
 have ac:=fun k => accX_le Ls x k
 have rl:=rowX_len Ls x
 have st:=fun {k:Nat} (h1 : 1 <= k) (h3:k <= 3) => accX_step Ls x h1 h3
 have a3:accX Ls x 3 = []:=rfl
 have a0:accX Ls x 0 = rowX Ls x:=rfl
 generalize revX Ls x = RV at *
 generalize accX Ls x = AC at *
 have rl9:(rowX Ls x).length <= 900:=by omega
 generalize rowX Ls x = RX at *
 replace KK:=Lib.hid KK
 replace CE:=Lib.hid CE
 replace a3:=Lib.hid a3
 replace a0:=Lib.hid a0
 replace ac:=Lib.hid ac
 clear h hb QP rl ht
 go_enter Tryz.func22,Tryz.ntmps22
 go_wp2
 go_loopw [5,6] (fun vo vk wr => ∃ (k m cp:Nat) (A:Option Addr),vk = .int .i64 (k:Int) /\ k <= 3 /\ vo = .slice A m cp /\ Hid (m = (AC k).length) /\ Hid (Below w.heap.size w wr) /\ Hid (wr.ownsRow w.heap.size 51 1 (.slice A m cp) m ((AC k).map uv))) (fun _ vk _ => (intOf vk).toNat)
 case atStart => exact ⟨3,0,0,none,rfl,Nat.le_refl _,rfl,Lib.hid (by rw [a3.out]; rfl),Lib.hid (Below.refl _ _),Lib.hid (by rw [a3.out]; exact own_nil _ _ _)⟩
 case round =>
  obtain ⟨k,m,cp,A,rfl,hk3,rfl,hm,hB,ho⟩:=hrel
  by_cases hk : 1 <= k
  ·have d1:decide ((1:Int) <= (k:Int)) = true:=decide_eq_true (by omega)
   have d1':decide (1 <= k) = true:=decide_eq_true hk
   have q1:IntKind.i64.wrap ((k:Int) - 1) = ((k - 1:Nat):Int):=by rw [IntWalk.i64_in _ (by omega)]; omega
   have c1:=CE.out wr hB.out
   have hst:=st hk hk3
   have K:=KK.out (k:Int)
   generalize RV (k:Int) = R at *
   have TC:=Lib.hid (K.tc wr hB.out)
   replace K:=Lib.hid K
   replace hst:=Lib.hid hst
   go_wp2_with fail
   refine TC.out.mono ?_
   rintro e w' ⟨rfl,rfl⟩
   go_wp2_with fail
   go_loopw [5,7,8] (fun vo vh vb wr => ∃ (l1 l2:List Nat) (m cp:Nat) (A:Option Addr),vo = .slice A m cp /\ vh = .int .u64 (l2.head?.getD 0:Int) /\ vb = .bool (decide (0 < l2.length)) /\ Hid (R = l1 ++ l2) /\ Hid (m = (AC k ++ l1).length) /\ Hid (Below w.heap.size w wr) /\ Hid (wr.ownsRow w.heap.size 51 1 (.slice A m cp) m ((AC k ++ l1).map uv))) (fun vo _ _ _ => 1000 - lenV vo)
   case atStart => exact ⟨[],R,m,cp,A,rfl,rfl,rfl,Lib.hid rfl,Lib.hid (by rw [List.append_nil]; exact hm.out),hB,by rw [List.append_nil]; exact ho⟩
   case round =>
    obtain ⟨l1,l2,m2,cp2,A2,rfl,rfl,rfl,hR,hm2,hB2,ho2⟩:=hrel
    have hle:m2 + l2.length <= 900:=by
     have:=ac.out (k - 1)
     rw [hst.out,hR.out,List.length_append,List.length_append] at this
     have e2:=hm2.out
     rw [List.length_append] at e2
     omega
    cases l2 with
    | nil =>
     have e1:decide (0 < ([]:List Nat).length) = false:=rfl
     rw [e1]
     rw [List.append_nil] at hR
     have hm3:Hid (m2 = (AC (k - 1)).length):=Lib.hid (by rw [hst.out,hR.out]; exact hm2.out)
     have ho3:Hid (wr.ownsRow w.heap.size 51 1 (.slice A2 m2 cp2) m2 ((AC (k - 1)).map uv)):=Lib.hid (by rw [hst.out,hR.out]; exact ho2.out)
     clear hm2 ho2 hR e1 TC K hst
     go_wp2
     go_roundw
     case rel => exact ⟨k - 1,m2,cp2,A2,by simp,by omega,rfl,hm3,hB2,ho3⟩
     case measure => simp [intOf] <;> omega
    | cons y l2 =>
     have e1:decide (0 < (y :: l2).length) = true:=rfl
     have e0:((y :: l2).head?.getD 0) = y:=rfl
     rw [e1,e0]
     rw [List.length_cons] at hle
     have d2:decide ((m2:Int) < 1000) = true:=decide_eq_true (by omega)
     have d2':decide (m2 < 1000) = true:=decide_eq_true (by omega)
     have sz:=hB2.out.size
     clear e1 e0
     go_wp2_with (at_builtin; refine wpList_app rfl _ _ _ rfl eiHd w.heap.size _ _ _ rfl (ho2.out.alloc _) (wr.heap.size + 1) (some ⟨wr.heap.size,0,none⟩) 1 1 [.int .u64 (y:Int)] rfl ?c1 ?c2 ?c3 ?c4 ?c5 ?_)
     case c1 => exact reads_v wr _ _
     case c2 => intro u hu; rw [List.mem_singleton] at hu; subst hu; rfl
     case c3 => unfold maxLen; omega
     case c4 => omega
     case c5 => rw [World.size_alloc]; omega
     intro VV w6 own6 hg6 hat6
     obtain ⟨A6,cp6,rfl⟩:=own_is own6
     have b6:Below w.heap.size w w6:=(hB2.out.alloc sz _).grown hg6 (by rw [World.size_alloc]; omega) (fun j e => own_base ho2.out e)
     obtain ⟨-,AC6⟩:=K.out.ac w6 b6 l1 y l2 hR.out
     have c6:=CE.out w6 b6
     have own6':w6.ownsRow w.heap.size 51 1 (.slice A6 (m2 + 1) cp6) (m2 + 1) ((AC k ++ (l1 ++ [y])).map uv):=by
      have:(AC k ++ (l1 ++ [y])).map uv = (AC k).map uv ++ (l1.map uv ++ [.int .u64 (y:Int)]):=by rw [List.map_append,List.map_append]; rfl
      rw [this]; exact own6
     replace own6':=Lib.hid own6'
     replace b6:=Lib.hid b6
     replace AC6:=Lib.hid AC6
     clear own6 hg6 hat6 ho2 hB2
     go_wp2_with fail
     refine AC6.out.mono ?_
     rintro e w7 ⟨rfl,b7⟩
     have b7':=Lib.hid (b6.out.trans (b7.mono b6.out.size))
     have own7:=Lib.hid (own_keptN own6'.out fun b e => b7.block b (own_blockN own6'.out e))
     clear b7 AC6 c6 own6' b6
     go_wp2
     go_roundw
     case rel => exact ⟨l1 ++ [y],l2,m2 + 1,cp6,A6,rfl,rfl,rfl,Lib.hid (by rw [hR.out]; simp),Lib.hid (by have:=hm2.out; simp only [List.length_append,List.length_singleton] at this ⊢; omega),b7',own7⟩
     case measure => simp [lenV] <;> omega
  ·obtain rfl:k = 0:=by omega
   have d1:decide ((1:Int) <= ((0:Nat):Int)) = false:=rfl
   rw [a0.out] at hm ho
   replace d1:=Lib.hid d1
   clear hk hk3
   go_wp2
   go_ret
   exact ⟨hB.out,A,cp,by rw [<- hm.out]; rfl,by rw [<- hm.out]; exact ho.out⟩
section
variable {w:World} {L:Lay} {s:St} {bs:List UInt8} {Z:Nat -> Option Zd} {gq gl:Nat} {Ls:Nat -> Nat -> List Nat} {mk:Nat -> Nat} {g:Nat} {hot warm:Int} (h:LS w L s bs Z gq gl Ls mk g hot warm)
include h
theorem activeW {b:Nat} (hb:w.cell? ⟨b,0,none⟩ = some (.pointer (some ⟨L.g,0,none⟩))) (H:Nat) (hH:H < 18446744073709551616):Calls Tryz.prog 21 #[.pointer (some ⟨b,0,none⟩),.int .u64 (H:Int)] w fun e w' => e = .returned (.bool (actB s Z mk H)) /\ Below w.heap.size w w':=by
 have n1:=fun w e => numC6 w e
 have key:∃ (v e:Nat),(Calls Tryz.prog 46 #[.pointer (some ⟨L.g,0,none⟩),.int .u64 (H:Int)] w fun x w' => x = .returned (.tuple #[.int .i64 (v:Int),.int .i64 (e:Int)]) /\ Below w.heap.size w w') /\ v < 16 /\ ((e ≠ 0 /\ actB s Z mk H = false) \/ (e = 0 /\ v % 2 = 0 /\ actB s Z mk H = false) \/ (e = 0 /\ v % 2 = 1 /\ actB s Z mk H = true)):=by
  unfold actB isN
  cases hf:findN qc.cf s H with
  | none => exact ⟨0,20,marksNo h.q hH hf,by omega,.inl ⟨by omega,rfl⟩⟩
  | some t =>
   obtain ⟨i,x,p⟩:=t
   cases hz:Z H with
   | none => exact ⟨0,0,marksNone h.q hH hf hz,by omega,.inr (.inl ⟨rfl,rfl,rfl⟩)⟩
   | some z =>
    refine ⟨mk H,0,marksYes h.q h.m hH hf hz,(h.m H i x p hf (by rw [hz]; rfl)).2,.inr ?_⟩
    have:mk H % 2 = 0 \/ mk H % 2 = 1:=by omega
    rcases this with e | e
    ·exact .inl ⟨rfl,e,by rw [e]; rfl⟩
    ·exact .inr ⟨rfl,e,by rw [e]; rfl⟩
 obtain ⟨v,e,MC,hv,hB⟩:=key
 have a1:=and_one hv
 replace MC:=Lib.hid MC
 replace n1:=Lib.hid n1
 clear h
 rcases hB with ⟨he,hB⟩ | ⟨rfl,e1,hB⟩ | ⟨rfl,e1,hB⟩ <;> rw [hB] <;> clear hB
 ·have d1:((e:Int) == 0) = false:=by rw [beq_eq_false_iff_ne]; omega
  have d2:decide ((e:Int) = 0) = false:=decide_eq_false (by omega)
  have d3:decide (e = 0) = false:=decide_eq_false he
  go_enter Tryz.func21,Tryz.ntmps21
  go_wp2_with fail
  refine MC.out.mono ?_
  rintro x w' ⟨rfl,b⟩
  replace b:=Lib.hid b
  go_wp2_with fail
  refine (n1.out _ _).mono ?_
  rintro x w' ⟨rfl,rfl⟩
  go_wp2
  go_ret
  exact ⟨rfl,b.out⟩
 ·rw [e1] at a1
  replace e1:=Lib.hid e1
  go_enter Tryz.func21,Tryz.ntmps21
  go_wp2_with fail
  refine MC.out.mono ?_
  rintro x w' ⟨rfl,b⟩
  replace b:=Lib.hid b
  go_wp2_with fail
  refine (n1.out _ _).mono ?_
  rintro x w' ⟨rfl,rfl⟩
  go_wp2
  go_ret
  exact ⟨rfl,b.out⟩
 ·rw [e1] at a1
  replace e1:=Lib.hid e1
  go_enter Tryz.func21,Tryz.ntmps21
  go_wp2_with fail
  refine MC.out.mono ?_
  rintro x w' ⟨rfl,b⟩
  replace b:=Lib.hid b
  go_wp2_with fail
  refine (n1.out _ _).mono ?_
  rintro x w' ⟨rfl,rfl⟩
  go_wp2
  go_ret
  exact ⟨rfl,b.out⟩
end
theorem QI.head8 {c:Conf} {s:St} {Z:Nat -> Option Zd} {F:QN} {Ls:Nat -> Nat -> List Nat} (q:QI c s Z F Ls) (ok:c.cf.Ok) (g:Cls.Good c.cf s) {H:Nat} (hi:isN c s Z H = true) :
  ∃ z i x p,Z H = some z /\ findN c.cf s H = some (i,x,p) /\ z.st = stateN c s Z Ls H:=by
 have hi2:=hi
 unfold isN at hi2
 obtain ⟨⟨i,x,p⟩,hf⟩:=Option.isSome_iff_exists.1 (Bool.and_eq_true_iff.1 hi2).1
 obtain ⟨z,hz⟩:=Option.isSome_iff_exists.1 (Bool.and_eq_true_iff.1 hi2).2
 refine ⟨z,i,x,p,hz,hf,?_⟩
 by_cases h0:stK (clsN c s H) Ls H = 0
 ·have hz4:z = ⟨4,0,0⟩:=q.out H z ⟨i,x,p,hf⟩ hz (q.not_stK h0)
  subst hz4
  unfold stateN
  rw [if_pos h0,if_pos hi]
 ·obtain ⟨z',hz', -,h1, -, -⟩:=q.links ok g h0
  rw [hz] at hz'
  injection hz' with hz'
  subst hz'
  unfold stateN
  rw [if_neg h0]
  exact h1
theorem QI.next8 {c:Conf} {s:St} {Z:Nat -> Option Zd} {F:QN} {Ls:Nat -> Nat -> List Nat} (q:QI c s Z F Ls) (ok:c.cf.Ok) (g:Cls.Good c.cf s) {x k H:Nat} (hx:x < c.nc) (hk:k < 3) {l1 l2:List Nat} (hl:Ls x k = l1 ++ H :: l2) :
  H < 18446744073709551616 /\ nextN c s Ls H = l2.head?.getD 0 /\ decide (nextN c s Ls H ≠ 0) = decide (0 < l2.length):=by
 obtain ⟨e1,e2,e3⟩:=q.next_in ok g hx hk hl
 exact ⟨e3,e1,e2⟩
theorem stateN_cg {s:St} {Z Z':Nat -> Option Zd} {Ls:Nat -> Nat -> List Nat} {H:Nat} (h:∀ K,(Z' K).isSome = (Z K).isSome):stateN qc s Z' Ls H = stateN qc s Z Ls H:=by
 unfold stateN
 rw [isN_congr h]
section
variable {N:Nat} {w:World} {W:W6} {s:St} {bs:List UInt8} {Z:Nat -> Option Zd} {Ls:Nat -> Nat -> List Nat} {r:RS} {laid told act:List Nat} {mk:Nat -> Nat} {t:Nat} (h:LI N w W s bs Z Ls r laid told act mk t) (ht:t <= 60000) {g:Nat} (hg:W.gm = some g)
include h ht hg
theorem LI.cells8:w.cell? ⟨W.b,0,none⟩ = some (.pointer (some ⟨W.L.g,0,none⟩)) /\ w.cell? ⟨W.b,1,none⟩ = some (.pointer (some ⟨W.gq,0,none⟩)) /\ w.cell? ⟨W.b,2,none⟩ = some (.pointer (some ⟨g,0,none⟩)) /\ w.cell? ⟨W.b,4,none⟩ = some (.pointer (some ⟨W.R.b,0,none⟩)) /\ ∃ d,W.dm = some d /\ w.cell? ⟨W.b,5,none⟩ = some (.pointer (some ⟨d,0,none⟩)):=by
 have B:=h.wat.own
 unfold W6.cells at B
 rw [hg] at B
 obtain ⟨d,ed⟩:=h.dmS
 rw [ed] at B
 exact ⟨B.cell 0,B.cell 1,B.cell 2,B.cell 4,d,ed,B.cell 5⟩
theorem lengthC8 (x:Int):Calls Tryz.prog 49 #[.pointer (some ⟨W.b,0,none⟩),.int .i64 x] w fun e w' => e = .returned (.bool true) /\ Below w.heap.size w w':=by
 obtain ⟨d,ed⟩:=h.dmS
 have LC:=lenC3 (h.wat.ls hg) x
 have LD:=fun w1 (b:Below w.heap.size w w1) => ((h.below b).dx ht).lenD ed x
 have CE:=fun w1 (b:Below w.heap.size w w1) => (h.below b).cells8 ht hg
 obtain ⟨-, -,y2, -, -⟩:=h.cells8 ht hg
 generalize lenX Ls x 1 = n1 at *
 generalize lenX Ls x 2 = n2 at *
 generalize lenX Ls x 3 = n3 at *
 have e1:((n1:Int) == (n1:Int)) = true:=by simp
 have e2:((n2:Int) == (n2:Int)) = true:=by simp
 have e3:((n3:Int) == (n3:Int)) = true:=by simp
 replace LC:=Lib.hid LC
 replace LD:=Lib.hid LD
 replace CE:=Lib.hid CE
 have ed2:=Lib.hid ed
 clear h hg ed
 go_enter Tryz.func49,Tryz.ntmps49
 go_wp2_with fail
 refine LC.out.mono ?_
 rintro e w1 ⟨rfl,b1⟩
 obtain ⟨-, -, -, -,d',ed',y5⟩:=CE.out w1 b1
 obtain rfl:d = d':=by rw [ed2.out] at ed'; injection ed'
 have LD1:=Lib.hid (LD.out w1 b1)
 replace b1:=Lib.hid b1
 clear y2 LC ed'
 go_wp2_with fail
 refine LD1.out.mono ?_
 rintro e w2 ⟨rfl,b2⟩
 have b12:=Lib.hid (b1.out.trans (b2.mono b1.out.size))
 clear b1 b2 LD1
 go_wp2
 go_ret
 exact ⟨rfl,b12.out⟩
theorem LI.toldA:∃ A cp,∀ w2,Below w.heap.size w w2 -> w2.cell? ⟨W.b,6,none⟩ = some (.slice A told.length cp) /\ ∀ (i x:Nat),told[i]? = some x -> ∃ g,A = some ⟨g,0,none⟩ /\ w2.cell? ⟨g,i,none⟩ = some (.int .u64 (x:Int)) /\ x < 18446744073709551616:=by
 obtain ⟨A,cp,hv⟩:=own_is h.wat.told
 refine ⟨A,cp,fun w2 b => ?_⟩
 have h2:=h.below b
 have B:=h2.wat.own
 have own:=h2.wat.told
 unfold W6.cells at B
 rw [hv] at B own
 refine ⟨B.cell 6,fun i x hx => ?_⟩
 obtain ⟨g,c',hv2,u⟩:=own_uv own hx
 injection hv2 with e1 e2 e3
 exact ⟨g,e1,u,h.tlt x (List.mem_of_getElem? hx)⟩
set_option maxHeartbeats 1600000 in
theorem headerC8 (H:Nat) (hH:H < 18446744073709551616):Calls Tryz.prog 50 #[.pointer (some ⟨W.b,0,none⟩),.int .u64 (H:Int)] w fun e w' => e = .returned (.bool true) /\ Below w.heap.size w w':=by
 obtain ⟨Zd,ez,d6⟩:=(h.dx ht).d6
 have IC:=is6C d6 H
 rw [isN_congr ez] at IC
 obtain ⟨y0, -, -,y4,d,ed,y5⟩:=h.cells8 ht hg
 have n0:=fun w => numC6 w 0
 by_cases hi:isN qc s Z H = false
 ·rw [hi] at IC
  replace IC:=Lib.hid IC
  clear h hi y0 y5 hg ez d6
  go_enter Tryz.func50,Tryz.ntmps50
  go_wp2_with fail
  refine IC.out.mono ?_
  rintro e w' ⟨rfl,m,hw⟩
  replace hw:=Lib.hid hw
  go_wp2
  go_ret
  exact ⟨rfl,by rw [<- hw.out]; exact below_drewN (Below.refl _ _) m⟩
 ·have hi:isN qc s Z H = true:=by simpa using hi
  rw [hi] at IC
  have hq:=h.wat.q
  obtain ⟨F,S,q⟩:=hq
  obtain ⟨z,i,x,p,hz,hf,e1⟩:=q.head8 S.okc S.zs.good hi
  have C1:=fun w1 (b:Below w.heap.size w w1) => zStateYes (S.below b).zs (H:=H) hH hf
  have C2:=fun w1 (b:Below w.heap.size w w1) => marksYes ((h.below b).wat.ls hg).q ((h.below b).wat.ls hg).m hH hf hz
  have SC:∀ w1,Below w.heap.size w w1 -> Calls Tryz.prog 95 #[.pointer (some ⟨W.R.b,0,none⟩),.int .u64 (H:Int)] w1 fun e w' => e = .returned (.int .i64 (stateN qc s Z Ls H:Int)) /\ ∃ m,w1.drewN m = w':=fun w1 b => by
   obtain ⟨Zd,ez,d6⟩:=((h.below b).dx ht).d6
   have:=state6C d6 H
   rw [stateN_cg ez] at this
   exact this
  have DI:=fun w1 (b:Below w.heap.size w w1) => ((h.below b).dx ht).isD ed H
  have CE:=fun w1 (b:Below w.heap.size w w1) => (h.below b).cells8 ht hg
  obtain ⟨A,cp,TC⟩:=h.toldA ht hg
  have htl:=h.tl
  have eq0:zst (Z H) = stateN qc s Z Ls H:=by rw [hz]; exact e1
  rw [eq0] at C1
  have hm:mk H = 2 * (markN (lastN told H) / 2) + (if decide (H ∈ act) = true then 1 else 0):=by
   have h1:=h.ab H hi
   have h2:=h.mr H hi
   by_cases hA:H ∈ act
   ·rw [decide_eq_true hA,if_pos rfl]
    have:=h1.1 hA
    omega
   ·rw [decide_eq_false hA,if_neg (by decide)]
    have:¬ mk H % 2 = 1:=fun e => hA (h1.2 e)
    omega
  have ed2:=Lib.hid ed
  generalize stateN qc s Z Ls H = st at *
  generalize mk H = mH at *
  obtain ⟨aB,haB⟩:∃ aB,aB = decide (H ∈ act):=⟨_,rfl⟩
  rw [<- haB] at hm
  have DI:∀ w1,Below w.heap.size w w1 -> Calls Tryz.prog 67 #[.pointer (some ⟨d,0,none⟩),.int .u64 (H:Int)] w1 fun e w' => e = .returned (.bool aB) /\ w1 = w':=by rw [haB]; exact DI
  obtain ⟨n,hn⟩:∃ n,n = told.length:=⟨_,rfl⟩
  rw [<- hn] at TC htl
  replace IC:=Lib.hid IC
  replace C1:=Lib.hid C1
  replace C2:=Lib.hid C2
  replace SC:=Lib.hid SC
  replace DI:=Lib.hid DI
  replace CE:=Lib.hid CE
  replace TC:=Lib.hid TC
  replace hm:=Lib.hid hm
  replace hn:=Lib.hid hn
  replace haB:=Lib.hid haB
  clear h hi q S hz hf e1 eq0 y0 y5 hg ez d6 ed
  go_enter Tryz.func50,Tryz.ntmps50
  go_wp2_with fail
  refine IC.out.mono ?_
  rintro e w1 ⟨rfl,m,hw⟩
  have b1:Below w.heap.size w w1:=by rw [<- hw]; exact below_drewN (Below.refl _ _) m
  obtain ⟨y6,TT⟩:=TC.out w1 b1
  replace TT:=Lib.hid TT
  replace b1:=Lib.hid b1
  replace hw:=Lib.hid hw
  clear IC y4
  go_wp2_with fail
  go_loopw [5,6] (fun vn vi wx => ∃ i m:Nat,vi = .int .i64 (i:Int) /\ vn = .int .i64 (m:Int) /\ i <= n /\ Hid (m = lastN (told.take i) H) /\ w1 = wx) (fun _ vi _ => n - (intOf vi).toNat)
  case atStart => exact ⟨0,0,rfl,rfl,Nat.zero_le _,Lib.hid rfl,rfl⟩
  case round =>
   obtain ⟨i,m2,rfl,rfl,hi2,hl,rfl⟩:=hrel
   by_cases hin:i < n
   ·obtain ⟨x2,hx⟩:∃ x,told[i]? = some x:=⟨told[i]'(by rw [<- hn.out]; exact hin),List.getElem?_eq_getElem _⟩
    obtain ⟨g2,rfl,u, -⟩:=TT.out i x2 hx
    have k0:(0:Int) <= (i:Int):=by omega
    have k1:(i:Int) < (n:Int):=by omega
    have d1:decide ((i:Int) < (n:Int)) = true:=decide_eq_true k1
    have d1':decide (i < n) = true:=decide_eq_true hin
    have q1:IntKind.i64.wrap ((i:Int) + 1) = ((i + 1:Nat):Int):=by rw [IntWalk.i64_in _ (by omega)]; omega
    have ht2:told.take (i + 1) = told.take i ++ [x2]:=by rw [List.take_add_one,hx]; rfl
    have hln:(told.take i).length = i:=by rw [List.length_take, <- hn.out]; omega
    by_cases hxH:x2 = H
    ·have e1:((x2:Int) == (H:Int)) = true:=by rw [beq_iff_eq]; omega
     have e2:decide ((x2:Int) = (H:Int)) = true:=decide_eq_true (by omega)
     have R1:Hid (i + 1 = lastN (told.take (i + 1)) H):=Lib.hid (by rw [ht2,lastN_app,if_pos hxH,hln])
     replace hxH:=Lib.hid hxH
     replace hx:=Lib.hid hx
     clear ht2 hln hl
     go_wp2
     go_roundw
     case rel => exact ⟨i + 1,i + 1,rfl,rfl,by omega,R1,by first | rfl | trivial⟩
     case measure => simp [intOf] <;> omega
    ·have e1:((x2:Int) == (H:Int)) = false:=by rw [beq_eq_false_iff_ne]; omega
     have e2:decide ((x2:Int) = (H:Int)) = false:=decide_eq_false (by omega)
     have R1:Hid (m2 = lastN (told.take (i + 1)) H):=Lib.hid (by rw [ht2,lastN_app,if_neg hxH]; exact hl.out)
     replace hxH:=Lib.hid hxH
     replace hx:=Lib.hid hx
     clear ht2 hln hl
     go_wp2
     go_roundw
     case rel => exact ⟨i + 1,m2,rfl,rfl,by omega,R1,by first | rfl | trivial⟩
     case measure => simp [intOf] <;> omega
   ·obtain rfl:i = n:=by omega
    have d1:decide ((i:Int) < (i:Int)) = false:=by simp
    have d1':decide (i < i) = false:=by simp
    have hl2:m2 = lastN told H:=by rw [hl.out,List.take_of_length_le (by rw [<- hn.out]; exact Nat.le_refl _)]
    have hlle:m2 <= i:=by
     rw [hl2,hn.out]
     clear hl hl2 hn hm TC TT
     induction told with
     | nil => exact Nat.le_refl _
     | cons a l ih =>
      unfold lastN
      split
      ·simp only [List.length_cons]; omega
      ·split
       ·simp only [List.length_cons]; omega
       ·exact Nat.zero_le _
    have hm2:=hm.out
    rw [<- hl2] at hm2
    obtain ⟨mm,hmm⟩:∃ mm,mm = markN m2:=⟨_,rfl⟩
    have hm16:mm < 16:=by rw [hmm]; unfold markN; omega
    have MF:=marksF m2 (by omega) w1
    rw [<- hmm] at MF hm2
    obtain ⟨-, -, -, -,d',ed',y5⟩:=CE.out w1 b1.out
    obtain rfl:d = d':=by rw [ed2.out] at ed'; injection ed'
    have q2:IntKind.i64.wrap ((mm:Int) / 2 * 2) = ((2 * (mm / 2):Nat):Int):=by rw [IntWalk.i64_in _ (by omega)]; omega
    have q3:IntKind.i64.wrap (((2 * (mm / 2):Nat):Int) + 1) = ((2 * (mm / 2) + 1:Nat):Int):=by rw [IntWalk.i64_in _ (by omega)]; omega
    have DI1:=DI.out w1 b1.out
    have C11:=Lib.hid (C1.out w1 b1.out)
    have C2':=C2.out
    have SC':=SC.out
    have CE':=CE.out
    obtain ⟨y0, -, -, -, -⟩:=CE.out w1 b1.out
    generalize 2 * (mm / 2) = m3 at *
    cases aB
    all_goals
     (try simp only [Bool.false_eq_true,if_false,if_true,Nat.add_zero] at hm2)
     subst hm2
     replace MF:=Lib.hid MF
     replace DI1:=Lib.hid DI1
     replace C2':=Lib.hid C2'
     replace SC':=Lib.hid SC'
     replace CE':=Lib.hid CE'
     clear hl hl2 hm C1 C2 SC DI CE TC TT ed' hlle hmm
     go_wp2_with fail
     refine MF.out.mono ?_
     rintro e w' ⟨rfl,rfl⟩
     go_wp2_with fail
     refine DI1.out.mono ?_
     rintro e w' ⟨rfl,rfl⟩
     go_wp2_with fail
     refine C11.out.mono ?_
     rintro e w2 ⟨rfl,b2⟩
     have b12:=b1.out.trans (b2.mono b1.out.size)
     obtain ⟨y0, -, -, -, -⟩:=CE'.out w2 b12
     have C22:=Lib.hid (C2'.out w2 b12)
     replace b12:=Lib.hid b12
     clear C11 b2 MF DI1 y6
     go_wp2_with fail
     refine C22.out.mono ?_
     rintro e w3 ⟨rfl,b3⟩
     have b13:=b12.out.trans (b3.mono b12.out.size)
     obtain ⟨-, -, -,y4, -⟩:=CE'.out w3 b13
     have S3:=Lib.hid (SC'.out w3 b13)
     replace b13:=Lib.hid b13
     clear C22 b3 b12 y0
     go_wp2_with fail
     refine (n0 _).mono ?_
     rintro e w' ⟨rfl,rfl⟩
     go_wp2_with fail
     refine (n0 _).mono ?_
     rintro e w' ⟨rfl,rfl⟩
     go_wp2_with fail
     refine S3.out.mono ?_
     rintro e w5 ⟨rfl,m5,hw5⟩
     replace hw5:=Lib.hid hw5
     go_wp2
     go_ret
     exact ⟨rfl,b13.out.trans (by rw [<- hw5.out]; exact below_drewN ((Below.refl _ _).mono b13.out.size) m5)⟩
end
theorem acc_own {w:World} {N:Nat} {A:Option Addr} {m cp:Nat} {l:List Nat} (h:w.ownsRow N 50 1 (.slice A m cp) m (l.map uv)) {i x:Nat} (hx:l[i]? = some x):∃ g,A = some ⟨g,0,none⟩ /\ w.cell? ⟨g,i,none⟩ = some (.int .u64 (x:Int)):=by
 obtain ⟨g,c',hv,u⟩:=own_uv h hx
 injection hv with e1 e2 e3
 exact ⟨g,e1,u⟩
section
variable {N:Nat} {w:World} {W:W6} {s:St} {bs:List UInt8} {Z:Nat -> Option Zd} {Ls Ld:Nat -> Nat -> List Nat} {r:RS} {laid told act:List Nat} {mk:Nat -> Nat} (h:DX N w W s bs Z Ls Ld r laid told act mk) {dm:Nat} (ed:W.dm = some dm)
include h ed
end
structure KB (P:World -> Prop) (gq:Nat) (x k:Int) (R:List Nat):Prop where
 small:R.length <= 134217729
 hc:∀ w,P w -> Calls Tryz.prog 63 #[.pointer (some ⟨gq,0,none⟩),.int .i64 x,.int .i64 k] w fun e w' => e = .returned (.tuple #[.int .u64 (R.head?.getD 0:Int),.bool (decide (0 < R.length))]) /\ w = w'
 bc:∀ w,P w -> ∀ (l1:List Nat) (y:Nat) (l2:List Nat),R = l1 ++ y :: l2 -> y < 18446744073709551616 /\ Calls Tryz.prog 64 #[.pointer (some ⟨gq,0,none⟩),.int .u64 (y:Int)] w fun e w' => e = .returned (.tuple #[.int .u64 (l2.head?.getD 0:Int),.bool (decide (0 < l2.length))]) /\ Below w.heap.size w w'
theorem KB.of {P:World -> Prop} {L:Lay} {s:St} {bs:List UInt8} {Z:Nat -> Option Zd} {gq gl:Nat} {Ls:Nat -> Nat -> List Nat} {w0:World} (h:QW w0 L qc s bs Z gq gl Ls) (hP:∀ w,P w -> QW w L qc s bs Z gq gl Ls) (x k:Int):KB P gq x k (lsN qc Ls x k):=by
 refine ⟨?_,fun w p => headC (hP w p) x k,fun w p l1 y l2 hl => ?_⟩
 ·unfold lsN
  split
  ·rename_i hv
   obtain ⟨F,S1,q⟩:=h
   rw [<- q.n _ _ (by omega) (by omega)]
   exact q.nB S1.okc S1.zs.good (by omega) (by omega)
  ·simp
 ·have Q:=hP w p
  have Q':=Q
  obtain ⟨F,S1,q⟩:=Q'
  unfold lsN at hl
  split at hl
  ·rename_i hv
   obtain ⟨e3,e1,e2⟩:=q.next8 S1.okc S1.zs.good (by omega) (by omega) hl
   have:=behindC Q y e3
   rw [e2,e1] at this
   exact ⟨e3,this⟩
  ·simp at hl
section
variable {N:Nat} {w:World} {W:W6} {s:St} {bs:List UInt8} {Z:Nat -> Option Zd} {Ls:Nat -> Nat -> List Nat} {r:RS} {laid told act:List Nat} {mk:Nat -> Nat} {t:Nat} (h:LI N w W s bs Z Ls r laid told act mk t) (ht:t <= 60000) {g:Nat} (hg:W.gm = some g)
include h ht hg
set_option maxHeartbeats 3200000 in
theorem queuesC8:Calls Tryz.prog 27 #[.pointer (some ⟨W.b,0,none⟩)] w fun e w' => e = .returned (.bool true) /\ Below w.heap.size w w':=by
 have LC:=fun w2 (b:Below w.heap.size w w2) x => lengthC8 (h.below b) ht hg x
 have CE:=fun w2 (b:Below w.heap.size w w2) => (h.below b).cells8 ht hg
 have AC:∀ w2,Below w.heap.size w w2 -> ∀ x k:Int,Calls Tryz.prog 62 #[.pointer (some ⟨W.R.b,0,none⟩),.int .i64 x,.int .i64 k] w2 fun e w' => ∃ A cp,e = .returned (.slice A (lsN qc Ls x k).length cp) /\ Below w2.heap.size w2 w' /\ w'.ownsRow w2.heap.size 50 1 (.slice A (lsN qc Ls x k).length cp) (lsN qc Ls x k).length ((lsN qc Ls x k).map uv):=fun w2 b x k => by
  obtain ⟨Zd, -,d⟩:=((h.below b).dx ht).d6
  exact d.all x k
 have KK:=fun x k:Int => KB.of (P:=fun w2 => Below w.heap.size w w2) h.wat.q (fun w2 b => (h.below b).wat.q) x k
 generalize lsN qc Ls = LN at *
 replace LC:=Lib.hid LC
 replace CE:=Lib.hid CE
 replace AC:=Lib.hid AC
 replace KK:=Lib.hid KK
 clear h hg
 go_enter Tryz.func27,Tryz.ntmps27
 go_wp2
 go_loopw [3] (fun v wr => ∃ c:Nat,v = .int .i64 (c:Int) /\ c <= 3 /\ Hid (Below w.heap.size w wr)) (fun v _ => 3 - (intOf v).toNat)
 case atStart => exact ⟨0,rfl,by omega,Lib.hid (Below.refl _ _)⟩
 case round =>
  obtain ⟨c,rfl,hc,hB⟩:=hrel
  by_cases hc3:c < 3
  ·have d1:decide ((c:Int) < 3) = true:=decide_eq_true (by omega)
   have d1':decide (c < 3) = true:=decide_eq_true hc3
   have q1:IntKind.i64.wrap ((c:Int) + 1) = ((c + 1:Nat):Int):=by rw [IntWalk.i64_in _ (by omega)]; omega
   go_wp2_with fail
   refine (LC.out _ hB.out (c:Int)).mono ?_
   rintro e w1 ⟨rfl,b1⟩
   have hB1:=Lib.hid (hB.out.trans (b1.mono hB.out.size))
   clear b1 hB
   go_wp2_with fail
   go_loopw [4] (fun v wr => ∃ k:Nat,v = .int .i64 (k:Int) /\ 1 <= k /\ k <= 4 /\ Hid (Below w.heap.size w wr)) (fun v _ => 4 - (intOf v).toNat)
   case atStart => exact ⟨1,rfl,by omega,by omega,hB1⟩
   case round =>
    obtain ⟨k,rfl,hk1,hk4,hB⟩:=hrel
    by_cases hk:k <= 3
    ·have d2:decide ((k:Int) <= 3) = true:=decide_eq_true (by omega)
     have d2':decide (k <= 3) = true:=decide_eq_true hk
     have q2:IntKind.i64.wrap ((k:Int) + 1) = ((k + 1:Nat):Int):=by rw [IntWalk.i64_in _ (by omega)]; omega
     have A1:=AC.out _ hB.out (c:Int) (k:Int)
     have K1:=KK.out (c:Int) (k:Int)
     obtain ⟨-, -, -,y4, -⟩:=CE.out _ hB.out
     generalize LN (c:Int) (k:Int) = R at *
     have sm:=K1.small
     obtain ⟨n,hn⟩:∃ n,n = R.length:=⟨_,rfl⟩
     rw [<- hn] at A1 sm
     replace A1:=Lib.hid A1
     replace K1:=Lib.hid K1
     replace hn:=Lib.hid hn
     go_wp2_with fail
     refine A1.out.mono ?_
     rintro e w2 ⟨A,cp,rfl,b2,own2⟩
     have hB2:=hB.out.trans (b2.mono hB.out.size)
     obtain ⟨-,y1, -, -, -⟩:=CE.out _ hB2
     have H1:=K1.out.hc w2 hB2
     have at_:∀ w3,Below w2.heap.size w2 w3 -> ∀ (i x:Nat),R[i]? = some x -> ∃ g,A = some ⟨g,0,none⟩ /\ w3.cell? ⟨g,i,none⟩ = some (.int .u64 (x:Int)):=fun w3 b i x hx => by
      obtain ⟨g,e,u⟩:=acc_own own2 hx
      exact ⟨g,e,(b.cell (p:=⟨g,i,none⟩) (World.block_lt_of_cell? w2 _ u)).trans u⟩
     replace hB2:=Lib.hid hB2
     replace H1:=Lib.hid H1
     replace at_:=Lib.hid at_
     clear A1 b2 own2 y4 hB
     go_wp2_with fail
     refine H1.out.mono ?_
     rintro e w' ⟨rfl,rfl⟩
     clear H1
     go_wp2_with fail
     go_loopw [6,7,8] (fun vh vo vi wr => ∃ (l1 l2:List Nat),vh = .int .u64 (l2.head?.getD 0:Int) /\ vo = .bool (decide (0 < l2.length)) /\ vi = .int .i64 (l1.length:Int) /\ Hid (R = l1 ++ l2) /\ Hid (Below w2.heap.size w2 wr)) (fun _ _ vi _ => n - (intOf vi).toNat)
     case atStart => exact ⟨[],R,rfl,rfl,rfl,Lib.hid rfl,Lib.hid (Below.refl _ _)⟩
     case round =>
      obtain ⟨l1,l2,rfl,rfl,rfl,hR,hB3⟩:=hrel
      have hlen:n = l1.length + l2.length:=by rw [hn.out,hR.out,List.length_append]
      cases l2 with
      | nil =>
       have e1:decide (0 < ([]:List Nat).length) = false:=rfl
       have d3:decide ((l1.length:Int) < (n:Int)) = false:=decide_eq_false (by rw [hlen]; simp)
       have d3':decide (l1.length < n) = false:=decide_eq_false (by rw [hlen]; simp)
       have hBf:=Lib.hid (hB2.out.trans (hB3.out.mono hB2.out.size))
       rw [e1]
       replace hlen:=Lib.hid hlen
       clear hB3
       go_wp2
       go_roundw
       case rel => exact ⟨k + 1,by simp,by omega,by omega,hBf⟩
       case measure => simp [intOf] <;> omega
      | cons y l2 =>
       have e1:decide (0 < (y :: l2).length) = true:=rfl
       have e0:((y :: l2).head?.getD 0) = y:=rfl
       rw [e1,e0]
       rw [List.length_cons] at hlen
       obtain ⟨g2,rfl,u⟩:=at_.out _ hB3.out l1.length y (by rw [hR.out]; simp)
       obtain ⟨hyl,BC⟩:=K1.out.bc _ (hB2.out.trans (hB3.out.mono hB2.out.size)) l1 y l2 hR.out
       obtain ⟨-,y1', -, -, -⟩:=CE.out _ (hB2.out.trans (hB3.out.mono hB2.out.size))
       obtain ⟨i,hi⟩:∃ i,i = l1.length:=⟨_,rfl⟩
       rw [<- hi] at u hlen ⊢
       have k0:(0:Int) <= (i:Int):=by omega
       have k1:(i:Int) < (n:Int):=by omega
       have d3:decide ((i:Int) < (n:Int)) = true:=decide_eq_true k1
       have d3':decide (i < n) = true:=decide_eq_true (by omega)
       have q3:IntKind.i64.wrap ((i:Int) + 1) = ((i + 1:Nat):Int):=by rw [IntWalk.i64_in _ (by omega)]; omega
       have e3:((y:Int) != (y:Int)) = false:=by simp
       replace BC:=Lib.hid BC
       replace hi:=Lib.hid hi
       replace hlen:=Lib.hid hlen
       clear e1 e0 y1
       go_wp2_with fail
       refine BC.out.mono ?_
       rintro e w4 ⟨rfl,b4⟩
       have hB4:=Lib.hid (hB3.out.trans (b4.mono hB3.out.size))
       clear b4 BC hB3
       go_wp2
       go_roundw
       case rel => exact ⟨l1 ++ [y],l2,rfl,rfl,by rw [List.length_append, <- hi.out]; rfl,Lib.hid (by rw [hR.out]; simp),hB4⟩
       case measure => have:=hlen.out; simp [intOf] <;> omega
    ·obtain rfl:k = 4:=by omega
     have d2:decide (((4:Nat):Int) <= 3) = false:=rfl
     go_wp2
     go_roundw
     case rel => exact ⟨c + 1,by simp,by omega,hB⟩
     case measure => simp [intOf] <;> omega
  ·obtain rfl:c = 3:=by omega
   go_wp2
   go_ret
   exact ⟨rfl,hB.out⟩
set_option maxHeartbeats 1600000 in
theorem endsC8:Calls Tryz.prog 25 #[.pointer (some ⟨W.b,0,none⟩)] w fun e w' => e = .returned (.bool true) /\ Below w.heap.size w w':=by
 have LC:=fun w2 (b:Below w.heap.size w w2) x => lengthC8 (h.below b) ht hg x
 have QC:=fun w2 (b:Below w.heap.size w w2) => queuesC8 (h.below b) ht hg
 have HC:=fun w2 (b:Below w.heap.size w w2) H hH => headerC8 (h.below b) ht hg H hH
 have htl:=h.tl
 obtain ⟨A,cp,TC⟩:=h.toldA ht hg
 obtain ⟨n,hn⟩:∃ n,n = told.length:=⟨_,rfl⟩
 rw [<- hn] at TC htl
 replace LC:=Lib.hid LC
 replace QC:=Lib.hid QC
 replace HC:=Lib.hid HC
 replace TC:=Lib.hid TC
 replace hn:=Lib.hid hn
 clear h hg
 go_enter Tryz.func25,Tryz.ntmps25
 go_wp2
 go_loopw [3] (fun v wr => ∃ k:Nat,v = .int .i64 (k:Int) /\ k <= n /\ Hid (Below w.heap.size w wr)) (fun v _ => n - (intOf v).toNat)
 case atStart => exact ⟨0,rfl,by omega,Lib.hid (Below.refl _ _)⟩
 case round =>
  obtain ⟨k,rfl,hk1,hB⟩:=hrel
  obtain ⟨y6,TT⟩:=TC.out _ hB.out
  by_cases hk:k < n
  ·obtain ⟨x,hx⟩:∃ x,told[k]? = some x:=⟨told[k]'(by rw [<- hn.out]; exact hk),List.getElem?_eq_getElem _⟩
   obtain ⟨g2,rfl,u,hlt⟩:=TT k x hx
   have k0:(0:Int) <= (k:Int):=by omega
   have k1:(k:Int) < (n:Int):=by omega
   have d1:decide ((k:Int) < (n:Int)) = true:=decide_eq_true k1
   have d1':decide (k < n) = true:=decide_eq_true hk
   have q2:IntKind.i64.wrap ((k:Int) + 1) = ((k + 1:Nat):Int):=by rw [IntWalk.i64_in _ (by omega)]; omega
   have HC1:=Lib.hid (HC.out _ hB.out x hlt)
   replace hx:=Lib.hid hx
   clear TT
   go_wp2_with fail
   refine HC1.out.mono ?_
   rintro e w2 ⟨rfl,b2⟩
   have hB2:=Lib.hid (hB.out.trans (b2.mono hB.out.size))
   clear b2 hB
   go_wp2
   go_roundw
   case rel => exact ⟨k + 1,by simp,by omega,hB2⟩
   case measure => simp [intOf] <;> omega
  ·obtain rfl:k = n:=by omega
   have d1:decide ((k:Int) < (k:Int)) = false:=by simp
   have d1':decide (k < k) = false:=by simp
   have Q1:=Lib.hid (QC.out _ hB.out)
   clear TT hk
   go_wp2_with fail
   refine Q1.out.mono ?_
   rintro e w2 ⟨rfl,b2⟩
   have hB2:=hB.out.trans (b2.mono hB.out.size)
   have L1:=Lib.hid (LC.out _ hB2 (-1))
   replace hB2:=Lib.hid hB2
   clear b2 hB Q1 y6
   go_wp2_with fail
   refine L1.out.mono ?_
   rintro e w3 ⟨rfl,b3⟩
   have hB3:=hB2.out.trans (b3.mono hB2.out.size)
   have L2:=Lib.hid (LC.out _ hB3 3)
   replace hB3:=Lib.hid hB3
   clear b3 hB2 L1
   go_wp2_with fail
   refine L2.out.mono ?_
   rintro e w4 ⟨rfl,b4⟩
   have hB4:=Lib.hid (hB3.out.trans (b4.mono hB3.out.size))
   clear b4 hB3 L2
   go_wp2
   go_ret
   exact ⟨rfl,hB4.out⟩
end
theorem seenN_sub {D:Nat -> Bool}:∀ {k:Nat} {l:List Nat} {y:Nat},y ∈ seenN D k l -> y ∈ l
 | 0,_,_,h => by cases h
 | _ + 1,[],_,h => by cases h
 | k + 1,b :: l,y,h => by
  have h:y ∈ b :: (if D b = true then [] else seenN D k l):=h
  rcases List.mem_cons.1 h with e | e
  ·exact e ▸ List.mem_cons_self ..
  ·split at e
   ·cases e
   ·exact List.mem_cons_of_mem _ (seenN_sub e)
theorem row_isN {w:World} {L:Lay} {s:St} {bs:List UInt8} {Z:Nat -> Option Zd} {gq gl:Nat} {Ls:Nat -> Nat -> List Nat} (h:QW w L qc s bs Z gq gl Ls) (x:Int):∀ y ∈ rowX Ls x,isN qc s Z y = true:=by
 obtain ⟨F,S,q⟩:=h
 have one:∀ k:Int,∀ y ∈ revX Ls x k,isN qc s Z y = true:=fun k y hy => by
  unfold revX lsN at hy
  split at hy
  ·rename_i hv
   rw [List.mem_reverse] at hy
   have hm:=hy
   obtain ⟨i,j,p,hf,hc⟩:=q.it x.toNat (k.toNat - 1) y (by omega) (by omega) hm
   have ec:clsN qc s y = x.toNat:=by unfold clsN; rw [hf]; exact hc
   have h0:stK (clsN qc s y) Ls y ≠ 0:=fun e => stK_zero e (k.toNat - 1) (by omega) (by rw [ec]; exact hm)
   obtain ⟨z,hz,hI, -⟩:=q.links S.okc S.zs.good h0
   exact isN_it hI
  ·simp at hy
 intro y hy
 unfold rowX at hy
 rw [List.mem_append,List.mem_append] at hy
 rcases hy with (h1 | h1) | h1
 ·exact one _ y h1
 ·exact one _ y h1
 ·exact one _ y h1
section
variable {N:Nat} {w:World} {W:W6} {s:St} {bs:List UInt8} {Z:Nat -> Option Zd} {Ls:Nat -> Nat -> List Nat} {r:RS} {laid told act:List Nat} {mk:Nat -> Nat} {t:Nat} (h:LI N w W s bs Z Ls r laid told act mk t) (ht:t <= 60000) {g:Nat} (hg:W.gm = some g)
include h ht hg
end
theorem three_rev {l:List Nat} (h:l.length = 3):∃ c b a,l = [c,b,a] /\ l.reverse = [a,b,c]:=by
 match l,h with
 | [c,b,a],_ => exact ⟨c,b,a,rfl,rfl⟩
theorem wpAnyH_weak {P:Program} {md:Region.Mode} {ops:Array Oper} {Q:Exit -> Act -> World -> Prop} {S S':World -> Prop} (hS:∀ w,S' w -> S w):∀ (fuel:Nat) (listed:Array Bool) (a:Act) (w:World),wpAnyH P md ops Q S' fuel listed a w -> wpAnyH P md ops Q S fuel listed a w
 | 0,_,_,_,h => h
 | fuel + 1,_,_,_,h => ⟨h.1,fun i hi => wpOp_mono (fun a' w' h' => ⟨hS w' h'.1,wpAnyH_weak hS fuel _ a' w' h'.2⟩) (h.2 i hi)⟩
set_option maxHeartbeats 3200000 in
theorem wakesC (w:World):Calls Tryz.prog 15 #[] w fun e w' => e = .returned (.bool true) /\ Below w.heap.size w w':=by
 have BC:=begunC8 w 33 33 (by unfold Cls.In; decide) (by unfold Cls.In; decide)
 have n1:=fun w => numC6 w 0
 obtain ⟨N,hN⟩:∃ N,N = w.heap.size:=⟨_,rfl⟩
 rw [<- hN] at BC ⊢
 replace hN:=Lib.hid hN
 replace BC:=Lib.hid BC
 go_enter Tryz.func15,Tryz.ntmps15
 go_wp2_with fail
 refine BC.out.mono ?_
 rintro e w1 ⟨b1,W,g,d,rfl,hg,hd,hh,hw,A1⟩
 have R1:WLx N w w1 W g d [] []:=⟨_,_,_,_,_,_,_,b1,by rw [<- tri_one,oneL_nil]; exact A1,⟨by simp,by simp,by simp,by simp⟩,rel_new _,.inl ⟨rfl,rfl⟩,by simp,by show 0 <= _; omega,by simp,by simp,hg,hd,by rw [hh]; rfl,by rw [hw]; rfl,by simp⟩
 replace R1:=Lib.hid R1
 clear b1 hg hd hh hw A1 BC
 obtain ⟨b,hb⟩:∃ b,b = W.b:=⟨_,rfl⟩
 rw [<- hb]
 replace hb:=Lib.hid hb
 go_wp2_with fail
 go_loopw [2] (fun vi wr => ∃ (i:Nat) (W':W6) (l:List Nat),vi = .int .i64 (i:Int) /\ i <= 3 /\ Hid (W'.b = b) /\ Hid (l.length = i) /\ Hid (WLx N w wr W' g d l.reverse l)) (fun vi _ => 3 - (intOf vi).toNat)
 case atStart => exact ⟨0,W,[],rfl,Nat.zero_le _,Lib.hid hb.out.symm,Lib.hid rfl,R1⟩
 case round =>
  obtain ⟨i,W',l,rfl,hi,eb,hl,R⟩:=hrel
  clear R1
  by_cases hin:i < 3
  ·have d1:decide ((i:Int) < 3) = true:=decide_eq_true (by omega)
   have q1:IntKind.i64.wrap ((i:Int) + 1) = (i:Int) + 1:=IntWalk.i64_in _ (by omega)
   have bd:Below wr.heap.size wr wr.drew:=below_drewN (Below.refl _ _) 1
   have MC:=(R.out.below bd).make (by rw [List.length_reverse,hl.out]; omega)
   rw [eb.out] at MC
   obtain ⟨i2,hi2⟩:∃ i2,i2 = i + 1:=⟨_,rfl⟩
   have key:∀ w3 W3 H,W3.b = b -> H ∉ l.reverse -> WLx N w w3 W3 g d (l.reverse ++ [H]) l -> ∃ gT cT,(w3.cell? ⟨b,2,none⟩ = some (.pointer (some ⟨g,0,none⟩)) /\ w3.cell? ⟨b,6,none⟩ = some (.slice (some ⟨gT,0,none⟩) i2 cT) /\ w3.cell? ⟨gT,i,none⟩ = some (.int .u64 (H:Int))) /\
     Calls Tryz.prog 36 #[.pointer (some ⟨g,0,none⟩),.int .u64 (H:Int)] w3 fun e w' => e = .returned (.int .i64 0) /\ WLx N w w' W3 g d (H :: l).reverse (H :: l) /\ (w'.cell? ⟨b,2,none⟩ = some (.pointer (some ⟨g,0,none⟩)) /\ w'.cell? ⟨b,6,none⟩ = some (.slice (some ⟨gT,0,none⟩) i2 cT) /\ w'.cell? ⟨gT,i,none⟩ = some (.int .u64 (H:Int))):=by
    intro w3 W3 H eb3 hnH R3
    have key2:∀ v (k:List Nat),WLx N w v W3 g d (l.reverse ++ [H]) k -> v.cell? ⟨b,2,none⟩ = some (.pointer (some ⟨g,0,none⟩)) /\ v.cell? ⟨b,6,none⟩ = some W3.vT /\ ∃ gT cT,W3.vT = .slice (some ⟨gT,0,none⟩) i2 cT /\ v.cell? ⟨gT,i,none⟩ = some (.int .u64 (H:Int)):=by
     intro v k Rv
     obtain ⟨c2,c6,T3, -, -⟩:=Rv.cW
     rw [eb3] at c2 c6
     obtain ⟨gT,cT,hvT,u3⟩:=own_uv (i:=i) (x:=H) T3 (by rw [List.getElem?_append_right (by rw [List.length_reverse,hl.out]; exact Nat.le_refl _),List.length_reverse,hl.out,Nat.sub_self]; rfl)
     rw [List.length_append,List.length_singleton,List.length_reverse,hl.out, <- hi2] at hvT
     exact ⟨c2,c6,gT,cT,hvT,u3⟩
    obtain ⟨c2,c6,gT,cT,hvT,u3⟩:=key2 w3 l R3
    refine ⟨gT,cT,⟨c2,by rw [c6,hvT],u3⟩,?_⟩
    have EC:=R3.enter (H:=H) (by simp) (fun e => hnH (by simpa using e))
    refine EC.mono ?_
    rintro e w' ⟨rfl,R4⟩
    obtain ⟨k2,k6,gT',cT',hv',u4⟩:=key2 w' _ R4
    have e5:=hvT.symm.trans hv'
    injection e5 with e6 e7 e8
    injection e6 with e6
    injection e6 with e6
    rw [List.reverse_cons]
    exact ⟨rfl,R4,k2,by rw [k6,hvT],by rw [e6]; exact u4⟩
   have q2:((i2:Int) != (i:Int) + 1) = false:=by rw [bne_eq_false_iff_eq]; omega
   have q3:((i2:Int) == (i:Int) + 1) = true:=by rw [beq_iff_eq]; omega
   have q4:decide ((i2:Int) = (i:Int) + 1) = true:=decide_eq_true (by omega)
   have i0:(0:Int) <= (i:Int):=by omega
   have i1:(i:Int) < (i2:Int):=by omega
   replace MC:=Lib.hid MC
   replace key:=Lib.hid key
   replace hi2:=Lib.hid hi2
   clear R bd
   go_upto_region 7 with fail
   go_cut [47] from 18 to 47 (fun s47 wx => s47 = .bool false /\ ∃ (W3:W6) (H:Nat),Hid (W3.b = b) /\ Hid (WLx N w wx W3 g d (H :: l).reverse (H :: l)))
   case first =>
    refine wp_region_noPanic ?_
    refine wp_region_held_drew (S:=fun _ => True) (by kernel_rfl) trivial (fun hHeld => ?_)
    refine tkh (i:=0) (v:=?_) rfl ?_ ?_
    rotate_left
    ·try simp only [qA,qS,qZ]
     rintro w -
     go_simp
     (try with_reducible rfl)
    try simp only [qA,qS,qZ,Act.put,qT,qO,qN]
    refine tkh (i:=1) (v:=?_) rfl ?_ ?_
    rotate_left
    ·try simp only [qA,qS,qZ]
     rintro w -
     go_simp
     (try with_reducible rfl)
    try simp only [qA,qS,qZ,Act.put,qT,qO,qN]
    refine wpAnyH_ready (rs:=[2]) (by kernel_rfl) (by simp) ?_
    refine AllReadyH.cons (o:=_) rfl (fun K hK => ?_) ?_
    ·try simp only [qA,qS,qZ]
     go_simp
     go_at_call 42
     refine MC.out.mono ?_
     rintro e w3 ⟨rfl,W3,H,eb3,hnH,R3⟩
     obtain ⟨gT,cT,S3,EC⟩:=key.out w3 W3 H eb3 hnH R3
     replace EC:=Lib.hid EC
     replace eb3:=Lib.hid eb3
     clear R3 MC key hnH
     go_wp2_with fail
     refine hK.out _ _ trivial (fun hHeld => ?_)
     clear hK K hHeld
     try simp only [qA,qS,qZ,Act.put,qT,qO,qN]
     refine wpAnyH_weak (S':=fun v => v.cell? ⟨b,2,none⟩ = some (.pointer (some ⟨g,0,none⟩)) /\ v.cell? ⟨b,6,none⟩ = some (.slice (some ⟨gT,0,none⟩) i2 cT) /\ v.cell? ⟨gT,i,none⟩ = some (.int .u64 (H:Int))) (fun _ _ => trivial) _ _ _ _ ?_
     refine tkh (i:=3) (v:=?_) rfl ?_ ?_
     rotate_left
     ·try simp only [qA,qS,qZ]
      rintro w ⟨hS1,hS2,hS3⟩
      go_simp
      (try with_reducible rfl)
     try simp only [qA,qS,qZ,Act.put,qT,qO,qN]
     refine tkh (i:=4) (v:=?_) rfl ?_ ?_
     rotate_left
     ·try simp only [qA,qS,qZ]
      rintro w ⟨hS1,hS2,hS3⟩
      go_simp
      (try with_reducible rfl)
     try simp only [qA,qS,qZ,Act.put,qT,qO,qN]
     refine tkh (i:=5) (v:=?_) rfl ?_ ?_
     rotate_left
     ·try simp only [qA,qS,qZ]
      rintro w ⟨hS1,hS2,hS3⟩
      go_simp
      (try with_reducible rfl)
     try simp only [qA,qS,qZ,Act.put,qT,qO,qN]
     refine tkh (i:=6) (v:=?_) rfl ?_ ?_
     rotate_left
     ·try simp only [qA,qS,qZ]
      rintro w ⟨hS1,hS2,hS3⟩
      go_simp
      (try with_reducible rfl)
     try simp only [qA,qS,qZ,Act.put,qT,qO,qN]
     refine tkh (i:=7) (v:=?_) rfl ?_ ?_
     rotate_left
     ·try simp only [qA,qS,qZ]
      rintro w ⟨hS1,hS2,hS3⟩
      go_simp
      (try with_reducible rfl)
     try simp only [qA,qS,qZ,Act.put,qT,qO,qN]
     refine tkh (i:=8) (v:=?_) rfl ?_ ?_
     rotate_left
     ·try simp only [qA,qS,qZ]
      rintro w ⟨hS1,hS2,hS3⟩
      go_simp
      (try with_reducible rfl)
     try simp only [qA,qS,qZ,Act.put,qT,qO,qN]
     refine tkh (i:=9) (v:=?_) rfl ?_ ?_
     rotate_left
     ·try simp only [qA,qS,qZ]
      rintro w ⟨hS1,hS2,hS3⟩
      go_simp
      (try with_reducible rfl)
     try simp only [qA,qS,qZ,Act.put,qT,qO,qN]
     refine tkh (i:=10) (v:=?_) rfl ?_ ?_
     rotate_left
     ·try simp only [qA,qS,qZ]
      rintro w ⟨hS1,hS2,hS3⟩
      go_simp
      (try with_reducible rfl)
     try simp only [qA,qS,qZ,Act.put,qT,qO,qN]
     refine tkh (i:=11) (v:=?_) rfl ?_ ?_
     rotate_left
     ·try simp only [qA,qS,qZ]
      rintro w ⟨hS1,hS2,hS3⟩
      go_simp
      (try with_reducible rfl)
     try simp only [qA,qS,qZ,Act.put,qT,qO,qN]
     refine tkh (i:=12) (v:=?_) rfl ?_ ?_
     rotate_left
     ·try simp only [qA,qS,qZ]
      rintro w ⟨hS1,hS2,hS3⟩
      go_simp
      (try with_reducible rfl)
     try simp only [qA,qS,qZ,Act.put,qT,qO,qN]
     refine tkh (i:=13) (v:=?_) rfl ?_ ?_
     rotate_left
     ·try simp only [qA,qS,qZ]
      rintro w ⟨hS1,hS2,hS3⟩
      go_simp
      (try with_reducible rfl)
     try simp only [qA,qS,qZ,Act.put,qT,qO,qN]
     refine tkh (i:=14) (v:=?_) rfl ?_ ?_
     rotate_left
     ·try simp only [qA,qS,qZ]
      rintro w ⟨hS1,hS2,hS3⟩
      go_simp
      (try with_reducible rfl)
     try simp only [qA,qS,qZ,Act.put,qT,qO,qN]
     refine tkh (i:=15) (v:=?_) rfl ?_ ?_
     rotate_left
     ·try simp only [qA,qS,qZ]
      rintro w ⟨hS1,hS2,hS3⟩
      go_simp
      (try with_reducible rfl)
     try simp only [qA,qS,qZ,Act.put,qT,qO,qN]
     refine tkh (i:=16) (v:=?_) rfl ?_ ?_
     rotate_left
     ·try simp only [qA,qS,qZ]
      rintro w ⟨hS1,hS2,hS3⟩
      go_simp
      (try with_reducible rfl)
     try simp only [qA,qS,qZ,Act.put,qT,qO,qN]
     refine tkh (i:=17) (v:=?_) rfl ?_ ?_
     rotate_left
     ·try simp only [qA,qS,qZ]
      rintro w ⟨hS1,hS2,hS3⟩
      go_simp
      (try with_reducible rfl)
     try simp only [qA,qS,qZ,Act.put,qT,qO,qN]
     refine tkh (i:=18) (v:=?_) rfl ?_ ?_
     rotate_left
     ·try simp only [qA,qS,qZ]
      rintro w ⟨hS1,hS2,hS3⟩
      go_simp
      (try with_reducible rfl)
     try simp only [qA,qS,qZ,Act.put,qT,qO,qN]
     refine tkh (i:=19) (v:=?_) rfl ?_ ?_
     rotate_left
     ·try simp only [qA,qS,qZ]
      rintro w ⟨hS1,hS2,hS3⟩
      go_simp
      (try with_reducible rfl)
     try simp only [qA,qS,qZ,Act.put,qT,qO,qN]
     refine tkh (i:=20) (v:=?_) rfl ?_ ?_
     rotate_left
     ·try simp only [qA,qS,qZ]
      rintro w ⟨hS1,hS2,hS3⟩
      go_simp
      (try with_reducible rfl)
     try simp only [qA,qS,qZ,Act.put,qT,qO,qN]
     refine tkh (i:=21) (v:=?_) rfl ?_ ?_
     rotate_left
     ·try simp only [qA,qS,qZ]
      rintro w ⟨hS1,hS2,hS3⟩
      go_simp
      (try with_reducible rfl)
     try simp only [qA,qS,qZ,Act.put,qT,qO,qN]
     refine tkh (i:=22) (v:=?_) rfl ?_ ?_
     rotate_left
     ·try simp only [qA,qS,qZ]
      rintro w ⟨hS1,hS2,hS3⟩
      go_simp
      (try with_reducible rfl)
     try simp only [qA,qS,qZ,Act.put,qT,qO,qN]
     refine tkh (i:=23) (v:=?_) rfl ?_ ?_
     rotate_left
     ·try simp only [qA,qS,qZ]
      rintro w ⟨hS1,hS2,hS3⟩
      go_simp
      (try with_reducible rfl)
     try simp only [qA,qS,qZ,Act.put,qT,qO,qN]
     refine tkh (i:=24) (v:=?_) rfl ?_ ?_
     rotate_left
     ·try simp only [qA,qS,qZ]
      rintro w ⟨hS1,hS2,hS3⟩
      go_simp
      (try with_reducible rfl)
     try simp only [qA,qS,qZ,Act.put,qT,qO,qN]
     refine tkh (i:=25) (v:=?_) rfl ?_ ?_
     rotate_left
     ·try simp only [qA,qS,qZ]
      rintro w ⟨hS1,hS2,hS3⟩
      go_simp
      (try with_reducible rfl)
     try simp only [qA,qS,qZ,Act.put,qT,qO,qN]
     refine wpAnyH_ready (rs:=[26]) (by kernel_rfl) (by simp) ?_
     refine AllReadyH.cons (o:=_) rfl (fun K hK => ?_) ?_
     ·try simp only [qA,qS,qZ]
      go_simp
      go_at_call 36
      refine EC.out.mono ?_
      rintro e w4 ⟨rfl,R4,S4⟩
      replace R4:=Lib.hid R4
      clear EC
      go_wp2_with fail
      refine hK.out _ _ S4 (fun hHeld => ?_)
      clear hK K hHeld
      try simp only [qA,qS,qZ,Act.put,qT,qO,qN]
      refine wpAnyH_ready (rs:=[27]) (by kernel_rfl) (by simp) ?_
      refine AllReadyH.cons (o:=_) rfl (fun K hK => ?_) ?_
      ·try simp only [qA,qS,qZ]
       go_simp
       go_at_call 14
       refine (n1 _).mono ?_
       rintro e w' ⟨rfl,rfl⟩
       go_wp2_with fail
       refine hK.out _ _ S4 (fun hHeld => ?_)
       clear hK K hHeld
       try simp only [qA,qS,qZ,Act.put,qT,qO,qN]
       refine tkh (i:=28) (v:=?_) rfl ?_ ?_
       rotate_left
       ·try simp only [qA,qS,qZ]
        rintro w ⟨hS1,hS2,hS3⟩
        go_simp
        (try with_reducible rfl)
       try simp only [qA,qS,qZ,Act.put,qT,qO,qN]
       refine tkh (i:=29) (v:=?_) rfl ?_ ?_
       rotate_left
       ·try simp only [qA,qS,qZ]
        rintro w ⟨hS1,hS2,hS3⟩
        go_simp
        (try with_reducible rfl)
       try simp only [qA,qS,qZ,Act.put,qT,qO,qN]
       refine wpAnyH_done (by kernel_rfl) ?_ _
       refine NoPanic.normal ?_
       clear S3 S4
       go_wp2_with fail
       go_meet
       exact ⟨rfl,W3,H,eb3,R4⟩
      exact AllReadyH.nil
     exact AllReadyH.nil
    exact AllReadyH.nil
   case rest =>
    obtain ⟨rfl,W3,H,eb3,R4⟩:=hcut
    rename World => w4
    go_wp2
    go_roundw
    case rel => exact ⟨i + 1,W3,H :: l,by simp,by omega,eb3,Lib.hid (by rw [List.length_cons,hl.out]),R4⟩
    case measure => simp [intOf] <;> omega
  ·obtain rfl:i = 3:=by omega
   have d1:decide (((3:Nat):Int) < 3) = false:=by decide
   obtain ⟨c,m,a,rfl,hr3⟩:=three_rev hl.out
   have R':=R.out
   rw [hr3] at R'
   have BL:=R'.balance
   rw [eb.out] at BL
   obtain ⟨c2, -, -, -, -⟩:=R'.cW
   rw [eb.out] at c2
   obtain ⟨a64,a0⟩:=R'.lt (H:=a) (by simp)
   obtain ⟨-,m0⟩:=R'.lt (H:=m) (by simp)
   obtain ⟨-,c0⟩:=R'.lt (H:=c) (by simp)
   replace BL:=Lib.hid BL
   replace eb:=Lib.hid eb.out
   replace a0:=Lib.hid a0
   replace m0:=Lib.hid m0
   replace c0:=Lib.hid c0
   clear R R' hr3 hl
   go_wp2_with fail
   refine BL.out.mono ?_
   rintro e w2 ⟨rfl,b2,s,bs,Z,mk,L,gq,gl,S2,ea,hN2,k2,k6,T2,bl2⟩
   (try rw [eb.out] at k2)
   (try rw [eb.out] at k6)
   have PC:=pickC S2 0 0 5 (by unfold Cls.In; decide)
   obtain ⟨p1,p2⟩:=pick_three (A:=actB s Z mk) a0.out m0.out c0.out (actB_even ea)
   rw [tri_row,show ([m,a].reverse ++ ([]:List Nat).reverse ++ [c].reverse) = [a,m,c] from rfl,p1,p2] at PC
   clear p1 p2
   have LC:=fun v (bv:Below w2.heap.size w2 v) => lenC3 (S2.below bv) 0
   obtain ⟨t1,t2,t3⟩:=tri_len [c] [] [m,a]
   rw [t1,t2,t3] at LC
   obtain ⟨gT,cT,hvT,u0⟩:=own_uv (i:=0) (x:=a) T2 rfl
   rw [hvT,show [a,m,c].length = 3 from rfl] at k6
   replace PC:=Lib.hid PC
   replace LC:=Lib.hid LC
   replace b2:=Lib.hid b2
   replace hvT:=Lib.hid hvT
   clear S2 T2 ea t1 t2 t3 BL c2
   go_wp2_with fail
   refine PC.out.mono ?_
   rintro e w3 ⟨rfl,b3⟩
   have k2':=(b3.cell (p:=⟨b,2,none⟩) (World.block_lt_of_cell? _ _ k2)).trans k2
   have k6':=(b3.cell (p:=⟨b,6,none⟩) (World.block_lt_of_cell? _ _ k6)).trans k6
   have u0':=(b3.cell (p:=⟨gT,0,none⟩) (World.block_lt_of_cell? _ _ u0)).trans u0
   have LC3:=Lib.hid (LC.out w3 b3)
   have b13:=b2.out.trans (b3.mono hN2)
   have hN3:=Nat.le_trans hN2 b3.size
   replace b13:=Lib.hid b13
   clear k2 k6 u0 b3 b2 PC LC
   go_wp2_with fail
   refine LC3.out.mono ?_
   rintro e w4 ⟨rfl,b4⟩
   have k6:=(b4.cell (p:=⟨b,6,none⟩) (World.block_lt_of_cell? _ _ k6')).trans k6'
   have u0:=(b4.cell (p:=⟨gT,0,none⟩) (World.block_lt_of_cell? _ _ u0')).trans u0'
   have b14:=Lib.hid (b13.out.trans (b4.mono hN3))
   clear k2' k6' u0' b4 b13
   go_wp2
   go_ret
   exact ⟨rfl,b14.out⟩
def deadL:List Nat -> List Bool -> Nat -> Bool
 | y :: r,d :: ds,z => if y = z then d else deadL r ds z
 | _,_,_ => false
theorem deadL_hit:∀ {row:List Nat} {ds:List Bool} {k z:Nat} {d:Bool},row[k]? = some z -> ds[k]? = some d -> z ∉ row.take k -> deadL row ds z = d
 | y :: r,e :: ds,0,z,d,h1,h2,_ => by
  injection h1 with h1
  injection h2 with h2
  subst h1 h2
  exact if_pos rfl
 | y :: r,e :: ds,k + 1,z,d,h1,h2,h3 => by
  have hne:¬ y = z:=fun e => h3 (by rw [List.take_succ_cons,e]; exact List.mem_cons_self ..)
  show (if y = z then e else deadL r ds z) = d
  rw [if_neg hne]
  exact deadL_hit (k:=k) (by simpa using h1) (by simpa using h2) (fun h => h3 (by rw [List.take_succ_cons]; exact List.mem_cons_of_mem _ h))
 | [],_,_,_,_,h1,_,_ => by simp at h1
 | _ :: _,[],_,_,_,_,h2,_ => by simp at h2
theorem deadL_no:∀ {row:List Nat} {ds:List Bool} {k z:Nat},row.length <= k \/ ds.length <= k -> z ∉ row.take k -> deadL row ds z = false
 | [],_,_,_,_,_ => by unfold deadL; rfl
 | _ :: _,[],_,_,_,_ => by unfold deadL; rfl
 | y :: r,e :: ds,0,z,h,_ => by simp at h
 | y :: r,e :: ds,k + 1,z,h,h3 => by
  have hne:¬ y = z:=fun e => h3 (by rw [List.take_succ_cons,e]; exact List.mem_cons_self ..)
  show (if y = z then e else deadL r ds z) = false
  rw [if_neg hne]
  exact deadL_no (k:=k) (by simpa using h) (fun h => h3 (by rw [List.take_succ_cons]; exact List.mem_cons_of_mem _ h))
set_option maxHeartbeats 1600000 in
theorem spareC {X:World} {Br N0:Nat} {A Ad:Option Addr} {cp cd:Nat} {row:List Nat} {ds:List Bool} (hr:row.length <= 402653187) (hd:ds.length <= maxLen)
  (cr:X.cell? ⟨Br,0,none⟩ = some (.slice A row.length cp)) (cD:X.cell? ⟨N0,6,none⟩ = some (.slice Ad ds.length cd))
  (ar:∀ (k x:Nat),row[k]? = some x -> ∃ g,A = some ⟨g,0,none⟩ /\ X.cell? ⟨g,k,none⟩ = some (.int .u64 (x:Int)))
  (ad:∀ (k:Nat) (d:Bool),ds[k]? = some d -> ∃ g off,Ad = some ⟨g,off,none⟩ /\ X.cell? ⟨g,off + k,none⟩ = some (.bool d)) (y:Nat) :
  Calls Tryz.prog 32 #[.int .u64 (y:Int),.pointer (some ⟨Br,0,none⟩),.pointer (some ⟨N0,0,none⟩)] X fun e X' => e = .returned (.bool (deadL row ds y)) /\ X = X':=by
 unfold maxLen at hd
 obtain ⟨n,hn⟩:∃ n,n = row.length:=⟨_,rfl⟩
 obtain ⟨m,hm⟩:∃ m,m = ds.length:=⟨_,rfl⟩
 rw [<- hn] at cr hr
 rw [<- hm] at cD hd
 replace ar:=Lib.hid ar
 replace ad:=Lib.hid ad
 replace hn:=Lib.hid hn
 replace hm:=Lib.hid hm
 go_enter Tryz.func32,Tryz.ntmps32
 go_wp2
 go_loopw [5] (fun vi wr => ∃ k:Nat,vi = .int .i64 (k:Int) /\ k <= n /\ k <= m /\ Hid (y ∉ row.take k) /\ X = wr) (fun vi _ => n - (intOf vi).toNat)
 case atStart => exact ⟨0,rfl,Nat.zero_le _,Nat.zero_le _,Lib.hid (by simp),rfl⟩
 case round =>
  obtain ⟨k,rfl,hk,hk2,hno,rfl⟩:=hrel
  by_cases hkn:k < n /\ k < m
  ·obtain ⟨h1,h2⟩:=hkn
   obtain ⟨x,hx⟩:∃ x,row[k]? = some x:=⟨row[k]'(by rw [<- hn.out]; exact h1),List.getElem?_eq_getElem _⟩
   obtain ⟨d,hdd⟩:∃ d,ds[k]? = some d:=⟨ds[k]'(by rw [<- hm.out]; exact h2),List.getElem?_eq_getElem _⟩
   obtain ⟨g,rfl,cl⟩:=ar.out k x hx
   obtain ⟨g2,off,rfl,cl2⟩:=ad.out k d hdd
   have k0:(0:Int) <= (k:Int):=by omega
   have k1:(k:Int) < (n:Int):=by omega
   have k2:(k:Int) < (m:Int):=by omega
   have d1:decide ((k:Int) < (n:Int)) = true:=decide_eq_true k1
   have d2:decide ((k:Int) < (m:Int)) = true:=decide_eq_true k2
   have q1:IntKind.i64.wrap ((k:Int) + 1) = (k:Int) + 1:=IntWalk.i64_in _ (by omega)
   by_cases hxH:x = y
   ·have e2:((x:Int) == (y:Int)) = true:=by rw [beq_iff_eq]; omega
    have e3:decide ((x:Int) = (y:Int)) = true:=decide_eq_true (by omega)
    have hres:deadL row ds y = d:=deadL_hit (by rw [<- hxH]; exact hx) hdd hno.out
    replace hres:=Lib.hid hres
    replace hx:=Lib.hid hx
    replace hdd:=Lib.hid hdd
    replace hxH:=Lib.hid hxH
    go_wp2
    go_ret
    exact ⟨by rw [hres.out]; rfl,rfl⟩
   ·have e2:((x:Int) == (y:Int)) = false:=by rw [beq_eq_false_iff_ne]; omega
    have e3:decide ((x:Int) = (y:Int)) = false:=decide_eq_false (by omega)
    have hno2:y ∉ row.take (k + 1):=by
     rw [List.take_add_one,hx]
     intro e
     rcases List.mem_append.1 e with e | e
     ·exact hno.out e
     ·simp at e
      exact hxH e.symm
    replace hno2:=Lib.hid hno2
    replace hx:=Lib.hid hx
    replace hdd:=Lib.hid hdd
    replace hxH:=Lib.hid hxH
    clear hno
    go_wp2
    go_roundw
    case rel => exact ⟨k + 1,by simp,by omega,by omega,hno2,by first | rfl | trivial⟩
    case measure => simp [intOf] <;> omega
  ·have hres:deadL row ds y = false:=deadL_no (k:=k) (by rw [<- hn.out, <- hm.out]; omega) hno.out
   have tst:(decide ((k:Int) < (n:Int)) = true /\ decide ((k:Int) < (m:Int)) = false /\ decide (k < n) = true /\ decide (k < m) = false) \/ (decide ((k:Int) < (n:Int)) = false /\ decide (k < n) = false):=by
    by_cases h1:k < n
    ·exact .inl ⟨decide_eq_true (by omega),decide_eq_false (by omega),decide_eq_true h1,decide_eq_false (by omega)⟩
    ·exact .inr ⟨decide_eq_false (by omega),decide_eq_false h1⟩
   replace hres:=Lib.hid hres
   clear hkn
   rcases tst with ⟨t1,t2,t3,t4⟩ | ⟨t1,t2⟩
   ·go_wp2
    go_ret
    exact ⟨by rw [hres.out]; rfl,rfl⟩
   ·go_wp2
    go_ret
    exact ⟨by rw [hres.out]; rfl,rfl⟩
def fromI (p:Nat -> Bool) (l:List Nat) (i:Nat):Int:=match (l.drop i).findIdx? p with | some j => ((i + j:Nat):Int) | none => -1
theorem fromI_end {p:Nat -> Bool} {l:List Nat}:fromI p l l.length = -1:=by unfold fromI; rw [List.drop_length]; rfl
theorem fromI_step {p:Nat -> Bool} {l:List Nat} {i x:Nat} (hx:l[i]? = some x):fromI p l i = if p x = true then (i:Int) else fromI p l (i + 1):=by
 have hi:=(List.getElem?_eq_some_iff.1 hx).1
 have e:l.drop i = x :: l.drop (i + 1):=by
  rw [List.drop_eq_getElem_cons hi]
  rw [List.getElem?_eq_getElem hi] at hx
  injection hx with hx
  rw [hx]
 unfold fromI
 rw [e,List.findIdx?_cons]
 cases hp:p x with
 | true => simp
 | false =>
  simp only [Bool.false_eq_true,if_false]
  cases (l.drop (i + 1)).findIdx? p with
  | none => rfl
  | some j => simp; omega
theorem spare_at {A:Nat -> Bool} {l:List Nat} (h:l ≠ []) :
  0 <= fromI (fun y => decide (y = calmN A l)) l 0 /\ (fromI (fun y => !A y) l 0 = fromI (fun y => decide (y = calmN A l)) l 0 \/ fromI (fun y => !A y) l 0 < 0 /\ fromI (fun y => decide (y = calmN A l)) l 0 = 0):=by
 unfold fromI calmN
 simp only [List.drop_zero,Nat.zero_add]
 cases e:l.findIdx? (fun y => !A y) with
 | none =>
  have hf:l.find? (fun y => !A y) = none:=by
   rw [List.find?_eq_none]
   rw [List.findIdx?_eq_none_iff] at e
   intro x hx
   simp [e x hx]
  rw [hf]
  cases l with
  | nil => exact absurd rfl h
  | cons b l =>
   have:(b :: l).findIdx? (fun y => decide (y = (none:Option Nat).getD ((b :: l).head?.getD 0))) = some 0:=by
    rw [List.findIdx?_cons]
    simp
   rw [this]
   simp
 | some j =>
  obtain ⟨hj,hp,hlt⟩:=List.findIdx?_eq_some_iff_getElem.1 e
  have hf:l.find? (fun y => !A y) = some l[j]:=by
   rw [List.find?_eq_some_iff_getElem]
   exact ⟨hp,j,hj,rfl,fun k hk => by have:=hlt k hk; simpa using this⟩
  rw [hf]
  have:l.findIdx? (fun y => decide (y = (some l[j]).getD (l.head?.getD 0))) = some j:=by
   rw [List.findIdx?_eq_some_iff_getElem]
   refine ⟨hj,by simp,fun k hk => ?_⟩
   have h1:=hlt k hk
   simp at h1 hp ⊢
   intro e2
   rw [e2,hp] at h1
   cases h1
  rw [this]
  simp
theorem seen_stop {D:Nat -> Bool} {own k:Nat} {pre l S0:List Nat} {y:Nat} (hS:othN own pre = S0 ++ [y]) (hk:S0.length < k) (h:∀ z ∈ S0,D z = false) (hd:D y = true):seenN D k (othN own (pre ++ l)) = S0 ++ [y]:=by
 rw [othN_app,hS,List.append_assoc,seenN_app _ h (Nat.le_of_lt hk)]
 obtain ⟨j,hj⟩:∃ j,k - S0.length = j + 1:=⟨k - S0.length - 1,by omega⟩
 rw [hj]
 show _ ++ (y :: (if D y = true then [] else seenN D j (othN own l))) = _
 rw [if_pos hd]
end Go.Proofs.YtngehaiigbbknaaGreat.Que
