/-
  Contracts and lemmas, joined: LruMoves, LruMoves2, LruScript, LruArgs, LruWRow, LruActive, LruWakes, LruRestsLaw, LruWalk, LruVisit, LruLook, LruDoc4, LruEnds, LruPickLaw, LruSpare, RoundQuiet, RoundTail.
-/
import Derived.Sort.QuietTacIn
import Derived.OwnWalkIn
import Derived.StillTail
import Derived.Test.YtngehaiigbbknaaGreatW1
import Derived.Test.YtngehaiigbbknaaGreatW11
import Derived.Test.YtngehaiigbbknaaGreatW12
import Derived.Test.YtngehaiigbbknaaGreatW15
set_option linter.unusedSimpArgs false
set_option linter.unusedVariables false
set_option linter.unusedSectionVars false
set_option maxRecDepth 100000
/-
  The law's moves.
-/
namespace Go.Proofs.YtngehaiigbbknaaGreat.Que
open Go.RowKit Base Arena Cls Itm
def Hf (N:Nat) (w1 v:World) (W:W6) (s:St) (bs:List UInt8) (Z:Nat -> Option Zd) (Ls Ld:Nat -> Nat -> List Nat) (r:RS) (laid told act:List Nat) (mk:Nat -> Nat):Prop :=
 ∃ bs' Z' W1,bs'.length = bs.length /\ (∀ H,(Z' H).isSome = (Z H).isSome) /\ (∃ R' vA',W1 = { W with R:=R',vA:=vA' } /\ R'.b = W.R.b) /\ Grew qc w1 v W W1 s s /\ DX N v W1 s bs' Z' Ls Ld r laid told act mk
theorem QL.cg {s:St} {Z Z':Nat -> Option Zd} {L:Nat -> Nat -> List Nat} (h:QL s Z L) (z:∀ H,(Z' H).isSome = (Z H).isSome):QL s Z' L:=by
 obtain ⟨Z1,F,e,q⟩:=h
 exact ⟨Z1,F,fun K => (e K).trans (z K).symm,q⟩
section
variable {N:Nat} {w1 v:World} {W:W6} {s:St} {bs:List UInt8} {Z:Nat -> Option Zd} {Ls Ld:Nat -> Nat -> List Nat} {r:RS} {laid told act:List Nat} {mk:Nat -> Nat} (h:Hf N w1 v W s bs Z Ls Ld r laid told act mk)
include h
theorem Hf.cells {N0:Nat} {o:Op6} (B:Blk w1 N0 64 o.cells) (hn:∀ i,¬ W.foot qc s i N0):Cmv W.b N0 W.gm W.dm W.L.g W.gq W.R.b o v:=by
 obtain ⟨bs',Z',W1,e1,z1,⟨R',vA',rfl,eb⟩,G,D⟩:=h
 have BO:=D.wat.own
 have B0:=(G.away B.lt hn).1.trans B
 have c4:=BO.cell 4
 refine ⟨⟨BO.cell 0,BO.cell 1,BO.cell 2,?_,BO.cell 5⟩,op6_cells B0⟩
 rw [<- eb]
 exact c4
theorem Hf.prog {F:FuncId} {args:Array Value} {x:Ending} {Lx:Nat -> Nat -> List Nat} {mk':Nat -> Nat} {g:Nat} (hg:W.gm = some g)
  (C:∀ bs' Z',(∀ H,(Z' H).isSome = (Z H).isSome) -> LS v W.L s bs' Z' W.gq W.gl Ls mk g W.hot W.warm -> Calls Tryz.prog F args v fun e v' => e = x /\ DL v v' W.L s bs' Z' W.gq W.gl Lx mk' g W.hot W.warm) :
  Calls Tryz.prog F args v fun e v' => e = x /\ Hf N w1 v' W s bs Z Lx Ld r laid told act mk':=by
 obtain ⟨bs',Z',W1,e1,z1,⟨R',vA',rfl,eb⟩,G,D⟩:=h
 refine (C bs' Z' z1 (D.wat.ls (g:=g) hg)).mono ?_
 rintro e v' ⟨rfl,D2⟩
 obtain ⟨bs2,Z2,e2,z2,G2,A⟩:=D.wat.dl (g:=g) hg D2
 exact ⟨rfl,bs2,Z2,_,e2.trans e1,fun H => (z2 H).trans (z1 H),⟨R',vA',rfl,eb⟩,G.trans G2,A,D.rel,fun H i x p hf => by rw [z2 H]; exact D.agr H i x p hf,D.ch,D.la,D.dq.cg z2,D.al⟩
theorem Hf.que {F:FuncId} {args:Array Value} {x:Ending} {RR:Nat} {Lx:Nat -> Nat -> List Nat}
  (C:∀ bs' Z',(∀ H,(Z' H).isSome = (Z H).isSome) -> QW v W.L qc s bs' Z' W.gq W.gl Ls -> Calls Tryz.prog F args v fun e v' => e = x /\ Did v v' W.L qc s bs' Z' W.gq W.gl (RR,Lx)) :
  Calls Tryz.prog F args v fun e v' => e = x /\ Hf N w1 v' W s bs Z Lx Ld r laid told act mk:=by
 obtain ⟨bs',Z',W1,e1,z1,⟨R',vA',rfl,eb⟩,G,D⟩:=h
 refine (C bs' Z' z1 D.wat.q).mono ?_
 rintro e v' ⟨rfl,o,bs2,Z2,hE,z2, -,Q⟩
 have A:=D.wat.turn o Q (D.wat.mks.ed D.wat.okc D.wat.good hE z2)
 exact ⟨rfl,bs2,Z2,_,hE.1.trans e1,fun H => (z2 H).trans (z1 H),⟨R',vA',rfl,eb⟩,G.trans (grew_turn o),A,D.rel,fun H i x p hf => by rw [z2 H]; exact D.agr H i x p hf,D.ch,D.la,D.dq.cg z2,D.al⟩
theorem Hf.docu {F:FuncId} {args:Array Value} {X:Ending -> Prop} {Lx:Nat -> Nat -> List Nat} {act':List Nat}
  (C:∀ bs' Z' W1,(∀ H,(Z' H).isSome = (Z H).isSome) -> W1.R.b = W.R.b -> W1.dm = W.dm -> W1.hot = W.hot -> W1.warm = W.warm -> DX N v W1 s bs' Z' Ls Ld r laid told act mk -> Calls Tryz.prog F args v fun e v' => X e /\ DG N v v' W1 s bs' Z' Ls Lx r laid told act' mk) :
  Calls Tryz.prog F args v fun e v' => X e /\ Hf N w1 v' W s bs Z Ls Lx r laid told act' mk:=by
 obtain ⟨bs',Z',W1,e1,z1,⟨R',vA',rfl,eb⟩,G,D⟩:=h
 refine (C bs' Z' { W with R:=R',vA:=vA' } z1 eb rfl rfl rfl D).mono ?_
 rintro e v' ⟨hX,R2,v2,e2,G2,D2⟩
 exact ⟨hX,bs',Z',_,e1,z1,⟨R2,v2,rfl,e2.trans eb⟩,G.trans G2,D2⟩
end
section
variable {N:Nat} {w:World} {W:W6} {s:St} {bs:List UInt8} {Z:Nat -> Option Zd} {Ls:Nat -> Nat -> List Nat} {r:RS} {laid told act:List Nat} {mk:Nat -> Nat} {t:Nat} (h:LI N w W s bs Z Ls r laid told act mk t)
include h
theorem LI.hf (ht:t <= 60000) {v:World} (b:Below w.heap.size w v):Hf N w v W s bs Z Ls Ls r laid told act mk :=
 ⟨bs,Z,W,rfl,fun _ => rfl,⟨W.R,W.vA,rfl,rfl⟩,(Grew.refl _ _ _ _).step b,(h.below b).dx ht⟩
theorem LI.end_ {v:World} {Lx:Nat -> Nat -> List Nat} {act':List Nat} {mk':Nat -> Nat} (H:Hf N w v W s bs Z Lx Lx r laid told act' mk') (hl:act'.length <= t + 1) (ab:∀ H,isN qc s Z H = true -> (H ∈ act' ↔ mk' H % 2 = 1)) (mr:∀ H,mk' H / 2 = mk H / 2):Goes N w v W s (t + 1):=by
 obtain ⟨bs',Z',W1,e1,z1,⟨R',vA',rfl,eb⟩,G,D⟩:=H
 exact ⟨{ W with R:=R',vA:=vA' },s,bs',Z',Lx,r,laid,told,act',mk',⟨rfl,rfl,rfl,rfl,rfl⟩,G,D.wat,h.rel,D.agr,e1.trans h.bs,by have:=h.ch; omega,by have:=h.la; omega,by have:=h.tl; omega,hl,h.tlt,h.lg,h.ln,h.lt,fun K hK => ab K (by rw [<- isN_congr z1]; exact hK),fun K hK => (mr K).trans (h.mr K (by rw [<- isN_congr z1]; exact hK)),h.dmS,h.sh⟩
end
theorem mk_div (mk:Nat -> Nat) (H:Nat) (on:Bool) (K:Nat):mkOn mk H on K / 2 = mk K / 2:=by
 unfold mkOn
 by_cases e:K = H
 ·rw [e,upd_at]
  cases on
  ·show 2 * (mk H / 2) / 2 = _; omega
  ·show (2 * (mk H / 2) + 1) / 2 = _; omega
 ·rw [upd_ne _ _ e]
theorem ab_on {mk:Nat -> Nat} {act:List Nat} (H:Nat) (on:Bool) {K:Nat} (h:K ∈ act ↔ mk K % 2 = 1):K ∈ actN H on act ↔ mkOn mk H on K % 2 = 1:=by
 unfold mkOn
 by_cases e:K = H
 ·rw [e,actN_self,upd_at]
  cases on
  ·exact ⟨fun e => (by cases e),fun e2 => by
    have e3 : 2 * (mk H / 2) % 2 = 1:=e2
    omega⟩
  ·refine ⟨fun _ => ?_,fun _ => rfl⟩
   show (2 * (mk H / 2) + 1) % 2 = 1
   omega
 ·rw [actN_other _ _ e,upd_ne _ _ e]
  exact h
theorem QL.tot {s:St} {Z:Nat -> Option Zd} {Ls:Nat -> Nat -> List Nat} (q:QL s Z Ls) {laid:List Nat} (hl:∀ H,isN qc s Z H = true -> H ∈ laid) (x:Int):totX Ls x <= laid.length:=by
 obtain ⟨Z1,F,e1,q⟩:=q
 unfold totX lenX lsN
 by_cases hx : 0 <= x /\ x < (qc.nc:Int)
 ·rw [if_pos ⟨hx.1,hx.2,by decide,by decide⟩,if_pos ⟨hx.1,hx.2,by decide,by decide⟩,if_pos ⟨hx.1,hx.2,by decide,by decide⟩]
  have hX:x.toNat < qc.nc:=by omega
  have:=nodup_sub (l:=(Ls x.toNat 0 ++ Ls x.toNat 1) ++ Ls x.toNat 2) (m:=laid) (by
   rw [List.nodup_append,List.nodup_append]
   refine ⟨⟨q.nd _ 0 hX (by decide),q.nd _ 1 hX (by decide),fun a ha b hb e => ?_⟩,q.nd _ 2 hX (by decide),fun a ha b hb e => ?_⟩
   ·subst e
    have:=(q.dj _ 0 _ 1 a hX (by decide) hX (by decide) ha hb).2
    omega
   ·subst e
    rcases List.mem_append.1 ha with ha | ha
    ·have:=(q.dj _ 0 _ 2 a hX (by decide) hX (by decide) ha hb).2
     omega
    ·have:=(q.dj _ 1 _ 2 a hX (by decide) hX (by decide) ha hb).2
     omega) (fun a ha => by
   refine hl a ?_
   rw [<- isN_congr e1]
   rcases List.mem_append.1 ha with ha | ha
   ·rcases List.mem_append.1 ha with ha | ha
    ·exact isN_it (q.is hX (by decide) ha)
    ·exact isN_it (q.is hX (by decide) ha)
   ·exact isN_it (q.is hX (by decide) ha))
  rw [List.length_append,List.length_append] at this
  exact this
 ·rw [if_neg (fun e => hx ⟨e.1,e.2.1⟩),if_neg (fun e => hx ⟨e.1,e.2.1⟩),if_neg (fun e => hx ⟨e.1,e.2.1⟩)]
  simp
theorem LI.laid_ {N:Nat} {w:World} {W:W6} {s:St} {bs:List UInt8} {Z:Nat -> Option Zd} {Ls:Nat -> Nat -> List Nat} {r:RS} {laid told act:List Nat} {mk:Nat -> Nat} {t:Nat} (h:LI N w W s bs Z Ls r laid told act mk t) (H:Nat) (hI:isN qc s Z H = true):H ∈ laid:=by
 unfold isN at hI
 obtain ⟨i1,i2⟩:=Bool.and_eq_true_iff.1 hI
 obtain ⟨⟨i,x,p⟩,hf⟩:=Option.isSome_iff_exists.1 i1
 exact (h.agr H i x p hf).1 i2
def bndN (l:Int):Int:=if l <= 2000 then l else 2000
theorem boundedC (w:World) (l:Int):Calls Tryz.prog 30 #[.int .i64 l] w fun e w' => e = .returned (.int .i64 (bndN l)) /\ w = w':=by
 unfold bndN
 by_cases h:l <= 2000
 ·rw [if_pos h]
  have d1:decide ((2000:Int) < l) = false:=decide_eq_false (by omega)
  clear h
  go_enter Tryz.func30,Tryz.ntmps30
  go_wp2
  go_ret
  exact ⟨rfl,rfl⟩
 ·rw [if_neg h]
  have d1:decide ((2000:Int) < l) = true:=decide_eq_true (by omega)
  clear h
  go_enter Tryz.func30,Tryz.ntmps30
  go_wp2
  go_ret
  exact ⟨rfl,rfl⟩
section
variable {N:Nat} {w:World} {W:W6} {s:St} {bs:List UInt8} {Z:Nat -> Option Zd} {Ls:Nat -> Nat -> List Nat} {r:RS} {laid told act:List Nat} {mk:Nat -> Nat} {t:Nat} (h:LI N w W s bs Z Ls r laid told act mk t) (ht:t <= 60000) (o:Op6) (ok:o.Ok)
include h ht ok
theorem LI.begin:∃ w1,w1 = w.alloc (.cells o.cells 64) /\ Below w.heap.size w w1 /\ LI N w1 W s bs Z Ls r laid told act mk t /\ Blk w1 w.heap.size 64 o.cells /\ (∀ i,¬ W.foot qc s i w.heap.size) /\
  Calls Tryz.prog 51 #[.pointer (some ⟨W.b,0,none⟩),.agg o.cells] w1 (fun e w' => e = .returned (.int .u64 (hdN told o:Int)) /\ Below w1.heap.size w1 w'):=by
 have b1:Below w.heap.size w (w.alloc (.cells o.cells 64)):=(Below.refl _ _).alloc (Nat.le_refl _) _
 refine ⟨_,rfl,b1,h.below b1,Blk.new w _ _,fun i e => ?_,handleC (h.below b1) ht o ok⟩
 have:=h.wat.lt i _ e
 omega
end
section
variable {N:Nat} {w:World} {W:W6} {s:St} {bs:List UInt8} {Z:Nat -> Option Zd} {Ls:Nat -> Nat -> List Nat} {r:RS} {laid told act:List Nat} {mk:Nat -> Nat} {t:Nat} (h:LI N w W s bs Z Ls r laid told act mk t) (ht:t <= 900) (o:Op6) (ok:o.Ok)
include h ht ok
theorem movesC (hgm:(∃ g,W.gm = some g) \/ (o.dO = 1 \/ o.dO = 2 \/ o.dO = 10 \/ o.dO = 12)):Calls Tryz.prog 26 #[.pointer (some ⟨W.b,0,none⟩),.agg o.cells] w fun e w' => e = .returned (.bool true) /\ Goes N w w' W s (t + 1):=by
 have ht6:t <= 60000:=by omega
 obtain ⟨w1,hw1,b1,h1,B1,hn,HC⟩:=h.begin ht6 o ok
 have hH:=hdN_lt h.tlt ok
 obtain ⟨d,edm⟩:=h.dmS
 have okc:=h.wat.okc
 have g:=h.wat.good
 have fin:∀ {v},Goes N w1 v W s (t + 1) -> Goes N w v W s (t + 1):=fun G => G.behind b1
 have P0s:∀ v n,Below w1.heap.size w1 v -> Below w1.heap.size w1 (v.drewN n):=fun v n b => below_drewN b n
 have P0c:∀ v,Below w1.heap.size w1 v -> Cmv W.b w.heap.size W.gm W.dm W.L.g W.gq W.R.b o v:=fun v b => (h1.hf ht6 b).cells B1 hn
 rw [hw1] at HC
 have hs:∀ v,Below w1.heap.size w1 v -> Hf N w1 v W s bs Z Ls Ls r laid told act mk:=fun v b => h1.hf ht6 b
 have hc:∀ {Lp Ld a m} v,Hf N w1 v W s bs Z Lp Ld r laid told a m -> Cmv W.b w.heap.size W.gm W.dm W.L.g W.gq W.R.b o v:=fun v H => H.cells B1 hn
 by_cases d1:o.dO = 1
 ·exact (armMake w W.b o _ W.gm W.dm W.L.g W.gq W.R.b (fun v => Below w1.heap.size w1 v) (fun v => Goes N w1 v W s (t + 1)) (by rw [<- hw1] at HC ⊢; exact HC) P0s P0c d1 fun v b => (makesC (h1.below b) ht6 o ok).mono fun e w' ⟨e1,G⟩ => ⟨e1,G.behind b⟩).mono fun e w' ⟨e1,G⟩ => ⟨e1,fin G⟩
 by_cases d2:o.dO = 2
 ·exact (armBare w W.b o _ W.gm W.dm W.L.g W.gq W.R.b (fun v => Below w1.heap.size w1 v) (fun v => Goes N w1 v W s (t + 1)) (by rw [<- hw1] at HC ⊢; exact HC) P0s P0c d2 fun v b => (makesC (h1.below b) ht6 o ok).mono fun e w' ⟨e1,G⟩ => ⟨e1,G.behind b⟩).mono fun e w' ⟨e1,G⟩ => ⟨e1,fin G⟩
 by_cases d3:o.dO = 3
 ·obtain ⟨n,GB⟩:=giveBoth h1 ht6 hH
  refine (armGive w W.b o (hdN told o) n W.gm W.dm W.L.g W.gq W.R.b (fun v => Below w1.heap.size w1 v) (fun v => Calls Tryz.prog 54 #[.pointer (some ⟨W.R.b,0,none⟩),.int .u64 (hdN told o:Int)] v fun e w' => e = .returned (.int .i64 (n:Int)) /\ Gv W w' /\ Goes N w1 w' W s t) (fun v => Goes N w1 v W s (t + 1)) (by rw [<- hw1] at HC ⊢; exact HC) P0s P0c d3 (stK (clsN qc s (hdN told o)) Ls (hdN told o)) (clsN qc s (hdN told o)) (fun v b => ((h1.below b).d6w ht6).whereC _) (fun v b _ => h1.stays b (Nat.le_succ _)) (fun v b h0 => ?_) (fun v P1 => P1.mono fun e w' ⟨e1,c,G⟩ => ⟨e1,c,G.more (Nat.le_succ _)⟩)).mono fun e w' ⟨e1,G⟩ => ⟨e1,fin G⟩
  refine (GB v b).mono fun e w' ⟨e1,c,P1⟩ => ⟨e1,c,P1 ?_⟩
  rcases (h1.d6w ht6).at6 (hdN told o) with ⟨-,e2⟩ | ⟨k,l1,l2,e2, -⟩
  ·exact e2
  ·omega
 by_cases d10:o.dO = 10
 ·refine (armShift w W.b o (hdN told o) (shiftN qc s Ls (hdN told o) o.b).1 W.gm W.dm W.L.g W.gq W.R.b (fun v => Below w1.heap.size w1 v) (fun v => Hf N w1 v W s bs Z (shiftN qc s Ls (hdN told o) o.b).2 Ls r laid told act mk) (fun v => Hf N w1 v W s bs Z (shiftN qc s Ls (hdN told o) o.b).2 (shiftN qc s Ls (hdN told o) o.b).2 r laid told act mk) (by rw [<- hw1] at HC ⊢; exact HC) P0s P0c hc hc d10 (fun v b => (hs v b).que fun bs' Z' z' q => shiftP q _ hH o.b) (fun v P1 => P1.docu fun bs' Z' W2 z' eb ed eh ew D => ?_)).mono fun e w' ⟨e1,H2⟩ => ⟨e1,fin (h1.end_ H2 (by have:=h.al; omega) h.ab fun _ => rfl)⟩
  rw [<- eb]
  exact D.shiftD _ o.b
 by_cases d12:o.dO = 12
 ·refine (armPush w W.b o (hdN told o) (pushN qc s Z Ls (hdN told o) o.b false).1 W.gm W.dm W.L.g W.gq W.R.b (fun v => Below w1.heap.size w1 v) (fun v => Hf N w1 v W s bs Z (pushN qc s Z Ls (hdN told o) o.b false).2 Ls r laid told act mk) (fun v => Hf N w1 v W s bs Z (pushN qc s Z Ls (hdN told o) o.b false).2 (pushN qc s Z Ls (hdN told o) o.b false).2 r laid told act mk) (by rw [<- hw1] at HC ⊢; exact HC) P0s P0c hc hc d12 (fun v b => (hs v b).que (RR:=(pushN qc s Z Ls (hdN told o) o.b false).1) fun bs' Z' z' q => ?_) (fun v P1 => P1.docu fun bs' Z' W2 z' eb ed eh ew D => ?_)).mono fun e w' ⟨e1,H2⟩ => ⟨e1,fin (h1.end_ H2 (by have:=h.al; omega) h.ab fun _ => rfl)⟩
  ·have:=pushP q _ hH o.b
   rw [pushN_cg z'] at this
   exact this
  ·have:=D.pushD (hdN told o) o.b false
   rw [pushN_cg z',eb] at this
   exact this
 by_cases dE:o.dO ≠ 4 /\ o.dO ≠ 5 /\ o.dO ≠ 6 /\ o.dO ≠ 7
 ·exact (armElse w W.b o _ W.gm W.dm W.L.g W.gq W.R.b (fun v => Below w1.heap.size w1 v) (fun v => Goes N w1 v W s (t + 1)) (by rw [<- hw1] at HC ⊢; exact HC) P0s P0c ⟨d1,d2,d3,dE.1,dE.2.1,dE.2.2.1,dE.2.2.2,d10,d12⟩ fun v b => h1.stays b (Nat.le_succ _)).mono fun e w' ⟨e1,G⟩ => ⟨e1,fin G⟩
 obtain ⟨gp,hg⟩:∃ g,W.gm = some g:=hgm.resolve_right (by omega)
 by_cases d4:o.dO = 4
 ·refine (armEnter w W.b o (hdN told o) (pushN qc s Z Ls (hdN told o) 1 false).1 W.gm W.dm W.L.g W.gq W.R.b (fun v => Below w1.heap.size w1 v) (fun v => Hf N w1 v W s bs Z (pushN qc s Z Ls (hdN told o) 1 false).2 Ls r laid told act (entM mk (hdN told o) (pushN qc s Z Ls (hdN told o) 1 false).1)) (fun v => Hf N w1 v W s bs Z (pushN qc s Z Ls (hdN told o) 1 false).2 (pushN qc s Z Ls (hdN told o) 1 false).2 r laid told (entA act (hdN told o) (pushN qc s Z Ls (hdN told o) 1 false).1) (entM mk (hdN told o) (pushN qc s Z Ls (hdN told o) 1 false).1)) (by rw [<- hw1] at HC ⊢; exact HC) P0s P0c hc hc d4 hg edm (fun v b => (hs v b).prog hg fun bs' Z' z' q => ?_) (fun v P1 => P1.docu fun bs' Z' W2 z' eb ed eh ew D => ?_)).mono fun e w' ⟨e1,H2⟩ => ⟨e1,fin (h1.end_ H2 ?_ ?_ ?_)⟩
  ·have:=enterC q _ hH
   rw [pushN_cg z'] at this
   exact this
  ·have:=D.enterD (dm:=d) (ed.trans edm) (hdN told o)
   rw [pushN_cg z'] at this
   exact this
  all_goals generalize (pushN qc s Z Ls (hdN told o) 1 false).1 = RR at *
  ·unfold entA
   have:=h.al
   have:=actN_len (hdN told o) false act
   split <;> omega
  ·intro K hK
   unfold entA entM
   split
   ·exact ab_on _ _ (h.ab K hK)
   ·exact h.ab K hK
  ·intro K
   unfold entM
   split
   ·exact mk_div _ _ _ _
   ·rfl
 by_cases d5:o.dO = 5
 ·refine (armLeave w W.b o (hdN told o) (dropN qc s Ls (hdN told o)).1 W.gm W.dm W.L.g W.gq W.R.b (fun v => Below w1.heap.size w1 v) (fun v => Hf N w1 v W s bs Z (dropN qc s Ls (hdN told o)).2 Ls r laid told act mk) (fun v => Hf N w1 v W s bs Z (dropN qc s Ls (hdN told o)).2 (dropN qc s Ls (hdN told o)).2 r laid told act mk) (by rw [<- hw1] at HC ⊢; exact HC) P0s P0c hc hc d5 hg edm (fun v b => (hs v b).prog hg fun bs' Z' z' q => leaveC q _ hH) (fun v P1 => P1.docu fun bs' Z' W2 z' eb ed eh ew D => ?_)).mono fun e w' ⟨e1,H2⟩ => ⟨e1,fin (h1.end_ H2 (by have:=h.al; omega) h.ab fun _ => rfl)⟩
  exact D.leaveD (dm:=d) (ed.trans edm) _
 by_cases d6:o.dO = 6
 ·refine (armHit w W.b o (hdN told o) (hitR s Ls (hdN told o)) W.gm W.dm W.L.g W.gq W.R.b (fun v => Below w1.heap.size w1 v) (fun v => Hf N w1 v W s bs Z Ls Ls r laid told act (hitM s Ls mk (hdN told o))) (fun v => Hf N w1 v W s bs Z Ls Ls r laid told (hitA s Ls act (hdN told o)) (hitM s Ls mk (hdN told o))) (by rw [<- hw1] at HC ⊢; exact HC) P0s P0c hc hc d6 hg edm (fun v b => (hs v b).prog hg fun bs' Z' z' q => hitC q _ hH) (fun v P1 => P1.docu fun bs' Z' W2 z' eb ed eh ew D => ?_)).mono fun e w' ⟨e1,H2⟩ => ⟨e1,fin (h1.end_ H2 ?_ ?_ ?_)⟩
  ·exact D.hitD (dm:=d) (ed.trans edm) _ (by have:=h.al; omega)
  ·unfold hitA
   have:=h.al
   have:=actN_len (hdN told o) true act
   split <;> omega
  ·intro K hK
   unfold hitA hitM
   split
   ·exact h.ab K hK
   ·exact ab_on _ _ (h.ab K hK)
  ·intro K
   unfold hitM
   split
   ·rfl
   ·exact mk_div _ _ _ _
 have d7:o.dO = 7:=by omega
 have q:=h.wat.q.ql
 have tot:=QL.tot q h.laid_ o.c
 have phi:=phi_two Ls mk o.c
 have la:=h.la
 obtain ⟨k1,k2,k3,k4,k5⟩:=bal_phi okc g h.sh o.b.toNat Ls mk (x:=o.c) q
 have eB:balN s Z W.hot W.warm o.c (bndN o.b).toNat Ls mk = balN s Z W.hot W.warm o.c o.b.toNat Ls mk:=by
  unfold bndN
  split
  ·rfl
  ·exact (k5 (by omega)).2 _ (by omega)
 obtain ⟨e1,e2,e3,e4⟩:=bal_both okc g h.sh (bndN o.b).toNat Ls mk act (x:=o.c) q h.ab
 rw [eB] at e1 e2 e3
 have hbd:bndN o.b <= 2000:=by unfold bndN; split <;> omega
 refine (armBalance w W.b o (hdN told o) (balN s Z W.hot W.warm o.c o.b.toNat Ls mk).1.length W.gm W.dm W.L.g W.gq W.R.b (fun v => Below w1.heap.size w1 v) (fun v => Hf N w1 v W s bs Z (balN s Z W.hot W.warm o.c o.b.toNat Ls mk).2.1 Ls r laid told act (balN s Z W.hot W.warm o.c o.b.toNat Ls mk).2.2) (fun v => Hf N w1 v W s bs Z (balN s Z W.hot W.warm o.c o.b.toNat Ls mk).2.1 (balN s Z W.hot W.warm o.c o.b.toNat Ls mk).2.1 r laid told (dbalN s W.hot W.warm o.c (bndN o.b).toNat Ls act).2.2 (balN s Z W.hot W.warm o.c o.b.toNat Ls mk).2.2) (by rw [<- hw1] at HC ⊢; exact HC) P0s P0c hc hc d7 hg edm (bndN o.b) (fun v => boundedC v _) (fun v b => (hs v b).prog hg fun bs' Z' z' q => ?_) (fun v P1 => (P1.docu (X:=fun e => ∃ A cp,e = .returned (.slice A (balN s Z W.hot W.warm o.c o.b.toNat Ls mk).1.length cp)) fun bs' Z' W2 z' eb ed eh ew D => ?_))).mono fun e w' ⟨e1,H2⟩ => ⟨e1,fin (h1.end_ H2 ?_ e3 k4)⟩
 ·have:=balanceC q h.sh o.c o.b ok.b
  rwa [balN_nxt z'] at this
 ·have:=D.balanceD (dm:=d) (ed.trans edm) (by rw [eh,ew]; exact h.sh) o.c (bndN o.b) hbd
  rw [eh,ew,e1,e2] at this
  exact this.mono fun e w' ⟨A,cp,e1,_,G⟩ => ⟨⟨A,cp,e1⟩,G⟩
 ·have:=h.al
  omega
end
def OCells (w:World) (b o:Nat) (p:Op6):Prop:=w.cell? ⟨b,o,none⟩ = some (.int .i64 p.dO) /\ w.cell? ⟨b,o + 1,none⟩ = some (.int .i64 p.a) /\ w.cell? ⟨b,o + 2,none⟩ = some (.int .i64 p.b) /\
 w.cell? ⟨b,o + 3,none⟩ = some (.int .i64 p.c) /\ w.cell? ⟨b,o + 4,none⟩ = some (.int .u64 (p.h:Int)) /\ w.cell? ⟨b,o + 5,none⟩ = some (.bool p.raw)
def ORow (W:World) (a0:Option Addr) (k:Nat) (p:Op6):Prop:=∃ b off,a0 = some (⟨b,off,none⟩:Addr) /\ b < W.heap.size /\ p.Ok /\ OCells W b (off + k * 6) p
theorem OCells.below {W w:World} {B b o:Nat} {p:Op6} (h:OCells W b o p) (k:Below B W w) (hb:b < B):OCells w b o p :=
 ⟨(k.cell (p:=⟨b,o,none⟩) hb).trans h.1,(k.cell (p:=⟨b,o + 1,none⟩) hb).trans h.2.1,(k.cell (p:=⟨b,o + 2,none⟩) hb).trans h.2.2.1,(k.cell (p:=⟨b,o + 3,none⟩) hb).trans h.2.2.2.1,(k.cell (p:=⟨b,o + 4,none⟩) hb).trans h.2.2.2.2.1,(k.cell (p:=⟨b,o + 5,none⟩) hb).trans h.2.2.2.2.2⟩
theorem LI.new {w:World} {N:Nat} {W:W6} (h:WAt N w W qc (new0 qc.cf) (List.replicate (qc.cf.ps * qc.cf.np) 0) (fun _ => none) (fun _ _ => []) (fun _ _ => []) rnew0 [] [] [] (fun _ => 0)) (dm:∃ d,W.dm = some d) (sh:Shr W.hot W.warm) :
  LI N w W (new0 qc.cf) (List.replicate (qc.cf.ps * qc.cf.np) 0) (fun _ => none) (fun _ _ => []) rnew0 [] [] [] (fun _ => 0) 0 :=
 ⟨h,rel_new _,fun H i x p _ => ⟨fun e => (by cases e),fun e => (by cases e)⟩,List.length_replicate,Nat.zero_le _,Nat.zero_le _,Nat.zero_le _,Nat.zero_le _,fun H e => (by cases e),fun H e => (by cases e),List.nodup_nil,fun H e => (by cases e),
  fun H e => (by unfold isN at e; simp at e),fun H e => (by unfold isN at e; simp at e),dm,sh⟩
def Goer (N:Nat) (W0:World) (b:Nat) (gm:Option Nat) (hot warm:Int) (w:World) (t:Nat):Prop:=∃ W s bs Z Ls r laid told act mk,W.b = b /\ W.gm = gm /\ W.hot = hot /\ W.warm = warm /\ Below N W0 w /\ N <= w.heap.size /\ LI N w W s bs Z Ls r laid told act mk t
theorem Goer.next {N:Nat} {W0 w w':World} {W:W6} {s:St} {bs:List UInt8} {Z:Nat -> Option Zd} {Ls:Nat -> Nat -> List Nat} {r:RS} {laid told act:List Nat} {mk:Nat -> Nat} {t t':Nat} {b:Nat} {gm:Option Nat} {hot warm:Int} (h:LI N w W s bs Z Ls r laid told act mk t) (hB:Below N W0 w)
  (e1:W.b = b) (e2:W.gm = gm) (e3:W.hot = hot) (e4:W.warm = warm) (G:Goes N w w' W s t'):Goer N W0 b gm hot warm w' t':=by
 obtain ⟨W',s',bs',Z',Ls',r',laid',told',act',mk',⟨f1,f2,f3,f4,f5⟩,G,T⟩:=G
 exact ⟨W',s',bs',Z',Ls',r',laid',told',act',mk',f1.trans e1,f2.trans e2,f4.trans e3,f5.trans e4,hB.trans (G.below h.wat.base h.wat.hN0),T.wat.hN0,T⟩
theorem begun_shr (a b:Int):Shr (hotN a:Int) (warmN a b:Int):=by
 obtain ⟨s1,s2,s3,s4⟩:=shares_in a b
 exact ⟨by omega,by omega,by omega,by omega⟩
set_option maxHeartbeats 3200000 in
theorem scriptedC (W:World) (a b:Int) (ha:Cls.In a) (hb:Cls.In b) (a0:Option Addr) (cap:Nat) (l:List Op6) (hP:∀ (k:Nat) (hk:k < l.length),ORow W a0 k l[k]) (hl:l.length <= maxLen) :
  Calls Tryz.prog 16 #[.agg #[.int .i64 a,.int .i64 b],.slice a0 l.length cap] W fun e w' => ∃ b0 g,e = .returned (.pointer (some ⟨b0,0,none⟩)) /\ ∃ t,t <= 250 /\ Goer W.heap.size W b0 (some g) (hotN a:Int) (warmN a b:Int) w' t:=by
 obtain ⟨w1,hw1⟩:∃ w1,w1 = W.alloc (.cells #[.int .i64 a,.int .i64 b] 38):=⟨_,rfl⟩
 have B1:Blk w1 W.heap.size 38 #[.int .i64 a,.int .i64 b]:=by rw [hw1]; exact Blk.new W _ _
 have b1:Below W.heap.size W w1:=by rw [hw1]; exact (Below.refl _ _).alloc (Nat.le_refl _) _
 have x0:=B1.cell 0
 have x1:=B1.cell 1
 have BC:=Lib.hid (begunC8 w1 a b ha hb)
 have sh:=Lib.hid (begun_shr a b)
 have HP:=Lib.hid hP
 unfold maxLen at hl
 clear hP ha hb B1
 generalize hotN a = hot at *
 generalize warmN a b = warm at *
 obtain ⟨N,hN⟩:∃ N,W.heap.size = N:=⟨_,rfl⟩
 rw [hN] at b1 x0 x1 ⊢
 replace hN:=Lib.hid hN
 replace hw1:=Lib.hid hw1
 go_enter Tryz.func16,Tryz.ntmps16
 go_upto_region 1 with fail
 rw [hN.out, <- hw1.out]
 go_wp2_with fail
 refine BC.out.mono ?_
 rintro e w2 ⟨b2,W1,g,d,rfl,eg,ed,eh,ew,A1⟩
 have hN1:N <= w1.heap.size:=by have:=b1.size; rw [<- hN.out]; exact this
 have G1:Goer N W W1.b (some g) (hot:Int) (warm:Int) w2 0:=⟨W1,_,_,_,_,_,_,_,_,_,rfl,eg,eh,ew,b1.trans (b2.mono hN1),Nat.le_trans hN1 b2.size,LI.new (A1.weak hN1) ⟨d,ed⟩ (by rw [eh,ew]; exact sh.out)⟩
 generalize W1.b = b0 at *
 replace G1:=Lib.hid G1
 clear b1 b2 A1 BC x0 x1 hw1 eg ed eh ew
 go_wp2_with fail
 go_loopw [6] (fun vi wr => ∃ i:Nat,vi = .int .i64 (i:Int) /\ i <= l.length /\ i <= 250 /\ Hid (Goer N W b0 (some g) (hot:Int) (warm:Int) wr i)) (fun vi _ => l.length - (intOf vi).toNat)
 case atStart => exact ⟨0,rfl,Nat.zero_le _,Nat.zero_le _,G1⟩
 case round =>
  obtain ⟨i,rfl,hi,hi2,G⟩:=hrel
  clear G1
  by_cases hlt:i < l.length /\ i < 250
  ·obtain ⟨h1,h2⟩:=hlt
   have d1:decide ((i:Int) < (l.length:Int)) = true:=decide_eq_true (by omega)
   have d1':decide (i < l.length) = true:=decide_eq_true h1
   have d2:decide ((i:Int) < 250) = true:=decide_eq_true (by omega)
   have q1:IntKind.i64.wrap ((i:Int) + 1) = (i:Int) + 1:=IntWalk.i64_in _ (by omega)
   have i0:(0:Int) <= (i:Int):=by omega
   have i1:(i:Int) < (l.length:Int):=by omega
   obtain ⟨W2,s2,bs2,Z2,Ls2,r2,laid2,told2,act2,mk2,eb,eg,eh,ew,hB,hNr,T⟩:=G.out
   obtain ⟨b9,off,rfl,hbl,ok,O1⟩:=HP.out i h1
   have hbN:b9 < N:=by rw [<- hN.out]; exact hbl
   generalize l[i] = o at *
   have DC:=movesC T (by omega) o ok (.inl ⟨g,eg⟩)
   have GN:=fun w' (G:Goes N wr w' W2 s2 (i + 1)) => Goer.next T hB eb eg eh ew G
   rw [eb] at DC
   obtain ⟨z0,z1,z2,z3,z4,z5⟩:=O1.below hB hbN
   unfold Op6.cells at DC
   by_cases h8:o.dO = 8
   ·have n8:((8:Int) != 8) = false:=rfl
    rw [h8] at z0
    have G2:=Lib.hid ((GN wr (T.stays (Below.refl _ _) (Nat.le_succ _))))
    clear HP T hB hbl O1 ok hNr DC GN G h8 eb eg eh ew
    go_wp2
    go_roundw
    case rel => exact ⟨i + 1,by simp,by omega,by omega,G2⟩
    case measure => simp [intOf] <;> omega
   ·have n8:(o.dO != 8) = true:=by rw [bne_iff_ne]; exact h8
    have n9:decide (o.dO = 8) = false:=decide_eq_false h8
    replace DC:=Lib.hid DC
    replace GN:=Lib.hid GN
    replace h8:=Lib.hid h8
    clear HP T hB hbl O1 ok hNr G eb eg eh ew
    go_wp2_with fail
    refine DC.out.mono ?_
    rintro e w3 ⟨rfl,G⟩
    have G3:=Lib.hid (GN.out _ G)
    clear G DC GN z0 z1 z2 z3 z4 z5
    go_wp2
    go_roundw
    case rel => exact ⟨i + 1,by simp,by omega,by omega,G3⟩
    case measure => simp [intOf] <;> omega
  have GE:=Lib.hid (⟨i,hi2,G.out⟩:∃ t,t <= 250 /\ Goer N W b0 (some g) (hot:Int) (warm:Int) wr t)
  clear G HP
  rcases Nat.lt_or_ge i l.length with h1 | h1
  ·have d1:decide ((i:Int) < (l.length:Int)) = true:=decide_eq_true (by omega)
   have d1':decide (i < l.length) = true:=decide_eq_true h1
   have d2:decide ((i:Int) < 250) = false:=decide_eq_false (by omega)
   clear hlt
   go_wp2
   go_ret
   exact ⟨b0,g,rfl,GE.out⟩
  ·have d1:decide ((i:Int) < (l.length:Int)) = false:=decide_eq_false (by omega)
   have d1':decide (i < l.length) = false:=decide_eq_false (by omega)
   clear hlt
   go_wp2
   go_ret
   exact ⟨b0,g,rfl,GE.out⟩
end Go.Proofs.YtngehaiigbbknaaGreat.Que
/-
  What the arguments of the laws of the Lru are: shares, lists of operations.
-/
namespace Go.Proofs.YtngehaiigbbknaaGreat.LrArg
open Go.ChangeShapes Go.WideShapes Go.ChangeAt Go.RowKit LawFrame Go.Deep ClsArg
variable {H:Type} {enc:TypeId × Value -> H}
theorem ops8_at {W:World} {fuel len cap:Nat} {A:Option Addr} {x:DataW H × List MemPlace} (h:DataW.trod enc Tryz.prog W 0 (fun _ => true) true fuel 44 [.slice A len cap] = some x) :
  ∃ l:List Que.Op6,l.length = len /\ len <= cap /\ cap <= maxLen /\ ∀ (k:Nat) (hk:k < l.length),Que.ORow W A k l[k]:=by
 obtain ⟨hl,hm,hi⟩:=fields_at Tryz.underlying44 Tryz.underlying64 (by kernel_rfl) (by kernel_rfl) (by decide) h
 obtain ⟨l,hlen,hP⟩:=list_of (fun k (p:Que.Op6) => Que.ORow W A k p) len (by
  intro k hk
  obtain ⟨b,off,n,rfl,hb,hfi⟩:=hi k hk
  obtain ⟨v0,y0,hc0,ht0⟩:=hfi 0 _ rfl
  obtain ⟨v1,y1,hc1,ht1⟩:=hfi 1 _ rfl
  obtain ⟨v2,y2,hc2,ht2⟩:=hfi 2 _ rfl
  obtain ⟨v3,y3,hc3,ht3⟩:=hfi 3 _ rfl
  obtain ⟨v4,y4,hc4,ht4⟩:=hfi 4 _ rfl
  obtain ⟨v5,y5,hc5,ht5⟩:=hfi 5 _ rfl
  obtain ⟨x0,e0, -,wx0⟩:=DataW.trod_int Tryz.underlying3 ht0
  obtain ⟨x1,e1, -,wx1⟩:=DataW.trod_int Tryz.underlying3 ht1
  obtain ⟨x2,e2, -,wx2⟩:=DataW.trod_int Tryz.underlying3 ht2
  obtain ⟨x3,e3, -,wx3⟩:=DataW.trod_int Tryz.underlying3 ht3
  obtain ⟨x4,e4, -,wx4⟩:=DataW.trod_int Tryz.underlying50 ht4
  obtain ⟨x5,e5, -⟩:=DataW.trod_bool Tryz.underlying4 ht5
  simp only [List.cons.injEq,and_true] at e0 e1 e2 e3 e4 e5
  obtain ⟨u4,e4',hu4⟩:=u64_nat wx4
  subst e4'
  subst e0 e1 e2 e3 e4 e5
  exact ⟨⟨x0,x1,x2,x3,u4,x5⟩,b,off,rfl,hb,⟨i64_bd wx0,i64_bd wx1,i64_bd wx2,i64_bd wx3,hu4⟩,hc0,hc1,hc2,hc3,hc4,hc5⟩)
 exact ⟨l,hlen,hl,hm,fun k hk => hP k hk⟩
end Go.Proofs.YtngehaiigbbknaaGreat.LrArg
/-
  The law's row: the row of a class, told by the queue.
-/
namespace Go.Proofs.YtngehaiigbbknaaGreat.Que
open Go.RowKit Base Arena Cls Itm
theorem eiHd:EI Tryz.prog 55 51 (.int .u64 0) 1 8:=EI.mk' Tryz.underlying55 (by kernel_rfl) rfl (by decide)
theorem own_uvt {t:TypeId} {w:World} {N n i x:Nat} {v:Value} {l:List Nat} (h:w.ownsRow N t 1 v n (l.map uv)) (hx:l[i]? = some x):∃ g c,v = .slice (some ⟨g,0,none⟩) n c /\ w.cell? ⟨g,i,none⟩ = some (.int .u64 (x:Int)):=by
 have hl:=h.1
 have hi:i < l.length:=(List.getElem?_eq_some_iff.1 hx).1
 rw [List.length_map] at hl
 rcases h.2 with ⟨rfl,h0⟩ | ⟨g,cap,cur,rfl,hB,hg,h1,h2,h3,h4⟩
 ·omega
 ·refine ⟨g,cap,rfl,?_⟩
  rw [cell_of_row w g i cur _ (0,0) hg]
  have h5:(l.map uv)[i]? = some (uv x):=by rw [List.getElem?_map,hx]; rfl
  rw [<- h4,List.getElem?_take] at h5
  split at h5
  ·simpa [uv] using h5
  ·cases h5
def accX (Ls:Nat -> Nat -> List Nat) (x:Int) (k:Nat):List Nat:=if k = 3 then [] else if k = 2 then revX Ls x 3 else if k = 1 then revX Ls x 3 ++ revX Ls x 2 else rowX Ls x
theorem accX_step (Ls:Nat -> Nat -> List Nat) (x:Int) {k:Nat} (h1 : 1 <= k) (h3:k <= 3):accX Ls x (k - 1) = accX Ls x k ++ revX Ls x (k:Int):=by
 have:k = 1 \/ k = 2 \/ k = 3:=by omega
 rcases this with rfl | rfl | rfl <;> rfl
theorem accX_le (Ls:Nat -> Nat -> List Nat) (x:Int) (k:Nat):(accX Ls x k).length <= (rowX Ls x).length:=by
 unfold accX rowX
 split
 ·simp
 split
 ·simp only [List.length_append]; omega
 split
 ·simp only [List.length_append]; omega
 ·exact Nat.le_refl _
theorem rowX_len (Ls:Nat -> Nat -> List Nat) (x:Int):(rowX Ls x).length = totX Ls x:=by
 unfold rowX revX totX lenX
 simp only [List.length_append,List.length_reverse]
 omega
set_option maxHeartbeats 1600000 in
theorem rowC {w:World} {L:Lay} {s:St} {bs:List UInt8} {Z:Nat -> Option Zd} {gq gl:Nat} {Ls:Nat -> Nat -> List Nat} (h:QW w L qc s bs Z gq gl Ls) {b:Nat} (hb:w.cell? ⟨b,1,none⟩ = some (.pointer (some ⟨gq,0,none⟩))) (x:Int) (ht:totX Ls x <= 900) :
  Calls Tryz.prog 22 #[.pointer (some ⟨b,0,none⟩),.int .i64 x] w fun e w' => Below w.heap.size w w' /\ ∃ A cp,e = .returned (.slice A (rowX Ls x).length cp) /\ w'.ownsRow w.heap.size 51 1 (.slice A (rowX Ls x).length cp) (rowX Ls x).length ((rowX Ls x).map uv):=by
 have hbl:b < w.heap.size:=World.block_lt_of_cell? w _ hb
 have QP:∀ w',Below w.heap.size w w' -> QW w' L qc s bs Z gq gl Ls:=fun w' k => by
  obtain ⟨F,S,q⟩:=h
  exact ⟨F,S.below k,q⟩
 have KK:∀ k:Int,KF (fun w' => Below w.heap.size w w') gq x k (revX Ls x k):=fun k => KF.of h QP x k
 have CE:∀ w',Below w.heap.size w w' -> w'.cell? ⟨b,1,none⟩ = some (.pointer (some ⟨gq,0,none⟩)):=fun w' k => (k.cell (p:=⟨b,1,none⟩) hbl).trans hb
 have ac:=fun k => accX_le Ls x k
 have rl:=rowX_len Ls x
 have st:=fun {k:Nat} (h1 : 1 <= k) (h3:k <= 3) => accX_step Ls x h1 h3
 have a3:accX Ls x 3 = []:=rfl
 have a0:accX Ls x 0 = rowX Ls x:=rfl
 generalize revX Ls x = RV at *
 generalize accX Ls x = AC at *
 have rl9:(rowX Ls x).length <= 900:=by omega
 generalize rowX Ls x = RX at *
 replace KK:=Lib.hid KK
 replace CE:=Lib.hid CE
 replace a3:=Lib.hid a3
 replace a0:=Lib.hid a0
 replace ac:=Lib.hid ac
 clear h hb QP rl ht
 go_enter Tryz.func22,Tryz.ntmps22
 go_wp2
 go_loopw [5,6] (fun vo vk wr => ∃ (k m cp:Nat) (A:Option Addr),vk = .int .i64 (k:Int) /\ k <= 3 /\ vo = .slice A m cp /\ Hid (m = (AC k).length) /\ Hid (Below w.heap.size w wr) /\ Hid (wr.ownsRow w.heap.size 51 1 (.slice A m cp) m ((AC k).map uv))) (fun _ vk _ => (intOf vk).toNat)
 case atStart => exact ⟨3,0,0,none,rfl,Nat.le_refl _,rfl,Lib.hid (by rw [a3.out]; rfl),Lib.hid (Below.refl _ _),Lib.hid (by rw [a3.out]; exact own_nil _ _ _)⟩
 case round =>
  obtain ⟨k,m,cp,A,rfl,hk3,rfl,hm,hB,ho⟩:=hrel
  by_cases hk : 1 <= k
  ·have d1:decide ((1:Int) <= (k:Int)) = true:=decide_eq_true (by omega)
   have d1':decide (1 <= k) = true:=decide_eq_true hk
   have q1:IntKind.i64.wrap ((k:Int) - 1) = ((k - 1:Nat):Int):=by rw [IntWalk.i64_in _ (by omega)]; omega
   have c1:=CE.out wr hB.out
   have hst:=st hk hk3
   have K:=KK.out (k:Int)
   generalize RV (k:Int) = R at *
   have TC:=Lib.hid (K.tc wr hB.out)
   replace K:=Lib.hid K
   replace hst:=Lib.hid hst
   go_wp2_with fail
   refine TC.out.mono ?_
   rintro e w' ⟨rfl,rfl⟩
   go_wp2_with fail
   go_loopw [5,7,8] (fun vo vh vb wr => ∃ (l1 l2:List Nat) (m cp:Nat) (A:Option Addr),vo = .slice A m cp /\ vh = .int .u64 (l2.head?.getD 0:Int) /\ vb = .bool (decide (0 < l2.length)) /\ Hid (R = l1 ++ l2) /\ Hid (m = (AC k ++ l1).length) /\ Hid (Below w.heap.size w wr) /\ Hid (wr.ownsRow w.heap.size 51 1 (.slice A m cp) m ((AC k ++ l1).map uv))) (fun vo _ _ _ => 1000 - lenV vo)
   case atStart => exact ⟨[],R,m,cp,A,rfl,rfl,rfl,Lib.hid rfl,Lib.hid (by rw [List.append_nil]; exact hm.out),hB,by rw [List.append_nil]; exact ho⟩
   case round =>
    obtain ⟨l1,l2,m2,cp2,A2,rfl,rfl,rfl,hR,hm2,hB2,ho2⟩:=hrel
    have hle:m2 + l2.length <= 900:=by
     have:=ac.out (k - 1)
     rw [hst.out,hR.out,List.length_append,List.length_append] at this
     have e2:=hm2.out
     rw [List.length_append] at e2
     omega
    cases l2 with
    | nil =>
     have e1:decide (0 < ([]:List Nat).length) = false:=rfl
     rw [e1]
     rw [List.append_nil] at hR
     have hm3:Hid (m2 = (AC (k - 1)).length):=Lib.hid (by rw [hst.out,hR.out]; exact hm2.out)
     have ho3:Hid (wr.ownsRow w.heap.size 51 1 (.slice A2 m2 cp2) m2 ((AC (k - 1)).map uv)):=Lib.hid (by rw [hst.out,hR.out]; exact ho2.out)
     clear hm2 ho2 hR e1 TC K hst
     go_wp2
     go_roundw
     case rel => exact ⟨k - 1,m2,cp2,A2,by simp,by omega,rfl,hm3,hB2,ho3⟩
     case measure => simp [intOf] <;> omega
    | cons y l2 =>
     have e1:decide (0 < (y :: l2).length) = true:=rfl
     have e0:((y :: l2).head?.getD 0) = y:=rfl
     rw [e1,e0]
     rw [List.length_cons] at hle
     have d2:decide ((m2:Int) < 1000) = true:=decide_eq_true (by omega)
     have d2':decide (m2 < 1000) = true:=decide_eq_true (by omega)
     have sz:=hB2.out.size
     clear e1 e0
     go_wp2_with (at_builtin; refine wpList_app rfl _ _ _ rfl eiHd w.heap.size _ _ _ rfl (ho2.out.alloc _) (wr.heap.size + 1) (some ⟨wr.heap.size,0,none⟩) 1 1 [.int .u64 (y:Int)] rfl ?c1 ?c2 ?c3 ?c4 ?c5 ?_)
     case c1 => exact reads_v wr _ _
     case c2 => intro u hu; rw [List.mem_singleton] at hu; subst hu; rfl
     case c3 => unfold maxLen; omega
     case c4 => omega
     case c5 => rw [World.size_alloc]; omega
     intro VV w6 own6 hg6 hat6
     obtain ⟨A6,cp6,rfl⟩:=own_is own6
     have b6:Below w.heap.size w w6:=(hB2.out.alloc sz _).grown hg6 (by rw [World.size_alloc]; omega) (fun j e => own_base ho2.out e)
     obtain ⟨-,AC6⟩:=K.out.ac w6 b6 l1 y l2 hR.out
     have c6:=CE.out w6 b6
     have own6':w6.ownsRow w.heap.size 51 1 (.slice A6 (m2 + 1) cp6) (m2 + 1) ((AC k ++ (l1 ++ [y])).map uv):=by
      have:(AC k ++ (l1 ++ [y])).map uv = (AC k).map uv ++ (l1.map uv ++ [.int .u64 (y:Int)]):=by rw [List.map_append,List.map_append]; rfl
      rw [this]; exact own6
     replace own6':=Lib.hid own6'
     replace b6:=Lib.hid b6
     replace AC6:=Lib.hid AC6
     clear own6 hg6 hat6 ho2 hB2
     go_wp2_with fail
     refine AC6.out.mono ?_
     rintro e w7 ⟨rfl,b7⟩
     have b7':=Lib.hid (b6.out.trans (b7.mono b6.out.size))
     have own7:=Lib.hid (own_keptN own6'.out fun b e => b7.block b (own_blockN own6'.out e))
     clear b7 AC6 c6 own6' b6
     go_wp2
     go_roundw
     case rel => exact ⟨l1 ++ [y],l2,m2 + 1,cp6,A6,rfl,rfl,rfl,Lib.hid (by rw [hR.out]; simp),Lib.hid (by have:=hm2.out; simp only [List.length_append,List.length_singleton] at this ⊢; omega),b7',own7⟩
     case measure => simp [lenV] <;> omega
  ·obtain rfl:k = 0:=by omega
   have d1:decide ((1:Int) <= ((0:Nat):Int)) = false:=rfl
   rw [a0.out] at hm ho
   replace d1:=Lib.hid d1
   clear hk hk3
   go_wp2
   go_ret
   exact ⟨hB.out,A,cp,by rw [<- hm.out]; rfl,by rw [<- hm.out]; exact ho.out⟩
section
variable {w:World} {L:Lay} {s:St} {bs:List UInt8} {Z:Nat -> Option Zd} {gq gl:Nat} {Ls:Nat -> Nat -> List Nat} {mk:Nat -> Nat} {g:Nat} {hot warm:Int} (h:LS w L s bs Z gq gl Ls mk g hot warm)
include h
end
theorem three_rev {l:List Nat} (h:l.length = 3):∃ c b a,l = [c,b,a] /\ l.reverse = [a,b,c]:=by
 match l,h with
 | [c,b,a],_ => exact ⟨c,b,a,rfl,rfl⟩
theorem wpAnyH_weak {P:Program} {md:Region.Mode} {ops:Array Oper} {Q:Exit -> Act -> World -> Prop} {S S':World -> Prop} (hS:∀ w,S' w -> S w):∀ (fuel:Nat) (listed:Array Bool) (a:Act) (w:World),wpAnyH P md ops Q S' fuel listed a w -> wpAnyH P md ops Q S fuel listed a w
 | 0,_,_,_,h => h
 | fuel + 1,_,_,_,h => ⟨h.1,fun i hi => wpOp_mono (fun a' w' h' => ⟨hS w' h'.1,wpAnyH_weak hS fuel _ a' w' h'.2⟩) (h.2 i hi)⟩
set_option maxHeartbeats 3200000 in
theorem wakesC (w:World):Calls Tryz.prog 15 #[] w fun e w' => e = .returned (.bool true) /\ Below w.heap.size w w':=by
 have BC:=begunC8 w 33 33 (by unfold Cls.In; decide) (by unfold Cls.In; decide)
 have n1:=fun w => numC6 w 0
 obtain ⟨N,hN⟩:∃ N,N = w.heap.size:=⟨_,rfl⟩
 rw [<- hN] at BC ⊢
 replace hN:=Lib.hid hN
 replace BC:=Lib.hid BC
 go_enter Tryz.func15,Tryz.ntmps15
 go_wp2_with fail
 refine BC.out.mono ?_
 rintro e w1 ⟨b1,W,g,d,rfl,hg,hd,hh,hw,A1⟩
 have R1:WLx N w w1 W g d [] []:=⟨_,_,_,_,_,_,_,b1,by rw [<- tri_one,oneL_nil]; exact A1,⟨by simp,by simp,by simp,by simp⟩,rel_new _,.inl ⟨rfl,rfl⟩,by simp,by show 0 <= _; omega,by simp,by simp,hg,hd,by rw [hh]; rfl,by rw [hw]; rfl,by simp⟩
 replace R1:=Lib.hid R1
 clear b1 hg hd hh hw A1 BC
 obtain ⟨b,hb⟩:∃ b,b = W.b:=⟨_,rfl⟩
 rw [<- hb]
 replace hb:=Lib.hid hb
 go_wp2_with fail
 go_loopw [2] (fun vi wr => ∃ (i:Nat) (W':W6) (l:List Nat),vi = .int .i64 (i:Int) /\ i <= 3 /\ Hid (W'.b = b) /\ Hid (l.length = i) /\ Hid (WLx N w wr W' g d l.reverse l)) (fun vi _ => 3 - (intOf vi).toNat)
 case atStart => exact ⟨0,W,[],rfl,Nat.zero_le _,Lib.hid hb.out.symm,Lib.hid rfl,R1⟩
 case round =>
  obtain ⟨i,W',l,rfl,hi,eb,hl,R⟩:=hrel
  clear R1
  by_cases hin:i < 3
  ·have d1:decide ((i:Int) < 3) = true:=decide_eq_true (by omega)
   have q1:IntKind.i64.wrap ((i:Int) + 1) = (i:Int) + 1:=IntWalk.i64_in _ (by omega)
   have bd:Below wr.heap.size wr wr.drew:=below_drewN (Below.refl _ _) 1
   have MC:=(R.out.below bd).make (by rw [List.length_reverse,hl.out]; omega)
   rw [eb.out] at MC
   obtain ⟨i2,hi2⟩:∃ i2,i2 = i + 1:=⟨_,rfl⟩
   have key:∀ w3 W3 H,W3.b = b -> H ∉ l.reverse -> WLx N w w3 W3 g d (l.reverse ++ [H]) l -> ∃ gT cT,(w3.cell? ⟨b,2,none⟩ = some (.pointer (some ⟨g,0,none⟩)) /\ w3.cell? ⟨b,6,none⟩ = some (.slice (some ⟨gT,0,none⟩) i2 cT) /\ w3.cell? ⟨gT,i,none⟩ = some (.int .u64 (H:Int))) /\
     Calls Tryz.prog 36 #[.pointer (some ⟨g,0,none⟩),.int .u64 (H:Int)] w3 fun e w' => e = .returned (.int .i64 0) /\ WLx N w w' W3 g d (H :: l).reverse (H :: l) /\ (w'.cell? ⟨b,2,none⟩ = some (.pointer (some ⟨g,0,none⟩)) /\ w'.cell? ⟨b,6,none⟩ = some (.slice (some ⟨gT,0,none⟩) i2 cT) /\ w'.cell? ⟨gT,i,none⟩ = some (.int .u64 (H:Int))):=by
    intro w3 W3 H eb3 hnH R3
    have key2:∀ v (k:List Nat),WLx N w v W3 g d (l.reverse ++ [H]) k -> v.cell? ⟨b,2,none⟩ = some (.pointer (some ⟨g,0,none⟩)) /\ v.cell? ⟨b,6,none⟩ = some W3.vT /\ ∃ gT cT,W3.vT = .slice (some ⟨gT,0,none⟩) i2 cT /\ v.cell? ⟨gT,i,none⟩ = some (.int .u64 (H:Int)):=by
     intro v k Rv
     obtain ⟨c2,c6,T3, -, -⟩:=Rv.cW
     rw [eb3] at c2 c6
     obtain ⟨gT,cT,hvT,u3⟩:=own_uv (i:=i) (x:=H) T3 (by rw [List.getElem?_append_right (by rw [List.length_reverse,hl.out]; exact Nat.le_refl _),List.length_reverse,hl.out,Nat.sub_self]; rfl)
     rw [List.length_append,List.length_singleton,List.length_reverse,hl.out, <- hi2] at hvT
     exact ⟨c2,c6,gT,cT,hvT,u3⟩
    obtain ⟨c2,c6,gT,cT,hvT,u3⟩:=key2 w3 l R3
    refine ⟨gT,cT,⟨c2,by rw [c6,hvT],u3⟩,?_⟩
    have EC:=R3.enter (H:=H) (by simp) (fun e => hnH (by simpa using e))
    refine EC.mono ?_
    rintro e w' ⟨rfl,R4⟩
    obtain ⟨k2,k6,gT',cT',hv',u4⟩:=key2 w' _ R4
    have e5:=hvT.symm.trans hv'
    injection e5 with e6 e7 e8
    injection e6 with e6
    injection e6 with e6
    rw [List.reverse_cons]
    exact ⟨rfl,R4,k2,by rw [k6,hvT],by rw [e6]; exact u4⟩
   have q2:((i2:Int) != (i:Int) + 1) = false:=by rw [bne_eq_false_iff_eq]; omega
   have q3:((i2:Int) == (i:Int) + 1) = true:=by rw [beq_iff_eq]; omega
   have q4:decide ((i2:Int) = (i:Int) + 1) = true:=decide_eq_true (by omega)
   have i0:(0:Int) <= (i:Int):=by omega
   have i1:(i:Int) < (i2:Int):=by omega
   replace MC:=Lib.hid MC
   replace key:=Lib.hid key
   replace hi2:=Lib.hid hi2
   clear R bd
   go_upto_region 7 with fail
   go_cut [47] from 18 to 47 (fun s47 wx => s47 = .bool false /\ ∃ (W3:W6) (H:Nat),Hid (W3.b = b) /\ Hid (WLx N w wx W3 g d (H :: l).reverse (H :: l)))
   case first =>
    refine wp_region_noPanic ?_
    refine wp_region_held_drew (S:=fun _ => True) (by kernel_rfl) trivial (fun hHeld => ?_)
    refine tkh (i:=0) (v:=?_) rfl ?_ ?_
    rotate_left
    ·try simp only [qA,qS,qZ]
     rintro w -
     go_simp
     (try with_reducible rfl)
    try simp only [qA,qS,qZ,Act.put,qT,qO,qN]
    refine tkh (i:=1) (v:=?_) rfl ?_ ?_
    rotate_left
    ·try simp only [qA,qS,qZ]
     rintro w -
     go_simp
     (try with_reducible rfl)
    try simp only [qA,qS,qZ,Act.put,qT,qO,qN]
    refine wpAnyH_ready (rs:=[2]) (by kernel_rfl) (by simp) ?_
    refine AllReadyH.cons (o:=_) rfl (fun K hK => ?_) ?_
    ·try simp only [qA,qS,qZ]
     go_simp
     go_at_call 42
     refine MC.out.mono ?_
     rintro e w3 ⟨rfl,W3,H,eb3,hnH,R3⟩
     obtain ⟨gT,cT,S3,EC⟩:=key.out w3 W3 H eb3 hnH R3
     replace EC:=Lib.hid EC
     replace eb3:=Lib.hid eb3
     clear R3 MC key hnH
     go_wp2_with fail
     refine hK.out _ _ trivial (fun hHeld => ?_)
     clear hK K hHeld
     try simp only [qA,qS,qZ,Act.put,qT,qO,qN]
     refine wpAnyH_weak (S':=fun v => v.cell? ⟨b,2,none⟩ = some (.pointer (some ⟨g,0,none⟩)) /\ v.cell? ⟨b,6,none⟩ = some (.slice (some ⟨gT,0,none⟩) i2 cT) /\ v.cell? ⟨gT,i,none⟩ = some (.int .u64 (H:Int))) (fun _ _ => trivial) _ _ _ _ ?_
     refine tkh (i:=3) (v:=?_) rfl ?_ ?_
     rotate_left
     ·try simp only [qA,qS,qZ]
      rintro w ⟨hS1,hS2,hS3⟩
      go_simp
      (try with_reducible rfl)
     try simp only [qA,qS,qZ,Act.put,qT,qO,qN]
     refine tkh (i:=4) (v:=?_) rfl ?_ ?_
     rotate_left
     ·try simp only [qA,qS,qZ]
      rintro w ⟨hS1,hS2,hS3⟩
      go_simp
      (try with_reducible rfl)
     try simp only [qA,qS,qZ,Act.put,qT,qO,qN]
     refine tkh (i:=5) (v:=?_) rfl ?_ ?_
     rotate_left
     ·try simp only [qA,qS,qZ]
      rintro w ⟨hS1,hS2,hS3⟩
      go_simp
      (try with_reducible rfl)
     try simp only [qA,qS,qZ,Act.put,qT,qO,qN]
     refine tkh (i:=6) (v:=?_) rfl ?_ ?_
     rotate_left
     ·try simp only [qA,qS,qZ]
      rintro w ⟨hS1,hS2,hS3⟩
      go_simp
      (try with_reducible rfl)
     try simp only [qA,qS,qZ,Act.put,qT,qO,qN]
     refine tkh (i:=7) (v:=?_) rfl ?_ ?_
     rotate_left
     ·try simp only [qA,qS,qZ]
      rintro w ⟨hS1,hS2,hS3⟩
      go_simp
      (try with_reducible rfl)
     try simp only [qA,qS,qZ,Act.put,qT,qO,qN]
     refine tkh (i:=8) (v:=?_) rfl ?_ ?_
     rotate_left
     ·try simp only [qA,qS,qZ]
      rintro w ⟨hS1,hS2,hS3⟩
      go_simp
      (try with_reducible rfl)
     try simp only [qA,qS,qZ,Act.put,qT,qO,qN]
     refine tkh (i:=9) (v:=?_) rfl ?_ ?_
     rotate_left
     ·try simp only [qA,qS,qZ]
      rintro w ⟨hS1,hS2,hS3⟩
      go_simp
      (try with_reducible rfl)
     try simp only [qA,qS,qZ,Act.put,qT,qO,qN]
     refine tkh (i:=10) (v:=?_) rfl ?_ ?_
     rotate_left
     ·try simp only [qA,qS,qZ]
      rintro w ⟨hS1,hS2,hS3⟩
      go_simp
      (try with_reducible rfl)
     try simp only [qA,qS,qZ,Act.put,qT,qO,qN]
     refine tkh (i:=11) (v:=?_) rfl ?_ ?_
     rotate_left
     ·try simp only [qA,qS,qZ]
      rintro w ⟨hS1,hS2,hS3⟩
      go_simp
      (try with_reducible rfl)
     try simp only [qA,qS,qZ,Act.put,qT,qO,qN]
     refine tkh (i:=12) (v:=?_) rfl ?_ ?_
     rotate_left
     ·try simp only [qA,qS,qZ]
      rintro w ⟨hS1,hS2,hS3⟩
      go_simp
      (try with_reducible rfl)
     try simp only [qA,qS,qZ,Act.put,qT,qO,qN]
     refine tkh (i:=13) (v:=?_) rfl ?_ ?_
     rotate_left
     ·try simp only [qA,qS,qZ]
      rintro w ⟨hS1,hS2,hS3⟩
      go_simp
      (try with_reducible rfl)
     try simp only [qA,qS,qZ,Act.put,qT,qO,qN]
     refine tkh (i:=14) (v:=?_) rfl ?_ ?_
     rotate_left
     ·try simp only [qA,qS,qZ]
      rintro w ⟨hS1,hS2,hS3⟩
      go_simp
      (try with_reducible rfl)
     try simp only [qA,qS,qZ,Act.put,qT,qO,qN]
     refine tkh (i:=15) (v:=?_) rfl ?_ ?_
     rotate_left
     ·try simp only [qA,qS,qZ]
      rintro w ⟨hS1,hS2,hS3⟩
      go_simp
      (try with_reducible rfl)
     try simp only [qA,qS,qZ,Act.put,qT,qO,qN]
     refine tkh (i:=16) (v:=?_) rfl ?_ ?_
     rotate_left
     ·try simp only [qA,qS,qZ]
      rintro w ⟨hS1,hS2,hS3⟩
      go_simp
      (try with_reducible rfl)
     try simp only [qA,qS,qZ,Act.put,qT,qO,qN]
     refine tkh (i:=17) (v:=?_) rfl ?_ ?_
     rotate_left
     ·try simp only [qA,qS,qZ]
      rintro w ⟨hS1,hS2,hS3⟩
      go_simp
      (try with_reducible rfl)
     try simp only [qA,qS,qZ,Act.put,qT,qO,qN]
     refine tkh (i:=18) (v:=?_) rfl ?_ ?_
     rotate_left
     ·try simp only [qA,qS,qZ]
      rintro w ⟨hS1,hS2,hS3⟩
      go_simp
      (try with_reducible rfl)
     try simp only [qA,qS,qZ,Act.put,qT,qO,qN]
     refine tkh (i:=19) (v:=?_) rfl ?_ ?_
     rotate_left
     ·try simp only [qA,qS,qZ]
      rintro w ⟨hS1,hS2,hS3⟩
      go_simp
      (try with_reducible rfl)
     try simp only [qA,qS,qZ,Act.put,qT,qO,qN]
     refine tkh (i:=20) (v:=?_) rfl ?_ ?_
     rotate_left
     ·try simp only [qA,qS,qZ]
      rintro w ⟨hS1,hS2,hS3⟩
      go_simp
      (try with_reducible rfl)
     try simp only [qA,qS,qZ,Act.put,qT,qO,qN]
     refine tkh (i:=21) (v:=?_) rfl ?_ ?_
     rotate_left
     ·try simp only [qA,qS,qZ]
      rintro w ⟨hS1,hS2,hS3⟩
      go_simp
      (try with_reducible rfl)
     try simp only [qA,qS,qZ,Act.put,qT,qO,qN]
     refine tkh (i:=22) (v:=?_) rfl ?_ ?_
     rotate_left
     ·try simp only [qA,qS,qZ]
      rintro w ⟨hS1,hS2,hS3⟩
      go_simp
      (try with_reducible rfl)
     try simp only [qA,qS,qZ,Act.put,qT,qO,qN]
     refine tkh (i:=23) (v:=?_) rfl ?_ ?_
     rotate_left
     ·try simp only [qA,qS,qZ]
      rintro w ⟨hS1,hS2,hS3⟩
      go_simp
      (try with_reducible rfl)
     try simp only [qA,qS,qZ,Act.put,qT,qO,qN]
     refine tkh (i:=24) (v:=?_) rfl ?_ ?_
     rotate_left
     ·try simp only [qA,qS,qZ]
      rintro w ⟨hS1,hS2,hS3⟩
      go_simp
      (try with_reducible rfl)
     try simp only [qA,qS,qZ,Act.put,qT,qO,qN]
     refine tkh (i:=25) (v:=?_) rfl ?_ ?_
     rotate_left
     ·try simp only [qA,qS,qZ]
      rintro w ⟨hS1,hS2,hS3⟩
      go_simp
      (try with_reducible rfl)
     try simp only [qA,qS,qZ,Act.put,qT,qO,qN]
     refine wpAnyH_ready (rs:=[26]) (by kernel_rfl) (by simp) ?_
     refine AllReadyH.cons (o:=_) rfl (fun K hK => ?_) ?_
     ·try simp only [qA,qS,qZ]
      go_simp
      go_at_call 36
      refine EC.out.mono ?_
      rintro e w4 ⟨rfl,R4,S4⟩
      replace R4:=Lib.hid R4
      clear EC
      go_wp2_with fail
      refine hK.out _ _ S4 (fun hHeld => ?_)
      clear hK K hHeld
      try simp only [qA,qS,qZ,Act.put,qT,qO,qN]
      refine wpAnyH_ready (rs:=[27]) (by kernel_rfl) (by simp) ?_
      refine AllReadyH.cons (o:=_) rfl (fun K hK => ?_) ?_
      ·try simp only [qA,qS,qZ]
       go_simp
       go_at_call 14
       refine (n1 _).mono ?_
       rintro e w' ⟨rfl,rfl⟩
       go_wp2_with fail
       refine hK.out _ _ S4 (fun hHeld => ?_)
       clear hK K hHeld
       try simp only [qA,qS,qZ,Act.put,qT,qO,qN]
       refine tkh (i:=28) (v:=?_) rfl ?_ ?_
       rotate_left
       ·try simp only [qA,qS,qZ]
        rintro w ⟨hS1,hS2,hS3⟩
        go_simp
        (try with_reducible rfl)
       try simp only [qA,qS,qZ,Act.put,qT,qO,qN]
       refine tkh (i:=29) (v:=?_) rfl ?_ ?_
       rotate_left
       ·try simp only [qA,qS,qZ]
        rintro w ⟨hS1,hS2,hS3⟩
        go_simp
        (try with_reducible rfl)
       try simp only [qA,qS,qZ,Act.put,qT,qO,qN]
       refine wpAnyH_done (by kernel_rfl) ?_ _
       refine NoPanic.normal ?_
       clear S3 S4
       go_wp2_with fail
       go_meet
       exact ⟨rfl,W3,H,eb3,R4⟩
      exact AllReadyH.nil
     exact AllReadyH.nil
    exact AllReadyH.nil
   case rest =>
    obtain ⟨rfl,W3,H,eb3,R4⟩:=hcut
    rename World => w4
    go_wp2
    go_roundw
    case rel => exact ⟨i + 1,W3,H :: l,by simp,by omega,eb3,Lib.hid (by rw [List.length_cons,hl.out]),R4⟩
    case measure => simp [intOf] <;> omega
  ·obtain rfl:i = 3:=by omega
   have d1:decide (((3:Nat):Int) < 3) = false:=by decide
   obtain ⟨c,m,a,rfl,hr3⟩:=three_rev hl.out
   have R':=R.out
   rw [hr3] at R'
   have BL:=R'.balance
   rw [eb.out] at BL
   obtain ⟨c2, -, -, -, -⟩:=R'.cW
   rw [eb.out] at c2
   obtain ⟨a64,a0⟩:=R'.lt (H:=a) (by simp)
   obtain ⟨-,m0⟩:=R'.lt (H:=m) (by simp)
   obtain ⟨-,c0⟩:=R'.lt (H:=c) (by simp)
   replace BL:=Lib.hid BL
   replace eb:=Lib.hid eb.out
   replace a0:=Lib.hid a0
   replace m0:=Lib.hid m0
   replace c0:=Lib.hid c0
   clear R R' hr3 hl
   go_wp2_with fail
   refine BL.out.mono ?_
   rintro e w2 ⟨rfl,b2,s,bs,Z,mk,L,gq,gl,S2,ea,hN2,k2,k6,T2,bl2⟩
   (try rw [eb.out] at k2)
   (try rw [eb.out] at k6)
   have PC:=pickC S2 0 0 5 (by unfold Cls.In; decide)
   obtain ⟨p1,p2⟩:=pick_three (A:=actB s Z mk) a0.out m0.out c0.out (actB_even ea)
   rw [tri_row,show ([m,a].reverse ++ ([]:List Nat).reverse ++ [c].reverse) = [a,m,c] from rfl,p1,p2] at PC
   clear p1 p2
   have LC:=fun v (bv:Below w2.heap.size w2 v) => lenC3 (S2.below bv) 0
   obtain ⟨t1,t2,t3⟩:=tri_len [c] [] [m,a]
   rw [t1,t2,t3] at LC
   obtain ⟨gT,cT,hvT,u0⟩:=own_uv (i:=0) (x:=a) T2 rfl
   rw [hvT,show [a,m,c].length = 3 from rfl] at k6
   replace PC:=Lib.hid PC
   replace LC:=Lib.hid LC
   replace b2:=Lib.hid b2
   replace hvT:=Lib.hid hvT
   clear S2 T2 ea t1 t2 t3 BL c2
   go_wp2_with fail
   refine PC.out.mono ?_
   rintro e w3 ⟨rfl,b3⟩
   have k2':=(b3.cell (p:=⟨b,2,none⟩) (World.block_lt_of_cell? _ _ k2)).trans k2
   have k6':=(b3.cell (p:=⟨b,6,none⟩) (World.block_lt_of_cell? _ _ k6)).trans k6
   have u0':=(b3.cell (p:=⟨gT,0,none⟩) (World.block_lt_of_cell? _ _ u0)).trans u0
   have LC3:=Lib.hid (LC.out w3 b3)
   have b13:=b2.out.trans (b3.mono hN2)
   have hN3:=Nat.le_trans hN2 b3.size
   replace b13:=Lib.hid b13
   clear k2 k6 u0 b3 b2 PC LC
   go_wp2_with fail
   refine LC3.out.mono ?_
   rintro e w4 ⟨rfl,b4⟩
   have k6:=(b4.cell (p:=⟨b,6,none⟩) (World.block_lt_of_cell? _ _ k6')).trans k6'
   have u0:=(b4.cell (p:=⟨gT,0,none⟩) (World.block_lt_of_cell? _ _ u0')).trans u0'
   have b14:=Lib.hid (b13.out.trans (b4.mono hN3))
   clear k2' k6' u0' b4 b13
   go_wp2
   go_ret
   exact ⟨rfl,b14.out⟩
def Rst (N:Nat) (W0 wr:World) (W:W6) (s:St) (Ld:Nat -> Nat -> List Nat) (r:RS) (laid told act:List Nat):Prop :=
 ∃ bs Z Ls mk,WAt N wr W qc s bs Z Ls Ld r laid told act mk /\ (∀ H,isN qc s Z H = true -> H ∈ laid) /\ Below N W0 wr /\ N <= wr.heap.size
theorem Rst.below {N:Nat} {W0 wr w':World} {W:W6} {s:St} {Ld:Nat -> Nat -> List Nat} {r:RS} {laid told act:List Nat} (h:Rst N W0 wr W s Ld r laid told act) (b:Below wr.heap.size wr w'):Rst N W0 w' W s Ld r laid told act:=by
 obtain ⟨bs,Z,Ls,mk,A,l,B,hN⟩:=h
 exact ⟨bs,Z,Ls,mk,A.below b,l,B.trans (b.mono hN),Nat.le_trans hN b.size⟩
theorem Rst.cells {N:Nat} {W0 wr:World} {W:W6} {s:St} {Ld:Nat -> Nat -> List Nat} {r:RS} {laid told act:List Nat} (h:Rst N W0 wr W s Ld r laid told act):wr.cell? ⟨W.b,0,none⟩ = some (.pointer (some ⟨W.L.g,0,none⟩)) /\ wr.cell? ⟨W.b,1,none⟩ = some (.pointer (some ⟨W.gq,0,none⟩)) /\ wr.cell? ⟨W.b,2,none⟩ = some (ptrO W.gm):=by
 obtain ⟨bs,Z,Ls,mk,A,l,B,hN⟩:=h
 obtain ⟨y0,y1, -⟩:=A.cW
 exact ⟨y0,y1,A.cL.1⟩
end Go.Proofs.YtngehaiigbbknaaGreat.Que
/-
  The program's Lru: Walk, ranged over.
-/
namespace Go.Proofs.YtngehaiigbbknaaGreat.Que
open Go.RowKit Base Arena Cls Itm Go.Shelf
attribute [local go_sem] Oper.semAt_some
theorem walkC0 (w:World) (g:Nat) (x:Int):Calls Tryz.prog 34 #[.pointer (some ⟨g,0,none⟩),.int .i64 x] w fun e w' =>
  e = .returned (.func (.func 71) #[] #[.pointer (some ⟨w.heap.size,0,none⟩),.pointer (some ⟨w.heap.size + 1,0,none⟩)]) /\
  w' = (w.alloc (.cells #[.pointer (some ⟨g,0,none⟩)] 25)).alloc (.cells #[.int .i64 x] 3):=by
 go_enter Tryz.func34,Tryz.ntmps34
 go_wp2
 go_ret
 exact ⟨rfl,rfl⟩
set_option maxHeartbeats 2000000 in
theorem walk1_in {w:World} {L:Lay} {s:St} {bs:List UInt8} {Z:Nat -> Option Zd} {gq gl:Nat} {Ls:Nat -> Nat -> List Nat} {mk:Nat -> Nat} {g:Nat} {hot warm:Int} (h:LS w L s bs Z gq gl Ls mk g hot warm) (x:Int) (n:Nat) (hn : 6 <= n) (l Bl Bc D:Nat)
  (J Jx:List HU -> World -> Prop) (W:World) (hw:Below w.heap.size w W) (hD:D <= W.heap.size) (hJ:OwnFrom W.heap.size J) (hJx:OwnFrom W.heap.size Jx)
  (hY:∀ pre (y:HU) W1,J pre W1 -> pre.length < (rowX Ls x).length -> YieldAt Fence.wide (n - 1) Tryz.prog l #[.int .u64 (y.1:Int)] W1 fun e W' =>
   (e = .returned (.bool true) /\ J (pre ++ [y]) W' /\ KeepP D W1 W') \/ (e = .returned (.bool false) /\ Jx (pre ++ [y]) W' /\ KeepP D W1 W'))
  (cl:W.cell? ⟨Bl,0,none⟩ = some (.pointer (some ⟨g,0,none⟩))) (cc:W.cell? ⟨Bc,0,none⟩ = some (.int .i64 x)) (h0:J [] W) :
  CallsIn Fence.wide n Tryz.prog 71 #[.func (.yield l) #[] #[],.pointer (some ⟨Bl,0,none⟩),.pointer (some ⟨Bc,0,none⟩)] W fun e W' => (∃ v,e = .returned v) /\
   ((∃ ys:List HU,ys.map (·.1) = rowX Ls x /\ J ys W') \/ (∃ pre:List HU,pre.map (·.1) <+: rowX Ls x /\ Jx pre W')):=by
 obtain ⟨i0,hi,hz0,hz1,hz2⟩:=info_parts infoH
 have h1 : 1 <= n:=by omega
 have AC:=Lib.hid (fun w1 => rowC0 w1 g x)
 obtain ⟨M,hM⟩:∃ M,M = W.heap.size:=⟨_,rfl⟩
 obtain ⟨W1,hW1⟩:∃ W1,W1 = ((W.alloc (.cells #[.slice none 0 0] 55)).alloc (.cells #[.pointer (some ⟨g,0,none⟩)] 25)).alloc (.cells #[.int .i64 x] 3):=⟨_,rfl⟩
 have z1:W1.heap.size = M + 3:=by rw [hW1,hM,World.size_alloc,World.size_alloc,World.size_alloc]
 have bT:Boxed W1 M 55 (.slice none 0 0):=by rw [hW1,hM]; exact ((Boxed.new W _ _).alloc _).alloc _
 have b1:Below W.heap.size W W1:=by rw [hW1]; exact (((Below.refl _ W).alloc (Nat.le_refl _) _).alloc (by simp) _).alloc (by simp; omega) _
 have d1:W1.cell? ⟨M + 1,0,none⟩ = some (.pointer (some ⟨g,0,none⟩)):=by
  rw [hW1,hM]
  exact ((blk_new' (World.size_alloc _ _)).alloc _).cell 0
 have d2:W1.cell? ⟨M + 2,0,none⟩ = some (.int .i64 x):=by
  rw [hW1,hM]
  exact (blk_new' (by rw [World.size_alloc,World.size_alloc])).cell 0
 have cl1:=(World.cell?_alloc_lt W (.cells #[.slice none 0 0] 55) _ (World.block_lt_of_cell? W _ cl)).trans cl
 have cc1:=(World.cell?_alloc_lt W (.cells #[.slice none 0 0] 55) _ (World.block_lt_of_cell? W _ cc)).trans cc
 have mA:M <= W.heap.size:=by omega
 have mB:W.heap.size <= M:=by omega
 have zA:W1.heap.size <= M + 3:=by omega
 have zB:M + 3 <= W1.heap.size:=by omega
 replace hW1:=Lib.hid hW1
 replace hM:=Lib.hid hM
 replace z1:=Lib.hid z1
 replace h0:=Lib.hid h0
 replace hJ:=Lib.hid hJ
 replace hY:=Lib.hid hY
 refine callsIn_of_wp_marks Tryz.func71 rfl trivial ?_ rfl
 simp only [Tryz.ntmps71,List.size_toArray,List.length_cons,List.length_nil,Nat.reduceAdd,Nat.reduceSub,Array.replicate_succ,Array.replicate_zero,List.push_toArray,List.append_toArray,List.nil_append,List.cons_append]
 gi_wp2_with (first | (refine ⟨trivial,?_⟩; gi_at_call 69; refine (callsIn_wide.2 (AC.out _)).mono ?_; rintro e w' ⟨rfl,rfl⟩) | fail)
 rw [<- hW1.out, <- hM.out]
 have sw:=hw.size
 have small:=h.rowB x
 have hseq:=row_seq h x (n - 1) (by omega) (M + 1) (M + 2) (fun b => b = M \/ W1.heap.size <= b) W1 (hw.trans (b1.mono sw)) (fun b hb hS => by omega) ⟨fun hS => by omega,fun hS => by omega⟩ d1 d2
 refine wpIn_rangeFunc_ownG rfl h1 (gf:=105) (lb:=#[.pointer (some ⟨M + 1,0,none⟩),.pointer (some ⟨M + 2,0,none⟩)]) rfl trivial (enters_of Tryz.func105 (by kernel_rfl) rfl)
  hseq (fun h k => h.trans k fun _ _ h => h) (fun W' l' o o' hl ho h1 h2 => ⟨rfl,rfl,rfl,(grownBy_putObj' W' l' o').size,fun b hb hS => World.putObj_heap_other (fun e => hS (.inr (e ▸ hl)))⟩) (Below.refl _ _) (fun _ => rfl)
  (fun pre Wx => (∃ v,Boxed Wx M 55 v /\ Wx.ownsRow W1.heap.size 51 1 v pre.length (pre.map hv) /\ True) /\ (Below W.heap.size W Wx /\ W1.heap.size <= Wx.heap.size))
  (fun _ _ _ => False)
  (OwnFrom.and (Own.from (holdsRow_own W1.heap.size M 55 51 1 (fun pre:List HU => pre.length) (fun pre:List HU => pre.map hv) (fun _ _ => True)) _) (OwnFrom.and (ownFrom_below (Nat.le_refl _) (by omega)) (fun _ _ _ _ hs hg _ => Nat.le_trans hs hg.size)))
  (fun _ _ _ _ _ hs _ _ => hs)
  ⟨⟨_,bT,World.ownsRow_nil _ _ _ _,trivial⟩,b1,Nat.le_refl _⟩
  (fun y => { tmps:=#[.func (.yield l) #[] #[],.pointer (some ⟨Bl,0,none⟩),.pointer (some ⟨Bc,0,none⟩),undef,.pointer (some ⟨M,0,none⟩),.int .u64 (y.1:Int),undef,undef,.pointer (some ⟨g,0,none⟩),.int .i64 x,
   .func (.func 105) #[] #[.pointer (some ⟨M + 1,0,none⟩),.pointer (some ⟨M + 2,0,none⟩)],.int .u64 (y.1:Int),undef,undef,undef,undef,undef,undef,undef,undef,undef,undef,undef,undef,undef,undef,undef],defers:=[] }) ?assign ?body ?done ?stop
 case assign =>
  intro l' y W' K hK
  gi_wp2
  exact hK
 case body =>
  rintro l' pre y Wx ⟨⟨v,hv',hrow, -⟩,hB,hS⟩ hlt
  have hc:=hv'.cell
  have sB:=hB.size
  gi_wp2_with (gi_at_builtin; refine wpListIn_append_own _ rfl _ _ 55 rfl W1.heap.size 51 i0 (.int .u64 0) 1 8 Tryz.underlying55 hi hz0 hz1 hz2 rfl (by decide) _ _ _ rfl (hrow.alloc _) ⟨Wx.heap.size,0,none⟩ 1 1 [.int .u64 (y.1:Int)] rfl rfl (cell_one_new _ _ _) ?b0 ?b1 ?b2 ?b3 ?_)
  case b0 => simp [Value.oneCell']
  case b1 => unfold maxLen; omega
  case b2 => omega
  case b3 => omega
  intro v' w1 hown' hgrow _
  obtain ⟨g',cap',rfl⟩:=ownsRow_succ hown'
  obtain ⟨hv1,hv2, -,hk2, -⟩:=hv'.appended (n₀:=0) (by decide) (own_less hrow (Nat.zero_le _)) (Nat.zero_le _) (Nat.zero_le _) (own_less hown' (Nat.zero_le _)) hgrow
  have hc1:=hv1.cell
  have hf1:=hv1.frozen
  have hr2:=hown'.kept (grownBy_setCell' w1 M (.slice (some ⟨g',0,none⟩) (pre.length + 1) cap')) (.inr (hv1.not_row (by decide) hown').symm)
  have oS:Only (fun b => b = M \/ W1.heap.size <= b) Wx (w1.setCell ⟨M,0,none⟩ (.slice (some ⟨g',0,none⟩) (pre.length + 1) cap')):=(((Only.refl _ Wx).alloc _).grown hgrow (fun k e hk => .inr (own_base hrow e))).setCell (p:=⟨M,0,none⟩) (fun _ => .inl rfl) _
  have bF:=hB.trans (oS.toBelow (B:=W.heap.size) fun k hk => ⟨by omega,fun e => by omega⟩)
  replace hr2:=Lib.hid hr2
  replace hv2:=Lib.hid hv2
  replace hk2:=Lib.hid hk2
  replace oS:=Lib.hid oS
  replace bF:=Lib.hid bF
  clear hown' hgrow hrow hB hv'
  gi_wp2
  exact ⟨hk2.out.from _,oS.out,⟨_,hv2.out,by have:=hr2.out; simpa [hv] using this,trivial⟩,bF.out,Nat.le_trans hS oS.out.size⟩
 case done =>
  rintro D' ys Wx hD' hys ⟨⟨v,hv',hrow, -⟩,hB,hS⟩ hK
  obtain ⟨A,cp,rfl⟩:=own_is hrow
  have hc:=hv'.cell
  have hl:ys.length = (rowX Ls x).length:=by rw [<- hys,List.length_map]
  have hJ0:=hJ.out [] W Wx none h0.out (grown_of_below hB) (fun r e => by cases e)
  obtain ⟨K,hKl⟩:∃ K,K = ys.length:=⟨_,rfl⟩
  rw [<- hKl] at hc
  have at_:∀ i (hi:i < ys.length),∃ g,A = some ⟨g,0,none⟩ /\ D <= g /\ ∃ o,Wx.heap[g]? = some o /\ prot o = true /\ Wx.cell? ⟨g,i,none⟩ = some (.int .u64 (ys[i].1:Int)):=by
   intro i hi
   have hx:(ys.map hv)[i]? = some (hv ys[i]):=by rw [List.getElem?_map,List.getElem?_eq_getElem hi]; rfl
   rcases hrow.2 with ⟨e0,h0⟩ | ⟨g,cap,cur,hv2,hBg,hg,h1,h2,h3,h4⟩
   ·have:=hrow.1
    omega
   ·injection hv2 with hv2 hv3 hv4
    refine ⟨g,hv2,by omega,_,hg,rfl,?_⟩
    rw [cell_of_row Wx g i cur _ (0,0) hg]
    rw [<- h4,List.getElem?_take] at hx
    split at hx
    ·simpa [hv] using hx
    ·cases hx
  have hkK:K <= 402653187:=by omega
  replace at_:=Lib.hid at_
  replace hys:=Lib.hid hys
  replace hJ0:=Lib.hid hJ0
  replace hK:=Lib.hid hK
  replace hKl:=Lib.hid hKl
  replace hl:=Lib.hid hl
  clear hrow hv' hB
  gi_wp2
  gi_loopw [18] (fun ti wr => ∃ i:Nat,ti = .int .i64 (i:Int) /\ i <= K /\ Hid (J (ys.take i) wr) /\ Hid (KeepP D Wx wr)) (fun ti _ => K - (intOf ti).toNat)
  case atStart => exact ⟨0,rfl,Nat.zero_le _,hJ0,Lib.hid (KeepP.refl _ _)⟩
  case round =>
   obtain ⟨i,rfl,hi',hJs,kp⟩:=hrel
   by_cases hlt:i < K
   ·have hiy:i < ys.length:=by rw [<- hKl.out]; exact hlt
    obtain ⟨g,rfl,hDg,o,hgo,hpo,hcl⟩:=at_.out i hiy
    have hcr:wr.cell? ⟨g,i,none⟩ = some (.int .u64 (ys[i].1:Int)):=(World.cell?_of_block (a:=⟨g,i,none⟩) ((kp.out.same g o hDg hgo hpo).trans hgo.symm)).trans hcl
    obtain ⟨fn,tmps,assign,body,hy,hR⟩:=hY.out (ys.take i) ys[i] wr hJs.out (by rw [List.length_take]; have:=hl.out; omega)
    have hts:ys.take (i + 1) = ys.take i ++ [ys[i]]:=by rw [List.take_add_one,List.getElem?_eq_getElem hiy]; rfl
    rw [<- hts] at hR
    generalize ys[i] = y at *
    have i0':(0:Int) <= (i:Int):=by omega
    have i1':(i:Int) < (K:Int):=by omega
    have d1':decide ((i:Int) < (K:Int)) = true:=decide_eq_true i1'
    have q1:IntKind.i64.wrap ((i:Int) + 1) = (i:Int) + 1:=IntWalk.i64_in _ (by omega)
    replace hts:=Lib.hid hts
    clear hcl hgo hiy
    gi_wp2
    refine hR.mono ?_
    rintro e W3 (⟨rfl,hJ3,hk3⟩ | ⟨rfl,hJx3,hk3⟩)
    ·gi_wp2
     go_roundw
     case rel => exact ⟨i + 1,by simp,by omega,Lib.hid hJ3,Lib.hid (kp.out.trans hk3)⟩
     case measure => simp [intOf] <;> omega
    ·have hK3:=(kp.out.trans hk3).same D' _ (by omega) hK.out rfl
     gi_wp2
     refine ⟨by simp,.inl ⟨_,_,rfl,run_takeDeferred hK3,?_⟩⟩
     exact ⟨_,results_none rfl _ _ _,⟨_,rfl⟩,.inr ⟨ys.take (i + 1),by rw [<- hys.out,List.map_take]; exact List.take_prefix _ _,hJx.putObj _ hJx3 (by omega) hK3 rfl⟩⟩
   ·obtain rfl:i = K:=by omega
    have hK3:=kp.out.same D' _ (by omega) hK.out rfl
    have d1':decide ((i:Int) < (i:Int)) = false:=by simp
    gi_wp2
    refine ⟨by simp,.inl ⟨_,_,rfl,run_takeDeferred hK3,?_⟩⟩
    exact ⟨_,results_none rfl _ _ _,⟨_,rfl⟩,.inl ⟨ys,hys.out,by have:=hJs.out; rw [List.take_of_length_le (by rw [<- hKl.out]; exact Nat.le_refl _)] at this; exact hJ.out.putObj _ this (by omega) hK3 rfl⟩⟩
 case stop =>
  rintro D' c' pre Wx _ _ h _
  exact h.elim
end Go.Proofs.YtngehaiigbbknaaGreat.Que
/-
  What a body of a range over Walk may call, over the statements' world.
-/
namespace Go.Proofs.YtngehaiigbbknaaGreat.Que
open Go.RowKit Base Arena Cls Itm Go.Shelf
section
variable {N:Nat} {W0 wr:World} {W:W6} {s:St} {Ld:Nat -> Nat -> List Nat} {r:RS} {laid told act:List Nat} (h:Rst N W0 wr W s Ld r laid told act)
include h
theorem Rst.only {S:Nat -> Prop} {w':World} (o:Only S wr w') (ns:∀ i b,W.foot qc s i b -> ¬ S b) (nN:∀ b,S b -> N <= b):Rst N W0 w' W s Ld r laid told act:=by
 obtain ⟨bs,Z,Ls,mk,A,l,B,hN⟩:=h
 exact ⟨bs,Z,Ls,mk,A.only o ns,l,B.trans (o.toBelow fun k hk => ⟨by omega,fun e => by have:=nN k e; omega⟩),Nat.le_trans hN o.size⟩
theorem Rst.go {F:FuncId} {args:Array Value} {g:Nat} (hg:W.gm = some g) (C:∀ bs Z Ls mk,LS wr W.L s bs Z W.gq W.gl Ls mk g W.hot W.warm -> Calls Tryz.prog F args wr fun e v' => (∃ v,e = .returned v) /\ ∃ Lx mk',DL wr v' W.L s bs Z W.gq W.gl Lx mk' g W.hot W.warm) :
  Calls Tryz.prog F args wr fun e v' => (∃ v,e = .returned v) /\ Rst N W0 v' W s Ld r laid told act /\ Only (Two W.L W.gl) wr v':=by
 obtain ⟨bs,Z,Ls,mk,A,l,B,hN⟩:=h
 refine (C bs Z Ls mk (A.ls hg)).mono ?_
 rintro e v' ⟨hv,Lx,mk',D⟩
 obtain ⟨bs2,Z2,e2,z2,G2,A2⟩:=A.dl hg D
 exact ⟨hv,⟨bs2,Z2,Lx,mk',A2,fun H hI => l H (by rw [<- isN_congr z2]; exact hI),B.trans (G2.below A.base A.hN0),Nat.le_trans hN D.1.size⟩,D.1⟩
theorem Rst.leaveV {g:Nat} (hg:W.gm = some g) (H:Nat) (hH:H < 18446744073709551616):Calls Tryz.prog 35 #[.pointer (some ⟨g,0,none⟩),.int .u64 (H:Int)] wr fun e v' => (∃ v,e = .returned v) /\ Rst N W0 v' W s Ld r laid told act /\ Only (Two W.L W.gl) wr v' :=
 h.go hg fun bs Z Ls mk q => (leaveC q H hH).mono fun e v' ⟨e1,D⟩ => ⟨⟨_,e1⟩,_,_,D⟩
theorem Rst.enterV {g:Nat} (hg:W.gm = some g) (H:Nat) (hH:H < 18446744073709551616):Calls Tryz.prog 36 #[.pointer (some ⟨g,0,none⟩),.int .u64 (H:Int)] wr fun e v' => (∃ v,e = .returned v) /\ Rst N W0 v' W s Ld r laid told act /\ Only (Two W.L W.gl) wr v' :=
 h.go hg fun bs Z Ls mk q => (enterC q H hH).mono fun e v' ⟨e1,D⟩ => ⟨⟨_,e1⟩,_,_,D⟩
theorem Rst.hitV {g:Nat} (hg:W.gm = some g) (H:Nat) (hH:H < 18446744073709551616):Calls Tryz.prog 37 #[.pointer (some ⟨g,0,none⟩),.int .u64 (H:Int)] wr fun e v' => (∃ v,e = .returned v) /\ Rst N W0 v' W s Ld r laid told act /\ Only (Two W.L W.gl) wr v' :=
 h.go hg fun bs Z Ls mk q => (hitC q H hH).mono fun e v' ⟨e1,D⟩ => ⟨⟨_,e1⟩,_,_,D⟩
theorem Rst.balV {g:Nat} (hg:W.gm = some g) (sh:Shr W.hot W.warm) (x:Int):Calls Tryz.prog 19 #[.pointer (some ⟨g,0,none⟩),.int .i64 x,.int .i64 2,.nilFunc] wr fun e v' => (∃ v,e = .returned v) /\ Rst N W0 v' W s Ld r laid told act /\ Only (Two W.L W.gl) wr v' :=
 h.go hg fun bs Z Ls mk q => (balanceC q sh x 2 (by unfold Cls.In; decide)).mono fun e v' ⟨e1,D⟩ => ⟨⟨_,e1⟩,_,_,D⟩
theorem Rst.rowV {g:Nat} (hg:W.gm = some g) (hl:laid.length <= 900) (x:Int):∃ row:List Nat,row.length <= 900 /\ (∀ v,Below wr.heap.size wr v -> Calls Tryz.prog 22 #[.pointer (some ⟨W.b,0,none⟩),.int .i64 x] v fun e w' => Below v.heap.size v w' /\ ∃ A cp,e = .returned (.slice A row.length cp) /\ w'.ownsRow v.heap.size 51 1 (.slice A row.length cp) row.length (row.map uv)) /\
  ∀ w5,Below wr.heap.size wr w5 -> ∀ (n:Nat) (hn : 6 <= n) (Bl Bc:Nat),w5.cell? ⟨Bl,0,none⟩ = some (.pointer (some ⟨g,0,none⟩)) -> w5.cell? ⟨Bc,0,none⟩ = some (.int .i64 x) ->
   SeqP n Tryz.prog 71 #[.pointer (some ⟨Bl,0,none⟩),.pointer (some ⟨Bc,0,none⟩)] (fun y:HU => #[Value.int .u64 (y.1:Int)]) (KeepP w5.heap.size) (fun ys:List HU => ys.map (·.1) = row) (fun pre:List HU => pre.map (·.1) <+: row) row.length w5:=by
 obtain ⟨bs,Z,Ls,mk,A,l,B,hN⟩:=h
 have ht:totX Ls x <= 900:=Nat.le_trans (QL.tot A.q.ql l x) hl
 refine ⟨rowX Ls x,by rw [rowX_len]; exact ht,fun v b => rowC (A.below b).q (A.below b).cW.2.1 x ht,fun w5 b5 n hn Bl Bc c1 c2 => ?_⟩
 intro l' J Jx Wx hw hJ hJx hY h0
 exact walk1_in ((A.below b5).ls hg) x n hn l' Bl Bc w5.heap.size J Jx Wx hw hw.size hJ hJx hY ((hw.cell (p:=⟨Bl,0,none⟩) (World.block_lt_of_cell? w5 _ c1)).trans c1) ((hw.cell (p:=⟨Bc,0,none⟩) (World.block_lt_of_cell? w5 _ c2)).trans c2) h0
end
theorem rst_own {β:Type} {N D:Nat} {W0:World} {W:W6} {s:St} {Ld:Nat -> Nat -> List Nat} {r:RS} {laid told act:List Nat} (hf:∀ i b,W.foot qc s i b -> b < D) (hN:N <= D):OwnFrom D (fun (_ : β) Wx => Rst N W0 Wx W s Ld r laid told act) :=
 fun _ X Y row hs hg hr => hs.only ((Only.refl (fun b => D <= b) X).grown hg fun k e hk => (hr k e).1) (fun i b hb e => by have:=hf i b hb; omega) (fun b e => Nat.le_trans hN e)
end Go.Proofs.YtngehaiigbbknaaGreat.Que
/-
  The law's length, header, queues, ends, deads.
-/
namespace Go.Proofs.YtngehaiigbbknaaGreat.Que
open Go.RowKit Base Arena Cls Itm
section
variable {N:Nat} {w:World} {W:W6} {s:St} {bs:List UInt8} {Z:Nat -> Option Zd} {Ls:Nat -> Nat -> List Nat} {r:RS} {laid told act:List Nat} {mk:Nat -> Nat} {t:Nat} (h:LI N w W s bs Z Ls r laid told act mk t) (ht:t <= 60000) {g:Nat} (hg:W.gm = some g)
include h ht hg
end
section
variable {N:Nat} {w:World} {W:W6} {s:St} {bs:List UInt8} {Z:Nat -> Option Zd} {Ls Ld:Nat -> Nat -> List Nat} {r:RS} {laid told act:List Nat} {mk:Nat -> Nat} (h:DX N w W s bs Z Ls Ld r laid told act mk) {dm:Nat} (ed:W.dm = some dm)
include h ed
end
structure KB (P:World -> Prop) (gq:Nat) (x k:Int) (R:List Nat):Prop where
 small:R.length <= 134217729
 hc:∀ w,P w -> Calls Tryz.prog 63 #[.pointer (some ⟨gq,0,none⟩),.int .i64 x,.int .i64 k] w fun e w' => e = .returned (.tuple #[.int .u64 (R.head?.getD 0:Int),.bool (decide (0 < R.length))]) /\ w = w'
 bc:∀ w,P w -> ∀ (l1:List Nat) (y:Nat) (l2:List Nat),R = l1 ++ y :: l2 -> y < 18446744073709551616 /\ Calls Tryz.prog 64 #[.pointer (some ⟨gq,0,none⟩),.int .u64 (y:Int)] w fun e w' => e = .returned (.tuple #[.int .u64 (l2.head?.getD 0:Int),.bool (decide (0 < l2.length))]) /\ Below w.heap.size w w'
section
variable {N:Nat} {w:World} {W:W6} {s:St} {bs:List UInt8} {Z:Nat -> Option Zd} {Ls:Nat -> Nat -> List Nat} {r:RS} {laid told act:List Nat} {mk:Nat -> Nat} {t:Nat} (h:LI N w W s bs Z Ls r laid told act mk t) (ht:t <= 60000) {g:Nat} (hg:W.gm = some g)
include h ht hg
end
section
variable {N:Nat} {w:World} {W:W6} {s:St} {bs:List UInt8} {Z:Nat -> Option Zd} {Ls:Nat -> Nat -> List Nat} {r:RS} {laid told act:List Nat} {mk:Nat -> Nat} {t:Nat} (h:LI N w W s bs Z Ls r laid told act mk t) (ht:t <= 60000) {g:Nat} (hg:W.gm = some g)
include h ht hg
end
end Go.Proofs.YtngehaiigbbknaaGreat.Que
/-
  A region that draws its order inside a round of a range over a function: one walk of the lexical order serves every order. Nothing here names a function of the program.
-/
namespace Go.Proofs.YtngehaiigbbknaaGreat.Base
open Go.RowKit
section
variable {F:Fence} {n:Nat} {P:Program} {ops:Array Oper} {md:Region.Mode} {C:World -> Prop}
def noDefer (ops:Array Oper):Bool:=ops.toList.all fun o => match o.op with
 | .defer _ => false
 | _ => true
theorem noDefer_spec (h:noDefer ops = true) {j:Nat} {o:Oper} (ho:ops[j]? = some o):∀ c,o.op ≠ .defer c:=fun c e => by
 have hm:o ∈ ops.toList:=by simpa using Array.mem_of_getElem? ho
 have:=List.all_eq_true.1 h o hm
 rw [e] at this
 cases this
theorem wpIn_of_quiet_r {o:Oper} {a:Act} {K:Act -> Prop} {K':Act -> World -> Prop} {Q':Exit -> Act -> World -> Prop} {w:World} (hd:∀ c,o.op ≠ .defer c) (hw:C w) (h:∀ a w',C w' -> K a -> K' a w')
  (ha:o.askedIn F P a C) (hh:o.quietIn F n P a C K):o.wpIn F n P a w K' Q':=by
 obtain ⟨v,h1,h2⟩:=hh
 have h3:=h1 w hw
 unfold Oper.quietAtIn at h3
 unfold Oper.wpIn
 refine ⟨ha w hw,?_⟩
 rw [Oper.semAt_plain F _ _ hd]
 generalize (execOp a.eval o).run P w = r at *
 cases r with
 | ok x w' =>
  cases x <;> simp only [Oper.quietUponIn] at h3 <;> simp only [Oper.uponIn]
  case value u =>
   obtain ⟨e1,e2⟩:=h3
   rw [e1,e2]
   exact h _ _ hw h2
  case skip =>
   obtain ⟨e1,e2⟩:=h3
   rw [e1, <- e2]
   exact h _ _ hw h2
  case enter f args =>
   obtain ⟨e1,hd,hc⟩:=h3
   rw [e1]
   exact ⟨hd,hc.mono fun e w'' ⟨he,hw''⟩ => by subst he; exact h _ _ hw'' h2⟩
 | halt x w' => simp only [Oper.quietUponIn] at h3
theorem wpOpIn_of_qOpIn_r {i:Nat} {a:Act} {K:Act -> Prop} {K':Act -> World -> Prop} {Q':Exit -> Act -> World -> Prop} {w:World} (hd:noDefer ops = true) (hC:C w) (h:∀ a w',C w' -> K a -> K' a w')
  (hh:qOpIn F n P ops C i K a):wpOpIn F n P ops Q' i K' a w:=by
 unfold qOpIn at hh
 unfold wpOpIn
 split
 ·rename_i ho; simp only [ho] at hh; exact h _ _ hC hh
 ·rename_i o ho
  simp only [ho] at hh
  obtain ⟨ha,hh⟩:=hh
  split
  ·rename_i hw; simp only [hw,if_true] at hh; exact wpIn_of_quiet_r (noDefer_spec hd ho) hC h ha hh
  ·rename_i hw; simp only [hw] at hh; exact ⟨ha w hC,h _ _ hC hh⟩
theorem wpAnyIn_of_quiet_r {Q:Act -> Prop} {Q':Exit -> Act -> World -> Prop} (hd:noDefer ops = true) (hQ:∀ a w,C w -> Q a -> Q' .normal a w):∀ (fuel:Nat) (listed:Array Bool) (a:Act) (w:World),C w ->
  wpAnyQIn F n P md ops C Q fuel listed a -> wpAnyIn F n P md ops Q' fuel listed a w
 | 0,_,_,_,hw,h => ⟨h.1,hQ _ _ hw h.2⟩
 | fuel + 1,_,_,_,hw,h => ⟨fun h0 => hQ _ _ hw (h.1 h0),fun i hi => wpOpIn_of_qOpIn_r hd hw (fun a' w' hw' => wpAnyIn_of_quiet_r hd hQ fuel _ a' w' hw') (h.2 i hi)⟩
theorem region_quiet_rC {id:Nat} {Q:Exit -> Act -> World -> Prop} {a:Act} {w:World} {l:List Oper} (C:World -> Prop) (hm:P.follows .mixedOrders = true) (hd:noDefer l.toArray = true) (hB:Region.lexB .any l.toArray = true) (hC:C { w with drawn:=w.drawn + 1 })
  (h:wpQuietIn F n P l.toArray C (fun a' => ∀ w',C w' -> Q .normal a' w') l a):(Code.region id l.toArray true).wpIn F n P Q a w:=by
 simp only [Region.lexB,Bool.and_eq_true] at hB
 refine wpIn_region_any hm (wpAnyIn_of_quiet_r (Q:=fun a' => ∀ w',C w' -> Q .normal a' w') hd (fun _ w' hw' h => h w' hw') _ _ _ _ hC ?_)
 have:=wpAnyQIn_lex (F:=F) (n:=n) (C:=C) (md:=.any) hB.1 l 0 (Array.replicate l.toArray.size false) a (by simp) (by simpa using hB.2) h
 simpa using this
theorem region_quiet_r {id:Nat} {Q:Exit -> Act -> World -> Prop} {a:Act} {w:World} {l:List Oper} (hm:P.follows .mixedOrders = true) (hd:noDefer l.toArray = true) (hB:Region.lexB .any l.toArray = true)
  (h:wpQuietIn F n P l.toArray (fun w' => ∃ n,w' = w.drewN n) (fun a' => ∀ w',(∃ n,w' = w.drewN n) -> Q .normal a' w') l a):(Code.region id l.toArray true).wpIn F n P Q a w :=
 region_quiet_rC (C:=fun w' => ∃ n,w' = w.drewN n) hm hd hB ⟨1,rfl⟩ h
end
end Go.Proofs.YtngehaiigbbknaaGreat.Base
/-
  A region that draws its order, inside a fence and in rounds too: operations that only read or draw, and then a tail in one forced order that may write. One walk of the text's order serves every order.
-/
namespace Go.Proofs.YtngehaiigbbknaaGreat.Base
open Go
section
variable {F:Fence} {rm:Nat} {P:Program} {ops:Array Oper} {md:Region.Mode} {C:World -> Prop}
theorem wpAnyIn_of_seqR {Q':Exit -> Act -> World -> Prop}:∀ (l:List Oper) (k:Nat) (listed:Array Bool) (a:Act) (w:World),(∀ j,l[j]? = ops[k + j]?) ->
  Region.seqB md ops l.length k listed = true -> wpListIn F rm P ops Q' l a w -> wpAnyIn F rm P md ops Q' l.length listed a w
 | [],_,_,_,_,_,hB,h => ⟨by simpa [Region.seqB] using hB,h⟩
 | o :: l,k,listed,a,w,hl,hB,h => by
  have h0:ops[k]? = some o:=by simpa using (hl 0).symm
  simp only [List.length_cons,Region.seqB,Bool.and_eq_true,decide_eq_true_eq] at hB
  refine ⟨fun h1 => (by rw [hB.1] at h1; cases h1),fun i hi => ?_⟩
  rw [hB.1] at hi
  have hik:i = k:=by simpa using hi
  subst hik
  have hw:wpOpIn F rm P ops Q' i (wpListIn F rm P ops Q' l) a w:=by unfold wpOpIn; simp only [h0]; exact h
  exact wpOpIn_mono (fun a' w' h' => wpAnyIn_of_seqR l (i + 1) _ a' w' (fun j => by have:=hl (j + 1); simpa [Nat.add_assoc,Nat.add_comm 1 j] using this) hB.2 h') hw
def headAnyR (F:Fence) (rm:Nat) (P:Program) (md:Region.Mode) (ops:Array Oper) (C:World -> Prop) (n:Nat) (L:Array Bool -> Act -> Prop):Nat -> Array Bool -> Act -> Prop
 | 0,listed,a => L listed a
 | f + 1,listed,a => Region.ready md ops listed ≠ [] /\ ∀ i ∈ Region.ready md ops listed,i < n /\ qOpIn F rm P ops C i (headAnyR F rm P md ops C n L f (listed.setIfInBounds i true)) a
theorem any_of_headR (hd:noDefer ops = true) {n k:Nat} {L:Array Bool -> Act -> Prop} {Q:Exit -> Act -> World -> Prop} (hL:∀ listed a w,C w -> L listed a -> wpAnyIn F rm P md ops Q k listed a w) :
  ∀ (f:Nat) (listed:Array Bool) (a:Act) (w:World),C w -> headAnyR F rm P md ops C n L f listed a -> wpAnyIn F rm P md ops Q (f + k) listed a w:=by
 intro f
 induction f with
 | zero => intro listed a w hw h; rw [Nat.zero_add]; exact hL _ _ _ hw h
 | succ f ih =>
  intro listed a w hw h
  rw [Nat.succ_add]
  exact ⟨fun h0 => absurd h0 h.1,fun i hi => wpOpIn_of_qOpIn_r hd hw (fun a' w' hw' h' => ih _ a' w' hw' h') (h.2 i hi).2⟩
theorem head_firstR {n i:Nat} {o:Oper} {v:Value} {L:Array Bool -> Act -> Prop} (ho:ops[i]? = some o) (hsel:∀ (j:Nat) (o:Oper) cs b,ops[j]? = some o -> o.op ≠ .select cs b)
  (hs:Region.sinkB md ops n = true) (hc:Region.chainB md ops n = true) (hn:n < ops.size) (hin:i < n) (hdone:∀ listed a,L listed a -> ∀ j ∈ Region.ready md ops listed,n <= j) :
  ∀ (f:Nat) (listed:Array Bool) (a:Act),HeadInv md ops n listed ->
   (∀ j oj,ops[j]? = some oj -> j ≠ i -> listed.getD j true = false -> (∀ e ∈ oj.after,Region.binds md e = true -> e.on ≠ i) -> o.apart ops oj = true) ->
   i ∈ Region.ready md ops listed -> YieldsQuiet F rm P ops C o v a -> headAnyR F rm P md ops C n L f (listed.setIfInBounds i true) (a.put o.dst v) -> headAnyR F rm P md ops C n L (f + 1) listed a:=by
 intro f
 induction f with
 | zero =>
  intro listed a inv hfree hr hy H
  have hi0:=(mem_ready.1 hr).1
  have low:∀ j ∈ Region.ready md ops listed,j < n:=fun j hj => by
   rcases Nat.lt_or_ge j n with h | h
   ·exact h
   ·exact absurd hj (tail_waits hs hc hn inv _ i rfl hin hi0 j h)
  refine ⟨fun h => (by rw [h] at hr; cases hr),fun j hj => ⟨low j hj,?_⟩⟩
  by_cases hji:j = i
  ·rw [hji]; exact hy.qOpIn ho H
  ·have h1:=hdone _ _ H j (ready_mono hj hji)
   have h2:=low j hj
   omega
 | succ f ih =>
  intro listed a inv hfree hr hy H
  have hi0:=(mem_ready.1 hr).1
  have low:∀ j ∈ Region.ready md ops listed,j < n:=fun j hj => by
   rcases Nat.lt_or_ge j n with h | h
   ·exact h
   ·exact absurd hj (tail_waits hs hc hn inv _ i rfl hin hi0 j h)
  refine ⟨fun h => (by rw [h] at hr; cases hr),fun j hj => ⟨low j hj,?_⟩⟩
  by_cases hji:j = i
  ·rw [hji]; exact hy.qOpIn ho H
  obtain ⟨hj0,oj,hoj,hall⟩:=mem_ready.1 hj
  have hnot:∀ e ∈ oj.after,Region.binds md e = true -> e.on ≠ i:=fun e he hb heq => by
   have h1:=hall e he hb
   rw [heq,getD_both hi0] at h1
   cases h1
  have h1:=(H.2 j (ready_mono hj hji)).2
  have h2:=qOpIn_put hoj (hfree j oj hoj hji hj0 hnot) (fun cs b => hsel i o cs b ho) (fun cs b => hsel j oj cs b hoj) hy h1
  refine qOpIn_mono (fun a' h3 => ih (listed.setIfInBounds j true) a' (inv.set hj (low j hj)) ?_ (ready_mono hr (Ne.symm hji)) h3.1 ?_) h2
  ·intro k ok hk hki hun hno
   refine hfree k ok hk hki ?_ hno
   by_cases hjk:j = k
   ·rw [<- hjk]; exact hj0
   ·rwa [getD_set_ne true hjk] at hun
  ·rw [Array.setIfInBounds_comm _ _ hji]
   exact h3.2
theorem head_lexR {n k:Nat} {R:Act -> Prop} (hsel:Region.noSelect ops = true) (hs:Region.sinkB md ops n = true) (hc:Region.chainB md ops n = true) (hn:n < ops.size) :
  ∀ (l:List Oper) (m:Nat) (listed:Array Bool) (a:Act),(∀ j,j < l.length -> l[j]? = ops[m + j]?) -> m + l.length = n -> HeadInv md ops n listed -> Region.lexHead md ops k l.length m listed = true ->
   wpQuietIn F rm P ops C R l a -> headAnyR F rm P md ops C n (fun listed' a' => Region.seqB md ops k n listed' = true /\ R a') l.length listed a:=by
 intro l
 induction l with
 | nil =>
  intro m listed a _ hm _ hB h
  have:m = n:=by simpa using hm
  subst this
  exact ⟨by simpa [Region.lexHead] using hB,h⟩
 | cons o l ih =>
  intro m listed a hl hm inv hB h
  have h0:ops[m]? = some o:=by simpa using (hl 0 (by simp)).symm
  simp only [List.length_cons,Region.lexHead,Bool.and_eq_true] at hB
  have hmn:m < n:=by simp only [List.length_cons] at hm; omega
  have hr:m ∈ Region.ready md ops listed:=by simpa using hB.1.1
  have hq:qOpIn F rm P ops C m (wpQuietIn F rm P ops C R l) a:=by unfold qOpIn; simp only [h0]; exact h
  obtain ⟨v,hy,hK⟩:=yieldsQuiet_of_qOpIn h0 hq
  refine head_firstR h0 (Region.noSelect_spec hsel) hs hc hn hmn (fun listed' a' hL => seqB_ready hL.1) l.length listed a inv (Region.free_spec h0 hB.1.2) hr hy ?_
  exact ih (m + 1) _ _ (fun j hj => by have:=hl (j + 1) (by simp; omega); simpa [Nat.add_assoc,Nat.add_comm 1 j] using this) (by simp only [List.length_cons] at hm; omega) (inv.set hr hmn) hB.2 hK
theorem region_quiet_tailR {id:Nat} {Q:Exit -> Act -> World -> Prop} {a:Act} {w:World} {l:List Oper} (n:Nat) (hm:P.follows .mixedOrders = true) (hd:noDefer l.toArray = true) (hB:Region.lexTailB .any l.toArray n = true)
  (h:wpQuietIn F rm P l.toArray (fun w' => ∃ m,w' = w.drewN m) (fun a' => ∀ w',(∃ m,w' = w.drewN m) -> wpListIn F rm P l.toArray Q (l.drop n) a' w') (l.take n) a):(Code.region id l.toArray true).wpIn F rm P Q a w:=by
 simp only [Region.lexTailB,Bool.and_eq_true,decide_eq_true_eq] at hB
 obtain ⟨⟨⟨⟨hsel,hn⟩,hs⟩,hc⟩,hlex⟩:=hB
 have hn':n < l.length:=by simpa using hn
 have htl:(l.take n).length = n:=by simp; omega
 have hdl:(l.drop n).length = l.toArray.size - n:=by simp
 have inv0:HeadInv .any l.toArray n (Array.replicate l.toArray.size false) :=
  ⟨by simp,fun j oj _ hl => (by rw [getD_replicate_false] at hl; cases hl),fun t _ ht => getD_in (by simpa using ht) (getD_replicate_false _ _)⟩
 have H:=head_lexR (F:=F) (rm:=rm) (md:=.any) (C:=fun w' => ∃ m,w' = w.drewN m) (k:=l.toArray.size - n) hsel hs hc hn (l.take n) 0 _ a (fun j hj => by rw [htl] at hj; simp [hj]) (by simpa using htl) inv0 (by rw [htl]; exact hlex) h
 refine wpIn_region_any hm ?_
 have G:=any_of_headR (F:=F) (rm:=rm) hd (Q:=Q) (k:=l.toArray.size - n) (C:=fun w' => ∃ m,w' = w.drewN m) (fun listed a' w' hw' hL => by
  have:=wpAnyIn_of_seqR (md:=.any) (Q':=Q) (l.drop n) n listed a' w' (fun j => by simp [List.getElem?_drop]) (by rw [hdl]; exact hL.1) (hL.2 w' hw')
  rwa [hdl] at this) _ _ _ w.drew ⟨1,rfl⟩ H
 rw [htl,show n + (l.toArray.size - n) = l.toArray.size by omega] at G
 exact G
end
end Go.Proofs.YtngehaiigbbknaaGreat.Base
