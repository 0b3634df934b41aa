/-
  Contracts and lemmas, joined: Ref2Page, Ref2Take, Ref2Give, QueueWorld, QueueStep, QueueMakes, QueueMakes2, QueueMakes3, QueueItem, QueueMakes4, QueueDoes, QueueTwo, QueueWI, QueueMade.
-/
import Derived.Deep.RegionHeld3
import Derived.Deep.AppendLies
import Derived.StillTailTactics
import Derived.Test.YtfjiphibalhcgaaGreatH6
import Derived.Test.YtfjiphibalhcgaaGreatH7
set_option linter.unusedSimpArgs false
set_option linter.unusedVariables false
set_option linter.unusedSectionVars false
set_option maxRecDepth 100000
/-
  The walk of the document's page.
-/
namespace Go.Proofs.YtfjiphibalhcgaaGreat.Cls
open Go.RowKit Base
theorem rcuts_succ (d:Cf) (l:List RC) (k i x:Nat):rcuts d l k i (x + 1) = rcuts d l k i x ++ [⟨i * d.ps + x * d.sz k,k,rgen l (i * d.ps + x * d.sz k),false,false⟩]:=by
 unfold rcuts
 rw [List.range_succ,List.map_append]
 rfl
theorem rcuts_gen {d:Cf} (ok:d.Ok) {k:Nat} (hk:k < d.nc) (l:List RC) (i x:Nat):rgen (l ++ rcuts d l k i x) (i * d.ps + x * d.sz k) = rgen l (i * d.ps + x * d.sz k):=by
 refine rgen_apps _ _ _ fun z hz hp => ?_
 obtain ⟨y,hy,rfl⟩:=List.getElem_of_mem hz
 have hy2:y < x:=by rw [rcuts_len] at hy; exact hy
 have h2:(rcuts d l k i x)[y]? = some (rcuts d l k i x)[y]:=List.getElem?_eq_getElem hy
 rw [rcuts_at,if_pos hy2] at h2
 injection h2 with h2
 rw [<- h2] at hp
 have hp:i * d.ps + y * d.sz k = i * d.ps + x * d.sz k:=hp
 have hz:=(ok.sz k hk).1
 have:y * d.sz k = x * d.sz k:=by omega
 have:=Nat.eq_of_mul_eq_mul_right (by omega) this
 omega
theorem ownV_ge (o:Option Nat):∃ z:Int,ownV o = .int .i64 z /\ (decide (0 <= z) = o.isSome):=by
 cases o with
 | none => exact ⟨-1,rfl,rfl⟩
 | some k => exact ⟨(k:Int),rfl,by simp⟩
set_option maxHeartbeats 3200000 in
theorem rpageNo (w:World) (M:RL) (c:Conf) (r:RS) (h:RSetAt w M c r) (k:Int) (hall:∀ i,i < c.cf.np -> (r.own i).isSome = true) :
  Calls Tryz.prog 102 #[.pointer (some ⟨M.b,0,none⟩),.int .i64 k] w fun e w' => e = .returned (.bool false) /\ w = w':=by
 have c6:=h.cOwn
 have hnp:=h.okc.npb
 replace h:=Lib.hid h
 replace hall:=Lib.hid hall
 go_enter Tryz.func102,Tryz.ntmps102
 go_wp2
 go_loopw [5] (fun v wr => ∃ p:Nat,v = .int .i64 (p:Int) /\ p <= c.cf.np /\ w = wr) (fun v _ => c.cf.np - (intOf v).toNat)
 case atStart => exact ⟨0,rfl,Nat.zero_le _,rfl⟩
 case round =>
  obtain ⟨p,rfl,hp,rfl⟩:=hrel
  by_cases hlt:p < c.cf.np
  ·have d1:decide ((p:Int) < (c.cf.np:Int)) = true:=decide_eq_true (by omega)
   have k0:(0:Int) <= (p:Int):=by omega
   have k1:(p:Int) < (c.cf.np:Int):=by omega
   have qi:IntKind.i64.wrap ((p:Int) + 1) = ((p + 1:Nat):Int):=by rw [IntWalk.i64_in _ (by omega)]; rfl
   have y:=h.out.ow hlt
   obtain ⟨z,hz,dz⟩:=ownV_ge (r.own p)
   rw [hz] at y
   rw [hall.out p hlt] at dz
   replace hz:=Lib.hid hz
   go_wp2
   go_roundw
   case rel => exact ⟨p + 1,rfl,by omega,trivial⟩
   case measure => simp [intOf] <;> omega
  ·obtain rfl:p = c.cf.np:=by omega
   have d1:decide ((c.cf.np:Int) < (c.cf.np:Int)) = false:=by simp
   clear hlt
   go_wp2
   go_ret
   exact ⟨rfl,rfl⟩
theorem down_at (len n y:Nat) (hy:y < n):(((List.range n).map (len + ·)).reverse)[n - (y + 1)]? = some (len + y):=by
 rw [List.getElem?_reverse (by simp; omega),List.getElem?_map,List.length_map,List.length_range,show n - 1 - (n - (y + 1)) = y by omega,List.getElem?_range hy]
 rfl
theorem down_take (len n y:Nat) (hy:y < n):(((List.range n).map (len + ·)).reverse).take (n - y) = (((List.range n).map (len + ·)).reverse).take (n - (y + 1)) ++ [len + y]:=by
 have e:n - y = (n - (y + 1)) + 1:=by omega
 rw [e,List.take_add_one,down_at len n y hy]
 rfl
set_option maxHeartbeats 6400000 in
theorem rpageYes (w:World) (M:RL) (c:Conf) (r:RS) (h:RSetAt w M c r) (hlen:r.ch.length + 16384 <= 1073741824) (k:Nat) (hk:k < c.nc) (hrl:(r.rows k).length + 16384 <= 1073741824) (i:Nat) (hi:i < c.cf.np) (hno:r.own i = none) (hlow:∀ j,j < i -> (r.own j).isSome = true) :
  Calls Tryz.prog 102 #[.pointer (some ⟨M.b,0,none⟩),.int .i64 (k:Int)] w fun e w' => e = .returned (.bool true) /\ ∃ M',RSetAt w' M' c (rpage c.cf r k i) /\ RWent w w' M M' c:=by
 have c6:=h.cOwn
 have hnp:=h.okc.npb
 have ok:=h.okc
 have hkc:k < c.cf.nc:=hk
 obtain ⟨sz1,sz2,sz3⟩:=ok.sz k hkc
 obtain ⟨n1,n2⟩:=n_pos ok hkc
 have psb:=ok.psb
 replace ok:=Lib.hid ok
 replace h:=Lib.hid h
 replace hlow:=Lib.hid hlow
 replace hno:=Lib.hid hno
 go_enter Tryz.func102,Tryz.ntmps102
 go_wp2
 go_loopw [5] (fun v wr => ∃ p:Nat,v = .int .i64 (p:Int) /\ p <= i /\ w = wr) (fun v _ => i + 1 - (intOf v).toNat)
 case atStart => exact ⟨0,rfl,Nat.zero_le _,rfl⟩
 case round =>
  obtain ⟨p,rfl,hp,rfl⟩:=hrel
  have d1:decide ((p:Int) < (c.cf.np:Int)) = true:=decide_eq_true (by omega)
  have k0:(0:Int) <= (p:Int):=by omega
  have k1:(p:Int) < (c.cf.np:Int):=by omega
  by_cases hlt:p < i
  ·have qi:IntKind.i64.wrap ((p:Int) + 1) = ((p + 1:Nat):Int):=by rw [IntWalk.i64_in _ (by omega)]; rfl
   have y:=h.out.ow (i:=p) (by omega)
   obtain ⟨z,hz,dz⟩:=ownV_ge (r.own p)
   rw [hz] at y
   rw [hlow.out p hlt] at dz
   replace hz:=Lib.hid hz
   go_wp2
   go_roundw
   case rel => exact ⟨p + 1,rfl,by omega,trivial⟩
   case measure => simp [intOf] <;> omega
  ·obtain rfl:p = i:=by omega
   have y:=h.out.ow hi
   rw [hno.out] at y
   have fz:∀ j,w.frozen? ⟨M.go,j,none⟩ = false:=fun j => by obtain ⟨cur,h1⟩:=h.out.ownB.blk; exact h1.frozen j
   have fz1:=fz p
   clear fz
   have H1:=Lib.hid (h.out.setOwn p (some k) hi)
   have W1:=Lib.hid (RWent.same (M:=M) (c:=c) (only_at (S:=RFoot M c) w M.go p (ownV (some k)) ⟨.own,rfl⟩))
   obtain ⟨w1,hw1⟩:∃ w1,w1 = w.setCell ⟨M.go,p,none⟩ (ownV (some k)):=⟨_,rfl⟩
   rw [<- hw1] at H1 W1
   unfold ownV at hw1 y
   simp only at hw1 y
   replace hw1:=Lib.hid hw1
   clear hlt
   go_upto_region 6 with fail
   rw [<- hw1.out]
   clear hw1 fz1 y c6
   have hcp:=H1.out.cPs
   have hcs:=H1.out.cSizes
   have hsz:=H1.out.sz hk
   have j0:(0:Int) <= (k:Int):=by omega
   have j1:(k:Int) < (c.nc:Int):=by omega
   have z0:¬ ((c.sz k:Nat):Int) = 0:=by have:c.cf.sz k = c.sz k:=rfl; omega
   have q1:((c.cf.ps:Nat):Int).tdiv ((c.sz k:Nat):Int) = ((c.cf.n k:Nat):Int):=tdivN _ _
   have q2:IntKind.i64.wrap ((c.cf.n k:Nat):Int) = ((c.cf.n k:Nat):Int):=IntWalk.i64_in _ (by omega)
   go_quiet (fail)
   rename Nat => nq
   obtain ⟨w2,hw2⟩:∃ w2,w1.drewN nq = w2:=⟨_,rfl⟩
   have H2:Hid (RSetAt w2 M c { r with own:=upd r.own p (some k) }):=by rw [<- hw2]; exact Lib.hid (H1.out.drewN nq)
   have W2:Hid (RWent w w2 M M c):=by rw [<- hw2]; exact Lib.hid (W1.out.drewN nq)
   have c8:=H2.out.cCh
   obtain ⟨A,cp,hv, -⟩:=H2.out.chs
   rw [hv] at c8
   replace hv:=Lib.hid hv
   rw [hw2]
   clear hw2 H1 W1 hcp hcs hsz q1 z0
   dsimp only at c8
   go_wp2
   clear c8
   generalize hn:c.cf.n k = n at *
   obtain ⟨len,hL⟩:∃ len,len = r.ch.length:=⟨_,rfl⟩
   rw [<- hL]
   replace hn:=Lib.hid hn
   go_loopw [8] (fun v wr => ∃ (x:Nat) (M1:RL),v = .int .i64 (x:Int) /\ x <= n /\ Hid (RSetAt wr M1 c { r with own:=upd r.own p (some k),ch:=r.ch ++ rcuts c.cf r.ch k p x }) /\ Hid (RWent w wr M M1 c)) (fun v _ => n - (intOf v).toNat)
   case atStart =>
    refine ⟨0,M,rfl,Nat.zero_le _,?_,W2⟩
    have e:r.ch ++ rcuts c.cf r.ch k p 0 = r.ch:=by simp [rcuts]
    rw [e]
    exact H2
   case round =>
    clear H2 W2 hv
    obtain ⟨x,M1,rfl,hx,R,Wr⟩:=hrel
    by_cases hxn:x < n
    ·have d2:decide ((x:Int) < (n:Int)) = true:=decide_eq_true (by omega)
     have hxk:x < c.cf.n k:=by rw [hn.out]; exact hxn
     obtain ⟨pp1,pp2⟩:=place_page ok.out (i:=p) hkc hxk
     have pnp:(p + 1) * c.cf.ps <= 1024 * 1048576:=Nat.mul_le_mul (by omega) psb
     have hrg:=rcuts_gen ok.out hkc r.ch p x
     have hsuc:=rcuts_succ c.cf r.ch k p x
     have hszE:c.cf.sz k = c.sz k:=rfl
     rw [hszE] at pp1 pp2 hrg hsuc
     obtain ⟨P1,hP1⟩:∃ P1,P1 = p * c.cf.ps:=⟨_,rfl⟩
     obtain ⟨X1,hX1⟩:∃ X1,X1 = x * c.sz k:=⟨_,rfl⟩
     obtain ⟨AT,hAT⟩:∃ AT,AT = P1 + X1:=⟨_,rfl⟩
     rw [<- hP1, <- hX1, <- hAT] at pp1 pp2 hrg hsuc
     have qa:IntKind.i64.wrap ((p:Int) * ((c.cf.ps:Nat):Int)) = (P1:Int):=by rw [<- Int.natCast_mul, <- hP1]; exact IntWalk.i64_in _ (by omega)
     have qb:IntKind.i64.wrap ((x:Int) * ((c.sz k:Nat):Int)) = (X1:Int):=by rw [<- Int.natCast_mul, <- hX1]; exact IntWalk.i64_in _ (by omega)
     have qc:IntKind.i64.wrap ((P1:Int) + (X1:Int)) = (AT:Int):=by rw [hAT]; exact IntWalk.i64_in _ (by omega)
     have qx:IntKind.i64.wrap ((x:Int) + 1) = ((x + 1:Nat):Int):=by rw [IntWalk.i64_in _ (by omega)]; rfl
     have hcp:=R.out.cPs
     have hcs:=R.out.cSizes
     have hsz:=R.out.sz hk
     have eb:=Wr.out.b
     rw [eb] at hcp hcs
     replace eb:=Lib.hid eb
     replace hsuc:=Lib.hid hsuc
     replace hrg:=Lib.hid hrg
     clear hP1 hX1 hAT pp1 pp2 pnp hszE
     go_upto_region 11 with fail
     go_quiet (fail)
     rename Nat => nq2
     obtain ⟨wa,hwa⟩:∃ wa,wr.drewN nq2 = wa:=⟨_,rfl⟩
     have R2:=R.out.drewN nq2
     have Wa:=Wr.out.drewN nq2
     rw [hwa] at R2 Wa
     go_upto_region 12 with fail
     rw [hwa]
     clear hwa R Wr hcp hcs hsz qa qb qc
     have hchl:(r.ch ++ rcuts c.cf r.ch k p x).length = len + x:=by rw [List.length_append,rcuts_len,hL]
     have GC:=rgenC wa.drew M1 c _ R2.drew (by show (r.ch ++ rcuts c.cf r.ch k p x).length <= _; omega) AT
     dsimp only at GC
     rw [hrg.out,eb.out] at GC
     have c8:=R2.cCh
     have own:=R2.chB
     obtain ⟨A1,cp1,hv1, -⟩:=R2.chs
     dsimp only at own hv1
     rw [hchl] at own hv1
     rw [hv1] at c8 own
     have g0:=R2.cPs
     rw [eb.out] at c8 g0
     have hblt:M.b < wa.heap.size:=by rw [<- eb.out]; exact R2.headB.lt
     have hown:some M.b ≠ (Value.slice A1 (len + x) cp1).ownBlock:=by
      rw [<- hv1, <- eb.out]
      intro e
      have:=R2.inj .head .ch M1.b rfl e.symm
      cases this
     have z8:=R2.headB.frozen 8
     rw [eb.out] at z8
     obtain ⟨G,hG⟩:∃ G,G = rgen r.ch AT:=⟨_,rfl⟩
     rw [<- hG] at GC hsuc
     obtain ⟨ie,hie,hz0,hz1,hz2⟩:=eiCh.info
     obtain ⟨nw,hnw⟩:∃ nw:RC,nw = ⟨AT,k,G,false,false⟩:=⟨_,rfl⟩
     have one:∀ u ∈ nw.cells,u.oneCell' = true:=by
      rw [hnw]
      intro u hu
      simp only [RC.cells,List.mem_cons,List.not_mem_nil,or_false] at hu
      rcases hu with rfl | rfl | rfl | rfl | rfl <;> rfl
     have bx0:∀ W:World,W.heap.size = wa.heap.size -> Reads (W.alloc (.cells #[.int .i64 (AT:Int),.int .i64 (k:Int),.int .u64 (G:Int),.bool false,.bool false] 168)) (wa.heap.size + 1) 5 (some ⟨wa.heap.size,0,none⟩) 1 nw.cells:=by
      intro W hW
      have:=reads_cells W nw.cells 168 rfl
      rw [hW] at this
      rw [hnw] at this ⊢
      exact this
     have hlb:len + 16384 <= 1073741824:=by rw [hL]; exact hlen
     have hx16:x < 16384:=by omega
     replace GC:=Lib.hid GC
     replace one:=Lib.hid one
     replace bx0:=Lib.hid bx0
     replace R2:=Lib.hid R2
     replace Wa:=Lib.hid Wa
     replace hv1:=Lib.hid hv1
     replace hL:=Lib.hid hL
     replace hchl:=Lib.hid hchl
     replace hG:=Lib.hid hG
     replace hnw:=Lib.hid hnw
     have c8':=(cel_alloc wa (.cells #[.int .i64 (AT:Int),.int .i64 (k:Int),.int .u64 (G:Int),.bool false,.bool false] 168) M.b 8 hblt).trans c8
     go_region_law ((first | (go_simp; go_at_call 130; refine GC.out.mono ?_; rintro e w' ⟨rfl,rfl⟩) | (refine step_append_new _ (by rfl) _ _ _ (by rfl) 0 168 ie _ 5 32 Tryz.underlying151 hie hz0 hz1 hz2 rfl (by decide) (.slice A1 (len + x) cp1) (len + x) _ (by rfl) (own.alloc _) (wa.heap.size + 1) (some ⟨wa.heap.size,0,none⟩) 1 1 nw.cells (by rfl) (bx0.out _ (by simp)) one.out (by unfold maxLen; omega) (by omega) (Nat.zero_le _) (by omega) ?_; intro b3 c3 w3 own3 hgrow hat3 hlt3; have r1:w3.frozen? ⟨M.b,8,none⟩ = false:=(hgrow.frozen_far _ (by simp; omega) hown).trans ((frz_alloc wa _ M.b 8 hblt).trans z8); have r2:w3.cell? ⟨M.b,8,none⟩ = some (.slice A1 (len + x) cp1):=(hgrow.cell_far _ (by simp; omega) hown).trans ((cel_alloc wa _ M.b 8 hblt).trans c8); have d0:w3.cell? ⟨M.b,0,none⟩ = some (.int .i64 ((c.cf.ps:Nat):Int)):=(hgrow.cell_far _ (by simp; omega) hown).trans ((cel_alloc wa _ M.b 0 hblt).trans g0))))
     all_goals
      have oW:Only (fun b => M1.vC.ownBlock = some b) wa w3:=((Only.refl _ wa).alloc _).drew.grown hgrow (fun j e _ => by rw [hv1.out]; exact e)
      have own4:w3.ownsRow 0 168 5 (.slice (some ⟨b3,0,none⟩) (len + x + 1) c3) (r.ch ++ rcuts c.cf r.ch k p (x + 1)).length (chV (r.ch ++ rcuts c.cf r.ch k p (x + 1))):=by
       have e1:(r.ch ++ rcuts c.cf r.ch k p (x + 1)) = (r.ch ++ rcuts c.cf r.ch k p x) ++ [nw]:=by rw [hsuc.out,hnw.out,List.append_assoc]
       rw [e1,chV_app,List.length_append,hchl.out]
       exact own3
      have hb4:∀ b,(Value.slice (some ⟨b3,0,none⟩) (len + x + 1) c3).ownBlock = some b -> M1.vC.ownBlock = some b \/ wa.heap.size <= b:=fun b e => by
       have e2:b3 = b:=by simpa [Value.ownBlock] using e
       subst e2
       rcases hat3 with h3 | h3
       ·rw [hv1.out]; exact .inl h3
       ·exact .inr (by rw [h3]; simp)
      have G4:=R2.out.newCh (.slice (some ⟨b3,0,none⟩) (len + x + 1) c3) _ oW (fun b e _ => e) own4 hb4
      have W4:=Wa.out.trans (R2.out.wentCh (.slice (some ⟨b3,0,none⟩) (len + x + 1) c3) oW (fun b e _ => e) hb4)
      rw [eb.out] at G4 W4
      obtain ⟨w4,hw4⟩:∃ w4,w4 = w3.setCell ⟨M.b,8,none⟩ (.slice (some ⟨b3,0,none⟩) (len + x + 1) c3):=⟨_,rfl⟩
      rw [<- hw4] at G4 W4 ⊢
      replace G4:=Lib.hid G4
      replace W4:=Lib.hid W4
      clear hw4 r1 r2 d0 own3 hgrow hat3 hlt3 oW own4 hb4 c8 c8' g0 z8 own R2 Wa GC bx0 one
      go_wp2
      go_roundw
      case rel => exact ⟨x + 1,_,rfl,by omega,G4,W4⟩
      case measure => simp [intOf] <;> omega
    ·obtain rfl:x = n:=by omega
     have d2:decide ((x:Int) < (x:Int)) = false:=by simp
     have q3:IntKind.i64.wrap ((x:Int) - 1) = (x:Int) - 1:=IntWalk.i64_in _ (by omega)
     clear hxn
     go_wp2_with fail
     go_loopw [10] (fun v ws => ∃ (y:Nat) (M2:RL),v = .int .i64 ((y:Int) - 1) /\ y <= x /\ Hid (RSetAt ws M2 c { r with own:=upd r.own p (some k),ch:=r.ch ++ rcuts c.cf r.ch k p x,rows:=upd r.rows k (r.rows k ++ (((List.range x).map (len + ·)).reverse).take (x - y)) }) /\ Hid (RWent w ws M M2 c)) (fun v _ => (intOf v + 1).toNat)
     case atStart =>
      refine ⟨x,M1,rfl,Nat.le_refl _,?_,Wr⟩
      have e:upd r.rows k (r.rows k ++ (((List.range x).map (len + ·)).reverse).take (x - x)) = r.rows:=by rw [Nat.sub_self,List.take_zero,List.append_nil,upd_self]
      rw [e]
      exact R
     case round =>
      clear R Wr
      obtain ⟨y,M2,rfl,hy,R,Wr⟩:=hrel
      rename World => ws
      cases y with
      | zero =>
       have d3:decide ((0:Int) <= ((0:Nat):Int) - 1) = false:=by decide
       have RF:Hid (RSetAt ws M2 c (rpage c.cf r k p)):=by
        have e:rpage c.cf r k p = { r with own:=upd r.own p (some k),ch:=r.ch ++ rcuts c.cf r.ch k p x,rows:=upd r.rows k (r.rows k ++ (((List.range x).map (len + ·)).reverse).take (x - 0)) }:=by
         unfold rpage
         rw [hn.out,Nat.sub_zero,List.take_of_length_le (by simp),hL]
        rw [e]; exact R
       go_wp2
       go_ret
       exact ⟨rfl,M2,RF.out,Wr.out⟩
      | succ y =>
       have e1:((y + 1:Nat):Int) - 1 = (y:Int):=by omega
       rw [e1]
       have d3:decide ((0:Int) <= (y:Int)) = true:=decide_eq_true (by omega)
       have qy:IntKind.i64.wrap ((y:Int) - 1) = (y:Int) - 1:=IntWalk.i64_in _ (by omega)
       have hlb:len + 16384 <= 1073741824:=by rw [hL]; exact hlen
       have hyx:y < x:=by omega
       have hx16:x <= 16384:=by omega
       have qd:IntKind.i64.wrap ((len:Int) + (y:Int)) = ((len + y:Nat):Int):=by rw [IntWalk.i64_in _ (by omega)]; omega
       have hdt:=Lib.hid (down_take len x y hyx)
       have eb:=Wr.out.b
       have c9:=R.out.cRows
       rw [eb] at c9
       have rk:=R.out.rw_ hk
       have own:=R.out.rowB hk
       dsimp only at own
       rw [upd_at] at own
       obtain ⟨Z,hZ⟩:∃ Z,Z = r.rows k ++ (((List.range x).map (len + ·)).reverse).take (x - (y + 1)):=⟨_,rfl⟩
       rw [<- hZ] at own
       have hZl:Z.length <= (r.rows k).length + 16384:=by rw [hZ,List.length_append,List.length_take]; omega
       have hFs:∃ A2 cp2,M2.F k = .slice A2 Z.length cp2:=by
        obtain ⟨A2,cp2,h2⟩:=own_is own
        exact ⟨A2,cp2,h2⟩
       obtain ⟨A2,cp2,hF2⟩:=hFs
       rw [hF2] at rk own
       have hglt:M2.gr < ws.heap.size:=R.out.rowsB.lt
       have hblt:M.b < ws.heap.size:=by rw [<- eb]; exact R.out.headB.lt
       have zf:ws.frozen? ⟨M2.gr,k,none⟩ = false:=by obtain ⟨cur,h1⟩:=R.out.rowsB.blk; exact h1.frozen k
       have hownG:some M2.gr ≠ (Value.slice A2 Z.length cp2).ownBlock:=by
        rw [<- hF2]
        intro e
        have:=R.out.inj .rows (.row k) M2.gr rfl ((if_pos hk).trans e.symm)
        cases this
       have hownB:some M.b ≠ (Value.slice A2 Z.length cp2).ownBlock:=by
        rw [<- hF2, <- eb]
        intro e
        have:=R.out.inj .head (.row k) M2.b rfl ((if_pos hk).trans e.symm)
        cases this
       obtain ⟨ie,hie,hz0,hz1,hz2⟩:=eiI.info
       have one:=iv_one [len + y]
       have bx0:∀ W:World,W.heap.size = ws.heap.size -> Reads (W.alloc (.cells #[.int .i64 ((len + y:Nat):Int)] 3)) (ws.heap.size + 1) 1 (some ⟨ws.heap.size,0,none⟩) 1 ([len + y].map iv):=by
        intro W hW
        have:=reads_one W (len + y)
        rwa [hW] at this
       generalize len + y = LY at *
       replace one:=Lib.hid one
       replace bx0:=Lib.hid bx0
       replace hF2:=Lib.hid hF2
       replace hZ:=Lib.hid hZ
       replace eb:=Lib.hid eb
       replace hL:=Lib.hid hL
       have rk':=(cel_alloc ws (.cells #[.int .i64 (LY:Int)] 3) M2.gr k hglt).trans rk
       have c9':=(cel_alloc ws (.cells #[.int .i64 (LY:Int)] 3) M.b 9 hblt).trans c9
       go_upto_region 16 with fail
       go_region_law ((refine step_append_new _ (by rfl) _ _ _ (by rfl) 0 3 ie _ 1 8 Tryz.underlying55 hie hz0 hz1 hz2 rfl (by decide) (.slice A2 Z.length cp2) Z.length _ (by rfl) (own.alloc _) (ws.heap.size + 1) (some ⟨ws.heap.size,0,none⟩) 1 1 ([LY].map iv) (by rfl) (bx0.out _ (by simp)) one.out (by unfold maxLen; omega) (by omega) (Nat.zero_le _) (by omega) ?_; intro b3 c3 w3 own3 hgrow hat3 hlt3; have r1:w3.frozen? ⟨M2.gr,k,none⟩ = false:=(hgrow.frozen_far _ (by simp; omega) hownG).trans ((frz_alloc ws _ M2.gr k hglt).trans zf); have r2:w3.cell? ⟨M2.gr,k,none⟩ = some (.slice A2 Z.length cp2):=(hgrow.cell_far _ (by simp; omega) hownG).trans ((cel_alloc ws _ M2.gr k hglt).trans rk); have d9:w3.cell? ⟨M.b,9,none⟩ = some (.slice (some ⟨M2.gr,0,none⟩) c.nc M2.cR):=(hgrow.cell_far _ (by simp; omega) hownB).trans ((cel_alloc ws _ M.b 9 hblt).trans c9)))
       all_goals
        have oW:Only (fun b => (M2.F k).ownBlock = some b) ws w3:=((Only.refl _ ws).alloc _).drew.grown hgrow (fun j e _ => by rw [hF2.out]; exact e)
        have own4:w3.ownsRow 0 3 1 (.slice (some ⟨b3,0,none⟩) (Z.length + 1) c3) (Z ++ [LY]).length ((Z ++ [LY]).map iv):=by
         rw [List.length_append,List.map_append]
         exact own3
        have hb4:∀ b,(Value.slice (some ⟨b3,0,none⟩) (Z.length + 1) c3).ownBlock = some b -> (M2.F k).ownBlock = some b \/ ws.heap.size <= b:=fun b e => by
         have e2:b3 = b:=by simpa [Value.ownBlock] using e
         subst e2
         rcases hat3 with h3 | h3
         ·rw [hF2.out]; exact .inl h3
         ·exact .inr (by rw [h3]; simp)
        have G4:=R.out.newRow k hk (.slice (some ⟨b3,0,none⟩) (Z.length + 1) c3) _ oW (fun b e _ => e) own4 hb4
        have W4:=Wr.out.trans (R.out.wentRow k hk (.slice (some ⟨b3,0,none⟩) (Z.length + 1) c3) oW (fun b e _ => e) hb4)
        have e5:Z ++ [LY] = r.rows k ++ (((List.range x).map (len + ·)).reverse).take (x - y):=by rw [hdt.out,hZ.out,List.append_assoc]
        dsimp only at G4
        rw [upd_upd,e5] at G4
        obtain ⟨w4,hw4⟩:∃ w4,w4 = w3.setCell ⟨M2.gr,k,none⟩ (.slice (some ⟨b3,0,none⟩) (Z.length + 1) c3):=⟨_,rfl⟩
        rw [<- hw4] at G4 W4 ⊢
        replace G4:=Lib.hid G4
        replace W4:=Lib.hid W4
        clear hw4 r1 r2 d9 own3 hgrow hat3 hlt3 oW own4 hb4 c9 c9' rk rk' zf own R Wr bx0 one e5
        go_wp2
        go_roundw
        case rel => exact ⟨y,_,rfl,by omega,G4,W4⟩
        case measure => simp [intOf] <;> omega
def rlow (d:Cf) (r:RS):Option Nat:=lowFrom (fun i => (r.own i).isSome) d.np 0
def rroomS (d:Cf) (r:RS) (k:Nat):Option RS :=
 match r.rows k with
 | [] => match rlow d r with
  | some i => some (rpage d r k i)
  | none => none
 | _ :: _ => some r
theorem lowFrom_congr {f g:Nat -> Bool}:∀ {n i:Nat},(∀ j,i <= j -> j < i + n -> f j = g j) -> lowFrom f n i = lowFrom g n i
 | 0,_,_ => rfl
 | n + 1,i,h => by
  unfold lowFrom
  rw [h i (by omega) (by omega),lowFrom_congr (n:=n) (i:=i + 1) fun j h1 h2 => h j (by omega) (by omega)]
section
variable {d:Cf} (ok:d.Ok) {s:St} (g:Good d s) {r:RS} (h:Rel d s r)
include h
theorem Rel.low:rlow d r = Cls.low d s:=by
 unfold rlow Cls.low
 refine lowFrom_congr fun j _ hj => ?_
 rw [h.own j (by omega)]
 cases s.own j <;> rfl
include ok g
theorem Rel.room {k:Nat} (hk:k < d.nc):(roomS d s k = none -> rroomS d r k = none) /\ ∀ s1,roomS d s k = some s1 -> ∃ r1,rroomS d r k = some r1 /\ Rel d s1 r1:=by
 have hl:=h.row_len hk
 have e:=h.low
 unfold roomS rroomS
 cases hf:s.free k with
 | nil =>
  have hr:r.rows k = []:=List.eq_nil_of_length_eq_zero (by rw [hl,hf]; rfl)
  rw [hr]
  simp only
  rw [e]
  cases hlow:Cls.low d s with
  | none => exact ⟨fun _ => rfl,fun s1 h1 => (by cases h1)⟩
  | some i =>
   refine ⟨fun h1 => (by cases h1),fun s1 h1 => ?_⟩
   injection h1 with h1
   subst h1
   obtain ⟨a1,a2, -⟩:=low_some hlow
   exact ⟨_,rfl,h.page ok g hk a1 a2⟩
 | cons a t =>
  obtain ⟨b,u,hr⟩:∃ b u,r.rows k = b :: u:=by
   cases hr:r.rows k with
   | nil => rw [hr,hf] at hl; simp at hl
   | cons b u => exact ⟨b,u,rfl⟩
  rw [hr]
  refine ⟨fun h1 => (by cases h1),fun s1 h1 => ?_⟩
  injection h1 with h1
  subst h1
  exact ⟨r,rfl,h⟩
end
theorem rlow_some {d:Cf} {r:RS} {i:Nat} (h:rlow d r = some i):i < d.np /\ r.own i = none /\ ∀ j,j < i -> (r.own j).isSome = true:=by
 obtain ⟨-,a,b,e⟩:=lowFrom_some h
 refine ⟨by omega,?_,fun j hj => e j (by omega) hj⟩
 cases hb:r.own i with
 | none => rfl
 | some x => rw [hb] at b; cases b
theorem rtakeNo (w:World) (M:RL) (c:Conf) (r:RS) (h:RSetAt w M c r) (k:Nat) (hk:k < c.nc) (hr:rroomS c.cf r k = none) :
  Calls Tryz.prog 56 #[.pointer (some ⟨M.b,0,none⟩),.int .i64 (k:Int)] w fun e w' => e = .returned (.tuple #[.int .u64 0,.int .i64 21]) /\ w = w':=by
 have IC:=risC h (k:Int)
 rw [decide_eq_true (show (0:Int) <= (k:Int) /\ (k:Int) < (c.nc:Int) by omega)] at IC
 have hrows:r.rows k = [] /\ ∀ i,i < c.cf.np -> (r.own i).isSome = true:=by
  unfold rroomS at hr
  split at hr
  ·rename_i he
   split at hr
   ·cases hr
   ·rename_i hl
    exact ⟨he,fun i hi => lowFrom_none hl i (Nat.zero_le _) (by omega)⟩
  ·cases hr
 have PC:=rpageNo w M c r h (k:Int) hrows.2
 have c9:=h.cRows
 have rk:=h.rw_ hk
 have own:=h.rowB hk
 rw [hrows.1] at own
 obtain ⟨A,cp,hF⟩:=own_is own
 rw [hF] at rk
 have k0:(0:Int) <= (k:Int):=by omega
 have k1:(k:Int) < (c.nc:Int):=by omega
 replace IC:=Lib.hid IC
 replace PC:=Lib.hid PC
 clear h hk hr hrows own hF
 go_enter Tryz.func56,Tryz.ntmps56
 go_wp2_with fail
 refine IC.out.mono ?_
 rintro e w' ⟨rfl,rfl⟩
 go_wp2_with fail
 refine PC.out.mono ?_
 rintro e w' ⟨rfl,rfl⟩
 go_wp2
 go_ret2
 exact ⟨rfl,rfl⟩
set_option maxHeartbeats 3200000 in
theorem rtakeYes (w:World) (M:RL) (c:Conf) (r:RS) (h:RSetAt w M c r) (hlen:r.ch.length + 16384 <= 1073741824) (k:Nat) (hk:k < c.nc) (hrl:(r.rows k).length + 16384 <= 1073741824) (r1:RS) (hr:rroomS c.cf r k = some r1)
  (l:List Nat) (j:Nat) (x:RC) (hj:r1.rows k = l ++ [j]) (hx:r1.ch[j]? = some x) (hp:x.place <= 1073741824) (hg:x.gen < 4294967296) :
  Calls Tryz.prog 56 #[.pointer (some ⟨M.b,0,none⟩),.int .i64 (k:Int)] w fun e w' => e = .returned (.tuple #[.int .u64 (x.name:Int),.int .i64 0]) /\ ∃ M',RSetAt w' M' c (rtake r1 k j) /\ RWent w w' M M' c:=by
 have IC:=risC h (k:Int)
 rw [decide_eq_true (show (0:Int) <= (k:Int) /\ (k:Int) < (c.nc:Int) by omega)] at IC
 replace IC:=Lib.hid IC
 have HW:(∃ a t,r.rows k = a :: t) /\ r1 = r \/ r.rows k = [] /\ (Calls Tryz.prog 102 #[.pointer (some ⟨M.b,0,none⟩),.int .i64 (k:Int)] w fun e w' => e = .returned (.bool true) /\ ∃ M',RSetAt w' M' c r1 /\ RWent w w' M M' c):=by
  unfold rroomS at hr
  split at hr
  ·rename_i he
   split at hr
   ·rename_i i hlow
    injection hr with hr
    subst hr
    obtain ⟨a1,a2,a3⟩:=rlow_some hlow
    exact .inr ⟨he,rpageYes w M c r h hlen k hk hrl i a1 a2 a3⟩
   ·cases hr
  ·rename_i a t he
   injection hr with hr
   exact .inl ⟨⟨a,t,he⟩,hr.symm⟩
 have c9:=h.cRows
 have rk:=h.rw_ hk
 have own:=h.rowB hk
 have hS:=Lib.hid h
 have hnc:=h.okc.ncb
 have hncE:c.cf.nc = c.nc:=rfl
 rw [hncE] at hnc
 have hll:l.length + 1 <= 1073741824:=by
  have e:(l ++ [j]).length <= (r.rows k).length + 16384:=by
   rw [<- hj]
   unfold rroomS at hr
   split at hr
   ·split at hr
    ·injection hr with hr
     rw [<- hr]
     show (upd r.rows k _ k).length <= _
     rw [upd_at,List.length_append]
     have:=(n_pos h.okc (show k < c.cf.nc from hk)).2
     simp
     omega
    ·cases hr
   ·injection hr with hr
    rw [<- hr]; omega
  rw [List.length_append] at e
  simp only [List.length_singleton] at e
  omega
 clear hr h
 have k0:(0:Int) <= (k:Int):=by omega
 have k1:(k:Int) < (c.nc:Int):=by omega
 replace hj:=Lib.hid hj
 replace hx:=Lib.hid hx
 go_enter Tryz.func56,Tryz.ntmps56
 go_wp2_with fail
 refine IC.out.mono ?_
 rintro e w' ⟨rfl,rfl⟩
 go_upto_region 3 with fail
 go_cut [26] from 12 to 26 (fun s26 wx => s26 = .bool false /\ ∃ M1,Hid (RSetAt wx M1 c r1) /\ Hid (RWent w wx M M1 c))
 case first =>
  rcases HW with ⟨⟨a,t,he⟩,rfl⟩ | ⟨he,PC⟩
  ·rw [he] at own
   obtain ⟨A,cp,hF⟩:=own_is own
   rw [hF] at rk
   have hln:decide (((t.length + 1:Nat):Int) = 0) = false:=by simp; omega
   have hln2:(((a :: t).length:Nat)) = t.length + 1:=rfl
   rw [hln2] at rk
   clear own hF hln2 he
   go_wp2_with fail
   go_meet
   exact ⟨rfl,M,hS,Lib.hid (RWent.refl _ _ _)⟩
  ·rw [he] at own
   obtain ⟨A,cp,hF⟩:=own_is own
   rw [hF] at rk
   replace PC:=Lib.hid PC
   clear own hF he
   go_wp2_with fail
   refine PC.out.mono ?_
   rintro e w1 ⟨rfl,M1,H1,W1⟩
   replace H1:=Lib.hid H1
   replace W1:=Lib.hid W1
   go_wp2_with fail
   go_meet
   exact ⟨rfl,M1,H1,W1⟩
 case rest =>
  obtain ⟨rfl,M1,H1,W1⟩:=hcut
  have eb:=W1.out.b
  have c9:=H1.out.cRows
  have rk:=H1.out.rw_ hk
  have own1:=H1.out.rowB hk
  rw [hj.out,List.length_append,List.length_singleton] at own1
  obtain ⟨b,cap,hF,cl,hcap,hbl⟩:=own_iv (x:=j) (i:=l.length) own1 (by simp)
  rw [hF] at own1 rk
  have hcap':l.length + 1 <= cap:=by
   rcases own1.2 with ⟨h1,h2⟩ | ⟨g',cap',cur,h1, -, -,h3, -⟩
   ·omega
   ·simp only [Value.slice.injEq] at h1; omega
  have own2:=own_drop (x:=iv j) (by rw [List.map_append] at own1; exact own1)
  have q1:IntKind.i64.wrap (((l.length + 1:Nat):Int) - 1) = (l.length:Int):=by rw [IntWalk.i64_in _ (by omega)]; omega
  have l0:(0:Int) <= (l.length:Int):=by omega
  have l1:(l.length:Int) < ((l.length + 1:Nat):Int):=by omega
  have l2:(l.length:Int) <= (cap:Int):=by omega
  have l3:l.length <= cap:=by omega
  have zf:wc.frozen? ⟨M1.gr,k,none⟩ = false:=by obtain ⟨cur,h1⟩:=H1.out.rowsB.blk; exact h1.frozen k
  rw [eb] at c9
  replace eb:=Lib.hid eb
  replace own2:=Lib.hid own2
  replace hF:=Lib.hid hF
  clear own1 own hcap
  go_wp2_with fail
  have oW:Only (fun _ => False) wc wc:=Only.refl _ _
  have hb4:∀ d,(Value.slice (some ⟨b,0,none⟩) l.length cap).ownBlock = some d -> (M1.F k).ownBlock = some d \/ wc.heap.size <= d:=fun d e => .inl (by rw [hF.out]; exact e)
  have G3:=H1.out.newRow k hk (.slice (some ⟨b,0,none⟩) l.length cap) l oW (fun b e _ => e.elim) own2.out hb4
  have W3:=W1.out.trans (H1.out.wentRow k hk (.slice (some ⟨b,0,none⟩) l.length cap) oW (fun b e _ => e.elim) hb4)
  obtain ⟨w3,hw3⟩:∃ w3,w3 = (wc.setCell ⟨M1.gr,k,none⟩ (.slice (some ⟨b,0,none⟩) l.length cap)).drew:=⟨_,rfl⟩
  replace G3:=G3.drew
  replace W3:=W3.drewN 1
  have G4:RSetAt w3 { M1 with F:=upd M1.F k (.slice (some ⟨b,0,none⟩) l.length cap) } c { r1 with rows:=upd r1.rows k l }:=by rw [hw3]; exact G3
  have W4:RWent w w3 M { M1 with F:=upd M1.F k (.slice (some ⟨b,0,none⟩) l.length cap) } c:=by rw [hw3]; exact W3
  clear G3 W3
  replace hw3:=Lib.hid hw3
  obtain ⟨g,cp,hv,y0, -,y2,y3, -,fzc,hjl⟩:=G4.chAt (x:=x) hx.out
  have c8:=G4.cCh
  dsimp only at hv c8 hjl
  rw [hv,eb.out] at c8
  have j0:(0:Int) <= (j:Int):=by omega
  have j1:(j:Int) < (r1.ch.length:Int):=by omega
  have fz3:=fzc (j * 5 + 3)
  have G5:=G4.setCh (x:=x) hx.out RC.taken 3 (by omega) (.bool true) rfl hv
  have W5:=W4.trans (RWent.same (M:={ M1 with F:=upd M1.F k (.slice (some ⟨b,0,none⟩) l.length cap) }) (c:=c) (only_at (S:=RFoot _ c) w3 g (j * 5 + 3) (.bool true) ⟨.ch,by show M1.vC.ownBlock = _; rw [hv]; rfl⟩))
  obtain ⟨w5,hw5⟩:∃ w5,w5 = w3.setCell ⟨g,j * 5 + 3,none⟩ (.bool true):=⟨_,rfl⟩
  rw [<- hw5] at G5 W5
  have hx5:(r1.ch.modify j RC.taken)[j]? = some x.taken:=by rw [get_modify,if_pos rfl,hx.out]; rfl
  have HC:=rhandleC G5 (x:=x.taken) hx5 hp hg
  have hnm:x.taken.name = x.name:=rfl
  rw [hnm] at HC
  dsimp only at HC
  rw [eb.out] at HC
  have GF:RSetAt w5 { M1 with F:=upd M1.F k (.slice (some ⟨b,0,none⟩) l.length cap) } c (rtake r1 k j):=by
   have e:rtake r1 k j = { r1 with rows:=upd r1.rows k l,ch:=r1.ch.modify j RC.taken }:=by unfold rtake; rw [hj.out,List.dropLast_concat]
   rw [e]; exact G5
  replace GF:=Lib.hid GF
  replace W5:=Lib.hid W5
  replace HC:=Lib.hid HC
  replace hw5:=Lib.hid hw5
  replace hv:=Lib.hid hv
  clear fzc G5 hx5 hnm G4 W4 own2 oW hb4
  go_still_tail 15,(by kernel_rfl)
  change wpList _ _ _ _ _ wc.drew
  go_upto_region 8 with fail
  rw [<- hw3.out]
  clear hw3 c9 rk cl zf
  go_upto_region 9 with fail
  rw [<- hw5.out]
  clear hw5 c8 y0 y2 y3 fz3
  go_wp2_with fail
  refine HC.out.mono ?_
  rintro e w6 ⟨rfl,m,hm⟩
  have GE:RSetAt w6 { M1 with F:=upd M1.F k (.slice (some ⟨b,0,none⟩) l.length cap) } c (rtake r1 k j):=by rw [<- hm]; exact GF.out.drewN m
  have WE:RWent w w6 M { M1 with F:=upd M1.F k (.slice (some ⟨b,0,none⟩) l.length cap) } c:=by rw [<- hm]; exact W5.out.drewN m
  replace GE:=Lib.hid GE
  replace WE:=Lib.hid WE
  clear hm GF W5 HC
  go_wp2
  go_ret2
  exact ⟨rfl,_,GE.out,WE.out⟩
end Go.Proofs.YtfjiphibalhcgaaGreat.Cls
/-
  The statements' world: the program's chunks and lists, the document's, the handles that were told.
-/
namespace Go.Proofs.YtfjiphibalhcgaaGreat.Que
open Go.RowKit Base Arena Cls Itm
structure W6 where
 b:Nat
 L:Lay
 M:RL
 gq:Nat
 gl:Nat
 R:R6
 vT:Value
inductive C6 where
 | set
 | ref
 | queue
 | doc
 | own
 deriving DecidableEq
def W6.foot (W:W6) (c:Conf) (s:St):C6 -> Nat -> Prop
 | .set => Foot W.L c s
 | .ref => RFoot W.M c
 | .queue => fun b => b = W.gq \/ b = W.gl
 | .doc => F6 W.R (3 * c.nc)
 | .own => fun b => b = W.b \/ W.vT.ownBlock = some b
def W6.cells (W:W6):Array Value:=#[.pointer (some ⟨W.L.g,0,none⟩),.pointer (some ⟨W.gq,0,none⟩),.pointer (some ⟨W.M.b,0,none⟩),.pointer (some ⟨W.R.b,0,none⟩),W.vT]
structure WAt (N:Nat) (w:World) (W:W6) (c:Conf) (s:St) (bs:List UInt8) (Z:Nat -> Option Zd) (Ls Ld:Nat -> Nat -> List Nat) (r:RS) (laid told:List Nat):Prop where
 q:QW w W.L c s bs Z W.gq W.gl Ls
 ref:RSetAt w W.M c r
 doc:R6At w W.R W.M.b (3 * c.nc) laid (fun i => Ld (i / 3) (i % 3))
 own:Blk w W.b 47 W.cells
 told:w.ownsRow 0 26 1 W.vT told.length (told.map uv)
 sep:∀ i j b,W.foot c s i b -> W.foot c s j b -> i = j
 tb:W.vT.ownBlock ≠ some W.b
 base:∀ i b,W.foot c s i b -> N <= b
set_option maxHeartbeats 1600000 in
theorem begunC6 (w:World):Calls Tryz.prog 10 #[] w fun e w' => Below w.heap.size w w' /\ ∃ W:W6,e = .returned (.pointer (some ⟨W.b,0,none⟩)) /\ WAt w.heap.size w' W qc (new0 qc.cf) (List.replicate (qc.cf.ps * qc.cf.np) 0) (fun _ => none) (fun _ _ => []) (fun _ _ => []) rnew0 [] []:=by
 have CC:=setupC w
 have hr:refN qc = 0:=qc_ref
 have hnc:qc.nc = 3:=qc_nc
 have hnp:qc.cf.np = 4:=qc_np
 generalize qc = c at *
 have RC:=Lib.hid (fun w => refNewC w c)
 have NC:=Lib.hid (fun w => Cls.newC w c)
 have n1:=fun w => numC6 w 0
 unfold Conf.cells at CC NC
 unfold Conf.rcells at RC CC
 replace CC:=Lib.hid CC
 go_enter Tryz.func10,Tryz.ntmps10
 go_wp2_with fail
 refine CC.out.mono ?_
 rintro e w1 ⟨rfl,b1⟩
 obtain ⟨w2,hw2⟩:∃ w2,w2 = (w1.alloc (.cells #[.int .i64 c.ps,.int .i64 c.np,.int .i64 c.fa,.int .i64 c.mc,.int .i64 c.il,.int .i64 c.hot,.int .i64 c.warm] 79)).alloc (.cells #[.int .i64 c.ps,.int .i64 c.np,.int .i64 c.fa,.int .i64 c.mc,.int .i64 c.il] 81):=⟨_,rfl⟩
 have b2:Below w.heap.size w w2:=by rw [hw2]; exact (b1.alloc b1.size _).alloc (by rw [World.size_alloc]; have:=b1.size; omega) _
 have B2:Blk w2 w1.heap.size 79 c.cells:=by rw [hw2]; exact (Blk.new w1 _ _).alloc _
 have C2:Blk w2 (w1.heap.size + 1) 81 c.rcells:=by rw [hw2]; exact blk_new' (World.size_alloc _ _)
 have s2:w.heap.size <= w1.heap.size:=b1.size
 obtain ⟨x0,x1,x2,x3,x4,x5,x6⟩:=conf_cells B2
 obtain ⟨y0,y1,y2,y3,y4⟩:=rconf_cells C2
 have NC2:=Lib.hid (NC.out w2)
 replace hw2:=Lib.hid hw2
 replace b2:=Lib.hid b2
 clear CC b1 NC
 generalize hN:w1.heap.size = N at *
 replace hN:=Lib.hid hN
 go_upto_region 2 with fail
 rw [hN.out, <- hw2.out]
 clear hw2 hN
 go_wp2_with fail
 refine NC2.out.mono ?_
 rintro e w3 ⟨b3,⟨h0, -⟩ | ⟨-,L,rfl,M,F⟩⟩
 ·exact absurd hr h0
 have C3:=C2.below b3 C2.lt
 have l2:w.heap.size <= w2.heap.size:=b2.out.size
 have l23:=b3.size
 have b13:=b2.out.trans (b3.mono (B':=w.heap.size) l2)
 obtain ⟨y0,y1,y2,y3,y4⟩:=rconf_cells C3
 have RC3:=Lib.hid (RC.out w3)
 replace b13:=Lib.hid b13
 replace M:=Lib.hid M
 replace F:=Lib.hid F
 replace C3:=Lib.hid C3
 clear NC2 RC b3 b2 B2 C2 x0 x1 x2 x3 x4 x5 x6
 go_wp2_with fail
 refine RC3.out.mono ?_
 rintro e w4 ⟨b4,⟨h0, -⟩ | ⟨-,r2,rfl,R⟩⟩
 ·exact absurd hr h0
 have M4:=M.out.kept fun d hd => b4.block d (M.out.lt hd)
 have l34:=b4.size
 have b14:=b13.out.trans (b4.mono (B':=w.heap.size) (by omega))
 obtain ⟨M2,eb,RS4,F2⟩:=RSetAt.new hr (by omega) (by omega) R
 have FM:∀ d,Foot L c (new0 c.cf) d -> w2.heap.size <= d /\ d < w3.heap.size:=fun d hd => ⟨F.out d hd,M.out.lt hd⟩
 have QC:=Lib.hid (newC w4 L c _ _ M4)
 subst eb
 replace b14:=Lib.hid b14
 replace M4:=Lib.hid M4
 replace RS4:=Lib.hid RS4
 replace F2:=Lib.hid F2
 replace FM:=Lib.hid FM
 clear RC3 b4 b13 M C3 y0 y1 y2 y3 y4 F R
 go_wp2_with (first | (go_at_call 14; refine (n1 _).mono ?_; rintro e w' ⟨rfl,rfl⟩) | (go_at_call 12; refine QC.out.mono ?_; rintro e w5 ⟨gq,gl,rfl,b5,g1,g2,Q5⟩) | fail)
 have RS5:=RS4.out.kept fun d hd => b5.block d (RS4.out.lt hd)
 have M5:=M4.out.kept fun d hd => b5.block d (M4.out.lt hd)
 have l45:=b5.size
 have b15:=b14.out.trans (b5.mono (B':=w.heap.size) (by omega))
 have NC6:=Lib.hid (new6C w5 M2 c _ RS5 (by omega))
 have FR:∀ d,RFoot M2 c d -> w3.heap.size <= d /\ d < w4.heap.size:=fun d hd => ⟨F2.out d hd,RS4.out.lt hd⟩
 have lq:=Q5.ltq
 have ll:=Q5.ltl
 replace b15:=Lib.hid b15
 replace RS5:=Lib.hid RS5
 replace M5:=Lib.hid M5
 replace FR:=Lib.hid FR
 replace Q5:=Lib.hid Q5
 clear QC b14 b5 M4 RS4 F2
 go_wp2_with fail
 refine NC6.out.mono ?_
 rintro e w6 ⟨R,rfl,b6,F6',D6⟩
 have l56:=b6.size
 have RS6:=RS5.out.kept fun d hd => b6.block d (RS5.out.lt hd)
 have M6:=M5.out.kept fun d hd => b6.block d (M5.out.lt hd)
 have Q6:=Q5.out.below b6
 have b16:=b15.out.trans (b6.mono (B':=w.heap.size) (by omega))
 have FD:∀ d,F6 R (3 * c.nc) d -> w5.heap.size <= d /\ d < w6.heap.size:=fun d hd => ⟨F6' d hd,D6.lt hd⟩
 replace b16:=Lib.hid b16
 replace RS6:=Lib.hid RS6
 replace M6:=Lib.hid M6
 replace Q6:=Lib.hid Q6
 replace D6:=Lib.hid D6
 replace FD:=Lib.hid FD
 clear NC6 b15 b6 RS5 M5 Q5 F6'
 go_wp2_with fail
 go_ret
 have a6:∀ o,Below w6.heap.size w6 (w6.alloc o):=fun o => (Below.refl _ _).alloc (Nat.le_refl _) o
 refine ⟨b16.out.alloc (by omega) _,⟨w6.heap.size,L,M2,gq,gl,R,.slice none 0 0⟩,rfl,?_⟩
 refine ⟨QW.new (M6.out.alloc _) (Q6.out.below (a6 _)) (fun h => by have:=FM.out gq h; omega) (fun h => by have:=FM.out gl h; omega),RS6.out.alloc _,D6.out.below (a6 _),Blk.new w6 _ _,⟨rfl,.inl ⟨rfl,rfl⟩⟩,?_,?_,?_⟩
 ·have key:∀ i b,W6.foot ⟨w6.heap.size,L,M2,gq,gl,R,.slice none 0 0⟩ c (new0 c.cf) i b -> (i = .set /\ w2.heap.size <= b /\ b < w3.heap.size) \/ (i = .ref /\ w3.heap.size <= b /\ b < w4.heap.size) \/ (i = .queue /\ w4.heap.size <= b /\ b < w5.heap.size) \/ (i = .doc /\ w5.heap.size <= b /\ b < w6.heap.size) \/ (i = .own /\ b = w6.heap.size):=by
   intro i b hb
   cases i with
   | set => exact .inl ⟨rfl,FM.out b hb⟩
   | ref => exact .inr (.inl ⟨rfl,FR.out b hb⟩)
   | queue => exact .inr (.inr (.inl ⟨rfl,by have hb:b = gq \/ b = gl:=hb; omega⟩))
   | doc => exact .inr (.inr (.inr (.inl ⟨rfl,FD.out b hb⟩)))
   | own => exact .inr (.inr (.inr (.inr ⟨rfl,by
     rcases hb with hb | hb
     ·exact hb
     ·cases hb⟩)))
  intro i j b hi hj
  rcases key i b hi with ⟨rfl,h1⟩ | ⟨rfl,h1⟩ | ⟨rfl,h1⟩ | ⟨rfl,h1⟩ | ⟨rfl,h1⟩ <;> rcases key j b hj with ⟨rfl,h2⟩ | ⟨rfl,h2⟩ | ⟨rfl,h2⟩ | ⟨rfl,h2⟩ | ⟨rfl,h2⟩ <;> first | rfl | (exfalso; omega)
 ·intro h; cases h
 ·intro i b hb
  cases i with
  | set => have:=FM.out b hb; omega
  | ref => have:=FR.out b hb; omega
  | queue =>
   have hb:b = gq \/ b = gl:=hb
   omega
  | doc => have:=FD.out b hb; omega
  | own =>
   rcases hb with rfl | hb
   ·show w.heap.size <= w6.heap.size
    omega
   ·cases hb
section
variable {N:Nat} {w:World} {W:W6} {c:Conf} {s:St} {bs:List UInt8} {Z:Nat -> Option Zd} {Ls Ld:Nat -> Nat -> List Nat} {r:RS} {laid told:List Nat} (h:WAt N w W c s bs Z Ls Ld r laid told)
include h
theorem WAt.lt (i:C6) (b:Nat) (hb:W.foot c s i b):b < w.heap.size:=by
  cases i with
  | set => obtain ⟨F,S,q⟩:=h.q; exact S.zs.set.lt hb
  | ref => exact h.ref.lt hb
  | queue =>
    obtain ⟨F,S,q⟩:=h.q
    rcases hb with rfl | rfl
    · exact S.q.ltq
    · exact S.q.ltl
  | doc => exact h.doc.lt hb
  | own =>
    rcases hb with rfl | hb
    · exact h.own.lt
    · exact own_blockN h.told hb
theorem WAt.set:SetAt w W.L c s bs:=by obtain ⟨F,S,q⟩:=h.q; exact S.zs.set
theorem WAt.good:Cls.Good c.cf s:=by obtain ⟨F,S,q⟩:=h.q; exact S.zs.good
theorem WAt.okc:c.cf.Ok:=h.set.okc
theorem WAt.sepOf {W':W6} {s':St} (i0:C6) (hk:∀ i b,W'.foot c s' i b -> i = i0 /\ (W.foot c s i0 b \/ w.heap.size <= b) \/ i ≠ i0 /\ W.foot c s i b) (hN:N <= w.heap.size) :
    (∀ i j b,W'.foot c s' i b -> W'.foot c s' j b -> i = j) /\ ∀ i b,W'.foot c s' i b -> N <= b:=by
  refine ⟨fun i j b hi hj => ?_,fun i b hb => ?_⟩
  · rcases hk i b hi with ⟨e1,h1⟩ | ⟨n1,h1⟩ <;> rcases hk j b hj with ⟨e2,h2⟩ | ⟨n2,h2⟩
    · rw [e1,e2]
    · rcases h1 with h1 | h1
      · rw [e1]; exact h.sep _ _ b h1 h2
      · have:=h.lt _ _ h2; omega
    · rcases h2 with h2 | h2
      · rw [e2]; exact h.sep _ _ b h1 h2
      · have:=h.lt _ _ h1; omega
    · exact h.sep _ _ b h1 h2
  · rcases hk i b hb with ⟨-,h1 | h1⟩ | ⟨-,h1⟩
    · exact h.base _ _ h1
    · omega
    · exact h.base _ _ h1
theorem WAt.hN (w':World) (hw:w.heap.size <= w'.heap.size):N <= w'.heap.size:=by
  have:=h.base .own W.b (.inl rfl)
  have:=h.own.lt
  omega
theorem WAt.hN0:N <= w.heap.size:=h.hN w (Nat.le_refl _)
theorem WAt.below {w':World} (b:Below w.heap.size w w'):WAt N w' W c s bs Z Ls Ld r laid told:=by
  obtain ⟨F,S,q⟩:=h.q
  exact ⟨⟨F,S.below b,q⟩,h.ref.kept fun d hd => b.block d (h.ref.lt hd),h.doc.below b,h.own.below b h.own.lt,own_keptN h.told fun d e => b.block d (own_blockN h.told e),h.sep,h.tb,h.base⟩
theorem WAt.take {w':World} {L':Lay} {s1:St} {k:Nat} (hk:k < c.cf.nc) (hr:roomS c.cf s k = some s1) {l:List Nat} {p:Nat} (hp:s1.free k = l ++ [p]) {H0:Nat} (h0:H0 = hnd p (s1.gens (p / c.cf.ps) (p % c.cf.ps / c.cf.sz k))) (G:Nat) (eg:L'.g = W.L.g)
    (hb:bs.length = c.cf.ps * c.cf.np) (M:SetAt w' L' c (takeS c.cf s1 k p) (takeB bs p G)) (We:Went w w' W.L L' c s (takeS c.cf s1 k p)) :
    WAt N w' { W with L:=L' } c (takeS c.cf s1 k p) (takeB bs p G) (upd Z H0 none) Ls Ld r laid told:=by
  have ns:∀ i b,i ≠ .set -> W.foot c s i b -> ¬ Foot W.L c s b:=fun i b hi hb hf => hi (h.sep i .set b hb hf)
  have sp:=h.sepOf (W':={ W with L:=L' }) (s':=takeS c.cf s1 k p) .set (fun i b hb => by
    cases i with
    | set => exact .inl ⟨rfl,We.foot b hb⟩
    | _ => exact .inr ⟨by simp,hb⟩) h.hN0
  have O:Blk w' W.b 47 W.cells:=(We.only.block _ h.own.lt (ns .own _ (by simp) (.inl rfl))).trans h.own
  refine ⟨h.q.take h.okc h.good hk hr hp h0 hb G eg M We,h.ref.only We.only fun b hb => ns .ref b (by simp) hb,h.doc.only We.only fun b hb => ns .doc b (by simp) hb,?_,own_keptN h.told fun b e => We.only.block b (own_blockN h.told e) (ns .own b (by simp) (.inr e)),sp.1,h.tb,sp.2⟩
  have e:W6.cells { W with L:=L' } = W.cells:=by unfold W6.cells; rw [eg]
  rw [e]
  exact O
theorem WAt.rtake {w':World} {M':RL} {r':RS} (R:RSetAt w' M' c r') (We:RWent w w' W.M M' c):WAt N w' { W with M:=M' } c s bs Z Ls Ld r' laid told:=by
  have ns:∀ i b,i ≠ .ref -> W.foot c s i b -> ¬ RFoot W.M c b:=fun i b hi hb hf => hi (h.sep i .ref b hb hf)
  have sp:=h.sepOf (W':={ W with M:=M' }) (s':=s) .ref (fun i b hb => by
    cases i with
    | ref => exact .inl ⟨rfl,We.foot b hb⟩
    | _ => exact .inr ⟨by simp,hb⟩) h.hN0
  have O:Blk w' W.b 47 W.cells:=(We.only.block _ h.own.lt (ns .own _ (by simp) (.inl rfl))).trans h.own
  have D:=h.doc.only We.only fun b hb => ns .doc b (by simp) hb
  obtain ⟨F,S,q⟩:=h.q
  have e:W6.cells { W with M:=M' } = W.cells:=by unfold W6.cells; rw [We.b]
  refine ⟨⟨F,⟨S.zs.only We.only fun b hb => ns .set b (by simp) hb,S.q.only We.only (ns .queue _ (by simp) (.inl rfl)) (ns .queue _ (by simp) (.inr rfl)),S.fq,S.fl⟩,q⟩,R,?_,?_,own_keptN h.told fun b e => We.only.block b (own_blockN h.told e) (ns .own b (by simp) (.inr e)),sp.1,h.tb,sp.2⟩
  · show R6At w' W.R M'.b _ _ _
    rw [We.b]; exact D
  · rw [e]; exact O
theorem WAt.doc_ {w':World} {R':R6} {laid':List Nat} {Ld':Nat -> Nat -> List Nat} (D:R6At w' R' W.M.b (3 * c.nc) laid' (fun i => Ld' (i / 3) (i % 3))) (eb:R'.b = W.R.b) (We:Went6 w w' W.R R' (3 * c.nc)):WAt N w' { W with R:=R' } c s bs Z Ls Ld' r laid' told:=by
  have ns:∀ i b,i ≠ .doc -> W.foot c s i b -> ¬ F6 W.R (3 * c.nc) b:=fun i b hi hb hf => hi (h.sep i .doc b hb hf)
  have sp:=h.sepOf (W':={ W with R:=R' }) (s':=s) .doc (fun i b hb => by
    cases i with
    | doc => exact .inl ⟨rfl,We.foot b hb⟩
    | _ => exact .inr ⟨by simp,hb⟩) h.hN0
  have O:Blk w' W.b 47 W.cells:=(We.only.block _ h.own.lt (ns .own _ (by simp) (.inl rfl))).trans h.own
  obtain ⟨F,S,q⟩:=h.q
  have e:W6.cells { W with R:=R' } = W.cells:=by unfold W6.cells; rw [eb]
  refine ⟨⟨F,⟨S.zs.only We.only fun b hb => ns .set b (by simp) hb,S.q.only We.only (ns .queue _ (by simp) (.inl rfl)) (ns .queue _ (by simp) (.inr rfl)),S.fq,S.fl⟩,q⟩,h.ref.only We.only fun b hb => ns .ref b (by simp) hb,D,?_,own_keptN h.told fun b e => We.only.block b (own_blockN h.told e) (ns .own b (by simp) (.inr e)),sp.1,h.tb,sp.2⟩
  rw [e]; exact O
theorem WAt.turn {w':World} {bs':List UInt8} {Z':Nat -> Option Zd} {Ls':Nat -> Nat -> List Nat} (o:Only (Two W.L W.gl) w w') (Q:QW w' W.L c s bs' Z' W.gq W.gl Ls'):WAt N w' W c s bs' Z' Ls' Ld r laid told:=by
  have ns:∀ i b,i ≠ .set -> i ≠ .queue -> W.foot c s i b -> ¬ Two W.L W.gl b:=fun i b h1 h2 hb hf => by
    rcases hf with e | e
    · exact h1 (h.sep i .set b hb (by rw [e]; exact ⟨.bytes,rfl⟩))
    · exact h2 (h.sep i .queue b hb (.inr e))
  exact ⟨Q,h.ref.only o fun b hb => ns .ref b (by simp) (by simp) hb,h.doc.only o fun b hb => ns .doc b (by simp) (by simp) hb,(o.block _ h.own.lt (ns .own _ (by simp) (by simp) (.inl rfl))).trans h.own,own_keptN h.told fun b e => o.block b (own_blockN h.told e) (ns .own b (by simp) (by simp) (.inr e)),h.sep,h.tb,h.base⟩
theorem WAt.tell {w6:World} {v':Value} {H:Nat} (o:Only (fun b => W.vT.ownBlock = some b) w w6) (own6:w6.ownsRow 0 26 1 v' (told.length + 1) (told.map uv ++ [uv H])) (hat:∀ b,v'.ownBlock = some b -> W.vT.ownBlock = some b \/ w.heap.size <= b) :
    WAt N (w6.setCell ⟨W.b,4,none⟩ v') { W with vT:=v' } c s bs Z Ls Ld r laid (told ++ [H]):=by
  have ns:∀ i b,i ≠ .own -> W.foot c s i b -> ¬ (b = W.b \/ W.vT.ownBlock = some b):=fun i b hi hb hf => hi (h.sep i .own b hb hf)
  have o2:=only_cell1 (S:=fun b => b = W.b \/ W.vT.ownBlock = some b) w6 W.b 4 v' (.inl rfl)
  have o3:Only (fun b => b = W.b \/ W.vT.ownBlock = some b) w (w6.setCell ⟨W.b,4,none⟩ v'):=(o.mono fun b _ e => .inr e).trans o2 fun _ _ h => h
  have sp:=h.sepOf (W':={ W with vT:=v' }) (s':=s) .own (fun i b hb => by
    cases i with
    | own =>
      rcases hb with hb | hb
      · exact .inl ⟨rfl,.inl (.inl hb)⟩
      · exact .inl ⟨rfl,(hat b hb).imp .inr id⟩
    | _ => exact .inr ⟨by simp,hb⟩) h.hN0
  have tb':v'.ownBlock ≠ some W.b:=fun e => by
    rcases hat _ e with h1 | h1
    · exact h.tb h1
    · have:=h.own.lt; omega
  have O:Blk w6 W.b 47 W.cells:=(o.block _ h.own.lt h.tb).trans h.own
  obtain ⟨F,S,q⟩:=h.q
  refine ⟨⟨F,⟨S.zs.only o3 fun b hb => ns .set b (by simp) hb,S.q.only o3 (ns .queue _ (by simp) (.inl rfl)) (ns .queue _ (by simp) (.inr rfl)),S.fq,S.fl⟩,q⟩,h.ref.only o3 fun b hb => ns .ref b (by simp) hb,h.doc.only o3 fun b hb => ns .doc b (by simp) hb,O.set_ 4 v',?_,sp.1,tb',sp.2⟩
  have e:(told ++ [H]).map uv = told.map uv ++ [uv H]:=List.map_append
  rw [e,List.length_append]
  exact own_keptN own6 fun b e => (only_cell1 (S:=(· = W.b)) w6 W.b 4 v' rfl).block b (own_blockN own6 e) fun e2 => tb' (e2 ▸ e)
end
structure Grew (c:Conf) (w0 w:World) (W0 W:W6) (s0 s:St):Prop where
  only:Only (fun b => ∃ i,W0.foot c s0 i b) w0 w
  foot:∀ i b,W.foot c s i b -> (∃ j,W0.foot c s0 j b) \/ w0.heap.size <= b
theorem Grew.refl (c:Conf) (w:World) (W:W6) (s:St):Grew c w w W W s s:=⟨Only.refl _ _,fun i b hb => .inl ⟨i,hb⟩⟩
theorem Grew.trans {c:Conf} {w0 w1 w2:World} {W0 W1 W2:W6} {s0 s1 s2:St} (h:Grew c w0 w1 W0 W1 s0 s1) (k:Grew c w1 w2 W1 W2 s1 s2):Grew c w0 w2 W0 W2 s0 s2 :=
  ⟨h.only.trans k.only fun x hx ⟨i,hf⟩ => (h.foot i x hf).resolve_right (by omega),fun i b hb => (k.foot i b hb).elim (fun ⟨j,hj⟩ => h.foot j b hj) fun hb => .inr (Nat.le_trans h.only.size hb)⟩
theorem Grew.step {c:Conf} {w0 w w':World} {W0 W:W6} {s0 s:St} (h:Grew c w0 w W0 W s0 s) (b:Below w.heap.size w w'):Grew c w0 w' W0 W s0 s:=⟨h.only.below b h.only.size,h.foot⟩
theorem Grew.below {c:Conf} {N:Nat} {w0 w:World} {W0 W:W6} {s0 s:St} (h:Grew c w0 w W0 W s0 s) (hb:∀ i b,W0.foot c s0 i b -> N <= b) (hN:N <= w0.heap.size):Below N w0 w :=
  h.only.toBelow fun k hk => ⟨by omega,fun ⟨i,e⟩ => by have:=hb i k e; omega⟩
theorem Grew.away {c:Conf} {w0 w:World} {W0 W:W6} {s0 s:St} (h:Grew c w0 w W0 W s0 s) {b:Nat} (hb:b < w0.heap.size) (hn:∀ i,¬ W0.foot c s0 i b):w.heap[b]? = w0.heap[b]? /\ ∀ i,¬ W.foot c s i b :=
  ⟨h.only.block b hb fun ⟨i,e⟩ => hn i e,fun i e => (h.foot i b e).elim (fun ⟨j,hj⟩ => hn j hj) fun h1 => by omega⟩
theorem grew_take {c:Conf} {w w':World} {W:W6} {L':Lay} {s s':St} (We:Went w w' W.L L' c s s'):Grew c w w' W { W with L:=L' } s s' :=
  ⟨We.only.mono fun b _ e => ⟨.set,e⟩,fun i b hb => by
    cases i with
    | set => exact (We.foot b hb).imp (fun e => ⟨.set,e⟩) id
    | ref => exact .inl ⟨.ref,hb⟩
    | queue => exact .inl ⟨.queue,hb⟩
    | doc => exact .inl ⟨.doc,hb⟩
    | own => exact .inl ⟨.own,hb⟩⟩
theorem grew_rtake {c:Conf} {w w':World} {W:W6} {M':RL} {s:St} (We:RWent w w' W.M M' c):Grew c w w' W { W with M:=M' } s s :=
  ⟨We.only.mono fun b _ e => ⟨.ref,e⟩,fun i b hb => by
    cases i with
    | ref => exact (We.foot b hb).imp (fun e => ⟨.ref,e⟩) id
    | set => exact .inl ⟨.set,hb⟩
    | queue => exact .inl ⟨.queue,hb⟩
    | doc => exact .inl ⟨.doc,hb⟩
    | own => exact .inl ⟨.own,hb⟩⟩
theorem grew_doc {c:Conf} {w w':World} {W:W6} {R':R6} {s:St} (We:Went6 w w' W.R R' (3 * c.nc)):Grew c w w' W { W with R:=R' } s s :=
  ⟨We.only.mono fun b _ e => ⟨.doc,e⟩,fun i b hb => by
    cases i with
    | doc => exact (We.foot b hb).imp (fun e => ⟨.doc,e⟩) id
    | set => exact .inl ⟨.set,hb⟩
    | queue => exact .inl ⟨.queue,hb⟩
    | ref => exact .inl ⟨.ref,hb⟩
    | own => exact .inl ⟨.own,hb⟩⟩
theorem grew_turn {c:Conf} {w w':World} {W:W6} {s:St} (o:Only (Two W.L W.gl) w w'):Grew c w w' W W s s :=
  ⟨o.mono fun b _ e => by
    rcases e with e | e
    · exact ⟨.set,by rw [e]; exact ⟨.bytes,rfl⟩⟩
    · exact ⟨.queue,.inr e⟩,fun i b hb => .inl ⟨i,hb⟩⟩
theorem grew_tell {c:Conf} {w w':World} {W:W6} {v':Value} {s:St} (o:Only (fun b => b = W.b \/ W.vT.ownBlock = some b) w w') (hat:∀ b,v'.ownBlock = some b -> W.vT.ownBlock = some b \/ w.heap.size <= b):Grew c w w' W { W with vT:=v' } s s :=
  ⟨o.mono fun b _ e => ⟨.own,e⟩,fun i b hb => by
    cases i with
    | own =>
      rcases hb with hb | hb
      · exact .inl ⟨.own,.inl hb⟩
      · exact (hat b hb).imp (fun e => ⟨.own,.inr e⟩) id
    | set => exact .inl ⟨.set,hb⟩
    | queue => exact .inl ⟨.queue,hb⟩
    | ref => exact .inl ⟨.ref,hb⟩
    | doc => exact .inl ⟨.doc,hb⟩⟩
structure Op6 where
 dO:Int
 a:Int
 b:Int
 c:Int
 h:Nat
 raw:Bool
def Op6.cells (o:Op6):Array Value:=#[.int .i64 o.dO,.int .i64 o.a,.int .i64 o.b,.int .i64 o.c,.int .u64 (o.h:Int),.bool o.raw]
structure Op6.Ok (o:Op6):Prop where
 dO:Cls.In o.dO
 a:Cls.In o.a
 b:Cls.In o.b
 c:Cls.In o.c
 h:o.h < 18446744073709551616
theorem op6_cells {w:World} {N:Nat} {t:TypeId} {o:Op6} (h:Blk w N t o.cells):w.cell? ⟨N,0,none⟩ = some (.int .i64 o.dO) /\ w.cell? ⟨N,1,none⟩ = some (.int .i64 o.a) /\ w.cell? ⟨N,2,none⟩ = some (.int .i64 o.b) /\ w.cell? ⟨N,3,none⟩ = some (.int .i64 o.c) /\ w.cell? ⟨N,4,none⟩ = some (.int .u64 (o.h:Int)) /\ w.cell? ⟨N,5,none⟩ = some (.bool o.raw) :=
 ⟨h.cell 0,h.cell 1,h.cell 2,h.cell 3,h.cell 4,h.cell 5⟩
theorem qc_sz (k:Nat) (hk:k < 3) : 64 <= qc.sz k /\ qc.cf.n k <= 64:=by
 obtain rfl | rfl | rfl:k = 0 \/ k = 1 \/ k = 2:=by omega
 all_goals decide
section
variable {N:Nat} {w:World} {W:W6} {s:St} {bs:List UInt8} {Z:Nat -> Option Zd} {Ls Ld:Nat -> Nat -> List Nat} {r:RS} {laid told:List Nat} (h:WAt N w W qc s bs Z Ls Ld r laid told)
include h
theorem WAt.cW:w.cell? ⟨W.b,0,none⟩ = some (.pointer (some ⟨W.L.g,0,none⟩)) /\ w.cell? ⟨W.b,1,none⟩ = some (.pointer (some ⟨W.gq,0,none⟩)) /\ w.cell? ⟨W.b,2,none⟩ = some (.pointer (some ⟨W.M.b,0,none⟩)) /\ w.cell? ⟨W.b,3,none⟩ = some (.pointer (some ⟨W.R.b,0,none⟩)) /\ w.cell? ⟨W.b,4,none⟩ = some W.vT :=
 ⟨h.own.cell 0,h.own.cell 1,h.own.cell 2,h.own.cell 3,h.own.cell 4⟩
theorem makesNo (o:Op6) (ok:o.Ok) (Rl:Rel qc.cf s r) (hr:roomS qc.cf s (o.b % 3).toNat = none) :
  Calls Tryz.prog 20 #[.pointer (some ⟨W.b,0,none⟩),.agg o.cells] w fun e w' => e = .returned (.bool true) /\ Below w.heap.size w w':=by
 have hk:(o.b % 3).toNat < 3:=by omega
 have hnc:=qc_nc
 obtain ⟨w1,hw1⟩:∃ w1,w1 = w.alloc (.cells o.cells 28):=⟨_,rfl⟩
 have B1:Blk w1 w.heap.size 28 o.cells:=by rw [hw1]; exact Blk.new w _ _
 have b1:Below w.heap.size w w1:=by rw [hw1]; exact (Below.refl _ _).alloc (Nat.le_refl _) _
 have h1:=h.below b1
 obtain ⟨x0,x1,x2,x3,x4,x5⟩:=op6_cells B1
 obtain ⟨y0,y1,y2,y3,y4⟩:=h1.cW
 have WC:=withinI o.b 3 ok.b (by omega) (by omega)
 rw [show ((3:Nat):Int) = 3 from rfl] at WC
 have TC:=takeNo w1 W.L qc s bs h1.set _ (by rw [hnc]; exact hk) hr
 have RC:=rtakeNo w1 W.M qc r h1.ref _ (by rw [hnc]; exact hk) ((Rl.room h1.okc h1.good (by show _ < qc.nc; omega)).1 hr)
 generalize (o.b % 3).toNat = k at *
 have n1:=fun w => numC6 w 21
 replace TC:=Lib.hid TC
 replace RC:=Lib.hid RC
 replace WC:=Lib.hid WC
 replace b1:=Lib.hid b1
 unfold Op6.cells at hw1 ⊢
 replace hw1:=Lib.hid hw1
 clear h h1 Rl hr B1 hnc
 generalize hN:w.heap.size = N0 at *
 replace hN:=Lib.hid hN
 go_enter Tryz.func20,Tryz.ntmps20
 go_upto_region 1 with fail
 rw [hN.out, <- hw1.out]
 go_wp2_with (first | (go_at_call 16; refine (WC.out _).mono ?_; rintro e w' ⟨rfl,rfl⟩) | (go_at_call 55; refine TC.out.mono ?_; rintro e w' ⟨rfl,rfl⟩) | (go_at_call 56; refine RC.out.mono ?_; rintro e w' ⟨rfl,rfl⟩) | (go_at_call 14; refine (n1 _).mono ?_; rintro e w' ⟨rfl,rfl⟩) | fail)
 go_ret
 exact ⟨rfl,b1.out⟩
end
structure Took6 (N N0:Nat) (w0 w:World) (W0:W6) (s0:St) (W:W6) (s:St) (bs:List UInt8) (Z:Nat -> Option Zd) (Ls Ld:Nat -> Nat -> List Nat) (r:RS) (laid told:List Nat) (o:Op6):Prop where
 wat:WAt N w W qc s bs Z Ls Ld r laid told
 op:Blk w N0 28 o.cells
 far:∀ i,¬ W.foot qc s i N0
 below:Below N w0 w
 grew:Grew qc w0 w W0 W s0 s
theorem Took6.cells {N N0:Nat} {w0 w:World} {W0:W6} {s0:St} {W:W6} {s:St} {bs:List UInt8} {Z:Nat -> Option Zd} {Ls Ld:Nat -> Nat -> List Nat} {r:RS} {laid told:List Nat} {o:Op6} (h:Took6 N N0 w0 w W0 s0 W s bs Z Ls Ld r laid told o) :
  w.cell? ⟨N0,0,none⟩ = some (.int .i64 o.dO) /\ w.cell? ⟨W.b,0,none⟩ = some (.pointer (some ⟨W.L.g,0,none⟩)) /\ w.cell? ⟨W.b,2,none⟩ = some (.pointer (some ⟨W.M.b,0,none⟩)) /\ w.cell? ⟨W.b,3,none⟩ = some (.pointer (some ⟨W.R.b,0,none⟩)) /\ w.cell? ⟨W.b,4,none⟩ = some W.vT:=by
 obtain ⟨y0,y1,y2,y3,y4⟩:=h.wat.cW
 exact ⟨h.op.cell 0,y0,y2,y3,y4⟩
theorem took6_begin {N:Nat} {w:World} {W:W6} {s:St} {bs:List UInt8} {Z:Nat -> Option Zd} {Ls Ld:Nat -> Nat -> List Nat} {r:RS} {laid told:List Nat} (h:WAt N w W qc s bs Z Ls Ld r laid told) (o:Op6) :
  Took6 N w.heap.size w (w.alloc (.cells o.cells 28)) W s W s bs Z Ls Ld r laid told o :=
 ⟨h.below ((Below.refl _ _).alloc (Nat.le_refl _) _),Blk.new w _ _,fun i hi => by have:=h.lt i _ hi; omega,(Below.refl N w).alloc h.hN0 _,(Grew.refl _ _ _ _).step ((Below.refl _ _).alloc (Nat.le_refl _) _)⟩
section
variable {N N0:Nat} {w0 w:World} {W0:W6} {s0:St} {W:W6} {s:St} {bs:List UInt8} {Z:Nat -> Option Zd} {Ls Ld:Nat -> Nat -> List Nat} {r:RS} {laid told:List Nat} {o:Op6} (h:Took6 N N0 w0 w W0 s0 W s bs Z Ls Ld r laid told o)
include h
theorem Took6.take {w':World} {L':Lay} {s1:St} {k:Nat} (hk:k < qc.cf.nc) (hr:roomS qc.cf s k = some s1) {l:List Nat} {p:Nat} (hp:s1.free k = l ++ [p]) {H0:Nat} (h0:H0 = hnd p (s1.gens (p / qc.cf.ps) (p % qc.cf.ps / qc.cf.sz k))) (G:Nat) (eg:L'.g = W.L.g)
  (hb:bs.length = qc.cf.ps * qc.cf.np) (M:SetAt w' L' qc (takeS qc.cf s1 k p) (takeB bs p G)) (We:Went w w' W.L L' qc s (takeS qc.cf s1 k p)):Took6 N N0 w0 w' W0 s0 { W with L:=L' } (takeS qc.cf s1 k p) (takeB bs p G) (upd Z H0 none) Ls Ld r laid told o:=by
 obtain ⟨A,B⟩:=We.away h.op (h.far .set)
 refine ⟨h.wat.take hk hr hp h0 G eg hb M We,A,fun i hi => ?_,h.below.trans (We.only.toBelow (B:=N) fun k hk => ⟨by have:=h.wat.hN0; omega,fun e => by have:=h.wat.base .set k e; omega⟩),h.grew.trans (grew_take We)⟩
 cases i with
 | set => exact B hi
 | ref => exact h.far .ref hi
 | queue => exact h.far .queue hi
 | doc => exact h.far .doc hi
 | own => exact h.far .own hi
theorem Took6.rtake {w':World} {M':RL} {r':RS} (R:RSetAt w' M' qc r') (We:RWent w w' W.M M' qc):Took6 N N0 w0 w' W0 s0 { W with M:=M' } s bs Z Ls Ld r' laid told o:=by
 refine ⟨h.wat.rtake R We,(We.only.block _ h.op.lt (h.far .ref)).trans h.op,fun i hi => ?_,h.below.trans (We.only.toBelow (B:=N) fun k hk => ⟨by have:=h.wat.hN0; omega,fun e => by have:=h.wat.base .ref k e; omega⟩),h.grew.trans (grew_rtake We)⟩
 cases i with
 | set => exact h.far .set hi
 | ref =>
  rcases We.foot _ hi with h1 | h1
  ·exact h.far .ref h1
  ·have:=h.op.lt; omega
 | queue => exact h.far .queue hi
 | doc => exact h.far .doc hi
 | own => exact h.far .own hi
theorem Took6.tell {w6:World} {v':Value} {H:Nat} (oo:Only (fun b => W.vT.ownBlock = some b) w w6) (own6:w6.ownsRow 0 26 1 v' (told.length + 1) (told.map uv ++ [uv H])) (hat:∀ b,v'.ownBlock = some b -> W.vT.ownBlock = some b \/ w.heap.size <= b) :
  Took6 N N0 w0 (w6.setCell ⟨W.b,4,none⟩ v') W0 s0 { W with vT:=v' } s bs Z Ls Ld r laid (told ++ [H]) o:=by
 have o2:=only_cell1 (S:=fun b => b = W.b \/ W.vT.ownBlock = some b) w6 W.b 4 v' (.inl rfl)
 have o3:Only (fun b => b = W.b \/ W.vT.ownBlock = some b) w (w6.setCell ⟨W.b,4,none⟩ v'):=(oo.mono fun b _ e => .inr e).trans o2 fun _ _ h => h
 refine ⟨h.wat.tell oo own6 hat,(o3.block _ h.op.lt (h.far .own)).trans h.op,fun i hi => ?_,h.below.trans (o3.toBelow (B:=N) fun k hk => ⟨by have:=h.wat.hN0; omega,fun e => by have:=h.wat.base .own k e; omega⟩),h.grew.trans (grew_tell o3 hat)⟩
 cases i with
 | set => exact h.far .set hi
 | ref => exact h.far .ref hi
 | queue => exact h.far .queue hi
 | doc => exact h.far .doc hi
 | own =>
  rcases hi with h1 | h1
  ·exact h.far .own (.inl h1)
  ·rcases hat _ h1 with h2 | h2
   ·exact h.far .own (.inr h2)
   ·have:=h.op.lt; omega
end
theorem rroom_len {r r1:RS} {k:Nat} (hk:k < 3) (hr:rroomS qc.cf r k = some r1):r1.ch.length <= r.ch.length + 64:=by
 have hn:=(qc_sz k hk).2
 unfold rroomS at hr
 split at hr
 ·split at hr
  ·injection hr with hr
   subst hr
   unfold rpage rcuts
   simp
   omega
  ·cases hr
 ·injection hr with hr
  subst hr
  omega
section
variable {N:Nat} {w:World} {W:W6} {s:St} {bs:List UInt8} {Z:Nat -> Option Zd} {Ls Ld:Nat -> Nat -> List Nat} {r:RS} {laid told:List Nat} (h:WAt N w W qc s bs Z Ls Ld r laid told)
include h
set_option maxHeartbeats 1600000 in
theorem makesBare (o:Op6) (ok:o.Ok) (Rl:Rel qc.cf s r) (hb:bs.length = qc.cf.ps * qc.cf.np) (hlen:r.ch.length + 16384 <= 1073741824) (hfr:(s.free (o.b % 3).toNat).length + 16384 <= 1073741824) (htl:told.length + 1 <= 1073741824)
  {s1:St} (hr:roomS qc.cf s (o.b % 3).toNat = some s1) {l:List Nat} {p:Nat} (hp:s1.free (o.b % 3).toNat = l ++ [p]) {H0:Nat} (h0:H0 = hnd p (s1.gens (p / qc.cf.ps) (p % qc.cf.ps / qc.sz (o.b % 3).toNat))) (hd:o.dO = 2) :
  Calls Tryz.prog 20 #[.pointer (some ⟨W.b,0,none⟩),.agg o.cells] w fun e w' => e = .returned (.bool true) /\ Below N w w' /\ ∃ W' r',W'.b = W.b /\ Grew qc w w' W W' s (takeS qc.cf s1 (o.b % 3).toNat p) /\ Rel qc.cf (takeS qc.cf s1 (o.b % 3).toNat p) r' /\ r'.ch.length <= r.ch.length + 16384 /\
   WAt N w' W' qc (takeS qc.cf s1 (o.b % 3).toNat p) (takeB bs p (s1.gens (p / qc.cf.ps) (p % qc.cf.ps / qc.sz (o.b % 3).toNat))) (upd Z H0 none) Ls Ld r' laid (told ++ [H0]):=by
 have hk:(o.b % 3).toNat < 3:=by omega
 have hkn:(o.b % 3).toNat < qc.nc:=by rw [qc_nc]; exact hk
 have T1:=took6_begin h o
 obtain ⟨w1,hw1⟩:∃ w1,w1 = w.alloc (.cells o.cells 28):=⟨_,rfl⟩
 rw [<- hw1] at T1
 have WC:=withinI o.b 3 ok.b (by omega) (by omega)
 rw [show ((3:Nat):Int) = 3 from rfl] at WC
 have TC:=takeYes w1 W.L qc s bs T1.wat.set T1.wat.good _ hkn s1 hr l p hp
 rw [<- h0] at TC
 have okc:=T1.wat.okc
 have g1:=(room_good okc T1.wat.good hkn hr).1
 obtain ⟨r1,hr1,Rl1⟩:=(Rl.room okc T1.wat.good (k:=(o.b % 3).toNat) hkn).2 s1 hr
 obtain ⟨l',j,hj,hx,Rl2⟩:=Rl1.take okc g1 hkn hp
 generalize hkE:(o.b % 3).toNat = k at *
 have RK:=fun w2 M' (R:RSetAt w2 M' qc r) => rtakeYes w2 M' qc r R hlen k hkn (by rw [Rl.row_len hkn]; exact hfr) r1 hr1 l' j _ hj hx (Nat.le_of_lt (Nat.lt_of_lt_of_le (Rl1.pl j _ hx) (by decide))) (g1.gen _ _)
 have hnm:(RC.name ⟨p,k,s1.gens (p / qc.cf.ps) (p % qc.cf.ps / qc.cf.sz k),false,false⟩) = H0:=h0.symm
 have hcl:(rtake r1 k j).ch.length <= r.ch.length + 16384:=by
  have:=rroom_len hk hr1
  unfold rtake
  simp only [List.length_modify]
  omega
 obtain ⟨x0,y0,y2,y3,y4⟩:=T1.cells
 have xb:w1.cell? ⟨w.heap.size,2,none⟩ = some (.int .i64 o.b):=T1.op.cell 2
 rw [hd] at x0
 have n1:=fun w => numC6 w 0
 have H9:(takeS qc.cf s1 k p) = takeS qc.cf s1 k p:=rfl
 replace TC:=Lib.hid TC
 replace WC:=Lib.hid WC
 replace T1:=Lib.hid T1
 replace hnm:=Lib.hid hnm
 replace Rl2:=Lib.hid Rl2
 replace hcl:=Lib.hid hcl
 replace hp:=Lib.hid hp
 replace hr:=Lib.hid hr
 replace h0:=Lib.hid h0
 replace hb:=Lib.hid hb
 replace htl:=Lib.hid htl
 replace hkn:=Lib.hid hkn
 replace hkE:=Lib.hid hkE
 clear Rl Rl1 hj hx hr1 g1 okc hlen hfr H9 hk
 replace RK:=Lib.hid RK
 have hdE:=Lib.hid hd
 unfold Op6.cells at hw1 ⊢
 rw [hd] at hw1 ⊢
 replace hw1:=Lib.hid hw1
 clear hd
 generalize hN:w.heap.size = N0 at *
 replace hN:=Lib.hid hN
 go_enter Tryz.func20,Tryz.ntmps20
 go_upto_region 1 with fail
 rw [hN.out, <- hw1.out]
 go_wp2_with fail
 refine (WC.out _).mono ?_
 rintro e w' ⟨rfl,rfl⟩
 go_wp2_with fail
 refine TC.out.mono ?_
 rintro e w2 ⟨rfl,L',eg,M2,We2⟩
 have T2:=T1.out.take (H0:=H0) hkn.out hr.out hp.out h0.out _ eg hb.out M2 We2
 obtain ⟨x0,y0,y2,y3,y4⟩:=T2.cells
 rw [hdE.out] at x0
 have RC2:=RK.out w2 W.M T2.wat.ref
 rw [hnm.out] at RC2
 replace RC2:=Lib.hid RC2
 replace T2:=Lib.hid T2
 clear TC WC T1 M2 We2 RK hw1 eg
 go_wp2_with fail
 refine RC2.out.mono ?_
 rintro e w3 ⟨rfl,M',R3,We3⟩
 have T3:=T2.out.rtake R3 We3
 obtain ⟨x0,y0,y2,y3,y4⟩:=T3.cells
 rw [hdE.out] at x0
 have wb:=We3.b
 obtain ⟨A,cp,hv⟩:=own_is T3.wat.told
 have own:=T3.wat.told
 have fz:=T3.wat.own.frozen 4
 have z1:∀ o,(w3.alloc o).frozen? ⟨W.b,4,none⟩ = false:=fun o => (T3.wat.own.alloc o).frozen 4
 simp only at hv y4 own
 rw [hv] at y4 own
 replace T3:=Lib.hid T3
 replace hv:=Lib.hid hv
 replace own:=Lib.hid own
 clear RC2 T2 R3 We3 wb
 go_wp2_with (first | (go_at_call 14; refine (n1 _).mono ?_; rintro e w' ⟨rfl,rfl⟩) | (at_builtin; refine wpList_app rfl _ _ _ rfl eiL 0 _ _ _ rfl (own.out.alloc _) (w3.heap.size + 1) (some ⟨w3.heap.size,0,none⟩) 1 1 [.int .u64 (H0:Int)] rfl ?c1 ?c2 ?c3 ?c4 ?c5 ?_))
 case c1 => exact reads_v w3 _ _
 case c2 => intro u hu; rw [List.mem_singleton] at hu; subst hu; rfl
 case c3 => have:=htl.out; unfold maxLen; omega
 case c4 => have:=htl.out; omega
 case c5 => exact Nat.zero_le _
 intro VV w6 own6 hg6 hat6
 obtain ⟨A6,cp6,rfl⟩:=own_is own6
 have o6:Only (fun k => W.vT.ownBlock = some k) w3 w6:=((Only.refl _ w3).alloc _).grown hg6 (fun k e _ => by rw [hv.out]; exact e)
 have hat:∀ b,(Value.slice A6 (told.length + 1) cp6).ownBlock = some b -> W.vT.ownBlock = some b \/ w3.heap.size <= b:=fun b e => by
  rcases hat6 with h6 | h6
  ·rw [hv.out, <- h6]; exact .inl e
  ·rw [h6] at e
   injection e with e
   exact .inr (by omega)
 have T6:=T3.out.tell o6 own6 hat
 have B6:Blk w6 W.b 47 _:=(o6.block _ T3.out.wat.own.lt T3.out.wat.tb).trans T3.out.wat.own
 have r1:=B6.cell 4
 have r2:=B6.frozen 4
 obtain ⟨x0, -, -, -, -⟩:=T6.cells
 rw [hdE.out] at x0
 simp only at x0
 replace T6:=Lib.hid T6
 replace B6:=Lib.hid B6
 clear own6 hg6 hat6 o6 hat z1 fz own T3 hv
 go_wp2_with fail
 go_ret
 exact ⟨rfl,T6.out.below,⟨W.b,L',M',W.gq,W.gl,W.R,.slice A6 (told.length + 1) cp6⟩,_,rfl,T6.out.grew,Rl2.out,hcl.out,T6.out.wat⟩
end
theorem bvE {x:Nat} (hx:x < 256):bv (UInt8.ofNat x) = .int .u8 (x:Int):=by
 unfold bv
 rw [UInt8.toNat_ofNat',Nat.mod_eq_of_lt hx]
theorem bytes_blk {w:World} {b B:Nat} {l:List UInt8} {cs:Array Value} (h:Blk w b 5 cs) (e:cs = (l.map bv).toArray) (hb:b < B):Bytes w B (some ⟨b,0,none⟩) l:=fun _ => ⟨b,0,rfl,hb,fun k x hx => by
 rw [Nat.zero_add,h.cell,e]
 simpa using hx⟩
theorem two_legal {a b:Nat} (ha:a < 26) (hb:b < 26):legalN [UInt8.ofNat (97 + a),UInt8.ofNat (97 + b)] = true:=by
 have h1:∀ a:Fin 26,okB (UInt8.ofNat (97 + a.val)) = true:=by decide
 have e1:=h1 ⟨a,ha⟩
 have e2:=h1 ⟨b,hb⟩
 simp only at e1 e2
 unfold legalN
 rw [List.all_cons,List.all_cons,List.all_nil,e1,e2]
 rfl
theorem layItemC {w:World} {L:Lay} {s:St} {bs:List UInt8} {Z:Nat -> Option Zd} {gq gl:Nat} {Ls:Nat -> Nat -> List Nat} (h:QW w L qc s bs Z gq gl Ls) {H i x p:Nat} (hf:findN qc.cf s H = some (i,x,p)) (hz:Z H = none) (gen:Nat) (hg:(bs.drop (p + 12)).take 4 = putB 4 gen)
  {na nb nv n nm a b:Nat} (ha:na < 26) (hb:nb < 26) (hv:nv < 256) (hn:n <= 1073741824) (hm:nm < 16) (K:Blk w a 5 #[.int .u8 (97 + (na:Int)),.int .u8 (97 + (nb:Int))]) (V:Blk w b 5 #[.int .u8 (nv:Int)]) (ea:a ≠ L.ha) (eb:b ≠ L.ha) :
  Calls Tryz.prog 58 #[.pointer (some ⟨L.g,0,none⟩),.int .u64 (H:Int),.agg #[.slice (some ⟨a,0,none⟩) 2 2,.slice (some ⟨b,0,none⟩) 1 1,.int .u64 (n:Int),.int .i64 (n:Int),.int .i64 0,.int .u64 (n:Int),.int .i64 4,.int .i64 (nm:Int)]] w fun e w' => e = .returned (.int .i64 0) /\ Only (Two L gl) w w' /\
   ∃ bs',bs'.length = bs.length /\ QW w' L qc s bs' (upd Z H (some ⟨4,0,0⟩)) gq gl Ls:=by
 have hnl:∀ x k,x < qc.nc -> k < 3 -> H ∉ Ls x k:=by
  intro x k hx hk hh
  obtain ⟨F,S,q⟩:=h
  obtain ⟨z,hz2⟩:=(q.is hx hk hh).2
  rw [hz] at hz2
  cases hz2
 have Kt:Tkn qc.cf s i x p (s.cls i) (H / 4294967296):=by obtain ⟨F,S,q⟩:=h; exact (Tkn.of S.okc S.zs.good hf).1
 have kN:s.cls i < 3:=by have:=Kt.kN; rw [show qc.cf.nc = qc.nc from rfl,qc_nc] at this; exact this
 have hsz:=(qc_sz _ kN).1
 have hlen:p + 64 <= bs.length:=by
  obtain ⟨F,S,q⟩:=h
  have K2:=Chk.of S.zs.set S.zs.good (good_lt S.okc S.zs.good hf) hf
  have:=K2.ck.all
  have:=K2.n64
  omega
 have F:It.Fine ⟨[UInt8.ofNat (97 + na),UInt8.ofNat (97 + nb)],[UInt8.ofNat nv],n,n,0,n,4,nm⟩:=⟨two_legal ha hb,by show n < _; omega,by show n < _; omega,by show 0 < _; omega,by show n < _; omega,by show 1 <= 4; omega,by show 4 <= 4; omega,hm⟩
 have kB:Bytes w (max a b + 1) (some ⟨a,0,none⟩) [UInt8.ofNat (97 + na),UInt8.ofNat (97 + nb)]:=bytes_blk K (by
  show _ = #[bv _,bv _]
  rw [bvE (by omega),bvE (by omega)]
  simp) (by omega)
 have vB:Bytes w (max a b + 1) (some ⟨b,0,none⟩) [UInt8.ofNat nv]:=bytes_blk V (by
  show _ = #[bv _]
  rw [bvE hv]) (by omega)
 have C:=laidC h hf hnl _ F rfl (by show 58 + 2 + 1 <= _; omega) gen hg (some ⟨a,0,none⟩) (some ⟨b,0,none⟩) 2 1 _ kB vB (fun b' off e => by injection e with e; injection e with e; exact e ▸ ea) (fun _ b' off e => by injection e with e; injection e with e; exact e ▸ eb)
 exact C.mono fun e w' ⟨h1,h2,h3⟩ => ⟨h1,h2,_,itemB_len _ _ _ _ (by show p + 58 + 2 + 1 <= _; omega),h3⟩
def laidN (H:Nat) (l:List Nat):List Nat:=if H ∈ l then l else l ++ [H]
theorem lay6C (w:World) (R:R6) (mb n:Nat) (laid:List Nat) (lists:Nat -> List Nat) (h:R6At w R mb n laid lists) (hlen:laid.length + 1 <= 1073741824) (H:Nat):Calls Tryz.prog 57 #[.pointer (some ⟨R.b,0,none⟩),.int .u64 (H:Int)] w fun e w' => e = .returned (.tuple #[]) /\ ∃ R',R'.b = R.b /\ Went6 w w' R R' n /\ R6At w' R' mb n (laidN H laid) lists:=by
 by_cases hm:H ∈ laid
 ·have e:laidN H laid = laid:=if_pos hm
  rw [e]
  exact (lay6In w R mb n laid lists h hlen H hm).mono fun e w' ⟨h1,h2⟩ => ⟨h1,R,rfl,h2 ▸ ⟨Only.refl _ _,fun b hb => .inl hb,rfl⟩,h2 ▸ h⟩
 ·have e:laidN H laid = laid ++ [H]:=if_neg hm
  rw [e]
  exact lay6Out w R mb n laid lists h hlen H hm
theorem Took6.step {N N0:Nat} {w0 w w':World} {W0:W6} {s0:St} {W:W6} {s:St} {bs:List UInt8} {Z:Nat -> Option Zd} {Ls Ld:Nat -> Nat -> List Nat} {r:RS} {laid told:List Nat} {o:Op6} (h:Took6 N N0 w0 w W0 s0 W s bs Z Ls Ld r laid told o) (b:Below w.heap.size w w'):Took6 N N0 w0 w' W0 s0 W s bs Z Ls Ld r laid told o :=
 ⟨h.wat.below b,h.op.below b h.op.lt,h.far,h.below.trans (b.mono h.wat.hN0),h.grew.step b⟩
theorem Took6.doc_ {N N0:Nat} {w0 w w':World} {W0:W6} {s0:St} {W:W6} {s:St} {bs:List UInt8} {Z:Nat -> Option Zd} {Ls Ld:Nat -> Nat -> List Nat} {r:RS} {laid laid' told:List Nat} {o:Op6} (h:Took6 N N0 w0 w W0 s0 W s bs Z Ls Ld r laid told o) {R':R6} (D:R6At w' R' W.M.b (3 * qc.nc) laid' (fun i => Ld (i / 3) (i % 3))) (eb:R'.b = W.R.b) (We:Went6 w w' W.R R' (3 * qc.nc)) :
  Took6 N N0 w0 w' W0 s0 { W with R:=R' } s bs Z Ls Ld r laid' told o:=by
 refine ⟨h.wat.doc_ D eb We,(We.only.block _ h.op.lt (h.far .doc)).trans h.op,fun i hi => ?_,h.below.trans (We.only.toBelow (B:=N) fun k hk => ⟨by have:=h.wat.hN0; omega,fun e => by have:=h.wat.base .doc k e; omega⟩),h.grew.trans (grew_doc We)⟩
 cases i with
 | set => exact h.far .set hi
 | ref => exact h.far .ref hi
 | queue => exact h.far .queue hi
 | doc =>
  rcases We.foot _ hi with h1 | h1
  ·exact h.far .doc h1
  ·have:=h.op.lt; omega
 | own => exact h.far .own hi
theorem Took6.laid {N N0:Nat} {w0 w w':World} {W0:W6} {s0:St} {W:W6} {s:St} {bs bs':List UInt8} {Z Z':Nat -> Option Zd} {Ls Ld:Nat -> Nat -> List Nat} {r:RS} {laid told:List Nat} {o:Op6} (h:Took6 N N0 w0 w W0 s0 W s bs Z Ls Ld r laid told o) (oz:Only (Two W.L W.gl) w w') (Q:QW w' W.L qc s bs' Z' W.gq W.gl Ls) :
  WAt N w' W qc s bs' Z' Ls Ld r laid told /\ Below N w0 w' /\ Grew qc w0 w' W0 W s0 s:=by
 refine ⟨h.wat.turn oz Q,h.below.trans (oz.toBelow (B:=N) fun k hk => ⟨by have:=h.wat.hN0; omega,fun e => ?_⟩),h.grew.trans (grew_turn oz)⟩
 rcases e with e | e
 ·have:=h.wat.base .set k (by rw [e]; exact ⟨.bytes,rfl⟩); omega
 ·have:=h.wat.base .queue k (.inr e); omega
section
variable {N:Nat} {w:World} {W:W6} {s:St} {bs:List UInt8} {Z:Nat -> Option Zd} {Ls Ld:Nat -> Nat -> List Nat} {r:RS} {laid told:List Nat} (h:WAt N w W qc s bs Z Ls Ld r laid told)
include h
set_option maxHeartbeats 1600000 in
theorem makesItem (o:Op6) (ok:o.Ok) (Rl:Rel qc.cf s r) (hb:bs.length = qc.cf.ps * qc.cf.np) (hlen:r.ch.length + 16384 <= 1073741824) (hfr:(s.free (o.b % 3).toNat).length + 16384 <= 1073741824) (htl:told.length + 1 <= 1073741824) (hla:laid.length + 1 <= 1073741824)
  {s1:St} (hr:roomS qc.cf s (o.b % 3).toNat = some s1) {l:List Nat} {p:Nat} (hp:s1.free (o.b % 3).toNat = l ++ [p]) {H0:Nat} (h0:H0 = hnd p (s1.gens (p / qc.cf.ps) (p % qc.cf.ps / qc.sz (o.b % 3).toNat))) (hd:o.dO ≠ 2) :
  Calls Tryz.prog 20 #[.pointer (some ⟨W.b,0,none⟩),.agg o.cells] w fun e w' => e = .returned (.bool true) /\ Below N w w' /\ ∃ W' r',W'.b = W.b /\ Grew qc w w' W W' s (takeS qc.cf s1 (o.b % 3).toNat p) /\ Rel qc.cf (takeS qc.cf s1 (o.b % 3).toNat p) r' /\ r'.ch.length <= r.ch.length + 16384 /\
   ∃ bs',bs'.length = bs.length /\ WAt N w' W' qc (takeS qc.cf s1 (o.b % 3).toNat p) bs' (upd Z H0 (some ⟨4,0,0⟩)) Ls Ld r' (laidN H0 laid) (told ++ [H0]):=by
 have hk:(o.b % 3).toNat < 3:=by omega
 have hkn:(o.b % 3).toNat < qc.nc:=by rw [qc_nc]; exact hk
 have T1:=took6_begin h o
 obtain ⟨w1,hw1⟩:∃ w1,w1 = w.alloc (.cells o.cells 28):=⟨_,rfl⟩
 rw [<- hw1] at T1
 have WC:=withinI o.b 3 ok.b (by omega) (by omega)
 rw [show ((3:Nat):Int) = 3 from rfl] at WC
 have TC:=takeYes w1 W.L qc s bs T1.wat.set T1.wat.good _ hkn s1 hr l p hp
 rw [<- h0] at TC
 have okc:=T1.wat.okc
 have g1:=(room_good okc T1.wat.good hkn hr).1
 obtain ⟨r1,hr1,Rl1⟩:=(Rl.room okc T1.wat.good (k:=(o.b % 3).toNat) hkn).2 s1 hr
 obtain ⟨l',j,hj,hx,Rl2⟩:=Rl1.take okc g1 hkn hp
 generalize hkE:(o.b % 3).toNat = k at *
 have RK:=fun w2 M' (R:RSetAt w2 M' qc r) => rtakeYes w2 M' qc r R hlen k hkn (by rw [Rl.row_len hkn]; exact hfr) r1 hr1 l' j _ hj hx (Nat.le_of_lt (Nat.lt_of_lt_of_le (Rl1.pl j _ hx) (by decide))) (g1.gen _ _)
 have hnm:(RC.name ⟨p,k,s1.gens (p / qc.cf.ps) (p % qc.cf.ps / qc.cf.sz k),false,false⟩) = H0:=h0.symm
 have hcl:(rtake r1 k j).ch.length <= r.ch.length + 16384:=by
  have:=rroom_len hk hr1
  unfold rtake
  simp only [List.length_modify]
  omega
 obtain ⟨x0,y0,y2,y3,y4⟩:=T1.cells
 have xb:w1.cell? ⟨w.heap.size,2,none⟩ = some (.int .i64 o.b):=T1.op.cell 2
 have n1:=fun w => numC6 w 0
 have H9:(takeS qc.cf s1 k p) = takeS qc.cf s1 k p:=rfl
 replace TC:=Lib.hid TC
 replace WC:=Lib.hid WC
 replace T1:=Lib.hid T1
 replace hnm:=Lib.hid hnm
 replace Rl2:=Lib.hid Rl2
 replace hcl:=Lib.hid hcl
 replace hp:=Lib.hid hp
 replace hr:=Lib.hid hr
 replace h0:=Lib.hid h0
 replace hb:=Lib.hid hb
 replace htl:=Lib.hid htl
 replace hkn:=Lib.hid hkn
 replace hkE:=Lib.hid hkE
 clear Rl Rl1 hj hx hr1 g1 okc hlen hfr H9 hk
 replace RK:=Lib.hid RK
 have d1:decide (o.dO = 2) = false:=decide_eq_false hd
 have d2:(o.dO == 2) = false:=by rw [beq_eq_false_iff_ne]; exact hd
 unfold Op6.cells at hw1 ⊢
 replace hw1:=Lib.hid hw1
 clear hd
 generalize hN:w.heap.size = N0 at *
 replace hN:=Lib.hid hN
 go_enter Tryz.func20,Tryz.ntmps20
 go_upto_region 1 with fail
 rw [hN.out, <- hw1.out]
 go_wp2_with fail
 refine (WC.out _).mono ?_
 rintro e w' ⟨rfl,rfl⟩
 go_wp2_with fail
 refine TC.out.mono ?_
 rintro e w2 ⟨rfl,L',eg,M2,We2⟩
 have T2:=T1.out.take (H0:=H0) hkn.out hr.out hp.out h0.out _ eg hb.out M2 We2
 obtain ⟨x0,y0,y2,y3,y4⟩:=T2.cells
 have RC2:=RK.out w2 W.M T2.wat.ref
 rw [hnm.out] at RC2
 replace RC2:=Lib.hid RC2
 replace T2:=Lib.hid T2
 clear TC WC T1 M2 We2 RK hw1 eg
 go_wp2_with fail
 refine RC2.out.mono ?_
 rintro e w3 ⟨rfl,M',R3,We3⟩
 have T3:=T2.out.rtake R3 We3
 obtain ⟨x0,y0,y2,y3,y4⟩:=T3.cells
 have wb:=We3.b
 obtain ⟨A,cp,hv⟩:=own_is T3.wat.told
 have own:=T3.wat.told
 have fz:=T3.wat.own.frozen 4
 have z1:∀ o,(w3.alloc o).frozen? ⟨W.b,4,none⟩ = false:=fun o => (T3.wat.own.alloc o).frozen 4
 simp only at hv y4 own
 rw [hv] at y4 own
 replace T3:=Lib.hid T3
 replace hv:=Lib.hid hv
 replace own:=Lib.hid own
 clear RC2 T2 R3 We3 wb
 go_wp2_with (first | (go_at_call 14; refine (n1 _).mono ?_; rintro e w' ⟨rfl,rfl⟩) | (at_builtin; refine wpList_app rfl _ _ _ rfl eiL 0 _ _ _ rfl (own.out.alloc _) (w3.heap.size + 1) (some ⟨w3.heap.size,0,none⟩) 1 1 [.int .u64 (H0:Int)] rfl ?c1 ?c2 ?c3 ?c4 ?c5 ?_))
 case c1 => exact reads_v w3 _ _
 case c2 => intro u hu; rw [List.mem_singleton] at hu; subst hu; rfl
 case c3 => have:=htl.out; unfold maxLen; omega
 case c4 => have:=htl.out; omega
 case c5 => exact Nat.zero_le _
 intro VV w6 own6 hg6 hat6
 obtain ⟨A6,cp6,rfl⟩:=own_is own6
 have o6:Only (fun k => W.vT.ownBlock = some k) w3 w6:=((Only.refl _ w3).alloc _).grown hg6 (fun k e _ => by rw [hv.out]; exact e)
 have hat:∀ b,(Value.slice A6 (told.length + 1) cp6).ownBlock = some b -> W.vT.ownBlock = some b \/ w3.heap.size <= b:=fun b e => by
  rcases hat6 with h6 | h6
  ·rw [hv.out, <- h6]; exact .inl e
  ·rw [h6] at e
   injection e with e
   exact .inr (by omega)
 have T6:=T3.out.tell o6 own6 hat
 have B6:Blk w6 W.b 47 _:=(o6.block _ T3.out.wat.own.lt T3.out.wat.tb).trans T3.out.wat.own
 have r1:=B6.cell 4
 have r2:=B6.frozen 4
 obtain ⟨x0, -, -, -, -⟩:=T6.cells
 simp only at x0
 obtain ⟨-,y0, -,y3,y4⟩:=T6.cells
 simp only at y0 y3 y4
 obtain ⟨n,hn⟩:∃ n,n = told.length + 1:=⟨_,rfl⟩
 rw [<- hn] at T6 y0 y3 y4 x0 ⊢
 obtain ⟨w7,hw7⟩:∃ w7,w7 = w6.setCell ⟨W.b,4,none⟩ (.slice A6 n cp6):=⟨_,rfl⟩
 rw [<- hw7] at T6 x0 y0 y3 y4
 replace T6:=Lib.hid T6
 replace B6:=Lib.hid B6
 replace hn:=Lib.hid hn
 replace hw7:=Lib.hid hw7
 clear own6 hg6 hat6 o6 hat z1 fz own T3 hv
 go_upto_region 9 with fail
 rw [<- hw7.out]
 clear hw7 r1 r2 B6
 go_upto_region 12 with fail
 have hn9:n <= 1073741824:=by have:=hn.out; have:=htl.out; omega
 obtain ⟨nq,hnq⟩:∃ nq,nq = n / 26:=⟨_,rfl⟩
 obtain ⟨na,hna⟩:∃ na,na = n % 26:=⟨_,rfl⟩
 obtain ⟨nb,hnb⟩:∃ nb,nb = nq % 26:=⟨_,rfl⟩
 obtain ⟨nm,hnm2⟩:∃ nm,nm = n % 16:=⟨_,rfl⟩
 obtain ⟨nv,hnv⟩:∃ nv,nv = n % 256:=⟨_,rfl⟩
 have m1:((n:Int)).tmod 26 = (na:Int):=by rw [hna]; exact tmodN n 26
 have m2:((n:Int)).tdiv 26 = (nq:Int):=by rw [hnq]; exact tdivN n 26
 have m3:((nq:Int)).tmod 26 = (nb:Int):=by rw [hnb]; exact tmodN nq 26
 have m4:((n:Int)).tmod 16 = (nm:Int):=by rw [hnm2]; exact tmodN n 16
 have m5:((n:Int)) % 256 = (nv:Int):=by omega
 have i1:na < 26:=by omega
 have i2:nb < 26:=by omega
 have i3:nm < 16:=by omega
 have i4:nv < 256:=by omega
 have q0:IntKind.i64.wrap (nq:Int) = (nq:Int):=IntWalk.i64_in _ (by omega)
 have q1:IntKind.i64.wrap (97 + (na:Int)) = ((97 + na:Nat):Int):=by rw [IntWalk.i64_in _ (by omega)]; omega
 have q2:IntKind.i64.wrap (97 + (nb:Int)) = ((97 + nb:Nat):Int):=by rw [IntWalk.i64_in _ (by omega)]; omega
 have q3:IntKind.u64.wrap (n:Int) = (n:Int):=by show ((n:Int)) % 18446744073709551616 = n; omega
 replace hnq:=Lib.hid hnq
 replace hna:=Lib.hid hna
 replace hnb:=Lib.hid hnb
 replace hnm2:=Lib.hid hnm2
 replace hnv:=Lib.hid hnv
 go_upto_region 13 with fail
 obtain ⟨w8,hw8⟩:∃ w8,w8 = ((w7.alloc (.cells #[.int .u8 (97 + (na:Int)),.int .u8 (97 + (nb:Int))] 5)).alloc (.cells #[.int .u8 (nv:Int)] 5)).alloc (.cells #[.slice (some ⟨w7.heap.size,0,none⟩) 2 2,.slice (some ⟨w7.heap.size + 1,0,none⟩) 1 1,.int .u64 (n:Int),.int .i64 (n:Int),.int .i64 0,.int .u64 (n:Int),.int .i64 4,.int .i64 (nm:Int)] 103):=⟨_,rfl⟩
 rw [<- hw8]
 have K8:Blk w8 w7.heap.size 5 #[.int .u8 (97 + (na:Int)),.int .u8 (97 + (nb:Int))]:=by rw [hw8]; exact ((Blk.new w7 _ _).alloc _).alloc _
 have V8:Blk w8 (w7.heap.size + 1) 5 #[.int .u8 (nv:Int)]:=by rw [hw8]; exact (blk_new' (World.size_alloc _ _)).alloc _
 have I8:Blk w8 (w7.heap.size + 1 + 1) 103 #[.slice (some ⟨w7.heap.size,0,none⟩) 2 2,.slice (some ⟨w7.heap.size + 1,0,none⟩) 1 1,.int .u64 (n:Int),.int .i64 (n:Int),.int .i64 0,.int .u64 (n:Int),.int .i64 4,.int .i64 (nm:Int)]:=by rw [hw8]; exact blk_new' (by rw [World.size_alloc,World.size_alloc])
 have b8:Below w7.heap.size w7 w8:=by rw [hw8]; exact (((Below.refl _ w7).alloc (Nat.le_refl _) _).alloc (by rw [World.size_alloc]; omega) _).alloc (by rw [World.size_alloc,World.size_alloc]; omega) _
 have T8:=T6.out.step b8
 have LC:=Lib.hid (lay6C w8 W.R _ _ laid _ T8.wat.doc hla H0)
 obtain ⟨-,y0, -,y3, -⟩:=T8.cells
 simp only at y0 y3
 have wl:∀ i b,W6.foot ⟨W.b,L',M',W.gq,W.gl,W.R,.slice A6 n cp6⟩ qc (takeS qc.cf s1 k p) i b -> b < w7.heap.size:=fun i b hb => T6.out.wat.lt i b hb
 replace wl:=Lib.hid wl
 replace T8:=Lib.hid T8
 replace K8:=Lib.hid K8
 replace V8:=Lib.hid V8
 replace I8:=Lib.hid I8
 clear hw8 b8 T6 m1 m2 m3 m4 m5 q0 q1 q2 q3 x0 y4 xb y2
 go_wp2_with fail
 refine LC.out.mono ?_
 rintro e w9 ⟨rfl,R',eb,W9,D9⟩
 have T9:=T8.out.doc_ D9 eb W9
 have nf:∀ b,w7.heap.size <= b -> ¬ F6 W.R (3 * qc.nc) b:=fun b hb hf => by have:=wl.out .doc b hf; omega
 have K9:Blk w9 w7.heap.size 5 _:=(W9.only.block _ K8.out.lt (nf _ (by omega))).trans K8.out
 have V9:Blk w9 (w7.heap.size + 1) 5 _:=(W9.only.block _ V8.out.lt (nf _ (by omega))).trans V8.out
 have I9:Blk w9 (w7.heap.size + 1 + 1) 103 _:=(W9.only.block _ I8.out.lt (nf _ (by omega))).trans I8.out
 have z0:=I9.cell 0
 have z1:=I9.cell 1
 have z2:=I9.cell 2
 have z3:=I9.cell 3
 have z4:=I9.cell 4
 have z5:=I9.cell 5
 have z6:=I9.cell 6
 have z7:=I9.cell 7
 have eLa:∀ b,w7.heap.size <= b -> b ≠ L'.ha:=fun b hb e => by have:=wl.out .set b (by rw [e]; exact ⟨.bytes,rfl⟩); omega
 obtain ⟨-,y0, -, -, -⟩:=T9.cells
 simp only at y0
 have hgd:=h.good
 have okc:=T9.wat.okc
 obtain ⟨⟨fi,fx,f0, -⟩, -, -⟩:=took_find okc hgd hkn.out hr.out hp.out h0.out
 have hfit:p + 64 <= bs.length:=by
  obtain ⟨t0, -⟩:=Tkn.of okc T9.wat.good f0
  obtain ⟨a1,a2,a3,a4,a5⟩:=t0.fit okc
  have:=(okc.sz _ t0.kN).1
  rw [hb.out,Nat.mul_comm]
  omega
 have bd:Below w9.heap.size w9 w9.drew:=below_drewN (Below.refl _ _) 1
 have T10:=T9.step bd
 have YC:=layItemC T10.wat.q f0 (upd_at _ _ _) _ (take_gen (by omega)) i1 i2 i4 hn9 i3 (K9.below bd K9.lt) (V9.below bd V9.lt) (eLa _ (Nat.le_refl _)) (eLa _ (Nat.le_succ _))
 have tl:(takeB bs p (s1.gens (p / qc.cf.ps) (p % qc.cf.ps / qc.sz k))).length = bs.length:=take_len (by omega)
 replace tl:=Lib.hid tl
 replace YC:=Lib.hid YC
 replace T10:=Lib.hid T10
 replace I9:=Lib.hid I9
 clear T9 T8 LC K8 V8 I8 D9 W9 nf y3 K9 V9 f0 hgd okc hfit eLa bd
 go_upto_region 14 with fail
 go_region_law ((go_simp; first | (go_at_call 58; refine YC.out.mono ?_; rintro e wz ⟨rfl,oz,bz,lz,Qz⟩) | (go_at_call 14; refine (n1 _).mono ?_; rintro e w' ⟨rfl,rfl⟩)))
 all_goals
  have TT:=T10.out.laid oz Qz
  replace TT:=Lib.hid TT
  go_wp2
  go_ret
  exact ⟨rfl,TT.out.2.1,⟨W.b,L',M',W.gq,W.gl,R',.slice A6 n cp6⟩,_,rfl,TT.out.2.2,Rl2.out,hcl.out,bz,lz.trans tl.out,by have:=TT.out.1; rwa [upd_upd] at this⟩
end
theorem doesMakeC (w:World) (b:Nat) (o:Op6) (hd:o.dO = 1) (P:World -> Prop) (MC:Calls Tryz.prog 20 #[.pointer (some ⟨b,0,none⟩),.agg o.cells] (w.alloc (.cells o.cells 28)) fun e w' => e = .returned (.bool true) /\ P w') :
  Calls Tryz.prog 11 #[.pointer (some ⟨b,0,none⟩),.agg o.cells] w fun e w' => e = .returned (.bool true) /\ P w':=by
 obtain ⟨w1,hw1⟩:∃ w1,w1 = w.alloc (.cells o.cells 28):=⟨_,rfl⟩
 have B1:Blk w1 w.heap.size 28 o.cells:=by rw [hw1]; exact Blk.new w _ _
 obtain ⟨x0,x1,x2,x3,x4,x5⟩:=op6_cells B1
 rw [<- hw1] at MC
 unfold Op6.cells at MC hw1 ⊢
 rw [hd] at MC hw1 x0 ⊢
 replace MC:=Lib.hid MC
 replace hw1:=Lib.hid hw1
 clear B1 hd
 generalize hN:w.heap.size = N at *
 replace hN:=Lib.hid hN
 go_enter Tryz.func11,Tryz.ntmps11
 go_upto_region 1 with fail
 rw [hN.out, <- hw1.out]
 go_wp2_with fail
 refine MC.out.mono ?_
 rintro e w2 ⟨rfl,hP⟩
 replace hP:=Lib.hid hP
 go_wp2
 go_ret
 exact ⟨rfl,hP.out⟩
def o0:Op6:=⟨1,0,0,0,0,false⟩
theorem o0_ok:o0.Ok:=⟨⟨by decide,by decide⟩,⟨by decide,by decide⟩,⟨by decide,by decide⟩,⟨by decide,by decide⟩,by decide⟩
theorem free_short {s:St} (g:Cls.Good qc.cf s) (ok:qc.cf.Ok) {k:Nat} (hk:k < qc.cf.nc):(s.free k).length <= 16384:=by
 refine nodup_le _ _ (g.nodup k hk) fun p hp => ?_
 obtain ⟨i,x,h1, -, -, -,h5, -,rfl, -⟩:=g.last ok hk hp
 obtain ⟨-, -, -,h6, -⟩:=place_of ok (i:=i) hk h5
 have h9:(i + 1) * qc.cf.ps <= 4 * 4096:=Nat.mul_le_mul (by have:qc.cf.np = 4:=qc_np; omega) (by decide)
 rw [Nat.succ_mul] at h9
 have:=(ok.sz k hk).1
 omega
section
variable {N:Nat} {w:World} {W:W6} {s:St} {bs:List UInt8} {Z:Nat -> Option Zd} {Ls Ld:Nat -> Nat -> List Nat} {r:RS} {laid told:List Nat} (h:WAt N w W qc s bs Z Ls Ld r laid told)
include h
theorem doesItem (o:Op6) (ok:o.Ok) (hd:o.dO = 1) (Rl:Rel qc.cf s r) (hb:bs.length = qc.cf.ps * qc.cf.np) (hlen:r.ch.length + 16384 <= 1073741824) (htl:told.length + 1 <= 1073741824) (hla:laid.length + 1 <= 1073741824)
  {s1:St} (hr:roomS qc.cf s (o.b % 3).toNat = some s1) {l:List Nat} {p:Nat} (hp:s1.free (o.b % 3).toNat = l ++ [p]) {H0:Nat} (h0:H0 = hnd p (s1.gens (p / qc.cf.ps) (p % qc.cf.ps / qc.sz (o.b % 3).toNat))) :
  Calls Tryz.prog 11 #[.pointer (some ⟨W.b,0,none⟩),.agg o.cells] w fun e w' => e = .returned (.bool true) /\ Below N w w' /\ ∃ W' r',W'.b = W.b /\ Grew qc w w' W W' s (takeS qc.cf s1 (o.b % 3).toNat p) /\ Rel qc.cf (takeS qc.cf s1 (o.b % 3).toNat p) r' /\ r'.ch.length <= r.ch.length + 16384 /\
   ∃ bs',bs'.length = bs.length /\ WAt N w' W' qc (takeS qc.cf s1 (o.b % 3).toNat p) bs' (upd Z H0 (some ⟨4,0,0⟩)) Ls Ld r' (laidN H0 laid) (told ++ [H0]):=by
 have hkn:(o.b % 3).toNat < qc.cf.nc:=by show _ < qc.nc; rw [qc_nc]; omega
 have b1:Below w.heap.size w (w.alloc (.cells o.cells 28)):=(Below.refl _ _).alloc (Nat.le_refl _) _
 have h1:=h.below b1
 have M:=makesItem h1 o ok Rl hb hlen (by have:=free_short h.good h.okc hkn; omega) htl hla hr hp h0 (by omega)
 have bN:Below N w (w.alloc (.cells o.cells 28)):=(Below.refl N w).alloc h.hN0 _
 exact doesMakeC w W.b o hd _ (M.mono fun e w' ⟨a1,a2,W',r',a3,a4,a5⟩ => ⟨a1,bN.trans a2,W',r',a3,((Grew.refl _ _ _ _).step b1).trans a4,a5⟩)
theorem doesO0 (Rl:Rel qc.cf s r) (hb:bs.length = qc.cf.ps * qc.cf.np) (hlen:r.ch.length + 16384 <= 1073741824) (htl:told.length + 1 <= 1073741824) (hla:laid.length + 1 <= 1073741824)
  {s1:St} (hr:roomS qc.cf s 0 = some s1) {l:List Nat} {p:Nat} (hp:s1.free 0 = l ++ [p]) {H0:Nat} (h0:H0 = hnd p (s1.gens (p / qc.cf.ps) (p % qc.cf.ps / qc.cf.sz 0))) :
  Calls Tryz.prog 11 #[.pointer (some ⟨W.b,0,none⟩),.agg #[.int .i64 1,.int .i64 0,.int .i64 0,.int .i64 0,.int .u64 0,.bool false]] w fun e w' => e = .returned (.bool true) /\ Below N w w' /\ ∃ W' r',W'.b = W.b /\ Grew qc w w' W W' s (takeS qc.cf s1 0 p) /\ Rel qc.cf (takeS qc.cf s1 0 p) r' /\ r'.ch.length <= r.ch.length + 16384 /\
   ∃ bs',bs'.length = bs.length /\ WAt N w' W' qc (takeS qc.cf s1 0 p) bs' (upd Z H0 (some ⟨4,0,0⟩)) Ls Ld r' (laidN H0 laid) (told ++ [H0]) :=
 doesItem h o0 o0_ok rfl Rl hb hlen htl hla hr hp h0
end
structure WI (N:Nat) (w:World) (W:W6) (s:St) (bs:List UInt8) (Z:Nat -> Option Zd) (Ls:Nat -> Nat -> List Nat) (r:RS) (laid told:List Nat) (t:Nat):Prop where
 wat:WAt N w W qc s bs Z Ls Ls r laid told
 rel:Rel qc.cf s r
 agr:∀ H i x p,findN qc.cf s H = some (i,x,p) -> ((Z H).isSome = true ↔ H ∈ laid)
 bs:bs.length = qc.cf.ps * qc.cf.np
 ch:r.ch.length <= 16384 * t
 la:laid.length <= t
 tl:told.length <= t
 tlt:∀ H ∈ told,H < 18446744073709551616
 lg:∀ H ∈ laid,∃ i x p,findN qc.cf s H = some (i,x,p)
 ln:laid.Nodup
 lt:∀ H ∈ laid,H ∈ told
section
variable {N:Nat} {w:World} {W:W6} {s:St} {bs:List UInt8} {Z:Nat -> Option Zd} {Ls:Nat -> Nat -> List Nat} {r:RS} {laid told:List Nat} {t:Nat} (h:WI N w W s bs Z Ls r laid told t)
include h
theorem WI.below {w':World} (b:Below w.heap.size w w'):WI N w' W s bs Z Ls r laid told t:=⟨h.wat.below b,h.rel,h.agr,h.bs,h.ch,h.la,h.tl,h.tlt,h.lg,h.ln,h.lt⟩
end
def hdN (told:List Nat) (o:Op6):Nat:=if o.raw = true \/ told = [] then o.h else told[(o.a % (told.length:Int)).toNat]?.getD 0
theorem told_at {told:List Nat} (hne:told ≠ []) (a:Int):(a % (told.length:Int)).toNat < told.length /\ told[(a % (told.length:Int)).toNat]? = some (told[(a % (told.length:Int)).toNat]?.getD 0):=by
 have hp : 0 < told.length:=List.length_pos_iff.2 hne
 have h0:=Int.emod_nonneg a (show (told.length:Int) ≠ 0 by omega)
 have h1:=Int.emod_lt_of_pos a (show 0 < (told.length:Int) by omega)
 have hl:(a % (told.length:Int)).toNat < told.length:=by omega
 refine ⟨hl,?_⟩
 rw [List.getElem?_eq_getElem hl]
 rfl
section
variable {N:Nat} {w:World} {W:W6} {s:St} {bs:List UInt8} {Z:Nat -> Option Zd} {Ls:Nat -> Nat -> List Nat} {r:RS} {laid told:List Nat} {t:Nat} (h:WI N w W s bs Z Ls r laid told t) (ht:t <= 60000) (o:Op6) (ok:o.Ok)
include h ht ok
theorem handleC:Calls Tryz.prog 31 #[.pointer (some ⟨W.b,0,none⟩),.agg o.cells] w fun e w' => e = .returned (.int .u64 (hdN told o:Int)) /\ Below w.heap.size w w':=by
 obtain ⟨w1,hw1⟩:∃ w1,w1 = w.alloc (.cells o.cells 28):=⟨_,rfl⟩
 have B1:Blk w1 w.heap.size 28 o.cells:=by rw [hw1]; exact Blk.new w _ _
 have b1:Below w.heap.size w w1:=by rw [hw1]; exact (Below.refl _ _).alloc (Nat.le_refl _) _
 obtain ⟨x0,x1,x2,x3,x4,x5⟩:=op6_cells B1
 have h1:=h.below b1
 obtain ⟨-, -, -, -,y4⟩:=h1.wat.cW
 obtain ⟨A,cp,hv⟩:=own_is h1.wat.told
 have own:=h1.wat.told
 rw [hv] at y4 own
 have htl:=h.tl
 unfold hdN
 unfold Op6.cells at hw1 ⊢
 replace b1:=Lib.hid b1
 replace hw1:=Lib.hid hw1
 by_cases hr:o.raw = true
 ·rw [if_pos (.inl hr)]
  rw [hr] at x5 hw1 ⊢
  clear h h1 B1 own hr hv
  generalize hN:w.heap.size = N0 at *
  replace hN:=Lib.hid hN
  go_enter Tryz.func31,Tryz.ntmps31
  go_upto_region 1 with fail
  rw [hN.out, <- hw1.out]
  go_wp2
  go_ret
  exact ⟨rfl,b1.out⟩
 ·have hr:o.raw = false:=by simpa using hr
  rw [hr] at x5 hw1 ⊢
  by_cases hn:told = []
  ·rw [if_pos (.inr hn)]
   have y4':w1.cell? ⟨W.b,4,none⟩ = some (.slice A 0 cp):=by rw [y4,hn]; rfl
   clear h h1 B1 own hr hv hn y4
   generalize hN:w.heap.size = N0 at *
   replace hN:=Lib.hid hN
   go_enter Tryz.func31,Tryz.ntmps31
   go_upto_region 1 with fail
   rw [hN.out, <- hw1.out]
   go_wp2
   go_ret
   exact ⟨rfl,b1.out⟩
  ·rw [if_neg (by simp [hn])]
   obtain ⟨hlt,hx⟩:=told_at hn o.a
   have WC:=withinI o.a told.length ok.a (by omega) (by omega)
   generalize told[(o.a % (told.length:Int)).toNat]?.getD 0 = H at *
   generalize (o.a % (told.length:Int)).toNat = i at *
   obtain ⟨g,c',hv2,u⟩:=own_uv own hx
   injection hv2 with e1 e2 e3
   subst e1 e3
   generalize told.length = n at *
   have i0:(0:Int) <= (i:Int):=by omega
   have i1:(i:Int) < (n:Int):=by omega
   have z0:((n:Int) == 0) = false:=by rw [beq_eq_false_iff_ne]; omega
   have z1:decide ((n:Int) = 0) = false:=decide_eq_false (by omega)
   have z2:¬ (n = 0):=by omega
   replace WC:=Lib.hid WC
   clear h h1 B1 own hr hv hn hx e2
   generalize hN:w.heap.size = N0 at *
   replace hN:=Lib.hid hN
   go_enter Tryz.func31,Tryz.ntmps31
   go_upto_region 1 with fail
   rw [hN.out, <- hw1.out]
   go_upto_region 3 with fail
   go_quiet (first | (go_at_call 16; with_reducible exact quiet_left (WC.out _)) | fail)
   go_wp2
   go_ret
   exact ⟨rfl,b1.out.trans (by first | exact below_drewN (Below.refl _ _) _ | exact Below.refl _ _)⟩
end
section
variable {N:Nat} {w:World} {W:W6} {s:St} {bs:List UInt8} {Z:Nat -> Option Zd} {Ls:Nat -> Nat -> List Nat} {r:RS} {laid told:List Nat} {t:Nat} (h:WI N w W s bs Z Ls r laid told t) (ht:t <= 60000)
include h ht
end
end Go.Proofs.YtfjiphibalhcgaaGreat.Que
