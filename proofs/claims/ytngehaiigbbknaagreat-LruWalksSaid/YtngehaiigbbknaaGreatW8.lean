/-
  Contracts and lemmas, joined: Ref2Page, Ref2Take, Ref2Give, QueueSwap, LruMarks, LruWorld, LruBits, LruQueue, LruProg, LruDue.
-/
import Derived.Deep.RegionHeld3
import Derived.Deep.AppendLies
import Derived.StillTailTactics
import Derived.Test.YtngehaiigbbknaaGreatW6
import Derived.Test.YtngehaiigbbknaaGreatW7
set_option linter.unusedSimpArgs false
set_option linter.unusedVariables false
set_option linter.unusedSectionVars false
set_option maxRecDepth 100000
/-
  The walk of the document's page.
-/
namespace Go.Proofs.YtngehaiigbbknaaGreat.Cls
open Go.RowKit Base
theorem rcuts_succ (d:Cf) (l:List RC) (k i x:Nat):rcuts d l k i (x + 1) = rcuts d l k i x ++ [⟨i * d.ps + x * d.sz k,k,rgen l (i * d.ps + x * d.sz k),false,false⟩]:=by
 unfold rcuts
 rw [List.range_succ,List.map_append]
 rfl
theorem rcuts_gen {d:Cf} (ok:d.Ok) {k:Nat} (hk:k < d.nc) (l:List RC) (i x:Nat):rgen (l ++ rcuts d l k i x) (i * d.ps + x * d.sz k) = rgen l (i * d.ps + x * d.sz k):=by
 refine rgen_apps _ _ _ fun z hz hp => ?_
 obtain ⟨y,hy,rfl⟩:=List.getElem_of_mem hz
 have hy2:y < x:=by rw [rcuts_len] at hy; exact hy
 have h2:(rcuts d l k i x)[y]? = some (rcuts d l k i x)[y]:=List.getElem?_eq_getElem hy
 rw [rcuts_at,if_pos hy2] at h2
 injection h2 with h2
 rw [<- h2] at hp
 have hp:i * d.ps + y * d.sz k = i * d.ps + x * d.sz k:=hp
 have hz:=(ok.sz k hk).1
 have:y * d.sz k = x * d.sz k:=by omega
 have:=Nat.eq_of_mul_eq_mul_right (by omega) this
 omega
theorem ownV_ge (o:Option Nat):∃ z:Int,ownV o = .int .i64 z /\ (decide (0 <= z) = o.isSome):=by
 cases o with
 | none => exact ⟨-1,rfl,rfl⟩
 | some k => exact ⟨(k:Int),rfl,by simp⟩
set_option maxHeartbeats 3200000 in
theorem rpageNo (w:World) (M:RL) (c:Conf) (r:RS) (h:RSetAt w M c r) (k:Int) (hall:∀ i,i < c.cf.np -> (r.own i).isSome = true) :
  Calls Tryz.prog 120 #[.pointer (some ⟨M.b,0,none⟩),.int .i64 k] w fun e w' => e = .returned (.bool false) /\ w = w':=by
 have c6:=h.cOwn
 have hnp:=h.okc.npb
 replace h:=Lib.hid h
 replace hall:=Lib.hid hall
 go_enter Tryz.func120,Tryz.ntmps120
 go_wp2
 go_loopw [5] (fun v wr => ∃ p:Nat,v = .int .i64 (p:Int) /\ p <= c.cf.np /\ w = wr) (fun v _ => c.cf.np - (intOf v).toNat)
 case atStart => exact ⟨0,rfl,Nat.zero_le _,rfl⟩
 case round =>
  obtain ⟨p,rfl,hp,rfl⟩:=hrel
  by_cases hlt:p < c.cf.np
  ·have d1:decide ((p:Int) < (c.cf.np:Int)) = true:=decide_eq_true (by omega)
   have k0:(0:Int) <= (p:Int):=by omega
   have k1:(p:Int) < (c.cf.np:Int):=by omega
   have qi:IntKind.i64.wrap ((p:Int) + 1) = ((p + 1:Nat):Int):=by rw [IntWalk.i64_in _ (by omega)]; rfl
   have y:=h.out.ow hlt
   obtain ⟨z,hz,dz⟩:=ownV_ge (r.own p)
   rw [hz] at y
   rw [hall.out p hlt] at dz
   replace hz:=Lib.hid hz
   go_wp2
   go_roundw
   case rel => exact ⟨p + 1,rfl,by omega,trivial⟩
   case measure => simp [intOf] <;> omega
  ·obtain rfl:p = c.cf.np:=by omega
   have d1:decide ((c.cf.np:Int) < (c.cf.np:Int)) = false:=by simp
   clear hlt
   go_wp2
   go_ret
   exact ⟨rfl,rfl⟩
theorem down_at (len n y:Nat) (hy:y < n):(((List.range n).map (len + ·)).reverse)[n - (y + 1)]? = some (len + y):=by
 rw [List.getElem?_reverse (by simp; omega),List.getElem?_map,List.length_map,List.length_range,show n - 1 - (n - (y + 1)) = y by omega,List.getElem?_range hy]
 rfl
theorem down_take (len n y:Nat) (hy:y < n):(((List.range n).map (len + ·)).reverse).take (n - y) = (((List.range n).map (len + ·)).reverse).take (n - (y + 1)) ++ [len + y]:=by
 have e:n - y = (n - (y + 1)) + 1:=by omega
 rw [e,List.take_add_one,down_at len n y hy]
 rfl
set_option maxHeartbeats 6400000 in
theorem rpageYes (w:World) (M:RL) (c:Conf) (r:RS) (h:RSetAt w M c r) (hlen:r.ch.length + 16384 <= 1073741824) (k:Nat) (hk:k < c.nc) (hrl:(r.rows k).length + 16384 <= 1073741824) (i:Nat) (hi:i < c.cf.np) (hno:r.own i = none) (hlow:∀ j,j < i -> (r.own j).isSome = true) :
  Calls Tryz.prog 120 #[.pointer (some ⟨M.b,0,none⟩),.int .i64 (k:Int)] w fun e w' => e = .returned (.bool true) /\ ∃ M',RSetAt w' M' c (rpage c.cf r k i) /\ RWent w w' M M' c:=by
 have c6:=h.cOwn
 have hnp:=h.okc.npb
 have ok:=h.okc
 have hkc:k < c.cf.nc:=hk
 obtain ⟨sz1,sz2,sz3⟩:=ok.sz k hkc
 obtain ⟨n1,n2⟩:=n_pos ok hkc
 have psb:=ok.psb
 replace ok:=Lib.hid ok
 replace h:=Lib.hid h
 replace hlow:=Lib.hid hlow
 replace hno:=Lib.hid hno
 go_enter Tryz.func120,Tryz.ntmps120
 go_wp2
 go_loopw [5] (fun v wr => ∃ p:Nat,v = .int .i64 (p:Int) /\ p <= i /\ w = wr) (fun v _ => i + 1 - (intOf v).toNat)
 case atStart => exact ⟨0,rfl,Nat.zero_le _,rfl⟩
 case round =>
  obtain ⟨p,rfl,hp,rfl⟩:=hrel
  have d1:decide ((p:Int) < (c.cf.np:Int)) = true:=decide_eq_true (by omega)
  have k0:(0:Int) <= (p:Int):=by omega
  have k1:(p:Int) < (c.cf.np:Int):=by omega
  by_cases hlt:p < i
  ·have qi:IntKind.i64.wrap ((p:Int) + 1) = ((p + 1:Nat):Int):=by rw [IntWalk.i64_in _ (by omega)]; rfl
   have y:=h.out.ow (i:=p) (by omega)
   obtain ⟨z,hz,dz⟩:=ownV_ge (r.own p)
   rw [hz] at y
   rw [hlow.out p hlt] at dz
   replace hz:=Lib.hid hz
   go_wp2
   go_roundw
   case rel => exact ⟨p + 1,rfl,by omega,trivial⟩
   case measure => simp [intOf] <;> omega
  ·obtain rfl:p = i:=by omega
   have y:=h.out.ow hi
   rw [hno.out] at y
   have fz:∀ j,w.frozen? ⟨M.go,j,none⟩ = false:=fun j => by obtain ⟨cur,h1⟩:=h.out.ownB.blk; exact h1.frozen j
   have fz1:=fz p
   clear fz
   have H1:=Lib.hid (h.out.setOwn p (some k) hi)
   have W1:=Lib.hid (RWent.same (M:=M) (c:=c) (only_at (S:=RFoot M c) w M.go p (ownV (some k)) ⟨.own,rfl⟩))
   obtain ⟨w1,hw1⟩:∃ w1,w1 = w.setCell ⟨M.go,p,none⟩ (ownV (some k)):=⟨_,rfl⟩
   rw [<- hw1] at H1 W1
   unfold ownV at hw1 y
   simp only at hw1 y
   replace hw1:=Lib.hid hw1
   clear hlt
   go_upto_region 6 with fail
   rw [<- hw1.out]
   clear hw1 fz1 y c6
   have hcp:=H1.out.cPs
   have hcs:=H1.out.cSizes
   have hsz:=H1.out.sz hk
   have j0:(0:Int) <= (k:Int):=by omega
   have j1:(k:Int) < (c.nc:Int):=by omega
   have z0:¬ ((c.sz k:Nat):Int) = 0:=by have:c.cf.sz k = c.sz k:=rfl; omega
   have q1:((c.cf.ps:Nat):Int).tdiv ((c.sz k:Nat):Int) = ((c.cf.n k:Nat):Int):=tdivN _ _
   have q2:IntKind.i64.wrap ((c.cf.n k:Nat):Int) = ((c.cf.n k:Nat):Int):=IntWalk.i64_in _ (by omega)
   go_quiet (fail)
   rename Nat => nq
   obtain ⟨w2,hw2⟩:∃ w2,w1.drewN nq = w2:=⟨_,rfl⟩
   have H2:Hid (RSetAt w2 M c { r with own:=upd r.own p (some k) }):=by rw [<- hw2]; exact Lib.hid (H1.out.drewN nq)
   have W2:Hid (RWent w w2 M M c):=by rw [<- hw2]; exact Lib.hid (W1.out.drewN nq)
   have c8:=H2.out.cCh
   obtain ⟨A,cp,hv, -⟩:=H2.out.chs
   rw [hv] at c8
   replace hv:=Lib.hid hv
   rw [hw2]
   clear hw2 H1 W1 hcp hcs hsz q1 z0
   dsimp only at c8
   go_wp2
   clear c8
   generalize hn:c.cf.n k = n at *
   obtain ⟨len,hL⟩:∃ len,len = r.ch.length:=⟨_,rfl⟩
   rw [<- hL]
   replace hn:=Lib.hid hn
   go_loopw [8] (fun v wr => ∃ (x:Nat) (M1:RL),v = .int .i64 (x:Int) /\ x <= n /\ Hid (RSetAt wr M1 c { r with own:=upd r.own p (some k),ch:=r.ch ++ rcuts c.cf r.ch k p x }) /\ Hid (RWent w wr M M1 c)) (fun v _ => n - (intOf v).toNat)
   case atStart =>
    refine ⟨0,M,rfl,Nat.zero_le _,?_,W2⟩
    have e:r.ch ++ rcuts c.cf r.ch k p 0 = r.ch:=by simp [rcuts]
    rw [e]
    exact H2
   case round =>
    clear H2 W2 hv
    obtain ⟨x,M1,rfl,hx,R,Wr⟩:=hrel
    by_cases hxn:x < n
    ·have d2:decide ((x:Int) < (n:Int)) = true:=decide_eq_true (by omega)
     have hxk:x < c.cf.n k:=by rw [hn.out]; exact hxn
     obtain ⟨pp1,pp2⟩:=place_page ok.out (i:=p) hkc hxk
     have pnp:(p + 1) * c.cf.ps <= 1024 * 1048576:=Nat.mul_le_mul (by omega) psb
     have hrg:=rcuts_gen ok.out hkc r.ch p x
     have hsuc:=rcuts_succ c.cf r.ch k p x
     have hszE:c.cf.sz k = c.sz k:=rfl
     rw [hszE] at pp1 pp2 hrg hsuc
     obtain ⟨P1,hP1⟩:∃ P1,P1 = p * c.cf.ps:=⟨_,rfl⟩
     obtain ⟨X1,hX1⟩:∃ X1,X1 = x * c.sz k:=⟨_,rfl⟩
     obtain ⟨AT,hAT⟩:∃ AT,AT = P1 + X1:=⟨_,rfl⟩
     rw [<- hP1, <- hX1, <- hAT] at pp1 pp2 hrg hsuc
     have qa:IntKind.i64.wrap ((p:Int) * ((c.cf.ps:Nat):Int)) = (P1:Int):=by rw [<- Int.natCast_mul, <- hP1]; exact IntWalk.i64_in _ (by omega)
     have qb:IntKind.i64.wrap ((x:Int) * ((c.sz k:Nat):Int)) = (X1:Int):=by rw [<- Int.natCast_mul, <- hX1]; exact IntWalk.i64_in _ (by omega)
     have qc:IntKind.i64.wrap ((P1:Int) + (X1:Int)) = (AT:Int):=by rw [hAT]; exact IntWalk.i64_in _ (by omega)
     have qx:IntKind.i64.wrap ((x:Int) + 1) = ((x + 1:Nat):Int):=by rw [IntWalk.i64_in _ (by omega)]; rfl
     have hcp:=R.out.cPs
     have hcs:=R.out.cSizes
     have hsz:=R.out.sz hk
     have eb:=Wr.out.b
     rw [eb] at hcp hcs
     replace eb:=Lib.hid eb
     replace hsuc:=Lib.hid hsuc
     replace hrg:=Lib.hid hrg
     clear hP1 hX1 hAT pp1 pp2 pnp hszE
     go_upto_region 11 with fail
     go_quiet (fail)
     rename Nat => nq2
     obtain ⟨wa,hwa⟩:∃ wa,wr.drewN nq2 = wa:=⟨_,rfl⟩
     have R2:=R.out.drewN nq2
     have Wa:=Wr.out.drewN nq2
     rw [hwa] at R2 Wa
     go_upto_region 12 with fail
     rw [hwa]
     clear hwa R Wr hcp hcs hsz qa qb qc
     have hchl:(r.ch ++ rcuts c.cf r.ch k p x).length = len + x:=by rw [List.length_append,rcuts_len,hL]
     have GC:=rgenC wa.drew M1 c _ R2.drew (by show (r.ch ++ rcuts c.cf r.ch k p x).length <= _; omega) AT
     dsimp only at GC
     rw [hrg.out,eb.out] at GC
     have c8:=R2.cCh
     have own:=R2.chB
     obtain ⟨A1,cp1,hv1, -⟩:=R2.chs
     dsimp only at own hv1
     rw [hchl] at own hv1
     rw [hv1] at c8 own
     have g0:=R2.cPs
     rw [eb.out] at c8 g0
     have hblt:M.b < wa.heap.size:=by rw [<- eb.out]; exact R2.headB.lt
     have hown:some M.b ≠ (Value.slice A1 (len + x) cp1).ownBlock:=by
      rw [<- hv1, <- eb.out]
      intro e
      have:=R2.inj .head .ch M1.b rfl e.symm
      cases this
     have z8:=R2.headB.frozen 8
     rw [eb.out] at z8
     obtain ⟨G,hG⟩:∃ G,G = rgen r.ch AT:=⟨_,rfl⟩
     rw [<- hG] at GC hsuc
     obtain ⟨ie,hie,hz0,hz1,hz2⟩:=eiCh.info
     obtain ⟨nw,hnw⟩:∃ nw:RC,nw = ⟨AT,k,G,false,false⟩:=⟨_,rfl⟩
     have one:∀ u ∈ nw.cells,u.oneCell' = true:=by
      rw [hnw]
      intro u hu
      simp only [RC.cells,List.mem_cons,List.not_mem_nil,or_false] at hu
      rcases hu with rfl | rfl | rfl | rfl | rfl <;> rfl
     have bx0:∀ W:World,W.heap.size = wa.heap.size -> Reads (W.alloc (.cells #[.int .i64 (AT:Int),.int .i64 (k:Int),.int .u64 (G:Int),.bool false,.bool false] 197)) (wa.heap.size + 1) 5 (some ⟨wa.heap.size,0,none⟩) 1 nw.cells:=by
      intro W hW
      have:=reads_cells W nw.cells 197 rfl
      rw [hW] at this
      rw [hnw] at this ⊢
      exact this
     have hlb:len + 16384 <= 1073741824:=by rw [hL]; exact hlen
     have hx16:x < 16384:=by omega
     replace GC:=Lib.hid GC
     replace one:=Lib.hid one
     replace bx0:=Lib.hid bx0
     replace R2:=Lib.hid R2
     replace Wa:=Lib.hid Wa
     replace hv1:=Lib.hid hv1
     replace hL:=Lib.hid hL
     replace hchl:=Lib.hid hchl
     replace hG:=Lib.hid hG
     replace hnw:=Lib.hid hnw
     have c8':=(cel_alloc wa (.cells #[.int .i64 (AT:Int),.int .i64 (k:Int),.int .u64 (G:Int),.bool false,.bool false] 197) M.b 8 hblt).trans c8
     go_region_law ((first | (go_simp; go_at_call 153; refine GC.out.mono ?_; rintro e w' ⟨rfl,rfl⟩) | (refine step_append_new _ (by rfl) _ _ _ (by rfl) 0 197 ie _ 5 32 Tryz.underlying134 hie hz0 hz1 hz2 rfl (by decide) (.slice A1 (len + x) cp1) (len + x) _ (by rfl) (own.alloc _) (wa.heap.size + 1) (some ⟨wa.heap.size,0,none⟩) 1 1 nw.cells (by rfl) (bx0.out _ (by simp)) one.out (by unfold maxLen; omega) (by omega) (Nat.zero_le _) (by omega) ?_; intro b3 c3 w3 own3 hgrow hat3 hlt3; have r1:w3.frozen? ⟨M.b,8,none⟩ = false:=(hgrow.frozen_far _ (by simp; omega) hown).trans ((frz_alloc wa _ M.b 8 hblt).trans z8); have r2:w3.cell? ⟨M.b,8,none⟩ = some (.slice A1 (len + x) cp1):=(hgrow.cell_far _ (by simp; omega) hown).trans ((cel_alloc wa _ M.b 8 hblt).trans c8); have d0:w3.cell? ⟨M.b,0,none⟩ = some (.int .i64 ((c.cf.ps:Nat):Int)):=(hgrow.cell_far _ (by simp; omega) hown).trans ((cel_alloc wa _ M.b 0 hblt).trans g0))))
     all_goals
      have oW:Only (fun b => M1.vC.ownBlock = some b) wa w3:=((Only.refl _ wa).alloc _).drew.grown hgrow (fun j e _ => by rw [hv1.out]; exact e)
      have own4:w3.ownsRow 0 197 5 (.slice (some ⟨b3,0,none⟩) (len + x + 1) c3) (r.ch ++ rcuts c.cf r.ch k p (x + 1)).length (chV (r.ch ++ rcuts c.cf r.ch k p (x + 1))):=by
       have e1:(r.ch ++ rcuts c.cf r.ch k p (x + 1)) = (r.ch ++ rcuts c.cf r.ch k p x) ++ [nw]:=by rw [hsuc.out,hnw.out,List.append_assoc]
       rw [e1,chV_app,List.length_append,hchl.out]
       exact own3
      have hb4:∀ b,(Value.slice (some ⟨b3,0,none⟩) (len + x + 1) c3).ownBlock = some b -> M1.vC.ownBlock = some b \/ wa.heap.size <= b:=fun b e => by
       have e2:b3 = b:=by simpa [Value.ownBlock] using e
       subst e2
       rcases hat3 with h3 | h3
       ·rw [hv1.out]; exact .inl h3
       ·exact .inr (by rw [h3]; simp)
      have G4:=R2.out.newCh (.slice (some ⟨b3,0,none⟩) (len + x + 1) c3) _ oW (fun b e _ => e) own4 hb4
      have W4:=Wa.out.trans (R2.out.wentCh (.slice (some ⟨b3,0,none⟩) (len + x + 1) c3) oW (fun b e _ => e) hb4)
      rw [eb.out] at G4 W4
      obtain ⟨w4,hw4⟩:∃ w4,w4 = w3.setCell ⟨M.b,8,none⟩ (.slice (some ⟨b3,0,none⟩) (len + x + 1) c3):=⟨_,rfl⟩
      rw [<- hw4] at G4 W4 ⊢
      replace G4:=Lib.hid G4
      replace W4:=Lib.hid W4
      clear hw4 r1 r2 d0 own3 hgrow hat3 hlt3 oW own4 hb4 c8 c8' g0 z8 own R2 Wa GC bx0 one
      go_wp2
      go_roundw
      case rel => exact ⟨x + 1,_,rfl,by omega,G4,W4⟩
      case measure => simp [intOf] <;> omega
    ·obtain rfl:x = n:=by omega
     have d2:decide ((x:Int) < (x:Int)) = false:=by simp
     have q3:IntKind.i64.wrap ((x:Int) - 1) = (x:Int) - 1:=IntWalk.i64_in _ (by omega)
     clear hxn
     go_wp2_with fail
     go_loopw [10] (fun v ws => ∃ (y:Nat) (M2:RL),v = .int .i64 ((y:Int) - 1) /\ y <= x /\ Hid (RSetAt ws M2 c { r with own:=upd r.own p (some k),ch:=r.ch ++ rcuts c.cf r.ch k p x,rows:=upd r.rows k (r.rows k ++ (((List.range x).map (len + ·)).reverse).take (x - y)) }) /\ Hid (RWent w ws M M2 c)) (fun v _ => (intOf v + 1).toNat)
     case atStart =>
      refine ⟨x,M1,rfl,Nat.le_refl _,?_,Wr⟩
      have e:upd r.rows k (r.rows k ++ (((List.range x).map (len + ·)).reverse).take (x - x)) = r.rows:=by rw [Nat.sub_self,List.take_zero,List.append_nil,upd_self]
      rw [e]
      exact R
     case round =>
      clear R Wr
      obtain ⟨y,M2,rfl,hy,R,Wr⟩:=hrel
      rename World => ws
      cases y with
      | zero =>
       have d3:decide ((0:Int) <= ((0:Nat):Int) - 1) = false:=by decide
       have RF:Hid (RSetAt ws M2 c (rpage c.cf r k p)):=by
        have e:rpage c.cf r k p = { r with own:=upd r.own p (some k),ch:=r.ch ++ rcuts c.cf r.ch k p x,rows:=upd r.rows k (r.rows k ++ (((List.range x).map (len + ·)).reverse).take (x - 0)) }:=by
         unfold rpage
         rw [hn.out,Nat.sub_zero,List.take_of_length_le (by simp),hL]
        rw [e]; exact R
       go_wp2
       go_ret
       exact ⟨rfl,M2,RF.out,Wr.out⟩
      | succ y =>
       have e1:((y + 1:Nat):Int) - 1 = (y:Int):=by omega
       rw [e1]
       have d3:decide ((0:Int) <= (y:Int)) = true:=decide_eq_true (by omega)
       have qy:IntKind.i64.wrap ((y:Int) - 1) = (y:Int) - 1:=IntWalk.i64_in _ (by omega)
       have hlb:len + 16384 <= 1073741824:=by rw [hL]; exact hlen
       have hyx:y < x:=by omega
       have hx16:x <= 16384:=by omega
       have qd:IntKind.i64.wrap ((len:Int) + (y:Int)) = ((len + y:Nat):Int):=by rw [IntWalk.i64_in _ (by omega)]; omega
       have hdt:=Lib.hid (down_take len x y hyx)
       have eb:=Wr.out.b
       have c9:=R.out.cRows
       rw [eb] at c9
       have rk:=R.out.rw_ hk
       have own:=R.out.rowB hk
       dsimp only at own
       rw [upd_at] at own
       obtain ⟨Z,hZ⟩:∃ Z,Z = r.rows k ++ (((List.range x).map (len + ·)).reverse).take (x - (y + 1)):=⟨_,rfl⟩
       rw [<- hZ] at own
       have hZl:Z.length <= (r.rows k).length + 16384:=by rw [hZ,List.length_append,List.length_take]; omega
       have hFs:∃ A2 cp2,M2.F k = .slice A2 Z.length cp2:=by
        obtain ⟨A2,cp2,h2⟩:=own_is own
        exact ⟨A2,cp2,h2⟩
       obtain ⟨A2,cp2,hF2⟩:=hFs
       rw [hF2] at rk own
       have hglt:M2.gr < ws.heap.size:=R.out.rowsB.lt
       have hblt:M.b < ws.heap.size:=by rw [<- eb]; exact R.out.headB.lt
       have zf:ws.frozen? ⟨M2.gr,k,none⟩ = false:=by obtain ⟨cur,h1⟩:=R.out.rowsB.blk; exact h1.frozen k
       have hownG:some M2.gr ≠ (Value.slice A2 Z.length cp2).ownBlock:=by
        rw [<- hF2]
        intro e
        have:=R.out.inj .rows (.row k) M2.gr rfl ((if_pos hk).trans e.symm)
        cases this
       have hownB:some M.b ≠ (Value.slice A2 Z.length cp2).ownBlock:=by
        rw [<- hF2, <- eb]
        intro e
        have:=R.out.inj .head (.row k) M2.b rfl ((if_pos hk).trans e.symm)
        cases this
       obtain ⟨ie,hie,hz0,hz1,hz2⟩:=eiI.info
       have one:=iv_one [len + y]
       have bx0:∀ W:World,W.heap.size = ws.heap.size -> Reads (W.alloc (.cells #[.int .i64 ((len + y:Nat):Int)] 3)) (ws.heap.size + 1) 1 (some ⟨ws.heap.size,0,none⟩) 1 ([len + y].map iv):=by
        intro W hW
        have:=reads_one W (len + y)
        rwa [hW] at this
       generalize len + y = LY at *
       replace one:=Lib.hid one
       replace bx0:=Lib.hid bx0
       replace hF2:=Lib.hid hF2
       replace hZ:=Lib.hid hZ
       replace eb:=Lib.hid eb
       replace hL:=Lib.hid hL
       have rk':=(cel_alloc ws (.cells #[.int .i64 (LY:Int)] 3) M2.gr k hglt).trans rk
       have c9':=(cel_alloc ws (.cells #[.int .i64 (LY:Int)] 3) M.b 9 hblt).trans c9
       go_upto_region 16 with fail
       go_region_law ((refine step_append_new _ (by rfl) _ _ _ (by rfl) 0 3 ie _ 1 8 Tryz.underlying77 hie hz0 hz1 hz2 rfl (by decide) (.slice A2 Z.length cp2) Z.length _ (by rfl) (own.alloc _) (ws.heap.size + 1) (some ⟨ws.heap.size,0,none⟩) 1 1 ([LY].map iv) (by rfl) (bx0.out _ (by simp)) one.out (by unfold maxLen; omega) (by omega) (Nat.zero_le _) (by omega) ?_; intro b3 c3 w3 own3 hgrow hat3 hlt3; have r1:w3.frozen? ⟨M2.gr,k,none⟩ = false:=(hgrow.frozen_far _ (by simp; omega) hownG).trans ((frz_alloc ws _ M2.gr k hglt).trans zf); have r2:w3.cell? ⟨M2.gr,k,none⟩ = some (.slice A2 Z.length cp2):=(hgrow.cell_far _ (by simp; omega) hownG).trans ((cel_alloc ws _ M2.gr k hglt).trans rk); have d9:w3.cell? ⟨M.b,9,none⟩ = some (.slice (some ⟨M2.gr,0,none⟩) c.nc M2.cR):=(hgrow.cell_far _ (by simp; omega) hownB).trans ((cel_alloc ws _ M.b 9 hblt).trans c9)))
       all_goals
        have oW:Only (fun b => (M2.F k).ownBlock = some b) ws w3:=((Only.refl _ ws).alloc _).drew.grown hgrow (fun j e _ => by rw [hF2.out]; exact e)
        have own4:w3.ownsRow 0 3 1 (.slice (some ⟨b3,0,none⟩) (Z.length + 1) c3) (Z ++ [LY]).length ((Z ++ [LY]).map iv):=by
         rw [List.length_append,List.map_append]
         exact own3
        have hb4:∀ b,(Value.slice (some ⟨b3,0,none⟩) (Z.length + 1) c3).ownBlock = some b -> (M2.F k).ownBlock = some b \/ ws.heap.size <= b:=fun b e => by
         have e2:b3 = b:=by simpa [Value.ownBlock] using e
         subst e2
         rcases hat3 with h3 | h3
         ·rw [hF2.out]; exact .inl h3
         ·exact .inr (by rw [h3]; simp)
        have G4:=R.out.newRow k hk (.slice (some ⟨b3,0,none⟩) (Z.length + 1) c3) _ oW (fun b e _ => e) own4 hb4
        have W4:=Wr.out.trans (R.out.wentRow k hk (.slice (some ⟨b3,0,none⟩) (Z.length + 1) c3) oW (fun b e _ => e) hb4)
        have e5:Z ++ [LY] = r.rows k ++ (((List.range x).map (len + ·)).reverse).take (x - y):=by rw [hdt.out,hZ.out,List.append_assoc]
        dsimp only at G4
        rw [upd_upd,e5] at G4
        obtain ⟨w4,hw4⟩:∃ w4,w4 = w3.setCell ⟨M2.gr,k,none⟩ (.slice (some ⟨b3,0,none⟩) (Z.length + 1) c3):=⟨_,rfl⟩
        rw [<- hw4] at G4 W4 ⊢
        replace G4:=Lib.hid G4
        replace W4:=Lib.hid W4
        clear hw4 r1 r2 d9 own3 hgrow hat3 hlt3 oW own4 hb4 c9 c9' rk rk' zf own R Wr bx0 one e5
        go_wp2
        go_roundw
        case rel => exact ⟨y,_,rfl,by omega,G4,W4⟩
        case measure => simp [intOf] <;> omega
def rlow (d:Cf) (r:RS):Option Nat:=lowFrom (fun i => (r.own i).isSome) d.np 0
def rroomS (d:Cf) (r:RS) (k:Nat):Option RS :=
 match r.rows k with
 | [] => match rlow d r with
  | some i => some (rpage d r k i)
  | none => none
 | _ :: _ => some r
theorem lowFrom_congr {f g:Nat -> Bool}:∀ {n i:Nat},(∀ j,i <= j -> j < i + n -> f j = g j) -> lowFrom f n i = lowFrom g n i
 | 0,_,_ => rfl
 | n + 1,i,h => by
  unfold lowFrom
  rw [h i (by omega) (by omega),lowFrom_congr (n:=n) (i:=i + 1) fun j h1 h2 => h j (by omega) (by omega)]
section
variable {d:Cf} (ok:d.Ok) {s:St} (g:Good d s) {r:RS} (h:Rel d s r)
include h
theorem Rel.low:rlow d r = Cls.low d s:=by
 unfold rlow Cls.low
 refine lowFrom_congr fun j _ hj => ?_
 rw [h.own j (by omega)]
 cases s.own j <;> rfl
include ok g
theorem Rel.room {k:Nat} (hk:k < d.nc):(roomS d s k = none -> rroomS d r k = none) /\ ∀ s1,roomS d s k = some s1 -> ∃ r1,rroomS d r k = some r1 /\ Rel d s1 r1:=by
 have hl:=h.row_len hk
 have e:=h.low
 unfold roomS rroomS
 cases hf:s.free k with
 | nil =>
  have hr:r.rows k = []:=List.eq_nil_of_length_eq_zero (by rw [hl,hf]; rfl)
  rw [hr]
  simp only
  rw [e]
  cases hlow:Cls.low d s with
  | none => exact ⟨fun _ => rfl,fun s1 h1 => (by cases h1)⟩
  | some i =>
   refine ⟨fun h1 => (by cases h1),fun s1 h1 => ?_⟩
   injection h1 with h1
   subst h1
   obtain ⟨a1,a2, -⟩:=low_some hlow
   exact ⟨_,rfl,h.page ok g hk a1 a2⟩
 | cons a t =>
  obtain ⟨b,u,hr⟩:∃ b u,r.rows k = b :: u:=by
   cases hr:r.rows k with
   | nil => rw [hr,hf] at hl; simp at hl
   | cons b u => exact ⟨b,u,rfl⟩
  rw [hr]
  refine ⟨fun h1 => (by cases h1),fun s1 h1 => ?_⟩
  injection h1 with h1
  subst h1
  exact ⟨r,rfl,h⟩
end
theorem rlow_some {d:Cf} {r:RS} {i:Nat} (h:rlow d r = some i):i < d.np /\ r.own i = none /\ ∀ j,j < i -> (r.own j).isSome = true:=by
 obtain ⟨-,a,b,e⟩:=lowFrom_some h
 refine ⟨by omega,?_,fun j hj => e j (by omega) hj⟩
 cases hb:r.own i with
 | none => rfl
 | some x => rw [hb] at b; cases b
theorem rtakeNo (w:World) (M:RL) (c:Conf) (r:RS) (h:RSetAt w M c r) (k:Nat) (hk:k < c.nc) (hr:rroomS c.cf r k = none) :
  Calls Tryz.prog 82 #[.pointer (some ⟨M.b,0,none⟩),.int .i64 (k:Int)] w fun e w' => e = .returned (.tuple #[.int .u64 0,.int .i64 21]) /\ w = w':=by
 have IC:=risC h (k:Int)
 rw [decide_eq_true (show (0:Int) <= (k:Int) /\ (k:Int) < (c.nc:Int) by omega)] at IC
 have hrows:r.rows k = [] /\ ∀ i,i < c.cf.np -> (r.own i).isSome = true:=by
  unfold rroomS at hr
  split at hr
  ·rename_i he
   split at hr
   ·cases hr
   ·rename_i hl
    exact ⟨he,fun i hi => lowFrom_none hl i (Nat.zero_le _) (by omega)⟩
  ·cases hr
 have PC:=rpageNo w M c r h (k:Int) hrows.2
 have c9:=h.cRows
 have rk:=h.rw_ hk
 have own:=h.rowB hk
 rw [hrows.1] at own
 obtain ⟨A,cp,hF⟩:=own_is own
 rw [hF] at rk
 have k0:(0:Int) <= (k:Int):=by omega
 have k1:(k:Int) < (c.nc:Int):=by omega
 replace IC:=Lib.hid IC
 replace PC:=Lib.hid PC
 clear h hk hr hrows own hF
 go_enter Tryz.func82,Tryz.ntmps82
 go_wp2_with fail
 refine IC.out.mono ?_
 rintro e w' ⟨rfl,rfl⟩
 go_wp2_with fail
 refine PC.out.mono ?_
 rintro e w' ⟨rfl,rfl⟩
 go_wp2
 go_ret2
 exact ⟨rfl,rfl⟩
set_option maxHeartbeats 3200000 in
theorem rtakeYes (w:World) (M:RL) (c:Conf) (r:RS) (h:RSetAt w M c r) (hlen:r.ch.length + 16384 <= 1073741824) (k:Nat) (hk:k < c.nc) (hrl:(r.rows k).length + 16384 <= 1073741824) (r1:RS) (hr:rroomS c.cf r k = some r1)
  (l:List Nat) (j:Nat) (x:RC) (hj:r1.rows k = l ++ [j]) (hx:r1.ch[j]? = some x) (hp:x.place <= 1073741824) (hg:x.gen < 4294967296) :
  Calls Tryz.prog 82 #[.pointer (some ⟨M.b,0,none⟩),.int .i64 (k:Int)] w fun e w' => e = .returned (.tuple #[.int .u64 (x.name:Int),.int .i64 0]) /\ ∃ M',RSetAt w' M' c (rtake r1 k j) /\ RWent w w' M M' c:=by
 have IC:=risC h (k:Int)
 rw [decide_eq_true (show (0:Int) <= (k:Int) /\ (k:Int) < (c.nc:Int) by omega)] at IC
 replace IC:=Lib.hid IC
 have HW:(∃ a t,r.rows k = a :: t) /\ r1 = r \/ r.rows k = [] /\ (Calls Tryz.prog 120 #[.pointer (some ⟨M.b,0,none⟩),.int .i64 (k:Int)] w fun e w' => e = .returned (.bool true) /\ ∃ M',RSetAt w' M' c r1 /\ RWent w w' M M' c):=by
  unfold rroomS at hr
  split at hr
  ·rename_i he
   split at hr
   ·rename_i i hlow
    injection hr with hr
    subst hr
    obtain ⟨a1,a2,a3⟩:=rlow_some hlow
    exact .inr ⟨he,rpageYes w M c r h hlen k hk hrl i a1 a2 a3⟩
   ·cases hr
  ·rename_i a t he
   injection hr with hr
   exact .inl ⟨⟨a,t,he⟩,hr.symm⟩
 have c9:=h.cRows
 have rk:=h.rw_ hk
 have own:=h.rowB hk
 have hS:=Lib.hid h
 have hnc:=h.okc.ncb
 have hncE:c.cf.nc = c.nc:=rfl
 rw [hncE] at hnc
 have hll:l.length + 1 <= 1073741824:=by
  have e:(l ++ [j]).length <= (r.rows k).length + 16384:=by
   rw [<- hj]
   unfold rroomS at hr
   split at hr
   ·split at hr
    ·injection hr with hr
     rw [<- hr]
     show (upd r.rows k _ k).length <= _
     rw [upd_at,List.length_append]
     have:=(n_pos h.okc (show k < c.cf.nc from hk)).2
     simp
     omega
    ·cases hr
   ·injection hr with hr
    rw [<- hr]; omega
  rw [List.length_append] at e
  simp only [List.length_singleton] at e
  omega
 clear hr h
 have k0:(0:Int) <= (k:Int):=by omega
 have k1:(k:Int) < (c.nc:Int):=by omega
 replace hj:=Lib.hid hj
 replace hx:=Lib.hid hx
 go_enter Tryz.func82,Tryz.ntmps82
 go_wp2_with fail
 refine IC.out.mono ?_
 rintro e w' ⟨rfl,rfl⟩
 go_upto_region 3 with fail
 go_cut [26] from 12 to 26 (fun s26 wx => s26 = .bool false /\ ∃ M1,Hid (RSetAt wx M1 c r1) /\ Hid (RWent w wx M M1 c))
 case first =>
  rcases HW with ⟨⟨a,t,he⟩,rfl⟩ | ⟨he,PC⟩
  ·rw [he] at own
   obtain ⟨A,cp,hF⟩:=own_is own
   rw [hF] at rk
   have hln:decide (((t.length + 1:Nat):Int) = 0) = false:=by simp; omega
   have hln2:(((a :: t).length:Nat)) = t.length + 1:=rfl
   rw [hln2] at rk
   clear own hF hln2 he
   go_wp2_with fail
   go_meet
   exact ⟨rfl,M,hS,Lib.hid (RWent.refl _ _ _)⟩
  ·rw [he] at own
   obtain ⟨A,cp,hF⟩:=own_is own
   rw [hF] at rk
   replace PC:=Lib.hid PC
   clear own hF he
   go_wp2_with fail
   refine PC.out.mono ?_
   rintro e w1 ⟨rfl,M1,H1,W1⟩
   replace H1:=Lib.hid H1
   replace W1:=Lib.hid W1
   go_wp2_with fail
   go_meet
   exact ⟨rfl,M1,H1,W1⟩
 case rest =>
  obtain ⟨rfl,M1,H1,W1⟩:=hcut
  have eb:=W1.out.b
  have c9:=H1.out.cRows
  have rk:=H1.out.rw_ hk
  have own1:=H1.out.rowB hk
  rw [hj.out,List.length_append,List.length_singleton] at own1
  obtain ⟨b,cap,hF,cl,hcap,hbl⟩:=own_iv (x:=j) (i:=l.length) own1 (by simp)
  rw [hF] at own1 rk
  have hcap':l.length + 1 <= cap:=by
   rcases own1.2 with ⟨h1,h2⟩ | ⟨g',cap',cur,h1, -, -,h3, -⟩
   ·omega
   ·simp only [Value.slice.injEq] at h1; omega
  have own2:=own_drop (x:=iv j) (by rw [List.map_append] at own1; exact own1)
  have q1:IntKind.i64.wrap (((l.length + 1:Nat):Int) - 1) = (l.length:Int):=by rw [IntWalk.i64_in _ (by omega)]; omega
  have l0:(0:Int) <= (l.length:Int):=by omega
  have l1:(l.length:Int) < ((l.length + 1:Nat):Int):=by omega
  have l2:(l.length:Int) <= (cap:Int):=by omega
  have l3:l.length <= cap:=by omega
  have zf:wc.frozen? ⟨M1.gr,k,none⟩ = false:=by obtain ⟨cur,h1⟩:=H1.out.rowsB.blk; exact h1.frozen k
  rw [eb] at c9
  replace eb:=Lib.hid eb
  replace own2:=Lib.hid own2
  replace hF:=Lib.hid hF
  clear own1 own hcap
  go_wp2_with fail
  have oW:Only (fun _ => False) wc wc:=Only.refl _ _
  have hb4:∀ d,(Value.slice (some ⟨b,0,none⟩) l.length cap).ownBlock = some d -> (M1.F k).ownBlock = some d \/ wc.heap.size <= d:=fun d e => .inl (by rw [hF.out]; exact e)
  have G3:=H1.out.newRow k hk (.slice (some ⟨b,0,none⟩) l.length cap) l oW (fun b e _ => e.elim) own2.out hb4
  have W3:=W1.out.trans (H1.out.wentRow k hk (.slice (some ⟨b,0,none⟩) l.length cap) oW (fun b e _ => e.elim) hb4)
  obtain ⟨w3,hw3⟩:∃ w3,w3 = (wc.setCell ⟨M1.gr,k,none⟩ (.slice (some ⟨b,0,none⟩) l.length cap)).drew:=⟨_,rfl⟩
  replace G3:=G3.drew
  replace W3:=W3.drewN 1
  have G4:RSetAt w3 { M1 with F:=upd M1.F k (.slice (some ⟨b,0,none⟩) l.length cap) } c { r1 with rows:=upd r1.rows k l }:=by rw [hw3]; exact G3
  have W4:RWent w w3 M { M1 with F:=upd M1.F k (.slice (some ⟨b,0,none⟩) l.length cap) } c:=by rw [hw3]; exact W3
  clear G3 W3
  replace hw3:=Lib.hid hw3
  obtain ⟨g,cp,hv,y0, -,y2,y3, -,fzc,hjl⟩:=G4.chAt (x:=x) hx.out
  have c8:=G4.cCh
  dsimp only at hv c8 hjl
  rw [hv,eb.out] at c8
  have j0:(0:Int) <= (j:Int):=by omega
  have j1:(j:Int) < (r1.ch.length:Int):=by omega
  have fz3:=fzc (j * 5 + 3)
  have G5:=G4.setCh (x:=x) hx.out RC.taken 3 (by omega) (.bool true) rfl hv
  have W5:=W4.trans (RWent.same (M:={ M1 with F:=upd M1.F k (.slice (some ⟨b,0,none⟩) l.length cap) }) (c:=c) (only_at (S:=RFoot _ c) w3 g (j * 5 + 3) (.bool true) ⟨.ch,by show M1.vC.ownBlock = _; rw [hv]; rfl⟩))
  obtain ⟨w5,hw5⟩:∃ w5,w5 = w3.setCell ⟨g,j * 5 + 3,none⟩ (.bool true):=⟨_,rfl⟩
  rw [<- hw5] at G5 W5
  have hx5:(r1.ch.modify j RC.taken)[j]? = some x.taken:=by rw [get_modify,if_pos rfl,hx.out]; rfl
  have HC:=rhandleC G5 (x:=x.taken) hx5 hp hg
  have hnm:x.taken.name = x.name:=rfl
  rw [hnm] at HC
  dsimp only at HC
  rw [eb.out] at HC
  have GF:RSetAt w5 { M1 with F:=upd M1.F k (.slice (some ⟨b,0,none⟩) l.length cap) } c (rtake r1 k j):=by
   have e:rtake r1 k j = { r1 with rows:=upd r1.rows k l,ch:=r1.ch.modify j RC.taken }:=by unfold rtake; rw [hj.out,List.dropLast_concat]
   rw [e]; exact G5
  replace GF:=Lib.hid GF
  replace W5:=Lib.hid W5
  replace HC:=Lib.hid HC
  replace hw5:=Lib.hid hw5
  replace hv:=Lib.hid hv
  clear fzc G5 hx5 hnm G4 W4 own2 oW hb4
  go_still_tail 15,(by kernel_rfl)
  change wpList _ _ _ _ _ wc.drew
  go_upto_region 8 with fail
  rw [<- hw3.out]
  clear hw3 c9 rk cl zf
  go_upto_region 9 with fail
  rw [<- hw5.out]
  clear hw5 c8 y0 y2 y3 fz3
  go_wp2_with fail
  refine HC.out.mono ?_
  rintro e w6 ⟨rfl,m,hm⟩
  have GE:RSetAt w6 { M1 with F:=upd M1.F k (.slice (some ⟨b,0,none⟩) l.length cap) } c (rtake r1 k j):=by rw [<- hm]; exact GF.out.drewN m
  have WE:RWent w w6 M { M1 with F:=upd M1.F k (.slice (some ⟨b,0,none⟩) l.length cap) } c:=by rw [<- hm]; exact W5.out.drewN m
  replace GE:=Lib.hid GE
  replace WE:=Lib.hid WE
  clear hm GF W5 HC
  go_wp2
  go_ret2
  exact ⟨rfl,_,GE.out,WE.out⟩
theorem rgiveNo (w:World) (M:RL) (c:Conf) (r:RS) (h:RSetAt w M c r) (fi:RFine r) (hlen:r.ch.length <= 1073741824) (H:Nat) (hf:rfind r.ch H = none) :
  Calls Tryz.prog 98 #[.pointer (some ⟨M.b,0,none⟩),.int .u64 (H:Int)] w fun e w' => e = .returned (.int .i64 20) /\ ∃ m,w.drewN m = w':=by
 have FC:=rfindC w M c r h fi hlen H
 rw [hf] at FC
 unfold findIV at FC
 simp only at FC
 replace FC:=Lib.hid FC
 clear h hf
 go_enter Tryz.func98,Tryz.ntmps98
 go_wp2_with fail
 refine FC.out.mono ?_
 rintro e w2 ⟨rfl,m,hm⟩
 replace hm:=Lib.hid hm
 clear FC
 go_wp2
 go_ret
 exact ⟨rfl,m,hm.out⟩
def RC.idle (x:RC):RC:={ x with tk:=false }
def RC.aged (x:RC):RC:={ x with gen:=(x.gen + 1) % 4294967296 }
theorem given_two (l:List RC) (j:Nat):(l.modify j RC.idle).modify j RC.aged = l.modify j RC.given:=by
 apply List.ext_getElem?
 intro n
 rw [get_modify,get_modify,get_modify]
 split
 ·cases l[n]? <;> rfl
 ·rfl
set_option maxHeartbeats 6400000 in
theorem rgiveYes (w:World) (M:RL) (c:Conf) (r:RS) (h:RSetAt w M c r) (fi:RFine r) (hlen:r.ch.length <= 1073741824) (H j:Nat) (hf:rfind r.ch H = some j) (x:RC) (hx:r.ch[j]? = some x) (hk:x.cls < c.nc) (hpl:x.place < c.cf.np * c.cf.ps) (hg:x.gen < 4294967296)
  (hrl:(r.rows x.cls).length + 1 <= 1073741824) :
  Calls Tryz.prog 98 #[.pointer (some ⟨M.b,0,none⟩),.int .u64 (H:Int)] w fun e w' => e = .returned (.int .i64 0) /\ ∃ M',RSetAt w' M' c (rgive c.cf r j x.cls x.place) /\ RWent w w' M M' c:=by
 have FC:=rfindC w M c r h fi hlen H
 rw [hf] at FC
 unfold findIV at FC
 simp only at FC
 have ok:=h.okc
 have hnc:=ok.ncb
 have hncE:c.cf.nc = c.nc:=rfl
 rw [hncE] at hnc
 have hnp:=ok.npb
 have hps:=ok.ps
 have hpn:x.place / c.cf.ps < c.cf.np:=Nat.div_lt_of_lt_mul (by rw [Nat.mul_comm]; exact hpl)
 have hjl:=(List.getElem?_eq_some_iff.1 hx).1
 replace FC:=Lib.hid FC
 replace h:=Lib.hid h
 replace hx:=Lib.hid hx
 clear hf
 go_enter Tryz.func98,Tryz.ntmps98
 go_wp2_with fail
 refine FC.out.mono ?_
 rintro e w2 ⟨rfl,m,hm⟩
 have H2:RSetAt w2 M c r:=by rw [<- hm]; exact h.out.drewN m
 have W2:RWent w w2 M M c:=by rw [<- hm]; exact (RWent.refl w M c).drewN m
 obtain ⟨g,cp,hv,y0,y1,y2,y3, -,fzc, -⟩:=H2.chAt hx.out
 have c8:=H2.cCh
 rw [hv] at c8
 have j0:(0:Int) <= (j:Int):=by omega
 have j1:(j:Int) < (r.ch.length:Int):=by omega
 have d1:decide ((j:Int) < 0) = false:=decide_eq_false (by omega)
 have fz3:=fzc (j * 5 + 3)
 have G3:=H2.setCh hx.out RC.idle 3 (by omega) (.bool false) rfl hv
 have W3:=W2.trans (RWent.same (M:=M) (c:=c) (only_at (S:=RFoot M c) w2 g (j * 5 + 3) (.bool false) ⟨.ch,by show M.vC.ownBlock = _; rw [hv]; rfl⟩))
 obtain ⟨w3,hw3⟩:∃ w3,w3 = w2.setCell ⟨g,j * 5 + 3,none⟩ (.bool false):=⟨_,rfl⟩
 rw [<- hw3] at G3 W3
 have hx3:(r.ch.modify j RC.idle)[j]? = some x.idle:=by rw [get_modify,if_pos rfl,hx.out]; rfl
 have hl3:(r.ch.modify j RC.idle).length = r.ch.length:=List.length_modify ..
 obtain ⟨g',cp',hv',v0,v1,v2,v3, -,fzc', -⟩:=G3.chAt (x:=x.idle) hx3
 have c8':=G3.cCh
 dsimp only at hv' c8'
 rw [hl3] at hv'
 have e2:g' = g /\ cp' = cp:=by
  rw [hv] at hv'
  simp only [Value.slice.injEq,Option.some.injEq,Addr.mk.injEq,and_true,true_and] at hv'
  exact ⟨hv'.1.symm,hv'.2.symm⟩
 obtain ⟨rfl,rfl⟩:=e2
 rw [hv] at c8'
 have v0':w3.cell? ⟨g',j * 5,none⟩ = some (.int .i64 (x.place:Int)):=v0
 have v2':w3.cell? ⟨g',j * 5 + 2,none⟩ = some (.int .u64 (x.gen:Int)):=v2
 have fz2:=fzc' (j * 5 + 2)
 obtain ⟨gn,hgn⟩:∃ gn,gn = (x.gen + 1) % 4294967296:=⟨_,rfl⟩
 have q1:IntKind.u64.wrap ((x.gen:Int) + 1) = ((x.gen + 1:Nat):Int):=by rw [IntWalk.u64_in _ (by omega)]; rfl
 have q2:((x.gen + 1:Nat):Int).tmod 4294967296 = (gn:Int):=by rw [hgn]; exact tmodN (x.gen + 1) 4294967296
 have q3:IntKind.u64.wrap (gn:Int) = (gn:Int):=IntWalk.u64_in _ (by rw [hgn]; omega)
 have G4:=G3.setCh (x:=x.idle) hx3 RC.aged 2 (by omega) (.int .u64 (gn:Int)) (by rw [hgn]; rfl) (by rw [hl3]; exact hv)
 have W4:=W3.trans (RWent.same (M:=M) (c:=c) (only_at (S:=RFoot M c) w3 g' (j * 5 + 2) (.int .u64 (gn:Int)) ⟨.ch,by show M.vC.ownBlock = _; rw [hv]; rfl⟩))
 dsimp only at G4
 rw [given_two] at G4
 have hgi:=Lib.hid (show ((x.gen:Int) + 1) % 4294967296 = (gn:Int) by rw [hgn]; omega)
 obtain ⟨w4,hw4⟩:∃ w4,w4 = (w3.setCell ⟨g',j * 5 + 2,none⟩ (.int .u64 (gn:Int))).drew:=⟨_,rfl⟩
 have G5:RSetAt w4 M c { r with ch:=r.ch.modify j RC.given }:=by rw [hw4]; exact G4.drew
 have W5:RWent w w4 M M c:=by rw [hw4]; exact W4.drewN 1
 have hx5:(r.ch.modify j RC.given)[j]? = some x.given:=by rw [get_modify,if_pos rfl,hx.out]; rfl
 have hl5:(r.ch.modify j RC.given).length = r.ch.length:=List.length_modify ..
 replace G5:=Lib.hid G5
 replace W5:=Lib.hid W5
 replace hw3:=Lib.hid hw3
 replace hw4:=Lib.hid hw4
 replace hv:=Lib.hid hv
 replace hgn:=Lib.hid hgn
 replace hx5:=Lib.hid hx5
 replace hl5:=Lib.hid hl5
 clear FC hm H2 W2 G3 W3 G4 W4 v0 v2 hv' hx3 hl3 fzc fzc'
 go_upto_region 6 with fail
 rw [<- hw3.out]
 clear hw3 y0 y1 y2 y3 c8 fz3
 go_still_tail 17,(by kernel_rfl)
 change wpList _ _ _ _ _ w3.drew
 go_upto_region 7 with fail
 rw [hgi.out, <- hw4.out]
 clear hw4 v0' v1 v2' v3 c8' fz2 q1 q2 q3
 obtain ⟨g5,cp5,hv5,u0, -, -, -, -, -, -⟩:=G5.out.chAt (x:=x.given) hx5.out
 have c8:=G5.out.cCh
 have c7:=G5.out.cLvs
 have cps:=G5.out.cPs
 have u0':w4.cell? ⟨g5,j * 5,none⟩ = some (.int .i64 (x.place:Int)):=u0
 dsimp only at hv5 c8
 rw [hl5.out] at hv5
 rw [hv5] at c8
 obtain ⟨pg,hpg⟩:∃ pg,pg = x.place / c.cf.ps:=⟨_,rfl⟩
 have lvc:=G5.out.lv (i:=pg) (by rw [hpg]; exact hpn)
 dsimp only at lvc
 have hpn2:pg < c.cf.np:=by rw [hpg]; exact hpn
 have z0:¬ ((c.cf.ps:Nat):Int) = 0:=by omega
 have qa:((x.place:Nat):Int).tdiv ((c.cf.ps:Nat):Int) = (pg:Int):=by rw [hpg]; exact tdivN _ _
 have qb:IntKind.i64.wrap (pg:Int) = (pg:Int):=IntWalk.i64_in _ (by omega)
 have p0:(0:Int) <= (pg:Int):=by omega
 have p1:(pg:Int) < ((c.cf.np:Nat):Int):=by omega
 replace hv5:=Lib.hid hv5
 replace hpg:=Lib.hid hpg
 clear u0
 generalize hB:r.lvs pg = B at *
 replace hB:=Lib.hid hB
 go_quiet (fail)
 rename Nat => nq
 have G6:=G5.out.drewN nq
 have W6:=W5.out.drewN nq
 obtain ⟨w6,hw6⟩:∃ w6,w4.drewN nq = w6:=⟨_,rfl⟩
 rw [hw6] at G6 W6
 rw [hw6]
 clear hw6 G5 W5 c8 c7 cps u0' lvc z0 qa qb p0 p1
 cases B with
 | true =>
  have GF:Hid (RSetAt w6 M c (rgive c.cf r j x.cls x.place)):=by
   unfold rgive
   rw [<- hpg.out,hB.out,if_pos rfl]
   exact Lib.hid G6
  replace W6:=Lib.hid W6
  clear G6
  go_wp2
  go_ret
  exact ⟨rfl,M,GF.out,W6.out⟩
 | false =>
  have c9:=G6.cRows
  have rk:=G6.rw_ hk
  have own:=G6.rowB hk
  dsimp only at own
  obtain ⟨A2,cp2,hF2⟩:=own_is own
  rw [hF2] at rk own
  have k0:(0:Int) <= (x.cls:Int):=by omega
  have k1:(x.cls:Int) < (c.nc:Int):=by omega
  have hglt:M.gr < w6.heap.size:=G6.rowsB.lt
  have hblt:M.b < w6.heap.size:=G6.headB.lt
  have zf:w6.frozen? ⟨M.gr,x.cls,none⟩ = false:=by obtain ⟨cur,h1⟩:=G6.rowsB.blk; exact h1.frozen x.cls
  have hownG:some M.gr ≠ (Value.slice A2 (r.rows x.cls).length cp2).ownBlock:=by
   rw [<- hF2]
   intro e
   have:=G6.inj .rows (.row x.cls) M.gr rfl ((if_pos hk).trans e.symm)
   cases this
  have hownB:some M.b ≠ (Value.slice A2 (r.rows x.cls).length cp2).ownBlock:=by
   rw [<- hF2]
   intro e
   have:=G6.inj .head (.row x.cls) M.b rfl ((if_pos hk).trans e.symm)
   cases this
  obtain ⟨ie,hie,hz0,hz1,hz2⟩:=eiI.info
  have one:=iv_one [j]
  have bx0:∀ W:World,W.heap.size = w6.heap.size -> Reads (W.alloc (.cells #[.int .i64 (j:Int)] 3)) (w6.heap.size + 1) 1 (some ⟨w6.heap.size,0,none⟩) 1 ([j].map iv):=by
   intro W hW
   have:=reads_one W j
   rwa [hW] at this
  obtain ⟨Z,hZ⟩:∃ Z,Z = r.rows x.cls:=⟨_,rfl⟩
  rw [<- hZ] at own rk hownG hownB hF2 hrl
  replace one:=Lib.hid one
  replace bx0:=Lib.hid bx0
  replace hF2:=Lib.hid hF2
  replace hZ:=Lib.hid hZ
  replace G6:=Lib.hid G6
  replace W6:=Lib.hid W6
  have rk':=(cel_alloc w6 (.cells #[.int .i64 (j:Int)] 3) M.gr x.cls hglt).trans rk
  have c9':=(cel_alloc w6 (.cells #[.int .i64 (j:Int)] 3) M.b 9 hblt).trans c9
  go_upto_region 8 with fail
  go_region_law ((refine step_append_new _ (by rfl) _ _ _ (by rfl) 0 3 ie _ 1 8 Tryz.underlying77 hie hz0 hz1 hz2 rfl (by decide) (.slice A2 Z.length cp2) Z.length _ (by rfl) (own.alloc _) (w6.heap.size + 1) (some ⟨w6.heap.size,0,none⟩) 1 1 ([j].map iv) (by rfl) (bx0.out _ (by simp)) one.out (by unfold maxLen; omega) (by omega) (Nat.zero_le _) (by omega) ?_; intro b3 c3 w7 own7 hgrow hat3 hlt3; have r1:w7.frozen? ⟨M.gr,x.cls,none⟩ = false:=(hgrow.frozen_far _ (by simp; omega) hownG).trans ((frz_alloc w6 _ M.gr x.cls hglt).trans zf); have r2:w7.cell? ⟨M.gr,x.cls,none⟩ = some (.slice A2 Z.length cp2):=(hgrow.cell_far _ (by simp; omega) hownG).trans ((cel_alloc w6 _ M.gr x.cls hglt).trans rk); have d9:w7.cell? ⟨M.b,9,none⟩ = some (.slice (some ⟨M.gr,0,none⟩) c.nc M.cR):=(hgrow.cell_far _ (by simp; omega) hownB).trans ((cel_alloc w6 _ M.b 9 hblt).trans c9)))
  all_goals
   have oW:Only (fun b => (M.F x.cls).ownBlock = some b) w6 w7:=((Only.refl _ w6).alloc _).drew.grown hgrow (fun j e _ => by rw [hF2.out]; exact e)
   have own4:w7.ownsRow 0 3 1 (.slice (some ⟨b3,0,none⟩) (Z.length + 1) c3) (Z ++ [j]).length ((Z ++ [j]).map iv):=by
    rw [List.length_append,List.map_append]
    exact own7
   have hb4:∀ b,(Value.slice (some ⟨b3,0,none⟩) (Z.length + 1) c3).ownBlock = some b -> (M.F x.cls).ownBlock = some b \/ w6.heap.size <= b:=fun b e => by
    have e2:b3 = b:=by simpa [Value.ownBlock] using e
    subst e2
    rcases hat3 with h3 | h3
    ·rw [hF2.out]; exact .inl h3
    ·exact .inr (by rw [h3]; simp)
   have G4:=G6.out.newRow x.cls hk (.slice (some ⟨b3,0,none⟩) (Z.length + 1) c3) _ oW (fun b e _ => e) own4 hb4
   have W4:=W6.out.trans (G6.out.wentRow x.cls hk (.slice (some ⟨b3,0,none⟩) (Z.length + 1) c3) oW (fun b e _ => e) hb4)
   obtain ⟨w8,hw8⟩:∃ w8,w8 = w7.setCell ⟨M.gr,x.cls,none⟩ (.slice (some ⟨b3,0,none⟩) (Z.length + 1) c3):=⟨_,rfl⟩
   rw [<- hw8] at G4 W4 ⊢
   have GF:Hid (RSetAt w8 { M with F:=upd M.F x.cls (.slice (some ⟨b3,0,none⟩) (Z.length + 1) c3) } c (rgive c.cf r j x.cls x.place)):=by
    unfold rgive
    rw [<- hpg.out,hB.out,if_neg (by simp), <- hZ.out]
    exact Lib.hid G4
   replace W4:=Lib.hid W4
   clear hw8 r1 r2 d9 own7 hgrow hat3 hlt3 oW own4 hb4 c9 c9' rk rk' zf own G6 W6 bx0 one G4
   go_wp2
   go_ret
   exact ⟨rfl,_,GF.out,W4.out⟩
end Go.Proofs.YtngehaiigbbknaaGreat.Cls
/-
  The queue's Swap, by its rows of handles.
-/
namespace Go.Proofs.YtngehaiigbbknaaGreat.Que
open Go.RowKit Base Arena Cls Itm
theorem stK_le (x:Nat) (Ls:Nat -> Nat -> List Nat) (H:Nat):stK x Ls H <= 3:=by
 unfold stK
 split
 ·omega
 split
 ·omega
 split <;> omega
section
variable {w:World} {L:Lay} {c:Conf} {s:St} {bs:List UInt8} {Z:Nat -> Option Zd} {gq gl:Nat} {Ls:Nat -> Nat -> List Nat} (h:QW w L c s bs Z gq gl Ls)
include h
end
theorem rd_same1 {a b:List UInt8} {o:Nat} (h:a[o]? = b[o]?):rd a o 1 = rd b o 1:=by
 unfold rd
 congr 1
 apply List.ext_getElem?
 intro j
 rw [piece_get,piece_get]
 split
 ·obtain rfl:j = 0:=by omega
  exact h
 ·rfl
def Mks (c:Conf) (s:St) (bs:List UInt8) (Z:Nat -> Option Zd) (mk:Nat -> Nat):Prop:=∀ H i x p,findN c.cf s H = some (i,x,p) -> (Z H).isSome = true -> rd bs (p + 46) 1 = mk H /\ mk H < 16
section
variable {c:Conf} (ok:c.cf.Ok) {s:St} (g:Cls.Good c.cf s) {bs:List UInt8} {Z:Nat -> Option Zd} {mk:Nat -> Nat} (h:Mks c s bs Z mk)
include ok g h
theorem Mks.ed {bs':List UInt8} {Z':Nat -> Option Zd} (hE:Ed (Itp c s Z) bs bs') (hz:∀ H,(Z' H).isSome = (Z H).isSome):Mks c s bs' Z' mk:=by
 intro H i x p hf hZ
 rw [hz] at hZ
 obtain ⟨h1,h2⟩:=h H i x p hf hZ
 refine ⟨(rd_same1 (hE.2 (p + 46) ?_)).trans h1,h2⟩
 rintro q ⟨H',i',x',hf', -⟩ hq
 by_cases e:H' = H
 ·subst e
  rw [hf] at hf'
  simp only [Option.some.injEq,Prod.mk.injEq] at hf'
  omega
 ·have:=good_apart ok g hf' hf e
  omega
theorem Mks.set {H i x p k n v:Nat} (K:Chk c s bs.length H i x p k n) (hv:v < 16):Mks c s (lay bs (p + 46) (putB 1 v)) Z (upd mk H v):=by
 have hall:=K.ck.all
 have n64:=K.n64
 intro H' i' x' p' hf hZ
 obtain ⟨h1,h2⟩:=h H' i' x' p' hf hZ
 by_cases e:H' = H
 ·subst e
  have e2:p' = p:=by rw [K.hf] at hf; simp only [Option.some.injEq,Prod.mk.injEq] at hf; exact hf.2.2.symm
  subst e2
  rw [upd_at]
  exact ⟨rd_lay _ _ _ _ (by omega) (by omega),hv⟩
 ·rw [upd_ne _ _ e]
  have:=good_apart ok g K.hf hf (fun e' => e e'.symm)
  exact ⟨(rd_out _ _ _ _ _ (by rw [putB_len]; omega) (by rw [putB_len]; omega)).trans h1,h2⟩
theorem Mks.laid {H i x p k n:Nat} (K:Chk c s bs.length H i x p k n) (t:Itm.It) (F:t.Fine) (hfit : 58 + t.key.length + t.val.length <= n) (gen:Nat) (hg:(bs.drop (p + 12)).take 4 = putB 4 gen) (z:Zd) :
  Mks c s (itemB bs p k t) (upd Z H (some z)) (upd mk H t.ms):=by
 have hall:=K.ck.all
 have fm:=F.ms
 have e:=itemB_enc bs p k gen t (by omega) hg
 have hl:(Whole.enc ⟨0,0,0,gen,k,t⟩).length = 58 + t.key.length + t.val.length:=Whole.enc_len ⟨0,0,0,gen,k,t⟩
 have HH:Has (itemB bs p k t) p ⟨0,0,0,gen,k,t⟩:=by rw [e]; exact Has.lay_ bs p _ (by show p + (58 + t.key.length + t.val.length) <= bs.length; omega)
 intro H' i' x' p' hf hZ
 by_cases eH:H' = H
 ·subst eH
  have e2:p' = p:=by rw [K.hf] at hf; simp only [Option.some.injEq,Prod.mk.injEq] at hf; exact hf.2.2.symm
  subst e2
  rw [upd_at]
  exact ⟨HH.ms (by show t.ms < 256; omega),fm⟩
 ·rw [upd_ne _ _ eH] at hZ ⊢
  obtain ⟨h1,h2⟩:=h H' i' x' p' hf hZ
  refine ⟨?_,h2⟩
  rw [e, <- h1]
  obtain ⟨tk,e1⟩:=Tkn.of ok g K.hf
  obtain ⟨tk',e2⟩:=Tkn.of ok g hf
  have hp:p ≠ p':=by
   rintro rfl
   obtain ⟨-, -, -,eG⟩:=tk.same ok tk'
   exact eH (by rw [e1,e2,eG])
  have hs:c.cf.sz (s.cls i) = n:=by rw [K.hk]; exact K.sz
  have hd:p + n <= p' \/ p' + 64 <= p:=by
   have z':=(ok.sz _ tk'.kN).1
   rcases tk.apart ok tk' hp with h1 | h1
   ·left; rw [hs] at h1; exact h1
   ·right; omega
  exact rd_out _ _ _ _ _ (by rw [hl]; omega) (by rw [hl]; omega)
theorem Mks.take {s1:St} {k:Nat} (hk:k < c.cf.nc) (hr:roomS c.cf s k = some s1) {l:List Nat} {p:Nat} (hp:s1.free k = l ++ [p]) {H0:Nat} (h0:H0 = hnd p (s1.gens (p / c.cf.ps) (p % c.cf.ps / c.cf.sz k)))
  (hb:bs.length = c.cf.ps * c.cf.np) (G:Nat):Mks c (takeS c.cf s1 k p) (takeB bs p G) (upd Z H0 none) mk:=by
 obtain ⟨⟨i0,x0,f0, -⟩,A,B⟩:=took_find ok g hk hr hp h0
 have g':=(took ok g hk hr hp).1
 obtain ⟨t0, -⟩:=Tkn.of ok g' f0
 have hfit:p + 64 <= bs.length:=by
  obtain ⟨a1,a2,a3,a4,a5⟩:=t0.fit ok
  have:=(ok.sz _ t0.kN).1
  rw [hb,Nat.mul_comm]
  omega
 intro H i x q hf hZ
 rcases B H i x q hf with rfl | ⟨hne,hf'⟩
 ·rw [upd_at] at hZ; cases hZ
 ·rw [upd_ne _ _ hne] at hZ
  obtain ⟨h1,h2⟩:=h H i x q hf' hZ
  have hd:=good_apart ok g' f0 hf (fun e => hne e.symm)
  refine ⟨?_,h2⟩
  rw [<- h1]
  unfold rd
  rw [take_far (by omega) (by omega)]
end
theorem Lk.marks {c:Conf} (ok:c.cf.Ok) {s:St} (g:Cls.Good c.cf s) {bs:List UInt8} {Z:Nat -> Option Zd} (h:Lk c s bs Z) {H i x p k n:Nat} (K:Chk c s bs.length H i x p k n) {z:Zd} (hz:Z H = some z) (v:Nat):Lk c s (lay bs (p + 46) (putB 1 v)) Z:=by
 have hall:=K.ck.all
 have n64:=K.n64
 have ha:=h.at_ H i x p K.hH K.hf
 rw [hz] at ha
 obtain ⟨a1,a2,a3,a4⟩:=ha
 have:=h.put ok g K (o:=46) (m:=1) (v:=v) (by omega) z (h.st H z hz) ⟨by rw [rd_out _ _ _ _ _ (by rw [putB_len]; omega) (by rw [putB_len]; omega)]; exact a1,by rw [rd_out _ _ _ _ _ (by rw [putB_len]; omega) (by rw [putB_len]; omega)]; exact a2,by rw [rd_out _ _ _ _ _ (by rw [putB_len]; omega) (by rw [putB_len]; omega)]; exact a3,by rw [rd_out _ _ _ _ _ (by rw [putB_len]; omega) (by rw [putB_len]; omega)]; exact a4⟩ (h.lk H z ⟨i,x,p,K.hf⟩ hz)
 have e0:upd Z H (some z) = Z:=by
  funext y
  by_cases e:y = H
  ·rw [e,upd_at,hz]
  ·rw [upd_ne _ _ e]
 rwa [e0] at this
section
variable {w:World} {L:Lay} {c:Conf} {s:St} {bs:List UInt8} {Z:Nat -> Option Zd} {gq gl:Nat} {Ls:Nat -> Nat -> List Nat} (h:QW w L c s bs Z gq gl Ls) {mk:Nat -> Nat} (m:Mks c s bs Z mk) {H:Nat} (hH:H < 18446744073709551616)
include h hH
theorem marksNo (hf:findN c.cf s H = none):Calls Tryz.prog 46 #[.pointer (some ⟨L.g,0,none⟩),.int .u64 (H:Int)] w fun e w' => e = .returned (.tuple #[.int .i64 0,.int .i64 20]) /\ Below w.heap.size w w':=by
 obtain ⟨F,S,q⟩:=h
 exact marksW _ H w 0 20 _ (by
  have:=tell8No w L c s bs S.zs.set S.zs.good 46 H hH hf
  rw [show ((46:Nat):Int) = 46 from rfl] at this
  exact this) (by omega) (by omega)
theorem marksNone {i x p:Nat} (hf:findN c.cf s H = some (i,x,p)) (hz:Z H = none):Calls Tryz.prog 46 #[.pointer (some ⟨L.g,0,none⟩),.int .u64 (H:Int)] w fun e w' => e = .returned (.tuple #[.int .i64 0,.int .i64 0]) /\ Below w.heap.size w w':=by
 obtain ⟨F,S,q⟩:=h
 have K:=Chk.of S.zs.set S.zs.good hH hf
 have ha:=S.zs.lk.at_ H i x p hH hf
 rw [hz] at ha
 refine marksW _ H w 0 0 _ ?_ (by omega) (by omega)
 have:=tell8None w L c s bs S.zs.set S.zs.good K ha 46 (by omega)
 rw [show ((46:Nat):Int) = 46 from rfl] at this
 exact this
include m
theorem marksYes {i x p:Nat} (hf:findN c.cf s H = some (i,x,p)) {z:Zd} (hz:Z H = some z):Calls Tryz.prog 46 #[.pointer (some ⟨L.g,0,none⟩),.int .u64 (H:Int)] w fun e w' => e = .returned (.tuple #[.int .i64 (mk H:Int),.int .i64 0]) /\ Below w.heap.size w w':=by
 obtain ⟨F,S,q⟩:=h
 have K:=Chk.of S.zs.set S.zs.good hH hf
 have ha:=S.zs.lk.at_ H i x p hH hf
 obtain ⟨m1,m2⟩:=m H i x p hf (by rw [hz]; rfl)
 rw [hz] at ha
 refine marksW _ H w (mk H:Int) 0 _ ?_ (by omega) (by omega)
 have:=tell8Yes w L c s bs S.zs.set S.zs.good K ha.1 46 (by omega)
 rw [m1,show ((46:Nat):Int) = 46 from rfl] at this
 exact this
theorem setMarksYes {i x p:Nat} (hf:findN c.cf s H = some (i,x,p)) {z:Zd} (hz:Z H = some z) {v:Nat} (hv:v < 16):Calls Tryz.prog 111 #[.pointer (some ⟨L.g,0,none⟩),.int .u64 (H:Int),.int .i64 (v:Int)] w fun e w' => e = .returned (.int .i64 0) /\ Only (Two L gl) w w' /\
  ∃ bs',bs'.length = bs.length /\ QW w' L c s bs' Z gq gl Ls /\ Mks c s bs' Z (upd mk H v):=by
 obtain ⟨F,S,q⟩:=h
 have ok:=S.okc
 have K:=Chk.of S.zs.set S.zs.good hH hf
 have ha:=S.zs.lk.at_ H i x p hH hf
 rw [hz] at ha
 refine (setMsC w L c s bs S.zs.set S.zs.good K ha.1 v hv).mono ?_
 rintro e w' ⟨rfl,M,o⟩
 have hall:=K.ck.all
 have n64:=K.n64
 exact ⟨rfl,two_bytes o,_,putlen _ _ _ _ (by omega),⟨F,S.bytes o ⟨M,S.zs.good,S.zs.lk.marks ok S.zs.good K hz v⟩,q⟩,m.set ok S.zs.good K hv⟩
end
structure W6 where
 b:Nat
 L:Lay
 M:RL
 gq:Nat
 gl:Nat
 R:R6
 vT:Value
 gm:Option Nat
 dm:Option Nat
 vA:Value
 hot:Int
 warm:Int
inductive C6 where
 | set
 | ref
 | queue
 | doc
 | own
 | lru
 | act
 deriving DecidableEq
def W6.foot (W:W6) (c:Conf) (s:St):C6 -> Nat -> Prop
 | .set => Foot W.L c s
 | .ref => RFoot W.M c
 | .queue => fun b => b = W.gq \/ b = W.gl
 | .doc => F6 W.R (3 * c.nc)
 | .own => fun b => b = W.b \/ W.vT.ownBlock = some b
 | .lru => fun b => W.gm = some b
 | .act => fun b => W.dm = some b \/ W.vA.ownBlock = some b
def ptrO:Option Nat -> Value
 | none => .pointer none
 | some g => .pointer (some ⟨g,0,none⟩)
def W6.cells (W:W6):Array Value:=#[.pointer (some ⟨W.L.g,0,none⟩),.pointer (some ⟨W.gq,0,none⟩),ptrO W.gm,.pointer (some ⟨W.M.b,0,none⟩),.pointer (some ⟨W.R.b,0,none⟩),ptrO W.dm,W.vT]
def W6.lc (W:W6):Array Value:=#[.pointer (some ⟨W.L.g,0,none⟩),.pointer (some ⟨W.gq,0,none⟩),.int .i64 W.hot,.int .i64 W.warm]
def W6.dc (W:W6):Array Value:=#[.pointer (some ⟨W.R.b,0,none⟩),.int .i64 W.hot,.int .i64 W.warm,W.vA]
structure WAt (N:Nat) (w:World) (W:W6) (c:Conf) (s:St) (bs:List UInt8) (Z:Nat -> Option Zd) (Ls Ld:Nat -> Nat -> List Nat) (r:RS) (laid told act:List Nat) (mk:Nat -> Nat):Prop where
 q:QW w W.L c s bs Z W.gq W.gl Ls
 ref:RSetAt w W.M c r
 doc:R6At w W.R W.M.b (3 * c.nc) laid (fun i => Ld (i / 3) (i % 3))
 own:Blk w W.b 36 W.cells
 told:w.ownsRow 0 50 1 W.vT told.length (told.map uv)
 sep:∀ i j b,W.foot c s i b -> W.foot c s j b -> i = j
 tb:W.vT.ownBlock ≠ some W.b
 base:∀ i b,W.foot c s i b -> N <= b
 lru:∀ g,W.gm = some g -> Blk w g 97 W.lc
 dlr:∀ d,W.dm = some d -> Blk w d 99 W.dc
 row:w.ownsRow 0 50 1 W.vA act.length (act.map uv)
 ad:∀ d,W.dm = some d -> W.vA.ownBlock ≠ some d
 mks:Mks c s bs Z mk
theorem and_one {v:Nat} (h:v < 16):bits .and .i64 (v:Int) 1 = ((v % 2:Nat):Int):=by
 have key:∀ v:Fin 16,bits .and .i64 (v.val:Int) 1 = ((v.val % 2:Nat):Int):=by decide
 exact key ⟨v,h⟩
theorem andnot_one {v:Nat} (h:v < 16):bits .andNot .i64 (v:Int) 1 = ((2 * (v / 2):Nat):Int):=by
 have key:∀ v:Fin 16,bits .andNot .i64 (v.val:Int) 1 = ((2 * (v.val / 2):Nat):Int):=by decide
 exact key ⟨v,h⟩
theorem or_one {v:Nat} (h:v < 16):bits .or .i64 ((2 * (v / 2):Nat):Int) 1 = ((2 * (v / 2) + 1:Nat):Int):=by
 have key:∀ v:Fin 16,bits .or .i64 ((2 * (v.val / 2):Nat):Int) 1 = ((2 * (v.val / 2) + 1:Nat):Int):=by decide
 exact key ⟨v,h⟩
section
variable {w:World} {L:Lay} {c:Conf} {s:St} {bs:List UInt8} {Z:Nat -> Option Zd} {gq gl:Nat} {F:QN} (h:QS w L c s bs Z gq gl F)
include h
theorem pushRefP (R:Nat) (r0:R ≠ 0) (H:Nat) (k:Int) (FC:Calls Tryz.prog 102 #[.pointer (some ⟨gq,0,none⟩),.int .u64 (H:Int),.int .i64 k] w fun e w' => e = .returned (.tuple #[.pointer none,.int .i64 (R:Int)]) /\ Below w.heap.size w w') :
  Calls Tryz.prog 60 #[.pointer (some ⟨gq,0,none⟩),.int .u64 (H:Int),.int .i64 k] w fun e w' => e = .returned (.int .i64 (R:Int)) /\ Below w.heap.size w w':=by
 obtain ⟨d1,d2⟩:=ne0 r0
 replace FC:=Lib.hid FC
 clear h r0
 go_enter Tryz.func60,Tryz.ntmps60
 go_wp2_with fail
 refine FC.out.mono ?_
 rintro e w1 ⟨rfl,b1⟩
 replace b1:=Lib.hid b1
 go_wp2
 go_ret
 exact ⟨rfl,b1.out⟩
end
section
variable {w:World} {L:Lay} {c:Conf} {s:St} {bs:List UInt8} {Z:Nat -> Option Zd} {gq gl:Nat} {Ls:Nat -> Nat -> List Nat} (h:QW w L c s bs Z gq gl Ls)
include h
theorem pushP (H:Nat) (hH:H < 18446744073709551616) (kind:Int) :
  Calls Tryz.prog 60 #[.pointer (some ⟨gq,0,none⟩),.int .u64 (H:Int),.int .i64 kind] w fun e w' => e = .returned (.int .i64 ((pushN c s Z Ls H kind false).1:Int)) /\ Did w w' L c s bs Z gq gl (pushN c s Z Ls H kind false):=by
 have key:∀ last,(pushN c s Z Ls H kind last).1 ≠ 0 -> (pushN c s Z Ls H kind last).2 = Ls:=by
  intro last h1
  unfold pushN at h1 ⊢
  split
  ·rfl
  split
  ·rfl
  split
  ·rfl
  ·rename_i a1 a2 a3
   rw [if_neg a1,if_neg a2,if_neg a3] at h1
   exact absurd rfl h1
 have eqs:(pushN c s Z Ls H kind false).1 = (pushN c s Z Ls H kind true).1:=by
  unfold pushN
  split
  ·rfl
  split
  ·rfl
  split <;> rfl
 have hw:=h
 obtain ⟨F,S,q⟩:=h
 by_cases h0:(pushN c s Z Ls H kind false).1 = 0
 ·have h1:=h0
  rw [eqs] at h1
  rw [h0]
  unfold pushN at h0 ⊢
  by_cases hk : 1 <= kind /\ kind <= 3
  ·rw [if_neg (Classical.not_not.2 hk)] at h0
   simp only [if_neg (Classical.not_not.2 hk)]
   by_cases hi:isN c s Z H = false
   ·rw [if_pos hi] at h0; cases h0
   ·rw [if_neg hi] at h0
    simp only [if_neg hi]
    by_cases hs:stK (clsN c s H) Ls H ≠ 0
    ·rw [if_pos hs] at h0; cases h0
    ·simp only [if_neg hs]
     obtain ⟨k,hk3,rfl⟩:∃ k:Nat,k < 3 /\ kind = (k:Int) + 1:=⟨kind.toNat - 1,by omega,by omega⟩
     have ek:((k:Int) + 1).toNat - 1 = k:=by omega
     rw [ek]
     have hi2:isN c s Z H = true:=by simpa using hi
     unfold isN at hi2
     obtain ⟨i1,i2⟩:=Bool.and_eq_true_iff.1 hi2
     obtain ⟨⟨i,y,p⟩,hf⟩:=Option.isSome_iff_exists.1 i1
     obtain ⟨z,hz⟩:=Option.isSome_iff_exists.1 i2
     have hn:=q.not_stK (Classical.not_not.1 hs)
     have hI:It c s Z H:=⟨⟨i,y,p,hf⟩,z,hz⟩
     have ec:clsN c s H = s.cls i:=by unfold clsN; rw [hf]
     have hx:s.cls i < c.nc:=(Tkn.of S.okc S.zs.good hf).1.kN
     have hb:=q.nB S.okc S.zs.good hx hk3
     rw [ec]
     have dom:∀ a b H',(layZ Z H (k + 1) a b H').isSome = (Z H').isSome:=fun a b H' => jZ_some.trans (jZ_some.trans (upd_some ⟨z,hz⟩ H'))
     refine (pushYes S H k hk3 hI hf (q.free hf hn) (by omega) (q.hdI hx hk3)).mono ?_
     rintro e w' ⟨rfl,w1,b1,o1,bs',E1,S1⟩
     refine ⟨rfl,two_trans (below_two b1) o1,bs',_,E1,dom _ _,fun h => absurd rfl h,_,S1,?_⟩
     have:=q.lay S.okc S.zs.good hx hk3 hf rfl hn [] (Ls (s.cls i) k) rfl
     rw [q.hd _ _ hx hk3]
     exact this
  ·rw [if_pos hk] at h0; cases h0
 ·have h1:=h0
  rw [eqs] at h1
  have FC:=qFreeC hw H hH kind false _ rfl h0
  refine (pushRefP S _ h0 H kind FC).mono ?_
  rintro e w' ⟨rfl,b⟩
  refine ⟨rfl,?_⟩
  have:=hw.same (R:=(pushN c s Z Ls H kind false).1) b
  rwa [show ((pushN c s Z Ls H kind false).1,Ls) = pushN c s Z Ls H kind false from Prod.ext rfl (key false h0).symm] at this
theorem shiftP (H:Nat) (hH:H < 18446744073709551616) (kind:Int) :
  Calls Tryz.prog 58 #[.pointer (some ⟨gq,0,none⟩),.int .u64 (H:Int),.int .i64 kind] w fun e w' => e = .returned (.int .i64 ((shiftN c s Ls H kind).1:Int)) /\ Did w w' L c s bs Z gq gl (shiftN c s Ls H kind):=by
 have IK:=isKindC w kind
 have DC:=dropC h H hH
 have hw:=Lib.hid h
 by_cases hk : 1 <= kind /\ kind <= 3
 ·rw [decide_eq_true hk] at IK
  replace IK:=Lib.hid IK
  by_cases h0:stK (clsN c s H) Ls H = 0
  ·have er:shiftN c s Ls H kind = (20,Ls):=by unfold shiftN; rw [if_neg (Classical.not_not.2 hk),if_pos h0]
   have er2:dropN c s Ls H = (20,Ls):=by unfold dropN; rw [if_pos h0]
   rw [er]
   rw [er2] at DC
   replace DC:=Lib.hid DC
   clear h hk h0 er er2
   go_enter Tryz.func58,Tryz.ntmps58
   go_wp2_with fail
   refine IK.out.mono ?_
   rintro e w1 ⟨rfl,rfl⟩
   go_wp2_with fail
   refine DC.out.mono ?_
   rintro e w1 ⟨rfl,D⟩
   replace D:=Lib.hid D
   go_wp2
   go_ret
   exact ⟨rfl,D.out⟩
  ·have er:shiftN c s Ls H kind = (0,putN (clsN c s H) (outN (clsN c s H) Ls H) H (kind.toNat - 1) false):=by unfold shiftN; rw [if_neg (Classical.not_not.2 hk),if_neg h0]
   have er2:dropN c s Ls H = (0,outN (clsN c s H) Ls H):=by unfold dropN; rw [if_neg h0]
   obtain ⟨F,S,q⟩:=h
   obtain ⟨z,hz,hI, -⟩:=q.links S.okc S.zs.good h0
   have er3:pushN c s Z (outN (clsN c s H) Ls H) H kind false = (0,putN (clsN c s H) (outN (clsN c s H) Ls H) H (kind.toNat - 1) false):=by
    unfold pushN
    rw [if_neg (Classical.not_not.2 hk),if_neg (by rw [isN_it hI]; exact Bool.noConfusion),if_neg (Classical.not_not.2 (q.out0 S.okc S.zs.good h0))]
   rw [er]
   rw [er2] at DC
   replace DC:=Lib.hid DC
   replace er3:=Lib.hid er3
   clear hk h0 er er2 q S hz hI
   go_enter Tryz.func58,Tryz.ntmps58
   go_wp2_with fail
   refine IK.out.mono ?_
   rintro e w1 ⟨rfl,rfl⟩
   go_wp2_with fail
   refine DC.out.mono ?_
   rintro e w1 ⟨rfl,D⟩
   obtain ⟨o1,bs1,Z1,E1,d1, -,Q1⟩:=D
   have PC:=pushP Q1 H hH kind
   rw [pushN_congr d1,er3.out] at PC
   replace PC:=Lib.hid PC
   replace o1:=Lib.hid o1
   replace E1:=Lib.hid E1
   replace d1:=Lib.hid d1
   clear Q1 DC
   go_wp2_with fail
   refine PC.out.mono ?_
   rintro e w2 ⟨rfl,D⟩
   replace D:=Lib.hid D
   go_wp2
   go_ret
   obtain ⟨o2,bs2,Z2,E2,d2, -,Q2⟩:=D.out
   obtain ⟨o3,E3,d3⟩:=did_trans o1.out o2 E1.out d1.out E2 d2
   exact ⟨rfl,o3,bs2,Z2,E3,d3,fun h => absurd rfl h,Q2⟩
 ·have er:shiftN c s Ls H kind = (1,Ls):=by unfold shiftN; rw [if_pos hk]
  rw [decide_eq_false hk] at IK
  rw [er]
  replace IK:=Lib.hid IK
  clear h hk DC er
  go_enter Tryz.func58,Tryz.ntmps58
  go_wp2_with fail
  refine IK.out.mono ?_
  rintro e w1 ⟨rfl,rfl⟩
  go_wp2
  go_ret
  exact ⟨rfl,hw.out.same (Below.refl _ _)⟩
end
structure LS (w:World) (L:Lay) (s:St) (bs:List UInt8) (Z:Nat -> Option Zd) (gq gl:Nat) (Ls:Nat -> Nat -> List Nat) (mk:Nat -> Nat) (g:Nat) (hot warm:Int):Prop where
 q:QW w L qc s bs Z gq gl Ls
 m:Mks qc s bs Z mk
 b:Blk w g 97 #[.pointer (some ⟨L.g,0,none⟩),.pointer (some ⟨gq,0,none⟩),.int .i64 hot,.int .i64 warm]
 ga:g ≠ L.ha
 gg:g ≠ gl
def DL (w w':World) (L:Lay) (s:St) (bs:List UInt8) (Z:Nat -> Option Zd) (gq gl:Nat) (Ls':Nat -> Nat -> List Nat) (mk':Nat -> Nat) (g:Nat) (hot warm:Int):Prop :=
 Only (Two L gl) w w' /\ ∃ bs' Z',bs'.length = bs.length /\ (∀ H,(Z' H).isSome = (Z H).isSome) /\ LS w' L s bs' Z' gq gl Ls' mk' g hot warm
def actB (s:St) (Z:Nat -> Option Zd) (mk:Nat -> Nat) (H:Nat):Bool:=isN qc s Z H && (mk H % 2 == 1)
theorem actB_congr {s:St} {Z Z':Nat -> Option Zd} (h:∀ H,(Z' H).isSome = (Z H).isSome) (mk:Nat -> Nat) (H:Nat):actB s Z' mk H = actB s Z mk H:=by
 unfold actB isN
 rw [h]
theorem isN_congr {s:St} {Z Z':Nat -> Option Zd} (h:∀ H,(Z' H).isSome = (Z H).isSome) (H:Nat):isN qc s Z' H = isN qc s Z H:=by
 unfold isN
 rw [h]
theorem pushN_cg {s:St} {Z Z':Nat -> Option Zd} (h:∀ H,(Z' H).isSome = (Z H).isSome) (Ls:Nat -> Nat -> List Nat) (H:Nat) (kind:Int) (last:Bool):pushN qc s Z' Ls H kind last = pushN qc s Z Ls H kind last:=by
 unfold pushN
 rw [isN_congr h]
def mkOn (mk:Nat -> Nat) (H:Nat) (on:Bool):Nat -> Nat:=upd mk H (if on then 2 * (mk H / 2) + 1 else 2 * (mk H / 2))
def entM (mk:Nat -> Nat) (H:Nat) (e:Nat):Nat -> Nat:=if e = 0 then mkOn mk H false else mk
section
variable {w:World} {L:Lay} {s:St} {bs:List UInt8} {Z:Nat -> Option Zd} {gq gl:Nat} {Ls:Nat -> Nat -> List Nat} {mk:Nat -> Nat} {g:Nat} {hot warm:Int} (h:LS w L s bs Z gq gl Ls mk g hot warm)
include h
theorem LS.okc:qc.cf.Ok:=by obtain ⟨F,S,q⟩:=h.q; exact S.okc
theorem LS.good:Cls.Good qc.cf s:=by obtain ⟨F,S,q⟩:=h.q; exact S.zs.good
theorem LS.below {w':World} (b:Below w.heap.size w w'):LS w' L s bs Z gq gl Ls mk g hot warm:=by
 obtain ⟨F,S,q⟩:=h.q
 exact ⟨⟨F,S.below b,q⟩,h.m,h.b.below b h.b.lt,h.ga,h.gg⟩
theorem LS.same {w':World} (b:Below w.heap.size w w'):DL w w' L s bs Z gq gl Ls mk g hot warm:=⟨below_two b,bs,Z,rfl,fun _ => rfl,h.below b⟩
theorem LS.did {w':World} {r:Nat × (Nat -> Nat -> List Nat)} (D:Did w w' L qc s bs Z gq gl r):DL w w' L s bs Z gq gl r.2 mk g hot warm:=by
 obtain ⟨o,bs',Z',hE,hz, -,Q⟩:=D
 exact ⟨o,bs',Z',hE.1,hz,Q,h.m.ed h.okc h.good hE hz,(o.block _ h.b.lt (by rintro (e | e); exact h.ga e; exact h.gg e)).trans h.b,h.ga,h.gg⟩
theorem LS.cells:w.cell? ⟨g,0,none⟩ = some (.pointer (some ⟨L.g,0,none⟩)) /\ w.cell? ⟨g,1,none⟩ = some (.pointer (some ⟨gq,0,none⟩)) /\ w.cell? ⟨g,2,none⟩ = some (.int .i64 hot) /\ w.cell? ⟨g,3,none⟩ = some (.int .i64 warm):=⟨h.b.cell 0,h.b.cell 1,h.b.cell 2,h.b.cell 3⟩
theorem activeC (H:Nat) (hH:H < 18446744073709551616):Calls Tryz.prog 70 #[.pointer (some ⟨g,0,none⟩),.int .u64 (H:Int)] w fun e w' => e = .returned (.bool (actB s Z mk H)) /\ Below w.heap.size w w':=by
 obtain ⟨x0, -, -, -⟩:=h.cells
 have key:∃ (v e:Nat),(Calls Tryz.prog 46 #[.pointer (some ⟨L.g,0,none⟩),.int .u64 (H:Int)] w fun x w' => x = .returned (.tuple #[.int .i64 (v:Int),.int .i64 (e:Int)]) /\ Below w.heap.size w w') /\ v < 16 /\ ((e ≠ 0 /\ actB s Z mk H = false) \/ (e = 0 /\ v % 2 = 0 /\ actB s Z mk H = false) \/ (e = 0 /\ v % 2 = 1 /\ actB s Z mk H = true)):=by
  unfold actB isN
  cases hf:findN qc.cf s H with
  | none => exact ⟨0,20,marksNo h.q hH hf,by omega,.inl ⟨by omega,rfl⟩⟩
  | some t =>
   obtain ⟨i,x,p⟩:=t
   cases hz:Z H with
   | none => exact ⟨0,0,marksNone h.q hH hf hz,by omega,.inr (.inl ⟨rfl,rfl,rfl⟩)⟩
   | some z =>
    refine ⟨mk H,0,marksYes h.q h.m hH hf hz,(h.m H i x p hf (by rw [hz]; rfl)).2,.inr ?_⟩
    have:mk H % 2 = 0 \/ mk H % 2 = 1:=by omega
    rcases this with e | e
    ·exact .inl ⟨rfl,e,by rw [e]; rfl⟩
    ·exact .inr ⟨rfl,e,by rw [e]; rfl⟩
 obtain ⟨v,e,MC,hv,hB⟩:=key
 have a1:=and_one hv
 replace MC:=Lib.hid MC
 clear h
 rcases hB with ⟨he,hB⟩ | ⟨rfl,e1,hB⟩ | ⟨rfl,e1,hB⟩ <;> rw [hB] <;> clear hB
 ·have d1:((e:Int) == 0) = false:=by rw [beq_eq_false_iff_ne]; omega
  have d2:decide ((e:Int) = 0) = false:=decide_eq_false (by omega)
  have d3:decide (e = 0) = false:=decide_eq_false he
  go_enter Tryz.func70,Tryz.ntmps70
  go_wp2_with fail
  refine MC.out.mono ?_
  rintro x w' ⟨rfl,b⟩
  replace b:=Lib.hid b
  go_wp2
  go_ret
  exact ⟨rfl,b.out⟩
 ·rw [e1] at a1
  replace e1:=Lib.hid e1
  go_enter Tryz.func70,Tryz.ntmps70
  go_wp2_with fail
  refine MC.out.mono ?_
  rintro x w' ⟨rfl,b⟩
  replace b:=Lib.hid b
  go_wp2
  go_ret
  exact ⟨rfl,b.out⟩
 ·rw [e1] at a1
  replace e1:=Lib.hid e1
  go_enter Tryz.func70,Tryz.ntmps70
  go_wp2_with fail
  refine MC.out.mono ?_
  rintro x w' ⟨rfl,b⟩
  replace b:=Lib.hid b
  go_wp2
  go_ret
  exact ⟨rfl,b.out⟩
theorem lmarkC (H:Nat) (hH:H < 18446744073709551616) (hI:isN qc s Z H = true) (on:Bool):Calls Tryz.prog 73 #[.pointer (some ⟨g,0,none⟩),.int .u64 (H:Int),.bool on] w fun e w' => e = .returned (.tuple #[]) /\ DL w w' L s bs Z gq gl Ls (mkOn mk H on) g hot warm:=by
 obtain ⟨x0, -, -, -⟩:=h.cells
 unfold isN at hI
 obtain ⟨i1,i2⟩:=Bool.and_eq_true_iff.1 hI
 obtain ⟨⟨i,x,p⟩,hf⟩:=Option.isSome_iff_exists.1 i1
 obtain ⟨z,hz⟩:=Option.isSome_iff_exists.1 i2
 have hv:=(h.m H i x p hf (by rw [hz]; rfl)).2
 have MC:=Lib.hid (marksYes h.q h.m hH hf hz)
 have SC:=fun (v:Nat) (hv:v < 16) w1 (b:Below w.heap.size w w1) => setMarksYes (h.below b).q h.m hH hf hz hv
 have a1:=andnot_one hv
 have a2:=or_one hv
 have fin:∀ w1 w2,Below w.heap.size w w1 -> Only (Two L gl) w1 w2 -> (∃ bs',bs'.length = bs.length /\ QW w2 L qc s bs' Z gq gl Ls /\ Mks qc s bs' Z (mkOn mk H on)) -> DL w w2 L s bs Z gq gl Ls (mkOn mk H on) g hot warm:=by
  rintro w1 w2 b o ⟨bs',e1,Q,M⟩
  refine ⟨two_trans (below_two b) o,bs',Z,e1,fun _ => rfl,Q,M,?_,h.ga,h.gg⟩
  exact (o.block _ (Nat.lt_of_lt_of_le h.b.lt b.size) (by rintro (e | e); exact h.ga e; exact h.gg e)).trans (h.b.below b h.b.lt)
 have x0':=fun w1 (b:Below w.heap.size w w1) => (h.below b).cells.1
 replace x0':=Lib.hid x0'
 cases on with
 | true =>
  have hm:upd mk H (2 * (mk H / 2) + 1) = mkOn mk H true:=rfl
  have S1:=SC (2 * (mk H / 2) + 1) (by omega)
  rw [hm] at S1
  generalize mkOn mk H true = M at *
  generalize mk H = v at *
  replace S1:=Lib.hid S1
  replace fin:=Lib.hid fin
  generalize hv2 : 2 * (v / 2) = v2 at *
  generalize hv3:v2 + 1 = v3 at *
  replace hv2:=Lib.hid hv2
  replace hv3:=Lib.hid hv3
  clear h hf hz hI i1 i2 SC hm
  go_enter Tryz.func73,Tryz.ntmps73
  go_wp2_with fail
  refine MC.out.mono ?_
  rintro e w1 ⟨rfl,b⟩
  have x1:=x0'.out w1 b
  have S2:=Lib.hid (S1.out w1 b)
  replace b:=Lib.hid b
  go_wp2_with fail
  refine S2.out.mono ?_
  rintro e w2 ⟨rfl,o,R⟩
  have T:=Lib.hid (fin.out w1 w2 b.out o R)
  clear o R S1 S2
  go_wp2
  go_end0
  exact ⟨rfl,T.out⟩
 | false =>
  have hm:upd mk H (2 * (mk H / 2)) = mkOn mk H false:=rfl
  have S1:=SC (2 * (mk H / 2)) (by omega)
  rw [hm] at S1
  generalize mkOn mk H false = M at *
  generalize mk H = v at *
  replace S1:=Lib.hid S1
  replace fin:=Lib.hid fin
  generalize hv2 : 2 * (v / 2) = v2 at *
  replace hv2:=Lib.hid hv2
  clear h hf hz hI i1 i2 SC hm
  go_enter Tryz.func73,Tryz.ntmps73
  go_wp2_with fail
  refine MC.out.mono ?_
  rintro e w1 ⟨rfl,b⟩
  have x1:=x0'.out w1 b
  have S2:=Lib.hid (S1.out w1 b)
  replace b:=Lib.hid b
  go_wp2_with fail
  refine S2.out.mono ?_
  rintro e w2 ⟨rfl,o,R⟩
  have T:=Lib.hid (fin.out w1 w2 b.out o R)
  clear o R S1 S2
  go_wp2
  go_end0
  exact ⟨rfl,T.out⟩
end
theorem pushN_is {s:St} {Z:Nat -> Option Zd} {Ls:Nat -> Nat -> List Nat} {H:Nat} {kind:Int} {last:Bool} (h:(pushN qc s Z Ls H kind last).1 = 0):isN qc s Z H = true:=by
 unfold pushN at h
 split at h
 ·cases h
 split at h
 ·cases h
 ·rename_i h1
  simpa using h1
section
variable {w:World} {L:Lay} {s:St} {bs:List UInt8} {Z:Nat -> Option Zd} {gq gl:Nat} {Ls:Nat -> Nat -> List Nat} {mk:Nat -> Nat} {g:Nat} {hot warm:Int} (h:LS w L s bs Z gq gl Ls mk g hot warm)
include h
theorem enterC (H:Nat) (hH:H < 18446744073709551616):Calls Tryz.prog 36 #[.pointer (some ⟨g,0,none⟩),.int .u64 (H:Int)] w fun e w' => e = .returned (.int .i64 ((pushN qc s Z Ls H 1 false).1:Int)) /\ DL w w' L s bs Z gq gl (pushN qc s Z Ls H 1 false).2 (entM mk H (pushN qc s Z Ls H 1 false).1) g hot warm:=by
 obtain ⟨-,x1, -, -⟩:=h.cells
 have PC:=pushP h.q H hH 1
 have hI:=pushN_is (s:=s) (Z:=Z) (Ls:=Ls) (H:=H) (kind:=1) (last:=false)
 obtain ⟨RR,Lx,hP⟩:∃ RR Lx,pushN qc s Z Ls H 1 false = (RR,Lx):=⟨_,_,rfl⟩
 rw [hP] at PC hI ⊢
 simp only at PC hI ⊢
 have hd:=fun w1 (D:Did w w1 L qc s bs Z gq gl (RR,Lx)) => h.did D
 replace PC:=Lib.hid PC
 replace hd:=Lib.hid hd
 replace hI:=Lib.hid hI
 clear h hP
 by_cases h0:RR = 0
 ·subst h0
  have em:entM mk H 0 = mkOn mk H false:=rfl
  rw [em]
  go_enter Tryz.func36,Tryz.ntmps36
  go_wp2_with fail
  refine PC.out.mono ?_
  rintro e w1 ⟨rfl,D⟩
  obtain ⟨o1,bs1,Z1,e1,z1,S1⟩:=hd.out w1 D
  have MC:=Lib.hid (lmarkC S1 H hH (by rw [isN_congr z1]; first | exact hI.out rfl | exact hI.out trivial) false)
  have tr:=Lib.hid (fun w2 (k:DL w1 w2 L s bs1 Z1 gq gl Lx (mkOn mk H false) g hot warm) => show DL w w2 L s bs Z gq gl Lx (mkOn mk H false) g hot warm from by
   obtain ⟨o2,bs2,Z2,e2,z2,S2⟩:=k
   exact ⟨two_trans o1 o2,bs2,Z2,e2.trans e1,fun H => (z2 H).trans (z1 H),S2⟩)
  clear D PC o1 S1 e1 z1 em
  go_wp2_with fail
  refine MC.out.mono ?_
  rintro e w2 ⟨rfl,D2⟩
  have T:=Lib.hid (tr.out w2 D2)
  clear D2
  go_wp2
  go_ret
  exact ⟨rfl,T.out⟩
 ·have em:entM mk H RR = mk:=if_neg h0
  rw [em]
  have d1:((RR:Int) == 0) = false:=by rw [beq_eq_false_iff_ne]; omega
  have d2:decide ((RR:Int) = 0) = false:=decide_eq_false (by omega)
  have d3:decide (RR = 0) = false:=decide_eq_false h0
  go_enter Tryz.func36,Tryz.ntmps36
  go_wp2_with fail
  refine PC.out.mono ?_
  rintro e w1 ⟨rfl,D⟩
  have D1:=Lib.hid (hd.out w1 D)
  clear D PC em
  go_wp2
  go_ret
  exact ⟨rfl,D1.out⟩
theorem leaveC (H:Nat) (hH:H < 18446744073709551616):Calls Tryz.prog 35 #[.pointer (some ⟨g,0,none⟩),.int .u64 (H:Int)] w fun e w' => e = .returned (.int .i64 ((dropN qc s Ls H).1:Int)) /\ DL w w' L s bs Z gq gl (dropN qc s Ls H).2 mk g hot warm:=by
 obtain ⟨-,x1, -, -⟩:=h.cells
 have PC:=dropC h.q H hH
 obtain ⟨RR,Lx,hP⟩:∃ RR Lx,dropN qc s Ls H = (RR,Lx):=⟨_,_,rfl⟩
 rw [hP] at PC ⊢
 simp only at PC ⊢
 have hd:=fun w1 (D:Did w w1 L qc s bs Z gq gl (RR,Lx)) => h.did D
 replace PC:=Lib.hid PC
 replace hd:=Lib.hid hd
 clear h hP
 go_enter Tryz.func35,Tryz.ntmps35
 go_wp2_with fail
 refine PC.out.mono ?_
 rintro e w1 ⟨rfl,D⟩
 have D1:=Lib.hid (hd.out w1 D)
 clear D PC
 go_wp2
 go_ret
 exact ⟨rfl,D1.out⟩
def lenX (Ls:Nat -> Nat -> List Nat) (x:Int) (k:Int):Nat:=(lsN qc Ls x k).length
theorem lenC3 (x:Int):Calls Tryz.prog 18 #[.pointer (some ⟨g,0,none⟩),.int .i64 x] w fun e w' => e = .returned (.tuple #[.int .i64 (lenX Ls x 1:Int),.int .i64 (lenX Ls x 2:Int),.int .i64 (lenX Ls x 3:Int)]) /\ Below w.heap.size w w':=by
 obtain ⟨-,x1, -, -⟩:=h.cells
 have c1:=fun n => lenC (h.below (below_drewN (Below.refl w.heap.size w) n)).q x 1
 have c2:=fun n => lenC (h.below (below_drewN (Below.refl w.heap.size w) n)).q x 2
 have c3:=fun n => lenC (h.below (below_drewN (Below.refl w.heap.size w) n)).q x 3
 unfold lenX
 generalize (lsN qc Ls x 1).length = n1 at *
 generalize (lsN qc Ls x 2).length = n2 at *
 generalize (lsN qc Ls x 3).length = n3 at *
 replace c1:=Lib.hid c1
 replace c2:=Lib.hid c2
 replace c3:=Lib.hid c3
 clear h
 go_enter Tryz.func18,Tryz.ntmps18
 go_upto_region 1 with fail
 go_quiet (first | (go_at_call 43; with_reducible exact quiet_left (c1.out _)) | (go_at_call 43; with_reducible exact quiet_left (c2.out _)) | (go_at_call 43; with_reducible exact quiet_left (c3.out _)) | fail)
 go_wp2
 go_ret3
 exact ⟨rfl,by first | exact below_drewN (Below.refl _ _) _ | exact Below.refl _ _⟩
end
def tailX (Ls:Nat -> Nat -> List Nat) (x k:Int):Nat:=(lsN qc Ls x k).getLast?.getD 0
def totX (Ls:Nat -> Nat -> List Nat) (x:Int):Nat:=lenX Ls x 1 + lenX Ls x 2 + lenX Ls x 3
def hotB (Ls:Nat -> Nat -> List Nat) (hot x:Int):Bool:=decide ((totX Ls x:Int) * hot < 100 * (lenX Ls x 1:Int))
def warmB (Ls:Nat -> Nat -> List Nat) (warm x:Int):Bool:=decide ((totX Ls x:Int) * warm < 100 * (lenX Ls x 2:Int))
def coldB (s:St) (Z:Nat -> Option Zd) (Ls:Nat -> Nat -> List Nat) (mk:Nat -> Nat) (x:Int):Bool:=decide (0 < lenX Ls x 3) && actB s Z mk (tailX Ls x 3)
def dueK (s:St) (Z:Nat -> Option Zd) (Ls:Nat -> Nat -> List Nat) (mk:Nat -> Nat) (hot warm x:Int):Nat:=if hotB Ls hot x then 1 else if warmB Ls warm x then 2 else if coldB s Z Ls mk x then 3 else 0
structure Shr (hot warm:Int):Prop where
 h1 : 1 <= hot
 h2:hot <= 90
 w1 : 1 <= warm
 w2:warm <= 90
section
variable {w:World} {L:Lay} {s:St} {bs:List UInt8} {Z:Nat -> Option Zd} {gq gl:Nat} {Ls:Nat -> Nat -> List Nat} {mk:Nat -> Nat} {g:Nat} {hot warm:Int} (h:LS w L s bs Z gq gl Ls mk g hot warm)
include h
theorem LS.lenB (x k:Int):lenX Ls x k <= 134217729:=by
 obtain ⟨F,S1,q⟩:=h.q
 unfold lenX lsN
 split
 ·rename_i hv
  rw [<- q.n _ _ (by omega) (by omega)]
  exact q.nB S1.okc S1.zs.good (by omega) (by omega)
 ·simp
theorem LS.tail {x k:Int} (hne : 0 < lenX Ls x k):It qc s Z (tailX Ls x k) /\ tailX Ls x k < 18446744073709551616 /\ (0 <= x /\ x < 3 /\ 1 <= k /\ k <= 3) /\ tailX Ls x k ∈ Ls x.toNat (k.toNat - 1):=by
 obtain ⟨F,S1,q⟩:=h.q
 unfold lenX lsN at hne
 unfold tailX lsN
 split at hne
 ·rename_i hv
  rw [if_pos hv]
  have hx:x.toNat < qc.nc:=by omega
  have hk:k.toNat - 1 < 3:=by omega
  have hm:(Ls x.toNat (k.toNat - 1)).getLast?.getD 0 ∈ Ls x.toNat (k.toNat - 1):=by
   cases e:Ls x.toNat (k.toNat - 1) with
   | nil => rw [e] at hne; simp at hne
   | cons a l => rw [List.getLast?_eq_some_getLast (by simp)]; exact List.getLast_mem _
  have hI:=q.is hx hk hm
  obtain ⟨⟨i,y,p,hf⟩, -⟩:=hI
  have:=qc_nc
  exact ⟨q.is hx hk hm,good_lt S1.okc S1.zs.good hf,by omega,hm⟩
 ·simp at hne
theorem hotLongC (sh:Shr hot warm) (x:Int):Calls Tryz.prog 130 #[.pointer (some ⟨g,0,none⟩),.int .i64 x] w fun e w' => e = .returned (.bool (hotB Ls hot x)) /\ Below w.heap.size w w':=by
 have LC:=lenC3 h x
 have x2:=fun w1 (b:Below w.heap.size w w1) => (h.below b).cells.2.2.1
 have b1:=h.lenB x 1
 have b2:=h.lenB x 2
 have b3:=h.lenB x 3
 obtain ⟨h1,h2, -, -⟩:=sh
 unfold hotB totX
 generalize lenX Ls x 1 = n1 at *
 generalize lenX Ls x 2 = n2 at *
 generalize lenX Ls x 3 = n3 at *
 have q1:IntKind.i64.wrap (100 * (n1:Int)) = 100 * (n1:Int):=IntWalk.i64_in _ (by omega)
 have q2:IntKind.i64.wrap ((n1:Int) + (n2:Int)) = (n1:Int) + (n2:Int):=IntWalk.i64_in _ (by omega)
 have q3:IntKind.i64.wrap ((n1:Int) + (n2:Int) + (n3:Int)) = ((n1 + n2 + n3:Nat):Int):=by rw [IntWalk.i64_in _ (by omega)]; omega
 have hb:((n1 + n2 + n3:Nat):Int) * hot <= 402653187 * 90:=Int.mul_le_mul (by omega) h2 (by omega) (by omega)
 have hb0 : 0 <= ((n1 + n2 + n3:Nat):Int) * hot:=Int.mul_nonneg (by omega) (by omega)
 have q4:IntKind.i64.wrap (((n1 + n2 + n3:Nat):Int) * hot) = ((n1 + n2 + n3:Nat):Int) * hot:=IntWalk.i64_in _ (by omega)
 generalize n1 + n2 + n3 = nt at *
 replace x2:=Lib.hid x2
 replace LC:=Lib.hid LC
 clear h b1 b2 b3 hb hb0
 go_enter Tryz.func130,Tryz.ntmps130
 go_wp2_with fail
 refine LC.out.mono ?_
 rintro e w1 ⟨rfl,b⟩
 have x2:=x2.out w1 b
 replace b:=Lib.hid b
 go_wp2
 go_ret
 exact ⟨rfl,b.out⟩
theorem warmLongC (sh:Shr hot warm) (x:Int):Calls Tryz.prog 131 #[.pointer (some ⟨g,0,none⟩),.int .i64 x] w fun e w' => e = .returned (.bool (warmB Ls warm x)) /\ Below w.heap.size w w':=by
 have LC:=lenC3 h x
 have x2:=fun w1 (b:Below w.heap.size w w1) => (h.below b).cells.2.2.2
 have b1:=h.lenB x 1
 have b2:=h.lenB x 2
 have b3:=h.lenB x 3
 obtain ⟨-, -,h1,h2⟩:=sh
 unfold warmB totX
 generalize lenX Ls x 1 = n1 at *
 generalize lenX Ls x 2 = n2 at *
 generalize lenX Ls x 3 = n3 at *
 have q1:IntKind.i64.wrap (100 * (n2:Int)) = 100 * (n2:Int):=IntWalk.i64_in _ (by omega)
 have q2:IntKind.i64.wrap ((n1:Int) + (n2:Int)) = (n1:Int) + (n2:Int):=IntWalk.i64_in _ (by omega)
 have q3:IntKind.i64.wrap ((n1:Int) + (n2:Int) + (n3:Int)) = ((n1 + n2 + n3:Nat):Int):=by rw [IntWalk.i64_in _ (by omega)]; omega
 have hb:((n1 + n2 + n3:Nat):Int) * warm <= 402653187 * 90:=Int.mul_le_mul (by omega) h2 (by omega) (by omega)
 have hb0 : 0 <= ((n1 + n2 + n3:Nat):Int) * warm:=Int.mul_nonneg (by omega) (by omega)
 have q4:IntKind.i64.wrap (((n1 + n2 + n3:Nat):Int) * warm) = ((n1 + n2 + n3:Nat):Int) * warm:=IntWalk.i64_in _ (by omega)
 generalize n1 + n2 + n3 = nt at *
 replace x2:=Lib.hid x2
 replace LC:=Lib.hid LC
 clear h b1 b2 b3 hb hb0
 go_enter Tryz.func131,Tryz.ntmps131
 go_wp2_with fail
 refine LC.out.mono ?_
 rintro e w1 ⟨rfl,b⟩
 have x2:=x2.out w1 b
 replace b:=Lib.hid b
 go_wp2
 go_ret
 exact ⟨rfl,b.out⟩
theorem coldActiveC (x:Int):Calls Tryz.prog 132 #[.pointer (some ⟨g,0,none⟩),.int .i64 x] w fun e w' => e = .returned (.bool (coldB s Z Ls mk x)) /\ Below w.heap.size w w':=by
 obtain ⟨-,x1, -, -⟩:=h.cells
 have TC:=tailC h.q x 3
 unfold coldB
 by_cases hn : 0 < lenX Ls x 3
 ·have AC:=activeC h (tailX Ls x 3) (h.tail hn).2.1
  rw [decide_eq_true hn,Bool.true_and]
  have d1:decide (0 < (lsN qc Ls x 3).length) = true:=decide_eq_true hn
  rw [d1] at TC
  have e1:(lsN qc Ls x 3).getLast?.getD 0 = tailX Ls x 3:=rfl
  rw [e1] at TC
  generalize tailX Ls x 3 = T at *
  generalize actB s Z mk T = B at *
  replace AC:=Lib.hid AC
  replace TC:=Lib.hid TC
  clear h hn d1 e1
  go_enter Tryz.func132,Tryz.ntmps132
  go_wp2_with fail
  refine TC.out.mono ?_
  rintro e w1 ⟨rfl,rfl⟩
  go_wp2_with fail
  refine AC.out.mono ?_
  rintro e w1 ⟨rfl,b⟩
  replace b:=Lib.hid b
  go_wp2
  go_ret
  exact ⟨rfl,b.out⟩
 ·rw [decide_eq_false hn,Bool.false_and]
  have d1:decide (0 < (lsN qc Ls x 3).length) = false:=decide_eq_false hn
  rw [d1] at TC
  generalize (lsN qc Ls x 3).getLast?.getD 0 = T at *
  replace TC:=Lib.hid TC
  clear h hn d1
  go_enter Tryz.func132,Tryz.ntmps132
  go_wp2_with fail
  refine TC.out.mono ?_
  rintro e w1 ⟨rfl,rfl⟩
  go_wp2
  go_ret
  exact ⟨rfl,Below.refl _ _⟩
end
end Go.Proofs.YtngehaiigbbknaaGreat.Que
