/-
  Contracts and lemmas, joined: QueueVisit, RoundHeld.
-/
import Derived.Deep.RegionHeld
import Derived.Test.YtfjiphibalhcgaaGreatG12
set_option linter.unusedSimpArgs false
set_option linter.unusedVariables false
set_option linter.unusedSectionVars false
set_option maxRecDepth 100000
/-
  The walk of visit: what the body of a range does.
-/
namespace Go.Proofs.YtfjiphibalhcgaaGreat.Que
open Go.RowKit Base Arena Cls Itm
structure Vis where
 dO:Int
 a:Int
 b:Int
 other:Bool
 stop:Bool
def Vis.cells (v:Vis):Array Value:=#[.int .i64 v.dO,.int .i64 v.a,.int .i64 v.b,.bool v.other,.bool v.stop]
structure Vis.Ok (v:Vis):Prop where
 d:Cls.In v.dO
 a:Cls.In v.a
 b:Cls.In v.b
section
variable {N:Nat} {w:World} {W:W6} {s:St} {bs:List UInt8} {Z:Nat -> Option Zd} {Ls:Nat -> Nat -> List Nat} {r:RS} {laid told:List Nat} {t:Nat} (h:WI N w W s bs Z Ls r laid told t) (ht:t <= 60000)
include h ht
theorem movesV (o:Op6) (ok:o.Ok) (hd:o.dO = 4 \/ o.dO = 5 \/ o.dO = 6 \/ o.dO = 7 \/ o.dO = 12):Calls Tryz.prog 48 #[.pointer (some ⟨W.b,0,none⟩),.agg o.cells] w fun e w' => e = .returned (.bool true) /\ GoesM N w w' W s bs Z r laid told t:=by
 rcases hd with hd | hd | hd | hd | hd
 ·exact movesPush h ht o ok hd
 ·exact movesLast h ht o ok hd
 ·exact movesDrop h ht o ok hd
 ·exact movesShift h ht o ok hd
 ·exact movesSwap h ht o ok hd
set_option maxHeartbeats 3200000 in
theorem visitC (v:Vis) (ok:v.Ok) (H:Nat) (hH:H < 18446744073709551616):Calls Tryz.prog 19 #[.pointer (some ⟨W.b,0,none⟩),.agg v.cells,.int .u64 (H:Int)] w fun e w' => e = .returned (.bool true) /\ GoesM N w w' W s bs Z r laid told t:=by
 obtain ⟨w1,hw1⟩:∃ w1,w1 = w.alloc (.cells v.cells 52):=⟨_,rfl⟩
 have B1:Blk w1 w.heap.size 52 v.cells:=by rw [hw1]; exact Blk.new w _ _
 have b1:Below w.heap.size w w1:=by rw [hw1]; exact (Below.refl _ _).alloc (Nat.le_refl _) _
 have h1:=h.below b1
 have x0:w1.cell? ⟨w.heap.size,0,none⟩ = some (.int .i64 v.dO):=B1.cell 0
 have x1:w1.cell? ⟨w.heap.size,1,none⟩ = some (.int .i64 v.a):=B1.cell 1
 have x2:w1.cell? ⟨w.heap.size,2,none⟩ = some (.int .i64 v.b):=B1.cell 2
 have x3:w1.cell? ⟨w.heap.size,3,none⟩ = some (.bool v.other):=B1.cell 3
 obtain ⟨-, -, -, -,y4⟩:=h1.wat.cW
 obtain ⟨A,cp,hv⟩:=own_is h1.wat.told
 have own:=h1.wat.told
 rw [hv] at y4 own
 have htl:=h.tl
 have WD:=Lib.hid (fun w => withinI (w:=w) v.dO 6 ok.d (by omega) (by omega))
 have hol:=withinI_lt v.dO (n:=6) (by omega)
 obtain ⟨oo,hoe⟩:∃ oo,oo = (v.dO % ((6:Nat):Int)).toNat:=⟨_,rfl⟩
 rw [<- hoe] at WD hol
 replace hoe:=Lib.hid hoe
 have tlt:=h.tlt
 have MV:=fun (wy:World) (k:Below w.heap.size w wy) (d:Int) (H2:Nat) (hH2:H2 < 18446744073709551616) (hd:d = 4 \/ d = 5 \/ d = 6 \/ d = 7 \/ d = 12) => movesV (h.below k) ht ⟨d,0,v.b,v.b,H2,true⟩ ⟨by show Cls.In d; unfold Cls.In; omega,by show Cls.In 0; unfold Cls.In; omega,ok.b,ok.b,hH2⟩ hd
 have GM0:=fun (wy w':World) (k:Below w.heap.size w wy) (G:GoesM N wy w' W s bs Z r laid told t) => G.behind k
 have GS0:=fun (wy:World) (k:Below w.heap.size w wy) => h.goesM k
 obtain ⟨N0,hN⟩:∃ N0,N0 = w.heap.size:=⟨_,rfl⟩
 rw [<- hN] at x0 x1 x2 x3
 obtain ⟨Q,hQ⟩:∃ Q:World -> Prop,Q = fun w' => GoesM N w w' W s bs Z r laid told t:=⟨_,rfl⟩
 have GM:∀ (wy w':World),Below w.heap.size w wy -> GoesM N wy w' W s bs Z r laid told t -> Q w':=fun wy w' k G => by rw [hQ]; exact GM0 wy w' k G
 have GS:∀ wy:World,Below w.heap.size w wy -> Q wy:=fun wy k => by rw [hQ]; exact GS0 wy k
 clear GM0 GS0
 refine Calls.mono (R:=fun e w' => e = .returned (.bool true) /\ Q w') ?_ fun e w' k => by rw [hQ] at k; exact k
 have tl:=B1.lt
 rw [<- hN] at tl
 have bN0:∀ wy,Below w1.heap.size w1 wy -> wy.cell? ⟨N0,0,none⟩ = some (.int .i64 v.dO) /\ wy.cell? ⟨N0,2,none⟩ = some (.int .i64 v.b):=fun wy k => ⟨(k.cell (p:=⟨N0,0,none⟩) tl).trans x0,(k.cell (p:=⟨N0,2,none⟩) tl).trans x2⟩
 have bW:∀ wy,Below w1.heap.size w1 wy -> Below w.heap.size w wy:=fun wy k => b1.trans (k.mono b1.size)
 have hc:(v.other = false) \/ (v.other = true /\ told = []) \/ (v.other = true /\ told ≠ []):=by
  cases v.other with
  | false => exact .inl rfl
  | true => by_cases e:told = []; exact .inr (.inl ⟨rfl,e⟩); exact .inr (.inr ⟨rfl,e⟩)
 have WA:told ≠ [] -> ∃ i H2:Nat,i < told.length /\ H2 < 18446744073709551616 /\ (∀ w,Calls Tryz.prog 16 #[.int .i64 v.a,.int .i64 (told.length:Int)] w fun e w' => e = .returned (.int .i64 (i:Int)) /\ w = w') /\ ∃ g c',A = some ⟨g,0,none⟩ /\ c' = cp /\ w1.cell? ⟨g,i,none⟩ = some (.int .u64 (H2:Int)):=fun hne => by
  obtain ⟨hlt,hx⟩:=told_at hne v.a
  have hp : 0 < told.length:=List.length_pos_iff.2 hne
  obtain ⟨g,c',hv2,u⟩:=own_uv own hx
  injection hv2 with e1 e2 e3
  exact ⟨_,_,hlt,tlt _ (List.mem_of_getElem? hx),fun w => withinI (w:=w) v.a told.length ok.a (by omega) (by omega),g,c',e1,e3.symm,u⟩
 generalize hnl:told.length = n at *
 have hn0:told = [] -> n = 0:=fun e => by rw [<- hnl,e]; rfl
 have hn1:told ≠ [] -> 0 < n:=fun e => by rw [<- hnl]; exact List.length_pos_iff.2 e
 generalize told = tld at *
 unfold Vis.cells at hw1 ⊢
 replace MV:=Lib.hid MV
 replace GM:=Lib.hid GM
 replace GS:=Lib.hid GS
 replace bN0:=Lib.hid bN0
 replace bW:=Lib.hid bW
 replace hw1:=Lib.hid hw1
 replace hN:=Lib.hid hN
 replace hQ:=Lib.hid hQ
 replace hnl:=Lib.hid hnl
 unfold Op6.cells at MV
 clear h h1 B1 b1 own hv tlt
 rcases hc with ho | ⟨ho,hto⟩ | ⟨ho,hto⟩
 ·rw [ho] at x3 hw1 ⊢
  clear ho WA hn0 hn1
  go_enter Tryz.func19,Tryz.ntmps19
  go_upto_region 1 with fail
  rw [<- hN.out, <- hw1.out]
  go_upto_region 3 with fail
  obtain ⟨H2,eH⟩:∃ H2,H2 = H:=⟨_,rfl⟩
  have hH2:H2 < 18446744073709551616:=by rw [eH]; exact hH
  obtain ⟨wz,hwz⟩:∃ wz,wz = w1:=⟨_,rfl⟩
  have bz:Below w1.heap.size w1 wz:=by rw [hwz]; exact Below.refl _ _
  rw [<- eH, <- hwz]
  clear eH hwz
  clear x0 x1 x2 x3 y4
  obtain ⟨z0,z2⟩:=bN0.out wz bz
  obtain ⟨N2,hN2⟩:∃ N2,N2 = wz.heap.size:=⟨_,rfl⟩
  obtain ⟨wy,hwy⟩:∃ wy,wy = wz.alloc (.cells #[.int .i64 0,.int .i64 0,.int .i64 v.b,.int .i64 v.b,.int .u64 (H2:Int),.bool true] 28):=⟨_,rfl⟩
  have By:Blk wy N2 28 #[.int .i64 0,.int .i64 0,.int .i64 v.b,.int .i64 v.b,.int .u64 (H2:Int),.bool true]:=by rw [hwy,hN2]; exact Blk.new wz _ _
  have by1:Below wz.heap.size wz wy:=by rw [hwy]; exact (Below.refl _ _).alloc (Nat.le_refl _) _
  have bY:=bW.out wy (bz.trans (by1.mono bz.size))
  obtain ⟨z0y, -⟩:=bN0.out wy (bz.trans (by1.mono bz.size))
  have hlo:w1.heap.size <= N2:=by rw [hN2]; exact bz.size
  replace hN2:=Lib.hid hN2
  replace hwy:=Lib.hid hwy
  clear by1
  go_upto_region 4 with fail
  rw [<- hN2.out, <- hwy.out]
  clear z0 z2
  go_wp2_with fail
  refine (WD.out _).mono ?_
  rintro e w' ⟨rfl,rfl⟩
  have cy:=By.cell 0
  have fy:=By.frozen 0
  have ho6:oo = 0 \/ oo = 1 \/ oo = 2 \/ oo = 3 \/ oo = 4 \/ oo = 5:=by omega
  rcases ho6 with hoo | hoo | hoo | hoo | hoo | hoo
  ·have s1:((oo:Int) == 1) = false:=by rw [beq_eq_false_iff_ne]; omega
   have t1:decide ((oo:Int) = 1) = false:=decide_eq_false (by omega)
   have v1:decide (oo = 1) = false:=decide_eq_false (by omega)
   have s2:((oo:Int) == 2) = false:=by rw [beq_eq_false_iff_ne]; omega
   have t2:decide ((oo:Int) = 2) = false:=decide_eq_false (by omega)
   have v2:decide (oo = 2) = false:=decide_eq_false (by omega)
   have s3:((oo:Int) == 3) = false:=by rw [beq_eq_false_iff_ne]; omega
   have t3:decide ((oo:Int) = 3) = false:=decide_eq_false (by omega)
   have v3:decide (oo = 3) = false:=decide_eq_false (by omega)
   have s4:((oo:Int) == 4) = false:=by rw [beq_eq_false_iff_ne]; omega
   have t4:decide ((oo:Int) = 4) = false:=decide_eq_false (by omega)
   have v4:decide (oo = 4) = false:=decide_eq_false (by omega)
   have s5:((oo:Int) == 5) = false:=by rw [beq_eq_false_iff_ne]; omega
   have t5:decide ((oo:Int) = 5) = false:=decide_eq_false (by omega)
   have v5:decide (oo = 5) = false:=decide_eq_false (by omega)
   replace hoo:=Lib.hid hoo
   have F:=Lib.hid (GS.out wy bY)
   clear MV GM GS bN0 By cy fy
   go_wp2
   go_ret
   exact ⟨rfl,F.out⟩
  ·have s1:((oo:Int) == 1) = true:=by rw [beq_iff_eq]; omega
   have t1:decide ((oo:Int) = 1) = true:=decide_eq_true (by omega)
   have v1:decide (oo = 1) = true:=decide_eq_true hoo
   have s2:((oo:Int) == 2) = false:=by rw [beq_eq_false_iff_ne]; omega
   have t2:decide ((oo:Int) = 2) = false:=decide_eq_false (by omega)
   have v2:decide (oo = 2) = false:=decide_eq_false (by omega)
   have s3:((oo:Int) == 3) = false:=by rw [beq_eq_false_iff_ne]; omega
   have t3:decide ((oo:Int) = 3) = false:=decide_eq_false (by omega)
   have v3:decide (oo = 3) = false:=decide_eq_false (by omega)
   have s4:((oo:Int) == 4) = false:=by rw [beq_eq_false_iff_ne]; omega
   have t4:decide ((oo:Int) = 4) = false:=decide_eq_false (by omega)
   have v4:decide (oo = 4) = false:=decide_eq_false (by omega)
   have s5:((oo:Int) == 5) = false:=by rw [beq_eq_false_iff_ne]; omega
   have t5:decide ((oo:Int) = 5) = false:=decide_eq_false (by omega)
   have v5:decide (oo = 5) = false:=decide_eq_false (by omega)
   replace hoo:=Lib.hid hoo
   obtain ⟨wq,hwq⟩:∃ wq,wq = wy.setCell ⟨N2,0,none⟩ (.int .i64 6):=⟨_,rfl⟩
   have Bq:Blk wq N2 28 #[.int .i64 6,.int .i64 0,.int .i64 v.b,.int .i64 v.b,.int .u64 (H2:Int),.bool true]:=by rw [hwq]; exact By.set_ 0 _
   have bq:Below w.heap.size w wq:=by rw [hwq]; exact bY.setCell (p:=⟨N2,0,none⟩) (by show w.heap.size <= N2; have:=bz.size; have:=hN.out; omega) _
   have M:=Lib.hid (MV.out wq bq 6 H2 hH2 (by omega))
   have k0:=Bq.cell 0
   have k1:=Bq.cell 1
   have k2:=Bq.cell 2
   have k3:=Bq.cell 3
   have k4:=Bq.cell 4
   have k5:=Bq.cell 5
   have bq:=Lib.hid bq
   replace hwq:=Lib.hid hwq
   clear By bY Bq MV GS bN0
   go_upto_region 16 with fail
   rw [<- hwq.out]
   clear cy fy
   go_wp2_with fail
   refine M.out.mono ?_
   rintro e w' ⟨rfl,G⟩
   have F:=Lib.hid (GM.out wq w' bq.out G)
   clear M GM G k0 k1 k2 k3 k4 k5
   go_wp2
   go_ret
   exact ⟨rfl,F.out⟩
  ·have s1:((oo:Int) == 1) = false:=by rw [beq_eq_false_iff_ne]; omega
   have t1:decide ((oo:Int) = 1) = false:=decide_eq_false (by omega)
   have v1:decide (oo = 1) = false:=decide_eq_false (by omega)
   have s2:((oo:Int) == 2) = true:=by rw [beq_iff_eq]; omega
   have t2:decide ((oo:Int) = 2) = true:=decide_eq_true (by omega)
   have v2:decide (oo = 2) = true:=decide_eq_true hoo
   have s3:((oo:Int) == 3) = false:=by rw [beq_eq_false_iff_ne]; omega
   have t3:decide ((oo:Int) = 3) = false:=decide_eq_false (by omega)
   have v3:decide (oo = 3) = false:=decide_eq_false (by omega)
   have s4:((oo:Int) == 4) = false:=by rw [beq_eq_false_iff_ne]; omega
   have t4:decide ((oo:Int) = 4) = false:=decide_eq_false (by omega)
   have v4:decide (oo = 4) = false:=decide_eq_false (by omega)
   have s5:((oo:Int) == 5) = false:=by rw [beq_eq_false_iff_ne]; omega
   have t5:decide ((oo:Int) = 5) = false:=decide_eq_false (by omega)
   have v5:decide (oo = 5) = false:=decide_eq_false (by omega)
   replace hoo:=Lib.hid hoo
   obtain ⟨wq,hwq⟩:∃ wq,wq = wy.setCell ⟨N2,0,none⟩ (.int .i64 7):=⟨_,rfl⟩
   have Bq:Blk wq N2 28 #[.int .i64 7,.int .i64 0,.int .i64 v.b,.int .i64 v.b,.int .u64 (H2:Int),.bool true]:=by rw [hwq]; exact By.set_ 0 _
   have bq:Below w.heap.size w wq:=by rw [hwq]; exact bY.setCell (p:=⟨N2,0,none⟩) (by show w.heap.size <= N2; have:=bz.size; have:=hN.out; omega) _
   have M:=Lib.hid (MV.out wq bq 7 H2 hH2 (by omega))
   have k0:=Bq.cell 0
   have k1:=Bq.cell 1
   have k2:=Bq.cell 2
   have k3:=Bq.cell 3
   have k4:=Bq.cell 4
   have k5:=Bq.cell 5
   have bq:=Lib.hid bq
   replace hwq:=Lib.hid hwq
   clear By bY Bq MV GS bN0
   go_upto_region 16 with fail
   rw [<- hwq.out]
   clear cy fy
   go_wp2_with fail
   refine M.out.mono ?_
   rintro e w' ⟨rfl,G⟩
   have F:=Lib.hid (GM.out wq w' bq.out G)
   clear M GM G k0 k1 k2 k3 k4 k5
   go_wp2
   go_ret
   exact ⟨rfl,F.out⟩
  ·have s1:((oo:Int) == 1) = false:=by rw [beq_eq_false_iff_ne]; omega
   have t1:decide ((oo:Int) = 1) = false:=decide_eq_false (by omega)
   have v1:decide (oo = 1) = false:=decide_eq_false (by omega)
   have s2:((oo:Int) == 2) = false:=by rw [beq_eq_false_iff_ne]; omega
   have t2:decide ((oo:Int) = 2) = false:=decide_eq_false (by omega)
   have v2:decide (oo = 2) = false:=decide_eq_false (by omega)
   have s3:((oo:Int) == 3) = true:=by rw [beq_iff_eq]; omega
   have t3:decide ((oo:Int) = 3) = true:=decide_eq_true (by omega)
   have v3:decide (oo = 3) = true:=decide_eq_true hoo
   have s4:((oo:Int) == 4) = false:=by rw [beq_eq_false_iff_ne]; omega
   have t4:decide ((oo:Int) = 4) = false:=decide_eq_false (by omega)
   have v4:decide (oo = 4) = false:=decide_eq_false (by omega)
   have s5:((oo:Int) == 5) = false:=by rw [beq_eq_false_iff_ne]; omega
   have t5:decide ((oo:Int) = 5) = false:=decide_eq_false (by omega)
   have v5:decide (oo = 5) = false:=decide_eq_false (by omega)
   replace hoo:=Lib.hid hoo
   obtain ⟨wq,hwq⟩:∃ wq,wq = wy.setCell ⟨N2,0,none⟩ (.int .i64 4):=⟨_,rfl⟩
   have Bq:Blk wq N2 28 #[.int .i64 4,.int .i64 0,.int .i64 v.b,.int .i64 v.b,.int .u64 (H2:Int),.bool true]:=by rw [hwq]; exact By.set_ 0 _
   have bq:Below w.heap.size w wq:=by rw [hwq]; exact bY.setCell (p:=⟨N2,0,none⟩) (by show w.heap.size <= N2; have:=bz.size; have:=hN.out; omega) _
   have M:=Lib.hid (MV.out wq bq 4 H2 hH2 (by omega))
   have k0:=Bq.cell 0
   have k1:=Bq.cell 1
   have k2:=Bq.cell 2
   have k3:=Bq.cell 3
   have k4:=Bq.cell 4
   have k5:=Bq.cell 5
   have bq:=Lib.hid bq
   replace hwq:=Lib.hid hwq
   clear By bY Bq MV GS bN0
   go_upto_region 16 with fail
   rw [<- hwq.out]
   clear cy fy
   go_wp2_with fail
   refine M.out.mono ?_
   rintro e w' ⟨rfl,G⟩
   have F:=Lib.hid (GM.out wq w' bq.out G)
   clear M GM G k0 k1 k2 k3 k4 k5
   go_wp2
   go_ret
   exact ⟨rfl,F.out⟩
  ·have s1:((oo:Int) == 1) = false:=by rw [beq_eq_false_iff_ne]; omega
   have t1:decide ((oo:Int) = 1) = false:=decide_eq_false (by omega)
   have v1:decide (oo = 1) = false:=decide_eq_false (by omega)
   have s2:((oo:Int) == 2) = false:=by rw [beq_eq_false_iff_ne]; omega
   have t2:decide ((oo:Int) = 2) = false:=decide_eq_false (by omega)
   have v2:decide (oo = 2) = false:=decide_eq_false (by omega)
   have s3:((oo:Int) == 3) = false:=by rw [beq_eq_false_iff_ne]; omega
   have t3:decide ((oo:Int) = 3) = false:=decide_eq_false (by omega)
   have v3:decide (oo = 3) = false:=decide_eq_false (by omega)
   have s4:((oo:Int) == 4) = true:=by rw [beq_iff_eq]; omega
   have t4:decide ((oo:Int) = 4) = true:=decide_eq_true (by omega)
   have v4:decide (oo = 4) = true:=decide_eq_true hoo
   have s5:((oo:Int) == 5) = false:=by rw [beq_eq_false_iff_ne]; omega
   have t5:decide ((oo:Int) = 5) = false:=decide_eq_false (by omega)
   have v5:decide (oo = 5) = false:=decide_eq_false (by omega)
   replace hoo:=Lib.hid hoo
   obtain ⟨wq,hwq⟩:∃ wq,wq = wy.setCell ⟨N2,0,none⟩ (.int .i64 5):=⟨_,rfl⟩
   have Bq:Blk wq N2 28 #[.int .i64 5,.int .i64 0,.int .i64 v.b,.int .i64 v.b,.int .u64 (H2:Int),.bool true]:=by rw [hwq]; exact By.set_ 0 _
   have bq:Below w.heap.size w wq:=by rw [hwq]; exact bY.setCell (p:=⟨N2,0,none⟩) (by show w.heap.size <= N2; have:=bz.size; have:=hN.out; omega) _
   have M:=Lib.hid (MV.out wq bq 5 H2 hH2 (by omega))
   have k0:=Bq.cell 0
   have k1:=Bq.cell 1
   have k2:=Bq.cell 2
   have k3:=Bq.cell 3
   have k4:=Bq.cell 4
   have k5:=Bq.cell 5
   have bq:=Lib.hid bq
   replace hwq:=Lib.hid hwq
   clear By bY Bq MV GS bN0
   go_upto_region 16 with fail
   rw [<- hwq.out]
   clear cy fy
   go_wp2_with fail
   refine M.out.mono ?_
   rintro e w' ⟨rfl,G⟩
   have F:=Lib.hid (GM.out wq w' bq.out G)
   clear M GM G k0 k1 k2 k3 k4 k5
   go_wp2
   go_ret
   exact ⟨rfl,F.out⟩
  ·have s1:((oo:Int) == 1) = false:=by rw [beq_eq_false_iff_ne]; omega
   have t1:decide ((oo:Int) = 1) = false:=decide_eq_false (by omega)
   have v1:decide (oo = 1) = false:=decide_eq_false (by omega)
   have s2:((oo:Int) == 2) = false:=by rw [beq_eq_false_iff_ne]; omega
   have t2:decide ((oo:Int) = 2) = false:=decide_eq_false (by omega)
   have v2:decide (oo = 2) = false:=decide_eq_false (by omega)
   have s3:((oo:Int) == 3) = false:=by rw [beq_eq_false_iff_ne]; omega
   have t3:decide ((oo:Int) = 3) = false:=decide_eq_false (by omega)
   have v3:decide (oo = 3) = false:=decide_eq_false (by omega)
   have s4:((oo:Int) == 4) = false:=by rw [beq_eq_false_iff_ne]; omega
   have t4:decide ((oo:Int) = 4) = false:=decide_eq_false (by omega)
   have v4:decide (oo = 4) = false:=decide_eq_false (by omega)
   have s5:((oo:Int) == 5) = true:=by rw [beq_iff_eq]; omega
   have t5:decide ((oo:Int) = 5) = true:=decide_eq_true (by omega)
   have v5:decide (oo = 5) = true:=decide_eq_true hoo
   replace hoo:=Lib.hid hoo
   obtain ⟨wq,hwq⟩:∃ wq,wq = wy.setCell ⟨N2,0,none⟩ (.int .i64 12):=⟨_,rfl⟩
   have Bq:Blk wq N2 28 #[.int .i64 12,.int .i64 0,.int .i64 v.b,.int .i64 v.b,.int .u64 (H2:Int),.bool true]:=by rw [hwq]; exact By.set_ 0 _
   have bq:Below w.heap.size w wq:=by rw [hwq]; exact bY.setCell (p:=⟨N2,0,none⟩) (by show w.heap.size <= N2; have:=bz.size; have:=hN.out; omega) _
   have M:=Lib.hid (MV.out wq bq 12 H2 hH2 (by omega))
   have k0:=Bq.cell 0
   have k1:=Bq.cell 1
   have k2:=Bq.cell 2
   have k3:=Bq.cell 3
   have k4:=Bq.cell 4
   have k5:=Bq.cell 5
   have bq:=Lib.hid bq
   replace hwq:=Lib.hid hwq
   clear By bY Bq MV GS bN0
   go_upto_region 16 with fail
   rw [<- hwq.out]
   clear cy fy
   go_wp2_with fail
   refine M.out.mono ?_
   rintro e w' ⟨rfl,G⟩
   have F:=Lib.hid (GM.out wq w' bq.out G)
   clear M GM G k0 k1 k2 k3 k4 k5
   go_wp2
   go_ret
   exact ⟨rfl,F.out⟩
 ·have hz:=hn0 hto
  subst hz
  rw [ho] at x3 hw1 ⊢
  clear ho WA hn0 hn1
  go_enter Tryz.func19,Tryz.ntmps19
  go_upto_region 1 with fail
  rw [<- hN.out, <- hw1.out]
  go_upto_region 3 with fail
  obtain ⟨H2,eH⟩:∃ H2,H2 = H:=⟨_,rfl⟩
  have hH2:H2 < 18446744073709551616:=by rw [eH]; exact hH
  obtain ⟨wz,hwz⟩:∃ wz,wz = w1:=⟨_,rfl⟩
  have bz:Below w1.heap.size w1 wz:=by rw [hwz]; exact Below.refl _ _
  rw [<- eH, <- hwz]
  clear eH hwz
  clear x0 x1 x2 x3 y4
  obtain ⟨z0,z2⟩:=bN0.out wz bz
  obtain ⟨N2,hN2⟩:∃ N2,N2 = wz.heap.size:=⟨_,rfl⟩
  obtain ⟨wy,hwy⟩:∃ wy,wy = wz.alloc (.cells #[.int .i64 0,.int .i64 0,.int .i64 v.b,.int .i64 v.b,.int .u64 (H2:Int),.bool true] 28):=⟨_,rfl⟩
  have By:Blk wy N2 28 #[.int .i64 0,.int .i64 0,.int .i64 v.b,.int .i64 v.b,.int .u64 (H2:Int),.bool true]:=by rw [hwy,hN2]; exact Blk.new wz _ _
  have by1:Below wz.heap.size wz wy:=by rw [hwy]; exact (Below.refl _ _).alloc (Nat.le_refl _) _
  have bY:=bW.out wy (bz.trans (by1.mono bz.size))
  obtain ⟨z0y, -⟩:=bN0.out wy (bz.trans (by1.mono bz.size))
  have hlo:w1.heap.size <= N2:=by rw [hN2]; exact bz.size
  replace hN2:=Lib.hid hN2
  replace hwy:=Lib.hid hwy
  clear by1
  go_upto_region 4 with fail
  rw [<- hN2.out, <- hwy.out]
  clear z0 z2
  go_wp2_with fail
  refine (WD.out _).mono ?_
  rintro e w' ⟨rfl,rfl⟩
  have cy:=By.cell 0
  have fy:=By.frozen 0
  have ho6:oo = 0 \/ oo = 1 \/ oo = 2 \/ oo = 3 \/ oo = 4 \/ oo = 5:=by omega
  rcases ho6 with hoo | hoo | hoo | hoo | hoo | hoo
  ·have s1:((oo:Int) == 1) = false:=by rw [beq_eq_false_iff_ne]; omega
   have t1:decide ((oo:Int) = 1) = false:=decide_eq_false (by omega)
   have v1:decide (oo = 1) = false:=decide_eq_false (by omega)
   have s2:((oo:Int) == 2) = false:=by rw [beq_eq_false_iff_ne]; omega
   have t2:decide ((oo:Int) = 2) = false:=decide_eq_false (by omega)
   have v2:decide (oo = 2) = false:=decide_eq_false (by omega)
   have s3:((oo:Int) == 3) = false:=by rw [beq_eq_false_iff_ne]; omega
   have t3:decide ((oo:Int) = 3) = false:=decide_eq_false (by omega)
   have v3:decide (oo = 3) = false:=decide_eq_false (by omega)
   have s4:((oo:Int) == 4) = false:=by rw [beq_eq_false_iff_ne]; omega
   have t4:decide ((oo:Int) = 4) = false:=decide_eq_false (by omega)
   have v4:decide (oo = 4) = false:=decide_eq_false (by omega)
   have s5:((oo:Int) == 5) = false:=by rw [beq_eq_false_iff_ne]; omega
   have t5:decide ((oo:Int) = 5) = false:=decide_eq_false (by omega)
   have v5:decide (oo = 5) = false:=decide_eq_false (by omega)
   replace hoo:=Lib.hid hoo
   have F:=Lib.hid (GS.out wy bY)
   clear MV GM GS bN0 By cy fy
   go_wp2
   go_ret
   exact ⟨rfl,F.out⟩
  ·have s1:((oo:Int) == 1) = true:=by rw [beq_iff_eq]; omega
   have t1:decide ((oo:Int) = 1) = true:=decide_eq_true (by omega)
   have v1:decide (oo = 1) = true:=decide_eq_true hoo
   have s2:((oo:Int) == 2) = false:=by rw [beq_eq_false_iff_ne]; omega
   have t2:decide ((oo:Int) = 2) = false:=decide_eq_false (by omega)
   have v2:decide (oo = 2) = false:=decide_eq_false (by omega)
   have s3:((oo:Int) == 3) = false:=by rw [beq_eq_false_iff_ne]; omega
   have t3:decide ((oo:Int) = 3) = false:=decide_eq_false (by omega)
   have v3:decide (oo = 3) = false:=decide_eq_false (by omega)
   have s4:((oo:Int) == 4) = false:=by rw [beq_eq_false_iff_ne]; omega
   have t4:decide ((oo:Int) = 4) = false:=decide_eq_false (by omega)
   have v4:decide (oo = 4) = false:=decide_eq_false (by omega)
   have s5:((oo:Int) == 5) = false:=by rw [beq_eq_false_iff_ne]; omega
   have t5:decide ((oo:Int) = 5) = false:=decide_eq_false (by omega)
   have v5:decide (oo = 5) = false:=decide_eq_false (by omega)
   replace hoo:=Lib.hid hoo
   obtain ⟨wq,hwq⟩:∃ wq,wq = wy.setCell ⟨N2,0,none⟩ (.int .i64 6):=⟨_,rfl⟩
   have Bq:Blk wq N2 28 #[.int .i64 6,.int .i64 0,.int .i64 v.b,.int .i64 v.b,.int .u64 (H2:Int),.bool true]:=by rw [hwq]; exact By.set_ 0 _
   have bq:Below w.heap.size w wq:=by rw [hwq]; exact bY.setCell (p:=⟨N2,0,none⟩) (by show w.heap.size <= N2; have:=bz.size; have:=hN.out; omega) _
   have M:=Lib.hid (MV.out wq bq 6 H2 hH2 (by omega))
   have k0:=Bq.cell 0
   have k1:=Bq.cell 1
   have k2:=Bq.cell 2
   have k3:=Bq.cell 3
   have k4:=Bq.cell 4
   have k5:=Bq.cell 5
   have bq:=Lib.hid bq
   replace hwq:=Lib.hid hwq
   clear By bY Bq MV GS bN0
   go_upto_region 16 with fail
   rw [<- hwq.out]
   clear cy fy
   go_wp2_with fail
   refine M.out.mono ?_
   rintro e w' ⟨rfl,G⟩
   have F:=Lib.hid (GM.out wq w' bq.out G)
   clear M GM G k0 k1 k2 k3 k4 k5
   go_wp2
   go_ret
   exact ⟨rfl,F.out⟩
  ·have s1:((oo:Int) == 1) = false:=by rw [beq_eq_false_iff_ne]; omega
   have t1:decide ((oo:Int) = 1) = false:=decide_eq_false (by omega)
   have v1:decide (oo = 1) = false:=decide_eq_false (by omega)
   have s2:((oo:Int) == 2) = true:=by rw [beq_iff_eq]; omega
   have t2:decide ((oo:Int) = 2) = true:=decide_eq_true (by omega)
   have v2:decide (oo = 2) = true:=decide_eq_true hoo
   have s3:((oo:Int) == 3) = false:=by rw [beq_eq_false_iff_ne]; omega
   have t3:decide ((oo:Int) = 3) = false:=decide_eq_false (by omega)
   have v3:decide (oo = 3) = false:=decide_eq_false (by omega)
   have s4:((oo:Int) == 4) = false:=by rw [beq_eq_false_iff_ne]; omega
   have t4:decide ((oo:Int) = 4) = false:=decide_eq_false (by omega)
   have v4:decide (oo = 4) = false:=decide_eq_false (by omega)
   have s5:((oo:Int) == 5) = false:=by rw [beq_eq_false_iff_ne]; omega
   have t5:decide ((oo:Int) = 5) = false:=decide_eq_false (by omega)
   have v5:decide (oo = 5) = false:=decide_eq_false (by omega)
   replace hoo:=Lib.hid hoo
   obtain ⟨wq,hwq⟩:∃ wq,wq = wy.setCell ⟨N2,0,none⟩ (.int .i64 7):=⟨_,rfl⟩
   have Bq:Blk wq N2 28 #[.int .i64 7,.int .i64 0,.int .i64 v.b,.int .i64 v.b,.int .u64 (H2:Int),.bool true]:=by rw [hwq]; exact By.set_ 0 _
   have bq:Below w.heap.size w wq:=by rw [hwq]; exact bY.setCell (p:=⟨N2,0,none⟩) (by show w.heap.size <= N2; have:=bz.size; have:=hN.out; omega) _
   have M:=Lib.hid (MV.out wq bq 7 H2 hH2 (by omega))
   have k0:=Bq.cell 0
   have k1:=Bq.cell 1
   have k2:=Bq.cell 2
   have k3:=Bq.cell 3
   have k4:=Bq.cell 4
   have k5:=Bq.cell 5
   have bq:=Lib.hid bq
   replace hwq:=Lib.hid hwq
   clear By bY Bq MV GS bN0
   go_upto_region 16 with fail
   rw [<- hwq.out]
   clear cy fy
   go_wp2_with fail
   refine M.out.mono ?_
   rintro e w' ⟨rfl,G⟩
   have F:=Lib.hid (GM.out wq w' bq.out G)
   clear M GM G k0 k1 k2 k3 k4 k5
   go_wp2
   go_ret
   exact ⟨rfl,F.out⟩
  ·have s1:((oo:Int) == 1) = false:=by rw [beq_eq_false_iff_ne]; omega
   have t1:decide ((oo:Int) = 1) = false:=decide_eq_false (by omega)
   have v1:decide (oo = 1) = false:=decide_eq_false (by omega)
   have s2:((oo:Int) == 2) = false:=by rw [beq_eq_false_iff_ne]; omega
   have t2:decide ((oo:Int) = 2) = false:=decide_eq_false (by omega)
   have v2:decide (oo = 2) = false:=decide_eq_false (by omega)
   have s3:((oo:Int) == 3) = true:=by rw [beq_iff_eq]; omega
   have t3:decide ((oo:Int) = 3) = true:=decide_eq_true (by omega)
   have v3:decide (oo = 3) = true:=decide_eq_true hoo
   have s4:((oo:Int) == 4) = false:=by rw [beq_eq_false_iff_ne]; omega
   have t4:decide ((oo:Int) = 4) = false:=decide_eq_false (by omega)
   have v4:decide (oo = 4) = false:=decide_eq_false (by omega)
   have s5:((oo:Int) == 5) = false:=by rw [beq_eq_false_iff_ne]; omega
   have t5:decide ((oo:Int) = 5) = false:=decide_eq_false (by omega)
   have v5:decide (oo = 5) = false:=decide_eq_false (by omega)
   replace hoo:=Lib.hid hoo
   obtain ⟨wq,hwq⟩:∃ wq,wq = wy.setCell ⟨N2,0,none⟩ (.int .i64 4):=⟨_,rfl⟩
   have Bq:Blk wq N2 28 #[.int .i64 4,.int .i64 0,.int .i64 v.b,.int .i64 v.b,.int .u64 (H2:Int),.bool true]:=by rw [hwq]; exact By.set_ 0 _
   have bq:Below w.heap.size w wq:=by rw [hwq]; exact bY.setCell (p:=⟨N2,0,none⟩) (by show w.heap.size <= N2; have:=bz.size; have:=hN.out; omega) _
   have M:=Lib.hid (MV.out wq bq 4 H2 hH2 (by omega))
   have k0:=Bq.cell 0
   have k1:=Bq.cell 1
   have k2:=Bq.cell 2
   have k3:=Bq.cell 3
   have k4:=Bq.cell 4
   have k5:=Bq.cell 5
   have bq:=Lib.hid bq
   replace hwq:=Lib.hid hwq
   clear By bY Bq MV GS bN0
   go_upto_region 16 with fail
   rw [<- hwq.out]
   clear cy fy
   go_wp2_with fail
   refine M.out.mono ?_
   rintro e w' ⟨rfl,G⟩
   have F:=Lib.hid (GM.out wq w' bq.out G)
   clear M GM G k0 k1 k2 k3 k4 k5
   go_wp2
   go_ret
   exact ⟨rfl,F.out⟩
  ·have s1:((oo:Int) == 1) = false:=by rw [beq_eq_false_iff_ne]; omega
   have t1:decide ((oo:Int) = 1) = false:=decide_eq_false (by omega)
   have v1:decide (oo = 1) = false:=decide_eq_false (by omega)
   have s2:((oo:Int) == 2) = false:=by rw [beq_eq_false_iff_ne]; omega
   have t2:decide ((oo:Int) = 2) = false:=decide_eq_false (by omega)
   have v2:decide (oo = 2) = false:=decide_eq_false (by omega)
   have s3:((oo:Int) == 3) = false:=by rw [beq_eq_false_iff_ne]; omega
   have t3:decide ((oo:Int) = 3) = false:=decide_eq_false (by omega)
   have v3:decide (oo = 3) = false:=decide_eq_false (by omega)
   have s4:((oo:Int) == 4) = true:=by rw [beq_iff_eq]; omega
   have t4:decide ((oo:Int) = 4) = true:=decide_eq_true (by omega)
   have v4:decide (oo = 4) = true:=decide_eq_true hoo
   have s5:((oo:Int) == 5) = false:=by rw [beq_eq_false_iff_ne]; omega
   have t5:decide ((oo:Int) = 5) = false:=decide_eq_false (by omega)
   have v5:decide (oo = 5) = false:=decide_eq_false (by omega)
   replace hoo:=Lib.hid hoo
   obtain ⟨wq,hwq⟩:∃ wq,wq = wy.setCell ⟨N2,0,none⟩ (.int .i64 5):=⟨_,rfl⟩
   have Bq:Blk wq N2 28 #[.int .i64 5,.int .i64 0,.int .i64 v.b,.int .i64 v.b,.int .u64 (H2:Int),.bool true]:=by rw [hwq]; exact By.set_ 0 _
   have bq:Below w.heap.size w wq:=by rw [hwq]; exact bY.setCell (p:=⟨N2,0,none⟩) (by show w.heap.size <= N2; have:=bz.size; have:=hN.out; omega) _
   have M:=Lib.hid (MV.out wq bq 5 H2 hH2 (by omega))
   have k0:=Bq.cell 0
   have k1:=Bq.cell 1
   have k2:=Bq.cell 2
   have k3:=Bq.cell 3
   have k4:=Bq.cell 4
   have k5:=Bq.cell 5
   have bq:=Lib.hid bq
   replace hwq:=Lib.hid hwq
   clear By bY Bq MV GS bN0
   go_upto_region 16 with fail
   rw [<- hwq.out]
   clear cy fy
   go_wp2_with fail
   refine M.out.mono ?_
   rintro e w' ⟨rfl,G⟩
   have F:=Lib.hid (GM.out wq w' bq.out G)
   clear M GM G k0 k1 k2 k3 k4 k5
   go_wp2
   go_ret
   exact ⟨rfl,F.out⟩
  ·have s1:((oo:Int) == 1) = false:=by rw [beq_eq_false_iff_ne]; omega
   have t1:decide ((oo:Int) = 1) = false:=decide_eq_false (by omega)
   have v1:decide (oo = 1) = false:=decide_eq_false (by omega)
   have s2:((oo:Int) == 2) = false:=by rw [beq_eq_false_iff_ne]; omega
   have t2:decide ((oo:Int) = 2) = false:=decide_eq_false (by omega)
   have v2:decide (oo = 2) = false:=decide_eq_false (by omega)
   have s3:((oo:Int) == 3) = false:=by rw [beq_eq_false_iff_ne]; omega
   have t3:decide ((oo:Int) = 3) = false:=decide_eq_false (by omega)
   have v3:decide (oo = 3) = false:=decide_eq_false (by omega)
   have s4:((oo:Int) == 4) = false:=by rw [beq_eq_false_iff_ne]; omega
   have t4:decide ((oo:Int) = 4) = false:=decide_eq_false (by omega)
   have v4:decide (oo = 4) = false:=decide_eq_false (by omega)
   have s5:((oo:Int) == 5) = true:=by rw [beq_iff_eq]; omega
   have t5:decide ((oo:Int) = 5) = true:=decide_eq_true (by omega)
   have v5:decide (oo = 5) = true:=decide_eq_true hoo
   replace hoo:=Lib.hid hoo
   obtain ⟨wq,hwq⟩:∃ wq,wq = wy.setCell ⟨N2,0,none⟩ (.int .i64 12):=⟨_,rfl⟩
   have Bq:Blk wq N2 28 #[.int .i64 12,.int .i64 0,.int .i64 v.b,.int .i64 v.b,.int .u64 (H2:Int),.bool true]:=by rw [hwq]; exact By.set_ 0 _
   have bq:Below w.heap.size w wq:=by rw [hwq]; exact bY.setCell (p:=⟨N2,0,none⟩) (by show w.heap.size <= N2; have:=bz.size; have:=hN.out; omega) _
   have M:=Lib.hid (MV.out wq bq 12 H2 hH2 (by omega))
   have k0:=Bq.cell 0
   have k1:=Bq.cell 1
   have k2:=Bq.cell 2
   have k3:=Bq.cell 3
   have k4:=Bq.cell 4
   have k5:=Bq.cell 5
   have bq:=Lib.hid bq
   replace hwq:=Lib.hid hwq
   clear By bY Bq MV GS bN0
   go_upto_region 16 with fail
   rw [<- hwq.out]
   clear cy fy
   go_wp2_with fail
   refine M.out.mono ?_
   rintro e w' ⟨rfl,G⟩
   have F:=Lib.hid (GM.out wq w' bq.out G)
   clear M GM G k0 k1 k2 k3 k4 k5
   go_wp2
   go_ret
   exact ⟨rfl,F.out⟩
 ·have hz:=hn1 hto
  have d1:decide ((0:Int) < (n:Int)) = true:=decide_eq_true (by omega)
  have d1':decide (0 < n) = true:=decide_eq_true hz
  obtain ⟨i,H2,hi,hH2,WC,g,c',rfl,rfl,cz⟩:=WA hto
  have i0:(0:Int) <= (i:Int):=by omega
  have i1:(i:Int) < (n:Int):=by omega
  replace WC:=Lib.hid WC
  rw [ho] at x3 hw1 ⊢
  clear ho hn0 hn1
  go_enter Tryz.func19,Tryz.ntmps19
  go_upto_region 1 with fail
  rw [<- hN.out, <- hw1.out]
  go_upto_region 2 with fail
  go_quiet (first | (go_at_call 16; with_reducible exact quiet_left (WC.out _)) | fail)
  go_upto_region 3 with fail
  rename Nat => nq9
  obtain ⟨wz,hwz⟩:∃ wz,wz = w1.drewN nq9:=⟨_,rfl⟩
  have bz:Below w1.heap.size w1 wz:=by rw [hwz]; exact below_drewN (Below.refl _ _) _
  rw [<- hwz]
  clear hwz
  clear x0 x1 x2 x3 y4
  obtain ⟨z0,z2⟩:=bN0.out wz bz
  obtain ⟨N2,hN2⟩:∃ N2,N2 = wz.heap.size:=⟨_,rfl⟩
  obtain ⟨wy,hwy⟩:∃ wy,wy = wz.alloc (.cells #[.int .i64 0,.int .i64 0,.int .i64 v.b,.int .i64 v.b,.int .u64 (H2:Int),.bool true] 28):=⟨_,rfl⟩
  have By:Blk wy N2 28 #[.int .i64 0,.int .i64 0,.int .i64 v.b,.int .i64 v.b,.int .u64 (H2:Int),.bool true]:=by rw [hwy,hN2]; exact Blk.new wz _ _
  have by1:Below wz.heap.size wz wy:=by rw [hwy]; exact (Below.refl _ _).alloc (Nat.le_refl _) _
  have bY:=bW.out wy (bz.trans (by1.mono bz.size))
  obtain ⟨z0y, -⟩:=bN0.out wy (bz.trans (by1.mono bz.size))
  have hlo:w1.heap.size <= N2:=by rw [hN2]; exact bz.size
  replace hN2:=Lib.hid hN2
  replace hwy:=Lib.hid hwy
  clear by1
  go_upto_region 4 with fail
  rw [<- hN2.out, <- hwy.out]
  clear z0 z2
  go_wp2_with fail
  refine (WD.out _).mono ?_
  rintro e w' ⟨rfl,rfl⟩
  have cy:=By.cell 0
  have fy:=By.frozen 0
  have ho6:oo = 0 \/ oo = 1 \/ oo = 2 \/ oo = 3 \/ oo = 4 \/ oo = 5:=by omega
  rcases ho6 with hoo | hoo | hoo | hoo | hoo | hoo
  ·have s1:((oo:Int) == 1) = false:=by rw [beq_eq_false_iff_ne]; omega
   have t1:decide ((oo:Int) = 1) = false:=decide_eq_false (by omega)
   have v1:decide (oo = 1) = false:=decide_eq_false (by omega)
   have s2:((oo:Int) == 2) = false:=by rw [beq_eq_false_iff_ne]; omega
   have t2:decide ((oo:Int) = 2) = false:=decide_eq_false (by omega)
   have v2:decide (oo = 2) = false:=decide_eq_false (by omega)
   have s3:((oo:Int) == 3) = false:=by rw [beq_eq_false_iff_ne]; omega
   have t3:decide ((oo:Int) = 3) = false:=decide_eq_false (by omega)
   have v3:decide (oo = 3) = false:=decide_eq_false (by omega)
   have s4:((oo:Int) == 4) = false:=by rw [beq_eq_false_iff_ne]; omega
   have t4:decide ((oo:Int) = 4) = false:=decide_eq_false (by omega)
   have v4:decide (oo = 4) = false:=decide_eq_false (by omega)
   have s5:((oo:Int) == 5) = false:=by rw [beq_eq_false_iff_ne]; omega
   have t5:decide ((oo:Int) = 5) = false:=decide_eq_false (by omega)
   have v5:decide (oo = 5) = false:=decide_eq_false (by omega)
   replace hoo:=Lib.hid hoo
   have F:=Lib.hid (GS.out wy bY)
   clear MV GM GS bN0 By cy fy
   go_wp2
   go_ret
   exact ⟨rfl,F.out⟩
  ·have s1:((oo:Int) == 1) = true:=by rw [beq_iff_eq]; omega
   have t1:decide ((oo:Int) = 1) = true:=decide_eq_true (by omega)
   have v1:decide (oo = 1) = true:=decide_eq_true hoo
   have s2:((oo:Int) == 2) = false:=by rw [beq_eq_false_iff_ne]; omega
   have t2:decide ((oo:Int) = 2) = false:=decide_eq_false (by omega)
   have v2:decide (oo = 2) = false:=decide_eq_false (by omega)
   have s3:((oo:Int) == 3) = false:=by rw [beq_eq_false_iff_ne]; omega
   have t3:decide ((oo:Int) = 3) = false:=decide_eq_false (by omega)
   have v3:decide (oo = 3) = false:=decide_eq_false (by omega)
   have s4:((oo:Int) == 4) = false:=by rw [beq_eq_false_iff_ne]; omega
   have t4:decide ((oo:Int) = 4) = false:=decide_eq_false (by omega)
   have v4:decide (oo = 4) = false:=decide_eq_false (by omega)
   have s5:((oo:Int) == 5) = false:=by rw [beq_eq_false_iff_ne]; omega
   have t5:decide ((oo:Int) = 5) = false:=decide_eq_false (by omega)
   have v5:decide (oo = 5) = false:=decide_eq_false (by omega)
   replace hoo:=Lib.hid hoo
   obtain ⟨wq,hwq⟩:∃ wq,wq = wy.setCell ⟨N2,0,none⟩ (.int .i64 6):=⟨_,rfl⟩
   have Bq:Blk wq N2 28 #[.int .i64 6,.int .i64 0,.int .i64 v.b,.int .i64 v.b,.int .u64 (H2:Int),.bool true]:=by rw [hwq]; exact By.set_ 0 _
   have bq:Below w.heap.size w wq:=by rw [hwq]; exact bY.setCell (p:=⟨N2,0,none⟩) (by show w.heap.size <= N2; have:=bz.size; have:=hN.out; omega) _
   have M:=Lib.hid (MV.out wq bq 6 H2 hH2 (by omega))
   have k0:=Bq.cell 0
   have k1:=Bq.cell 1
   have k2:=Bq.cell 2
   have k3:=Bq.cell 3
   have k4:=Bq.cell 4
   have k5:=Bq.cell 5
   have bq:=Lib.hid bq
   replace hwq:=Lib.hid hwq
   clear By bY Bq MV GS bN0
   go_upto_region 16 with fail
   rw [<- hwq.out]
   clear cy fy
   go_wp2_with fail
   refine M.out.mono ?_
   rintro e w' ⟨rfl,G⟩
   have F:=Lib.hid (GM.out wq w' bq.out G)
   clear M GM G k0 k1 k2 k3 k4 k5
   go_wp2
   go_ret
   exact ⟨rfl,F.out⟩
  ·have s1:((oo:Int) == 1) = false:=by rw [beq_eq_false_iff_ne]; omega
   have t1:decide ((oo:Int) = 1) = false:=decide_eq_false (by omega)
   have v1:decide (oo = 1) = false:=decide_eq_false (by omega)
   have s2:((oo:Int) == 2) = true:=by rw [beq_iff_eq]; omega
   have t2:decide ((oo:Int) = 2) = true:=decide_eq_true (by omega)
   have v2:decide (oo = 2) = true:=decide_eq_true hoo
   have s3:((oo:Int) == 3) = false:=by rw [beq_eq_false_iff_ne]; omega
   have t3:decide ((oo:Int) = 3) = false:=decide_eq_false (by omega)
   have v3:decide (oo = 3) = false:=decide_eq_false (by omega)
   have s4:((oo:Int) == 4) = false:=by rw [beq_eq_false_iff_ne]; omega
   have t4:decide ((oo:Int) = 4) = false:=decide_eq_false (by omega)
   have v4:decide (oo = 4) = false:=decide_eq_false (by omega)
   have s5:((oo:Int) == 5) = false:=by rw [beq_eq_false_iff_ne]; omega
   have t5:decide ((oo:Int) = 5) = false:=decide_eq_false (by omega)
   have v5:decide (oo = 5) = false:=decide_eq_false (by omega)
   replace hoo:=Lib.hid hoo
   obtain ⟨wq,hwq⟩:∃ wq,wq = wy.setCell ⟨N2,0,none⟩ (.int .i64 7):=⟨_,rfl⟩
   have Bq:Blk wq N2 28 #[.int .i64 7,.int .i64 0,.int .i64 v.b,.int .i64 v.b,.int .u64 (H2:Int),.bool true]:=by rw [hwq]; exact By.set_ 0 _
   have bq:Below w.heap.size w wq:=by rw [hwq]; exact bY.setCell (p:=⟨N2,0,none⟩) (by show w.heap.size <= N2; have:=bz.size; have:=hN.out; omega) _
   have M:=Lib.hid (MV.out wq bq 7 H2 hH2 (by omega))
   have k0:=Bq.cell 0
   have k1:=Bq.cell 1
   have k2:=Bq.cell 2
   have k3:=Bq.cell 3
   have k4:=Bq.cell 4
   have k5:=Bq.cell 5
   have bq:=Lib.hid bq
   replace hwq:=Lib.hid hwq
   clear By bY Bq MV GS bN0
   go_upto_region 16 with fail
   rw [<- hwq.out]
   clear cy fy
   go_wp2_with fail
   refine M.out.mono ?_
   rintro e w' ⟨rfl,G⟩
   have F:=Lib.hid (GM.out wq w' bq.out G)
   clear M GM G k0 k1 k2 k3 k4 k5
   go_wp2
   go_ret
   exact ⟨rfl,F.out⟩
  ·have s1:((oo:Int) == 1) = false:=by rw [beq_eq_false_iff_ne]; omega
   have t1:decide ((oo:Int) = 1) = false:=decide_eq_false (by omega)
   have v1:decide (oo = 1) = false:=decide_eq_false (by omega)
   have s2:((oo:Int) == 2) = false:=by rw [beq_eq_false_iff_ne]; omega
   have t2:decide ((oo:Int) = 2) = false:=decide_eq_false (by omega)
   have v2:decide (oo = 2) = false:=decide_eq_false (by omega)
   have s3:((oo:Int) == 3) = true:=by rw [beq_iff_eq]; omega
   have t3:decide ((oo:Int) = 3) = true:=decide_eq_true (by omega)
   have v3:decide (oo = 3) = true:=decide_eq_true hoo
   have s4:((oo:Int) == 4) = false:=by rw [beq_eq_false_iff_ne]; omega
   have t4:decide ((oo:Int) = 4) = false:=decide_eq_false (by omega)
   have v4:decide (oo = 4) = false:=decide_eq_false (by omega)
   have s5:((oo:Int) == 5) = false:=by rw [beq_eq_false_iff_ne]; omega
   have t5:decide ((oo:Int) = 5) = false:=decide_eq_false (by omega)
   have v5:decide (oo = 5) = false:=decide_eq_false (by omega)
   replace hoo:=Lib.hid hoo
   obtain ⟨wq,hwq⟩:∃ wq,wq = wy.setCell ⟨N2,0,none⟩ (.int .i64 4):=⟨_,rfl⟩
   have Bq:Blk wq N2 28 #[.int .i64 4,.int .i64 0,.int .i64 v.b,.int .i64 v.b,.int .u64 (H2:Int),.bool true]:=by rw [hwq]; exact By.set_ 0 _
   have bq:Below w.heap.size w wq:=by rw [hwq]; exact bY.setCell (p:=⟨N2,0,none⟩) (by show w.heap.size <= N2; have:=bz.size; have:=hN.out; omega) _
   have M:=Lib.hid (MV.out wq bq 4 H2 hH2 (by omega))
   have k0:=Bq.cell 0
   have k1:=Bq.cell 1
   have k2:=Bq.cell 2
   have k3:=Bq.cell 3
   have k4:=Bq.cell 4
   have k5:=Bq.cell 5
   have bq:=Lib.hid bq
   replace hwq:=Lib.hid hwq
   clear By bY Bq MV GS bN0
   go_upto_region 16 with fail
   rw [<- hwq.out]
   clear cy fy
   go_wp2_with fail
   refine M.out.mono ?_
   rintro e w' ⟨rfl,G⟩
   have F:=Lib.hid (GM.out wq w' bq.out G)
   clear M GM G k0 k1 k2 k3 k4 k5
   go_wp2
   go_ret
   exact ⟨rfl,F.out⟩
  ·have s1:((oo:Int) == 1) = false:=by rw [beq_eq_false_iff_ne]; omega
   have t1:decide ((oo:Int) = 1) = false:=decide_eq_false (by omega)
   have v1:decide (oo = 1) = false:=decide_eq_false (by omega)
   have s2:((oo:Int) == 2) = false:=by rw [beq_eq_false_iff_ne]; omega
   have t2:decide ((oo:Int) = 2) = false:=decide_eq_false (by omega)
   have v2:decide (oo = 2) = false:=decide_eq_false (by omega)
   have s3:((oo:Int) == 3) = false:=by rw [beq_eq_false_iff_ne]; omega
   have t3:decide ((oo:Int) = 3) = false:=decide_eq_false (by omega)
   have v3:decide (oo = 3) = false:=decide_eq_false (by omega)
   have s4:((oo:Int) == 4) = true:=by rw [beq_iff_eq]; omega
   have t4:decide ((oo:Int) = 4) = true:=decide_eq_true (by omega)
   have v4:decide (oo = 4) = true:=decide_eq_true hoo
   have s5:((oo:Int) == 5) = false:=by rw [beq_eq_false_iff_ne]; omega
   have t5:decide ((oo:Int) = 5) = false:=decide_eq_false (by omega)
   have v5:decide (oo = 5) = false:=decide_eq_false (by omega)
   replace hoo:=Lib.hid hoo
   obtain ⟨wq,hwq⟩:∃ wq,wq = wy.setCell ⟨N2,0,none⟩ (.int .i64 5):=⟨_,rfl⟩
   have Bq:Blk wq N2 28 #[.int .i64 5,.int .i64 0,.int .i64 v.b,.int .i64 v.b,.int .u64 (H2:Int),.bool true]:=by rw [hwq]; exact By.set_ 0 _
   have bq:Below w.heap.size w wq:=by rw [hwq]; exact bY.setCell (p:=⟨N2,0,none⟩) (by show w.heap.size <= N2; have:=bz.size; have:=hN.out; omega) _
   have M:=Lib.hid (MV.out wq bq 5 H2 hH2 (by omega))
   have k0:=Bq.cell 0
   have k1:=Bq.cell 1
   have k2:=Bq.cell 2
   have k3:=Bq.cell 3
   have k4:=Bq.cell 4
   have k5:=Bq.cell 5
   have bq:=Lib.hid bq
   replace hwq:=Lib.hid hwq
   clear By bY Bq MV GS bN0
   go_upto_region 16 with fail
   rw [<- hwq.out]
   clear cy fy
   go_wp2_with fail
   refine M.out.mono ?_
   rintro e w' ⟨rfl,G⟩
   have F:=Lib.hid (GM.out wq w' bq.out G)
   clear M GM G k0 k1 k2 k3 k4 k5
   go_wp2
   go_ret
   exact ⟨rfl,F.out⟩
  ·have s1:((oo:Int) == 1) = false:=by rw [beq_eq_false_iff_ne]; omega
   have t1:decide ((oo:Int) = 1) = false:=decide_eq_false (by omega)
   have v1:decide (oo = 1) = false:=decide_eq_false (by omega)
   have s2:((oo:Int) == 2) = false:=by rw [beq_eq_false_iff_ne]; omega
   have t2:decide ((oo:Int) = 2) = false:=decide_eq_false (by omega)
   have v2:decide (oo = 2) = false:=decide_eq_false (by omega)
   have s3:((oo:Int) == 3) = false:=by rw [beq_eq_false_iff_ne]; omega
   have t3:decide ((oo:Int) = 3) = false:=decide_eq_false (by omega)
   have v3:decide (oo = 3) = false:=decide_eq_false (by omega)
   have s4:((oo:Int) == 4) = false:=by rw [beq_eq_false_iff_ne]; omega
   have t4:decide ((oo:Int) = 4) = false:=decide_eq_false (by omega)
   have v4:decide (oo = 4) = false:=decide_eq_false (by omega)
   have s5:((oo:Int) == 5) = true:=by rw [beq_iff_eq]; omega
   have t5:decide ((oo:Int) = 5) = true:=decide_eq_true (by omega)
   have v5:decide (oo = 5) = true:=decide_eq_true hoo
   replace hoo:=Lib.hid hoo
   obtain ⟨wq,hwq⟩:∃ wq,wq = wy.setCell ⟨N2,0,none⟩ (.int .i64 12):=⟨_,rfl⟩
   have Bq:Blk wq N2 28 #[.int .i64 12,.int .i64 0,.int .i64 v.b,.int .i64 v.b,.int .u64 (H2:Int),.bool true]:=by rw [hwq]; exact By.set_ 0 _
   have bq:Below w.heap.size w wq:=by rw [hwq]; exact bY.setCell (p:=⟨N2,0,none⟩) (by show w.heap.size <= N2; have:=bz.size; have:=hN.out; omega) _
   have M:=Lib.hid (MV.out wq bq 12 H2 hH2 (by omega))
   have k0:=Bq.cell 0
   have k1:=Bq.cell 1
   have k2:=Bq.cell 2
   have k3:=Bq.cell 3
   have k4:=Bq.cell 4
   have k5:=Bq.cell 5
   have bq:=Lib.hid bq
   replace hwq:=Lib.hid hwq
   clear By bY Bq MV GS bN0
   go_upto_region 16 with fail
   rw [<- hwq.out]
   clear cy fy
   go_wp2_with fail
   refine M.out.mono ?_
   rintro e w' ⟨rfl,G⟩
   have F:=Lib.hid (GM.out wq w' bq.out G)
   clear M GM G k0 k1 k2 k3 k4 k5
   go_wp2
   go_ret
   exact ⟨rfl,F.out⟩
end
end Go.Proofs.YtfjiphibalhcgaaGreat.Que
/-
  A region that draws its order, inside a fence and in rounds too: an operation that yields its value in every world that meets S may be taken first. The kit's law for plain walks, turned.
-/
namespace Go.Proofs.YtfjiphibalhcgaaGreat.Base
open Go
section
variable {F:Fence} {rm:Nat} {P:Program} {ops:Array Oper} {Q:Exit -> Act -> World -> Prop} {md:Region.Mode} {S:World -> Prop}
theorem yieldsIf_wpOpIn (hF:∀ f,F.fn f) (hd:noDefer ops = true) {i:Nat} {o:Oper} {v:Value} {a:Act} (hi:ops[i]? = some o) (hy:YieldsIf P ops S o v a)
  {K:Act -> World -> Prop} {w:World} (hS:S w) (h:K (a.put o.dst v) w):wpOpIn F rm P ops Q i K a w:=by
 have hid:=noDefer_spec hd hi
 unfold wpOpIn
 simp only [hi]
 rcases hy with ⟨hw,hv⟩ | ⟨hw,rfl⟩
 ·simp only [hw,if_true]
  unfold Oper.wpIn
  refine ⟨fun f _ => hF f,?_⟩
  rw [Oper.semAt_plain F _ _ hid,hv w hS]
  exact h
 ·simp only [hw,Bool.false_eq_true,if_false]; exact ⟨fun f _ => hF f,h⟩
theorem wpOpIn_putIf (hF:∀ f,F.fn f) (hd:noDefer ops = true) {j:Nat} {oi oj:Oper} {v:Value} (hj:ops[j]? = some oj) (hap:oi.apart ops oj = true)
  (hsi:∀ cs b,oi.op ≠ .select cs b) (hsj:∀ cs b,oj.op ≠ .select cs b)
  (hQ:∀ c a w,Q (.panic c) (a.put oi.dst v) w -> Q (.panic c) a w) {K:Act -> World -> Prop} {a:Act} {w:World}
  (hy:YieldsIf P ops S oi v a) (h:wpOpIn F rm P ops Q j K (a.put oi.dst v) w) :
  wpOpIn F rm P ops Q j (fun a' w' => YieldsIf P ops S oi v a' /\ K (a'.put oi.dst v) w') a w:=by
 obtain ⟨h1,h2,h3⟩:=Oper.apart_spec hap
 have keep:∀ (a:Act),YieldsIf P ops S oi v a -> ∀ u,YieldsIf P ops S oi v (a.put oj.dst u):=fun a hy u =>
  hy.of_same (execOp_put oi hsi a oj.dst u h3) (wanted_put oi a oj.dst u h3)
 have keepD:∀ d,YieldsIf P ops S oi v { a with defers:=d :: a.defers }:=fun d => hy.of_same rfl rfl
 have hjd:=noDefer_spec hd hj
 unfold wpOpIn at *
 simp only [hj] at h ⊢
 rw [wanted_put oj a oi.dst v h1] at h
 split
 ·rename_i hw
  simp only [hw,if_true] at h
  unfold Oper.wpIn at *
  refine ⟨fun f _ => hF f,?_⟩
  have h:=h.2
  rw [Oper.semAt_plain F _ _ hjd,execOp_put oj hsj a oi.dst v h1] at h
  rw [Oper.semAt_plain F _ _ hjd]
  generalize (execOp a.eval oj).run P w = r at *
  cases r with
  | ok x w' =>
   cases x <;> simp only [Oper.uponIn] at h ⊢
   case value u => exact ⟨keep a hy u,by rw [<- Act.put_comm a v u h2]; exact h⟩
   case skip => exact ⟨keep a hy _,by rw [<- Act.put_comm a v undef h2]; exact h⟩
   case defer d =>
    refine ⟨keep _ (keepD d) _,?_⟩
    rw [<- Act.put_comm _ v undef h2, <- Act.put_defers]
    exact h
   case enter f args =>
    refine ⟨h.1,CallsIn.mono h.2 fun e w'' he => ?_⟩
    cases e with
    | returned u => exact ⟨keep a hy u,by rw [<- Act.put_comm a v u h2]; exact he⟩
    | panicked c => exact hQ _ _ _ he
    | outgrown => exact he
   case row row args => exact ⟨h.1,RowsIn.mono h.2 fun u w'' he => ⟨keep a hy u,by rw [<- Act.put_comm a v u h2]; exact he⟩⟩
   case round l f tmps assign body =>
    refine ⟨h.1,RoundIn.mono h.2 fun e w'' he => ?_⟩
    cases e with
    | returned u => exact ⟨keep a hy u,by rw [<- Act.put_comm a v u h2]; exact he⟩
    | panicked c => exact hQ _ _ _ he
    | outgrown => exact he
  | halt x w' =>
   cases x <;> simp only [Oper.uponIn] at h ⊢
   case panic u => exact hQ _ _ _ h
 ·rename_i hw
  simp only [hw] at h
  exact ⟨fun f _ => hF f,keep a hy _,by rw [<- Act.put_comm a v undef h2]; exact h.2⟩
def wpAnyHR (F:Fence) (rm:Nat) (P:Program) (md:Region.Mode) (ops:Array Oper) (Q:Exit -> Act -> World -> Prop) (S:World -> Prop):Nat -> Array Bool -> Act -> World -> Prop
 | 0,listed,a,w => Region.ready md ops listed = [] /\ Q .normal a w
 | fuel + 1,listed,a,w =>
  (Region.ready md ops listed = [] -> Q .normal a w) /\
  ∀ i ∈ Region.ready md ops listed,wpOpIn F rm P ops Q i (fun a' w' => S w' /\ wpAnyHR F rm P md ops Q S fuel (listed.setIfInBounds i true) a' w') a w
theorem wpAnyIn_of_heldR:∀ (fuel:Nat) (listed:Array Bool) (a:Act) (w:World),wpAnyHR F rm P md ops Q S fuel listed a w -> wpAnyIn F rm P md ops Q fuel listed a w
 | 0,_,_,_,h => h
 | fuel + 1,_,_,_,h => ⟨h.1,fun i hi => wpOpIn_mono (fun a' w' h' => wpAnyIn_of_heldR fuel _ a' w' h'.2) (h.2 i hi)⟩
theorem wpAnyHR_first (hF:∀ f,F.fn f) (hd:noDefer ops = true) {i:Nat} {oi:Oper} {v:Value} (hi:ops[i]? = some oi) (hsel:∀ (j:Nat) (o:Oper) cs b,ops[j]? = some o -> o.op ≠ .select cs b)
  (hQ:∀ c a w,Q (.panic c) (a.put oi.dst v) w -> Q (.panic c) a w) :
  ∀ (fuel:Nat) (listed:Array Bool) (a:Act) (w:World),
   (∀ j oj,ops[j]? = some oj -> j ≠ i -> listed.getD j true = false -> (∀ e ∈ oj.after,Region.binds md e = true -> e.on ≠ i) -> oi.apart ops oj = true) ->
   i ∈ Region.ready md ops listed -> YieldsIf P ops S oi v a -> S w ->
   wpAnyHR F rm P md ops Q S fuel (listed.setIfInBounds i true) (a.put oi.dst v) w -> wpAnyHR F rm P md ops Q S (fuel + 1) listed a w:=by
 intro fuel
 induction fuel with
 | zero =>
  intro listed a w _ hr hy hS H
  refine ⟨fun h => (by rw [h] at hr; cases hr),fun j hj => ?_⟩
  by_cases hji:j = i
  ·subst hji; exact yieldsIf_wpOpIn hF hd hi hy hS ⟨hS,H⟩
  ·have:=ready_mono hj hji
   rw [H.1] at this
   cases this
 | succ fuel ih =>
  intro listed a w hfree hr hy hS H
  refine ⟨fun h => (by rw [h] at hr; cases hr),fun j hj => ?_⟩
  by_cases hji:j = i
  ·subst hji; exact yieldsIf_wpOpIn hF hd hi hy hS ⟨hS,H⟩
  ·have h1:=H.2 j (ready_mono hj hji)
   obtain ⟨hjun,oj,hoj,hall⟩:=mem_ready.1 hj
   have hnot:∀ e ∈ oj.after,Region.binds md e = true -> e.on ≠ i:=fun e he hb heq => by
    have h1:=hall e he hb
    have h0:=(mem_ready.1 hr).1
    rw [heq] at h1
    rcases Nat.lt_or_ge i listed.size with h' | h'
    ·simp [h'] at h0 h1; rw [h0] at h1; cases h1
    ·simp [Array.getElem?_eq_none h'] at h1
   have h2:=wpOpIn_putIf hF hd hoj (hfree j oj hoj hji hjun hnot) (fun cs b => hsel i oi cs b hi) (fun cs b => hsel j oj cs b hoj) hQ hy h1
   have hfree':∀ k ok,ops[k]? = some ok -> k ≠ i -> (listed.setIfInBounds j true).getD k true = false ->
     (∀ e ∈ ok.after,Region.binds md e = true -> e.on ≠ i) -> oi.apart ops ok = true:=fun k ok hk hki hun hno => by
    refine hfree k ok hk hki ?_ hno
    by_cases hjk:j = k
    ·subst hjk; exact hjun
    ·rw [getD_set_ne true hjk] at hun; exact hun
   refine wpOpIn_mono (fun a' w' h3 => ⟨h3.2.1,ih (listed.setIfInBounds j true) a' w' hfree' (ready_mono hr (Ne.symm hji)) h3.1 h3.2.1 ?_⟩) h2
   rw [Array.setIfInBounds_comm _ _ hji]
   exact h3.2.2
theorem wpAnyHR_take (hF:∀ f,F.fn f) (hd:noDefer ops = true) {i:Nat} {oi:Oper} {v:Value} {fuel:Nat} {listed:Array Bool} {a:Act} {w:World} (hi:ops[i]? = some oi)
  (hs:Region.noSelect ops = true) (hf:Region.free md ops listed i = true) (hr:(Region.ready md ops listed).contains i = true)
  (hQ:∀ c a w,Q (.panic c) (a.put oi.dst v) w -> Q (.panic c) a w) (hy:YieldsIf P ops S oi v a) (hS:S w)
  (h:wpAnyHR F rm P md ops Q S fuel (listed.setIfInBounds i true) (a.put oi.dst v) w):wpAnyHR F rm P md ops Q S (fuel + 1) listed a w :=
 wpAnyHR_first hF hd hi (Region.noSelect_spec hs) hQ fuel listed a w (Region.free_spec hi hf) (by simpa using hr) hy hS h
theorem wpAnyHR_done {listed:Array Bool} {a:Act} {w:World} (hr:Region.ready md ops listed = []) (h:Q .normal a w) :
  ∀ fuel,wpAnyHR F rm P md ops Q S fuel listed a w
 | 0 => ⟨hr,h⟩
 | _ + 1 => ⟨fun _ => h,by rw [hr]; simp⟩
def AllReadyHR (F:Fence) (rm:Nat) (P:Program) (md:Region.Mode) (ops:Array Oper) (Q:Exit -> Act -> World -> Prop) (S:World -> Prop) (fuel:Nat) (listed:Array Bool) (a:Act) (w:World) (rs:List Nat):Prop :=
 ∀ i ∈ rs,wpOpIn F rm P ops Q i (fun a' w' => S w' /\ wpAnyHR F rm P md ops Q S fuel (listed.setIfInBounds i true) a' w') a w
theorem AllReadyHR.nil {fuel:Nat} {listed:Array Bool} {a:Act} {w:World}:AllReadyHR F rm P md ops Q S fuel listed a w []:=fun _ h => by cases h
theorem AllReadyHR.cons {fuel:Nat} {listed:Array Bool} {a:Act} {w:World} {i:Nat} {o:Oper} {rs:List Nat} (ho:ops[i]? = some o)
  (h:∀ K':Act -> World -> Prop,Shut (∀ a w,S w -> (S w -> wpAnyHR F rm P md ops Q S fuel (listed.setIfInBounds i true) a w) -> K' a w) -> if Region.wanted o (yielded ops a.tmps) = true then Oper.wpIn F rm P o a w K' Q else (∀ f,o.about P w a.eval = some f -> F.fn f) /\ K' (a.put o.dst undef) w)
  (hs:AllReadyHR F rm P md ops Q S fuel listed a w rs):AllReadyHR F rm P md ops Q S fuel listed a w (i :: rs):=fun j hj => by
 rcases List.mem_cons.1 hj with rfl | hj
 ·exact wpOpIn_step ho (fun K' hK => h K' (fun a w hS hW => hK a w ⟨hS,hW hS⟩))
 ·exact hs j hj
theorem wpAnyHR_ready {rs:List Nat} {fuel:Nat} {listed:Array Bool} {a:Act} {w:World} (hr:Region.ready md ops listed = rs) (hne:rs ≠ [])
  (h:AllReadyHR F rm P md ops Q S fuel listed a w rs):wpAnyHR F rm P md ops Q S (fuel + 1) listed a w:=⟨fun h0 => absurd (hr ▸ h0) hne,hr ▸ h⟩
theorem region_heldR {id:Nat} {a:Act} {w:World} (S:World -> Prop) (hm:P.follows .mixedOrders = true) (hS:S w.drew)
  (h:S w.drew -> wpAnyHR F rm P .any ops Q S ops.size (Array.replicate ops.size false) a w.drew):(Code.region id ops true).wpIn F rm P Q a w :=
 wpIn_region_any hm (wpAnyIn_of_heldR _ _ _ _ (h hS))
end
end Go.Proofs.YtfjiphibalhcgaaGreat.Base
