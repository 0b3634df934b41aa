/-
  Contracts and lemmas, joined: LruPickLaw, LruWakes, LruExactLaw, LruOverLaw.
-/
import Derived.Test.YtngehaiigbbknaaGreatK11
import Derived.Test.YtngehaiigbbknaaGreatK15
set_option linter.unusedSimpArgs false
set_option linter.unusedVariables false
set_option linter.unusedSectionVars false
set_option maxRecDepth 100000
/-
  The law's pick.
-/
namespace Go.Proofs.YtngehaiigbbknaaGreat.Que
open Go.RowKit Base Arena Cls Itm
theorem own_isU {w:World} {N n:Nat} {v:Value} {xs:List Value} {b:Nat} (h:w.ownsRow N 50 1 v n xs) (hb:v.ownBlock = some b):IsU w b:=by
 rcases h.2 with ⟨rfl,_⟩ | ⟨g,cap,cur,rfl,hB,hg,_⟩
 ·cases hb
 ·have:g = b:=by simpa [Value.ownBlock] using hb
  subst this
  exact ⟨_,_,hg⟩
def AskJ (hi Ba Bd:Nat) (Ad:Option Addr) (cd:Nat) (dl:List Nat) (a:List Nat) (X:World):Prop :=
 ∃ A cp,Boxed X Ba 34 (.slice A a.length cp) /\ X.ownsRow hi 50 1 (.slice A a.length cp) a.length (a.map uv) /\ Boxed X Bd 34 (.slice Ad dl.length cd) /\ X.ownsRow 0 50 1 (.slice Ad dl.length cd) dl.length (dl.map uv) /\ ∀ b,(Value.slice Ad dl.length cd).ownBlock = some b -> b < hi
set_option maxHeartbeats 1600000 in
theorem askC {lo hi Ba Bd:Nat} {Ad:Option Addr} {cd:Nat} {dl a:List Nat} {X:World} (j:AskJ hi Ba Bd Ad cd dl a X) (hl:lo <= Ba) (h1:Ba < hi) (h2:Bd < hi) (hne:Ba ≠ Bd) (hX:hi <= X.heap.size) (hal:a.length <= 402653187) (hdl:dl.length <= 1000000) (y:Nat) :
  Calls Tryz.prog 91 #[.int .u64 (y:Int),.pointer (some ⟨Ba,0,none⟩),.pointer (some ⟨Bd,0,none⟩)] X fun e X' => e = .returned (.bool (decide (y ∈ dl))) /\ AskJ hi Ba Bd Ad cd dl (a ++ [y]) X' /\ Only (fun b => lo <= b /\ (b < hi \/ IsU X b)) X X':=by
 obtain ⟨A,cp,bA,oA,bD,oD,hD⟩:=j
 have c1:=bA.cell
 have v1:=bA.frozen
 have ne1:∀ b,(Value.slice A a.length cp).ownBlock = some b -> b ≠ Ba /\ b ≠ Bd:=fun b e => by
  have:=own_base oA e
  omega
 replace bA:=Lib.hid bA
 replace bD:=Lib.hid bD
 replace oD:=Lib.hid oD
 replace hD:=Lib.hid hD
 replace ne1:=Lib.hid ne1
 go_enter Tryz.func91,Tryz.ntmps91
 go_wp2_with (at_builtin; refine wpList_app rfl _ _ _ rfl eiL hi _ _ _ rfl (oA.alloc _) (X.heap.size + 1) (some ⟨X.heap.size,0,none⟩) 1 1 [.int .u64 (y:Int)] rfl ?c1 ?c2 ?c3 ?c4 ?c5 ?_)
 case c1 => exact reads_v X _ _
 case c2 => intro u hu; rw [List.mem_singleton] at hu; subst hu; rfl
 case c3 => unfold maxLen; omega
 case c4 => omega
 case c5 => rw [World.size_alloc]; omega
 intro VV w6 own6 hg6 hat6
 obtain ⟨A6,cp6,rfl⟩:=own_is own6
 have hw6:∀ b,b < X.heap.size -> (Value.slice A a.length cp).ownBlock ≠ some b -> w6.heap[b]? = X.heap[b]?:=fun b hb e => (hg6.block b (by rw [World.size_alloc]; omega) (fun e2 => e e2.symm)).trans (Below.heap_alloc _ _ _ (by omega))
 have bA6:Boxed w6 Ba 34 (.slice A a.length cp):=(hw6 Ba (by omega) (fun e => (ne1.out _ e).1 rfl)).trans bA.out
 have bD6:Boxed w6 Bd 34 (.slice Ad dl.length cd):=(hw6 Bd (by omega) (fun e => (ne1.out _ e).2 rfl)).trans bD.out
 have oD6:w6.ownsRow 0 50 1 (.slice Ad dl.length cd) dl.length (dl.map uv):=own_keptN oD.out fun b e => hw6 b (by have:=hD.out b e; omega) (fun e2 => by have:=own_base oA e2; have:=hD.out b e; omega)
 have o6:Only (fun b => lo <= b /\ (b < hi \/ IsU X b)) X w6:=((Only.refl _ X).alloc _).grown hg6 (fun k e _ => by
  have:=own_base oA e
  exact ⟨by omega,.inr (own_isU oA e)⟩)
 have own6':w6.ownsRow hi 50 1 (.slice A6 (a ++ [y]).length cp6) (a ++ [y]).length ((a ++ [y]).map uv):=by rw [List.map_append,List.length_append]; exact own6
 have c1:=bA6.cell
 have v1:=bA6.frozen
 obtain ⟨w7,hw7⟩:∃ w7,w7 = w6.setCell ⟨Ba,0,none⟩ (.slice A6 (a.length + 1) cp6):=⟨_,rfl⟩
 have J7:AskJ hi Ba Bd Ad cd dl (a ++ [y]) w7:=by
  refine ⟨A6,cp6,?_,?_,?_,?_,hD.out⟩
  ·rw [hw7,List.length_append]; exact bA6.set _
  ·rw [hw7]; exact own_keptN own6' fun b e => Below.heap_setCell _ _ _ _ (show b ≠ Ba from fun e2 => by have:=own_base own6' e; omega)
  ·rw [hw7]; exact bD6.other (fun e => hne e.symm) _
  ·rw [hw7]; exact own_keptN oD6 fun b e => Below.heap_setCell _ _ _ _ (show b ≠ Ba from fun e2 => by
    subst e2
    obtain ⟨cs,fr,hq⟩:=own_isU oD6 e
    rw [show w6.heap[b]? = _ from bA6] at hq
    injection hq with hq
    injection hq with q1 q2
    exact absurd q2 (by decide))
 have O7:Only (fun b => lo <= b /\ (b < hi \/ IsU X b)) X w7:=by
  rw [hw7]
  exact o6.setCell (p:=⟨Ba,0,none⟩) (fun _ => ⟨hl,.inl h1⟩) _
 replace J7:=Lib.hid J7
 replace O7:=Lib.hid O7
 replace hw7:=Lib.hid hw7
 clear own6 own6' hg6 hat6 hw6 bA6 bD6 oD6 o6 oA bA bD oD ne1
 go_upto_region 2 with fail
 rw [<- hw7.out]
 clear hw7 c1 v1
 have J7':=J7.out
 obtain ⟨A8,cp8, -, -,bD8,oD8, -⟩:=J7'
 have d8:=bD8.cell
 have at_:∀ (k x:Nat),dl[k]? = some x -> ∃ g,Ad = some ⟨g,0,none⟩ /\ w7.cell? ⟨g,k,none⟩ = some (.int .u64 (x:Int)):=fun k x hx => acc_own oD8 hx
 obtain ⟨n,hn⟩:∃ n,n = dl.length:=⟨_,rfl⟩
 rw [<- hn] at d8 hdl
 replace at_:=Lib.hid at_
 replace hn:=Lib.hid hn
 clear bD8 oD8
 go_wp2
 go_loopw [5] (fun vi wr => ∃ k:Nat,vi = .int .i64 (k:Int) /\ k <= n /\ Hid (y ∉ dl.take k) /\ w7 = wr) (fun vi _ => n - (intOf vi).toNat)
 case atStart => exact ⟨0,rfl,Nat.zero_le _,Lib.hid (by simp),rfl⟩
 case round =>
  obtain ⟨k,rfl,hk,hno,rfl⟩:=hrel
  by_cases hkn:k < n
  ·obtain ⟨x,hx⟩:∃ x,dl[k]? = some x:=⟨dl[k]'(by rw [<- hn.out]; exact hkn),List.getElem?_eq_getElem _⟩
   obtain ⟨g,rfl,cl⟩:=at_.out k x hx
   have k0:(0:Int) <= (k:Int):=by omega
   have k1:(k:Int) < (n:Int):=by omega
   have d1:decide ((k:Int) < (n:Int)) = true:=decide_eq_true k1
   have q1:IntKind.i64.wrap ((k:Int) + 1) = (k:Int) + 1:=IntWalk.i64_in _ (by omega)
   by_cases hxH:x = y
   ·have d2:((x:Int) == (y:Int)) = true:=by rw [beq_iff_eq]; omega
    have d3:decide ((x:Int) = (y:Int)) = true:=decide_eq_true (by omega)
    have hm:decide (y ∈ dl) = true:=decide_eq_true (by rw [<- hxH]; exact List.mem_of_getElem? hx)
    replace hm:=Lib.hid hm
    replace hx:=Lib.hid hx
    replace hxH:=Lib.hid hxH
    go_wp2
    go_ret
    exact ⟨by rw [hm.out]; rfl,J7.out,O7.out⟩
   ·have d2:((x:Int) == (y:Int)) = false:=by rw [beq_eq_false_iff_ne]; omega
    have d3:decide ((x:Int) = (y:Int)) = false:=decide_eq_false (by omega)
    have hno2:y ∉ dl.take (k + 1):=by
     rw [List.take_add_one,hx]
     intro e
     rcases List.mem_append.1 e with e | e
     ·exact hno.out e
     ·simp at e
      exact hxH e.symm
    replace hno2:=Lib.hid hno2
    replace hx:=Lib.hid hx
    replace hxH:=Lib.hid hxH
    clear hno
    go_wp2
    go_roundw
    case rel => exact ⟨k + 1,by simp,by omega,hno2,by first | rfl | trivial⟩
    case measure => simp [intOf] <;> omega
  ·obtain rfl:k = n:=by omega
   have d1:decide ((k:Int) < (k:Int)) = false:=by simp
   have hm:decide (y ∈ dl) = false:=decide_eq_false (by
    have:=hno.out
    rw [hn.out,List.take_length] at this
    exact this)
   replace hm:=Lib.hid hm
   go_wp2
   go_ret
   exact ⟨by rw [hm.out]; rfl,J7.out,O7.out⟩
theorem ask_fn {lo hi Ba Bd:Nat} {Ad:Option Addr} {cd:Nat} {dl:List Nat} (hl:lo <= Ba) (h1:Ba < hi) (h2:Bd < hi) (hne:Ba ≠ Bd) (hdl:dl.length <= 1000000) :
  DeadFn lo hi (fun y => decide (y ∈ dl)) (.func (.func 91) #[] #[.pointer (some ⟨Ba,0,none⟩),.pointer (some ⟨Bd,0,none⟩)]) (AskJ hi Ba Bd Ad cd dl):=by
 refine ⟨by omega,fun a X Y j hs hb => ?_,.inr ⟨_,_,rfl,enters_of Tryz.func91 (by kernel_rfl) rfl,fun a y X hy j hX hal => askC j hl h1 h2 hne hX hal hdl y⟩⟩
 obtain ⟨A,cp,bA,oA,bD,oD,hD⟩:=j
 exact ⟨A,cp,(hb Ba bA.lt (.inl h1)).trans bA,own_keptN oA fun b e => hb b (own_blockN oA e) (.inr (own_isU oA e)),(hb Bd bD.lt (.inl h2)).trans bD,own_keptN oD fun b e => hb b (own_blockN oD e) (.inr (own_isU oD e)),hD⟩
theorem calmN_cg {A B:Nat -> Bool} {l:List Nat} (h:∀ y ∈ l,A y = B y):calmN A l = calmN B l:=by
 unfold calmN
 have:l.find? (fun y => !A y) = l.find? (fun y => !B y):=by
  induction l with
  | nil => rfl
  | cons b l ih =>
   rw [List.find?_cons,List.find?_cons,h b (List.mem_cons_self ..),ih fun y hy => h y (List.mem_cons_of_mem _ hy)]
 rw [this]
theorem seenN_sub {D:Nat -> Bool}:∀ {k:Nat} {l:List Nat} {y:Nat},y ∈ seenN D k l -> y ∈ l
 | 0,_,_,h => by cases h
 | _ + 1,[],_,h => by cases h
 | k + 1,b :: l,y,h => by
  have h:y ∈ b :: (if D b = true then [] else seenN D k l):=h
  rcases List.mem_cons.1 h with e | e
  ·exact e ▸ List.mem_cons_self ..
  ·split at e
   ·cases e
   ·exact List.mem_cons_of_mem _ (seenN_sub e)
theorem row_isN {w:World} {L:Lay} {s:St} {bs:List UInt8} {Z:Nat -> Option Zd} {gq gl:Nat} {Ls:Nat -> Nat -> List Nat} (h:QW w L qc s bs Z gq gl Ls) (x:Int):∀ y ∈ rowX Ls x,isN qc s Z y = true:=by
 obtain ⟨F,S,q⟩:=h
 have one:∀ k:Int,∀ y ∈ revX Ls x k,isN qc s Z y = true:=fun k y hy => by
  unfold revX lsN at hy
  split at hy
  ·rename_i hv
   rw [List.mem_reverse] at hy
   have hm:=hy
   obtain ⟨i,j,p,hf,hc⟩:=q.it x.toNat (k.toNat - 1) y (by omega) (by omega) hm
   have ec:clsN qc s y = x.toNat:=by unfold clsN; rw [hf]; exact hc
   have h0:stK (clsN qc s y) Ls y ≠ 0:=fun e => stK_zero e (k.toNat - 1) (by omega) (by rw [ec]; exact hm)
   obtain ⟨z,hz,hI, -⟩:=q.links S.okc S.zs.good h0
   exact isN_it hI
  ·simp at hy
 intro y hy
 unfold rowX at hy
 rw [List.mem_append,List.mem_append] at hy
 rcases hy with (h1 | h1) | h1
 ·exact one _ y h1
 ·exact one _ y h1
 ·exact one _ y h1
section
variable {N:Nat} {w:World} {W:W6} {s:St} {bs:List UInt8} {Z:Nat -> Option Zd} {Ls:Nat -> Nat -> List Nat} {r:RS} {laid told act:List Nat} {mk:Nat -> Nat} {t:Nat} (h:LI N w W s bs Z Ls r laid told act mk t) (ht:t <= 60000) {g:Nat} (hg:W.gm = some g)
include h ht hg
theorem LI.named (D:Nat -> Bool) (x:Int) (k own:Nat):namedN (actB s Z mk) D (seenN D k (othN own (rowX Ls x))) = namedN (fun y => decide (y ∈ act)) D (seenN D k (othN own (rowX Ls x))):=by
 unfold namedN
 rw [calmN_cg (fun y hy => ?_)]
 have hI:=row_isN h.wat.q x y (mem_othN (seenN_sub hy)).1
 unfold actB
 rw [hI,Bool.true_and]
 have:=h.ab y hI
 by_cases hA:y ∈ act
 ·rw [decide_eq_true hA,this.1 hA]; rfl
 ·rw [decide_eq_false hA,beq_eq_false_iff_ne]
  exact fun e => hA (this.2 e)
set_option maxHeartbeats 3200000 in
theorem lpickC (o:Op6) (ok:o.Ok) (bits:Int) (hbits:Cls.In bits):Calls Tryz.prog 48 #[.pointer (some ⟨W.b,0,none⟩),.agg o.cells,.int .i64 bits] w fun e w' => e = .returned (.bool true) /\ Below w.heap.size w w':=by
 obtain ⟨w1,hw1⟩:∃ w1,w1 = w.alloc (.cells o.cells 64):=⟨_,rfl⟩
 have B1:Blk w1 w.heap.size 64 o.cells:=by rw [hw1]; exact Blk.new w _ _
 have b1:Below w.heap.size w w1:=by rw [hw1]; exact (Below.refl _ _).alloc (Nat.le_refl _) _
 obtain ⟨x0,x1,x2,x3,x4,x5⟩:=op6_cells B1
 have h1:=h.below b1
 have HC:=handleC h1 ht o ok
 have H1:=Lib.hid h1
 have hb:=fun v (b:Below w1.heap.size w1 v) => h1.below b
 obtain ⟨H,hH⟩:∃ H,H = hdN told o:=⟨_,rfl⟩
 rw [<- hH] at HC
 obtain ⟨ow,how⟩:∃ ow,ow = if o.a < 0 /\ o.raw = false then 0 else H:=⟨_,rfl⟩
 obtain ⟨N0,hN⟩:∃ N0,N0 = w.heap.size:=⟨_,rfl⟩
 rw [<- hN] at x0 x1 x2 x3 x4 x5 B1 ⊢
 have bx:∀ v,Below w1.heap.size w1 v -> v.cell? ⟨N0,1,none⟩ = some (.int .i64 o.a) /\ v.cell? ⟨N0,2,none⟩ = some (.int .i64 o.b) /\ v.cell? ⟨N0,3,none⟩ = some (.int .i64 o.c) /\ v.cell? ⟨N0,5,none⟩ = some (.bool o.raw):=fun v b =>
  ⟨(b.cell (p:=⟨N0,1,none⟩) B1.lt).trans x1,(b.cell (p:=⟨N0,2,none⟩) B1.lt).trans x2,(b.cell (p:=⟨N0,3,none⟩) B1.lt).trans x3,(b.cell (p:=⟨N0,5,none⟩) B1.lt).trans x5⟩
 unfold Op6.cells at HC hw1 ⊢
 obtain ⟨rb,hrb⟩:∃ rb,rb = o.raw:=⟨_,rfl⟩
 rw [<- hrb] at HC hw1 how bx x5 ⊢
 replace hrb:=Lib.hid hrb
 have htl:=h.tl
 have hN1:N0 <= w1.heap.size:=by have:=B1.lt; omega
 replace hb:=Lib.hid hb
 replace b1:=Lib.hid b1
 replace HC:=Lib.hid HC
 replace hw1:=Lib.hid hw1
 replace hN:=Lib.hid hN
 replace hH:=Lib.hid hH
 replace bx:=Lib.hid bx
 replace how:=Lib.hid how
 clear B1 h1 h
 go_enter Tryz.func48,Tryz.ntmps48
 go_upto_region 1 with fail
 rw [<- hN.out, <- hw1.out]
 go_wp2_with fail
 refine HC.out.mono ?_
 rintro e w2 ⟨rfl,b2⟩
 clear x0 x1 x2 x3 x4 x5
 obtain ⟨x1,x2,x3,x5⟩:=bx.out w2 b2
 have DC:=deadsC8 (hb.out w2 b2) ht hg bits hbits
 replace DC:=Lib.hid DC
 replace b2:=Lib.hid b2
 clear HC hw1
 go_upto_region 2 with fail
 obtain ⟨tb,htb⟩:∃ tb,tb = (decide (o.a < 0) && !rb):=⟨_,rfl⟩
 go_cut [27] from 20 to 26 (fun v27 wx => v27 = .bool tb /\ w2 = wx)
 case first =>
  by_cases ha:o.a < 0
  ·have d1:decide (o.a < 0) = true:=decide_eq_true ha
   rw [d1,Bool.true_and] at htb
   cases rb with
   | true =>
    replace htb:=Lib.hid htb
    go_wp2
    go_meet
    exact ⟨by rw [htb.out]; rfl,rfl⟩
   | false =>
    replace htb:=Lib.hid htb
    go_wp2
    go_meet
    exact ⟨by rw [htb.out]; rfl,rfl⟩
  ·have d1:decide (o.a < 0) = false:=decide_eq_false ha
   rw [d1,Bool.false_and] at htb
   replace htb:=Lib.hid htb
   go_wp2
   go_meet
   exact ⟨by rw [htb.out],rfl⟩
 case rest =>
  obtain ⟨rfl,rfl⟩:=hcut
  have how2:ow = if tb = true then 0 else H:=by
   rw [how.out,htb]
   by_cases ha:o.a < 0 <;> cases rb <;> simp [ha]
  replace htb:=Lib.hid htb
  clear how
  replace how2:=Lib.hid how2
  go_upto_if 27 with fail
  go_cut [7] from 20 to 27 (fun v7 wx => v7 = .int .u64 (ow:Int) /\ w2 = wx)
  case first =>
   cases tb with
   | true =>
    go_wp2
    go_meet
    exact ⟨by rw [how2.out]; rfl,rfl⟩
   | false =>
    go_wp2
    go_meet
    exact ⟨by rw [how2.out]; rfl,rfl⟩
  case rest =>
   obtain ⟨rfl,rfl⟩:=hcut
   go_wp2_with fail
   refine DC.out.mono ?_
   rintro e w3 ⟨dl,Ad,cd,rfl,hdl,b3,ownd⟩
   have hB3:=b2.out.trans (b3.mono b2.out.size)
   have wd3:w3.heap.size = w3.heap.size:=rfl
   obtain ⟨Bd,hBd⟩:∃ Bd,Bd = w3.heap.size:=⟨_,rfl⟩
   obtain ⟨w4,hw4⟩:∃ w4,w4 = w3.alloc (.cells #[.slice Ad dl.length cd] 34):=⟨_,rfl⟩
   have bd4:Boxed w4 Bd 34 (.slice Ad dl.length cd):=by rw [hw4,hBd]; exact Boxed.new w3 _ _
   have b4:Below w3.heap.size w3 w4:=by rw [hw4]; exact (Below.refl _ w3).alloc (Nat.le_refl _) _
   have z4:w4.heap.size = Bd + 1:=by rw [hw4,hBd,World.size_alloc]
   obtain ⟨w5,hw5⟩:∃ w5,w5 = w4.alloc (.cells #[.slice none 0 0] 34):=⟨_,rfl⟩
   have ba5:Boxed w5 (Bd + 1) 34 (.slice none 0 0):=by rw [hw5, <- z4]; exact Boxed.new w4 _ _
   have b5:Below w4.heap.size w4 w5:=by rw [hw5]; exact (Below.refl _ w4).alloc (Nat.le_refl _) _
   have z5:w5.heap.size = Bd + 2:=by rw [hw5,World.size_alloc,z4]
   have b35:Below w3.heap.size w3 w5:=b4.trans (b5.mono b4.size)
   have bd5:Boxed w5 Bd 34 (.slice Ad dl.length cd):=(b5.block Bd (by omega)).trans bd4
   have od5:w5.ownsRow 0 50 1 (.slice Ad dl.length cd) dl.length (dl.map uv):=own_weak (own_keptN ownd fun b e => b35.block b (own_blockN ownd e)) (Nat.zero_le _)
   have J5:AskJ (Bd + 2) (Bd + 1) Bd Ad cd dl [] w5:=⟨none,0,ba5,own_nil _ _ _,bd5,od5,fun b e => by have:=own_blockN ownd e; omega⟩
   have L3:=(hb.out w3 hB3).wat.ls hg
   have hB5:=hB3.trans (b35.mono hB3.size)
   have DFN:=ask_fn (lo:=w3.heap.size) (hi:=Bd + 2) (Ba:=Bd + 1) (Bd:=Bd) (Ad:=Ad) (cd:=cd) (dl:=dl) (by omega) (by omega) (by omega) (by omega) (by omega)
   obtain ⟨D,hD⟩:∃ D:Nat -> Bool,D = fun y => decide (y ∈ dl):=⟨_,rfl⟩
   rw [<- hD] at DFN
   have PC:∀ n,Calls Tryz.prog 33 #[.pointer (some ⟨g,0,none⟩),.int .i64 o.c,.int .u64 (ow:Int),.int .i64 o.b,.func (.func 91) #[] #[.pointer (some ⟨Bd + 1,0,none⟩),.pointer (some ⟨Bd,0,none⟩)]] (w5.drewN n) fun e w' => ∃ (nm:Nat) (db:Bool) (sl:List Nat),nm = namedN (fun y => decide (y ∈ act)) D (seenN D o.b.toNat (othN ow (rowX Ls o.c))) /\ db = deadN D (seenN D o.b.toNat (othN ow (rowX Ls o.c))) /\ sl = seenN D o.b.toNat (othN ow (rowX Ls o.c)) /\ e = .returned (.tuple #[.int .u64 (nm:Int),.bool db,.int .i64 (sl.length:Int)]) /\ AskJ (Bd + 2) (Bd + 1) Bd Ad cd dl sl w' /\ Below w3.heap.size w3 w':=fun n => by
    have bn:Below w5.heap.size w5 (w5.drewN n):=below_drewN (Below.refl _ _) n
    have hz:(w5.drewN n).heap.size = Bd + 2:=z5
    have DFn:DeadFn w3.heap.size (w5.drewN n).heap.size D (.func (.func 91) #[] #[.pointer (some ⟨Bd + 1,0,none⟩),.pointer (some ⟨Bd,0,none⟩)]) (AskJ (Bd + 2) (Bd + 1) Bd Ad cd dl):=by rw [hz]; exact DFN
    refine (pickDC L3 (b35.trans (bn.mono b35.size)) DFn (DFN.below J5 bn) o.c ow o.b ok.b).mono ?_
    rintro e w' ⟨rfl,j,b⟩
    rw [(hb.out w3 hB3).named ht hg D o.c o.b.toNat ow]
    exact ⟨_,_,_,rfl,rfl,rfl,rfl,j,b⟩
   have cells5:∀ v,Below w3.heap.size w3 v -> v.cell? ⟨W.b,2,none⟩ = some (.pointer (some ⟨g,0,none⟩)) /\ v.cell? ⟨N0,3,none⟩ = some (.int .i64 o.c) /\ v.cell? ⟨N0,2,none⟩ = some (.int .i64 o.b):=fun v b => by
    have hBv:=hB3.trans (b.mono hB3.size)
    obtain ⟨-,x2,x3, -⟩:=bx.out v hBv
    obtain ⟨-, -,y2, -, -⟩:=(hb.out v hBv).cells8 ht hg
    exact ⟨y2,x3,x2⟩
   obtain ⟨d,hd⟩:=(H1.out).dmS
   have DPC:∀ v,Below w3.heap.size w3 v -> ∀ sl,AskJ (Bd + 2) (Bd + 1) Bd Ad cd dl sl v -> Calls Tryz.prog 92 #[.pointer (some ⟨d,0,none⟩),.int .i64 o.c,.int .u64 (ow:Int),.int .i64 o.b,.slice Ad dl.length cd] v fun e w' => ∃ A cp,e = .returned (.tuple #[.int .u64 (namedN (fun y => decide (y ∈ act)) D (seenN D o.b.toNat (othN ow (rowX Ls o.c))):Int),.bool (deadN D (seenN D o.b.toNat (othN ow (rowX Ls o.c)))),.slice A (seenN D o.b.toNat (othN ow (rowX Ls o.c))).length cp]) /\ Below v.heap.size v w' /\ w'.ownsRow v.heap.size 50 1 (.slice A (seenN D o.b.toNat (othN ow (rowX Ls o.c))).length cp) (seenN D o.b.toNat (othN ow (rowX Ls o.c))).length ((seenN D o.b.toNat (othN ow (rowX Ls o.c))).map uv):=fun v b sl j => by
    obtain ⟨-, -, -, -, -,oD, -⟩:=j
    have:=((hb.out v (hB3.trans (b.mono hB3.size))).dx ht).pickD hd o.c ow o.b ok.b oD (by unfold maxLen; omega)
    rw [hD]
    exact this
   have snl:(seenN D o.b.toNat (othN ow (rowX Ls o.c))).length <= 402653187:=Nat.le_trans (seenN_len _ _ _) (Nat.le_trans (othN_len _ _) (L3.rowB o.c))
   have cells6:∀ v,Below w3.heap.size w3 v -> ∀ sl,AskJ (Bd + 2) (Bd + 1) Bd Ad cd dl sl v -> v.cell? ⟨W.b,5,none⟩ = some (.pointer (some ⟨d,0,none⟩)) /\ v.cell? ⟨N0,3,none⟩ = some (.int .i64 o.c) /\ v.cell? ⟨N0,2,none⟩ = some (.int .i64 o.b) /\ v.cell? ⟨Bd,0,none⟩ = some (.slice Ad dl.length cd):=fun v b sl j => by
    obtain ⟨-,x3,x2⟩:=cells5 v b
    obtain ⟨-, -, -, -,d',hd',y5⟩:=(hb.out v (hB3.trans (b.mono hB3.size))).cells8 ht hg
    obtain rfl:d = d':=by rw [hd] at hd'; injection hd'
    obtain ⟨-, -, -, -,bD, -, -⟩:=j
    exact ⟨y5,x3,x2,bD.cell⟩
   have bF:∀ v,Below w3.heap.size w3 v -> Below w.heap.size w v:=fun v b => b1.out.trans ((hB3.trans (b.mono hB3.size)).mono b1.out.size)
   have JB:=fun X Y a (j:AskJ (Bd + 2) (Bd + 1) Bd Ad cd dl a X) (b:Below X.heap.size X Y) => (ask_fn (lo:=w3.heap.size) (hi:=Bd + 2) (Ba:=Bd + 1) (Bd:=Bd) (Ad:=Ad) (cd:=cd) (dl:=dl) (by omega) (by omega) (by omega) (by omega) (by omega)).below j b
   generalize seenN D o.b.toNat (othN ow (rowX Ls o.c)) = sn at *
   generalize namedN (fun y => decide (y ∈ act)) D sn = nm at *
   generalize deadN D sn = db at *
   have C5:=fun n => cells5 (w5.drewN n) (below_drewN b35 n)
   replace PC:=Lib.hid PC
   replace JB:=Lib.hid JB
   replace DPC:=Lib.hid DPC
   replace cells5:=Lib.hid cells5
   replace cells6:=Lib.hid cells6
   replace C5:=Lib.hid C5
   replace bF:=Lib.hid bF
   replace hBd:=Lib.hid hBd
   replace hw4:=Lib.hid hw4
   replace hw5:=Lib.hid hw5
   replace z4:=Lib.hid z4
   replace z5:=Lib.hid z5
   replace hd:=Lib.hid hd
   replace hD:=Lib.hid hD
   generalize dl.length = dn at *
   clear DC b3 ownd L3 DFN J5 od5 bd5 bd4 ba5 b4 b5 b35 hB3 hB5 x1 x2 x3 x5 wd3 b2
   go_upto_region 5 with fail
   rw [<- hBd.out, <- hw4.out]
   go_upto_region 6 with fail
   rw [<- hw5.out,z4.out]
   obtain ⟨v5,hv5⟩:∃ v5,v5 = w5.drew:=⟨_,rfl⟩
   have P5:=PC.out 1
   rw [show w5.drewN 1 = v5 from hv5.symm] at P5
   have S5:=C5.out 1
   rw [show w5.drewN 1 = v5 from hv5.symm] at S5
   replace P5:=Lib.hid P5
   clear PC C5 hw4 hw5
   refine wp_region_noPanic ?_
   refine wp_region_held_drew (S:=fun v => v.cell? ⟨W.b,2,none⟩ = some (.pointer (some ⟨g,0,none⟩)) /\ v.cell? ⟨N0,3,none⟩ = some (.int .i64 o.c) /\ v.cell? ⟨N0,2,none⟩ = some (.int .i64 o.b)) (by kernel_rfl) (by rw [<- hv5]; exact S5) (fun hHeld => ?_)
   rw [<- hv5] at hHeld ⊢
   clear hv5
   refine tkh (i:=0) (v:=?_) rfl ?_ ?_
   rotate_left
   ·try simp only [qA,qS,qZ]
    rintro w ⟨hS1,hS2,hS3⟩
    go_simp
    (try with_reducible rfl)
   try simp only [qA,qS,qZ,Act.put,qT,qO,qN]
   refine tkh (i:=1) (v:=?_) rfl ?_ ?_
   rotate_left
   ·try simp only [qA,qS,qZ]
    rintro w ⟨hS1,hS2,hS3⟩
    go_simp
    (try with_reducible rfl)
   try simp only [qA,qS,qZ,Act.put,qT,qO,qN]
   refine tkh (i:=2) (v:=?_) rfl ?_ ?_
   rotate_left
   ·try simp only [qA,qS,qZ]
    rintro w ⟨hS1,hS2,hS3⟩
    go_simp
    (try with_reducible rfl)
   try simp only [qA,qS,qZ,Act.put,qT,qO,qN]
   refine tkh (i:=3) (v:=?_) rfl ?_ ?_
   rotate_left
   ·try simp only [qA,qS,qZ]
    rintro w ⟨hS1,hS2,hS3⟩
    go_simp
    (try with_reducible rfl)
   try simp only [qA,qS,qZ,Act.put,qT,qO,qN]
   refine tkh (i:=4) (v:=?_) rfl ?_ ?_
   rotate_left
   ·try simp only [qA,qS,qZ]
    rintro w ⟨hS1,hS2,hS3⟩
    go_simp
    (try with_reducible rfl)
   try simp only [qA,qS,qZ,Act.put,qT,qO,qN]
   refine tkh (i:=5) (v:=?_) rfl ?_ ?_
   rotate_left
   ·try simp only [qA,qS,qZ]
    rintro w ⟨hS1,hS2,hS3⟩
    go_simp
    (try with_reducible rfl)
   try simp only [qA,qS,qZ,Act.put,qT,qO,qN]
   refine tkh (i:=6) (v:=?_) rfl ?_ ?_
   rotate_left
   ·try simp only [qA,qS,qZ]
    rintro w ⟨hS1,hS2,hS3⟩
    go_simp
    (try with_reducible rfl)
   try simp only [qA,qS,qZ,Act.put,qT,qO,qN]
   refine tkh (i:=7) (v:=?_) rfl ?_ ?_
   rotate_left
   ·try simp only [qA,qS,qZ]
    rintro w ⟨hS1,hS2,hS3⟩
    go_simp
    (try with_reducible rfl)
   try simp only [qA,qS,qZ,Act.put,qT,qO,qN]
   refine tkh (i:=8) (v:=?_) rfl ?_ ?_
   rotate_left
   ·try simp only [qA,qS,qZ]
    rintro w ⟨hS1,hS2,hS3⟩
    go_simp
    (try with_reducible rfl)
   try simp only [qA,qS,qZ,Act.put,qT,qO,qN]
   refine tkh (i:=9) (v:=?_) rfl ?_ ?_
   rotate_left
   ·try simp only [qA,qS,qZ]
    rintro w ⟨hS1,hS2,hS3⟩
    go_simp
    (try with_reducible rfl)
   try simp only [qA,qS,qZ,Act.put,qT,qO,qN]
   refine wpAnyH_ready (rs:=[10]) (by kernel_rfl) (by simp) ?_
   refine AllReadyH.cons (o:=_) rfl (fun K hK => ?_) ?_
   rotate_left
   ·exact AllReadyH.nil
   try simp only [qA,qS,qZ]
   go_simp
   go_at_call 33
   refine P5.out.mono ?_
   rintro e w6 ⟨nm',db',sl,e1,e2,e3,rfl,J6,b6⟩
   subst e1 e2 e3
   go_wp2_with fail
   refine hK.out _ _ (cells5.out w6 b6) (fun hHeld10 => ?_)
   clear hK K
   try simp only [qA,qS,qZ,Act.put,qT,qO,qN]
   refine tkh (i:=11) (v:=?_) rfl ?_ ?_
   rotate_left
   ·try simp only [qA,qS,qZ]
    rintro w ⟨hS1,hS2,hS3⟩
    go_simp
    (try with_reducible rfl)
   try simp only [qA,qS,qZ,Act.put,qT,qO,qN]
   refine tkh (i:=12) (v:=?_) rfl ?_ ?_
   rotate_left
   ·try simp only [qA,qS,qZ]
    rintro w ⟨hS1,hS2,hS3⟩
    go_simp
    (try with_reducible rfl)
   try simp only [qA,qS,qZ,Act.put,qT,qO,qN]
   refine tkh (i:=13) (v:=?_) rfl ?_ ?_
   rotate_left
   ·try simp only [qA,qS,qZ]
    rintro w ⟨hS1,hS2,hS3⟩
    go_simp
    (try with_reducible rfl)
   try simp only [qA,qS,qZ,Act.put,qT,qO,qN]
   refine tkh (i:=14) (v:=?_) rfl ?_ ?_
   rotate_left
   ·try simp only [qA,qS,qZ]
    rintro w ⟨hS1,hS2,hS3⟩
    go_simp
    (try with_reducible rfl)
   try simp only [qA,qS,qZ,Act.put,qT,qO,qN]
   refine tkh (i:=15) (v:=?_) rfl ?_ ?_
   rotate_left
   ·try simp only [qA,qS,qZ]
    rintro w ⟨hS1,hS2,hS3⟩
    go_simp
    (try with_reducible rfl)
   try simp only [qA,qS,qZ,Act.put,qT,qO,qN]
   refine tkh (i:=16) (v:=?_) rfl ?_ ?_
   rotate_left
   ·try simp only [qA,qS,qZ]
    rintro w ⟨hS1,hS2,hS3⟩
    go_simp
    (try with_reducible rfl)
   try simp only [qA,qS,qZ,Act.put,qT,qO,qN]
   refine tkh (i:=17) (v:=?_) rfl ?_ ?_
   rotate_left
   ·try simp only [qA,qS,qZ]
    rintro w ⟨hS1,hS2,hS3⟩
    go_simp
    (try with_reducible rfl)
   try simp only [qA,qS,qZ,Act.put,qT,qO,qN]
   refine wpAnyH_done (by kernel_rfl) ?_ _
   refine NoPanic.normal ?_
   clear P5 S5 hHeld hHeld10
   obtain ⟨v6,hv6⟩:∃ v6,v6 = w6.drew:=⟨_,rfl⟩
   have b66:Below w6.heap.size w6 v6:=by rw [hv6]; exact below_drewN (Below.refl _ _) 1
   have b36:=b6.trans (b66.mono b6.size)
   have J66:=JB.out _ _ _ J6 b66
   have S6:=cells6.out v6 b36 sl J66
   have P6:=Lib.hid (DPC.out v6 b36 sl J66)
   have c7:=Lib.hid (fun w7 (b:Below v6.heap.size v6 w7) => cells6.out w7 (b36.trans (b.mono b36.size)) sl (JB.out _ _ _ J66 b))
   replace J66:=Lib.hid J66
   replace b36:=Lib.hid b36
   clear b6 J6 b66 DPC cells5
   go_upto_region 7 with fail
   refine wp_region_noPanic ?_
   refine wp_region_held_drew (S:=fun v => v.cell? ⟨W.b,5,none⟩ = some (.pointer (some ⟨d,0,none⟩)) /\ v.cell? ⟨N0,3,none⟩ = some (.int .i64 o.c) /\ v.cell? ⟨N0,2,none⟩ = some (.int .i64 o.b) /\ v.cell? ⟨Bd,0,none⟩ = some (.slice Ad dn cd)) (by kernel_rfl) (by rw [<- hv6]; exact S6) (fun hHeld => ?_)
   rw [<- hv6] at hHeld ⊢
   clear hv6
   refine tkh (i:=0) (v:=?_) rfl ?_ ?_
   rotate_left
   ·try simp only [qA,qS,qZ]
    rintro w ⟨hS1,hS2,hS3,hS4⟩
    go_simp
    (try with_reducible rfl)
   try simp only [qA,qS,qZ,Act.put,qT,qO,qN]
   refine tkh (i:=1) (v:=?_) rfl ?_ ?_
   rotate_left
   ·try simp only [qA,qS,qZ]
    rintro w ⟨hS1,hS2,hS3,hS4⟩
    go_simp
    (try with_reducible rfl)
   try simp only [qA,qS,qZ,Act.put,qT,qO,qN]
   refine tkh (i:=2) (v:=?_) rfl ?_ ?_
   rotate_left
   ·try simp only [qA,qS,qZ]
    rintro w ⟨hS1,hS2,hS3,hS4⟩
    go_simp
    (try with_reducible rfl)
   try simp only [qA,qS,qZ,Act.put,qT,qO,qN]
   refine tkh (i:=3) (v:=?_) rfl ?_ ?_
   rotate_left
   ·try simp only [qA,qS,qZ]
    rintro w ⟨hS1,hS2,hS3,hS4⟩
    go_simp
    (try with_reducible rfl)
   try simp only [qA,qS,qZ,Act.put,qT,qO,qN]
   refine tkh (i:=4) (v:=?_) rfl ?_ ?_
   rotate_left
   ·try simp only [qA,qS,qZ]
    rintro w ⟨hS1,hS2,hS3,hS4⟩
    go_simp
    (try with_reducible rfl)
   try simp only [qA,qS,qZ,Act.put,qT,qO,qN]
   refine tkh (i:=5) (v:=?_) rfl ?_ ?_
   rotate_left
   ·try simp only [qA,qS,qZ]
    rintro w ⟨hS1,hS2,hS3,hS4⟩
    go_simp
    (try with_reducible rfl)
   try simp only [qA,qS,qZ,Act.put,qT,qO,qN]
   refine tkh (i:=6) (v:=?_) rfl ?_ ?_
   rotate_left
   ·try simp only [qA,qS,qZ]
    rintro w ⟨hS1,hS2,hS3,hS4⟩
    go_simp
    (try with_reducible rfl)
   try simp only [qA,qS,qZ,Act.put,qT,qO,qN]
   refine tkh (i:=7) (v:=?_) rfl ?_ ?_
   rotate_left
   ·try simp only [qA,qS,qZ]
    rintro w ⟨hS1,hS2,hS3,hS4⟩
    go_simp
    (try with_reducible rfl)
   try simp only [qA,qS,qZ,Act.put,qT,qO,qN]
   refine tkh (i:=8) (v:=?_) rfl ?_ ?_
   rotate_left
   ·try simp only [qA,qS,qZ]
    rintro w ⟨hS1,hS2,hS3,hS4⟩
    go_simp
    (try with_reducible rfl)
   try simp only [qA,qS,qZ,Act.put,qT,qO,qN]
   refine tkh (i:=9) (v:=?_) rfl ?_ ?_
   rotate_left
   ·try simp only [qA,qS,qZ]
    rintro w ⟨hS1,hS2,hS3,hS4⟩
    go_simp
    (try with_reducible rfl)
   try simp only [qA,qS,qZ,Act.put,qT,qO,qN]
   refine wpAnyH_ready (rs:=[10]) (by kernel_rfl) (by simp) ?_
   refine AllReadyH.cons (o:=_) rfl (fun K hK => ?_) ?_
   rotate_left
   ·exact AllReadyH.nil
   try simp only [qA,qS,qZ]
   go_simp
   go_at_call 92
   refine P6.out.mono ?_
   rintro e w7 ⟨A,cp,rfl,b7,own7⟩
   go_wp2_with fail
   refine hK.out _ _ (c7.out w7 b7) (fun hHeld10 => ?_)
   clear hK K
   try simp only [qA,qS,qZ,Act.put,qT,qO,qN]
   refine tkh (i:=11) (v:=?_) rfl ?_ ?_
   rotate_left
   ·try simp only [qA,qS,qZ]
    rintro w ⟨hS1,hS2,hS3,hS4⟩
    go_simp
    (try with_reducible rfl)
   try simp only [qA,qS,qZ,Act.put,qT,qO,qN]
   refine tkh (i:=12) (v:=?_) rfl ?_ ?_
   rotate_left
   ·try simp only [qA,qS,qZ]
    rintro w ⟨hS1,hS2,hS3,hS4⟩
    go_simp
    (try with_reducible rfl)
   try simp only [qA,qS,qZ,Act.put,qT,qO,qN]
   refine tkh (i:=13) (v:=?_) rfl ?_ ?_
   rotate_left
   ·try simp only [qA,qS,qZ]
    rintro w ⟨hS1,hS2,hS3,hS4⟩
    go_simp
    (try with_reducible rfl)
   try simp only [qA,qS,qZ,Act.put,qT,qO,qN]
   refine tkh (i:=14) (v:=?_) rfl ?_ ?_
   rotate_left
   ·try simp only [qA,qS,qZ]
    rintro w ⟨hS1,hS2,hS3,hS4⟩
    go_simp
    (try with_reducible rfl)
   try simp only [qA,qS,qZ,Act.put,qT,qO,qN]
   refine tkh (i:=15) (v:=?_) rfl ?_ ?_
   rotate_left
   ·try simp only [qA,qS,qZ]
    rintro w ⟨hS1,hS2,hS3,hS4⟩
    go_simp
    (try with_reducible rfl)
   try simp only [qA,qS,qZ,Act.put,qT,qO,qN]
   refine tkh (i:=16) (v:=?_) rfl ?_ ?_
   rotate_left
   ·try simp only [qA,qS,qZ]
    rintro w ⟨hS1,hS2,hS3,hS4⟩
    go_simp
    (try with_reducible rfl)
   try simp only [qA,qS,qZ,Act.put,qT,qO,qN]
   refine tkh (i:=17) (v:=?_) rfl ?_ ?_
   rotate_left
   ·try simp only [qA,qS,qZ]
    rintro w ⟨hS1,hS2,hS3,hS4⟩
    go_simp
    (try with_reducible rfl)
   try simp only [qA,qS,qZ,Act.put,qT,qO,qN]
   refine wpAnyH_done (by kernel_rfl) ?_ _
   refine NoPanic.normal ?_
   clear P6 S6 hHeld hHeld10 c7 cells6
   have b37:=b36.out.trans (b7.mono b36.out.size)
   have J7:=JB.out _ _ _ J66.out b7
   obtain ⟨A1,c1,bA7,oA7, -, -, -⟩:=J7
   have AT:∀ v,Below w7.heap.size w7 v -> v.cell? ⟨Bd + 1,0,none⟩ = some (.slice A1 sl.length c1) /\ ∀ (i x:Nat),sl[i]? = some x -> (∃ gA,A1 = some ⟨gA,0,none⟩ /\ v.cell? ⟨gA,i,none⟩ = some (.int .u64 (x:Int))) /\ ∃ gS,A = some ⟨gS,0,none⟩ /\ v.cell? ⟨gS,i,none⟩ = some (.int .u64 (x:Int)):=fun v b => by
    refine ⟨(b.cell (p:=⟨Bd + 1,0,none⟩) bA7.lt).trans bA7.cell,fun i x hx => ⟨?_,?_⟩⟩
    ·obtain ⟨gA,e,u⟩:=acc_own oA7 hx
     exact ⟨gA,e,(b.cell (p:=⟨gA,i,none⟩) (World.block_lt_of_cell? w7 _ u)).trans u⟩
    ·obtain ⟨gS,e,u⟩:=acc_own own7 hx
     exact ⟨gS,e,(b.cell (p:=⟨gS,i,none⟩) (World.block_lt_of_cell? w7 _ u)).trans u⟩
   have fin:=fun v (b:Below w7.heap.size w7 v) => bF.out v (b37.trans (b.mono b37.size))
   obtain ⟨q1, -⟩:=AT w7 (Below.refl _ _)
   obtain ⟨l,hl⟩:∃ l,l = sl.length:=⟨_,rfl⟩
   rw [<- hl] at AT q1 snl ⊢
   have e1:((nm':Int) != (nm':Int)) = false:=by simp
   have e2:(db' != db') = false:=by simp
   have e3:((l:Int) != (l:Int)) = false:=by simp
   replace AT:=Lib.hid AT
   replace fin:=Lib.hid fin
   replace hl:=Lib.hid hl
   clear b7 own7 b36 J66 b37 bA7 oA7 bF JB
   go_wp2_with fail
   go_loopw [16] (fun v wr => ∃ i:Nat,v = .int .i64 (i:Int) /\ i <= l /\ Hid (Below w7.heap.size w7 wr)) (fun v _ => l - (intOf v).toNat)
   case atStart => exact ⟨0,rfl,Nat.zero_le _,Lib.hid (Below.refl _ _)⟩
   case round =>
    obtain ⟨i,rfl,hi,hB⟩:=hrel
    by_cases hil:i < l
    ·obtain ⟨x,hx⟩:∃ x,sl[i]? = some x:=⟨sl[i]'(by rw [<- hl.out]; exact hil),List.getElem?_eq_getElem _⟩
     have AT1:=fun n => AT.out (wr.drewN n) (below_drewN hB.out n)
     obtain ⟨-,T⟩:=AT1 0
     obtain ⟨⟨gA,rfl, -⟩,gS,rfl, -⟩:=T i x hx
     have cA:∀ n,(wr.drewN n).cell? ⟨Bd + 1,0,none⟩ = some (.slice (some ⟨gA,0,none⟩) l c1):=fun n => (AT1 n).1
     have uA:∀ n,(wr.drewN n).cell? ⟨gA,i,none⟩ = some (.int .u64 (x:Int)):=fun n => by
      obtain ⟨⟨g',e,u⟩, -⟩:=(AT1 n).2 i x hx
      injection e with e
      injection e with e
      rw [e]; exact u
     have uS:∀ n,(wr.drewN n).cell? ⟨gS,i,none⟩ = some (.int .u64 (x:Int)):=fun n => by
      obtain ⟨-,g',e,u⟩:=(AT1 n).2 i x hx
      injection e with e
      injection e with e
      rw [e]; exact u
     have c0:=cA 0
     have u0:=uA 0
     have u1:=uS 0
     have i0:(0:Int) <= (i:Int):=by omega
     have i1:(i:Int) < (l:Int):=by omega
     have d1:decide ((i:Int) < (l:Int)) = true:=decide_eq_true i1
     have d1':decide (i < l) = true:=decide_eq_true hil
     have q9:IntKind.i64.wrap ((i:Int) + 1) = ((i + 1:Nat):Int):=by rw [IntWalk.i64_in _ (by omega)]; omega
     have e5:((x:Int) != (x:Int)) = false:=by simp
     replace hx:=Lib.hid hx
     clear AT1 T c0 u0 u1
     go_upto_region 13 with fail
     go_quiet (fail)
     rename Nat => nq
     have hB2:=Lib.hid (below_drewN hB.out nq)
     clear cA uA uS hB
     go_wp2
     go_roundw
     case rel => exact ⟨i + 1,by simp,by omega,hB2⟩
     case measure => simp [intOf] <;> omega
    ·obtain rfl:i = l:=by omega
     have d1:decide ((i:Int) < (i:Int)) = false:=by simp
     have d1':decide (i < i) = false:=by simp
     go_wp2
     go_ret
     exact ⟨rfl,by rw [hN.out]; exact fin.out _ hB.out⟩
end
theorem three_rev {l:List Nat} (h:l.length = 3):∃ c b a,l = [c,b,a] /\ l.reverse = [a,b,c]:=by
 match l,h with
 | [c,b,a],_ => exact ⟨c,b,a,rfl,rfl⟩
theorem wpAnyH_weak {P:Program} {md:Region.Mode} {ops:Array Oper} {Q:Exit -> Act -> World -> Prop} {S S':World -> Prop} (hS:∀ w,S' w -> S w):∀ (fuel:Nat) (listed:Array Bool) (a:Act) (w:World),wpAnyH P md ops Q S' fuel listed a w -> wpAnyH P md ops Q S fuel listed a w
 | 0,_,_,_,h => h
 | fuel + 1,_,_,_,h => ⟨h.1,fun i hi => wpOp_mono (fun a' w' h' => ⟨hS w' h'.1,wpAnyH_weak hS fuel _ a' w' h'.2⟩) (h.2 i hi)⟩
set_option maxHeartbeats 3200000 in
theorem wakesC (w:World):Calls Tryz.prog 15 #[] w fun e w' => e = .returned (.bool true) /\ Below w.heap.size w w':=by
 have BC:=begunC8 w 33 33 (by unfold Cls.In; decide) (by unfold Cls.In; decide)
 have n1:=fun w => numC6 w 0
 obtain ⟨N,hN⟩:∃ N,N = w.heap.size:=⟨_,rfl⟩
 rw [<- hN] at BC ⊢
 replace hN:=Lib.hid hN
 replace BC:=Lib.hid BC
 go_enter Tryz.func15,Tryz.ntmps15
 go_wp2_with fail
 refine BC.out.mono ?_
 rintro e w1 ⟨b1,W,g,d,rfl,hg,hd,hh,hw,A1⟩
 have R1:WLx N w w1 W g d [] []:=⟨_,_,_,_,_,_,_,b1,by rw [<- tri_one,oneL_nil]; exact A1,⟨by simp,by simp,by simp,by simp⟩,rel_new _,.inl ⟨rfl,rfl⟩,by simp,by show 0 <= _; omega,by simp,by simp,hg,hd,by rw [hh]; rfl,by rw [hw]; rfl,by simp⟩
 replace R1:=Lib.hid R1
 clear b1 hg hd hh hw A1 BC
 obtain ⟨b,hb⟩:∃ b,b = W.b:=⟨_,rfl⟩
 rw [<- hb]
 replace hb:=Lib.hid hb
 go_wp2_with fail
 go_loopw [2] (fun vi wr => ∃ (i:Nat) (W':W6) (l:List Nat),vi = .int .i64 (i:Int) /\ i <= 3 /\ Hid (W'.b = b) /\ Hid (l.length = i) /\ Hid (WLx N w wr W' g d l.reverse l)) (fun vi _ => 3 - (intOf vi).toNat)
 case atStart => exact ⟨0,W,[],rfl,Nat.zero_le _,Lib.hid hb.out.symm,Lib.hid rfl,R1⟩
 case round =>
  obtain ⟨i,W',l,rfl,hi,eb,hl,R⟩:=hrel
  clear R1
  by_cases hin:i < 3
  ·have d1:decide ((i:Int) < 3) = true:=decide_eq_true (by omega)
   have q1:IntKind.i64.wrap ((i:Int) + 1) = (i:Int) + 1:=IntWalk.i64_in _ (by omega)
   have bd:Below wr.heap.size wr wr.drew:=below_drewN (Below.refl _ _) 1
   have MC:=(R.out.below bd).make (by rw [List.length_reverse,hl.out]; omega)
   rw [eb.out] at MC
   obtain ⟨i2,hi2⟩:∃ i2,i2 = i + 1:=⟨_,rfl⟩
   have key:∀ w3 W3 H,W3.b = b -> H ∉ l.reverse -> WLx N w w3 W3 g d (l.reverse ++ [H]) l -> ∃ gT cT,(w3.cell? ⟨b,2,none⟩ = some (.pointer (some ⟨g,0,none⟩)) /\ w3.cell? ⟨b,6,none⟩ = some (.slice (some ⟨gT,0,none⟩) i2 cT) /\ w3.cell? ⟨gT,i,none⟩ = some (.int .u64 (H:Int))) /\
     Calls Tryz.prog 36 #[.pointer (some ⟨g,0,none⟩),.int .u64 (H:Int)] w3 fun e w' => e = .returned (.int .i64 0) /\ WLx N w w' W3 g d (H :: l).reverse (H :: l) /\ (w'.cell? ⟨b,2,none⟩ = some (.pointer (some ⟨g,0,none⟩)) /\ w'.cell? ⟨b,6,none⟩ = some (.slice (some ⟨gT,0,none⟩) i2 cT) /\ w'.cell? ⟨gT,i,none⟩ = some (.int .u64 (H:Int))):=by
    intro w3 W3 H eb3 hnH R3
    have key2:∀ v (k:List Nat),WLx N w v W3 g d (l.reverse ++ [H]) k -> v.cell? ⟨b,2,none⟩ = some (.pointer (some ⟨g,0,none⟩)) /\ v.cell? ⟨b,6,none⟩ = some W3.vT /\ ∃ gT cT,W3.vT = .slice (some ⟨gT,0,none⟩) i2 cT /\ v.cell? ⟨gT,i,none⟩ = some (.int .u64 (H:Int)):=by
     intro v k Rv
     obtain ⟨c2,c6,T3, -, -⟩:=Rv.cW
     rw [eb3] at c2 c6
     obtain ⟨gT,cT,hvT,u3⟩:=own_uv (i:=i) (x:=H) T3 (by rw [List.getElem?_append_right (by rw [List.length_reverse,hl.out]; exact Nat.le_refl _),List.length_reverse,hl.out,Nat.sub_self]; rfl)
     rw [List.length_append,List.length_singleton,List.length_reverse,hl.out, <- hi2] at hvT
     exact ⟨c2,c6,gT,cT,hvT,u3⟩
    obtain ⟨c2,c6,gT,cT,hvT,u3⟩:=key2 w3 l R3
    refine ⟨gT,cT,⟨c2,by rw [c6,hvT],u3⟩,?_⟩
    have EC:=R3.enter (H:=H) (by simp) (fun e => hnH (by simpa using e))
    refine EC.mono ?_
    rintro e w' ⟨rfl,R4⟩
    obtain ⟨k2,k6,gT',cT',hv',u4⟩:=key2 w' _ R4
    have e5:=hvT.symm.trans hv'
    injection e5 with e6 e7 e8
    injection e6 with e6
    injection e6 with e6
    rw [List.reverse_cons]
    exact ⟨rfl,R4,k2,by rw [k6,hvT],by rw [e6]; exact u4⟩
   have q2:((i2:Int) != (i:Int) + 1) = false:=by rw [bne_eq_false_iff_eq]; omega
   have q3:((i2:Int) == (i:Int) + 1) = true:=by rw [beq_iff_eq]; omega
   have q4:decide ((i2:Int) = (i:Int) + 1) = true:=decide_eq_true (by omega)
   have i0:(0:Int) <= (i:Int):=by omega
   have i1:(i:Int) < (i2:Int):=by omega
   replace MC:=Lib.hid MC
   replace key:=Lib.hid key
   replace hi2:=Lib.hid hi2
   clear R bd
   go_upto_region 7 with fail
   go_cut [47] from 18 to 47 (fun s47 wx => s47 = .bool false /\ ∃ (W3:W6) (H:Nat),Hid (W3.b = b) /\ Hid (WLx N w wx W3 g d (H :: l).reverse (H :: l)))
   case first =>
    refine wp_region_noPanic ?_
    refine wp_region_held_drew (S:=fun _ => True) (by kernel_rfl) trivial (fun hHeld => ?_)
    refine tkh (i:=0) (v:=?_) rfl ?_ ?_
    rotate_left
    ·try simp only [qA,qS,qZ]
     rintro w -
     go_simp
     (try with_reducible rfl)
    try simp only [qA,qS,qZ,Act.put,qT,qO,qN]
    refine tkh (i:=1) (v:=?_) rfl ?_ ?_
    rotate_left
    ·try simp only [qA,qS,qZ]
     rintro w -
     go_simp
     (try with_reducible rfl)
    try simp only [qA,qS,qZ,Act.put,qT,qO,qN]
    refine wpAnyH_ready (rs:=[2]) (by kernel_rfl) (by simp) ?_
    refine AllReadyH.cons (o:=_) rfl (fun K hK => ?_) ?_
    ·try simp only [qA,qS,qZ]
     go_simp
     go_at_call 42
     refine MC.out.mono ?_
     rintro e w3 ⟨rfl,W3,H,eb3,hnH,R3⟩
     obtain ⟨gT,cT,S3,EC⟩:=key.out w3 W3 H eb3 hnH R3
     replace EC:=Lib.hid EC
     replace eb3:=Lib.hid eb3
     clear R3 MC key hnH
     go_wp2_with fail
     refine hK.out _ _ trivial (fun hHeld => ?_)
     clear hK K hHeld
     try simp only [qA,qS,qZ,Act.put,qT,qO,qN]
     refine wpAnyH_weak (S':=fun v => v.cell? ⟨b,2,none⟩ = some (.pointer (some ⟨g,0,none⟩)) /\ v.cell? ⟨b,6,none⟩ = some (.slice (some ⟨gT,0,none⟩) i2 cT) /\ v.cell? ⟨gT,i,none⟩ = some (.int .u64 (H:Int))) (fun _ _ => trivial) _ _ _ _ ?_
     refine tkh (i:=3) (v:=?_) rfl ?_ ?_
     rotate_left
     ·try simp only [qA,qS,qZ]
      rintro w ⟨hS1,hS2,hS3⟩
      go_simp
      (try with_reducible rfl)
     try simp only [qA,qS,qZ,Act.put,qT,qO,qN]
     refine tkh (i:=4) (v:=?_) rfl ?_ ?_
     rotate_left
     ·try simp only [qA,qS,qZ]
      rintro w ⟨hS1,hS2,hS3⟩
      go_simp
      (try with_reducible rfl)
     try simp only [qA,qS,qZ,Act.put,qT,qO,qN]
     refine tkh (i:=5) (v:=?_) rfl ?_ ?_
     rotate_left
     ·try simp only [qA,qS,qZ]
      rintro w ⟨hS1,hS2,hS3⟩
      go_simp
      (try with_reducible rfl)
     try simp only [qA,qS,qZ,Act.put,qT,qO,qN]
     refine tkh (i:=6) (v:=?_) rfl ?_ ?_
     rotate_left
     ·try simp only [qA,qS,qZ]
      rintro w ⟨hS1,hS2,hS3⟩
      go_simp
      (try with_reducible rfl)
     try simp only [qA,qS,qZ,Act.put,qT,qO,qN]
     refine tkh (i:=7) (v:=?_) rfl ?_ ?_
     rotate_left
     ·try simp only [qA,qS,qZ]
      rintro w ⟨hS1,hS2,hS3⟩
      go_simp
      (try with_reducible rfl)
     try simp only [qA,qS,qZ,Act.put,qT,qO,qN]
     refine tkh (i:=8) (v:=?_) rfl ?_ ?_
     rotate_left
     ·try simp only [qA,qS,qZ]
      rintro w ⟨hS1,hS2,hS3⟩
      go_simp
      (try with_reducible rfl)
     try simp only [qA,qS,qZ,Act.put,qT,qO,qN]
     refine tkh (i:=9) (v:=?_) rfl ?_ ?_
     rotate_left
     ·try simp only [qA,qS,qZ]
      rintro w ⟨hS1,hS2,hS3⟩
      go_simp
      (try with_reducible rfl)
     try simp only [qA,qS,qZ,Act.put,qT,qO,qN]
     refine tkh (i:=10) (v:=?_) rfl ?_ ?_
     rotate_left
     ·try simp only [qA,qS,qZ]
      rintro w ⟨hS1,hS2,hS3⟩
      go_simp
      (try with_reducible rfl)
     try simp only [qA,qS,qZ,Act.put,qT,qO,qN]
     refine tkh (i:=11) (v:=?_) rfl ?_ ?_
     rotate_left
     ·try simp only [qA,qS,qZ]
      rintro w ⟨hS1,hS2,hS3⟩
      go_simp
      (try with_reducible rfl)
     try simp only [qA,qS,qZ,Act.put,qT,qO,qN]
     refine tkh (i:=12) (v:=?_) rfl ?_ ?_
     rotate_left
     ·try simp only [qA,qS,qZ]
      rintro w ⟨hS1,hS2,hS3⟩
      go_simp
      (try with_reducible rfl)
     try simp only [qA,qS,qZ,Act.put,qT,qO,qN]
     refine tkh (i:=13) (v:=?_) rfl ?_ ?_
     rotate_left
     ·try simp only [qA,qS,qZ]
      rintro w ⟨hS1,hS2,hS3⟩
      go_simp
      (try with_reducible rfl)
     try simp only [qA,qS,qZ,Act.put,qT,qO,qN]
     refine tkh (i:=14) (v:=?_) rfl ?_ ?_
     rotate_left
     ·try simp only [qA,qS,qZ]
      rintro w ⟨hS1,hS2,hS3⟩
      go_simp
      (try with_reducible rfl)
     try simp only [qA,qS,qZ,Act.put,qT,qO,qN]
     refine tkh (i:=15) (v:=?_) rfl ?_ ?_
     rotate_left
     ·try simp only [qA,qS,qZ]
      rintro w ⟨hS1,hS2,hS3⟩
      go_simp
      (try with_reducible rfl)
     try simp only [qA,qS,qZ,Act.put,qT,qO,qN]
     refine tkh (i:=16) (v:=?_) rfl ?_ ?_
     rotate_left
     ·try simp only [qA,qS,qZ]
      rintro w ⟨hS1,hS2,hS3⟩
      go_simp
      (try with_reducible rfl)
     try simp only [qA,qS,qZ,Act.put,qT,qO,qN]
     refine tkh (i:=17) (v:=?_) rfl ?_ ?_
     rotate_left
     ·try simp only [qA,qS,qZ]
      rintro w ⟨hS1,hS2,hS3⟩
      go_simp
      (try with_reducible rfl)
     try simp only [qA,qS,qZ,Act.put,qT,qO,qN]
     refine tkh (i:=18) (v:=?_) rfl ?_ ?_
     rotate_left
     ·try simp only [qA,qS,qZ]
      rintro w ⟨hS1,hS2,hS3⟩
      go_simp
      (try with_reducible rfl)
     try simp only [qA,qS,qZ,Act.put,qT,qO,qN]
     refine tkh (i:=19) (v:=?_) rfl ?_ ?_
     rotate_left
     ·try simp only [qA,qS,qZ]
      rintro w ⟨hS1,hS2,hS3⟩
      go_simp
      (try with_reducible rfl)
     try simp only [qA,qS,qZ,Act.put,qT,qO,qN]
     refine tkh (i:=20) (v:=?_) rfl ?_ ?_
     rotate_left
     ·try simp only [qA,qS,qZ]
      rintro w ⟨hS1,hS2,hS3⟩
      go_simp
      (try with_reducible rfl)
     try simp only [qA,qS,qZ,Act.put,qT,qO,qN]
     refine tkh (i:=21) (v:=?_) rfl ?_ ?_
     rotate_left
     ·try simp only [qA,qS,qZ]
      rintro w ⟨hS1,hS2,hS3⟩
      go_simp
      (try with_reducible rfl)
     try simp only [qA,qS,qZ,Act.put,qT,qO,qN]
     refine tkh (i:=22) (v:=?_) rfl ?_ ?_
     rotate_left
     ·try simp only [qA,qS,qZ]
      rintro w ⟨hS1,hS2,hS3⟩
      go_simp
      (try with_reducible rfl)
     try simp only [qA,qS,qZ,Act.put,qT,qO,qN]
     refine tkh (i:=23) (v:=?_) rfl ?_ ?_
     rotate_left
     ·try simp only [qA,qS,qZ]
      rintro w ⟨hS1,hS2,hS3⟩
      go_simp
      (try with_reducible rfl)
     try simp only [qA,qS,qZ,Act.put,qT,qO,qN]
     refine tkh (i:=24) (v:=?_) rfl ?_ ?_
     rotate_left
     ·try simp only [qA,qS,qZ]
      rintro w ⟨hS1,hS2,hS3⟩
      go_simp
      (try with_reducible rfl)
     try simp only [qA,qS,qZ,Act.put,qT,qO,qN]
     refine tkh (i:=25) (v:=?_) rfl ?_ ?_
     rotate_left
     ·try simp only [qA,qS,qZ]
      rintro w ⟨hS1,hS2,hS3⟩
      go_simp
      (try with_reducible rfl)
     try simp only [qA,qS,qZ,Act.put,qT,qO,qN]
     refine wpAnyH_ready (rs:=[26]) (by kernel_rfl) (by simp) ?_
     refine AllReadyH.cons (o:=_) rfl (fun K hK => ?_) ?_
     ·try simp only [qA,qS,qZ]
      go_simp
      go_at_call 36
      refine EC.out.mono ?_
      rintro e w4 ⟨rfl,R4,S4⟩
      replace R4:=Lib.hid R4
      clear EC
      go_wp2_with fail
      refine hK.out _ _ S4 (fun hHeld => ?_)
      clear hK K hHeld
      try simp only [qA,qS,qZ,Act.put,qT,qO,qN]
      refine wpAnyH_ready (rs:=[27]) (by kernel_rfl) (by simp) ?_
      refine AllReadyH.cons (o:=_) rfl (fun K hK => ?_) ?_
      ·try simp only [qA,qS,qZ]
       go_simp
       go_at_call 14
       refine (n1 _).mono ?_
       rintro e w' ⟨rfl,rfl⟩
       go_wp2_with fail
       refine hK.out _ _ S4 (fun hHeld => ?_)
       clear hK K hHeld
       try simp only [qA,qS,qZ,Act.put,qT,qO,qN]
       refine tkh (i:=28) (v:=?_) rfl ?_ ?_
       rotate_left
       ·try simp only [qA,qS,qZ]
        rintro w ⟨hS1,hS2,hS3⟩
        go_simp
        (try with_reducible rfl)
       try simp only [qA,qS,qZ,Act.put,qT,qO,qN]
       refine tkh (i:=29) (v:=?_) rfl ?_ ?_
       rotate_left
       ·try simp only [qA,qS,qZ]
        rintro w ⟨hS1,hS2,hS3⟩
        go_simp
        (try with_reducible rfl)
       try simp only [qA,qS,qZ,Act.put,qT,qO,qN]
       refine wpAnyH_done (by kernel_rfl) ?_ _
       refine NoPanic.normal ?_
       clear S3 S4
       go_wp2_with fail
       go_meet
       exact ⟨rfl,W3,H,eb3,R4⟩
      exact AllReadyH.nil
     exact AllReadyH.nil
    exact AllReadyH.nil
   case rest =>
    obtain ⟨rfl,W3,H,eb3,R4⟩:=hcut
    rename World => w4
    go_wp2
    go_roundw
    case rel => exact ⟨i + 1,W3,H :: l,by simp,by omega,eb3,Lib.hid (by rw [List.length_cons,hl.out]),R4⟩
    case measure => simp [intOf] <;> omega
  ·obtain rfl:i = 3:=by omega
   have d1:decide (((3:Nat):Int) < 3) = false:=by decide
   obtain ⟨c,m,a,rfl,hr3⟩:=three_rev hl.out
   have R':=R.out
   rw [hr3] at R'
   have BL:=R'.balance
   rw [eb.out] at BL
   obtain ⟨c2, -, -, -, -⟩:=R'.cW
   rw [eb.out] at c2
   obtain ⟨a64,a0⟩:=R'.lt (H:=a) (by simp)
   obtain ⟨-,m0⟩:=R'.lt (H:=m) (by simp)
   obtain ⟨-,c0⟩:=R'.lt (H:=c) (by simp)
   replace BL:=Lib.hid BL
   replace eb:=Lib.hid eb.out
   replace a0:=Lib.hid a0
   replace m0:=Lib.hid m0
   replace c0:=Lib.hid c0
   clear R R' hr3 hl
   go_wp2_with fail
   refine BL.out.mono ?_
   rintro e w2 ⟨rfl,b2,s,bs,Z,mk,L,gq,gl,S2,ea,hN2,k2,k6,T2,bl2⟩
   (try rw [eb.out] at k2)
   (try rw [eb.out] at k6)
   have PC:=pickC S2 0 0 5 (by unfold Cls.In; decide)
   obtain ⟨p1,p2⟩:=pick_three (A:=actB s Z mk) a0.out m0.out c0.out (actB_even ea)
   rw [tri_row,show ([m,a].reverse ++ ([]:List Nat).reverse ++ [c].reverse) = [a,m,c] from rfl,p1,p2] at PC
   clear p1 p2
   have LC:=fun v (bv:Below w2.heap.size w2 v) => lenC3 (S2.below bv) 0
   obtain ⟨t1,t2,t3⟩:=tri_len [c] [] [m,a]
   rw [t1,t2,t3] at LC
   obtain ⟨gT,cT,hvT,u0⟩:=own_uv (i:=0) (x:=a) T2 rfl
   rw [hvT,show [a,m,c].length = 3 from rfl] at k6
   replace PC:=Lib.hid PC
   replace LC:=Lib.hid LC
   replace b2:=Lib.hid b2
   replace hvT:=Lib.hid hvT
   clear S2 T2 ea t1 t2 t3 BL c2
   go_wp2_with fail
   refine PC.out.mono ?_
   rintro e w3 ⟨rfl,b3⟩
   have k2':=(b3.cell (p:=⟨b,2,none⟩) (World.block_lt_of_cell? _ _ k2)).trans k2
   have k6':=(b3.cell (p:=⟨b,6,none⟩) (World.block_lt_of_cell? _ _ k6)).trans k6
   have u0':=(b3.cell (p:=⟨gT,0,none⟩) (World.block_lt_of_cell? _ _ u0)).trans u0
   have LC3:=Lib.hid (LC.out w3 b3)
   have b13:=b2.out.trans (b3.mono hN2)
   have hN3:=Nat.le_trans hN2 b3.size
   replace b13:=Lib.hid b13
   clear k2 k6 u0 b3 b2 PC LC
   go_wp2_with fail
   refine LC3.out.mono ?_
   rintro e w4 ⟨rfl,b4⟩
   have k6:=(b4.cell (p:=⟨b,6,none⟩) (World.block_lt_of_cell? _ _ k6')).trans k6'
   have u0:=(b4.cell (p:=⟨gT,0,none⟩) (World.block_lt_of_cell? _ _ u0')).trans u0'
   have b14:=Lib.hid (b13.out.trans (b4.mono hN3))
   clear k2' k6' u0' b4 b13
   go_wp2
   go_ret
   exact ⟨rfl,b14.out⟩
theorem shr_in {d:Int} (hd:Cls.In d) (n:Nat):Cls.In (d / 2 ^ n):=by
 unfold Cls.In at *
 have h0:(0:Int) < 2 ^ n:=Int.pow_pos (by decide)
 have e1:=Int.mul_ediv_add_emod d (2 ^ n)
 have e2:=Int.emod_nonneg d (show (2:Int) ^ n ≠ 0 by omega)
 have e3:=Int.emod_lt_of_pos d h0
 obtain ⟨p,hp⟩:∃ p:Int,p = 2 ^ n:=⟨_,rfl⟩
 rw [<- hp] at h0 e1 e2 e3 ⊢
 obtain ⟨q,hq⟩:∃ q,q = d / p:=⟨_,rfl⟩
 rw [<- hq] at e1 ⊢
 rcases (show q + 1 <= 0 \/ 0 <= q by omega) with h | h
 ·have:(p - 1) * (q + 1) <= 0:=Int.mul_nonpos_of_nonneg_of_nonpos (by omega) h
  rw [Int.sub_mul,Int.mul_add,Int.mul_one] at this
  omega
 ·have : 0 <= (p - 1) * q:=Int.mul_nonneg (by omega) h
  rw [Int.sub_mul] at this
  omega
set_option maxHeartbeats 3200000 in
theorem playsC {N:Nat} {W0 w:World} {b g:Nat} {hot warm:Int} {t:Nat} (G0:Goer N W0 b (some g) hot warm w t) (ht:t <= 600) (a0:Option Addr) (cap:Nat) (l:List Op6) (hP:∀ (k:Nat) (hk:k < l.length),ORow W0 a0 k l[k]) (hN:W0.heap.size <= N) (hl:l.length <= maxLen) (deads:Int) (hd:Cls.In deads) :
  Calls Tryz.prog 24 #[.pointer (some ⟨b,0,none⟩),.slice a0 l.length cap,.int .i64 deads] w fun e w' => e = .returned (.bool true) /\ ∃ t',t' <= t + 250 /\ Goer N W0 b (some g) hot warm w' t':=by
 have HP:=Lib.hid hP
 have G1:=Lib.hid G0
 unfold maxLen at hl
 clear hP G0
 go_enter Tryz.func24,Tryz.ntmps24
 go_wp2_with fail
 go_loopw [7] (fun vi wr => ∃ i:Nat,vi = .int .i64 (i:Int) /\ i <= l.length /\ i <= 250 /\ Hid (Goer N W0 b (some g) hot warm wr (t + i))) (fun vi _ => l.length - (intOf vi).toNat)
 case atStart => exact ⟨0,rfl,Nat.zero_le _,Nat.zero_le _,G1⟩
 case round =>
  obtain ⟨i,rfl,hi,hi2,G⟩:=hrel
  clear G1
  by_cases hlt:i < l.length /\ i < 250
  ·obtain ⟨h1,h2⟩:=hlt
   have d1:decide ((i:Int) < (l.length:Int)) = true:=decide_eq_true (by omega)
   have d1':decide (i < l.length) = true:=decide_eq_true h1
   have d2:decide ((i:Int) < 250) = true:=decide_eq_true (by omega)
   have q1:IntKind.i64.wrap ((i:Int) + 1) = (i:Int) + 1:=IntWalk.i64_in _ (by omega)
   have i0:(0:Int) <= (i:Int):=by omega
   have i1:(i:Int) < (l.length:Int):=by omega
   obtain ⟨W2,s2,bs2,Z2,Ls2,r2,laid2,told2,act2,mk2,eb,eg,eh,ew,hB,hNr,T⟩:=G.out
   obtain ⟨b9,off,rfl,hbl,ok,O1⟩:=HP.out i h1
   have hbN:b9 < N:=by omega
   generalize l[i] = o at *
   obtain ⟨z0,z1,z2,z3,z4,z5⟩:=O1.below hB hbN
   obtain ⟨Na,hNa⟩:∃ Na,Na = wr.heap.size:=⟨_,rfl⟩
   obtain ⟨w2,hw2⟩:∃ w2,w2 = wr.alloc (.cells o.cells 64):=⟨_,rfl⟩
   have B2:Blk w2 Na 64 o.cells:=by rw [hw2,hNa]; exact Blk.new wr _ _
   have b2:Below wr.heap.size wr w2:=by rw [hw2]; exact (Below.refl _ _).alloc (Nat.le_refl _) _
   obtain ⟨x0,x1,x2,x3,x4,x5⟩:=op6_cells B2
   have T2:=T.below b2
   have hB2:Below N W0 w2:=hB.trans (b2.mono hNr)
   have hN2:N <= w2.heap.size:=Nat.le_trans hNr b2.size
   have GN:=fun w' (G:Goes N w2 w' W2 s2 (t + (i + 1))) => Goer.next T2 hB2 eb eg eh ew G
   have GB:=fun w' (k:Below w2.heap.size w2 w') => (Goer.next T2 hB2 eb eg eh ew (T2.stays k (show t + i <= t + (i + 1) by omega)))
   have b2s:∀ w',Below w2.heap.size w2 w' -> w'.heap[Na]? = w2.heap[Na]?:=fun w' k => k.block Na B2.lt
   have ti:t + i <= 60000:=by omega
   have PC:=fun (bits:Int) (hb:Cls.In bits) => lpickC T2 ti eg o ok bits hb
   have LC:=lengthC8 T2 ti eg o.c
   have HC:=handleC T2 ti o ok
   have hlt8:=hdN_lt T2.tlt ok
   have DC:=fun w' (k:Below w2.heap.size w2 w') => headerC8 (T2.below k) ti eg (hdN told2 o) hlt8
   have MC:=movesC T2 (show t + i <= 900 by omega) o ok (.inl ⟨g,eg⟩)
   have sh9:=fun n => shr_in hd n
   rw [eb] at PC LC HC DC MC
   unfold Op6.cells at PC HC MC hw2
   generalize hdN told2 o = H at *
   replace PC:=Lib.hid PC
   replace LC:=Lib.hid LC
   replace HC:=Lib.hid HC
   replace DC:=Lib.hid DC
   replace MC:=Lib.hid MC
   replace GN:=Lib.hid GN
   replace GB:=Lib.hid GB
   replace hw2:=Lib.hid hw2
   replace hNa:=Lib.hid hNa
   clear HP T T2 hB hbl O1 ok hNr G eb eg eh ew B2 b2 b2s hB2 hN2 hlt8 ti
   go_upto_region 5 with fail
   rw [<- hNa.out, <- hw2.out]
   by_cases h8:o.dO = 8
   ·skip
    have e8:(o.dO == 8) = true:=by rw [h8]; rfl
    have f8:decide (o.dO = 8) = true:=decide_eq_true h8
    replace h8:=Lib.hid h8
    have PC1:=Lib.hid (PC.out _ (sh9 (i % 9)))
    clear PC LC HC DC MC sh9
    go_wp2_with fail
    refine PC1.out.mono ?_
    rintro e w3 ⟨rfl,b3⟩
    have G3:=Lib.hid (GB.out _ b3)
    clear b3 GB GN x0 x1 x2 x3 x4 x5 z0 z1 z2 z3 z4 z5 hw2
    go_wp2
    go_roundw
    case rel => exact ⟨i + 1,by simp,by omega,by omega,G3⟩
    case measure => simp [intOf] <;> omega
   ·skip
    have e8:(o.dO == 8) = false:=by rw [beq_eq_false_iff_ne]; exact h8
    have f8:decide (o.dO = 8) = false:=decide_eq_false h8
    replace h8:=Lib.hid h8
    by_cases h9:o.dO = 9
    ·skip
     have e9:(o.dO == 9) = true:=by rw [h9]; rfl
     have f9:decide (o.dO = 9) = true:=decide_eq_true h9
     replace h9:=Lib.hid h9
     clear PC HC DC MC sh9
     go_wp2_with fail
     refine LC.out.mono ?_
     rintro e w3 ⟨rfl,b3⟩
     have G3:=Lib.hid (GB.out _ b3)
     clear b3 GB GN x0 x1 x2 x3 x4 x5 z0 z1 z2 z3 z4 z5 hw2
     go_wp2
     go_roundw
     case rel => exact ⟨i + 1,by simp,by omega,by omega,G3⟩
     case measure => simp [intOf] <;> omega
    ·skip
     have e9:(o.dO == 9) = false:=by rw [beq_eq_false_iff_ne]; exact h9
     have f9:decide (o.dO = 9) = false:=decide_eq_false h9
     replace h9:=Lib.hid h9
     by_cases h11:o.dO = 11
     ·skip
      have e11:(o.dO == 11) = true:=by rw [h11]; rfl
      have f11:decide (o.dO = 11) = true:=decide_eq_true h11
      replace h11:=Lib.hid h11
      clear PC LC MC sh9
      go_wp2_with fail
      refine HC.out.mono ?_
      rintro e w3 ⟨rfl,b3⟩
      have D3:=Lib.hid (DC.out _ b3)
      replace b3:=Lib.hid b3
      go_wp2_with fail
      refine D3.out.mono ?_
      rintro e w4 ⟨rfl,b4⟩
      have G3:=Lib.hid (GB.out _ (b3.out.trans (b4.mono b3.out.size)))
      clear b3 b4 D3 DC HC GB GN x0 x1 x2 x3 x4 x5 z0 z1 z2 z3 z4 z5 hw2
      go_wp2
      go_roundw
      case rel => exact ⟨i + 1,by simp,by omega,by omega,G3⟩
      case measure => simp [intOf] <;> omega
     ·skip
      have e11:(o.dO == 11) = false:=by rw [beq_eq_false_iff_ne]; exact h11
      have f11:decide (o.dO = 11) = false:=decide_eq_false h11
      replace h11:=Lib.hid h11
      clear PC LC HC DC sh9
      go_wp2_with fail
      refine MC.out.mono ?_
      rintro e w3 ⟨rfl,G9⟩
      have G3:=Lib.hid (GN.out _ (by rw [<- Nat.add_assoc]; exact G9))
      clear G9 GB GN x0 x1 x2 x3 x4 x5 z0 z1 z2 z3 z4 z5 hw2
      go_wp2
      go_roundw
      case rel => exact ⟨i + 1,by simp,by omega,by omega,G3⟩
      case measure => simp [intOf] <;> omega
  have GE:=Lib.hid (⟨t + i,by omega,G.out⟩:∃ t',t' <= t + 250 /\ Goer N W0 b (some g) hot warm wr t')
  clear G HP
  rcases Nat.lt_or_ge i l.length with h1 | h1
  ·have d1:decide ((i:Int) < (l.length:Int)) = true:=decide_eq_true (by omega)
   have d1':decide (i < l.length) = true:=decide_eq_true h1
   have d2:decide ((i:Int) < 250) = false:=decide_eq_false (by omega)
   clear hlt
   go_wp2
   go_ret
   exact ⟨rfl,GE.out⟩
  ·have d1:decide ((i:Int) < (l.length:Int)) = false:=decide_eq_false (by omega)
   have d1':decide (i < l.length) = false:=decide_eq_false (by omega)
   clear hlt
   go_wp2
   go_ret
   exact ⟨rfl,GE.out⟩
set_option maxHeartbeats 3200000 in
theorem lruExactC (W:World) (a b:Int) (ha:Cls.In a) (hb:Cls.In b) (a0:Option Addr) (cap:Nat) (l:List Op6) (hP:∀ (k:Nat) (hk:k < l.length),ORow W a0 k l[k]) (hl:l.length <= maxLen) (deads:Int) (hd:Cls.In deads) :
  Calls Tryz.prog 6 #[.agg #[.int .i64 a,.int .i64 b],.slice a0 l.length cap,.int .i64 deads] W fun e w' => e = .returned (.bool true) /\ Below W.heap.size W w':=by
 obtain ⟨w1,hw1⟩:∃ w1,w1 = W.alloc (.cells #[.int .i64 a,.int .i64 b] 38):=⟨_,rfl⟩
 have B1:Blk w1 W.heap.size 38 #[.int .i64 a,.int .i64 b]:=by rw [hw1]; exact Blk.new W _ _
 have b1:Below W.heap.size W w1:=by rw [hw1]; exact (Below.refl _ _).alloc (Nat.le_refl _) _
 have x0:=B1.cell 0
 have x1:=B1.cell 1
 have BC:=Lib.hid (begunC8 w1 a b ha hb)
 have sh:=Lib.hid (begun_shr a b)
 have HP:=Lib.hid hP
 have WC:=Lib.hid wakesC
 clear hP ha hb B1
 generalize hotN a = hot at *
 generalize warmN a b = warm at *
 obtain ⟨N,hN⟩:∃ N,W.heap.size = N:=⟨_,rfl⟩
 rw [hN] at b1 x0 x1 ⊢
 replace hN:=Lib.hid hN
 replace hw1:=Lib.hid hw1
 go_enter Tryz.func6,Tryz.ntmps6
 go_upto_region 1 with fail
 rw [hN.out, <- hw1.out]
 go_wp2_with fail
 refine BC.out.mono ?_
 rintro e w2 ⟨b2,W1,g,d,rfl,eg,ed,eh,ew,A1⟩
 have hN1:N <= w1.heap.size:=by have:=b1.size; rw [<- hN.out]; exact this
 have G1:Goer N W W1.b (some g) (hot:Int) (warm:Int) w2 0:=⟨W1,_,_,_,_,_,_,_,_,_,rfl,eg,eh,ew,b1.trans (b2.mono hN1),Nat.le_trans hN1 b2.size,LI.new (A1.weak hN1) ⟨d,ed⟩ (by rw [eh,ew]; exact sh.out)⟩
 generalize W1.b = b0 at *
 have PC:=Lib.hid (playsC G1 (by omega) a0 cap l HP.out (by rw [hN.out]; exact Nat.le_refl _) hl deads hd)
 unfold maxLen at hl
 clear b1 b2 A1 BC x0 x1 hw1 eg ed eh ew G1 HP
 go_wp2_with fail
 refine PC.out.mono ?_
 rintro e w3 ⟨rfl,t,ht,W3,s,bs,Z,Ls,r,laid,told,act,mk,eb,eg,eh,ew,hB,hN3,T⟩
 have EC:=endsC8 T (by omega) eg
 rw [eb] at EC
 have fin:∀ v,Below w3.heap.size w3 v -> Below N W v /\ N <= v.heap.size:=fun v b => ⟨hB.trans (b.mono hN3),Nat.le_trans hN3 b.size⟩
 replace EC:=Lib.hid EC
 replace fin:=Lib.hid fin
 clear T PC eb eg eh ew hB hN3
 go_wp2_with fail
 refine EC.out.mono ?_
 rintro e w4 ⟨rfl,b4⟩
 have W4:=Lib.hid (WC.out w4)
 have F4:=Lib.hid (fin.out w4 b4)
 clear b4 EC fin
 go_wp2_with fail
 refine W4.out.mono ?_
 rintro e w5 ⟨rfl,b5⟩
 have F5:=Lib.hid (F4.out.1.trans (b5.mono F4.out.2))
 clear b5 W4 F4
 go_wp2
 go_ret
 exact ⟨rfl,F5.out⟩
def Gov (N:Nat) (W0:World) (b:Nat) (gm:Option Nat) (hot warm:Int) (M:Nat) (w:World) (t:Nat):Prop :=
 ∃ W s bs Z Ls r laid told act mk,W.b = b /\ W.gm = gm /\ W.hot = hot /\ W.warm = warm /\ Below N W0 w /\ N <= w.heap.size /\ LI N w W s bs Z Ls r laid told act mk t /\ (∀ i,¬ W.foot qc s i M) /\ Blk w M 38 #[.int .i64 hot,.int .i64 warm]
set_option maxHeartbeats 4000000 in
theorem lruOverC (W:World) (a b:Int) (ha:Cls.In a) (hb:Cls.In b) (a0:Option Addr) (cap0:Nat) (l0:List Op6) (hP0:∀ (k:Nat) (hk:k < l0.length),ORow W a0 k l0[k]) (hl0:l0.length <= maxLen)
  (a1:Option Addr) (cap1:Nat) (l1:List Op6) (hP1:∀ (k:Nat) (hk:k < l1.length),ORow W a1 k l1[k]) (hl1:l1.length <= maxLen) (deads:Int) (hd:Cls.In deads) :
  Calls Tryz.prog 7 #[.agg #[.int .i64 a,.int .i64 b,.slice a0 l0.length cap0,.slice a1 l1.length cap1,.int .i64 deads]] W fun e w' => e = .returned (.bool true) /\ Below W.heap.size W w':=by
 obtain ⟨w1,hw1⟩:∃ w1,w1 = W.alloc (.cells #[.int .i64 a,.int .i64 b,.slice a0 l0.length cap0,.slice a1 l1.length cap1,.int .i64 deads] 62):=⟨_,rfl⟩
 have B1:Blk w1 W.heap.size 62 #[.int .i64 a,.int .i64 b,.slice a0 l0.length cap0,.slice a1 l1.length cap1,.int .i64 deads]:=by rw [hw1]; exact Blk.new W _ _
 have b1:Below W.heap.size W w1:=by rw [hw1]; exact (Below.refl _ _).alloc (Nat.le_refl _) _
 have sh0:=begun_shr a b
 have SC:=fun w => sharedC w a b ha hb
 obtain ⟨s1,s2,s3,s4⟩:=shares_in a b
 generalize hotN a = hot at *
 generalize warmN a b = warm at *
 have LN:=fun w g gq => lruNewC w g gq (hot:Int) (warm:Int) (by omega) (by omega) (by omega)
 have RN:=fun w g => rlruNewC w g (hot:Int) (warm:Int) (by omega) (by omega) (by omega)
 have CC:=Lib.hid (chunksC w1)
 have WC:=Lib.hid wakesC
 have n0:=fun w => numC6 w 0
 have HP0:Hid (∀ (k:Nat) (hk:k < l0.length),ORow w1 a0 k l0[k]):=Lib.hid (fun k hk => by
  obtain ⟨b9,off,e,h1,h2,h3⟩:=hP0 k hk
  exact ⟨b9,off,e,Nat.lt_of_lt_of_le h1 b1.size,h2,h3.below b1 h1⟩)
 have HP1:Hid (∀ (k:Nat) (hk:k < l1.length),ORow w1 a1 k l1[k]):=Lib.hid (fun k hk => by
  obtain ⟨b9,off,e,h1,h2,h3⟩:=hP1 k hk
  exact ⟨b9,off,e,Nat.lt_of_lt_of_le h1 b1.size,h2,h3.below b1 h1⟩)
 obtain ⟨N0,hN⟩:∃ N0,N0 = W.heap.size:=⟨_,rfl⟩
 obtain ⟨N,hN1⟩:∃ N,N = w1.heap.size:=⟨_,rfl⟩
 rw [<- hN] at B1 b1 ⊢
 have x0:=B1.cell 0
 have x1:=B1.cell 1
 have bx:∀ v,Below N w1 v -> v.cell? ⟨N0,0,none⟩ = some (.int .i64 a) /\ v.cell? ⟨N0,1,none⟩ = some (.int .i64 b) /\ v.cell? ⟨N0,2,none⟩ = some (.slice a0 l0.length cap0) /\ v.cell? ⟨N0,3,none⟩ = some (.slice a1 l1.length cap1) /\ v.cell? ⟨N0,4,none⟩ = some (.int .i64 deads):=fun v k => by
  have B:=B1.below k (by rw [hN1]; exact B1.lt)
  exact ⟨B.cell 0,B.cell 1,B.cell 2,B.cell 3,B.cell 4⟩
 have bF:∀ v,Below N w1 v -> Below N0 W v:=fun v k => b1.trans (k.mono (by have:=b1.size; omega))
 replace SC:=Lib.hid SC
 replace LN:=Lib.hid LN
 replace RN:=Lib.hid RN
 replace n0:=Lib.hid n0
 replace bx:=Lib.hid bx
 replace bF:=Lib.hid bF
 replace hN:=Lib.hid hN
 replace hw1:=Lib.hid hw1
 unfold maxLen at hl0
 clear hP0 hP1 ha hb s1 s2 s3 s4 B1 b1
 go_enter Tryz.func7,Tryz.ntmps7
 go_upto_region 1 with fail
 rw [<- hN.out, <- hw1.out]
 go_wp2_with fail
 refine CC.out.mono ?_
 rintro e w2 ⟨b2,Wc,rfl,eg,ed,ev,A2⟩
 rw [<- hN1] at b2 A2
 replace hw1:=Lib.hid hw1
 clear x0 x1 CC
 obtain ⟨x0,x1, -, -, -⟩:=bx.out w2 b2
 have hN2:N <= w2.heap.size:=A2.hN0
 replace b2:=Lib.hid b2
 replace A2:=Lib.hid A2
 go_wp2_with fail
 refine (SC.out w2).mono ?_
 rintro e w3 ⟨rfl,b3⟩
 obtain ⟨M,hM⟩:∃ M,M = w3.heap.size:=⟨_,rfl⟩
 obtain ⟨w4,hw4⟩:∃ w4,w4 = w3.alloc (.cells #[.int .i64 (hot:Int),.int .i64 (warm:Int)] 38):=⟨_,rfl⟩
 have B4:Blk w4 M 38 #[.int .i64 (hot:Int),.int .i64 (warm:Int)]:=by rw [hw4,hM]; exact Blk.new w3 _ _
 have c4:Below w2.heap.size w2 w4:=by rw [hw4]; exact b3.alloc b3.size _
 have A4:=A2.out.below c4
 have b4:=b2.out.trans (c4.mono hN2)
 have hMf:∀ i,¬ Wc.foot qc (new0 qc.cf) i M:=fun i e => by
  have:=A2.out.lt i _ e
  have:=b3.size
  omega
 have hMN:N <= M:=by have:=b3.size; omega
 obtain ⟨y0,y1,y3,y4,y6⟩:=A4.cW
 have x0:=B4.cell 0
 have x1:=B4.cell 1
 replace hw4:=Lib.hid hw4
 replace hM:=Lib.hid hM
 replace b4:=Lib.hid b4
 replace A4:=Lib.hid A4
 replace hMf:=Lib.hid hMf
 clear b3 c4 A2 b2 SC y0 y1 y3 y6
 go_upto_region 5 with fail
 rw [<- hM.out, <- hw4.out]
 obtain ⟨wd,hwd⟩:∃ wd,wd = w4.drew:=⟨_,rfl⟩
 have bd:Below w4.heap.size w4 wd:=by rw [hwd]; exact below_drewN (Below.refl _ _) 1
 have Sd:wd.cell? ⟨Wc.b,4,none⟩ = some (.pointer (some ⟨Wc.R.b,0,none⟩)) /\ wd.cell? ⟨M,0,none⟩ = some (.int .i64 (hot:Int)) /\ wd.cell? ⟨M,1,none⟩ = some (.int .i64 (warm:Int)):=by rw [hwd]; exact ⟨y4,x0,x1⟩
 replace bd:=Lib.hid bd
 clear y4 x0 x1 hw4
 refine wp_region_noPanic ?_
 refine wp_region_held_drew (S:=fun v => v.cell? ⟨Wc.b,4,none⟩ = some (.pointer (some ⟨Wc.R.b,0,none⟩)) /\ v.cell? ⟨M,0,none⟩ = some (.int .i64 (hot:Int)) /\ v.cell? ⟨M,1,none⟩ = some (.int .i64 (warm:Int))) (by kernel_rfl) (by rw [<- hwd]; exact Sd) (fun hHeld => ?_)
 rw [<- hwd] at hHeld ⊢
 clear hwd
 refine tkh (i:=0) (v:=?_) rfl ?_ ?_
 rotate_left
 ·try simp only [qA,qS,qZ]
  rintro w ⟨hS1,hS2,hS3⟩
  go_simp
  (try with_reducible rfl)
 try simp only [qA,qS,qZ,Act.put,qT,qO,qN]
 refine tkh (i:=1) (v:=?_) rfl ?_ ?_
 rotate_left
 ·try simp only [qA,qS,qZ]
  rintro w ⟨hS1,hS2,hS3⟩
  go_simp
  (try with_reducible rfl)
 try simp only [qA,qS,qZ,Act.put,qT,qO,qN]
 refine tkh (i:=2) (v:=?_) rfl ?_ ?_
 rotate_left
 ·try simp only [qA,qS,qZ]
  rintro w ⟨hS1,hS2,hS3⟩
  go_simp
  (try with_reducible rfl)
 try simp only [qA,qS,qZ,Act.put,qT,qO,qN]
 refine tkh (i:=3) (v:=?_) rfl ?_ ?_
 rotate_left
 ·try simp only [qA,qS,qZ]
  rintro w ⟨hS1,hS2,hS3⟩
  go_simp
  (try with_reducible rfl)
 try simp only [qA,qS,qZ,Act.put,qT,qO,qN]
 refine tkh (i:=4) (v:=?_) rfl ?_ ?_
 rotate_left
 ·try simp only [qA,qS,qZ]
  rintro w ⟨hS1,hS2,hS3⟩
  go_simp
  (try with_reducible rfl)
 try simp only [qA,qS,qZ,Act.put,qT,qO,qN]
 refine tkh (i:=5) (v:=?_) rfl ?_ ?_
 rotate_left
 ·try simp only [qA,qS,qZ]
  rintro w ⟨hS1,hS2,hS3⟩
  go_simp
  (try with_reducible rfl)
 try simp only [qA,qS,qZ,Act.put,qT,qO,qN]
 refine tkh (i:=6) (v:=?_) rfl ?_ ?_
 rotate_left
 ·try simp only [qA,qS,qZ]
  rintro w ⟨hS1,hS2,hS3⟩
  go_simp
  (try with_reducible rfl)
 try simp only [qA,qS,qZ,Act.put,qT,qO,qN]
 refine tkh (i:=7) (v:=?_) rfl ?_ ?_
 rotate_left
 ·try simp only [qA,qS,qZ]
  rintro w ⟨hS1,hS2,hS3⟩
  go_simp
  (try with_reducible rfl)
 try simp only [qA,qS,qZ,Act.put,qT,qO,qN]
 refine wpAnyH_ready (rs:=[8]) (by kernel_rfl) (by simp) ?_
 refine AllReadyH.cons (o:=_) rfl (fun K hK => ?_) ?_
 rotate_left
 ·exact AllReadyH.nil
 try simp only [qA,qS,qZ]
 go_simp
 go_at_call 13
 refine (RN.out _ _).mono ?_
 rintro e we ⟨rfl,hwe⟩
 have be:Below wd.heap.size wd we:=by rw [hwe]; exact (Below.refl _ _).alloc (Nat.le_refl _) _
 have Be:Blk we wd.heap.size 99 #[.pointer (some ⟨Wc.R.b,0,none⟩),.int .i64 (hot:Int),.int .i64 (warm:Int),.slice none 0 0]:=by rw [hwe]; exact Blk.new wd _ _
 have Se:we.cell? ⟨Wc.b,4,none⟩ = some (.pointer (some ⟨Wc.R.b,0,none⟩)) /\ we.cell? ⟨M,0,none⟩ = some (.int .i64 (hot:Int)) /\ we.cell? ⟨M,1,none⟩ = some (.int .i64 (warm:Int)):=by
  obtain ⟨u0,u1,u2⟩:=Sd
  exact ⟨(be.cell (World.block_lt_of_cell? _ _ u0)).trans u0,(be.cell (World.block_lt_of_cell? _ _ u1)).trans u1,(be.cell (World.block_lt_of_cell? _ _ u2)).trans u2⟩
 clear hwe
 go_wp2_with fail
 refine hK.out _ _ (Se) (fun hHeld8 => ?_)
 clear hK K
 try simp only [qA,qS,qZ,Act.put,qT,qO,qN]
 refine tkh (i:=9) (v:=?_) rfl ?_ ?_
 rotate_left
 ·try simp only [qA,qS,qZ]
  rintro w ⟨hS1,hS2,hS3⟩
  go_simp
  (try with_reducible rfl)
 try simp only [qA,qS,qZ,Act.put,qT,qO,qN]
 refine tkh (i:=10) (v:=?_) rfl ?_ ?_
 rotate_left
 ·try simp only [qA,qS,qZ]
  rintro w ⟨hS1,hS2,hS3⟩
  go_simp
  (try with_reducible rfl)
 try simp only [qA,qS,qZ,Act.put,qT,qO,qN]
 refine tkh (i:=11) (v:=?_) rfl ?_ ?_
 rotate_left
 ·try simp only [qA,qS,qZ]
  rintro w ⟨hS1,hS2,hS3⟩
  go_simp
  (try with_reducible rfl)
 try simp only [qA,qS,qZ,Act.put,qT,qO,qN]
 refine tkh (i:=12) (v:=?_) rfl ?_ ?_
 rotate_left
 ·try simp only [qA,qS,qZ]
  rintro w ⟨hS1,hS2,hS3⟩
  go_simp
  (try with_reducible rfl)
 try simp only [qA,qS,qZ,Act.put,qT,qO,qN]
 refine tkh (i:=13) (v:=?_) rfl ?_ ?_
 rotate_left
 ·try simp only [qA,qS,qZ]
  rintro w ⟨hS1,hS2,hS3⟩
  go_simp
  (try with_reducible rfl)
 try simp only [qA,qS,qZ,Act.put,qT,qO,qN]
 refine wpAnyH_done (by kernel_rfl) ?_ _
 refine NoPanic.normal ?_
 clear hHeld hHeld8 Sd
 have c5:=bd.out.trans (be.mono bd.out.size)
 have A5:=A4.out.below c5
 have B5:=B4.below c5 B4.lt
 have b5:=b4.out.trans (c5.mono (by have:=A4.out.hN0; exact this))
 obtain ⟨d,hdd⟩:∃ d,d = wd.heap.size:=⟨_,rfl⟩
 rw [<- hdd] at Be ⊢
 have hdw4:w4.heap.size <= d:=by rw [hdd]; exact bd.out.size
 have fz:=A5.own.frozen 5
 have c9:we.cell? ⟨Wc.b,5,none⟩ = some (ptrO Wc.dm):=A5.own.cell 5
 obtain ⟨w6,hw6⟩:∃ w6,w6 = we.setCell ⟨Wc.b,5,none⟩ (.pointer (some ⟨d,0,none⟩)):=⟨_,rfl⟩
 have A5s:=A5.shares eg ed (hot:Int) (warm:Int)
 obtain ⟨Wm,hWm⟩:∃ Wm:W6,Wm = { Wc with hot:=(hot:Int),warm:=(warm:Int),dm:=some d }:=⟨_,rfl⟩
 have A6:WAt N w6 Wm qc (new0 qc.cf) (List.replicate (qc.cf.ps * qc.cf.np) 0) (fun _ => none) (fun _ _ => []) (fun _ _ => []) rnew0 [] [] [] (fun _ => 0):=by
  have:=WAt.setM A5s (show _ = none from ed) (d:=d) (by show Blk we d 99 #[.pointer (some ⟨Wc.R.b,0,none⟩),.int .i64 (hot:Int),.int .i64 (warm:Int),Wc.vA]; rw [ev]; exact Be) (by show Wc.vA.ownBlock = none; rw [ev]; rfl) (fun i e => by
   have:=A4.out.lt i _ (by cases i <;> exact e)
   omega) (by have:=A4.out.hN0; omega)
  rw [hWm,hw6]
  exact this
 have hbM:Wc.b ≠ M:=fun e => hMf.out .own (.inl e.symm)
 have B6:Blk w6 M 38 #[.int .i64 (hot:Int),.int .i64 (warm:Int)]:=by rw [hw6]; exact B5.far (p:=⟨Wc.b,5,none⟩) (fun e => hbM e.symm) _
 have hbN:N <= Wc.b:=A5.base .own _ (.inl rfl)
 have b6:Below N w1 w6:=by rw [hw6]; exact b5.setCell (p:=⟨Wc.b,5,none⟩) hbN _
 have G6:Gov N w1 Wc.b none (hot:Int) (warm:Int) M w6 0:=by
  refine ⟨Wm,_,_,_,_,_,_,_,_,_,by rw [hWm],by rw [hWm]; exact eg,by rw [hWm],by rw [hWm],b6,A6.hN0,LI.new A6 ⟨d,by rw [hWm]⟩ (by rw [hWm]; exact sh0),fun i e => ?_,B6⟩
  have hMd:M ≠ d:=by have:=B4.lt; omega
  rw [hWm] at e
  cases i with
  | act =>
   rcases e with e | e
   ·exact hMd (by injection (show some d = some M from e) with e; exact e.symm)
   ·exact hMf.out .act (.inr e)
  | set => exact hMf.out .set e
  | ref => exact hMf.out .ref e
  | queue => exact hMf.out .queue e
  | doc => exact hMf.out .doc e
  | own => exact hMf.out .own e
  | lru => exact hMf.out .lru e
 replace G6:=Lib.hid G6
 replace hw6:=Lib.hid hw6
 obtain ⟨bW,hbW⟩:∃ bW,bW = Wc.b:=⟨_,rfl⟩
 rw [<- hbW] at G6 fz c9 hw6 ⊢
 clear bd A4 A5 B5 b5 A5s A6 B6 b6 Be be hMf hdd hdw4 hbM hbN b4 B4 hWm c5 RN hbW
 go_upto_region 7 with fail
 rw [<- hw6.out]
 clear hw6 fz c9
 go_wp2_with fail
 go_loopw [7] (fun vi wr => ∃ i:Nat,vi = .int .i64 (i:Int) /\ i <= l0.length /\ i <= 250 /\ Hid (Gov N w1 bW none (hot:Int) (warm:Int) M wr i)) (fun vi _ => l0.length - (intOf vi).toNat)
 case atStart => exact ⟨0,rfl,Nat.zero_le _,Nat.zero_le _,G6⟩
 case round =>
  obtain ⟨i,rfl,hi,hi2,G⟩:=hrel
  clear G6
  obtain ⟨W2,s2,bs2,Z2,Ls2,r2,laid2,told2,act2,mk2,eb,eg2,eh,ew,hB,hNr,T,hf,BM⟩:=G.out
  obtain ⟨-, -,z2, -, -⟩:=bx.out wr hB
  by_cases hlt:i < l0.length /\ i < 250
  ·obtain ⟨h1,h2⟩:=hlt
   have d1:decide ((i:Int) < (l0.length:Int)) = true:=decide_eq_true (by omega)
   have d1':decide (i < l0.length) = true:=decide_eq_true h1
   have d2:decide ((i:Int) < 250) = true:=decide_eq_true (by omega)
   have q1:IntKind.i64.wrap ((i:Int) + 1) = (i:Int) + 1:=IntWalk.i64_in _ (by omega)
   have i0:(0:Int) <= (i:Int):=by omega
   have i1:(i:Int) < (l0.length:Int):=by omega
   obtain ⟨b9,off,rfl,hbl,ok,O1⟩:=HP0.out i h1
   have hbN:b9 < N:=by rw [hN1]; exact hbl
   generalize l0[i] = o at *
   obtain ⟨u0,u1,u2,u3,u4,u5⟩:=O1.below hB hbN
   obtain ⟨Na,hNa⟩:∃ Na,Na = wr.heap.size:=⟨_,rfl⟩
   obtain ⟨v2,hv2⟩:∃ v2,v2 = wr.alloc (.cells o.cells 64):=⟨_,rfl⟩
   have B2:Blk v2 Na 64 o.cells:=by rw [hv2,hNa]; exact Blk.new wr _ _
   have b2:Below wr.heap.size wr v2:=by rw [hv2]; exact (Below.refl _ _).alloc (Nat.le_refl _) _
   obtain ⟨x0,x1,x2,x3,x4,x5⟩:=op6_cells B2
   have T2:=T.below b2
   have hB2:Below N w1 v2:=hB.trans (b2.mono hNr)
   have hN2':N <= v2.heap.size:=Nat.le_trans hNr b2.size
   have BM2:Blk v2 M 38 #[.int .i64 (hot:Int),.int .i64 (warm:Int)]:=BM.below b2 BM.lt
   have GS:Gov N w1 bW none (hot:Int) (warm:Int) M v2 (i + 1):=⟨W2,s2,bs2,Z2,Ls2,r2,laid2,told2,act2,mk2,eb,eg2,eh,ew,hB2,hN2',T2.more (Nat.le_succ _),hf,BM2⟩
   have GN:∀ w',Goes N v2 w' W2 s2 (i + 1) -> Gov N w1 bW none (hot:Int) (warm:Int) M w' (i + 1):=fun w' G => by
    obtain ⟨W',s',bs',Z',Ls',r',laid',told',act',mk',⟨f1,f2,f3,f4,f5⟩,G,T'⟩:=G
    obtain ⟨hM1,hM2⟩:=G.away BM2.lt hf
    exact ⟨W',s',bs',Z',Ls',r',laid',told',act',mk',f1.trans eb,f2.trans eg2,f4.trans eh,f5.trans ew,hB2.trans (G.below T2.wat.base T2.wat.hN0),T'.wat.hN0,T',hM2,hM1.trans BM2⟩
   have MC:=fun hdo => movesC T2 (show i <= 900 by omega) o ok (.inr hdo)
   rw [eb] at MC
   unfold Op6.cells at MC hv2
   replace MC:=Lib.hid MC
   replace GN:=Lib.hid GN
   replace GS:=Lib.hid GS
   replace hv2:=Lib.hid hv2
   replace hNa:=Lib.hid hNa
   clear T T2 hB hbl O1 ok hNr G eb eg2 eh ew B2 b2 hB2 hN2' hf BM BM2 HP0
   go_upto_region 11 with fail
   rw [<- hNa.out, <- hv2.out]
   have cs:(o.dO = 1 /\ (o.dO = 1 \/ o.dO = 2 \/ o.dO = 10 \/ o.dO = 12)) \/ (o.dO = 2 /\ (o.dO = 1 \/ o.dO = 2 \/ o.dO = 10 \/ o.dO = 12)) \/ (o.dO = 12 /\ (o.dO = 1 \/ o.dO = 2 \/ o.dO = 10 \/ o.dO = 12)) \/ (o.dO = 10 /\ (o.dO = 1 \/ o.dO = 2 \/ o.dO = 10 \/ o.dO = 12)) \/ (o.dO ≠ 1 /\ o.dO ≠ 2 /\ o.dO ≠ 12 /\ o.dO ≠ 10):=by omega
   rcases cs with ⟨hd1,hdo⟩ | ⟨hd1,hdo⟩ | ⟨hd1,hdo⟩ | ⟨hd1,hdo⟩ | ⟨hn1,hn2,hn12,hn10⟩
   have e1:(o.dO == 1) = true:=by rw [hd1]; rfl
   have f1:decide (o.dO = 1) = true:=by rw [hd1]; rfl
   have e2:(o.dO == 2) = false:=by rw [hd1]; rfl
   have f2:decide (o.dO = 2) = false:=by rw [hd1]; rfl
   have e12:(o.dO == 12) = false:=by rw [hd1]; rfl
   have f12:decide (o.dO = 12) = false:=by rw [hd1]; rfl
   have e10:(o.dO == 10) = false:=by rw [hd1]; rfl
   have f10:decide (o.dO = 10) = false:=by rw [hd1]; rfl
   rotate_left
   have e1:(o.dO == 1) = false:=by rw [hd1]; rfl
   have f1:decide (o.dO = 1) = false:=by rw [hd1]; rfl
   have e2:(o.dO == 2) = true:=by rw [hd1]; rfl
   have f2:decide (o.dO = 2) = true:=by rw [hd1]; rfl
   have e12:(o.dO == 12) = false:=by rw [hd1]; rfl
   have f12:decide (o.dO = 12) = false:=by rw [hd1]; rfl
   have e10:(o.dO == 10) = false:=by rw [hd1]; rfl
   have f10:decide (o.dO = 10) = false:=by rw [hd1]; rfl
   rotate_left
   have e1:(o.dO == 1) = false:=by rw [hd1]; rfl
   have f1:decide (o.dO = 1) = false:=by rw [hd1]; rfl
   have e2:(o.dO == 2) = false:=by rw [hd1]; rfl
   have f2:decide (o.dO = 2) = false:=by rw [hd1]; rfl
   have e12:(o.dO == 12) = true:=by rw [hd1]; rfl
   have f12:decide (o.dO = 12) = true:=by rw [hd1]; rfl
   have e10:(o.dO == 10) = false:=by rw [hd1]; rfl
   have f10:decide (o.dO = 10) = false:=by rw [hd1]; rfl
   rotate_left
   have e1:(o.dO == 1) = false:=by rw [hd1]; rfl
   have f1:decide (o.dO = 1) = false:=by rw [hd1]; rfl
   have e2:(o.dO == 2) = false:=by rw [hd1]; rfl
   have f2:decide (o.dO = 2) = false:=by rw [hd1]; rfl
   have e12:(o.dO == 12) = false:=by rw [hd1]; rfl
   have f12:decide (o.dO = 12) = false:=by rw [hd1]; rfl
   have e10:(o.dO == 10) = true:=by rw [hd1]; rfl
   have f10:decide (o.dO = 10) = true:=by rw [hd1]; rfl
   rotate_left
   ·skip
    have e1:(o.dO == 1) = false:=by rw [beq_eq_false_iff_ne]; exact hn1
    have f1:decide (o.dO = 1) = false:=decide_eq_false hn1
    have e2:(o.dO == 2) = false:=by rw [beq_eq_false_iff_ne]; exact hn2
    have f2:decide (o.dO = 2) = false:=decide_eq_false hn2
    have e12:(o.dO == 12) = false:=by rw [beq_eq_false_iff_ne]; exact hn12
    have f12:decide (o.dO = 12) = false:=decide_eq_false hn12
    have e10:(o.dO == 10) = false:=by rw [beq_eq_false_iff_ne]; exact hn10
    have f10:decide (o.dO = 10) = false:=decide_eq_false hn10
    replace hn1:=Lib.hid hn1
    replace hn2:=Lib.hid hn2
    replace hn12:=Lib.hid hn12
    replace hn10:=Lib.hid hn10
    clear MC GN
    go_wp2
    go_roundw
    case rel => exact ⟨i + 1,by simp,by omega,by omega,GS⟩
    case measure => simp [intOf] <;> omega
   all_goals
    have MC1:=Lib.hid (MC.out hdo)
    replace hd1:=Lib.hid hd1
    replace hdo:=Lib.hid hdo
    clear MC GS
    go_wp2_with fail
    refine MC1.out.mono ?_
    rintro e v3 ⟨rfl,G9⟩
    have G3:=Lib.hid (GN.out _ G9)
    clear G9 GN MC1 x0 x1 x2 x3 x4 x5 u0 u1 u2 u3 u4 u5 z2 hv2
    go_wp2
    go_roundw
    case rel => exact ⟨i + 1,by simp,by omega,by omega,G3⟩
    case measure => simp [intOf] <;> omega
  have tst:(decide ((i:Int) < (l0.length:Int)) = true /\ decide (i < l0.length) = true /\ decide ((i:Int) < 250) = false) \/ (decide ((i:Int) < (l0.length:Int)) = false /\ decide (i < l0.length) = false):=by
   by_cases hin:i < l0.length
   ·exact .inl ⟨decide_eq_true (by omega),decide_eq_true hin,decide_eq_false (by omega)⟩
   ·exact .inr ⟨decide_eq_false (by omega),decide_eq_false hin⟩
  obtain ⟨y0,y1,y3,y4,y6⟩:=T.wat.cW
  rw [eb] at y0 y1
  have x0:=BM.cell 0
  have x1:=BM.cell 1
  obtain ⟨we,hwe⟩:∃ we,we = wr.drew:=⟨_,rfl⟩
  have Sd:we.cell? ⟨bW,0,none⟩ = some (.pointer (some ⟨W2.L.g,0,none⟩)) /\ we.cell? ⟨bW,1,none⟩ = some (.pointer (some ⟨W2.gq,0,none⟩)) /\ we.cell? ⟨M,0,none⟩ = some (.int .i64 (hot:Int)) /\ we.cell? ⟨M,1,none⟩ = some (.int .i64 (warm:Int)):=by rw [hwe]; exact ⟨y0,y1,x0,x1⟩
  have bd:Below wr.heap.size wr we:=by rw [hwe]; exact below_drewN (Below.refl _ _) 1
  obtain ⟨g,hgg⟩:∃ g,g = we.heap.size:=⟨_,rfl⟩
  obtain ⟨v3,hv3⟩:∃ v3,v3 = we.alloc (.cells #[.pointer (some ⟨W2.L.g,0,none⟩),.pointer (some ⟨W2.gq,0,none⟩),.int .i64 (hot:Int),.int .i64 (warm:Int)] 97):=⟨_,rfl⟩
  have B3:Blk v3 g 97 #[.pointer (some ⟨W2.L.g,0,none⟩),.pointer (some ⟨W2.gq,0,none⟩),.int .i64 (hot:Int),.int .i64 (warm:Int)]:=by rw [hv3,hgg]; exact Blk.new we _ _
  have b3:Below we.heap.size we v3:=by rw [hv3]; exact (Below.refl _ _).alloc (Nat.le_refl _) _
  have b13:=bd.trans (b3.mono bd.size)
  have T3:=T.below b13
  have hB3:Below N w1 v3:=hB.trans (b13.mono hNr)
  have hN3:N <= v3.heap.size:=Nat.le_trans hNr b13.size
  have hgw:wr.heap.size <= g:=by rw [hgg]; exact bd.size
  have S3:v3.cell? ⟨bW,0,none⟩ = some (.pointer (some ⟨W2.L.g,0,none⟩)) /\ v3.cell? ⟨bW,1,none⟩ = some (.pointer (some ⟨W2.gq,0,none⟩)) /\ v3.cell? ⟨M,0,none⟩ = some (.int .i64 (hot:Int)) /\ v3.cell? ⟨M,1,none⟩ = some (.int .i64 (warm:Int)):=by
   obtain ⟨u0,u1,u2,u3⟩:=Sd
   exact ⟨(b3.cell (World.block_lt_of_cell? _ _ u0)).trans u0,(b3.cell (World.block_lt_of_cell? _ _ u1)).trans u1,(b3.cell (World.block_lt_of_cell? _ _ u2)).trans u2,(b3.cell (World.block_lt_of_cell? _ _ u3)).trans u3⟩
  have fz:=T3.wat.own.frozen 2
  have c9:v3.cell? ⟨W2.b,2,none⟩ = some (ptrO W2.gm):=T3.wat.own.cell 2
  rw [eb] at fz c9
  obtain ⟨v4,hv4⟩:∃ v4,v4 = v3.setCell ⟨bW,2,none⟩ (.pointer (some ⟨g,0,none⟩)):=⟨_,rfl⟩
  obtain ⟨Wg,hWg⟩:∃ Wg:W6,Wg = { W2 with gm:=some g }:=⟨_,rfl⟩
  have A4:WAt N v4 Wg qc s2 bs2 Z2 Ls2 Ls2 r2 laid2 told2 act2 mk2:=by
   have:=T3.wat.setL eg2 (g:=g) (by show Blk v3 g 97 #[.pointer (some ⟨W2.L.g,0,none⟩),.pointer (some ⟨W2.gq,0,none⟩),.int .i64 W2.hot,.int .i64 W2.warm]; rw [eh,ew]; exact B3) (fun i e => by
    have:=T.wat.lt i _ e
    omega) (by omega)
   rw [hWg,hv4, <- eb]
   exact this
  have T4:LI N v4 Wg s2 bs2 Z2 Ls2 r2 laid2 told2 act2 mk2 i:=⟨A4,T.rel,T.agr,T.bs,T.ch,T.la,T.tl,T.al,T.tlt,T.lg,T.ln,T.lt,T.ab,T.mr,by rw [hWg]; exact T.dmS,by rw [hWg]; exact T.sh⟩
  have hB4:Below N w1 v4:=by rw [hv4]; exact hB3.setCell (p:=⟨bW,2,none⟩) (by rw [<- eb]; exact T.wat.base .own _ (.inl rfl)) _
  have eg4:Wg.gm = some g:=by rw [hWg]
  have eb4:Wg.b = bW:=by rw [hWg]; exact eb
  have QC:=queuesC8 T4 (by omega) eg4
  rw [eb4] at QC
  have GO:∀ v,Below v4.heap.size v4 v -> Goer N w1 bW (some g) (hot:Int) (warm:Int) v i:=fun v k => ⟨Wg,s2,bs2,Z2,Ls2,r2,laid2,told2,act2,mk2,eb4,eg4,by rw [hWg]; exact eh,by rw [hWg]; exact ew,hB4.trans (k.mono A4.hN0),Nat.le_trans A4.hN0 k.size,T4.below k⟩
  have bx4:=fun v k => bx.out v (hB4.trans (Below.mono k A4.hN0))
  have q5:i <= 250:=hi2
  replace QC:=Lib.hid QC
  replace GO:=Lib.hid GO
  replace bx4:=Lib.hid bx4
  replace hv3:=Lib.hid hv3
  replace hv4:=Lib.hid hv4
  replace hgg:=Lib.hid hgg
  have c9n:v3.cell? ⟨bW,2,none⟩ = some (.pointer none):=by rw [c9,eg2]; rfl
  clear T T3 T4 A4 hB hB3 hN3 hB4 hNr G eb eg2 eh ew hf BM y0 y1 y3 y4 y6 x0 x1 bd b3 b13 B3 hgw c9 hWg eg4 eb4 HP0 bx hlt
  rcases tst with ⟨t1,t2,t3⟩ | ⟨t1,t2⟩
  all_goals
   go_upto_region 13 with fail
   refine wp_region_noPanic ?_
   refine wp_region_held_drew (S:=fun v => v.cell? ⟨bW,0,none⟩ = some (.pointer (some ⟨W2.L.g,0,none⟩)) /\ v.cell? ⟨bW,1,none⟩ = some (.pointer (some ⟨W2.gq,0,none⟩)) /\ v.cell? ⟨M,0,none⟩ = some (.int .i64 (hot:Int)) /\ v.cell? ⟨M,1,none⟩ = some (.int .i64 (warm:Int))) (by kernel_rfl) (by rw [<- hwe]; exact Sd) (fun hHeld => ?_)
   rw [<- hwe] at hHeld ⊢
   clear hwe
   refine tkh (i:=0) (v:=?_) rfl ?_ ?_
   rotate_left
   ·try simp only [qA,qS,qZ]
    rintro w ⟨hS1,hS2,hS3,hS4⟩
    go_simp
    (try with_reducible rfl)
   try simp only [qA,qS,qZ,Act.put,qT,qO,qN]
   refine tkh (i:=1) (v:=?_) rfl ?_ ?_
   rotate_left
   ·try simp only [qA,qS,qZ]
    rintro w ⟨hS1,hS2,hS3,hS4⟩
    go_simp
    (try with_reducible rfl)
   try simp only [qA,qS,qZ,Act.put,qT,qO,qN]
   refine tkh (i:=2) (v:=?_) rfl ?_ ?_
   rotate_left
   ·try simp only [qA,qS,qZ]
    rintro w ⟨hS1,hS2,hS3,hS4⟩
    go_simp
    (try with_reducible rfl)
   try simp only [qA,qS,qZ,Act.put,qT,qO,qN]
   refine tkh (i:=3) (v:=?_) rfl ?_ ?_
   rotate_left
   ·try simp only [qA,qS,qZ]
    rintro w ⟨hS1,hS2,hS3,hS4⟩
    go_simp
    (try with_reducible rfl)
   try simp only [qA,qS,qZ,Act.put,qT,qO,qN]
   refine tkh (i:=4) (v:=?_) rfl ?_ ?_
   rotate_left
   ·try simp only [qA,qS,qZ]
    rintro w ⟨hS1,hS2,hS3,hS4⟩
    go_simp
    (try with_reducible rfl)
   try simp only [qA,qS,qZ,Act.put,qT,qO,qN]
   refine tkh (i:=5) (v:=?_) rfl ?_ ?_
   rotate_left
   ·try simp only [qA,qS,qZ]
    rintro w ⟨hS1,hS2,hS3,hS4⟩
    go_simp
    (try with_reducible rfl)
   try simp only [qA,qS,qZ,Act.put,qT,qO,qN]
   refine tkh (i:=6) (v:=?_) rfl ?_ ?_
   rotate_left
   ·try simp only [qA,qS,qZ]
    rintro w ⟨hS1,hS2,hS3,hS4⟩
    go_simp
    (try with_reducible rfl)
   try simp only [qA,qS,qZ,Act.put,qT,qO,qN]
   refine tkh (i:=7) (v:=?_) rfl ?_ ?_
   rotate_left
   ·try simp only [qA,qS,qZ]
    rintro w ⟨hS1,hS2,hS3,hS4⟩
    go_simp
    (try with_reducible rfl)
   try simp only [qA,qS,qZ,Act.put,qT,qO,qN]
   refine tkh (i:=8) (v:=?_) rfl ?_ ?_
   rotate_left
   ·try simp only [qA,qS,qZ]
    rintro w ⟨hS1,hS2,hS3,hS4⟩
    go_simp
    (try with_reducible rfl)
   try simp only [qA,qS,qZ,Act.put,qT,qO,qN]
   refine tkh (i:=9) (v:=?_) rfl ?_ ?_
   rotate_left
   ·try simp only [qA,qS,qZ]
    rintro w ⟨hS1,hS2,hS3,hS4⟩
    go_simp
    (try with_reducible rfl)
   try simp only [qA,qS,qZ,Act.put,qT,qO,qN]
   refine tkh (i:=10) (v:=?_) rfl ?_ ?_
   rotate_left
   ·try simp only [qA,qS,qZ]
    rintro w ⟨hS1,hS2,hS3,hS4⟩
    go_simp
    (try with_reducible rfl)
   try simp only [qA,qS,qZ,Act.put,qT,qO,qN]
   refine tkh (i:=11) (v:=?_) rfl ?_ ?_
   rotate_left
   ·try simp only [qA,qS,qZ]
    rintro w ⟨hS1,hS2,hS3,hS4⟩
    go_simp
    (try with_reducible rfl)
   try simp only [qA,qS,qZ,Act.put,qT,qO,qN]
   refine wpAnyH_ready (rs:=[12]) (by kernel_rfl) (by simp) ?_
   refine AllReadyH.cons (o:=_) rfl (fun K hK => ?_) ?_
   rotate_left
   ·exact AllReadyH.nil
   try simp only [qA,qS,qZ]
   go_simp
   go_at_call 12
   refine (LN.out _ _ _).mono ?_
   rintro e ve ⟨rfl,hve⟩
   obtain rfl:v3 = ve:=by rw [hv3.out,hve]
   rw [<- hgg.out]
   clear hve
   go_wp2_with fail
   refine hK.out _ _ (S3) (fun hHeld12 => ?_)
   clear hK K
   try simp only [qA,qS,qZ,Act.put,qT,qO,qN]
   refine tkh (i:=13) (v:=?_) rfl ?_ ?_
   rotate_left
   ·try simp only [qA,qS,qZ]
    rintro w ⟨hS1,hS2,hS3,hS4⟩
    go_simp
    (try with_reducible rfl)
   try simp only [qA,qS,qZ,Act.put,qT,qO,qN]
   refine tkh (i:=14) (v:=?_) rfl ?_ ?_
   rotate_left
   ·try simp only [qA,qS,qZ]
    rintro w ⟨hS1,hS2,hS3,hS4⟩
    go_simp
    (try with_reducible rfl)
   try simp only [qA,qS,qZ,Act.put,qT,qO,qN]
   refine tkh (i:=15) (v:=?_) rfl ?_ ?_
   rotate_left
   ·try simp only [qA,qS,qZ]
    rintro w ⟨hS1,hS2,hS3,hS4⟩
    go_simp
    (try with_reducible rfl)
   try simp only [qA,qS,qZ,Act.put,qT,qO,qN]
   refine tkh (i:=16) (v:=?_) rfl ?_ ?_
   rotate_left
   ·try simp only [qA,qS,qZ]
    rintro w ⟨hS1,hS2,hS3,hS4⟩
    go_simp
    (try with_reducible rfl)
   try simp only [qA,qS,qZ,Act.put,qT,qO,qN]
   refine tkh (i:=17) (v:=?_) rfl ?_ ?_
   rotate_left
   ·try simp only [qA,qS,qZ]
    rintro w ⟨hS1,hS2,hS3,hS4⟩
    go_simp
    (try with_reducible rfl)
   try simp only [qA,qS,qZ,Act.put,qT,qO,qN]
   refine wpAnyH_done (by kernel_rfl) ?_ _
   refine NoPanic.normal ?_
   clear hHeld hHeld12 Sd S3 z2
   go_upto_region 16 with (first | (go_at_call 14; refine (n0.out _).mono ?_; rintro e w' ⟨rfl,rfl⟩) | fail)
   go_upto_region 17 with fail
   rw [<- hv4.out]
   clear fz c9n hv4
   go_wp2_with fail
   refine QC.out.mono ?_
   rintro e v5 ⟨rfl,b5⟩
   obtain ⟨-, -, -,z3,z4⟩:=bx4.out v5 b5
   have PC:=Lib.hid (playsC (GO.out v5 b5) (by omega) a1 cap1 l1 HP1.out (by rw [hN1]; exact Nat.le_refl _) hl1 deads hd)
   clear QC b5 bx4 GO
   go_wp2_with fail
   refine PC.out.mono ?_
   rintro e v6 ⟨rfl,t,ht,W3,s,bs,Z,Ls,r,laid,told,act,mk,eb,eg,eh,ew,hB,hN3,T⟩
   have EC:=endsC8 T (by omega) eg
   rw [eb] at EC
   have fin:∀ v,Below v6.heap.size v6 v -> Below N w1 v /\ N <= v.heap.size:=fun v b => ⟨hB.trans (b.mono hN3),Nat.le_trans hN3 b.size⟩
   replace EC:=Lib.hid EC
   replace fin:=Lib.hid fin
   clear T PC eb eg eh ew hB hN3 z3 z4
   go_wp2_with fail
   refine EC.out.mono ?_
   rintro e v7 ⟨rfl,b7⟩
   have W4:=Lib.hid (WC.out v7)
   have F4:=Lib.hid (fin.out v7 b7)
   clear b7 EC fin
   go_wp2_with fail
   refine W4.out.mono ?_
   rintro e v8 ⟨rfl,b8⟩
   have F5:=Lib.hid (F4.out.1.trans (b8.mono F4.out.2))
   clear b8 W4 F4
   go_wp2
   go_ret
   exact ⟨rfl,bF.out _ F5.out⟩
end Go.Proofs.YtngehaiigbbknaaGreat.Que
