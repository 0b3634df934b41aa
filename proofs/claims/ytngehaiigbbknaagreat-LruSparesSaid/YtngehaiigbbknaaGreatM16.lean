/-
  Contracts and lemmas, joined: LruSparesLaw.
-/
import Derived.Test.YtngehaiigbbknaaGreatM15
set_option linter.unusedSimpArgs false
set_option linter.unusedVariables false
set_option linter.unusedSectionVars false
set_option maxRecDepth 100000
/-
  The law LruSpares.
-/
namespace Go.Proofs.YtngehaiigbbknaaGreat.Que
open Go.RowKit Base Arena Cls Itm
def ownAt (row:List Nat) (o:Int):Nat:=if 0 <= o /\ o < (row.length:Int) then row[o.toNat]?.getD 0 else 0
def SeenI (D:Nat -> Bool) (ow kk:Nat) (row:List Nat) (k:Nat) (SS:List Nat):Prop :=
 SS = othN ow (row.take k) /\ ∀ S0 y,SS = S0 ++ [y] -> (∀ z ∈ S0,D z = false) /\ S0.length < kk
section
variable {D:Nat -> Bool} {ow kk k x:Nat} {row SS:List Nat}
theorem SeenI.zero:SeenI D ow kk row 0 []:=⟨by rw [List.take_zero]; rfl,fun S0 y h => by simp at h⟩
theorem SeenI.same (h:SeenI D ow kk row k SS) (hx:row[k]? = some x) (e:x = ow):SeenI D ow kk row (k + 1) SS :=
 ⟨by rw [List.take_add_one,hx]; exact h.1.trans (othN_own ow _ x e).symm,h.2⟩
theorem SeenI.new (h:SeenI D ow kk row k SS) (hx:row[k]? = some x) (e:¬ x = ow) (hlt:SS.length < kk) (hl:SS = [] \/ D (SS.getLast?.getD 0) = false):SeenI D ow kk row (k + 1) (SS ++ [x]):=by
 refine ⟨by rw [List.take_add_one,hx]; show _ = othN ow (row.take k ++ [x]); rw [othN_new ow _ x e, <- h.1],fun S0 y hS => ?_⟩
 obtain ⟨e1,e2⟩:=List.append_inj' hS rfl
 subst e1
 refine ⟨fun z hz => ?_,hlt⟩
 rcases hl with rfl | hl
 ·simp at hz
 ·have hne:SS ≠ []:=by rintro rfl; simp at hz
  have e:=List.dropLast_concat_getLast hne
  have hlast:SS.getLast?.getD 0 = SS.getLast hne:=by rw [List.getLast?_eq_some_getLast hne]; rfl
  obtain ⟨h1, -⟩:=h.2 _ _ e.symm
  rw [<- e] at hz
  rcases List.mem_append.1 hz with hz | hz
  ·exact h1 z hz
  ·rw [List.mem_singleton] at hz
   rw [hz, <- hlast]
   exact hl
theorem SeenI.exit (h:SeenI D ow kk row k SS) (hx:row.length <= k \/ kk <= SS.length \/ SS ≠ [] /\ D (SS.getLast?.getD 0) = true):seenN D kk (othN ow row) = SS:=by
 obtain ⟨h1,h2⟩:=h
 have hr:row.take k ++ row.drop k = row:=List.take_append_drop ..
 have nl:∀ j,seenN D j [] = []:=fun j => by cases j <;> rfl
 rcases List.eq_nil_or_concat SS with e | ⟨S0,y,e⟩
 ·subst e
  rcases hx with hx | hx | ⟨hx, -⟩
  ·rw [List.take_of_length_le hx] at h1
   rw [<- h1]
   exact nl kk
  ·have:kk = 0:=by simpa using hx
   subst this
   rfl
  ·exact absurd rfl hx
 ·rw [List.concat_eq_append] at e
  obtain ⟨h3,h4⟩:=h2 S0 y e
  have hlen:SS.length = S0.length + 1:=by rw [e]; simp
  have hlast:SS.getLast?.getD 0 = y:=by rw [e,List.getLast?_concat]; rfl
  cases hd:D y with
  | true =>
   have:=seen_stop (D:=D) (own:=ow) (k:=kk) (pre:=row.take k) (l:=row.drop k) (h1.symm.trans e) h4 h3 hd
   rw [hr] at this
   rw [this,e]
  | false =>
   have hall:∀ z ∈ SS,D z = false:=fun z hz => by
    rw [e] at hz
    rcases List.mem_append.1 hz with hz | hz
    ·exact h3 z hz
    ·rw [List.mem_singleton] at hz
     rw [hz]
     exact hd
   rcases hx with hx | hx | ⟨-,hx⟩
   ·rw [List.take_of_length_le hx] at h1
    rw [<- h1]
    have:=seenN_app (k:=kk) [] hall (by omega)
    rw [List.append_nil,nl,List.append_nil] at this
    exact this
   ·have:=seenN_full (D:=D) (own:=ow) (k:=kk) (pre:=row.take k) (l:=row.drop k) (by rw [<- h1]; exact hall) (by rw [<- h1]; omega)
    rw [hr, <- h1] at this
    exact this
   ·rw [hlast,hd] at hx
    cases hx
end
theorem last_at {l:List Nat} (h:l ≠ []):l[l.length - 1]? = some (l.getLast?.getD 0):=by
 rw [<- List.getLast?_eq_getElem?,List.getLast?_eq_some_getLast h]
 rfl
theorem own_atg {t:TypeId} {w:World} {N n i x g c:Nat} {l:List Nat} (h:w.ownsRow N t 1 (.slice (some ⟨g,0,none⟩) n c) n (l.map uv)) (hx:l[i]? = some x):w.cell? ⟨g,i,none⟩ = some (.int .u64 (x:Int)):=by
 obtain ⟨g2,c',hv,u⟩:=own_uvt h hx
 injection hv with e1
 injection e1 with e1
 injection e1 with e1
 subst e1
 exact u
theorem spare_steps (Ac:Nat -> Bool) (sn:List Nat) (nm:Nat):∃ P1 P2:Nat -> Int,P1 sn.length = -1 /\ P2 sn.length = -1 /\ (∀ j x,sn[j]? = some x -> (Ac x = true -> P1 j = P1 (j + 1)) /\ (Ac x = false -> P1 j = (j:Int)) /\ (x = nm -> P2 j = (j:Int)) /\ (¬ x = nm -> P2 j = P2 (j + 1))) /\ (sn ≠ [] -> nm = calmN Ac sn -> 0 <= P2 0 /\ (P1 0 = P2 0 \/ P1 0 < 0 /\ P2 0 = 0)):=by
 refine ⟨fun i => fromI (fun y => !Ac y) sn i,fun i => fromI (fun y => decide (y = nm)) sn i,fromI_end,fromI_end,fun j x hx => ⟨fun h => ?_,fun h => ?_,fun h => ?_,fun h => ?_⟩,fun h e => ?_⟩
 ·show fromI _ sn j = _
  rw [fromI_step hx,h]; rfl
 ·show fromI _ sn j = _
  rw [fromI_step hx,h]; rfl
 ·show fromI _ sn j = _
  rw [fromI_step hx,if_pos (decide_eq_true h)]
 ·show fromI _ sn j = _
  rw [fromI_step hx,if_neg (by rw [decide_eq_true_iff]; exact h)]
 ·subst e
  exact spare_at h
set_option maxHeartbeats 4000000 in
theorem lruSparesC (W:World) (a b:Int) (ha:Cls.In a) (hb:Cls.In b) (a0:Option Addr) (cap:Nat) (l:List Op6) (hP:∀ (k:Nat) (hk:k < l.length),ORow W a0 k l[k]) (hl:l.length <= maxLen) (c oi looks:Int) (hc:Cls.In c) (ho:Cls.In oi) (hk:Cls.In looks)
  (Ad:Option Addr) (cd:Nat) (ds:List Bool) (had:∀ (k:Nat) (d:Bool),ds[k]? = some d -> ∃ g off,Ad = some ⟨g,off,none⟩ /\ g < W.heap.size /\ W.cell? ⟨g,off + k,none⟩ = some (.bool d)) (hds:ds.length <= maxLen) :
  Calls Tryz.prog 9 #[.agg #[.int .i64 a,.int .i64 b,.slice a0 l.length cap,.int .i64 c,.int .i64 oi,.int .i64 looks,.slice Ad ds.length cd]] W fun e w' => e = .returned (.bool true) /\ Below W.heap.size W w':=by
 obtain ⟨w1,hw1⟩:∃ w1,w1 = W.alloc (.cells #[.int .i64 a,.int .i64 b,.slice a0 l.length cap,.int .i64 c,.int .i64 oi,.int .i64 looks,.slice Ad ds.length cd] 72):=⟨_,rfl⟩
 have B1:Blk w1 W.heap.size 72 #[.int .i64 a,.int .i64 b,.slice a0 l.length cap,.int .i64 c,.int .i64 oi,.int .i64 looks,.slice Ad ds.length cd]:=by rw [hw1]; exact Blk.new W _ _
 have b1:Below W.heap.size W w1:=by rw [hw1]; exact (Below.refl _ _).alloc (Nat.le_refl _) _
 have SC1:=Lib.hid (scriptedC w1 a b ha hb a0 cap l (fun k hk => by
  obtain ⟨b9,off,e,h1,h2,h3⟩:=hP k hk
  exact ⟨b9,off,e,Nat.lt_of_lt_of_le h1 b1.size,h2,h3.below b1 h1⟩) hl)
 have WI:=Lib.hid (fun w => withinI (w:=w) c 3 hc (by omega) (by omega))
 have WC:=Lib.hid wakesC
 obtain ⟨N0,hN⟩:∃ N0,N0 = W.heap.size:=⟨_,rfl⟩
 rw [<- hN] at B1 b1 ⊢
 have bx:∀ v,Below w1.heap.size w1 v -> v.cell? ⟨N0,3,none⟩ = some (.int .i64 c) /\ v.cell? ⟨N0,4,none⟩ = some (.int .i64 oi) /\ v.cell? ⟨N0,5,none⟩ = some (.int .i64 looks) /\ v.cell? ⟨N0,6,none⟩ = some (.slice Ad ds.length cd) /\ (∀ (k:Nat) (d:Bool),ds[k]? = some d -> ∃ g off,Ad = some ⟨g,off,none⟩ /\ v.cell? ⟨g,off + k,none⟩ = some (.bool d)) /\ Below N0 W v:=fun v k => by
  have B:=B1.below k B1.lt
  have bW:=b1.trans (k.mono (by have:=b1.size; omega))
  refine ⟨B.cell 3,B.cell 4,B.cell 5,B.cell 6,fun j d hj => ?_,bW⟩
  obtain ⟨g,off,e,hg,u⟩:=had j d hj
  exact ⟨g,off,e,(bW.cell (p:=⟨g,off + j,none⟩) (by show g < N0; omega)).trans u⟩
 have x0:=B1.cell 0
 have x1:=B1.cell 1
 have x2:=B1.cell 2
 have hcl:=withinI_lt c (n:=3) (by omega)
 obtain ⟨cn,hcn⟩:∃ cn,cn = (c % ((3:Nat):Int)).toNat:=⟨_,rfl⟩
 rw [<- hcn] at WI hcl
 obtain ⟨w1s,hw1s⟩:∃ w1s,w1s = w1.heap.size:=⟨_,rfl⟩
 replace bx:=Lib.hid bx
 replace hN:=Lib.hid hN
 replace hw1:=Lib.hid hw1
 replace hcn:=Lib.hid hcn
 clear hP hl ha hb hc had B1 b1
 generalize hotN a = hot at *
 generalize warmN a b = warm at *
 go_enter Tryz.func9,Tryz.ntmps9
 go_upto_region 1 with fail
 rw [<- hN.out, <- hw1.out]
 go_wp2_with fail
 refine SC1.out.mono ?_
 rintro e w2 ⟨b0,g,rfl,t,ht,W2,s,bs,Z,Ls,r,laid,told,act,mk,eb,eg,eh,ew,hB,hN2,T⟩
 obtain ⟨x3,x4,x5,x6, -, -⟩:=bx.out w2 hB
 have ht9:totX Ls (cn:Int) <= 900:=Nat.le_trans (QL.tot T.wat.q.ql T.laid_ _) (by have:=T.la; omega)
 have RC:=rowC T.wat.q (b:=W2.b) T.wat.cW.2.1 (cn:Int) ht9
 rw [eb] at RC
 have hrl:(rowX Ls (cn:Int)).length <= 900:=by rw [rowX_len]; exact ht9
 have T2:=Lib.hid T
 obtain ⟨row,hrow⟩:∃ row,row = rowX Ls (cn:Int):=⟨_,rfl⟩
 rw [<- hrow] at RC hrl
 obtain ⟨n,hn⟩:∃ n,n = row.length:=⟨_,rfl⟩
 rw [<- hn] at RC hrl
 replace RC:=Lib.hid RC
 replace hB:=Lib.hid hB
 replace hrow:=Lib.hid hrow
 replace hn:=Lib.hid hn
 replace eb:=Lib.hid eb
 replace eg:=Lib.hid eg
 clear SC1 T x0 x1 x2 hw1 ht9
 go_wp2_with fail
 refine (WI.out w2).mono ?_
 rintro e w' ⟨rfl,rfl⟩
 go_wp2_with fail
 refine RC.out.mono ?_
 rintro e w3 ⟨b3,A,cp,rfl,own3⟩
 have sz3:=b3.size
 obtain ⟨Br,hBr⟩:∃ Br,Br = w3.heap.size:=⟨_,rfl⟩
 obtain ⟨w4,hw4⟩:∃ w4,w4 = w3.alloc (.cells #[.slice A n cp] 55):=⟨_,rfl⟩
 have B4:Blk w4 Br 55 #[.slice A n cp]:=by rw [hw4,hBr]; exact Blk.new w3 _ _
 have b4:Below w3.heap.size w3 w4:=by rw [hw4]; exact (Below.refl _ _).alloc (Nat.le_refl _) _
 have b24:Below w2.heap.size w2 w4:=b3.trans (b4.mono sz3)
 have RF:∀ v,Below w4.heap.size w4 v -> v.cell? ⟨Br,0,none⟩ = some (.slice A n cp) /\ ∀ (k x:Nat),row[k]? = some x -> ∃ g,A = some ⟨g,0,none⟩ /\ v.cell? ⟨g,k,none⟩ = some (.int .u64 (x:Int)):=fun v k => by
  refine ⟨(k.cell (p:=⟨Br,0,none⟩) B4.lt).trans (B4.cell 0),fun j x hx => ?_⟩
  obtain ⟨g,c',hv,u⟩:=own_uvt own3 hx
  injection hv with e1 e2 e3
  have u4:=(b4.cell (p:=⟨g,j,none⟩) (World.block_lt_of_cell? w3 _ u)).trans u
  exact ⟨g,e1,(k.cell (p:=⟨g,j,none⟩) (World.block_lt_of_cell? w4 _ u4)).trans u4⟩
 have B24:=hB.out.trans (b24.mono hB.out.size)
 obtain ⟨x3,x4,x5,x6, -, -⟩:=bx.out w4 B24
 have T4:=T2.out.below b24
 obtain ⟨c0,ar⟩:=RF w4 (Below.refl _ _)
 obtain ⟨ow,how⟩:∃ ow,ow = ownAt row oi:=⟨_,rfl⟩
 replace T4:=Lib.hid T4
 replace B24:=Lib.hid B24
 replace RF:=Lib.hid RF
 replace ar:=Lib.hid ar
 replace hw4:=Lib.hid hw4
 replace hBr:=Lib.hid hBr
 clear b3 own3 B4 b4 b24 RC WI hB T2
 go_upto_region 6 with fail
 rw [<- hBr.out, <- hw4.out]
 go_upto_region 7 with fail
 obtain ⟨tb,htb⟩:∃ tb,tb = decide (0 <= oi /\ oi < (n:Int)):=⟨_,rfl⟩
 go_cut [38] from 29 to 37 (fun v38 wx => v38 = .bool tb /\ w4 = wx)
 case first =>
  by_cases h0 : 0 <= oi
  ·have d1:decide (0 <= oi) = true:=decide_eq_true h0
   by_cases h1:oi < (n:Int)
   ·have d2:decide (oi < (n:Int)) = true:=decide_eq_true h1
    have e:tb = true:=by rw [htb]; exact decide_eq_true ⟨h0,h1⟩
    replace e:=Lib.hid e
    replace htb:=Lib.hid htb
    go_wp2
    go_meet
    exact ⟨by rw [e.out],rfl⟩
   ·have d2:decide (oi < (n:Int)) = false:=decide_eq_false h1
    have e:tb = false:=by rw [htb]; exact decide_eq_false (fun h => h1 h.2)
    replace e:=Lib.hid e
    replace htb:=Lib.hid htb
    go_wp2
    go_meet
    exact ⟨by rw [e.out],rfl⟩
  ·have d1:decide (0 <= oi) = false:=decide_eq_false h0
   have e:tb = false:=by rw [htb]; exact decide_eq_false (fun h => h0 h.1)
   replace e:=Lib.hid e
   replace htb:=Lib.hid htb
   go_wp2
   go_meet
   exact ⟨by rw [e.out],rfl⟩
 case rest =>
  obtain ⟨rfl,rfl⟩:=hcut
  go_upto_if 38 with fail
  go_cut [6] from 29 to 43 (fun v6 wx => v6 = .int .u64 (ow:Int) /\ w4 = wx)
  case first =>
   cases tb with
   | true =>
    have h01 : 0 <= oi /\ oi < (n:Int):=of_decide_eq_true htb.symm
    obtain ⟨h0,h1⟩:=h01
    obtain ⟨j,hj⟩:∃ j:Nat,oi = (j:Int):=⟨oi.toNat,by omega⟩
    subst hj
    obtain ⟨x,hx⟩:∃ x,row[j]? = some x:=⟨row[j]'(by rw [<- hn.out]; omega),List.getElem?_eq_getElem _⟩
    obtain ⟨g2,rfl,u⟩:=ar.out j x hx
    have e:ow = x:=by
     rw [how]
     unfold ownAt
     rw [if_pos (by rw [<- hn.out]; omega),Int.toNat_natCast,hx]
     rfl
    replace e:=Lib.hid e
    replace htb:=Lib.hid htb
    replace how:=Lib.hid how
    replace hx:=Lib.hid hx
    go_wp2
    go_meet
    exact ⟨by rw [e.out],rfl⟩
   | false =>
    have e:ow = 0:=by
     rw [how]
     unfold ownAt
     have:=of_decide_eq_false htb.symm
     rw [if_neg (by rw [<- hn.out]; exact this)]
    replace e:=Lib.hid e
    replace htb:=Lib.hid htb
    replace how:=Lib.hid how
    go_wp2
    go_meet
    exact ⟨by rw [e.out]; rfl,rfl⟩
  case rest =>
   obtain ⟨rfl,rfl⟩:=hcut
   obtain ⟨wd,hwd⟩:∃ wd,wd = w4.drew:=⟨_,rfl⟩
   have bd:Below w4.heap.size w4 wd:=by rw [hwd]; exact below_drewN (Below.refl _ _) 1
   have Td:=T4.out.below bd
   have Bd:=B24.out.trans (bd.mono B24.out.size)
   obtain ⟨-, -,z5, -, -, -⟩:=bx.out wd Bd
   have y2:=(Td.cells8 (show t <= 60000 by omega) eg.out).2.2.1
   rw [eb.out] at y2
   obtain ⟨D,hD⟩:∃ D,D = deadL row ds:=⟨_,rfl⟩
   have DC:∀ v,(∀ b,b < wd.heap.size -> v.heap[b]? = wd.heap[b]?) -> ∀ y:Nat,Calls Tryz.prog 32 #[.int .u64 (y:Int),.pointer (some ⟨Br,0,none⟩),.pointer (some ⟨N0,0,none⟩)] v fun e v' => e = .returned (.bool (D y)) /\ v = v':=fun v hv y => by
    obtain ⟨q0,q1⟩:=RF.out wd bd
    obtain ⟨-, -, -,q6,q7, -⟩:=bx.out wd Bd
    rw [hn.out] at q0
    rw [hD]
    have tr:∀ {p:Addr} {u:Value},wd.cell? p = some u -> v.cell? p = some u:=fun {p u} h => (World.cell?_of_block (a:=p) (hv p.block (World.block_lt_of_cell? wd _ h))).trans h
    exact spareC (by rw [<- hn.out]; omega) hds (tr q0) (tr q6) (fun k x hx => by
     obtain ⟨g,e,u⟩:=q1 k x hx
     exact ⟨g,e,tr u⟩) (fun k d hd => by
     obtain ⟨g,off,e,u⟩:=q7 k d hd
     exact ⟨g,off,e,tr u⟩) y
   have DF:DeadFn wd.heap.size wd.heap.size D (.func (.func 32) #[] #[.pointer (some ⟨Br,0,none⟩),.pointer (some ⟨N0,0,none⟩)]) (fun _ X => ∀ b,b < wd.heap.size -> X.heap[b]? = wd.heap[b]?):=by
    refine ⟨Nat.le_refl _,fun a X Y j hs hb b hb' => ?_,.inr ⟨_,_,rfl,enters_of Tryz.func32 (by kernel_rfl) rfl,fun a y X hy j hX hal => (DC X j y).mono fun e v' ⟨e1,e2⟩ => by subst e2; exact ⟨e1,j,Only.refl _ _⟩⟩⟩
    have hlt:b < X.heap.size:=heap_lt ((j b hb').trans (Array.getElem?_eq_getElem hb'))
    exact (hb b hlt (.inl hb')).trans (j b hb')
   have PC:=pickDC (Td.wat.ls eg.out) (Below.refl _ _) DF (fun b hb => rfl) (cn:Int) ow looks hk
   rw [<- hrow.out] at PC
   have AC:∀ v,Below wd.heap.size wd v -> ∀ H:Nat,H < 18446744073709551616 -> Calls Tryz.prog 21 #[.pointer (some ⟨b0,0,none⟩),.int .u64 (H:Int)] v fun e v' => e = .returned (.bool (actB s Z mk H)) /\ Below v.heap.size v v':=fun v k H hH => by
    have Tv:=Td.below k
    have:=activeW (Tv.wat.ls eg.out) (b:=W2.b) (Tv.cells8 (show t <= 60000 by omega) eg.out).1 H hH
    rwa [eb.out] at this
   have EC:∀ v,Below wd.heap.size wd v -> Calls Tryz.prog 25 #[.pointer (some ⟨b0,0,none⟩)] v fun e v' => e = .returned (.bool true) /\ Below v.heap.size v v':=fun v k => by
    have:=endsC8 (Td.below k) (by omega) eg.out
    rwa [eb.out] at this
   have hlt64:∀ y ∈ row,y < 18446744073709551616:=fun y hy => by
    have:=row_isN Td.wat.q (cn:Int) y (by rw [<- hrow.out]; exact hy)
    unfold isN at this
    obtain ⟨⟨i,x,p⟩,hf⟩:=Option.isSome_iff_exists.1 (Bool.and_eq_true_iff.1 this).1
    exact good_lt Td.wat.okc Td.wat.good hf
   have kr:∀ v,Below wd.heap.size wd v -> Below w4.heap.size w4 v:=fun v k => bd.trans (k.mono bd.size)
   have bf:∀ v,Below wd.heap.size wd v -> v.cell? ⟨N0,5,none⟩ = some (.int .i64 looks) /\ Below N0 W v:=fun v k => by
    obtain ⟨-, -,q5, -, -,q⟩:=bx.out v (B24.out.trans ((kr v k).mono B24.out.size))
    exact ⟨q5,q⟩
   have RF2:∀ v,Below wd.heap.size wd v -> v.cell? ⟨Br,0,none⟩ = some (.slice A n cp) /\ ∀ (k x:Nat),row[k]? = some x -> ∃ g,A = some ⟨g,0,none⟩ /\ v.cell? ⟨g,k,none⟩ = some (.int .u64 (x:Int)):=fun v k => RF.out v (kr v k)
   have DC2:∀ v,Below wd.heap.size wd v -> ∀ y:Nat,_:=fun v k => DC v (fun b hb => k.block b hb)
   obtain ⟨Ac,hAc⟩:∃ Ac,Ac = actB s Z mk:=⟨_,rfl⟩
   rw [<- hAc] at PC AC
   have Sd:wd.cell? ⟨b0,2,none⟩ = some (.pointer (some ⟨g,0,none⟩)) /\ wd.cell? ⟨N0,5,none⟩ = some (.int .i64 looks):=⟨y2,z5⟩
   have S2:∀ v,Below wd.heap.size wd v -> v.cell? ⟨b0,2,none⟩ = some (.pointer (some ⟨g,0,none⟩)) /\ v.cell? ⟨N0,5,none⟩ = some (.int .i64 looks):=fun v k => ⟨(k.cell (p:=⟨b0,2,none⟩) (World.block_lt_of_cell? _ _ y2)).trans y2,(bf v k).1⟩
   obtain ⟨sn,hsn⟩:∃ sn,sn = seenN D looks.toNat (othN ow row):=⟨_,rfl⟩
   rw [<- hsn] at PC
   obtain ⟨mm,hmm⟩:∃ mm,mm = sn.length:=⟨_,rfl⟩
   obtain ⟨nm,hnm⟩:∃ nm,nm = namedN Ac D sn:=⟨_,rfl⟩
   obtain ⟨dd,hdd⟩:∃ dd,dd = deadN D sn:=⟨_,rfl⟩
   rw [<- hmm, <- hnm, <- hdd] at PC
   have snl:sn.length <= n:=by rw [hsn,hn.out]; exact Nat.le_trans (seenN_len _ _ _) (othN_len _ _)
   have snr:∀ y ∈ sn,y < 18446744073709551616:=fun y hy => hlt64 y (mem_othN (seenN_sub (hsn ▸ hy))).1
   replace PC:=Lib.hid PC
   rw [<- hmm] at snl
   replace hmm:=Lib.hid hmm
   replace hnm:=Lib.hid hnm
   replace hdd:=Lib.hid hdd
   replace DC2:=Lib.hid DC2
   replace AC:=Lib.hid AC
   replace EC:=Lib.hid EC
   replace bf:=Lib.hid bf
   replace RF2:=Lib.hid RF2
   replace S2:=Lib.hid S2
   replace hsn:=Lib.hid hsn
   replace snr:=Lib.hid snr
   replace hAc:=Lib.hid hAc
   replace hD:=Lib.hid hD
   replace how:=Lib.hid how
   replace htb:=Lib.hid htb
   clear DC DF Td Bd bd T4 B24 RF bx ar x3 x4 x5 x6 c0 y2 z5 kr hlt64 hds sz3
   go_upto_region 10 with fail
   refine wp_region_noPanic ?_
   refine wp_region_held_drew (S:=fun v => v.cell? ⟨b0,2,none⟩ = some (.pointer (some ⟨g,0,none⟩)) /\ v.cell? ⟨N0,5,none⟩ = some (.int .i64 looks)) (by kernel_rfl) (by rw [<- hwd]; exact Sd) (fun hHeld => ?_)
   rw [<- hwd] at hHeld ⊢
   clear hwd
   refine tkh (i:=0) (v:=?_) rfl ?_ ?_
   rotate_left
   ·try simp only [qA,qS,qZ]
    rintro w ⟨hS1,hS2⟩
    go_simp
    (try with_reducible rfl)
   try simp only [qA,qS,qZ,Act.put,qT,qO,qN]
   refine tkh (i:=1) (v:=?_) rfl ?_ ?_
   rotate_left
   ·try simp only [qA,qS,qZ]
    rintro w ⟨hS1,hS2⟩
    go_simp
    (try with_reducible rfl)
   try simp only [qA,qS,qZ,Act.put,qT,qO,qN]
   refine tkh (i:=2) (v:=?_) rfl ?_ ?_
   rotate_left
   ·try simp only [qA,qS,qZ]
    rintro w ⟨hS1,hS2⟩
    go_simp
    (try with_reducible rfl)
   try simp only [qA,qS,qZ,Act.put,qT,qO,qN]
   refine tkh (i:=3) (v:=?_) rfl ?_ ?_
   rotate_left
   ·try simp only [qA,qS,qZ]
    rintro w ⟨hS1,hS2⟩
    go_simp
    (try with_reducible rfl)
   try simp only [qA,qS,qZ,Act.put,qT,qO,qN]
   refine tkh (i:=4) (v:=?_) rfl ?_ ?_
   rotate_left
   ·try simp only [qA,qS,qZ]
    rintro w ⟨hS1,hS2⟩
    go_simp
    (try with_reducible rfl)
   try simp only [qA,qS,qZ,Act.put,qT,qO,qN]
   refine tkh (i:=5) (v:=?_) rfl ?_ ?_
   rotate_left
   ·try simp only [qA,qS,qZ]
    rintro w ⟨hS1,hS2⟩
    go_simp
    (try with_reducible rfl)
   try simp only [qA,qS,qZ,Act.put,qT,qO,qN]
   refine tkh (i:=6) (v:=?_) rfl ?_ ?_
   rotate_left
   ·try simp only [qA,qS,qZ]
    rintro w ⟨hS1,hS2⟩
    go_simp
    (try with_reducible rfl)
   try simp only [qA,qS,qZ,Act.put,qT,qO,qN]
   refine tkh (i:=7) (v:=?_) rfl ?_ ?_
   rotate_left
   ·try simp only [qA,qS,qZ]
    rintro w ⟨hS1,hS2⟩
    go_simp
    (try with_reducible rfl)
   try simp only [qA,qS,qZ,Act.put,qT,qO,qN]
   refine tkh (i:=8) (v:=?_) rfl ?_ ?_
   rotate_left
   ·try simp only [qA,qS,qZ]
    rintro w ⟨hS1,hS2⟩
    go_simp
    (try with_reducible rfl)
   try simp only [qA,qS,qZ,Act.put,qT,qO,qN]
   refine wpAnyH_ready (rs:=[9]) (by kernel_rfl) (by simp) ?_
   refine AllReadyH.cons (o:=_) rfl (fun K hK => ?_) ?_
   rotate_left
   ·exact AllReadyH.nil
   try simp only [qA,qS,qZ]
   go_simp
   go_at_call 33
   refine PC.out.mono ?_
   rintro e w6 ⟨rfl, -,b6⟩
   go_wp2_with fail
   refine hK.out _ _ (S2.out w6 b6) (fun hHeld9 => ?_)
   clear hK K
   try simp only [qA,qS,qZ,Act.put,qT,qO,qN]
   refine tkh (i:=10) (v:=?_) rfl ?_ ?_
   rotate_left
   ·try simp only [qA,qS,qZ]
    rintro w ⟨hS1,hS2⟩
    go_simp
    (try with_reducible rfl)
   try simp only [qA,qS,qZ,Act.put,qT,qO,qN]
   refine tkh (i:=11) (v:=?_) rfl ?_ ?_
   rotate_left
   ·try simp only [qA,qS,qZ]
    rintro w ⟨hS1,hS2⟩
    go_simp
    (try with_reducible rfl)
   try simp only [qA,qS,qZ,Act.put,qT,qO,qN]
   refine tkh (i:=12) (v:=?_) rfl ?_ ?_
   rotate_left
   ·try simp only [qA,qS,qZ]
    rintro w ⟨hS1,hS2⟩
    go_simp
    (try with_reducible rfl)
   try simp only [qA,qS,qZ,Act.put,qT,qO,qN]
   refine tkh (i:=13) (v:=?_) rfl ?_ ?_
   rotate_left
   ·try simp only [qA,qS,qZ]
    rintro w ⟨hS1,hS2⟩
    go_simp
    (try with_reducible rfl)
   try simp only [qA,qS,qZ,Act.put,qT,qO,qN]
   refine tkh (i:=14) (v:=?_) rfl ?_ ?_
   rotate_left
   ·try simp only [qA,qS,qZ]
    rintro w ⟨hS1,hS2⟩
    go_simp
    (try with_reducible rfl)
   try simp only [qA,qS,qZ,Act.put,qT,qO,qN]
   refine tkh (i:=15) (v:=?_) rfl ?_ ?_
   rotate_left
   ·try simp only [qA,qS,qZ]
    rintro w ⟨hS1,hS2⟩
    go_simp
    (try with_reducible rfl)
   try simp only [qA,qS,qZ,Act.put,qT,qO,qN]
   refine tkh (i:=16) (v:=?_) rfl ?_ ?_
   rotate_left
   ·try simp only [qA,qS,qZ]
    rintro w ⟨hS1,hS2⟩
    go_simp
    (try with_reducible rfl)
   try simp only [qA,qS,qZ,Act.put,qT,qO,qN]
   refine wpAnyH_done (by kernel_rfl) ?_ _
   refine NoPanic.normal ?_
   clear hHeld hHeld9 Sd S2 PC
   replace b6:=Lib.hid b6
   go_wp2_with fail
   obtain ⟨h6,hh6⟩:∃ h6,h6 = w6.heap.size:=⟨_,rfl⟩
   obtain ⟨kk,hkk⟩:∃ kk,kk = looks.toNat:=⟨_,rfl⟩
   rw [<- hkk] at hsn
   have hd6:wd.heap.size <= h6:=by rw [hh6]; exact b6.out.size
   replace hh6:=Lib.hid hh6
   go_loopw [11,12] (fun vo vi wr => ∃ (k m cp:Nat) (A1:Option Addr) (SS:List Nat),vi = .int .i64 (k:Int) /\ k <= n /\ vo = .slice A1 m cp /\ m <= k /\ Hid (m = SS.length) /\ Hid (SeenI D ow kk row k SS) /\ Hid (Below h6 w6 wr) /\ Hid (wr.ownsRow h6 51 1 (.slice A1 m cp) m (SS.map uv))) (fun _ vi _ => n - (intOf vi).toNat)
   case atStart => exact ⟨0,0,0,none,[],rfl,Nat.zero_le _,rfl,Nat.le_refl _,Lib.hid rfl,Lib.hid SeenI.zero,Lib.hid (by rw [hh6.out]; exact Below.refl _ _),Lib.hid (own_nil _ _ _)⟩
   case round =>
    obtain ⟨k,m,cp1,A1,SS,rfl,hk,rfl,hmk,hm,hS,hB,ho⟩:=hrel
    have bW:Below wd.heap.size wd wr:=b6.out.trans (hB.out.mono hd6)
    obtain ⟨c0,ar⟩:=RF2.out wr bW
    obtain ⟨c5, -⟩:=bf.out wr bW
    have DCr:=DC2.out wr bW
    obtain ⟨y,hy⟩:∃ y,y = SS.getLast?.getD 0:=⟨_,rfl⟩
    obtain ⟨tb,htb⟩:∃ tb,tb = decide (k < n /\ (m:Int) < looks /\ (m = 0 \/ D y = false)):=⟨_,rfl⟩
    have hlast:m ≠ 0 -> ∃ g1,A1 = some ⟨g1,0,none⟩ /\ wr.cell? ⟨g1,m - 1,none⟩ = some (.int .u64 (y:Int)):=fun h => by
     have hx:SS[m - 1]? = some y:=by
      rw [hy,hm.out, <- List.getLast?_eq_getElem?]
      cases e:SS.getLast? with
      | none => rw [List.getLast?_eq_none_iff] at e; rw [hm.out,e] at h; exact absurd rfl h
      | some z => rfl
     obtain ⟨g1,c',hv,u⟩:=own_uvt ho.out hx
     injection hv with e1 e2 e3
     exact ⟨g1,e1,u⟩
    replace bW:=Lib.hid bW
    replace ar:=Lib.hid ar
    replace hy:=Lib.hid hy
    replace DCr:=Lib.hid DCr
    replace hlast:=Lib.hid hlast
    go_upto_region 13 with fail
    go_cut [85] from 59 to 84 (fun v85 wx => v85 = .bool tb /\ wr = wx)
    case first =>
     by_cases h1:k < n
     ·have d1:decide ((k:Int) < (n:Int)) = true:=decide_eq_true (by omega)
      have d1':decide (k < n) = true:=decide_eq_true h1
      by_cases h2:(m:Int) < looks
      ·have d2:decide ((m:Int) < looks) = true:=decide_eq_true h2
       by_cases h3:m = 0
       ·have e:tb = true:=by rw [htb]; exact decide_eq_true ⟨h1,h2,.inl h3⟩
        subst h3
        replace e:=Lib.hid e
        replace htb:=Lib.hid htb
        clear ho hlast
        go_wp2
        go_meet
        exact ⟨by rw [e.out],rfl⟩
       ·obtain ⟨g1,rfl,cl⟩:=hlast.out h3
        have d3:((m:Int) == 0) = false:=by rw [beq_eq_false_iff_ne]; omega
        have d3':decide ((m:Int) = 0) = false:=decide_eq_false (by omega)
        have d3'':decide (m = 0) = false:=decide_eq_false h3
        have q1:IntKind.i64.wrap ((m:Int) - 1) = ((m - 1:Nat):Int):=by rw [IntWalk.i64_in _ (by omega)]; omega
        have k0:(0:Int) <= ((m - 1:Nat):Int):=by omega
        have k1:((m - 1:Nat):Int) < (m:Int):=by omega
        have e:tb = !D y:=by
         rw [htb]
         cases hD:D y with
         | true => exact decide_eq_false (fun h => by rcases h.2.2 with h | h; exact h3 h; cases h)
         | false => exact decide_eq_true ⟨h1,h2,.inr rfl⟩
        replace e:=Lib.hid e
        replace htb:=Lib.hid htb
        clear h3
        go_wp2_with fail
        refine (DCr.out y).mono ?_
        rintro e1 w' ⟨rfl,rfl⟩
        go_wp2
        go_meet
        exact ⟨by rw [e.out],rfl⟩
      ·have d2:decide ((m:Int) < looks) = false:=decide_eq_false h2
       have e:tb = false:=by rw [htb]; exact decide_eq_false (fun h => h2 h.2.1)
       replace e:=Lib.hid e
       replace htb:=Lib.hid htb
       go_wp2
       go_meet
       exact ⟨by rw [e.out],rfl⟩
     ·have d1:decide ((k:Int) < (n:Int)) = false:=decide_eq_false (by omega)
      have d1':decide (k < n) = false:=decide_eq_false h1
      have e:tb = false:=by rw [htb]; exact decide_eq_false (fun h => h1 h.1)
      replace e:=Lib.hid e
      replace htb:=Lib.hid htb
      go_wp2
      go_meet
      exact ⟨by rw [e.out],rfl⟩
    case rest =>
     obtain ⟨rfl,rfl⟩:=hcut
     clear c5 hlast DCr
     cases tb with
     | true =>
      have hc:=of_decide_eq_true htb.symm
      obtain ⟨hc1,hc2,hc3⟩:=hc
      obtain ⟨x,hx⟩:∃ x,row[k]? = some x:=⟨row[k]'(by rw [<- hn.out]; exact hc1),List.getElem?_eq_getElem _⟩
      obtain ⟨g2,rfl,u⟩:=ar.out k x hx
      have k0:(0:Int) <= (k:Int):=by omega
      have k1:(k:Int) < (n:Int):=by omega
      have q1:IntKind.i64.wrap ((k:Int) + 1) = (k:Int) + 1:=IntWalk.i64_in _ (by omega)
      by_cases hxo:x = ow
      ·have e2:((x:Int) == (ow:Int)) = true:=by rw [beq_iff_eq]; omega
       have e3:decide ((x:Int) = (ow:Int)) = true:=decide_eq_true (by omega)
       have hS2:=Lib.hid (hS.out.same hx hxo)
       replace hxo:=Lib.hid hxo
       replace hx:=Lib.hid hx
       clear hS htb hc2 hc3 hc1
       go_wp2
       go_roundw
       case rel => exact ⟨k + 1,m,cp1,A1,SS,by simp,by omega,rfl,by omega,hm,hS2,hB,ho⟩
       case measure => simp [intOf] <;> omega
      ·have e2:((x:Int) == (ow:Int)) = false:=by rw [beq_eq_false_iff_ne]; omega
       have e3:decide ((x:Int) = (ow:Int)) = false:=decide_eq_false (by omega)
       have hS2:=Lib.hid (hS.out.new hx hxo (by rw [hkk]; have:=hm.out; omega) (by
        rcases hc3 with h | h
        ·exact .inl (List.eq_nil_of_length_eq_zero (hm.out.symm.trans h))
        ·exact .inr (by rw [<- hy.out]; exact h)))
       replace hxo:=Lib.hid hxo
       replace hx:=Lib.hid hx
       have sz:=hB.out.size
       have sz6:h6 <= wr.heap.size:=by have:=hh6.out; omega
       clear hS htb hc2 hc3 hc1
       go_wp2_with (at_builtin; refine wpList_app rfl _ _ _ rfl eiHd h6 _ _ _ rfl (ho.out.alloc _) (wr.heap.size + 1) (some ⟨wr.heap.size,0,none⟩) 1 1 [.int .u64 (x:Int)] rfl ?c1 ?c2 ?c3 ?c4 ?c5 ?_)
       case c1 => exact reads_v wr _ _
       case c2 => intro u hu; rw [List.mem_singleton] at hu; subst hu; rfl
       case c3 => unfold maxLen; omega
       case c4 => omega
       case c5 => rw [World.size_alloc]; omega
       intro VV w8 own8 hg8 hat8
       obtain ⟨A8,cp8,rfl⟩:=own_is own8
       have b8:Below h6 w6 w8:=(hB.out.alloc (by rw [hh6.out]; exact sz) _).grown hg8 (by rw [World.size_alloc]; omega) (fun j e => own_base ho.out e)
       have own8':w8.ownsRow h6 51 1 (.slice A8 (m + 1) cp8) (m + 1) ((SS ++ [x]).map uv):=by
        rw [List.map_append]; exact own8
       replace own8':=Lib.hid own8'
       replace b8:=Lib.hid b8
       clear own8 hg8 hat8 ho hB bW
       go_wp2
       go_roundw
       case rel => exact ⟨k + 1,m + 1,cp8,A8,SS ++ [x],by simp,by omega,rfl,by omega,Lib.hid (by rw [hm.out]; simp),hS2,b8,own8'⟩
       case measure => simp [intOf] <;> omega
     | false =>
      have hex:seenN D kk (othN ow row) = SS:=hS.out.exit (by
       have hc:=of_decide_eq_false htb.symm
       rw [<- hn.out]
       by_cases h1:k < n
       ·by_cases h2:(m:Int) < looks
        ·by_cases h3:m = 0
         ·exact absurd ⟨h1,h2,.inl h3⟩ hc
         ·refine .inr (.inr ⟨fun e => h3 (by rw [hm.out,e]; rfl),?_⟩)
          rw [<- hy.out]
          cases hD:D y with
          | true => rfl
          | false => exact absurd ⟨h1,h2,.inr hD⟩ hc
        ·exact .inr (.inl (by rw [hkk]; have:=hm.out; omega))
       ·exact .inl (by omega))
      obtain rfl:sn = SS:=hsn.out.trans hex
      obtain rfl:m = mm:=hm.out.trans hmm.out.symm
      have hnd:∀ S0 y,sn = S0 ++ [y] -> ∀ z ∈ S0,D z = false:=fun S0 y h => (hS.out.2 S0 y h).1
      obtain ⟨P1,P2,p1e,p2e,pst,pend⟩:=spare_steps Ac sn nm
      rw [<- hmm.out] at p1e p2e
      replace hnd:=Lib.hid hnd
      replace p1e:=Lib.hid p1e
      replace p2e:=Lib.hid p2e
      replace pst:=Lib.hid pst
      replace pend:=Lib.hid pend
      replace hex:=Lib.hid hex
      clear hS htb hex hm c0
      go_wp2_with fail
      refine (EC.out wr bW.out).mono ?_
      rintro e w7 ⟨rfl,b7⟩
      have own7:w7.ownsRow h6 51 1 (.slice A1 m cp1) m (sn.map uv):=own_keptN ho.out fun b e => b7.block b (own_blockN ho.out e)
      have bW7:Below wd.heap.size wd w7:=bW.out.trans (b7.mono bW.out.size)
      replace own7:=Lib.hid own7
      replace bW7:=Lib.hid bW7
      clear b7 ho hB bW
      by_cases en:sn = []
      ·obtain rfl:m = 0:=by rw [hmm.out,en]; rfl
       obtain rfl:nm = 0:=by rw [hnm.out,en]; rfl
       obtain rfl:dd = false:=by rw [hdd.out,en]; rfl
       replace en:=Lib.hid en
       go_wp2_with fail
       refine (WC.out w7).mono ?_
       rintro e w8 ⟨rfl,b8⟩
       have bE:=(bf.out w8 (bW7.out.trans (b8.mono bW7.out.size))).2
       replace bE:=Lib.hid bE
       clear b8
       go_wp2
       go_ret
       exact ⟨rfl,bE.out⟩
      ·have hm0:m ≠ 0:=fun e => en (List.eq_nil_of_length_eq_zero (hmm.out.symm.trans e))
       have hx:sn[m - 1]? = some y:=by rw [hy.out,hmm.out]; exact last_at en
       obtain ⟨g1,c',hv,cl⟩:=own_uvt own7.out hx
       injection hv with e1 e2 e3
       subst e1
       clear e3 e2
       have d3:((m:Int) == 0) = false:=by rw [beq_eq_false_iff_ne]; omega
       have d3':decide ((m:Int) = 0) = false:=decide_eq_false (by omega)
       have d3'':decide (m = 0) = false:=decide_eq_false hm0
       have q1:IntKind.i64.wrap ((m:Int) - 1) = ((m - 1:Nat):Int):=by rw [IntWalk.i64_in _ (by omega)]; omega
       have k0:(0:Int) <= ((m - 1:Nat):Int):=by omega
       have k1:((m - 1:Nat):Int) < (m:Int):=by omega
       obtain ⟨S0,hS0⟩:∃ S0,sn = S0 ++ [y]:=by
        rcases List.eq_nil_or_concat sn with e | ⟨S0,z,e⟩
        ·exact absurd e en
        ·rw [List.concat_eq_append] at e
         have:y = z:=by rw [hy.out,e,List.getLast?_concat]; rfl
         exact ⟨S0,by rw [this]; exact e⟩
       obtain ⟨q,hq⟩:∃ q,q = D y:=⟨_,rfl⟩
       have DY:=DC2.out w7 bW7.out y
       rw [<- hq] at DY
       replace hx:=Lib.hid hx
       replace hS0:=Lib.hid hS0
       replace en:=Lib.hid en
       cases q with
       | true =>
        obtain ⟨n1,n2⟩:=namedN_dead (A:=Ac) (D:=D) (l:=S0) (y:=y) hq.symm
        obtain rfl:nm = y:=by rw [hnm.out,hS0.out]; exact n1
        obtain rfl:dd = true:=by rw [hdd.out,hS0.out]; exact n2
        replace hq:=Lib.hid hq
        replace DY:=Lib.hid DY
        clear n1 n2 hm0
        go_wp2_with fail
        refine DY.out.mono ?_
        rintro e w8 ⟨rfl,rfl⟩
        go_wp2_with fail
        refine (WC.out w7).mono ?_
        rintro e w8 ⟨rfl,b8⟩
        have bE:=(bf.out w8 (bW7.out.trans (b8.mono bW7.out.size))).2
        replace bE:=Lib.hid bE
        clear b8
        go_wp2
        go_ret
        exact ⟨rfl,bE.out⟩
       | false =>
        have hall:∀ z ∈ sn,D z = false:=fun z hz => by
         rw [hS0.out] at hz
         rcases List.mem_append.1 hz with hz | hz
         ·exact hnd.out S0 y hS0.out z hz
         ·rw [List.mem_singleton] at hz
          rw [hz]
          exact hq.symm
        obtain ⟨n1,n2⟩:=namedN_no (A:=Ac) (D:=D) (l:=sn) hall
        obtain rfl:dd = false:=by rw [hdd.out]; exact n2
        have PE:=pend.out en.out (hnm.out.trans n1)
        replace PE:=Lib.hid PE
        replace hq:=Lib.hid hq
        replace DY:=Lib.hid DY
        clear n1 n2 hm0 hall
        go_wp2_with fail
        refine DY.out.mono ?_
        rintro e w8 ⟨rfl,rfl⟩
        go_wp2_with fail
        go_loopw [13,14,15] (fun vc va vi ws => ∃ (i:Nat) (J:Int),vc = .int .i64 (P1 i) /\ va = .int .i64 (P2 i) /\ vi = .int .i64 J /\ i <= m /\ Hid (J = (i:Int) - 1) /\ Hid (Below wd.heap.size wd ws) /\ Hid (ws.ownsRow h6 51 1 (.slice (some ⟨g1,0,none⟩) m cp1) m (sn.map uv))) (fun _ _ vi _ => (intOf vi + 1).toNat)
        case atStart => exact ⟨m,((m - 1:Nat):Int),by rw [p1e.out],by rw [p2e.out],rfl,Nat.le_refl _,Lib.hid (by omega),bW7,own7⟩
        case round =>
         clear cl k0 k1 q1 d3 d3' d3'' own7 bW7 hx
         obtain ⟨i,J,rfl,rfl,rfl,hi,hJ,hB3,ho3⟩:=hrel
         by_cases h0:i = 0
         ·subst h0
          obtain rfl:J = -1:=by have:=hJ.out; omega
          obtain ⟨C,hC⟩:∃ C,C = P1 0:=⟨_,rfl⟩
          obtain ⟨E,hE⟩:∃ E,E = P2 0:=⟨_,rfl⟩
          rw [<- hC, <- hE] at PE ⊢
          obtain ⟨t0,t1⟩:=PE.out
          have d1:decide ((0:Int) <= -1) = false:=rfl
          have d2:decide ((0:Int) <= E) = true:=decide_eq_true t0
          replace hC:=Lib.hid hC
          replace hE:=Lib.hid hE
          clear PE pend
          by_cases hCE:C = E
          ·have e1:(C == E) = true:=by rw [beq_iff_eq]; exact hCE
           have e2:decide (C = E) = true:=decide_eq_true hCE
           replace hCE:=Lib.hid hCE
           clear t0 t1
           go_wp2_with fail
           refine (WC.out wr).mono ?_
           rintro e w8 ⟨rfl,b8⟩
           have bE:=(bf.out w8 (hB3.out.trans (b8.mono hB3.out.size))).2
           replace bE:=Lib.hid bE
           clear b8
           go_wp2
           go_ret
           exact ⟨rfl,bE.out⟩
          ·have e1:(C == E) = false:=by rw [beq_eq_false_iff_ne]; exact hCE
           have e2:decide (C = E) = false:=decide_eq_false hCE
           obtain ⟨t2,t3⟩:=t1.resolve_left hCE
           have d4:decide (C < 0) = true:=decide_eq_true t2
           have d5:(E == 0) = true:=by rw [beq_iff_eq]; exact t3
           have d6:decide (E = 0) = true:=decide_eq_true t3
           replace hCE:=Lib.hid hCE
           clear t0 t1 t2 t3
           go_wp2_with fail
           refine (WC.out wr).mono ?_
           rintro e w8 ⟨rfl,b8⟩
           have bE:=(bf.out w8 (hB3.out.trans (b8.mono hB3.out.size))).2
           replace bE:=Lib.hid bE
           clear b8
           go_wp2
           go_ret
           exact ⟨rfl,bE.out⟩
         ·obtain ⟨j,rfl⟩:∃ j,i = j + 1:=⟨i - 1,by omega⟩
          obtain rfl:J = (j:Int):=by have:=hJ.out; omega
          obtain ⟨x,hx⟩:∃ x,sn[j]? = some x:=⟨sn[j]'(by rw [<- hmm.out]; omega),List.getElem?_eq_getElem _⟩
          have cl:=own_atg ho3.out hx
          have d1:decide ((0:Int) <= (j:Int)) = true:=decide_eq_true (by omega)
          have k0:(0:Int) <= (j:Int):=by omega
          have k1:(j:Int) < (m:Int):=by omega
          have q1:IntKind.i64.wrap ((j:Int) - 1) = (j:Int) - 1:=IntWalk.i64_in _ (by omega)
          obtain ⟨q,hq⟩:∃ q,q = Ac x:=⟨_,rfl⟩
          have AX:=AC.out wr hB3.out x (snr.out x (List.mem_of_getElem? hx))
          rw [<- hq] at AX
          obtain ⟨p1,p2,p3,p4⟩:=pst.out j x hx
          rw [<- hq] at p1 p2
          replace AX:=Lib.hid AX
          replace hq:=Lib.hid hq
          replace hx:=Lib.hid hx
          replace p1:=Lib.hid p1
          replace p2:=Lib.hid p2
          replace p3:=Lib.hid p3
          replace p4:=Lib.hid p4
          clear h0 pend PE
          go_wp2_with fail
          refine AX.out.mono ?_
          rintro e w9 ⟨rfl,b9⟩
          have own9:w9.ownsRow h6 51 1 (.slice (some ⟨g1,0,none⟩) m cp1) m (sn.map uv):=own_keptN ho3.out fun b e => b9.block b (own_blockN ho3.out e)
          have B9:Below wd.heap.size wd w9:=hB3.out.trans (b9.mono hB3.out.size)
          have cl9:=own_atg own9 hx.out
          replace own9:=Lib.hid own9
          replace B9:=Lib.hid B9
          clear b9 cl ho3 hB3 AX
          by_cases hxn:x = nm
          ·have e2:((x:Int) == (nm:Int)) = true:=by rw [beq_iff_eq]; omega
           have e3:decide ((x:Int) = (nm:Int)) = true:=decide_eq_true (by omega)
           have r2:=Lib.hid (p3.out hxn)
           replace hxn:=Lib.hid hxn
           cases q with
           | true =>
            have r1:=Lib.hid (p1.out rfl)
            clear p1 p2 p3 p4
            go_wp2
            go_roundw
            case rel => exact ⟨j,(j:Int) - 1,by rw [r1.out],by rw [r2.out],rfl,by omega,Lib.hid rfl,B9,own9⟩
            case measure => simp [intOf] <;> omega
           | false =>
            have r1:=Lib.hid (p2.out rfl)
            clear p1 p2 p3 p4
            go_wp2
            go_roundw
            case rel => exact ⟨j,(j:Int) - 1,by rw [r1.out],by rw [r2.out],rfl,by omega,Lib.hid rfl,B9,own9⟩
            case measure => simp [intOf] <;> omega
          ·have e2:((x:Int) == (nm:Int)) = false:=by rw [beq_eq_false_iff_ne]; omega
           have e3:decide ((x:Int) = (nm:Int)) = false:=decide_eq_false (by omega)
           have r2:=Lib.hid (p4.out hxn)
           replace hxn:=Lib.hid hxn
           cases q with
           | true =>
            have r1:=Lib.hid (p1.out rfl)
            clear p1 p2 p3 p4
            go_wp2
            go_roundw
            case rel => exact ⟨j,(j:Int) - 1,by rw [r1.out],by rw [r2.out],rfl,by omega,Lib.hid rfl,B9,own9⟩
            case measure => simp [intOf] <;> omega
           | false =>
            have r1:=Lib.hid (p2.out rfl)
            clear p1 p2 p3 p4
            go_wp2
            go_roundw
            case rel => exact ⟨j,(j:Int) - 1,by rw [r1.out],by rw [r2.out],rfl,by omega,Lib.hid rfl,B9,own9⟩
            case measure => simp [intOf] <;> omega
end Go.Proofs.YtngehaiigbbknaaGreat.Que
