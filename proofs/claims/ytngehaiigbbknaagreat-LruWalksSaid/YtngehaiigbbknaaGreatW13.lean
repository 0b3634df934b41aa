/-
  Contracts and lemmas, joined: Ref6Put, Ref6Drop, Ref6Moves, Ref6Moves2, LruDoc.
-/
import Derived.Test.YtngehaiigbbknaaGreatW7
import Derived.Test.YtngehaiigbbknaaGreatW9
import Derived.Test.YtngehaiigbbknaaGreatW12
set_option linter.unusedSimpArgs false
set_option linter.unusedVariables false
set_option linter.unusedSectionVars false
set_option maxRecDepth 100000
/-
  The document's queue: put.
-/
namespace Go.Proofs.YtngehaiigbbknaaGreat.Que
open Go.RowKit Base Arena Cls Itm
theorem step_ap {P:Program} {w:World} {ops:Array Oper} {o:Oper} {a:Act} {K:Act -> World -> Prop} {Q:Exit -> Act -> World -> Prop} {X:Prop} (hgd:o.guard = none) (s x:Operand) (t:TypeId)
  (ho:o.op = .call { callee:=.builtin .append,args:=#[s,x],argTypes:=#[t,t] })
  {e:TypeId} {z:Value} {size bytes:Nat} (E:EI P t e z size bytes)
  (base:Nat) (v:Value) (n:Nat) (xs:List Value) (hs:a.eval s = v) (hown:w.ownsRow base e size v n xs)
  (B:Nat) (A:Option Addr) (m c:Nat) (news:List Value) (hx:a.eval x = .slice A m c) (hr:Reads w B size A m news) (h1:∀ u ∈ news,u.oneCell' = true)
  (h63:n + m <= maxLen) (hbytes:(n + m) * bytes <= 140737488355328) (hbase:base <= w.heap.size)
  (h:∀ v' w',w'.ownsRow base e size v' (n + m) (xs ++ news) -> w.grownBy w' v.ownBlock -> (v'.ownBlock = v.ownBlock \/ v'.ownBlock = some w.heap.size) -> K (a.put o.dst v') w'):if Region.wanted o (yielded ops a.tmps) = true then Oper.wp P o a w K Q else X:=by
 obtain ⟨i,hi,hz,hsi,hby⟩:=E.info
 exact step_append_any w hgd s x t ho base e i z size bytes E.ht hi hz hsi hby E.zs E.pos v n xs hs hown B A m c news hx hr h1 h63 hbytes hbase h
theorem ne_own {w:World} {N n:Nat} {e:TypeId} {v:Value} {xs:List Value} (h:w.ownsRow N e 1 v n xs):∀ b,v.ownBlock = some b -> b ≠ w.heap.size:=fun b e => Nat.ne_of_lt (own_blockN h e)
structure Reg6 (w:World) (R:R6) (mb n:Nat) (laid:List Nat) (lists:Nat -> List Nat) (j K cp:Nat) (A:Option Addr):Prop where
 at_:R6At w R mb n laid lists
 hj:j < n
 len:(lists j).length = K
 cl:w.cell? ⟨R.gL,j,none⟩ = some (.slice A K cp)
 own:w.ownsRow 0 50 1 (.slice A K cp) K ((lists j).map uv)
theorem Reg6.facts {w:World} {R:R6} {mb n:Nat} {laid:List Nat} {lists:Nat -> List Nat} {j K cp:Nat} {A:Option Addr} (h:Reg6 w R mb n laid lists j K cp A) :
  w.cell? ⟨R.b,2,none⟩ = some (.slice (some ⟨R.gL,0,none⟩) n n) /\ R.b < w.heap.size /\ (∃ cs,Blk w R.gL 34 cs) /\ R.gL < w.heap.size /\ R.gL ≠ R.b /\ Reads w w.heap.size 1 A K ((lists j).map uv) :=
 ⟨h.at_.c2,h.at_.head.lt,h.at_.grid.blk,h.at_.grid.lt,(fun e => (by have:=h.at_.inj .grid .head R.gL rfl (by rw [e]; rfl); cases this)),Reads.of_own h.own⟩
theorem R6At.reg {w:World} {R:R6} {mb n:Nat} {laid:List Nat} {lists:Nat -> List Nat} (h:R6At w R mb n laid lists) {j:Nat} (hj:j < n):∃ K cp A,Reg6 w R mb n laid lists j K cp A:=by
 obtain ⟨A,cp, -,cl,own⟩:=h.cell hj
 exact ⟨_,cp,A,h,hj,rfl,cl,own⟩
theorem R6At.drew {w:World} {R:R6} {mb n:Nat} {laid:List Nat} {lists:Nat -> List Nat} (h:R6At w R mb n laid lists):R6At w.drew R mb n laid lists:=h.kept fun _ _ => rfl
section
variable (w:World) (R:R6) (M:RL) (c:Conf) (r:RS) (laid:List Nat) (Ls:Nat -> Nat -> List Nat) (h:R6At w R M.b (3 * c.nc) laid (rows6 Ls)) (hr:RSetAt w M c r) (fi:RFine r) (hlen:r.ch.length <= 1073741824) (hnc:c.nc <= 62) (hll:∀ x k,x < c.nc -> k < 3 -> (Ls x k).length <= 1073741823) (H i:Nat) (x:RC) (hf:rfind r.ch H = some i) (hx:r.ch[i]? = some x) (hxc:x.cls < c.nc) (k:Nat) (hk:k < 3)
include h hr fi hlen hnc hll hf hx hxc hk
set_option maxHeartbeats 1600000 in
theorem putHead:Calls Tryz.prog 101 #[.pointer (some ⟨R.b,0,none⟩),.int .u64 (H:Int),.int .i64 ((k:Int) + 1),.bool false] w fun e w' => e = .returned (.tuple #[]) /\ ∃ R',R'.b = R.b /\ Went6 w w' R R' (3 * c.nc) /\ R6At w' R' M.b (3 * c.nc) laid (rows6 (updL Ls x.cls k (H :: Ls x.cls k))):=by
 have AC:=ratC w M c r hr fi hlen H
 rw [hf] at AC
 unfold ratV at AC
 simp only [hx] at AC
 have c0:=h.c0
 have LCm:∀ m,Calls Tryz.prog 104 #[.pointer (some ⟨R.b,0,none⟩),.int .i64 (x.cls:Int),.int .i64 ((k:Int) + 1)] (w.drewN m) fun e w' => e = .returned (.int .i64 ((3 * x.cls + k:Nat):Int)) /\ w.drewN m = w':=by
  intro m
  have:=listC6 (w.drewN m) R M c r _ laid _ (h.kept fun _ _ => rfl) (hr.kept fun _ _ => rfl) (by omega) (x.cls:Int) ((k:Int) + 1)
  unfold lsI at this
  rw [if_pos (by omega),show 3 * (x.cls:Int) + ((k:Int) + 1) - 1 = ((3 * x.cls + k:Nat):Int) by omega] at this
  exact this
 have hj : 3 * x.cls + k < 3 * c.nc:=by omega
 have rg:∀ m,R6At (w.drewN m) R M.b (3 * c.nc) laid (rows6 Ls):=fun m => h.kept fun _ _ => rfl
 have eL:=rows6_at Ls (X:=x.cls) hk
 have hlb:=hll x.cls k hxc hk
 have eU:=rows6_upd Ls x.cls k hk (H :: Ls x.cls k)
 rw [<- eU]
 rw [<- eL] at hlb ⊢
 generalize rows6 Ls = lists at *
 generalize 3 * x.cls + k = j at *
 generalize hn : 3 * c.nc = n at *
 generalize x.cls = X at *
 replace AC:=Lib.hid AC
 replace LCm:=Lib.hid LCm
 replace rg:=Lib.hid rg
 clear h hr fi hlen hll hf hx eL eU hxc
 go_enter Tryz.func101,Tryz.ntmps101
 go_wp2_with fail
 refine AC.out.mono ?_
 rintro e w1 ⟨rfl,m1,hw1⟩
 have LC:=LCm.out m1
 have rg1:=rg.out m1
 rw [hw1] at LC rg1
 have c0':=rg1.c0
 replace LC:=Lib.hid LC
 replace hw1:=Lib.hid hw1
 replace rg1:=Lib.hid rg1
 clear AC LCm rg
 go_wp2_with fail
 refine LC.out.mono ?_
 rintro e w' ⟨rfl,rfl⟩
 clear LC
 go_upto_region 4 with fail
 obtain ⟨w5,hw5⟩:∃ w5,w5 = w1.drew:=⟨_,rfl⟩
 have h5:R6At w5 R M.b n laid lists:=by rw [hw5]; exact rg1.out.drew
 obtain ⟨K,cp,A,r5⟩:=h5.reg hj
 obtain ⟨c2,hRb,⟨cs,GB⟩,hGl,hne,rd⟩:=r5.facts
 have cl:=r5.cl
 have hK':K <= 1073741823:=by rw [<- r5.len]; exact hlb
 have bw5:=Below.refl w5.heap.size w5
 have j0:(0:Int) <= (j:Int):=by omega
 have j1:(j:Int) < (n:Int):=by omega
 have fin:∀ w6 V,Below w5.heap.size w5 w6 -> w6.ownsRow w5.heap.size 50 1 V (1 + K) ([uv H] ++ (lists j).map uv) -> ∃ R',R'.b = R.b /\ Went6 w (w6.setCell ⟨R.gL,j,none⟩ V) R R' n /\ R6At (w6.setCell ⟨R.gL,j,none⟩ V) R' M.b n laid (upd lists j (H :: lists j)):=by
  intro w6 V b6 o6
  obtain ⟨a1,a2⟩:=h5.setRow hj (l:=H :: lists j) b6 (by rw [List.length_cons,r5.len,Nat.add_comm K 1]; exact o6)
  have hs:w5.heap.size = w.heap.size:=by rw [hw5, <- hw1.out]; rfl
  refine ⟨{ R with F:=upd R.F j V },rfl,⟨⟨a2.only.os.trans (by rw [hw5, <- hw1.out]; rfl),a2.only.tape.trans (by rw [hw5, <- hw1.out]; rfl),a2.only.output.trans (by rw [hw5, <- hw1.out]; rfl),hs ▸ a2.only.size,fun d hd hn => (a2.only.block d (by omega) hn).trans (by rw [hw5, <- hw1.out]; rfl)⟩,fun d hd => (a2.foot d hd).imp id fun h => by omega,rfl⟩,a1⟩
 replace rd:=Lib.hid rd
 replace fin:=Lib.hid fin
 clear r5 h5 rg1 c0'
 refine wp_region_noPanic ?_
 refine wp_region_held_drew (S:=fun w' => w'.cell? ⟨R.b,2,none⟩ = some (.slice (some ⟨R.gL,0,none⟩) n n)) (by kernel_rfl) (by rw [<- hw5]; exact c2) (fun hHeld => ?_)
 rw [<- hw5] at hHeld ⊢
 clear hw5
 refine tkh (i:=0) (v:=?_) rfl ?_ ?_
 rotate_left
 ·try simp only [qA,qS,qZ]
  intro w hSw
  (try dsimp only at hSw)
  go_simp
  (try with_reducible rfl)
 try simp only [qA,qS,qZ,Act.put,qT,qO,qN]
 refine tkh (i:=1) (v:=?_) rfl ?_ ?_
 rotate_left
 ·try simp only [qA,qS,qZ]
  intro w hSw
  (try dsimp only at hSw)
  go_simp
  (try with_reducible rfl)
 try simp only [qA,qS,qZ,Act.put,qT,qO,qN]
 refine tkh (i:=2) (v:=?_) rfl ?_ ?_
 rotate_left
 ·try simp only [qA,qS,qZ]
  intro w hSw
  (try dsimp only at hSw)
  go_simp
  (try with_reducible rfl)
 try simp only [qA,qS,qZ,Act.put,qT,qO,qN]
 refine tkh (i:=3) (v:=?_) rfl ?_ ?_
 rotate_left
 ·try simp only [qA,qS,qZ]
  intro w hSw
  (try dsimp only at hSw)
  go_simp
  (try with_reducible rfl)
 try simp only [qA,qS,qZ,Act.put,qT,qO,qN]
 refine tkh (i:=4) (v:=?_) rfl ?_ ?_
 rotate_left
 ·try simp only [qA,qS,qZ]
  intro w hSw
  (try dsimp only at hSw)
  go_simp
  (try with_reducible rfl)
 try simp only [qA,qS,qZ,Act.put,qT,qO,qN]
 refine tkh (i:=5) (v:=?_) rfl ?_ ?_
 rotate_left
 ·try simp only [qA,qS,qZ]
  intro w hSw
  (try dsimp only at hSw)
  go_simp
  (try with_reducible rfl)
 try simp only [qA,qS,qZ,Act.put,qT,qO,qN]
 refine tkh (i:=7) (v:=?_) rfl ?_ ?_
 rotate_left
 ·try simp only [qA,qS,qZ]
  intro w hSw
  (try dsimp only at hSw)
  go_simp
  (try with_reducible rfl)
 try simp only [qA,qS,qZ,Act.put,qT,qO,qN]
 refine tkh (i:=8) (v:=?_) rfl ?_ ?_
 rotate_left
 ·try simp only [qA,qS,qZ]
  intro w hSw
  (try dsimp only at hSw)
  go_simp
  (try with_reducible rfl)
 try simp only [qA,qS,qZ,Act.put,qT,qO,qN]
 refine tkh (i:=9) (v:=?_) rfl ?_ ?_
 rotate_left
 ·try simp only [qA,qS,qZ]
  intro w hSw
  (try dsimp only at hSw)
  go_simp
  (try with_reducible rfl)
 try simp only [qA,qS,qZ,Act.put,qT,qO,qN]
 refine tkh (i:=10) (v:=?_) rfl ?_ ?_
 rotate_left
 ·try simp only [qA,qS,qZ]
  intro w hSw
  (try dsimp only at hSw)
  go_simp
  (try with_reducible rfl)
 try simp only [qA,qS,qZ,Act.put,qT,qO,qN]
 refine tkh (i:=11) (v:=?_) rfl ?_ ?_
 rotate_left
 ·try simp only [qA,qS,qZ]
  intro w hSw
  (try dsimp only at hSw)
  go_simp
  (try with_reducible rfl)
 try simp only [qA,qS,qZ,Act.put,qT,qO,qN]
 refine tkh (i:=12) (v:=?_) rfl ?_ ?_
 rotate_left
 ·try simp only [qA,qS,qZ]
  intro w hSw
  (try dsimp only at hSw)
  go_simp
  (try with_reducible rfl)
 try simp only [qA,qS,qZ,Act.put,qT,qO,qN]
 refine wpAnyH_ready (rs:=[6,13]) (by kernel_rfl) (by simp) ?_
 refine AllReadyH.cons (o:=_) rfl (fun K hK => ?_) ?_
 ·try simp only [qA,qS,qZ,Act.put,qT,qO,qN]
  go_simp
  obtain ⟨v6,hv6⟩:∃ x,x = World.alloc w5 (.cells #[.int .u64 (H:Int)] 50):=⟨_,rfl⟩
  have bv6:Below w5.heap.size w5 v6:=by rw [hv6]; exact bw5.alloc bw5.size _
  have sv6:=Lib.hid (show v6.heap.size = w5.heap.size + 1 by rw [hv6]; exact World.size_alloc _ _)
  have oAv6:=own_one w5 w5.heap.size H bw5.size
  rw [<- hv6] at oAv6
  rw [<- hv6]
  clear hv6
  refine hK.out _ _ ((bv6.cell (p:=⟨R.b,2,none⟩) hRb).trans c2) (fun hHeld => ?_)
  clear hK K
  try simp only [qA,qS,qZ,Act.put,qT,qO,qN]
  refine wpAnyH_ready (rs:=[13]) (by kernel_rfl) (by simp) ?_
  refine AllReadyH.cons (o:=_) rfl (fun K hK => ?_) ?_
  ·try simp only [qA,qS,qZ,Act.put,qT,qO,qN]
   have clv7:=(bv6.cell (p:=⟨R.gL,j,none⟩) hGl).trans cl
   go_simp
   refine hK.out _ _ ((bv6.cell (p:=⟨R.b,2,none⟩) hRb).trans c2) (fun hHeld => ?_)
   clear hK K
   try simp only [qA,qS,qZ,Act.put,qT,qO,qN]
   clear clv7
   refine wpAnyH_ready (rs:=[14]) (by kernel_rfl) (by simp) ?_
   refine AllReadyH.cons (o:=_) rfl (fun K hK => ?_) ?_
   ·try simp only [qA,qS,qZ,Act.put,qT,qO,qN]
    refine step_ap (a:=⟨_,_⟩) (by rfl) (.tmp 51) (.tmp 58) 34 (by rfl) eiL w5.heap.size _ _ _ (by rfl) oAv6 _ _ _ _ _ (by rfl) (rd.out.below bv6) ?ga1 ?gb1 ?gc1 bv6.size ?_
    case ga1 => first | exact uvs_cells _ | (intro u hu; rw [List.mem_singleton] at hu; subst hu; rfl)
    case gb1 => unfold maxLen; omega
    case gc1 => omega
    intro V v8 oAv8 hgv8 hatv8
    (try rw [Nat.zero_add] at oAv8)
    obtain ⟨Av8,cv8,rfl⟩:=own_is oAv8
    have bv8:Below w5.heap.size w5 v8:=bv6.grown hgv8 bv6.size (fun k e => own_base oAv6 e)
    refine hK.out _ _ ((bv8.cell (p:=⟨R.b,2,none⟩) hRb).trans c2) (fun hHeld => ?_)
    clear hK K
    try simp only [qA,qS,qZ,Act.put,qT,qO,qN]
    refine tkh (i:=15) (v:=?_) rfl ?_ ?_
    rotate_left
    ·try simp only [qA,qS,qZ]
     intro w hSw
     (try dsimp only at hSw)
     go_simp
     (try with_reducible rfl)
    try simp only [qA,qS,qZ,Act.put,qT,qO,qN]
    refine wpAnyH_ready (rs:=[16]) (by kernel_rfl) (by simp) ?_
    refine AllReadyH.cons (o:=_) rfl (fun K hK => ?_) ?_
    ·try simp only [qA,qS,qZ,Act.put,qT,qO,qN]
     have clv9:=(bv8.cell (p:=⟨R.gL,j,none⟩) hGl).trans cl
     have zzv9:Blk v8 R.gL 34 _:=(bv8.block R.gL hGl).trans GB
     have zfv9:=zzv9.frozen j
     replace zzv9:=Lib.hid zzv9
     go_simp
     refine hK.out _ _ ((World.cell?_setCell_far _ _ _ _ hne).trans ((bv8.cell (p:=⟨R.b,2,none⟩) hRb).trans c2)) (fun hHeld => ?_)
     clear hK K
     try simp only [qA,qS,qZ,Act.put,qT,qO,qN]
     clear clv9 zfv9 zzv9
     refine wpAnyH_done (by kernel_rfl) ?_ _
     refine NoPanic.normal ?_
     have T:=Lib.hid (fin.out v8 _ bv8 oAv8)
     go_wp2
     go_end0
     exact ⟨rfl,T.out⟩
    exact AllReadyH.nil
   exact AllReadyH.nil
  exact AllReadyH.nil
 refine AllReadyH.cons (o:=_) rfl (fun K hK => ?_) ?_
 ·try simp only [qA,qS,qZ,Act.put,qT,qO,qN]
  have clv6:=(bw5.cell (p:=⟨R.gL,j,none⟩) hGl).trans cl
  go_simp
  refine hK.out _ _ ((bw5.cell (p:=⟨R.b,2,none⟩) hRb).trans c2) (fun hHeld => ?_)
  clear hK K
  try simp only [qA,qS,qZ,Act.put,qT,qO,qN]
  clear clv6
  refine wpAnyH_ready (rs:=[6]) (by kernel_rfl) (by simp) ?_
  refine AllReadyH.cons (o:=_) rfl (fun K hK => ?_) ?_
  ·try simp only [qA,qS,qZ,Act.put,qT,qO,qN]
   go_simp
   obtain ⟨v7,hv7⟩:∃ x,x = World.alloc w5 (.cells #[.int .u64 (H:Int)] 50):=⟨_,rfl⟩
   have bv7:Below w5.heap.size w5 v7:=by rw [hv7]; exact bw5.alloc bw5.size _
   have sv7:=Lib.hid (show v7.heap.size = w5.heap.size + 1 by rw [hv7]; exact World.size_alloc _ _)
   have oAv7:=own_one w5 w5.heap.size H bw5.size
   rw [<- hv7] at oAv7
   rw [<- hv7]
   clear hv7
   refine hK.out _ _ ((bv7.cell (p:=⟨R.b,2,none⟩) hRb).trans c2) (fun hHeld => ?_)
   clear hK K
   try simp only [qA,qS,qZ,Act.put,qT,qO,qN]
   refine wpAnyH_ready (rs:=[14]) (by kernel_rfl) (by simp) ?_
   refine AllReadyH.cons (o:=_) rfl (fun K hK => ?_) ?_
   ·try simp only [qA,qS,qZ,Act.put,qT,qO,qN]
    refine step_ap (a:=⟨_,_⟩) (by rfl) (.tmp 51) (.tmp 58) 34 (by rfl) eiL w5.heap.size _ _ _ (by rfl) oAv7 _ _ _ _ _ (by rfl) (rd.out.below bv7) ?ga2 ?gb2 ?gc2 bv7.size ?_
    case ga2 => first | exact uvs_cells _ | (intro u hu; rw [List.mem_singleton] at hu; subst hu; rfl)
    case gb2 => unfold maxLen; omega
    case gc2 => omega
    intro V v8 oAv8 hgv8 hatv8
    (try rw [Nat.zero_add] at oAv8)
    obtain ⟨Av8,cv8,rfl⟩:=own_is oAv8
    have bv8:Below w5.heap.size w5 v8:=bv7.grown hgv8 bv7.size (fun k e => own_base oAv7 e)
    refine hK.out _ _ ((bv8.cell (p:=⟨R.b,2,none⟩) hRb).trans c2) (fun hHeld => ?_)
    clear hK K
    try simp only [qA,qS,qZ,Act.put,qT,qO,qN]
    refine tkh (i:=15) (v:=?_) rfl ?_ ?_
    rotate_left
    ·try simp only [qA,qS,qZ]
     intro w hSw
     (try dsimp only at hSw)
     go_simp
     (try with_reducible rfl)
    try simp only [qA,qS,qZ,Act.put,qT,qO,qN]
    refine wpAnyH_ready (rs:=[16]) (by kernel_rfl) (by simp) ?_
    refine AllReadyH.cons (o:=_) rfl (fun K hK => ?_) ?_
    ·try simp only [qA,qS,qZ,Act.put,qT,qO,qN]
     have clv9:=(bv8.cell (p:=⟨R.gL,j,none⟩) hGl).trans cl
     have zzv9:Blk v8 R.gL 34 _:=(bv8.block R.gL hGl).trans GB
     have zfv9:=zzv9.frozen j
     replace zzv9:=Lib.hid zzv9
     go_simp
     refine hK.out _ _ ((World.cell?_setCell_far _ _ _ _ hne).trans ((bv8.cell (p:=⟨R.b,2,none⟩) hRb).trans c2)) (fun hHeld => ?_)
     clear hK K
     try simp only [qA,qS,qZ,Act.put,qT,qO,qN]
     clear clv9 zfv9 zzv9
     refine wpAnyH_done (by kernel_rfl) ?_ _
     refine NoPanic.normal ?_
     have T:=Lib.hid (fin.out v8 _ bv8 oAv8)
     go_wp2
     go_end0
     exact ⟨rfl,T.out⟩
    exact AllReadyH.nil
   exact AllReadyH.nil
  exact AllReadyH.nil
 exact AllReadyH.nil
set_option maxHeartbeats 1600000 in
theorem putTail:Calls Tryz.prog 101 #[.pointer (some ⟨R.b,0,none⟩),.int .u64 (H:Int),.int .i64 ((k:Int) + 1),.bool true] w fun e w' => e = .returned (.tuple #[]) /\ ∃ R',R'.b = R.b /\ Went6 w w' R R' (3 * c.nc) /\ R6At w' R' M.b (3 * c.nc) laid (rows6 (updL Ls x.cls k (Ls x.cls k ++ [H]))):=by
 have AC:=ratC w M c r hr fi hlen H
 rw [hf] at AC
 unfold ratV at AC
 simp only [hx] at AC
 have c0:=h.c0
 have LCm:∀ m,Calls Tryz.prog 104 #[.pointer (some ⟨R.b,0,none⟩),.int .i64 (x.cls:Int),.int .i64 ((k:Int) + 1)] (w.drewN m) fun e w' => e = .returned (.int .i64 ((3 * x.cls + k:Nat):Int)) /\ w.drewN m = w':=by
  intro m
  have:=listC6 (w.drewN m) R M c r _ laid _ (h.kept fun _ _ => rfl) (hr.kept fun _ _ => rfl) (by omega) (x.cls:Int) ((k:Int) + 1)
  unfold lsI at this
  rw [if_pos (by omega),show 3 * (x.cls:Int) + ((k:Int) + 1) - 1 = ((3 * x.cls + k:Nat):Int) by omega] at this
  exact this
 have hj : 3 * x.cls + k < 3 * c.nc:=by omega
 have rg:∀ m,R6At (w.drewN m) R M.b (3 * c.nc) laid (rows6 Ls):=fun m => h.kept fun _ _ => rfl
 have eL:=rows6_at Ls (X:=x.cls) hk
 have hlb:=hll x.cls k hxc hk
 have eU:=rows6_upd Ls x.cls k hk (Ls x.cls k ++ [H])
 rw [<- eU]
 rw [<- eL] at hlb ⊢
 generalize rows6 Ls = lists at *
 generalize 3 * x.cls + k = j at *
 generalize hn : 3 * c.nc = n at *
 generalize x.cls = X at *
 replace AC:=Lib.hid AC
 replace LCm:=Lib.hid LCm
 replace rg:=Lib.hid rg
 clear h hr fi hlen hll hf hx eL eU hxc
 go_enter Tryz.func101,Tryz.ntmps101
 go_wp2_with fail
 refine AC.out.mono ?_
 rintro e w1 ⟨rfl,m1,hw1⟩
 have LC:=LCm.out m1
 have rg1:=rg.out m1
 rw [hw1] at LC rg1
 have c0':=rg1.c0
 replace LC:=Lib.hid LC
 replace hw1:=Lib.hid hw1
 replace rg1:=Lib.hid rg1
 clear AC LCm rg
 go_wp2_with fail
 refine LC.out.mono ?_
 rintro e w' ⟨rfl,rfl⟩
 clear LC
 go_upto_region 3 with fail
 obtain ⟨w5,hw5⟩:∃ w5,w5 = w1.drew:=⟨_,rfl⟩
 have h5:R6At w5 R M.b n laid lists:=by rw [hw5]; exact rg1.out.drew
 obtain ⟨K,cp,A,r5⟩:=h5.reg hj
 obtain ⟨c2,hRb,⟨cs,GB⟩,hGl,hne,rd⟩:=r5.facts
 have cl:=r5.cl
 have hK':K <= 1073741823:=by rw [<- r5.len]; exact hlb
 have bw5:=Below.refl w5.heap.size w5
 have j0:(0:Int) <= (j:Int):=by omega
 have j1:(j:Int) < (n:Int):=by omega
 have fin:∀ w6 V,Below w5.heap.size w5 w6 -> w6.ownsRow w5.heap.size 50 1 V (K + 1) ([] ++ (lists j).map uv ++ [uv H]) -> ∃ R',R'.b = R.b /\ Went6 w (w6.setCell ⟨R.gL,j,none⟩ V) R R' n /\ R6At (w6.setCell ⟨R.gL,j,none⟩ V) R' M.b n laid (upd lists j (lists j ++ [H])):=by
  intro w6 V b6 o6
  obtain ⟨a1,a2⟩:=h5.setRow hj (l:=lists j ++ [H]) b6 (by rw [List.length_append,List.length_singleton,r5.len,List.map_append]; exact o6)
  have hs:w5.heap.size = w.heap.size:=by rw [hw5, <- hw1.out]; rfl
  refine ⟨{ R with F:=upd R.F j V },rfl,⟨⟨a2.only.os.trans (by rw [hw5, <- hw1.out]; rfl),a2.only.tape.trans (by rw [hw5, <- hw1.out]; rfl),a2.only.output.trans (by rw [hw5, <- hw1.out]; rfl),hs ▸ a2.only.size,fun d hd hn => (a2.only.block d (by omega) hn).trans (by rw [hw5, <- hw1.out]; rfl)⟩,fun d hd => (a2.foot d hd).imp id fun h => by omega,rfl⟩,a1⟩
 replace rd:=Lib.hid rd
 replace fin:=Lib.hid fin
 clear r5 h5 rg1 c0'
 refine wp_region_noPanic ?_
 refine wp_region_held_drew (S:=fun w' => w'.cell? ⟨R.b,2,none⟩ = some (.slice (some ⟨R.gL,0,none⟩) n n)) (by kernel_rfl) (by rw [<- hw5]; exact c2) (fun hHeld => ?_)
 rw [<- hw5] at hHeld ⊢
 clear hw5
 refine tkh (i:=0) (v:=?_) rfl ?_ ?_
 rotate_left
 ·try simp only [qA,qS,qZ]
  intro w hSw
  (try dsimp only at hSw)
  go_simp
  (try with_reducible rfl)
 try simp only [qA,qS,qZ,Act.put,qT,qO,qN]
 refine tkh (i:=1) (v:=?_) rfl ?_ ?_
 rotate_left
 ·try simp only [qA,qS,qZ]
  intro w hSw
  (try dsimp only at hSw)
  go_simp
  (try with_reducible rfl)
 try simp only [qA,qS,qZ,Act.put,qT,qO,qN]
 refine tkh (i:=2) (v:=?_) rfl ?_ ?_
 rotate_left
 ·try simp only [qA,qS,qZ]
  intro w hSw
  (try dsimp only at hSw)
  go_simp
  (try with_reducible rfl)
 try simp only [qA,qS,qZ,Act.put,qT,qO,qN]
 refine tkh (i:=3) (v:=?_) rfl ?_ ?_
 rotate_left
 ·try simp only [qA,qS,qZ]
  intro w hSw
  (try dsimp only at hSw)
  go_simp
  (try with_reducible rfl)
 try simp only [qA,qS,qZ,Act.put,qT,qO,qN]
 refine tkh (i:=4) (v:=?_) rfl ?_ ?_
 rotate_left
 ·try simp only [qA,qS,qZ]
  intro w hSw
  (try dsimp only at hSw)
  go_simp
  (try with_reducible rfl)
 try simp only [qA,qS,qZ,Act.put,qT,qO,qN]
 refine tkh (i:=6) (v:=?_) rfl ?_ ?_
 rotate_left
 ·try simp only [qA,qS,qZ]
  intro w hSw
  (try dsimp only at hSw)
  go_simp
  (try with_reducible rfl)
 try simp only [qA,qS,qZ,Act.put,qT,qO,qN]
 refine tkh (i:=7) (v:=?_) rfl ?_ ?_
 rotate_left
 ·try simp only [qA,qS,qZ]
  intro w hSw
  (try dsimp only at hSw)
  go_simp
  (try with_reducible rfl)
 try simp only [qA,qS,qZ,Act.put,qT,qO,qN]
 refine tkh (i:=8) (v:=?_) rfl ?_ ?_
 rotate_left
 ·try simp only [qA,qS,qZ]
  intro w hSw
  (try dsimp only at hSw)
  go_simp
  (try with_reducible rfl)
 try simp only [qA,qS,qZ,Act.put,qT,qO,qN]
 refine tkh (i:=9) (v:=?_) rfl ?_ ?_
 rotate_left
 ·try simp only [qA,qS,qZ]
  intro w hSw
  (try dsimp only at hSw)
  go_simp
  (try with_reducible rfl)
 try simp only [qA,qS,qZ,Act.put,qT,qO,qN]
 refine tkh (i:=10) (v:=?_) rfl ?_ ?_
 rotate_left
 ·try simp only [qA,qS,qZ]
  intro w hSw
  (try dsimp only at hSw)
  go_simp
  (try with_reducible rfl)
 try simp only [qA,qS,qZ,Act.put,qT,qO,qN]
 refine tkh (i:=11) (v:=?_) rfl ?_ ?_
 rotate_left
 ·try simp only [qA,qS,qZ]
  intro w hSw
  (try dsimp only at hSw)
  go_simp
  (try with_reducible rfl)
 try simp only [qA,qS,qZ,Act.put,qT,qO,qN]
 refine tkh (i:=14) (v:=?_) rfl ?_ ?_
 rotate_left
 ·try simp only [qA,qS,qZ]
  intro w hSw
  (try dsimp only at hSw)
  go_simp
  (try with_reducible rfl)
 try simp only [qA,qS,qZ,Act.put,qT,qO,qN]
 refine wpAnyH_ready (rs:=[5,12,15]) (by kernel_rfl) (by simp) ?_
 refine AllReadyH.cons (o:=_) rfl (fun K hK => ?_) ?_
 ·try simp only [qA,qS,qZ,Act.put,qT,qO,qN]
  go_simp
  obtain ⟨v6,hv6⟩:∃ x,x = World.alloc w5 (.cells #[] 50):=⟨_,rfl⟩
  have bv6:Below w5.heap.size w5 v6:=by rw [hv6]; exact bw5.alloc bw5.size _
  have sv6:=Lib.hid (show v6.heap.size = w5.heap.size + 1 by rw [hv6]; exact World.size_alloc _ _)
  have oAv6:=own_zero w5 w5.heap.size bw5.size
  rw [<- hv6] at oAv6
  rw [<- hv6]
  clear hv6
  refine hK.out _ _ ((bv6.cell (p:=⟨R.b,2,none⟩) hRb).trans c2) (fun hHeld => ?_)
  clear hK K
  try simp only [qA,qS,qZ,Act.put,qT,qO,qN]
  refine wpAnyH_ready (rs:=[12,15]) (by kernel_rfl) (by simp) ?_
  refine AllReadyH.cons (o:=_) rfl (fun K hK => ?_) ?_
  ·try simp only [qA,qS,qZ,Act.put,qT,qO,qN]
   have clv7:=(bv6.cell (p:=⟨R.gL,j,none⟩) hGl).trans cl
   go_simp
   refine hK.out _ _ ((bv6.cell (p:=⟨R.b,2,none⟩) hRb).trans c2) (fun hHeld => ?_)
   clear hK K
   try simp only [qA,qS,qZ,Act.put,qT,qO,qN]
   clear clv7
   refine wpAnyH_ready (rs:=[13,15]) (by kernel_rfl) (by simp) ?_
   refine AllReadyH.cons (o:=_) rfl (fun K hK => ?_) ?_
   ·try simp only [qA,qS,qZ,Act.put,qT,qO,qN]
    refine step_ap (a:=⟨_,_⟩) (by rfl) (.tmp 32) (.tmp 39) 34 (by rfl) eiL w5.heap.size _ _ _ (by rfl) oAv6 _ _ _ _ _ (by rfl) (rd.out.below bv6) ?ga3 ?gb3 ?gc3 bv6.size ?_
    case ga3 => first | exact uvs_cells _ | (intro u hu; rw [List.mem_singleton] at hu; subst hu; rfl)
    case gb3 => unfold maxLen; omega
    case gc3 => omega
    intro V v8 oAv8 hgv8 hatv8
    (try rw [Nat.zero_add] at oAv8)
    obtain ⟨Av8,cv8,rfl⟩:=own_is oAv8
    have bv8:Below w5.heap.size w5 v8:=bv6.grown hgv8 bv6.size (fun k e => own_base oAv6 e)
    refine hK.out _ _ ((bv8.cell (p:=⟨R.b,2,none⟩) hRb).trans c2) (fun hHeld => ?_)
    clear hK K
    try simp only [qA,qS,qZ,Act.put,qT,qO,qN]
    refine wpAnyH_ready (rs:=[15]) (by kernel_rfl) (by simp) ?_
    refine AllReadyH.cons (o:=_) rfl (fun K hK => ?_) ?_
    ·try simp only [qA,qS,qZ,Act.put,qT,qO,qN]
     go_simp
     obtain ⟨v9,hv9⟩:∃ x,x = World.alloc v8 (.cells #[.int .u64 (H:Int)] 50):=⟨_,rfl⟩
     have bv9:Below w5.heap.size w5 v9:=by rw [hv9]; exact bv8.alloc bv8.size _
     have sv9:=Lib.hid (show v9.heap.size = v8.heap.size + 1 by rw [hv9]; exact World.size_alloc _ _)
     have oLv9:=own_one v8 w5.heap.size H bv8.size
     rw [<- hv9] at oLv9
     have oAv9:=World.ownsRow.alloc oAv8 (.cells #[.int .u64 (H:Int)] 50)
     rw [<- hv9] at oAv9
     have nev9:=ne_own oAv8
     rw [<- hv9]
     clear hv9
     refine hK.out _ _ ((bv9.cell (p:=⟨R.b,2,none⟩) hRb).trans c2) (fun hHeld => ?_)
     clear hK K
     try simp only [qA,qS,qZ,Act.put,qT,qO,qN]
     refine wpAnyH_ready (rs:=[16]) (by kernel_rfl) (by simp) ?_
     refine AllReadyH.cons (o:=_) rfl (fun K hK => ?_) ?_
     ·try simp only [qA,qS,qZ,Act.put,qT,qO,qN]
      refine step_ap (a:=⟨_,_⟩) (by rfl) (.tmp 40) (.tmp 42) 34 (by rfl) eiL w5.heap.size _ _ _ (by rfl) oAv9 _ _ _ _ _ (by rfl) (Reads.of_own oLv9) ?ga4 ?gb4 ?gc4 bv9.size ?_
      case ga4 => first | exact uvs_cells _ | (intro u hu; rw [List.mem_singleton] at hu; subst hu; rfl)
      case gb4 => unfold maxLen; omega
      case gc4 => omega
      intro V v10 oAv10 hgv10 hatv10
      (try rw [Nat.zero_add] at oAv10)
      obtain ⟨Av10,cv10,rfl⟩:=own_is oAv10
      have bv10:Below w5.heap.size w5 v10:=bv9.grown hgv10 bv9.size (fun k e => own_base oAv9 e)
      refine hK.out _ _ ((bv10.cell (p:=⟨R.b,2,none⟩) hRb).trans c2) (fun hHeld => ?_)
      clear hK K
      try simp only [qA,qS,qZ,Act.put,qT,qO,qN]
      refine tkh (i:=17) (v:=?_) rfl ?_ ?_
      rotate_left
      ·try simp only [qA,qS,qZ]
       intro w hSw
       (try dsimp only at hSw)
       go_simp
       (try with_reducible rfl)
      try simp only [qA,qS,qZ,Act.put,qT,qO,qN]
      refine wpAnyH_ready (rs:=[18]) (by kernel_rfl) (by simp) ?_
      refine AllReadyH.cons (o:=_) rfl (fun K hK => ?_) ?_
      ·try simp only [qA,qS,qZ,Act.put,qT,qO,qN]
       have clv11:=(bv10.cell (p:=⟨R.gL,j,none⟩) hGl).trans cl
       have zzv11:Blk v10 R.gL 34 _:=(bv10.block R.gL hGl).trans GB
       have zfv11:=zzv11.frozen j
       replace zzv11:=Lib.hid zzv11
       go_simp
       refine hK.out _ _ ((World.cell?_setCell_far _ _ _ _ hne).trans ((bv10.cell (p:=⟨R.b,2,none⟩) hRb).trans c2)) (fun hHeld => ?_)
       clear hK K
       try simp only [qA,qS,qZ,Act.put,qT,qO,qN]
       clear clv11 zfv11 zzv11
       refine wpAnyH_done (by kernel_rfl) ?_ _
       refine NoPanic.normal ?_
       have T:=Lib.hid (fin.out v10 _ bv10 oAv10)
       go_wp2
       go_end0
       exact ⟨rfl,T.out⟩
      exact AllReadyH.nil
     exact AllReadyH.nil
    exact AllReadyH.nil
   refine AllReadyH.cons (o:=_) rfl (fun K hK => ?_) ?_
   ·try simp only [qA,qS,qZ,Act.put,qT,qO,qN]
    go_simp
    obtain ⟨v8,hv8⟩:∃ x,x = World.alloc v6 (.cells #[.int .u64 (H:Int)] 50):=⟨_,rfl⟩
    have bv8:Below w5.heap.size w5 v8:=by rw [hv8]; exact bv6.alloc bv6.size _
    have sv8:=Lib.hid (show v8.heap.size = v6.heap.size + 1 by rw [hv8]; exact World.size_alloc _ _)
    have oLv8:=own_one v6 w5.heap.size H bv6.size
    rw [<- hv8] at oLv8
    have oAv8:=World.ownsRow.alloc oAv6 (.cells #[.int .u64 (H:Int)] 50)
    rw [<- hv8] at oAv8
    have nev8:=ne_own oAv6
    rw [<- hv8]
    clear hv8
    refine hK.out _ _ ((bv8.cell (p:=⟨R.b,2,none⟩) hRb).trans c2) (fun hHeld => ?_)
    clear hK K
    try simp only [qA,qS,qZ,Act.put,qT,qO,qN]
    refine wpAnyH_ready (rs:=[13]) (by kernel_rfl) (by simp) ?_
    refine AllReadyH.cons (o:=_) rfl (fun K hK => ?_) ?_
    ·try simp only [qA,qS,qZ,Act.put,qT,qO,qN]
     refine step_ap (a:=⟨_,_⟩) (by rfl) (.tmp 32) (.tmp 39) 34 (by rfl) eiL w5.heap.size _ _ _ (by rfl) oAv8 _ _ _ _ _ (by rfl) (rd.out.below bv8) ?ga5 ?gb5 ?gc5 bv8.size ?_
     case ga5 => first | exact uvs_cells _ | (intro u hu; rw [List.mem_singleton] at hu; subst hu; rfl)
     case gb5 => unfold maxLen; omega
     case gc5 => omega
     intro V v9 oAv9 hgv9 hatv9
     (try rw [Nat.zero_add] at oAv9)
     obtain ⟨Av9,cv9,rfl⟩:=own_is oAv9
     have bv9:Below w5.heap.size w5 v9:=bv8.grown hgv9 bv8.size (fun k e => own_base oAv8 e)
     have oLv9:=own_keptN oLv8 fun b e => hgv9.block b (own_blockN oLv8 e) fun e2 => nev8 b e2.symm (by have e:some v6.heap.size = some b:=e; injection e with e; exact e.symm)
     have nev9:∀ b,(Value.slice Av9 _ cv9).ownBlock = some b -> b ≠ v6.heap.size:=fun b e => by
      rcases hatv9 with h6 | h6
      ·exact nev8 b (h6 ▸ e)
      ·rw [h6] at e
       injection e with e
       have e9:v6.heap.size < v8.heap.size:=own_blockN (b:=v6.heap.size) oLv8 rfl
       omega
     refine hK.out _ _ ((bv9.cell (p:=⟨R.b,2,none⟩) hRb).trans c2) (fun hHeld => ?_)
     clear hK K
     try simp only [qA,qS,qZ,Act.put,qT,qO,qN]
     refine wpAnyH_ready (rs:=[16]) (by kernel_rfl) (by simp) ?_
     refine AllReadyH.cons (o:=_) rfl (fun K hK => ?_) ?_
     ·try simp only [qA,qS,qZ,Act.put,qT,qO,qN]
      refine step_ap (a:=⟨_,_⟩) (by rfl) (.tmp 40) (.tmp 42) 34 (by rfl) eiL w5.heap.size _ _ _ (by rfl) oAv9 _ _ _ _ _ (by rfl) (Reads.of_own oLv9) ?ga6 ?gb6 ?gc6 bv9.size ?_
      case ga6 => first | exact uvs_cells _ | (intro u hu; rw [List.mem_singleton] at hu; subst hu; rfl)
      case gb6 => unfold maxLen; omega
      case gc6 => omega
      intro V v10 oAv10 hgv10 hatv10
      (try rw [Nat.zero_add] at oAv10)
      obtain ⟨Av10,cv10,rfl⟩:=own_is oAv10
      have bv10:Below w5.heap.size w5 v10:=bv9.grown hgv10 bv9.size (fun k e => own_base oAv9 e)
      refine hK.out _ _ ((bv10.cell (p:=⟨R.b,2,none⟩) hRb).trans c2) (fun hHeld => ?_)
      clear hK K
      try simp only [qA,qS,qZ,Act.put,qT,qO,qN]
      refine tkh (i:=17) (v:=?_) rfl ?_ ?_
      rotate_left
      ·try simp only [qA,qS,qZ]
       intro w hSw
       (try dsimp only at hSw)
       go_simp
       (try with_reducible rfl)
      try simp only [qA,qS,qZ,Act.put,qT,qO,qN]
      refine wpAnyH_ready (rs:=[18]) (by kernel_rfl) (by simp) ?_
      refine AllReadyH.cons (o:=_) rfl (fun K hK => ?_) ?_
      ·try simp only [qA,qS,qZ,Act.put,qT,qO,qN]
       have clv11:=(bv10.cell (p:=⟨R.gL,j,none⟩) hGl).trans cl
       have zzv11:Blk v10 R.gL 34 _:=(bv10.block R.gL hGl).trans GB
       have zfv11:=zzv11.frozen j
       replace zzv11:=Lib.hid zzv11
       go_simp
       refine hK.out _ _ ((World.cell?_setCell_far _ _ _ _ hne).trans ((bv10.cell (p:=⟨R.b,2,none⟩) hRb).trans c2)) (fun hHeld => ?_)
       clear hK K
       try simp only [qA,qS,qZ,Act.put,qT,qO,qN]
       clear clv11 zfv11 zzv11
       refine wpAnyH_done (by kernel_rfl) ?_ _
       refine NoPanic.normal ?_
       have T:=Lib.hid (fin.out v10 _ bv10 oAv10)
       go_wp2
       go_end0
       exact ⟨rfl,T.out⟩
      exact AllReadyH.nil
     exact AllReadyH.nil
    exact AllReadyH.nil
   exact AllReadyH.nil
  refine AllReadyH.cons (o:=_) rfl (fun K hK => ?_) ?_
  ·try simp only [qA,qS,qZ,Act.put,qT,qO,qN]
   go_simp
   obtain ⟨v7,hv7⟩:∃ x,x = World.alloc v6 (.cells #[.int .u64 (H:Int)] 50):=⟨_,rfl⟩
   have bv7:Below w5.heap.size w5 v7:=by rw [hv7]; exact bv6.alloc bv6.size _
   have sv7:=Lib.hid (show v7.heap.size = v6.heap.size + 1 by rw [hv7]; exact World.size_alloc _ _)
   have oLv7:=own_one v6 w5.heap.size H bv6.size
   rw [<- hv7] at oLv7
   have oAv7:=World.ownsRow.alloc oAv6 (.cells #[.int .u64 (H:Int)] 50)
   rw [<- hv7] at oAv7
   have nev7:=ne_own oAv6
   rw [<- hv7]
   clear hv7
   refine hK.out _ _ ((bv7.cell (p:=⟨R.b,2,none⟩) hRb).trans c2) (fun hHeld => ?_)
   clear hK K
   try simp only [qA,qS,qZ,Act.put,qT,qO,qN]
   refine wpAnyH_ready (rs:=[12]) (by kernel_rfl) (by simp) ?_
   refine AllReadyH.cons (o:=_) rfl (fun K hK => ?_) ?_
   ·try simp only [qA,qS,qZ,Act.put,qT,qO,qN]
    have clv8:=(bv7.cell (p:=⟨R.gL,j,none⟩) hGl).trans cl
    go_simp
    refine hK.out _ _ ((bv7.cell (p:=⟨R.b,2,none⟩) hRb).trans c2) (fun hHeld => ?_)
    clear hK K
    try simp only [qA,qS,qZ,Act.put,qT,qO,qN]
    clear clv8
    refine wpAnyH_ready (rs:=[13]) (by kernel_rfl) (by simp) ?_
    refine AllReadyH.cons (o:=_) rfl (fun K hK => ?_) ?_
    ·try simp only [qA,qS,qZ,Act.put,qT,qO,qN]
     refine step_ap (a:=⟨_,_⟩) (by rfl) (.tmp 32) (.tmp 39) 34 (by rfl) eiL w5.heap.size _ _ _ (by rfl) oAv7 _ _ _ _ _ (by rfl) (rd.out.below bv7) ?ga7 ?gb7 ?gc7 bv7.size ?_
     case ga7 => first | exact uvs_cells _ | (intro u hu; rw [List.mem_singleton] at hu; subst hu; rfl)
     case gb7 => unfold maxLen; omega
     case gc7 => omega
     intro V v9 oAv9 hgv9 hatv9
     (try rw [Nat.zero_add] at oAv9)
     obtain ⟨Av9,cv9,rfl⟩:=own_is oAv9
     have bv9:Below w5.heap.size w5 v9:=bv7.grown hgv9 bv7.size (fun k e => own_base oAv7 e)
     have oLv9:=own_keptN oLv7 fun b e => hgv9.block b (own_blockN oLv7 e) fun e2 => nev7 b e2.symm (by have e:some v6.heap.size = some b:=e; injection e with e; exact e.symm)
     have nev9:∀ b,(Value.slice Av9 _ cv9).ownBlock = some b -> b ≠ v6.heap.size:=fun b e => by
      rcases hatv9 with h6 | h6
      ·exact nev7 b (h6 ▸ e)
      ·rw [h6] at e
       injection e with e
       have e9:v6.heap.size < v7.heap.size:=own_blockN (b:=v6.heap.size) oLv7 rfl
       omega
     refine hK.out _ _ ((bv9.cell (p:=⟨R.b,2,none⟩) hRb).trans c2) (fun hHeld => ?_)
     clear hK K
     try simp only [qA,qS,qZ,Act.put,qT,qO,qN]
     refine wpAnyH_ready (rs:=[16]) (by kernel_rfl) (by simp) ?_
     refine AllReadyH.cons (o:=_) rfl (fun K hK => ?_) ?_
     ·try simp only [qA,qS,qZ,Act.put,qT,qO,qN]
      refine step_ap (a:=⟨_,_⟩) (by rfl) (.tmp 40) (.tmp 42) 34 (by rfl) eiL w5.heap.size _ _ _ (by rfl) oAv9 _ _ _ _ _ (by rfl) (Reads.of_own oLv9) ?ga8 ?gb8 ?gc8 bv9.size ?_
      case ga8 => first | exact uvs_cells _ | (intro u hu; rw [List.mem_singleton] at hu; subst hu; rfl)
      case gb8 => unfold maxLen; omega
      case gc8 => omega
      intro V v10 oAv10 hgv10 hatv10
      (try rw [Nat.zero_add] at oAv10)
      obtain ⟨Av10,cv10,rfl⟩:=own_is oAv10
      have bv10:Below w5.heap.size w5 v10:=bv9.grown hgv10 bv9.size (fun k e => own_base oAv9 e)
      refine hK.out _ _ ((bv10.cell (p:=⟨R.b,2,none⟩) hRb).trans c2) (fun hHeld => ?_)
      clear hK K
      try simp only [qA,qS,qZ,Act.put,qT,qO,qN]
      refine tkh (i:=17) (v:=?_) rfl ?_ ?_
      rotate_left
      ·try simp only [qA,qS,qZ]
       intro w hSw
       (try dsimp only at hSw)
       go_simp
       (try with_reducible rfl)
      try simp only [qA,qS,qZ,Act.put,qT,qO,qN]
      refine wpAnyH_ready (rs:=[18]) (by kernel_rfl) (by simp) ?_
      refine AllReadyH.cons (o:=_) rfl (fun K hK => ?_) ?_
      ·try simp only [qA,qS,qZ,Act.put,qT,qO,qN]
       have clv11:=(bv10.cell (p:=⟨R.gL,j,none⟩) hGl).trans cl
       have zzv11:Blk v10 R.gL 34 _:=(bv10.block R.gL hGl).trans GB
       have zfv11:=zzv11.frozen j
       replace zzv11:=Lib.hid zzv11
       go_simp
       refine hK.out _ _ ((World.cell?_setCell_far _ _ _ _ hne).trans ((bv10.cell (p:=⟨R.b,2,none⟩) hRb).trans c2)) (fun hHeld => ?_)
       clear hK K
       try simp only [qA,qS,qZ,Act.put,qT,qO,qN]
       clear clv11 zfv11 zzv11
       refine wpAnyH_done (by kernel_rfl) ?_ _
       refine NoPanic.normal ?_
       have T:=Lib.hid (fin.out v10 _ bv10 oAv10)
       go_wp2
       go_end0
       exact ⟨rfl,T.out⟩
      exact AllReadyH.nil
     exact AllReadyH.nil
    exact AllReadyH.nil
   exact AllReadyH.nil
  exact AllReadyH.nil
 refine AllReadyH.cons (o:=_) rfl (fun K hK => ?_) ?_
 ·try simp only [qA,qS,qZ,Act.put,qT,qO,qN]
  have clv6:=(bw5.cell (p:=⟨R.gL,j,none⟩) hGl).trans cl
  go_simp
  refine hK.out _ _ ((bw5.cell (p:=⟨R.b,2,none⟩) hRb).trans c2) (fun hHeld => ?_)
  clear hK K
  try simp only [qA,qS,qZ,Act.put,qT,qO,qN]
  clear clv6
  refine wpAnyH_ready (rs:=[5,15]) (by kernel_rfl) (by simp) ?_
  refine AllReadyH.cons (o:=_) rfl (fun K hK => ?_) ?_
  ·try simp only [qA,qS,qZ,Act.put,qT,qO,qN]
   go_simp
   obtain ⟨v7,hv7⟩:∃ x,x = World.alloc w5 (.cells #[] 50):=⟨_,rfl⟩
   have bv7:Below w5.heap.size w5 v7:=by rw [hv7]; exact bw5.alloc bw5.size _
   have sv7:=Lib.hid (show v7.heap.size = w5.heap.size + 1 by rw [hv7]; exact World.size_alloc _ _)
   have oAv7:=own_zero w5 w5.heap.size bw5.size
   rw [<- hv7] at oAv7
   rw [<- hv7]
   clear hv7
   refine hK.out _ _ ((bv7.cell (p:=⟨R.b,2,none⟩) hRb).trans c2) (fun hHeld => ?_)
   clear hK K
   try simp only [qA,qS,qZ,Act.put,qT,qO,qN]
   refine wpAnyH_ready (rs:=[13,15]) (by kernel_rfl) (by simp) ?_
   refine AllReadyH.cons (o:=_) rfl (fun K hK => ?_) ?_
   ·try simp only [qA,qS,qZ,Act.put,qT,qO,qN]
    refine step_ap (a:=⟨_,_⟩) (by rfl) (.tmp 32) (.tmp 39) 34 (by rfl) eiL w5.heap.size _ _ _ (by rfl) oAv7 _ _ _ _ _ (by rfl) (rd.out.below bv7) ?ga9 ?gb9 ?gc9 bv7.size ?_
    case ga9 => first | exact uvs_cells _ | (intro u hu; rw [List.mem_singleton] at hu; subst hu; rfl)
    case gb9 => unfold maxLen; omega
    case gc9 => omega
    intro V v8 oAv8 hgv8 hatv8
    (try rw [Nat.zero_add] at oAv8)
    obtain ⟨Av8,cv8,rfl⟩:=own_is oAv8
    have bv8:Below w5.heap.size w5 v8:=bv7.grown hgv8 bv7.size (fun k e => own_base oAv7 e)
    refine hK.out _ _ ((bv8.cell (p:=⟨R.b,2,none⟩) hRb).trans c2) (fun hHeld => ?_)
    clear hK K
    try simp only [qA,qS,qZ,Act.put,qT,qO,qN]
    refine wpAnyH_ready (rs:=[15]) (by kernel_rfl) (by simp) ?_
    refine AllReadyH.cons (o:=_) rfl (fun K hK => ?_) ?_
    ·try simp only [qA,qS,qZ,Act.put,qT,qO,qN]
     go_simp
     obtain ⟨v9,hv9⟩:∃ x,x = World.alloc v8 (.cells #[.int .u64 (H:Int)] 50):=⟨_,rfl⟩
     have bv9:Below w5.heap.size w5 v9:=by rw [hv9]; exact bv8.alloc bv8.size _
     have sv9:=Lib.hid (show v9.heap.size = v8.heap.size + 1 by rw [hv9]; exact World.size_alloc _ _)
     have oLv9:=own_one v8 w5.heap.size H bv8.size
     rw [<- hv9] at oLv9
     have oAv9:=World.ownsRow.alloc oAv8 (.cells #[.int .u64 (H:Int)] 50)
     rw [<- hv9] at oAv9
     have nev9:=ne_own oAv8
     rw [<- hv9]
     clear hv9
     refine hK.out _ _ ((bv9.cell (p:=⟨R.b,2,none⟩) hRb).trans c2) (fun hHeld => ?_)
     clear hK K
     try simp only [qA,qS,qZ,Act.put,qT,qO,qN]
     refine wpAnyH_ready (rs:=[16]) (by kernel_rfl) (by simp) ?_
     refine AllReadyH.cons (o:=_) rfl (fun K hK => ?_) ?_
     ·try simp only [qA,qS,qZ,Act.put,qT,qO,qN]
      refine step_ap (a:=⟨_,_⟩) (by rfl) (.tmp 40) (.tmp 42) 34 (by rfl) eiL w5.heap.size _ _ _ (by rfl) oAv9 _ _ _ _ _ (by rfl) (Reads.of_own oLv9) ?ga10 ?gb10 ?gc10 bv9.size ?_
      case ga10 => first | exact uvs_cells _ | (intro u hu; rw [List.mem_singleton] at hu; subst hu; rfl)
      case gb10 => unfold maxLen; omega
      case gc10 => omega
      intro V v10 oAv10 hgv10 hatv10
      (try rw [Nat.zero_add] at oAv10)
      obtain ⟨Av10,cv10,rfl⟩:=own_is oAv10
      have bv10:Below w5.heap.size w5 v10:=bv9.grown hgv10 bv9.size (fun k e => own_base oAv9 e)
      refine hK.out _ _ ((bv10.cell (p:=⟨R.b,2,none⟩) hRb).trans c2) (fun hHeld => ?_)
      clear hK K
      try simp only [qA,qS,qZ,Act.put,qT,qO,qN]
      refine tkh (i:=17) (v:=?_) rfl ?_ ?_
      rotate_left
      ·try simp only [qA,qS,qZ]
       intro w hSw
       (try dsimp only at hSw)
       go_simp
       (try with_reducible rfl)
      try simp only [qA,qS,qZ,Act.put,qT,qO,qN]
      refine wpAnyH_ready (rs:=[18]) (by kernel_rfl) (by simp) ?_
      refine AllReadyH.cons (o:=_) rfl (fun K hK => ?_) ?_
      ·try simp only [qA,qS,qZ,Act.put,qT,qO,qN]
       have clv11:=(bv10.cell (p:=⟨R.gL,j,none⟩) hGl).trans cl
       have zzv11:Blk v10 R.gL 34 _:=(bv10.block R.gL hGl).trans GB
       have zfv11:=zzv11.frozen j
       replace zzv11:=Lib.hid zzv11
       go_simp
       refine hK.out _ _ ((World.cell?_setCell_far _ _ _ _ hne).trans ((bv10.cell (p:=⟨R.b,2,none⟩) hRb).trans c2)) (fun hHeld => ?_)
       clear hK K
       try simp only [qA,qS,qZ,Act.put,qT,qO,qN]
       clear clv11 zfv11 zzv11
       refine wpAnyH_done (by kernel_rfl) ?_ _
       refine NoPanic.normal ?_
       have T:=Lib.hid (fin.out v10 _ bv10 oAv10)
       go_wp2
       go_end0
       exact ⟨rfl,T.out⟩
      exact AllReadyH.nil
     exact AllReadyH.nil
    exact AllReadyH.nil
   refine AllReadyH.cons (o:=_) rfl (fun K hK => ?_) ?_
   ·try simp only [qA,qS,qZ,Act.put,qT,qO,qN]
    go_simp
    obtain ⟨v8,hv8⟩:∃ x,x = World.alloc v7 (.cells #[.int .u64 (H:Int)] 50):=⟨_,rfl⟩
    have bv8:Below w5.heap.size w5 v8:=by rw [hv8]; exact bv7.alloc bv7.size _
    have sv8:=Lib.hid (show v8.heap.size = v7.heap.size + 1 by rw [hv8]; exact World.size_alloc _ _)
    have oLv8:=own_one v7 w5.heap.size H bv7.size
    rw [<- hv8] at oLv8
    have oAv8:=World.ownsRow.alloc oAv7 (.cells #[.int .u64 (H:Int)] 50)
    rw [<- hv8] at oAv8
    have nev8:=ne_own oAv7
    rw [<- hv8]
    clear hv8
    refine hK.out _ _ ((bv8.cell (p:=⟨R.b,2,none⟩) hRb).trans c2) (fun hHeld => ?_)
    clear hK K
    try simp only [qA,qS,qZ,Act.put,qT,qO,qN]
    refine wpAnyH_ready (rs:=[13]) (by kernel_rfl) (by simp) ?_
    refine AllReadyH.cons (o:=_) rfl (fun K hK => ?_) ?_
    ·try simp only [qA,qS,qZ,Act.put,qT,qO,qN]
     refine step_ap (a:=⟨_,_⟩) (by rfl) (.tmp 32) (.tmp 39) 34 (by rfl) eiL w5.heap.size _ _ _ (by rfl) oAv8 _ _ _ _ _ (by rfl) (rd.out.below bv8) ?ga11 ?gb11 ?gc11 bv8.size ?_
     case ga11 => first | exact uvs_cells _ | (intro u hu; rw [List.mem_singleton] at hu; subst hu; rfl)
     case gb11 => unfold maxLen; omega
     case gc11 => omega
     intro V v9 oAv9 hgv9 hatv9
     (try rw [Nat.zero_add] at oAv9)
     obtain ⟨Av9,cv9,rfl⟩:=own_is oAv9
     have bv9:Below w5.heap.size w5 v9:=bv8.grown hgv9 bv8.size (fun k e => own_base oAv8 e)
     have oLv9:=own_keptN oLv8 fun b e => hgv9.block b (own_blockN oLv8 e) fun e2 => nev8 b e2.symm (by have e:some v7.heap.size = some b:=e; injection e with e; exact e.symm)
     have nev9:∀ b,(Value.slice Av9 _ cv9).ownBlock = some b -> b ≠ v7.heap.size:=fun b e => by
      rcases hatv9 with h6 | h6
      ·exact nev8 b (h6 ▸ e)
      ·rw [h6] at e
       injection e with e
       have e9:v7.heap.size < v8.heap.size:=own_blockN (b:=v7.heap.size) oLv8 rfl
       omega
     refine hK.out _ _ ((bv9.cell (p:=⟨R.b,2,none⟩) hRb).trans c2) (fun hHeld => ?_)
     clear hK K
     try simp only [qA,qS,qZ,Act.put,qT,qO,qN]
     refine wpAnyH_ready (rs:=[16]) (by kernel_rfl) (by simp) ?_
     refine AllReadyH.cons (o:=_) rfl (fun K hK => ?_) ?_
     ·try simp only [qA,qS,qZ,Act.put,qT,qO,qN]
      refine step_ap (a:=⟨_,_⟩) (by rfl) (.tmp 40) (.tmp 42) 34 (by rfl) eiL w5.heap.size _ _ _ (by rfl) oAv9 _ _ _ _ _ (by rfl) (Reads.of_own oLv9) ?ga12 ?gb12 ?gc12 bv9.size ?_
      case ga12 => first | exact uvs_cells _ | (intro u hu; rw [List.mem_singleton] at hu; subst hu; rfl)
      case gb12 => unfold maxLen; omega
      case gc12 => omega
      intro V v10 oAv10 hgv10 hatv10
      (try rw [Nat.zero_add] at oAv10)
      obtain ⟨Av10,cv10,rfl⟩:=own_is oAv10
      have bv10:Below w5.heap.size w5 v10:=bv9.grown hgv10 bv9.size (fun k e => own_base oAv9 e)
      refine hK.out _ _ ((bv10.cell (p:=⟨R.b,2,none⟩) hRb).trans c2) (fun hHeld => ?_)
      clear hK K
      try simp only [qA,qS,qZ,Act.put,qT,qO,qN]
      refine tkh (i:=17) (v:=?_) rfl ?_ ?_
      rotate_left
      ·try simp only [qA,qS,qZ]
       intro w hSw
       (try dsimp only at hSw)
       go_simp
       (try with_reducible rfl)
      try simp only [qA,qS,qZ,Act.put,qT,qO,qN]
      refine wpAnyH_ready (rs:=[18]) (by kernel_rfl) (by simp) ?_
      refine AllReadyH.cons (o:=_) rfl (fun K hK => ?_) ?_
      ·try simp only [qA,qS,qZ,Act.put,qT,qO,qN]
       have clv11:=(bv10.cell (p:=⟨R.gL,j,none⟩) hGl).trans cl
       have zzv11:Blk v10 R.gL 34 _:=(bv10.block R.gL hGl).trans GB
       have zfv11:=zzv11.frozen j
       replace zzv11:=Lib.hid zzv11
       go_simp
       refine hK.out _ _ ((World.cell?_setCell_far _ _ _ _ hne).trans ((bv10.cell (p:=⟨R.b,2,none⟩) hRb).trans c2)) (fun hHeld => ?_)
       clear hK K
       try simp only [qA,qS,qZ,Act.put,qT,qO,qN]
       clear clv11 zfv11 zzv11
       refine wpAnyH_done (by kernel_rfl) ?_ _
       refine NoPanic.normal ?_
       have T:=Lib.hid (fin.out v10 _ bv10 oAv10)
       go_wp2
       go_end0
       exact ⟨rfl,T.out⟩
      exact AllReadyH.nil
     exact AllReadyH.nil
    exact AllReadyH.nil
   exact AllReadyH.nil
  refine AllReadyH.cons (o:=_) rfl (fun K hK => ?_) ?_
  ·try simp only [qA,qS,qZ,Act.put,qT,qO,qN]
   go_simp
   obtain ⟨v7,hv7⟩:∃ x,x = World.alloc w5 (.cells #[.int .u64 (H:Int)] 50):=⟨_,rfl⟩
   have bv7:Below w5.heap.size w5 v7:=by rw [hv7]; exact bw5.alloc bw5.size _
   have sv7:=Lib.hid (show v7.heap.size = w5.heap.size + 1 by rw [hv7]; exact World.size_alloc _ _)
   have oLv7:=own_one w5 w5.heap.size H bw5.size
   rw [<- hv7] at oLv7
   rw [<- hv7]
   clear hv7
   refine hK.out _ _ ((bv7.cell (p:=⟨R.b,2,none⟩) hRb).trans c2) (fun hHeld => ?_)
   clear hK K
   try simp only [qA,qS,qZ,Act.put,qT,qO,qN]
   refine wpAnyH_ready (rs:=[5]) (by kernel_rfl) (by simp) ?_
   refine AllReadyH.cons (o:=_) rfl (fun K hK => ?_) ?_
   ·try simp only [qA,qS,qZ,Act.put,qT,qO,qN]
    go_simp
    obtain ⟨v8,hv8⟩:∃ x,x = World.alloc v7 (.cells #[] 50):=⟨_,rfl⟩
    have bv8:Below w5.heap.size w5 v8:=by rw [hv8]; exact bv7.alloc bv7.size _
    have sv8:=Lib.hid (show v8.heap.size = v7.heap.size + 1 by rw [hv8]; exact World.size_alloc _ _)
    have oAv8:=own_zero v7 w5.heap.size bv7.size
    rw [<- hv8] at oAv8
    have oLv8:=World.ownsRow.alloc oLv7 (.cells #[] 50)
    rw [<- hv8] at oLv8
    have nev8:∀ b,(Value.slice (some ⟨v7.heap.size,0,none⟩) 0 0).ownBlock = some b -> b ≠ w5.heap.size:=fun b e => by
     have e:some v7.heap.size = some b:=e
     injection e with e
     have e9:w5.heap.size < v7.heap.size:=own_blockN (b:=w5.heap.size) oLv7 rfl
     omega
    rw [<- hv8]
    clear hv8
    refine hK.out _ _ ((bv8.cell (p:=⟨R.b,2,none⟩) hRb).trans c2) (fun hHeld => ?_)
    clear hK K
    try simp only [qA,qS,qZ,Act.put,qT,qO,qN]
    refine wpAnyH_ready (rs:=[13]) (by kernel_rfl) (by simp) ?_
    refine AllReadyH.cons (o:=_) rfl (fun K hK => ?_) ?_
    ·try simp only [qA,qS,qZ,Act.put,qT,qO,qN]
     refine step_ap (a:=⟨_,_⟩) (by rfl) (.tmp 32) (.tmp 39) 34 (by rfl) eiL w5.heap.size _ _ _ (by rfl) oAv8 _ _ _ _ _ (by rfl) (rd.out.below bv8) ?ga13 ?gb13 ?gc13 bv8.size ?_
     case ga13 => first | exact uvs_cells _ | (intro u hu; rw [List.mem_singleton] at hu; subst hu; rfl)
     case gb13 => unfold maxLen; omega
     case gc13 => omega
     intro V v9 oAv9 hgv9 hatv9
     (try rw [Nat.zero_add] at oAv9)
     obtain ⟨Av9,cv9,rfl⟩:=own_is oAv9
     have bv9:Below w5.heap.size w5 v9:=bv8.grown hgv9 bv8.size (fun k e => own_base oAv8 e)
     have oLv9:=own_keptN oLv8 fun b e => hgv9.block b (own_blockN oLv8 e) fun e2 => nev8 b e2.symm (by have e:some w5.heap.size = some b:=e; injection e with e; exact e.symm)
     have nev9:∀ b,(Value.slice Av9 _ cv9).ownBlock = some b -> b ≠ w5.heap.size:=fun b e => by
      rcases hatv9 with h6 | h6
      ·exact nev8 b (h6 ▸ e)
      ·rw [h6] at e
       injection e with e
       have e9:w5.heap.size < v8.heap.size:=own_blockN (b:=w5.heap.size) oLv8 rfl
       omega
     refine hK.out _ _ ((bv9.cell (p:=⟨R.b,2,none⟩) hRb).trans c2) (fun hHeld => ?_)
     clear hK K
     try simp only [qA,qS,qZ,Act.put,qT,qO,qN]
     refine wpAnyH_ready (rs:=[16]) (by kernel_rfl) (by simp) ?_
     refine AllReadyH.cons (o:=_) rfl (fun K hK => ?_) ?_
     ·try simp only [qA,qS,qZ,Act.put,qT,qO,qN]
      refine step_ap (a:=⟨_,_⟩) (by rfl) (.tmp 40) (.tmp 42) 34 (by rfl) eiL w5.heap.size _ _ _ (by rfl) oAv9 _ _ _ _ _ (by rfl) (Reads.of_own oLv9) ?ga14 ?gb14 ?gc14 bv9.size ?_
      case ga14 => first | exact uvs_cells _ | (intro u hu; rw [List.mem_singleton] at hu; subst hu; rfl)
      case gb14 => unfold maxLen; omega
      case gc14 => omega
      intro V v10 oAv10 hgv10 hatv10
      (try rw [Nat.zero_add] at oAv10)
      obtain ⟨Av10,cv10,rfl⟩:=own_is oAv10
      have bv10:Below w5.heap.size w5 v10:=bv9.grown hgv10 bv9.size (fun k e => own_base oAv9 e)
      refine hK.out _ _ ((bv10.cell (p:=⟨R.b,2,none⟩) hRb).trans c2) (fun hHeld => ?_)
      clear hK K
      try simp only [qA,qS,qZ,Act.put,qT,qO,qN]
      refine tkh (i:=17) (v:=?_) rfl ?_ ?_
      rotate_left
      ·try simp only [qA,qS,qZ]
       intro w hSw
       (try dsimp only at hSw)
       go_simp
       (try with_reducible rfl)
      try simp only [qA,qS,qZ,Act.put,qT,qO,qN]
      refine wpAnyH_ready (rs:=[18]) (by kernel_rfl) (by simp) ?_
      refine AllReadyH.cons (o:=_) rfl (fun K hK => ?_) ?_
      ·try simp only [qA,qS,qZ,Act.put,qT,qO,qN]
       have clv11:=(bv10.cell (p:=⟨R.gL,j,none⟩) hGl).trans cl
       have zzv11:Blk v10 R.gL 34 _:=(bv10.block R.gL hGl).trans GB
       have zfv11:=zzv11.frozen j
       replace zzv11:=Lib.hid zzv11
       go_simp
       refine hK.out _ _ ((World.cell?_setCell_far _ _ _ _ hne).trans ((bv10.cell (p:=⟨R.b,2,none⟩) hRb).trans c2)) (fun hHeld => ?_)
       clear hK K
       try simp only [qA,qS,qZ,Act.put,qT,qO,qN]
       clear clv11 zfv11 zzv11
       refine wpAnyH_done (by kernel_rfl) ?_ _
       refine NoPanic.normal ?_
       have T:=Lib.hid (fin.out v10 _ bv10 oAv10)
       go_wp2
       go_end0
       exact ⟨rfl,T.out⟩
      exact AllReadyH.nil
     exact AllReadyH.nil
    exact AllReadyH.nil
   exact AllReadyH.nil
  exact AllReadyH.nil
 refine AllReadyH.cons (o:=_) rfl (fun K hK => ?_) ?_
 ·try simp only [qA,qS,qZ,Act.put,qT,qO,qN]
  go_simp
  obtain ⟨v6,hv6⟩:∃ x,x = World.alloc w5 (.cells #[.int .u64 (H:Int)] 50):=⟨_,rfl⟩
  have bv6:Below w5.heap.size w5 v6:=by rw [hv6]; exact bw5.alloc bw5.size _
  have sv6:=Lib.hid (show v6.heap.size = w5.heap.size + 1 by rw [hv6]; exact World.size_alloc _ _)
  have oLv6:=own_one w5 w5.heap.size H bw5.size
  rw [<- hv6] at oLv6
  rw [<- hv6]
  clear hv6
  refine hK.out _ _ ((bv6.cell (p:=⟨R.b,2,none⟩) hRb).trans c2) (fun hHeld => ?_)
  clear hK K
  try simp only [qA,qS,qZ,Act.put,qT,qO,qN]
  refine wpAnyH_ready (rs:=[5,12]) (by kernel_rfl) (by simp) ?_
  refine AllReadyH.cons (o:=_) rfl (fun K hK => ?_) ?_
  ·try simp only [qA,qS,qZ,Act.put,qT,qO,qN]
   go_simp
   obtain ⟨v7,hv7⟩:∃ x,x = World.alloc v6 (.cells #[] 50):=⟨_,rfl⟩
   have bv7:Below w5.heap.size w5 v7:=by rw [hv7]; exact bv6.alloc bv6.size _
   have sv7:=Lib.hid (show v7.heap.size = v6.heap.size + 1 by rw [hv7]; exact World.size_alloc _ _)
   have oAv7:=own_zero v6 w5.heap.size bv6.size
   rw [<- hv7] at oAv7
   have oLv7:=World.ownsRow.alloc oLv6 (.cells #[] 50)
   rw [<- hv7] at oLv7
   have nev7:∀ b,(Value.slice (some ⟨v6.heap.size,0,none⟩) 0 0).ownBlock = some b -> b ≠ w5.heap.size:=fun b e => by
    have e:some v6.heap.size = some b:=e
    injection e with e
    have e9:w5.heap.size < v6.heap.size:=own_blockN (b:=w5.heap.size) oLv6 rfl
    omega
   rw [<- hv7]
   clear hv7
   refine hK.out _ _ ((bv7.cell (p:=⟨R.b,2,none⟩) hRb).trans c2) (fun hHeld => ?_)
   clear hK K
   try simp only [qA,qS,qZ,Act.put,qT,qO,qN]
   refine wpAnyH_ready (rs:=[12]) (by kernel_rfl) (by simp) ?_
   refine AllReadyH.cons (o:=_) rfl (fun K hK => ?_) ?_
   ·try simp only [qA,qS,qZ,Act.put,qT,qO,qN]
    have clv8:=(bv7.cell (p:=⟨R.gL,j,none⟩) hGl).trans cl
    go_simp
    refine hK.out _ _ ((bv7.cell (p:=⟨R.b,2,none⟩) hRb).trans c2) (fun hHeld => ?_)
    clear hK K
    try simp only [qA,qS,qZ,Act.put,qT,qO,qN]
    clear clv8
    refine wpAnyH_ready (rs:=[13]) (by kernel_rfl) (by simp) ?_
    refine AllReadyH.cons (o:=_) rfl (fun K hK => ?_) ?_
    ·try simp only [qA,qS,qZ,Act.put,qT,qO,qN]
     refine step_ap (a:=⟨_,_⟩) (by rfl) (.tmp 32) (.tmp 39) 34 (by rfl) eiL w5.heap.size _ _ _ (by rfl) oAv7 _ _ _ _ _ (by rfl) (rd.out.below bv7) ?ga15 ?gb15 ?gc15 bv7.size ?_
     case ga15 => first | exact uvs_cells _ | (intro u hu; rw [List.mem_singleton] at hu; subst hu; rfl)
     case gb15 => unfold maxLen; omega
     case gc15 => omega
     intro V v9 oAv9 hgv9 hatv9
     (try rw [Nat.zero_add] at oAv9)
     obtain ⟨Av9,cv9,rfl⟩:=own_is oAv9
     have bv9:Below w5.heap.size w5 v9:=bv7.grown hgv9 bv7.size (fun k e => own_base oAv7 e)
     have oLv9:=own_keptN oLv7 fun b e => hgv9.block b (own_blockN oLv7 e) fun e2 => nev7 b e2.symm (by have e:some w5.heap.size = some b:=e; injection e with e; exact e.symm)
     have nev9:∀ b,(Value.slice Av9 _ cv9).ownBlock = some b -> b ≠ w5.heap.size:=fun b e => by
      rcases hatv9 with h6 | h6
      ·exact nev7 b (h6 ▸ e)
      ·rw [h6] at e
       injection e with e
       have e9:w5.heap.size < v7.heap.size:=own_blockN (b:=w5.heap.size) oLv7 rfl
       omega
     refine hK.out _ _ ((bv9.cell (p:=⟨R.b,2,none⟩) hRb).trans c2) (fun hHeld => ?_)
     clear hK K
     try simp only [qA,qS,qZ,Act.put,qT,qO,qN]
     refine wpAnyH_ready (rs:=[16]) (by kernel_rfl) (by simp) ?_
     refine AllReadyH.cons (o:=_) rfl (fun K hK => ?_) ?_
     ·try simp only [qA,qS,qZ,Act.put,qT,qO,qN]
      refine step_ap (a:=⟨_,_⟩) (by rfl) (.tmp 40) (.tmp 42) 34 (by rfl) eiL w5.heap.size _ _ _ (by rfl) oAv9 _ _ _ _ _ (by rfl) (Reads.of_own oLv9) ?ga16 ?gb16 ?gc16 bv9.size ?_
      case ga16 => first | exact uvs_cells _ | (intro u hu; rw [List.mem_singleton] at hu; subst hu; rfl)
      case gb16 => unfold maxLen; omega
      case gc16 => omega
      intro V v10 oAv10 hgv10 hatv10
      (try rw [Nat.zero_add] at oAv10)
      obtain ⟨Av10,cv10,rfl⟩:=own_is oAv10
      have bv10:Below w5.heap.size w5 v10:=bv9.grown hgv10 bv9.size (fun k e => own_base oAv9 e)
      refine hK.out _ _ ((bv10.cell (p:=⟨R.b,2,none⟩) hRb).trans c2) (fun hHeld => ?_)
      clear hK K
      try simp only [qA,qS,qZ,Act.put,qT,qO,qN]
      refine tkh (i:=17) (v:=?_) rfl ?_ ?_
      rotate_left
      ·try simp only [qA,qS,qZ]
       intro w hSw
       (try dsimp only at hSw)
       go_simp
       (try with_reducible rfl)
      try simp only [qA,qS,qZ,Act.put,qT,qO,qN]
      refine wpAnyH_ready (rs:=[18]) (by kernel_rfl) (by simp) ?_
      refine AllReadyH.cons (o:=_) rfl (fun K hK => ?_) ?_
      ·try simp only [qA,qS,qZ,Act.put,qT,qO,qN]
       have clv11:=(bv10.cell (p:=⟨R.gL,j,none⟩) hGl).trans cl
       have zzv11:Blk v10 R.gL 34 _:=(bv10.block R.gL hGl).trans GB
       have zfv11:=zzv11.frozen j
       replace zzv11:=Lib.hid zzv11
       go_simp
       refine hK.out _ _ ((World.cell?_setCell_far _ _ _ _ hne).trans ((bv10.cell (p:=⟨R.b,2,none⟩) hRb).trans c2)) (fun hHeld => ?_)
       clear hK K
       try simp only [qA,qS,qZ,Act.put,qT,qO,qN]
       clear clv11 zfv11 zzv11
       refine wpAnyH_done (by kernel_rfl) ?_ _
       refine NoPanic.normal ?_
       have T:=Lib.hid (fin.out v10 _ bv10 oAv10)
       go_wp2
       go_end0
       exact ⟨rfl,T.out⟩
      exact AllReadyH.nil
     exact AllReadyH.nil
    exact AllReadyH.nil
   exact AllReadyH.nil
  refine AllReadyH.cons (o:=_) rfl (fun K hK => ?_) ?_
  ·try simp only [qA,qS,qZ,Act.put,qT,qO,qN]
   have clv7:=(bv6.cell (p:=⟨R.gL,j,none⟩) hGl).trans cl
   go_simp
   refine hK.out _ _ ((bv6.cell (p:=⟨R.b,2,none⟩) hRb).trans c2) (fun hHeld => ?_)
   clear hK K
   try simp only [qA,qS,qZ,Act.put,qT,qO,qN]
   clear clv7
   refine wpAnyH_ready (rs:=[5]) (by kernel_rfl) (by simp) ?_
   refine AllReadyH.cons (o:=_) rfl (fun K hK => ?_) ?_
   ·try simp only [qA,qS,qZ,Act.put,qT,qO,qN]
    go_simp
    obtain ⟨v8,hv8⟩:∃ x,x = World.alloc v6 (.cells #[] 50):=⟨_,rfl⟩
    have bv8:Below w5.heap.size w5 v8:=by rw [hv8]; exact bv6.alloc bv6.size _
    have sv8:=Lib.hid (show v8.heap.size = v6.heap.size + 1 by rw [hv8]; exact World.size_alloc _ _)
    have oAv8:=own_zero v6 w5.heap.size bv6.size
    rw [<- hv8] at oAv8
    have oLv8:=World.ownsRow.alloc oLv6 (.cells #[] 50)
    rw [<- hv8] at oLv8
    have nev8:∀ b,(Value.slice (some ⟨v6.heap.size,0,none⟩) 0 0).ownBlock = some b -> b ≠ w5.heap.size:=fun b e => by
     have e:some v6.heap.size = some b:=e
     injection e with e
     have e9:w5.heap.size < v6.heap.size:=own_blockN (b:=w5.heap.size) oLv6 rfl
     omega
    rw [<- hv8]
    clear hv8
    refine hK.out _ _ ((bv8.cell (p:=⟨R.b,2,none⟩) hRb).trans c2) (fun hHeld => ?_)
    clear hK K
    try simp only [qA,qS,qZ,Act.put,qT,qO,qN]
    refine wpAnyH_ready (rs:=[13]) (by kernel_rfl) (by simp) ?_
    refine AllReadyH.cons (o:=_) rfl (fun K hK => ?_) ?_
    ·try simp only [qA,qS,qZ,Act.put,qT,qO,qN]
     refine step_ap (a:=⟨_,_⟩) (by rfl) (.tmp 32) (.tmp 39) 34 (by rfl) eiL w5.heap.size _ _ _ (by rfl) oAv8 _ _ _ _ _ (by rfl) (rd.out.below bv8) ?ga17 ?gb17 ?gc17 bv8.size ?_
     case ga17 => first | exact uvs_cells _ | (intro u hu; rw [List.mem_singleton] at hu; subst hu; rfl)
     case gb17 => unfold maxLen; omega
     case gc17 => omega
     intro V v9 oAv9 hgv9 hatv9
     (try rw [Nat.zero_add] at oAv9)
     obtain ⟨Av9,cv9,rfl⟩:=own_is oAv9
     have bv9:Below w5.heap.size w5 v9:=bv8.grown hgv9 bv8.size (fun k e => own_base oAv8 e)
     have oLv9:=own_keptN oLv8 fun b e => hgv9.block b (own_blockN oLv8 e) fun e2 => nev8 b e2.symm (by have e:some w5.heap.size = some b:=e; injection e with e; exact e.symm)
     have nev9:∀ b,(Value.slice Av9 _ cv9).ownBlock = some b -> b ≠ w5.heap.size:=fun b e => by
      rcases hatv9 with h6 | h6
      ·exact nev8 b (h6 ▸ e)
      ·rw [h6] at e
       injection e with e
       have e9:w5.heap.size < v8.heap.size:=own_blockN (b:=w5.heap.size) oLv8 rfl
       omega
     refine hK.out _ _ ((bv9.cell (p:=⟨R.b,2,none⟩) hRb).trans c2) (fun hHeld => ?_)
     clear hK K
     try simp only [qA,qS,qZ,Act.put,qT,qO,qN]
     refine wpAnyH_ready (rs:=[16]) (by kernel_rfl) (by simp) ?_
     refine AllReadyH.cons (o:=_) rfl (fun K hK => ?_) ?_
     ·try simp only [qA,qS,qZ,Act.put,qT,qO,qN]
      refine step_ap (a:=⟨_,_⟩) (by rfl) (.tmp 40) (.tmp 42) 34 (by rfl) eiL w5.heap.size _ _ _ (by rfl) oAv9 _ _ _ _ _ (by rfl) (Reads.of_own oLv9) ?ga18 ?gb18 ?gc18 bv9.size ?_
      case ga18 => first | exact uvs_cells _ | (intro u hu; rw [List.mem_singleton] at hu; subst hu; rfl)
      case gb18 => unfold maxLen; omega
      case gc18 => omega
      intro V v10 oAv10 hgv10 hatv10
      (try rw [Nat.zero_add] at oAv10)
      obtain ⟨Av10,cv10,rfl⟩:=own_is oAv10
      have bv10:Below w5.heap.size w5 v10:=bv9.grown hgv10 bv9.size (fun k e => own_base oAv9 e)
      refine hK.out _ _ ((bv10.cell (p:=⟨R.b,2,none⟩) hRb).trans c2) (fun hHeld => ?_)
      clear hK K
      try simp only [qA,qS,qZ,Act.put,qT,qO,qN]
      refine tkh (i:=17) (v:=?_) rfl ?_ ?_
      rotate_left
      ·try simp only [qA,qS,qZ]
       intro w hSw
       (try dsimp only at hSw)
       go_simp
       (try with_reducible rfl)
      try simp only [qA,qS,qZ,Act.put,qT,qO,qN]
      refine wpAnyH_ready (rs:=[18]) (by kernel_rfl) (by simp) ?_
      refine AllReadyH.cons (o:=_) rfl (fun K hK => ?_) ?_
      ·try simp only [qA,qS,qZ,Act.put,qT,qO,qN]
       have clv11:=(bv10.cell (p:=⟨R.gL,j,none⟩) hGl).trans cl
       have zzv11:Blk v10 R.gL 34 _:=(bv10.block R.gL hGl).trans GB
       have zfv11:=zzv11.frozen j
       replace zzv11:=Lib.hid zzv11
       go_simp
       refine hK.out _ _ ((World.cell?_setCell_far _ _ _ _ hne).trans ((bv10.cell (p:=⟨R.b,2,none⟩) hRb).trans c2)) (fun hHeld => ?_)
       clear hK K
       try simp only [qA,qS,qZ,Act.put,qT,qO,qN]
       clear clv11 zfv11 zzv11
       refine wpAnyH_done (by kernel_rfl) ?_ _
       refine NoPanic.normal ?_
       have T:=Lib.hid (fin.out v10 _ bv10 oAv10)
       go_wp2
       go_end0
       exact ⟨rfl,T.out⟩
      exact AllReadyH.nil
     exact AllReadyH.nil
    exact AllReadyH.nil
   exact AllReadyH.nil
  exact AllReadyH.nil
 exact AllReadyH.nil
end
theorem own_down {w:World} {N B n:Nat} {e:TypeId} {v:Value} {xs:List Value} (h:w.ownsRow B e 1 v n xs) (hN:N <= B):w.ownsRow N e 1 v n xs :=
 ⟨h.1,h.2.imp id fun ⟨g,cap,cur,e1,hB,hh⟩ => ⟨g,cap,cur,e1,by omega,hh⟩⟩
theorem went6_draw {w w5 w':World} {R R':R6} {n:Nat} (m:Nat) (e:w5 = w.drewN m) (h:Went6 w5 w' R R' n):Went6 w w' R R' n:=by
 subst e
 exact ⟨⟨h.only.os,h.only.tape,h.only.output,h.only.size,h.only.block⟩,h.foot,h.gl⟩
theorem went6_refl {w:World} {R:R6} {n:Nat} (m:Nat):Went6 w (w.drewN m) R R n:=⟨⟨rfl,rfl,rfl,Nat.le_refl _,fun _ _ _ => rfl⟩,fun b h => .inl h,rfl⟩
theorem went6_trans {w w1 w2:World} {R R1 R2:R6} {n:Nat} (h:Went6 w w1 R R1 n) (k:Went6 w1 w2 R1 R2 n):Went6 w w2 R R2 n :=
 ⟨h.only.trans k.only fun x hx hf => (h.foot x hf).resolve_right (by omega),fun b hb => (k.foot b hb).elim (h.foot b) fun hb => .inr (Nat.le_trans h.only.size hb),k.gl.trans h.gl⟩
theorem erase_at (l1 l2:List Nat) (H:Nat):(l1 ++ H :: l2).eraseIdx l1.length = l1 ++ l2:=by
 rw [List.eraseIdx_append_of_length_le (Nat.le_refl _),Nat.sub_self]
 rfl
section
variable (w:World) (R:R6) (mb:Nat) (c:Conf) (laid:List Nat) (Ls:Nat -> Nat -> List Nat) (h:R6At w R mb (3 * c.nc) laid (rows6 Ls)) (hnc:c.nc <= 62) (hll:∀ x k,x < c.nc -> k < 3 -> (Ls x k).length <= 1073741823) (H:Nat)
include h hnc hll
theorem drop6No (hb:∀ x k,x < c.nc -> k < 3 -> H ∉ Ls x k):Calls Tryz.prog 100 #[.pointer (some ⟨R.b,0,none⟩),.int .u64 (H:Int)] w fun e w' => e = .returned (.int .i64 20) /\ w = w':=by
 have WC:=Lib.hid (where6No w R mb c laid Ls h hnc (fun x k hx hk => Nat.le_succ_of_le (hll x k hx hk)) H hb)
 clear h hll hb
 go_enter Tryz.func100,Tryz.ntmps100
 go_wp2_with fail
 refine WC.out.mono ?_
 rintro e w' ⟨rfl,rfl⟩
 go_wp2
 go_ret
 exact ⟨rfl,rfl⟩
set_option maxHeartbeats 1600000 in
theorem drop6Yes {X k:Nat} {l1 l2:List Nat} (ha:At6 c Ls H X k l1 l2):Calls Tryz.prog 100 #[.pointer (some ⟨R.b,0,none⟩),.int .u64 (H:Int)] w fun e w' => e = .returned (.int .i64 0) /\ ∃ R',R'.b = R.b /\ Went6 w w' R R' (3 * c.nc) /\ R6At w' R' mb (3 * c.nc) laid (rows6 (updL Ls X k (l1 ++ l2))):=by
 have WC:=where6 w R mb c laid Ls h hnc (fun x k hx hk => Nat.le_succ_of_le (hll x k hx hk)) H ha
 obtain ⟨hX,hk,hl,hn1,hu⟩:=ha
 have hj : 3 * X + k < 3 * c.nc:=by omega
 have eL:=rows6_at Ls (X:=X) hk
 have hlb:=hll X k hX hk
 have eU:=rows6_upd Ls X k hk (l1 ++ l2)
 rw [<- eU]
 rw [<- eL] at hlb hl
 generalize rows6 Ls = lists at *
 generalize 3 * X + k = j at *
 generalize hn : 3 * c.nc = n at *
 obtain ⟨q,hq⟩:∃ q,q = l1.length:=⟨_,rfl⟩
 rw [<- hq] at WC
 have hq1:q <= 1073741823:=by rw [hq]; rw [hl,List.length_append] at hlb; omega
 have dj:decide ((j:Int) < 0) = false:=decide_eq_false (by omega)
 have el:(lists j).eraseIdx q = l1 ++ l2:=by rw [hl,hq]; exact erase_at l1 l2 H
 clear hq hl
 generalize l1 ++ l2 = l at *
 replace WC:=Lib.hid WC
 replace h:=Lib.hid h
 replace el:=Lib.hid el
 clear hll eL eU hX hu hn1
 go_enter Tryz.func100,Tryz.ntmps100
 go_wp2_with fail
 refine WC.out.mono ?_
 rintro e w' ⟨rfl,rfl⟩
 go_upto_region 4 with fail
 obtain ⟨w5,hw5⟩:∃ w5,w5 = w.drew:=⟨_,rfl⟩
 have h5:R6At w5 R mb n laid lists:=by rw [hw5]; exact h.out.drew
 obtain ⟨K,cp,A,r5⟩:=h5.reg hj
 obtain ⟨c2,hRb,⟨cs,GB⟩,hGl,hne,rd⟩:=r5.facts
 have cl:=r5.cl
 have hK':K <= 1073741823:=by rw [<- r5.len]; exact hlb
 have bw5:=Below.refl w5.heap.size w5
 have j0:(0:Int) <= (j:Int):=by omega
 have j1:(j:Int) < (n:Int):=by omega
 have wo:∀ v,Below w5.heap.size w5 v -> Calls Tryz.prog 99 #[.slice A K cp,.int .i64 (q:Int)] v fun e w' => ∃ A' cp',e = .returned (.slice A' l.length cp') /\ Below v.heap.size v w' /\ w'.ownsRow v.heap.size 50 1 (.slice A' l.length cp') l.length (l.map uv):=by
  intro v hv
  have o:=own_keptN r5.own fun b e => hv.block b (own_blockN r5.own e)
  have:=withoutC v 0 cp A (lists j) (by rw [r5.len]; exact o) (by rw [r5.len]; omega) q
  rw [el.out,r5.len] at this
  exact this
 have fin:∀ w6 V,Below w5.heap.size w5 w6 -> w6.ownsRow w5.heap.size 50 1 V l.length (l.map uv) -> ∃ R',R'.b = R.b /\ Went6 w (w6.setCell ⟨R.gL,j,none⟩ V) R R' n /\ R6At (w6.setCell ⟨R.gL,j,none⟩ V) R' mb n laid (upd lists j l):=by
  intro w6 V b6 o6
  obtain ⟨a1,a2⟩:=h5.setRow hj (l:=l) b6 o6
  exact ⟨{ R with F:=upd R.F j V },rfl,went6_draw 1 hw5 a2,a1⟩
 replace rd:=Lib.hid rd
 replace fin:=Lib.hid fin
 replace wo:=Lib.hid wo
 clear r5 h5 h
 refine wp_region_noPanic ?_
 refine wp_region_held_drew (S:=fun w' => w'.cell? ⟨R.b,2,none⟩ = some (.slice (some ⟨R.gL,0,none⟩) n n)) (by kernel_rfl) (by rw [<- hw5]; exact c2) (fun hHeld => ?_)
 rw [<- hw5] at hHeld ⊢
 clear hw5
 refine tkh (i:=0) (v:=?_) rfl ?_ ?_
 rotate_left
 ·try simp only [qA,qS,qZ]
  intro w hSw
  (try dsimp only at hSw)
  go_simp
  (try with_reducible rfl)
 try simp only [qA,qS,qZ,Act.put,qT,qO,qN]
 refine tkh (i:=1) (v:=?_) rfl ?_ ?_
 rotate_left
 ·try simp only [qA,qS,qZ]
  intro w hSw
  (try dsimp only at hSw)
  go_simp
  (try with_reducible rfl)
 try simp only [qA,qS,qZ,Act.put,qT,qO,qN]
 refine tkh (i:=2) (v:=?_) rfl ?_ ?_
 rotate_left
 ·try simp only [qA,qS,qZ]
  intro w hSw
  (try dsimp only at hSw)
  go_simp
  (try with_reducible rfl)
 try simp only [qA,qS,qZ,Act.put,qT,qO,qN]
 refine tkh (i:=3) (v:=?_) rfl ?_ ?_
 rotate_left
 ·try simp only [qA,qS,qZ]
  intro w hSw
  (try dsimp only at hSw)
  go_simp
  (try with_reducible rfl)
 try simp only [qA,qS,qZ,Act.put,qT,qO,qN]
 refine tkh (i:=4) (v:=?_) rfl ?_ ?_
 rotate_left
 ·try simp only [qA,qS,qZ]
  intro w hSw
  (try dsimp only at hSw)
  go_simp
  (try with_reducible rfl)
 try simp only [qA,qS,qZ,Act.put,qT,qO,qN]
 refine tkh (i:=5) (v:=?_) rfl ?_ ?_
 rotate_left
 ·try simp only [qA,qS,qZ]
  intro w hSw
  (try dsimp only at hSw)
  go_simp
  (try with_reducible rfl)
 try simp only [qA,qS,qZ,Act.put,qT,qO,qN]
 refine tkh (i:=6) (v:=?_) rfl ?_ ?_
 rotate_left
 ·try simp only [qA,qS,qZ]
  intro w hSw
  (try dsimp only at hSw)
  go_simp
  (try with_reducible rfl)
 try simp only [qA,qS,qZ,Act.put,qT,qO,qN]
 refine tkh (i:=7) (v:=?_) rfl ?_ ?_
 rotate_left
 ·try simp only [qA,qS,qZ]
  intro w hSw
  (try dsimp only at hSw)
  go_simp
  (try with_reducible rfl)
 try simp only [qA,qS,qZ,Act.put,qT,qO,qN]
 refine tkh (i:=8) (v:=?_) rfl ?_ ?_
 rotate_left
 ·try simp only [qA,qS,qZ]
  intro w hSw
  (try dsimp only at hSw)
  go_simp
  (try with_reducible rfl)
 try simp only [qA,qS,qZ,Act.put,qT,qO,qN]
 refine tkh (i:=9) (v:=?_) rfl ?_ ?_
 rotate_left
 ·try simp only [qA,qS,qZ]
  intro w hSw
  (try dsimp only at hSw)
  go_simp
  (try with_reducible rfl)
 try simp only [qA,qS,qZ,Act.put,qT,qO,qN]
 refine tkh (i:=10) (v:=?_) rfl ?_ ?_
 rotate_left
 ·try simp only [qA,qS,qZ]
  intro w hSw
  (try dsimp only at hSw)
  go_simp
  (try with_reducible rfl)
 try simp only [qA,qS,qZ,Act.put,qT,qO,qN]
 refine tkh (i:=12) (v:=?_) rfl ?_ ?_
 rotate_left
 ·try simp only [qA,qS,qZ]
  intro w hSw
  (try dsimp only at hSw)
  go_simp
  (try with_reducible rfl)
 try simp only [qA,qS,qZ,Act.put,qT,qO,qN]
 refine wpAnyH_ready (rs:=[11]) (by kernel_rfl) (by simp) ?_
 refine AllReadyH.cons (o:=_) rfl (fun K hK => ?_) ?_
 ·try simp only [qA,qS,qZ,Act.put,qT,qO,qN]
  have clv6:=(bw5.cell (p:=⟨R.gL,j,none⟩) hGl).trans cl
  go_simp
  refine hK.out _ _ ((bw5.cell (p:=⟨R.b,2,none⟩) hRb).trans c2) (fun hHeld => ?_)
  clear hK K
  try simp only [qA,qS,qZ,Act.put,qT,qO,qN]
  clear clv6
  refine wpAnyH_ready (rs:=[13]) (by kernel_rfl) (by simp) ?_
  refine AllReadyH.cons (o:=_) rfl (fun K hK => ?_) ?_
  ·try simp only [qA,qS,qZ,Act.put,qT,qO,qN]
   go_simp
   go_at_call 99
   refine (wo.out w5 bw5).mono ?_
   rintro e v7 ⟨Av7,cv7,rfl,bbv7,oov7⟩
   have bv7:Below w5.heap.size w5 v7:=bw5.trans (bbv7.mono bw5.size)
   have oAv7:=own_down oov7 bw5.size
   clear bbv7 oov7
   go_wp2_with fail
   refine hK.out _ _ ((bv7.cell (p:=⟨R.b,2,none⟩) hRb).trans c2) (fun hHeld => ?_)
   clear hK K
   try simp only [qA,qS,qZ,Act.put,qT,qO,qN]
   refine tkh (i:=14) (v:=?_) rfl ?_ ?_
   rotate_left
   ·try simp only [qA,qS,qZ]
    intro w hSw
    (try dsimp only at hSw)
    go_simp
    (try with_reducible rfl)
   try simp only [qA,qS,qZ,Act.put,qT,qO,qN]
   refine wpAnyH_ready (rs:=[15]) (by kernel_rfl) (by simp) ?_
   refine AllReadyH.cons (o:=_) rfl (fun K hK => ?_) ?_
   ·try simp only [qA,qS,qZ,Act.put,qT,qO,qN]
    have clv8:=(bv7.cell (p:=⟨R.gL,j,none⟩) hGl).trans cl
    have zzv8:Blk v7 R.gL 34 _:=(bv7.block R.gL hGl).trans GB
    have zfv8:=zzv8.frozen j
    replace zzv8:=Lib.hid zzv8
    go_simp
    refine hK.out _ _ ((World.cell?_setCell_far _ _ _ _ hne).trans ((bv7.cell (p:=⟨R.b,2,none⟩) hRb).trans c2)) (fun hHeld => ?_)
    clear hK K
    try simp only [qA,qS,qZ,Act.put,qT,qO,qN]
    clear clv8 zfv8 zzv8
    refine wpAnyH_done (by kernel_rfl) ?_ _
    refine NoPanic.normal ?_
    have T:=Lib.hid (fin.out v7 _ bv7 oAv7)
    go_wp2
    go_ret
    exact ⟨rfl,T.out⟩
   exact AllReadyH.nil
  exact AllReadyH.nil
 exact AllReadyH.nil
end
structure D6 (w:World) (R:R6) (M:RL) (c:Conf) (s:St) (Z:Nat -> Option Zd) (Ls:Nat -> Nat -> List Nat) (r:RS) (laid:List Nat):Prop where
 doc:R6At w R M.b (3 * c.nc) laid (rows6 Ls)
 ref:RSetAt w M c r
 rel:Rel c.cf s r
 ok:c.cf.Ok
 good:Cls.Good c.cf s
 q:∃ F,QI c s Z F Ls
 agr:∀ H i x p,findN c.cf s H = some (i,x,p) -> ((Z H).isSome = true ↔ H ∈ laid)
 ch:r.ch.length <= 1073741824
 la:laid.length <= 1073741824
 sep:∀ b,RFoot M c b -> ¬ F6 R (3 * c.nc) b
section
variable {w:World} {R:R6} {M:RL} {c:Conf} {s:St} {Z:Nat -> Option Zd} {Ls:Nat -> Nat -> List Nat} {r:RS} {laid:List Nat} (h:D6 w R M c s Z Ls r laid)
include h
theorem D6.hnc:c.nc <= 62:=h.ok.ncb
theorem D6.fine:RFine r:=h.rel.fine h.ok h.good
theorem D6.hll:∀ x k,x < c.nc -> k < 3 -> (Ls x k).length <= 1073741823:=fun x k hx hk => by
 obtain ⟨F,q⟩:=h.q
 have:=q.nB h.ok h.good hx hk
 rw [q.n x k hx hk] at this
 omega
theorem D6.draw (m:Nat):D6 (w.drewN m) R M c s Z Ls r laid:=⟨h.doc.kept fun _ _ => rfl,h.ref.kept fun _ _ => rfl,h.rel,h.ok,h.good,h.q,h.agr,h.ch,h.la,h.sep⟩
theorem D6.isB (H:Nat):((rfind r.ch H).isSome && decide (H ∈ laid)) = isN c s Z H:=by
 unfold isN
 cases hf:findN c.cf s H with
 | none => rw [h.rel.find_none h.ok h.good hf]; rfl
 | some v =>
  obtain ⟨i,x,p⟩:=v
  obtain ⟨j,hj, -⟩:=h.rel.find_some h.ok h.good hf
  rw [hj]
  have:=h.agr H i x p hf
  by_cases hm:H ∈ laid
  ·rw [decide_eq_true hm,this.2 hm]; rfl
  ·rw [decide_eq_false hm]
   cases hz:(Z H).isSome with
   | false => rfl
   | true => exact absurd (this.1 hz) hm
theorem is6C (H:Nat):Calls Tryz.prog 94 #[.pointer (some ⟨R.b,0,none⟩),.int .u64 (H:Int)] w fun e w' => e = .returned (.bool (isN c s Z H)) /\ ∃ m,w.drewN m = w':=by
 have:=isC6 w R M c r _ laid _ h.doc h.ref h.fine h.ch h.la H
 rw [h.isB H] at this
 exact this
theorem D6.at6 (H:Nat):(stK (clsN c s H) Ls H = 0 /\ ∀ x k,x < c.nc -> k < 3 -> H ∉ Ls x k) \/ ∃ k l1 l2,stK (clsN c s H) Ls H = k + 1 /\ At6 c Ls H (clsN c s H) k l1 l2 /\ prevN c s Ls H = l1.getLast?.getD 0 /\ nextN c s Ls H = l2.head?.getD 0 /\ (∀ y ∈ l1 ++ l2,y ≠ 0) /\ Ls (clsN c s H) k = l1 ++ H :: l2:=by
 obtain ⟨F,q⟩:=h.q
 exact q.at6 h.ok h.good H
theorem D6.whereC (H:Nat):Calls Tryz.prog 52 #[.pointer (some ⟨R.b,0,none⟩),.int .u64 (H:Int)] w fun e w' => (∃ q:Int,e = .returned (.tuple #[.int .i64 (if stK (clsN c s H) Ls H = 0 then -1 else ((3 * clsN c s H + (stK (clsN c s H) Ls H - 1):Nat):Int)),.int .i64 q])) /\ w = w':=by
 rcases h.at6 H with ⟨h0,hn⟩ | ⟨k,l1,l2,e,ha, -⟩
 ·rw [if_pos h0]
  exact (where6No w R M.b c laid Ls h.doc h.hnc (fun x k hx hk => Nat.le_succ_of_le (h.hll x k hx hk)) H hn).mono fun e w' ⟨h1,h2⟩ => ⟨⟨_,h1⟩,h2⟩
 ·rw [if_neg (by omega),e,Nat.add_sub_cancel]
  exact (where6 w R M.b c laid Ls h.doc h.hnc (fun x k hx hk => Nat.le_succ_of_le (h.hll x k hx hk)) H ha).mono fun e w' ⟨h1,h2⟩ => ⟨⟨_,h1⟩,h2⟩
theorem D6.eqs {H:Nat} {k:Nat} {l1 l2:List Nat} (e:stK (clsN c s H) Ls H = k + 1) (ha:At6 c Ls H (clsN c s H) k l1 l2):outN (clsN c s H) Ls H = updL Ls (clsN c s H) k (l1 ++ l2):=by
 obtain ⟨-, -,hl,hn, -⟩:=ha
 unfold outN
 rw [e,Nat.add_sub_cancel,hl,List.erase_append_right _ hn,List.erase_cons_head]
theorem drop6C (H:Nat):Calls Tryz.prog 100 #[.pointer (some ⟨R.b,0,none⟩),.int .u64 (H:Int)] w fun e w' => e = .returned (.int .i64 ((dropN c s Ls H).1:Int)) /\ ∃ R',R'.b = R.b /\ Went6 w w' R R' (3 * c.nc) /\ R6At w' R' M.b (3 * c.nc) laid (rows6 (dropN c s Ls H).2):=by
 unfold dropN
 rcases h.at6 H with ⟨h0,hn⟩ | ⟨k,l1,l2,e,ha, -⟩
 ·rw [if_pos h0]
  exact (drop6No w R M.b c laid Ls h.doc h.hnc h.hll H hn).mono fun e w' ⟨h1,h2⟩ => ⟨h1,R,rfl,by subst h2; exact went6_refl 0,by subst h2; exact h.doc⟩
 ·rw [if_neg (by omega),h.eqs e ha]
  exact drop6Yes w R M.b c laid Ls h.doc h.hnc h.hll H ha
theorem D6.refOn {w':World} {R':R6} (We:Went6 w w' R R' (3 * c.nc)):RSetAt w' M c r:=h.ref.only We.only h.sep
end
section
variable {w:World} {R:R6} {M:RL} {c:Conf} {s:St} {Z:Nat -> Option Zd} {Ls:Nat -> Nat -> List Nat} {r:RS} {laid:List Nat} (h:D6 w R M c s Z Ls r laid)
include h
theorem put6 {Ls':Nat -> Nat -> List Nat} {w':World} {R':R6} (hd:R6At w' R' M.b (3 * c.nc) laid (rows6 Ls')) (hr:RSetAt w' M c r) (hll:∀ x k,x < c.nc -> k < 3 -> (Ls' x k).length <= 1073741823) {H i x p:Nat} (hf:findN c.cf s H = some (i,x,p)) {k:Nat} (hk:k < 3) (last:Bool) :
  Calls Tryz.prog 101 #[.pointer (some ⟨R'.b,0,none⟩),.int .u64 (H:Int),.int .i64 ((k:Int) + 1),.bool last] w' fun e w2 => e = .returned (.tuple #[]) /\ ∃ R2,R2.b = R'.b /\ Went6 w' w2 R' R2 (3 * c.nc) /\ R6At w2 R2 M.b (3 * c.nc) laid (rows6 (putN (clsN c s H) Ls' H k last)):=by
 obtain ⟨j,hj,hx⟩:=h.rel.find_some h.ok h.good hf
 have ec:clsN c s H = s.cls i:=by unfold clsN; rw [hf]
 have hc:s.cls i < c.nc:=(Tkn.of h.ok h.good hf).1.kN
 rw [ec]
 unfold putN
 cases last with
 | false => exact putHead w' R' M c r laid Ls' hd hr h.fine h.ch h.hnc hll H j _ hj hx hc k hk
 | true => exact putTail w' R' M c r laid Ls' hd hr h.fine h.ch h.hnc hll H j _ hj hx hc k hk
theorem push6C (H:Nat) (kind:Int) (last:Bool):Calls Tryz.prog 61 #[.pointer (some ⟨R.b,0,none⟩),.int .u64 (H:Int),.int .i64 kind,.bool last] w fun e w' => e = .returned (.int .i64 ((pushN c s Z Ls H kind last).1:Int)) /\ ∃ R',R'.b = R.b /\ Went6 w w' R R' (3 * c.nc) /\ R6At w' R' M.b (3 * c.nc) laid (rows6 (pushN c s Z Ls H kind last).2):=by
 unfold pushN
 by_cases hk : 1 <= kind /\ kind <= 3
 ·rw [if_neg (Classical.not_not.2 hk)]
  have d1:decide (kind < 1) = false:=decide_eq_false (by omega)
  have d3:decide (3 < kind) = false:=decide_eq_false (by omega)
  have IC:=is6C h H
  by_cases hi:isN c s Z H = false
  ·rw [if_pos hi]
   rw [hi] at IC
   have hD:=Lib.hid h
   replace IC:=Lib.hid IC
   clear h hi hk
   go_enter Tryz.func61,Tryz.ntmps61
   go_wp2_with fail
   refine IC.out.mono ?_
   rintro e w1 ⟨rfl,m,hw⟩
   replace hw:=Lib.hid hw
   go_wp2
   go_ret
   exact ⟨rfl,R,rfl,by rw [<- hw.out]; exact went6_refl m,by rw [<- hw.out]; exact (hD.out.draw m).doc⟩
  ·have hi2:isN c s Z H = true:=by simpa using hi
   rw [if_neg hi]
   rw [hi2] at IC
   have WC:=fun m => D6.whereC (h.draw m) H
   by_cases hs:stK (clsN c s H) Ls H ≠ 0
   ·rw [if_pos hs]
    rw [if_neg hs] at WC
    obtain ⟨z,hz⟩:∃ z:Nat,z = 3 * clsN c s H + (stK (clsN c s H) Ls H - 1):=⟨_,rfl⟩
    rw [<- hz] at WC
    have dz:decide ((0:Int) <= (z:Int)) = true:=decide_eq_true (by omega)
    replace hz:=Lib.hid hz
    have hD:=Lib.hid h
    replace IC:=Lib.hid IC
    replace WC:=Lib.hid WC
    clear h hi hi2 hk hs
    go_enter Tryz.func61,Tryz.ntmps61
    go_wp2_with fail
    refine IC.out.mono ?_
    rintro e w1 ⟨rfl,m,hw⟩
    have WC1:=Lib.hid (WC.out m)
    rw [hw] at WC1
    replace hw:=Lib.hid hw
    clear IC WC
    go_wp2_with fail
    refine WC1.out.mono ?_
    rintro e w2 ⟨⟨q,rfl⟩,rfl⟩
    go_wp2
    go_ret
    exact ⟨rfl,R,rfl,by rw [<- hw.out]; exact went6_refl m,by rw [<- hw.out]; exact (hD.out.draw m).doc⟩
   ·rw [if_neg hs]
    rw [if_pos (Classical.not_not.1 hs)] at WC
    have hi3:=hi2
    unfold isN at hi3
    obtain ⟨⟨i,y,p⟩,hf⟩:=Option.isSome_iff_exists.1 (Bool.and_eq_true_iff.1 hi3).1
    obtain ⟨k,hk3,rfl⟩:∃ k:Nat,k < 3 /\ kind = (k:Int) + 1:=⟨kind.toNat - 1,by omega,by omega⟩
    rw [show ((k:Int) + 1).toNat - 1 = k by omega]
    have PC:=fun m => put6 h (h.draw m).doc (h.draw m).ref h.hll hf hk3 last
    have hD:=Lib.hid h
    replace IC:=Lib.hid IC
    replace WC:=Lib.hid WC
    replace PC:=Lib.hid PC
    clear h hi hi2 hi3 hk hs hf
    go_enter Tryz.func61,Tryz.ntmps61
    go_wp2_with fail
    refine IC.out.mono ?_
    rintro e w1 ⟨rfl,m,hw⟩
    have WC1:=Lib.hid (WC.out m)
    have PC1:=Lib.hid (PC.out m)
    rw [hw] at WC1 PC1
    replace hw:=Lib.hid hw
    clear IC WC PC
    go_wp2_with fail
    refine WC1.out.mono ?_
    rintro e w2 ⟨⟨q,rfl⟩,rfl⟩
    clear WC1
    go_wp2_with fail
    refine PC1.out.mono ?_
    rintro e w3 ⟨rfl,R2,eb,We,D2⟩
    replace We:=Lib.hid We
    replace D2:=Lib.hid D2
    go_wp2
    go_ret
    exact ⟨rfl,R2,eb,went6_draw m hw.out.symm We.out,D2.out⟩
 ·rw [if_pos hk]
  have hD:=Lib.hid h
  clear h
  by_cases h1:kind < 1
  ·have d1:decide (kind < 1) = true:=decide_eq_true h1
   clear hk
   go_enter Tryz.func61,Tryz.ntmps61
   go_wp2
   go_ret
   exact ⟨rfl,R,rfl,went6_refl 0,hD.out.doc⟩
  ·have d1:decide (kind < 1) = false:=decide_eq_false h1
   have d3:decide (3 < kind) = true:=decide_eq_true (by omega)
   clear hk
   go_enter Tryz.func61,Tryz.ntmps61
   go_wp2
   go_ret
   exact ⟨rfl,R,rfl,went6_refl 0,hD.out.doc⟩
end
theorem outN_len (x:Nat) (Ls:Nat -> Nat -> List Nat) (H a b:Nat):(outN x Ls H a b).length <= (Ls a b).length:=by
 unfold outN updL
 split
 ·rename_i e
  rw [e.1,e.2]
  exact List.length_erase_le
 ·exact Nat.le_refl _
section
variable {w:World} {R:R6} {M:RL} {c:Conf} {s:St} {Z:Nat -> Option Zd} {Ls:Nat -> Nat -> List Nat} {r:RS} {laid:List Nat} (h:D6 w R M c s Z Ls r laid)
include h
theorem shift6C (H:Nat) (kind:Int):Calls Tryz.prog 59 #[.pointer (some ⟨R.b,0,none⟩),.int .u64 (H:Int),.int .i64 kind] w fun e w' => e = .returned (.int .i64 ((shiftN c s Ls H kind).1:Int)) /\ ∃ R',R'.b = R.b /\ Went6 w w' R R' (3 * c.nc) /\ R6At w' R' M.b (3 * c.nc) laid (rows6 (shiftN c s Ls H kind).2):=by
 unfold shiftN
 by_cases hk : 1 <= kind /\ kind <= 3
 ·rw [if_neg (Classical.not_not.2 hk)]
  have d1:decide (kind < 1) = false:=decide_eq_false (by omega)
  have d3:decide (3 < kind) = false:=decide_eq_false (by omega)
  have DC:=drop6C h H
  unfold dropN at DC
  by_cases h0:stK (clsN c s H) Ls H = 0
  ·rw [if_pos h0] at DC ⊢
   replace DC:=Lib.hid DC
   clear h hk h0
   go_enter Tryz.func59,Tryz.ntmps59
   go_wp2_with fail
   refine DC.out.mono ?_
   rintro e w1 ⟨rfl,T⟩
   replace T:=Lib.hid T
   go_wp2
   go_ret
   exact ⟨rfl,T.out⟩
  ·rw [if_neg h0] at DC ⊢
   obtain ⟨k,hk3,rfl⟩:∃ k:Nat,k < 3 /\ kind = (k:Int) + 1:=⟨kind.toNat - 1,by omega,by omega⟩
   rw [show ((k:Int) + 1).toNat - 1 = k by omega]
   obtain ⟨F,q⟩:=h.q
   obtain ⟨k',i,y,p, -, -,hf, -⟩:=q.of_stK h.ok h.good h0
   have hD:=Lib.hid h
   replace DC:=Lib.hid DC
   replace hf:=Lib.hid hf
   clear h hk h0 q
   go_enter Tryz.func59,Tryz.ntmps59
   go_wp2_with fail
   refine DC.out.mono ?_
   rintro e w1 ⟨rfl,R1,eb,We1,D1⟩
   have PC:=put6 hD.out D1 (hD.out.refOn We1) (fun x j hx hj => Nat.le_trans (outN_len _ _ _ _ _) (hD.out.hll x j hx hj)) hf.out hk3 false
   rw [eb] at PC
   replace PC:=Lib.hid PC
   replace We1:=Lib.hid We1
   have eb':=Lib.hid eb
   clear DC D1 eb
   go_wp2_with fail
   refine PC.out.mono ?_
   rintro e w2 ⟨rfl,R2,eb2,We2,D2⟩
   have T:=Lib.hid (show ∃ R',R'.b = R.b /\ Went6 w w2 R R' (3 * c.nc) /\ R6At w2 R' M.b (3 * c.nc) laid (rows6 (putN (clsN c s H) (outN (clsN c s H) Ls H) H k false)) from ⟨R2,eb2,went6_trans We1.out We2,D2⟩)
   clear PC We2 D2 We1 eb2
   go_wp2
   go_ret
   exact ⟨rfl,T.out⟩
 ·rw [if_pos hk]
  have hD:=Lib.hid h
  clear h
  by_cases h1:kind < 1
  ·have d1:decide (kind < 1) = true:=decide_eq_true h1
   clear hk
   go_enter Tryz.func59,Tryz.ntmps59
   go_wp2
   go_ret
   exact ⟨rfl,R,rfl,went6_refl 0,hD.out.doc⟩
  ·have d1:decide (kind < 1) = false:=decide_eq_false h1
   have d3:decide (3 < kind) = true:=decide_eq_true (by omega)
   clear hk
   go_enter Tryz.func59,Tryz.ntmps59
   go_wp2
   go_ret
   exact ⟨rfl,R,rfl,went6_refl 0,hD.out.doc⟩
theorem D6.len (x kind:Int):Calls Tryz.prog 137 #[.pointer (some ⟨R.b,0,none⟩),.int .i64 x,.int .i64 kind] w fun e w' => e = .returned (.int .i64 ((lsN c Ls x kind).length:Int)) /\ Below w.heap.size w w':=lenC6 w R M c r laid Ls h.doc h.ref h.hnc (fun x k hx hk => Nat.le_succ_of_le (h.hll x k hx hk)) x kind
theorem D6.tail (x kind:Int):Calls Tryz.prog 66 #[.pointer (some ⟨R.b,0,none⟩),.int .i64 x,.int .i64 kind] w fun e w' => e = .returned (.tuple #[.int .u64 ((lsN c Ls x kind).getLast?.getD 0:Int),.bool (decide (0 < (lsN c Ls x kind).length))]) /\ Below w.heap.size w w':=tailC6 w R M c r laid Ls h.doc h.ref h.hnc (fun x k hx hk => Nat.le_succ_of_le (h.hll x k hx hk)) x kind
end
structure DX (N:Nat) (w:World) (W:W6) (s:St) (bs:List UInt8) (Z:Nat -> Option Zd) (Ls Ld:Nat -> Nat -> List Nat) (r:RS) (laid told act:List Nat) (mk:Nat -> Nat):Prop where
 wat:WAt N w W qc s bs Z Ls Ld r laid told act mk
 rel:Rel qc.cf s r
 agr:∀ H i x p,findN qc.cf s H = some (i,x,p) -> ((Z H).isSome = true ↔ H ∈ laid)
 ch:r.ch.length <= 1073741824
 la:laid.length <= 1073741824
 dq:QL s Z Ld
 al:act.length <= 1073741822
def DG (N:Nat) (w w':World) (W:W6) (s:St) (bs:List UInt8) (Z:Nat -> Option Zd) (Ls Ld':Nat -> Nat -> List Nat) (r:RS) (laid told act':List Nat) (mk:Nat -> Nat):Prop :=
 ∃ R' vA',R'.b = W.R.b /\ Grew qc w w' W { W with R:=R',vA:=vA' } s s /\ DX N w' { W with R:=R',vA:=vA' } s bs Z Ls Ld' r laid told act' mk
section
variable {N:Nat} {w:World} {W:W6} {s:St} {bs:List UInt8} {Z:Nat -> Option Zd} {Ls Ld:Nat -> Nat -> List Nat} {r:RS} {laid told act:List Nat} {mk:Nat -> Nat} (h:DX N w W s bs Z Ls Ld r laid told act mk)
include h
theorem DX.below {w':World} (b:Below w.heap.size w w'):DX N w' W s bs Z Ls Ld r laid told act mk:=⟨h.wat.below b,h.rel,h.agr,h.ch,h.la,h.dq,h.al⟩
theorem DX.stay {w':World} (b:Below w.heap.size w w'):DG N w w' W s bs Z Ls Ld r laid told act mk:=⟨W.R,W.vA,rfl,(Grew.refl _ _ _ _).step b,h.below b⟩
theorem DX.d6:∃ Zd,(∀ K,(Zd K).isSome = (Z K).isSome) /\ D6 w W.R W.M qc s Zd Ld r laid:=by
 obtain ⟨Zd,F,e,q⟩:=h.dq
 exact ⟨Zd,e,h.wat.doc,h.wat.ref,h.rel,h.wat.okc,h.wat.good,⟨F,q⟩,fun H i x p hf => by rw [e]; exact h.agr H i x p hf,h.ch,h.la,fun b hr hd => by have:=h.wat.sep .ref .doc b hr hd; cases this⟩
theorem DX.queue {w':World} {Lx:Nat -> Nat -> List Nat} (q:QL s Z Lx) (D:∃ R',R'.b = W.R.b /\ Went6 w w' W.R R' (3 * qc.nc) /\ R6At w' R' W.M.b (3 * qc.nc) laid (rows6 Lx)):DG N w w' W s bs Z Ls Lx r laid told act mk:=by
 obtain ⟨R',eb,We,D⟩:=D
 exact ⟨R',W.vA,eb,grew_doc We,h.wat.doc_ D eb We,h.rel,h.agr,h.ch,h.la,q,h.al⟩
theorem DX.pushD (H:Nat) (kind:Int) (last:Bool):Calls Tryz.prog 61 #[.pointer (some ⟨W.R.b,0,none⟩),.int .u64 (H:Int),.int .i64 kind,.bool last] w fun e w' => e = .returned (.int .i64 ((pushN qc s Z Ld H kind last).1:Int)) /\ DG N w w' W s bs Z Ls (pushN qc s Z Ld H kind last).2 r laid told act mk:=by
 obtain ⟨Zd,e,d⟩:=h.d6
 have C:=push6C d H kind last
 rw [pushN_cg e] at C
 exact C.mono fun e w' ⟨e1,D⟩ => ⟨e1,h.queue (QL.push h.wat.okc h.wat.good h.dq H kind last) D⟩
theorem DX.dropD (H:Nat):Calls Tryz.prog 100 #[.pointer (some ⟨W.R.b,0,none⟩),.int .u64 (H:Int)] w fun e w' => e = .returned (.int .i64 ((dropN qc s Ld H).1:Int)) /\ DG N w w' W s bs Z Ls (dropN qc s Ld H).2 r laid told act mk:=by
 obtain ⟨Zd,e,d⟩:=h.d6
 exact (drop6C d H).mono fun e w' ⟨e1,D⟩ => ⟨e1,h.queue (QL.drop h.wat.okc h.wat.good h.dq H) D⟩
theorem DX.shiftD (H:Nat) (kind:Int):Calls Tryz.prog 59 #[.pointer (some ⟨W.R.b,0,none⟩),.int .u64 (H:Int),.int .i64 kind] w fun e w' => e = .returned (.int .i64 ((shiftN qc s Ld H kind).1:Int)) /\ DG N w w' W s bs Z Ls (shiftN qc s Ld H kind).2 r laid told act mk:=by
 obtain ⟨Zd,e,d⟩:=h.d6
 exact (shift6C d H kind).mono fun e w' ⟨e1,D⟩ => ⟨e1,h.queue (QL.shift h.wat.okc h.wat.good h.dq H kind) D⟩
variable {dm:Nat} (ed:W.dm = some dm)
include ed
theorem DX.cA:w.cell? ⟨dm,0,none⟩ = some (.pointer (some ⟨W.R.b,0,none⟩)) /\ w.cell? ⟨dm,1,none⟩ = some (.int .i64 W.hot) /\ w.cell? ⟨dm,2,none⟩ = some (.int .i64 W.warm) /\ w.cell? ⟨dm,3,none⟩ = some W.vA:=by
 have B:=h.wat.dlr dm ed
 exact ⟨B.cell 0,B.cell 1,B.cell 2,B.cell 3⟩
theorem DX.setD (H:Nat) (on:Bool) (hl:act.length + (if on then 1 else 0) <= 1073741822):Calls Tryz.prog 68 #[.pointer (some ⟨dm,0,none⟩),.int .u64 (H:Int),.bool on] w fun e w' => e = .returned (.tuple #[]) /\ DG N w w' W s bs Z Ls Ld r laid told (actN H on act) mk:=by
 obtain ⟨Aa,cpa,hva⟩:=own_is h.wat.row
 have rowA:=h.wat.row
 have B:=h.wat.dlr dm ed
 have hal:=h.al
 unfold W6.dc at B
 rw [hva] at rowA B
 refine (setA w dm 0 cpa Aa _ _ _ act B rowA (by omega) H on).mono ?_
 rintro e w' ⟨rfl,w6,A',cp',rfl,b6,own6⟩
 have hat:∀ b,(Value.slice A' (actN H on act).length cp').ownBlock = some b -> w.heap.size <= b:=fun b e => own_base own6 e
 refine ⟨rfl,W.R,_,rfl,grew_acts ed b6 hat,h.wat.acts ed b6 (own_weak own6 (Nat.zero_le _)) hat,h.rel,h.agr,h.ch,h.la,h.dq,?_⟩
 unfold actN
 have:=dropA_len H act
 rw [List.length_append]
 cases on with
 | true => simp only [if_true,List.length_singleton] at hl ⊢; omega
 | false => simp at hl ⊢; omega
theorem DX.isD (H:Nat):Calls Tryz.prog 67 #[.pointer (some ⟨dm,0,none⟩),.int .u64 (H:Int)] w fun e w' => e = .returned (.bool (decide (H ∈ act))) /\ w = w':=by
 obtain ⟨-, -, -,c3⟩:=h.cA ed
 obtain ⟨Aa,cpa,hva⟩:=own_is h.wat.row
 have rowA:=h.wat.row
 have hal:=h.al
 rw [hva] at c3 rowA
 have at_:∀ (k x:Nat),act[k]? = some x -> ∃ g,Aa = some ⟨g,0,none⟩ /\ w.cell? ⟨g,k,none⟩ = some (.int .u64 (x:Int)):=by
  intro k x hx
  obtain ⟨g,c',hv,u⟩:=own_uv rowA hx
  injection hv with hv1 hv2 hv3
  exact ⟨g,hv1,u⟩
 obtain ⟨n,hn⟩:∃ n,n = act.length:=⟨_,rfl⟩
 rw [<- hn] at c3 hal
 replace at_:=Lib.hid at_
 replace hn:=Lib.hid hn
 clear h ed rowA hva
 go_enter Tryz.func67,Tryz.ntmps67
 go_wp2
 go_loopw [5] (fun vi wr => ∃ k:Nat,vi = .int .i64 (k:Int) /\ k <= n /\ Hid (H ∉ act.take k) /\ w = wr) (fun vi _ => n - (intOf vi).toNat)
 case atStart => exact ⟨0,rfl,Nat.zero_le _,Lib.hid (by simp),rfl⟩
 case round =>
  obtain ⟨k,rfl,hk,hno,rfl⟩:=hrel
  by_cases hkn:k < n
  ·obtain ⟨x,hx⟩:∃ x,act[k]? = some x:=⟨act[k]'(by rw [<- hn.out]; exact hkn),List.getElem?_eq_getElem _⟩
   obtain ⟨g,rfl,cl⟩:=at_.out k x hx
   have k0:(0:Int) <= (k:Int):=by omega
   have k1:(k:Int) < (n:Int):=by omega
   have d1:decide ((k:Int) < (n:Int)) = true:=decide_eq_true k1
   have q1:IntKind.i64.wrap ((k:Int) + 1) = (k:Int) + 1:=IntWalk.i64_in _ (by omega)
   by_cases hxH:x = H
   ·have d2:((x:Int) == (H:Int)) = true:=by rw [beq_iff_eq]; omega
    have d3:decide ((x:Int) = (H:Int)) = true:=decide_eq_true (by omega)
    have hm:decide (H ∈ act) = true:=decide_eq_true (by rw [<- hxH]; exact List.mem_of_getElem? hx)
    replace hm:=Lib.hid hm
    replace hx:=Lib.hid hx
    replace hxH:=Lib.hid hxH
    go_wp2
    go_ret
    exact ⟨by rw [hm.out]; rfl,rfl⟩
   ·have d2:((x:Int) == (H:Int)) = false:=by rw [beq_eq_false_iff_ne]; omega
    have d3:decide ((x:Int) = (H:Int)) = false:=decide_eq_false (by omega)
    have hno2:H ∉ act.take (k + 1):=by
     rw [List.take_add_one,hx]
     intro e
     rcases List.mem_append.1 e with e | e
     ·exact hno.out e
     ·simp at e; exact hxH e.symm
    replace hno2:=Lib.hid hno2
    replace hx:=Lib.hid hx
    replace hxH:=Lib.hid hxH
    go_wp2
    go_roundw
    case rel => exact ⟨k + 1,by simp,by omega,hno2,trivial⟩
    case measure => simp [intOf] <;> omega
  ·obtain rfl:k = n:=by omega
   have d1:decide ((k:Int) < (k:Int)) = false:=by simp
   have hm:decide (H ∈ act) = false:=decide_eq_false (by have:=hno.out; rwa [List.take_of_length_le (by rw [<- hn.out]; exact Nat.le_refl _)] at this)
   replace hm:=Lib.hid hm
   go_wp2
   go_ret
   exact ⟨by rw [hm.out]; rfl,rfl⟩
end
end Go.Proofs.YtngehaiigbbknaaGreat.Que
