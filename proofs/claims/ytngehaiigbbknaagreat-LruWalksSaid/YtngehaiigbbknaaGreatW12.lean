/-
  Contracts and lemmas, joined: LruPickD, LruThree, LruWake0.
-/
import Derived.Test.YtngehaiigbbknaaGreatW9
import Derived.Test.YtngehaiigbbknaaGreatW10
import Derived.Test.YtngehaiigbbknaaGreatW11
set_option linter.unusedSimpArgs false
set_option linter.unusedVariables false
set_option linter.unusedSectionVars false
set_option maxRecDepth 100000
/-
  The program's Lru: Pick, where a function is asked.
-/
namespace Go.Proofs.YtngehaiigbbknaaGreat.Que
open Go.RowKit Base Arena Cls Itm Go.Shelf
attribute [local go_sem] Oper.semAt_some
theorem nil_funcD (fd:FuncId) (caps:Array Value) (w:World):Sem.run Tryz.prog (binOp BinOp.neq 54 (.func (.func fd) #[] caps) .nilFunc) w = .ok (.bool true) w:=by kernel_rfl
theorem ownFrom_or {β:Type} {B:Nat} {I I' : β -> World -> Prop} (h:OwnFrom B I) (h':OwnFrom B I'):OwnFrom B (fun s W => I s W \/ I' s W):=fun s W W' row hs hg hr => hs.elim (fun e => .inl (h s W W' row e hg hr)) (fun e => .inr (h' s W W' row e hg hr))
def fG (a:List Nat):Nat:=a.foldl (fun f y => if f = 0 then y else f) 0
def cG (A:Nat -> Bool) (a:List Nat):Nat:=a.foldl (fun c y => if c = 0 /\ A y = false then y else c) 0
theorem fG_snoc (a:List Nat) (y:Nat):fG (a ++ [y]) = if fG a = 0 then y else fG a:=by unfold fG; rw [List.foldl_append]; rfl
theorem cG_snoc (A:Nat -> Bool) (a:List Nat) (y:Nat):cG A (a ++ [y]) = if cG A a = 0 /\ A y = false then y else cG A a:=by unfold cG; rw [List.foldl_append]; rfl
theorem fG_ne (a:List Nat) {f:Nat} (h:f ≠ 0):a.foldl (fun f y => if f = 0 then y else f) f = f:=by
 induction a with
 | nil => rfl
 | cons b a ih => rw [List.foldl_cons,if_neg h]; exact ih
theorem cG_ne (A:Nat -> Bool) (a:List Nat) {f:Nat} (h:f ≠ 0):a.foldl (fun c y => if c = 0 /\ A y = false then y else c) f = f:=by
 induction a with
 | nil => rfl
 | cons b a ih => rw [List.foldl_cons,if_neg (fun e => h e.1)]; exact ih
theorem fG_eq {a:List Nat} (h:∀ z ∈ a,z ≠ 0):fG a = fstN a:=by
 cases a with
 | nil => rfl
 | cons b a =>
  unfold fG fstN
  rw [List.foldl_cons,if_pos rfl,fG_ne a (h b (List.mem_cons_self ..))]
  rfl
theorem cG_eq {A:Nat -> Bool}:∀ {a:List Nat},(∀ z ∈ a,z ≠ 0) -> cG A a = cmN A a
 | [],_ => rfl
 | b :: a,h => by
  have ih:=cG_eq (A:=A) (a:=a) fun z hz => h z (List.mem_cons_of_mem _ hz)
  unfold cG cmN at ih ⊢
  rw [List.foldl_cons]
  cases hb:A b with
  | false =>
   rw [if_pos ⟨rfl,rfl⟩,cG_ne A a (h b (List.mem_cons_self ..))]
   simp [List.find?,hb]
  | true =>
   rw [if_neg (fun e => by cases e.2),ih]
   simp [List.find?,hb]
def aG (own:Nat) (pre:List HU):List Nat:=othN own (pre.map (·.1))
theorem aG_own {own:Nat} {pre:List HU} {y:HU} (e:y.1 = own):aG own (pre ++ [y]) = aG own pre:=by unfold aG; rw [List.map_append]; exact othN_own own _ _ e
theorem aG_new {own:Nat} {pre:List HU} {y:HU} (e:¬ y.1 = own):aG own (pre ++ [y]) = aG own pre ++ [y.1]:=by unfold aG; rw [List.map_append]; exact othN_new own _ _ e
theorem aG_len (own:Nat) (pre:List HU):(aG own pre).length <= pre.length:=by
 have:=othN_len own (pre.map (·.1))
 rwa [List.length_map] at this
section
variable {wB:World} {L:Lay} {s:St} {bs:List UInt8} {Z:Nat -> Option Zd} {gq gl:Nat} {Ls:Nat -> Nat -> List Nat} {mk:Nat -> Nat} {g:Nat} {hot warm:Int} (h:LS wB L s bs Z gq gl Ls mk g hot warm)
include h
set_option maxHeartbeats 4000000 in
theorem pickDC {w:World} (hw:Below wB.heap.size wB w) {D:Nat -> Bool} {dv:Value} {J:List Nat -> World -> Prop} (DF:DeadFn wB.heap.size w.heap.size D dv J) (hJ:J [] w) (x:Int) (own:Nat) (looks:Int) (hk:Cls.In looks) :
  Calls Tryz.prog 33 #[.pointer (some ⟨g,0,none⟩),.int .i64 x,.int .u64 (own:Int),.int .i64 looks,dv] w fun e w' =>
   e = .returned (.tuple #[.int .u64 (namedN (actB s Z mk) D (seenN D looks.toNat (othN own (rowX Ls x))):Int),.bool (deadN D (seenN D looks.toNat (othN own (rowX Ls x)))),.int .i64 ((seenN D looks.toNat (othN own (rowX Ls x))).length:Int)]) /\ J (seenN D looks.toNat (othN own (rowX Ls x))) w' /\ Below wB.heap.size wB w':=by
 refine (callsIn_wide (n:=20)).1 ?_
 obtain ⟨lo,hlo⟩:∃ lo,lo = wB.heap.size:=⟨_,rfl⟩
 obtain ⟨M,hM⟩:∃ M,M = w.heap.size:=⟨_,rfl⟩
 rw [<- hlo, <- hM] at DF
 have hloM:lo <= M:=DF.le
 have hcell:dv.cells = #[dv]:=by
  rcases DF.ask with ⟨rfl, -⟩ | ⟨fd,caps,rfl, -⟩ <;> rfl
 obtain ⟨w1,hw1⟩:∃ w1,w1 = ((((((w.alloc (.cells #[.pointer (some ⟨g,0,none⟩)] 25)).alloc (.cells #[.int .u64 (own:Int)] 51)).alloc (.cells #[.int .i64 looks] 3)).alloc (.cells #[dv] 54)).alloc (.cells #[.int .u64 0] 51)).alloc (.cells #[.bool false] 4)).alloc (.cells #[.int .i64 0] 3):=⟨_,rfl⟩
 have z1:w1.heap.size = M + 7:=by rw [hw1,hM]; simp only [World.size_alloc]
 have b1:Below w.heap.size w w1:=by
  rw [hw1]
  refine ((((((((Below.refl _ w).alloc ?_ _).alloc ?_ _).alloc ?_ _).alloc ?_ _).alloc ?_ _).alloc ?_ _).alloc ?_ _) <;> first | exact Nat.le_refl _ | (simp only [World.size_alloc]; omega)
 have a0:w1.heap[M]? = some (.cells #[.pointer (some ⟨g,0,none⟩)] 25 (0,0)):=by rw [hw1,hM]; exact ((((((Blk.new w _ _).alloc _).alloc _).alloc _).alloc _).alloc _).alloc _
 have a1:w1.heap[M + 1]? = some (.cells #[.int .u64 (own:Int)] 51 (0,0)):=by rw [hw1,hM]; exact (((((blk_new' (by first | exact World.size_alloc _ _ | (repeat rw [World.size_alloc]))).alloc _).alloc _).alloc _).alloc _).alloc _
 have a2:w1.heap[M + 2]? = some (.cells #[.int .i64 looks] 3 (0,0)):=by rw [hw1,hM]; exact ((((blk_new' (by first | exact World.size_alloc _ _ | (repeat rw [World.size_alloc]))).alloc _).alloc _).alloc _).alloc _
 have a3:w1.heap[M + 3]? = some (.cells #[dv] 54 (0,0)):=by rw [hw1,hM]; exact (((blk_new' (by first | exact World.size_alloc _ _ | (repeat rw [World.size_alloc]))).alloc _).alloc _).alloc _
 have a4:w1.heap[M + 4]? = some (.cells #[.int .u64 0] 51 (0,0)):=by rw [hw1,hM]; exact ((blk_new' (by first | exact World.size_alloc _ _ | (repeat rw [World.size_alloc]))).alloc _).alloc _
 have a5:w1.heap[M + 5]? = some (.cells #[.bool false] 4 (0,0)):=by rw [hw1,hM]; exact (blk_new' (by first | exact World.size_alloc _ _ | (repeat rw [World.size_alloc]))).alloc _
 have a6:w1.heap[M + 6]? = some (.cells #[.int .i64 0] 3 (0,0)):=by rw [hw1,hM]; exact blk_new' (by repeat rw [World.size_alloc])
 have LR:=h.rowB x
 have R0:=row_ne0 h.q x
 obtain ⟨A,hA⟩:∃ A,A = actB s Z mk:=⟨_,rfl⟩
 have AC:=fun v (b:Below wB.heap.size wB v) H hH => activeC (h.below b) H hH
 obtain ⟨row,hrow⟩:∃ row,row = rowX Ls x:=⟨_,rfl⟩
 rw [<- hA] at AC ⊢
 rw [<- hrow] at LR R0 ⊢
 have x2:w1.cell? ⟨M + 2,0,none⟩ = some (.int .i64 looks):=Blk.cell (g:=M + 2) a2 0
 have j1:J [] w1:=DF.below hJ b1
 replace DF:=Lib.hid DF
 replace hJ:=Lib.hid hJ
 replace j1:=Lib.hid j1
 replace hM:=Lib.hid hM
 replace hlo:=Lib.hid hlo
 replace hw:=Lib.hid hw
 replace hw1:=Lib.hid hw1
 replace hA:=Lib.hid hA
 replace hrow:=Lib.hid hrow
 replace AC:=Lib.hid AC
 replace R0:=Lib.hid R0
 refine callsIn_of_wp_marks Tryz.func33 rfl trivial ?_ rfl
 simp only [Tryz.ntmps33,List.size_toArray,List.length_cons,List.length_nil,Nat.reduceAdd,Nat.reduceSub,Array.replicate_succ,Array.replicate_zero,List.push_toArray,List.append_toArray,List.nil_append,List.cons_append]
 gi_upto_region 1 with fail
 unfold Value.cells at hcell
 rw [hcell, <- hw1.out, <- hM.out]
 clear hcell
 by_cases hl1:looks < 1
 ·have d1:decide (looks < 1) = true:=decide_eq_true hl1
  have c4:=Blk.cell (g:=M + 4) a4 0
  have c5:=Blk.cell (g:=M + 5) a5 0
  have c6:=Blk.cell (g:=M + 6) a6 0
  have f4:=Blk.frozen (g:=M + 4) a4 0
  have f5:=Blk.frozen (g:=M + 5) a5 0
  have f6:=Blk.frozen (g:=M + 6) a6 0
  have ep:([]:List Nat) = seenN D looks.toNat (othN own row):=by rw [show looks.toNat = 0 by omega]; rfl
  replace ep:=Lib.hid ep
  replace b1:=Lib.hid b1
  gi_wp2
  simp only [Nat.add_assoc,Nat.reduceAdd]
  have B4:Blk (((w1.setCell ⟨M + 4,0,none⟩ (.int .u64 0)).setCell ⟨M + 5,0,none⟩ (.bool false)).setCell ⟨M + 6,0,none⟩ (.int .i64 0)) (M + 4) 51 #[.int .u64 0]:=((Blk.set_ (g:=M + 4) a4 0 _).far (by show M + 4 ≠ M + 5; omega) _).far (by show M + 4 ≠ M + 6; omega) _
  have B5:Blk (((w1.setCell ⟨M + 4,0,none⟩ (.int .u64 0)).setCell ⟨M + 5,0,none⟩ (.bool false)).setCell ⟨M + 6,0,none⟩ (.int .i64 0)) (M + 5) 4 #[.bool false]:=(Blk.set_ (Blk.far (g:=M + 5) a5 (by show M + 5 ≠ M + 4; omega) _) 0 _).far (by show M + 5 ≠ M + 6; omega) _
  have B6:Blk (((w1.setCell ⟨M + 4,0,none⟩ (.int .u64 0)).setCell ⟨M + 5,0,none⟩ (.bool false)).setCell ⟨M + 6,0,none⟩ (.int .i64 0)) (M + 6) 3 #[.int .i64 0]:=Blk.set_ (Blk.far (Blk.far (g:=M + 6) a6 (by show M + 6 ≠ M + 4; omega) _) (by show M + 6 ≠ M + 5; omega) _) 0 _
  have bF:Below w.heap.size w (((w1.setCell ⟨M + 4,0,none⟩ (.int .u64 0)).setCell ⟨M + 5,0,none⟩ (.bool false)).setCell ⟨M + 6,0,none⟩ (.int .i64 0)):=((b1.out.setCell (p:=⟨M + 4,0,none⟩) (by show _ <= M + 4; have:=hM.out; omega) _).setCell (p:=⟨M + 5,0,none⟩) (by show _ <= M + 5; have:=hM.out; omega) _).setCell (p:=⟨M + 6,0,none⟩) (by show _ <= M + 6; have:=hM.out; omega) _
  exact ⟨_,results_cells3 (P:=Tryz.prog) rfl _ _ (M + 4) (M + 5) (M + 6) _ _ _ _ _ _ rfl rfl rfl (B4.cell 0) (B5.cell 0) (B6.cell 0) Tryz.underlying51 Tryz.underlying4 Tryz.underlying3 rfl rfl rfl,by rw [<- ep.out]; rfl,by rw [<- ep.out]; exact DF.out.below hJ.out bF,hw.out.trans (bF.mono hw.out.size)⟩
 ·have d1:decide (looks < 1) = false:=decide_eq_false hl1
  obtain ⟨kk,hkk⟩:∃ kk,kk = looks.toNat:=⟨_,rfl⟩
  have hk1 : 1 <= kk:=by omega
  have hkL:((kk:Nat):Int) = looks:=by omega
  gi_upto_region 4 with fail
  simp only [Nat.add_assoc,Nat.reduceAdd]
  obtain ⟨w2,hw2⟩:∃ w2,w2 = (w1.alloc (.cells #[.int .u64 0] 51)).alloc (.cells #[.int .u64 0] 51):=⟨_,rfl⟩
  have z2:w2.heap.size = M + 9:=by rw [hw2]; simp only [World.size_alloc]; omega
  have b2:Below w1.heap.size w1 w2:=by rw [hw2]; exact ((Below.refl _ w1).alloc (Nat.le_refl _) _).alloc (by simp) _
  have a7:w2.heap[M + 7]? = some (.cells #[.int .u64 0] 51 (0,0)):=by rw [hw2]; exact (blk_new' z1).alloc _
  have a8:w2.heap[M + 8]? = some (.cells #[.int .u64 0] 51 (0,0)):=by rw [hw2]; exact blk_new' (by rw [World.size_alloc,z1])
  have x0:w2.cell? ⟨M,0,none⟩ = some (.pointer (some ⟨g,0,none⟩)):=(b2.cell (p:=⟨M,0,none⟩) (by show M < w1.heap.size; omega)).trans (Blk.cell (g:=M) a0 0)
  have RC:=Lib.hid (rowC0 w2 g x)
  rw [<- hw2]
  replace z1:=Lib.hid z1
  replace hw2:=Lib.hid hw2
  clear x2
  gi_wp2_with (first | (refine ⟨trivial,fun _ => by omega,?_⟩; gi_at_call 69; refine (callsIn_wide.2 RC.out).mono ?_; rintro e w' ⟨rfl,rfl⟩) | (refine ⟨trivial,?_⟩; gi_at_call 69; refine (callsIn_wide.2 RC.out).mono ?_; rintro e w' ⟨rfl,rfl⟩) | fail)
  obtain ⟨w4,hw4⟩:∃ w4,w4 = (w2.alloc (.cells #[.pointer (some ⟨g,0,none⟩)] 25)).alloc (.cells #[.int .i64 x] 3):=⟨_,rfl⟩
  rw [<- hw4]
  have z4:w4.heap.size = M + 11:=by rw [hw4,World.size_alloc,World.size_alloc,z2]
  have b4:Below w2.heap.size w2 w4:=by rw [hw4]; exact ((Below.refl _ w2).alloc (Nat.le_refl _) _).alloc (by rw [World.size_alloc]; omega) _
  have k9:Blk w4 (M + 9) 25 #[.pointer (some ⟨g,0,none⟩)]:=by rw [hw4, <- z2]; exact (Blk.new w2 _ _).alloc _
  have k10:Blk w4 (M + 10) 3 #[.int .i64 x]:=by rw [hw4,show M + 10 = w2.heap.size + 1 by omega]; exact blk_new' (World.size_alloc _ _)
  have a9:=k9.cell 0
  have a10:=k10.cell 0
  have b24:Below w1.heap.size w1 w4:=b2.trans (b4.mono b2.size)
  have s1:=z1.out
  have k0:w4.heap[M]? = some (.cells #[.pointer (some ⟨g,0,none⟩)] 25 (0,0)):=(b24.block M (by omega)).trans a0
  have k1:w4.heap[M + 1]? = some (.cells #[.int .u64 (own:Int)] 51 (0,0)):=(b24.block (M + 1) (by omega)).trans a1
  have k2:w4.heap[M + 2]? = some (.cells #[.int .i64 looks] 3 (0,0)):=(b24.block (M + 2) (by omega)).trans a2
  have k3:w4.heap[M + 3]? = some (.cells #[dv] 54 (0,0)):=(b24.block (M + 3) (by omega)).trans a3
  have k4:w4.heap[M + 4]? = some (.cells #[.int .u64 0] 51 (0,0)):=(b24.block (M + 4) (by omega)).trans a4
  have k5:w4.heap[M + 5]? = some (.cells #[.bool false] 4 (0,0)):=(b24.block (M + 5) (by omega)).trans a5
  have k6:Boxed w4 (M + 6) 3 (.int .i64 0):=(b24.block (M + 6) (by omega)).trans a6
  have k7:Boxed w4 (M + 7) 51 (.int .u64 0):=(b4.block (M + 7) (by omega)).trans a7
  have k8:Boxed w4 (M + 8) 51 (.int .u64 0):=(b4.block (M + 8) (by omega)).trans a8
  have nu4:NoU M w4:=by
   intro b h1 h2
   have:b = M \/ b = M + 1 \/ b = M + 2 \/ b = M + 3 \/ b = M + 4 \/ b = M + 5 \/ b = M + 6 \/ b = M + 7 \/ b = M + 8 \/ b = M + 9 \/ b = M + 10:=by omega
   rcases this with rfl | rfl | rfl | rfl | rfl | rfl | rfl | rfl | rfl | rfl | rfl
   ·exact isU_not k0 (by decide)
   ·exact isU_not k1 (by decide)
   ·exact isU_not k2 (by decide)
   ·exact isU_not k3 (by decide)
   ·exact isU_not k4 (by decide)
   ·exact isU_not k5 (by decide)
   ·exact isU_not k6 (by decide)
   ·exact isU_not k7 (by decide)
   ·exact isU_not k8 (by decide)
   ·exact isU_not k9 (by decide)
   ·exact isU_not k10 (by decide)
  have hM2:=hM.out
  have hlo2:=hlo.out
  have bw4:Below wB.heap.size wB w4:=hw.out.trans ((b1.trans (b24.mono (by omega))).mono hw.out.size)
  have j4:J [] w4:=DF.out.below (DF.out.below j1.out b2) b4
  have hseq:=row_seq h x (20 - 1) (by omega) (M + 9) (M + 10) (PkS lo M) w4 bw4 (fun b hb hS => by unfold PkS at hS; omega) ⟨fun hS => by unfold PkS at hS; omega,fun hS => by unfold PkS at hS; omega⟩ a9 a10
  rw [<- hrow.out] at hseq
  replace nu4:=Lib.hid nu4
  replace k0:=Lib.hid k0
  replace k1:=Lib.hid k1
  replace k2:=Lib.hid k2
  replace k3:=Lib.hid k3
  replace k4:=Lib.hid k4
  replace k5:=Lib.hid k5
  replace bw4:=Lib.hid bw4
  replace hw4:=Lib.hid hw4
  replace hM2:=Lib.hid hM2
  replace hlo2:=Lib.hid hlo2
  replace hkk:=Lib.hid hkk
  replace hkL:=Lib.hid hkL
  replace h:=Lib.hid h
  clear a0 a1 a2 a3 a4 a5 a6 a7 a8 a9 a10 k9 k10 b1 b2 b4 b24 s1 RC x0 z2
  simp only [Nat.add_assoc,Nat.reduceAdd]
  have nfx:=nil_funcD
  have nfy:=nil_funcB
  refine wpIn_rangeFunc_ownG rfl (by omega) (gf:=105) (lb:=#[.pointer (some ⟨M + 9,0,none⟩),.pointer (some ⟨M + 10,0,none⟩)]) rfl trivial (enters_of Tryz.func105 (by kernel_rfl) rfl)
   hseq (fun h k => h.trans k fun _ _ h => h) (fun W' l' o o' hl ho h1 h2 => ⟨rfl,rfl,rfl,(grownBy_putObj' W' l' o').size,fun b hb hS => World.putObj_heap_other (fun e => hS (by unfold PkS; right; right; right; right; rw [e]; omega))⟩) (Below.refl _ _) (fun _ => rfl)
   (fun pre Wx => Boxed Wx (M + 6) 3 (.int .i64 ((aG own pre).length:Int)) /\ (Boxed Wx (M + 7) 51 (.int .u64 (fG (aG own pre):Int)) /\ (Boxed Wx (M + 8) 51 (.int .u64 (cG A (aG own pre):Int)) /\ (J (aG own pre) Wx /\ (Only (PkS lo M) w4 Wx /\ GoesP D own kk (pre.map (·.1)))))))
   (fun c pre Wx => (c = .exit 0 /\ (Boxed Wx (M + 6) 3 (.int .i64 ((aG own pre).length:Int)) /\ (Boxed Wx (M + 7) 51 (.int .u64 (fG (aG own pre):Int)) /\ (Boxed Wx (M + 8) 51 (.int .u64 (cG A (aG own pre):Int)) /\ (J (aG own pre) Wx /\ (Only (PkS lo M) w4 Wx /\ ((∀ y ∈ aG own pre,D y = false) /\ (aG own pre).length = kk)))))))
    \/ (c = .ret /\ (Boxed Wx (M + 6) 3 (.int .i64 ((aG own pre).length:Int)) /\ (Boxed Wx (M + 4) 51 (.int .u64 ((aG own pre).getLast?.getD 0:Int)) /\ (Boxed Wx (M + 5) 4 (.bool true) /\ (J (aG own pre) Wx /\ (Only (fun b => PkS lo M b \/ b = M + 4 \/ b = M + 5) w4 Wx /\ (∀ l,seenN D kk (othN own (pre.map (·.1) ++ l)) = aG own pre) /\ namedN A D (aG own pre) = (aG own pre).getLast?.getD 0 /\ deadN D (aG own pre) = true)))))))
   (OwnFrom.and (Own.from (boxed_own (M + 6) 3 fun pre:List HU => .int .i64 ((aG own pre).length:Int)) _) (OwnFrom.and (Own.from (boxed_own (M + 7) 51 fun pre:List HU => .int .u64 (fG (aG own pre):Int)) _) (OwnFrom.and (Own.from (boxed_own (M + 8) 51 fun pre:List HU => .int .u64 (cG A (aG own pre):Int)) _) (OwnFrom.and (DF.out.own _ (fun pre:List HU => aG own pre) (by rw [z4]; omega)) (OwnFrom.and (ownFrom_only (Nat.le_refl _)) (ownFrom_pure _ _))))))
   (fun c => ownFrom_or (OwnFrom.and (ownFrom_pure _ _) (OwnFrom.and (Own.from (boxed_own (M + 6) 3 fun pre:List HU => .int .i64 ((aG own pre).length:Int)) _) (OwnFrom.and (Own.from (boxed_own (M + 7) 51 fun pre:List HU => .int .u64 (fG (aG own pre):Int)) _) (OwnFrom.and (Own.from (boxed_own (M + 8) 51 fun pre:List HU => .int .u64 (cG A (aG own pre):Int)) _) (OwnFrom.and (DF.out.own _ (fun pre:List HU => aG own pre) (by rw [z4]; omega)) (OwnFrom.and (ownFrom_only (Nat.le_refl _)) (ownFrom_pure _ _)))))))
    (OwnFrom.and (ownFrom_pure _ _) (OwnFrom.and (Own.from (boxed_own (M + 6) 3 fun pre:List HU => .int .i64 ((aG own pre).length:Int)) _) (OwnFrom.and (Own.from (boxed_own (M + 4) 51 fun pre:List HU => .int .u64 ((aG own pre).getLast?.getD 0:Int)) _) (OwnFrom.and (Own.from (boxed_own (M + 5) 4 fun pre:List HU => .bool true) _) (OwnFrom.and (DF.out.own _ (fun pre:List HU => aG own pre) (by rw [z4]; omega)) (OwnFrom.and (ownFrom_only (Nat.le_refl _)) (ownFrom_pure _ _))))))))
   ⟨k6,k7,k8,j4,Only.refl _ _,⟨fun y hy => (by cases hy),hk1⟩⟩
   (fun y => { tmps:=#[.pointer (some ⟨g,0,none⟩),.int .i64 x,.int .u64 (own:Int),.int .i64 looks,dv,.pointer (some ⟨M,0,none⟩),undef,.pointer (some ⟨M + 1,0,none⟩),.pointer (some ⟨M + 2,0,none⟩),.pointer (some ⟨M + 3,0,none⟩),.pointer (some ⟨M + 4,0,none⟩),.pointer (some ⟨M + 5,0,none⟩),.pointer (some ⟨M + 6,0,none⟩),.pointer (some ⟨M + 7,0,none⟩),.pointer (some ⟨M + 8,0,none⟩),.int .u64 (y.1:Int),.int .i64 looks,.bool false,.pointer (some ⟨g,0,none⟩),.int .i64 x,.func (.func 105) #[] #[.pointer (some ⟨M + 9,0,none⟩),.pointer (some ⟨M + 10,0,none⟩)],.int .u64 (y.1:Int),undef,undef,undef,undef,undef,undef,undef,undef,undef,undef,undef,undef,undef,undef,undef,undef,undef,undef,undef,undef,undef,undef,undef,undef,undef,undef,undef,undef,undef,undef,undef,undef,undef,undef,undef],defers:=[] }) ?assign ?body ?done ?stop
  case assign =>
   intro l' y W' K' hK'
   gi_wp2
   exact hK'
  case body =>
   rintro l' pre y Wx ⟨b6,b7,b8,jx,oW,hg⟩ hlt
   have nux:NoU M Wx:=nu4.out.of oW (fun b h1 h2 hS => by unfold PkS at hS; omega) (by omega) b6 b7 b8
   have kept:∀ {b:Nat} {o:Obj},w4.heap[b]? = some o -> ¬ PkS lo M b -> Wx.heap[b]? = some o:=fun {b o} hb hn => (oW.block b (heap_lt hb) hn).trans hb
   have K0:=kept k0.out (by unfold PkS; omega)
   have K1:=kept k1.out (by unfold PkS; omega)
   have K2:=kept k2.out (by unfold PkS; omega)
   have K3:=kept k3.out (by unfold PkS; omega)
   have K4:=kept k4.out (by unfold PkS; omega)
   have K5:=kept k5.out (by unfold PkS; omega)
   have e0:Wx.cell? ⟨M,0,none⟩ = some (.pointer (some ⟨g,0,none⟩)):=Blk.cell (g:=M) K0 0
   have e1:Wx.cell? ⟨M + 1,0,none⟩ = some (.int .u64 (own:Int)):=Blk.cell (g:=M + 1) K1 0
   have e2:Wx.cell? ⟨M + 2,0,none⟩ = some (.int .i64 looks):=Blk.cell (g:=M + 2) K2 0
   have e3:Wx.cell? ⟨M + 3,0,none⟩ = some dv:=Blk.cell (g:=M + 3) K3 0
   clear kept
   by_cases hy:y.1 = own
   ·have d2:((y.1:Int) == (own:Int)) = true:=by rw [beq_iff_eq]; omega
    have d3:decide ((y.1:Int) = (own:Int)) = true:=decide_eq_true (by omega)
    have ea:=aG_own (pre:=pre) hy
    have T:=Lib.hid (show KeepsFrom (M + 11) Wx Wx /\ Only (PkS lo M) Wx Wx /\ (Boxed Wx (M + 6) 3 (.int .i64 ((aG own (pre ++ [y])).length:Int)) /\ (Boxed Wx (M + 7) 51 (.int .u64 (fG (aG own (pre ++ [y])):Int)) /\ (Boxed Wx (M + 8) 51 (.int .u64 (cG A (aG own (pre ++ [y])):Int)) /\ (J (aG own (pre ++ [y])) Wx /\ (Only (PkS lo M) w4 Wx /\ GoesP D own kk ((pre ++ [y]).map (·.1))))))) from by
     rw [ea]
     refine ⟨KeepsFrom.refl _ _,Only.refl _ _,b6,b7,b8,jx,oW,⟨fun z hz => ?_,?_⟩⟩
     ·exact hg.no z (by rw [show othN own ((pre ++ [y]).map (·.1)) = aG own (pre ++ [y]) from rfl,ea] at hz; exact hz)
     ·rw [show othN own ((pre ++ [y]).map (·.1)) = aG own (pre ++ [y]) from rfl,ea]; exact hg.lt)
    replace hy:=Lib.hid hy
    clear b6 b7 b8 jx oW hg K0 K1 K2 K3 K4 K5 nux ea
    gi_wp2
    exact T.out
   ·have d2:((y.1:Int) == (own:Int)) = false:=by rw [beq_eq_false_iff_ne]; omega
    have d3:decide ((y.1:Int) = (own:Int)) = false:=decide_eq_false (by omega)
    have ea:=aG_new (pre:=pre) hy
    have hal:=aG_len own pre
    obtain ⟨a,hea⟩:∃ a,a = aG own pre:=⟨_,rfl⟩
    rw [<- hea] at b6 b7 b8 jx ea hal
    obtain ⟨n0,hn0⟩:∃ n0,n0 = a.length:=⟨_,rfl⟩
    obtain ⟨f0,hf0⟩:∃ f0,f0 = fG a:=⟨_,rfl⟩
    obtain ⟨c0,hc0⟩:∃ c0,c0 = cG A a:=⟨_,rfl⟩
    have hnl:n0 <= 402653187:=by omega
    have sf:fG (a ++ [y.1]) = if f0 = 0 then y.1 else f0:=by rw [fG_snoc, <- hf0]
    have sc:cG A (a ++ [y.1]) = if c0 = 0 /\ A y.1 = false then y.1 else c0:=by rw [cG_snoc, <- hc0]
    rw [<- hn0] at b6
    rw [<- hf0] at b7
    rw [<- hc0] at b8
    have gno:∀ z ∈ a,D z = false:=by rw [hea]; exact hg.no
    have glt:n0 < kk:=by rw [hn0,hea]; exact hg.lt
    have gr:=hg
    have hyl:=y.2
    have hal2:a.length <= 402653187:=by omega
    have fin:¬ ((n0 + 1:Nat):Int) = looks -> D y.1 = false -> ∀ W' f' c',f' = fG (a ++ [y.1]) -> c' = cG A (a ++ [y.1]) -> Boxed W' (M + 6) 3 (.int .i64 ((n0 + 1:Nat):Int)) -> Boxed W' (M + 7) 51 (.int .u64 (f':Int)) -> Boxed W' (M + 8) 51 (.int .u64 (c':Int)) -> J (a ++ [y.1]) W' -> Only (PkS lo M) Wx W' /\ KeepsFrom (M + 11) Wx W' ->
      KeepsFrom (M + 11) Wx W' /\ Only (PkS lo M) Wx W' /\ (Boxed W' (M + 6) 3 (.int .i64 ((aG own (pre ++ [y])).length:Int)) /\ (Boxed W' (M + 7) 51 (.int .u64 (fG (aG own (pre ++ [y])):Int)) /\ (Boxed W' (M + 8) 51 (.int .u64 (cG A (aG own (pre ++ [y])):Int)) /\ (J (aG own (pre ++ [y])) W' /\ (Only (PkS lo M) w4 W' /\ GoesP D own kk ((pre ++ [y]).map (·.1))))))):=by
     rintro hn hd W' f' c' rfl rfl c6 c7 c8 j ⟨o,kp⟩
     have hl1:(a ++ [y.1]).length = n0 + 1:=by rw [List.length_append, <- hn0]; rfl
     rw [ea,hl1]
     refine ⟨kp,o,c6,c7,c8,j,oW.trans o fun _ _ h => h,⟨fun z hz => ?_,?_⟩⟩
     ·rw [show othN own ((pre ++ [y]).map (·.1)) = aG own (pre ++ [y]) from rfl,ea] at hz
      rcases List.mem_append.1 hz with hz | hz
      ·exact gno z hz
      ·rw [List.mem_singleton] at hz; rw [hz]; exact hd
     ·rw [show othN own ((pre ++ [y]).map (·.1)) = aG own (pre ++ [y]) from rfl,ea,hl1]
      have:=hkL.out
      omega
    have finX:((n0 + 1:Nat):Int) = looks -> D y.1 = false -> ∀ W' f' c',f' = fG (a ++ [y.1]) -> c' = cG A (a ++ [y.1]) -> Boxed W' (M + 6) 3 (.int .i64 ((n0 + 1:Nat):Int)) -> Boxed W' (M + 7) 51 (.int .u64 (f':Int)) -> Boxed W' (M + 8) 51 (.int .u64 (c':Int)) -> J (a ++ [y.1]) W' -> Only (PkS lo M) Wx W' /\ KeepsFrom (M + 11) Wx W' ->
      KeepsFrom (M + 11) Wx W' /\ (Boxed W' (M + 6) 3 (.int .i64 ((aG own (pre ++ [y])).length:Int)) /\ (Boxed W' (M + 7) 51 (.int .u64 (fG (aG own (pre ++ [y])):Int)) /\ (Boxed W' (M + 8) 51 (.int .u64 (cG A (aG own (pre ++ [y])):Int)) /\ (J (aG own (pre ++ [y])) W' /\ (Only (PkS lo M) w4 W' /\ ((∀ y' ∈ aG own (pre ++ [y]),D y' = false) /\ (aG own (pre ++ [y])).length = kk)))))):=by
     rintro hn hd W' f' c' rfl rfl c6 c7 c8 j ⟨o,kp⟩
     have hl1:(a ++ [y.1]).length = n0 + 1:=by rw [List.length_append, <- hn0]; rfl
     rw [ea,hl1]
     refine ⟨kp,c6,c7,c8,j,oW.trans o fun _ _ h => h,fun z hz => ?_,?_⟩
     ·rcases List.mem_append.1 hz with hz | hz
      ·exact gno z hz
      ·rw [List.mem_singleton] at hz; rw [hz]; exact hd
     ·have:=hkL.out
      omega
    have finD:D y.1 = true -> ∀ W',Boxed W' (M + 6) 3 (.int .i64 ((n0 + 1:Nat):Int)) -> Boxed W' (M + 4) 51 (.int .u64 (y.1:Int)) -> Boxed W' (M + 5) 4 (.bool true) -> J (a ++ [y.1]) W' -> Only (fun b => PkS lo M b \/ b = M + 4 \/ b = M + 5) Wx W' /\ KeepsFrom (M + 11) Wx W' ->
      KeepsFrom (M + 11) Wx W' /\ (Boxed W' (M + 6) 3 (.int .i64 ((aG own (pre ++ [y])).length:Int)) /\ (Boxed W' (M + 4) 51 (.int .u64 ((aG own (pre ++ [y])).getLast?.getD 0:Int)) /\ (Boxed W' (M + 5) 4 (.bool true) /\ (J (aG own (pre ++ [y])) W' /\ (Only (fun b => PkS lo M b \/ b = M + 4 \/ b = M + 5) w4 W' /\ (∀ l,seenN D kk (othN own ((pre ++ [y]).map (·.1) ++ l)) = aG own (pre ++ [y])) /\ namedN A D (aG own (pre ++ [y])) = (aG own (pre ++ [y])).getLast?.getD 0 /\ deadN D (aG own (pre ++ [y])) = true))))):=by
     rintro hd W' c6 c4 c5 j ⟨o,kp⟩
     have hl1:(a ++ [y.1]).length = n0 + 1:=by rw [List.length_append, <- hn0]; rfl
     have hg1:(a ++ [y.1]).getLast?.getD 0 = y.1:=by rw [List.getLast?_concat]; rfl
     obtain ⟨m1,m2⟩:=namedN_dead (A:=A) (D:=D) (l:=a) hd
     rw [ea,hl1,hg1]
     refine ⟨kp,c6,c4,c5,j,(oW.mono fun _ _ h => .inl h).trans o fun _ _ h => h,fun l => ?_,m1,m2⟩
     rw [List.map_append,hea]
     exact seenN_dead gr hy hd
    have ACx:=fun v (o:Only (PkS lo M) Wx v) => AC.out v (bw4.out.trans ((oW.trans o fun _ _ h => h).toBelow fun k hk => ⟨by have:=hM2.out; have:=hlo2.out; omega,fun e => by have:=hlo2.out; unfold PkS at e; omega⟩)) y.1 y.2
    have nof:=fun (X:World) (o:Only (PkS lo M) Wx X) (v6 v7 v8:Value) (c6:Boxed X (M + 6) 3 v6) (c7:Boxed X (M + 7) 51 v7) (c8:Boxed X (M + 8) 51 v8) => nux.of o (fun b h1 h2 hS => by unfold PkS at hS; omega) (by have:=oW.size; omega) c6 c7 c8
    have sWx:M + 11 <= Wx.heap.size:=by have:=oW.size; omega
    generalize hY:y.1 = Y at *
    generalize hAY:A Y = b0 at *
    generalize hDY:D Y = dd at *
    have q1:IntKind.i64.wrap ((n0:Int) + 1) = ((n0 + 1:Nat):Int):=by rw [IntWalk.i64_in _ (by omega)]; omega
    obtain ⟨n1,hn1⟩:∃ n1,n1 = n0 + 1:=⟨_,rfl⟩
    rw [<- hn1] at q1 fin finX finD
    have c6:=b6.cell
    have v6:=b6.frozen
    have c7:=b7.cell
    have v7:=b7.frozen
    replace fin:=Lib.hid fin
    replace finX:=Lib.hid finX
    replace finD:=Lib.hid finD
    replace ACx:=Lib.hid ACx
    replace nof:=Lib.hid nof
    replace hn1:=Lib.hid hn1
    replace hn0:=Lib.hid hn0
    replace hf0:=Lib.hid hf0
    replace hc0:=Lib.hid hc0
    replace sf:=Lib.hid sf
    replace sc:=Lib.hid sc
    replace hY:=Lib.hid hY
    replace hAY:=Lib.hid hAY
    replace hDY:=Lib.hid hDY
    clear hg gr gno glt oW hy ea hea nux hal
    have B61:=b6.set (.int .i64 (n1:Int))
    have B71:=b7.other (B':=M + 6) (by omega) (.int .i64 (n1:Int))
    have B81:=b8.other (B':=M + 6) (by omega) (.int .i64 (n1:Int))
    have B41:=Boxed.other (B:=M + 4) (B':=M + 6) (v:=.int .u64 0) (t:=51) K4 (by omega) (.int .i64 (n1:Int))
    have B51:=Boxed.other (B:=M + 5) (B':=M + 6) (v:=.bool false) (t:=4) K5 (by omega) (.int .i64 (n1:Int))
    have O1:=pks_set (lo:=lo) (M:=M) (X:=Wx) (b:=M + 6) (.inl rfl) (.int .i64 (n1:Int))
    have j1x:J a (Wx.setCell ⟨M + 6,0,none⟩ (.int .i64 (n1:Int))):=DF.out.set_ jx b6 (by decide) (by omega) _
    obtain ⟨W1,hW1⟩:∃ W1,W1 = Wx.setCell ⟨M + 6,0,none⟩ (.int .i64 (n1:Int)):=⟨_,rfl⟩
    rw [<- hW1] at B61 B71 B81 B41 B51 O1 j1x
    have E0:W1.cell? ⟨M,0,none⟩ = some (.pointer (some ⟨g,0,none⟩)):=by rw [hW1]; exact (World.cell?_setCell_other Wx _ _ _ (by simp)).trans e0
    have E2:W1.cell? ⟨M + 2,0,none⟩ = some (.int .i64 looks):=by rw [hW1]; exact (World.cell?_setCell_other Wx _ _ _ (by simp)).trans e2
    have E3:W1.cell? ⟨M + 3,0,none⟩ = some dv:=by rw [hW1]; exact (World.cell?_setCell_other Wx _ _ _ (by simp)).trans e3
    replace hW1:=Lib.hid hW1
    replace B61:=Lib.hid B61
    replace B81:=Lib.hid B81
    replace B41:=Lib.hid B41
    replace B51:=Lib.hid B51
    replace O1:=Lib.hid O1
    replace j1x:=Lib.hid j1x
    have c7:=B71.cell
    have v7:=B71.frozen
    replace B71:=Lib.hid B71
    replace b6:=Lib.hid b6
    replace b7:=Lib.hid b7
    replace b8:=Lib.hid b8
    replace jx:=Lib.hid jx
    gi_upto_region 8 with fail
    rw [<- hW1.out]
    replace hW1:=Lib.hid hW1.out
    clear e0 e1 e2 e3 c6 v6 K0 K1 K2 K3 K4 K5
    cases dd with
    | true =>
     rcases Nat.decEq f0 0 with hf | hf
     have z1f0:((f0:Int) == 0) = false:=by rw [beq_eq_false_iff_ne]; omega
     have z2f0:decide ((f0:Int) = 0) = false:=decide_eq_false (by omega)
     have z3f0:decide (f0 = 0) = false:=decide_eq_false (by omega)
     obtain ⟨W2,hW2⟩:∃ W2,W2 = W1:=⟨_,rfl⟩
     have B62:=B61.out
     have B72:=B71.out
     have B82:=B81.out
     have B42:=B41.out
     have B52:=B51.out
     have O2:=O1.out
     have j2:=j1x.out
     have F0:=E0
     have F2:=E2
     have F3:=E3
     obtain ⟨f1,hf1⟩:∃ f1,f1 = f0:=⟨_,rfl⟩
     rw [<- hf1] at B72
     have ef:=Lib.hid (show f1 = fG (a ++ [Y]) by rw [sf.out,if_neg hf,hf1])
     replace hf1:=Lib.hid hf1
     replace hf:=Lib.hid hf
     gi_upto_region 10 with fail
     rw [<- hW2] at B62 B72 B82 B42 B52 O2 j2 F0 F2 F3 ⊢
     rotate_left
     have z1f0:((f0:Int) == 0) = true:=by rw [beq_iff_eq]; omega
     have z2f0:decide ((f0:Int) = 0) = true:=decide_eq_true (by omega)
     have z3f0:decide (f0 = 0) = true:=decide_eq_true (by omega)
     obtain ⟨W2,hW2⟩:∃ W2,W2 = W1.setCell ⟨M + 7,0,none⟩ (.int .u64 (Y:Int)):=⟨_,rfl⟩
     have B62:=B61.out.other (B':=M + 7) (by omega) (.int .u64 (Y:Int))
     have B72:=B71.out.set (.int .u64 (Y:Int))
     have B82:=B81.out.other (B':=M + 7) (by omega) (.int .u64 (Y:Int))
     have B42:=B41.out.other (B':=M + 7) (by omega) (.int .u64 (Y:Int))
     have B52:=B51.out.other (B':=M + 7) (by omega) (.int .u64 (Y:Int))
     have O2:=pks_trans O1.out (pks_set (lo:=lo) (M:=M) (X:=W1) (b:=M + 7) (.inr (.inl rfl)) (.int .u64 (Y:Int)))
     have j2:J a (W1.setCell ⟨M + 7,0,none⟩ (.int .u64 (Y:Int))):=DF.out.set_ j1x.out B71.out (by decide) (by omega) _
     rw [<- hW2] at B62 B72 B82 B42 B52 O2 j2
     have F0:W2.cell? ⟨M,0,none⟩ = some (.pointer (some ⟨g,0,none⟩)):=by rw [hW2]; exact (World.cell?_setCell_other W1 _ _ _ (by simp)).trans E0
     have F2:W2.cell? ⟨M + 2,0,none⟩ = some (.int .i64 looks):=by rw [hW2]; exact (World.cell?_setCell_other W1 _ _ _ (by simp)).trans E2
     have F3:W2.cell? ⟨M + 3,0,none⟩ = some dv:=by rw [hW2]; exact (World.cell?_setCell_other W1 _ _ _ (by simp)).trans E3
     obtain ⟨f1,hf1⟩:∃ f1,f1 = Y:=⟨_,rfl⟩
     rw [<- hf1] at B72
     have ef:=Lib.hid (show f1 = fG (a ++ [Y]) by rw [sf.out,if_pos hf,hf1])
     replace hf1:=Lib.hid hf1
     replace hf:=Lib.hid hf
     replace hW2:=Lib.hid hW2
     gi_upto_region 10 with fail
     rw [<- hW2.out]
     replace hW2:=hW2.out
     rotate_left
     all_goals
      clear hW2 c7 v7 E0 E2 E3 z1f0 z2f0 z3f0
      have nu2:=nof.out W2 O2.1 _ _ _ B62 B72 B82
      have rest:∀ v3,Only (fun b => lo <= b /\ (b < M \/ IsU W2 b)) W2 v3 -> (Only (PkS lo M) Wx v3 /\ KeepsFrom (M + 11) Wx v3) /\ Boxed v3 (M + 6) 3 (.int .i64 (n1:Int)) /\ Boxed v3 (M + 7) 51 (.int .u64 (f1:Int)) /\ Boxed v3 (M + 8) 51 (.int .u64 (c0:Int)) /\ Boxed v3 (M + 4) 51 (.int .u64 0) /\ Boxed v3 (M + 5) 4 (.bool false) /\ v3.cell? ⟨M,0,none⟩ = some (.pointer (some ⟨g,0,none⟩)) /\ v3.cell? ⟨M + 2,0,none⟩ = some (.int .i64 looks):=fun v3 o => by
       have kb:∀ b,M <= b -> b < M + 11 -> v3.heap[b]? = W2.heap[b]?:=fun b h1 h2 => o.block b (by have:=O2.1.size; omega) (fun ⟨_,e⟩ => by
        rcases e with e | e
        ·omega
        ·exact nu2 b h1 h2 e)
       exact ⟨pks_trans O2 (pks_dead nu2 o),(kb _ (by omega) (by omega)).trans B62,(kb _ (by omega) (by omega)).trans B72,(kb _ (by omega) (by omega)).trans B82,(kb _ (by omega) (by omega)).trans B42,(kb _ (by omega) (by omega)).trans B52,
        (World.cell?_of_block (a:=⟨M,0,none⟩) (kb M (by omega) (by omega))).trans F0,(World.cell?_of_block (a:=⟨M + 2,0,none⟩) (kb (M + 2) (by omega) (by omega))).trans F2⟩
      have sW2:M <= W2.heap.size:=by have:=O2.1.size; omega
      replace rest:=Lib.hid rest
      replace j2:=Lib.hid j2
      clear B61 B71 B81 B41 B51 O1 j1x B62 B72 B82 B42 B52 O2 nu2 F0 F2 b6 b7 b8 jx nof
      rcases DF.out.ask with ⟨hdv,hD,hJ2⟩ | ⟨fd,caps,hdv,hen,hcall⟩
      ·exact absurd (hDY.out.symm.trans (hD Y)) (by decide)
      rw [hdv] at F3
      replace hdv:=Lib.hid hdv
      clear nfy
      have JC2:=hcall a Y W2 hyl j2.out sW2 hal2
      rw [hDY.out] at JC2
      replace JC2:=Lib.hid JC2
      clear hcall j2
      gi_wp2_with fail
      refine ⟨trivial,(CallsIn.inRound l' (callsIn_wide.2 JC2.out)).mono ?_⟩
      rintro e v3 ⟨rfl,j3,o3⟩
      obtain ⟨O3,B63,B73,B83,B43,B53,G0,G2⟩:=rest.out v3 o3
      clear JC2 rest o3
      have c4:=B43.cell
      have f4:=B43.frozen
      have c5:=B53.cell
      have f5:=B53.frozen
      have c6:=B63.cell
      have f6:=B63.frozen
      obtain ⟨W5,hW5⟩:∃ W5,W5 = ((v3.setCell ⟨M + 4,0,none⟩ (.int .u64 (Y:Int))).setCell ⟨M + 5,0,none⟩ (.bool true)).setCell ⟨M + 6,0,none⟩ (.int .i64 (n1:Int)):=⟨_,rfl⟩
      have D4:Boxed W5 (M + 4) 51 (.int .u64 (Y:Int)):=by rw [hW5]; exact ((B43.set _).other (by omega) _).other (by omega) _
      have D5:Boxed W5 (M + 5) 4 (.bool true):=by rw [hW5]; exact ((B53.other (by omega) _).set _).other (by omega) _
      have D6:Boxed W5 (M + 6) 3 (.int .i64 (n1:Int)):=by rw [hW5]; exact ((B63.other (by omega) _).other (by omega) _).set _
      have J5:J (a ++ [Y]) W5:=by
       rw [hW5]
       exact DF.out.set_ (DF.out.set_ (DF.out.set_ j3 B43 (by decide) (by omega) _) (B53.other (B':=M + 4) (by omega) (.int .u64 (Y:Int))) (by decide) (by omega) _) ((B63.other (B':=M + 4) (by omega) (.int .u64 (Y:Int))).other (B':=M + 5) (by omega) (.bool true)) (by decide) (by omega) _
      have O5:Only (fun b => PkS lo M b \/ b = M + 4 \/ b = M + 5) Wx W5 /\ KeepsFrom (M + 11) Wx W5:=by
       have o:Only (fun b => b = M + 4 \/ b = M + 5 \/ b = M + 6) v3 W5:=by
        rw [hW5]
        exact ((only_cell1 v3 (M + 4) 0 _ (.inl rfl)).trans (only_cell1 _ (M + 5) 0 _ (.inr (.inl rfl))) (fun _ _ e => e)).trans (only_cell1 _ (M + 6) 0 _ (.inr (.inr rfl))) (fun _ _ e => e)
       refine ⟨(O3.1.mono fun _ _ e => .inl e).trans o fun b _ e => ?_,O3.2.trans ⟨o.size,fun k ob hk ho hc => (o.block k (heap_lt ho) (fun e => by omega)).trans ho⟩⟩
       rcases e with e | e | e
       ·exact .inr (.inl e)
       ·exact .inr (.inr e)
       ·exact .inl (.inr (.inl e))
      have T:=Lib.hid (finD.out (by first | rfl | trivial) W5.drew D6 D4 D5 (DF.out.below J5 (below_drewN (Below.refl _ _) 1)) ⟨O5.1.drew,O5.2.size,O5.2.same⟩)
      replace hW5:=Lib.hid hW5
      clear B63 B73 B83 B43 B53 O3 j3 D4 D5 D6 J5 O5 fin finX finD
      gi_upto_region 11 with fail
      gi_region
      all_goals
       rw [<- hW5.out]
       gi_wp2
       first | exact ⟨T.out.1,.inr ⟨rfl,T.out.2⟩⟩ | exact ⟨by rw [z4]; exact T.out.1,.inr ⟨rfl,T.out.2⟩⟩
    | false =>
     clear finD
     rcases Nat.decEq c0 0 with hc | hc
     ·have z1c0:((c0:Int) == 0) = false:=by rw [beq_eq_false_iff_ne]; omega
      have z2c0:decide ((c0:Int) = 0) = false:=decide_eq_false (by omega)
      have z3c0:decide (c0 = 0) = false:=decide_eq_false (by omega)
      replace hc:=Lib.hid hc
      rcases Nat.decEq f0 0 with hf | hf
      have z1f0:((f0:Int) == 0) = false:=by rw [beq_eq_false_iff_ne]; omega
      have z2f0:decide ((f0:Int) = 0) = false:=decide_eq_false (by omega)
      have z3f0:decide (f0 = 0) = false:=decide_eq_false (by omega)
      obtain ⟨W2,hW2⟩:∃ W2,W2 = W1:=⟨_,rfl⟩
      have B62:=B61.out
      have B72:=B71.out
      have B82:=B81.out
      have B42:=B41.out
      have B52:=B51.out
      have O2:=O1.out
      have j2:=j1x.out
      have F0:=E0
      have F2:=E2
      have F3:=E3
      obtain ⟨f1,hf1⟩:∃ f1,f1 = f0:=⟨_,rfl⟩
      rw [<- hf1] at B72
      have ef:=Lib.hid (show f1 = fG (a ++ [Y]) by rw [sf.out,if_neg hf,hf1])
      replace hf1:=Lib.hid hf1
      replace hf:=Lib.hid hf
      gi_upto_region 10 with fail
      rw [<- hW2] at B62 B72 B82 B42 B52 O2 j2 F0 F2 F3 ⊢
      rotate_left
      have z1f0:((f0:Int) == 0) = true:=by rw [beq_iff_eq]; omega
      have z2f0:decide ((f0:Int) = 0) = true:=decide_eq_true (by omega)
      have z3f0:decide (f0 = 0) = true:=decide_eq_true (by omega)
      obtain ⟨W2,hW2⟩:∃ W2,W2 = W1.setCell ⟨M + 7,0,none⟩ (.int .u64 (Y:Int)):=⟨_,rfl⟩
      have B62:=B61.out.other (B':=M + 7) (by omega) (.int .u64 (Y:Int))
      have B72:=B71.out.set (.int .u64 (Y:Int))
      have B82:=B81.out.other (B':=M + 7) (by omega) (.int .u64 (Y:Int))
      have B42:=B41.out.other (B':=M + 7) (by omega) (.int .u64 (Y:Int))
      have B52:=B51.out.other (B':=M + 7) (by omega) (.int .u64 (Y:Int))
      have O2:=pks_trans O1.out (pks_set (lo:=lo) (M:=M) (X:=W1) (b:=M + 7) (.inr (.inl rfl)) (.int .u64 (Y:Int)))
      have j2:J a (W1.setCell ⟨M + 7,0,none⟩ (.int .u64 (Y:Int))):=DF.out.set_ j1x.out B71.out (by decide) (by omega) _
      rw [<- hW2] at B62 B72 B82 B42 B52 O2 j2
      have F0:W2.cell? ⟨M,0,none⟩ = some (.pointer (some ⟨g,0,none⟩)):=by rw [hW2]; exact (World.cell?_setCell_other W1 _ _ _ (by simp)).trans E0
      have F2:W2.cell? ⟨M + 2,0,none⟩ = some (.int .i64 looks):=by rw [hW2]; exact (World.cell?_setCell_other W1 _ _ _ (by simp)).trans E2
      have F3:W2.cell? ⟨M + 3,0,none⟩ = some dv:=by rw [hW2]; exact (World.cell?_setCell_other W1 _ _ _ (by simp)).trans E3
      obtain ⟨f1,hf1⟩:∃ f1,f1 = Y:=⟨_,rfl⟩
      rw [<- hf1] at B72
      have ef:=Lib.hid (show f1 = fG (a ++ [Y]) by rw [sf.out,if_pos hf,hf1])
      replace hf1:=Lib.hid hf1
      replace hf:=Lib.hid hf
      replace hW2:=Lib.hid hW2
      gi_upto_region 10 with fail
      rw [<- hW2.out]
      replace hW2:=hW2.out
      rotate_left
      all_goals
       clear hW2 c7 v7 E0 E2 E3 z1f0 z2f0 z3f0
       have nu2:=nof.out W2 O2.1 _ _ _ B62 B72 B82
       have rest:∀ v3,Only (fun b => lo <= b /\ (b < M \/ IsU W2 b)) W2 v3 -> (Only (PkS lo M) Wx v3 /\ KeepsFrom (M + 11) Wx v3) /\ Boxed v3 (M + 6) 3 (.int .i64 (n1:Int)) /\ Boxed v3 (M + 7) 51 (.int .u64 (f1:Int)) /\ Boxed v3 (M + 8) 51 (.int .u64 (c0:Int)) /\ Boxed v3 (M + 4) 51 (.int .u64 0) /\ Boxed v3 (M + 5) 4 (.bool false) /\ v3.cell? ⟨M,0,none⟩ = some (.pointer (some ⟨g,0,none⟩)) /\ v3.cell? ⟨M + 2,0,none⟩ = some (.int .i64 looks):=fun v3 o => by
        have kb:∀ b,M <= b -> b < M + 11 -> v3.heap[b]? = W2.heap[b]?:=fun b h1 h2 => o.block b (by have:=O2.1.size; omega) (fun ⟨_,e⟩ => by
         rcases e with e | e
         ·omega
         ·exact nu2 b h1 h2 e)
        exact ⟨pks_trans O2 (pks_dead nu2 o),(kb _ (by omega) (by omega)).trans B62,(kb _ (by omega) (by omega)).trans B72,(kb _ (by omega) (by omega)).trans B82,(kb _ (by omega) (by omega)).trans B42,(kb _ (by omega) (by omega)).trans B52,
         (World.cell?_of_block (a:=⟨M,0,none⟩) (kb M (by omega) (by omega))).trans F0,(World.cell?_of_block (a:=⟨M + 2,0,none⟩) (kb (M + 2) (by omega) (by omega))).trans F2⟩
       have sW2:M <= W2.heap.size:=by have:=O2.1.size; omega
       replace rest:=Lib.hid rest
       replace j2:=Lib.hid j2
       clear B61 B71 B81 B41 B51 O1 j1x B62 B72 B82 B42 B52 O2 nu2 F0 F2 b6 b7 b8 jx nof
       by_cases hn:(n1:Int) = looks
       have w1n:((n1:Int) == looks) = true:=by rw [beq_iff_eq]; exact hn
       have w2n:decide ((n1:Int) = looks) = true:=decide_eq_true hn
       replace fin:=Lib.hid (finX.out hn)
       clear finX
       rotate_left
       have w1n:((n1:Int) == looks) = false:=by rw [beq_eq_false_iff_ne]; exact hn
       have w2n:decide ((n1:Int) = looks) = false:=decide_eq_false hn
       replace fin:=Lib.hid (fin.out hn)
       clear finX
       rotate_left
       all_goals
        clear hn
        rcases DF.out.ask with ⟨hdv,hD,hJ2⟩ | ⟨fd,caps,hdv,hen,hcall⟩
        rw [hdv] at F3
        replace hdv:=Lib.hid hdv
        obtain ⟨O3,B63,B73,B83,B43,B53,G0,G2⟩:=rest.out W2 (Only.refl _ _)
        have j3:J (a ++ [Y]) W2:=hJ2 _ _ _ j2.out
        have c8:=B83.cell
        have v8:=B83.frozen
        have c6:=B63.cell
        clear rest j2 hD hJ2 nfx B43 B53
        gi_wp2_with fail
        refine ⟨fun _ h => (by cases h),?_⟩
        gi_wp2_with fail
        obtain ⟨v3,hv3⟩:∃ v3,v3 = W2:=⟨_,rfl⟩
        rw [<- hv3] at O3 B63 B73 B83 G0 G2 j3 ⊢
        clear hv3 c8 v8 c6
        have c8:=B83.cell
        have v8:=B83.frozen
        have c6:=B63.cell
        rotate_left
        rw [hdv] at F3
        replace hdv:=Lib.hid hdv
        clear nfy
        have JC2:=hcall a Y W2 hyl j2.out sW2 hal2
        rw [hDY.out] at JC2
        replace JC2:=Lib.hid JC2
        clear hcall j2
        gi_wp2_with fail
        refine ⟨trivial,(CallsIn.inRound l' (callsIn_wide.2 JC2.out)).mono ?_⟩
        rintro e v3 ⟨rfl,j3,o3⟩
        obtain ⟨O3,B63,B73,B83,B43,B53,G0,G2⟩:=rest.out v3 o3
        clear JC2 rest o3
        have c8:=B83.cell
        have v8:=B83.frozen
        have c6:=B63.cell
        clear B43 B53
        gi_wp2_with fail
        rotate_left
        all_goals
         have ec:c0 = cG A (a ++ [Y]):=by rw [sc.out,if_neg (fun h => hc.out h.1)]
         have T:=Lib.hid (fin.out (by first | rfl | trivial) v3 _ _ ef.out ec B63 B73 B83 j3 O3)
         replace ec:=Lib.hid ec
         clear B63 B73 B83 O3 j3 fin
         first
          | refine ⟨trivial,?_⟩
          | refine ⟨fun _ h => (by cases h),?_⟩
         gi_wp2
         first | exact T.out | exact ⟨by rw [z4]; exact T.out.1,T.out.2⟩ | exact ⟨T.out.1,.inl ⟨rfl,T.out.2⟩⟩ | exact ⟨by rw [z4]; exact T.out.1,.inl ⟨rfl,T.out.2⟩⟩
     ·have z1c0:((c0:Int) == 0) = true:=by rw [beq_iff_eq]; omega
      have z2c0:decide ((c0:Int) = 0) = true:=decide_eq_true (by omega)
      have z3c0:decide (c0 = 0) = true:=decide_eq_true (by omega)
      replace hc:=Lib.hid hc
      rcases Nat.decEq f0 0 with hf | hf
      have z1f0:((f0:Int) == 0) = false:=by rw [beq_eq_false_iff_ne]; omega
      have z2f0:decide ((f0:Int) = 0) = false:=decide_eq_false (by omega)
      have z3f0:decide (f0 = 0) = false:=decide_eq_false (by omega)
      obtain ⟨W2,hW2⟩:∃ W2,W2 = W1:=⟨_,rfl⟩
      have B62:=B61.out
      have B72:=B71.out
      have B82:=B81.out
      have B42:=B41.out
      have B52:=B51.out
      have O2:=O1.out
      have j2:=j1x.out
      have F0:=E0
      have F2:=E2
      have F3:=E3
      obtain ⟨f1,hf1⟩:∃ f1,f1 = f0:=⟨_,rfl⟩
      rw [<- hf1] at B72
      have ef:=Lib.hid (show f1 = fG (a ++ [Y]) by rw [sf.out,if_neg hf,hf1])
      replace hf1:=Lib.hid hf1
      replace hf:=Lib.hid hf
      gi_upto_region 10 with fail
      rw [<- hW2] at B62 B72 B82 B42 B52 O2 j2 F0 F2 F3 ⊢
      rotate_left
      have z1f0:((f0:Int) == 0) = true:=by rw [beq_iff_eq]; omega
      have z2f0:decide ((f0:Int) = 0) = true:=decide_eq_true (by omega)
      have z3f0:decide (f0 = 0) = true:=decide_eq_true (by omega)
      obtain ⟨W2,hW2⟩:∃ W2,W2 = W1.setCell ⟨M + 7,0,none⟩ (.int .u64 (Y:Int)):=⟨_,rfl⟩
      have B62:=B61.out.other (B':=M + 7) (by omega) (.int .u64 (Y:Int))
      have B72:=B71.out.set (.int .u64 (Y:Int))
      have B82:=B81.out.other (B':=M + 7) (by omega) (.int .u64 (Y:Int))
      have B42:=B41.out.other (B':=M + 7) (by omega) (.int .u64 (Y:Int))
      have B52:=B51.out.other (B':=M + 7) (by omega) (.int .u64 (Y:Int))
      have O2:=pks_trans O1.out (pks_set (lo:=lo) (M:=M) (X:=W1) (b:=M + 7) (.inr (.inl rfl)) (.int .u64 (Y:Int)))
      have j2:J a (W1.setCell ⟨M + 7,0,none⟩ (.int .u64 (Y:Int))):=DF.out.set_ j1x.out B71.out (by decide) (by omega) _
      rw [<- hW2] at B62 B72 B82 B42 B52 O2 j2
      have F0:W2.cell? ⟨M,0,none⟩ = some (.pointer (some ⟨g,0,none⟩)):=by rw [hW2]; exact (World.cell?_setCell_other W1 _ _ _ (by simp)).trans E0
      have F2:W2.cell? ⟨M + 2,0,none⟩ = some (.int .i64 looks):=by rw [hW2]; exact (World.cell?_setCell_other W1 _ _ _ (by simp)).trans E2
      have F3:W2.cell? ⟨M + 3,0,none⟩ = some dv:=by rw [hW2]; exact (World.cell?_setCell_other W1 _ _ _ (by simp)).trans E3
      obtain ⟨f1,hf1⟩:∃ f1,f1 = Y:=⟨_,rfl⟩
      rw [<- hf1] at B72
      have ef:=Lib.hid (show f1 = fG (a ++ [Y]) by rw [sf.out,if_pos hf,hf1])
      replace hf1:=Lib.hid hf1
      replace hf:=Lib.hid hf
      replace hW2:=Lib.hid hW2
      gi_upto_region 10 with fail
      rw [<- hW2.out]
      replace hW2:=hW2.out
      rotate_left
      all_goals
       clear hW2 c7 v7 E0 E2 E3 z1f0 z2f0 z3f0
       have nu2:=nof.out W2 O2.1 _ _ _ B62 B72 B82
       have rest:∀ v3,Only (fun b => lo <= b /\ (b < M \/ IsU W2 b)) W2 v3 -> (Only (PkS lo M) Wx v3 /\ KeepsFrom (M + 11) Wx v3) /\ Boxed v3 (M + 6) 3 (.int .i64 (n1:Int)) /\ Boxed v3 (M + 7) 51 (.int .u64 (f1:Int)) /\ Boxed v3 (M + 8) 51 (.int .u64 (c0:Int)) /\ Boxed v3 (M + 4) 51 (.int .u64 0) /\ Boxed v3 (M + 5) 4 (.bool false) /\ v3.cell? ⟨M,0,none⟩ = some (.pointer (some ⟨g,0,none⟩)) /\ v3.cell? ⟨M + 2,0,none⟩ = some (.int .i64 looks):=fun v3 o => by
        have kb:∀ b,M <= b -> b < M + 11 -> v3.heap[b]? = W2.heap[b]?:=fun b h1 h2 => o.block b (by have:=O2.1.size; omega) (fun ⟨_,e⟩ => by
         rcases e with e | e
         ·omega
         ·exact nu2 b h1 h2 e)
        exact ⟨pks_trans O2 (pks_dead nu2 o),(kb _ (by omega) (by omega)).trans B62,(kb _ (by omega) (by omega)).trans B72,(kb _ (by omega) (by omega)).trans B82,(kb _ (by omega) (by omega)).trans B42,(kb _ (by omega) (by omega)).trans B52,
         (World.cell?_of_block (a:=⟨M,0,none⟩) (kb M (by omega) (by omega))).trans F0,(World.cell?_of_block (a:=⟨M + 2,0,none⟩) (kb (M + 2) (by omega) (by omega))).trans F2⟩
       have sW2:M <= W2.heap.size:=by have:=O2.1.size; omega
       replace rest:=Lib.hid rest
       replace j2:=Lib.hid j2
       clear B61 B71 B81 B41 B51 O1 j1x B62 B72 B82 B42 B52 O2 nu2 F0 F2 b6 b7 b8 jx nof
       by_cases hn:(n1:Int) = looks
       have w1n:((n1:Int) == looks) = true:=by rw [beq_iff_eq]; exact hn
       have w2n:decide ((n1:Int) = looks) = true:=decide_eq_true hn
       replace fin:=Lib.hid (finX.out hn)
       clear finX
       rotate_left
       have w1n:((n1:Int) == looks) = false:=by rw [beq_eq_false_iff_ne]; exact hn
       have w2n:decide ((n1:Int) = looks) = false:=decide_eq_false hn
       replace fin:=Lib.hid (fin.out hn)
       clear finX
       rotate_left
       all_goals
        clear hn
        rcases DF.out.ask with ⟨hdv,hD,hJ2⟩ | ⟨fd,caps,hdv,hen,hcall⟩
        rw [hdv] at F3
        replace hdv:=Lib.hid hdv
        obtain ⟨O3,B63,B73,B83,B43,B53,G0,G2⟩:=rest.out W2 (Only.refl _ _)
        have j3:J (a ++ [Y]) W2:=hJ2 _ _ _ j2.out
        have c8:=B83.cell
        have v8:=B83.frozen
        have c6:=B63.cell
        clear rest j2 hD hJ2 nfx B43 B53
        gi_wp2_with fail
        refine ⟨fun _ h => (by cases h),?_⟩
        gi_wp2_with fail
        obtain ⟨v3,hv3⟩:∃ v3,v3 = W2:=⟨_,rfl⟩
        rw [<- hv3] at O3 B63 B73 B83 G0 G2 j3 ⊢
        clear hv3 c8 v8 c6
        have c8:=B83.cell
        have v8:=B83.frozen
        have c6:=B63.cell
        rotate_left
        rw [hdv] at F3
        replace hdv:=Lib.hid hdv
        clear nfy
        have JC2:=hcall a Y W2 hyl j2.out sW2 hal2
        rw [hDY.out] at JC2
        replace JC2:=Lib.hid JC2
        clear hcall j2
        gi_wp2_with fail
        refine ⟨trivial,(CallsIn.inRound l' (callsIn_wide.2 JC2.out)).mono ?_⟩
        rintro e v3 ⟨rfl,j3,o3⟩
        obtain ⟨O3,B63,B73,B83,B43,B53,G0,G2⟩:=rest.out v3 o3
        clear JC2 rest o3
        have c8:=B83.cell
        have v8:=B83.frozen
        have c6:=B63.cell
        clear B43 B53
        gi_wp2_with fail
        rotate_left
        all_goals
         have AC3:=ACx.out v3 O3.1
         have w3:∀ v4,Below v3.heap.size v3 v4 -> (Only (PkS lo M) Wx v4 /\ KeepsFrom (M + 11) Wx v4) /\ Boxed v4 (M + 6) 3 (.int .i64 (n1:Int)) /\ Boxed v4 (M + 7) 51 (.int .u64 (f1:Int)) /\ Boxed v4 (M + 8) 51 (.int .u64 (c0:Int)) /\ J (a ++ [Y]) v4 /\ v4.cell? ⟨M + 2,0,none⟩ = some (.int .i64 looks):=fun v4 b =>
          ⟨pks_trans O3 (pks_below b),(b.block _ (heap_lt B63)).trans B63,(b.block _ (heap_lt B73)).trans B73,(b.block _ (heap_lt B83)).trans B83,DF.out.below j3 b,(b.cell (p:=⟨M + 2,0,none⟩) (World.block_lt_of_cell? _ _ G2)).trans G2⟩
         replace w3:=Lib.hid w3
         replace AC3:=Lib.hid AC3
         clear B63 B73 B83 O3 j3 G2
         first
          | refine ⟨trivial,fun _ => by omega,?_⟩
          | refine ⟨trivial,?_⟩
         gi_at_call 70
         refine (CallsIn.inRound l' (callsIn_wide.2 AC3.out)).mono ?_
         rintro e v4 ⟨rfl,b4⟩
         obtain ⟨O4,B64,B74,B84,J4,G4⟩:=w3.out v4 b4
         cases b0 with
         | true =>
          have ec:c0 = cG A (a ++ [Y]):=by rw [sc.out,if_neg (fun h => by cases h.2)]
          have c6:=B64.cell
          have T:=Lib.hid (fin.out (by first | rfl | trivial) v4 _ _ ef.out ec B64 B74 B84 J4 O4)
          replace ec:=Lib.hid ec
          clear B64 B74 B84 O4 J4 w3 AC3 b4 fin
          gi_wp2
          first | exact T.out | exact ⟨by rw [z4]; exact T.out.1,T.out.2⟩ | exact ⟨T.out.1,.inl ⟨rfl,T.out.2⟩⟩ | exact ⟨by rw [z4]; exact T.out.1,.inl ⟨rfl,T.out.2⟩⟩
         | false =>
          have ec:Y = cG A (a ++ [Y]):=by rw [sc.out,if_pos ⟨hc.out,rfl⟩]
          have c6:=B64.cell
          have c8:=B84.cell
          have v8:=B84.frozen
          have T:=Lib.hid (fin.out (by first | rfl | trivial) (v4.setCell ⟨M + 8,0,none⟩ (.int .u64 (Y:Int))) _ _ ef.out ec (B64.other (B':=M + 8) (by omega) _) (B74.other (B':=M + 8) (by omega) _) (B84.set _) (DF.out.set_ J4 B84 (by decide) (by omega) _) (pks_trans O4 (pks_set (.inr (.inr rfl)) _)))
          replace ec:=Lib.hid ec
          clear B64 B74 B84 O4 J4 w3 AC3 b4 fin
          gi_wp2
          first | exact T.out | exact ⟨by rw [z4]; exact T.out.1,T.out.2⟩ | exact ⟨T.out.1,.inl ⟨rfl,T.out.2⟩⟩ | exact ⟨by rw [z4]; exact T.out.1,.inl ⟨rfl,T.out.2⟩⟩
  case done =>
   rintro D' pre Wx hD' hS ⟨b6,b7,b8,jx,oW,hg⟩ hK
   obtain ⟨a,hea⟩:∃ a,a = aG own pre:=⟨_,rfl⟩
   have ha0:∀ z ∈ a,z ≠ 0:=fun z hz => R0.out z (by
    rw [hea] at hz
    have:=(mem_othN hz).1
    rwa [hS] at this)
   have ep:a = seenN D looks.toNat (othN own row):=by
    rw [<- hkk.out, <- hS,hg.done,hea]
    rfl
   have no:∀ z ∈ a,D z = false:=by rw [hea]; exact hg.no
   obtain ⟨nm1,nm2⟩:=namedN_no (A:=A) (D:=D) no
   rw [calmN_eq ha0, <- fG_eq ha0, <- cG_eq ha0] at nm1
   rw [<- hea] at b6 b7 b8 jx
   have kept:∀ {b:Nat} {o:Obj},w4.heap[b]? = some o -> ¬ PkS lo M b -> Wx.heap[b]? = some o:=fun {b o} hb hn => (oW.block b (heap_lt hb) hn).trans hb
   have B4:Boxed Wx (M + 4) 51 (.int .u64 0):=kept k4.out (by unfold PkS; omega)
   have B5:Boxed Wx (M + 5) 4 (.bool false):=kept k5.out (by unfold PkS; omega)
   have c4:=B4.cell
   have f4:=B4.frozen
   have c5:=B5.cell
   have f5:=B5.frozen
   have c6:=b6.cell
   have v6:=b6.frozen
   have c7:=b7.cell
   have c8:=b8.cell
   have bF:Below wB.heap.size wB Wx:=bw4.out.trans (oW.toBelow fun k hk => ⟨by have:=hM2.out; have:=hlo2.out; omega,fun e => by have:=hlo2.out; unfold PkS at e; omega⟩)
   obtain ⟨n0,hn0⟩:∃ n0,n0 = a.length:=⟨_,rfl⟩
   obtain ⟨f0,hf0⟩:∃ f0,f0 = fG a:=⟨_,rfl⟩
   obtain ⟨c0,hc0⟩:∃ c0,c0 = cG A a:=⟨_,rfl⟩
   rw [<- hn0] at c6
   rw [<- hf0] at c7 nm1
   rw [<- hc0] at c8 nm1
   rw [<- hn0] at b6
   replace ep:=Lib.hid ep
   replace bF:=Lib.hid bF
   replace B4:=Lib.hid B4
   replace B5:=Lib.hid B5
   replace b6:=Lib.hid b6
   replace hK:=Lib.hid hK
   replace jx:=Lib.hid jx
   replace hn0:=Lib.hid hn0
   replace hf0:=Lib.hid hf0
   replace hc0:=Lib.hid hc0
   replace nm2:=Lib.hid nm2
   clear oW b7 b8 hea ha0 no kept
   by_cases hc:c0 = 0
   ·have z1:((c0:Int) == 0) = true:=by rw [beq_iff_eq]; omega
    have z2:((c0:Int) != 0) = false:=by rw [bne_eq_false_iff_eq]; omega
    have z3:decide ((c0:Int) = 0) = true:=decide_eq_true (by omega)
    have z5:decide (c0 = 0) = true:=decide_eq_true hc
    rw [if_pos hc] at nm1
    replace nm1:=Lib.hid nm1
    replace hc:=Lib.hid hc
    gi_upto_region 17 with fail
    gi_region
    obtain ⟨W5,hW5⟩:∃ W5,W5 = ((Wx.setCell ⟨M + 4,0,none⟩ (.int .u64 (f0:Int))).setCell ⟨M + 5,0,none⟩ (.bool false)).setCell ⟨M + 6,0,none⟩ (.int .i64 (n0:Int)):=⟨_,rfl⟩
    rw [<- hW5]
    have D4:Boxed W5 (M + 4) 51 (.int .u64 (f0:Int)):=by rw [hW5]; exact ((B4.out.set _).other (by omega) _).other (by omega) _
    have D5:Boxed W5 (M + 5) 4 (.bool false):=by rw [hW5]; exact ((B5.out.other (by omega) _).set _).other (by omega) _
    have D6:Boxed W5 (M + 6) 3 (.int .i64 (n0:Int)):=by rw [hW5]; exact ((b6.out.other (by omega) _).other (by omega) _).set _
    have hD2:W5.heap[D']? = some (.deferred (some [])):=by
     rw [hW5,Below.heap_setCell _ _ _ _ (by show D' ≠ M + 6; omega),Below.heap_setCell _ _ _ _ (by show D' ≠ M + 5; omega),Below.heap_setCell _ _ _ _ (by show D' ≠ M + 4; omega)]
     exact hK.out
    have J5:J a W5:=by
     rw [hW5]
     exact DF.out.set_ (DF.out.set_ (DF.out.set_ jx.out B4.out (by decide) (by omega) _) (B5.out.other (B':=M + 4) (by omega) (.int .u64 (f0:Int))) (by decide) (by omega) _) ((b6.out.other (B':=M + 4) (by omega) (.int .u64 (f0:Int))).other (B':=M + 5) (by omega) (.bool false)) (by decide) (by omega) _
    have J6:J a (W5.drew.putObj D' (.deferred none)):=DF.out.stay _ _ _ (DF.out.below J5 (below_drewN (Below.refl _ _) 1)) (grownBy_putObj' W5.drew D' _).size (fun k hk hc => World.putObj_heap_other (fun e => by
     subst e
     rcases hc with hc | hc
     ·omega
     ·exact isU_cells (show W5.drew.heap[k]? = _ from hD2) rfl hc))
    have bG:Below wB.heap.size wB W5.drew:=by
     rw [hW5]
     exact below_drewN (((bF.out.setCell (p:=⟨M + 4,0,none⟩) (by show _ <= M + 4; have:=hM2.out; have:=hlo2.out; omega) _).setCell (p:=⟨M + 5,0,none⟩) (by show _ <= M + 5; have:=hM2.out; have:=hlo2.out; omega) _).setCell (p:=⟨M + 6,0,none⟩) (by show _ <= M + 6; have:=hM2.out; have:=hlo2.out; omega) _) 1
    replace hW5:=Lib.hid hW5
    replace bG:=Lib.hid bG
    replace D4:=Lib.hid D4
    replace D5:=Lib.hid D5
    replace D6:=Lib.hid D6
    replace J6:=Lib.hid J6
    clear c4 f4 c5 f5 c6 v6 c7 c8 J5
    gi_wp2
    refine ⟨by simp,.inl ⟨_,_,rfl,run_takeDeferred (show W5.drew.heap[D']? = _ from hD2),?_⟩⟩
    have e4:(W5.drew.putObj D' (.deferred none)).cell? ⟨M + 4,0,none⟩ = some (.int .u64 (f0:Int)):=Blk.cell (g:=M + 4) ((World.putObj_heap_other (by omega)).trans D4.out) 0
    have e5:(W5.drew.putObj D' (.deferred none)).cell? ⟨M + 5,0,none⟩ = some (.bool false):=Blk.cell (g:=M + 5) ((World.putObj_heap_other (by omega)).trans D5.out) 0
    have e6:(W5.drew.putObj D' (.deferred none)).cell? ⟨M + 6,0,none⟩ = some (.int .i64 (n0:Int)):=Blk.cell (g:=M + 6) ((World.putObj_heap_other (by omega)).trans D6.out) 0
    exact ⟨_,results_cells3 (P:=Tryz.prog) rfl _ _ (M + 4) (M + 5) (M + 6) _ _ _ _ _ _ rfl rfl rfl e4 e5 e6 Tryz.underlying51 Tryz.underlying4 Tryz.underlying3 rfl rfl rfl,by rw [<- ep.out,nm1.out,nm2.out,hn0.out],by rw [<- ep.out]; exact J6.out,bG.out.grown (grownBy_putObj' _ D' _) bG.out.size (fun k e => by cases e; have:=hM2.out; have:=hlo2.out; omega)⟩
   ·have z1:((c0:Int) == 0) = false:=by rw [beq_eq_false_iff_ne]; omega
    have z2:((c0:Int) != 0) = true:=by rw [bne_iff_ne]; omega
    have z3:decide ((c0:Int) = 0) = false:=decide_eq_false (by omega)
    have z5:decide (c0 = 0) = false:=decide_eq_false hc
    rw [if_neg hc] at nm1
    replace nm1:=Lib.hid nm1
    replace hc:=Lib.hid hc
    gi_upto_region 16 with fail
    gi_region
    obtain ⟨W5,hW5⟩:∃ W5,W5 = ((Wx.setCell ⟨M + 4,0,none⟩ (.int .u64 (c0:Int))).setCell ⟨M + 5,0,none⟩ (.bool false)).setCell ⟨M + 6,0,none⟩ (.int .i64 (n0:Int)):=⟨_,rfl⟩
    rw [<- hW5]
    have D4:Boxed W5 (M + 4) 51 (.int .u64 (c0:Int)):=by rw [hW5]; exact ((B4.out.set _).other (by omega) _).other (by omega) _
    have D5:Boxed W5 (M + 5) 4 (.bool false):=by rw [hW5]; exact ((B5.out.other (by omega) _).set _).other (by omega) _
    have D6:Boxed W5 (M + 6) 3 (.int .i64 (n0:Int)):=by rw [hW5]; exact ((b6.out.other (by omega) _).other (by omega) _).set _
    have hD2:W5.heap[D']? = some (.deferred (some [])):=by
     rw [hW5,Below.heap_setCell _ _ _ _ (by show D' ≠ M + 6; omega),Below.heap_setCell _ _ _ _ (by show D' ≠ M + 5; omega),Below.heap_setCell _ _ _ _ (by show D' ≠ M + 4; omega)]
     exact hK.out
    have J5:J a W5:=by
     rw [hW5]
     exact DF.out.set_ (DF.out.set_ (DF.out.set_ jx.out B4.out (by decide) (by omega) _) (B5.out.other (B':=M + 4) (by omega) (.int .u64 (c0:Int))) (by decide) (by omega) _) ((b6.out.other (B':=M + 4) (by omega) (.int .u64 (c0:Int))).other (B':=M + 5) (by omega) (.bool false)) (by decide) (by omega) _
    have J6:J a (W5.drew.putObj D' (.deferred none)):=DF.out.stay _ _ _ (DF.out.below J5 (below_drewN (Below.refl _ _) 1)) (grownBy_putObj' W5.drew D' _).size (fun k hk hc => World.putObj_heap_other (fun e => by
     subst e
     rcases hc with hc | hc
     ·omega
     ·exact isU_cells (show W5.drew.heap[k]? = _ from hD2) rfl hc))
    have bG:Below wB.heap.size wB W5.drew:=by
     rw [hW5]
     exact below_drewN (((bF.out.setCell (p:=⟨M + 4,0,none⟩) (by show _ <= M + 4; have:=hM2.out; have:=hlo2.out; omega) _).setCell (p:=⟨M + 5,0,none⟩) (by show _ <= M + 5; have:=hM2.out; have:=hlo2.out; omega) _).setCell (p:=⟨M + 6,0,none⟩) (by show _ <= M + 6; have:=hM2.out; have:=hlo2.out; omega) _) 1
    replace hW5:=Lib.hid hW5
    replace bG:=Lib.hid bG
    replace D4:=Lib.hid D4
    replace D5:=Lib.hid D5
    replace D6:=Lib.hid D6
    replace J6:=Lib.hid J6
    clear c4 f4 c5 f5 c6 v6 c7 c8 J5
    gi_wp2
    refine ⟨by simp,.inl ⟨_,_,rfl,run_takeDeferred (show W5.drew.heap[D']? = _ from hD2),?_⟩⟩
    have e4:(W5.drew.putObj D' (.deferred none)).cell? ⟨M + 4,0,none⟩ = some (.int .u64 (c0:Int)):=Blk.cell (g:=M + 4) ((World.putObj_heap_other (by omega)).trans D4.out) 0
    have e5:(W5.drew.putObj D' (.deferred none)).cell? ⟨M + 5,0,none⟩ = some (.bool false):=Blk.cell (g:=M + 5) ((World.putObj_heap_other (by omega)).trans D5.out) 0
    have e6:(W5.drew.putObj D' (.deferred none)).cell? ⟨M + 6,0,none⟩ = some (.int .i64 (n0:Int)):=Blk.cell (g:=M + 6) ((World.putObj_heap_other (by omega)).trans D6.out) 0
    exact ⟨_,results_cells3 (P:=Tryz.prog) rfl _ _ (M + 4) (M + 5) (M + 6) _ _ _ _ _ _ rfl rfl rfl e4 e5 e6 Tryz.underlying51 Tryz.underlying4 Tryz.underlying3 rfl rfl rfl,by rw [<- ep.out,nm1.out,nm2.out,hn0.out],by rw [<- ep.out]; exact J6.out,bG.out.grown (grownBy_putObj' _ D' _) bG.out.size (fun k e => by cases e; have:=hM2.out; have:=hlo2.out; omega)⟩
  case stop =>
   rintro D' c' pre Wx hD' hSp (⟨rfl,b6,b7,b8,jx,oW,no,hfull⟩ | ⟨rfl,b6,b4,b5,jx,oW,hall,nm1,nm2⟩) hK
   ·obtain ⟨a,hea⟩:∃ a,a = aG own pre:=⟨_,rfl⟩
    have ha0:∀ z ∈ a,z ≠ 0:=fun z hz => R0.out z (by
     rw [hea] at hz
     have:=(mem_othN hz).1
     obtain ⟨t,ht⟩:=hSp
     rw [<- ht]
     exact List.mem_append_left _ this)
    have ep:a = seenN D looks.toNat (othN own row):=by
     obtain ⟨t,ht⟩:=hSp
     rw [<- hkk.out, <- ht,hea]
     exact (seenN_full (l:=t) no hfull).symm
    rw [<- hea] at no
    obtain ⟨nm1,nm2⟩:=namedN_no (A:=A) (D:=D) no
    rw [calmN_eq ha0, <- fG_eq ha0, <- cG_eq ha0] at nm1
    rw [<- hea] at b6 b7 b8 jx
    have kept:∀ {b:Nat} {o:Obj},w4.heap[b]? = some o -> ¬ PkS lo M b -> Wx.heap[b]? = some o:=fun {b o} hb hn => (oW.block b (heap_lt hb) hn).trans hb
    have B4:Boxed Wx (M + 4) 51 (.int .u64 0):=kept k4.out (by unfold PkS; omega)
    have B5:Boxed Wx (M + 5) 4 (.bool false):=kept k5.out (by unfold PkS; omega)
    have c4:=B4.cell
    have f4:=B4.frozen
    have c5:=B5.cell
    have f5:=B5.frozen
    have c6:=b6.cell
    have v6:=b6.frozen
    have c7:=b7.cell
    have c8:=b8.cell
    have bF:Below wB.heap.size wB Wx:=bw4.out.trans (oW.toBelow fun k hk => ⟨by have:=hM2.out; have:=hlo2.out; omega,fun e => by have:=hlo2.out; unfold PkS at e; omega⟩)
    obtain ⟨n0,hn0⟩:∃ n0,n0 = a.length:=⟨_,rfl⟩
    obtain ⟨f0,hf0⟩:∃ f0,f0 = fG a:=⟨_,rfl⟩
    obtain ⟨c0,hc0⟩:∃ c0,c0 = cG A a:=⟨_,rfl⟩
    rw [<- hn0] at c6
    rw [<- hf0] at c7 nm1
    rw [<- hc0] at c8 nm1
    rw [<- hn0] at b6
    replace ep:=Lib.hid ep
    replace bF:=Lib.hid bF
    replace B4:=Lib.hid B4
    replace B5:=Lib.hid B5
    replace b6:=Lib.hid b6
    replace hK:=Lib.hid hK
    replace jx:=Lib.hid jx
    replace hn0:=Lib.hid hn0
    replace hf0:=Lib.hid hf0
    replace hc0:=Lib.hid hc0
    replace nm2:=Lib.hid nm2
    clear oW b7 b8 hea ha0 no kept
    by_cases hc:c0 = 0
    ·have z1:((c0:Int) == 0) = true:=by rw [beq_iff_eq]; omega
     have z2:((c0:Int) != 0) = false:=by rw [bne_eq_false_iff_eq]; omega
     have z3:decide ((c0:Int) = 0) = true:=decide_eq_true (by omega)
     have z5:decide (c0 = 0) = true:=decide_eq_true hc
     rw [if_pos hc] at nm1
     replace nm1:=Lib.hid nm1
     replace hc:=Lib.hid hc
     gi_upto_region 17 with fail
     gi_region
     obtain ⟨W5,hW5⟩:∃ W5,W5 = ((Wx.setCell ⟨M + 4,0,none⟩ (.int .u64 (f0:Int))).setCell ⟨M + 5,0,none⟩ (.bool false)).setCell ⟨M + 6,0,none⟩ (.int .i64 (n0:Int)):=⟨_,rfl⟩
     rw [<- hW5]
     have D4:Boxed W5 (M + 4) 51 (.int .u64 (f0:Int)):=by rw [hW5]; exact ((B4.out.set _).other (by omega) _).other (by omega) _
     have D5:Boxed W5 (M + 5) 4 (.bool false):=by rw [hW5]; exact ((B5.out.other (by omega) _).set _).other (by omega) _
     have D6:Boxed W5 (M + 6) 3 (.int .i64 (n0:Int)):=by rw [hW5]; exact ((b6.out.other (by omega) _).other (by omega) _).set _
     have hD2:W5.heap[D']? = some (.deferred (some [])):=by
      rw [hW5,Below.heap_setCell _ _ _ _ (by show D' ≠ M + 6; omega),Below.heap_setCell _ _ _ _ (by show D' ≠ M + 5; omega),Below.heap_setCell _ _ _ _ (by show D' ≠ M + 4; omega)]
      exact hK.out
     have J5:J a W5:=by
      rw [hW5]
      exact DF.out.set_ (DF.out.set_ (DF.out.set_ jx.out B4.out (by decide) (by omega) _) (B5.out.other (B':=M + 4) (by omega) (.int .u64 (f0:Int))) (by decide) (by omega) _) ((b6.out.other (B':=M + 4) (by omega) (.int .u64 (f0:Int))).other (B':=M + 5) (by omega) (.bool false)) (by decide) (by omega) _
     have J6:J a (W5.drew.putObj D' (.deferred none)):=DF.out.stay _ _ _ (DF.out.below J5 (below_drewN (Below.refl _ _) 1)) (grownBy_putObj' W5.drew D' _).size (fun k hk hc => World.putObj_heap_other (fun e => by
      subst e
      rcases hc with hc | hc
      ·omega
      ·exact isU_cells (show W5.drew.heap[k]? = _ from hD2) rfl hc))
     have bG:Below wB.heap.size wB W5.drew:=by
      rw [hW5]
      exact below_drewN (((bF.out.setCell (p:=⟨M + 4,0,none⟩) (by show _ <= M + 4; have:=hM2.out; have:=hlo2.out; omega) _).setCell (p:=⟨M + 5,0,none⟩) (by show _ <= M + 5; have:=hM2.out; have:=hlo2.out; omega) _).setCell (p:=⟨M + 6,0,none⟩) (by show _ <= M + 6; have:=hM2.out; have:=hlo2.out; omega) _) 1
     replace hW5:=Lib.hid hW5
     replace bG:=Lib.hid bG
     replace D4:=Lib.hid D4
     replace D5:=Lib.hid D5
     replace D6:=Lib.hid D6
     replace J6:=Lib.hid J6
     clear c4 f4 c5 f5 c6 v6 c7 c8 J5
     gi_wp2
     refine ⟨by simp,.inl ⟨_,_,rfl,run_takeDeferred (show W5.drew.heap[D']? = _ from hD2),?_⟩⟩
     have e4:(W5.drew.putObj D' (.deferred none)).cell? ⟨M + 4,0,none⟩ = some (.int .u64 (f0:Int)):=Blk.cell (g:=M + 4) ((World.putObj_heap_other (by omega)).trans D4.out) 0
     have e5:(W5.drew.putObj D' (.deferred none)).cell? ⟨M + 5,0,none⟩ = some (.bool false):=Blk.cell (g:=M + 5) ((World.putObj_heap_other (by omega)).trans D5.out) 0
     have e6:(W5.drew.putObj D' (.deferred none)).cell? ⟨M + 6,0,none⟩ = some (.int .i64 (n0:Int)):=Blk.cell (g:=M + 6) ((World.putObj_heap_other (by omega)).trans D6.out) 0
     exact ⟨_,results_cells3 (P:=Tryz.prog) rfl _ _ (M + 4) (M + 5) (M + 6) _ _ _ _ _ _ rfl rfl rfl e4 e5 e6 Tryz.underlying51 Tryz.underlying4 Tryz.underlying3 rfl rfl rfl,by rw [<- ep.out,nm1.out,nm2.out,hn0.out],by rw [<- ep.out]; exact J6.out,bG.out.grown (grownBy_putObj' _ D' _) bG.out.size (fun k e => by cases e; have:=hM2.out; have:=hlo2.out; omega)⟩
    ·have z1:((c0:Int) == 0) = false:=by rw [beq_eq_false_iff_ne]; omega
     have z2:((c0:Int) != 0) = true:=by rw [bne_iff_ne]; omega
     have z3:decide ((c0:Int) = 0) = false:=decide_eq_false (by omega)
     have z5:decide (c0 = 0) = false:=decide_eq_false hc
     rw [if_neg hc] at nm1
     replace nm1:=Lib.hid nm1
     replace hc:=Lib.hid hc
     gi_upto_region 16 with fail
     gi_region
     obtain ⟨W5,hW5⟩:∃ W5,W5 = ((Wx.setCell ⟨M + 4,0,none⟩ (.int .u64 (c0:Int))).setCell ⟨M + 5,0,none⟩ (.bool false)).setCell ⟨M + 6,0,none⟩ (.int .i64 (n0:Int)):=⟨_,rfl⟩
     rw [<- hW5]
     have D4:Boxed W5 (M + 4) 51 (.int .u64 (c0:Int)):=by rw [hW5]; exact ((B4.out.set _).other (by omega) _).other (by omega) _
     have D5:Boxed W5 (M + 5) 4 (.bool false):=by rw [hW5]; exact ((B5.out.other (by omega) _).set _).other (by omega) _
     have D6:Boxed W5 (M + 6) 3 (.int .i64 (n0:Int)):=by rw [hW5]; exact ((b6.out.other (by omega) _).other (by omega) _).set _
     have hD2:W5.heap[D']? = some (.deferred (some [])):=by
      rw [hW5,Below.heap_setCell _ _ _ _ (by show D' ≠ M + 6; omega),Below.heap_setCell _ _ _ _ (by show D' ≠ M + 5; omega),Below.heap_setCell _ _ _ _ (by show D' ≠ M + 4; omega)]
      exact hK.out
     have J5:J a W5:=by
      rw [hW5]
      exact DF.out.set_ (DF.out.set_ (DF.out.set_ jx.out B4.out (by decide) (by omega) _) (B5.out.other (B':=M + 4) (by omega) (.int .u64 (c0:Int))) (by decide) (by omega) _) ((b6.out.other (B':=M + 4) (by omega) (.int .u64 (c0:Int))).other (B':=M + 5) (by omega) (.bool false)) (by decide) (by omega) _
     have J6:J a (W5.drew.putObj D' (.deferred none)):=DF.out.stay _ _ _ (DF.out.below J5 (below_drewN (Below.refl _ _) 1)) (grownBy_putObj' W5.drew D' _).size (fun k hk hc => World.putObj_heap_other (fun e => by
      subst e
      rcases hc with hc | hc
      ·omega
      ·exact isU_cells (show W5.drew.heap[k]? = _ from hD2) rfl hc))
     have bG:Below wB.heap.size wB W5.drew:=by
      rw [hW5]
      exact below_drewN (((bF.out.setCell (p:=⟨M + 4,0,none⟩) (by show _ <= M + 4; have:=hM2.out; have:=hlo2.out; omega) _).setCell (p:=⟨M + 5,0,none⟩) (by show _ <= M + 5; have:=hM2.out; have:=hlo2.out; omega) _).setCell (p:=⟨M + 6,0,none⟩) (by show _ <= M + 6; have:=hM2.out; have:=hlo2.out; omega) _) 1
     replace hW5:=Lib.hid hW5
     replace bG:=Lib.hid bG
     replace D4:=Lib.hid D4
     replace D5:=Lib.hid D5
     replace D6:=Lib.hid D6
     replace J6:=Lib.hid J6
     clear c4 f4 c5 f5 c6 v6 c7 c8 J5
     gi_wp2
     refine ⟨by simp,.inl ⟨_,_,rfl,run_takeDeferred (show W5.drew.heap[D']? = _ from hD2),?_⟩⟩
     have e4:(W5.drew.putObj D' (.deferred none)).cell? ⟨M + 4,0,none⟩ = some (.int .u64 (c0:Int)):=Blk.cell (g:=M + 4) ((World.putObj_heap_other (by omega)).trans D4.out) 0
     have e5:(W5.drew.putObj D' (.deferred none)).cell? ⟨M + 5,0,none⟩ = some (.bool false):=Blk.cell (g:=M + 5) ((World.putObj_heap_other (by omega)).trans D5.out) 0
     have e6:(W5.drew.putObj D' (.deferred none)).cell? ⟨M + 6,0,none⟩ = some (.int .i64 (n0:Int)):=Blk.cell (g:=M + 6) ((World.putObj_heap_other (by omega)).trans D6.out) 0
     exact ⟨_,results_cells3 (P:=Tryz.prog) rfl _ _ (M + 4) (M + 5) (M + 6) _ _ _ _ _ _ rfl rfl rfl e4 e5 e6 Tryz.underlying51 Tryz.underlying4 Tryz.underlying3 rfl rfl rfl,by rw [<- ep.out,nm1.out,nm2.out,hn0.out],by rw [<- ep.out]; exact J6.out,bG.out.grown (grownBy_putObj' _ D' _) bG.out.size (fun k e => by cases e; have:=hM2.out; have:=hlo2.out; omega)⟩
   ·obtain ⟨a,hea⟩:∃ a,a = aG own pre:=⟨_,rfl⟩
    have ep:a = seenN D looks.toNat (othN own row):=by
     obtain ⟨t,ht⟩:=hSp
     rw [<- hkk.out, <- ht,hea]
     exact (hall t).symm
    rw [<- hea] at b6 b4 jx nm1 nm2
    have J6:J a (Wx.putObj D' (.deferred none)):=DF.out.stay _ _ _ jx (grownBy_putObj' Wx D' _).size (fun k hk hc => World.putObj_heap_other (fun e => by
     subst e
     rcases hc with hc | hc
     ·omega
     ·exact isU_cells hK rfl hc))
    have bF:Below wB.heap.size wB Wx:=bw4.out.trans (oW.toBelow fun k hk => ⟨by have:=hM2.out; have:=hlo2.out; omega,fun e => by have:=hlo2.out; unfold PkS at e; omega⟩)
    have bG:Below wB.heap.size wB (Wx.putObj D' (.deferred none)):=bF.grown (grownBy_putObj' _ D' _) bF.size (fun k e => by cases e; have:=hM2.out; have:=hlo2.out; omega)
    have e4:(Wx.putObj D' (.deferred none)).cell? ⟨M + 4,0,none⟩ = some (.int .u64 (a.getLast?.getD 0:Int)):=Blk.cell (g:=M + 4) ((World.putObj_heap_other (by omega)).trans b4) 0
    have e5:(Wx.putObj D' (.deferred none)).cell? ⟨M + 5,0,none⟩ = some (.bool true):=Blk.cell (g:=M + 5) ((World.putObj_heap_other (by omega)).trans b5) 0
    have e6:(Wx.putObj D' (.deferred none)).cell? ⟨M + 6,0,none⟩ = some (.int .i64 (a.length:Int)):=Blk.cell (g:=M + 6) ((World.putObj_heap_other (by omega)).trans b6) 0
    replace ep:=Lib.hid ep
    replace nm1:=Lib.hid nm1
    replace nm2:=Lib.hid nm2
    replace J6:=Lib.hid J6
    replace bG:=Lib.hid bG
    replace hK:=Lib.hid hK
    clear oW b6 b4 b5 hall hSp jx hea bF
    gi_wp2
    refine ⟨by simp,.inl ⟨_,_,rfl,run_takeDeferred (show Wx.heap[D']? = _ from hK.out),?_⟩⟩
    exact ⟨_,results_cells3 (P:=Tryz.prog) rfl _ _ (M + 4) (M + 5) (M + 6) _ _ _ _ _ _ rfl rfl rfl e4 e5 e6 Tryz.underlying51 Tryz.underlying4 Tryz.underlying3 rfl rfl rfl,by rw [<- ep.out,nm1.out,nm2.out],by rw [<- ep.out]; exact J6.out,bG.out⟩
theorem pickC (x:Int) (own:Nat) (looks:Int) (hk:Cls.In looks):Calls Tryz.prog 33 #[.pointer (some ⟨g,0,none⟩),.int .i64 x,.int .u64 (own:Int),.int .i64 looks,.nilFunc] wB fun e w' =>
  e = .returned (.tuple #[.int .u64 (calmN (actB s Z mk) (seenN (fun _ => false) looks.toNat (othN own (rowX Ls x))):Int),.bool false,.int .i64 ((seenN (fun _ => false) looks.toNat (othN own (rowX Ls x))).length:Int)]) /\ Below wB.heap.size wB w':=by
 have DF:DeadFn wB.heap.size wB.heap.size (fun _ => false) .nilFunc (fun _ _ => True):=⟨Nat.le_refl _,fun _ _ _ _ _ _ => trivial,.inl ⟨rfl,fun _ => rfl,fun _ _ _ _ => trivial⟩⟩
 refine (pickDC h (Below.refl _ _) DF trivial x own looks hk).mono ?_
 rintro e w' ⟨rfl, -,b⟩
 obtain ⟨e1,e2⟩:=namedN_no (A:=actB s Z mk) (D:=fun _ => false) (l:=seenN (fun _ => false) looks.toNat (othN own (rowX Ls x))) (fun _ _ => rfl)
 rw [e1,e2]
 exact ⟨rfl,b⟩
end
end Go.Proofs.YtngehaiigbbknaaGreat.Que
/-
  Three items in the queues of class 0: what Balance makes of them, in plain numbers.
-/
namespace Go.Proofs.YtngehaiigbbknaaGreat.Que
open Go.RowKit Base Arena Cls Itm
def triL (h m c:List Nat):Nat -> Nat -> List Nat:=fun x k => if x = 0 then (if k = 0 then h else if k = 1 then m else if k = 2 then c else []) else []
theorem tri_one (l:List Nat):oneL 0 l = triL l [] []:=by
 funext x k
 unfold oneL triL
 by_cases hx:x = 0
 ·subst hx
  by_cases hk:k = 0
  ·subst hk; rfl
  ·rw [if_neg (fun e => hk e.2),if_pos rfl,if_neg hk]
   split
   ·rfl
   split <;> rfl
 ·rw [if_neg (fun e => hx e.1),if_neg hx]
theorem tri_len (h m c:List Nat):lenX (triL h m c) 0 1 = h.length /\ lenX (triL h m c) 0 2 = m.length /\ lenX (triL h m c) 0 3 = c.length:=by
 unfold lenX lsN
 rw [if_pos ⟨by decide,by rw [qc_nc]; decide,by decide,by decide⟩,if_pos ⟨by decide,by rw [qc_nc]; decide,by decide,by decide⟩,if_pos ⟨by decide,by rw [qc_nc]; decide,by decide,by decide⟩]
 exact ⟨rfl,rfl,rfl⟩
theorem tri_tail (h m c:List Nat):tailX (triL h m c) 0 1 = h.getLast?.getD 0 /\ tailX (triL h m c) 0 2 = m.getLast?.getD 0 /\ tailX (triL h m c) 0 3 = c.getLast?.getD 0:=by
 unfold tailX lsN
 rw [if_pos ⟨by decide,by rw [qc_nc]; decide,by decide,by decide⟩,if_pos ⟨by decide,by rw [qc_nc]; decide,by decide,by decide⟩,if_pos ⟨by decide,by rw [qc_nc]; decide,by decide,by decide⟩]
 exact ⟨rfl,rfl,rfl⟩
theorem tri_row (h m c:List Nat):rowX (triL h m c) 0 = c.reverse ++ m.reverse ++ h.reverse:=by
 unfold rowX revX lsN
 rw [if_pos ⟨by decide,by rw [qc_nc]; decide,by decide,by decide⟩,if_pos ⟨by decide,by rw [qc_nc]; decide,by decide,by decide⟩,if_pos ⟨by decide,by rw [qc_nc]; decide,by decide,by decide⟩]
 rfl
theorem tri_shift {s:St} {H:Nat} (hc:clsN qc s H = 0) {h m c:List Nat} (hm:H ∈ h):shiftN qc s (triL h m c) H 3 = (0,triL (h.erase H) m (H :: c)):=by
 have e0:triL h m c 0 0 = h:=rfl
 have es:stK 0 (triL h m c) H = 1:=by unfold stK; rw [e0,if_pos hm]
 unfold shiftN
 rw [if_neg (by decide),hc,es,if_neg (by decide)]
 unfold putN outN
 rw [es]
 refine Prod.ext rfl ?_
 funext x k
 unfold updL triL
 by_cases hx:x = 0
 ·subst hx
  by_cases h0:k = 0
  ·subst h0; rfl
  by_cases h1:k = 1
  ·subst h1; rfl
  by_cases h2:k = 2
  ·subst h2; rfl
  ·simp [h0,h1,h2]
 ·simp [hx]
theorem mkOn_even {mk:Nat -> Nat} (H:Nat) {K:Nat} (h:mk K % 2 = 0):mkOn mk H false K % 2 = 0:=by
 unfold mkOn
 by_cases e:K = H
 ·subst e
  rw [upd_at]
  show 2 * (mk K / 2) % 2 = 0
  omega
 ·rw [upd_ne _ _ e]; exact h
theorem actB_even {s:St} {Z:Nat -> Option Zd} {mk:Nat -> Nat} {H:Nat} (h:mk H % 2 = 0):actB s Z mk H = false:=by
 unfold actB
 rw [h]
 simp
theorem due_hot {s:St} {Z:Nat -> Option Zd} {mk:Nat -> Nat} {h m c:List Nat} (hh:((h.length + m.length + c.length:Nat):Int) * 34 < 100 * (h.length:Int)):dueK s Z (triL h m c) mk 34 34 0 = 1:=by
 obtain ⟨l1,l2,l3⟩:=tri_len h m c
 unfold dueK hotB totX
 rw [l1,l2,l3,decide_eq_true hh]
 rfl
theorem due_none {s:St} {Z:Nat -> Option Zd} {mk:Nat -> Nat} {h m c:List Nat} (hh:¬ ((h.length + m.length + c.length:Nat):Int) * 34 < 100 * (h.length:Int)) (hw:¬ ((h.length + m.length + c.length:Nat):Int) * 34 < 100 * (m.length:Int)) (hc:mk (c.getLast?.getD 0) % 2 = 0):dueK s Z (triL h m c) mk 34 34 0 = 0:=by
 obtain ⟨l1,l2,l3⟩:=tri_len h m c
 obtain ⟨t1,t2,t3⟩:=tri_tail h m c
 unfold dueK hotB warmB coldB totX
 rw [l1,l2,l3,t3,decide_eq_false hh,decide_eq_false hw,actB_even hc,Bool.and_false]
 rfl
theorem bal_three {s:St} {Z:Nat -> Option Zd} {mk:Nat -> Nat} {a b c:Nat} (ca:clsN qc s a = 0) (cb:clsN qc s b = 0) (ab:a ≠ b) (ac:a ≠ c) (bc:b ≠ c) (ha:mk a % 2 = 0) (hb:mk b % 2 = 0) (hc:mk c % 2 = 0) :
  (balN s Z 34 34 0 9 (triL [c,b,a] [] []) mk).1.length = 2 /\ (balN s Z 34 34 0 9 (triL [c,b,a] [] []) mk).2.1 = triL [c] [] [b,a] /\ ∀ K,mk K % 2 = 0 -> (balN s Z 34 34 0 9 (triL [c,b,a] [] []) mk).2.2 K % 2 = 0:=by
 have d1:dueK s Z (triL [c,b,a] [] []) mk 34 34 0 = 1:=due_hot (by show ((3:Nat):Int) * 34 < 100 * ((3:Nat):Int); decide)
 have h1:stepH s Z (triL [c,b,a] [] []) mk 34 34 0 = a:=by
  unfold stepH
  rw [d1]
  exact (tri_tail [c,b,a] [] []).1
 have L1:stepL s Z (triL [c,b,a] [] []) mk 34 34 0 = triL [c,b] [] [a]:=by
  unfold stepL toK
  rw [h1,actB_even ha,if_neg (by decide),tri_shift ca (by simp)]
  have : [c,b,a].erase a = [c,b]:=by simp [List.erase_cons,ac.symm,ab.symm]
  rw [this]
 have M1:stepM s Z (triL [c,b,a] [] []) mk 34 34 0 = mkOn mk a false:=by unfold stepM; rw [h1]
 have d2:dueK s Z (triL [c,b] [] [a]) (mkOn mk a false) 34 34 0 = 1:=due_hot (by show ((3:Nat):Int) * 34 < 100 * ((2:Nat):Int); decide)
 have h2:stepH s Z (triL [c,b] [] [a]) (mkOn mk a false) 34 34 0 = b:=by
  unfold stepH
  rw [d2]
  exact (tri_tail [c,b] [] [a]).1
 have L2:stepL s Z (triL [c,b] [] [a]) (mkOn mk a false) 34 34 0 = triL [c] [] [b,a]:=by
  unfold stepL toK
  rw [h2,actB_even (mkOn_even a hb),if_neg (by decide),tri_shift cb (by simp)]
  have : [c,b].erase b = [c]:=by simp [List.erase_cons,bc.symm]
  rw [this]
 have M2:stepM s Z (triL [c,b] [] [a]) (mkOn mk a false) 34 34 0 = mkOn (mkOn mk a false) b false:=by unfold stepM; rw [h2]
 have d3:dueK s Z (triL [c] [] [b,a]) (mkOn (mkOn mk a false) b false) 34 34 0 = 0:=due_none (by show ¬ ((3:Nat):Int) * 34 < 100 * ((1:Nat):Int); decide) (by show ¬ ((3:Nat):Int) * 34 < 100 * ((0:Nat):Int); decide) (mkOn_even b (mkOn_even a ha))
 rw [show (9:Nat) = 7 + 1 + 1 from rfl,balN_yes (by rw [d1]; decide),L1,M1,balN_yes (by rw [d2]; decide),L2,M2,balN_no d3]
 exact ⟨rfl,rfl,fun K hK => mkOn_even b (mkOn_even a hK)⟩
theorem pick_three {A:Nat -> Bool} {a b c:Nat} (a0:a ≠ 0) (b0:b ≠ 0) (c0:c ≠ 0) (ha:A a = false):seenN (fun _ => false) (5:Int).toNat (othN 0 [a,b,c]) = [a,b,c] /\ calmN A [a,b,c] = a:=by
 refine ⟨?_,by simp [calmN,List.find?,ha]⟩
 have:othN 0 [a,b,c] = [a,b,c]:=by simp [othN,a0,b0,c0]
 rw [this]
 rfl
section
variable {N:Nat} {w:World} {W:W6} {s:St} {bs:List UInt8} {Z:Nat -> Option Zd} {Ls Ld:Nat -> Nat -> List Nat} {r:RS} {laid told act:List Nat} {mk:Nat -> Nat} (h:WAt N w W qc s bs Z Ls Ld r laid told act mk) {g:Nat} (hg:W.gm = some g)
include h hg
theorem WAt.ls:LS w W.L s bs Z W.gq W.gl Ls mk g W.hot W.warm :=
 ⟨h.q,h.mks,h.lru g hg,(fun e => absurd (h.sep .lru .set g hg (by rw [e]; exact ⟨.bytes,rfl⟩)) (by decide)),(fun e => absurd (h.sep .lru .queue g hg (.inr e)) (by decide))⟩
theorem WAt.dl {w':World} {Ls':Nat -> Nat -> List Nat} {mk':Nat -> Nat} (D:DL w w' W.L s bs Z W.gq W.gl Ls' mk' g W.hot W.warm):∃ bs' Z',bs'.length = bs.length /\ (∀ H,(Z' H).isSome = (Z H).isSome) /\ Grew qc w w' W W s s /\ WAt N w' W qc s bs' Z' Ls' Ld r laid told act mk':=by
 obtain ⟨o,bs',Z',e1,z1,S1⟩:=D
 exact ⟨bs',Z',e1,z1,grew_turn o,h.turn o S1.q S1.m⟩
end
structure WL (N:Nat) (w0 w:World) (W:W6) (g d:Nat) (s:St) (bs:List UInt8) (Z:Nat -> Option Zd) (r:RS) (laid told act:List Nat) (mk:Nat -> Nat) (l:List Nat):Prop where
 bel:Below N w0 w
 wat:WAt N w W qc s bs Z (triL l [] []) (fun _ _ => []) r laid told act mk
 row:RowI s Z told l
 rel:Rel qc.cf s r
 rm:Rm s told.length
 bs:bs.length = qc.cf.ps * qc.cf.np
 ch:r.ch.length <= 16384 * told.length
 la:laid.length <= told.length
 al:act.length <= told.length
 gm:W.gm = some g
 dm:W.dm = some d
 hot:W.hot = 34
 warm:W.warm = 34
 ev:∀ H ∈ l,mk H % 2 = 0
def WLx (N:Nat) (w0 w:World) (W:W6) (g d:Nat) (told l:List Nat):Prop:=∃ s bs Z r laid act mk,WL N w0 w W g d s bs Z r laid told act mk l
def oz:Op6:=⟨0,0,0,0,0,false⟩
theorem oz_ok:oz.Ok:=⟨by unfold Cls.In; decide,by unfold Cls.In; decide,by unfold Cls.In; decide,by unfold Cls.In; decide,by decide⟩
section
variable {N:Nat} {w0 w:World} {W:W6} {g d:Nat} {told l:List Nat} (h:WLx N w0 w W g d told l)
include h
theorem WLx.below {w':World} (b:Below w.heap.size w w'):WLx N w0 w' W g d told l:=by
 obtain ⟨s,bs,Z,r,laid,act,mk,h⟩:=h
 exact ⟨s,bs,Z,r,laid,act,mk,h.bel.trans (b.mono h.wat.hN0),h.wat.below b,h.row,h.rel,h.rm,h.bs,h.ch,h.la,h.al,h.gm,h.dm,h.hot,h.warm,h.ev⟩
theorem WLx.cW:w.cell? ⟨W.b,2,none⟩ = some (.pointer (some ⟨g,0,none⟩)) /\ w.cell? ⟨W.b,6,none⟩ = some W.vT /\ w.ownsRow 0 50 1 W.vT told.length (told.map uv) /\ Below N w0 w /\ N <= w.heap.size:=by
 obtain ⟨s,bs,Z,r,laid,act,mk,h⟩:=h
 obtain ⟨c2, -⟩:=h.wat.cL
 rw [h.gm] at c2
 exact ⟨c2,h.wat.own.cell 6,h.wat.told,h.bel,h.wat.hN0⟩
theorem WLx.lt {H:Nat} (hH:H ∈ told):H < 18446744073709551616 /\ H ≠ 0:=by
 obtain ⟨s,bs,Z,r,laid,act,mk,h⟩:=h
 obtain ⟨i,x,p,hf, -⟩:=h.row.it H hH
 exact ⟨h.row.lt hH h.wat.okc h.wat.good,good_ne hf⟩
theorem WLx.make (ht:told.length < 60) :
  Calls Tryz.prog 42 #[.pointer (some ⟨W.b,0,none⟩),.agg #[.int .i64 0,.int .i64 0,.int .i64 0,.int .i64 0,.int .u64 0,.bool false]] w fun e w' => e = .returned (.bool true) /\ ∃ W' H,W'.b = W.b /\ H ∉ told /\ WLx N w0 w' W' g d (told ++ [H]) l:=by
 obtain ⟨s,bs,Z,r,laid,act,mk,h⟩:=h
 have ok:=h.wat.okc
 obtain ⟨s1,hr,hf⟩:=h.rm.room ok (by omega)
 obtain ⟨l0,p,hp⟩:=(room_good ok h.wat.good (by decide) hr).2
 obtain ⟨H0,h0⟩:∃ H0,H0 = hnd p (s1.gens (p / qc.cf.ps) (p % qc.cf.ps / qc.cf.sz 0)):=⟨_,rfl⟩
 obtain ⟨hn,rw'⟩:=h.row.make ok h.wat.good hr hp h0
 have hch:=h.ch
 have hla:=h.la
 have hal:=h.al
 refine (makesItem h.wat oz oz_ok h.rel h.bs (by omega) (by have:=free_short h.wat.good ok (k:=0) (by decide); exact Nat.le_trans (Nat.add_le_add_right this _) (by decide)) (by omega) (by omega) (by omega) h.dm hr hp h0 (by decide)).mono ?_
 rintro e w' ⟨rfl,b,W',r',⟨eb,eg,ed,eh,ew⟩,G,R',hc',bs',hb',A'⟩
 refine ⟨rfl,W',H0,eb,hn,_,_,_,_,_,_,_,h.bel.trans b,A',rw',R',?_,hb'.trans h.bs,?_,?_,?_,eg.trans h.gm,ed.trans h.dm,eh.trans h.hot,ew.trans h.warm,fun H hH => ?_⟩
 ·rw [List.length_append]
  exact Rm.take hf (by omega)
 ·rw [List.length_append,List.length_singleton]
  omega
 ·rw [List.length_append,List.length_singleton]
  unfold laidN
  split
  ·omega
  ·rw [List.length_append,List.length_singleton]; omega
 ·rw [List.length_append,List.length_singleton]
  unfold actN
  have:=dropA_len H0 act
  rw [List.length_append]
  split
  ·rw [List.length_singleton]; omega
  ·simp; omega
 ·rw [upd_ne _ _ (fun e => hn (by rw [<- e]; exact h.row.sub H hH))]
  exact h.ev H hH
theorem WLx.enter {H:Nat} (hH:H ∈ told) (hn:H ∉ l):Calls Tryz.prog 36 #[.pointer (some ⟨g,0,none⟩),.int .u64 (H:Int)] w fun e w' => e = .returned (.int .i64 0) /\ WLx N w0 w' W g d told (H :: l):=by
 obtain ⟨s,bs,Z,r,laid,act,mk,h⟩:=h
 have hP:=h.row.push hH (show 0 < 3 by decide) hn false
 rw [tri_one] at hP
 have hP':pushN qc s Z (triL l [] []) H 1 false = (0,triL (H :: l) [] []):=by
  rw [<- tri_one (H :: l)]
  exact hP
 have EC:=enterC (h.wat.ls h.gm) H (h.row.lt hH h.wat.okc h.wat.good)
 rw [hP'] at EC
 refine EC.mono ?_
 rintro e w' ⟨rfl,D⟩
 obtain ⟨bs',Z',e1,z1,G,A⟩:=h.wat.dl h.gm D
 refine ⟨rfl,s,bs',Z',r,laid,act,_,h.bel.trans (G.below h.wat.base h.wat.hN0),A,(h.row.add hH hn).1.z z1,h.rel,h.rm,e1.trans h.bs,h.ch,h.la,h.al,h.gm,h.dm,h.hot,h.warm,fun K hK => ?_⟩
 have em:entM mk H 0 = mkOn mk H false:=rfl
 show entM mk H 0 K % 2 = 0
 rw [em]
 rcases List.mem_cons.1 hK with rfl | hK
 ·unfold mkOn
  rw [upd_at]
  show 2 * (mk K / 2) % 2 = 0
  omega
 ·exact mkOn_even H (h.ev K hK)
end
theorem WLx.balance {N:Nat} {w0 w:World} {W:W6} {g d a b c:Nat} {told:List Nat} (h:WLx N w0 w W g d told [c,b,a]) :
  Calls Tryz.prog 19 #[.pointer (some ⟨g,0,none⟩),.int .i64 0,.int .i64 9,.nilFunc] w fun e w' => e = .returned (.int .i64 2) /\ Below N w0 w' /\ ∃ s bs Z mk L gq gl,LS w' L s bs Z gq gl (triL [c] [] [b,a]) mk g 34 34 /\ mk a % 2 = 0 /\ N <= w'.heap.size /\ w'.cell? ⟨W.b,2,none⟩ = some (.pointer (some ⟨g,0,none⟩)) /\ w'.cell? ⟨W.b,6,none⟩ = some W.vT /\ w'.ownsRow 0 50 1 W.vT told.length (told.map uv) /\ W.b < w'.heap.size:=by
 obtain ⟨s,bs,Z,r,laid,act,mk,h⟩:=h
 have nd:=h.row.nd
 have bc:c ≠ b:=fun e => by rw [e] at nd; simp at nd
 have ac:c ≠ a:=fun e => by rw [e] at nd; simp at nd
 have ab:b ≠ a:=fun e => by rw [e] at nd; simp at nd
 have B:=balanceC (h.wat.ls h.gm) ⟨by rw [h.hot]; decide,by rw [h.hot]; decide,by rw [h.warm]; decide,by rw [h.warm]; decide⟩ 0 9 (by unfold Cls.In; decide)
 rw [h.hot,h.warm,show ((9:Int)).toNat = 9 from rfl] at B
 obtain ⟨b1,b2,b3⟩:=bal_three (s:=s) (Z:=Z) (mk:=mk) (a:=a) (b:=b) (c:=c) (h.row.cl (h.row.sub a (by simp))) (h.row.cl (h.row.sub b (by simp))) ab.symm ac.symm bc.symm (h.ev a (by simp)) (h.ev b (by simp)) (h.ev c (by simp))
 rw [b1,b2] at B
 refine B.mono ?_
 rintro e w' ⟨rfl,D⟩
 have D':=D
 rw [<- h.hot,show (W.hot:Int) = W.hot from rfl] at D'
 obtain ⟨o,bs',Z',e1,z1,S1⟩:=D
 have A:=h.wat.turn o S1.q S1.m
 obtain ⟨c2, -⟩:=A.cL
 rw [h.gm] at c2
 exact ⟨rfl,h.bel.trans ((grew_turn o).below h.wat.base h.wat.hN0),s,bs',Z',_,_,_,_,S1,b3 a (h.ev a (by simp)),A.hN0,c2,A.own.cell 6,A.told,A.own.lt⟩
end Go.Proofs.YtngehaiigbbknaaGreat.Que
