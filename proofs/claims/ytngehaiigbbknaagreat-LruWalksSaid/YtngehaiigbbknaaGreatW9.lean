/-
  Contracts and lemmas, joined: LruMove, LruHit, LruQI, Ref6Ask, Ref6All, Ref6Next, Ref6Row, LruSet, LruStep, LruMakes.
-/
import Derived.Test.YtngehaiigbbknaaGreatW6
import Derived.Test.YtngehaiigbbknaaGreatW7
import Derived.Test.YtngehaiigbbknaaGreatW8
set_option linter.unusedSimpArgs false
set_option linter.unusedVariables false
set_option linter.unusedSectionVars false
set_option maxRecDepth 100000
/-
  The program's Lru: a step, Balance.
-/
namespace Go.Proofs.YtngehaiigbbknaaGreat.Que
open Go.RowKit Base Arena Cls Itm
theorem coldB_congr {s:St} {Z Z':Nat -> Option Zd} (h:∀ H,(Z' H).isSome = (Z H).isSome) (Ls:Nat -> Nat -> List Nat) (mk:Nat -> Nat) (x:Int):coldB s Z' Ls mk x = coldB s Z Ls mk x:=by
 unfold coldB
 rw [actB_congr h]
theorem dueK_congr {s:St} {Z Z':Nat -> Option Zd} (h:∀ H,(Z' H).isSome = (Z H).isSome) (Ls:Nat -> Nat -> List Nat) (mk:Nat -> Nat) (hot warm x:Int):dueK s Z' Ls mk hot warm x = dueK s Z Ls mk hot warm x:=by
 unfold dueK
 rw [coldB_congr h]
def stepH (s:St) (Z:Nat -> Option Zd) (Ls:Nat -> Nat -> List Nat) (mk:Nat -> Nat) (hot warm x:Int):Nat:=tailX Ls x (dueK s Z Ls mk hot warm x:Int)
def toK (s:St) (Z:Nat -> Option Zd) (mk:Nat -> Nat) (H:Nat):Int:=if actB s Z mk H then 2 else 3
def stepL (s:St) (Z:Nat -> Option Zd) (Ls:Nat -> Nat -> List Nat) (mk:Nat -> Nat) (hot warm x:Int):Nat -> Nat -> List Nat:=(shiftN qc s Ls (stepH s Z Ls mk hot warm x) (toK s Z mk (stepH s Z Ls mk hot warm x))).2
def stepM (s:St) (Z:Nat -> Option Zd) (Ls:Nat -> Nat -> List Nat) (mk:Nat -> Nat) (hot warm x:Int):Nat -> Nat:=mkOn mk (stepH s Z Ls mk hot warm x) false
theorem stepH_congr {s:St} {Z Z':Nat -> Option Zd} (h:∀ H,(Z' H).isSome = (Z H).isSome) (Ls:Nat -> Nat -> List Nat) (mk:Nat -> Nat) (hot warm x:Int):stepH s Z' Ls mk hot warm x = stepH s Z Ls mk hot warm x:=by
 unfold stepH
 rw [dueK_congr h]
theorem toK_congr {s:St} {Z Z':Nat -> Option Zd} (h:∀ H,(Z' H).isSome = (Z H).isSome) (mk:Nat -> Nat) (H:Nat):toK s Z' mk H = toK s Z mk H:=by
 unfold toK
 rw [actB_congr h]
theorem stepL_congr {s:St} {Z Z':Nat -> Option Zd} (h:∀ H,(Z' H).isSome = (Z H).isSome) (Ls:Nat -> Nat -> List Nat) (mk:Nat -> Nat) (hot warm x:Int):stepL s Z' Ls mk hot warm x = stepL s Z Ls mk hot warm x:=by
 unfold stepL
 rw [stepH_congr h,toK_congr h]
theorem stepM_congr {s:St} {Z Z':Nat -> Option Zd} (h:∀ H,(Z' H).isSome = (Z H).isSome) (Ls:Nat -> Nat -> List Nat) (mk:Nat -> Nat) (hot warm x:Int):stepM s Z' Ls mk hot warm x = stepM s Z Ls mk hot warm x:=by
 unfold stepM
 rw [stepH_congr h]
def balN (s:St) (Z:Nat -> Option Zd) (hot warm x:Int):Nat -> (Nat -> Nat -> List Nat) -> (Nat -> Nat) -> List Nat × (Nat -> Nat -> List Nat) × (Nat -> Nat)
 | 0,Ls,mk => ([],Ls,mk)
 | n + 1,Ls,mk => if dueK s Z Ls mk hot warm x = 0 then ([],Ls,mk) else
   (stepH s Z Ls mk hot warm x :: (balN s Z hot warm x n (stepL s Z Ls mk hot warm x) (stepM s Z Ls mk hot warm x)).1,(balN s Z hot warm x n (stepL s Z Ls mk hot warm x) (stepM s Z Ls mk hot warm x)).2)
theorem balN_no {s:St} {Z:Nat -> Option Zd} {hot warm x:Int} {n:Nat} {Ls:Nat -> Nat -> List Nat} {mk:Nat -> Nat} (h:dueK s Z Ls mk hot warm x = 0):balN s Z hot warm x n Ls mk = ([],Ls,mk):=by
 cases n with
 | zero => rfl
 | succ n => unfold balN; rw [if_pos h]
theorem balN_yes {s:St} {Z:Nat -> Option Zd} {hot warm x:Int} {n:Nat} {Ls:Nat -> Nat -> List Nat} {mk:Nat -> Nat} (h:dueK s Z Ls mk hot warm x ≠ 0):balN s Z hot warm x (n + 1) Ls mk = (stepH s Z Ls mk hot warm x :: (balN s Z hot warm x n (stepL s Z Ls mk hot warm x) (stepM s Z Ls mk hot warm x)).1,(balN s Z hot warm x n (stepL s Z Ls mk hot warm x) (stepM s Z Ls mk hot warm x)).2):=by
 conv => lhs; unfold balN
 rw [if_neg h]
theorem balN_len (s:St) (Z:Nat -> Option Zd) (hot warm x:Int):∀ (n:Nat) (Ls:Nat -> Nat -> List Nat) (mk:Nat -> Nat),(balN s Z hot warm x n Ls mk).1.length <= n
 | 0,Ls,mk => Nat.le_refl _
 | n + 1,Ls,mk => by
  by_cases h:dueK s Z Ls mk hot warm x = 0
  ·rw [balN_no h]; simp
  ·rw [balN_yes h]
   have:=balN_len s Z hot warm x n (stepL s Z Ls mk hot warm x) (stepM s Z Ls mk hot warm x)
   simp only [List.length_cons]
   omega
section
variable {w:World} {L:Lay} {s:St} {bs:List UInt8} {Z:Nat -> Option Zd} {gq gl:Nat} {Ls:Nat -> Nat -> List Nat} {mk:Nat -> Nat} {g:Nat} {hot warm:Int} (h:LS w L s bs Z gq gl Ls mk g hot warm)
include h
theorem LS.due (sh:Shr hot warm) (x:Int):(dueK s Z Ls mk hot warm x = 1 -> 0 < lenX Ls x 1) /\ (dueK s Z Ls mk hot warm x = 2 -> 0 < lenX Ls x 2) /\ (dueK s Z Ls mk hot warm x = 3 -> 0 < lenX Ls x 3) /\ dueK s Z Ls mk hot warm x <= 3:=by
 obtain ⟨h1, -,h2, -⟩:=sh
 have n1 : 0 <= (totX Ls x:Int) * hot:=Int.mul_nonneg (by omega) (by omega)
 have n2 : 0 <= (totX Ls x:Int) * warm:=Int.mul_nonneg (by omega) (by omega)
 unfold dueK
 split
 ·rename_i e
  unfold hotB at e
  have:=of_decide_eq_true e
  exact ⟨(fun _ => by omega),(fun e => absurd e (by decide)),(fun e => absurd e (by decide)),by omega⟩
 split
 ·rename_i e
  unfold warmB at e
  have:=of_decide_eq_true e
  exact ⟨(fun e => absurd e (by decide)),(fun _ => by omega),(fun e => absurd e (by decide)),by omega⟩
 split
 ·rename_i e
  unfold coldB at e
  have:=of_decide_eq_true (Bool.and_eq_true_iff.1 e).1
  exact ⟨(fun e => absurd e (by decide)),(fun e => absurd e (by decide)),(fun _ => by omega),by omega⟩
 ·exact ⟨(fun e => absurd e (by decide)),(fun e => absurd e (by decide)),(fun e => absurd e (by decide)),by omega⟩
end
-- PRINTED
theorem nil_func (w:World):Sem.run Tryz.prog (binOp BinOp.neq 67 .nilFunc .nilFunc) w = .ok (.bool false) w:=by kernel_rfl
theorem store_func (w:World) (g i:Nat) (f:Fn) (xs ys:Array Value) {t:TypeId} {cs:Array Value} (B:Blk w g t cs) (hi:i < cs.size):Sem.run Tryz.prog (store ⟨g,i,none⟩ (.func f xs ys)) w = .ok () (w.setCell ⟨g,i,none⟩ (.func f xs ys)):=by
 have h:=B.cell i
 have hf:=B.frozen i
 rw [Array.getElem?_eq_getElem hi] at h
 rw [run_store _ _ _ _ _ rfl]
 simp [stored,h,hf]
theorem rulesC (w:World):Calls Tryz.prog 86 #[] w fun e w' => e = .returned (.agg #[.int .i64 1,.func (.func 130) #[] #[],.int .i64 2,.func (.func 131) #[] #[],.int .i64 3,.func (.func 132) #[] #[]]) /\ Below w.heap.size w w':=by
 obtain ⟨w1,hw1⟩:∃ w1,w1 = w.alloc (.cells #[.int .i64 0,.nilFunc,.int .i64 0,.nilFunc,.int .i64 0,.nilFunc] 157):=⟨_,rfl⟩
 have B1:Blk w1 w.heap.size 157 #[.int .i64 0,.nilFunc,.int .i64 0,.nilFunc,.int .i64 0,.nilFunc]:=by rw [hw1]; exact Blk.new w _ _
 have b1:Below w.heap.size w w1:=by rw [hw1]; exact (Below.refl _ _).alloc (Nat.le_refl _) _
 have c0:=B1.cell 0
 have f0:=B1.frozen 0
 have c1:=B1.cell 1
 have f1:=B1.frozen 1
 have c2:=B1.cell 2
 have f2:=B1.frozen 2
 have c3:=B1.cell 3
 have f3:=B1.frozen 3
 have c4:=B1.cell 4
 have f4:=B1.frozen 4
 have c5:=B1.cell 5
 have f5:=B1.frozen 5
 replace hw1:=Lib.hid hw1
 replace b1:=Lib.hid b1
 generalize hN:w.heap.size = N at *
 replace hN:=Lib.hid hN
 have s1:=store_func (w1.setCell ⟨N,0,none⟩ (.int .i64 1)) N 1 (.func 130) #[] #[] (B1.set_ 0 _) (by decide)
 have s3:=store_func (((w1.setCell ⟨N,0,none⟩ (.int .i64 1)).setCell ⟨N,1,none⟩ (.func (.func 130) #[] #[])).setCell ⟨N,2,none⟩ (.int .i64 2)) N 3 (.func 131) #[] #[] (((B1.set_ 0 _).set_ 1 _).set_ 2 _) (by decide)
 have s5:=store_func (((((w1.setCell ⟨N,0,none⟩ (.int .i64 1)).setCell ⟨N,1,none⟩ (.func (.func 130) #[] #[])).setCell ⟨N,2,none⟩ (.int .i64 2)).setCell ⟨N,3,none⟩ (.func (.func 131) #[] #[])).setCell ⟨N,4,none⟩ (.int .i64 3)) N 5 (.func 132) #[] #[] (((((B1.set_ 0 _).set_ 1 _).set_ 2 _).set_ 3 _).set_ 4 _) (by decide)
 go_enter Tryz.func86,Tryz.ntmps86
 go_upto_region 1 with fail
 rw [hN.out, <- hw1.out]
 go_wp2
 have C2:Blk ((((((w1.setCell ⟨N,0,none⟩ (.int .i64 1)).setCell ⟨N,1,none⟩ (.func (.func 130) #[] #[])).setCell ⟨N,2,none⟩ (.int .i64 2)).setCell ⟨N,3,none⟩ (.func (.func 131) #[] #[])).setCell ⟨N,4,none⟩ (.int .i64 3)).setCell ⟨N,5,none⟩ (.func (.func 132) #[] #[])) N 157 #[.int .i64 1,.func (.func 130) #[] #[],.int .i64 2,.func (.func 131) #[] #[],.int .i64 3,.func (.func 132) #[] #[]]:=(((((B1.set_ 0 _).set_ 1 _).set_ 2 _).set_ 3 _).set_ 4 _).set_ 5 _
 have b2:=(((((b1.out.setCell (p:=⟨N,0,none⟩) (Nat.le_refl _) (.int .i64 1)).setCell (p:=⟨N,1,none⟩) (Nat.le_refl _) (.func (.func 130) #[] #[])).setCell (p:=⟨N,2,none⟩) (Nat.le_refl _) (.int .i64 2)).setCell (p:=⟨N,3,none⟩) (Nat.le_refl _) (.func (.func 131) #[] #[])).setCell (p:=⟨N,4,none⟩) (Nat.le_refl _) (.int .i64 3)).setCell (p:=⟨N,5,none⟩) (Nat.le_refl _) (.func (.func 132) #[] #[])
 exact bodyPost_ret (results_cell_row (P:=Tryz.prog) rfl _ _ N 157 _ (0,0) _ rfl C2 Tryz.underlying157 rfl (by kernel_rfl)) rfl ⟨rfl,b2⟩
theorem rule_at0 (w:World):Sem.run Tryz.prog (Instr.index 157 (.agg #[.int .i64 1,.func (.func 130) #[] #[],.int .i64 2,.func (.func 131) #[] #[],.int .i64 3,.func (.func 132) #[] #[]]) (.int .i64 0)) w = .ok (.agg #[.int .i64 1,.func (.func 130) #[] #[]]) w:=by kernel_rfl
theorem rule_at1 (w:World):Sem.run Tryz.prog (Instr.index 157 (.agg #[.int .i64 1,.func (.func 130) #[] #[],.int .i64 2,.func (.func 131) #[] #[],.int .i64 3,.func (.func 132) #[] #[]]) (.int .i64 1)) w = .ok (.agg #[.int .i64 2,.func (.func 131) #[] #[]]) w:=by kernel_rfl
theorem rule_at2 (w:World):Sem.run Tryz.prog (Instr.index 157 (.agg #[.int .i64 1,.func (.func 130) #[] #[],.int .i64 2,.func (.func 131) #[] #[],.int .i64 3,.func (.func 132) #[] #[]]) (.int .i64 2)) w = .ok (.agg #[.int .i64 3,.func (.func 132) #[] #[]]) w:=by kernel_rfl
def nxtL (s:St) (Z:Nat -> Option Zd) (Ls:Nat -> Nat -> List Nat) (mk:Nat -> Nat) (hot warm x:Int):Nat -> Nat -> List Nat:=if dueK s Z Ls mk hot warm x = 0 then Ls else stepL s Z Ls mk hot warm x
def nxtM (s:St) (Z:Nat -> Option Zd) (Ls:Nat -> Nat -> List Nat) (mk:Nat -> Nat) (hot warm x:Int):Nat -> Nat:=if dueK s Z Ls mk hot warm x = 0 then mk else stepM s Z Ls mk hot warm x
section
variable {w:World} {L:Lay} {s:St} {bs:List UInt8} {Z:Nat -> Option Zd} {gq gl:Nat} {Ls:Nat -> Nat -> List Nat} {mk:Nat -> Nat} {g:Nat} {hot warm:Int} (h:LS w L s bs Z gq gl Ls mk g hot warm)
include h
theorem LS.ruleA (x:Int) (k:Nat) (hk : 0 < lenX Ls x (k:Int)) (ed:dueK s Z Ls mk hot warm x = k) (k0:k ≠ 0):∃ (H:Nat) (B:Bool) (K:Int),H < 18446744073709551616 /\ (if B then (2:Int) else 3) = K /\
  (∀ v,Below w.heap.size w v -> Calls Tryz.prog 20 #[.pointer (some ⟨gq,0,none⟩),.int .i64 x,.int .i64 (k:Int)] v fun e v' => e = .returned (.tuple #[.int .u64 (H:Int),.bool true]) /\ v = v') /\
  (∀ v,Below w.heap.size w v -> Calls Tryz.prog 70 #[.pointer (some ⟨g,0,none⟩),.int .u64 (H:Int)] v fun e v' => e = .returned (.bool B) /\ Below v.heap.size v v') /\
  (∀ v,Below w.heap.size w v -> Calls Tryz.prog 58 #[.pointer (some ⟨gq,0,none⟩),.int .u64 (H:Int),.int .i64 K] v fun e v' => ∃ E:Nat,e = .returned (.int .i64 (E:Int)) /\
   Calls Tryz.prog 73 #[.pointer (some ⟨g,0,none⟩),.int .u64 (H:Int),.bool false] v' fun e v2 => e = .returned (.tuple #[]) /\ DL w v2 L s bs Z gq gl (nxtL s Z Ls mk hot warm x) (nxtM s Z Ls mk hot warm x) g hot warm):=by
 obtain ⟨hI,hH,hx,hm⟩:=h.tail hk
 have eH:stepH s Z Ls mk hot warm x = tailX Ls x (k:Int):=by unfold stepH; rw [ed]
 refine ⟨tailX Ls x (k:Int),actB s Z mk (tailX Ls x (k:Int)),toK s Z mk (tailX Ls x (k:Int)),hH,rfl,fun v b => ?_,fun v b => activeC (h.below b) _ hH,fun v b => ?_⟩
 ·have:=tailC (h.below b).q x (k:Int)
  rw [show decide (0 < (lsN qc Ls x (k:Int)).length) = true from decide_eq_true hk] at this
  exact this
 ·have hv:=h.below b
  refine (shiftP hv.q _ hH (toK s Z mk (tailX Ls x (k:Int)))).mono ?_
  rintro e v' ⟨rfl,D⟩
  refine ⟨_,rfl,?_⟩
  have D1:=hv.did D
  obtain ⟨o1,bs1,Z1,e1,z1,S1⟩:=D1
  refine (lmarkC S1 _ hH (by rw [isN_congr z1]; exact isN_it hI) false).mono ?_
  rintro e v2 ⟨rfl,o2,bs2,Z2,e2,z2,S2⟩
  refine ⟨rfl,two_trans (below_two b) (two_trans o1 o2),bs2,Z2,e2.trans e1,fun H => (z2 H).trans (z1 H),?_⟩
  unfold nxtL nxtM
  rw [if_neg (by rw [ed]; exact k0),if_neg (by rw [ed]; exact k0)]
  unfold stepL stepM
  rw [eH]
  exact S2
theorem LS.stay (x:Int) (ed:dueK s Z Ls mk hot warm x = 0) {v:World} (b:Below w.heap.size w v):DL w v L s bs Z gq gl (nxtL s Z Ls mk hot warm x) (nxtM s Z Ls mk hot warm x) g hot warm:=by
 unfold nxtL nxtM
 rw [if_pos ed,if_pos ed]
 exact h.same b
set_option maxHeartbeats 1600000 in
theorem stepC (sh:Shr hot warm) (x:Int):Calls Tryz.prog 44 #[.pointer (some ⟨g,0,none⟩),.int .i64 x,.nilFunc] w fun e w' => e = .returned (.bool (decide (dueK s Z Ls mk hot warm x ≠ 0))) /\ DL w w' L s bs Z gq gl (nxtL s Z Ls mk hot warm x) (nxtM s Z Ls mk hot warm x) g hot warm:=by
 obtain ⟨u1,u2,u3,u4⟩:=h.due sh x
 have CE:=fun v (b:Below w.heap.size w v) => (h.below b).cells.2.1
 have HL:=fun v (b:Below w.heap.size w v) => hotLongC (h.below b) sh x
 have WL:=fun v (b:Below w.heap.size w v) => warmLongC (h.below b) sh x
 have CL:=fun v (b:Below w.heap.size w v) => coldActiveC (h.below b) x
 have A1:=fun e => h.ruleA x 1 (u1 e) e (by decide)
 have A2:=fun e => h.ruleA x 2 (u2 e) e (by decide)
 have A3:=fun e => h.ruleA x 3 (u3 e) e (by decide)
 have A0:=fun e v (b:Below w.heap.size w v) => h.stay x e b
 have hdu:dueK s Z Ls mk hot warm x = if hotB Ls hot x then 1 else if warmB Ls warm x then 2 else if coldB s Z Ls mk x then 3 else 0:=rfl
 have RC:=Lib.hid (rulesC w)
 generalize dueK s Z Ls mk hot warm x = D at *
 generalize hotB Ls hot x = bh at *
 generalize warmB Ls warm x = bw at *
 generalize coldB s Z Ls mk x = bc at *
 replace CE:=Lib.hid CE
 replace HL:=Lib.hid HL
 replace WL:=Lib.hid WL
 replace CL:=Lib.hid CL
 replace A0:=Lib.hid A0
 replace A1:=Lib.hid A1
 replace A2:=Lib.hid A2
 replace A3:=Lib.hid A3
 replace hdu:=Lib.hid hdu
 clear h u1 u2 u3 u4 sh
 go_enter Tryz.func44,Tryz.ntmps44
 go_wp2_with fail
 refine RC.out.mono ?_
 rintro e w1 ⟨rfl,b1⟩
 replace b1:=Lib.hid b1
 go_wp2_with fail
 go_loopw [13] (fun vi wr => Hid (Below w.heap.size w wr) /\ (vi = .int .i64 0 \/ (vi = .int .i64 1 /\ Hid (bh = false)) \/ (vi = .int .i64 2 /\ Hid (bh = false) /\ Hid (bw = false)) \/ (vi = .int .i64 3 /\ Hid (bh = false) /\ Hid (bw = false) /\ Hid (bc = false)))) (fun vi _ => 3 - (intOf vi).toNat)
 case atStart => exact ⟨b1,.inl rfl⟩
 case round =>
  obtain ⟨br,rfl | ⟨rfl,f1⟩ | ⟨rfl,f1,f2⟩ | ⟨rfl,f1,f2,f3⟩⟩:=hrel
  ·obtain ⟨N,hN⟩:∃ N,N = wr.heap.size:=⟨_,rfl⟩
   have ea:=Blk.new wr 156 #[.int .i64 1,.nilFunc]
   have sx:=store_func (wr.alloc (.cells #[.int .i64 1,.nilFunc] 156)) wr.heap.size 1 (.func 130) #[] #[] ea (by decide)
   obtain ⟨w2,hw2⟩:∃ w2,w2 = wr.alloc (.cells #[.int .i64 1,.func (.func 130) #[] #[]] 156):=⟨_,rfl⟩
   have B2:Blk w2 N 156 #[.int .i64 1,.func (.func 130) #[] #[]]:=by rw [hw2,hN]; exact Blk.new wr _ _
   have b2:Below w.heap.size w w2:=by rw [hw2]; exact br.out.alloc br.out.size _
   replace ea:=Lib.hid ea
   have x1:=B2.cell 1
   have DC:=Lib.hid (HL.out w2 b2)
   have q1:IntKind.i64.wrap (0 + 1) = 1:=rfl
   have ix:=rule_at0 wr
   replace hw2:=Lib.hid hw2
   replace hN:=Lib.hid hN
   replace B2:=Lib.hid B2
   replace b2:=Lib.hid b2
   clear br
   go_upto_region 4 with fail
   rw [<- hw2.out, <- hN.out]
   go_wp2_with fail
   refine DC.out.mono ?_
   rintro e w3 ⟨rfl,c3⟩
   have b3:=b2.out.trans (c3.mono b2.out.size)
   have B3:=B2.out.below c3 B2.out.lt
   have x0:=B3.cell 0
   cases hb:bh with
   | true =>
    have ed:D = 1:=by rw [hdu.out,hb]; rfl
    obtain ⟨H,B,K,hH,hK,TC,AC,SC⟩:=A1.out ed
    have y1:=CE.out w3 b3
    have e1:decide (D ≠ 0) = true:=by rw [ed]; rfl
    have TC3:=Lib.hid (fun nq => TC (w3.drewN nq) (below_drewN b3 nq))
    replace AC:=Lib.hid AC
    replace SC:=Lib.hid SC
    replace ed:=Lib.hid ed
    replace b3:=Lib.hid b3
    replace e1:=Lib.hid e1
    replace B3:=Lib.hid B3
    clear hb hH c3 DC TC
    cases B with
    | false =>
     obtain rfl:(3:Int) = K:=hK
     go_upto_region 5 with fail
     go_quiet (first | (go_at_call 20; with_reducible exact quiet_left (TC3.out _)) | fail)
     rename Nat => nq1
     obtain ⟨w4,hw4⟩:∃ w4,w4 = w3.drewN nq1:=⟨_,rfl⟩
     rw [<- hw4]
     have b4:Below w.heap.size w w4:=by rw [hw4]; exact below_drewN b3.out nq1
     have AC4:=Lib.hid (AC.out w4 b4)
     replace b4:=Lib.hid b4
     replace hw4:=Lib.hid hw4
     clear AC TC3 b3
     go_wp2_with fail
     refine AC4.out.mono ?_
     rintro e w5 ⟨rfl,c5⟩
     have b5:=b4.out.trans (c5.mono b4.out.size)
     have y5:=CE.out w5 b5
     have nf:=nil_func w5
     have SC5:=Lib.hid (SC.out w5 b5)
     clear c5 b5 b4 AC4 SC
     go_wp2_with fail
     refine SC5.out.mono ?_
     rintro e w6 ⟨E,rfl,MK⟩
     replace MK:=Lib.hid MK
     clear SC5
     go_wp2_with fail
     refine MK.out.mono ?_
     rintro e w7 ⟨rfl,T⟩
     replace T:=Lib.hid T
     clear MK
     go_wp2
     go_ret
     exact ⟨by rw [e1.out]; rfl,T.out⟩
    | true =>
     obtain rfl:(2:Int) = K:=hK
     go_upto_region 5 with fail
     go_quiet (first | (go_at_call 20; with_reducible exact quiet_left (TC3.out _)) | fail)
     rename Nat => nq1
     obtain ⟨w4,hw4⟩:∃ w4,w4 = w3.drewN nq1:=⟨_,rfl⟩
     rw [<- hw4]
     have b4:Below w.heap.size w w4:=by rw [hw4]; exact below_drewN b3.out nq1
     have AC4:=Lib.hid (AC.out w4 b4)
     replace b4:=Lib.hid b4
     replace hw4:=Lib.hid hw4
     clear AC TC3 b3
     go_wp2_with fail
     refine AC4.out.mono ?_
     rintro e w5 ⟨rfl,c5⟩
     have b5:=b4.out.trans (c5.mono b4.out.size)
     have y5:=CE.out w5 b5
     have nf:=nil_func w5
     have SC5:=Lib.hid (SC.out w5 b5)
     clear c5 b5 b4 AC4 SC
     go_wp2_with fail
     refine SC5.out.mono ?_
     rintro e w6 ⟨E,rfl,MK⟩
     replace MK:=Lib.hid MK
     clear SC5
     go_wp2_with fail
     refine MK.out.mono ?_
     rintro e w7 ⟨rfl,T⟩
     replace T:=Lib.hid T
     clear MK
     go_wp2
     go_ret
     exact ⟨by rw [e1.out]; rfl,T.out⟩
   | false =>
    have fx:=Lib.hid hb
    replace b3:=Lib.hid b3
    clear c3 DC B3 hb
    go_wp2
    go_roundw
    case rel => exact ⟨b3,.inr (.inl ⟨rfl,fx⟩)⟩
    case measure => simp [intOf]
  ·obtain ⟨N,hN⟩:∃ N,N = wr.heap.size:=⟨_,rfl⟩
   have ea:=Blk.new wr 156 #[.int .i64 2,.nilFunc]
   have sx:=store_func (wr.alloc (.cells #[.int .i64 2,.nilFunc] 156)) wr.heap.size 1 (.func 131) #[] #[] ea (by decide)
   obtain ⟨w2,hw2⟩:∃ w2,w2 = wr.alloc (.cells #[.int .i64 2,.func (.func 131) #[] #[]] 156):=⟨_,rfl⟩
   have B2:Blk w2 N 156 #[.int .i64 2,.func (.func 131) #[] #[]]:=by rw [hw2,hN]; exact Blk.new wr _ _
   have b2:Below w.heap.size w w2:=by rw [hw2]; exact br.out.alloc br.out.size _
   replace ea:=Lib.hid ea
   have x1:=B2.cell 1
   have DC:=Lib.hid (WL.out w2 b2)
   have q1:IntKind.i64.wrap (1 + 1) = 2:=rfl
   have ix:=rule_at1 wr
   replace hw2:=Lib.hid hw2
   replace hN:=Lib.hid hN
   replace B2:=Lib.hid B2
   replace b2:=Lib.hid b2
   clear br
   go_upto_region 4 with fail
   rw [<- hw2.out, <- hN.out]
   go_wp2_with fail
   refine DC.out.mono ?_
   rintro e w3 ⟨rfl,c3⟩
   have b3:=b2.out.trans (c3.mono b2.out.size)
   have B3:=B2.out.below c3 B2.out.lt
   have x0:=B3.cell 0
   cases hb:bw with
   | true =>
    have ed:D = 2:=by rw [hdu.out,f1.out,hb]; rfl
    obtain ⟨H,B,K,hH,hK,TC,AC,SC⟩:=A2.out ed
    have y1:=CE.out w3 b3
    have e1:decide (D ≠ 0) = true:=by rw [ed]; rfl
    have TC3:=Lib.hid (fun nq => TC (w3.drewN nq) (below_drewN b3 nq))
    replace AC:=Lib.hid AC
    replace SC:=Lib.hid SC
    replace ed:=Lib.hid ed
    replace b3:=Lib.hid b3
    replace e1:=Lib.hid e1
    replace B3:=Lib.hid B3
    clear hb hH c3 DC TC
    cases B with
    | false =>
     obtain rfl:(3:Int) = K:=hK
     go_upto_region 5 with fail
     go_quiet (first | (go_at_call 20; with_reducible exact quiet_left (TC3.out _)) | fail)
     rename Nat => nq1
     obtain ⟨w4,hw4⟩:∃ w4,w4 = w3.drewN nq1:=⟨_,rfl⟩
     rw [<- hw4]
     have b4:Below w.heap.size w w4:=by rw [hw4]; exact below_drewN b3.out nq1
     have AC4:=Lib.hid (AC.out w4 b4)
     replace b4:=Lib.hid b4
     replace hw4:=Lib.hid hw4
     clear AC TC3 b3
     go_wp2_with fail
     refine AC4.out.mono ?_
     rintro e w5 ⟨rfl,c5⟩
     have b5:=b4.out.trans (c5.mono b4.out.size)
     have y5:=CE.out w5 b5
     have nf:=nil_func w5
     have SC5:=Lib.hid (SC.out w5 b5)
     clear c5 b5 b4 AC4 SC
     go_wp2_with fail
     refine SC5.out.mono ?_
     rintro e w6 ⟨E,rfl,MK⟩
     replace MK:=Lib.hid MK
     clear SC5
     go_wp2_with fail
     refine MK.out.mono ?_
     rintro e w7 ⟨rfl,T⟩
     replace T:=Lib.hid T
     clear MK
     go_wp2
     go_ret
     exact ⟨by rw [e1.out]; rfl,T.out⟩
    | true =>
     obtain rfl:(2:Int) = K:=hK
     go_upto_region 5 with fail
     go_quiet (first | (go_at_call 20; with_reducible exact quiet_left (TC3.out _)) | fail)
     rename Nat => nq1
     obtain ⟨w4,hw4⟩:∃ w4,w4 = w3.drewN nq1:=⟨_,rfl⟩
     rw [<- hw4]
     have b4:Below w.heap.size w w4:=by rw [hw4]; exact below_drewN b3.out nq1
     have AC4:=Lib.hid (AC.out w4 b4)
     replace b4:=Lib.hid b4
     replace hw4:=Lib.hid hw4
     clear AC TC3 b3
     go_wp2_with fail
     refine AC4.out.mono ?_
     rintro e w5 ⟨rfl,c5⟩
     have b5:=b4.out.trans (c5.mono b4.out.size)
     have y5:=CE.out w5 b5
     have nf:=nil_func w5
     have SC5:=Lib.hid (SC.out w5 b5)
     clear c5 b5 b4 AC4 SC
     go_wp2_with fail
     refine SC5.out.mono ?_
     rintro e w6 ⟨E,rfl,MK⟩
     replace MK:=Lib.hid MK
     clear SC5
     go_wp2_with fail
     refine MK.out.mono ?_
     rintro e w7 ⟨rfl,T⟩
     replace T:=Lib.hid T
     clear MK
     go_wp2
     go_ret
     exact ⟨by rw [e1.out]; rfl,T.out⟩
   | false =>
    have fx:=Lib.hid hb
    replace b3:=Lib.hid b3
    clear c3 DC B3 hb
    go_wp2
    go_roundw
    case rel => exact ⟨b3,.inr (.inr (.inl ⟨rfl,f1,fx⟩))⟩
    case measure => simp [intOf]
  ·obtain ⟨N,hN⟩:∃ N,N = wr.heap.size:=⟨_,rfl⟩
   have ea:=Blk.new wr 156 #[.int .i64 3,.nilFunc]
   have sx:=store_func (wr.alloc (.cells #[.int .i64 3,.nilFunc] 156)) wr.heap.size 1 (.func 132) #[] #[] ea (by decide)
   obtain ⟨w2,hw2⟩:∃ w2,w2 = wr.alloc (.cells #[.int .i64 3,.func (.func 132) #[] #[]] 156):=⟨_,rfl⟩
   have B2:Blk w2 N 156 #[.int .i64 3,.func (.func 132) #[] #[]]:=by rw [hw2,hN]; exact Blk.new wr _ _
   have b2:Below w.heap.size w w2:=by rw [hw2]; exact br.out.alloc br.out.size _
   replace ea:=Lib.hid ea
   have x1:=B2.cell 1
   have DC:=Lib.hid (CL.out w2 b2)
   have q1:IntKind.i64.wrap (2 + 1) = 3:=rfl
   have ix:=rule_at2 wr
   replace hw2:=Lib.hid hw2
   replace hN:=Lib.hid hN
   replace B2:=Lib.hid B2
   replace b2:=Lib.hid b2
   clear br
   go_upto_region 4 with fail
   rw [<- hw2.out, <- hN.out]
   go_wp2_with fail
   refine DC.out.mono ?_
   rintro e w3 ⟨rfl,c3⟩
   have b3:=b2.out.trans (c3.mono b2.out.size)
   have B3:=B2.out.below c3 B2.out.lt
   have x0:=B3.cell 0
   cases hb:bc with
   | true =>
    have ed:D = 3:=by rw [hdu.out,f1.out,f2.out,hb]; rfl
    obtain ⟨H,B,K,hH,hK,TC,AC,SC⟩:=A3.out ed
    have y1:=CE.out w3 b3
    have e1:decide (D ≠ 0) = true:=by rw [ed]; rfl
    have TC3:=Lib.hid (fun nq => TC (w3.drewN nq) (below_drewN b3 nq))
    replace AC:=Lib.hid AC
    replace SC:=Lib.hid SC
    replace ed:=Lib.hid ed
    replace b3:=Lib.hid b3
    replace e1:=Lib.hid e1
    replace B3:=Lib.hid B3
    clear hb hH c3 DC TC
    cases B with
    | false =>
     obtain rfl:(3:Int) = K:=hK
     go_upto_region 5 with fail
     go_quiet (first | (go_at_call 20; with_reducible exact quiet_left (TC3.out _)) | fail)
     rename Nat => nq1
     obtain ⟨w4,hw4⟩:∃ w4,w4 = w3.drewN nq1:=⟨_,rfl⟩
     rw [<- hw4]
     have b4:Below w.heap.size w w4:=by rw [hw4]; exact below_drewN b3.out nq1
     have AC4:=Lib.hid (AC.out w4 b4)
     replace b4:=Lib.hid b4
     replace hw4:=Lib.hid hw4
     clear AC TC3 b3
     go_wp2_with fail
     refine AC4.out.mono ?_
     rintro e w5 ⟨rfl,c5⟩
     have b5:=b4.out.trans (c5.mono b4.out.size)
     have y5:=CE.out w5 b5
     have nf:=nil_func w5
     have SC5:=Lib.hid (SC.out w5 b5)
     clear c5 b5 b4 AC4 SC
     go_wp2_with fail
     refine SC5.out.mono ?_
     rintro e w6 ⟨E,rfl,MK⟩
     replace MK:=Lib.hid MK
     clear SC5
     go_wp2_with fail
     refine MK.out.mono ?_
     rintro e w7 ⟨rfl,T⟩
     replace T:=Lib.hid T
     clear MK
     go_wp2
     go_ret
     exact ⟨by rw [e1.out]; rfl,T.out⟩
    | true =>
     obtain rfl:(2:Int) = K:=hK
     go_upto_region 5 with fail
     go_quiet (first | (go_at_call 20; with_reducible exact quiet_left (TC3.out _)) | fail)
     rename Nat => nq1
     obtain ⟨w4,hw4⟩:∃ w4,w4 = w3.drewN nq1:=⟨_,rfl⟩
     rw [<- hw4]
     have b4:Below w.heap.size w w4:=by rw [hw4]; exact below_drewN b3.out nq1
     have AC4:=Lib.hid (AC.out w4 b4)
     replace b4:=Lib.hid b4
     replace hw4:=Lib.hid hw4
     clear AC TC3 b3
     go_wp2_with fail
     refine AC4.out.mono ?_
     rintro e w5 ⟨rfl,c5⟩
     have b5:=b4.out.trans (c5.mono b4.out.size)
     have y5:=CE.out w5 b5
     have nf:=nil_func w5
     have SC5:=Lib.hid (SC.out w5 b5)
     clear c5 b5 b4 AC4 SC
     go_wp2_with fail
     refine SC5.out.mono ?_
     rintro e w6 ⟨E,rfl,MK⟩
     replace MK:=Lib.hid MK
     clear SC5
     go_wp2_with fail
     refine MK.out.mono ?_
     rintro e w7 ⟨rfl,T⟩
     replace T:=Lib.hid T
     clear MK
     go_wp2
     go_ret
     exact ⟨by rw [e1.out]; rfl,T.out⟩
   | false =>
    have fx:=Lib.hid hb
    replace b3:=Lib.hid b3
    clear c3 DC B3 hb
    go_wp2
    go_roundw
    case rel => exact ⟨b3,.inr (.inr (.inr ⟨rfl,f1,f2,fx⟩))⟩
    case measure => simp [intOf]
  ·have ed:D = 0:=by rw [hdu.out,f1.out,f2.out,f3.out]; rfl
   have e1:decide (D ≠ 0) = false:=by rw [ed]; rfl
   have T:=Lib.hid (A0.out ed wr br.out)
   replace e1:=Lib.hid e1
   clear br
   go_wp2
   go_ret
   exact ⟨by rw [e1.out]; rfl,T.out⟩
end
theorem balN_nxt {s:St} {Z Z':Nat -> Option Zd} (hz:∀ H,(Z' H).isSome = (Z H).isSome) (hot warm x:Int):∀ (n:Nat) (Ls:Nat -> Nat -> List Nat) (mk:Nat -> Nat),balN s Z' hot warm x n Ls mk = balN s Z hot warm x n Ls mk
 | 0,_,_ => rfl
 | n + 1,Ls,mk => by
  by_cases h:dueK s Z Ls mk hot warm x = 0
  ·rw [balN_no h,balN_no (by rw [dueK_congr hz]; exact h)]
  ·rw [balN_yes h,balN_yes (by rw [dueK_congr hz]; exact h),stepH_congr hz,stepL_congr hz,stepM_congr hz,balN_nxt hz hot warm x n]
section
variable {w:World} {L:Lay} {s:St} {bs:List UInt8} {Z:Nat -> Option Zd} {gq gl:Nat} {Ls:Nat -> Nat -> List Nat} {mk:Nat -> Nat} {g:Nat} {hot warm:Int} (h:LS w L s bs Z gq gl Ls mk g hot warm)
include h
theorem balanceC (sh:Shr hot warm) (x:Int) (links:Int) (hl:Cls.In links):Calls Tryz.prog 19 #[.pointer (some ⟨g,0,none⟩),.int .i64 x,.int .i64 links,.nilFunc] w fun e w' => e = .returned (.int .i64 ((balN s Z hot warm x links.toNat Ls mk).1.length:Int)) /\ DL w w' L s bs Z gq gl (balN s Z hot warm x links.toNat Ls mk).2.1 (balN s Z hot warm x links.toNat Ls mk).2.2 g hot warm:=by
 obtain ⟨hl1,hl2⟩:=hl
 have D0:=h.same (Below.refl w.heap.size w)
 obtain ⟨n,hn⟩:∃ n,n = links.toNat:=⟨_,rfl⟩
 rw [<- hn]
 obtain ⟨P,hP⟩:∃ P,P = balN s Z hot warm x n Ls mk:=⟨_,rfl⟩
 have hPl:P.1.length <= n:=by rw [hP]; exact balN_len ..
 rw [<- hP]
 have hn1:(n:Int) = links \/ n = 0 /\ links <= 0:=by omega
 have hl3:n <= 9223372036854775807:=by omega
 replace hn:=Lib.hid hn
 replace hP:=Lib.hid hP
 replace D0:=Lib.hid D0
 replace sh:=Lib.hid sh
 clear h hl1
 go_enter Tryz.func19,Tryz.ntmps19
 go_wp2_with fail
 go_loopw [9] (fun vi wr => ∃ (i:Nat) (L1:Nat -> Nat -> List Nat) (m1:Nat -> Nat),vi = .int .i64 (i:Int) /\ i <= n /\ Hid (P.1.length = i + (balN s Z hot warm x (n - i) L1 m1).1.length) /\ Hid (P.2 = (balN s Z hot warm x (n - i) L1 m1).2) /\ Hid (DL w wr L s bs Z gq gl L1 m1 g hot warm)) (fun vi _ => n - (intOf vi).toNat)
 case atStart => exact ⟨0,Ls,mk,rfl,Nat.zero_le _,Lib.hid (by rw [hP.out]; simp),Lib.hid (by rw [hP.out]; rfl),D0⟩
 case round =>
  obtain ⟨i,L1,m1,rfl,hi,h1,h2,D⟩:=hrel
  obtain ⟨o1,bs1,Z1,e1,z1,S1⟩:=D.out
  have SC:=stepC S1 sh.out x
  rw [dueK_congr z1] at SC
  have tr:=fun w2 (k:DL wr w2 L s bs1 Z1 gq gl (nxtL s Z1 L1 m1 hot warm x) (nxtM s Z1 L1 m1 hot warm x) g hot warm) => show DL w w2 L s bs Z gq gl (nxtL s Z1 L1 m1 hot warm x) (nxtM s Z1 L1 m1 hot warm x) g hot warm from by
   obtain ⟨o2,bs2,Z2,e2,z2,S2⟩:=k
   exact ⟨two_trans o1 o2,bs2,Z2,e2.trans e1,fun H => (z2 H).trans (z1 H),S2⟩
  have dl:∀ e:dueK s Z L1 m1 hot warm x = 0,nxtL s Z1 L1 m1 hot warm x = L1 /\ nxtM s Z1 L1 m1 hot warm x = m1:=fun e => by
   unfold nxtL nxtM
   rw [dueK_congr z1,if_pos e,if_pos e]
   exact ⟨rfl,rfl⟩
  have dn:∀ e:dueK s Z L1 m1 hot warm x ≠ 0,nxtL s Z1 L1 m1 hot warm x = stepL s Z L1 m1 hot warm x /\ nxtM s Z1 L1 m1 hot warm x = stepM s Z L1 m1 hot warm x:=fun e => by
   unfold nxtL nxtM
   rw [dueK_congr z1,if_neg e,if_neg e,stepL_congr z1,stepM_congr z1]
   exact ⟨rfl,rfl⟩
  generalize nxtL s Z1 L1 m1 hot warm x = NL at *
  generalize nxtM s Z1 L1 m1 hot warm x = NM at *
  replace tr:=Lib.hid tr
  clear o1 e1 S1 z1
  by_cases hin:i < n
  ·have d1:decide ((i:Int) < links) = true:=decide_eq_true (by omega)
   obtain ⟨m,hm⟩:∃ m,n - i = m + 1:=⟨n - i - 1,by omega⟩
   have hm2:n - (i + 1) = m:=by omega
   have q1:IntKind.i64.wrap ((i:Int) + 1) = (i:Int) + 1:=IntWalk.i64_in _ (by omega)
   by_cases hd:dueK s Z L1 m1 hot warm x = 0
   ·have ed:decide (dueK s Z L1 m1 hot warm x ≠ 0) = false:=decide_eq_false (by simpa using hd)
    rw [ed] at SC
    obtain ⟨rfl,rfl⟩:=dl hd
    rw [balN_no hd] at h1 h2
    replace SC:=Lib.hid SC
    replace hd:=Lib.hid hd
    clear dl dn ed hm hm2
    go_wp2_with fail
    refine SC.out.mono ?_
    rintro e w2 ⟨rfl,k⟩
    have T:=Lib.hid (tr.out w2 k)
    clear k
    have e3:P.1.length = i:=by have:=h1.out; simpa using this
    have e4:P.2 = (NL,NM):=h2.out
    replace e3:=Lib.hid e3
    replace e4:=Lib.hid e4
    go_wp2
    go_ret
    refine ⟨by rw [e3.out]; rfl,?_⟩
    rw [e4.out]
    exact T.out
   ·have ed:decide (dueK s Z L1 m1 hot warm x ≠ 0) = true:=decide_eq_true hd
    rw [ed] at SC
    obtain ⟨rfl,rfl⟩:=dn hd
    rw [hm,balN_yes hd] at h1 h2
    replace SC:=Lib.hid SC
    replace hd:=Lib.hid hd
    replace hm:=Lib.hid hm
    replace hm2:=Lib.hid hm2
    clear dl dn ed
    go_wp2_with fail
    refine SC.out.mono ?_
    rintro e w2 ⟨rfl,k⟩
    have T:=Lib.hid (tr.out w2 k)
    clear k
    go_wp2
    go_roundw
    case rel => exact ⟨i + 1,_,_,by simp,by omega,Lib.hid (by rw [h1.out,hm2.out]; simp only [List.length_cons]; omega),Lib.hid (by rw [h2.out,hm2.out]),T⟩
    case measure => simp [intOf] <;> omega
  ·obtain rfl:i = n:=by omega
   have d1:decide ((i:Int) < links) = false:=decide_eq_false (by omega)
   have e3:P.1.length = i:=by have:=h1.out; rw [Nat.sub_self] at this; simpa [balN] using this
   have e4:P.2 = (L1,m1):=by have:=h2.out; rw [Nat.sub_self] at this; simpa [balN] using this
   replace e3:=Lib.hid e3
   replace e4:=Lib.hid e4
   clear SC tr dl dn
   go_wp2
   go_ret
   refine ⟨by rw [e3.out]; rfl,?_⟩
   rw [e4.out]
   exact D.out
end
def hitR (s:St) (Ls:Nat -> Nat -> List Nat) (H:Nat):Nat:=if stK (clsN qc s H) Ls H = 0 then 20 else 0
def hitM (s:St) (Ls:Nat -> Nat -> List Nat) (mk:Nat -> Nat) (H:Nat):Nat -> Nat:=if stK (clsN qc s H) Ls H = 0 then mk else mkOn mk H true
section
variable {w:World} {L:Lay} {s:St} {bs:List UInt8} {Z:Nat -> Option Zd} {gq gl:Nat} {Ls:Nat -> Nat -> List Nat} {mk:Nat -> Nat} {g:Nat} {hot warm:Int} (h:LS w L s bs Z gq gl Ls mk g hot warm)
include h
theorem LS.stt (H:Nat) (hH:H < 18446744073709551616):∃ st code:Nat,(Calls Tryz.prog 74 #[.pointer (some ⟨L.g,0,none⟩),.int .u64 (H:Int)] w fun e w' => e = .returned (.tuple #[.int .i64 (st:Int),.int .i64 (code:Int)]) /\ Below w.heap.size w w') /\
  (stK (clsN qc s H) Ls H = 0 /\ (code ≠ 0 \/ code = 0 /\ st = 0 \/ code = 0 /\ 4 <= st) \/ stK (clsN qc s H) Ls H ≠ 0 /\ code = 0 /\ 1 <= st /\ st <= 3 /\ isN qc s Z H = true):=by
 obtain ⟨F,S,q⟩:=h.q
 cases hf:findN qc.cf s H with
 | none =>
  refine ⟨0,20,zStateNo S.zs hH hf,.inl ⟨?_,.inl (by omega)⟩⟩
  have:¬ stK (clsN qc s H) Ls H ≠ 0:=fun e => by
   obtain ⟨k,i,y,p, -, -,hf', -⟩:=q.of_stK S.okc S.zs.good e
   rw [hf] at hf'; cases hf'
  omega
 | some t =>
  obtain ⟨i,y,p⟩:=t
  have C:=zStateYes S.zs hH hf
  refine ⟨zst (Z H),0,C,?_⟩
  by_cases h0:stK (clsN qc s H) Ls H = 0
  ·refine .inl ⟨h0,?_⟩
   rcases q.free hf (q.not_stK h0) with e | e
   ·exact .inr (.inl ⟨rfl,e⟩)
   ·exact .inr (.inr ⟨rfl,e⟩)
  ·obtain ⟨z,hz,hI,hs, -, -⟩:=q.links S.okc S.zs.good h0
   have:=stK_le (clsN qc s H) Ls H
   have e:zst (Z H) = stK (clsN qc s H) Ls H:=by rw [hz]; exact hs
   exact .inr ⟨h0,rfl,by omega,by omega,isN_it hI⟩
theorem hitC (H:Nat) (hH:H < 18446744073709551616):Calls Tryz.prog 37 #[.pointer (some ⟨g,0,none⟩),.int .u64 (H:Int)] w fun e w' => e = .returned (.int .i64 (hitR s Ls H:Int)) /\ DL w w' L s bs Z gq gl Ls (hitM s Ls mk H) g hot warm:=by
 obtain ⟨x0, -, -, -⟩:=h.cells
 obtain ⟨st,code,SC,hc⟩:=h.stt H hH
 have same:=fun w1 (b:Below w.heap.size w w1) => h.same b
 have hb:=fun w1 (b:Below w.heap.size w w1) => h.below b
 have key:∀ w1,Below w.heap.size w w1 -> isN qc s Z H = true -> Calls Tryz.prog 73 #[.pointer (some ⟨g,0,none⟩),.int .u64 (H:Int),.bool true] w1 fun e w' => e = .returned (.tuple #[]) /\ DL w w' L s bs Z gq gl Ls (mkOn mk H true) g hot warm:=fun w1 b hI =>
  (lmarkC (h.below b) H hH hI true).mono fun e w' ⟨e1,o2,bs2,Z2,e2,z2,S2⟩ => ⟨e1,two_trans (below_two b) o2,bs2,Z2,e2,z2,S2⟩
 replace SC:=Lib.hid SC
 replace same:=Lib.hid same
 replace key:=Lib.hid key
 clear h hb
 rcases hc with ⟨h0,hc⟩ | ⟨h0,rfl,s1,s3,hI⟩
 ·have er:hitR s Ls H = 20:=if_pos h0
  have em:hitM s Ls mk H = mk:=if_pos h0
  rw [er,em]
  clear er em
  rcases hc with hc | ⟨rfl,rfl⟩ | ⟨rfl,h4⟩
  ·have d1:((code:Int) == 0) = false:=by rw [beq_eq_false_iff_ne]; omega
   have d2:decide ((code:Int) = 0) = false:=decide_eq_false (by omega)
   have d3:decide (code = 0) = false:=decide_eq_false hc
   have d4:((code:Int) != 0) = true:=by rw [bne_iff_ne]; omega
   replace hc:=Lib.hid hc
   go_enter Tryz.func37,Tryz.ntmps37
   go_wp2_with fail
   refine SC.out.mono ?_
   rintro e w1 ⟨rfl,b⟩
   have T:=Lib.hid (same.out w1 b)
   clear b
   go_wp2
   go_ret
   exact ⟨rfl,T.out⟩
  ·go_enter Tryz.func37,Tryz.ntmps37
   go_wp2_with fail
   refine SC.out.mono ?_
   rintro e w1 ⟨rfl,b⟩
   have T:=Lib.hid (same.out w1 b)
   clear b
   go_wp2
   go_ret
   exact ⟨rfl,T.out⟩
  ·have d1:decide ((st:Int) < 1) = false:=decide_eq_false (by omega)
   have d2:decide ((3:Int) < (st:Int)) = true:=decide_eq_true (by omega)
   have d3:decide (3 < st) = true:=decide_eq_true (by omega)
   have d4:decide (st < 1) = false:=decide_eq_false (by omega)
   have d5:(3:Int) < (st:Int):=by omega
   go_enter Tryz.func37,Tryz.ntmps37
   go_wp2_with fail
   refine SC.out.mono ?_
   rintro e w1 ⟨rfl,b⟩
   have T:=Lib.hid (same.out w1 b)
   clear b
   go_wp2
   go_ret
   exact ⟨rfl,T.out⟩
 ·have er:hitR s Ls H = 0:=if_neg h0
  have em:hitM s Ls mk H = mkOn mk H true:=if_neg h0
  rw [er,em]
  clear er em h0
  have d1:decide ((st:Int) < 1) = false:=decide_eq_false (by omega)
  have d2:decide ((3:Int) < (st:Int)) = false:=decide_eq_false (by omega)
  have d3:decide (3 < st) = false:=decide_eq_false (by omega)
  have d4:decide (st < 1) = false:=decide_eq_false (by omega)
  replace hI:=Lib.hid hI
  go_enter Tryz.func37,Tryz.ntmps37
  go_wp2_with fail
  refine SC.out.mono ?_
  rintro e w1 ⟨rfl,b⟩
  have MC:=Lib.hid (key.out w1 b hI.out)
  clear b
  go_wp2_with fail
  refine MC.out.mono ?_
  rintro e w2 ⟨rfl,T⟩
  replace T:=Lib.hid T
  go_wp2
  go_ret
  exact ⟨rfl,T.out⟩
end
def QL (s:St) (Z:Nat -> Option Zd) (Ls:Nat -> Nat -> List Nat):Prop:=∃ Z' F,(∀ K,(Z' K).isSome = (Z K).isSome) /\ QI qc s Z' F Ls
section
variable {s:St} {Z:Nat -> Option Zd} {Ls:Nat -> Nat -> List Nat} (ok:qc.cf.Ok) (g:Cls.Good qc.cf s) (h:QL s Z Ls)
include ok g h
theorem QL.drop (H:Nat):QL s Z (dropN qc s Ls H).2:=by
 obtain ⟨Z1,F,e1,q⟩:=h
 unfold dropN
 split
 ·exact ⟨Z1,F,e1,q⟩
 ·rename_i h0
  obtain ⟨k,i,y,p,hk,e,hf,ec,hx,hm⟩:=q.of_stK ok g h0
  obtain ⟨l1,l2,hl,he,hz⟩:=q.split hx hk hm
  have hD:=(q.drop hx hk l1 l2 hl).2
  refine ⟨outZ Z1 H (l1.getLast?.getD 0) (l2.head?.getD 0),dF F (s.cls i) k (l1.getLast?.getD 0) (l2.head?.getD 0),fun K => ((upd_some (jZ_it ⟨⟨i,y,p,hf⟩,_,hz⟩).2 K).trans jZ_some).trans (e1 K),?_⟩
  show QI qc s _ _ (outN (clsN qc s H) Ls H)
  unfold outN
  rw [e,ec,Nat.add_sub_cancel,he]
  exact hD
theorem QL.push (H:Nat) (kind:Int) (last:Bool):QL s Z (pushN qc s Z Ls H kind last).2:=by
 obtain ⟨Z1,F,e1,q⟩:=h
 unfold pushN
 split
 ·exact ⟨Z1,F,e1,q⟩
 split
 ·exact ⟨Z1,F,e1,q⟩
 split
 ·exact ⟨Z1,F,e1,q⟩
 ·rename_i a1 a2 a3
  have a1:=Classical.not_not.1 a1
  have hi2:isN qc s Z H = true:=by simpa using a2
  unfold isN at hi2
  obtain ⟨i1,i2⟩:=Bool.and_eq_true_iff.1 hi2
  obtain ⟨⟨i,y,p⟩,hf⟩:=Option.isSome_iff_exists.1 i1
  rw [<- e1] at i2
  obtain ⟨z,hz⟩:=Option.isSome_iff_exists.1 i2
  have hn:=q.not_stK (Classical.not_not.1 a3)
  have ec:clsN qc s H = s.cls i:=by unfold clsN; rw [hf]
  have hx:s.cls i < qc.nc:=(Tkn.of ok g hf).1.kN
  have hk3:kind.toNat - 1 < 3:=by omega
  rw [ec]
  unfold putN
  have dom:∀ a b K,(layZ Z1 H (kind.toNat - 1 + 1) a b K).isSome = (Z K).isSome:=fun a b K => (jZ_some.trans (jZ_some.trans (upd_some ⟨z,hz⟩ K))).trans (e1 K)
  cases last with
  | false => exact ⟨_,_,dom _ _,q.lay ok g hx hk3 hf rfl hn [] (Ls (s.cls i) (kind.toNat - 1)) rfl⟩
  | true => exact ⟨_,_,dom _ _,q.lay ok g hx hk3 hf rfl hn (Ls (s.cls i) (kind.toNat - 1)) [] (List.append_nil _).symm⟩
theorem QL.shift (H:Nat) (kind:Int):QL s Z (shiftN qc s Ls H kind).2:=by
 have h':=h
 obtain ⟨Z1,F,e1,q⟩:=h
 unfold shiftN
 split
 ·exact h'
 split
 ·exact h'
 ·rename_i a1 h0
  have a1:=Classical.not_not.1 a1
  have hd:=h'.drop ok g H
  have er:dropN qc s Ls H = (0,outN (clsN qc s H) Ls H):=by unfold dropN; rw [if_neg h0]
  rw [er] at hd
  obtain ⟨z,hz,hI, -⟩:=q.links ok g h0
  have hi:isN qc s Z H = true:=by rw [<- isN_congr e1]; exact isN_it hI
  have hp:=QL.push ok g hd H kind false
  have er3:pushN qc s Z (outN (clsN qc s H) Ls H) H kind false = (0,putN (clsN qc s H) (outN (clsN qc s H) Ls H) H (kind.toNat - 1) false):=by
   unfold pushN
   rw [if_neg (Classical.not_not.2 a1),if_neg (by rw [hi]; exact Bool.noConfusion),if_neg (Classical.not_not.2 (q.out0 ok g h0))]
  rw [er3] at hp
  exact hp
theorem QL.lenB (x k:Int):lenX Ls x k <= 134217729:=by
 obtain ⟨Z1,F,e1,q⟩:=h
 unfold lenX lsN
 split
 ·rw [<- q.n _ _ (by omega) (by omega)]
  exact q.nB ok g (by omega) (by omega)
 ·simp
theorem QL.tail {x k:Int} (hne : 0 < lenX Ls x k):isN qc s Z (tailX Ls x k) = true /\ tailX Ls x k < 18446744073709551616:=by
 obtain ⟨Z1,F,e1,q⟩:=h
 unfold lenX lsN at hne
 unfold tailX lsN
 split at hne
 ·rename_i hv
  rw [if_pos hv]
  have hx:x.toNat < qc.nc:=by omega
  have hk:k.toNat - 1 < 3:=by omega
  have hm:(Ls x.toNat (k.toNat - 1)).getLast?.getD 0 ∈ Ls x.toNat (k.toNat - 1):=by
   cases e:Ls x.toNat (k.toNat - 1) with
   | nil => rw [e] at hne; simp at hne
   | cons a l => rw [List.getLast?_eq_some_getLast (by simp)]; exact List.getLast_mem _
  have hI:=q.is hx hk hm
  obtain ⟨⟨i,y,p,hf⟩, -⟩:=q.is hx hk hm
  exact ⟨by rw [<- isN_congr e1]; exact isN_it hI,good_lt ok g hf⟩
 ·simp at hne
end
theorem QW.ql {w:World} {L:Lay} {s:St} {bs:List UInt8} {Z:Nat -> Option Zd} {gq gl:Nat} {Ls:Nat -> Nat -> List Nat} (h:QW w L qc s bs Z gq gl Ls):QL s Z Ls:=by
 obtain ⟨F,S,q⟩:=h
 exact ⟨Z,F,fun _ => rfl,q⟩
def lsI (c:Conf) (x kind:Int):Int:=if 0 <= x /\ x < (c.nc:Int) /\ 1 <= kind /\ kind <= 3 then 3 * x + kind - 1 else -1
theorem listC6 (w:World) (R:R6) (M:RL) (c:Conf) (r:RS) (n:Nat) (laid:List Nat) (lists:Nat -> List Nat) (h:R6At w R M.b n laid lists) (hr:RSetAt w M c r) (hnc:c.nc <= 1048576) (x kind:Int) :
  Calls Tryz.prog 104 #[.pointer (some ⟨R.b,0,none⟩),.int .i64 x,.int .i64 kind] w fun e w' => e = .returned (.int .i64 (lsI c x kind)) /\ w = w':=by
 have c0:=h.c0
 have c5:=hr.cSizes
 clear h hr
 unfold lsI
 by_cases h0:x < 0
 ·rw [if_neg (by omega)]
  have d0:decide (x < 0) = true:=decide_eq_true h0
  go_enter Tryz.func104,Tryz.ntmps104
  go_wp2
  go_ret
  exact ⟨rfl,rfl⟩
 have d0:decide (x < 0) = false:=decide_eq_false h0
 by_cases h1:(c.nc:Int) <= x
 ·rw [if_neg (by omega)]
  have d1:decide ((c.nc:Int) <= x) = true:=decide_eq_true h1
  go_enter Tryz.func104,Tryz.ntmps104
  go_wp2
  go_ret
  exact ⟨rfl,rfl⟩
 have d1:decide ((c.nc:Int) <= x) = false:=decide_eq_false h1
 by_cases h2:kind < 1
 ·rw [if_neg (by omega)]
  have d2:decide (kind < 1) = true:=decide_eq_true h2
  go_enter Tryz.func104,Tryz.ntmps104
  go_wp2
  go_ret
  exact ⟨rfl,rfl⟩
 have d2:decide (kind < 1) = false:=decide_eq_false h2
 by_cases h3 : 3 < kind
 ·rw [if_neg (by omega)]
  have d3:decide (3 < kind) = true:=decide_eq_true h3
  go_enter Tryz.func104,Tryz.ntmps104
  go_wp2
  go_ret
  exact ⟨rfl,rfl⟩
 have d3:decide (3 < kind) = false:=decide_eq_false h3
 rw [if_pos (by omega)]
 have q1:IntKind.i64.wrap (3 * x) = 3 * x:=IntWalk.i64_in _ (by omega)
 have q2:IntKind.i64.wrap (3 * x + kind) = 3 * x + kind:=IntWalk.i64_in _ (by omega)
 have q3:IntKind.i64.wrap (3 * x + kind - 1) = 3 * x + kind - 1:=IntWalk.i64_in _ (by omega)
 go_enter Tryz.func104,Tryz.ntmps104
 go_wp2
 go_ret
 exact ⟨rfl,rfl⟩
theorem R6At.cell {w:World} {R:R6} {mb n:Nat} {laid:List Nat} {lists:Nat -> List Nat} (h:R6At w R mb n laid lists) {i:Nat} (hi:i < n):∃ A cp,R.F i = .slice A (lists i).length cp /\ w.cell? ⟨R.gL,i,none⟩ = some (.slice A (lists i).length cp) /\ w.ownsRow 0 50 1 (.slice A (lists i).length cp) (lists i).length ((lists i).map uv):=by
 have o:=h.row hi
 obtain ⟨A,cp,hv⟩:=own_is o
 have c:=h.grid.cell i 0 hi (by decide)
 rw [Nat.mul_one,Nat.add_zero] at c
 rw [hv] at c o
 exact ⟨A,cp,hv,c,o⟩
section
variable (w:World) (R:R6) (mb n:Nat) (laid:List Nat) (lists:Nat -> List Nat) (h:R6At w R mb n laid lists) (hn:n <= 1048576) (hll:∀ i,i < n -> (lists i).length <= 1073741824) (H:Nat)
include h hn hll
theorem whereYes (k:Nat) (hk:k < n) (hm:H ∈ lists k) (hb:∀ j,j < k -> H ∉ lists j):Calls Tryz.prog 52 #[.pointer (some ⟨R.b,0,none⟩),.int .u64 (H:Int)] w fun e w' => e = .returned (.tuple #[.int .i64 (k:Int),.int .i64 ((lists k).idxOf H:Int)]) /\ w = w':=by
 have c2:=h.c2
 replace hll:=Lib.hid hll
 replace h:=Lib.hid h
 replace hb:=Lib.hid hb
 replace hm:=Lib.hid hm
 go_enter Tryz.func52,Tryz.ntmps52
 go_wp2
 go_loopw [6] (fun v wr => ∃ i:Nat,v = .int .i64 (i:Int) /\ i <= k /\ w = wr) (fun v _ => k + 1 - (intOf v).toNat)
 case atStart => exact ⟨0,rfl,Nat.zero_le _,rfl⟩
 case round =>
  obtain ⟨i,rfl,hi,rfl⟩:=hrel
  have hin:i < n:=by omega
  obtain ⟨A,cp, -,cl,own⟩:=h.out.cell hin
  have AC:=atC6 w 0 cp A (lists i) own (hll.out i hin) H
  have i0:(0:Int) <= (i:Int):=by omega
  have i1:(i:Int) < (n:Int):=by omega
  have d1:decide ((i:Int) < (n:Int)) = true:=decide_eq_true i1
  have q1:IntKind.i64.wrap ((i:Int) + 1) = (i:Int) + 1:=IntWalk.i64_in _ (by omega)
  by_cases hik:i = k
  ·subst hik
   unfold atN at AC
   rw [if_pos hm.out] at AC
   obtain ⟨ix,hix⟩:∃ ix,ix = (lists i).idxOf H:=⟨_,rfl⟩
   rw [<- hix] at AC
   have d2:decide ((0:Int) <= (ix:Int)) = true:=decide_eq_true (by omega)
   replace hix:=Lib.hid hix
   generalize (lists i).length = n1 at *
   replace AC:=Lib.hid AC
   clear own
   go_wp2_with fail
   refine AC.out.mono ?_
   rintro e w1 ⟨rfl,rfl⟩
   go_wp2
   go_ret2
   exact ⟨by rw [<- hix.out]; rfl,rfl⟩
  ·unfold atN at AC
   rw [if_neg (hb.out i (by omega))] at AC
   generalize (lists i).length = n1 at *
   replace AC:=Lib.hid AC
   replace hik:=Lib.hid hik
   clear own
   go_wp2_with fail
   refine AC.out.mono ?_
   rintro e w1 ⟨rfl,rfl⟩
   go_wp2
   go_roundw
   case rel => exact ⟨i + 1,by simp,by have:=hik.out; omega,trivial⟩
   case measure => have:=hik.out; simp [intOf] <;> omega
theorem whereNo (hb:∀ j,j < n -> H ∉ lists j):Calls Tryz.prog 52 #[.pointer (some ⟨R.b,0,none⟩),.int .u64 (H:Int)] w fun e w' => e = .returned (.tuple #[.int .i64 (-1),.int .i64 (-1)]) /\ w = w':=by
 have c2:=h.c2
 replace hll:=Lib.hid hll
 replace h:=Lib.hid h
 replace hb:=Lib.hid hb
 go_enter Tryz.func52,Tryz.ntmps52
 go_wp2
 go_loopw [6] (fun v wr => ∃ i:Nat,v = .int .i64 (i:Int) /\ i <= n /\ w = wr) (fun v _ => n + 1 - (intOf v).toNat)
 case atStart => exact ⟨0,rfl,Nat.zero_le _,rfl⟩
 case round =>
  obtain ⟨i,rfl,hi,rfl⟩:=hrel
  by_cases hin:i < n
  ·obtain ⟨A,cp, -,cl,own⟩:=h.out.cell hin
   have AC:=atC6 w 0 cp A (lists i) own (hll.out i hin) H
   have i0:(0:Int) <= (i:Int):=by omega
   have i1:(i:Int) < (n:Int):=by omega
   have d1:decide ((i:Int) < (n:Int)) = true:=decide_eq_true i1
   have q1:IntKind.i64.wrap ((i:Int) + 1) = (i:Int) + 1:=IntWalk.i64_in _ (by omega)
   unfold atN at AC
   rw [if_neg (hb.out i (by omega))] at AC
   generalize (lists i).length = n1 at *
   replace AC:=Lib.hid AC
   clear own
   go_wp2_with fail
   refine AC.out.mono ?_
   rintro e w1 ⟨rfl,rfl⟩
   go_wp2
   go_roundw
   case rel => exact ⟨i + 1,by simp,by omega,trivial⟩
   case measure => simp [intOf] <;> omega
  ·obtain rfl:i = n:=by omega
   have d1:decide ((i:Int) < (i:Int)) = false:=by simp
   go_wp2
   go_ret2
   exact ⟨rfl,rfl⟩
end
theorem isC6 (w:World) (R:R6) (M:RL) (c:Conf) (r:RS) (n:Nat) (laid:List Nat) (lists:Nat -> List Nat) (h:R6At w R M.b n laid lists) (hr:RSetAt w M c r) (fi:RFine r) (hlen:r.ch.length <= 1073741824) (hla:laid.length <= 1073741824) (H:Nat) :
  Calls Tryz.prog 94 #[.pointer (some ⟨R.b,0,none⟩),.int .u64 (H:Int)] w fun e w' => e = .returned (.bool ((rfind r.ch H).isSome && decide (H ∈ laid))) /\ ∃ m,w.drewN m = w':=by
 have c0:=h.c0
 have FC:=rfindC w M c r hr fi hlen H
 cases hf:rfind r.ch H with
 | none =>
  rw [hf] at FC
  unfold findIV at FC
  replace FC:=Lib.hid FC
  clear h hr fi hf
  go_enter Tryz.func94,Tryz.ntmps94
  go_wp2_with fail
  refine FC.out.mono ?_
  rintro e w1 ⟨rfl,m1,hw1⟩
  go_wp2
  go_ret
  exact ⟨rfl,m1,hw1⟩
 | some j =>
  rw [hf] at FC
  unfold findIV at FC
  have LA:∀ m,R6At (w.drewN m) R M.b n laid lists:=fun m => h.kept fun _ _ => rfl
  have j0:decide ((0:Int) <= (j:Int)) = true:=decide_eq_true (by omega)
  have aC:∀ m,(w.drewN m).cell? ⟨R.b,1,none⟩ = some R.vL /\ Calls Tryz.prog 96 #[R.vL,.int .u64 (H:Int)] (w.drewN m) fun e w' => e = .returned (.int .i64 (atN laid H)) /\ w.drewN m = w':=by
   intro m
   obtain ⟨A,cp,hv⟩:=own_is (LA m).laidR
   have own:=(LA m).laidR
   have c1:=(LA m).c1
   rw [hv] at own ⊢
   exact ⟨c1.trans (by rw [hv]),atC6 (w.drewN m) 0 cp A laid own hla H⟩
  obtain ⟨A,cp,hv⟩:=own_is h.laidR
  rw [hv] at aC
  have d0:decide ((0:Int) <= atN laid H) = decide (H ∈ laid):=by
   unfold atN
   split
   ·rename_i hm
    rw [decide_eq_true hm,decide_eq_true (by omega)]
   ·rename_i hm
    rw [decide_eq_false hm]; rfl
  generalize atN laid H = z at *
  generalize decide (H ∈ laid) = D at *
  replace FC:=Lib.hid FC
  replace aC:=Lib.hid aC
  clear h hr fi hf LA hv
  generalize laid.length = ln at *
  go_enter Tryz.func94,Tryz.ntmps94
  go_wp2_with fail
  refine FC.out.mono ?_
  rintro e w1 ⟨rfl,m1,hw1⟩
  obtain ⟨c1,AC⟩:=aC.out m1
  rw [hw1] at c1 AC
  replace AC:=Lib.hid AC
  replace hw1:=Lib.hid hw1
  go_wp2_with fail
  refine AC.out.mono ?_
  rintro e w2 ⟨rfl,rfl⟩
  go_wp2
  go_ret
  exact ⟨rfl,m1,hw1.out⟩
theorem own_zero (w:World) (N:Nat) (hN:N <= w.heap.size):(w.alloc (.cells #[] 50)).ownsRow N 50 1 (.slice (some ⟨w.heap.size,0,none⟩) 0 0) 0 [] :=
 ⟨rfl,.inr ⟨w.heap.size,0,#[],rfl,hN,Blk.new w _ _,Nat.le_refl _,by unfold maxLen; decide,rfl,rfl⟩⟩
theorem own_one (w:World) (N H:Nat) (hN:N <= w.heap.size):(w.alloc (.cells #[.int .u64 (H:Int)] 50)).ownsRow N 50 1 (.slice (some ⟨w.heap.size,0,none⟩) 1 1) 1 [uv H] :=
 ⟨rfl,.inr ⟨w.heap.size,1,#[uv H],rfl,hN,Blk.new w _ _,Nat.le_refl _,by unfold maxLen; decide,rfl,rfl⟩⟩
theorem uvs_cells (l:List Nat):∀ u ∈ l.map uv,u.oneCell' = true:=by
 intro u hu
 obtain ⟨z, -,rfl⟩:=List.mem_map.1 hu
 rfl
abbrev rows6 (Ls:Nat -> Nat -> List Nat):Nat -> List Nat:=fun i => Ls (i / 3) (i % 3)
section
variable (w:World) (R:R6) (M:RL) (c:Conf) (r:RS) (laid:List Nat) (Ls:Nat -> Nat -> List Nat) (h:R6At w R M.b (3 * c.nc) laid (rows6 Ls)) (hr:RSetAt w M c r) (hnc:c.nc <= 62) (hll:∀ x k,x < c.nc -> k < 3 -> (Ls x k).length <= 1073741824) (x kind:Int)
include h hr hnc hll
theorem allC6:Calls Tryz.prog 62 #[.pointer (some ⟨R.b,0,none⟩),.int .i64 x,.int .i64 kind] w fun e w' => ∃ A cp,e = .returned (.slice A (lsN c Ls x kind).length cp) /\ Below w.heap.size w w' /\ w'.ownsRow w.heap.size 50 1 (.slice A (lsN c Ls x kind).length cp) (lsN c Ls x kind).length ((lsN c Ls x kind).map uv):=by
 have LC:=listC6 w R M c r _ laid _ h hr (by omega) x kind
 unfold lsN
 unfold lsI at LC
 by_cases hv : 0 <= x /\ x < (c.nc:Int) /\ 1 <= kind /\ kind <= 3
 ·rw [if_pos hv] at LC ⊢
  obtain ⟨X,hX,rfl⟩:∃ X:Nat,X < c.nc /\ x = (X:Int):=⟨x.toNat,by omega,by omega⟩
  obtain ⟨k,hk,rfl⟩:∃ k:Nat,k < 3 /\ kind = (k:Int) + 1:=⟨kind.toNat - 1,by omega,by omega⟩
  have e1:((k:Int) + 1).toNat - 1 = k:=by omega
  have e2 : 3 * (X:Int) + ((k:Int) + 1) - 1 = ((3 * X + k:Nat):Int):=by omega
  rw [Int.toNat_natCast,e1]
  rw [e2] at LC
  have hj : 3 * X + k < 3 * c.nc:=by omega
  obtain ⟨A,cp, -,cl,own⟩:=h.cell hj
  have eL:rows6 Ls (3 * X + k) = Ls X k:=by
   show Ls ((3 * X + k) / 3) ((3 * X + k) % 3) = Ls X k
   rw [show (3 * X + k) / 3 = X by omega,show (3 * X + k) % 3 = k by omega]
  rw [eL] at cl own
  have hlb:=hll X k hX hk
  have c2:=h.c2
  generalize Ls X k = l at *
  generalize 3 * X + k = j at *
  generalize hn : 3 * c.nc = n at *
  have j0:(0:Int) <= (j:Int):=by omega
  have j1:(j:Int) < (n:Int):=by omega
  have d1:decide ((j:Int) < 0) = false:=decide_eq_false (by omega)
  have oz:=own_zero w w.heap.size (Nat.le_refl _)
  have rd:=Reads.of_own (World.ownsRow.alloc own (.cells #[] 50))
  rw [World.size_alloc] at rd
  have cl1:=(World.cell?_alloc_lt w (.cells #[] 50) _ (World.block_lt_of_cell? w _ cl)).trans cl
  have c21:=(World.cell?_alloc_lt w (.cells #[] 50) _ (World.block_lt_of_cell? w _ c2)).trans c2
  obtain ⟨n1,hn1⟩:∃ n1,n1 = l.length:=⟨_,rfl⟩
  rw [<- hn1] at cl cl1 own rd
  replace hn1:=Lib.hid hn1
  replace oz:=Lib.hid oz
  replace rd:=Lib.hid rd
  replace LC:=Lib.hid LC
  clear h hr hll hv own e1 e2 eL
  go_enter Tryz.func62,Tryz.ntmps62
  go_wp2_with fail
  refine LC.out.mono ?_
  rintro e w' ⟨rfl,rfl⟩
  go_wp2_with (at_builtin; refine wpList_app rfl _ _ _ rfl eiL w.heap.size _ _ _ rfl oz.out (w.heap.size + 1) A n1 cp (l.map uv) rfl ?c1 ?c2 ?c3 ?c4 ?c5 ?_)
  case c1 => exact rd.out
  case c2 => exact uvs_cells _
  case c3 => have:=hn1.out; unfold maxLen; omega
  case c4 => have:=hn1.out; omega
  case c5 => rw [World.size_alloc]; omega
  intro VV w6 own6 hg6 hat6
  (try rw [Nat.zero_add] at own6)
  obtain ⟨A7,cp7,rfl⟩:=own_is own6
  have b6:Below w.heap.size w w6:=((Below.refl _ w).alloc (Nat.le_refl _) _).grown hg6 (by rw [World.size_alloc]; omega) (fun k e => by
   have e:some w.heap.size = some k:=e
   injection e with e
   omega)
  replace own6:=Lib.hid own6
  replace b6:=Lib.hid b6
  clear hg6 hat6 oz rd
  go_wp2
  go_ret
  exact ⟨A7,cp7,by rw [<- hn1.out]; rfl,b6.out,by rw [<- hn1.out]; exact own6.out⟩
 ·rw [if_neg hv] at LC ⊢
  replace LC:=Lib.hid LC
  clear h hr hll hv
  go_enter Tryz.func62,Tryz.ntmps62
  go_wp2_with fail
  refine LC.out.mono ?_
  rintro e w' ⟨rfl,rfl⟩
  go_wp2
  go_ret
  exact ⟨none,0,rfl,Below.refl _ _,⟨rfl,.inl ⟨rfl,rfl⟩⟩⟩
theorem lenC6:Calls Tryz.prog 137 #[.pointer (some ⟨R.b,0,none⟩),.int .i64 x,.int .i64 kind] w fun e w' => e = .returned (.int .i64 ((lsN c Ls x kind).length:Int)) /\ Below w.heap.size w w':=by
 have AC:=Lib.hid (allC6 w R M c r laid Ls h hr hnc hll x kind)
 clear h hr hll
 go_enter Tryz.func137,Tryz.ntmps137
 go_wp2_with fail
 refine AC.out.mono ?_
 rintro e w' ⟨A,cp,rfl,b,own⟩
 replace b:=Lib.hid b
 go_wp2
 go_ret
 exact ⟨rfl,b.out⟩
theorem tailC6:Calls Tryz.prog 66 #[.pointer (some ⟨R.b,0,none⟩),.int .i64 x,.int .i64 kind] w fun e w' => e = .returned (.tuple #[.int .u64 ((lsN c Ls x kind).getLast?.getD 0:Int),.bool (decide (0 < (lsN c Ls x kind).length))]) /\ Below w.heap.size w w':=by
 have AC:=allC6 w R M c r laid Ls h hr hnc hll x kind
 have hlb:(lsN c Ls x kind).length <= 1073741824:=by
  unfold lsN
  split
  ·exact hll _ _ (by omega) (by omega)
  ·simp
 clear h hr hll
 cases hl:lsN c Ls x kind with
 | nil =>
  rw [hl] at AC
  have e0:(([]:List Nat).length) = 0:=rfl
  have e1:decide (0 < ([]:List Nat).length) = false:=rfl
  have e2:(([]:List Nat).getLast?.getD 0) = 0:=rfl
  rw [e1,e2]
  rw [e0] at AC
  replace AC:=Lib.hid AC
  clear hl e0 e1 e2 hlb
  go_enter Tryz.func66,Tryz.ntmps66
  go_wp2_with fail
  refine AC.out.mono ?_
  rintro e w' ⟨A,cp,rfl,b,own⟩
  replace b:=Lib.hid b
  go_wp2
  go_ret2
  exact ⟨rfl,b.out⟩
 | cons a t =>
  rw [hl] at AC hlb
  obtain ⟨z,hz⟩:∃ z,(a :: t).getLast? = some z:=⟨(a :: t).getLast (by simp),List.getLast?_eq_some_getLast (by simp)⟩
  have hx:(a :: t)[(a :: t).length - 1]? = some z:=by rw [<- List.getLast?_eq_getElem?]; exact hz
  rw [hz,Option.getD_some,decide_eq_true (show 0 < (a :: t).length by simp)]
  obtain ⟨n1,hn1⟩:∃ n1,n1 + 1 = (a :: t).length:=⟨t.length,rfl⟩
  rw [<- hn1] at AC hx hlb
  rw [Nat.add_sub_cancel] at hx
  replace AC:=Lib.hid AC
  replace hn1:=Lib.hid hn1
  replace hx:=Lib.hid hx
  clear hl hz
  go_enter Tryz.func66,Tryz.ntmps66
  go_wp2_with fail
  refine AC.out.mono ?_
  rintro e w' ⟨A,cp,rfl,b,own⟩
  obtain ⟨g,cp',hv,u0⟩:=own_uv own hx.out
  injection hv with hv1 hv2 hv3
  subst hv1 hv3
  obtain ⟨m1,hm1⟩:∃ m1,m1 = n1 + 1:=⟨_,rfl⟩
  rw [<- hm1]
  have z0:((m1:Int) == 0) = false:=by rw [beq_eq_false_iff_ne]; omega
  have z1:decide ((m1:Int) = 0) = false:=decide_eq_false (by omega)
  have z3:¬ (m1 = 0):=by omega
  have q1:IntKind.i64.wrap ((m1:Int) - 1) = (n1:Int):=by rw [IntWalk.i64_in _ (by omega)]; omega
  have z4:(0:Int) <= (n1:Int):=by omega
  have z5:(n1:Int) < (m1:Int):=by omega
  replace hm1:=Lib.hid hm1
  replace b:=Lib.hid b
  clear own hv2
  go_wp2
  go_ret2
  exact ⟨rfl,b.out⟩
end
def At6 (c:Conf) (Ls:Nat -> Nat -> List Nat) (H X k:Nat) (l1 l2:List Nat):Prop:=X < c.nc /\ k < 3 /\ Ls X k = l1 ++ H :: l2 /\ H ∉ l1 /\ ∀ x j,x < c.nc -> j < 3 -> H ∈ Ls x j -> x = X /\ j = k
theorem QI.at6 {c:Conf} {s:St} {Z:Nat -> Option Zd} {F:QN} {Ls:Nat -> Nat -> List Nat} (q:QI c s Z F Ls) (ok:c.cf.Ok) (g:Cls.Good c.cf s) (H:Nat) :
  (stK (clsN c s H) Ls H = 0 /\ ∀ x k,x < c.nc -> k < 3 -> H ∉ Ls x k) \/ ∃ k l1 l2,stK (clsN c s H) Ls H = k + 1 /\ At6 c Ls H (clsN c s H) k l1 l2 /\ prevN c s Ls H = l1.getLast?.getD 0 /\ nextN c s Ls H = l2.head?.getD 0 /\ (∀ y ∈ l1 ++ l2,y ≠ 0) /\ Ls (clsN c s H) k = l1 ++ H :: l2:=by
 by_cases h0:stK (clsN c s H) Ls H = 0
 ·exact .inl ⟨h0,q.not_stK h0⟩
 ·obtain ⟨k,i,y,p,hk,e,hf,ec,hx,hm⟩:=q.of_stK ok g h0
  obtain ⟨l1,l2,hl, -, -⟩:=q.split hx hk hm
  have hnd:=q.nd _ _ hx hk
  rw [hl] at hnd
  have n1:H ∉ l1:=fun e => (List.nodup_append.1 hnd).2.2 H e H (List.mem_cons_self ..) rfl
  refine .inr ⟨k,l1,l2,e,⟨ec ▸ hx,hk,ec ▸ hl,n1,fun x j hx' hj hm' => ?_⟩,?_,?_,fun y hy => ?_,ec ▸ hl⟩
  ·have:=q.dj x j _ k H hx' hj hx hk hm' hm
   rw [ec]; exact this
  ·unfold prevN
   rw [if_neg h0,e,ec,Nat.add_sub_cancel,hl,ahead_split n1]
  ·unfold nextN
   rw [if_neg h0,e,ec,Nat.add_sub_cancel,hl,behind_split n1]
  ·refine q.ne0 hx hk (h:=y) ?_
   rw [hl]
   rcases List.mem_append.1 hy with hy | hy
   ·exact List.mem_append.2 (.inl hy)
   ·exact List.mem_append.2 (.inr (List.mem_cons_of_mem _ hy))
theorem rows6_at (Ls:Nat -> Nat -> List Nat) {X k:Nat} (hk:k < 3):rows6 Ls (3 * X + k) = Ls X k:=by
 show Ls ((3 * X + k) / 3) ((3 * X + k) % 3) = Ls X k
 rw [show (3 * X + k) / 3 = X by omega,show (3 * X + k) % 3 = k by omega]
section
variable (w:World) (R:R6) (mb:Nat) (c:Conf) (laid:List Nat) (Ls:Nat -> Nat -> List Nat) (h:R6At w R mb (3 * c.nc) laid (rows6 Ls)) (hnc:c.nc <= 62) (hll:∀ x k,x < c.nc -> k < 3 -> (Ls x k).length <= 1073741824) (H:Nat)
include h hnc hll
theorem where6 {X k:Nat} {l1 l2:List Nat} (ha:At6 c Ls H X k l1 l2):Calls Tryz.prog 52 #[.pointer (some ⟨R.b,0,none⟩),.int .u64 (H:Int)] w fun e w' => e = .returned (.tuple #[.int .i64 ((3 * X + k:Nat):Int),.int .i64 (l1.length:Int)]) /\ w = w':=by
 obtain ⟨hX,hk,hl,hn,hu⟩:=ha
 have hj : 3 * X + k < 3 * c.nc:=by omega
 have:=whereYes w R mb _ laid _ h (by omega) (fun i hi => hll _ _ (by omega) (by omega)) H (3 * X + k) hj (by rw [rows6_at Ls hk,hl]; simp) (fun j hj' hm => by
  have:=hu (j / 3) (j % 3) (by omega) (by omega) hm
  omega)
 rw [rows6_at Ls hk,hl,idx_split hn] at this
 exact this
theorem where6No (hb:∀ x k,x < c.nc -> k < 3 -> H ∉ Ls x k):Calls Tryz.prog 52 #[.pointer (some ⟨R.b,0,none⟩),.int .u64 (H:Int)] w fun e w' => e = .returned (.tuple #[.int .i64 (-1),.int .i64 (-1)]) /\ w = w' :=
 whereNo w R mb _ laid _ h (by omega) (fun i hi => hll _ _ (by omega) (by omega)) H fun j hj => hb _ _ (by omega) (by omega)
end
theorem rows6_upd (Ls:Nat -> Nat -> List Nat) (X k:Nat) (hk:k < 3) (l:List Nat):upd (rows6 Ls) (3 * X + k) l = rows6 (updL Ls X k l):=by
  funext i
  unfold upd
  show (if i = 3 * X + k then l else Ls (i / 3) (i % 3)) = updL Ls X k l (i / 3) (i % 3)
  unfold updL
  by_cases h:i = 3 * X + k
  · rw [if_pos h,if_pos (by omega)]
  · rw [if_neg h,if_neg (by omega)]
theorem own_more0 {w:World} {B n:Nat} {e:TypeId} {v:Value} {xs:List Value} (h:w.ownsRow B e 1 v n xs):w.ownsRow 0 e 1 v n xs :=
  ⟨h.1,h.2.imp id fun ⟨g,cap,cur,e1,hB,hh⟩ => ⟨g,cap,cur,e1,Nat.zero_le _,hh⟩⟩
theorem R6At.setRow {w w6:World} {R:R6} {mb n:Nat} {laid:List Nat} {lists:Nat -> List Nat} (h:R6At w R mb n laid lists) {j:Nat} (hj:j < n) {V:Value} {l:List Nat} (b:Below w.heap.size w w6)
    (own:w6.ownsRow w.heap.size 50 1 V l.length (l.map uv)):R6At (w6.setCell ⟨R.gL,j,none⟩ V) { R with F:=upd R.F j V } mb n laid (upd lists j l) /\ Went6 w (w6.setCell ⟨R.gL,j,none⟩ V) R { R with F:=upd R.F j V } n:=by
  have gl:R.gL < w.heap.size:=h.grid.lt
  have far:∀ d,d < w6.heap.size -> d ≠ R.gL -> (w6.setCell ⟨R.gL,j,none⟩ V).heap[d]? = w6.heap[d]?:=fun d hd hne => (only_cell1 (S:=(· = R.gL)) w6 R.gL j V rfl).block d hd hne
  have kp:∀ p d,p ≠ .grid -> R.blk n p = some d -> (w6.setCell ⟨R.gL,j,none⟩ V).heap[d]? = w.heap[d]?:=fun p d hp hd => by
    have hl:=h.lt ⟨p,hd⟩
    exact (far d (Nat.lt_of_lt_of_le hl b.size) (fun e => hp (h.inj p .grid d hd (by rw [e]; rfl)))).trans (b.block d hl)
  have hbl:∀ p,p ≠ .row j -> R6.blk { R with F:=upd R.F j V } n p = R.blk n p:=fun p hp => by
    cases p with
    | row k =>
      have hk:k ≠ j:=fun e => hp (by rw [e])
      show (if k < n then (upd R.F j V k).ownBlock else none) = if k < n then (R.F k).ownBlock else none
      rw [upd_ne _ _ hk]
    | _ => rfl
  have hbj:R6.blk { R with F:=upd R.F j V } n (.row j) = V.ownBlock:=by
    show (if j < n then (upd R.F j V j).ownBlock else none) = _
    rw [if_pos hj,upd_at]
  have new:∀ d,V.ownBlock = some d -> w.heap.size <= d:=fun d e => own_base own e
  refine ⟨⟨fun p => ?_,fun p q d hp hq => ?_⟩,?_,fun d ⟨p,hp⟩ => ?_,rfl⟩
  · cases p with
    | head => exact (kp .head _ (by simp) rfl).trans h.head
    | laid => exact own_keptN h.laidR fun d e => kp .laid d (by simp) e
    | grid =>
      have g6:Grid w6 R.gL 34 n 1 (fun k _ => R.F k):=h.grid.kept (b.block _ gl)
      have:=(g6.set j 0 hj (by decide) V).congr (f':=fun k _ => upd R.F j V k) fun a c ha hc => by
        have hc0:c = 0:=by omega
        subst hc0
        show (if a = j /\ 0 = 0 then V else R.F a) = if a = j then V else R.F a
        by_cases e:a = j <;> simp [e]
      rw [Nat.mul_one,Nat.add_zero] at this
      exact this
    | row k =>
      intro hk
      show World.ownsRow _ 0 _ 1 (upd R.F j V k) (upd lists j l k).length ((upd lists j l k).map uv)
      by_cases e:k = j
      · subst e
        rw [upd_at,upd_at]
        exact own_keptN (own_more0 own) fun d hd => far d (own_blockN own hd) (fun e => by have:=new d hd; omega)
      · rw [upd_ne _ _ e,upd_ne _ _ e]
        exact own_keptN (h.row hk) fun d hd => kp (.row k) d (by simp) (by rw [R6.blk,if_pos hk]; exact hd)
  · by_cases ep:p = .row j
    · subst ep
      by_cases eq:q = .row j
      · exact eq.symm
      · rw [hbl q eq] at hq
        rw [hbj] at hp
        have:=new d hp
        have:=h.lt ⟨q,hq⟩
        omega
    · rw [hbl p ep] at hp
      by_cases eq:q = .row j
      · subst eq
        rw [hbj] at hq
        have:=new d hq
        have:=h.lt ⟨p,hp⟩
        omega
      · rw [hbl q eq] at hq
        exact h.inj p q d hp hq
  · exact (Only.of_below b (Nat.le_refl _) (F6 R n)).trans (only_cell1 (S:=F6 R n) w6 R.gL j V ⟨.grid,rfl⟩) fun _ _ h => h
  · by_cases ep:p = .row j
    · subst ep
      rw [hbj] at hp
      exact .inr (new d hp)
    · rw [hbl p ep] at hp
      exact .inl ⟨p,hp⟩
theorem wo_step (l:List Nat) (i k:Nat) {x:Nat} (hx:l[k]? = some x):(l.take (k + 1)).eraseIdx i = if k = i then (l.take k).eraseIdx i else (l.take k).eraseIdx i ++ [x]:=by
  have hk:k < l.length:=(List.getElem?_eq_some_iff.1 hx).1
  have hl:(l.take k).length = k:=by rw [List.length_take]; omega
  have e:l.take (k + 1) = l.take k ++ [x]:=by rw [List.take_add_one,hx]; rfl
  rw [e]
  rcases Nat.lt_trichotomy k i with h | h | h
  · rw [if_neg (by omega),List.eraseIdx_of_length_le (by rw [List.length_append,hl]; simp; omega),List.eraseIdx_of_length_le (by omega)]
  · subst h
    have h1:(l.take k ++ [x]).eraseIdx k = l.take k:=by
      rw [List.eraseIdx_append_of_length_le (by omega),hl,Nat.sub_self]
      simp
    have h2:(l.take k).eraseIdx k = l.take k:=List.eraseIdx_of_length_le (by omega)
    rw [if_pos rfl,h1,h2]
  · rw [if_neg (by omega),List.eraseIdx_append_of_lt_length (by omega)]
set_option maxHeartbeats 1000000 in
theorem withoutC (w:World) (N cp:Nat) (A:Option Addr) (l:List Nat) (own:w.ownsRow N 50 1 (.slice A l.length cp) l.length (l.map uv)) (hlen:l.length <= 1073741824) (i:Nat) :
    Calls Tryz.prog 99 #[.slice A l.length cp,.int .i64 (i:Int)] w fun e w' => ∃ A' cp',e = .returned (.slice A' (l.eraseIdx i).length cp') /\ Below w.heap.size w w' /\ w'.ownsRow w.heap.size 50 1 (.slice A' (l.eraseIdx i).length cp') (l.eraseIdx i).length ((l.eraseIdx i).map uv):=by
  obtain ⟨n,hn⟩:∃ n,n = l.length:=⟨_,rfl⟩
  rw [<- hn] at own ⊢
  have hn1:n <= 1073741824:=by omega
  replace hn:=Lib.hid hn
  have at_:∀ (k x:Nat),l[k]? = some x -> ∃ g,A = some ⟨g,0,none⟩ /\ g < w.heap.size /\ w.cell? ⟨g,k,none⟩ = some (.int .u64 (x:Int)):=by
    intro k x hx
    obtain ⟨g,c',hv,u⟩:=own_uv own hx
    injection hv with hv1 hv2 hv3
    exact ⟨g,hv1,own_blockN own (by rw [hv1]; rfl),u⟩
  replace at_:=Lib.hid at_
  clear own hlen
  go_enter Tryz.func99,Tryz.ntmps99
  go_wp2
  go_loopw [5,6] (fun vo vi wr => ∃ (k m cp':Nat) (A':Option Addr),vi = .int .i64 (k:Int) /\ vo = .slice A' m cp' /\ k <= n /\ Hid (m = ((l.take k).eraseIdx i).length) /\ Hid (Below w.heap.size w wr) /\ Hid (wr.ownsRow w.heap.size 50 1 (.slice A' m cp') m (((l.take k).eraseIdx i).map uv))) (fun _ vi _ => n - (intOf vi).toNat)
  case atStart => exact ⟨0,0,0,none,rfl,rfl,Nat.zero_le _,Lib.hid (by simp),Lib.hid (Below.refl _ _),Lib.hid (by simp; exact own_nil _ _ _)⟩
  case round =>
    obtain ⟨k,m,cp',A',rfl,rfl,hk,hm,hb,ho⟩:=hrel
    by_cases hkn:k < n
    · obtain ⟨x,hx⟩:∃ x,l[k]? = some x:=⟨l[k]'(by rw [<- hn.out]; exact hkn),List.getElem?_eq_getElem _⟩
      obtain ⟨g,rfl,hg,cl⟩:=at_.out k x hx
      have st:=wo_step l i k hx
      have clr:=(hb.out.cell (p:=⟨g,k,none⟩) hg).trans cl
      have k0:(0:Int) <= (k:Int):=by omega
      have k1:(k:Int) < (n:Int):=by omega
      have d1:decide ((k:Int) < (n:Int)) = true:=decide_eq_true k1
      have q1:IntKind.i64.wrap ((k:Int) + 1) = (k:Int) + 1:=IntWalk.i64_in _ (by omega)
      replace hx:=Lib.hid hx
      by_cases hki:k = i
      · have d2:((k:Int) == (i:Int)) = true:=by rw [beq_iff_eq]; omega
        have d3:((k:Int) != (i:Int)) = false:=by rw [bne_eq_false_iff_eq]; omega
        have d4:decide ((k:Int) = (i:Int)) = true:=decide_eq_true (by omega)
        rw [if_pos hki] at st
        rw [<- st] at hm ho
        replace st:=Lib.hid st
        replace hki:=Lib.hid hki
        go_wp2
        go_roundw
        case rel => exact ⟨k + 1,m,cp',A',by simp,rfl,by omega,hm,hb,ho⟩
        case measure => simp [intOf] <;> omega
      · have d2:((k:Int) == (i:Int)) = false:=by rw [beq_eq_false_iff_ne]; omega
        have d3:((k:Int) != (i:Int)) = true:=by rw [bne_iff_ne]; omega
        have d4:decide ((k:Int) = (i:Int)) = false:=decide_eq_false (by omega)
        rw [if_neg hki] at st
        have hml:m <= 1073741824:=by
          rw [hm.out]
          have:=List.length_eraseIdx_le (l:=l.take k) (i:=i)
          rw [List.length_take] at this
          omega
        have sz:=hb.out.size
        replace st:=Lib.hid st
        replace hki:=Lib.hid hki
        go_wp2_with (at_builtin; refine wpList_app rfl _ _ _ rfl eiL w.heap.size _ _ _ rfl (ho.out.alloc _) (wr.heap.size + 1) (some ⟨wr.heap.size,0,none⟩) 1 1 [.int .u64 (x:Int)] rfl ?c1 ?c2 ?c3 ?c4 ?c5 ?_)
        case c1 => exact reads_v wr _ _
        case c2 => intro u hu; rw [List.mem_singleton] at hu; subst hu; rfl
        case c3 => unfold maxLen; omega
        case c4 => omega
        case c5 => rw [World.size_alloc]; omega
        intro VV w6 own6 hg6 hat6
        obtain ⟨A6,cp6,rfl⟩:=own_is own6
        have b6:Below w.heap.size w w6:=(hb.out.alloc sz _).grown hg6 (by rw [World.size_alloc]; omega) (fun j e => own_base ho.out e)
        have om:((l.take (k + 1)).eraseIdx i).length = m + 1:=by rw [st.out,List.length_append,List.length_singleton, <- hm.out]
        have o6:w6.ownsRow w.heap.size 50 1 (.slice A6 (m + 1) cp6) (m + 1) (((l.take (k + 1)).eraseIdx i).map uv):=by rw [st.out,List.map_append]; exact own6
        replace om:=Lib.hid om
        replace o6:=Lib.hid o6
        replace b6:=Lib.hid b6
        clear own6 hg6 hat6 ho hb
        go_wp2
        go_roundw
        case rel => exact ⟨k + 1,m + 1,cp6,A6,by simp,rfl,by omega,Lib.hid om.out.symm,b6,o6⟩
        case measure => simp [intOf] <;> omega
    · obtain rfl:k = n:=by omega
      have d1:decide ((k:Int) < (k:Int)) = false:=by simp
      have et:l.take k = l:=List.take_of_length_le (by rw [<- hn.out]; exact Nat.le_refl _)
      rw [et] at hm ho
      replace et:=Lib.hid et
      go_wp2
      go_ret
      exact ⟨A',cp',by rw [<- hm.out]; rfl,hb.out,by rw [<- hm.out]; exact ho.out⟩
def dropA (H:Nat) (l:List Nat):List Nat:=l.filter (fun x => x != H)
def actN (H:Nat) (on:Bool) (l:List Nat):List Nat:=dropA H l ++ (if on then [H] else [])
theorem dropA_step {H x:Nat} {l:List Nat} {k:Nat} (hx:l[k]? = some x):dropA H (l.take (k + 1)) = if x = H then dropA H (l.take k) else dropA H (l.take k) ++ [x]:=by
 have e:l.take (k + 1) = l.take k ++ [x]:=by
  rw [List.take_add_one,hx]; rfl
 unfold dropA
 rw [e,List.filter_append]
 by_cases h:x = H
 ·rw [if_pos h]; simp [h]
 ·rw [if_neg h]; simp [h]
theorem dropA_len (H:Nat) (l:List Nat):(dropA H l).length <= l.length:=List.length_filter_le _ _
set_option maxHeartbeats 1000000 in
theorem setA (w:World) (dm N cp:Nat) (A:Option Addr) (p:Value) (hot warm:Int) (l:List Nat) (D:Blk w dm 99 #[p,.int .i64 hot,.int .i64 warm,.slice A l.length cp]) (own:w.ownsRow N 50 1 (.slice A l.length cp) l.length (l.map uv)) (hlen:l.length <= 1073741823) (H:Nat) (on:Bool) :
  Calls Tryz.prog 68 #[.pointer (some ⟨dm,0,none⟩),.int .u64 (H:Int),.bool on] w fun e w' => e = .returned (.tuple #[]) /\ ∃ w6 A' cp',w' = w6.setCell ⟨dm,3,none⟩ (.slice A' (actN H on l).length cp') /\ Below w.heap.size w w6 /\ w6.ownsRow w.heap.size 50 1 (.slice A' (actN H on l).length cp') (actN H on l).length ((actN H on l).map uv):=by
 obtain ⟨n,hn⟩:∃ n,n = l.length:=⟨_,rfl⟩
 rw [<- hn] at own D
 have hn1:n <= 1073741823:=by omega
 have dl:=D.lt
 have at_:∀ (k x:Nat),l[k]? = some x -> ∃ g,A = some ⟨g,0,none⟩ /\ g < w.heap.size /\ w.cell? ⟨g,k,none⟩ = some (.int .u64 (x:Int)):=by
  intro k x hx
  obtain ⟨g,c',hv,u⟩:=own_uv own hx
  injection hv with hv1 hv2 hv3
  exact ⟨g,hv1,own_blockN own (by rw [hv1]; rfl),u⟩
 replace hn:=Lib.hid hn
 replace at_:=Lib.hid at_
 replace D:=Lib.hid D
 clear own hlen
 go_enter Tryz.func68,Tryz.ntmps68
 go_wp2
 go_loopw [6,7] (fun vo vi wr => ∃ (k m cp':Nat) (A':Option Addr),vi = .int .i64 (k:Int) /\ vo = .slice A' m cp' /\ k <= n /\ Hid (m = (dropA H (l.take k)).length) /\ Hid (Below w.heap.size w wr) /\ Hid (wr.ownsRow w.heap.size 50 1 (.slice A' m cp') m ((dropA H (l.take k)).map uv))) (fun _ vi _ => n - (intOf vi).toNat)
 case atStart => exact ⟨0,0,0,none,rfl,rfl,Nat.zero_le _,Lib.hid (by simp [dropA]),Lib.hid (Below.refl _ _),Lib.hid (by simp [dropA]; exact own_nil _ _ _)⟩
 case round =>
  obtain ⟨k,m,cp',A',rfl,rfl,hk,hm,hb,ho⟩:=hrel
  have c3:=(hb.out.cell (p:=⟨dm,3,none⟩) dl).trans (D.out.cell 3)
  by_cases hkn:k < n
  ·obtain ⟨x,hx⟩:∃ x,l[k]? = some x:=⟨l[k]'(by rw [<- hn.out]; exact hkn),List.getElem?_eq_getElem _⟩
   obtain ⟨g,rfl,hg,cl⟩:=at_.out k x hx
   have st:=dropA_step (H:=H) hx
   have clr:=(hb.out.cell (p:=⟨g,k,none⟩) hg).trans cl
   have k0:(0:Int) <= (k:Int):=by omega
   have k1:(k:Int) < (n:Int):=by omega
   have d1:decide ((k:Int) < (n:Int)) = true:=decide_eq_true k1
   have q1:IntKind.i64.wrap ((k:Int) + 1) = (k:Int) + 1:=IntWalk.i64_in _ (by omega)
   replace hx:=Lib.hid hx
   by_cases hki:x = H
   ·have d2:((x:Int) == (H:Int)) = true:=by rw [beq_iff_eq]; omega
    have d3:((x:Int) != (H:Int)) = false:=by rw [bne_eq_false_iff_eq]; omega
    have d4:decide ((x:Int) = (H:Int)) = true:=decide_eq_true (by omega)
    rw [if_pos hki] at st
    rw [<- st] at hm ho
    replace st:=Lib.hid st
    replace hki:=Lib.hid hki
    go_wp2
    go_roundw
    case rel => exact ⟨k + 1,m,cp',A',by simp,rfl,by omega,hm,hb,ho⟩
    case measure => simp [intOf] <;> omega
   ·have d2:((x:Int) == (H:Int)) = false:=by rw [beq_eq_false_iff_ne]; omega
    have d3:((x:Int) != (H:Int)) = true:=by rw [bne_iff_ne]; omega
    have d4:decide ((x:Int) = (H:Int)) = false:=decide_eq_false (by omega)
    rw [if_neg hki] at st
    have hml:m <= 1073741823:=by
     rw [hm.out]
     have:=dropA_len H (l.take k)
     rw [List.length_take] at this
     omega
    have sz:=hb.out.size
    replace st:=Lib.hid st
    replace hki:=Lib.hid hki
    go_wp2_with (at_builtin; refine wpList_app rfl _ _ _ rfl eiL w.heap.size _ _ _ rfl (ho.out.alloc _) (wr.heap.size + 1) (some ⟨wr.heap.size,0,none⟩) 1 1 [.int .u64 (x:Int)] rfl ?c1 ?c2 ?c3 ?c4 ?c5 ?_)
    case c1 => exact reads_v wr _ _
    case c2 => intro u hu; rw [List.mem_singleton] at hu; subst hu; rfl
    case c3 => unfold maxLen; omega
    case c4 => omega
    case c5 => rw [World.size_alloc]; omega
    intro VV w6 own6 hg6 hat6
    obtain ⟨A6,cp6,rfl⟩:=own_is own6
    have b6:Below w.heap.size w w6:=(hb.out.alloc sz _).grown hg6 (by rw [World.size_alloc]; omega) (fun j e => own_base ho.out e)
    have om:(dropA H (l.take (k + 1))).length = m + 1:=by rw [st.out,List.length_append,List.length_singleton, <- hm.out]
    have o6:w6.ownsRow w.heap.size 50 1 (.slice A6 (m + 1) cp6) (m + 1) ((dropA H (l.take (k + 1))).map uv):=by rw [st.out,List.map_append]; exact own6
    replace om:=Lib.hid om
    replace o6:=Lib.hid o6
    replace b6:=Lib.hid b6
    clear own6 hg6 hat6 ho hb
    go_wp2
    go_roundw
    case rel => exact ⟨k + 1,m + 1,cp6,A6,by simp,rfl,by omega,Lib.hid om.out.symm,b6,o6⟩
    case measure => simp [intOf] <;> omega
  ·obtain rfl:k = n:=by omega
   have d1:decide ((k:Int) < (k:Int)) = false:=by simp
   have et:l.take k = l:=List.take_of_length_le (by rw [<- hn.out]; exact Nat.le_refl _)
   rw [et] at hm ho
   have hml:m <= 1073741823:=by
    rw [hm.out]
    have:=dropA_len H l
    rw [<- hn.out] at this
    omega
   have c4:=fun w6 (b:Below w.heap.size w w6) => D.out.below b dl
   have sz:=hb.out.size
   replace c4:=Lib.hid c4
   cases on with
   | true =>
    go_wp2_with (at_builtin; refine wpList_app rfl _ _ _ rfl eiL w.heap.size _ _ _ rfl (ho.out.alloc _) (wr.heap.size + 1) (some ⟨wr.heap.size,0,none⟩) 1 1 [.int .u64 (H:Int)] rfl ?c1 ?c2 ?c3 ?c4 ?c5 ?_)
    case c1 => exact reads_v wr _ _
    case c2 => intro u hu; rw [List.mem_singleton] at hu; subst hu; rfl
    case c3 => unfold maxLen; omega
    case c4 => omega
    case c5 => rw [World.size_alloc]; omega
    intro VV w6 own6 hg6 hat6
    obtain ⟨A6,cp6,rfl⟩:=own_is own6
    have b6:Below w.heap.size w w6:=(hb.out.alloc sz _).grown hg6 (by rw [World.size_alloc]; omega) (fun j e => own_base ho.out e)
    have B6:=c4.out w6 b6
    have r1:=B6.cell 3
    have r2:=B6.frozen 3
    have om:(actN H true l).length = m + 1:=by unfold actN; rw [if_pos rfl,List.length_append,List.length_singleton, <- hm.out]
    have o6:w6.ownsRow w.heap.size 50 1 (.slice A6 (m + 1) cp6) (m + 1) ((actN H true l).map uv):=by unfold actN; rw [if_pos rfl,List.map_append]; exact own6
    replace o6:=Lib.hid o6
    replace b6:=Lib.hid b6
    replace om:=Lib.hid om
    replace B6:=Lib.hid B6
    clear own6 hg6 hat6 ho hb
    go_wp2
    go_end0
    exact ⟨rfl,w6,A6,cp6,by rw [om.out],b6.out,by rw [om.out]; exact o6.out⟩
   | false =>
    have B6:=c4.out wr hb.out
    have r1:=B6.cell 3
    have r2:=B6.frozen 3
    have om:(actN H false l).length = m:=by unfold actN; rw [if_neg (by decide),List.append_nil, <- hm.out]
    have o6:wr.ownsRow w.heap.size 50 1 (.slice A' m cp') m ((actN H false l).map uv):=by unfold actN; rw [if_neg (by decide),List.append_nil]; exact ho.out
    replace o6:=Lib.hid o6
    replace om:=Lib.hid om
    replace B6:=Lib.hid B6
    clear ho
    go_wp2
    go_end0
    exact ⟨rfl,wr,A',cp',by rw [om.out],hb.out,by rw [om.out]; exact o6.out⟩
section
variable {N:Nat} {w:World} {W:W6} {c:Conf} {s:St} {bs:List UInt8} {Z:Nat -> Option Zd} {Ls Ld:Nat -> Nat -> List Nat} {r:RS} {laid told act:List Nat} {mk:Nat -> Nat} (h:WAt N w W c s bs Z Ls Ld r laid told act mk)
include h
theorem WAt.lt (i:C6) (b:Nat) (hb:W.foot c s i b):b < w.heap.size:=by
  cases i with
  | set => obtain ⟨F,S,q⟩:=h.q; exact S.zs.set.lt hb
  | ref => exact h.ref.lt hb
  | queue =>
    obtain ⟨F,S,q⟩:=h.q
    rcases hb with rfl | rfl
    · exact S.q.ltq
    · exact S.q.ltl
  | doc => exact h.doc.lt hb
  | own =>
    rcases hb with rfl | hb
    · exact h.own.lt
    · exact own_blockN h.told hb
  | lru => exact (h.lru b hb).lt
  | act =>
    rcases hb with hb | hb
    · exact (h.dlr b hb).lt
    · exact own_blockN h.row hb
theorem WAt.set:SetAt w W.L c s bs:=by obtain ⟨F,S,q⟩:=h.q; exact S.zs.set
theorem WAt.good:Cls.Good c.cf s:=by obtain ⟨F,S,q⟩:=h.q; exact S.zs.good
theorem WAt.okc:c.cf.Ok:=h.set.okc
theorem WAt.sepOf {W':W6} {s':St} (i0:C6) (hk:∀ i b,W'.foot c s' i b -> i = i0 /\ (W.foot c s i0 b \/ w.heap.size <= b) \/ i ≠ i0 /\ W.foot c s i b) (hN:N <= w.heap.size) :
    (∀ i j b,W'.foot c s' i b -> W'.foot c s' j b -> i = j) /\ ∀ i b,W'.foot c s' i b -> N <= b:=by
  refine ⟨fun i j b hi hj => ?_,fun i b hb => ?_⟩
  · rcases hk i b hi with ⟨e1,h1⟩ | ⟨n1,h1⟩ <;> rcases hk j b hj with ⟨e2,h2⟩ | ⟨n2,h2⟩
    · rw [e1,e2]
    · rcases h1 with h1 | h1
      · rw [e1]; exact h.sep _ _ b h1 h2
      · have:=h.lt _ _ h2; omega
    · rcases h2 with h2 | h2
      · rw [e2]; exact h.sep _ _ b h1 h2
      · have:=h.lt _ _ h1; omega
    · exact h.sep _ _ b h1 h2
  · rcases hk i b hb with ⟨-,h1 | h1⟩ | ⟨-,h1⟩
    · exact h.base _ _ h1
    · omega
    · exact h.base _ _ h1
theorem WAt.hN (w':World) (hw:w.heap.size <= w'.heap.size):N <= w'.heap.size:=by
  have:=h.base .own W.b (.inl rfl)
  have:=h.own.lt
  omega
theorem WAt.hN0:N <= w.heap.size:=h.hN w (Nat.le_refl _)
theorem WAt.below {w':World} (b:Below w.heap.size w w'):WAt N w' W c s bs Z Ls Ld r laid told act mk:=by
  obtain ⟨F,S,q⟩:=h.q
  exact ⟨⟨F,S.below b,q⟩,h.ref.kept fun d hd => b.block d (h.ref.lt hd),h.doc.below b,h.own.below b h.own.lt,own_keptN h.told fun d e => b.block d (own_blockN h.told e),h.sep,h.tb,h.base,fun g e => (h.lru g e).below b (h.lru g e).lt,fun d e => (h.dlr d e).below b (h.dlr d e).lt,own_keptN h.row fun d e => b.block d (own_blockN h.row e),h.ad,h.mks⟩
theorem WAt.take {w':World} {L':Lay} {s1:St} {k:Nat} (hk:k < c.cf.nc) (hr:roomS c.cf s k = some s1) {l:List Nat} {p:Nat} (hp:s1.free k = l ++ [p]) {H0:Nat} (h0:H0 = hnd p (s1.gens (p / c.cf.ps) (p % c.cf.ps / c.cf.sz k))) (G:Nat) (eg:L'.g = W.L.g)
    (hb:bs.length = c.cf.ps * c.cf.np) (M:SetAt w' L' c (takeS c.cf s1 k p) (takeB bs p G)) (We:Went w w' W.L L' c s (takeS c.cf s1 k p)) :
    WAt N w' { W with L:=L' } c (takeS c.cf s1 k p) (takeB bs p G) (upd Z H0 none) Ls Ld r laid told act mk:=by
  have ns:∀ i b,i ≠ .set -> W.foot c s i b -> ¬ Foot W.L c s b:=fun i b hi hb hf => hi (h.sep i .set b hb hf)
  have sp:=h.sepOf (W':={ W with L:=L' }) (s':=takeS c.cf s1 k p) .set (fun i b hb => by
    cases i with
    | set => exact .inl ⟨rfl,We.foot b hb⟩
    | _ => exact .inr ⟨by simp,hb⟩) h.hN0
  have O:Blk w' W.b 36 W.cells:=(We.only.block _ h.own.lt (ns .own _ (by simp) (.inl rfl))).trans h.own
  have LC:∀ g,W.gm = some g -> Blk w g 97 (W6.lc { W with L:=L' }):=fun g e => by
    have:=h.lru g e
    unfold W6.lc at this ⊢
    rw [eg]
    exact this
  have AC:=h.dlr
  refine ⟨h.q.take h.okc h.good hk hr hp h0 hb G eg M We,h.ref.only We.only fun b hb => ns .ref b (by simp) hb,h.doc.only We.only fun b hb => ns .doc b (by simp) hb,?_,own_keptN h.told fun b e => We.only.block b (own_blockN h.told e) (ns .own b (by simp) (.inr e)),sp.1,h.tb,sp.2,fun g e => (We.only.block _ (h.lru g e).lt (ns .lru g (by simp) e)).trans (LC g e),fun d e => (We.only.block _ (h.dlr d e).lt (ns .act d (by simp) (.inl e))).trans (AC d e),own_keptN h.row fun d e => We.only.block d (own_blockN h.row e) (ns .act d (by simp) (.inr e)),h.ad,h.mks.take h.okc h.good hk hr hp h0 hb G⟩
  have e:W6.cells { W with L:=L' } = W.cells:=by unfold W6.cells; rw [eg]
  rw [e]
  exact O
theorem WAt.rtake {w':World} {M':RL} {r':RS} (R:RSetAt w' M' c r') (We:RWent w w' W.M M' c):WAt N w' { W with M:=M' } c s bs Z Ls Ld r' laid told act mk:=by
  have ns:∀ i b,i ≠ .ref -> W.foot c s i b -> ¬ RFoot W.M c b:=fun i b hi hb hf => hi (h.sep i .ref b hb hf)
  have sp:=h.sepOf (W':={ W with M:=M' }) (s':=s) .ref (fun i b hb => by
    cases i with
    | ref => exact .inl ⟨rfl,We.foot b hb⟩
    | _ => exact .inr ⟨by simp,hb⟩) h.hN0
  have O:Blk w' W.b 36 W.cells:=(We.only.block _ h.own.lt (ns .own _ (by simp) (.inl rfl))).trans h.own
  have D:=h.doc.only We.only fun b hb => ns .doc b (by simp) hb
  have LC:=h.lru
  have AC:=h.dlr
  obtain ⟨F,S,q⟩:=h.q
  have e:W6.cells { W with M:=M' } = W.cells:=by unfold W6.cells; rw [We.b]
  refine ⟨⟨F,⟨S.zs.only We.only fun b hb => ns .set b (by simp) hb,S.q.only We.only (ns .queue _ (by simp) (.inl rfl)) (ns .queue _ (by simp) (.inr rfl)),S.fq,S.fl⟩,q⟩,R,?_,?_,own_keptN h.told fun b e => We.only.block b (own_blockN h.told e) (ns .own b (by simp) (.inr e)),sp.1,h.tb,sp.2,fun g e => (We.only.block _ (h.lru g e).lt (ns .lru g (by simp) e)).trans (LC g e),fun d e => (We.only.block _ (h.dlr d e).lt (ns .act d (by simp) (.inl e))).trans (AC d e),own_keptN h.row fun d e => We.only.block d (own_blockN h.row e) (ns .act d (by simp) (.inr e)),h.ad,h.mks⟩
  · show R6At w' W.R M'.b _ _ _
    rw [We.b]; exact D
  · rw [e]; exact O
theorem WAt.doc_ {w':World} {R':R6} {laid':List Nat} {Ld':Nat -> Nat -> List Nat} (D:R6At w' R' W.M.b (3 * c.nc) laid' (fun i => Ld' (i / 3) (i % 3))) (eb:R'.b = W.R.b) (We:Went6 w w' W.R R' (3 * c.nc)):WAt N w' { W with R:=R' } c s bs Z Ls Ld' r laid' told act mk:=by
  have ns:∀ i b,i ≠ .doc -> W.foot c s i b -> ¬ F6 W.R (3 * c.nc) b:=fun i b hi hb hf => hi (h.sep i .doc b hb hf)
  have sp:=h.sepOf (W':={ W with R:=R' }) (s':=s) .doc (fun i b hb => by
    cases i with
    | doc => exact .inl ⟨rfl,We.foot b hb⟩
    | _ => exact .inr ⟨by simp,hb⟩) h.hN0
  have O:Blk w' W.b 36 W.cells:=(We.only.block _ h.own.lt (ns .own _ (by simp) (.inl rfl))).trans h.own
  have LC:=h.lru
  have AC:∀ d,W.dm = some d -> Blk w d 99 (W6.dc { W with R:=R' }):=fun g e => by
    have:=h.dlr g e
    unfold W6.dc at this ⊢
    rw [eb]
    exact this
  obtain ⟨F,S,q⟩:=h.q
  have e:W6.cells { W with R:=R' } = W.cells:=by unfold W6.cells; rw [eb]
  refine ⟨⟨F,⟨S.zs.only We.only fun b hb => ns .set b (by simp) hb,S.q.only We.only (ns .queue _ (by simp) (.inl rfl)) (ns .queue _ (by simp) (.inr rfl)),S.fq,S.fl⟩,q⟩,h.ref.only We.only fun b hb => ns .ref b (by simp) hb,D,?_,own_keptN h.told fun b e => We.only.block b (own_blockN h.told e) (ns .own b (by simp) (.inr e)),sp.1,h.tb,sp.2,fun g e => (We.only.block _ (h.lru g e).lt (ns .lru g (by simp) e)).trans (LC g e),fun d e => (We.only.block _ (h.dlr d e).lt (ns .act d (by simp) (.inl e))).trans (AC d e),own_keptN h.row fun d e => We.only.block d (own_blockN h.row e) (ns .act d (by simp) (.inr e)),h.ad,h.mks⟩
  rw [e]; exact O
theorem WAt.turn {w':World} {bs':List UInt8} {Z':Nat -> Option Zd} {Ls':Nat -> Nat -> List Nat} (o:Only (Two W.L W.gl) w w') (Q:QW w' W.L c s bs' Z' W.gq W.gl Ls') {mk':Nat -> Nat} (m:Mks c s bs' Z' mk'):WAt N w' W c s bs' Z' Ls' Ld r laid told act mk':=by
  have LC:=h.lru
  have AC:=h.dlr
  have ns:∀ i b,i ≠ .set -> i ≠ .queue -> W.foot c s i b -> ¬ Two W.L W.gl b:=fun i b h1 h2 hb hf => by
    rcases hf with e | e
    · exact h1 (h.sep i .set b hb (by rw [e]; exact ⟨.bytes,rfl⟩))
    · exact h2 (h.sep i .queue b hb (.inr e))
  exact ⟨Q,h.ref.only o fun b hb => ns .ref b (by simp) (by simp) hb,h.doc.only o fun b hb => ns .doc b (by simp) (by simp) hb,(o.block _ h.own.lt (ns .own _ (by simp) (by simp) (.inl rfl))).trans h.own,own_keptN h.told fun b e => o.block b (own_blockN h.told e) (ns .own b (by simp) (by simp) (.inr e)),h.sep,h.tb,h.base,fun g e => (o.block _ (h.lru g e).lt (ns .lru g (by simp) (by simp) e)).trans (LC g e),fun d e => (o.block _ (h.dlr d e).lt (ns .act d (by simp) (by simp) (.inl e))).trans (AC d e),own_keptN h.row fun d e => o.block d (own_blockN h.row e) (ns .act d (by simp) (by simp) (.inr e)),h.ad,m⟩
theorem WAt.tell {w6:World} {v':Value} {H:Nat} (o:Only (fun b => W.vT.ownBlock = some b) w w6) (own6:w6.ownsRow 0 50 1 v' (told.length + 1) (told.map uv ++ [uv H])) (hat:∀ b,v'.ownBlock = some b -> W.vT.ownBlock = some b \/ w.heap.size <= b) :
    WAt N (w6.setCell ⟨W.b,6,none⟩ v') { W with vT:=v' } c s bs Z Ls Ld r laid (told ++ [H]) act mk:=by
  have LC:=h.lru
  have AC:=h.dlr
  have ns:∀ i b,i ≠ .own -> W.foot c s i b -> ¬ (b = W.b \/ W.vT.ownBlock = some b):=fun i b hi hb hf => hi (h.sep i .own b hb hf)
  have o2:=only_cell1 (S:=fun b => b = W.b \/ W.vT.ownBlock = some b) w6 W.b 6 v' (.inl rfl)
  have o3:Only (fun b => b = W.b \/ W.vT.ownBlock = some b) w (w6.setCell ⟨W.b,6,none⟩ v'):=(o.mono fun b _ e => .inr e).trans o2 fun _ _ h => h
  have sp:=h.sepOf (W':={ W with vT:=v' }) (s':=s) .own (fun i b hb => by
    cases i with
    | own =>
      rcases hb with hb | hb
      · exact .inl ⟨rfl,.inl (.inl hb)⟩
      · exact .inl ⟨rfl,(hat b hb).imp .inr id⟩
    | _ => exact .inr ⟨by simp,hb⟩) h.hN0
  have tb':v'.ownBlock ≠ some W.b:=fun e => by
    rcases hat _ e with h1 | h1
    · exact h.tb h1
    · have:=h.own.lt; omega
  have O:Blk w6 W.b 36 W.cells:=(o.block _ h.own.lt h.tb).trans h.own
  obtain ⟨F,S,q⟩:=h.q
  refine ⟨⟨F,⟨S.zs.only o3 fun b hb => ns .set b (by simp) hb,S.q.only o3 (ns .queue _ (by simp) (.inl rfl)) (ns .queue _ (by simp) (.inr rfl)),S.fq,S.fl⟩,q⟩,h.ref.only o3 fun b hb => ns .ref b (by simp) hb,h.doc.only o3 fun b hb => ns .doc b (by simp) hb,O.set_ 6 v',?_,sp.1,tb',sp.2,fun g e => (o3.block _ (h.lru g e).lt (ns .lru g (by simp) e)).trans (LC g e),fun d e => (o3.block _ (h.dlr d e).lt (ns .act d (by simp) (.inl e))).trans (AC d e),own_keptN h.row fun d e => o3.block d (own_blockN h.row e) (ns .act d (by simp) (.inr e)),h.ad,h.mks⟩
  have e:(told ++ [H]).map uv = told.map uv ++ [uv H]:=List.map_append
  rw [e,List.length_append]
  exact own_keptN own6 fun b e => (only_cell1 (S:=(· = W.b)) w6 W.b 6 v' rfl).block b (own_blockN own6 e) fun e2 => tb' (e2 ▸ e)
theorem WAt.acts {w6:World} {v':Value} {dm:Nat} (ed:W.dm = some dm) {act':List Nat} (o:Below w.heap.size w w6) (own6:w6.ownsRow 0 50 1 v' act'.length (act'.map uv)) (hat:∀ b,v'.ownBlock = some b -> w.heap.size <= b) :
    WAt N (w6.setCell ⟨dm,3,none⟩ v') { W with vA:=v' } c s bs Z Ls Ld r laid told act' mk:=by
  have k:=h.below o
  have ns:∀ i b,i ≠ .act -> W.foot c s i b -> b ≠ dm:=fun i b hi hb hf => hi (h.sep i .act b hb (by rw [hf]; exact .inl ed))
  have o2:=only_cell1 (S:=(· = dm)) w6 dm 3 v' rfl
  have dl:=(h.dlr dm ed).lt
  have sp:=h.sepOf (W':={ W with vA:=v' }) (s':=s) .act (fun i b hb => by
    cases i with
    | act =>
      rcases hb with hb | hb
      · exact .inl ⟨rfl,.inl (.inl hb)⟩
      · exact .inl ⟨rfl,.inr (hat b hb)⟩
    | _ => exact .inr ⟨by simp,hb⟩) h.hN0
  have vd:v'.ownBlock ≠ some dm:=fun e => by have:=hat dm e; omega
  have O:=k.dlr dm ed
  obtain ⟨F,S,q⟩:=k.q
  refine ⟨⟨F,⟨S.zs.only o2 fun b hb => ns .set b (by simp) hb,S.q.only o2 (ns .queue _ (by simp) (.inl rfl)) (ns .queue _ (by simp) (.inr rfl)),S.fq,S.fl⟩,q⟩,k.ref.only o2 fun b hb => ns .ref b (by simp) hb,k.doc.only o2 fun b hb => ns .doc b (by simp) hb,(o2.block _ k.own.lt (ns .own _ (by simp) (.inl rfl))).trans k.own,own_keptN k.told fun b e => o2.block b (own_blockN k.told e) (ns .own b (by simp) (.inr e)),sp.1,h.tb,sp.2,fun g e => (o2.block _ (k.lru g e).lt (ns .lru g (by simp) e)).trans (k.lru g e),fun d e => ?_,own_keptN own6 fun b e => o2.block b (own_blockN own6 e) fun e2 => vd (e2 ▸ e),fun d e => ?_,h.mks⟩
  · obtain rfl:dm = d:=by rw [ed] at e; injection e
    exact O.set_ 3 v'
  · obtain rfl:dm = d:=by rw [ed] at e; injection e
    exact vd
end
theorem below_any {S:Nat -> Prop} {w w':World} (h:Below w.heap.size w w'):Only S w w':=⟨h.os,h.tape,h.output,h.size,fun i hi _ => h.block i hi⟩
def Sm (W' W:W6):Prop:=W'.b = W.b /\ W'.gm = W.gm /\ W'.dm = W.dm /\ W'.hot = W.hot /\ W'.warm = W.warm
structure Grew (c:Conf) (w0 w:World) (W0 W:W6) (s0 s:St):Prop where
  only:Only (fun b => ∃ i,W0.foot c s0 i b) w0 w
  foot:∀ i b,W.foot c s i b -> (∃ j,W0.foot c s0 j b) \/ w0.heap.size <= b
theorem Grew.refl (c:Conf) (w:World) (W:W6) (s:St):Grew c w w W W s s:=⟨Only.refl _ _,fun i b hb => .inl ⟨i,hb⟩⟩
theorem Grew.trans {c:Conf} {w0 w1 w2:World} {W0 W1 W2:W6} {s0 s1 s2:St} (h:Grew c w0 w1 W0 W1 s0 s1) (k:Grew c w1 w2 W1 W2 s1 s2):Grew c w0 w2 W0 W2 s0 s2 :=
  ⟨h.only.trans k.only fun x hx ⟨i,hf⟩ => (h.foot i x hf).resolve_right (by omega),fun i b hb => (k.foot i b hb).elim (fun ⟨j,hj⟩ => h.foot j b hj) fun hb => .inr (Nat.le_trans h.only.size hb)⟩
theorem Grew.step {c:Conf} {w0 w w':World} {W0 W:W6} {s0 s:St} (h:Grew c w0 w W0 W s0 s) (b:Below w.heap.size w w'):Grew c w0 w' W0 W s0 s:=⟨h.only.below b h.only.size,h.foot⟩
theorem Grew.below {c:Conf} {N:Nat} {w0 w:World} {W0 W:W6} {s0 s:St} (h:Grew c w0 w W0 W s0 s) (hb:∀ i b,W0.foot c s0 i b -> N <= b) (hN:N <= w0.heap.size):Below N w0 w :=
  h.only.toBelow fun k hk => ⟨by omega,fun ⟨i,e⟩ => by have:=hb i k e; omega⟩
theorem Grew.away {c:Conf} {w0 w:World} {W0 W:W6} {s0 s:St} (h:Grew c w0 w W0 W s0 s) {b:Nat} (hb:b < w0.heap.size) (hn:∀ i,¬ W0.foot c s0 i b):w.heap[b]? = w0.heap[b]? /\ ∀ i,¬ W.foot c s i b :=
  ⟨h.only.block b hb fun ⟨i,e⟩ => hn i e,fun i e => (h.foot i b e).elim (fun ⟨j,hj⟩ => hn j hj) fun h1 => by omega⟩
theorem grew_take {c:Conf} {w w':World} {W:W6} {L':Lay} {s s':St} (We:Went w w' W.L L' c s s'):Grew c w w' W { W with L:=L' } s s' :=
  ⟨We.only.mono fun b _ e => ⟨.set,e⟩,fun i b hb => by
    cases i with
    | set => exact (We.foot b hb).imp (fun e => ⟨.set,e⟩) id
    | ref => exact .inl ⟨.ref,hb⟩
    | queue => exact .inl ⟨.queue,hb⟩
    | doc => exact .inl ⟨.doc,hb⟩
    | own => exact .inl ⟨.own,hb⟩
    | lru => exact .inl ⟨.lru,hb⟩
    | act => exact .inl ⟨.act,hb⟩⟩
theorem grew_rtake {c:Conf} {w w':World} {W:W6} {M':RL} {s:St} (We:RWent w w' W.M M' c):Grew c w w' W { W with M:=M' } s s :=
  ⟨We.only.mono fun b _ e => ⟨.ref,e⟩,fun i b hb => by
    cases i with
    | ref => exact (We.foot b hb).imp (fun e => ⟨.ref,e⟩) id
    | set => exact .inl ⟨.set,hb⟩
    | queue => exact .inl ⟨.queue,hb⟩
    | doc => exact .inl ⟨.doc,hb⟩
    | own => exact .inl ⟨.own,hb⟩
    | lru => exact .inl ⟨.lru,hb⟩
    | act => exact .inl ⟨.act,hb⟩⟩
theorem grew_doc {c:Conf} {w w':World} {W:W6} {R':R6} {s:St} (We:Went6 w w' W.R R' (3 * c.nc)):Grew c w w' W { W with R:=R' } s s :=
  ⟨We.only.mono fun b _ e => ⟨.doc,e⟩,fun i b hb => by
    cases i with
    | doc => exact (We.foot b hb).imp (fun e => ⟨.doc,e⟩) id
    | set => exact .inl ⟨.set,hb⟩
    | queue => exact .inl ⟨.queue,hb⟩
    | ref => exact .inl ⟨.ref,hb⟩
    | own => exact .inl ⟨.own,hb⟩
    | lru => exact .inl ⟨.lru,hb⟩
    | act => exact .inl ⟨.act,hb⟩⟩
theorem grew_turn {c:Conf} {w w':World} {W:W6} {s:St} (o:Only (Two W.L W.gl) w w'):Grew c w w' W W s s :=
  ⟨o.mono fun b _ e => by
    rcases e with e | e
    · exact ⟨.set,by rw [e]; exact ⟨.bytes,rfl⟩⟩
    · exact ⟨.queue,.inr e⟩,fun i b hb => .inl ⟨i,hb⟩⟩
theorem grew_tell {c:Conf} {w w':World} {W:W6} {v':Value} {s:St} (o:Only (fun b => b = W.b \/ W.vT.ownBlock = some b) w w') (hat:∀ b,v'.ownBlock = some b -> W.vT.ownBlock = some b \/ w.heap.size <= b):Grew c w w' W { W with vT:=v' } s s :=
  ⟨o.mono fun b _ e => ⟨.own,e⟩,fun i b hb => by
    cases i with
    | own =>
      rcases hb with hb | hb
      · exact .inl ⟨.own,.inl hb⟩
      · exact (hat b hb).imp (fun e => ⟨.own,.inr e⟩) id
    | set => exact .inl ⟨.set,hb⟩
    | queue => exact .inl ⟨.queue,hb⟩
    | ref => exact .inl ⟨.ref,hb⟩
    | doc => exact .inl ⟨.doc,hb⟩
    | lru => exact .inl ⟨.lru,hb⟩
    | act => exact .inl ⟨.act,hb⟩⟩
theorem grew_acts {c:Conf} {w w6:World} {W:W6} {v':Value} {s:St} {dm:Nat} (ed:W.dm = some dm) (o:Below w.heap.size w w6) (hat:∀ b,v'.ownBlock = some b -> w.heap.size <= b):Grew c w (w6.setCell ⟨dm,3,none⟩ v') W { W with vA:=v' } s s :=
  ⟨(below_any o).trans ((only_cell1 (S:=fun b => ∃ i,W.foot c s i b) w6 dm 3 v' ⟨.act,.inl ed⟩)) fun _ _ h => h,fun i b hb => by
    cases i with
    | act =>
      rcases hb with hb | hb
      · exact .inl ⟨.act,.inl hb⟩
      · exact .inr (hat b hb)
    | own => exact .inl ⟨.own,hb⟩
    | set => exact .inl ⟨.set,hb⟩
    | queue => exact .inl ⟨.queue,hb⟩
    | ref => exact .inl ⟨.ref,hb⟩
    | doc => exact .inl ⟨.doc,hb⟩
    | lru => exact .inl ⟨.lru,hb⟩⟩
structure Op6 where
 dO:Int
 a:Int
 b:Int
 c:Int
 h:Nat
 raw:Bool
def Op6.cells (o:Op6):Array Value:=#[.int .i64 o.dO,.int .i64 o.a,.int .i64 o.b,.int .i64 o.c,.int .u64 (o.h:Int),.bool o.raw]
structure Op6.Ok (o:Op6):Prop where
 dO:Cls.In o.dO
 a:Cls.In o.a
 b:Cls.In o.b
 c:Cls.In o.c
 h:o.h < 18446744073709551616
theorem op6_cells {w:World} {N:Nat} {t:TypeId} {o:Op6} (h:Blk w N t o.cells):w.cell? ⟨N,0,none⟩ = some (.int .i64 o.dO) /\ w.cell? ⟨N,1,none⟩ = some (.int .i64 o.a) /\ w.cell? ⟨N,2,none⟩ = some (.int .i64 o.b) /\ w.cell? ⟨N,3,none⟩ = some (.int .i64 o.c) /\ w.cell? ⟨N,4,none⟩ = some (.int .u64 (o.h:Int)) /\ w.cell? ⟨N,5,none⟩ = some (.bool o.raw) :=
 ⟨h.cell 0,h.cell 1,h.cell 2,h.cell 3,h.cell 4,h.cell 5⟩
theorem qc_sz (k:Nat) (hk:k < 3) : 64 <= qc.sz k /\ qc.cf.n k <= 64:=by
 obtain rfl | rfl | rfl:k = 0 \/ k = 1 \/ k = 2:=by omega
 all_goals decide
section
variable {N:Nat} {w:World} {W:W6} {s:St} {bs:List UInt8} {Z:Nat -> Option Zd} {Ls Ld:Nat -> Nat -> List Nat} {r:RS} {laid told act:List Nat} {mk:Nat -> Nat} (h:WAt N w W qc s bs Z Ls Ld r laid told act mk)
include h
theorem WAt.cW:w.cell? ⟨W.b,0,none⟩ = some (.pointer (some ⟨W.L.g,0,none⟩)) /\ w.cell? ⟨W.b,1,none⟩ = some (.pointer (some ⟨W.gq,0,none⟩)) /\ w.cell? ⟨W.b,3,none⟩ = some (.pointer (some ⟨W.M.b,0,none⟩)) /\ w.cell? ⟨W.b,4,none⟩ = some (.pointer (some ⟨W.R.b,0,none⟩)) /\ w.cell? ⟨W.b,6,none⟩ = some W.vT :=
 ⟨h.own.cell 0,h.own.cell 1,h.own.cell 3,h.own.cell 4,h.own.cell 6⟩
theorem WAt.cL:w.cell? ⟨W.b,2,none⟩ = some (ptrO W.gm) /\ w.cell? ⟨W.b,5,none⟩ = some (ptrO W.dm):=⟨h.own.cell 2,h.own.cell 5⟩
theorem makesNo (o:Op6) (ok:o.Ok) (Rl:Rel qc.cf s r) (hr:roomS qc.cf s (o.b % 3).toNat = none) :
  Calls Tryz.prog 42 #[.pointer (some ⟨W.b,0,none⟩),.agg o.cells] w fun e w' => e = .returned (.bool true) /\ Below w.heap.size w w':=by
 have hk:(o.b % 3).toNat < 3:=by omega
 have hnc:=qc_nc
 obtain ⟨w1,hw1⟩:∃ w1,w1 = w.alloc (.cells o.cells 64):=⟨_,rfl⟩
 have B1:Blk w1 w.heap.size 64 o.cells:=by rw [hw1]; exact Blk.new w _ _
 have b1:Below w.heap.size w w1:=by rw [hw1]; exact (Below.refl _ _).alloc (Nat.le_refl _) _
 have h1:=h.below b1
 obtain ⟨x0,x1,x2,x3,x4,x5⟩:=op6_cells B1
 obtain ⟨y0,y1,y2,y3,y4⟩:=h1.cW
 have WC:=withinI o.b 3 ok.b (by omega) (by omega)
 rw [show ((3:Nat):Int) = 3 from rfl] at WC
 have TC:=takeNo w1 W.L qc s bs h1.set _ (by rw [hnc]; exact hk) hr
 have RC:=rtakeNo w1 W.M qc r h1.ref _ (by rw [hnc]; exact hk) ((Rl.room h1.okc h1.good (by show _ < qc.nc; omega)).1 hr)
 generalize (o.b % 3).toNat = k at *
 have n1:=fun w => numC6 w 21
 replace TC:=Lib.hid TC
 replace RC:=Lib.hid RC
 replace WC:=Lib.hid WC
 replace b1:=Lib.hid b1
 unfold Op6.cells at hw1 ⊢
 replace hw1:=Lib.hid hw1
 clear h h1 Rl hr B1 hnc
 generalize hN:w.heap.size = N0 at *
 replace hN:=Lib.hid hN
 go_enter Tryz.func42,Tryz.ntmps42
 go_upto_region 1 with fail
 rw [hN.out, <- hw1.out]
 go_wp2_with (first | (go_at_call 31; refine (WC.out _).mono ?_; rintro e w' ⟨rfl,rfl⟩) | (go_at_call 81; refine TC.out.mono ?_; rintro e w' ⟨rfl,rfl⟩) | (go_at_call 82; refine RC.out.mono ?_; rintro e w' ⟨rfl,rfl⟩) | (go_at_call 14; refine (n1 _).mono ?_; rintro e w' ⟨rfl,rfl⟩) | fail)
 go_ret
 exact ⟨rfl,b1.out⟩
end
structure Took6 (N N0:Nat) (w0 w:World) (W0:W6) (s0:St) (W:W6) (s:St) (bs:List UInt8) (Z:Nat -> Option Zd) (Ls Ld:Nat -> Nat -> List Nat) (r:RS) (laid told act:List Nat) (mk:Nat -> Nat) (o:Op6):Prop where
 wat:WAt N w W qc s bs Z Ls Ld r laid told act mk
 op:Blk w N0 64 o.cells
 far:∀ i,¬ W.foot qc s i N0
 below:Below N w0 w
 grew:Grew qc w0 w W0 W s0 s
theorem Took6.cells {N N0:Nat} {w0 w:World} {W0:W6} {s0:St} {W:W6} {s:St} {bs:List UInt8} {Z:Nat -> Option Zd} {Ls Ld:Nat -> Nat -> List Nat} {r:RS} {laid told act:List Nat} {mk:Nat -> Nat} {o:Op6} (h:Took6 N N0 w0 w W0 s0 W s bs Z Ls Ld r laid told act mk o) :
  w.cell? ⟨N0,0,none⟩ = some (.int .i64 o.dO) /\ w.cell? ⟨W.b,0,none⟩ = some (.pointer (some ⟨W.L.g,0,none⟩)) /\ w.cell? ⟨W.b,3,none⟩ = some (.pointer (some ⟨W.M.b,0,none⟩)) /\ w.cell? ⟨W.b,4,none⟩ = some (.pointer (some ⟨W.R.b,0,none⟩)) /\ w.cell? ⟨W.b,6,none⟩ = some W.vT:=by
 obtain ⟨y0,y1,y2,y3,y4⟩:=h.wat.cW
 exact ⟨h.op.cell 0,y0,y2,y3,y4⟩
end Go.Proofs.YtngehaiigbbknaaGreat.Que
