/-
  Contracts and lemmas, joined: LruDoc2, LruLI, LruMade, LruGive, Ref6Give, LruGives.
-/
import Derived.Lib.QuietBelow
import Derived.Test.YtngehaiigbbknaaGreatW4
import Derived.Test.YtngehaiigbbknaaGreatW7
import Derived.Test.YtngehaiigbbknaaGreatW8
import Derived.Test.YtngehaiigbbknaaGreatW9
import Derived.Test.YtngehaiigbbknaaGreatW13
set_option linter.unusedSimpArgs false
set_option linter.unusedVariables false
set_option linter.unusedSectionVars false
set_option maxRecDepth 100000
/-
  The document's Lru: Enter, Leave, Hit, Len, due.
-/
namespace Go.Proofs.YtngehaiigbbknaaGreat.Que
open Go.RowKit Base Arena Cls Itm
theorem DG.after {N:Nat} {w w1 w2:World} {W:W6} {s:St} {bs:List UInt8} {Z:Nat -> Option Zd} {Ls L2:Nat -> Nat -> List Nat} {r:RS} {laid told a2:List Nat} {mk:Nat -> Nat} {R1:R6} {v1:Value} (e1:R1.b = W.R.b) (G1:Grew qc w w1 W { W with R:=R1,vA:=v1 } s s)
  (D2:DG N w1 w2 { W with R:=R1,vA:=v1 } s bs Z Ls L2 r laid told a2 mk):DG N w w2 W s bs Z Ls L2 r laid told a2 mk:=by
 obtain ⟨R2,v2,e2,G2,D2⟩:=D2
 exact ⟨R2,v2,e2.trans e1,G1.trans G2,D2⟩
def entA (act:List Nat) (H:Nat) (e:Nat):List Nat:=if e = 0 then actN H false act else act
def hitA (s:St) (Ls:Nat -> Nat -> List Nat) (act:List Nat) (H:Nat):List Nat:=if stK (clsN qc s H) Ls H = 0 then act else actN H true act
def dueA (A:Nat -> Bool) (Ls:Nat -> Nat -> List Nat) (hot warm x:Int):Nat:=if hotB Ls hot x then 1 else if warmB Ls warm x then 2 else if decide (0 < lenX Ls x 3) && A (tailX Ls x 3) then 3 else 0
theorem dueA_cg {A B:Nat -> Bool} {Ls:Nat -> Nat -> List Nat} {hot warm x:Int} (h : 0 < lenX Ls x 3 -> A (tailX Ls x 3) = B (tailX Ls x 3)):dueA A Ls hot warm x = dueA B Ls hot warm x:=by
 unfold dueA
 by_cases hn : 0 < lenX Ls x 3
 ·rw [h hn]
 ·rw [decide_eq_false hn,Bool.false_and,Bool.false_and]
section
variable {N:Nat} {w:World} {W:W6} {s:St} {bs:List UInt8} {Z:Nat -> Option Zd} {Ls Ld:Nat -> Nat -> List Nat} {r:RS} {laid told act:List Nat} {mk:Nat -> Nat} (h:DX N w W s bs Z Ls Ld r laid told act mk) {dm:Nat} (ed:W.dm = some dm)
include h ed
theorem DX.enterD (H:Nat):Calls Tryz.prog 55 #[.pointer (some ⟨dm,0,none⟩),.int .u64 (H:Int)] w fun e w' => e = .returned (.int .i64 ((pushN qc s Z Ld H 1 false).1:Int)) /\ DG N w w' W s bs Z Ls (pushN qc s Z Ld H 1 false).2 r laid told (entA act H (pushN qc s Z Ld H 1 false).1) mk:=by
 obtain ⟨c0, -, -, -⟩:=h.cA ed
 have hal:=h.al
 have PC:=h.pushD H 1 false
 obtain ⟨RR,Lx,hP⟩:∃ RR Lx,pushN qc s Z Ld H 1 false = (RR,Lx):=⟨_,_,rfl⟩
 rw [hP] at PC ⊢
 simp only at PC ⊢
 have SC:∀ w1,DG N w w1 W s bs Z Ls Lx r laid told act mk -> Calls Tryz.prog 68 #[.pointer (some ⟨dm,0,none⟩),.int .u64 (H:Int),.bool false] w1 fun e w' => e = .returned (.tuple #[]) /\ DG N w w' W s bs Z Ls Lx r laid told (actN H false act) mk:=by
  rintro w1 ⟨R1,v1,e1,G1,D1⟩
  exact (D1.setD (dm:=dm) ed H false (by simp; exact hal)).mono fun e w' ⟨e2,D2⟩ => ⟨e2,DG.after e1 G1 D2⟩
 replace PC:=Lib.hid PC
 replace SC:=Lib.hid SC
 clear h hP
 by_cases h0:RR = 0
 ·subst h0
  have em:entA act H 0 = actN H false act:=rfl
  rw [em]
  go_enter Tryz.func55,Tryz.ntmps55
  go_wp2_with fail
  refine PC.out.mono ?_
  rintro e w1 ⟨rfl,D⟩
  have S1:=Lib.hid (SC.out w1 D)
  clear D PC
  go_wp2_with fail
  refine S1.out.mono ?_
  rintro e w2 ⟨rfl,D2⟩
  replace D2:=Lib.hid D2
  go_wp2
  go_ret
  exact ⟨rfl,D2.out⟩
 ·have em:entA act H RR = act:=if_neg h0
  rw [em]
  have d1:((RR:Int) == 0) = false:=by rw [beq_eq_false_iff_ne]; omega
  have d2:decide ((RR:Int) = 0) = false:=decide_eq_false (by omega)
  have d3:decide (RR = 0) = false:=decide_eq_false h0
  go_enter Tryz.func55,Tryz.ntmps55
  go_wp2_with fail
  refine PC.out.mono ?_
  rintro e w1 ⟨rfl,D⟩
  replace D:=Lib.hid D
  clear PC
  go_wp2
  go_ret
  exact ⟨rfl,D.out⟩
theorem DX.leaveD (H:Nat):Calls Tryz.prog 56 #[.pointer (some ⟨dm,0,none⟩),.int .u64 (H:Int)] w fun e w' => e = .returned (.int .i64 ((dropN qc s Ld H).1:Int)) /\ DG N w w' W s bs Z Ls (dropN qc s Ld H).2 r laid told act mk:=by
 obtain ⟨c0, -, -, -⟩:=h.cA ed
 have PC:=Lib.hid (h.dropD H)
 generalize (dropN qc s Ld H).1 = RR at *
 generalize (dropN qc s Ld H).2 = Lx at *
 clear h
 go_enter Tryz.func56,Tryz.ntmps56
 go_wp2_with fail
 refine PC.out.mono ?_
 rintro e w1 ⟨rfl,D⟩
 replace D:=Lib.hid D
 clear PC
 go_wp2
 go_ret
 exact ⟨rfl,D.out⟩
theorem DX.hitD (H:Nat) (hal:act.length + 1 <= 1073741822):Calls Tryz.prog 57 #[.pointer (some ⟨dm,0,none⟩),.int .u64 (H:Int)] w fun e w' => e = .returned (.int .i64 (hitR s Ld H:Int)) /\ DG N w w' W s bs Z Ls Ld r laid told (hitA s Ld act H) mk:=by
 obtain ⟨c0, -, -, -⟩:=h.cA ed
 obtain ⟨Zd,e,d⟩:=h.d6
 have WC:=d.whereC H
 have SC:=h.setD ed H true (by show _ + 1 <= _; exact hal)
 have st:=h.stay (Below.refl w.heap.size w)
 clear d e
 unfold hitR hitA
 by_cases h0:stK (clsN qc s H) Ld H = 0
 ·rw [if_pos h0] at WC
  rw [if_pos h0,if_pos h0]
  replace WC:=Lib.hid WC
  replace st:=Lib.hid st
  clear h SC h0
  go_enter Tryz.func57,Tryz.ntmps57
  go_wp2_with fail
  refine WC.out.mono ?_
  rintro e w1 ⟨⟨q,rfl⟩,rfl⟩
  go_wp2
  go_ret
  exact ⟨rfl,st.out⟩
 ·rw [if_neg h0] at WC
  rw [if_neg h0,if_neg h0]
  generalize 3 * clsN qc s H + (stK (clsN qc s H) Ld H - 1) = m at *
  have d1:decide ((m:Int) < 0) = false:=decide_eq_false (by omega)
  replace WC:=Lib.hid WC
  replace SC:=Lib.hid SC
  clear h st h0
  go_enter Tryz.func57,Tryz.ntmps57
  go_wp2_with fail
  refine WC.out.mono ?_
  rintro e w1 ⟨⟨q,rfl⟩,rfl⟩
  go_wp2_with fail
  refine SC.out.mono ?_
  rintro e w2 ⟨rfl,D⟩
  replace D:=Lib.hid D
  go_wp2
  go_ret
  exact ⟨rfl,D.out⟩
theorem DX.lenD (x:Int):Calls Tryz.prog 93 #[.pointer (some ⟨dm,0,none⟩),.int .i64 x] w fun e w' => e = .returned (.tuple #[.int .i64 (lenX Ld x 1:Int),.int .i64 (lenX Ld x 2:Int),.int .i64 (lenX Ld x 3:Int)]) /\ Below w.heap.size w w':=by
 have cA:=fun w1 (b:Below w.heap.size w w1) => ((h.below b).cA ed).1
 have LC:=fun w1 (b:Below w.heap.size w w1) (k:Int) => show Calls Tryz.prog 137 #[.pointer (some ⟨W.R.b,0,none⟩),.int .i64 x,.int .i64 k] w1 fun e w' => e = .returned (.int .i64 (lenX Ld x k:Int)) /\ Below w1.heap.size w1 w' from by
  obtain ⟨Zd, -,d⟩:=(h.below b).d6
  exact d.len x k
 have cz:=(h.cA ed).1
 have c0:=fun p:Regrown => cell_regrown cz p.d p.os
 have L1:=fun (k:Int) (p:Regrown) => LC _ (below_regrown w p.d p.os) k
 generalize lenX Ld x = n1 at *
 replace L1:=Lib.hid L1
 clear h LC cz cA
 go_enter Tryz.func93,Tryz.ntmps93
 go_upto_region 1 with fail
 refine wp_region_quiet_below (by kernel_rfl) (by kernel_rfl) ?_
 repeat (go_big_quiet_step ((first | (go_at_call 137; exact Calls.regrown_of (L1.out _ _)))))
 refine wpQuiet_nil ?_
 intro _ hw'
 obtain ⟨⟨dq,osq⟩,hw''⟩:=hw'
 subst hw''
 have b5:=Lib.hid (below_regrown w dq osq)
 generalize Go.Sort.grow (redrawn w dq) osq = wf at *
 go_wp2
 go_ret3
 exact ⟨rfl,b5.out⟩
theorem DX.dueD (sh:Shr W.hot W.warm) (x:Int):Calls Tryz.prog 65 #[.pointer (some ⟨dm,0,none⟩),.int .i64 x] w fun e w' => e = .returned (.int .i64 (dueA (fun H => decide (H ∈ act)) Ld W.hot W.warm x:Int)) /\ Below w.heap.size w w':=by
 have hb:∀ w1,Below w.heap.size w w1 -> DX N w1 W s bs Z Ls Ld r laid told act mk:=fun w1 b => h.below b
 have LC:=h.lenD ed x
 have l1:=h.dq.lenB h.wat.okc h.wat.good x 1
 have l2:=h.dq.lenB h.wat.okc h.wat.good x 2
 have l3:=h.dq.lenB h.wat.okc h.wat.good x 3
 have cA:=fun w1 (b:Below w.heap.size w w1) => (hb w1 b).cA ed
 have TC:∀ w1,Below w.heap.size w w1 -> Calls Tryz.prog 66 #[.pointer (some ⟨W.R.b,0,none⟩),.int .i64 x,.int .i64 3] w1 fun e w' => e = .returned (.tuple #[.int .u64 (tailX Ld x 3:Int),.bool (decide (0 < lenX Ld x 3))]) /\ Below w1.heap.size w1 w':=fun w1 b => by
  obtain ⟨Zd, -,d⟩:=(hb w1 b).d6
  exact d.tail x 3
 have IC:∀ w1,Below w.heap.size w w1 -> Calls Tryz.prog 67 #[.pointer (some ⟨dm,0,none⟩),.int .u64 (tailX Ld x 3:Int)] w1 fun e w' => e = .returned (.bool (decide (tailX Ld x 3 ∈ act))) /\ w1 = w':=fun w1 b => (hb w1 b).isD ed _
 obtain ⟨s1,s2,s3,s4⟩:=sh
 unfold dueA hotB warmB totX
 have q:∀ (n m:Nat) (y:Int),n <= 402653187 -> m <= 134217729 -> 1 <= y -> y <= 90 -> IntKind.i64.wrap (100 * (m:Int)) = 100 * (m:Int) /\ IntKind.i64.wrap ((n:Int) * y) = (n:Int) * y:=fun n m y h1 h2 h3 h4 => by
  have hb:(n:Int) * y <= 402653187 * 90:=Int.mul_le_mul (by omega) h4 (by omega) (by omega)
  have hb0 : 0 <= (n:Int) * y:=Int.mul_nonneg (by omega) (by omega)
  exact ⟨IntWalk.i64_in _ (by omega),IntWalk.i64_in _ (by omega)⟩
 have ht:lenX Ld x 1 + lenX Ld x 2 + lenX Ld x 3 <= 402653187:=by omega
 obtain ⟨qa,qb⟩:=q (lenX Ld x 1 + lenX Ld x 2 + lenX Ld x 3) (lenX Ld x 1) W.hot ht l1 s1 s2
 obtain ⟨qc1,qd⟩:=q (lenX Ld x 1 + lenX Ld x 2 + lenX Ld x 3) (lenX Ld x 2) W.warm ht l2 s3 s4
 have q2:IntKind.i64.wrap ((lenX Ld x 1:Int) + (lenX Ld x 2:Int)) = (lenX Ld x 1:Int) + (lenX Ld x 2:Int):=IntWalk.i64_in _ (by omega)
 have q3:IntKind.i64.wrap ((lenX Ld x 1:Int) + (lenX Ld x 2:Int) + (lenX Ld x 3:Int)) = ((lenX Ld x 1 + lenX Ld x 2 + lenX Ld x 3:Nat):Int):=by rw [IntWalk.i64_in _ (by omega)]; omega
 generalize hT:tailX Ld x 3 = T at *
 show Calls _ _ _ _ fun e w' => e = .returned (.int .i64 ((if decide (((lenX Ld x 1 + lenX Ld x 2 + lenX Ld x 3:Nat):Int) * W.hot < 100 * (lenX Ld x 1:Int)) = true then 1 else if decide (((lenX Ld x 1 + lenX Ld x 2 + lenX Ld x 3:Nat):Int) * W.warm < 100 * (lenX Ld x 2:Int)) = true then 2 else if (decide (0 < lenX Ld x 3) && decide (T ∈ act)) = true then 3 else 0:Nat):Int)) /\ _
 generalize decide (T ∈ act) = B at *
 generalize lenX Ld x 1 = n1 at *
 generalize lenX Ld x 2 = n2 at *
 generalize lenX Ld x 3 = n3 at *
 generalize n1 + n2 + n3 = nt at *
 generalize W.hot = hot at *
 generalize W.warm = warm at *
 replace LC:=Lib.hid LC
 replace cA:=Lib.hid cA
 replace TC:=Lib.hid TC
 replace IC:=Lib.hid IC
 replace hT:=Lib.hid hT
 clear h hb q l1 l2 l3 ht s1 s2 s3 s4
 by_cases b1:(nt:Int) * hot < 100 * (n1:Int)
 ·have d1:decide ((nt:Int) * hot < 100 * (n1:Int)) = true:=decide_eq_true b1
  rw [d1,if_pos rfl]
  go_enter Tryz.func65,Tryz.ntmps65
  go_wp2_with fail
  refine LC.out.mono ?_
  rintro e w1 ⟨rfl,b⟩
  obtain ⟨c0,c1,c2, -⟩:=cA.out w1 b
  replace b:=Lib.hid b
  go_wp2
  go_ret
  exact ⟨rfl,b.out⟩
 have d1:decide ((nt:Int) * hot < 100 * (n1:Int)) = false:=decide_eq_false b1
 rw [d1,if_neg (by decide)]
 by_cases b2:(nt:Int) * warm < 100 * (n2:Int)
 ·have d2:decide ((nt:Int) * warm < 100 * (n2:Int)) = true:=decide_eq_true b2
  rw [d2,if_pos rfl]
  go_enter Tryz.func65,Tryz.ntmps65
  go_wp2_with fail
  refine LC.out.mono ?_
  rintro e w1 ⟨rfl,b⟩
  obtain ⟨c0,c1,c2, -⟩:=cA.out w1 b
  replace b:=Lib.hid b
  go_wp2
  go_ret
  exact ⟨rfl,b.out⟩
 have d2:decide ((nt:Int) * warm < 100 * (n2:Int)) = false:=decide_eq_false b2
 rw [d2,if_neg (by decide)]
 cases hn:decide (0 < n3) with
 | false =>
  have e0:(if (false && B) = true then 3 else 0) = 0:=rfl
  rw [e0]
  go_enter Tryz.func65,Tryz.ntmps65
  go_wp2_with fail
  refine LC.out.mono ?_
  rintro e w1 ⟨rfl,b⟩
  obtain ⟨c0,c1,c2, -⟩:=cA.out w1 b
  have T1:=TC.out w1 b
  rw [hn] at T1
  replace T1:=Lib.hid T1
  replace b:=Lib.hid b
  go_wp2_with fail
  refine T1.out.mono ?_
  rintro e w2 ⟨rfl,b2⟩
  have b12:=Lib.hid (b.out.trans (b2.mono b.out.size))
  clear b2
  go_wp2
  go_ret
  exact ⟨rfl,b12.out⟩
 | true =>
  cases B with
  | false =>
   have e0:(if (true && false) = true then 3 else 0) = 0:=rfl
   rw [e0]
   go_enter Tryz.func65,Tryz.ntmps65
   go_wp2_with fail
   refine LC.out.mono ?_
   rintro e w1 ⟨rfl,b⟩
   obtain ⟨c0,c1,c2, -⟩:=cA.out w1 b
   have T1:=TC.out w1 b
   rw [hn] at T1
   replace T1:=Lib.hid T1
   replace b:=Lib.hid b
   go_wp2_with fail
   refine T1.out.mono ?_
   rintro e w2 ⟨rfl,b2⟩
   have b12:=b.out.trans (b2.mono b.out.size)
   have I2:=Lib.hid (IC.out w2 b12)
   replace b12:=Lib.hid b12
   clear b2
   go_wp2_with fail
   refine I2.out.mono ?_
   rintro e w3 ⟨rfl,rfl⟩
   go_wp2
   go_ret
   exact ⟨rfl,b12.out⟩
  | true =>
   have e0:(if (true && true) = true then 3 else 0) = 3:=rfl
   rw [e0]
   go_enter Tryz.func65,Tryz.ntmps65
   go_wp2_with fail
   refine LC.out.mono ?_
   rintro e w1 ⟨rfl,b⟩
   obtain ⟨c0,c1,c2, -⟩:=cA.out w1 b
   have T1:=TC.out w1 b
   rw [hn] at T1
   replace T1:=Lib.hid T1
   replace b:=Lib.hid b
   go_wp2_with fail
   refine T1.out.mono ?_
   rintro e w2 ⟨rfl,b2⟩
   have b12:=b.out.trans (b2.mono b.out.size)
   have I2:=Lib.hid (IC.out w2 b12)
   replace b12:=Lib.hid b12
   clear b2
   go_wp2_with fail
   refine I2.out.mono ?_
   rintro e w3 ⟨rfl,rfl⟩
   go_wp2
   go_ret
   exact ⟨rfl,b12.out⟩
end
def lastN:List Nat -> Nat -> Nat
 | [],_ => 0
 | a :: l,H => if lastN l H ≠ 0 then lastN l H + 1 else if a = H then 1 else 0
theorem lastN_app (l:List Nat) (a H:Nat):lastN (l ++ [a]) H = if a = H then l.length + 1 else lastN l H:=by
 induction l with
 | nil => simp [lastN]
 | cons b l ih =>
  rw [List.cons_append]
  unfold lastN
  rw [ih,List.length_cons]
  by_cases h:a = H
  ·simp [h]
  ·simp [h]
structure LI (N:Nat) (w:World) (W:W6) (s:St) (bs:List UInt8) (Z:Nat -> Option Zd) (Ls:Nat -> Nat -> List Nat) (r:RS) (laid told act:List Nat) (mk:Nat -> Nat) (t:Nat):Prop where
 wat:WAt N w W qc s bs Z Ls Ls r laid told act mk
 rel:Rel qc.cf s r
 agr:∀ H i x p,findN qc.cf s H = some (i,x,p) -> ((Z H).isSome = true ↔ H ∈ laid)
 bs:bs.length = qc.cf.ps * qc.cf.np
 ch:r.ch.length <= 16384 * t
 la:laid.length <= t
 tl:told.length <= t
 al:act.length <= t
 tlt:∀ H ∈ told,H < 18446744073709551616
 lg:∀ H ∈ laid,∃ i x p,findN qc.cf s H = some (i,x,p)
 ln:laid.Nodup
 lt:∀ H ∈ laid,H ∈ told
 ab:∀ H,isN qc s Z H = true -> (H ∈ act ↔ mk H % 2 = 1)
 mr:∀ H,isN qc s Z H = true -> mk H / 2 = markN (lastN told H) / 2
 dmS:∃ d,W.dm = some d
 sh:Shr W.hot W.warm
def Goes (N:Nat) (w w':World) (W:W6) (s:St) (t:Nat):Prop:=∃ W' s' bs' Z' Ls' r' laid' told' act' mk',Sm W' W /\ Grew qc w w' W W' s s' /\ LI N w' W' s' bs' Z' Ls' r' laid' told' act' mk' t
section
variable {N:Nat} {w:World} {W:W6} {s:St} {bs:List UInt8} {Z:Nat -> Option Zd} {Ls:Nat -> Nat -> List Nat} {r:RS} {laid told act:List Nat} {mk:Nat -> Nat} {t:Nat} (h:LI N w W s bs Z Ls r laid told act mk t)
include h
theorem LI.dx (ht:t <= 60000):DX N w W s bs Z Ls Ls r laid told act mk:=⟨h.wat,h.rel,h.agr,by have:=h.ch; omega,by have:=h.la; omega,h.wat.q.ql,by have:=h.al; omega⟩
theorem LI.below {w':World} (b:Below w.heap.size w w'):LI N w' W s bs Z Ls r laid told act mk t:=⟨h.wat.below b,h.rel,h.agr,h.bs,h.ch,h.la,h.tl,h.al,h.tlt,h.lg,h.ln,h.lt,h.ab,h.mr,h.dmS,h.sh⟩
theorem LI.more {t':Nat} (ht:t <= t'):LI N w W s bs Z Ls r laid told act mk t':=⟨h.wat,h.rel,h.agr,h.bs,by have:=h.ch; omega,by have:=h.la; omega,by have:=h.tl; omega,by have:=h.al; omega,h.tlt,h.lg,h.ln,h.lt,h.ab,h.mr,h.dmS,h.sh⟩
theorem LI.stays {w':World} (b:Below w.heap.size w w') {t':Nat} (ht:t <= t'):Goes N w w' W s t':=⟨W,s,bs,Z,Ls,r,laid,told,act,mk,⟨rfl,rfl,rfl,rfl,rfl⟩,(Grew.refl _ _ _ _).step b,(h.below b).more ht⟩
end
theorem Goes.behind {N:Nat} {w w1 w':World} {W:W6} {s:St} {t:Nat} (b:Below w.heap.size w w1) (h:Goes N w1 w' W s t):Goes N w w' W s t:=by
 obtain ⟨W',s',bs',Z',Ls',r',laid',told',act',mk',e,G,T⟩:=h
 exact ⟨W',s',bs',Z',Ls',r',laid',told',act',mk',e,((Grew.refl _ _ _ _).step b).trans G,T⟩
theorem Goes.more {N:Nat} {w w':World} {W:W6} {s:St} {t t':Nat} (ht:t <= t') (h:Goes N w w' W s t):Goes N w w' W s t':=by
 obtain ⟨W',s',bs',Z',Ls',r',laid',told',act',mk',e,G,T⟩:=h
 exact ⟨W',s',bs',Z',Ls',r',laid',told',act',mk',e,G,T.more ht⟩
def hdN (told:List Nat) (o:Op6):Nat:=if o.raw = true \/ told = [] then o.h else told[(o.a % (told.length:Int)).toNat]?.getD 0
theorem told_at {told:List Nat} (hne:told ≠ []) (a:Int):(a % (told.length:Int)).toNat < told.length /\ told[(a % (told.length:Int)).toNat]? = some (told[(a % (told.length:Int)).toNat]?.getD 0):=by
 have hp : 0 < told.length:=List.length_pos_iff.2 hne
 have h0:=Int.emod_nonneg a (show (told.length:Int) ≠ 0 by omega)
 have h1:=Int.emod_lt_of_pos a (show 0 < (told.length:Int) by omega)
 have hl:(a % (told.length:Int)).toNat < told.length:=by omega
 refine ⟨hl,?_⟩
 rw [List.getElem?_eq_getElem hl]
 rfl
theorem hdN_lt {told:List Nat} (ht:∀ H ∈ told,H < 18446744073709551616) {o:Op6} (ok:o.Ok):hdN told o < 18446744073709551616:=by
 unfold hdN
 split
 ·exact ok.h
 ·rename_i h
  obtain ⟨-,e⟩:=told_at (fun e => h (.inr e)) o.a
  exact ht _ (List.mem_of_getElem? e)
section
variable {N:Nat} {w:World} {W:W6} {s:St} {bs:List UInt8} {Z:Nat -> Option Zd} {Ls:Nat -> Nat -> List Nat} {r:RS} {laid told act:List Nat} {mk:Nat -> Nat} {t:Nat} (h:LI N w W s bs Z Ls r laid told act mk t) (ht:t <= 60000) (o:Op6) (ok:o.Ok)
include h ht ok
theorem handleC:Calls Tryz.prog 51 #[.pointer (some ⟨W.b,0,none⟩),.agg o.cells] w fun e w' => e = .returned (.int .u64 (hdN told o:Int)) /\ Below w.heap.size w w':=by
 obtain ⟨w1,hw1⟩:∃ w1,w1 = w.alloc (.cells o.cells 64):=⟨_,rfl⟩
 have B1:Blk w1 w.heap.size 64 o.cells:=by rw [hw1]; exact Blk.new w _ _
 have b1:Below w.heap.size w w1:=by rw [hw1]; exact (Below.refl _ _).alloc (Nat.le_refl _) _
 obtain ⟨x0,x1,x2,x3,x4,x5⟩:=op6_cells B1
 have h1:=h.below b1
 obtain ⟨-, -, -, -,y4⟩:=h1.wat.cW
 obtain ⟨A,cp,hv⟩:=own_is h1.wat.told
 have own:=h1.wat.told
 rw [hv] at y4 own
 have htl:=h.tl
 unfold hdN
 unfold Op6.cells at hw1 ⊢
 replace b1:=Lib.hid b1
 replace hw1:=Lib.hid hw1
 by_cases hr:o.raw = true
 ·rw [if_pos (.inl hr)]
  rw [hr] at x5 hw1 ⊢
  clear h h1 B1 own hr hv
  generalize hN:w.heap.size = N0 at *
  replace hN:=Lib.hid hN
  go_enter Tryz.func51,Tryz.ntmps51
  go_upto_region 1 with fail
  rw [hN.out, <- hw1.out]
  go_wp2
  go_ret
  exact ⟨rfl,b1.out⟩
 ·have hr:o.raw = false:=by simpa using hr
  rw [hr] at x5 hw1 ⊢
  by_cases hn:told = []
  ·rw [if_pos (.inr hn)]
   have y4':w1.cell? ⟨W.b,6,none⟩ = some (.slice A 0 cp):=by rw [y4,hn]; rfl
   clear h h1 B1 own hr hv hn y4
   generalize hN:w.heap.size = N0 at *
   replace hN:=Lib.hid hN
   go_enter Tryz.func51,Tryz.ntmps51
   go_upto_region 1 with fail
   rw [hN.out, <- hw1.out]
   go_wp2
   go_ret
   exact ⟨rfl,b1.out⟩
  ·rw [if_neg (by simp [hn])]
   obtain ⟨hlt,hx⟩:=told_at hn o.a
   have WC:=withinI o.a told.length ok.a (by omega) (by omega)
   generalize told[(o.a % (told.length:Int)).toNat]?.getD 0 = H at *
   generalize (o.a % (told.length:Int)).toNat = i at *
   obtain ⟨g,c',hv2,u⟩:=own_uv own hx
   injection hv2 with e1 e2 e3
   subst e1 e3
   generalize told.length = n at *
   have i0:(0:Int) <= (i:Int):=by omega
   have i1:(i:Int) < (n:Int):=by omega
   have z0:((n:Int) == 0) = false:=by rw [beq_eq_false_iff_ne]; omega
   have z1:decide ((n:Int) = 0) = false:=decide_eq_false (by omega)
   have z2:¬ (n = 0):=by omega
   replace WC:=Lib.hid WC
   clear h h1 B1 own hr hv hn hx e2
   generalize hN:w.heap.size = N0 at *
   replace hN:=Lib.hid hN
   go_enter Tryz.func51,Tryz.ntmps51
   go_upto_region 1 with fail
   rw [hN.out, <- hw1.out]
   go_upto_region 3 with fail
   go_quiet (first | (go_at_call 31; with_reducible exact quiet_left (WC.out _)) | fail)
   go_wp2
   go_ret
   exact ⟨rfl,b1.out.trans (by first | exact below_drewN (Below.refl _ _) _ | exact Below.refl _ _)⟩
end
theorem actN_len (H:Nat) (on:Bool) (l:List Nat):(actN H on l).length <= l.length + 1:=by
 unfold actN
 have:=dropA_len H l
 rw [List.length_append]
 cases on <;> simp <;> omega
theorem actN_self (H:Nat) (on:Bool) (l:List Nat):H ∈ actN H on l ↔ on = true:=by
 unfold actN dropA
 cases on <;> simp
theorem actN_other (on:Bool) (l:List Nat) {H K:Nat} (h:K ≠ H):K ∈ actN H on l ↔ K ∈ l:=by
 unfold actN dropA
 cases on <;> simp [h]
section
variable {N:Nat} {w:World} {W:W6} {s:St} {bs:List UInt8} {Z:Nat -> Option Zd} {Ls:Nat -> Nat -> List Nat} {r:RS} {laid told act:List Nat} {mk:Nat -> Nat} {t:Nat} (h:LI N w W s bs Z Ls r laid told act mk t) (ht:t <= 60000)
include h ht
theorem makesC (o:Op6) (ok:o.Ok):Calls Tryz.prog 42 #[.pointer (some ⟨W.b,0,none⟩),.agg o.cells] w fun e w' => e = .returned (.bool true) /\ Goes N w w' W s (t + 1):=by
 have hkn:(o.b % 3).toNat < qc.cf.nc:=by show _ < qc.nc; rw [qc_nc]; omega
 have okc:=h.wat.okc
 have g:=h.wat.good
 cases hr:roomS qc.cf s (o.b % 3).toNat with
 | none => exact (makesNo h.wat o ok h.rel hr).mono fun e w' ⟨e1,b⟩ => ⟨e1,h.stays b (Nat.le_succ _)⟩
 | some s1 =>
  obtain ⟨g1,l,p,hp⟩:=room_good okc g hkn hr
  obtain ⟨H0,h0⟩:∃ H0,H0 = hnd p (s1.gens (p / qc.cf.ps) (p % qc.cf.ps / qc.cf.sz (o.b % 3).toNat)):=⟨_,rfl⟩
  have hch:=h.ch
  have hla:=h.la
  have htl:=h.tl
  have hal:=h.al
  obtain ⟨dm,edm⟩:=h.dmS
  have hfr:=free_short g okc hkn
  obtain ⟨⟨i0,x0,f0, -⟩,A,B⟩:=took_find okc g hkn hr hp h0
  have g':=(took okc g hkn hr hp).1
  have H0lt:=good_lt okc g' f0
  have hnl:H0 ∉ laid:=fun hm => by
   obtain ⟨i,x,q,hf⟩:=h.lg H0 hm
   exact (A H0 i x q hf).2.2.1 rfl
  have tlt:∀ H ∈ told ++ [H0],H < 18446744073709551616:=fun H hm => by
   rcases List.mem_append.1 hm with hm | hm
   ·exact h.tlt H hm
   ·rw [List.mem_singleton.1 hm]; exact H0lt
  have hlg:∀ H ∈ laid,∃ i x q,findN qc.cf (takeS qc.cf s1 (o.b % 3).toNat p) H = some (i,x,q):=fun H hm => by
   obtain ⟨i,x,q,hf⟩:=h.lg H hm
   exact ⟨i,x,q,(A H i x q hf).1⟩
  have hfit:p + 56 <= bs.length:=by
   obtain ⟨t0, -⟩:=Tkn.of okc g' f0
   obtain ⟨a1,a2,a3,a4,a5⟩:=t0.fit okc
   have:=(okc.sz _ t0.kN).1
   rw [h.bs,Nat.mul_comm]
   omega
  have isB:∀ K z,isN qc (takeS qc.cf s1 (o.b % 3).toNat p) (upd Z H0 z) K = true -> K ≠ H0 -> isN qc s Z K = true:=fun K z hK hne => by
   unfold isN at hK ⊢
   rw [upd_ne _ _ hne] at hK
   obtain ⟨i1,i2⟩:=Bool.and_eq_true_iff.1 hK
   obtain ⟨⟨i,x,q⟩,hf⟩:=Option.isSome_iff_exists.1 i1
   rcases B K i x q hf with e | ⟨-,hf'⟩
   ·exact absurd e hne
   ·rw [hf',i2]; rfl
  by_cases hd:o.dO = 2
  ·refine (makesBare h.wat o ok h.rel h.bs (by omega) (by omega) (by omega) hr hp h0 hd).mono ?_
   rintro e w' ⟨e1, -,W',r',eW,G,R',hr',T⟩
   refine ⟨e1,W',_,_,_,_,_,_,_,_,_,eW,G,T,R',fun H i x q hf => ?_,(take_len hfit).trans h.bs,by omega,by omega,by rw [List.length_append,List.length_singleton]; omega,by omega,tlt,hlg,h.ln,fun H hm => List.mem_append_left _ (h.lt H hm),fun K hK => ?_,fun K hK => ?_,⟨dm,eW.2.2.1.trans edm⟩,by rw [eW.2.2.2.1,eW.2.2.2.2]; exact h.sh⟩
   rcases B H i x q hf with rfl | ⟨hne,hf'⟩
   ·rw [upd_at]
    exact ⟨fun e => (by cases e),fun e => absurd e hnl⟩
   ·rw [upd_ne _ _ hne]
    exact h.agr H i x q hf'
   all_goals
    have hne:K ≠ H0:=fun e => by
     unfold isN at hK
     rw [e,upd_at] at hK
     simp at hK
    have hK':=isB K _ hK hne
   ·exact h.ab K hK'
   ·rw [lastN_app,if_neg (fun e => hne e.symm)]
    exact h.mr K hK'
  ·refine (makesItem h.wat o ok h.rel h.bs (by omega) (by omega) (by omega) (by omega) (by omega) edm hr hp h0 hd).mono ?_
   rintro e w' ⟨e1, -,W',r',eW,G,R',hr',bs',hbs,T⟩
   have el:laidN H0 laid = laid ++ [H0]:=if_neg hnl
   rw [el] at T
   refine ⟨e1,W',_,_,_,_,_,_,_,_,_,eW,G,T,R',fun H i x q hf => ?_,hbs.trans h.bs,by omega,by rw [List.length_append,List.length_singleton]; omega,by rw [List.length_append,List.length_singleton]; omega,?_,tlt,fun H hm => ?_,?_,fun H hm => ?_,fun K hK => ?_,fun K hK => ?_,⟨dm,eW.2.2.1.trans edm⟩,by rw [eW.2.2.2.1,eW.2.2.2.2]; exact h.sh⟩
   ·rcases B H i x q hf with rfl | ⟨hne,hf'⟩
    ·rw [upd_at]
     exact ⟨fun _ => List.mem_append_right _ (List.mem_singleton.2 rfl),fun _ => rfl⟩
    ·rw [upd_ne _ _ hne,List.mem_append,List.mem_singleton]
     exact (h.agr H i x q hf').trans ⟨.inl,fun e => e.resolve_right hne⟩
   ·have:=actN_len H0 (oddB (markN (told.length + 1))) act
    omega
   ·rcases List.mem_append.1 hm with hm | hm
    ·exact hlg H hm
    ·rw [List.mem_singleton.1 hm]; exact ⟨_,_,_,f0⟩
   ·rw [List.nodup_append]
    refine ⟨h.ln,by simp,fun a ha b hb e => ?_⟩
    rw [List.mem_singleton.1 hb] at e
    exact hnl (e ▸ ha)
   ·rcases List.mem_append.1 hm with hm | hm
    ·exact List.mem_append_left _ (h.lt H hm)
    ·exact List.mem_append_right _ hm
   ·by_cases hne:K = H0
    ·rw [hne,upd_at,actN_self]
     unfold oddB
     rw [beq_iff_eq]
    ·rw [upd_ne _ _ hne,actN_other _ _ hne]
     exact h.ab K (isB K _ hK hne)
   ·rw [lastN_app]
    by_cases hne:K = H0
    ·rw [hne,upd_at,if_pos rfl]
    ·rw [upd_ne _ _ hne,if_neg (fun e => hne e.symm)]
     exact h.mr K (isB K _ hK hne)
end
theorem chain_links {Z:Nat -> Option Zd} {k:Nat}:∀ {l:List Nat} {p n h:Nat},Chain Z k p l n -> h ∈ l -> ∃ z,Z h = some z /\ (z.a = p \/ z.a ∈ l) /\ (z.b = n \/ z.b ∈ l)
 | [],_,_,_,_,hm => by cases hm
 | x :: t,p,n,h,hc,hm => by
  by_cases e:h = x
  ·subst e
   refine ⟨_,hc.1,.inl rfl,?_⟩
   cases t with
   | nil => exact .inl rfl
   | cons a t => exact .inr (List.mem_cons_of_mem _ (List.mem_cons_self ..))
  ·have hm':h ∈ t:=(List.mem_cons.1 hm).resolve_left e
   obtain ⟨z,hz,ha,hb⟩:=chain_links hc.2 hm'
   refine ⟨z,hz,.inr ?_,hb.imp id fun e => List.mem_cons_of_mem _ e⟩
   rcases ha with ha | ha
   ·rw [ha]; exact List.mem_cons_self ..
   ·exact List.mem_cons_of_mem _ ha
section
variable {d:Cf} (ok:d.Ok) {s:St} (g:Cls.Good d s) {H i x p:Nat} (hf:findN d s H = some (i,x,p))
include ok g hf
theorem gave_good:Cls.Good d (giveS d s i x):=by
 obtain ⟨a1,a2,a3,a4, -⟩:=findN_some g hf
 exact g.give ok a1 a2 a3 a4
theorem gave_find :
  (∀ H' i' x' q,findN d s H' = some (i',x',q) -> H' ≠ H -> findN d (giveS d s i x) H' = some (i',x',q) /\ (giveS d s i x).cls i' = s.cls i') /\
  (∀ H' i' x' q,findN d (giveS d s i x) H' = some (i',x',q) -> H' ≠ H /\ findN d s H' = some (i',x',q)):=by
 obtain ⟨t,e⟩:=Tkn.of ok g hf
 have g':=gave_good ok g hf
 have A:∀ H' i' x' q,findN d s H' = some (i',x',q) -> H' ≠ H -> findN d (giveS d s i x) H' = some (i',x',q) /\ (giveS d s i x).cls i' = s.cls i':=by
  intro H' i' x' q hf' hne
  obtain ⟨t',e'⟩:=Tkn.of ok g hf'
  have hn:¬ (i' = i /\ x' = x):=by
   rintro ⟨rfl,rfl⟩
   have h1:=t.pE
   have h2:=t'.pE
   have h3:=t.ge
   have h4:=t'.ge
   apply hne
   rw [e,e', <- h3, <- h4,h1,h2]
  have T:Tkn d (giveS d s i x) i' x' q (s.cls i') (H' / 4294967296):=by
   refine ⟨t'.iN,t'.ow,rfl,t'.kN,t'.xN,?_,?_,t'.pE⟩
   ·simp only [giveS]
    rw [upd2_ne _ _ hn]; exact t'.tk
   ·simp only [giveS]
    rw [upd2_ne _ _ hn]; exact t'.ge
  exact ⟨by have:=T.find ok; rwa [<- e'] at this,rfl⟩
 refine ⟨A,fun H' i' x' q hf' => ?_⟩
 obtain ⟨t',e'⟩:=Tkn.of ok g' hf'
 have hn:¬ (i' = i /\ x' = x):=by
  rintro ⟨rfl,rfl⟩
  have:=t'.tk
  simp only [giveS] at this
  rw [upd2_at] at this
  cases this
 have T:Tkn d s i' x' q ((giveS d s i x).cls i') (H' / 4294967296):=by
  have h1:=t'.tk
  have h2:=t'.ge
  simp only [giveS] at h1 h2
  rw [upd2_ne _ _ hn] at h1 h2
  exact ⟨t'.iN,t'.ow,rfl,t'.kN,t'.xN,h1,h2,t'.pE⟩
 have hf2:findN d s H' = some (i',x',q):=by have:=T.find ok; rwa [<- e'] at this
 refine ⟨fun e0 => ?_,hf2⟩
 rw [e0,hf] at hf2
 simp only [Option.some.injEq,Prod.mk.injEq] at hf2
 exact hn ⟨hf2.1.symm,hf2.2.1.symm⟩
end
section
variable {c:Conf} (ok:c.cf.Ok) {s:St} (g:Cls.Good c.cf s) {H i x p:Nat} (hf:findN c.cf s H = some (i,x,p)) {Z:Nat -> Option Zd} {F:QN} {Ls:Nat -> Nat -> List Nat} (q:QI c s Z F Ls) (hn:∀ x k,x < c.nc -> k < 3 -> H ∉ Ls x k)
include ok g hf q hn
theorem QI.farL {H':Nat} {z:Zd} (hf':∃ i x p,findN c.cf s H' = some (i,x,p)) (hz:Z H' = some z):z.a ≠ H /\ z.b ≠ H:=by
 have h0:=good_ne hf
 by_cases hm:∃ y k,y < c.nc /\ k < 3 /\ H' ∈ Ls y k
 ·obtain ⟨y,k,hy,hk,hm⟩:=hm
  obtain ⟨z',hz',ha,hb⟩:=chain_links (q.ch y k hy hk) hm
  rw [hz] at hz'
  cases hz'
  refine ⟨fun e => ?_,fun e => ?_⟩
  ·rcases ha with ha | ha
   ·omega
   ·exact hn y k hy hk (e ▸ ha)
  ·rcases hb with hb | hb
   ·omega
   ·exact hn y k hy hk (e ▸ hb)
 ·have e:=q.out H' z hf' hz fun y k hy hk hm' => hm ⟨y,k,hy,hk,hm'⟩
  subst e
  exact ⟨fun e => h0 e.symm,fun e => h0 e.symm⟩
theorem Lk.give {bs:List UInt8} (h:Lk c s bs Z):Lk c (giveS c.cf s i x) bs Z:=by
 obtain ⟨A,B⟩:=gave_find ok g hf
 refine ⟨fun H' i' x' p' hH hf' => h.at_ H' i' x' p' hH (B _ _ _ _ hf').2,h.st,fun H' z hf' hz => ?_⟩
 obtain ⟨i',x',p',hf'⟩:=hf'
 obtain ⟨hne,hf2⟩:=B _ _ _ _ hf'
 obtain ⟨n1,n2⟩:=QI.farL ok g hf q hn ⟨_,_,_,hf2⟩ hz
 have key:∀ T,T ≠ H -> GoodL c.cf s T -> GoodL c.cf (giveS c.cf s i x) T:=fun T hT hg => by
  rcases hg with hg | ⟨h1,a,b,e,h2⟩
  ·exact .inl hg
  ·exact .inr ⟨h1,a,b,e,(A T a b e h2 hT).1⟩
 obtain ⟨k1,k2⟩:=h.lk H' z ⟨_,_,_,hf2⟩ hz
 exact ⟨key _ n1 k1,key _ n2 k2⟩
theorem QI.give:QI c (giveS c.cf s i x) Z F Ls:=by
 obtain ⟨A,B⟩:=gave_find ok g hf
 refine ⟨q.ch,q.hd,q.tl,q.n,fun y k h hy hk hm => ?_,q.nd,q.dj,fun H' z hf' hz hn' => ?_⟩
 ·obtain ⟨a,b,e,h1,h2⟩:=q.it y k h hy hk hm
  have hne:h ≠ H:=fun e => hn y k hy hk (e ▸ hm)
  obtain ⟨h3,h4⟩:=A h a b e h1 hne
  exact ⟨a,b,e,h3,h4.trans h2⟩
 ·obtain ⟨a,b,e,h1⟩:=hf'
  exact q.out H' z ⟨a,b,e,(B _ _ _ _ h1).2⟩ hz hn'
end
theorem QW.give {c:Conf} {s:St} {w w':World} {L L':Lay} {bs:List UInt8} {Z:Nat -> Option Zd} {gq gl:Nat} {Ls:Nat -> Nat -> List Nat} (ok:c.cf.Ok) (g:Cls.Good c.cf s) {H i x p:Nat} (hf:findN c.cf s H = some (i,x,p)) (hn:∀ x k,x < c.nc -> k < 3 -> H ∉ Ls x k)
  (h:QW w L c s bs Z gq gl Ls) (eg:L'.g = L.g) (M:SetAt w' L' c (giveS c.cf s i x) bs) (W:Went w w' L L' c s (giveS c.cf s i x)):QW w' L' c (giveS c.cf s i x) bs Z gq gl Ls:=by
 obtain ⟨F,S,q⟩:=h
 have Q1:=(S.q.only W.only S.fq S.fl).head
 have Q2:=(S.q.only W.only S.fq S.fl).grid
 rw [<- eg] at Q1
 refine ⟨F,⟨⟨M,gave_good ok g hf,Lk.give ok g hf q hn S.zs.lk⟩,⟨Q1,Q2⟩,fun hf => ?_,fun hf => ?_⟩,QI.give ok g hf q hn⟩
 ·rcases W.foot gq hf with h1 | h1
  ·exact S.fq h1
  ·have:=S.q.ltq; omega
 ·rcases W.foot gl hf with h1 | h1
  ·exact S.fl h1
  ·have:=S.q.ltl; omega
section
variable {N:Nat} {w:World} {W:W6} {c:Conf} {s:St} {bs:List UInt8} {Z:Nat -> Option Zd} {Ls Ld:Nat -> Nat -> List Nat} {r:RS} {laid told act:List Nat} {mk:Nat -> Nat} (h:WAt N w W c s bs Z Ls Ld r laid told act mk)
include h
theorem WAt.give {w':World} {L':Lay} {H i x p:Nat} (hf:findN c.cf s H = some (i,x,p)) (hn:∀ x k,x < c.nc -> k < 3 -> H ∉ Ls x k) (eg:L'.g = W.L.g) (M:SetAt w' L' c (giveS c.cf s i x) bs) (We:Went w w' W.L L' c s (giveS c.cf s i x)) :
  WAt N w' { W with L:=L' } c (giveS c.cf s i x) bs Z Ls Ld r laid told act mk:=by
 have ns:∀ i b,i ≠ .set -> W.foot c s i b -> ¬ Foot W.L c s b:=fun i b hi hb hf => hi (h.sep i .set b hb hf)
 have sp:=h.sepOf (W':={ W with L:=L' }) (s':=giveS c.cf s i x) .set (fun i b hb => by
  cases i with
  | set => exact .inl ⟨rfl,We.foot b hb⟩
  | _ => exact .inr ⟨by simp,hb⟩) h.hN0
 have O:Blk w' W.b 36 W.cells:=(We.only.block _ h.own.lt (ns .own _ (by simp) (.inl rfl))).trans h.own
 have LC:∀ g,W.gm = some g -> Blk w g 97 (W6.lc { W with L:=L' }):=fun g e => by
  have:=h.lru g e
  unfold W6.lc at this ⊢
  rw [eg]
  exact this
 refine ⟨h.q.give h.okc h.good hf hn eg M We,h.ref.only We.only fun b hb => ns .ref b (by simp) hb,h.doc.only We.only fun b hb => ns .doc b (by simp) hb,?_,own_keptN h.told fun b e => We.only.block b (own_blockN h.told e) (ns .own b (by simp) (.inr e)),sp.1,h.tb,sp.2,fun g e => (We.only.block _ (h.lru g e).lt (ns .lru g (by simp) e)).trans (LC g e),fun d e => (We.only.block _ (h.dlr d e).lt (ns .act d (by simp) (.inl e))).trans (h.dlr d e),own_keptN h.row fun d e => We.only.block d (own_blockN h.row e) (ns .act d (by simp) (.inr e)),h.ad,fun H' i' x' p' hf' hz' => h.mks H' i' x' p' ((gave_find h.okc h.good hf).2 _ _ _ _ hf').2 hz'⟩
 have e:W6.cells { W with L:=L' } = W.cells:=by unfold W6.cells; rw [eg]
 rw [e]
 exact O
end
theorem R6At.setLaid {w w6:World} {R:R6} {mb n:Nat} {laid:List Nat} {lists:Nat -> List Nat} (h:R6At w R mb n laid lists) {v':Value} {laid':List Nat} (o:Only (fun b => R.vL.ownBlock = some b) w w6)
    (own6:w6.ownsRow 0 50 1 v' laid'.length (laid'.map uv)) (hat:∀ b,v'.ownBlock = some b -> R.vL.ownBlock = some b \/ w.heap.size <= b) :
    R6At (w6.setCell ⟨R.b,1,none⟩ v') { R with vL:=v' } mb n laid' lists /\ Went6 w (w6.setCell ⟨R.b,1,none⟩ v') R { R with vL:=v' } n:=by
  have nb:∀ p b,p ≠ .laid -> R.blk n p = some b -> ¬ (R.vL.ownBlock = some b):=fun p b hp hb e => hp (h.inj p .laid b hb e)
  have hv:∀ p b,p ≠ .laid -> R.blk n p = some b -> ¬ (v'.ownBlock = some b):=fun p b hp hb e => by
    rcases hat b e with h1 | h1
    · exact nb p b hp hb h1
    · have:=h.lt ⟨p,hb⟩; omega
  have B6:Blk w6 R.b 144 (r6v mb R n):=(o.block _ h.head.lt (nb .head _ (by decide) rfl)).trans h.head
  have o2:=only_cell1 (S:=(· = R.b)) w6 R.b 1 v' rfl
  have far:∀ b,b < w6.heap.size -> b ≠ R.b -> (w6.setCell ⟨R.b,1,none⟩ v').heap[b]? = w6.heap[b]?:=fun b hb hne => o2.block b hb hne
  have ne:∀ p b,p ≠ .head -> R.blk n p = some b -> b ≠ R.b:=fun p b hp hb e => hp (h.inj p .head b hb (by rw [e]; rfl))
  have kp:∀ p b,p ≠ .head -> p ≠ .laid -> R.blk n p = some b -> (w6.setCell ⟨R.b,1,none⟩ v').heap[b]? = w.heap[b]?:=fun p b h1 h2 hb =>
    (far b (Nat.lt_of_lt_of_le (h.lt ⟨p,hb⟩) o.size) (ne p b h1 hb)).trans (o.block b (h.lt ⟨p,hb⟩) (nb p b h2 hb))
  have hbl:∀ p,p ≠ .laid -> R6.blk { R with vL:=v' } n p = R.blk n p:=fun p hp => by
    cases p with
    | laid => exact absurd rfl hp
    | _ => rfl
  refine ⟨⟨fun p => ?_,fun p q b hp hq => ?_⟩,?_,fun b ⟨p,hp⟩ => ?_,rfl⟩
  · cases p with
    | head => exact B6.set_ 1 v'
    | laid =>
      show World.ownsRow _ 0 _ 1 v' laid'.length (laid'.map uv)
      exact own_keptN own6 fun b e => far b (own_blockN own6 e) fun e2 => hv .head b (by decide) (by rw [e2]; rfl) e
    | grid => exact h.grid.kept (kp .grid _ (by decide) (by decide) rfl)
    | row k => exact fun hk => own_keptN (h.row hk) fun b e => kp (.row k) b (by simp) (by simp) (by rw [R6.blk,if_pos hk]; exact e)
  · by_cases p0:p = .laid
    · subst p0
      by_cases q0:q = .laid
      · exact q0.symm
      · rw [hbl q q0] at hq
        exact absurd hp (hv q b q0 hq)
    · rw [hbl p p0] at hp
      by_cases q0:q = .laid
      · subst q0
        exact absurd hq (hv p b p0 hp)
      · rw [hbl q q0] at hq
        exact h.inj p q b hp hq
  · refine (o.mono fun b _ e => ⟨.laid,e⟩).trans (only_cell1 (S:=F6 R n) w6 R.b 1 v' ⟨.head,rfl⟩) fun _ _ h => h
  · by_cases p0:p = .laid
    · subst p0
      exact (hat b hp).imp (fun e => ⟨.laid,e⟩) id
    · rw [hbl p p0] at hp
      exact .inl ⟨p,hp⟩
theorem erase_idx (H:Nat):∀ l:List Nat,H ∈ l -> l.eraseIdx (l.idxOf H) = l.erase H
  | [],h => by cases h
  | a :: t,h => by
    by_cases e:a = H
    · subst e; simp
    · have hm:H ∈ t:=(List.mem_cons.1 h).resolve_left (fun e2 => e e2.symm)
      have e1:(a :: t).idxOf H = t.idxOf H + 1:=by rw [List.idxOf_cons,show (a == H) = false by simpa using e]; rfl
      rw [e1,List.eraseIdx_cons_succ,erase_idx H t hm,List.erase_cons_tail (by simp [e])]
theorem free_short1 {d:Cf} {s:St} (g:Cls.Good d s) (ok:d.Ok) {H i x p:Nat} (hf:findN d s H = some (i,x,p)):(s.free (s.cls i)).length + 1 <= 1073741824:=by
  obtain ⟨a1,a2,a3,a4,a5,a6,a7⟩:=findN_some g hf
  have hk:=g.cls i a1 a2
  have hn:p ∉ s.free (s.cls i):=by
    intro hm
    rw [a6] at hm
    obtain ⟨j,y,b1,b2,b3,b4,b5,b6,b7⟩:=(g.free _ hk _).1 hm
    obtain ⟨rfl,rfl⟩:=place_inj ok hk a3 b5 b7
    rw [a4] at b6; cases b6
  have:=nodup_le 1073741824 (p :: s.free (s.cls i)) (List.nodup_cons.2 ⟨hn,g.nodup _ hk⟩) fun q hq => by
    rcases List.mem_cons.1 hq with rfl | hq
    · obtain ⟨t,e⟩:=Tkn.of ok g hf
      exact (t.hlt ok g).2.2.2.2
    · obtain ⟨i',x',h1, -, -, -,h5, -,rfl, -⟩:=g.last ok hk hq
      obtain ⟨-, -, -,h6, -⟩:=place_of ok (i:=i') hk h5
      have h7:=ok.psb
      have h8:=ok.npb
      have h9:(i' + 1) * d.ps <= 1024 * 1048576:=Nat.mul_le_mul (by omega) h7
      rw [Nat.succ_mul] at h9
      have:=(ok.sz _ hk).1
      omega
  simpa using this
section
variable {w:World} {R:R6} {M:RL} {c:Conf} {s:St} {Z:Nat -> Option Zd} {Ls:Nat -> Nat -> List Nat} {r:RS} {laid:List Nat} (h:D6 w R M c s Z Ls r laid) (H:Nat) (hH:H < 18446744073709551616)
include h hH
theorem give6No (hf:findN c.cf s H = none):Calls Tryz.prog 54 #[.pointer (some ⟨R.b,0,none⟩),.int .u64 (H:Int)] w fun e w' => e = .returned (.int .i64 20) /\ ∃ m,w.drewN m = w':=by
  have GC:=Lib.hid (rgiveNo w M c r h.ref h.fine h.ch H (h.rel.find_none h.ok h.good hf))
  have cc:∀ m,(w.drewN m).cell? ⟨R.b,0,none⟩ = some (.pointer (some ⟨M.b,0,none⟩)):=fun m => h.doc.c0
  have c0:=h.doc.c0
  obtain ⟨A,cp,hv⟩:=own_is h.doc.laidR
  have cl:∀ m,(w.drewN m).cell? ⟨R.b,1,none⟩ = some (.slice A laid.length cp):=fun m => by
    have:=(h.draw m).doc.c1
    rw [hv] at this
    exact this
  have AC:∀ m,_:=fun m => atC6 (w.drewN m) 0 cp A laid (by have:=(h.draw m).doc.laidR; rw [hv] at this; exact this) h.la H
  generalize atN laid H = q at *
  replace AC:=Lib.hid AC
  replace cl:=Lib.hid cl
  clear h hv hf cc
  go_enter Tryz.func54,Tryz.ntmps54
  go_wp2_with fail
  refine GC.out.mono ?_
  rintro e w1 ⟨rfl,m,hw1⟩
  have c1:=cl.out m
  have A1:=AC.out m
  rw [hw1] at c1 A1
  replace A1:=Lib.hid A1
  replace hw1:=Lib.hid hw1
  go_wp2_with fail
  refine A1.out.mono ?_
  rintro e w2 ⟨rfl,rfl⟩
  go_wp2
  go_ret
  exact ⟨rfl,_,hw1.out⟩
set_option maxHeartbeats 1600000 in
theorem give6Yes {i x p:Nat} (hf:findN c.cf s H = some (i,x,p)):Calls Tryz.prog 54 #[.pointer (some ⟨R.b,0,none⟩),.int .u64 (H:Int)] w fun e w' => e = .returned (.int .i64 0) /\
    ∃ w1 M' R' r',RSetAt w1 M' c r' /\ RWent w w1 M M' c /\ Rel c.cf (giveS c.cf s i x) r' /\ r'.ch.length = r.ch.length /\ R'.b = R.b /\ Went6 w1 w' R R' (3 * c.nc) /\ R6At w' R' M.b (3 * c.nc) (laid.erase H) (rows6 Ls):=by
  obtain ⟨j,f1,f2, -,f4⟩:=h.rel.give h.ok h.good hf
  obtain ⟨a1,a2,a3,a4,a5,a6,a7⟩:=findN_some h.good hf
  have hk:=h.good.cls i a1 a2
  have hrow:(r.rows (s.cls i)).length = (s.free (s.cls i)).length:=by
    have:=congrArg List.length (h.rel.row (s.cls i) hk)
    rwa [List.length_map,List.length_map] at this
  have hsh:(s.free (s.cls i)).length + 1 <= 1073741824:=free_short1 h.good h.ok hf
  have GC:=Lib.hid (rgiveYes w M c r h.ref h.fine h.ch H j f1 _ f2 hk (h.rel.pl j _ f2) (h.good.gen i x) (by simp only; omega))
  have hlen:(rgive c.cf r j (s.cls i) p).ch.length = r.ch.length:=by unfold rgive; simp only [List.length_modify]
  simp only at GC
  generalize rgive c.cf r j (s.cls i) p = r1 at *
  have c0:=h.doc.c0
  have D1:∀ w1 M',RWent w w1 M M' c -> R6At w1 R M.b (3 * c.nc) laid (rows6 Ls):=fun w1 M' We => h.doc.only We.only fun b hb hr => h.sep b hr hb
  have hla:=h.la
  obtain ⟨l',hl'⟩:∃ l',l' = laid.erase H:=⟨_,rfl⟩
  rw [<- hl']
  obtain ⟨A,cp,hv⟩:=own_is h.doc.laidR
  replace D1:=Lib.hid D1
  clear hf f1 f2 a1 a2 a3 a4 a5 a6 a7 hk hrow hsh h
  generalize rows6 Ls = lists at *
  generalize 3 * c.nc = n at *
  generalize giveS c.cf s i x = s1 at *
  replace f4:=Lib.hid f4
  replace hlen:=Lib.hid hlen
  go_enter Tryz.func54,Tryz.ntmps54
  go_wp2_with fail
  refine GC.out.mono ?_
  rintro e w1 ⟨rfl,M',hM,We⟩
  have D:=D1.out w1 M' We
  have c1:=D.c1
  have own:=D.laidR
  rw [hv] at c1 own
  have AC:=atC6 w1 0 cp A laid own hla H
  have fin:∀ w2 V,Below w1.heap.size w1 w2 -> w2.ownsRow w1.heap.size 50 1 V l'.length (l'.map uv) -> R6At (w2.setCell ⟨R.b,1,none⟩ V) { R with vL:=V } M.b n l' lists /\ Went6 w1 (w2.setCell ⟨R.b,1,none⟩ V) R { R with vL:=V } n :=
    fun w2 V b o => D.setLaid (Only.of_below b (Nat.le_refl _) _) (own_more0 o) fun d e => .inr (own_base o e)
  have hd:=D.head
  have hlt:=D.lt ⟨.head,rfl⟩
  by_cases hm:H ∈ laid
  · unfold atN at AC
    rw [if_pos hm] at AC
    have WC:=withoutC w1 0 cp A laid own hla (laid.idxOf H)
    rw [erase_idx H laid hm, <- hl'] at WC
    clear hl'
    generalize laid.idxOf H = ix at *
    have d1:decide ((0:Int) <= (ix:Int)) = true:=decide_eq_true (by omega)
    replace AC:=Lib.hid AC
    replace WC:=Lib.hid WC
    replace fin:=Lib.hid fin
    replace hM:=Lib.hid hM
    replace We:=Lib.hid We
    have hd':=Lib.hid hd
    clear D own hv c0 hd
    go_wp2_with fail
    refine AC.out.mono ?_
    rintro e w2 ⟨rfl,rfl⟩
    go_wp2_with fail
    refine WC.out.mono ?_
    rintro e w3 ⟨A',cp',rfl,b3,o3⟩
    have z:w3.frozen? ⟨R.b,1,none⟩ = false:=(show Blk w3 R.b 144 _ from (b3.block _ hlt).trans hd'.out).frozen 1
    have c3:w3.cell? ⟨R.b,1,none⟩ = some (.slice A laid.length cp):=(b3.cell (p:=⟨R.b,1,none⟩) hlt).trans c1
    have F3:=Lib.hid (fin.out _ _ b3 o3)
    clear b3 o3
    go_wp2
    go_ret
    exact ⟨rfl,w1,M', { R with vL:=.slice A' l'.length cp' },r1,hM.out,We.out,f4.out,hlen.out,rfl,F3.out.2,F3.out.1⟩
  · unfold atN at AC
    rw [if_neg hm] at AC
    replace AC:=Lib.hid AC
    have ee:l' = laid:=hl'.trans (List.erase_of_not_mem hm)
    subst ee
    clear hl'
    replace D:=Lib.hid D
    replace hM:=Lib.hid hM
    replace We:=Lib.hid We
    clear fin own hv c0 hd
    go_wp2_with fail
    refine AC.out.mono ?_
    rintro e w2 ⟨rfl,rfl⟩
    go_wp2
    go_ret
    exact ⟨rfl,w1,M',R,r1,hM.out,We.out,f4.out,hlen.out,rfl,⟨Only.refl _ _,fun b h => .inl h,rfl⟩,D.out⟩
end
def Gv (W:W6) (w:World):Prop:=w.cell? ⟨W.b,0,none⟩ = some (.pointer (some ⟨W.L.g,0,none⟩)) /\ w.cell? ⟨W.b,4,none⟩ = some (.pointer (some ⟨W.R.b,0,none⟩))
theorem D6.at_ {w v:World} {R:R6} {M:RL} {c:Conf} {s:St} {Z:Nat -> Option Zd} {Ls:Nat -> Nat -> List Nat} {r:RS} {laid:List Nat} (h:D6 w R M c s Z Ls r laid) (d:R6At v R M.b (3 * c.nc) laid (rows6 Ls)) (rf:RSetAt v M c r):D6 v R M c s Z Ls r laid :=
 ⟨d,rf,h.rel,h.ok,h.good,h.q,h.agr,h.ch,h.la,h.sep⟩
section
variable {N:Nat} {w:World} {W:W6} {s:St} {bs:List UInt8} {Z:Nat -> Option Zd} {Ls:Nat -> Nat -> List Nat} {r:RS} {laid told act:List Nat} {mk:Nat -> Nat} {t:Nat} (h:LI N w W s bs Z Ls r laid told act mk t) (ht:t <= 60000) {H:Nat} (hH:H < 18446744073709551616)
include h ht hH
omit hH in
theorem LI.d6w:D6 w W.R W.M qc s Z Ls r laid :=
 ⟨h.wat.doc,h.wat.ref,h.rel,h.wat.okc,h.wat.good,(by obtain ⟨F,S,q⟩:=h.wat.q; exact ⟨F,q⟩),h.agr,by have:=h.ch; omega,by have:=h.la; omega,fun b hr hd => by have:=h.wat.sep .ref .doc b hr hd; cases this⟩
theorem LI.gv:Gv W w:=by
 obtain ⟨y0, -, -,y3, -⟩:=h.wat.cW
 exact ⟨y0,y3⟩
theorem giveBoth:∃ n:Nat,∀ w5,Below w.heap.size w w5 -> Calls Tryz.prog 53 #[.pointer (some ⟨W.L.g,0,none⟩),.int .u64 (H:Int)] w5 fun e v => e = .returned (.int .i64 (n:Int)) /\ Gv W v /\
  ((∀ x k,x < qc.nc -> k < 3 -> H ∉ Ls x k) -> Calls Tryz.prog 54 #[.pointer (some ⟨W.R.b,0,none⟩),.int .u64 (H:Int)] v fun e w' => e = .returned (.int .i64 (n:Int)) /\ Gv W w' /\ Goes N w w' W s t):=by
 cases hf:findN qc.cf s H with
 | none =>
  refine ⟨20,fun w5 b5 => ?_⟩
  have h5:=h.below b5
  refine (giveNo w5 W.L qc s bs h5.wat.set h5.wat.good H hH hf).mono ?_
  rintro e v ⟨e1,m,hv⟩
  have bv:Below w5.heap.size w5 v:=by rw [<- hv]; exact below_drewN (Below.refl _ _) m
  have hv:=h5.below bv
  refine ⟨e1,hv.gv ht hH,fun _ => ?_⟩
  refine (give6No (hv.d6w ht) H hH hf).mono ?_
  rintro e w' ⟨e2,m',hw'⟩
  have bw:Below v.heap.size v w':=by rw [<- hw']; exact below_drewN (Below.refl _ _) m'
  have hw:=hv.below bw
  exact ⟨e2,hw.gv ht hH,h.stays (b5.trans ((bv.mono b5.size).trans (bw.mono (Nat.le_trans b5.size bv.size)))) (Nat.le_refl _)⟩
 | some y =>
  obtain ⟨i,x,p⟩:=y
  refine ⟨0,fun w5 b5 => ?_⟩
  have h5:=h.below b5
  refine (giveYes w5 W.L qc s bs h5.wat.set h5.wat.good H hH i x p hf).mono ?_
  rintro e v ⟨e1,L',eg,M,We⟩
  have wb:W.b < w5.heap.size:=h5.wat.own.lt
  have nW:∀ i b,i ≠ .set -> W.foot qc s i b -> ¬ Foot W.L qc s b:=fun i b hi hb hf => hi (h5.wat.sep i .set b hb hf)
  have hblk:Blk v W.b 36 W.cells:=(We.only.block _ wb (nW .own _ (by simp) (.inl rfl))).trans h5.wat.own
  have gv:Gv W v:=⟨hblk.cell 0,hblk.cell 4⟩
  refine ⟨e1,gv,fun hn => ?_⟩
  have T:=h5.wat.give hf hn eg M We
  have G0:Grew qc w v W { W with L:=L' } s (giveS qc.cf s i x):=((Grew.refl _ _ _ _).step b5).trans (grew_take We)
  have d6:=(h5.d6w ht).at_ T.doc T.ref
  refine (give6Yes d6 H hH hf).mono ?_
  rintro e w' ⟨e2,w1,M',R',r',RM,RWe,rel',hlen,eb,DWe,D⟩
  have T1:=T.rtake RM RWe
  have eM:M'.b = W.M.b:=RWe.b
  have T2:=T1.doc_ (R':=R') (laid':=laid.erase H) (Ld':=Ls) (by show R6At w' R' M'.b _ _ _; rw [eM]; exact D) eb DWe
  obtain ⟨A,B⟩:=gave_find h.wat.okc h.wat.good hf
  have isG:∀ K,isN qc (giveS qc.cf s i x) Z K = true -> isN qc s Z K = true:=fun K hK => by
   unfold isN at hK ⊢
   obtain ⟨i1,i2⟩:=Bool.and_eq_true_iff.1 hK
   obtain ⟨⟨a,b,e⟩,hf'⟩:=Option.isSome_iff_exists.1 i1
   rw [(B _ _ _ _ hf').2,i2]; rfl
  have G1:=(G0.trans (grew_rtake RWe)).trans (grew_doc (W:={ { W with L:=L' } with M:=M' }) DWe)
  obtain ⟨z0, -, -,z3, -⟩:=T2.cW
  refine ⟨e2,⟨by rw [<- eg]; exact z0,by rw [<- eb]; exact z3⟩, { { { W with L:=L' } with M:=M' } with R:=R' },giveS qc.cf s i x,bs,Z,Ls,r',laid.erase H,told,act,mk,⟨rfl,rfl,rfl,rfl,rfl⟩,G1,T2,rel',fun H' i' x' p' hf' => ?_,h.bs,by rw [hlen]; exact h.ch,Nat.le_trans (List.length_erase_le) h.la,h.tl,h.al,h.tlt,fun H' hm => ?_,h.ln.erase _,fun H' hm => h.lt H' (List.mem_of_mem_erase hm),fun K hK => h.ab K (isG K hK),fun K hK => h.mr K (isG K hK),h.dmS,h.sh⟩
  ·obtain ⟨hne,hf2⟩:=B _ _ _ _ hf'
   rw [List.mem_erase_of_ne hne]
   exact h.agr H' i' x' p' hf2
  ·have hm2:=(h.ln.mem_erase_iff).1 hm
   obtain ⟨a,b,c,hf2⟩:=h.lg H' hm2.2
   exact ⟨a,b,c,(A _ _ _ _ hf2 hm2.1).1⟩
end
end Go.Proofs.YtngehaiigbbknaaGreat.Que
