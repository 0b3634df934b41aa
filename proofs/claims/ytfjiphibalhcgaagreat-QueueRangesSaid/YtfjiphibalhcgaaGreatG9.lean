/-
  Contracts and lemmas, joined: Ref6Moves, Ref6Moves2, QueueSetup, Ref2Put, Ref2Page, Ref2Take, Ref2Give, QueueWorld, QueueStep, QueueMakes.
-/
import Derived.Deep.RegionHeld3
import Derived.Deep.AppendLies
import Derived.StillTailTactics
import Derived.Test.YtfjiphibalhcgaaGreatG6
import Derived.Test.YtfjiphibalhcgaaGreatG7
import Derived.Test.YtfjiphibalhcgaaGreatG8
set_option linter.unusedSimpArgs false
set_option linter.unusedVariables false
set_option linter.unusedSectionVars false
set_option maxRecDepth 100000
/-
  The document's queue: Is, Push, Drop, Shift, State, beside the program's state.
-/
namespace Go.Proofs.YtfjiphibalhcgaaGreat.Que
open Go.RowKit Base Arena Cls Itm
structure D6 (w:World) (R:R6) (M:RL) (c:Conf) (s:St) (Z:Nat -> Option Zd) (Ls:Nat -> Nat -> List Nat) (r:RS) (laid:List Nat):Prop where
 doc:R6At w R M.b (3 * c.nc) laid (rows6 Ls)
 ref:RSetAt w M c r
 rel:Rel c.cf s r
 ok:c.cf.Ok
 good:Cls.Good c.cf s
 q:∃ F,QI c s Z F Ls
 agr:∀ H i x p,findN c.cf s H = some (i,x,p) -> ((Z H).isSome = true ↔ H ∈ laid)
 ch:r.ch.length <= 1073741824
 la:laid.length <= 1073741824
 sep:∀ b,RFoot M c b -> ¬ F6 R (3 * c.nc) b
section
variable {w:World} {R:R6} {M:RL} {c:Conf} {s:St} {Z:Nat -> Option Zd} {Ls:Nat -> Nat -> List Nat} {r:RS} {laid:List Nat} (h:D6 w R M c s Z Ls r laid)
include h
theorem D6.hnc:c.nc <= 62:=h.ok.ncb
theorem D6.fine:RFine r:=h.rel.fine h.ok h.good
theorem D6.hll:∀ x k,x < c.nc -> k < 3 -> (Ls x k).length <= 1073741823:=fun x k hx hk => by
 obtain ⟨F,q⟩:=h.q
 have:=q.nB h.ok h.good hx hk
 rw [q.n x k hx hk] at this
 omega
theorem D6.draw (m:Nat):D6 (w.drewN m) R M c s Z Ls r laid:=⟨h.doc.kept fun _ _ => rfl,h.ref.kept fun _ _ => rfl,h.rel,h.ok,h.good,h.q,h.agr,h.ch,h.la,h.sep⟩
theorem D6.isB (H:Nat):((rfind r.ch H).isSome && decide (H ∈ laid)) = isN c s Z H:=by
 unfold isN
 cases hf:findN c.cf s H with
 | none => rw [h.rel.find_none h.ok h.good hf]; rfl
 | some v =>
  obtain ⟨i,x,p⟩:=v
  obtain ⟨j,hj, -⟩:=h.rel.find_some h.ok h.good hf
  rw [hj]
  have:=h.agr H i x p hf
  by_cases hm:H ∈ laid
  ·rw [decide_eq_true hm,this.2 hm]; rfl
  ·rw [decide_eq_false hm]
   cases hz:(Z H).isSome with
   | false => rfl
   | true => exact absurd (this.1 hz) hm
theorem is6C (H:Nat):Calls Tryz.prog 26 #[.pointer (some ⟨R.b,0,none⟩),.int .u64 (H:Int)] w fun e w' => e = .returned (.bool (isN c s Z H)) /\ ∃ m,w.drewN m = w':=by
 have:=isC6 w R M c r _ laid _ h.doc h.ref h.fine h.ch h.la H
 rw [h.isB H] at this
 exact this
theorem D6.at6 (H:Nat):(stK (clsN c s H) Ls H = 0 /\ ∀ x k,x < c.nc -> k < 3 -> H ∉ Ls x k) \/ ∃ k l1 l2,stK (clsN c s H) Ls H = k + 1 /\ At6 c Ls H (clsN c s H) k l1 l2 /\ prevN c s Ls H = l1.getLast?.getD 0 /\ nextN c s Ls H = l2.head?.getD 0 /\ (∀ y ∈ l1 ++ l2,y ≠ 0) /\ Ls (clsN c s H) k = l1 ++ H :: l2:=by
 obtain ⟨F,q⟩:=h.q
 exact q.at6 h.ok h.good H
theorem D6.whereC (H:Nat):Calls Tryz.prog 77 #[.pointer (some ⟨R.b,0,none⟩),.int .u64 (H:Int)] w fun e w' => (∃ q:Int,e = .returned (.tuple #[.int .i64 (if stK (clsN c s H) Ls H = 0 then -1 else ((3 * clsN c s H + (stK (clsN c s H) Ls H - 1):Nat):Int)),.int .i64 q])) /\ w = w':=by
 rcases h.at6 H with ⟨h0,hn⟩ | ⟨k,l1,l2,e,ha, -⟩
 ·rw [if_pos h0]
  exact (where6No w R M.b c laid Ls h.doc h.hnc (fun x k hx hk => Nat.le_succ_of_le (h.hll x k hx hk)) H hn).mono fun e w' ⟨h1,h2⟩ => ⟨⟨_,h1⟩,h2⟩
 ·rw [if_neg (by omega),e,Nat.add_sub_cancel]
  exact (where6 w R M.b c laid Ls h.doc h.hnc (fun x k hx hk => Nat.le_succ_of_le (h.hll x k hx hk)) H ha).mono fun e w' ⟨h1,h2⟩ => ⟨⟨_,h1⟩,h2⟩
theorem D6.eqs {H:Nat} {k:Nat} {l1 l2:List Nat} (e:stK (clsN c s H) Ls H = k + 1) (ha:At6 c Ls H (clsN c s H) k l1 l2):outN (clsN c s H) Ls H = updL Ls (clsN c s H) k (l1 ++ l2):=by
 obtain ⟨-, -,hl,hn, -⟩:=ha
 unfold outN
 rw [e,Nat.add_sub_cancel,hl,List.erase_append_right _ hn,List.erase_cons_head]
theorem drop6C (H:Nat):Calls Tryz.prog 33 #[.pointer (some ⟨R.b,0,none⟩),.int .u64 (H:Int)] w fun e w' => e = .returned (.int .i64 ((dropN c s Ls H).1:Int)) /\ ∃ R',R'.b = R.b /\ Went6 w w' R R' (3 * c.nc) /\ R6At w' R' M.b (3 * c.nc) laid (rows6 (dropN c s Ls H).2):=by
 unfold dropN
 rcases h.at6 H with ⟨h0,hn⟩ | ⟨k,l1,l2,e,ha, -⟩
 ·rw [if_pos h0]
  exact (drop6No w R M.b c laid Ls h.doc h.hnc h.hll H hn).mono fun e w' ⟨h1,h2⟩ => ⟨h1,R,rfl,by subst h2; exact went6_refl 0,by subst h2; exact h.doc⟩
 ·rw [if_neg (by omega),h.eqs e ha]
  exact drop6Yes w R M.b c laid Ls h.doc h.hnc h.hll H ha
theorem D6.refOn {w':World} {R':R6} (We:Went6 w w' R R' (3 * c.nc)):RSetAt w' M c r:=h.ref.only We.only h.sep
end
section
variable {w:World} {R:R6} {M:RL} {c:Conf} {s:St} {Z:Nat -> Option Zd} {Ls:Nat -> Nat -> List Nat} {r:RS} {laid:List Nat} (h:D6 w R M c s Z Ls r laid)
include h
theorem put6 {Ls':Nat -> Nat -> List Nat} {w':World} {R':R6} (hd:R6At w' R' M.b (3 * c.nc) laid (rows6 Ls')) (hr:RSetAt w' M c r) (hll:∀ x k,x < c.nc -> k < 3 -> (Ls' x k).length <= 1073741823) {H i x p:Nat} (hf:findN c.cf s H = some (i,x,p)) {k:Nat} (hk:k < 3) (last:Bool) :
  Calls Tryz.prog 78 #[.pointer (some ⟨R'.b,0,none⟩),.int .u64 (H:Int),.int .i64 ((k:Int) + 1),.bool last] w' fun e w2 => e = .returned (.tuple #[]) /\ ∃ R2,R2.b = R'.b /\ Went6 w' w2 R' R2 (3 * c.nc) /\ R6At w2 R2 M.b (3 * c.nc) laid (rows6 (putN (clsN c s H) Ls' H k last)):=by
 obtain ⟨j,hj,hx⟩:=h.rel.find_some h.ok h.good hf
 have ec:clsN c s H = s.cls i:=by unfold clsN; rw [hf]
 have hc:s.cls i < c.nc:=(Tkn.of h.ok h.good hf).1.kN
 rw [ec]
 unfold putN
 cases last with
 | false => exact putHead w' R' M c r laid Ls' hd hr h.fine h.ch h.hnc hll H j _ hj hx hc k hk
 | true => exact putTail w' R' M c r laid Ls' hd hr h.fine h.ch h.hnc hll H j _ hj hx hc k hk
theorem push6C (H:Nat) (kind:Int) (last:Bool):Calls Tryz.prog 32 #[.pointer (some ⟨R.b,0,none⟩),.int .u64 (H:Int),.int .i64 kind,.bool last] w fun e w' => e = .returned (.int .i64 ((pushN c s Z Ls H kind last).1:Int)) /\ ∃ R',R'.b = R.b /\ Went6 w w' R R' (3 * c.nc) /\ R6At w' R' M.b (3 * c.nc) laid (rows6 (pushN c s Z Ls H kind last).2):=by
 unfold pushN
 by_cases hk : 1 <= kind /\ kind <= 3
 ·rw [if_neg (Classical.not_not.2 hk)]
  have d1:decide (kind < 1) = false:=decide_eq_false (by omega)
  have d3:decide (3 < kind) = false:=decide_eq_false (by omega)
  have IC:=is6C h H
  by_cases hi:isN c s Z H = false
  ·rw [if_pos hi]
   rw [hi] at IC
   have hD:=Lib.hid h
   replace IC:=Lib.hid IC
   clear h hi hk
   go_enter Tryz.func32,Tryz.ntmps32
   go_wp2_with fail
   refine IC.out.mono ?_
   rintro e w1 ⟨rfl,m,hw⟩
   replace hw:=Lib.hid hw
   go_wp2
   go_ret
   exact ⟨rfl,R,rfl,by rw [<- hw.out]; exact went6_refl m,by rw [<- hw.out]; exact (hD.out.draw m).doc⟩
  ·have hi2:isN c s Z H = true:=by simpa using hi
   rw [if_neg hi]
   rw [hi2] at IC
   have WC:=fun m => D6.whereC (h.draw m) H
   by_cases hs:stK (clsN c s H) Ls H ≠ 0
   ·rw [if_pos hs]
    rw [if_neg hs] at WC
    obtain ⟨z,hz⟩:∃ z:Nat,z = 3 * clsN c s H + (stK (clsN c s H) Ls H - 1):=⟨_,rfl⟩
    rw [<- hz] at WC
    have dz:decide ((0:Int) <= (z:Int)) = true:=decide_eq_true (by omega)
    replace hz:=Lib.hid hz
    have hD:=Lib.hid h
    replace IC:=Lib.hid IC
    replace WC:=Lib.hid WC
    clear h hi hi2 hk hs
    go_enter Tryz.func32,Tryz.ntmps32
    go_wp2_with fail
    refine IC.out.mono ?_
    rintro e w1 ⟨rfl,m,hw⟩
    have WC1:=Lib.hid (WC.out m)
    rw [hw] at WC1
    replace hw:=Lib.hid hw
    clear IC WC
    go_wp2_with fail
    refine WC1.out.mono ?_
    rintro e w2 ⟨⟨q,rfl⟩,rfl⟩
    go_wp2
    go_ret
    exact ⟨rfl,R,rfl,by rw [<- hw.out]; exact went6_refl m,by rw [<- hw.out]; exact (hD.out.draw m).doc⟩
   ·rw [if_neg hs]
    rw [if_pos (Classical.not_not.1 hs)] at WC
    have hi3:=hi2
    unfold isN at hi3
    obtain ⟨⟨i,y,p⟩,hf⟩:=Option.isSome_iff_exists.1 (Bool.and_eq_true_iff.1 hi3).1
    obtain ⟨k,hk3,rfl⟩:∃ k:Nat,k < 3 /\ kind = (k:Int) + 1:=⟨kind.toNat - 1,by omega,by omega⟩
    rw [show ((k:Int) + 1).toNat - 1 = k by omega]
    have PC:=fun m => put6 h (h.draw m).doc (h.draw m).ref h.hll hf hk3 last
    have hD:=Lib.hid h
    replace IC:=Lib.hid IC
    replace WC:=Lib.hid WC
    replace PC:=Lib.hid PC
    clear h hi hi2 hi3 hk hs hf
    go_enter Tryz.func32,Tryz.ntmps32
    go_wp2_with fail
    refine IC.out.mono ?_
    rintro e w1 ⟨rfl,m,hw⟩
    have WC1:=Lib.hid (WC.out m)
    have PC1:=Lib.hid (PC.out m)
    rw [hw] at WC1 PC1
    replace hw:=Lib.hid hw
    clear IC WC PC
    go_wp2_with fail
    refine WC1.out.mono ?_
    rintro e w2 ⟨⟨q,rfl⟩,rfl⟩
    clear WC1
    go_wp2_with fail
    refine PC1.out.mono ?_
    rintro e w3 ⟨rfl,R2,eb,We,D2⟩
    replace We:=Lib.hid We
    replace D2:=Lib.hid D2
    go_wp2
    go_ret
    exact ⟨rfl,R2,eb,went6_draw m hw.out.symm We.out,D2.out⟩
 ·rw [if_pos hk]
  have hD:=Lib.hid h
  clear h
  by_cases h1:kind < 1
  ·have d1:decide (kind < 1) = true:=decide_eq_true h1
   clear hk
   go_enter Tryz.func32,Tryz.ntmps32
   go_wp2
   go_ret
   exact ⟨rfl,R,rfl,went6_refl 0,hD.out.doc⟩
  ·have d1:decide (kind < 1) = false:=decide_eq_false h1
   have d3:decide (3 < kind) = true:=decide_eq_true (by omega)
   clear hk
   go_enter Tryz.func32,Tryz.ntmps32
   go_wp2
   go_ret
   exact ⟨rfl,R,rfl,went6_refl 0,hD.out.doc⟩
end
theorem outN_len (x:Nat) (Ls:Nat -> Nat -> List Nat) (H a b:Nat):(outN x Ls H a b).length <= (Ls a b).length:=by
 unfold outN updL
 split
 ·rename_i e
  rw [e.1,e.2]
  exact List.length_erase_le
 ·exact Nat.le_refl _
def stateN (c:Conf) (s:St) (Z:Nat -> Option Zd) (Ls:Nat -> Nat -> List Nat) (H:Nat):Nat:=if stK (clsN c s H) Ls H = 0 then (if isN c s Z H then 4 else 0) else stK (clsN c s H) Ls H
theorem some_ne {l:List Nat} (h:∀ y ∈ l,y ≠ 0):decide (0 < l.length) = decide (l.head?.getD 0 ≠ 0):=by
 cases l with
 | nil => rfl
 | cons a t =>
  have:=h a (by simp)
  rw [decide_eq_true (show 0 < (a :: t).length by simp),decide_eq_true (show (a :: t).head?.getD 0 ≠ 0 from this)]
theorem some_ne' {l:List Nat} (h:∀ y ∈ l,y ≠ 0):decide (0 < l.length) = decide (l.getLast?.getD 0 ≠ 0):=by
 cases l with
 | nil => rfl
 | cons a t =>
  have e:(a :: t).getLast?.getD 0 = (a :: t).getLast (by simp):=by rw [List.getLast?_eq_some_getLast (by simp)]; rfl
  have:=h _ (List.getLast_mem (l:=a :: t) (by simp))
  rw [decide_eq_true (show 0 < (a :: t).length by simp),e,decide_eq_true this]
section
variable {w:World} {R:R6} {M:RL} {c:Conf} {s:St} {Z:Nat -> Option Zd} {Ls:Nat -> Nat -> List Nat} {r:RS} {laid:List Nat} (h:D6 w R M c s Z Ls r laid)
include h
theorem shift6C (H:Nat) (kind:Int):Calls Tryz.prog 34 #[.pointer (some ⟨R.b,0,none⟩),.int .u64 (H:Int),.int .i64 kind] w fun e w' => e = .returned (.int .i64 ((shiftN c s Ls H kind).1:Int)) /\ ∃ R',R'.b = R.b /\ Went6 w w' R R' (3 * c.nc) /\ R6At w' R' M.b (3 * c.nc) laid (rows6 (shiftN c s Ls H kind).2):=by
 unfold shiftN
 by_cases hk : 1 <= kind /\ kind <= 3
 ·rw [if_neg (Classical.not_not.2 hk)]
  have d1:decide (kind < 1) = false:=decide_eq_false (by omega)
  have d3:decide (3 < kind) = false:=decide_eq_false (by omega)
  have DC:=drop6C h H
  unfold dropN at DC
  by_cases h0:stK (clsN c s H) Ls H = 0
  ·rw [if_pos h0] at DC ⊢
   replace DC:=Lib.hid DC
   clear h hk h0
   go_enter Tryz.func34,Tryz.ntmps34
   go_wp2_with fail
   refine DC.out.mono ?_
   rintro e w1 ⟨rfl,T⟩
   replace T:=Lib.hid T
   go_wp2
   go_ret
   exact ⟨rfl,T.out⟩
  ·rw [if_neg h0] at DC ⊢
   obtain ⟨k,hk3,rfl⟩:∃ k:Nat,k < 3 /\ kind = (k:Int) + 1:=⟨kind.toNat - 1,by omega,by omega⟩
   rw [show ((k:Int) + 1).toNat - 1 = k by omega]
   obtain ⟨F,q⟩:=h.q
   obtain ⟨k',i,y,p, -, -,hf, -⟩:=q.of_stK h.ok h.good h0
   have hD:=Lib.hid h
   replace DC:=Lib.hid DC
   replace hf:=Lib.hid hf
   clear h hk h0 q
   go_enter Tryz.func34,Tryz.ntmps34
   go_wp2_with fail
   refine DC.out.mono ?_
   rintro e w1 ⟨rfl,R1,eb,We1,D1⟩
   have PC:=put6 hD.out D1 (hD.out.refOn We1) (fun x j hx hj => Nat.le_trans (outN_len _ _ _ _ _) (hD.out.hll x j hx hj)) hf.out hk3 false
   rw [eb] at PC
   replace PC:=Lib.hid PC
   replace We1:=Lib.hid We1
   have eb':=Lib.hid eb
   clear DC D1 eb
   go_wp2_with fail
   refine PC.out.mono ?_
   rintro e w2 ⟨rfl,R2,eb2,We2,D2⟩
   have T:=Lib.hid (show ∃ R',R'.b = R.b /\ Went6 w w2 R R' (3 * c.nc) /\ R6At w2 R' M.b (3 * c.nc) laid (rows6 (putN (clsN c s H) (outN (clsN c s H) Ls H) H k false)) from ⟨R2,eb2,went6_trans We1.out We2,D2⟩)
   clear PC We2 D2 We1 eb2
   go_wp2
   go_ret
   exact ⟨rfl,T.out⟩
 ·rw [if_pos hk]
  have hD:=Lib.hid h
  clear h
  by_cases h1:kind < 1
  ·have d1:decide (kind < 1) = true:=decide_eq_true h1
   clear hk
   go_enter Tryz.func34,Tryz.ntmps34
   go_wp2
   go_ret
   exact ⟨rfl,R,rfl,went6_refl 0,hD.out.doc⟩
  ·have d1:decide (kind < 1) = false:=decide_eq_false h1
   have d3:decide (3 < kind) = true:=decide_eq_true (by omega)
   clear hk
   go_enter Tryz.func34,Tryz.ntmps34
   go_wp2
   go_ret
   exact ⟨rfl,R,rfl,went6_refl 0,hD.out.doc⟩
theorem state6C (H:Nat):Calls Tryz.prog 94 #[.pointer (some ⟨R.b,0,none⟩),.int .u64 (H:Int)] w fun e w' => e = .returned (.int .i64 (stateN c s Z Ls H:Int)) /\ ∃ m,w.drewN m = w':=by
 have WC:=D6.whereC h H
 have IC:=is6C h H
 unfold stateN
 by_cases h0:stK (clsN c s H) Ls H = 0
 ·rw [if_pos h0] at WC ⊢
  replace WC:=Lib.hid WC
  replace IC:=Lib.hid IC
  clear h h0
  by_cases hi:isN c s Z H = true
  ·rw [hi] at IC ⊢
   replace hi:=Lib.hid hi
   go_enter Tryz.func94,Tryz.ntmps94
   go_wp2_with fail
   refine WC.out.mono ?_
   rintro e w1 ⟨⟨q,rfl⟩,rfl⟩
   go_wp2_with fail
   refine IC.out.mono ?_
   rintro e w2 ⟨rfl,m,hw⟩
   replace hw:=Lib.hid hw
   go_wp2
   go_ret
   exact ⟨rfl,m,hw.out⟩
  ·have hi:isN c s Z H = false:=by simpa using hi
   rw [hi] at IC ⊢
   replace hi:=Lib.hid hi
   go_enter Tryz.func94,Tryz.ntmps94
   go_wp2_with fail
   refine WC.out.mono ?_
   rintro e w1 ⟨⟨q,rfl⟩,rfl⟩
   go_wp2_with fail
   refine IC.out.mono ?_
   rintro e w2 ⟨rfl,m,hw⟩
   replace hw:=Lib.hid hw
   go_wp2
   go_ret
   exact ⟨rfl,m,hw.out⟩
 ·rw [if_neg h0] at WC ⊢
  rcases h.at6 H with ⟨e0, -⟩ | ⟨k,l1,l2,e,ha, -⟩
  ·exact absurd e0 h0
  obtain ⟨hX,hk, -⟩:=ha
  have hnc:=h.hnc
  rw [e,Nat.add_sub_cancel] at WC
  rw [e]
  generalize clsN c s H = X at *
  obtain ⟨z,hz⟩:∃ z:Nat,z = 3 * X + k:=⟨_,rfl⟩
  rw [<- hz] at WC
  have dz:decide ((0:Int) <= (z:Int)) = true:=decide_eq_true (by omega)
  have mz:((z:Int)).tmod 3 = (k:Int):=by
   have:((z:Int)).tmod 3 = ((z % 3:Nat):Int):=tmodN z 3
   rw [this,hz]
   omega
  have qz:IntKind.i64.wrap ((k:Int) + 1) = (k:Int) + 1:=IntWalk.i64_in _ (by omega)
  replace hz:=Lib.hid hz
  replace WC:=Lib.hid WC
  clear h h0 IC e
  go_enter Tryz.func94,Tryz.ntmps94
  go_wp2_with fail
  refine WC.out.mono ?_
  rintro e w1 ⟨⟨q,rfl⟩,rfl⟩
  go_wp2
  go_ret
  exact ⟨rfl,0,rfl⟩
theorem next6C (H:Nat) (j:Int) (T:Nat) (hj:j = -1 /\ T = prevN c s Ls H \/ j = 1 /\ T = nextN c s Ls H):Calls Tryz.prog 123 #[.pointer (some ⟨R.b,0,none⟩),.int .u64 (H:Int),.int .i64 j] w fun e w' => e = .returned (.tuple #[.int .u64 (T:Int),.bool (decide (T ≠ 0))]) /\ w = w':=by
 rcases h.at6 H with ⟨h0,hn⟩ | ⟨k,l1,l2,e,ha,ep,en,hz,hl⟩
 ·have hT:T = 0:=by
   rcases hj with ⟨-,rfl⟩ | ⟨-,rfl⟩
   ·unfold prevN; rw [if_pos h0]
   ·unfold nextN; rw [if_pos h0]
  subst hT
  exact next6No w R M.b c laid Ls h.doc h.hnc (fun x k hx hk => Nat.le_succ_of_le (h.hll x k hx hk)) H hn j
 ·obtain ⟨A,B⟩:=next6 w R M.b c laid Ls h.doc h.hnc (fun x k hx hk => Nat.le_succ_of_le (h.hll x k hx hk)) H ha
  rcases hj with ⟨rfl,rfl⟩ | ⟨rfl,rfl⟩
  ·rw [some_ne' (fun y hy => hz y (List.mem_append.2 (.inl hy))), <- ep] at A
   exact A
  ·rw [some_ne (fun y hy => hz y (List.mem_append.2 (.inr hy))), <- en] at B
   exact B
theorem ahead6C (H:Nat):Calls Tryz.prog 85 #[.pointer (some ⟨R.b,0,none⟩),.int .u64 (H:Int)] w fun e w' => e = .returned (.tuple #[.int .u64 (prevN c s Ls H:Int),.bool (decide (prevN c s Ls H ≠ 0))]) /\ w = w':=by
 have NC:=next6C h H (-1) _ (.inl ⟨rfl,rfl⟩)
 generalize prevN c s Ls H = T at *
 obtain ⟨B,hB⟩:∃ B,B = decide (T ≠ 0):=⟨_,rfl⟩
 rw [<- hB] at NC ⊢
 clear hB
 replace NC:=Lib.hid NC
 clear h
 go_enter Tryz.func85,Tryz.ntmps85
 go_wp2_with fail
 refine NC.out.mono ?_
 rintro e w1 ⟨rfl,rfl⟩
 go_wp2
 go_ret2
 exact ⟨rfl,rfl⟩
theorem behind6C (H:Nat):Calls Tryz.prog 86 #[.pointer (some ⟨R.b,0,none⟩),.int .u64 (H:Int)] w fun e w' => e = .returned (.tuple #[.int .u64 (nextN c s Ls H:Int),.bool (decide (nextN c s Ls H ≠ 0))]) /\ w = w':=by
 have NC:=next6C h H 1 _ (.inr ⟨rfl,rfl⟩)
 generalize nextN c s Ls H = T at *
 obtain ⟨B,hB⟩:∃ B,B = decide (T ≠ 0):=⟨_,rfl⟩
 rw [<- hB] at NC ⊢
 clear hB
 replace NC:=Lib.hid NC
 clear h
 go_enter Tryz.func86,Tryz.ntmps86
 go_wp2_with fail
 refine NC.out.mono ?_
 rintro e w1 ⟨rfl,rfl⟩
 go_wp2
 go_ret2
 exact ⟨rfl,rfl⟩
theorem D6.all (x kind:Int):Calls Tryz.prog 18 #[.pointer (some ⟨R.b,0,none⟩),.int .i64 x,.int .i64 kind] w fun e w' => ∃ A cp,e = .returned (.slice A (lsN c Ls x kind).length cp) /\ Below w.heap.size w w' /\ w'.ownsRow w.heap.size 26 1 (.slice A (lsN c Ls x kind).length cp) (lsN c Ls x kind).length ((lsN c Ls x kind).map uv):=allC6 w R M c r laid Ls h.doc h.ref h.hnc (fun x k hx hk => Nat.le_succ_of_le (h.hll x k hx hk)) x kind
theorem D6.len (x kind:Int):Calls Tryz.prog 84 #[.pointer (some ⟨R.b,0,none⟩),.int .i64 x,.int .i64 kind] w fun e w' => e = .returned (.int .i64 ((lsN c Ls x kind).length:Int)) /\ Below w.heap.size w w':=lenC6 w R M c r laid Ls h.doc h.ref h.hnc (fun x k hx hk => Nat.le_succ_of_le (h.hll x k hx hk)) x kind
theorem D6.head (x kind:Int):Calls Tryz.prog 81 #[.pointer (some ⟨R.b,0,none⟩),.int .i64 x,.int .i64 kind] w fun e w' => e = .returned (.tuple #[.int .u64 ((lsN c Ls x kind).head?.getD 0:Int),.bool (decide (0 < (lsN c Ls x kind).length))]) /\ Below w.heap.size w w':=headC6 w R M c r laid Ls h.doc h.ref h.hnc (fun x k hx hk => Nat.le_succ_of_le (h.hll x k hx hk)) x kind
theorem D6.tail (x kind:Int):Calls Tryz.prog 82 #[.pointer (some ⟨R.b,0,none⟩),.int .i64 x,.int .i64 kind] w fun e w' => e = .returned (.tuple #[.int .u64 ((lsN c Ls x kind).getLast?.getD 0:Int),.bool (decide (0 < (lsN c Ls x kind).length))]) /\ Below w.heap.size w w':=tailC6 w R M c r laid Ls h.doc h.ref h.hnc (fun x k hx hk => Nat.le_succ_of_le (h.hll x k hx hk)) x kind
end
theorem results_cells2 {P:Program} {fn:Func} {p q:Tmp} {ty ty':TypeId} (h:fn.results = #[.cell p ty,.cell q ty']) (tmps:Array Value) (w:World) (g g':Nat) (t t':TypeId) (cs cs':Array Value) (fr fr':Nat × Nat) (d d':TypeDesc)
  (hp:tmps.getD p undef = .pointer (some ⟨g,0,none⟩)) (hq:tmps.getD q undef = .pointer (some ⟨g',0,none⟩)) (hg:w.heap[g]? = some (.cells cs t fr)) (hg':w.heap[g']? = some (.cells cs' t' fr'))
  (hu:P.underlying ty = some d) (hd:(match d with | .struct _ | .array _ _ => true | _ => false) = true) (hi:(P.info? ty).map (·.size) = some cs.size)
  (hu':P.underlying ty' = some d') (hd':(match d' with | .struct _ | .array _ _ => true | _ => false) = true) (hi':(P.info? ty').map (·.size) = some cs'.size) :
  (results fn tmps).run P w = .ok (.tuple #[.agg cs,.agg cs']) w:=by
 have hp':tmps[p]?.getD undef = .pointer (some ⟨g,0,none⟩):=by simpa using hp
 have hq':tmps[q]?.getD undef = .pointer (some ⟨g',0,none⟩):=by simpa using hq
 simp [results,h,hp',hq',asAddr,run_loadVar_row w g t ty cs fr d hg hu hd hi,run_loadVar_row w g' t' ty' cs' fr' d' hg' hu' hd' hi']
def qc:Conf:=⟨4096,4,200,64,256,0,0⟩
theorem qc_ref:refN qc = 0:=by kernel_rfl
theorem qc_nc:qc.nc = 3:=by kernel_rfl
theorem qc_np:qc.cf.np = 4:=by kernel_rfl
theorem numC6 (w:World) (n:Int):Calls Tryz.prog 14 #[.int .i64 n] w fun e w' => e = .returned (.int .i64 n) /\ w = w':=by
 go_enter Tryz.func14,Tryz.ntmps14
 go_wp2
 go_ret
 exact ⟨rfl,rfl⟩
theorem setupC (w:World):Calls Tryz.prog 43 #[] w fun e w' => e = .returned (.tuple #[.agg qc.cells,.agg qc.rcells]) /\ Below w.heap.size w w':=by
 obtain ⟨w1,hw1⟩:∃ w1,w1 = (w.alloc (.cells #[.int .i64 0,.int .i64 0,.int .i64 0,.int .i64 0,.int .i64 0,.int .i64 0,.int .i64 0] 79)).alloc (.cells #[.int .i64 0,.int .i64 0,.int .i64 0,.int .i64 0,.int .i64 0] 81):=⟨_,rfl⟩
 have B1:Blk w1 w.heap.size 79 #[.int .i64 0,.int .i64 0,.int .i64 0,.int .i64 0,.int .i64 0,.int .i64 0,.int .i64 0]:=by rw [hw1]; exact (Blk.new w _ _).alloc _
 have C1:Blk w1 (w.heap.size + 1) 81 #[.int .i64 0,.int .i64 0,.int .i64 0,.int .i64 0,.int .i64 0]:=by rw [hw1]; exact blk_new' (World.size_alloc _ _)
 have b1:Below w.heap.size w w1:=by rw [hw1]; exact ((Below.refl _ _).alloc (Nat.le_refl _) _).alloc (by rw [World.size_alloc]; omega) _
 replace hw1:=Lib.hid hw1
 generalize hN:w.heap.size = N at *
 replace hN:=Lib.hid hN
 generalize hN1:N + 1 = N1 at *
 have hne:N ≠ N1:=by omega
 have hle:N <= N1:=by omega
 go_enter Tryz.func43,Tryz.ntmps43
 go_upto_region 1 with fail
 rw [hN.out,hN1, <- hw1.out]
 iterate 8 (first | go_values | go_skip | go_guarded | go_step | go_upon | go_in)
 refine wp_store_whole (P:=Tryz.prog) 79 (.tmp 0) (.tmp 2) rfl N _ _ rfl rfl B1 (by kernel_rfl) rfl (by kernel_rfl) ?_
 intro w2 B2 o2 z2
 have C2:Blk w2 N1 81 _:=o2.at_ C1 (by omega)
 have b2:Below N w w2:=b1.trans (o2.toBelow (B:=N) fun k hk => ⟨by have:=B1.lt; omega,by omega⟩)
 replace b2:=Lib.hid b2
 replace B2:=Lib.hid B2
 clear o2 z2 B1 C1 b1 hw1
 iterate 2 (first | go_values | go_skip | go_guarded | go_step | go_upon | go_in)
 refine wp_store_whole (P:=Tryz.prog) 81 (.tmp 1) (.tmp 3) rfl N1 _ _ rfl rfl C2 (by kernel_rfl) rfl (by kernel_rfl) ?_
 intro w3 C3 o3 z3
 have B3:Blk w3 N 79 _:=o3.at_ B2.out (by omega)
 have b3:Below N w w3:=b2.out.trans (o3.toBelow (B:=N) fun k hk => ⟨by have:=B2.out.lt; omega,by omega⟩)
 replace b3:=Lib.hid b3
 replace B3:=Lib.hid B3
 replace C3:=Lib.hid C3
 clear o3 z3 B2 C2 b2
 go_wp2_with fail
 exact bodyPost_ret (results_cells2 (P:=Tryz.prog) rfl _ _ N N1 79 81 _ _ (0,0) (0,0) _ _ rfl rfl B3.out C3.out Tryz.underlying79 rfl (by kernel_rfl) Tryz.underlying81 rfl (by kernel_rfl)) rfl ⟨rfl,b3.out⟩
end Go.Proofs.YtfjiphibalhcgaaGreat.Que
/-
  The document's Set in memory: what one store makes of it.
-/
namespace Go.Proofs.YtfjiphibalhcgaaGreat.Cls
open Go.RowKit Base
theorem eiCh:EI Tryz.prog 151 168 (.agg #[.int .i64 0,.int .i64 0,.int .u64 0,.bool false,.bool false]) 5 32:=EI.mk' Tryz.underlying151 (by kernel_rfl) rfl (by decide)
section
variable {w w1:World} {M:RL} {c:Conf} {r:RS}
theorem RSetAt.setOwn (h:RSetAt w M c r) (i:Nat) (o:Option Nat) (hi:i < c.cf.np):RSetAt (w.setCell ⟨M.go,i,none⟩ (ownV o)) M c { r with own:=upd r.own i o }:=by
 refine h.turn .own (only_cell w M.go _ _) (fun b e _ => by subst e; rfl) ((h.ownB.set1 i hi _).congr fun a b _ hb => ?_) (by intro q hq hp; cases q <;> first | exact hp | exact absurd rfl hq) (by intro q hq b e; cases q <;> first | exact e | exact absurd rfl hq) (fun b e => .inl e) ⟨rfl,rfl,rfl,rfl⟩
 unfold put2 upd
 by_cases he:a = i
 ·rw [if_pos ⟨he,by omega⟩]; simp [he]
 ·rw [if_neg (fun e => he e.1)]; simp [he]
theorem RSetAt.setCh (h:RSetAt w M c r) {j:Nat} {x:RC} (hx:r.ch[j]? = some x) (f:RC -> RC) (i:Nat) (hi:i < 5) (v:Value) (hf:(f x).cells = x.cells.set i v) {g cp:Nat} (hv:M.vC = .slice (some ⟨g,0,none⟩) r.ch.length cp) :
  RSetAt (w.setCell ⟨g,j * 5 + i,none⟩ v) M c { r with ch:=r.ch.modify j f }:=by
 have hjl:=(List.getElem?_eq_some_iff.1 hx).1
 refine h.turn .ch (only_cell w g _ _) (fun b e _ => by subst e; show M.vC.ownBlock = _; rw [hv]; rfl) ?_ (by intro q hq hp; cases q <;> first | exact hp | exact absurd rfl hq) (by intro q hq b e; cases q <;> first | exact e | exact absurd rfl hq) (fun b e => .inl e) ⟨rfl,rfl,rfl,rfl⟩
 show World.ownsRow _ 0 _ 5 M.vC (r.ch.modify j f).length (chV (r.ch.modify j f))
 have:=h.chB
 rw [hv] at this ⊢
 rw [List.length_modify,modify_set hx,chV_set hx i hi v hf]
 exact own_put this _ (by omega) v
theorem RSetAt.newCh (h:RSetAt w M c r) {S:Nat -> Prop} (v:Value) (l:List RC) (o:Only S w w1) (hS:∀ b,S b -> b < w.heap.size -> M.vC.ownBlock = some b)
  (hv:w1.ownsRow 0 168 5 v l.length (chV l)) (hb:∀ b,v.ownBlock = some b -> M.vC.ownBlock = some b \/ w.heap.size <= b) :
  RSetAt (w1.setCell ⟨M.b,8,none⟩ v) { M with vC:=v } c { r with ch:=l }:=by
 have hrl:M.b < w.heap.size:=h.headB.lt
 have hFr:∀ b,M.vC.ownBlock = some b -> b ≠ M.b:=by
  intro b e he
  have:=h.inj .ch .head b e (by rw [he]; rfl)
  cases this
 have hr1:=o.at_ h.headB (fun e => hFr _ (hS _ e hrl) rfl)
 have hvb:∀ b,v.ownBlock = some b -> b ≠ M.b:=by
  intro b e he
  rcases hb b e with h1 | h1
  ·exact hFr b h1 he
  ·omega
 have hset:Blk (w1.setCell ⟨M.b,8,none⟩ v) M.b _ _:=Blk.set_ hr1 8 v
 have hv2:(w1.setCell ⟨M.b,8,none⟩ v).ownsRow 0 168 5 v l.length (chV l):=own_keptN hv fun b e => Below.heap_setCell w1 _ v b (hvb b e)
 refine h.turns (fun p => p = .head \/ p = .ch) (S:=fun b => S b \/ b = M.b) ((o.mono fun x _ hx => .inl hx).setCell (fun _ => .inr rfl) v) ?_ ?_ ?_ ?_ ?_ ⟨rfl,rfl,rfl,rfl⟩
 ·rintro b (h1 | h1) hlt
  ·exact ⟨.ch,.inr rfl,hS b h1 hlt⟩
  ·subst h1; exact ⟨.head,.inl rfl,rfl⟩
 ·rintro p (rfl | rfl)
  ·exact hset
  ·exact hv2
 ·intro q hq hp
  cases q with
  | head => exact absurd (.inl rfl) hq
  | ch => exact absurd (.inr rfl) hq
  | _ => exact hp
 ·intro q hq b e
  cases q with
  | head => exact absurd (.inl rfl) hq
  | ch => exact absurd (.inr rfl) hq
  | _ => exact e
 ·rintro p b (rfl | rfl) e
  ·exact .inl e
  ·rcases hb b e with h1 | h1
   ·exact .inl h1
   ·refine .inr ⟨h1,?_⟩
    rintro q (rfl | rfl) e2
    ·injection e2 with e2
     have:M.b = b:=e2
     omega
    ·rfl
theorem RSetAt.newRow (h:RSetAt w M c r) {S:Nat -> Prop} (k:Nat) (hk:k < c.nc) (v:Value) (l:List Nat) (o:Only S w w1) (hS:∀ b,S b -> b < w.heap.size -> (M.F k).ownBlock = some b)
  (hv:w1.ownsRow 0 3 1 v l.length (l.map iv)) (hb:∀ b,v.ownBlock = some b -> (M.F k).ownBlock = some b \/ w.heap.size <= b) :
  RSetAt (w1.setCell ⟨M.gr,k,none⟩ v) { M with F:=upd M.F k v } c { r with rows:=upd r.rows k l }:=by
 have hrl:M.gr < w.heap.size:=h.rowsB.lt
 have hFr:∀ b,(M.F k).ownBlock = some b -> b ≠ M.gr:=by
  intro b e he
  have:=h.inj (.row k) .rows b ((if_pos hk).trans e) (by rw [he]; rfl)
  cases this
 have hr1:Grid w1 M.gr 55 c.nc 1 (fun k _ => M.F k):=h.rowsB.only o fun e => hFr _ (hS _ e hrl) rfl
 have hvb:∀ b,v.ownBlock = some b -> b ≠ M.gr:=by
  intro b e he
  rcases hb b e with h1 | h1
  ·exact hFr b h1 he
  ·omega
 have hset:=hr1.set1 k hk v
 have hv2:(w1.setCell ⟨M.gr,k,none⟩ v).ownsRow 0 3 1 v l.length (l.map iv):=own_kept hv fun b e => Below.heap_setCell w1 _ v b (hvb b e)
 refine h.turns (fun p => p = .rows \/ p = .row k) (S:=fun b => S b \/ b = M.gr) ((o.mono fun x _ hx => .inl hx).setCell (fun _ => .inr rfl) v) ?_ ?_ ?_ ?_ ?_ ⟨rfl,rfl,rfl,rfl⟩
 ·rintro b (h1 | h1) hlt
  ·exact ⟨.row k,.inr rfl,(if_pos hk).trans (hS b h1 hlt)⟩
  ·subst h1; exact ⟨.rows,.inl rfl,rfl⟩
 ·rintro p (rfl | rfl)
  ·refine hset.congr fun a b _ hb4 => ?_
   unfold put2
   by_cases he:a = k
   ·subst he
    rw [if_pos ⟨rfl,by omega⟩]
    exact (upd_at M.F a v).symm
   ·rw [if_neg (fun e => he e.1)]
    exact (upd_ne M.F v he).symm
  ·intro _
   show World.ownsRow _ 0 _ 1 (upd M.F k v k) (upd r.rows k l k).length ((upd r.rows k l k).map iv)
   rw [upd_at,upd_at]
   exact hv2
 ·intro q hq hp
  cases q with
  | row j =>
   have hj:j ≠ k:=fun e => hq (.inr (by rw [e]))
   intro hh
   show World.ownsRow _ 0 _ 1 (upd M.F k v j) (upd r.rows k l j).length ((upd r.rows k l j).map iv)
   rw [upd_ne _ _ hj,upd_ne _ _ hj]
   exact hp hh
  | rows => exact absurd (.inl rfl) hq
  | _ => exact hp
 ·intro q hq b e
  cases q with
  | row j =>
   have hj:j ≠ k:=fun e => hq (.inr (by rw [e]))
   by_cases hjn:j < c.nc
   ·rw [RL.blk,if_pos hjn] at e ⊢
    have e2:(upd M.F k v j).ownBlock = some b:=e
    rwa [upd_ne _ _ hj] at e2
   ·rw [RL.blk,if_neg hjn] at e; cases e
  | rows => exact absurd (.inl rfl) hq
  | _ => exact e
 ·rintro p b (rfl | rfl) e
  ·exact .inl e
  ·rw [RL.blk,if_pos hk] at e
   have e2:(upd M.F k v k).ownBlock = some b:=e
   rw [upd_at] at e2
   rcases hb b e2 with h1 | h1
   ·exact .inl ((if_pos hk).trans h1)
   ·refine .inr ⟨h1,?_⟩
    rintro q (rfl | rfl) e3
    ·injection e3 with e3
     have:M.gr = b:=e3
     omega
    ·rfl
end
structure RWent (w w':World) (M M':RL) (c:Conf):Prop where
 only:Only (RFoot M c) w w'
 foot:∀ b,RFoot M' c b -> RFoot M c b \/ w.heap.size <= b
 b:M'.b = M.b
theorem RWent.refl (w:World) (M:RL) (c:Conf):RWent w w M M c:=⟨Only.refl _ _,fun _ h => .inl h,rfl⟩
theorem RWent.trans {w w1 w2:World} {M M1 M2:RL} {c:Conf} (h:RWent w w1 M M1 c) (k:RWent w1 w2 M1 M2 c):RWent w w2 M M2 c :=
 ⟨h.only.trans k.only fun x hx hf => (h.foot x hf).resolve_right (by omega),fun b hb => (k.foot b hb).elim (h.foot b) fun hb => .inr (Nat.le_trans h.only.size hb),k.b.trans h.b⟩
theorem RWent.drewN {w w1:World} {M M1:RL} {c:Conf} (h:RWent w w1 M M1 c) (n:Nat):RWent w (w1.drewN n) M M1 c :=
 ⟨⟨h.only.os,h.only.tape,h.only.output,h.only.size,h.only.block⟩,h.foot,h.b⟩
theorem RWent.same {w w':World} {M:RL} {c:Conf} (o:Only (RFoot M c) w w'):RWent w w' M M c:=⟨o,fun _ h => .inl h,rfl⟩
theorem RSetAt.wentCh {w w1:World} {M:RL} {c:Conf} {r:RS} (h:RSetAt w M c r) {S:Nat -> Prop} (v:Value) (o:Only S w w1) (hS:∀ b,S b -> b < w.heap.size -> M.vC.ownBlock = some b)
  (hb:∀ b,v.ownBlock = some b -> M.vC.ownBlock = some b \/ w.heap.size <= b):RWent w (w1.setCell ⟨M.b,8,none⟩ v) M { M with vC:=v } c:=by
 refine ⟨(o.mono fun x hx hs => ⟨.ch,hS x hs hx⟩).setCell (fun _ => ⟨.head,rfl⟩) v,fun b ⟨p,hp⟩ => ?_,rfl⟩
 cases p with
 | ch => exact (hb b hp).imp (fun h1 => ⟨.ch,h1⟩) id
 | head => exact .inl ⟨.head,hp⟩
 | sizes => exact .inl ⟨.sizes,hp⟩
 | own => exact .inl ⟨.own,hp⟩
 | lvs => exact .inl ⟨.lvs,hp⟩
 | rows => exact .inl ⟨.rows,hp⟩
 | row k => exact .inl ⟨.row k,hp⟩
theorem RSetAt.wentRow {w w1:World} {M:RL} {c:Conf} {r:RS} (h:RSetAt w M c r) {S:Nat -> Prop} (k:Nat) (hk:k < c.nc) (v:Value) (o:Only S w w1) (hS:∀ b,S b -> b < w.heap.size -> (M.F k).ownBlock = some b)
  (hb:∀ b,v.ownBlock = some b -> (M.F k).ownBlock = some b \/ w.heap.size <= b):RWent w (w1.setCell ⟨M.gr,k,none⟩ v) M { M with F:=upd M.F k v } c:=by
 refine ⟨(o.mono fun x hx hs => ⟨.row k,(if_pos hk).trans (hS x hs hx)⟩).setCell (fun _ => ⟨.rows,rfl⟩) v,fun b ⟨p,hp⟩ => ?_,rfl⟩
 cases p with
 | row j =>
  by_cases hjn:j < c.nc
  ·rw [RL.blk,if_pos hjn] at hp
   have hp':(upd M.F k v j).ownBlock = some b:=hp
   by_cases e:j = k
   ·subst e
    rw [upd_at] at hp'
    exact (hb b hp').imp (fun h1 => ⟨.row j,(if_pos hjn).trans h1⟩) id
   ·rw [upd_ne _ _ e] at hp'
    exact .inl ⟨.row j,(if_pos hjn).trans hp'⟩
  ·rw [RL.blk,if_neg hjn] at hp; cases hp
 | ch => exact .inl ⟨.ch,hp⟩
 | head => exact .inl ⟨.head,hp⟩
 | sizes => exact .inl ⟨.sizes,hp⟩
 | own => exact .inl ⟨.own,hp⟩
 | lvs => exact .inl ⟨.lvs,hp⟩
 | rows => exact .inl ⟨.rows,hp⟩
theorem reads_cells (w:World) (l:List Value) (e:TypeId) (hl:l.length = 5):Reads (w.alloc (.cells l.toArray e)) (w.heap.size + 1) 5 (some ⟨w.heap.size,0,none⟩) 1 l :=
 ⟨by omega,fun _ => ⟨_,rfl,Nat.lt_succ_self _,fun j u hj => by
  rw [add_explicit,Nat.zero_add,cell_of_row (w.alloc _) w.heap.size j _ e (0,0) (heap_alloc_new w _)]
  simpa using hj⟩⟩
theorem rcuts_succ (d:Cf) (l:List RC) (k i x:Nat):rcuts d l k i (x + 1) = rcuts d l k i x ++ [⟨i * d.ps + x * d.sz k,k,rgen l (i * d.ps + x * d.sz k),false,false⟩]:=by
 unfold rcuts
 rw [List.range_succ,List.map_append]
 rfl
theorem rcuts_gen {d:Cf} (ok:d.Ok) {k:Nat} (hk:k < d.nc) (l:List RC) (i x:Nat):rgen (l ++ rcuts d l k i x) (i * d.ps + x * d.sz k) = rgen l (i * d.ps + x * d.sz k):=by
 refine rgen_apps _ _ _ fun z hz hp => ?_
 obtain ⟨y,hy,rfl⟩:=List.getElem_of_mem hz
 have hy2:y < x:=by rw [rcuts_len] at hy; exact hy
 have h2:(rcuts d l k i x)[y]? = some (rcuts d l k i x)[y]:=List.getElem?_eq_getElem hy
 rw [rcuts_at,if_pos hy2] at h2
 injection h2 with h2
 rw [<- h2] at hp
 have hp:i * d.ps + y * d.sz k = i * d.ps + x * d.sz k:=hp
 have hz:=(ok.sz k hk).1
 have:y * d.sz k = x * d.sz k:=by omega
 have:=Nat.eq_of_mul_eq_mul_right (by omega) this
 omega
theorem ownV_ge (o:Option Nat):∃ z:Int,ownV o = .int .i64 z /\ (decide (0 <= z) = o.isSome):=by
 cases o with
 | none => exact ⟨-1,rfl,rfl⟩
 | some k => exact ⟨(k:Int),rfl,by simp⟩
set_option maxHeartbeats 3200000 in
theorem rpageNo (w:World) (M:RL) (c:Conf) (r:RS) (h:RSetAt w M c r) (k:Int) (hall:∀ i,i < c.cf.np -> (r.own i).isSome = true) :
  Calls Tryz.prog 102 #[.pointer (some ⟨M.b,0,none⟩),.int .i64 k] w fun e w' => e = .returned (.bool false) /\ w = w':=by
 have c6:=h.cOwn
 have hnp:=h.okc.npb
 replace h:=Lib.hid h
 replace hall:=Lib.hid hall
 go_enter Tryz.func102,Tryz.ntmps102
 go_wp2
 go_loopw [5] (fun v wr => ∃ p:Nat,v = .int .i64 (p:Int) /\ p <= c.cf.np /\ w = wr) (fun v _ => c.cf.np - (intOf v).toNat)
 case atStart => exact ⟨0,rfl,Nat.zero_le _,rfl⟩
 case round =>
  obtain ⟨p,rfl,hp,rfl⟩:=hrel
  by_cases hlt:p < c.cf.np
  ·have d1:decide ((p:Int) < (c.cf.np:Int)) = true:=decide_eq_true (by omega)
   have k0:(0:Int) <= (p:Int):=by omega
   have k1:(p:Int) < (c.cf.np:Int):=by omega
   have qi:IntKind.i64.wrap ((p:Int) + 1) = ((p + 1:Nat):Int):=by rw [IntWalk.i64_in _ (by omega)]; rfl
   have y:=h.out.ow hlt
   obtain ⟨z,hz,dz⟩:=ownV_ge (r.own p)
   rw [hz] at y
   rw [hall.out p hlt] at dz
   replace hz:=Lib.hid hz
   go_wp2
   go_roundw
   case rel => exact ⟨p + 1,rfl,by omega,trivial⟩
   case measure => simp [intOf] <;> omega
  ·obtain rfl:p = c.cf.np:=by omega
   have d1:decide ((c.cf.np:Int) < (c.cf.np:Int)) = false:=by simp
   clear hlt
   go_wp2
   go_ret
   exact ⟨rfl,rfl⟩
theorem down_at (len n y:Nat) (hy:y < n):(((List.range n).map (len + ·)).reverse)[n - (y + 1)]? = some (len + y):=by
 rw [List.getElem?_reverse (by simp; omega),List.getElem?_map,List.length_map,List.length_range,show n - 1 - (n - (y + 1)) = y by omega,List.getElem?_range hy]
 rfl
theorem down_take (len n y:Nat) (hy:y < n):(((List.range n).map (len + ·)).reverse).take (n - y) = (((List.range n).map (len + ·)).reverse).take (n - (y + 1)) ++ [len + y]:=by
 have e:n - y = (n - (y + 1)) + 1:=by omega
 rw [e,List.take_add_one,down_at len n y hy]
 rfl
set_option maxHeartbeats 6400000 in
theorem rpageYes (w:World) (M:RL) (c:Conf) (r:RS) (h:RSetAt w M c r) (hlen:r.ch.length + 16384 <= 1073741824) (k:Nat) (hk:k < c.nc) (hrl:(r.rows k).length + 16384 <= 1073741824) (i:Nat) (hi:i < c.cf.np) (hno:r.own i = none) (hlow:∀ j,j < i -> (r.own j).isSome = true) :
  Calls Tryz.prog 102 #[.pointer (some ⟨M.b,0,none⟩),.int .i64 (k:Int)] w fun e w' => e = .returned (.bool true) /\ ∃ M',RSetAt w' M' c (rpage c.cf r k i) /\ RWent w w' M M' c:=by
 have c6:=h.cOwn
 have hnp:=h.okc.npb
 have ok:=h.okc
 have hkc:k < c.cf.nc:=hk
 obtain ⟨sz1,sz2,sz3⟩:=ok.sz k hkc
 obtain ⟨n1,n2⟩:=n_pos ok hkc
 have psb:=ok.psb
 replace ok:=Lib.hid ok
 replace h:=Lib.hid h
 replace hlow:=Lib.hid hlow
 replace hno:=Lib.hid hno
 go_enter Tryz.func102,Tryz.ntmps102
 go_wp2
 go_loopw [5] (fun v wr => ∃ p:Nat,v = .int .i64 (p:Int) /\ p <= i /\ w = wr) (fun v _ => i + 1 - (intOf v).toNat)
 case atStart => exact ⟨0,rfl,Nat.zero_le _,rfl⟩
 case round =>
  obtain ⟨p,rfl,hp,rfl⟩:=hrel
  have d1:decide ((p:Int) < (c.cf.np:Int)) = true:=decide_eq_true (by omega)
  have k0:(0:Int) <= (p:Int):=by omega
  have k1:(p:Int) < (c.cf.np:Int):=by omega
  by_cases hlt:p < i
  ·have qi:IntKind.i64.wrap ((p:Int) + 1) = ((p + 1:Nat):Int):=by rw [IntWalk.i64_in _ (by omega)]; rfl
   have y:=h.out.ow (i:=p) (by omega)
   obtain ⟨z,hz,dz⟩:=ownV_ge (r.own p)
   rw [hz] at y
   rw [hlow.out p hlt] at dz
   replace hz:=Lib.hid hz
   go_wp2
   go_roundw
   case rel => exact ⟨p + 1,rfl,by omega,trivial⟩
   case measure => simp [intOf] <;> omega
  ·obtain rfl:p = i:=by omega
   have y:=h.out.ow hi
   rw [hno.out] at y
   have fz:∀ j,w.frozen? ⟨M.go,j,none⟩ = false:=fun j => by obtain ⟨cur,h1⟩:=h.out.ownB.blk; exact h1.frozen j
   have fz1:=fz p
   clear fz
   have H1:=Lib.hid (h.out.setOwn p (some k) hi)
   have W1:=Lib.hid (RWent.same (M:=M) (c:=c) (only_at (S:=RFoot M c) w M.go p (ownV (some k)) ⟨.own,rfl⟩))
   obtain ⟨w1,hw1⟩:∃ w1,w1 = w.setCell ⟨M.go,p,none⟩ (ownV (some k)):=⟨_,rfl⟩
   rw [<- hw1] at H1 W1
   unfold ownV at hw1 y
   simp only at hw1 y
   replace hw1:=Lib.hid hw1
   clear hlt
   go_upto_region 6 with fail
   rw [<- hw1.out]
   clear hw1 fz1 y c6
   have hcp:=H1.out.cPs
   have hcs:=H1.out.cSizes
   have hsz:=H1.out.sz hk
   have j0:(0:Int) <= (k:Int):=by omega
   have j1:(k:Int) < (c.nc:Int):=by omega
   have z0:¬ ((c.sz k:Nat):Int) = 0:=by have:c.cf.sz k = c.sz k:=rfl; omega
   have q1:((c.cf.ps:Nat):Int).tdiv ((c.sz k:Nat):Int) = ((c.cf.n k:Nat):Int):=tdivN _ _
   have q2:IntKind.i64.wrap ((c.cf.n k:Nat):Int) = ((c.cf.n k:Nat):Int):=IntWalk.i64_in _ (by omega)
   go_quiet (fail)
   rename Nat => nq
   obtain ⟨w2,hw2⟩:∃ w2,w1.drewN nq = w2:=⟨_,rfl⟩
   have H2:Hid (RSetAt w2 M c { r with own:=upd r.own p (some k) }):=by rw [<- hw2]; exact Lib.hid (H1.out.drewN nq)
   have W2:Hid (RWent w w2 M M c):=by rw [<- hw2]; exact Lib.hid (W1.out.drewN nq)
   have c8:=H2.out.cCh
   obtain ⟨A,cp,hv, -⟩:=H2.out.chs
   rw [hv] at c8
   replace hv:=Lib.hid hv
   rw [hw2]
   clear hw2 H1 W1 hcp hcs hsz q1 z0
   dsimp only at c8
   go_wp2
   clear c8
   generalize hn:c.cf.n k = n at *
   obtain ⟨len,hL⟩:∃ len,len = r.ch.length:=⟨_,rfl⟩
   rw [<- hL]
   replace hn:=Lib.hid hn
   go_loopw [8] (fun v wr => ∃ (x:Nat) (M1:RL),v = .int .i64 (x:Int) /\ x <= n /\ Hid (RSetAt wr M1 c { r with own:=upd r.own p (some k),ch:=r.ch ++ rcuts c.cf r.ch k p x }) /\ Hid (RWent w wr M M1 c)) (fun v _ => n - (intOf v).toNat)
   case atStart =>
    refine ⟨0,M,rfl,Nat.zero_le _,?_,W2⟩
    have e:r.ch ++ rcuts c.cf r.ch k p 0 = r.ch:=by simp [rcuts]
    rw [e]
    exact H2
   case round =>
    clear H2 W2 hv
    obtain ⟨x,M1,rfl,hx,R,Wr⟩:=hrel
    by_cases hxn:x < n
    ·have d2:decide ((x:Int) < (n:Int)) = true:=decide_eq_true (by omega)
     have hxk:x < c.cf.n k:=by rw [hn.out]; exact hxn
     obtain ⟨pp1,pp2⟩:=place_page ok.out (i:=p) hkc hxk
     have pnp:(p + 1) * c.cf.ps <= 1024 * 1048576:=Nat.mul_le_mul (by omega) psb
     have hrg:=rcuts_gen ok.out hkc r.ch p x
     have hsuc:=rcuts_succ c.cf r.ch k p x
     have hszE:c.cf.sz k = c.sz k:=rfl
     rw [hszE] at pp1 pp2 hrg hsuc
     obtain ⟨P1,hP1⟩:∃ P1,P1 = p * c.cf.ps:=⟨_,rfl⟩
     obtain ⟨X1,hX1⟩:∃ X1,X1 = x * c.sz k:=⟨_,rfl⟩
     obtain ⟨AT,hAT⟩:∃ AT,AT = P1 + X1:=⟨_,rfl⟩
     rw [<- hP1, <- hX1, <- hAT] at pp1 pp2 hrg hsuc
     have qa:IntKind.i64.wrap ((p:Int) * ((c.cf.ps:Nat):Int)) = (P1:Int):=by rw [<- Int.natCast_mul, <- hP1]; exact IntWalk.i64_in _ (by omega)
     have qb:IntKind.i64.wrap ((x:Int) * ((c.sz k:Nat):Int)) = (X1:Int):=by rw [<- Int.natCast_mul, <- hX1]; exact IntWalk.i64_in _ (by omega)
     have qc:IntKind.i64.wrap ((P1:Int) + (X1:Int)) = (AT:Int):=by rw [hAT]; exact IntWalk.i64_in _ (by omega)
     have qx:IntKind.i64.wrap ((x:Int) + 1) = ((x + 1:Nat):Int):=by rw [IntWalk.i64_in _ (by omega)]; rfl
     have hcp:=R.out.cPs
     have hcs:=R.out.cSizes
     have hsz:=R.out.sz hk
     have eb:=Wr.out.b
     rw [eb] at hcp hcs
     replace eb:=Lib.hid eb
     replace hsuc:=Lib.hid hsuc
     replace hrg:=Lib.hid hrg
     clear hP1 hX1 hAT pp1 pp2 pnp hszE
     go_upto_region 11 with fail
     go_quiet (fail)
     rename Nat => nq2
     obtain ⟨wa,hwa⟩:∃ wa,wr.drewN nq2 = wa:=⟨_,rfl⟩
     have R2:=R.out.drewN nq2
     have Wa:=Wr.out.drewN nq2
     rw [hwa] at R2 Wa
     go_upto_region 12 with fail
     rw [hwa]
     clear hwa R Wr hcp hcs hsz qa qb qc
     have hchl:(r.ch ++ rcuts c.cf r.ch k p x).length = len + x:=by rw [List.length_append,rcuts_len,hL]
     have GC:=rgenC wa.drew M1 c _ R2.drew (by show (r.ch ++ rcuts c.cf r.ch k p x).length <= _; omega) AT
     dsimp only at GC
     rw [hrg.out,eb.out] at GC
     have c8:=R2.cCh
     have own:=R2.chB
     obtain ⟨A1,cp1,hv1, -⟩:=R2.chs
     dsimp only at own hv1
     rw [hchl] at own hv1
     rw [hv1] at c8 own
     have g0:=R2.cPs
     rw [eb.out] at c8 g0
     have hblt:M.b < wa.heap.size:=by rw [<- eb.out]; exact R2.headB.lt
     have hown:some M.b ≠ (Value.slice A1 (len + x) cp1).ownBlock:=by
      rw [<- hv1, <- eb.out]
      intro e
      have:=R2.inj .head .ch M1.b rfl e.symm
      cases this
     have z8:=R2.headB.frozen 8
     rw [eb.out] at z8
     obtain ⟨G,hG⟩:∃ G,G = rgen r.ch AT:=⟨_,rfl⟩
     rw [<- hG] at GC hsuc
     obtain ⟨ie,hie,hz0,hz1,hz2⟩:=eiCh.info
     obtain ⟨nw,hnw⟩:∃ nw:RC,nw = ⟨AT,k,G,false,false⟩:=⟨_,rfl⟩
     have one:∀ u ∈ nw.cells,u.oneCell' = true:=by
      rw [hnw]
      intro u hu
      simp only [RC.cells,List.mem_cons,List.not_mem_nil,or_false] at hu
      rcases hu with rfl | rfl | rfl | rfl | rfl <;> rfl
     have bx0:∀ W:World,W.heap.size = wa.heap.size -> Reads (W.alloc (.cells #[.int .i64 (AT:Int),.int .i64 (k:Int),.int .u64 (G:Int),.bool false,.bool false] 168)) (wa.heap.size + 1) 5 (some ⟨wa.heap.size,0,none⟩) 1 nw.cells:=by
      intro W hW
      have:=reads_cells W nw.cells 168 rfl
      rw [hW] at this
      rw [hnw] at this ⊢
      exact this
     have hlb:len + 16384 <= 1073741824:=by rw [hL]; exact hlen
     have hx16:x < 16384:=by omega
     replace GC:=Lib.hid GC
     replace one:=Lib.hid one
     replace bx0:=Lib.hid bx0
     replace R2:=Lib.hid R2
     replace Wa:=Lib.hid Wa
     replace hv1:=Lib.hid hv1
     replace hL:=Lib.hid hL
     replace hchl:=Lib.hid hchl
     replace hG:=Lib.hid hG
     replace hnw:=Lib.hid hnw
     have c8':=(cel_alloc wa (.cells #[.int .i64 (AT:Int),.int .i64 (k:Int),.int .u64 (G:Int),.bool false,.bool false] 168) M.b 8 hblt).trans c8
     go_region_law ((first | (go_simp; go_at_call 130; refine GC.out.mono ?_; rintro e w' ⟨rfl,rfl⟩) | (refine step_append_new _ (by rfl) _ _ _ (by rfl) 0 168 ie _ 5 32 Tryz.underlying151 hie hz0 hz1 hz2 rfl (by decide) (.slice A1 (len + x) cp1) (len + x) _ (by rfl) (own.alloc _) (wa.heap.size + 1) (some ⟨wa.heap.size,0,none⟩) 1 1 nw.cells (by rfl) (bx0.out _ (by simp)) one.out (by unfold maxLen; omega) (by omega) (Nat.zero_le _) (by omega) ?_; intro b3 c3 w3 own3 hgrow hat3 hlt3; have r1:w3.frozen? ⟨M.b,8,none⟩ = false:=(hgrow.frozen_far _ (by simp; omega) hown).trans ((frz_alloc wa _ M.b 8 hblt).trans z8); have r2:w3.cell? ⟨M.b,8,none⟩ = some (.slice A1 (len + x) cp1):=(hgrow.cell_far _ (by simp; omega) hown).trans ((cel_alloc wa _ M.b 8 hblt).trans c8); have d0:w3.cell? ⟨M.b,0,none⟩ = some (.int .i64 ((c.cf.ps:Nat):Int)):=(hgrow.cell_far _ (by simp; omega) hown).trans ((cel_alloc wa _ M.b 0 hblt).trans g0))))
     all_goals
      have oW:Only (fun b => M1.vC.ownBlock = some b) wa w3:=((Only.refl _ wa).alloc _).drew.grown hgrow (fun j e _ => by rw [hv1.out]; exact e)
      have own4:w3.ownsRow 0 168 5 (.slice (some ⟨b3,0,none⟩) (len + x + 1) c3) (r.ch ++ rcuts c.cf r.ch k p (x + 1)).length (chV (r.ch ++ rcuts c.cf r.ch k p (x + 1))):=by
       have e1:(r.ch ++ rcuts c.cf r.ch k p (x + 1)) = (r.ch ++ rcuts c.cf r.ch k p x) ++ [nw]:=by rw [hsuc.out,hnw.out,List.append_assoc]
       rw [e1,chV_app,List.length_append,hchl.out]
       exact own3
      have hb4:∀ b,(Value.slice (some ⟨b3,0,none⟩) (len + x + 1) c3).ownBlock = some b -> M1.vC.ownBlock = some b \/ wa.heap.size <= b:=fun b e => by
       have e2:b3 = b:=by simpa [Value.ownBlock] using e
       subst e2
       rcases hat3 with h3 | h3
       ·rw [hv1.out]; exact .inl h3
       ·exact .inr (by rw [h3]; simp)
      have G4:=R2.out.newCh (.slice (some ⟨b3,0,none⟩) (len + x + 1) c3) _ oW (fun b e _ => e) own4 hb4
      have W4:=Wa.out.trans (R2.out.wentCh (.slice (some ⟨b3,0,none⟩) (len + x + 1) c3) oW (fun b e _ => e) hb4)
      rw [eb.out] at G4 W4
      obtain ⟨w4,hw4⟩:∃ w4,w4 = w3.setCell ⟨M.b,8,none⟩ (.slice (some ⟨b3,0,none⟩) (len + x + 1) c3):=⟨_,rfl⟩
      rw [<- hw4] at G4 W4 ⊢
      replace G4:=Lib.hid G4
      replace W4:=Lib.hid W4
      clear hw4 r1 r2 d0 own3 hgrow hat3 hlt3 oW own4 hb4 c8 c8' g0 z8 own R2 Wa GC bx0 one
      go_wp2
      go_roundw
      case rel => exact ⟨x + 1,_,rfl,by omega,G4,W4⟩
      case measure => simp [intOf] <;> omega
    ·obtain rfl:x = n:=by omega
     have d2:decide ((x:Int) < (x:Int)) = false:=by simp
     have q3:IntKind.i64.wrap ((x:Int) - 1) = (x:Int) - 1:=IntWalk.i64_in _ (by omega)
     clear hxn
     go_wp2_with fail
     go_loopw [10] (fun v ws => ∃ (y:Nat) (M2:RL),v = .int .i64 ((y:Int) - 1) /\ y <= x /\ Hid (RSetAt ws M2 c { r with own:=upd r.own p (some k),ch:=r.ch ++ rcuts c.cf r.ch k p x,rows:=upd r.rows k (r.rows k ++ (((List.range x).map (len + ·)).reverse).take (x - y)) }) /\ Hid (RWent w ws M M2 c)) (fun v _ => (intOf v + 1).toNat)
     case atStart =>
      refine ⟨x,M1,rfl,Nat.le_refl _,?_,Wr⟩
      have e:upd r.rows k (r.rows k ++ (((List.range x).map (len + ·)).reverse).take (x - x)) = r.rows:=by rw [Nat.sub_self,List.take_zero,List.append_nil,upd_self]
      rw [e]
      exact R
     case round =>
      clear R Wr
      obtain ⟨y,M2,rfl,hy,R,Wr⟩:=hrel
      rename World => ws
      cases y with
      | zero =>
       have d3:decide ((0:Int) <= ((0:Nat):Int) - 1) = false:=by decide
       have RF:Hid (RSetAt ws M2 c (rpage c.cf r k p)):=by
        have e:rpage c.cf r k p = { r with own:=upd r.own p (some k),ch:=r.ch ++ rcuts c.cf r.ch k p x,rows:=upd r.rows k (r.rows k ++ (((List.range x).map (len + ·)).reverse).take (x - 0)) }:=by
         unfold rpage
         rw [hn.out,Nat.sub_zero,List.take_of_length_le (by simp),hL]
        rw [e]; exact R
       go_wp2
       go_ret
       exact ⟨rfl,M2,RF.out,Wr.out⟩
      | succ y =>
       have e1:((y + 1:Nat):Int) - 1 = (y:Int):=by omega
       rw [e1]
       have d3:decide ((0:Int) <= (y:Int)) = true:=decide_eq_true (by omega)
       have qy:IntKind.i64.wrap ((y:Int) - 1) = (y:Int) - 1:=IntWalk.i64_in _ (by omega)
       have hlb:len + 16384 <= 1073741824:=by rw [hL]; exact hlen
       have hyx:y < x:=by omega
       have hx16:x <= 16384:=by omega
       have qd:IntKind.i64.wrap ((len:Int) + (y:Int)) = ((len + y:Nat):Int):=by rw [IntWalk.i64_in _ (by omega)]; omega
       have hdt:=Lib.hid (down_take len x y hyx)
       have eb:=Wr.out.b
       have c9:=R.out.cRows
       rw [eb] at c9
       have rk:=R.out.rw_ hk
       have own:=R.out.rowB hk
       dsimp only at own
       rw [upd_at] at own
       obtain ⟨Z,hZ⟩:∃ Z,Z = r.rows k ++ (((List.range x).map (len + ·)).reverse).take (x - (y + 1)):=⟨_,rfl⟩
       rw [<- hZ] at own
       have hZl:Z.length <= (r.rows k).length + 16384:=by rw [hZ,List.length_append,List.length_take]; omega
       have hFs:∃ A2 cp2,M2.F k = .slice A2 Z.length cp2:=by
        obtain ⟨A2,cp2,h2⟩:=own_is own
        exact ⟨A2,cp2,h2⟩
       obtain ⟨A2,cp2,hF2⟩:=hFs
       rw [hF2] at rk own
       have hglt:M2.gr < ws.heap.size:=R.out.rowsB.lt
       have hblt:M.b < ws.heap.size:=by rw [<- eb]; exact R.out.headB.lt
       have zf:ws.frozen? ⟨M2.gr,k,none⟩ = false:=by obtain ⟨cur,h1⟩:=R.out.rowsB.blk; exact h1.frozen k
       have hownG:some M2.gr ≠ (Value.slice A2 Z.length cp2).ownBlock:=by
        rw [<- hF2]
        intro e
        have:=R.out.inj .rows (.row k) M2.gr rfl ((if_pos hk).trans e.symm)
        cases this
       have hownB:some M.b ≠ (Value.slice A2 Z.length cp2).ownBlock:=by
        rw [<- hF2, <- eb]
        intro e
        have:=R.out.inj .head (.row k) M2.b rfl ((if_pos hk).trans e.symm)
        cases this
       obtain ⟨ie,hie,hz0,hz1,hz2⟩:=eiI.info
       have one:=iv_one [len + y]
       have bx0:∀ W:World,W.heap.size = ws.heap.size -> Reads (W.alloc (.cells #[.int .i64 ((len + y:Nat):Int)] 3)) (ws.heap.size + 1) 1 (some ⟨ws.heap.size,0,none⟩) 1 ([len + y].map iv):=by
        intro W hW
        have:=reads_one W (len + y)
        rwa [hW] at this
       generalize len + y = LY at *
       replace one:=Lib.hid one
       replace bx0:=Lib.hid bx0
       replace hF2:=Lib.hid hF2
       replace hZ:=Lib.hid hZ
       replace eb:=Lib.hid eb
       replace hL:=Lib.hid hL
       have rk':=(cel_alloc ws (.cells #[.int .i64 (LY:Int)] 3) M2.gr k hglt).trans rk
       have c9':=(cel_alloc ws (.cells #[.int .i64 (LY:Int)] 3) M.b 9 hblt).trans c9
       go_upto_region 16 with fail
       go_region_law ((refine step_append_new _ (by rfl) _ _ _ (by rfl) 0 3 ie _ 1 8 Tryz.underlying55 hie hz0 hz1 hz2 rfl (by decide) (.slice A2 Z.length cp2) Z.length _ (by rfl) (own.alloc _) (ws.heap.size + 1) (some ⟨ws.heap.size,0,none⟩) 1 1 ([LY].map iv) (by rfl) (bx0.out _ (by simp)) one.out (by unfold maxLen; omega) (by omega) (Nat.zero_le _) (by omega) ?_; intro b3 c3 w3 own3 hgrow hat3 hlt3; have r1:w3.frozen? ⟨M2.gr,k,none⟩ = false:=(hgrow.frozen_far _ (by simp; omega) hownG).trans ((frz_alloc ws _ M2.gr k hglt).trans zf); have r2:w3.cell? ⟨M2.gr,k,none⟩ = some (.slice A2 Z.length cp2):=(hgrow.cell_far _ (by simp; omega) hownG).trans ((cel_alloc ws _ M2.gr k hglt).trans rk); have d9:w3.cell? ⟨M.b,9,none⟩ = some (.slice (some ⟨M2.gr,0,none⟩) c.nc M2.cR):=(hgrow.cell_far _ (by simp; omega) hownB).trans ((cel_alloc ws _ M.b 9 hblt).trans c9)))
       all_goals
        have oW:Only (fun b => (M2.F k).ownBlock = some b) ws w3:=((Only.refl _ ws).alloc _).drew.grown hgrow (fun j e _ => by rw [hF2.out]; exact e)
        have own4:w3.ownsRow 0 3 1 (.slice (some ⟨b3,0,none⟩) (Z.length + 1) c3) (Z ++ [LY]).length ((Z ++ [LY]).map iv):=by
         rw [List.length_append,List.map_append]
         exact own3
        have hb4:∀ b,(Value.slice (some ⟨b3,0,none⟩) (Z.length + 1) c3).ownBlock = some b -> (M2.F k).ownBlock = some b \/ ws.heap.size <= b:=fun b e => by
         have e2:b3 = b:=by simpa [Value.ownBlock] using e
         subst e2
         rcases hat3 with h3 | h3
         ·rw [hF2.out]; exact .inl h3
         ·exact .inr (by rw [h3]; simp)
        have G4:=R.out.newRow k hk (.slice (some ⟨b3,0,none⟩) (Z.length + 1) c3) _ oW (fun b e _ => e) own4 hb4
        have W4:=Wr.out.trans (R.out.wentRow k hk (.slice (some ⟨b3,0,none⟩) (Z.length + 1) c3) oW (fun b e _ => e) hb4)
        have e5:Z ++ [LY] = r.rows k ++ (((List.range x).map (len + ·)).reverse).take (x - y):=by rw [hdt.out,hZ.out,List.append_assoc]
        dsimp only at G4
        rw [upd_upd,e5] at G4
        obtain ⟨w4,hw4⟩:∃ w4,w4 = w3.setCell ⟨M2.gr,k,none⟩ (.slice (some ⟨b3,0,none⟩) (Z.length + 1) c3):=⟨_,rfl⟩
        rw [<- hw4] at G4 W4 ⊢
        replace G4:=Lib.hid G4
        replace W4:=Lib.hid W4
        clear hw4 r1 r2 d9 own3 hgrow hat3 hlt3 oW own4 hb4 c9 c9' rk rk' zf own R Wr bx0 one e5
        go_wp2
        go_roundw
        case rel => exact ⟨y,_,rfl,by omega,G4,W4⟩
        case measure => simp [intOf] <;> omega
def rlow (d:Cf) (r:RS):Option Nat:=lowFrom (fun i => (r.own i).isSome) d.np 0
def rroomS (d:Cf) (r:RS) (k:Nat):Option RS :=
 match r.rows k with
 | [] => match rlow d r with
  | some i => some (rpage d r k i)
  | none => none
 | _ :: _ => some r
theorem lowFrom_congr {f g:Nat -> Bool}:∀ {n i:Nat},(∀ j,i <= j -> j < i + n -> f j = g j) -> lowFrom f n i = lowFrom g n i
 | 0,_,_ => rfl
 | n + 1,i,h => by
  unfold lowFrom
  rw [h i (by omega) (by omega),lowFrom_congr (n:=n) (i:=i + 1) fun j h1 h2 => h j (by omega) (by omega)]
section
variable {d:Cf} (ok:d.Ok) {s:St} (g:Good d s) {r:RS} (h:Rel d s r)
include h
theorem Rel.low:rlow d r = Cls.low d s:=by
 unfold rlow Cls.low
 refine lowFrom_congr fun j _ hj => ?_
 rw [h.own j (by omega)]
 cases s.own j <;> rfl
include ok g
theorem Rel.room {k:Nat} (hk:k < d.nc):(roomS d s k = none -> rroomS d r k = none) /\ ∀ s1,roomS d s k = some s1 -> ∃ r1,rroomS d r k = some r1 /\ Rel d s1 r1:=by
 have hl:=h.row_len hk
 have e:=h.low
 unfold roomS rroomS
 cases hf:s.free k with
 | nil =>
  have hr:r.rows k = []:=List.eq_nil_of_length_eq_zero (by rw [hl,hf]; rfl)
  rw [hr]
  simp only
  rw [e]
  cases hlow:Cls.low d s with
  | none => exact ⟨fun _ => rfl,fun s1 h1 => (by cases h1)⟩
  | some i =>
   refine ⟨fun h1 => (by cases h1),fun s1 h1 => ?_⟩
   injection h1 with h1
   subst h1
   obtain ⟨a1,a2, -⟩:=low_some hlow
   exact ⟨_,rfl,h.page ok g hk a1 a2⟩
 | cons a t =>
  obtain ⟨b,u,hr⟩:∃ b u,r.rows k = b :: u:=by
   cases hr:r.rows k with
   | nil => rw [hr,hf] at hl; simp at hl
   | cons b u => exact ⟨b,u,rfl⟩
  rw [hr]
  refine ⟨fun h1 => (by cases h1),fun s1 h1 => ?_⟩
  injection h1 with h1
  subst h1
  exact ⟨r,rfl,h⟩
end
theorem rlow_some {d:Cf} {r:RS} {i:Nat} (h:rlow d r = some i):i < d.np /\ r.own i = none /\ ∀ j,j < i -> (r.own j).isSome = true:=by
 obtain ⟨-,a,b,e⟩:=lowFrom_some h
 refine ⟨by omega,?_,fun j hj => e j (by omega) hj⟩
 cases hb:r.own i with
 | none => rfl
 | some x => rw [hb] at b; cases b
theorem rtakeNo (w:World) (M:RL) (c:Conf) (r:RS) (h:RSetAt w M c r) (k:Nat) (hk:k < c.nc) (hr:rroomS c.cf r k = none) :
  Calls Tryz.prog 56 #[.pointer (some ⟨M.b,0,none⟩),.int .i64 (k:Int)] w fun e w' => e = .returned (.tuple #[.int .u64 0,.int .i64 21]) /\ w = w':=by
 have IC:=risC h (k:Int)
 rw [decide_eq_true (show (0:Int) <= (k:Int) /\ (k:Int) < (c.nc:Int) by omega)] at IC
 have hrows:r.rows k = [] /\ ∀ i,i < c.cf.np -> (r.own i).isSome = true:=by
  unfold rroomS at hr
  split at hr
  ·rename_i he
   split at hr
   ·cases hr
   ·rename_i hl
    exact ⟨he,fun i hi => lowFrom_none hl i (Nat.zero_le _) (by omega)⟩
  ·cases hr
 have PC:=rpageNo w M c r h (k:Int) hrows.2
 have c9:=h.cRows
 have rk:=h.rw_ hk
 have own:=h.rowB hk
 rw [hrows.1] at own
 obtain ⟨A,cp,hF⟩:=own_is own
 rw [hF] at rk
 have k0:(0:Int) <= (k:Int):=by omega
 have k1:(k:Int) < (c.nc:Int):=by omega
 replace IC:=Lib.hid IC
 replace PC:=Lib.hid PC
 clear h hk hr hrows own hF
 go_enter Tryz.func56,Tryz.ntmps56
 go_wp2_with fail
 refine IC.out.mono ?_
 rintro e w' ⟨rfl,rfl⟩
 go_wp2_with fail
 refine PC.out.mono ?_
 rintro e w' ⟨rfl,rfl⟩
 go_wp2
 go_ret2
 exact ⟨rfl,rfl⟩
set_option maxHeartbeats 3200000 in
theorem rtakeYes (w:World) (M:RL) (c:Conf) (r:RS) (h:RSetAt w M c r) (hlen:r.ch.length + 16384 <= 1073741824) (k:Nat) (hk:k < c.nc) (hrl:(r.rows k).length + 16384 <= 1073741824) (r1:RS) (hr:rroomS c.cf r k = some r1)
  (l:List Nat) (j:Nat) (x:RC) (hj:r1.rows k = l ++ [j]) (hx:r1.ch[j]? = some x) (hp:x.place <= 1073741824) (hg:x.gen < 4294967296) :
  Calls Tryz.prog 56 #[.pointer (some ⟨M.b,0,none⟩),.int .i64 (k:Int)] w fun e w' => e = .returned (.tuple #[.int .u64 (x.name:Int),.int .i64 0]) /\ ∃ M',RSetAt w' M' c (rtake r1 k j) /\ RWent w w' M M' c:=by
 have IC:=risC h (k:Int)
 rw [decide_eq_true (show (0:Int) <= (k:Int) /\ (k:Int) < (c.nc:Int) by omega)] at IC
 replace IC:=Lib.hid IC
 have HW:(∃ a t,r.rows k = a :: t) /\ r1 = r \/ r.rows k = [] /\ (Calls Tryz.prog 102 #[.pointer (some ⟨M.b,0,none⟩),.int .i64 (k:Int)] w fun e w' => e = .returned (.bool true) /\ ∃ M',RSetAt w' M' c r1 /\ RWent w w' M M' c):=by
  unfold rroomS at hr
  split at hr
  ·rename_i he
   split at hr
   ·rename_i i hlow
    injection hr with hr
    subst hr
    obtain ⟨a1,a2,a3⟩:=rlow_some hlow
    exact .inr ⟨he,rpageYes w M c r h hlen k hk hrl i a1 a2 a3⟩
   ·cases hr
  ·rename_i a t he
   injection hr with hr
   exact .inl ⟨⟨a,t,he⟩,hr.symm⟩
 have c9:=h.cRows
 have rk:=h.rw_ hk
 have own:=h.rowB hk
 have hS:=Lib.hid h
 have hnc:=h.okc.ncb
 have hncE:c.cf.nc = c.nc:=rfl
 rw [hncE] at hnc
 have hll:l.length + 1 <= 1073741824:=by
  have e:(l ++ [j]).length <= (r.rows k).length + 16384:=by
   rw [<- hj]
   unfold rroomS at hr
   split at hr
   ·split at hr
    ·injection hr with hr
     rw [<- hr]
     show (upd r.rows k _ k).length <= _
     rw [upd_at,List.length_append]
     have:=(n_pos h.okc (show k < c.cf.nc from hk)).2
     simp
     omega
    ·cases hr
   ·injection hr with hr
    rw [<- hr]; omega
  rw [List.length_append] at e
  simp only [List.length_singleton] at e
  omega
 clear hr h
 have k0:(0:Int) <= (k:Int):=by omega
 have k1:(k:Int) < (c.nc:Int):=by omega
 replace hj:=Lib.hid hj
 replace hx:=Lib.hid hx
 go_enter Tryz.func56,Tryz.ntmps56
 go_wp2_with fail
 refine IC.out.mono ?_
 rintro e w' ⟨rfl,rfl⟩
 go_upto_region 3 with fail
 go_cut [26] from 12 to 26 (fun s26 wx => s26 = .bool false /\ ∃ M1,Hid (RSetAt wx M1 c r1) /\ Hid (RWent w wx M M1 c))
 case first =>
  rcases HW with ⟨⟨a,t,he⟩,rfl⟩ | ⟨he,PC⟩
  ·rw [he] at own
   obtain ⟨A,cp,hF⟩:=own_is own
   rw [hF] at rk
   have hln:decide (((t.length + 1:Nat):Int) = 0) = false:=by simp; omega
   have hln2:(((a :: t).length:Nat)) = t.length + 1:=rfl
   rw [hln2] at rk
   clear own hF hln2 he
   go_wp2_with fail
   go_meet
   exact ⟨rfl,M,hS,Lib.hid (RWent.refl _ _ _)⟩
  ·rw [he] at own
   obtain ⟨A,cp,hF⟩:=own_is own
   rw [hF] at rk
   replace PC:=Lib.hid PC
   clear own hF he
   go_wp2_with fail
   refine PC.out.mono ?_
   rintro e w1 ⟨rfl,M1,H1,W1⟩
   replace H1:=Lib.hid H1
   replace W1:=Lib.hid W1
   go_wp2_with fail
   go_meet
   exact ⟨rfl,M1,H1,W1⟩
 case rest =>
  obtain ⟨rfl,M1,H1,W1⟩:=hcut
  have eb:=W1.out.b
  have c9:=H1.out.cRows
  have rk:=H1.out.rw_ hk
  have own1:=H1.out.rowB hk
  rw [hj.out,List.length_append,List.length_singleton] at own1
  obtain ⟨b,cap,hF,cl,hcap,hbl⟩:=own_iv (x:=j) (i:=l.length) own1 (by simp)
  rw [hF] at own1 rk
  have hcap':l.length + 1 <= cap:=by
   rcases own1.2 with ⟨h1,h2⟩ | ⟨g',cap',cur,h1, -, -,h3, -⟩
   ·omega
   ·simp only [Value.slice.injEq] at h1; omega
  have own2:=own_drop (x:=iv j) (by rw [List.map_append] at own1; exact own1)
  have q1:IntKind.i64.wrap (((l.length + 1:Nat):Int) - 1) = (l.length:Int):=by rw [IntWalk.i64_in _ (by omega)]; omega
  have l0:(0:Int) <= (l.length:Int):=by omega
  have l1:(l.length:Int) < ((l.length + 1:Nat):Int):=by omega
  have l2:(l.length:Int) <= (cap:Int):=by omega
  have l3:l.length <= cap:=by omega
  have zf:wc.frozen? ⟨M1.gr,k,none⟩ = false:=by obtain ⟨cur,h1⟩:=H1.out.rowsB.blk; exact h1.frozen k
  rw [eb] at c9
  replace eb:=Lib.hid eb
  replace own2:=Lib.hid own2
  replace hF:=Lib.hid hF
  clear own1 own hcap
  go_wp2_with fail
  have oW:Only (fun _ => False) wc wc:=Only.refl _ _
  have hb4:∀ d,(Value.slice (some ⟨b,0,none⟩) l.length cap).ownBlock = some d -> (M1.F k).ownBlock = some d \/ wc.heap.size <= d:=fun d e => .inl (by rw [hF.out]; exact e)
  have G3:=H1.out.newRow k hk (.slice (some ⟨b,0,none⟩) l.length cap) l oW (fun b e _ => e.elim) own2.out hb4
  have W3:=W1.out.trans (H1.out.wentRow k hk (.slice (some ⟨b,0,none⟩) l.length cap) oW (fun b e _ => e.elim) hb4)
  obtain ⟨w3,hw3⟩:∃ w3,w3 = (wc.setCell ⟨M1.gr,k,none⟩ (.slice (some ⟨b,0,none⟩) l.length cap)).drew:=⟨_,rfl⟩
  replace G3:=G3.drew
  replace W3:=W3.drewN 1
  have G4:RSetAt w3 { M1 with F:=upd M1.F k (.slice (some ⟨b,0,none⟩) l.length cap) } c { r1 with rows:=upd r1.rows k l }:=by rw [hw3]; exact G3
  have W4:RWent w w3 M { M1 with F:=upd M1.F k (.slice (some ⟨b,0,none⟩) l.length cap) } c:=by rw [hw3]; exact W3
  clear G3 W3
  replace hw3:=Lib.hid hw3
  obtain ⟨g,cp,hv,y0, -,y2,y3, -,fzc,hjl⟩:=G4.chAt (x:=x) hx.out
  have c8:=G4.cCh
  dsimp only at hv c8 hjl
  rw [hv,eb.out] at c8
  have j0:(0:Int) <= (j:Int):=by omega
  have j1:(j:Int) < (r1.ch.length:Int):=by omega
  have fz3:=fzc (j * 5 + 3)
  have G5:=G4.setCh (x:=x) hx.out RC.taken 3 (by omega) (.bool true) rfl hv
  have W5:=W4.trans (RWent.same (M:={ M1 with F:=upd M1.F k (.slice (some ⟨b,0,none⟩) l.length cap) }) (c:=c) (only_at (S:=RFoot _ c) w3 g (j * 5 + 3) (.bool true) ⟨.ch,by show M1.vC.ownBlock = _; rw [hv]; rfl⟩))
  obtain ⟨w5,hw5⟩:∃ w5,w5 = w3.setCell ⟨g,j * 5 + 3,none⟩ (.bool true):=⟨_,rfl⟩
  rw [<- hw5] at G5 W5
  have hx5:(r1.ch.modify j RC.taken)[j]? = some x.taken:=by rw [get_modify,if_pos rfl,hx.out]; rfl
  have HC:=rhandleC G5 (x:=x.taken) hx5 hp hg
  have hnm:x.taken.name = x.name:=rfl
  rw [hnm] at HC
  dsimp only at HC
  rw [eb.out] at HC
  have GF:RSetAt w5 { M1 with F:=upd M1.F k (.slice (some ⟨b,0,none⟩) l.length cap) } c (rtake r1 k j):=by
   have e:rtake r1 k j = { r1 with rows:=upd r1.rows k l,ch:=r1.ch.modify j RC.taken }:=by unfold rtake; rw [hj.out,List.dropLast_concat]
   rw [e]; exact G5
  replace GF:=Lib.hid GF
  replace W5:=Lib.hid W5
  replace HC:=Lib.hid HC
  replace hw5:=Lib.hid hw5
  replace hv:=Lib.hid hv
  clear fzc G5 hx5 hnm G4 W4 own2 oW hb4
  go_still_tail 15,(by kernel_rfl)
  change wpList _ _ _ _ _ wc.drew
  go_upto_region 8 with fail
  rw [<- hw3.out]
  clear hw3 c9 rk cl zf
  go_upto_region 9 with fail
  rw [<- hw5.out]
  clear hw5 c8 y0 y2 y3 fz3
  go_wp2_with fail
  refine HC.out.mono ?_
  rintro e w6 ⟨rfl,m,hm⟩
  have GE:RSetAt w6 { M1 with F:=upd M1.F k (.slice (some ⟨b,0,none⟩) l.length cap) } c (rtake r1 k j):=by rw [<- hm]; exact GF.out.drewN m
  have WE:RWent w w6 M { M1 with F:=upd M1.F k (.slice (some ⟨b,0,none⟩) l.length cap) } c:=by rw [<- hm]; exact W5.out.drewN m
  replace GE:=Lib.hid GE
  replace WE:=Lib.hid WE
  clear hm GF W5 HC
  go_wp2
  go_ret2
  exact ⟨rfl,_,GE.out,WE.out⟩
theorem rgiveNo (w:World) (M:RL) (c:Conf) (r:RS) (h:RSetAt w M c r) (fi:RFine r) (hlen:r.ch.length <= 1073741824) (H:Nat) (hf:rfind r.ch H = none) :
  Calls Tryz.prog 126 #[.pointer (some ⟨M.b,0,none⟩),.int .u64 (H:Int)] w fun e w' => e = .returned (.int .i64 20) /\ ∃ m,w.drewN m = w':=by
 have FC:=rfindC w M c r h fi hlen H
 rw [hf] at FC
 unfold findIV at FC
 simp only at FC
 replace FC:=Lib.hid FC
 clear h hf
 go_enter Tryz.func126,Tryz.ntmps126
 go_wp2_with fail
 refine FC.out.mono ?_
 rintro e w2 ⟨rfl,m,hm⟩
 replace hm:=Lib.hid hm
 clear FC
 go_wp2
 go_ret
 exact ⟨rfl,m,hm.out⟩
def RC.idle (x:RC):RC:={ x with tk:=false }
def RC.aged (x:RC):RC:={ x with gen:=(x.gen + 1) % 4294967296 }
theorem given_two (l:List RC) (j:Nat):(l.modify j RC.idle).modify j RC.aged = l.modify j RC.given:=by
 apply List.ext_getElem?
 intro n
 rw [get_modify,get_modify,get_modify]
 split
 ·cases l[n]? <;> rfl
 ·rfl
set_option maxHeartbeats 6400000 in
theorem rgiveYes (w:World) (M:RL) (c:Conf) (r:RS) (h:RSetAt w M c r) (fi:RFine r) (hlen:r.ch.length <= 1073741824) (H j:Nat) (hf:rfind r.ch H = some j) (x:RC) (hx:r.ch[j]? = some x) (hk:x.cls < c.nc) (hpl:x.place < c.cf.np * c.cf.ps) (hg:x.gen < 4294967296)
  (hrl:(r.rows x.cls).length + 1 <= 1073741824) :
  Calls Tryz.prog 126 #[.pointer (some ⟨M.b,0,none⟩),.int .u64 (H:Int)] w fun e w' => e = .returned (.int .i64 0) /\ ∃ M',RSetAt w' M' c (rgive c.cf r j x.cls x.place) /\ RWent w w' M M' c:=by
 have FC:=rfindC w M c r h fi hlen H
 rw [hf] at FC
 unfold findIV at FC
 simp only at FC
 have ok:=h.okc
 have hnc:=ok.ncb
 have hncE:c.cf.nc = c.nc:=rfl
 rw [hncE] at hnc
 have hnp:=ok.npb
 have hps:=ok.ps
 have hpn:x.place / c.cf.ps < c.cf.np:=Nat.div_lt_of_lt_mul (by rw [Nat.mul_comm]; exact hpl)
 have hjl:=(List.getElem?_eq_some_iff.1 hx).1
 replace FC:=Lib.hid FC
 replace h:=Lib.hid h
 replace hx:=Lib.hid hx
 clear hf
 go_enter Tryz.func126,Tryz.ntmps126
 go_wp2_with fail
 refine FC.out.mono ?_
 rintro e w2 ⟨rfl,m,hm⟩
 have H2:RSetAt w2 M c r:=by rw [<- hm]; exact h.out.drewN m
 have W2:RWent w w2 M M c:=by rw [<- hm]; exact (RWent.refl w M c).drewN m
 obtain ⟨g,cp,hv,y0,y1,y2,y3, -,fzc, -⟩:=H2.chAt hx.out
 have c8:=H2.cCh
 rw [hv] at c8
 have j0:(0:Int) <= (j:Int):=by omega
 have j1:(j:Int) < (r.ch.length:Int):=by omega
 have d1:decide ((j:Int) < 0) = false:=decide_eq_false (by omega)
 have fz3:=fzc (j * 5 + 3)
 have G3:=H2.setCh hx.out RC.idle 3 (by omega) (.bool false) rfl hv
 have W3:=W2.trans (RWent.same (M:=M) (c:=c) (only_at (S:=RFoot M c) w2 g (j * 5 + 3) (.bool false) ⟨.ch,by show M.vC.ownBlock = _; rw [hv]; rfl⟩))
 obtain ⟨w3,hw3⟩:∃ w3,w3 = w2.setCell ⟨g,j * 5 + 3,none⟩ (.bool false):=⟨_,rfl⟩
 rw [<- hw3] at G3 W3
 have hx3:(r.ch.modify j RC.idle)[j]? = some x.idle:=by rw [get_modify,if_pos rfl,hx.out]; rfl
 have hl3:(r.ch.modify j RC.idle).length = r.ch.length:=List.length_modify ..
 obtain ⟨g',cp',hv',v0,v1,v2,v3, -,fzc', -⟩:=G3.chAt (x:=x.idle) hx3
 have c8':=G3.cCh
 dsimp only at hv' c8'
 rw [hl3] at hv'
 have e2:g' = g /\ cp' = cp:=by
  rw [hv] at hv'
  simp only [Value.slice.injEq,Option.some.injEq,Addr.mk.injEq,and_true,true_and] at hv'
  exact ⟨hv'.1.symm,hv'.2.symm⟩
 obtain ⟨rfl,rfl⟩:=e2
 rw [hv] at c8'
 have v0':w3.cell? ⟨g',j * 5,none⟩ = some (.int .i64 (x.place:Int)):=v0
 have v2':w3.cell? ⟨g',j * 5 + 2,none⟩ = some (.int .u64 (x.gen:Int)):=v2
 have fz2:=fzc' (j * 5 + 2)
 obtain ⟨gn,hgn⟩:∃ gn,gn = (x.gen + 1) % 4294967296:=⟨_,rfl⟩
 have q1:IntKind.u64.wrap ((x.gen:Int) + 1) = ((x.gen + 1:Nat):Int):=by rw [IntWalk.u64_in _ (by omega)]; rfl
 have q2:((x.gen + 1:Nat):Int).tmod 4294967296 = (gn:Int):=by rw [hgn]; exact tmodN (x.gen + 1) 4294967296
 have q3:IntKind.u64.wrap (gn:Int) = (gn:Int):=IntWalk.u64_in _ (by rw [hgn]; omega)
 have G4:=G3.setCh (x:=x.idle) hx3 RC.aged 2 (by omega) (.int .u64 (gn:Int)) (by rw [hgn]; rfl) (by rw [hl3]; exact hv)
 have W4:=W3.trans (RWent.same (M:=M) (c:=c) (only_at (S:=RFoot M c) w3 g' (j * 5 + 2) (.int .u64 (gn:Int)) ⟨.ch,by show M.vC.ownBlock = _; rw [hv]; rfl⟩))
 dsimp only at G4
 rw [given_two] at G4
 have hgi:=Lib.hid (show ((x.gen:Int) + 1) % 4294967296 = (gn:Int) by rw [hgn]; omega)
 obtain ⟨w4,hw4⟩:∃ w4,w4 = (w3.setCell ⟨g',j * 5 + 2,none⟩ (.int .u64 (gn:Int))).drew:=⟨_,rfl⟩
 have G5:RSetAt w4 M c { r with ch:=r.ch.modify j RC.given }:=by rw [hw4]; exact G4.drew
 have W5:RWent w w4 M M c:=by rw [hw4]; exact W4.drewN 1
 have hx5:(r.ch.modify j RC.given)[j]? = some x.given:=by rw [get_modify,if_pos rfl,hx.out]; rfl
 have hl5:(r.ch.modify j RC.given).length = r.ch.length:=List.length_modify ..
 replace G5:=Lib.hid G5
 replace W5:=Lib.hid W5
 replace hw3:=Lib.hid hw3
 replace hw4:=Lib.hid hw4
 replace hv:=Lib.hid hv
 replace hgn:=Lib.hid hgn
 replace hx5:=Lib.hid hx5
 replace hl5:=Lib.hid hl5
 clear FC hm H2 W2 G3 W3 G4 W4 v0 v2 hv' hx3 hl3 fzc fzc'
 go_upto_region 6 with fail
 rw [<- hw3.out]
 clear hw3 y0 y1 y2 y3 c8 fz3
 go_still_tail 17,(by kernel_rfl)
 change wpList _ _ _ _ _ w3.drew
 go_upto_region 7 with fail
 rw [hgi.out, <- hw4.out]
 clear hw4 v0' v1 v2' v3 c8' fz2 q1 q2 q3
 obtain ⟨g5,cp5,hv5,u0, -, -, -, -, -, -⟩:=G5.out.chAt (x:=x.given) hx5.out
 have c8:=G5.out.cCh
 have c7:=G5.out.cLvs
 have cps:=G5.out.cPs
 have u0':w4.cell? ⟨g5,j * 5,none⟩ = some (.int .i64 (x.place:Int)):=u0
 dsimp only at hv5 c8
 rw [hl5.out] at hv5
 rw [hv5] at c8
 obtain ⟨pg,hpg⟩:∃ pg,pg = x.place / c.cf.ps:=⟨_,rfl⟩
 have lvc:=G5.out.lv (i:=pg) (by rw [hpg]; exact hpn)
 dsimp only at lvc
 have hpn2:pg < c.cf.np:=by rw [hpg]; exact hpn
 have z0:¬ ((c.cf.ps:Nat):Int) = 0:=by omega
 have qa:((x.place:Nat):Int).tdiv ((c.cf.ps:Nat):Int) = (pg:Int):=by rw [hpg]; exact tdivN _ _
 have qb:IntKind.i64.wrap (pg:Int) = (pg:Int):=IntWalk.i64_in _ (by omega)
 have p0:(0:Int) <= (pg:Int):=by omega
 have p1:(pg:Int) < ((c.cf.np:Nat):Int):=by omega
 replace hv5:=Lib.hid hv5
 replace hpg:=Lib.hid hpg
 clear u0
 generalize hB:r.lvs pg = B at *
 replace hB:=Lib.hid hB
 go_quiet (fail)
 rename Nat => nq
 have G6:=G5.out.drewN nq
 have W6:=W5.out.drewN nq
 obtain ⟨w6,hw6⟩:∃ w6,w4.drewN nq = w6:=⟨_,rfl⟩
 rw [hw6] at G6 W6
 rw [hw6]
 clear hw6 G5 W5 c8 c7 cps u0' lvc z0 qa qb p0 p1
 cases B with
 | true =>
  have GF:Hid (RSetAt w6 M c (rgive c.cf r j x.cls x.place)):=by
   unfold rgive
   rw [<- hpg.out,hB.out,if_pos rfl]
   exact Lib.hid G6
  replace W6:=Lib.hid W6
  clear G6
  go_wp2
  go_ret
  exact ⟨rfl,M,GF.out,W6.out⟩
 | false =>
  have c9:=G6.cRows
  have rk:=G6.rw_ hk
  have own:=G6.rowB hk
  dsimp only at own
  obtain ⟨A2,cp2,hF2⟩:=own_is own
  rw [hF2] at rk own
  have k0:(0:Int) <= (x.cls:Int):=by omega
  have k1:(x.cls:Int) < (c.nc:Int):=by omega
  have hglt:M.gr < w6.heap.size:=G6.rowsB.lt
  have hblt:M.b < w6.heap.size:=G6.headB.lt
  have zf:w6.frozen? ⟨M.gr,x.cls,none⟩ = false:=by obtain ⟨cur,h1⟩:=G6.rowsB.blk; exact h1.frozen x.cls
  have hownG:some M.gr ≠ (Value.slice A2 (r.rows x.cls).length cp2).ownBlock:=by
   rw [<- hF2]
   intro e
   have:=G6.inj .rows (.row x.cls) M.gr rfl ((if_pos hk).trans e.symm)
   cases this
  have hownB:some M.b ≠ (Value.slice A2 (r.rows x.cls).length cp2).ownBlock:=by
   rw [<- hF2]
   intro e
   have:=G6.inj .head (.row x.cls) M.b rfl ((if_pos hk).trans e.symm)
   cases this
  obtain ⟨ie,hie,hz0,hz1,hz2⟩:=eiI.info
  have one:=iv_one [j]
  have bx0:∀ W:World,W.heap.size = w6.heap.size -> Reads (W.alloc (.cells #[.int .i64 (j:Int)] 3)) (w6.heap.size + 1) 1 (some ⟨w6.heap.size,0,none⟩) 1 ([j].map iv):=by
   intro W hW
   have:=reads_one W j
   rwa [hW] at this
  obtain ⟨Z,hZ⟩:∃ Z,Z = r.rows x.cls:=⟨_,rfl⟩
  rw [<- hZ] at own rk hownG hownB hF2 hrl
  replace one:=Lib.hid one
  replace bx0:=Lib.hid bx0
  replace hF2:=Lib.hid hF2
  replace hZ:=Lib.hid hZ
  replace G6:=Lib.hid G6
  replace W6:=Lib.hid W6
  have rk':=(cel_alloc w6 (.cells #[.int .i64 (j:Int)] 3) M.gr x.cls hglt).trans rk
  have c9':=(cel_alloc w6 (.cells #[.int .i64 (j:Int)] 3) M.b 9 hblt).trans c9
  go_upto_region 8 with fail
  go_region_law ((refine step_append_new _ (by rfl) _ _ _ (by rfl) 0 3 ie _ 1 8 Tryz.underlying55 hie hz0 hz1 hz2 rfl (by decide) (.slice A2 Z.length cp2) Z.length _ (by rfl) (own.alloc _) (w6.heap.size + 1) (some ⟨w6.heap.size,0,none⟩) 1 1 ([j].map iv) (by rfl) (bx0.out _ (by simp)) one.out (by unfold maxLen; omega) (by omega) (Nat.zero_le _) (by omega) ?_; intro b3 c3 w7 own7 hgrow hat3 hlt3; have r1:w7.frozen? ⟨M.gr,x.cls,none⟩ = false:=(hgrow.frozen_far _ (by simp; omega) hownG).trans ((frz_alloc w6 _ M.gr x.cls hglt).trans zf); have r2:w7.cell? ⟨M.gr,x.cls,none⟩ = some (.slice A2 Z.length cp2):=(hgrow.cell_far _ (by simp; omega) hownG).trans ((cel_alloc w6 _ M.gr x.cls hglt).trans rk); have d9:w7.cell? ⟨M.b,9,none⟩ = some (.slice (some ⟨M.gr,0,none⟩) c.nc M.cR):=(hgrow.cell_far _ (by simp; omega) hownB).trans ((cel_alloc w6 _ M.b 9 hblt).trans c9)))
  all_goals
   have oW:Only (fun b => (M.F x.cls).ownBlock = some b) w6 w7:=((Only.refl _ w6).alloc _).drew.grown hgrow (fun j e _ => by rw [hF2.out]; exact e)
   have own4:w7.ownsRow 0 3 1 (.slice (some ⟨b3,0,none⟩) (Z.length + 1) c3) (Z ++ [j]).length ((Z ++ [j]).map iv):=by
    rw [List.length_append,List.map_append]
    exact own7
   have hb4:∀ b,(Value.slice (some ⟨b3,0,none⟩) (Z.length + 1) c3).ownBlock = some b -> (M.F x.cls).ownBlock = some b \/ w6.heap.size <= b:=fun b e => by
    have e2:b3 = b:=by simpa [Value.ownBlock] using e
    subst e2
    rcases hat3 with h3 | h3
    ·rw [hF2.out]; exact .inl h3
    ·exact .inr (by rw [h3]; simp)
   have G4:=G6.out.newRow x.cls hk (.slice (some ⟨b3,0,none⟩) (Z.length + 1) c3) _ oW (fun b e _ => e) own4 hb4
   have W4:=W6.out.trans (G6.out.wentRow x.cls hk (.slice (some ⟨b3,0,none⟩) (Z.length + 1) c3) oW (fun b e _ => e) hb4)
   obtain ⟨w8,hw8⟩:∃ w8,w8 = w7.setCell ⟨M.gr,x.cls,none⟩ (.slice (some ⟨b3,0,none⟩) (Z.length + 1) c3):=⟨_,rfl⟩
   rw [<- hw8] at G4 W4 ⊢
   have GF:Hid (RSetAt w8 { M with F:=upd M.F x.cls (.slice (some ⟨b3,0,none⟩) (Z.length + 1) c3) } c (rgive c.cf r j x.cls x.place)):=by
    unfold rgive
    rw [<- hpg.out,hB.out,if_neg (by simp), <- hZ.out]
    exact Lib.hid G4
   replace W4:=Lib.hid W4
   clear hw8 r1 r2 d9 own7 hgrow hat3 hlt3 oW own4 hb4 c9 c9' rk rk' zf own G6 W6 bx0 one G4
   go_wp2
   go_ret
   exact ⟨rfl,_,GF.out,W4.out⟩
end Go.Proofs.YtfjiphibalhcgaaGreat.Cls
/-
  The statements' world: the program's chunks and lists, the document's, the handles that were told.
-/
namespace Go.Proofs.YtfjiphibalhcgaaGreat.Que
open Go.RowKit Base Arena Cls Itm
structure W6 where
 b:Nat
 L:Lay
 M:RL
 gq:Nat
 gl:Nat
 R:R6
 vT:Value
inductive C6 where
 | set
 | ref
 | queue
 | doc
 | own
 deriving DecidableEq
def W6.foot (W:W6) (c:Conf) (s:St):C6 -> Nat -> Prop
 | .set => Foot W.L c s
 | .ref => RFoot W.M c
 | .queue => fun b => b = W.gq \/ b = W.gl
 | .doc => F6 W.R (3 * c.nc)
 | .own => fun b => b = W.b \/ W.vT.ownBlock = some b
def W6.cells (W:W6):Array Value:=#[.pointer (some ⟨W.L.g,0,none⟩),.pointer (some ⟨W.gq,0,none⟩),.pointer (some ⟨W.M.b,0,none⟩),.pointer (some ⟨W.R.b,0,none⟩),W.vT]
structure WAt (N:Nat) (w:World) (W:W6) (c:Conf) (s:St) (bs:List UInt8) (Z:Nat -> Option Zd) (Ls Ld:Nat -> Nat -> List Nat) (r:RS) (laid told:List Nat):Prop where
 q:QW w W.L c s bs Z W.gq W.gl Ls
 ref:RSetAt w W.M c r
 doc:R6At w W.R W.M.b (3 * c.nc) laid (fun i => Ld (i / 3) (i % 3))
 own:Blk w W.b 47 W.cells
 told:w.ownsRow 0 26 1 W.vT told.length (told.map uv)
 sep:∀ i j b,W.foot c s i b -> W.foot c s j b -> i = j
 tb:W.vT.ownBlock ≠ some W.b
 base:∀ i b,W.foot c s i b -> N <= b
set_option maxHeartbeats 1600000 in
theorem begunC6 (w:World):Calls Tryz.prog 10 #[] w fun e w' => Below w.heap.size w w' /\ ∃ W:W6,e = .returned (.pointer (some ⟨W.b,0,none⟩)) /\ WAt w.heap.size w' W qc (new0 qc.cf) (List.replicate (qc.cf.ps * qc.cf.np) 0) (fun _ => none) (fun _ _ => []) (fun _ _ => []) rnew0 [] []:=by
 have CC:=setupC w
 have hr:refN qc = 0:=qc_ref
 have hnc:qc.nc = 3:=qc_nc
 have hnp:qc.cf.np = 4:=qc_np
 generalize qc = c at *
 have RC:=Lib.hid (fun w => refNewC w c)
 have NC:=Lib.hid (fun w => Cls.newC w c)
 have n1:=fun w => numC6 w 0
 unfold Conf.cells at CC NC
 unfold Conf.rcells at RC CC
 replace CC:=Lib.hid CC
 go_enter Tryz.func10,Tryz.ntmps10
 go_wp2_with fail
 refine CC.out.mono ?_
 rintro e w1 ⟨rfl,b1⟩
 obtain ⟨w2,hw2⟩:∃ w2,w2 = (w1.alloc (.cells #[.int .i64 c.ps,.int .i64 c.np,.int .i64 c.fa,.int .i64 c.mc,.int .i64 c.il,.int .i64 c.hot,.int .i64 c.warm] 79)).alloc (.cells #[.int .i64 c.ps,.int .i64 c.np,.int .i64 c.fa,.int .i64 c.mc,.int .i64 c.il] 81):=⟨_,rfl⟩
 have b2:Below w.heap.size w w2:=by rw [hw2]; exact (b1.alloc b1.size _).alloc (by rw [World.size_alloc]; have:=b1.size; omega) _
 have B2:Blk w2 w1.heap.size 79 c.cells:=by rw [hw2]; exact (Blk.new w1 _ _).alloc _
 have C2:Blk w2 (w1.heap.size + 1) 81 c.rcells:=by rw [hw2]; exact blk_new' (World.size_alloc _ _)
 have s2:w.heap.size <= w1.heap.size:=b1.size
 obtain ⟨x0,x1,x2,x3,x4,x5,x6⟩:=conf_cells B2
 obtain ⟨y0,y1,y2,y3,y4⟩:=rconf_cells C2
 have NC2:=Lib.hid (NC.out w2)
 replace hw2:=Lib.hid hw2
 replace b2:=Lib.hid b2
 clear CC b1 NC
 generalize hN:w1.heap.size = N at *
 replace hN:=Lib.hid hN
 go_upto_region 2 with fail
 rw [hN.out, <- hw2.out]
 clear hw2 hN
 go_wp2_with fail
 refine NC2.out.mono ?_
 rintro e w3 ⟨b3,⟨h0, -⟩ | ⟨-,L,rfl,M,F⟩⟩
 ·exact absurd hr h0
 have C3:=C2.below b3 C2.lt
 have l2:w.heap.size <= w2.heap.size:=b2.out.size
 have l23:=b3.size
 have b13:=b2.out.trans (b3.mono (B':=w.heap.size) l2)
 obtain ⟨y0,y1,y2,y3,y4⟩:=rconf_cells C3
 have RC3:=Lib.hid (RC.out w3)
 replace b13:=Lib.hid b13
 replace M:=Lib.hid M
 replace F:=Lib.hid F
 replace C3:=Lib.hid C3
 clear NC2 RC b3 b2 B2 C2 x0 x1 x2 x3 x4 x5 x6
 go_wp2_with fail
 refine RC3.out.mono ?_
 rintro e w4 ⟨b4,⟨h0, -⟩ | ⟨-,r2,rfl,R⟩⟩
 ·exact absurd hr h0
 have M4:=M.out.kept fun d hd => b4.block d (M.out.lt hd)
 have l34:=b4.size
 have b14:=b13.out.trans (b4.mono (B':=w.heap.size) (by omega))
 obtain ⟨M2,eb,RS4,F2⟩:=RSetAt.new hr (by omega) (by omega) R
 have FM:∀ d,Foot L c (new0 c.cf) d -> w2.heap.size <= d /\ d < w3.heap.size:=fun d hd => ⟨F.out d hd,M.out.lt hd⟩
 have QC:=Lib.hid (newC w4 L c _ _ M4)
 subst eb
 replace b14:=Lib.hid b14
 replace M4:=Lib.hid M4
 replace RS4:=Lib.hid RS4
 replace F2:=Lib.hid F2
 replace FM:=Lib.hid FM
 clear RC3 b4 b13 M C3 y0 y1 y2 y3 y4 F R
 go_wp2_with (first | (go_at_call 14; refine (n1 _).mono ?_; rintro e w' ⟨rfl,rfl⟩) | (go_at_call 12; refine QC.out.mono ?_; rintro e w5 ⟨gq,gl,rfl,b5,g1,g2,Q5⟩) | fail)
 have RS5:=RS4.out.kept fun d hd => b5.block d (RS4.out.lt hd)
 have M5:=M4.out.kept fun d hd => b5.block d (M4.out.lt hd)
 have l45:=b5.size
 have b15:=b14.out.trans (b5.mono (B':=w.heap.size) (by omega))
 have NC6:=Lib.hid (new6C w5 M2 c _ RS5 (by omega))
 have FR:∀ d,RFoot M2 c d -> w3.heap.size <= d /\ d < w4.heap.size:=fun d hd => ⟨F2.out d hd,RS4.out.lt hd⟩
 have lq:=Q5.ltq
 have ll:=Q5.ltl
 replace b15:=Lib.hid b15
 replace RS5:=Lib.hid RS5
 replace M5:=Lib.hid M5
 replace FR:=Lib.hid FR
 replace Q5:=Lib.hid Q5
 clear QC b14 b5 M4 RS4 F2
 go_wp2_with fail
 refine NC6.out.mono ?_
 rintro e w6 ⟨R,rfl,b6,F6',D6⟩
 have l56:=b6.size
 have RS6:=RS5.out.kept fun d hd => b6.block d (RS5.out.lt hd)
 have M6:=M5.out.kept fun d hd => b6.block d (M5.out.lt hd)
 have Q6:=Q5.out.below b6
 have b16:=b15.out.trans (b6.mono (B':=w.heap.size) (by omega))
 have FD:∀ d,F6 R (3 * c.nc) d -> w5.heap.size <= d /\ d < w6.heap.size:=fun d hd => ⟨F6' d hd,D6.lt hd⟩
 replace b16:=Lib.hid b16
 replace RS6:=Lib.hid RS6
 replace M6:=Lib.hid M6
 replace Q6:=Lib.hid Q6
 replace D6:=Lib.hid D6
 replace FD:=Lib.hid FD
 clear NC6 b15 b6 RS5 M5 Q5 F6'
 go_wp2_with fail
 go_ret
 have a6:∀ o,Below w6.heap.size w6 (w6.alloc o):=fun o => (Below.refl _ _).alloc (Nat.le_refl _) o
 refine ⟨b16.out.alloc (by omega) _,⟨w6.heap.size,L,M2,gq,gl,R,.slice none 0 0⟩,rfl,?_⟩
 refine ⟨QW.new (M6.out.alloc _) (Q6.out.below (a6 _)) (fun h => by have:=FM.out gq h; omega) (fun h => by have:=FM.out gl h; omega),RS6.out.alloc _,D6.out.below (a6 _),Blk.new w6 _ _,⟨rfl,.inl ⟨rfl,rfl⟩⟩,?_,?_,?_⟩
 ·have key:∀ i b,W6.foot ⟨w6.heap.size,L,M2,gq,gl,R,.slice none 0 0⟩ c (new0 c.cf) i b -> (i = .set /\ w2.heap.size <= b /\ b < w3.heap.size) \/ (i = .ref /\ w3.heap.size <= b /\ b < w4.heap.size) \/ (i = .queue /\ w4.heap.size <= b /\ b < w5.heap.size) \/ (i = .doc /\ w5.heap.size <= b /\ b < w6.heap.size) \/ (i = .own /\ b = w6.heap.size):=by
   intro i b hb
   cases i with
   | set => exact .inl ⟨rfl,FM.out b hb⟩
   | ref => exact .inr (.inl ⟨rfl,FR.out b hb⟩)
   | queue => exact .inr (.inr (.inl ⟨rfl,by have hb:b = gq \/ b = gl:=hb; omega⟩))
   | doc => exact .inr (.inr (.inr (.inl ⟨rfl,FD.out b hb⟩)))
   | own => exact .inr (.inr (.inr (.inr ⟨rfl,by
     rcases hb with hb | hb
     ·exact hb
     ·cases hb⟩)))
  intro i j b hi hj
  rcases key i b hi with ⟨rfl,h1⟩ | ⟨rfl,h1⟩ | ⟨rfl,h1⟩ | ⟨rfl,h1⟩ | ⟨rfl,h1⟩ <;> rcases key j b hj with ⟨rfl,h2⟩ | ⟨rfl,h2⟩ | ⟨rfl,h2⟩ | ⟨rfl,h2⟩ | ⟨rfl,h2⟩ <;> first | rfl | (exfalso; omega)
 ·intro h; cases h
 ·intro i b hb
  cases i with
  | set => have:=FM.out b hb; omega
  | ref => have:=FR.out b hb; omega
  | queue =>
   have hb:b = gq \/ b = gl:=hb
   omega
  | doc => have:=FD.out b hb; omega
  | own =>
   rcases hb with rfl | hb
   ·show w.heap.size <= w6.heap.size
    omega
   ·cases hb
section
variable {N:Nat} {w:World} {W:W6} {c:Conf} {s:St} {bs:List UInt8} {Z:Nat -> Option Zd} {Ls Ld:Nat -> Nat -> List Nat} {r:RS} {laid told:List Nat} (h:WAt N w W c s bs Z Ls Ld r laid told)
include h
theorem WAt.lt (i:C6) (b:Nat) (hb:W.foot c s i b):b < w.heap.size:=by
  cases i with
  | set => obtain ⟨F,S,q⟩:=h.q; exact S.zs.set.lt hb
  | ref => exact h.ref.lt hb
  | queue =>
    obtain ⟨F,S,q⟩:=h.q
    rcases hb with rfl | rfl
    · exact S.q.ltq
    · exact S.q.ltl
  | doc => exact h.doc.lt hb
  | own =>
    rcases hb with rfl | hb
    · exact h.own.lt
    · exact own_blockN h.told hb
theorem WAt.set:SetAt w W.L c s bs:=by obtain ⟨F,S,q⟩:=h.q; exact S.zs.set
theorem WAt.good:Cls.Good c.cf s:=by obtain ⟨F,S,q⟩:=h.q; exact S.zs.good
theorem WAt.okc:c.cf.Ok:=h.set.okc
theorem WAt.sepOf {W':W6} {s':St} (i0:C6) (hk:∀ i b,W'.foot c s' i b -> i = i0 /\ (W.foot c s i0 b \/ w.heap.size <= b) \/ i ≠ i0 /\ W.foot c s i b) (hN:N <= w.heap.size) :
    (∀ i j b,W'.foot c s' i b -> W'.foot c s' j b -> i = j) /\ ∀ i b,W'.foot c s' i b -> N <= b:=by
  refine ⟨fun i j b hi hj => ?_,fun i b hb => ?_⟩
  · rcases hk i b hi with ⟨e1,h1⟩ | ⟨n1,h1⟩ <;> rcases hk j b hj with ⟨e2,h2⟩ | ⟨n2,h2⟩
    · rw [e1,e2]
    · rcases h1 with h1 | h1
      · rw [e1]; exact h.sep _ _ b h1 h2
      · have:=h.lt _ _ h2; omega
    · rcases h2 with h2 | h2
      · rw [e2]; exact h.sep _ _ b h1 h2
      · have:=h.lt _ _ h1; omega
    · exact h.sep _ _ b h1 h2
  · rcases hk i b hb with ⟨-,h1 | h1⟩ | ⟨-,h1⟩
    · exact h.base _ _ h1
    · omega
    · exact h.base _ _ h1
theorem WAt.hN (w':World) (hw:w.heap.size <= w'.heap.size):N <= w'.heap.size:=by
  have:=h.base .own W.b (.inl rfl)
  have:=h.own.lt
  omega
theorem WAt.hN0:N <= w.heap.size:=h.hN w (Nat.le_refl _)
theorem WAt.below {w':World} (b:Below w.heap.size w w'):WAt N w' W c s bs Z Ls Ld r laid told:=by
  obtain ⟨F,S,q⟩:=h.q
  exact ⟨⟨F,S.below b,q⟩,h.ref.kept fun d hd => b.block d (h.ref.lt hd),h.doc.below b,h.own.below b h.own.lt,own_keptN h.told fun d e => b.block d (own_blockN h.told e),h.sep,h.tb,h.base⟩
theorem WAt.take {w':World} {L':Lay} {s1:St} {k:Nat} (hk:k < c.cf.nc) (hr:roomS c.cf s k = some s1) {l:List Nat} {p:Nat} (hp:s1.free k = l ++ [p]) {H0:Nat} (h0:H0 = hnd p (s1.gens (p / c.cf.ps) (p % c.cf.ps / c.cf.sz k))) (G:Nat) (eg:L'.g = W.L.g)
    (hb:bs.length = c.cf.ps * c.cf.np) (M:SetAt w' L' c (takeS c.cf s1 k p) (takeB bs p G)) (We:Went w w' W.L L' c s (takeS c.cf s1 k p)) :
    WAt N w' { W with L:=L' } c (takeS c.cf s1 k p) (takeB bs p G) (upd Z H0 none) Ls Ld r laid told:=by
  have ns:∀ i b,i ≠ .set -> W.foot c s i b -> ¬ Foot W.L c s b:=fun i b hi hb hf => hi (h.sep i .set b hb hf)
  have sp:=h.sepOf (W':={ W with L:=L' }) (s':=takeS c.cf s1 k p) .set (fun i b hb => by
    cases i with
    | set => exact .inl ⟨rfl,We.foot b hb⟩
    | _ => exact .inr ⟨by simp,hb⟩) h.hN0
  have O:Blk w' W.b 47 W.cells:=(We.only.block _ h.own.lt (ns .own _ (by simp) (.inl rfl))).trans h.own
  refine ⟨h.q.take h.okc h.good hk hr hp h0 hb G eg M We,h.ref.only We.only fun b hb => ns .ref b (by simp) hb,h.doc.only We.only fun b hb => ns .doc b (by simp) hb,?_,own_keptN h.told fun b e => We.only.block b (own_blockN h.told e) (ns .own b (by simp) (.inr e)),sp.1,h.tb,sp.2⟩
  have e:W6.cells { W with L:=L' } = W.cells:=by unfold W6.cells; rw [eg]
  rw [e]
  exact O
theorem WAt.rtake {w':World} {M':RL} {r':RS} (R:RSetAt w' M' c r') (We:RWent w w' W.M M' c):WAt N w' { W with M:=M' } c s bs Z Ls Ld r' laid told:=by
  have ns:∀ i b,i ≠ .ref -> W.foot c s i b -> ¬ RFoot W.M c b:=fun i b hi hb hf => hi (h.sep i .ref b hb hf)
  have sp:=h.sepOf (W':={ W with M:=M' }) (s':=s) .ref (fun i b hb => by
    cases i with
    | ref => exact .inl ⟨rfl,We.foot b hb⟩
    | _ => exact .inr ⟨by simp,hb⟩) h.hN0
  have O:Blk w' W.b 47 W.cells:=(We.only.block _ h.own.lt (ns .own _ (by simp) (.inl rfl))).trans h.own
  have D:=h.doc.only We.only fun b hb => ns .doc b (by simp) hb
  obtain ⟨F,S,q⟩:=h.q
  have e:W6.cells { W with M:=M' } = W.cells:=by unfold W6.cells; rw [We.b]
  refine ⟨⟨F,⟨S.zs.only We.only fun b hb => ns .set b (by simp) hb,S.q.only We.only (ns .queue _ (by simp) (.inl rfl)) (ns .queue _ (by simp) (.inr rfl)),S.fq,S.fl⟩,q⟩,R,?_,?_,own_keptN h.told fun b e => We.only.block b (own_blockN h.told e) (ns .own b (by simp) (.inr e)),sp.1,h.tb,sp.2⟩
  · show R6At w' W.R M'.b _ _ _
    rw [We.b]; exact D
  · rw [e]; exact O
theorem WAt.doc_ {w':World} {R':R6} {laid':List Nat} {Ld':Nat -> Nat -> List Nat} (D:R6At w' R' W.M.b (3 * c.nc) laid' (fun i => Ld' (i / 3) (i % 3))) (eb:R'.b = W.R.b) (We:Went6 w w' W.R R' (3 * c.nc)):WAt N w' { W with R:=R' } c s bs Z Ls Ld' r laid' told:=by
  have ns:∀ i b,i ≠ .doc -> W.foot c s i b -> ¬ F6 W.R (3 * c.nc) b:=fun i b hi hb hf => hi (h.sep i .doc b hb hf)
  have sp:=h.sepOf (W':={ W with R:=R' }) (s':=s) .doc (fun i b hb => by
    cases i with
    | doc => exact .inl ⟨rfl,We.foot b hb⟩
    | _ => exact .inr ⟨by simp,hb⟩) h.hN0
  have O:Blk w' W.b 47 W.cells:=(We.only.block _ h.own.lt (ns .own _ (by simp) (.inl rfl))).trans h.own
  obtain ⟨F,S,q⟩:=h.q
  have e:W6.cells { W with R:=R' } = W.cells:=by unfold W6.cells; rw [eb]
  refine ⟨⟨F,⟨S.zs.only We.only fun b hb => ns .set b (by simp) hb,S.q.only We.only (ns .queue _ (by simp) (.inl rfl)) (ns .queue _ (by simp) (.inr rfl)),S.fq,S.fl⟩,q⟩,h.ref.only We.only fun b hb => ns .ref b (by simp) hb,D,?_,own_keptN h.told fun b e => We.only.block b (own_blockN h.told e) (ns .own b (by simp) (.inr e)),sp.1,h.tb,sp.2⟩
  rw [e]; exact O
theorem WAt.turn {w':World} {bs':List UInt8} {Z':Nat -> Option Zd} {Ls':Nat -> Nat -> List Nat} (o:Only (Two W.L W.gl) w w') (Q:QW w' W.L c s bs' Z' W.gq W.gl Ls'):WAt N w' W c s bs' Z' Ls' Ld r laid told:=by
  have ns:∀ i b,i ≠ .set -> i ≠ .queue -> W.foot c s i b -> ¬ Two W.L W.gl b:=fun i b h1 h2 hb hf => by
    rcases hf with e | e
    · exact h1 (h.sep i .set b hb (by rw [e]; exact ⟨.bytes,rfl⟩))
    · exact h2 (h.sep i .queue b hb (.inr e))
  exact ⟨Q,h.ref.only o fun b hb => ns .ref b (by simp) (by simp) hb,h.doc.only o fun b hb => ns .doc b (by simp) (by simp) hb,(o.block _ h.own.lt (ns .own _ (by simp) (by simp) (.inl rfl))).trans h.own,own_keptN h.told fun b e => o.block b (own_blockN h.told e) (ns .own b (by simp) (by simp) (.inr e)),h.sep,h.tb,h.base⟩
theorem WAt.tell {w6:World} {v':Value} {H:Nat} (o:Only (fun b => W.vT.ownBlock = some b) w w6) (own6:w6.ownsRow 0 26 1 v' (told.length + 1) (told.map uv ++ [uv H])) (hat:∀ b,v'.ownBlock = some b -> W.vT.ownBlock = some b \/ w.heap.size <= b) :
    WAt N (w6.setCell ⟨W.b,4,none⟩ v') { W with vT:=v' } c s bs Z Ls Ld r laid (told ++ [H]):=by
  have ns:∀ i b,i ≠ .own -> W.foot c s i b -> ¬ (b = W.b \/ W.vT.ownBlock = some b):=fun i b hi hb hf => hi (h.sep i .own b hb hf)
  have o2:=only_cell1 (S:=fun b => b = W.b \/ W.vT.ownBlock = some b) w6 W.b 4 v' (.inl rfl)
  have o3:Only (fun b => b = W.b \/ W.vT.ownBlock = some b) w (w6.setCell ⟨W.b,4,none⟩ v'):=(o.mono fun b _ e => .inr e).trans o2 fun _ _ h => h
  have sp:=h.sepOf (W':={ W with vT:=v' }) (s':=s) .own (fun i b hb => by
    cases i with
    | own =>
      rcases hb with hb | hb
      · exact .inl ⟨rfl,.inl (.inl hb)⟩
      · exact .inl ⟨rfl,(hat b hb).imp .inr id⟩
    | _ => exact .inr ⟨by simp,hb⟩) h.hN0
  have tb':v'.ownBlock ≠ some W.b:=fun e => by
    rcases hat _ e with h1 | h1
    · exact h.tb h1
    · have:=h.own.lt; omega
  have O:Blk w6 W.b 47 W.cells:=(o.block _ h.own.lt h.tb).trans h.own
  obtain ⟨F,S,q⟩:=h.q
  refine ⟨⟨F,⟨S.zs.only o3 fun b hb => ns .set b (by simp) hb,S.q.only o3 (ns .queue _ (by simp) (.inl rfl)) (ns .queue _ (by simp) (.inr rfl)),S.fq,S.fl⟩,q⟩,h.ref.only o3 fun b hb => ns .ref b (by simp) hb,h.doc.only o3 fun b hb => ns .doc b (by simp) hb,O.set_ 4 v',?_,sp.1,tb',sp.2⟩
  have e:(told ++ [H]).map uv = told.map uv ++ [uv H]:=List.map_append
  rw [e,List.length_append]
  exact own_keptN own6 fun b e => (only_cell1 (S:=(· = W.b)) w6 W.b 4 v' rfl).block b (own_blockN own6 e) fun e2 => tb' (e2 ▸ e)
end
structure Grew (c:Conf) (w0 w:World) (W0 W:W6) (s0 s:St):Prop where
  only:Only (fun b => ∃ i,W0.foot c s0 i b) w0 w
  foot:∀ i b,W.foot c s i b -> (∃ j,W0.foot c s0 j b) \/ w0.heap.size <= b
theorem Grew.refl (c:Conf) (w:World) (W:W6) (s:St):Grew c w w W W s s:=⟨Only.refl _ _,fun i b hb => .inl ⟨i,hb⟩⟩
theorem Grew.trans {c:Conf} {w0 w1 w2:World} {W0 W1 W2:W6} {s0 s1 s2:St} (h:Grew c w0 w1 W0 W1 s0 s1) (k:Grew c w1 w2 W1 W2 s1 s2):Grew c w0 w2 W0 W2 s0 s2 :=
  ⟨h.only.trans k.only fun x hx ⟨i,hf⟩ => (h.foot i x hf).resolve_right (by omega),fun i b hb => (k.foot i b hb).elim (fun ⟨j,hj⟩ => h.foot j b hj) fun hb => .inr (Nat.le_trans h.only.size hb)⟩
theorem Grew.step {c:Conf} {w0 w w':World} {W0 W:W6} {s0 s:St} (h:Grew c w0 w W0 W s0 s) (b:Below w.heap.size w w'):Grew c w0 w' W0 W s0 s:=⟨h.only.below b h.only.size,h.foot⟩
theorem Grew.below {c:Conf} {N:Nat} {w0 w:World} {W0 W:W6} {s0 s:St} (h:Grew c w0 w W0 W s0 s) (hb:∀ i b,W0.foot c s0 i b -> N <= b) (hN:N <= w0.heap.size):Below N w0 w :=
  h.only.toBelow fun k hk => ⟨by omega,fun ⟨i,e⟩ => by have:=hb i k e; omega⟩
theorem Grew.away {c:Conf} {w0 w:World} {W0 W:W6} {s0 s:St} (h:Grew c w0 w W0 W s0 s) {b:Nat} (hb:b < w0.heap.size) (hn:∀ i,¬ W0.foot c s0 i b):w.heap[b]? = w0.heap[b]? /\ ∀ i,¬ W.foot c s i b :=
  ⟨h.only.block b hb fun ⟨i,e⟩ => hn i e,fun i e => (h.foot i b e).elim (fun ⟨j,hj⟩ => hn j hj) fun h1 => by omega⟩
theorem grew_take {c:Conf} {w w':World} {W:W6} {L':Lay} {s s':St} (We:Went w w' W.L L' c s s'):Grew c w w' W { W with L:=L' } s s' :=
  ⟨We.only.mono fun b _ e => ⟨.set,e⟩,fun i b hb => by
    cases i with
    | set => exact (We.foot b hb).imp (fun e => ⟨.set,e⟩) id
    | ref => exact .inl ⟨.ref,hb⟩
    | queue => exact .inl ⟨.queue,hb⟩
    | doc => exact .inl ⟨.doc,hb⟩
    | own => exact .inl ⟨.own,hb⟩⟩
theorem grew_rtake {c:Conf} {w w':World} {W:W6} {M':RL} {s:St} (We:RWent w w' W.M M' c):Grew c w w' W { W with M:=M' } s s :=
  ⟨We.only.mono fun b _ e => ⟨.ref,e⟩,fun i b hb => by
    cases i with
    | ref => exact (We.foot b hb).imp (fun e => ⟨.ref,e⟩) id
    | set => exact .inl ⟨.set,hb⟩
    | queue => exact .inl ⟨.queue,hb⟩
    | doc => exact .inl ⟨.doc,hb⟩
    | own => exact .inl ⟨.own,hb⟩⟩
theorem grew_doc {c:Conf} {w w':World} {W:W6} {R':R6} {s:St} (We:Went6 w w' W.R R' (3 * c.nc)):Grew c w w' W { W with R:=R' } s s :=
  ⟨We.only.mono fun b _ e => ⟨.doc,e⟩,fun i b hb => by
    cases i with
    | doc => exact (We.foot b hb).imp (fun e => ⟨.doc,e⟩) id
    | set => exact .inl ⟨.set,hb⟩
    | queue => exact .inl ⟨.queue,hb⟩
    | ref => exact .inl ⟨.ref,hb⟩
    | own => exact .inl ⟨.own,hb⟩⟩
theorem grew_turn {c:Conf} {w w':World} {W:W6} {s:St} (o:Only (Two W.L W.gl) w w'):Grew c w w' W W s s :=
  ⟨o.mono fun b _ e => by
    rcases e with e | e
    · exact ⟨.set,by rw [e]; exact ⟨.bytes,rfl⟩⟩
    · exact ⟨.queue,.inr e⟩,fun i b hb => .inl ⟨i,hb⟩⟩
theorem grew_tell {c:Conf} {w w':World} {W:W6} {v':Value} {s:St} (o:Only (fun b => b = W.b \/ W.vT.ownBlock = some b) w w') (hat:∀ b,v'.ownBlock = some b -> W.vT.ownBlock = some b \/ w.heap.size <= b):Grew c w w' W { W with vT:=v' } s s :=
  ⟨o.mono fun b _ e => ⟨.own,e⟩,fun i b hb => by
    cases i with
    | own =>
      rcases hb with hb | hb
      · exact .inl ⟨.own,.inl hb⟩
      · exact (hat b hb).imp (fun e => ⟨.own,.inr e⟩) id
    | set => exact .inl ⟨.set,hb⟩
    | queue => exact .inl ⟨.queue,hb⟩
    | ref => exact .inl ⟨.ref,hb⟩
    | doc => exact .inl ⟨.doc,hb⟩⟩
structure Op6 where
 dO:Int
 a:Int
 b:Int
 c:Int
 h:Nat
 raw:Bool
def Op6.cells (o:Op6):Array Value:=#[.int .i64 o.dO,.int .i64 o.a,.int .i64 o.b,.int .i64 o.c,.int .u64 (o.h:Int),.bool o.raw]
structure Op6.Ok (o:Op6):Prop where
 dO:Cls.In o.dO
 a:Cls.In o.a
 b:Cls.In o.b
 c:Cls.In o.c
 h:o.h < 18446744073709551616
theorem op6_cells {w:World} {N:Nat} {t:TypeId} {o:Op6} (h:Blk w N t o.cells):w.cell? ⟨N,0,none⟩ = some (.int .i64 o.dO) /\ w.cell? ⟨N,1,none⟩ = some (.int .i64 o.a) /\ w.cell? ⟨N,2,none⟩ = some (.int .i64 o.b) /\ w.cell? ⟨N,3,none⟩ = some (.int .i64 o.c) /\ w.cell? ⟨N,4,none⟩ = some (.int .u64 (o.h:Int)) /\ w.cell? ⟨N,5,none⟩ = some (.bool o.raw) :=
 ⟨h.cell 0,h.cell 1,h.cell 2,h.cell 3,h.cell 4,h.cell 5⟩
theorem qc_sz (k:Nat) (hk:k < 3) : 64 <= qc.sz k /\ qc.cf.n k <= 64:=by
 obtain rfl | rfl | rfl:k = 0 \/ k = 1 \/ k = 2:=by omega
 all_goals decide
section
variable {N:Nat} {w:World} {W:W6} {s:St} {bs:List UInt8} {Z:Nat -> Option Zd} {Ls Ld:Nat -> Nat -> List Nat} {r:RS} {laid told:List Nat} (h:WAt N w W qc s bs Z Ls Ld r laid told)
include h
theorem WAt.cW:w.cell? ⟨W.b,0,none⟩ = some (.pointer (some ⟨W.L.g,0,none⟩)) /\ w.cell? ⟨W.b,1,none⟩ = some (.pointer (some ⟨W.gq,0,none⟩)) /\ w.cell? ⟨W.b,2,none⟩ = some (.pointer (some ⟨W.M.b,0,none⟩)) /\ w.cell? ⟨W.b,3,none⟩ = some (.pointer (some ⟨W.R.b,0,none⟩)) /\ w.cell? ⟨W.b,4,none⟩ = some W.vT :=
 ⟨h.own.cell 0,h.own.cell 1,h.own.cell 2,h.own.cell 3,h.own.cell 4⟩
theorem makesNo (o:Op6) (ok:o.Ok) (Rl:Rel qc.cf s r) (hr:roomS qc.cf s (o.b % 3).toNat = none) :
  Calls Tryz.prog 20 #[.pointer (some ⟨W.b,0,none⟩),.agg o.cells] w fun e w' => e = .returned (.bool true) /\ Below w.heap.size w w':=by
 have hk:(o.b % 3).toNat < 3:=by omega
 have hnc:=qc_nc
 obtain ⟨w1,hw1⟩:∃ w1,w1 = w.alloc (.cells o.cells 28):=⟨_,rfl⟩
 have B1:Blk w1 w.heap.size 28 o.cells:=by rw [hw1]; exact Blk.new w _ _
 have b1:Below w.heap.size w w1:=by rw [hw1]; exact (Below.refl _ _).alloc (Nat.le_refl _) _
 have h1:=h.below b1
 obtain ⟨x0,x1,x2,x3,x4,x5⟩:=op6_cells B1
 obtain ⟨y0,y1,y2,y3,y4⟩:=h1.cW
 have WC:=withinI o.b 3 ok.b (by omega) (by omega)
 rw [show ((3:Nat):Int) = 3 from rfl] at WC
 have TC:=takeNo w1 W.L qc s bs h1.set _ (by rw [hnc]; exact hk) hr
 have RC:=rtakeNo w1 W.M qc r h1.ref _ (by rw [hnc]; exact hk) ((Rl.room h1.okc h1.good (by show _ < qc.nc; omega)).1 hr)
 generalize (o.b % 3).toNat = k at *
 have n1:=fun w => numC6 w 21
 replace TC:=Lib.hid TC
 replace RC:=Lib.hid RC
 replace WC:=Lib.hid WC
 replace b1:=Lib.hid b1
 unfold Op6.cells at hw1 ⊢
 replace hw1:=Lib.hid hw1
 clear h h1 Rl hr B1 hnc
 generalize hN:w.heap.size = N0 at *
 replace hN:=Lib.hid hN
 go_enter Tryz.func20,Tryz.ntmps20
 go_upto_region 1 with fail
 rw [hN.out, <- hw1.out]
 go_wp2_with (first | (go_at_call 16; refine (WC.out _).mono ?_; rintro e w' ⟨rfl,rfl⟩) | (go_at_call 55; refine TC.out.mono ?_; rintro e w' ⟨rfl,rfl⟩) | (go_at_call 56; refine RC.out.mono ?_; rintro e w' ⟨rfl,rfl⟩) | (go_at_call 14; refine (n1 _).mono ?_; rintro e w' ⟨rfl,rfl⟩) | fail)
 go_ret
 exact ⟨rfl,b1.out⟩
end
structure Took6 (N N0:Nat) (w0 w:World) (W0:W6) (s0:St) (W:W6) (s:St) (bs:List UInt8) (Z:Nat -> Option Zd) (Ls Ld:Nat -> Nat -> List Nat) (r:RS) (laid told:List Nat) (o:Op6):Prop where
 wat:WAt N w W qc s bs Z Ls Ld r laid told
 op:Blk w N0 28 o.cells
 far:∀ i,¬ W.foot qc s i N0
 below:Below N w0 w
 grew:Grew qc w0 w W0 W s0 s
theorem Took6.cells {N N0:Nat} {w0 w:World} {W0:W6} {s0:St} {W:W6} {s:St} {bs:List UInt8} {Z:Nat -> Option Zd} {Ls Ld:Nat -> Nat -> List Nat} {r:RS} {laid told:List Nat} {o:Op6} (h:Took6 N N0 w0 w W0 s0 W s bs Z Ls Ld r laid told o) :
  w.cell? ⟨N0,0,none⟩ = some (.int .i64 o.dO) /\ w.cell? ⟨W.b,0,none⟩ = some (.pointer (some ⟨W.L.g,0,none⟩)) /\ w.cell? ⟨W.b,2,none⟩ = some (.pointer (some ⟨W.M.b,0,none⟩)) /\ w.cell? ⟨W.b,3,none⟩ = some (.pointer (some ⟨W.R.b,0,none⟩)) /\ w.cell? ⟨W.b,4,none⟩ = some W.vT:=by
 obtain ⟨y0,y1,y2,y3,y4⟩:=h.wat.cW
 exact ⟨h.op.cell 0,y0,y2,y3,y4⟩
end Go.Proofs.YtfjiphibalhcgaaGreat.Que
