/-
  Contracts and lemmas, joined: LruMovesW, LruBalN, LruDoc3.
-/
import Derived.Test.YtngehaiigbbknaaGreatW14
set_option linter.unusedSimpArgs false
set_option linter.unusedVariables false
set_option linter.unusedSectionVars false
set_option maxRecDepth 100000
/-
  The walk of moves, arm by arm, over any states.
-/
namespace Go.Proofs.YtngehaiigbbknaaGreat.Que
open Go.RowKit Base Arena Cls Itm
def Cmv (b N0:Nat) (gm dm:Option Nat) (gs gq gr:Nat) (o:Op6) (v:World):Prop :=
 (v.cell? ⟨b,0,none⟩ = some (.pointer (some ⟨gs,0,none⟩)) /\ v.cell? ⟨b,1,none⟩ = some (.pointer (some ⟨gq,0,none⟩)) /\ v.cell? ⟨b,2,none⟩ = some (ptrO gm) /\ v.cell? ⟨b,4,none⟩ = some (.pointer (some ⟨gr,0,none⟩)) /\ v.cell? ⟨b,5,none⟩ = some (ptrO dm)) /\
 v.cell? ⟨N0,0,none⟩ = some (.int .i64 o.dO) /\ v.cell? ⟨N0,1,none⟩ = some (.int .i64 o.a) /\ v.cell? ⟨N0,2,none⟩ = some (.int .i64 o.b) /\ v.cell? ⟨N0,3,none⟩ = some (.int .i64 o.c) /\ v.cell? ⟨N0,4,none⟩ = some (.int .u64 (o.h:Int)) /\ v.cell? ⟨N0,5,none⟩ = some (.bool o.raw)
section
variable (w:World) (b:Nat) (o:Op6) (H RR:Nat) (gm dm:Option Nat) (gs gq gr:Nat) (P0 P1 P2:World -> Prop)
 (HC:Calls Tryz.prog 51 #[.pointer (some ⟨b,0,none⟩),.agg o.cells] (w.alloc (.cells o.cells 64)) fun e w' => e = .returned (.int .u64 (H:Int)) /\ P0 w')
 (D0:∀ v n,P0 v -> P0 (v.drewN n)) (C0:∀ v,P0 v -> Cmv b w.heap.size gm dm gs gq gr o v) (C1:∀ v,P1 v -> Cmv b w.heap.size gm dm gs gq gr o v) (C2:∀ v,P2 v -> Cmv b w.heap.size gm dm gs gq gr o v)
include HC D0 C0
set_option maxHeartbeats 3200000 in
theorem armMake (hd:o.dO = 1) (MC:∀ v,P0 v -> Calls Tryz.prog 42 #[.pointer (some ⟨b,0,none⟩),.agg o.cells] v fun e w' => e = .returned (.bool true) /\ P2 w') :
  Calls Tryz.prog 26 #[.pointer (some ⟨b,0,none⟩),.agg o.cells] w fun e w' => e = .returned (.bool true) /\ P2 w':=by
 obtain ⟨w1,hw1⟩:∃ w1,w1 = w.alloc (.cells o.cells 64):=⟨_,rfl⟩
 have B1:Blk w1 w.heap.size 64 o.cells:=by rw [hw1]; exact Blk.new w _ _
 obtain ⟨x0,x1,x2,x3,x4,x5⟩:=op6_cells B1
 rw [<- hw1] at HC
 unfold Op6.cells at HC hw1 MC ⊢
 rw [hd] at HC hw1 x0 MC ⊢
 have hdE:=Lib.hid hd
 replace HC:=Lib.hid HC
 replace hw1:=Lib.hid hw1
 replace D0:=Lib.hid D0
 replace C0:=Lib.hid C0
 replace MC:=Lib.hid MC
 clear B1 hd
 generalize hN:w.heap.size = N at *
 replace hN:=Lib.hid hN
 go_enter Tryz.func26,Tryz.ntmps26
 go_upto_region 1 with fail
 rw [hN.out, <- hw1.out]
 go_wp2_with fail
 refine HC.out.mono ?_
 rintro e w2 ⟨rfl,hP⟩
 obtain ⟨⟨y0,y1,y2,y4,y5⟩,x0,x1,x2,x3,x4,x5⟩:=C0.out w2 hP
 rw [hdE.out] at x0
 replace hP:=Lib.hid hP
 clear HC hw1
 have MC2:=Lib.hid (MC.out w2 hP.out)
 go_wp2_with fail
 refine MC2.out.mono ?_
 rintro e w3 ⟨rfl,hQ⟩
 replace hQ:=Lib.hid hQ
 clear x0 x1 x2 x3 x4 x5 y0 y1 y2 y4 y5
 go_wp2
 go_ret
 exact ⟨rfl,hQ.out⟩
set_option maxHeartbeats 3200000 in
theorem armBare (hd:o.dO = 2) (MC:∀ v,P0 v -> Calls Tryz.prog 42 #[.pointer (some ⟨b,0,none⟩),.agg o.cells] v fun e w' => e = .returned (.bool true) /\ P2 w') :
  Calls Tryz.prog 26 #[.pointer (some ⟨b,0,none⟩),.agg o.cells] w fun e w' => e = .returned (.bool true) /\ P2 w':=by
 obtain ⟨w1,hw1⟩:∃ w1,w1 = w.alloc (.cells o.cells 64):=⟨_,rfl⟩
 have B1:Blk w1 w.heap.size 64 o.cells:=by rw [hw1]; exact Blk.new w _ _
 obtain ⟨x0,x1,x2,x3,x4,x5⟩:=op6_cells B1
 rw [<- hw1] at HC
 unfold Op6.cells at HC hw1 MC ⊢
 rw [hd] at HC hw1 x0 MC ⊢
 have hdE:=Lib.hid hd
 replace HC:=Lib.hid HC
 replace hw1:=Lib.hid hw1
 replace D0:=Lib.hid D0
 replace C0:=Lib.hid C0
 replace MC:=Lib.hid MC
 clear B1 hd
 generalize hN:w.heap.size = N at *
 replace hN:=Lib.hid hN
 go_enter Tryz.func26,Tryz.ntmps26
 go_upto_region 1 with fail
 rw [hN.out, <- hw1.out]
 go_wp2_with fail
 refine HC.out.mono ?_
 rintro e w2 ⟨rfl,hP⟩
 obtain ⟨⟨y0,y1,y2,y4,y5⟩,x0,x1,x2,x3,x4,x5⟩:=C0.out w2 hP
 rw [hdE.out] at x0
 replace hP:=Lib.hid hP
 clear HC hw1
 have MC2:=Lib.hid (MC.out w2 hP.out)
 go_wp2_with fail
 refine MC2.out.mono ?_
 rintro e w3 ⟨rfl,hQ⟩
 replace hQ:=Lib.hid hQ
 clear x0 x1 x2 x3 x4 x5 y0 y1 y2 y4 y5
 go_wp2
 go_ret
 exact ⟨rfl,hQ.out⟩
include C1 C2 in
set_option maxHeartbeats 3200000 in
theorem armEnter (hd:o.dO = 4) {g d:Nat} (hg:gm = some g) (hdm:dm = some d) (PC:∀ v,P0 v -> Calls Tryz.prog 36 #[.pointer (some ⟨g,0,none⟩),.int .u64 (H:Int)] v fun e w' => e = .returned (.int .i64 (RR:Int)) /\ P1 w')
  (DC:∀ v,P1 v -> Calls Tryz.prog 55 #[.pointer (some ⟨d,0,none⟩),.int .u64 (H:Int)] v fun e w' => e = .returned (.int .i64 (RR:Int)) /\ P2 w') :
  Calls Tryz.prog 26 #[.pointer (some ⟨b,0,none⟩),.agg o.cells] w fun e w' => e = .returned (.bool true) /\ P2 w':=by
 subst hg hdm
 have nR:=fun w => numC6 w RR
 have S2:∀ v,P0 v -> (v.cell? ⟨b,1,none⟩ = some (.pointer (some ⟨gq,0,none⟩)) /\ v.cell? ⟨b,2,none⟩ = some (ptrO (some g)) /\ v.cell? ⟨b,4,none⟩ = some (.pointer (some ⟨gr,0,none⟩)) /\ v.cell? ⟨b,5,none⟩ = some (ptrO (some d)) /\ v.cell? ⟨w.heap.size,2,none⟩ = some (.int .i64 o.b) /\ v.cell? ⟨w.heap.size,3,none⟩ = some (.int .i64 o.c)):=fun v hv => by
  obtain ⟨⟨y0,y1,y2,y4,y5⟩,x0,x1,x2,x3,x4,x5⟩:=C0 v hv
  exact ⟨y1,y2,y4,y5,x2,x3⟩
 have S3:∀ v,P1 v -> (v.cell? ⟨b,1,none⟩ = some (.pointer (some ⟨gq,0,none⟩)) /\ v.cell? ⟨b,2,none⟩ = some (ptrO (some g)) /\ v.cell? ⟨b,4,none⟩ = some (.pointer (some ⟨gr,0,none⟩)) /\ v.cell? ⟨b,5,none⟩ = some (ptrO (some d)) /\ v.cell? ⟨w.heap.size,2,none⟩ = some (.int .i64 o.b) /\ v.cell? ⟨w.heap.size,3,none⟩ = some (.int .i64 o.c)):=fun v hv => by
  obtain ⟨⟨y0,y1,y2,y4,y5⟩,x0,x1,x2,x3,x4,x5⟩:=C1 v hv
  exact ⟨y1,y2,y4,y5,x2,x3⟩
 have S4:∀ v,P2 v -> (v.cell? ⟨b,1,none⟩ = some (.pointer (some ⟨gq,0,none⟩)) /\ v.cell? ⟨b,2,none⟩ = some (ptrO (some g)) /\ v.cell? ⟨b,4,none⟩ = some (.pointer (some ⟨gr,0,none⟩)) /\ v.cell? ⟨b,5,none⟩ = some (ptrO (some d)) /\ v.cell? ⟨w.heap.size,2,none⟩ = some (.int .i64 o.b) /\ v.cell? ⟨w.heap.size,3,none⟩ = some (.int .i64 o.c)):=fun v hv => by
  obtain ⟨⟨y0,y1,y2,y4,y5⟩,x0,x1,x2,x3,x4,x5⟩:=C2 v hv
  exact ⟨y1,y2,y4,y5,x2,x3⟩
 obtain ⟨w1,hw1⟩:∃ w1,w1 = w.alloc (.cells o.cells 64):=⟨_,rfl⟩
 have B1:Blk w1 w.heap.size 64 o.cells:=by rw [hw1]; exact Blk.new w _ _
 obtain ⟨x0,x1,x2,x3,x4,x5⟩:=op6_cells B1
 rw [<- hw1] at HC
 unfold Op6.cells at HC hw1 ⊢
 rw [hd] at HC hw1 x0 ⊢
 have hdE:=Lib.hid hd
 replace HC:=Lib.hid HC
 replace hw1:=Lib.hid hw1
 replace D0:=Lib.hid D0
 replace C0:=Lib.hid C0
 replace PC:=Lib.hid PC
 replace DC:=Lib.hid DC
 replace S2:=Lib.hid S2
 replace S3:=Lib.hid S3
 replace S4:=Lib.hid S4
 replace nR:=Lib.hid nR
 clear C1 C2
 clear B1 hd
 generalize hN:w.heap.size = N at *
 replace hN:=Lib.hid hN
 go_enter Tryz.func26,Tryz.ntmps26
 go_upto_region 1 with fail
 rw [hN.out, <- hw1.out]
 go_wp2_with fail
 refine HC.out.mono ?_
 rintro e w2 ⟨rfl,hP⟩
 obtain ⟨⟨y0,y1,y2,y4,y5⟩,x0,x1,x2,x3,x4,x5⟩:=C0.out w2 hP
 rw [hdE.out] at x0
 replace hP:=Lib.hid hP
 clear HC hw1
 go_upto_region 10 with fail
 obtain ⟨w5,hw5⟩:∃ w5,w5 = w2.drew:=⟨_,rfl⟩
 have P5:P0 w5:=by rw [hw5]; exact D0.out w2 1 hP.out
 have S5:=S2.out w5 P5
 replace P5:=Lib.hid P5
 clear hP y0 y1 y2 y4 y5 x0 x1 x2 x3 x4 x5 C0 D0
 refine wp_region_noPanic ?_
 refine wp_region_held_drew (S:=fun v => v.cell? ⟨b,1,none⟩ = some (.pointer (some ⟨gq,0,none⟩)) /\ v.cell? ⟨b,2,none⟩ = some (ptrO (some g)) /\ v.cell? ⟨b,4,none⟩ = some (.pointer (some ⟨gr,0,none⟩)) /\ v.cell? ⟨b,5,none⟩ = some (ptrO (some d)) /\ v.cell? ⟨N,2,none⟩ = some (.int .i64 o.b) /\ v.cell? ⟨N,3,none⟩ = some (.int .i64 o.c)) (by kernel_rfl) (by rw [<- hw5]; exact S5) (fun hHeld => ?_)
 rw [<- hw5] at hHeld ⊢
 clear hw5
 refine tkh (i:=0) (v:=?_) rfl ?_ ?_
 rotate_left
 ·try simp only [qA,qS,qZ]
  rintro w ⟨hS1,hS2,hS3,hS4,hS5,hS6⟩
  go_simp
  (try with_reducible rfl)
 try simp only [qA,qS,qZ,Act.put,qT,qO,qN]
 refine tkh (i:=1) (v:=?_) rfl ?_ ?_
 rotate_left
 ·try simp only [qA,qS,qZ]
  rintro w ⟨hS1,hS2,hS3,hS4,hS5,hS6⟩
  go_simp
  (try with_reducible rfl)
 try simp only [qA,qS,qZ,Act.put,qT,qO,qN]
 refine tkh (i:=2) (v:=?_) rfl ?_ ?_
 rotate_left
 ·try simp only [qA,qS,qZ]
  rintro w ⟨hS1,hS2,hS3,hS4,hS5,hS6⟩
  go_simp
  (try with_reducible rfl)
 try simp only [qA,qS,qZ,Act.put,qT,qO,qN]
 refine tkh (i:=3) (v:=?_) rfl ?_ ?_
 rotate_left
 ·try simp only [qA,qS,qZ]
  rintro w ⟨hS1,hS2,hS3,hS4,hS5,hS6⟩
  go_simp
  (try with_reducible rfl)
 try simp only [qA,qS,qZ,Act.put,qT,qO,qN]
 refine tkh (i:=4) (v:=?_) rfl ?_ ?_
 rotate_left
 ·try simp only [qA,qS,qZ]
  rintro w ⟨hS1,hS2,hS3,hS4,hS5,hS6⟩
  go_simp
  (try with_reducible rfl)
 try simp only [qA,qS,qZ,Act.put,qT,qO,qN]
 refine tkh (i:=7) (v:=?_) rfl ?_ ?_
 rotate_left
 ·try simp only [qA,qS,qZ]
  rintro w ⟨hS1,hS2,hS3,hS4,hS5,hS6⟩
  go_simp
  (try with_reducible rfl)
 try simp only [qA,qS,qZ,Act.put,qT,qO,qN]
 refine tkh (i:=8) (v:=?_) rfl ?_ ?_
 rotate_left
 ·try simp only [qA,qS,qZ]
  rintro w ⟨hS1,hS2,hS3,hS4,hS5,hS6⟩
  go_simp
  (try with_reducible rfl)
 try simp only [qA,qS,qZ,Act.put,qT,qO,qN]
 refine tkh (i:=9) (v:=?_) rfl ?_ ?_
 rotate_left
 ·try simp only [qA,qS,qZ]
  rintro w ⟨hS1,hS2,hS3,hS4,hS5,hS6⟩
  go_simp
  (try with_reducible rfl)
 try simp only [qA,qS,qZ,Act.put,qT,qO,qN]
 refine tkh (i:=10) (v:=?_) rfl ?_ ?_
 rotate_left
 ·try simp only [qA,qS,qZ]
  rintro w ⟨hS1,hS2,hS3,hS4,hS5,hS6⟩
  go_simp
  (try with_reducible rfl)
 try simp only [qA,qS,qZ,Act.put,qT,qO,qN]
 refine tkh (i:=11) (v:=?_) rfl ?_ ?_
 rotate_left
 ·try simp only [qA,qS,qZ]
  rintro w ⟨hS1,hS2,hS3,hS4,hS5,hS6⟩
  go_simp
  (try with_reducible rfl)
 try simp only [qA,qS,qZ,Act.put,qT,qO,qN]
 clear hHeld
 refine wpAnyH_ready (rs:=[5]) (by kernel_rfl) (by simp) ?_
 refine AllReadyH.cons (o:=_) rfl (fun K hK => ?_) ?_
 ·try simp only [qA,qS,qZ]
  go_simp
  go_at_call 36
  refine (PC.out w5 P5.out).mono ?_
  rintro e v6 ⟨rfl,P6⟩
  have S6:=S3.out v6 P6
  replace P6:=Lib.hid P6
  go_wp2_with fail
  refine hK.out _ _ S6 (fun hHeld => ?_)
  clear hK K hHeld
  try simp only [qA,qS,qZ,Act.put,qT,qO,qN]
  refine wpAnyH_ready (rs:=[6]) (by kernel_rfl) (by simp) ?_
  refine AllReadyH.cons (o:=_) rfl (fun K hK => ?_) ?_
  ·try simp only [qA,qS,qZ]
   go_simp
   go_at_call 14
   refine (nR.out _).mono ?_
   rintro e w' ⟨rfl,rfl⟩
   go_wp2_with fail
   refine hK.out _ _ S6 (fun hHeld => ?_)
   clear hK K hHeld
   try simp only [qA,qS,qZ,Act.put,qT,qO,qN]
   refine wpAnyH_ready (rs:=[12]) (by kernel_rfl) (by simp) ?_
   refine AllReadyH.cons (o:=_) rfl (fun K hK => ?_) ?_
   ·try simp only [qA,qS,qZ]
    go_simp
    go_at_call 55
    refine (DC.out v6 P6.out).mono ?_
    rintro e v7 ⟨rfl,P7⟩
    have S7:=S4.out v7 P7
    replace P7:=Lib.hid P7
    go_wp2_with fail
    refine hK.out _ _ S7 (fun hHeld => ?_)
    clear hK K hHeld
    try simp only [qA,qS,qZ,Act.put,qT,qO,qN]
    refine tkh (i:=13) (v:=?_) rfl ?_ ?_
    rotate_left
    ·try simp only [qA,qS,qZ]
     rintro w ⟨hS1,hS2,hS3,hS4,hS5,hS6⟩
     go_simp
     (try with_reducible rfl)
    try simp only [qA,qS,qZ,Act.put,qT,qO,qN]
    refine tkh (i:=14) (v:=?_) rfl ?_ ?_
    rotate_left
    ·try simp only [qA,qS,qZ]
     rintro w ⟨hS1,hS2,hS3,hS4,hS5,hS6⟩
     go_simp
     (try with_reducible rfl)
    try simp only [qA,qS,qZ,Act.put,qT,qO,qN]
    refine wpAnyH_done (by kernel_rfl) ?_ _
    refine NoPanic.normal ?_
    clear S7
    go_wp2
    go_ret
    exact ⟨rfl,P7.out⟩
   exact AllReadyH.nil
  exact AllReadyH.nil
 exact AllReadyH.nil
include C1 C2 in
set_option maxHeartbeats 3200000 in
theorem armLeave (hd:o.dO = 5) {g d:Nat} (hg:gm = some g) (hdm:dm = some d) (PC:∀ v,P0 v -> Calls Tryz.prog 35 #[.pointer (some ⟨g,0,none⟩),.int .u64 (H:Int)] v fun e w' => e = .returned (.int .i64 (RR:Int)) /\ P1 w')
  (DC:∀ v,P1 v -> Calls Tryz.prog 56 #[.pointer (some ⟨d,0,none⟩),.int .u64 (H:Int)] v fun e w' => e = .returned (.int .i64 (RR:Int)) /\ P2 w') :
  Calls Tryz.prog 26 #[.pointer (some ⟨b,0,none⟩),.agg o.cells] w fun e w' => e = .returned (.bool true) /\ P2 w':=by
 subst hg hdm
 have nR:=fun w => numC6 w RR
 have S2:∀ v,P0 v -> (v.cell? ⟨b,1,none⟩ = some (.pointer (some ⟨gq,0,none⟩)) /\ v.cell? ⟨b,2,none⟩ = some (ptrO (some g)) /\ v.cell? ⟨b,4,none⟩ = some (.pointer (some ⟨gr,0,none⟩)) /\ v.cell? ⟨b,5,none⟩ = some (ptrO (some d)) /\ v.cell? ⟨w.heap.size,2,none⟩ = some (.int .i64 o.b) /\ v.cell? ⟨w.heap.size,3,none⟩ = some (.int .i64 o.c)):=fun v hv => by
  obtain ⟨⟨y0,y1,y2,y4,y5⟩,x0,x1,x2,x3,x4,x5⟩:=C0 v hv
  exact ⟨y1,y2,y4,y5,x2,x3⟩
 have S3:∀ v,P1 v -> (v.cell? ⟨b,1,none⟩ = some (.pointer (some ⟨gq,0,none⟩)) /\ v.cell? ⟨b,2,none⟩ = some (ptrO (some g)) /\ v.cell? ⟨b,4,none⟩ = some (.pointer (some ⟨gr,0,none⟩)) /\ v.cell? ⟨b,5,none⟩ = some (ptrO (some d)) /\ v.cell? ⟨w.heap.size,2,none⟩ = some (.int .i64 o.b) /\ v.cell? ⟨w.heap.size,3,none⟩ = some (.int .i64 o.c)):=fun v hv => by
  obtain ⟨⟨y0,y1,y2,y4,y5⟩,x0,x1,x2,x3,x4,x5⟩:=C1 v hv
  exact ⟨y1,y2,y4,y5,x2,x3⟩
 have S4:∀ v,P2 v -> (v.cell? ⟨b,1,none⟩ = some (.pointer (some ⟨gq,0,none⟩)) /\ v.cell? ⟨b,2,none⟩ = some (ptrO (some g)) /\ v.cell? ⟨b,4,none⟩ = some (.pointer (some ⟨gr,0,none⟩)) /\ v.cell? ⟨b,5,none⟩ = some (ptrO (some d)) /\ v.cell? ⟨w.heap.size,2,none⟩ = some (.int .i64 o.b) /\ v.cell? ⟨w.heap.size,3,none⟩ = some (.int .i64 o.c)):=fun v hv => by
  obtain ⟨⟨y0,y1,y2,y4,y5⟩,x0,x1,x2,x3,x4,x5⟩:=C2 v hv
  exact ⟨y1,y2,y4,y5,x2,x3⟩
 obtain ⟨w1,hw1⟩:∃ w1,w1 = w.alloc (.cells o.cells 64):=⟨_,rfl⟩
 have B1:Blk w1 w.heap.size 64 o.cells:=by rw [hw1]; exact Blk.new w _ _
 obtain ⟨x0,x1,x2,x3,x4,x5⟩:=op6_cells B1
 rw [<- hw1] at HC
 unfold Op6.cells at HC hw1 ⊢
 rw [hd] at HC hw1 x0 ⊢
 have hdE:=Lib.hid hd
 replace HC:=Lib.hid HC
 replace hw1:=Lib.hid hw1
 replace D0:=Lib.hid D0
 replace C0:=Lib.hid C0
 replace PC:=Lib.hid PC
 replace DC:=Lib.hid DC
 replace S2:=Lib.hid S2
 replace S3:=Lib.hid S3
 replace S4:=Lib.hid S4
 replace nR:=Lib.hid nR
 clear C1 C2
 clear B1 hd
 generalize hN:w.heap.size = N at *
 replace hN:=Lib.hid hN
 go_enter Tryz.func26,Tryz.ntmps26
 go_upto_region 1 with fail
 rw [hN.out, <- hw1.out]
 go_wp2_with fail
 refine HC.out.mono ?_
 rintro e w2 ⟨rfl,hP⟩
 obtain ⟨⟨y0,y1,y2,y4,y5⟩,x0,x1,x2,x3,x4,x5⟩:=C0.out w2 hP
 rw [hdE.out] at x0
 replace hP:=Lib.hid hP
 clear HC hw1
 go_upto_region 12 with fail
 obtain ⟨w5,hw5⟩:∃ w5,w5 = w2.drew:=⟨_,rfl⟩
 have P5:P0 w5:=by rw [hw5]; exact D0.out w2 1 hP.out
 have S5:=S2.out w5 P5
 replace P5:=Lib.hid P5
 clear hP y0 y1 y2 y4 y5 x0 x1 x2 x3 x4 x5 C0 D0
 refine wp_region_noPanic ?_
 refine wp_region_held_drew (S:=fun v => v.cell? ⟨b,1,none⟩ = some (.pointer (some ⟨gq,0,none⟩)) /\ v.cell? ⟨b,2,none⟩ = some (ptrO (some g)) /\ v.cell? ⟨b,4,none⟩ = some (.pointer (some ⟨gr,0,none⟩)) /\ v.cell? ⟨b,5,none⟩ = some (ptrO (some d)) /\ v.cell? ⟨N,2,none⟩ = some (.int .i64 o.b) /\ v.cell? ⟨N,3,none⟩ = some (.int .i64 o.c)) (by kernel_rfl) (by rw [<- hw5]; exact S5) (fun hHeld => ?_)
 rw [<- hw5] at hHeld ⊢
 clear hw5
 refine tkh (i:=0) (v:=?_) rfl ?_ ?_
 rotate_left
 ·try simp only [qA,qS,qZ]
  rintro w ⟨hS1,hS2,hS3,hS4,hS5,hS6⟩
  go_simp
  (try with_reducible rfl)
 try simp only [qA,qS,qZ,Act.put,qT,qO,qN]
 refine tkh (i:=1) (v:=?_) rfl ?_ ?_
 rotate_left
 ·try simp only [qA,qS,qZ]
  rintro w ⟨hS1,hS2,hS3,hS4,hS5,hS6⟩
  go_simp
  (try with_reducible rfl)
 try simp only [qA,qS,qZ,Act.put,qT,qO,qN]
 refine tkh (i:=2) (v:=?_) rfl ?_ ?_
 rotate_left
 ·try simp only [qA,qS,qZ]
  rintro w ⟨hS1,hS2,hS3,hS4,hS5,hS6⟩
  go_simp
  (try with_reducible rfl)
 try simp only [qA,qS,qZ,Act.put,qT,qO,qN]
 refine tkh (i:=3) (v:=?_) rfl ?_ ?_
 rotate_left
 ·try simp only [qA,qS,qZ]
  rintro w ⟨hS1,hS2,hS3,hS4,hS5,hS6⟩
  go_simp
  (try with_reducible rfl)
 try simp only [qA,qS,qZ,Act.put,qT,qO,qN]
 refine tkh (i:=4) (v:=?_) rfl ?_ ?_
 rotate_left
 ·try simp only [qA,qS,qZ]
  rintro w ⟨hS1,hS2,hS3,hS4,hS5,hS6⟩
  go_simp
  (try with_reducible rfl)
 try simp only [qA,qS,qZ,Act.put,qT,qO,qN]
 refine tkh (i:=7) (v:=?_) rfl ?_ ?_
 rotate_left
 ·try simp only [qA,qS,qZ]
  rintro w ⟨hS1,hS2,hS3,hS4,hS5,hS6⟩
  go_simp
  (try with_reducible rfl)
 try simp only [qA,qS,qZ,Act.put,qT,qO,qN]
 refine tkh (i:=8) (v:=?_) rfl ?_ ?_
 rotate_left
 ·try simp only [qA,qS,qZ]
  rintro w ⟨hS1,hS2,hS3,hS4,hS5,hS6⟩
  go_simp
  (try with_reducible rfl)
 try simp only [qA,qS,qZ,Act.put,qT,qO,qN]
 refine tkh (i:=9) (v:=?_) rfl ?_ ?_
 rotate_left
 ·try simp only [qA,qS,qZ]
  rintro w ⟨hS1,hS2,hS3,hS4,hS5,hS6⟩
  go_simp
  (try with_reducible rfl)
 try simp only [qA,qS,qZ,Act.put,qT,qO,qN]
 refine tkh (i:=10) (v:=?_) rfl ?_ ?_
 rotate_left
 ·try simp only [qA,qS,qZ]
  rintro w ⟨hS1,hS2,hS3,hS4,hS5,hS6⟩
  go_simp
  (try with_reducible rfl)
 try simp only [qA,qS,qZ,Act.put,qT,qO,qN]
 refine tkh (i:=11) (v:=?_) rfl ?_ ?_
 rotate_left
 ·try simp only [qA,qS,qZ]
  rintro w ⟨hS1,hS2,hS3,hS4,hS5,hS6⟩
  go_simp
  (try with_reducible rfl)
 try simp only [qA,qS,qZ,Act.put,qT,qO,qN]
 clear hHeld
 refine wpAnyH_ready (rs:=[5]) (by kernel_rfl) (by simp) ?_
 refine AllReadyH.cons (o:=_) rfl (fun K hK => ?_) ?_
 ·try simp only [qA,qS,qZ]
  go_simp
  go_at_call 35
  refine (PC.out w5 P5.out).mono ?_
  rintro e v6 ⟨rfl,P6⟩
  have S6:=S3.out v6 P6
  replace P6:=Lib.hid P6
  go_wp2_with fail
  refine hK.out _ _ S6 (fun hHeld => ?_)
  clear hK K hHeld
  try simp only [qA,qS,qZ,Act.put,qT,qO,qN]
  refine wpAnyH_ready (rs:=[6]) (by kernel_rfl) (by simp) ?_
  refine AllReadyH.cons (o:=_) rfl (fun K hK => ?_) ?_
  ·try simp only [qA,qS,qZ]
   go_simp
   go_at_call 14
   refine (nR.out _).mono ?_
   rintro e w' ⟨rfl,rfl⟩
   go_wp2_with fail
   refine hK.out _ _ S6 (fun hHeld => ?_)
   clear hK K hHeld
   try simp only [qA,qS,qZ,Act.put,qT,qO,qN]
   refine wpAnyH_ready (rs:=[12]) (by kernel_rfl) (by simp) ?_
   refine AllReadyH.cons (o:=_) rfl (fun K hK => ?_) ?_
   ·try simp only [qA,qS,qZ]
    go_simp
    go_at_call 56
    refine (DC.out v6 P6.out).mono ?_
    rintro e v7 ⟨rfl,P7⟩
    have S7:=S4.out v7 P7
    replace P7:=Lib.hid P7
    go_wp2_with fail
    refine hK.out _ _ S7 (fun hHeld => ?_)
    clear hK K hHeld
    try simp only [qA,qS,qZ,Act.put,qT,qO,qN]
    refine tkh (i:=13) (v:=?_) rfl ?_ ?_
    rotate_left
    ·try simp only [qA,qS,qZ]
     rintro w ⟨hS1,hS2,hS3,hS4,hS5,hS6⟩
     go_simp
     (try with_reducible rfl)
    try simp only [qA,qS,qZ,Act.put,qT,qO,qN]
    refine tkh (i:=14) (v:=?_) rfl ?_ ?_
    rotate_left
    ·try simp only [qA,qS,qZ]
     rintro w ⟨hS1,hS2,hS3,hS4,hS5,hS6⟩
     go_simp
     (try with_reducible rfl)
    try simp only [qA,qS,qZ,Act.put,qT,qO,qN]
    refine wpAnyH_done (by kernel_rfl) ?_ _
    refine NoPanic.normal ?_
    clear S7
    go_wp2
    go_ret
    exact ⟨rfl,P7.out⟩
   exact AllReadyH.nil
  exact AllReadyH.nil
 exact AllReadyH.nil
include C1 C2 in
set_option maxHeartbeats 3200000 in
theorem armHit (hd:o.dO = 6) {g d:Nat} (hg:gm = some g) (hdm:dm = some d) (PC:∀ v,P0 v -> Calls Tryz.prog 37 #[.pointer (some ⟨g,0,none⟩),.int .u64 (H:Int)] v fun e w' => e = .returned (.int .i64 (RR:Int)) /\ P1 w')
  (DC:∀ v,P1 v -> Calls Tryz.prog 57 #[.pointer (some ⟨d,0,none⟩),.int .u64 (H:Int)] v fun e w' => e = .returned (.int .i64 (RR:Int)) /\ P2 w') :
  Calls Tryz.prog 26 #[.pointer (some ⟨b,0,none⟩),.agg o.cells] w fun e w' => e = .returned (.bool true) /\ P2 w':=by
 subst hg hdm
 have nR:=fun w => numC6 w RR
 have S2:∀ v,P0 v -> (v.cell? ⟨b,1,none⟩ = some (.pointer (some ⟨gq,0,none⟩)) /\ v.cell? ⟨b,2,none⟩ = some (ptrO (some g)) /\ v.cell? ⟨b,4,none⟩ = some (.pointer (some ⟨gr,0,none⟩)) /\ v.cell? ⟨b,5,none⟩ = some (ptrO (some d)) /\ v.cell? ⟨w.heap.size,2,none⟩ = some (.int .i64 o.b) /\ v.cell? ⟨w.heap.size,3,none⟩ = some (.int .i64 o.c)):=fun v hv => by
  obtain ⟨⟨y0,y1,y2,y4,y5⟩,x0,x1,x2,x3,x4,x5⟩:=C0 v hv
  exact ⟨y1,y2,y4,y5,x2,x3⟩
 have S3:∀ v,P1 v -> (v.cell? ⟨b,1,none⟩ = some (.pointer (some ⟨gq,0,none⟩)) /\ v.cell? ⟨b,2,none⟩ = some (ptrO (some g)) /\ v.cell? ⟨b,4,none⟩ = some (.pointer (some ⟨gr,0,none⟩)) /\ v.cell? ⟨b,5,none⟩ = some (ptrO (some d)) /\ v.cell? ⟨w.heap.size,2,none⟩ = some (.int .i64 o.b) /\ v.cell? ⟨w.heap.size,3,none⟩ = some (.int .i64 o.c)):=fun v hv => by
  obtain ⟨⟨y0,y1,y2,y4,y5⟩,x0,x1,x2,x3,x4,x5⟩:=C1 v hv
  exact ⟨y1,y2,y4,y5,x2,x3⟩
 have S4:∀ v,P2 v -> (v.cell? ⟨b,1,none⟩ = some (.pointer (some ⟨gq,0,none⟩)) /\ v.cell? ⟨b,2,none⟩ = some (ptrO (some g)) /\ v.cell? ⟨b,4,none⟩ = some (.pointer (some ⟨gr,0,none⟩)) /\ v.cell? ⟨b,5,none⟩ = some (ptrO (some d)) /\ v.cell? ⟨w.heap.size,2,none⟩ = some (.int .i64 o.b) /\ v.cell? ⟨w.heap.size,3,none⟩ = some (.int .i64 o.c)):=fun v hv => by
  obtain ⟨⟨y0,y1,y2,y4,y5⟩,x0,x1,x2,x3,x4,x5⟩:=C2 v hv
  exact ⟨y1,y2,y4,y5,x2,x3⟩
 obtain ⟨w1,hw1⟩:∃ w1,w1 = w.alloc (.cells o.cells 64):=⟨_,rfl⟩
 have B1:Blk w1 w.heap.size 64 o.cells:=by rw [hw1]; exact Blk.new w _ _
 obtain ⟨x0,x1,x2,x3,x4,x5⟩:=op6_cells B1
 rw [<- hw1] at HC
 unfold Op6.cells at HC hw1 ⊢
 rw [hd] at HC hw1 x0 ⊢
 have hdE:=Lib.hid hd
 replace HC:=Lib.hid HC
 replace hw1:=Lib.hid hw1
 replace D0:=Lib.hid D0
 replace C0:=Lib.hid C0
 replace PC:=Lib.hid PC
 replace DC:=Lib.hid DC
 replace S2:=Lib.hid S2
 replace S3:=Lib.hid S3
 replace S4:=Lib.hid S4
 replace nR:=Lib.hid nR
 clear C1 C2
 clear B1 hd
 generalize hN:w.heap.size = N at *
 replace hN:=Lib.hid hN
 go_enter Tryz.func26,Tryz.ntmps26
 go_upto_region 1 with fail
 rw [hN.out, <- hw1.out]
 go_wp2_with fail
 refine HC.out.mono ?_
 rintro e w2 ⟨rfl,hP⟩
 obtain ⟨⟨y0,y1,y2,y4,y5⟩,x0,x1,x2,x3,x4,x5⟩:=C0.out w2 hP
 rw [hdE.out] at x0
 replace hP:=Lib.hid hP
 clear HC hw1
 go_upto_region 14 with fail
 obtain ⟨w5,hw5⟩:∃ w5,w5 = w2.drew:=⟨_,rfl⟩
 have P5:P0 w5:=by rw [hw5]; exact D0.out w2 1 hP.out
 have S5:=S2.out w5 P5
 replace P5:=Lib.hid P5
 clear hP y0 y1 y2 y4 y5 x0 x1 x2 x3 x4 x5 C0 D0
 refine wp_region_noPanic ?_
 refine wp_region_held_drew (S:=fun v => v.cell? ⟨b,1,none⟩ = some (.pointer (some ⟨gq,0,none⟩)) /\ v.cell? ⟨b,2,none⟩ = some (ptrO (some g)) /\ v.cell? ⟨b,4,none⟩ = some (.pointer (some ⟨gr,0,none⟩)) /\ v.cell? ⟨b,5,none⟩ = some (ptrO (some d)) /\ v.cell? ⟨N,2,none⟩ = some (.int .i64 o.b) /\ v.cell? ⟨N,3,none⟩ = some (.int .i64 o.c)) (by kernel_rfl) (by rw [<- hw5]; exact S5) (fun hHeld => ?_)
 rw [<- hw5] at hHeld ⊢
 clear hw5
 refine tkh (i:=0) (v:=?_) rfl ?_ ?_
 rotate_left
 ·try simp only [qA,qS,qZ]
  rintro w ⟨hS1,hS2,hS3,hS4,hS5,hS6⟩
  go_simp
  (try with_reducible rfl)
 try simp only [qA,qS,qZ,Act.put,qT,qO,qN]
 refine tkh (i:=1) (v:=?_) rfl ?_ ?_
 rotate_left
 ·try simp only [qA,qS,qZ]
  rintro w ⟨hS1,hS2,hS3,hS4,hS5,hS6⟩
  go_simp
  (try with_reducible rfl)
 try simp only [qA,qS,qZ,Act.put,qT,qO,qN]
 refine tkh (i:=2) (v:=?_) rfl ?_ ?_
 rotate_left
 ·try simp only [qA,qS,qZ]
  rintro w ⟨hS1,hS2,hS3,hS4,hS5,hS6⟩
  go_simp
  (try with_reducible rfl)
 try simp only [qA,qS,qZ,Act.put,qT,qO,qN]
 refine tkh (i:=3) (v:=?_) rfl ?_ ?_
 rotate_left
 ·try simp only [qA,qS,qZ]
  rintro w ⟨hS1,hS2,hS3,hS4,hS5,hS6⟩
  go_simp
  (try with_reducible rfl)
 try simp only [qA,qS,qZ,Act.put,qT,qO,qN]
 refine tkh (i:=4) (v:=?_) rfl ?_ ?_
 rotate_left
 ·try simp only [qA,qS,qZ]
  rintro w ⟨hS1,hS2,hS3,hS4,hS5,hS6⟩
  go_simp
  (try with_reducible rfl)
 try simp only [qA,qS,qZ,Act.put,qT,qO,qN]
 refine tkh (i:=7) (v:=?_) rfl ?_ ?_
 rotate_left
 ·try simp only [qA,qS,qZ]
  rintro w ⟨hS1,hS2,hS3,hS4,hS5,hS6⟩
  go_simp
  (try with_reducible rfl)
 try simp only [qA,qS,qZ,Act.put,qT,qO,qN]
 refine tkh (i:=8) (v:=?_) rfl ?_ ?_
 rotate_left
 ·try simp only [qA,qS,qZ]
  rintro w ⟨hS1,hS2,hS3,hS4,hS5,hS6⟩
  go_simp
  (try with_reducible rfl)
 try simp only [qA,qS,qZ,Act.put,qT,qO,qN]
 refine tkh (i:=9) (v:=?_) rfl ?_ ?_
 rotate_left
 ·try simp only [qA,qS,qZ]
  rintro w ⟨hS1,hS2,hS3,hS4,hS5,hS6⟩
  go_simp
  (try with_reducible rfl)
 try simp only [qA,qS,qZ,Act.put,qT,qO,qN]
 refine tkh (i:=10) (v:=?_) rfl ?_ ?_
 rotate_left
 ·try simp only [qA,qS,qZ]
  rintro w ⟨hS1,hS2,hS3,hS4,hS5,hS6⟩
  go_simp
  (try with_reducible rfl)
 try simp only [qA,qS,qZ,Act.put,qT,qO,qN]
 refine tkh (i:=11) (v:=?_) rfl ?_ ?_
 rotate_left
 ·try simp only [qA,qS,qZ]
  rintro w ⟨hS1,hS2,hS3,hS4,hS5,hS6⟩
  go_simp
  (try with_reducible rfl)
 try simp only [qA,qS,qZ,Act.put,qT,qO,qN]
 clear hHeld
 refine wpAnyH_ready (rs:=[5]) (by kernel_rfl) (by simp) ?_
 refine AllReadyH.cons (o:=_) rfl (fun K hK => ?_) ?_
 ·try simp only [qA,qS,qZ]
  go_simp
  go_at_call 37
  refine (PC.out w5 P5.out).mono ?_
  rintro e v6 ⟨rfl,P6⟩
  have S6:=S3.out v6 P6
  replace P6:=Lib.hid P6
  go_wp2_with fail
  refine hK.out _ _ S6 (fun hHeld => ?_)
  clear hK K hHeld
  try simp only [qA,qS,qZ,Act.put,qT,qO,qN]
  refine wpAnyH_ready (rs:=[6]) (by kernel_rfl) (by simp) ?_
  refine AllReadyH.cons (o:=_) rfl (fun K hK => ?_) ?_
  ·try simp only [qA,qS,qZ]
   go_simp
   go_at_call 14
   refine (nR.out _).mono ?_
   rintro e w' ⟨rfl,rfl⟩
   go_wp2_with fail
   refine hK.out _ _ S6 (fun hHeld => ?_)
   clear hK K hHeld
   try simp only [qA,qS,qZ,Act.put,qT,qO,qN]
   refine wpAnyH_ready (rs:=[12]) (by kernel_rfl) (by simp) ?_
   refine AllReadyH.cons (o:=_) rfl (fun K hK => ?_) ?_
   ·try simp only [qA,qS,qZ]
    go_simp
    go_at_call 57
    refine (DC.out v6 P6.out).mono ?_
    rintro e v7 ⟨rfl,P7⟩
    have S7:=S4.out v7 P7
    replace P7:=Lib.hid P7
    go_wp2_with fail
    refine hK.out _ _ S7 (fun hHeld => ?_)
    clear hK K hHeld
    try simp only [qA,qS,qZ,Act.put,qT,qO,qN]
    refine tkh (i:=13) (v:=?_) rfl ?_ ?_
    rotate_left
    ·try simp only [qA,qS,qZ]
     rintro w ⟨hS1,hS2,hS3,hS4,hS5,hS6⟩
     go_simp
     (try with_reducible rfl)
    try simp only [qA,qS,qZ,Act.put,qT,qO,qN]
    refine tkh (i:=14) (v:=?_) rfl ?_ ?_
    rotate_left
    ·try simp only [qA,qS,qZ]
     rintro w ⟨hS1,hS2,hS3,hS4,hS5,hS6⟩
     go_simp
     (try with_reducible rfl)
    try simp only [qA,qS,qZ,Act.put,qT,qO,qN]
    refine wpAnyH_done (by kernel_rfl) ?_ _
    refine NoPanic.normal ?_
    clear S7
    go_wp2
    go_ret
    exact ⟨rfl,P7.out⟩
   exact AllReadyH.nil
  exact AllReadyH.nil
 exact AllReadyH.nil
include C1 C2 in
set_option maxHeartbeats 3200000 in
theorem armShift (hd:o.dO = 10) (PC:∀ v,P0 v -> Calls Tryz.prog 58 #[.pointer (some ⟨gq,0,none⟩),.int .u64 (H:Int),.int .i64 o.b] v fun e w' => e = .returned (.int .i64 (RR:Int)) /\ P1 w')
  (DC:∀ v,P1 v -> Calls Tryz.prog 59 #[.pointer (some ⟨gr,0,none⟩),.int .u64 (H:Int),.int .i64 o.b] v fun e w' => e = .returned (.int .i64 (RR:Int)) /\ P2 w') :
  Calls Tryz.prog 26 #[.pointer (some ⟨b,0,none⟩),.agg o.cells] w fun e w' => e = .returned (.bool true) /\ P2 w':=by
 have nR:=fun w => numC6 w RR
 have S2:∀ v,P0 v -> (v.cell? ⟨b,1,none⟩ = some (.pointer (some ⟨gq,0,none⟩)) /\ v.cell? ⟨b,2,none⟩ = some (ptrO gm) /\ v.cell? ⟨b,4,none⟩ = some (.pointer (some ⟨gr,0,none⟩)) /\ v.cell? ⟨b,5,none⟩ = some (ptrO dm) /\ v.cell? ⟨w.heap.size,2,none⟩ = some (.int .i64 o.b) /\ v.cell? ⟨w.heap.size,3,none⟩ = some (.int .i64 o.c)):=fun v hv => by
  obtain ⟨⟨y0,y1,y2,y4,y5⟩,x0,x1,x2,x3,x4,x5⟩:=C0 v hv
  exact ⟨y1,y2,y4,y5,x2,x3⟩
 have S3:∀ v,P1 v -> (v.cell? ⟨b,1,none⟩ = some (.pointer (some ⟨gq,0,none⟩)) /\ v.cell? ⟨b,2,none⟩ = some (ptrO gm) /\ v.cell? ⟨b,4,none⟩ = some (.pointer (some ⟨gr,0,none⟩)) /\ v.cell? ⟨b,5,none⟩ = some (ptrO dm) /\ v.cell? ⟨w.heap.size,2,none⟩ = some (.int .i64 o.b) /\ v.cell? ⟨w.heap.size,3,none⟩ = some (.int .i64 o.c)):=fun v hv => by
  obtain ⟨⟨y0,y1,y2,y4,y5⟩,x0,x1,x2,x3,x4,x5⟩:=C1 v hv
  exact ⟨y1,y2,y4,y5,x2,x3⟩
 have S4:∀ v,P2 v -> (v.cell? ⟨b,1,none⟩ = some (.pointer (some ⟨gq,0,none⟩)) /\ v.cell? ⟨b,2,none⟩ = some (ptrO gm) /\ v.cell? ⟨b,4,none⟩ = some (.pointer (some ⟨gr,0,none⟩)) /\ v.cell? ⟨b,5,none⟩ = some (ptrO dm) /\ v.cell? ⟨w.heap.size,2,none⟩ = some (.int .i64 o.b) /\ v.cell? ⟨w.heap.size,3,none⟩ = some (.int .i64 o.c)):=fun v hv => by
  obtain ⟨⟨y0,y1,y2,y4,y5⟩,x0,x1,x2,x3,x4,x5⟩:=C2 v hv
  exact ⟨y1,y2,y4,y5,x2,x3⟩
 obtain ⟨w1,hw1⟩:∃ w1,w1 = w.alloc (.cells o.cells 64):=⟨_,rfl⟩
 have B1:Blk w1 w.heap.size 64 o.cells:=by rw [hw1]; exact Blk.new w _ _
 obtain ⟨x0,x1,x2,x3,x4,x5⟩:=op6_cells B1
 rw [<- hw1] at HC
 unfold Op6.cells at HC hw1 ⊢
 rw [hd] at HC hw1 x0 ⊢
 have hdE:=Lib.hid hd
 replace HC:=Lib.hid HC
 replace hw1:=Lib.hid hw1
 replace D0:=Lib.hid D0
 replace C0:=Lib.hid C0
 replace PC:=Lib.hid PC
 replace DC:=Lib.hid DC
 replace S2:=Lib.hid S2
 replace S3:=Lib.hid S3
 replace S4:=Lib.hid S4
 replace nR:=Lib.hid nR
 clear C1 C2
 clear B1 hd
 generalize hN:w.heap.size = N at *
 replace hN:=Lib.hid hN
 go_enter Tryz.func26,Tryz.ntmps26
 go_upto_region 1 with fail
 rw [hN.out, <- hw1.out]
 go_wp2_with fail
 refine HC.out.mono ?_
 rintro e w2 ⟨rfl,hP⟩
 obtain ⟨⟨y0,y1,y2,y4,y5⟩,x0,x1,x2,x3,x4,x5⟩:=C0.out w2 hP
 rw [hdE.out] at x0
 replace hP:=Lib.hid hP
 clear HC hw1
 go_upto_region 18 with fail
 obtain ⟨w5,hw5⟩:∃ w5,w5 = w2.drew:=⟨_,rfl⟩
 have P5:P0 w5:=by rw [hw5]; exact D0.out w2 1 hP.out
 have S5:=S2.out w5 P5
 replace P5:=Lib.hid P5
 clear hP y0 y1 y2 y4 y5 x0 x1 x2 x3 x4 x5 C0 D0
 refine wp_region_noPanic ?_
 refine wp_region_held_drew (S:=fun v => v.cell? ⟨b,1,none⟩ = some (.pointer (some ⟨gq,0,none⟩)) /\ v.cell? ⟨b,2,none⟩ = some (ptrO gm) /\ v.cell? ⟨b,4,none⟩ = some (.pointer (some ⟨gr,0,none⟩)) /\ v.cell? ⟨b,5,none⟩ = some (ptrO dm) /\ v.cell? ⟨N,2,none⟩ = some (.int .i64 o.b) /\ v.cell? ⟨N,3,none⟩ = some (.int .i64 o.c)) (by kernel_rfl) (by rw [<- hw5]; exact S5) (fun hHeld => ?_)
 rw [<- hw5] at hHeld ⊢
 clear hw5
 refine tkh (i:=0) (v:=?_) rfl ?_ ?_
 rotate_left
 ·try simp only [qA,qS,qZ]
  rintro w ⟨hS1,hS2,hS3,hS4,hS5,hS6⟩
  go_simp
  (try with_reducible rfl)
 try simp only [qA,qS,qZ,Act.put,qT,qO,qN]
 refine tkh (i:=1) (v:=?_) rfl ?_ ?_
 rotate_left
 ·try simp only [qA,qS,qZ]
  rintro w ⟨hS1,hS2,hS3,hS4,hS5,hS6⟩
  go_simp
  (try with_reducible rfl)
 try simp only [qA,qS,qZ,Act.put,qT,qO,qN]
 refine tkh (i:=2) (v:=?_) rfl ?_ ?_
 rotate_left
 ·try simp only [qA,qS,qZ]
  rintro w ⟨hS1,hS2,hS3,hS4,hS5,hS6⟩
  go_simp
  (try with_reducible rfl)
 try simp only [qA,qS,qZ,Act.put,qT,qO,qN]
 refine tkh (i:=3) (v:=?_) rfl ?_ ?_
 rotate_left
 ·try simp only [qA,qS,qZ]
  rintro w ⟨hS1,hS2,hS3,hS4,hS5,hS6⟩
  go_simp
  (try with_reducible rfl)
 try simp only [qA,qS,qZ,Act.put,qT,qO,qN]
 refine tkh (i:=4) (v:=?_) rfl ?_ ?_
 rotate_left
 ·try simp only [qA,qS,qZ]
  rintro w ⟨hS1,hS2,hS3,hS4,hS5,hS6⟩
  go_simp
  (try with_reducible rfl)
 try simp only [qA,qS,qZ,Act.put,qT,qO,qN]
 refine tkh (i:=5) (v:=?_) rfl ?_ ?_
 rotate_left
 ·try simp only [qA,qS,qZ]
  rintro w ⟨hS1,hS2,hS3,hS4,hS5,hS6⟩
  go_simp
  (try with_reducible rfl)
 try simp only [qA,qS,qZ,Act.put,qT,qO,qN]
 refine tkh (i:=6) (v:=?_) rfl ?_ ?_
 rotate_left
 ·try simp only [qA,qS,qZ]
  rintro w ⟨hS1,hS2,hS3,hS4,hS5,hS6⟩
  go_simp
  (try with_reducible rfl)
 try simp only [qA,qS,qZ,Act.put,qT,qO,qN]
 refine tkh (i:=9) (v:=?_) rfl ?_ ?_
 rotate_left
 ·try simp only [qA,qS,qZ]
  rintro w ⟨hS1,hS2,hS3,hS4,hS5,hS6⟩
  go_simp
  (try with_reducible rfl)
 try simp only [qA,qS,qZ,Act.put,qT,qO,qN]
 refine tkh (i:=10) (v:=?_) rfl ?_ ?_
 rotate_left
 ·try simp only [qA,qS,qZ]
  rintro w ⟨hS1,hS2,hS3,hS4,hS5,hS6⟩
  go_simp
  (try with_reducible rfl)
 try simp only [qA,qS,qZ,Act.put,qT,qO,qN]
 refine tkh (i:=11) (v:=?_) rfl ?_ ?_
 rotate_left
 ·try simp only [qA,qS,qZ]
  rintro w ⟨hS1,hS2,hS3,hS4,hS5,hS6⟩
  go_simp
  (try with_reducible rfl)
 try simp only [qA,qS,qZ,Act.put,qT,qO,qN]
 refine tkh (i:=12) (v:=?_) rfl ?_ ?_
 rotate_left
 ·try simp only [qA,qS,qZ]
  rintro w ⟨hS1,hS2,hS3,hS4,hS5,hS6⟩
  go_simp
  (try with_reducible rfl)
 try simp only [qA,qS,qZ,Act.put,qT,qO,qN]
 refine tkh (i:=13) (v:=?_) rfl ?_ ?_
 rotate_left
 ·try simp only [qA,qS,qZ]
  rintro w ⟨hS1,hS2,hS3,hS4,hS5,hS6⟩
  go_simp
  (try with_reducible rfl)
 try simp only [qA,qS,qZ,Act.put,qT,qO,qN]
 refine tkh (i:=14) (v:=?_) rfl ?_ ?_
 rotate_left
 ·try simp only [qA,qS,qZ]
  rintro w ⟨hS1,hS2,hS3,hS4,hS5,hS6⟩
  go_simp
  (try with_reducible rfl)
 try simp only [qA,qS,qZ,Act.put,qT,qO,qN]
 refine tkh (i:=15) (v:=?_) rfl ?_ ?_
 rotate_left
 ·try simp only [qA,qS,qZ]
  rintro w ⟨hS1,hS2,hS3,hS4,hS5,hS6⟩
  go_simp
  (try with_reducible rfl)
 try simp only [qA,qS,qZ,Act.put,qT,qO,qN]
 clear hHeld
 refine wpAnyH_ready (rs:=[7]) (by kernel_rfl) (by simp) ?_
 refine AllReadyH.cons (o:=_) rfl (fun K hK => ?_) ?_
 ·try simp only [qA,qS,qZ]
  go_simp
  go_at_call 58
  refine (PC.out w5 P5.out).mono ?_
  rintro e v6 ⟨rfl,P6⟩
  have S6:=S3.out v6 P6
  replace P6:=Lib.hid P6
  go_wp2_with fail
  refine hK.out _ _ S6 (fun hHeld => ?_)
  clear hK K hHeld
  try simp only [qA,qS,qZ,Act.put,qT,qO,qN]
  refine wpAnyH_ready (rs:=[8]) (by kernel_rfl) (by simp) ?_
  refine AllReadyH.cons (o:=_) rfl (fun K hK => ?_) ?_
  ·try simp only [qA,qS,qZ]
   go_simp
   go_at_call 14
   refine (nR.out _).mono ?_
   rintro e w' ⟨rfl,rfl⟩
   go_wp2_with fail
   refine hK.out _ _ S6 (fun hHeld => ?_)
   clear hK K hHeld
   try simp only [qA,qS,qZ,Act.put,qT,qO,qN]
   refine wpAnyH_ready (rs:=[16]) (by kernel_rfl) (by simp) ?_
   refine AllReadyH.cons (o:=_) rfl (fun K hK => ?_) ?_
   ·try simp only [qA,qS,qZ]
    go_simp
    go_at_call 59
    refine (DC.out v6 P6.out).mono ?_
    rintro e v7 ⟨rfl,P7⟩
    have S7:=S4.out v7 P7
    replace P7:=Lib.hid P7
    go_wp2_with fail
    refine hK.out _ _ S7 (fun hHeld => ?_)
    clear hK K hHeld
    try simp only [qA,qS,qZ,Act.put,qT,qO,qN]
    refine tkh (i:=17) (v:=?_) rfl ?_ ?_
    rotate_left
    ·try simp only [qA,qS,qZ]
     rintro w ⟨hS1,hS2,hS3,hS4,hS5,hS6⟩
     go_simp
     (try with_reducible rfl)
    try simp only [qA,qS,qZ,Act.put,qT,qO,qN]
    refine tkh (i:=18) (v:=?_) rfl ?_ ?_
    rotate_left
    ·try simp only [qA,qS,qZ]
     rintro w ⟨hS1,hS2,hS3,hS4,hS5,hS6⟩
     go_simp
     (try with_reducible rfl)
    try simp only [qA,qS,qZ,Act.put,qT,qO,qN]
    refine wpAnyH_done (by kernel_rfl) ?_ _
    refine NoPanic.normal ?_
    clear S7
    go_wp2
    go_ret
    exact ⟨rfl,P7.out⟩
   exact AllReadyH.nil
  exact AllReadyH.nil
 exact AllReadyH.nil
include C1 C2 in
set_option maxHeartbeats 3200000 in
theorem armPush (hd:o.dO = 12) (PC:∀ v,P0 v -> Calls Tryz.prog 60 #[.pointer (some ⟨gq,0,none⟩),.int .u64 (H:Int),.int .i64 o.b] v fun e w' => e = .returned (.int .i64 (RR:Int)) /\ P1 w')
  (DC:∀ v,P1 v -> Calls Tryz.prog 61 #[.pointer (some ⟨gr,0,none⟩),.int .u64 (H:Int),.int .i64 o.b,.bool false] v fun e w' => e = .returned (.int .i64 (RR:Int)) /\ P2 w') :
  Calls Tryz.prog 26 #[.pointer (some ⟨b,0,none⟩),.agg o.cells] w fun e w' => e = .returned (.bool true) /\ P2 w':=by
 have nR:=fun w => numC6 w RR
 have S2:∀ v,P0 v -> (v.cell? ⟨b,1,none⟩ = some (.pointer (some ⟨gq,0,none⟩)) /\ v.cell? ⟨b,2,none⟩ = some (ptrO gm) /\ v.cell? ⟨b,4,none⟩ = some (.pointer (some ⟨gr,0,none⟩)) /\ v.cell? ⟨b,5,none⟩ = some (ptrO dm) /\ v.cell? ⟨w.heap.size,2,none⟩ = some (.int .i64 o.b) /\ v.cell? ⟨w.heap.size,3,none⟩ = some (.int .i64 o.c)):=fun v hv => by
  obtain ⟨⟨y0,y1,y2,y4,y5⟩,x0,x1,x2,x3,x4,x5⟩:=C0 v hv
  exact ⟨y1,y2,y4,y5,x2,x3⟩
 have S3:∀ v,P1 v -> (v.cell? ⟨b,1,none⟩ = some (.pointer (some ⟨gq,0,none⟩)) /\ v.cell? ⟨b,2,none⟩ = some (ptrO gm) /\ v.cell? ⟨b,4,none⟩ = some (.pointer (some ⟨gr,0,none⟩)) /\ v.cell? ⟨b,5,none⟩ = some (ptrO dm) /\ v.cell? ⟨w.heap.size,2,none⟩ = some (.int .i64 o.b) /\ v.cell? ⟨w.heap.size,3,none⟩ = some (.int .i64 o.c)):=fun v hv => by
  obtain ⟨⟨y0,y1,y2,y4,y5⟩,x0,x1,x2,x3,x4,x5⟩:=C1 v hv
  exact ⟨y1,y2,y4,y5,x2,x3⟩
 have S4:∀ v,P2 v -> (v.cell? ⟨b,1,none⟩ = some (.pointer (some ⟨gq,0,none⟩)) /\ v.cell? ⟨b,2,none⟩ = some (ptrO gm) /\ v.cell? ⟨b,4,none⟩ = some (.pointer (some ⟨gr,0,none⟩)) /\ v.cell? ⟨b,5,none⟩ = some (ptrO dm) /\ v.cell? ⟨w.heap.size,2,none⟩ = some (.int .i64 o.b) /\ v.cell? ⟨w.heap.size,3,none⟩ = some (.int .i64 o.c)):=fun v hv => by
  obtain ⟨⟨y0,y1,y2,y4,y5⟩,x0,x1,x2,x3,x4,x5⟩:=C2 v hv
  exact ⟨y1,y2,y4,y5,x2,x3⟩
 obtain ⟨w1,hw1⟩:∃ w1,w1 = w.alloc (.cells o.cells 64):=⟨_,rfl⟩
 have B1:Blk w1 w.heap.size 64 o.cells:=by rw [hw1]; exact Blk.new w _ _
 obtain ⟨x0,x1,x2,x3,x4,x5⟩:=op6_cells B1
 rw [<- hw1] at HC
 unfold Op6.cells at HC hw1 ⊢
 rw [hd] at HC hw1 x0 ⊢
 have hdE:=Lib.hid hd
 replace HC:=Lib.hid HC
 replace hw1:=Lib.hid hw1
 replace D0:=Lib.hid D0
 replace C0:=Lib.hid C0
 replace PC:=Lib.hid PC
 replace DC:=Lib.hid DC
 replace S2:=Lib.hid S2
 replace S3:=Lib.hid S3
 replace S4:=Lib.hid S4
 replace nR:=Lib.hid nR
 clear C1 C2
 clear B1 hd
 generalize hN:w.heap.size = N at *
 replace hN:=Lib.hid hN
 go_enter Tryz.func26,Tryz.ntmps26
 go_upto_region 1 with fail
 rw [hN.out, <- hw1.out]
 go_wp2_with fail
 refine HC.out.mono ?_
 rintro e w2 ⟨rfl,hP⟩
 obtain ⟨⟨y0,y1,y2,y4,y5⟩,x0,x1,x2,x3,x4,x5⟩:=C0.out w2 hP
 rw [hdE.out] at x0
 replace hP:=Lib.hid hP
 clear HC hw1
 go_upto_region 20 with fail
 obtain ⟨w5,hw5⟩:∃ w5,w5 = w2.drew:=⟨_,rfl⟩
 have P5:P0 w5:=by rw [hw5]; exact D0.out w2 1 hP.out
 have S5:=S2.out w5 P5
 replace P5:=Lib.hid P5
 clear hP y0 y1 y2 y4 y5 x0 x1 x2 x3 x4 x5 C0 D0
 refine wp_region_noPanic ?_
 refine wp_region_held_drew (S:=fun v => v.cell? ⟨b,1,none⟩ = some (.pointer (some ⟨gq,0,none⟩)) /\ v.cell? ⟨b,2,none⟩ = some (ptrO gm) /\ v.cell? ⟨b,4,none⟩ = some (.pointer (some ⟨gr,0,none⟩)) /\ v.cell? ⟨b,5,none⟩ = some (ptrO dm) /\ v.cell? ⟨N,2,none⟩ = some (.int .i64 o.b) /\ v.cell? ⟨N,3,none⟩ = some (.int .i64 o.c)) (by kernel_rfl) (by rw [<- hw5]; exact S5) (fun hHeld => ?_)
 rw [<- hw5] at hHeld ⊢
 clear hw5
 refine tkh (i:=0) (v:=?_) rfl ?_ ?_
 rotate_left
 ·try simp only [qA,qS,qZ]
  rintro w ⟨hS1,hS2,hS3,hS4,hS5,hS6⟩
  go_simp
  (try with_reducible rfl)
 try simp only [qA,qS,qZ,Act.put,qT,qO,qN]
 refine tkh (i:=1) (v:=?_) rfl ?_ ?_
 rotate_left
 ·try simp only [qA,qS,qZ]
  rintro w ⟨hS1,hS2,hS3,hS4,hS5,hS6⟩
  go_simp
  (try with_reducible rfl)
 try simp only [qA,qS,qZ,Act.put,qT,qO,qN]
 refine tkh (i:=2) (v:=?_) rfl ?_ ?_
 rotate_left
 ·try simp only [qA,qS,qZ]
  rintro w ⟨hS1,hS2,hS3,hS4,hS5,hS6⟩
  go_simp
  (try with_reducible rfl)
 try simp only [qA,qS,qZ,Act.put,qT,qO,qN]
 refine tkh (i:=3) (v:=?_) rfl ?_ ?_
 rotate_left
 ·try simp only [qA,qS,qZ]
  rintro w ⟨hS1,hS2,hS3,hS4,hS5,hS6⟩
  go_simp
  (try with_reducible rfl)
 try simp only [qA,qS,qZ,Act.put,qT,qO,qN]
 refine tkh (i:=4) (v:=?_) rfl ?_ ?_
 rotate_left
 ·try simp only [qA,qS,qZ]
  rintro w ⟨hS1,hS2,hS3,hS4,hS5,hS6⟩
  go_simp
  (try with_reducible rfl)
 try simp only [qA,qS,qZ,Act.put,qT,qO,qN]
 refine tkh (i:=5) (v:=?_) rfl ?_ ?_
 rotate_left
 ·try simp only [qA,qS,qZ]
  rintro w ⟨hS1,hS2,hS3,hS4,hS5,hS6⟩
  go_simp
  (try with_reducible rfl)
 try simp only [qA,qS,qZ,Act.put,qT,qO,qN]
 refine tkh (i:=6) (v:=?_) rfl ?_ ?_
 rotate_left
 ·try simp only [qA,qS,qZ]
  rintro w ⟨hS1,hS2,hS3,hS4,hS5,hS6⟩
  go_simp
  (try with_reducible rfl)
 try simp only [qA,qS,qZ,Act.put,qT,qO,qN]
 refine tkh (i:=9) (v:=?_) rfl ?_ ?_
 rotate_left
 ·try simp only [qA,qS,qZ]
  rintro w ⟨hS1,hS2,hS3,hS4,hS5,hS6⟩
  go_simp
  (try with_reducible rfl)
 try simp only [qA,qS,qZ,Act.put,qT,qO,qN]
 refine tkh (i:=10) (v:=?_) rfl ?_ ?_
 rotate_left
 ·try simp only [qA,qS,qZ]
  rintro w ⟨hS1,hS2,hS3,hS4,hS5,hS6⟩
  go_simp
  (try with_reducible rfl)
 try simp only [qA,qS,qZ,Act.put,qT,qO,qN]
 refine tkh (i:=11) (v:=?_) rfl ?_ ?_
 rotate_left
 ·try simp only [qA,qS,qZ]
  rintro w ⟨hS1,hS2,hS3,hS4,hS5,hS6⟩
  go_simp
  (try with_reducible rfl)
 try simp only [qA,qS,qZ,Act.put,qT,qO,qN]
 refine tkh (i:=12) (v:=?_) rfl ?_ ?_
 rotate_left
 ·try simp only [qA,qS,qZ]
  rintro w ⟨hS1,hS2,hS3,hS4,hS5,hS6⟩
  go_simp
  (try with_reducible rfl)
 try simp only [qA,qS,qZ,Act.put,qT,qO,qN]
 refine tkh (i:=13) (v:=?_) rfl ?_ ?_
 rotate_left
 ·try simp only [qA,qS,qZ]
  rintro w ⟨hS1,hS2,hS3,hS4,hS5,hS6⟩
  go_simp
  (try with_reducible rfl)
 try simp only [qA,qS,qZ,Act.put,qT,qO,qN]
 refine tkh (i:=14) (v:=?_) rfl ?_ ?_
 rotate_left
 ·try simp only [qA,qS,qZ]
  rintro w ⟨hS1,hS2,hS3,hS4,hS5,hS6⟩
  go_simp
  (try with_reducible rfl)
 try simp only [qA,qS,qZ,Act.put,qT,qO,qN]
 refine tkh (i:=15) (v:=?_) rfl ?_ ?_
 rotate_left
 ·try simp only [qA,qS,qZ]
  rintro w ⟨hS1,hS2,hS3,hS4,hS5,hS6⟩
  go_simp
  (try with_reducible rfl)
 try simp only [qA,qS,qZ,Act.put,qT,qO,qN]
 clear hHeld
 refine wpAnyH_ready (rs:=[7]) (by kernel_rfl) (by simp) ?_
 refine AllReadyH.cons (o:=_) rfl (fun K hK => ?_) ?_
 ·try simp only [qA,qS,qZ]
  go_simp
  go_at_call 60
  refine (PC.out w5 P5.out).mono ?_
  rintro e v6 ⟨rfl,P6⟩
  have S6:=S3.out v6 P6
  replace P6:=Lib.hid P6
  go_wp2_with fail
  refine hK.out _ _ S6 (fun hHeld => ?_)
  clear hK K hHeld
  try simp only [qA,qS,qZ,Act.put,qT,qO,qN]
  refine wpAnyH_ready (rs:=[8]) (by kernel_rfl) (by simp) ?_
  refine AllReadyH.cons (o:=_) rfl (fun K hK => ?_) ?_
  ·try simp only [qA,qS,qZ]
   go_simp
   go_at_call 14
   refine (nR.out _).mono ?_
   rintro e w' ⟨rfl,rfl⟩
   go_wp2_with fail
   refine hK.out _ _ S6 (fun hHeld => ?_)
   clear hK K hHeld
   try simp only [qA,qS,qZ,Act.put,qT,qO,qN]
   refine wpAnyH_ready (rs:=[16]) (by kernel_rfl) (by simp) ?_
   refine AllReadyH.cons (o:=_) rfl (fun K hK => ?_) ?_
   ·try simp only [qA,qS,qZ]
    go_simp
    go_at_call 61
    refine (DC.out v6 P6.out).mono ?_
    rintro e v7 ⟨rfl,P7⟩
    have S7:=S4.out v7 P7
    replace P7:=Lib.hid P7
    go_wp2_with fail
    refine hK.out _ _ S7 (fun hHeld => ?_)
    clear hK K hHeld
    try simp only [qA,qS,qZ,Act.put,qT,qO,qN]
    refine tkh (i:=17) (v:=?_) rfl ?_ ?_
    rotate_left
    ·try simp only [qA,qS,qZ]
     rintro w ⟨hS1,hS2,hS3,hS4,hS5,hS6⟩
     go_simp
     (try with_reducible rfl)
    try simp only [qA,qS,qZ,Act.put,qT,qO,qN]
    refine tkh (i:=18) (v:=?_) rfl ?_ ?_
    rotate_left
    ·try simp only [qA,qS,qZ]
     rintro w ⟨hS1,hS2,hS3,hS4,hS5,hS6⟩
     go_simp
     (try with_reducible rfl)
    try simp only [qA,qS,qZ,Act.put,qT,qO,qN]
    refine wpAnyH_done (by kernel_rfl) ?_ _
    refine NoPanic.normal ?_
    clear S7
    go_wp2
    go_ret
    exact ⟨rfl,P7.out⟩
   exact AllReadyH.nil
  exact AllReadyH.nil
 exact AllReadyH.nil
include C1 C2 in
set_option maxHeartbeats 3200000 in
theorem armBalance (hd:o.dO = 7) {g d:Nat} (hg:gm = some g) (hdm:dm = some d) (B:Int) (BC:∀ v,Calls Tryz.prog 30 #[.int .i64 o.b] v fun e v' => e = .returned (.int .i64 B) /\ v = v') (PC:∀ v,P0 v -> Calls Tryz.prog 19 #[.pointer (some ⟨g,0,none⟩),.int .i64 o.c,.int .i64 o.b,.nilFunc] v fun e w' => e = .returned (.int .i64 (RR:Int)) /\ P1 w')
  (DC:∀ v,P1 v -> Calls Tryz.prog 29 #[.pointer (some ⟨d,0,none⟩),.int .i64 o.c,.int .i64 B] v fun e w' => (∃ A cp,e = .returned (.slice A RR cp)) /\ P2 w') :
  Calls Tryz.prog 26 #[.pointer (some ⟨b,0,none⟩),.agg o.cells] w fun e w' => e = .returned (.bool true) /\ P2 w':=by
 subst hg hdm
 have nR:=fun w => numC6 w RR
 have S2:∀ v,P0 v -> (v.cell? ⟨b,1,none⟩ = some (.pointer (some ⟨gq,0,none⟩)) /\ v.cell? ⟨b,2,none⟩ = some (ptrO (some g)) /\ v.cell? ⟨b,4,none⟩ = some (.pointer (some ⟨gr,0,none⟩)) /\ v.cell? ⟨b,5,none⟩ = some (ptrO (some d)) /\ v.cell? ⟨w.heap.size,2,none⟩ = some (.int .i64 o.b) /\ v.cell? ⟨w.heap.size,3,none⟩ = some (.int .i64 o.c)):=fun v hv => by
  obtain ⟨⟨y0,y1,y2,y4,y5⟩,x0,x1,x2,x3,x4,x5⟩:=C0 v hv
  exact ⟨y1,y2,y4,y5,x2,x3⟩
 have S3:∀ v,P1 v -> (v.cell? ⟨b,1,none⟩ = some (.pointer (some ⟨gq,0,none⟩)) /\ v.cell? ⟨b,2,none⟩ = some (ptrO (some g)) /\ v.cell? ⟨b,4,none⟩ = some (.pointer (some ⟨gr,0,none⟩)) /\ v.cell? ⟨b,5,none⟩ = some (ptrO (some d)) /\ v.cell? ⟨w.heap.size,2,none⟩ = some (.int .i64 o.b) /\ v.cell? ⟨w.heap.size,3,none⟩ = some (.int .i64 o.c)):=fun v hv => by
  obtain ⟨⟨y0,y1,y2,y4,y5⟩,x0,x1,x2,x3,x4,x5⟩:=C1 v hv
  exact ⟨y1,y2,y4,y5,x2,x3⟩
 have S4:∀ v,P2 v -> (v.cell? ⟨b,1,none⟩ = some (.pointer (some ⟨gq,0,none⟩)) /\ v.cell? ⟨b,2,none⟩ = some (ptrO (some g)) /\ v.cell? ⟨b,4,none⟩ = some (.pointer (some ⟨gr,0,none⟩)) /\ v.cell? ⟨b,5,none⟩ = some (ptrO (some d)) /\ v.cell? ⟨w.heap.size,2,none⟩ = some (.int .i64 o.b) /\ v.cell? ⟨w.heap.size,3,none⟩ = some (.int .i64 o.c)):=fun v hv => by
  obtain ⟨⟨y0,y1,y2,y4,y5⟩,x0,x1,x2,x3,x4,x5⟩:=C2 v hv
  exact ⟨y1,y2,y4,y5,x2,x3⟩
 obtain ⟨w1,hw1⟩:∃ w1,w1 = w.alloc (.cells o.cells 64):=⟨_,rfl⟩
 have B1:Blk w1 w.heap.size 64 o.cells:=by rw [hw1]; exact Blk.new w _ _
 obtain ⟨x0,x1,x2,x3,x4,x5⟩:=op6_cells B1
 rw [<- hw1] at HC
 unfold Op6.cells at HC hw1 ⊢
 rw [hd] at HC hw1 x0 ⊢
 have hdE:=Lib.hid hd
 replace HC:=Lib.hid HC
 replace hw1:=Lib.hid hw1
 replace D0:=Lib.hid D0
 replace C0:=Lib.hid C0
 replace PC:=Lib.hid PC
 replace DC:=Lib.hid DC
 replace S2:=Lib.hid S2
 replace S3:=Lib.hid S3
 replace S4:=Lib.hid S4
 replace nR:=Lib.hid nR
 clear C1 C2
 replace BC:=Lib.hid BC
 clear B1 hd
 generalize hN:w.heap.size = N at *
 replace hN:=Lib.hid hN
 go_enter Tryz.func26,Tryz.ntmps26
 go_upto_region 1 with fail
 rw [hN.out, <- hw1.out]
 go_wp2_with fail
 refine HC.out.mono ?_
 rintro e w2 ⟨rfl,hP⟩
 obtain ⟨⟨y0,y1,y2,y4,y5⟩,x0,x1,x2,x3,x4,x5⟩:=C0.out w2 hP
 rw [hdE.out] at x0
 replace hP:=Lib.hid hP
 clear HC hw1
 go_upto_region 16 with fail
 obtain ⟨w5,hw5⟩:∃ w5,w5 = w2.drew:=⟨_,rfl⟩
 have P5:P0 w5:=by rw [hw5]; exact D0.out w2 1 hP.out
 have S5:=S2.out w5 P5
 replace P5:=Lib.hid P5
 clear hP y0 y1 y2 y4 y5 x0 x1 x2 x3 x4 x5 C0 D0
 refine wp_region_noPanic ?_
 refine wp_region_held_drew (S:=fun v => v.cell? ⟨b,1,none⟩ = some (.pointer (some ⟨gq,0,none⟩)) /\ v.cell? ⟨b,2,none⟩ = some (ptrO (some g)) /\ v.cell? ⟨b,4,none⟩ = some (.pointer (some ⟨gr,0,none⟩)) /\ v.cell? ⟨b,5,none⟩ = some (ptrO (some d)) /\ v.cell? ⟨N,2,none⟩ = some (.int .i64 o.b) /\ v.cell? ⟨N,3,none⟩ = some (.int .i64 o.c)) (by kernel_rfl) (by rw [<- hw5]; exact S5) (fun hHeld => ?_)
 rw [<- hw5] at hHeld ⊢
 clear hw5
 refine tkh (i:=0) (v:=?_) rfl ?_ ?_
 rotate_left
 ·try simp only [qA,qS,qZ]
  rintro w ⟨hS1,hS2,hS3,hS4,hS5,hS6⟩
  go_simp
  (try with_reducible rfl)
 try simp only [qA,qS,qZ,Act.put,qT,qO,qN]
 refine tkh (i:=1) (v:=?_) rfl ?_ ?_
 rotate_left
 ·try simp only [qA,qS,qZ]
  rintro w ⟨hS1,hS2,hS3,hS4,hS5,hS6⟩
  go_simp
  (try with_reducible rfl)
 try simp only [qA,qS,qZ,Act.put,qT,qO,qN]
 refine tkh (i:=2) (v:=?_) rfl ?_ ?_
 rotate_left
 ·try simp only [qA,qS,qZ]
  rintro w ⟨hS1,hS2,hS3,hS4,hS5,hS6⟩
  go_simp
  (try with_reducible rfl)
 try simp only [qA,qS,qZ,Act.put,qT,qO,qN]
 refine tkh (i:=3) (v:=?_) rfl ?_ ?_
 rotate_left
 ·try simp only [qA,qS,qZ]
  rintro w ⟨hS1,hS2,hS3,hS4,hS5,hS6⟩
  go_simp
  (try with_reducible rfl)
 try simp only [qA,qS,qZ,Act.put,qT,qO,qN]
 refine tkh (i:=4) (v:=?_) rfl ?_ ?_
 rotate_left
 ·try simp only [qA,qS,qZ]
  rintro w ⟨hS1,hS2,hS3,hS4,hS5,hS6⟩
  go_simp
  (try with_reducible rfl)
 try simp only [qA,qS,qZ,Act.put,qT,qO,qN]
 refine tkh (i:=5) (v:=?_) rfl ?_ ?_
 rotate_left
 ·try simp only [qA,qS,qZ]
  rintro w ⟨hS1,hS2,hS3,hS4,hS5,hS6⟩
  go_simp
  (try with_reducible rfl)
 try simp only [qA,qS,qZ,Act.put,qT,qO,qN]
 refine tkh (i:=6) (v:=?_) rfl ?_ ?_
 rotate_left
 ·try simp only [qA,qS,qZ]
  rintro w ⟨hS1,hS2,hS3,hS4,hS5,hS6⟩
  go_simp
  (try with_reducible rfl)
 try simp only [qA,qS,qZ,Act.put,qT,qO,qN]
 refine tkh (i:=7) (v:=?_) rfl ?_ ?_
 rotate_left
 ·try simp only [qA,qS,qZ]
  rintro w ⟨hS1,hS2,hS3,hS4,hS5,hS6⟩
  go_simp
  (try with_reducible rfl)
 try simp only [qA,qS,qZ,Act.put,qT,qO,qN]
 refine tkh (i:=9) (v:=?_) rfl ?_ ?_
 rotate_left
 ·try simp only [qA,qS,qZ]
  rintro w ⟨hS1,hS2,hS3,hS4,hS5,hS6⟩
  go_simp
  (try with_reducible rfl)
 try simp only [qA,qS,qZ,Act.put,qT,qO,qN]
 refine tkh (i:=10) (v:=?_) rfl ?_ ?_
 rotate_left
 ·try simp only [qA,qS,qZ]
  rintro w ⟨hS1,hS2,hS3,hS4,hS5,hS6⟩
  go_simp
  (try with_reducible rfl)
 try simp only [qA,qS,qZ,Act.put,qT,qO,qN]
 refine tkh (i:=11) (v:=?_) rfl ?_ ?_
 rotate_left
 ·try simp only [qA,qS,qZ]
  rintro w ⟨hS1,hS2,hS3,hS4,hS5,hS6⟩
  go_simp
  (try with_reducible rfl)
 try simp only [qA,qS,qZ,Act.put,qT,qO,qN]
 refine tkh (i:=12) (v:=?_) rfl ?_ ?_
 rotate_left
 ·try simp only [qA,qS,qZ]
  rintro w ⟨hS1,hS2,hS3,hS4,hS5,hS6⟩
  go_simp
  (try with_reducible rfl)
 try simp only [qA,qS,qZ,Act.put,qT,qO,qN]
 refine tkh (i:=13) (v:=?_) rfl ?_ ?_
 rotate_left
 ·try simp only [qA,qS,qZ]
  rintro w ⟨hS1,hS2,hS3,hS4,hS5,hS6⟩
  go_simp
  (try with_reducible rfl)
 try simp only [qA,qS,qZ,Act.put,qT,qO,qN]
 refine tkh (i:=14) (v:=?_) rfl ?_ ?_
 rotate_left
 ·try simp only [qA,qS,qZ]
  rintro w ⟨hS1,hS2,hS3,hS4,hS5,hS6⟩
  go_simp
  (try with_reducible rfl)
 try simp only [qA,qS,qZ,Act.put,qT,qO,qN]
 refine tkh (i:=15) (v:=?_) rfl ?_ ?_
 rotate_left
 ·try simp only [qA,qS,qZ]
  rintro w ⟨hS1,hS2,hS3,hS4,hS5,hS6⟩
  go_simp
  (try with_reducible rfl)
 try simp only [qA,qS,qZ,Act.put,qT,qO,qN]
 refine tkh (i:=16) (v:=?_) rfl ?_ ?_
 rotate_left
 ·try simp only [qA,qS,qZ]
  rintro w ⟨hS1,hS2,hS3,hS4,hS5,hS6⟩
  go_simp
  (try with_reducible rfl)
 try simp only [qA,qS,qZ,Act.put,qT,qO,qN]
 clear hHeld
 refine wpAnyH_ready (rs:=[8]) (by kernel_rfl) (by simp) ?_
 refine AllReadyH.cons (o:=_) rfl (fun K hK => ?_) ?_
 ·try simp only [qA,qS,qZ]
  go_simp
  go_at_call 19
  refine (PC.out w5 P5.out).mono ?_
  rintro e v6 ⟨rfl,P6⟩
  have S6:=S3.out v6 P6
  replace P6:=Lib.hid P6
  go_wp2_with fail
  refine hK.out _ _ S6 (fun hHeld => ?_)
  clear hK K hHeld
  try simp only [qA,qS,qZ,Act.put,qT,qO,qN]
  refine wpAnyH_ready (rs:=[17]) (by kernel_rfl) (by simp) ?_
  refine AllReadyH.cons (o:=_) rfl (fun K hK => ?_) ?_
  ·try simp only [qA,qS,qZ]
   go_simp
   go_at_call 30
   refine (BC.out _).mono ?_
   rintro e w' ⟨rfl,rfl⟩
   go_wp2_with fail
   refine hK.out _ _ S6 (fun hHeld => ?_)
   clear hK K hHeld
   try simp only [qA,qS,qZ,Act.put,qT,qO,qN]
   refine wpAnyH_ready (rs:=[18]) (by kernel_rfl) (by simp) ?_
   refine AllReadyH.cons (o:=_) rfl (fun K hK => ?_) ?_
   ·try simp only [qA,qS,qZ]
    go_simp
    go_at_call 29
    refine (DC.out v6 P6.out).mono ?_
    rintro e v7 ⟨⟨A,cp,rfl⟩,P7⟩
    have S7:=S4.out v7 P7
    replace P7:=Lib.hid P7
    go_wp2_with fail
    refine hK.out _ _ S7 (fun hHeld => ?_)
    clear hK K hHeld
    try simp only [qA,qS,qZ,Act.put,qT,qO,qN]
    refine tkh (i:=19) (v:=?_) rfl ?_ ?_
    rotate_left
    ·try simp only [qA,qS,qZ]
     rintro w ⟨hS1,hS2,hS3,hS4,hS5,hS6⟩
     go_simp
     (try with_reducible rfl)
    try simp only [qA,qS,qZ,Act.put,qT,qO,qN]
    refine tkh (i:=20) (v:=?_) rfl ?_ ?_
    rotate_left
    ·try simp only [qA,qS,qZ]
     rintro w ⟨hS1,hS2,hS3,hS4,hS5,hS6⟩
     go_simp
     (try with_reducible rfl)
    try simp only [qA,qS,qZ,Act.put,qT,qO,qN]
    refine tkh (i:=21) (v:=?_) rfl ?_ ?_
    rotate_left
    ·try simp only [qA,qS,qZ]
     rintro w ⟨hS1,hS2,hS3,hS4,hS5,hS6⟩
     go_simp
     (try with_reducible rfl)
    try simp only [qA,qS,qZ,Act.put,qT,qO,qN]
    refine wpAnyH_done (by kernel_rfl) ?_ _
    refine NoPanic.normal ?_
    clear S7
    go_wp2
    go_ret
    exact ⟨rfl,P7.out⟩
   exact AllReadyH.nil
  exact AllReadyH.nil
 exact AllReadyH.nil
set_option maxHeartbeats 3200000 in
theorem armGive (hd:o.dO = 3) (sk ck:Nat) (WC:∀ v,P0 v -> Calls Tryz.prog 52 #[.pointer (some ⟨gr,0,none⟩),.int .u64 (H:Int)] v fun e w' => (∃ q:Int,e = .returned (.tuple #[.int .i64 (if sk = 0 then -1 else ((3 * ck + (sk - 1):Nat):Int)),.int .i64 q])) /\ v = w')
  (GO:∀ v,P0 v -> sk ≠ 0 -> P2 v) (PC:∀ v,P0 v -> sk = 0 -> Calls Tryz.prog 53 #[.pointer (some ⟨gs,0,none⟩),.int .u64 (H:Int)] v fun e w' => e = .returned (.int .i64 (RR:Int)) /\ (w'.cell? ⟨b,0,none⟩ = some (.pointer (some ⟨gs,0,none⟩)) /\ w'.cell? ⟨b,4,none⟩ = some (.pointer (some ⟨gr,0,none⟩))) /\ P1 w')
  (DC:∀ v,P1 v -> Calls Tryz.prog 54 #[.pointer (some ⟨gr,0,none⟩),.int .u64 (H:Int)] v fun e w' => e = .returned (.int .i64 (RR:Int)) /\ (w'.cell? ⟨b,0,none⟩ = some (.pointer (some ⟨gs,0,none⟩)) /\ w'.cell? ⟨b,4,none⟩ = some (.pointer (some ⟨gr,0,none⟩))) /\ P2 w') :
  Calls Tryz.prog 26 #[.pointer (some ⟨b,0,none⟩),.agg o.cells] w fun e w' => e = .returned (.bool true) /\ P2 w':=by
 have nR:=fun w => numC6 w RR
 obtain ⟨w1,hw1⟩:∃ w1,w1 = w.alloc (.cells o.cells 64):=⟨_,rfl⟩
 have B1:Blk w1 w.heap.size 64 o.cells:=by rw [hw1]; exact Blk.new w _ _
 obtain ⟨x0,x1,x2,x3,x4,x5⟩:=op6_cells B1
 rw [<- hw1] at HC
 unfold Op6.cells at HC hw1 ⊢
 rw [hd] at HC hw1 x0 ⊢
 have hdE:=Lib.hid hd
 replace HC:=Lib.hid HC
 replace hw1:=Lib.hid hw1
 replace D0:=Lib.hid D0
 replace C0:=Lib.hid C0
 replace PC:=Lib.hid PC
 replace DC:=Lib.hid DC
 replace WC:=Lib.hid WC
 replace GO:=Lib.hid GO
 replace nR:=Lib.hid nR
 clear B1 hd
 generalize hN:w.heap.size = N at *
 replace hN:=Lib.hid hN
 go_enter Tryz.func26,Tryz.ntmps26
 go_upto_region 1 with fail
 rw [hN.out, <- hw1.out]
 go_wp2_with fail
 refine HC.out.mono ?_
 rintro e w2 ⟨rfl,hP⟩
 obtain ⟨⟨y0,y1,y2,y4,y5⟩,x0,x1,x2,x3,x4,x5⟩:=C0.out w2 hP
 rw [hdE.out] at x0
 replace hP:=Lib.hid hP
 clear HC hw1
 have WC2:=WC.out w2 hP.out
 by_cases hs:sk = 0
 rotate_left
 ·rw [if_neg hs] at WC2
  obtain ⟨m,hm⟩:∃ m:Nat,m = 3 * ck + (sk - 1):=⟨_,rfl⟩
  rw [<- hm] at WC2
  have d0:decide ((0:Int) <= (m:Int)) = true:=decide_eq_true (by omega)
  clear hm
  have hQ:Hid (P2 w2.drew):=Lib.hid (GO.out w2.drew (D0.out w2 1 hP.out) hs)
  replace WC2:=Lib.hid WC2
  clear hs WC PC DC GO
  go_wp2_with fail
  refine WC2.out.mono ?_
  rintro e w3 ⟨⟨q,rfl⟩,rfl⟩
  go_upto_region 8 with fail
  go_region
  go_wp2
  go_ret
  exact ⟨rfl,hQ.out⟩
 ·rw [if_pos hs] at WC2
  replace WC2:=Lib.hid WC2
  replace hs:=Lib.hid hs
  clear WC GO
  go_wp2_with fail
  refine WC2.out.mono ?_
  rintro e w3 ⟨⟨q,rfl⟩,rfl⟩
  clear WC2
  go_upto_region 8 with fail
  obtain ⟨w5,hw5⟩:∃ w5,w5 = w2.drew:=⟨_,rfl⟩
  have P5:P0 w5:=by rw [hw5]; exact D0.out w2 1 hP.out
  obtain ⟨⟨y0,y1,y2,y4,y5⟩,x0,x1,x2,x3,x4,x5⟩:=C0.out w5 P5
  have S5:=And.intro y0 y4
  have PC5:=Lib.hid (PC.out w5 P5 hs.out)
  clear P5 hP y0 y1 y2 y4 y5 x0 x1 x2 x3 x4 x5 C0 D0 PC
  refine wp_region_noPanic ?_
  refine wp_region_held_drew (S:=fun v => v.cell? ⟨b,0,none⟩ = some (.pointer (some ⟨gs,0,none⟩)) /\ v.cell? ⟨b,4,none⟩ = some (.pointer (some ⟨gr,0,none⟩))) (by kernel_rfl) (by rw [<- hw5]; exact S5) (fun hHeld => ?_)
  rw [<- hw5] at hHeld ⊢
  clear hw5 S5
  refine tkh (i:=0) (v:=?_) rfl ?_ ?_
  rotate_left
  ·try simp only [qA,qS,qZ]
   rintro w ⟨hS1,hS2⟩
   go_simp
   (try with_reducible rfl)
  try simp only [qA,qS,qZ,Act.put,qT,qO,qN]
  refine tkh (i:=1) (v:=?_) rfl ?_ ?_
  rotate_left
  ·try simp only [qA,qS,qZ]
   rintro w ⟨hS1,hS2⟩
   go_simp
   (try with_reducible rfl)
  try simp only [qA,qS,qZ,Act.put,qT,qO,qN]
  refine tkh (i:=2) (v:=?_) rfl ?_ ?_
  rotate_left
  ·try simp only [qA,qS,qZ]
   rintro w ⟨hS1,hS2⟩
   go_simp
   (try with_reducible rfl)
  try simp only [qA,qS,qZ,Act.put,qT,qO,qN]
  refine tkh (i:=3) (v:=?_) rfl ?_ ?_
  rotate_left
  ·try simp only [qA,qS,qZ]
   rintro w ⟨hS1,hS2⟩
   go_simp
   (try with_reducible rfl)
  try simp only [qA,qS,qZ,Act.put,qT,qO,qN]
  refine tkh (i:=4) (v:=?_) rfl ?_ ?_
  rotate_left
  ·try simp only [qA,qS,qZ]
   rintro w ⟨hS1,hS2⟩
   go_simp
   (try with_reducible rfl)
  try simp only [qA,qS,qZ,Act.put,qT,qO,qN]
  refine tkh (i:=5) (v:=?_) rfl ?_ ?_
  rotate_left
  ·try simp only [qA,qS,qZ]
   rintro w ⟨hS1,hS2⟩
   go_simp
   (try with_reducible rfl)
  try simp only [qA,qS,qZ,Act.put,qT,qO,qN]
  refine tkh (i:=6) (v:=?_) rfl ?_ ?_
  rotate_left
  ·try simp only [qA,qS,qZ]
   rintro w ⟨hS1,hS2⟩
   go_simp
   (try with_reducible rfl)
  try simp only [qA,qS,qZ,Act.put,qT,qO,qN]
  refine tkh (i:=7) (v:=?_) rfl ?_ ?_
  rotate_left
  ·try simp only [qA,qS,qZ]
   rintro w ⟨hS1,hS2⟩
   go_simp
   (try with_reducible rfl)
  try simp only [qA,qS,qZ,Act.put,qT,qO,qN]
  refine tkh (i:=10) (v:=?_) rfl ?_ ?_
  rotate_left
  ·try simp only [qA,qS,qZ]
   rintro w ⟨hS1,hS2⟩
   go_simp
   (try with_reducible rfl)
  try simp only [qA,qS,qZ,Act.put,qT,qO,qN]
  refine tkh (i:=11) (v:=?_) rfl ?_ ?_
  rotate_left
  ·try simp only [qA,qS,qZ]
   rintro w ⟨hS1,hS2⟩
   go_simp
   (try with_reducible rfl)
  try simp only [qA,qS,qZ,Act.put,qT,qO,qN]
  refine tkh (i:=12) (v:=?_) rfl ?_ ?_
  rotate_left
  ·try simp only [qA,qS,qZ]
   rintro w ⟨hS1,hS2⟩
   go_simp
   (try with_reducible rfl)
  try simp only [qA,qS,qZ,Act.put,qT,qO,qN]
  refine tkh (i:=13) (v:=?_) rfl ?_ ?_
  rotate_left
  ·try simp only [qA,qS,qZ]
   rintro w ⟨hS1,hS2⟩
   go_simp
   (try with_reducible rfl)
  try simp only [qA,qS,qZ,Act.put,qT,qO,qN]
  refine tkh (i:=14) (v:=?_) rfl ?_ ?_
  rotate_left
  ·try simp only [qA,qS,qZ]
   rintro w ⟨hS1,hS2⟩
   go_simp
   (try with_reducible rfl)
  try simp only [qA,qS,qZ,Act.put,qT,qO,qN]
  clear hHeld
  refine wpAnyH_ready (rs:=[8]) (by kernel_rfl) (by simp) ?_
  refine AllReadyH.cons (o:=_) rfl (fun K hK => ?_) ?_
  ·try simp only [qA,qS,qZ]
   go_simp
   go_at_call 53
   refine PC5.out.mono ?_
   rintro e v6 ⟨rfl,S6,P6⟩
   have DC6:=Lib.hid (DC.out v6 P6)
   clear P6
   go_wp2_with fail
   refine hK.out _ _ S6 (fun hHeld => ?_)
   clear hK K hHeld
   try simp only [qA,qS,qZ,Act.put,qT,qO,qN]
   refine wpAnyH_ready (rs:=[9]) (by kernel_rfl) (by simp) ?_
   refine AllReadyH.cons (o:=_) rfl (fun K hK => ?_) ?_
   ·try simp only [qA,qS,qZ]
    go_simp
    go_at_call 14
    refine (nR.out _).mono ?_
    rintro e w' ⟨rfl,rfl⟩
    go_wp2_with fail
    refine hK.out _ _ S6 (fun hHeld => ?_)
    clear hK K hHeld
    try simp only [qA,qS,qZ,Act.put,qT,qO,qN]
    refine wpAnyH_ready (rs:=[15]) (by kernel_rfl) (by simp) ?_
    refine AllReadyH.cons (o:=_) rfl (fun K hK => ?_) ?_
    ·try simp only [qA,qS,qZ]
     go_simp
     go_at_call 54
     refine DC6.out.mono ?_
     rintro e v7 ⟨rfl,S7,P7⟩
     replace P7:=Lib.hid P7
     go_wp2_with fail
     refine hK.out _ _ S7 (fun hHeld => ?_)
     clear hK K hHeld
     try simp only [qA,qS,qZ,Act.put,qT,qO,qN]
     refine tkh (i:=16) (v:=?_) rfl ?_ ?_
     rotate_left
     ·try simp only [qA,qS,qZ]
      rintro w ⟨hS1,hS2⟩
      go_simp
      (try with_reducible rfl)
     try simp only [qA,qS,qZ,Act.put,qT,qO,qN]
     refine tkh (i:=17) (v:=?_) rfl ?_ ?_
     rotate_left
     ·try simp only [qA,qS,qZ]
      rintro w ⟨hS1,hS2⟩
      go_simp
      (try with_reducible rfl)
     try simp only [qA,qS,qZ,Act.put,qT,qO,qN]
     refine tkh (i:=18) (v:=?_) rfl ?_ ?_
     rotate_left
     ·try simp only [qA,qS,qZ]
      rintro w ⟨hS1,hS2⟩
      go_simp
      (try with_reducible rfl)
     try simp only [qA,qS,qZ,Act.put,qT,qO,qN]
     refine wpAnyH_done (by kernel_rfl) ?_ _
     refine NoPanic.normal ?_
     clear S7
     go_wp2
     go_ret
     exact ⟨rfl,P7.out⟩
    exact AllReadyH.nil
   exact AllReadyH.nil
  exact AllReadyH.nil
set_option maxHeartbeats 3200000 in
theorem armElse (hd:o.dO ≠ 1 /\ o.dO ≠ 2 /\ o.dO ≠ 3 /\ o.dO ≠ 4 /\ o.dO ≠ 5 /\ o.dO ≠ 6 /\ o.dO ≠ 7 /\ o.dO ≠ 10 /\ o.dO ≠ 12) (GO:∀ v,P0 v -> P2 v) :
  Calls Tryz.prog 26 #[.pointer (some ⟨b,0,none⟩),.agg o.cells] w fun e w' => e = .returned (.bool true) /\ P2 w':=by
 obtain ⟨d1,d2,d3,d4,d5,d6,d7,d10,d12⟩:=hd
 obtain ⟨w1,hw1⟩:∃ w1,w1 = w.alloc (.cells o.cells 64):=⟨_,rfl⟩
 have B1:Blk w1 w.heap.size 64 o.cells:=by rw [hw1]; exact Blk.new w _ _
 obtain ⟨x0,x1,x2,x3,x4,x5⟩:=op6_cells B1
 rw [<- hw1] at HC
 unfold Op6.cells at HC hw1 ⊢
 replace HC:=Lib.hid HC
 replace hw1:=Lib.hid hw1
 replace C0:=Lib.hid C0
 replace GO:=Lib.hid GO
 clear B1 D0
 generalize hN:w.heap.size = N at *
 replace hN:=Lib.hid hN
 have f1:(o.dO == 1) = false:=by rw [beq_eq_false_iff_ne]; exact d1
 have h1:decide (o.dO = 1) = false:=decide_eq_false d1
 have f2:(o.dO == 2) = false:=by rw [beq_eq_false_iff_ne]; exact d2
 have h2:decide (o.dO = 2) = false:=decide_eq_false d2
 have f3:(o.dO == 3) = false:=by rw [beq_eq_false_iff_ne]; exact d3
 have h3:decide (o.dO = 3) = false:=decide_eq_false d3
 have f4:(o.dO == 4) = false:=by rw [beq_eq_false_iff_ne]; exact d4
 have h4:decide (o.dO = 4) = false:=decide_eq_false d4
 have f5:(o.dO == 5) = false:=by rw [beq_eq_false_iff_ne]; exact d5
 have h5:decide (o.dO = 5) = false:=decide_eq_false d5
 have f6:(o.dO == 6) = false:=by rw [beq_eq_false_iff_ne]; exact d6
 have h6:decide (o.dO = 6) = false:=decide_eq_false d6
 have f7:(o.dO == 7) = false:=by rw [beq_eq_false_iff_ne]; exact d7
 have h7:decide (o.dO = 7) = false:=decide_eq_false d7
 have f10:(o.dO == 10) = false:=by rw [beq_eq_false_iff_ne]; exact d10
 have h10:decide (o.dO = 10) = false:=decide_eq_false d10
 have f12:(o.dO == 12) = false:=by rw [beq_eq_false_iff_ne]; exact d12
 have h12:decide (o.dO = 12) = false:=decide_eq_false d12
 go_enter Tryz.func26,Tryz.ntmps26
 go_upto_region 1 with fail
 rw [hN.out, <- hw1.out]
 go_wp2_with fail
 refine HC.out.mono ?_
 rintro e w2 ⟨rfl,hP⟩
 obtain ⟨⟨y0,y1,y2,y4,y5⟩,x0,x1,x2,x3,x4,x5⟩:=C0.out w2 hP
 have hQ:=Lib.hid (GO.out w2 hP)
 clear hP HC hw1
 go_wp2
 go_ret
 exact ⟨rfl,hQ.out⟩
end
theorem nodup_sub:∀ {l m:List Nat},l.Nodup -> (∀ a ∈ l,a ∈ m) -> l.length <= m.length
 | [],m,_,_ => Nat.zero_le _
 | a :: l,m,hd,hs => by
  obtain ⟨h1,h2⟩:=List.nodup_cons.1 hd
  have hm:=hs a (List.mem_cons_self ..)
  have:=nodup_sub (m:=m.erase a) h2 fun b hb => (List.mem_erase_of_ne fun e => h1 (by rw [<- e]; exact hb)).2 (hs b (List.mem_cons_of_mem _ hb))
  have e:=List.length_erase_of_mem hm
  have hp : 0 < m.length:=List.length_pos_iff.2 fun e => by rw [e] at hm; cases hm
  rw [List.length_cons]
  omega
def dbalN (s:St) (hot warm x:Int):Nat -> (Nat -> Nat -> List Nat) -> List Nat -> List Nat × (Nat -> Nat -> List Nat) × List Nat
 | 0,Ls,act => ([],Ls,act)
 | n + 1,Ls,act => if dueA (fun H => decide (H ∈ act)) Ls hot warm x = 0 then ([],Ls,act) else
   (tailX Ls x (dueA (fun H => decide (H ∈ act)) Ls hot warm x:Int) :: (dbalN s hot warm x n (shiftN qc s Ls (tailX Ls x (dueA (fun H => decide (H ∈ act)) Ls hot warm x:Int)) (if tailX Ls x (dueA (fun H => decide (H ∈ act)) Ls hot warm x:Int) ∈ act then 2 else 3)).2 (actN (tailX Ls x (dueA (fun H => decide (H ∈ act)) Ls hot warm x:Int)) false act)).1,
    (dbalN s hot warm x n (shiftN qc s Ls (tailX Ls x (dueA (fun H => decide (H ∈ act)) Ls hot warm x:Int)) (if tailX Ls x (dueA (fun H => decide (H ∈ act)) Ls hot warm x:Int) ∈ act then 2 else 3)).2 (actN (tailX Ls x (dueA (fun H => decide (H ∈ act)) Ls hot warm x:Int)) false act)).2)
theorem dbalN_no {s:St} {hot warm x:Int} {n:Nat} {Ls:Nat -> Nat -> List Nat} {act:List Nat} (h:dueA (fun H => decide (H ∈ act)) Ls hot warm x = 0):dbalN s hot warm x n Ls act = ([],Ls,act):=by
 cases n with
 | zero => rfl
 | succ n => unfold dbalN; rw [if_pos h]
theorem dbalN_yes {s:St} {hot warm x:Int} {n:Nat} {Ls:Nat -> Nat -> List Nat} {act:List Nat} {k T:Nat} (e:dueA (fun H => decide (H ∈ act)) Ls hot warm x = k) (h:k ≠ 0) (et:tailX Ls x (k:Int) = T):dbalN s hot warm x (n + 1) Ls act =
  (T :: (dbalN s hot warm x n (shiftN qc s Ls T (if T ∈ act then 2 else 3)).2 (actN T false act)).1,(dbalN s hot warm x n (shiftN qc s Ls T (if T ∈ act then 2 else 3)).2 (actN T false act)).2):=by
 conv => lhs; unfold dbalN
 rw [e,if_neg h,et]
theorem dueA_len {A:Nat -> Bool} {Ls:Nat -> Nat -> List Nat} {hot warm:Int} (sh:Shr hot warm) (x:Int) {k:Nat} (e:dueA A Ls hot warm x = k) (h:k ≠ 0) : 0 < lenX Ls x (k:Int) /\ k <= 3 /\ (k = 3 -> A (tailX Ls x 3) = true):=by
 obtain ⟨h1, -,h2, -⟩:=sh
 have n1 : 0 <= (totX Ls x:Int) * hot:=Int.mul_nonneg (by omega) (by omega)
 have n2 : 0 <= (totX Ls x:Int) * warm:=Int.mul_nonneg (by omega) (by omega)
 unfold dueA at e
 split at e
 ·rename_i hb
  subst e
  have:=of_decide_eq_true hb
  exact ⟨by show 0 < lenX Ls x 1; omega,by decide,fun e => by cases e⟩
 split at e
 ·rename_i hb
  subst e
  have:=of_decide_eq_true hb
  exact ⟨by show 0 < lenX Ls x 2; omega,by decide,fun e => by cases e⟩
 split at e
 ·rename_i hb
  subst e
  obtain ⟨b1,b2⟩:=Bool.and_eq_true_iff.1 hb
  exact ⟨of_decide_eq_true b1,by decide,fun _ => b2⟩
 ·exact absurd e.symm h
def wt1 (mk:Nat -> Nat) (l:List Nat):Nat:=(l.map fun H => 1 + mk H % 2).sum
def wt2 (mk:Nat -> Nat) (l:List Nat):Nat:=(l.map fun H => 2 * (mk H % 2)).sum
def phiN (Ls:Nat -> Nat -> List Nat) (mk:Nat -> Nat) (x:Int):Nat:=wt1 mk (lsN qc Ls x 1) + wt1 mk (lsN qc Ls x 2) + wt2 mk (lsN qc Ls x 3)
theorem wt1_le {m m':Nat -> Nat} (h:∀ H,m' H % 2 <= m H % 2):∀ l,wt1 m' l <= wt1 m l
 | [] => Nat.le_refl _
 | a :: l => by have:=wt1_le h l; have:=h a; unfold wt1 at *; simp only [List.map_cons,List.sum_cons]; omega
theorem wt2_le {m m':Nat -> Nat} (h:∀ H,m' H % 2 <= m H % 2):∀ l,wt2 m' l <= wt2 m l
 | [] => Nat.le_refl _
 | a :: l => by have:=wt2_le h l; have:=h a; unfold wt2 at *; simp only [List.map_cons,List.sum_cons]; omega
theorem wt1_cons (m:Nat -> Nat) (a:Nat) (l:List Nat):wt1 m (a :: l) = 1 + m a % 2 + wt1 m l:=by unfold wt1; simp only [List.map_cons,List.sum_cons]
theorem wt2_cons (m:Nat -> Nat) (a:Nat) (l:List Nat):wt2 m (a :: l) = 2 * (m a % 2) + wt2 m l:=by unfold wt2; simp only [List.map_cons,List.sum_cons]
theorem wt1_app (m:Nat -> Nat) (a:Nat):∀ l:List Nat,wt1 m (l ++ [a]) = wt1 m l + (1 + m a % 2)
 | [] => by unfold wt1; simp
 | b :: l => by rw [List.cons_append,wt1_cons,wt1_app m a l,wt1_cons]; omega
theorem wt2_app (m:Nat -> Nat) (a:Nat):∀ l:List Nat,wt2 m (l ++ [a]) = wt2 m l + 2 * (m a % 2)
 | [] => by unfold wt2; simp
 | b :: l => by rw [List.cons_append,wt2_cons,wt2_app m a l,wt2_cons]; omega
theorem wt1_two (m:Nat -> Nat):∀ l:List Nat,wt1 m l <= 2 * l.length
 | [] => Nat.le_refl _
 | b :: l => by have:=wt1_two m l; rw [wt1_cons,List.length_cons]; omega
theorem wt2_two (m:Nat -> Nat):∀ l:List Nat,wt2 m l <= 2 * l.length
 | [] => Nat.le_refl _
 | b :: l => by have:=wt2_two m l; rw [wt2_cons,List.length_cons]; omega
theorem phi_two (Ls:Nat -> Nat -> List Nat) (mk:Nat -> Nat) (x:Int):phiN Ls mk x <= 2 * totX Ls x:=by
 have h1:=wt1_two mk (lsN qc Ls x 1)
 have h2:=wt1_two mk (lsN qc Ls x 2)
 have h3:=wt2_two mk (lsN qc Ls x 3)
 unfold phiN totX lenX
 omega
theorem mkOn_le (mk:Nat -> Nat) (T H:Nat):mkOn mk T false H % 2 <= mk H % 2:=by
 unfold mkOn
 by_cases e:H = T
 ·subst e
  rw [upd_at]
  show 2 * (mk H / 2) % 2 <= _
  omega
 ·rw [upd_ne _ _ e]; exact Nat.le_refl _
theorem mkOn_at (mk:Nat -> Nat) (T:Nat):mkOn mk T false T % 2 = 0:=by
 unfold mkOn
 rw [upd_at]
 show 2 * (mk T / 2) % 2 = 0
 omega
section
variable {s:St} {Z:Nat -> Option Zd} {Ls:Nat -> Nat -> List Nat} (ok:qc.cf.Ok) (g:Cls.Good qc.cf s) (q:QL s Z Ls)
include ok g q
theorem QL.move {x:Int} {k:Nat} (hk : 0 < lenX Ls x (k:Int)) (to_:Nat) (ht : 1 <= to_) (ht3:to_ <= 3):∃ l1,0 <= x /\ x < 3 /\ 1 <= k /\ k <= 3 /\ Ls x.toNat (k - 1) = l1 ++ [tailX Ls x k] /\ isN qc s Z (tailX Ls x k) = true /\
  (shiftN qc s Ls (tailX Ls x k) (to_:Int)).2 = updL (updL Ls x.toNat (k - 1) l1) x.toNat (to_ - 1) (tailX Ls x k :: updL Ls x.toNat (k - 1) l1 x.toNat (to_ - 1)):=by
 have hT:=QL.tail ok g q hk
 obtain ⟨Z1,F,e1,q⟩:=q
 have hv : 0 <= x /\ x < (qc.nc:Int) /\ 1 <= (k:Int) /\ (k:Int) <= 3:=by
  unfold lenX lsN at hk
  split at hk
  ·assumption
  ·simp at hk
 have hx:x.toNat < qc.nc:=by omega
 have hk3:k - 1 < 3:=by omega
 have ek:((k:Int)).toNat - 1 = k - 1:=by omega
 have hl:lenX Ls x (k:Int) = (Ls x.toNat (k - 1)).length:=by unfold lenX lsN; rw [if_pos hv,ek]
 have ht':tailX Ls x (k:Int) = (Ls x.toNat (k - 1)).getLast?.getD 0:=by unfold tailX lsN; rw [if_pos hv,ek]
 rw [hl] at hk
 have hne:Ls x.toNat (k - 1) ≠ []:=List.length_pos_iff.1 hk
 have e0:Ls x.toNat (k - 1) = (Ls x.toNat (k - 1)).dropLast ++ [tailX Ls x (k:Int)]:=by
  rw [ht',List.getLast?_eq_some_getLast hne]
  exact (List.dropLast_concat_getLast hne).symm
 generalize (Ls x.toNat (k - 1)).dropLast = l1 at e0
 generalize tailX Ls x (k:Int) = T at *
 have hm:T ∈ Ls x.toNat (k - 1):=by rw [e0]; simp
 obtain ⟨i,y,p,hf,hc⟩:=q.it x.toNat (k - 1) T hx hk3 hm
 have ec:clsN qc s T = x.toNat:=by unfold clsN; rw [hf]; exact hc
 have nd:=q.nd x.toNat (k - 1) hx hk3
 rw [e0] at nd
 have hn1:T ∉ l1:=fun e => by
  rw [List.nodup_append] at nd
  exact nd.2.2 T e T (by simp) rfl
 have es:stK x.toNat Ls T = k:=by
  have hne0:stK x.toNat Ls T ≠ 0:=fun e => stK_zero e (k - 1) hk3 hm
  obtain ⟨k',h1,h2,h3⟩:=stK_pos hne0
  obtain ⟨-,e5⟩:=q.dj _ _ _ _ T hx h1 hx hk3 h3 hm
  omega
 refine ⟨l1,hv.1,by have:=qc_nc; omega,by omega,by omega,e0,hT.1,?_⟩
 have er:(Ls x.toNat (k - 1)).erase T = l1:=by
  rw [e0,List.erase_append_right _ hn1]
  simp
 unfold shiftN
 rw [if_neg (by omega),ec,es,if_neg (by omega)]
 unfold putN outN
 rw [es,er,show ((to_:Int)).toNat - 1 = to_ - 1 from by omega]
 rfl
theorem QL.step {mk:Nat -> Nat} {hot warm:Int} (sh:Shr hot warm) {x:Int} (hd:dueK s Z Ls mk hot warm x ≠ 0) :
  phiN (stepL s Z Ls mk hot warm x) (stepM s Z Ls mk hot warm x) x + 1 <= phiN Ls mk x /\ totX (stepL s Z Ls mk hot warm x) x = totX Ls x /\ QL s Z (stepL s Z Ls mk hot warm x) /\ isN qc s Z (stepH s Z Ls mk hot warm x) = true:=by
 obtain ⟨k,ek⟩:∃ k,dueK s Z Ls mk hot warm x = k:=⟨_,rfl⟩
 rw [ek] at hd
 obtain ⟨h1,h2,h3⟩:=dueA_len (A:=actB s Z mk) sh x ek hd
 have eT:stepH s Z Ls mk hot warm x = tailX Ls x k:=by unfold stepH; rw [ek]
 have eM:stepM s Z Ls mk hot warm x = mkOn mk (tailX Ls x k) false:=by unfold stepM; rw [eT]
 obtain ⟨t,et⟩:∃ t:Nat,t = if actB s Z mk (tailX Ls x k) then 2 else 3:=⟨_,rfl⟩
 have ek2:toK s Z mk (tailX Ls x k) = (t:Int):=by unfold toK; rw [et]; split <;> rfl
 have t2:t = 2 \/ t = 3:=by rw [et]; split <;> simp
 have eL:stepL s Z Ls mk hot warm x = (shiftN qc s Ls (tailX Ls x k) (t:Int)).2:=by unfold stepL; rw [eT,ek2]
 have hql:QL s Z (stepL s Z Ls mk hot warm x):=by rw [eL]; exact QL.shift ok g q _ _
 obtain ⟨l1,x0,x3,k1,k3,e0,hI,eS⟩:=QL.move ok g q h1 t (by omega) (by omega)
 have act:actB s Z mk (tailX Ls x k) = (mk (tailX Ls x k) % 2 == 1):=by unfold actB; rw [hI]; rfl
 rw [eT]
 have hx:x < (qc.nc:Int):=by rw [qc_nc]; omega
 have q1:∀ L:Nat -> Nat -> List Nat,lsN qc L x 1 = L x.toNat 0:=fun L => if_pos ⟨x0,hx,by decide,by decide⟩
 have q2:∀ L:Nat -> Nat -> List Nat,lsN qc L x 2 = L x.toNat 1:=fun L => if_pos ⟨x0,hx,by decide,by decide⟩
 have q3:∀ L:Nat -> Nat -> List Nat,lsN qc L x 3 = L x.toNat 2:=fun L => if_pos ⟨x0,hx,by decide,by decide⟩
 rw [act] at et
 refine ⟨?_,?_,hql,hI⟩
 all_goals
  rw [eL,eS]
  simp only [phiN,totX,lenX,q1,q2,q3]
 all_goals clear q1 q2 q3 eS eL hql
 ·rw [eM]
  have w1:=wt1_le (mkOn_le mk (tailX Ls x k))
  have w2:=wt2_le (mkOn_le mk (tailX Ls x k))
  have z0:=mkOn_at mk (tailX Ls x k)
  have act3:k = 3 -> mk (tailX Ls x k) % 2 = 1:=fun e => by
   have:=h3 e
   rw [e] at act
   have e2:actB s Z mk (tailX Ls x ((3:Nat):Int)) = true:=this
   rw [e2] at act
   rw [e]
   simpa using act.symm
  generalize tailX Ls x k = T at *
  generalize mkOn mk T false = mk' at *
  generalize x.toNat = X at *
  have k123:k = 1 \/ k = 2 \/ k = 3:=by omega
  have hm2:mk T % 2 = 0 \/ mk T % 2 = 1:=by omega
  rcases k123 with rfl | rfl | rfl <;> rcases hm2 with hm | hm
  all_goals
   first
    | (have:=act3 rfl; omega)
    | skip
  all_goals
   rw [hm] at et
   simp only [show ((0:Nat) == 1) = false from rfl,show ((1:Nat) == 1) = true from rfl,if_true,Bool.false_eq_true,if_false] at et
   subst et
   have a1:=w1 l1
   have a2:=w2 l1
   have b0:=w1 (Ls X 0)
   have b1:=w1 (Ls X 1)
   have b2:=w2 (Ls X 2)
   simp only [Nat.reduceSub] at e0 ⊢
   simp only [updL,Nat.reduceEqDiff,and_true,and_false,if_true,if_false,reduceCtorEq,Nat.zero_ne_one,Nat.one_ne_zero]
   rw [e0]
   simp only [wt1_cons,wt2_cons,wt1_app,wt2_app]
   omega
 ·generalize tailX Ls x k = T at *
  generalize x.toNat = X at *
  have k123:k = 1 \/ k = 2 \/ k = 3:=by omega
  rcases k123 with rfl | rfl | rfl <;> rcases t2 with rfl | rfl
  all_goals
   simp only [Nat.reduceSub] at e0 ⊢
   simp only [updL,Nat.reduceEqDiff,and_true,and_false,if_true,if_false,reduceCtorEq,Nat.zero_ne_one,Nat.one_ne_zero]
   rw [e0]
   simp only [List.length_cons,List.length_append,List.length_nil]
   try omega
end
theorem bal_phi {s:St} {Z:Nat -> Option Zd} (ok:qc.cf.Ok) (g:Cls.Good qc.cf s) {hot warm:Int} (sh:Shr hot warm) {x:Int}:∀ (n:Nat) (Ls:Nat -> Nat -> List Nat) (mk:Nat -> Nat),QL s Z Ls ->
  (balN s Z hot warm x n Ls mk).1.length <= phiN Ls mk x /\ totX (balN s Z hot warm x n Ls mk).2.1 x = totX Ls x /\ QL s Z (balN s Z hot warm x n Ls mk).2.1 /\ (∀ H,(balN s Z hot warm x n Ls mk).2.2 H / 2 = mk H / 2) /\
  (phiN Ls mk x <= n -> dueK s Z (balN s Z hot warm x n Ls mk).2.1 (balN s Z hot warm x n Ls mk).2.2 hot warm x = 0 /\ ∀ m,phiN Ls mk x <= m -> balN s Z hot warm x m Ls mk = balN s Z hot warm x n Ls mk)
 | 0,Ls,mk,q => by
  refine ⟨Nat.zero_le _,rfl,q,fun H => rfl,fun h => ?_⟩
  have d0:dueK s Z Ls mk hot warm x = 0:=Decidable.byContradiction fun hd => by
   have:=(QL.step ok g q sh hd).1
   omega
  exact ⟨d0,fun m _ => by rw [balN_no d0,balN_no d0]⟩
 | n + 1,Ls,mk,q => by
  by_cases hd:dueK s Z Ls mk hot warm x = 0
  ·rw [balN_no hd]
   exact ⟨Nat.zero_le _,rfl,q,fun H => rfl,fun _ => ⟨hd,fun m _ => by rw [balN_no hd]⟩⟩
  ·obtain ⟨h1,h2,h3, -⟩:=QL.step ok g q sh hd
   obtain ⟨k1,k2,k3,k4,k5⟩:=bal_phi ok g sh n _ (stepM s Z Ls mk hot warm x) h3
   rw [balN_yes hd]
   refine ⟨?_,k2.trans h2,k3,fun H => (k4 H).trans ?_,fun h => ?_⟩
   ·rw [List.length_cons]; omega
   ·unfold stepM mkOn
    by_cases e:H = stepH s Z Ls mk hot warm x
    ·rw [<- e,upd_at]
     show 2 * (mk H / 2) / 2 = _
     omega
    ·rw [upd_ne _ _ e]
   ·obtain ⟨k6,k7⟩:=k5 (by omega)
    refine ⟨k6,fun m hm => ?_⟩
    cases m with
    | zero => omega
    | succ m => rw [balN_yes hd,k7 m (by omega)]
theorem bal_both {s:St} {Z:Nat -> Option Zd} (ok:qc.cf.Ok) (g:Cls.Good qc.cf s) {hot warm:Int} (sh:Shr hot warm) {x:Int}:∀ (n:Nat) (Ls:Nat -> Nat -> List Nat) (mk:Nat -> Nat) (act:List Nat),QL s Z Ls -> (∀ H,isN qc s Z H = true -> (H ∈ act ↔ mk H % 2 = 1)) ->
  (dbalN s hot warm x n Ls act).1 = (balN s Z hot warm x n Ls mk).1 /\ (dbalN s hot warm x n Ls act).2.1 = (balN s Z hot warm x n Ls mk).2.1 /\ (∀ H,isN qc s Z H = true -> (H ∈ (dbalN s hot warm x n Ls act).2.2 ↔ (balN s Z hot warm x n Ls mk).2.2 H % 2 = 1)) /\ (dbalN s hot warm x n Ls act).2.2.length <= act.length
 | 0,Ls,mk,act,q,ab => ⟨rfl,rfl,ab,Nat.le_refl _⟩
 | n + 1,Ls,mk,act,q,ab => by
  have eA:∀ H,isN qc s Z H = true -> actB s Z mk H = decide (H ∈ act):=fun H hI => by
   unfold actB
   rw [hI,Bool.true_and]
   by_cases e:H ∈ act
   ·rw [decide_eq_true e,(ab H hI).1 e]; rfl
   ·rw [decide_eq_false e]
    have:¬ mk H % 2 = 1:=fun e2 => e ((ab H hI).2 e2)
    simpa using this
  have ed:dueK s Z Ls mk hot warm x = dueA (fun H => decide (H ∈ act)) Ls hot warm x:=dueA_cg fun h3 => eA _ (QL.tail ok g q h3).1
  by_cases hd:dueK s Z Ls mk hot warm x = 0
  ·rw [balN_no hd,dbalN_no (by rw [<- ed]; exact hd)]
   exact ⟨rfl,rfl,ab,Nat.le_refl _⟩
  ·obtain ⟨h1,h2,h3,hI⟩:=QL.step ok g q sh hd
   have eT:stepH s Z Ls mk hot warm x = tailX Ls x (dueK s Z Ls mk hot warm x:Int):=rfl
   rw [balN_yes hd,dbalN_yes ed.symm hd eT.symm]
   have eK:toK s Z mk (stepH s Z Ls mk hot warm x) = if stepH s Z Ls mk hot warm x ∈ act then 2 else 3:=by
    unfold toK
    rw [eA _ hI]
    by_cases e:stepH s Z Ls mk hot warm x ∈ act
    ·rw [decide_eq_true e,if_pos e]; rfl
    ·rw [decide_eq_false e,if_neg e]; rfl
   have eS:(shiftN qc s Ls (stepH s Z Ls mk hot warm x) (if stepH s Z Ls mk hot warm x ∈ act then 2 else 3)).2 = stepL s Z Ls mk hot warm x:=by
    unfold stepL
    rw [eK]
   rw [eS]
   obtain ⟨k1,k2,k3,k4⟩:=bal_both ok g sh n (stepL s Z Ls mk hot warm x) (stepM s Z Ls mk hot warm x) (actN (stepH s Z Ls mk hot warm x) false act) h3 fun H hH => by
    unfold stepM mkOn
    by_cases e:H = stepH s Z Ls mk hot warm x
    ·rw [e,actN_self,upd_at]
     exact ⟨fun e => (by cases e),fun e2 => by
      have e3 : 2 * (mk (stepH s Z Ls mk hot warm x) / 2) % 2 = 1:=e2
      omega⟩
    ·rw [actN_other _ _ e,upd_ne _ _ e]
     exact ab H hH
   refine ⟨by rw [k1],k2,k3,Nat.le_trans k4 ?_⟩
   unfold actN
   have:=dropA_len (stepH s Z Ls mk hot warm x) act
   simpa using this
theorem WAt.only {N:Nat} {w:World} {W:W6} {c:Conf} {s:St} {bs:List UInt8} {Z:Nat -> Option Zd} {Ls Ld:Nat -> Nat -> List Nat} {r:RS} {laid told act:List Nat} {mk:Nat -> Nat} (h:WAt N w W c s bs Z Ls Ld r laid told act mk) {S:Nat -> Prop} {w':World} (o:Only S w w') (ns:∀ i b,W.foot c s i b -> ¬ S b):WAt N w' W c s bs Z Ls Ld r laid told act mk:=by
 have LC:=h.lru
 have AC:=h.dlr
 obtain ⟨F,S',q⟩:=h.q
 exact ⟨⟨F,⟨S'.zs.only o fun b hb => ns .set b hb,S'.q.only o (ns .queue _ (.inl rfl)) (ns .queue _ (.inr rfl)),S'.fq,S'.fl⟩,q⟩,h.ref.only o fun b hb => ns .ref b hb,h.doc.only o fun b hb => ns .doc b hb,(o.block _ h.own.lt (ns .own _ (.inl rfl))).trans h.own,own_keptN h.told fun b e => o.block b (own_blockN h.told e) (ns .own b (.inr e)),h.sep,h.tb,h.base,fun g e => (o.block _ (h.lru g e).lt (ns .lru g e)).trans (LC g e),fun d e => (o.block _ (h.dlr d e).lt (ns .act d (.inl e))).trans (AC d e),own_keptN h.row fun d e => o.block d (own_blockN h.row e) (ns .act d (.inr e)),h.ad,h.mks⟩
theorem DX.only {N:Nat} {w:World} {W:W6} {s:St} {bs:List UInt8} {Z:Nat -> Option Zd} {Ls Ld:Nat -> Nat -> List Nat} {r:RS} {laid told act:List Nat} {mk:Nat -> Nat} (h:DX N w W s bs Z Ls Ld r laid told act mk) {S:Nat -> Prop} {w':World} (o:Only S w w') (ns:∀ i b,W.foot qc s i b -> ¬ S b):DX N w' W s bs Z Ls Ld r laid told act mk:=⟨h.wat.only o ns,h.rel,h.agr,h.ch,h.la,h.dq,h.al⟩
theorem Grew.aside {c:Conf} {w0 w w':World} {W0 W:W6} {s0 s:St} (h:Grew c w0 w W0 W s0 s) {S:Nat -> Prop} (o:Only S w w') (hS:∀ b,S b -> w0.heap.size <= b):Grew c w0 w' W0 W s0 s :=
 ⟨h.only.trans o fun b hb hs => by have:=hS b hs; omega,h.foot⟩
def lenV:Value -> Nat
 | .slice _ n _ => n
 | _ => 0
structure DGx (N:Nat) (w w':World) (W W1:W6) (s:St) (bs:List UInt8) (Z:Nat -> Option Zd) (Ls Ld':Nat -> Nat -> List Nat) (r:RS) (laid told act':List Nat) (mk:Nat -> Nat):Prop where
 eq_:∃ R' vA',W1 = { W with R:=R',vA:=vA' } /\ R'.b = W.R.b
 grew:Grew qc w w' W W1 s s
 dx:DX N w' W1 s bs Z Ls Ld' r laid told act' mk
theorem DGx.dg {N:Nat} {w w':World} {W W1:W6} {s:St} {bs:List UInt8} {Z:Nat -> Option Zd} {Ls Ld':Nat -> Nat -> List Nat} {r:RS} {laid told act':List Nat} {mk:Nat -> Nat} (h:DGx N w w' W W1 s bs Z Ls Ld' r laid told act' mk):DG N w w' W s bs Z Ls Ld' r laid told act' mk:=by
 obtain ⟨⟨R',vA',rfl,e⟩,G,D⟩:=h
 exact ⟨R',vA',e,G,D⟩
theorem DGx.next {N:Nat} {w w1 w2:World} {W W1:W6} {s:St} {bs:List UInt8} {Z:Nat -> Option Zd} {Ls L1 L2:Nat -> Nat -> List Nat} {r:RS} {laid told a1 a2:List Nat} {mk:Nat -> Nat} (h:DGx N w w1 W W1 s bs Z Ls L1 r laid told a1 mk) (k:DG N w1 w2 W1 s bs Z Ls L2 r laid told a2 mk) :
  ∃ W2,DGx N w w2 W W2 s bs Z Ls L2 r laid told a2 mk /\ Grew qc w1 w2 W1 W2 s s:=by
 obtain ⟨⟨R',vA',rfl,e⟩,G,D⟩:=h
 obtain ⟨R2,v2,e2,G2,D2⟩:=k
 exact ⟨_,⟨⟨R2,v2,rfl,e2.trans e⟩,G.trans G2,D2⟩,G2⟩
theorem DGx.below {N:Nat} {w w1 w2:World} {W W1:W6} {s:St} {bs:List UInt8} {Z:Nat -> Option Zd} {Ls L1:Nat -> Nat -> List Nat} {r:RS} {laid told a1:List Nat} {mk:Nat -> Nat} (h:DGx N w w1 W W1 s bs Z Ls L1 r laid told a1 mk) (b:Below w1.heap.size w1 w2):DGx N w w2 W W1 s bs Z Ls L1 r laid told a1 mk :=
 ⟨h.eq_,h.grew.step b,h.dx.below b⟩
theorem DGx.is {N:Nat} {w w1:World} {W W1:W6} {s:St} {bs:List UInt8} {Z:Nat -> Option Zd} {Ls L1:Nat -> Nat -> List Nat} {r:RS} {laid told a1:List Nat} {mk:Nat -> Nat} (h:DGx N w w1 W W1 s bs Z Ls L1 r laid told a1 mk):W1.R.b = W.R.b /\ W1.dm = W.dm /\ W1.hot = W.hot /\ W1.warm = W.warm:=by
 obtain ⟨R',vA',rfl,e⟩:=h.eq_
 exact ⟨e,rfl,rfl,rfl⟩
section
variable {N:Nat} {w:World} {W:W6} {s:St} {bs:List UInt8} {Z:Nat -> Option Zd} {Ls Ld:Nat -> Nat -> List Nat} {r:RS} {laid told act:List Nat} {mk:Nat -> Nat} (h:DX N w W s bs Z Ls Ld r laid told act mk) {dm:Nat} (ed:W.dm = some dm) (sh:Shr W.hot W.warm)
include h ed sh
set_option maxHeartbeats 1600000 in
theorem DX.balanceD (x links:Int) (hl:links <= 2000):Calls Tryz.prog 29 #[.pointer (some ⟨dm,0,none⟩),.int .i64 x,.int .i64 links] w fun e w' => ∃ A cp,e = .returned (.slice A (dbalN s W.hot W.warm x links.toNat Ld act).1.length cp) /\ w'.ownsRow w.heap.size 50 1 (.slice A (dbalN s W.hot W.warm x links.toNat Ld act).1.length cp) (dbalN s W.hot W.warm x links.toNat Ld act).1.length ((dbalN s W.hot W.warm x links.toNat Ld act).1.map uv) /\
  DG N w w' W s bs Z Ls (dbalN s W.hot W.warm x links.toNat Ld act).2.1 r laid told (dbalN s W.hot W.warm x links.toNat Ld act).2.2 mk:=by
 obtain ⟨n,hn⟩:∃ n,n = links.toNat:=⟨_,rfl⟩
 rw [<- hn]
 obtain ⟨P,hP⟩:∃ P,P = dbalN s W.hot W.warm x n Ld act:=⟨_,rfl⟩
 rw [<- hP]
 have D0:DGx N w w W W s bs Z Ls Ld r laid told act mk:=⟨⟨W.R,W.vA,rfl,rfl⟩,Grew.refl _ _ _ _,h⟩
 have hn1:(n:Int) = links \/ n = 0 /\ links <= 0:=by omega
 have hl3:n <= 2000:=by omega
 have C1:∀ w1 W1 L1 a1,DGx N w w1 W W1 s bs Z Ls L1 r laid told a1 mk -> Calls Tryz.prog 65 #[.pointer (some ⟨dm,0,none⟩),.int .i64 x] w1 fun e w' => e = .returned (.int .i64 (dueA (fun H => decide (H ∈ a1)) L1 W.hot W.warm x:Int)) /\ Below w1.heap.size w1 w':=fun w1 W1 L1 a1 D => by
  obtain ⟨e1,e2,e3,e4⟩:=D.is
  have:=D.dx.dueD (dm:=dm) (e2.trans ed) (by rw [e3,e4]; exact sh) x
  rwa [e3,e4] at this
 have C2:∀ w1 W1 L1 a1 (k:Nat),DGx N w w1 W W1 s bs Z Ls L1 r laid told a1 mk -> Calls Tryz.prog 66 #[.pointer (some ⟨W.R.b,0,none⟩),.int .i64 x,.int .i64 (k:Int)] w1 fun e w' => e = .returned (.tuple #[.int .u64 (tailX L1 x k:Int),.bool (decide (0 < lenX L1 x k))]) /\ Below w1.heap.size w1 w':=fun w1 W1 L1 a1 k D => by
  obtain ⟨e1,e2,e3,e4⟩:=D.is
  obtain ⟨Zd, -,d⟩:=D.dx.d6
  have:=d.tail x k
  rwa [e1] at this
 have C3:∀ w1 W1 L1 a1 (T:Nat),DGx N w w1 W W1 s bs Z Ls L1 r laid told a1 mk -> Calls Tryz.prog 67 #[.pointer (some ⟨dm,0,none⟩),.int .u64 (T:Int)] w1 fun e w' => e = .returned (.bool (decide (T ∈ a1))) /\ w1 = w':=fun w1 W1 L1 a1 T D => D.dx.isD (D.is.2.1.trans ed) T
 have C4:∀ w1 W1 L1 a1 (T:Nat) (k:Int),DGx N w w1 W W1 s bs Z Ls L1 r laid told a1 mk -> Calls Tryz.prog 59 #[.pointer (some ⟨W.R.b,0,none⟩),.int .u64 (T:Int),.int .i64 k] w1 fun e w' => e = .returned (.int .i64 ((shiftN qc s L1 T k).1:Int)) /\ ∃ W2,DGx N w w' W W2 s bs Z Ls (shiftN qc s L1 T k).2 r laid told a1 mk /\ Grew qc w1 w' W1 W2 s s:=fun w1 W1 L1 a1 T k D => by
  have:=D.dx.shiftD T k
  rw [D.is.1] at this
  exact this.mono fun e w' ⟨e1,D2⟩ => ⟨e1,D.next D2⟩
 have C5:∀ w1 W1 L1 a1 (T:Nat),DGx N w w1 W W1 s bs Z Ls L1 r laid told a1 mk -> Calls Tryz.prog 68 #[.pointer (some ⟨dm,0,none⟩),.int .u64 (T:Int),.bool false] w1 fun e w' => e = .returned (.tuple #[]) /\ ∃ W2,DGx N w w' W W2 s bs Z Ls L1 r laid told (actN T false a1) mk /\ Grew qc w1 w' W1 W2 s s:=fun w1 W1 L1 a1 T D =>
  (D.dx.setD (dm:=dm) (D.is.2.1.trans ed) T false (by have:=D.dx.al; simp; exact this)).mono fun e w' ⟨e1,D2⟩ => ⟨e1,D.next D2⟩
 have CE:∀ w1 W1 L1 a1,DGx N w w1 W W1 s bs Z Ls L1 r laid told a1 mk -> w1.cell? ⟨dm,0,none⟩ = some (.pointer (some ⟨W.R.b,0,none⟩)):=fun w1 W1 L1 a1 D => by
  have:=(D.dx.cA (dm:=dm) (D.is.2.1.trans ed)).1
  rwa [D.is.1] at this
 have LN:∀ {k:Nat} {L1:Nat -> Nat -> List Nat} {a1:List Nat},dueA (fun H => decide (H ∈ a1)) L1 W.hot W.warm x = k -> k ≠ 0 -> 0 < lenX L1 x (k:Int):=fun e h0 => (dueA_len sh x e h0).1
 replace hn:=Lib.hid hn
 replace hP:=Lib.hid hP
 replace D0:=Lib.hid D0
 replace C1:=Lib.hid C1
 replace C2:=Lib.hid C2
 replace C3:=Lib.hid C3
 replace C4:=Lib.hid C4
 replace C5:=Lib.hid C5
 replace CE:=Lib.hid CE
 clear h ed sh
 generalize W.hot = hot at *
 generalize W.warm = warm at *
 go_enter Tryz.func29,Tryz.ntmps29
 go_wp2
 go_loopw [7] (fun v7 wr => ∃ (m cp:Nat) (A:Option Addr) (pre:List Nat) (L1:Nat -> Nat -> List Nat) (a1:List Nat) (W1:W6),v7 = .slice A m cp /\ m <= n /\ Hid (P.1 = pre ++ (dbalN s hot warm x (n - m) L1 a1).1 /\ P.2 = (dbalN s hot warm x (n - m) L1 a1).2 /\ pre.length = m) /\ Hid (DGx N w wr W W1 s bs Z Ls L1 r laid told a1 mk) /\ Hid (wr.ownsRow w.heap.size 50 1 (.slice A m cp) m (pre.map uv)) /\ Hid (∀ b,(Value.slice A m cp).ownBlock = some b -> ∀ i,¬ W1.foot qc s i b)) (fun v7 _ => n - lenV v7)
 case atStart => exact ⟨0,0,none,[],Ld,act,W,rfl,Nat.zero_le _,Lib.hid ⟨by rw [hP.out]; rfl,by rw [hP.out]; rfl,rfl⟩,D0,Lib.hid (own_nil _ _ _),Lib.hid (fun b e => by cases e)⟩
 case round =>
  obtain ⟨m,cp,A,pre,L1,a1,W1,rfl,hm,hp,D,ho,hf⟩:=hrel
  by_cases hmn:m < n
  ·have d1:decide ((m:Int) < links) = true:=decide_eq_true (by omega)
   have S1:=Lib.hid (C1.out wr W1 L1 a1 D.out)
   obtain ⟨k,hk⟩:∃ k,dueA (fun H => decide (H ∈ a1)) L1 hot warm x = k:=⟨_,rfl⟩
   rw [hk] at S1
   go_wp2_with fail
   refine S1.out.mono ?_
   rintro e w1 ⟨rfl,b1⟩
   have D1:=D.out.below b1
   have own1:=own_keptN ho.out fun b e => b1.block b (own_blockN ho.out e)
   replace own1:=Lib.hid own1
   by_cases h0:k = 0
   ·subst h0
    rw [dbalN_no hk] at hp
    obtain ⟨p1,p2,p3⟩:=hp.out
    have e1:P.1 = pre:=by rw [p1]; simp
    have DD:=Lib.hid D1.dg
    have hp:=Lib.hid (And.intro e1 p2)
    replace p3:=Lib.hid p3
    clear D1 b1 p1 p2 e1 hk
    go_wp2
    go_ret
    refine ⟨A,cp,?_,?_,?_⟩
    ·rw [hp.out.1,p3.out]; rfl
    ·rw [hp.out.1,p3.out]; exact own1.out
    ·rw [hp.out.2]; exact DD.out
   ·have d2:((k:Int) == 0) = false:=by rw [beq_eq_false_iff_ne]; omega
    have d3:decide ((k:Int) = 0) = false:=decide_eq_false (by omega)
    have d4:decide (k = 0) = false:=decide_eq_false h0
    obtain ⟨j,hj⟩:∃ j,n - m = j + 1:=⟨n - m - 1,by omega⟩
    have hj2:n - (m + 1) = j:=by omega
    have hln:=LN hk h0
    have S2:=C2.out w1 W1 L1 a1 k D1
    have c0:=CE.out w1 W1 L1 a1 D1
    obtain ⟨T,hT⟩:∃ T,tailX L1 x (k:Int) = T:=⟨_,rfl⟩
    rw [hT] at S2
    rw [hj,dbalN_yes hk h0 hT] at hp
    generalize decide (0 < lenX L1 x (k:Int)) = okb at S2
    replace S2:=Lib.hid S2
    replace D1:=Lib.hid D1
    replace hk:=Lib.hid hk
    replace hT:=Lib.hid hT
    replace hj:=Lib.hid hj
    replace hj2:=Lib.hid hj2
    have szs:w.heap.size <= w1.heap.size:=D1.out.grew.only.size
    replace szs:=Lib.hid szs
    clear S1 b1 D ho hln
    go_wp2_with fail
    refine S2.out.mono ?_
    rintro e w2 ⟨rfl,b2⟩
    have D2:=D1.out.below b2
    have own2:=own_keptN own1.out fun b e => b2.block b (own_blockN own1.out e)
    have S3:=C3.out w2 W1 L1 a1 T D2
    have c0:=CE.out w2 W1 L1 a1 D2
    replace own2:=Lib.hid own2
    replace S3:=Lib.hid S3
    by_cases hTa:T ∈ a1
    ·have ea:decide (T ∈ a1) = true:=decide_eq_true hTa
     rw [if_pos hTa] at hp
     have S4:=Lib.hid (C4.out w2 W1 L1 a1 T 2 D2)
     generalize (shiftN qc s L1 T 2).2 = L2 at *
     generalize (shiftN qc s L1 T 2).1 = RR at *
     rw [ea] at S3
     replace D2:=Lib.hid D2
     replace ea:=Lib.hid ea
     replace hTa:=Lib.hid hTa
     clear D1 own1 S2 b2
     go_wp2_with fail
     refine S3.out.mono ?_
     rintro e w3 ⟨rfl,rfl⟩
     go_wp2_with fail
     refine S4.out.mono ?_
     rintro e w3 ⟨rfl,W2,D3,G3⟩
     have S5:=Lib.hid (C5.out w3 W2 L2 a1 T D3)
     replace D3:=Lib.hid D3
     replace G3:=Lib.hid G3
     clear c0 S3 S4
     go_wp2_with fail
     refine S5.out.mono ?_
     rintro e w4 ⟨rfl,W3,D4,G4⟩
     have G:=G3.out.trans G4
     have aw:∀ b,(Value.slice A m cp).ownBlock = some b -> w4.heap[b]? = w2.heap[b]? /\ ∀ i,¬ W3.foot qc s i b:=fun b e => G.away (own_blockN own2.out e) (hf.out b e)
     have own4:=own_keptN own2.out fun b e => (aw b e).1
     have hf4:=fun b e => (aw b e).2
     have sz:w.heap.size <= w4.heap.size:=D4.grew.only.size
     replace own4:=Lib.hid own4
     replace hf4:=Lib.hid hf4
     replace D4:=Lib.hid D4
     clear S5 G3 G4 G aw D3 D2 own2 hf
     go_wp2_with (at_builtin; refine wpList_app rfl _ _ _ rfl eiL w.heap.size _ _ _ rfl (own4.out.alloc _) (w4.heap.size + 1) (some ⟨w4.heap.size,0,none⟩) 1 1 [.int .u64 (T:Int)] rfl ?c1 ?c2 ?c3 ?c4 ?c5 ?_)
     case c1 => exact reads_v w4 _ _
     case c2 => intro u hu; rw [List.mem_singleton] at hu; subst hu; rfl
     case c3 => unfold maxLen; omega
     case c4 => omega
     case c5 => rw [World.size_alloc]; omega
     intro VV w6 own6 hg6 hat6
     obtain ⟨A6,cp6,rfl⟩:=own_is own6
     have o6:Only (fun k => (Value.slice A m cp).ownBlock = some k) w4 w6:=((Only.refl _ w4).alloc _).grown hg6 (fun k e _ => e)
     have dx6:=D4.out.dx.only o6 fun i b hb e => hf4.out b e i hb
     have D6':DGx N w w6 W W3 s bs Z Ls L2 r laid told (actN T false a1) mk:=⟨D4.out.eq_,D4.out.grew.aside o6 fun b e => own_base own4.out e,dx6⟩
     have hf6:∀ b,(Value.slice A6 (m + 1) cp6).ownBlock = some b -> ∀ i,¬ W3.foot qc s i b:=fun b e i hb => by
      rcases hat6 with h1 | h1
      ·rw [h1] at e; exact hf4.out b e i hb
      ·rw [h1] at e
       injection e with e
       have:=D4.out.dx.wat.lt i b hb
       omega
     have own6':w6.ownsRow w.heap.size 50 1 (.slice A6 (m + 1) cp6) (m + 1) ((pre ++ [T]).map uv):=by rw [List.map_append]; exact own6
     replace own6':=Lib.hid own6'
     replace hf6:=Lib.hid hf6
     replace D6':=Lib.hid D6'
     clear own6 hg6 hat6 o6 dx6 D4 hf4 own4
     go_wp2
     go_roundw
     case rel =>
      refine ⟨m + 1,cp6,A6,pre ++ [T],L2,actN T false a1,W3,rfl,by omega,Lib.hid ⟨?_,?_,?_⟩,D6',own6',hf6⟩
      ·rw [hp.out.1,hj2.out]; simp
      ·rw [hp.out.2.1,hj2.out]
      ·rw [List.length_append,hp.out.2.2]; rfl
     case measure => simp [lenV] <;> omega
    ·have ea:decide (T ∈ a1) = false:=decide_eq_false hTa
     rw [if_neg hTa] at hp
     have S4:=Lib.hid (C4.out w2 W1 L1 a1 T 3 D2)
     generalize (shiftN qc s L1 T 3).2 = L2 at *
     generalize (shiftN qc s L1 T 3).1 = RR at *
     rw [ea] at S3
     replace D2:=Lib.hid D2
     replace ea:=Lib.hid ea
     replace hTa:=Lib.hid hTa
     clear D1 own1 S2 b2
     go_wp2_with fail
     refine S3.out.mono ?_
     rintro e w3 ⟨rfl,rfl⟩
     go_wp2_with fail
     refine S4.out.mono ?_
     rintro e w3 ⟨rfl,W2,D3,G3⟩
     have S5:=Lib.hid (C5.out w3 W2 L2 a1 T D3)
     replace D3:=Lib.hid D3
     replace G3:=Lib.hid G3
     clear c0 S3 S4
     go_wp2_with fail
     refine S5.out.mono ?_
     rintro e w4 ⟨rfl,W3,D4,G4⟩
     have G:=G3.out.trans G4
     have aw:∀ b,(Value.slice A m cp).ownBlock = some b -> w4.heap[b]? = w2.heap[b]? /\ ∀ i,¬ W3.foot qc s i b:=fun b e => G.away (own_blockN own2.out e) (hf.out b e)
     have own4:=own_keptN own2.out fun b e => (aw b e).1
     have hf4:=fun b e => (aw b e).2
     have sz:w.heap.size <= w4.heap.size:=D4.grew.only.size
     replace own4:=Lib.hid own4
     replace hf4:=Lib.hid hf4
     replace D4:=Lib.hid D4
     clear S5 G3 G4 G aw D3 D2 own2 hf
     go_wp2_with (at_builtin; refine wpList_app rfl _ _ _ rfl eiL w.heap.size _ _ _ rfl (own4.out.alloc _) (w4.heap.size + 1) (some ⟨w4.heap.size,0,none⟩) 1 1 [.int .u64 (T:Int)] rfl ?c1 ?c2 ?c3 ?c4 ?c5 ?_)
     case c1 => exact reads_v w4 _ _
     case c2 => intro u hu; rw [List.mem_singleton] at hu; subst hu; rfl
     case c3 => unfold maxLen; omega
     case c4 => omega
     case c5 => rw [World.size_alloc]; omega
     intro VV w6 own6 hg6 hat6
     obtain ⟨A6,cp6,rfl⟩:=own_is own6
     have o6:Only (fun k => (Value.slice A m cp).ownBlock = some k) w4 w6:=((Only.refl _ w4).alloc _).grown hg6 (fun k e _ => e)
     have dx6:=D4.out.dx.only o6 fun i b hb e => hf4.out b e i hb
     have D6':DGx N w w6 W W3 s bs Z Ls L2 r laid told (actN T false a1) mk:=⟨D4.out.eq_,D4.out.grew.aside o6 fun b e => own_base own4.out e,dx6⟩
     have hf6:∀ b,(Value.slice A6 (m + 1) cp6).ownBlock = some b -> ∀ i,¬ W3.foot qc s i b:=fun b e i hb => by
      rcases hat6 with h1 | h1
      ·rw [h1] at e; exact hf4.out b e i hb
      ·rw [h1] at e
       injection e with e
       have:=D4.out.dx.wat.lt i b hb
       omega
     have own6':w6.ownsRow w.heap.size 50 1 (.slice A6 (m + 1) cp6) (m + 1) ((pre ++ [T]).map uv):=by rw [List.map_append]; exact own6
     replace own6':=Lib.hid own6'
     replace hf6:=Lib.hid hf6
     replace D6':=Lib.hid D6'
     clear own6 hg6 hat6 o6 dx6 D4 hf4 own4
     go_wp2
     go_roundw
     case rel =>
      refine ⟨m + 1,cp6,A6,pre ++ [T],L2,actN T false a1,W3,rfl,by omega,Lib.hid ⟨?_,?_,?_⟩,D6',own6',hf6⟩
      ·rw [hp.out.1,hj2.out]; simp
      ·rw [hp.out.2.1,hj2.out]
      ·rw [List.length_append,hp.out.2.2]; rfl
     case measure => simp [lenV] <;> omega
  ·obtain rfl:m = n:=by omega
   have d1:decide ((m:Int) < links) = false:=decide_eq_false (by omega)
   obtain ⟨p1,p2,p3⟩:=hp.out
   have e1:P.1 = pre:=by rw [p1,Nat.sub_self]; simp [dbalN]
   have e2:P.2 = (L1,a1):=by rw [p2,Nat.sub_self]; rfl
   have DD:=Lib.hid D.out.dg
   have hp:=Lib.hid (And.intro e1 e2)
   replace p3:=Lib.hid p3
   clear p1 p2 e1 e2
   go_wp2
   go_ret
   refine ⟨A,cp,?_,?_,?_⟩
   ·rw [hp.out.1,p3.out]; rfl
   ·rw [hp.out.1,p3.out]; exact ho.out
   ·rw [hp.out.2]; exact DD.out
end
end Go.Proofs.YtngehaiigbbknaaGreat.Que
