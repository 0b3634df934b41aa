/-
  The walk of wakes.
-/
import Derived.Test.YtgodinapdahocaaClassBegun
import Derived.Test.YtgodinapdahocaaClassTake2
import Derived.Test.YtgodinapdahocaaClassGive
namespace Go.Proofs.Ytgodinapdahocaa.Cls
open Go.RowKit Base MapG
set_option linter.unusedVariables false

def wk0 : St := widenS cw.cf (new0 cw.cf) 2 0
def wk1 : St := takeS cw.cf wk0 2 0
def wk2 : St := takeS cw.cf wk1 2 256
def wk3 : St := giveS cw.cf wk2 0 0
def chunks0 : List Nat := [3840, 3584, 3328, 3072, 2816, 2560, 2304, 2048, 1792, 1536, 1280, 1024, 768, 512]
theorem wk_room0 : roomS cw.cf (new0 cw.cf) 2 = some wk0 := by kernel_rfl
theorem wk_free0 : wk0.free 2 = (chunks0 ++ [256]) ++ [0] := by kernel_rfl
theorem wk_room1 : roomS cw.cf wk1 2 = some wk1 := by kernel_rfl
theorem wk_free1 : wk1.free 2 = chunks0 ++ [256] := by kernel_rfl
theorem wk_find : findN cw.cf wk2 1 = some (0, 0, 0) := by kernel_rfl
theorem wk_room3 : roomS cw.cf wk3 2 = some wk3 := by kernel_rfl
theorem wk_free3 : wk3.free 2 = chunks0 ++ [0] := by kernel_rfl
theorem wk_h0 : hnd 0 (wk0.gens (0 / cw.cf.ps) (0 % cw.cf.ps / cw.sz 2)) = 1 := by kernel_rfl
theorem wk_h1 : hnd 256 (wk1.gens (256 / cw.cf.ps) (256 % cw.cf.ps / cw.sz 2)) = 33 := by kernel_rfl
theorem wk_h3 : hnd 0 (wk3.gens (0 / cw.cf.ps) (0 % cw.cf.ps / cw.sz 2)) = 4294967297 := by kernel_rfl
set_option maxRecDepth 100000 in
set_option maxHeartbeats 1600000 in
theorem wakesC (w : World) : Calls Try.prog 12 #[] w fun e w' => e = .returned (.bool true) ∧ Below w.heap.size w w' := by
  have BC := begunC w cw cw_ref
  rw [show cw.cells = #[.int .i64 4096, .int .i64 3, .int .i64 200, .int .i64 64, .int .i64 256, .int .i64 0, .int .i64 0] from rfl] at BC
  replace BC := Lib.hid BC
  have ok := (okOf cw_ref).1
  have hk : 2 < cw.nc := by rw [cw_nc]; omega
  have n0 := fun w => numC w 0
  go_enter Try.func12, Try.ntmps12
  go_wp2_with fail
  refine BC.out.mono ?_
  rintro e w1 ⟨bl, b, L, r, rfl, B, H, F, hb, R⟩
  have fo : ∀ k, Foot L cw (new0 cw.cf) k → w.heap.size ≤ k := fun k hk => (F k hk).1
  have hsz := bl.size
  replace bl := Lib.hid bl
  replace fo := Lib.hid fo
  have aw : ¬ Foot L cw (new0 cw.cf) b := fun hf => by have := (F b hf).2; omega
  have p0 : w1.cell? ⟨b, 0, none⟩ = some (.pointer (some ⟨L.g, 0, none⟩)) := B.cell 0
  have g0 : Good cw.cf (new0 cw.cf) := new0_good
  have T := takeYes w1 L cw _ _ H g0 2 hk wk0 wk_room0 _ 0 wk_free0
  rw [wk_h0, show ((2 : Nat) : Int) = 2 from rfl, show ((1 : Nat) : Int) = 1 from rfl] at T
  have g1 : Good cw.cf wk1 := (room_good ok g0 hk wk_room0).1.take ok hk wk_free0
  replace T := Lib.hid T
  replace hk := Lib.hid hk
  replace ok := Lib.hid ok
  replace B := Lib.hid B
  clear BC F R H g0 hb
  go_wp2_with fail
  refine T.out.mono ?_
  rintro e w2 ⟨rfl, L2, e2, H, W⟩
  obtain ⟨bb, fo, hsz⟩ := W.below fo.out hsz
  replace bl := Lib.hid (bl.out.trans bb)
  replace fo := Lib.hid fo
  clear bb
  obtain ⟨B2, aw2⟩ := W.away B.out aw
  have p0 : w2.cell? ⟨b, 0, none⟩ = some (.pointer (some ⟨L.g, 0, none⟩)) := B2.cell 0
  have T2 := takeYes w2 L2 cw wk1 _ H g1 2 hk.out wk1 wk_room1 _ 256 wk_free1
  rw [wk_h1, e2, show ((2 : Nat) : Int) = 2 from rfl, show ((33 : Nat) : Int) = 33 from rfl] at T2
  have g2 : Good cw.cf wk2 := (room_good ok.out g1 hk.out wk_room1).1.take ok.out hk.out wk_free1
  replace T2 := Lib.hid T2
  replace B2 := Lib.hid B2
  clear T H W B aw g1 e2
  go_wp2_with fail
  refine T2.out.mono ?_
  rintro e w3 ⟨rfl, L3, e3, H, W⟩
  obtain ⟨bb, fo, hsz⟩ := W.below fo.out hsz
  replace bl := Lib.hid (bl.out.trans bb)
  replace fo := Lib.hid fo
  clear bb
  obtain ⟨B3, aw3⟩ := W.away B2.out aw2
  have p0 : w3.cell? ⟨b, 0, none⟩ = some (.pointer (some ⟨L.g, 0, none⟩)) := B3.cell 0
  have T3 := giveYes w3 L3 cw wk2 _ H g2 1 (by decide) 0 0 0 wk_find
  rw [e3, show ((1 : Nat) : Int) = 1 from rfl] at T3
  obtain ⟨f1, f2, f3, f4, -⟩ := findN_some g2 wk_find
  have g3 : Good cw.cf wk3 := g2.give ok.out f1 f2 f3 f4
  replace T3 := Lib.hid T3
  replace B3 := Lib.hid B3
  clear T2 H W B2 aw2 g2 e3 f1 f2 f3 f4
  go_wp2_with fail
  refine T3.out.mono ?_
  rintro e w4 ⟨rfl, L4, e4, H, W⟩
  obtain ⟨bb, fo, hsz⟩ := W.below fo.out hsz
  replace bl := Lib.hid (bl.out.trans bb)
  replace fo := Lib.hid fo
  clear bb
  obtain ⟨B4, aw4⟩ := W.away B3.out aw3
  have p0 : w4.cell? ⟨b, 0, none⟩ = some (.pointer (some ⟨L.g, 0, none⟩)) := B4.cell 0
  have T4 := takeYes w4 L4 cw wk3 _ H g3 2 hk.out wk3 wk_room3 _ 0 wk_free3
  rw [wk_h3, e4, show ((2 : Nat) : Int) = 2 from rfl, show ((4294967297 : Nat) : Int) = 4294967297 from rfl] at T4
  replace T4 := Lib.hid T4
  clear T3 H W B3 B4 aw3 aw4 g3 e4
  go_wp2_with fail
  refine T4.out.mono ?_
  rintro e w5 ⟨rfl, L5, -, -, W⟩
  replace bl := Lib.hid (bl.out.trans (W.below fo.out hsz).1)
  clear W
  clear p0 T4
  go_wp2_with (first | (go_at_call 11; refine (n0 _).mono ?_; rintro e w' ⟨rfl, rfl⟩) | fail)
  go_ret
  exact ⟨rfl, bl.out⟩
/-- The names: limits and errors. -/
theorem namesC (w : World) : Calls Try.prog 3 #[] w fun e w' => e = .returned (.bool true) ∧ Below w.heap.size w w' := by
  have WC := Lib.hid wakesC
  have NC := numC
  go_enter Try.func3, Try.ntmps3
  go_wp2_with (first | (go_at_call 11; refine (NC _ _).mono ?_; rintro e w' ⟨rfl, rfl⟩) | (go_at_call 12; refine (WC.out _).mono ?_; rintro e w' ⟨rfl, bl⟩; replace bl := Lib.hid bl) | fail)
  go_ret
  exact ⟨rfl, bl.out⟩
end Go.Proofs.Ytgodinapdahocaa.Cls
