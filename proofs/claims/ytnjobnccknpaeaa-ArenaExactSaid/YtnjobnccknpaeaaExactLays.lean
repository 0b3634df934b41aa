/-
  The walk of pair.lays, one theorem for each kind of call.
-/
import Derived.Test.YtnjobnccknpaeaaExactPair
import Derived.Deep.DeepCutAuto
import Derived.Deep.RegionLaw
import Derived.Deep.DrawnRows
namespace Go.Proofs.Ytnjobnccknpaeaa.Exact
open Go.RowKit Base Arena Held
set_option linter.unusedVariables false

/-- A call of a script. -/
structure Op where
  d : Int
  which : Int
  pl : Int
  tt : Int
  n : Int
  width : Int
  v : Nat
  A : Option Addr
  q : List UInt8
  c : Nat
  own : Bool
def Op.cells (o : Op) : Array Value := #[.int .i64 o.d, .int .i64 o.which, .int .i64 o.pl, .int .i64 o.tt, .int .i64 o.n, .int .i64 o.width, .int .u64 (o.v : Int), .slice o.A o.q.length o.c, .bool o.own]
structure Op.Ok (o : Op) (w : World) (N : Nat) : Prop where
  pl : inI64 o.pl
  tt : inI64 o.tt
  n : inI64 o.n
  width : inI64 o.width
  which : inI64 o.which
  d : inI64 o.d
  v : o.v < 18446744073709551616
  q : o.q.length ≤ 140737488351232
  b : Bytes w N o.A o.q
theorem Op.Ok.below {o : Op} {w w' : World} {N : Nat} (h : o.Ok w N) (hb : Below N w w') : o.Ok w' N := ⟨h.pl, h.tt, h.n, h.width, h.which, h.d, h.v, h.q, Row.below h.b hb⟩

/-- The call in a box of its own. -/
theorem boxed (w : World) (o : Op) : ∃ w1, w1 = w.alloc (.cells o.cells 40) ∧ Below w.heap.size w w1 ∧ w1.heap.size = w.heap.size + 1 ∧ w1.cell? ⟨w.heap.size, 0, none⟩ = some (.int .i64 o.d) ∧ w1.cell? ⟨w.heap.size, 1, none⟩ = some (.int .i64 o.which) ∧ w1.cell? ⟨w.heap.size, 2, none⟩ = some (.int .i64 o.pl) ∧
    w1.cell? ⟨w.heap.size, 3, none⟩ = some (.int .i64 o.tt) ∧ w1.cell? ⟨w.heap.size, 4, none⟩ = some (.int .i64 o.n) ∧ w1.cell? ⟨w.heap.size, 5, none⟩ = some (.int .i64 o.width) ∧ w1.cell? ⟨w.heap.size, 6, none⟩ = some (.int .u64 (o.v : Int)) ∧
    w1.cell? ⟨w.heap.size, 7, none⟩ = some (.slice o.A o.q.length o.c) ∧ w1.cell? ⟨w.heap.size, 8, none⟩ = some (.bool o.own) := by
  have hc : ∀ i, (w.alloc (.cells o.cells 40)).cell? ⟨w.heap.size, i, none⟩ = o.cells[i]? := fun i => cell_of_row _ _ i _ 40 (0, 0) (heap_alloc_new w _)
  exact ⟨_, rfl, (Below.refl _ _).alloc (Nat.le_refl _) _, World.size_alloc _ _, hc 0, hc 1, hc 2, hc 3, hc 4, hc 5, hc 6, hc 7, hc 8⟩

set_option maxRecDepth 100000 in
set_option maxHeartbeats 1600000 in
theorem laysPut (w : World) {p N ga ha gr hr hh page : Nat} {l : List UInt8} {G : Nat → Prop} (P : Pair2 w p N ga ha gr hr hh page l l G) (o : Op) (hd : o.d = 2) (ok : o.Ok w N) :
    Calls Try.prog 32 #[.pointer (some ⟨p, 0, none⟩), .agg o.cells] w fun e w' => e = .returned (.bool true) ∧ ∃ l', l'.length = l.length ∧ Pair2 w' p N ga ha gr hr hh page l' l' G ∧ Only (fun b => b = ha ∨ b = hr) w w' := by
  obtain ⟨d, which, pl, tt, n, width, v, A, q, c, own⟩ := o
  obtain ⟨i1, i2, i3, i4, i5, i6, hv, hq, hb⟩ := ok
  simp only at hd i1 i2 i3 i4 i5 i6 hv hq hb
  subst hd
  unfold Op.cells
  simp only
  obtain ⟨w1, hw1, b1, hs1, x0, -, x2, -, -, x5, x6, -, x8⟩ := boxed w ⟨2, which, pl, tt, n, width, v, A, q, c, own⟩
  unfold Op.cells at hw1
  simp only at x0 x2 x5 x6 x8 hw1
  have P1 := P.below b1
  have hha : ha < w.heap.size := P.a.bytes.lt
  replace hw1 := Lib.hid hw1
  have WO := Lib.hid (widthOfC width i4)
  have hk := widthN_wide width
  generalize widthN width = k at *
  go_enter Try.func32, Try.ntmps32
  go_upto_region 1 with fail
  rw [← hw1.out]
  go_wp2_with fail
  refine (WO.out _).mono ?_
  rintro e w' ⟨rfl, rfl⟩
  rcases hk with rfl | rfl | rfl | rfl
  · obtain ⟨x, hx⟩ : ∃ x : Nat, x = v % 256 := ⟨_, rfl⟩
    have hxl : x < 18446744073709551616 := by omega
    have hxi : (v : Int) % 256 = (x : Int) := by omega
    have PJ : ∀ W, Pair2 W p N ga ha gr hr hh page l l G → Calls Try.prog 13 #[.pointer (some ⟨ga, 0, none⟩), .int .i64 pl, .int .i64 1, .int .u64 (x : Int), .bool own] W fun e w' =>
        e = .returned (.int .i64 (cd page l.length pl 1)) ∧ Pair2 w' p N ga ha gr hr hh page (layL page l pl 1 (putB 1 x)) l G ∧ Only (· = ha) W w' := fun W P => putJ P 1 (by unfold Wide; omega) own pl i1 x hxl
    have RJ : ∀ W la, Pair2 W p N ga ha gr hr hh page la l G → Calls Try.prog 58 #[.pointer (some ⟨gr, 0, none⟩), .int .i64 pl, .int .i64 1, .int .u64 (x : Int)] W fun e w' =>
        e = .returned (.int .i64 (cd page l.length pl 1)) ∧ Pair2 w' p N ga ha gr hr hh page la (layL page l pl 1 (putB 1 x)) G ∧ Only (· = hr) W w' := fun W la P => refPutJ P 1 (by unfold Wide; omega) pl i1 x hxl
    have hll : (layL page l pl 1 (putB 1 x)).length = l.length := layL_len (putB_len _ _)
    generalize cd page l.length pl 1 = C at *
    generalize layL page l pl 1 (putB 1 x) = l' at *
    replace hx := Lib.hid hx
    replace hll := Lib.hid hll
    replace RJ := Lib.hid RJ
    go_wp2_with fail
    rw [hxi]
    replace hxi := Lib.hid hxi
    clear x5 x6
    obtain ⟨k0, k1, -⟩ := P1.cells
    have PC := Lib.hid (PJ w1.drew (P1.drewN 1))
    clear PJ
    go_still_tail 10, (by kernel_rfl)
    change wpList _ _ _ _ _ w1.drew
    go_wp2_with fail
    refine PC.out.mono ?_
    rintro e w2 ⟨rfl, P2, o2⟩
    clear PC k0 k1 x8
    have x2' : w2.cell? ⟨w.heap.size, 2, none⟩ = some (.int .i64 pl) := (World.cell?_of_block (a := ⟨w.heap.size, 2, none⟩) (o2.block w.heap.size (by show _ < w1.heap.size; rw [hs1]; exact Nat.lt_succ_self _) (by have := hha; omega))).trans x2
    obtain ⟨-, k1, -⟩ := P2.cells
    have RC := Lib.hid (RJ.out w2.drew l' (P2.drewN 1))
    clear RJ x2 x0
    replace P2 := Lib.hid P2
    go_wp2_with fail
    go_region_law ((go_simp; first | (go_at_call 58; refine RC.out.mono ?_; rintro e w3 ⟨rfl, P3, o3⟩)))
    all_goals
     have fin : Only (fun b => b = ha ∨ b = hr) w w3 := ((((Only.refl _ w).below b1 (Nat.le_refl _)).drewN 1).trans o2 (fun x _ h => .inl h)).drewN 1 |>.trans o3 (fun x _ h => .inr h)
     replace fin := Lib.hid fin
     replace P3 := Lib.hid P3
     clear RC o2 o3 x2' k1
     go_wp2
     go_ret
     exact ⟨rfl, l', hll.out, P3.out, fin.out⟩
  · obtain ⟨x, hx⟩ : ∃ x : Nat, x = v % 65536 := ⟨_, rfl⟩
    have hxl : x < 18446744073709551616 := by omega
    have hxi : (v : Int) % 65536 = (x : Int) := by omega
    have PJ : ∀ W, Pair2 W p N ga ha gr hr hh page l l G → Calls Try.prog 13 #[.pointer (some ⟨ga, 0, none⟩), .int .i64 pl, .int .i64 2, .int .u64 (x : Int), .bool own] W fun e w' =>
        e = .returned (.int .i64 (cd page l.length pl 2)) ∧ Pair2 w' p N ga ha gr hr hh page (layL page l pl 2 (putB 2 x)) l G ∧ Only (· = ha) W w' := fun W P => putJ P 2 (by unfold Wide; omega) own pl i1 x hxl
    have RJ : ∀ W la, Pair2 W p N ga ha gr hr hh page la l G → Calls Try.prog 58 #[.pointer (some ⟨gr, 0, none⟩), .int .i64 pl, .int .i64 2, .int .u64 (x : Int)] W fun e w' =>
        e = .returned (.int .i64 (cd page l.length pl 2)) ∧ Pair2 w' p N ga ha gr hr hh page la (layL page l pl 2 (putB 2 x)) G ∧ Only (· = hr) W w' := fun W la P => refPutJ P 2 (by unfold Wide; omega) pl i1 x hxl
    have hll : (layL page l pl 2 (putB 2 x)).length = l.length := layL_len (putB_len _ _)
    generalize cd page l.length pl 2 = C at *
    generalize layL page l pl 2 (putB 2 x) = l' at *
    replace hx := Lib.hid hx
    replace hll := Lib.hid hll
    replace RJ := Lib.hid RJ
    go_wp2_with fail
    rw [hxi]
    replace hxi := Lib.hid hxi
    clear x5 x6
    obtain ⟨k0, k1, -⟩ := P1.cells
    have PC := Lib.hid (PJ w1.drew (P1.drewN 1))
    clear PJ
    go_still_tail 10, (by kernel_rfl)
    change wpList _ _ _ _ _ w1.drew
    go_wp2_with fail
    refine PC.out.mono ?_
    rintro e w2 ⟨rfl, P2, o2⟩
    clear PC k0 k1 x8
    have x2' : w2.cell? ⟨w.heap.size, 2, none⟩ = some (.int .i64 pl) := (World.cell?_of_block (a := ⟨w.heap.size, 2, none⟩) (o2.block w.heap.size (by show _ < w1.heap.size; rw [hs1]; exact Nat.lt_succ_self _) (by have := hha; omega))).trans x2
    obtain ⟨-, k1, -⟩ := P2.cells
    have RC := Lib.hid (RJ.out w2.drew l' (P2.drewN 1))
    clear RJ x2 x0
    replace P2 := Lib.hid P2
    go_wp2_with fail
    go_region_law ((go_simp; first | (go_at_call 58; refine RC.out.mono ?_; rintro e w3 ⟨rfl, P3, o3⟩)))
    all_goals
     have fin : Only (fun b => b = ha ∨ b = hr) w w3 := ((((Only.refl _ w).below b1 (Nat.le_refl _)).drewN 1).trans o2 (fun x _ h => .inl h)).drewN 1 |>.trans o3 (fun x _ h => .inr h)
     replace fin := Lib.hid fin
     replace P3 := Lib.hid P3
     clear RC o2 o3 x2' k1
     go_wp2
     go_ret
     exact ⟨rfl, l', hll.out, P3.out, fin.out⟩
  · obtain ⟨x, hx⟩ : ∃ x : Nat, x = v % 4294967296 := ⟨_, rfl⟩
    have hxl : x < 18446744073709551616 := by omega
    have hxi : (v : Int) % 4294967296 = (x : Int) := by omega
    have PJ : ∀ W, Pair2 W p N ga ha gr hr hh page l l G → Calls Try.prog 13 #[.pointer (some ⟨ga, 0, none⟩), .int .i64 pl, .int .i64 4, .int .u64 (x : Int), .bool own] W fun e w' =>
        e = .returned (.int .i64 (cd page l.length pl 4)) ∧ Pair2 w' p N ga ha gr hr hh page (layL page l pl 4 (putB 4 x)) l G ∧ Only (· = ha) W w' := fun W P => putJ P 4 (by unfold Wide; omega) own pl i1 x hxl
    have RJ : ∀ W la, Pair2 W p N ga ha gr hr hh page la l G → Calls Try.prog 58 #[.pointer (some ⟨gr, 0, none⟩), .int .i64 pl, .int .i64 4, .int .u64 (x : Int)] W fun e w' =>
        e = .returned (.int .i64 (cd page l.length pl 4)) ∧ Pair2 w' p N ga ha gr hr hh page la (layL page l pl 4 (putB 4 x)) G ∧ Only (· = hr) W w' := fun W la P => refPutJ P 4 (by unfold Wide; omega) pl i1 x hxl
    have hll : (layL page l pl 4 (putB 4 x)).length = l.length := layL_len (putB_len _ _)
    generalize cd page l.length pl 4 = C at *
    generalize layL page l pl 4 (putB 4 x) = l' at *
    replace hx := Lib.hid hx
    replace hll := Lib.hid hll
    replace RJ := Lib.hid RJ
    go_wp2_with fail
    rw [hxi]
    replace hxi := Lib.hid hxi
    clear x5 x6
    obtain ⟨k0, k1, -⟩ := P1.cells
    have PC := Lib.hid (PJ w1.drew (P1.drewN 1))
    clear PJ
    go_still_tail 10, (by kernel_rfl)
    change wpList _ _ _ _ _ w1.drew
    go_wp2_with fail
    refine PC.out.mono ?_
    rintro e w2 ⟨rfl, P2, o2⟩
    clear PC k0 k1 x8
    have x2' : w2.cell? ⟨w.heap.size, 2, none⟩ = some (.int .i64 pl) := (World.cell?_of_block (a := ⟨w.heap.size, 2, none⟩) (o2.block w.heap.size (by show _ < w1.heap.size; rw [hs1]; exact Nat.lt_succ_self _) (by have := hha; omega))).trans x2
    obtain ⟨-, k1, -⟩ := P2.cells
    have RC := Lib.hid (RJ.out w2.drew l' (P2.drewN 1))
    clear RJ x2 x0
    replace P2 := Lib.hid P2
    go_wp2_with fail
    go_region_law ((go_simp; first | (go_at_call 58; refine RC.out.mono ?_; rintro e w3 ⟨rfl, P3, o3⟩)))
    all_goals
     have fin : Only (fun b => b = ha ∨ b = hr) w w3 := ((((Only.refl _ w).below b1 (Nat.le_refl _)).drewN 1).trans o2 (fun x _ h => .inl h)).drewN 1 |>.trans o3 (fun x _ h => .inr h)
     replace fin := Lib.hid fin
     replace P3 := Lib.hid P3
     clear RC o2 o3 x2' k1
     go_wp2
     go_ret
     exact ⟨rfl, l', hll.out, P3.out, fin.out⟩
  · obtain ⟨x, hx⟩ : ∃ x : Nat, x = v := ⟨_, rfl⟩
    have hxl : x < 18446744073709551616 := by omega
    have hxi : (v : Int) = (x : Int) := by omega
    have PJ : ∀ W, Pair2 W p N ga ha gr hr hh page l l G → Calls Try.prog 13 #[.pointer (some ⟨ga, 0, none⟩), .int .i64 pl, .int .i64 8, .int .u64 (x : Int), .bool own] W fun e w' =>
        e = .returned (.int .i64 (cd page l.length pl 8)) ∧ Pair2 w' p N ga ha gr hr hh page (layL page l pl 8 (putB 8 x)) l G ∧ Only (· = ha) W w' := fun W P => putJ P 8 (by unfold Wide; omega) own pl i1 x hxl
    have RJ : ∀ W la, Pair2 W p N ga ha gr hr hh page la l G → Calls Try.prog 58 #[.pointer (some ⟨gr, 0, none⟩), .int .i64 pl, .int .i64 8, .int .u64 (x : Int)] W fun e w' =>
        e = .returned (.int .i64 (cd page l.length pl 8)) ∧ Pair2 w' p N ga ha gr hr hh page la (layL page l pl 8 (putB 8 x)) G ∧ Only (· = hr) W w' := fun W la P => refPutJ P 8 (by unfold Wide; omega) pl i1 x hxl
    have hll : (layL page l pl 8 (putB 8 x)).length = l.length := layL_len (putB_len _ _)
    generalize cd page l.length pl 8 = C at *
    generalize layL page l pl 8 (putB 8 x) = l' at *
    replace hx := Lib.hid hx
    replace hll := Lib.hid hll
    replace RJ := Lib.hid RJ
    go_wp2_with fail
    skip
    replace hxi := Lib.hid hxi
    clear x5 x6
    obtain ⟨k0, k1, -⟩ := P1.cells
    have PC := Lib.hid (PJ w1.drew (P1.drewN 1))
    clear PJ
    go_still_tail 10, (by kernel_rfl)
    change wpList _ _ _ _ _ w1.drew
    go_wp2_with fail
    refine PC.out.mono ?_
    rintro e w2 ⟨rfl, P2, o2⟩
    clear PC k0 k1 x8
    have x2' : w2.cell? ⟨w.heap.size, 2, none⟩ = some (.int .i64 pl) := (World.cell?_of_block (a := ⟨w.heap.size, 2, none⟩) (o2.block w.heap.size (by show _ < w1.heap.size; rw [hs1]; exact Nat.lt_succ_self _) (by have := hha; omega))).trans x2
    obtain ⟨-, k1, -⟩ := P2.cells
    have RC := Lib.hid (RJ.out w2.drew l' (P2.drewN 1))
    clear RJ x2 x0
    replace P2 := Lib.hid P2
    go_wp2_with fail
    go_region_law ((go_simp; first | (go_at_call 58; refine RC.out.mono ?_; rintro e w3 ⟨rfl, P3, o3⟩)))
    all_goals
     have fin : Only (fun b => b = ha ∨ b = hr) w w3 := ((((Only.refl _ w).below b1 (Nat.le_refl _)).drewN 1).trans o2 (fun x _ h => .inl h)).drewN 1 |>.trans o3 (fun x _ h => .inr h)
     replace fin := Lib.hid fin
     replace P3 := Lib.hid P3
     clear RC o2 o3 x2' k1
     go_wp2
     go_ret
     exact ⟨rfl, l', hll.out, P3.out, fin.out⟩
end Go.Proofs.Ytnjobnccknpaeaa.Exact
