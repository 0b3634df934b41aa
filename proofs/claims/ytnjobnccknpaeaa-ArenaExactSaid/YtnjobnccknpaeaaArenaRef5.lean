/-
  The walks of the document's Move (where it lays), New and Whole.
-/
import Derived.Test.YtnjobnccknpaeaaArenaRef4
import Derived.Deep.RegionHeld3
namespace Go.Proofs.Ytnjobnccknpaeaa.Arena
open Go.RowKit Base
set_option linter.unusedVariables false

set_option maxRecDepth 100000 in
theorem refMoveYes (w : World) (g h page : Nat) (l : List UInt8) (a : AtR w g h page l) (t f n : Int) (y1 : There page l.length t n) (y2 : There page l.length f n) :
    Calls Try.prog 64 #[.pointer (some ⟨g, 0, none⟩), .int .i64 t, .int .i64 f, .int .i64 n] w fun e w' =>
      e = .returned (.int .i64 0) ∧ AtR w' g h page (lay l t.toNat ((l.drop f.toNat).take n.toNat)) ∧ Only (· = h) w w' := by
  obtain ⟨F, rfl⟩ := Int.eq_ofNat_of_zero_le y2.1
  obtain ⟨N, rfl⟩ := Int.eq_ofNat_of_zero_le y1.2.1
  simp only [Int.toNat_natCast]
  have hs := a.small
  have hlen : ((l.drop F).take N).length = N := by
    obtain ⟨-, -, h3, -⟩ := y2
    simp; omega
  have C1 := Lib.hid (refThereYes w g h page l a t N y1)
  have C2 := Lib.hid (fun m => refThereYes (w.drewN m) g h page l (a.drewN m) F N y2)
  have CR := Lib.hid (fun (W : World) (aw : AtR W g h page l) => refReadYes W g h page l aw F N y2)
  have hN : N ≤ 1073741824 := by
    obtain ⟨-, -, h3, -⟩ := y2
    omega
  clear y2
  generalize hq : (l.drop F).take N = q at *
  have CW := Lib.hid (fun (W : World) (aw : AtR W g h page l) (A : Option Addr) (c B : Nat) (hp : Bytes W B A q) (hA : ∀ b off, A = some ⟨b, off, none⟩ → b ≠ h) => refWriteYes W g h page l aw t A c B q hp (fun _ => hA) (by rw [hlen]; exact y1))
  clear y1 hq
  replace hlen := Lib.hid hlen
  have a0 := Lib.hid a
  clear a
  go_enter Try.func64, Try.ntmps64
  go_wp2_with fail
  refine C1.out.mono ?_
  rintro e w1 ⟨rfl, m, rfl⟩
  go_wp2_with fail
  refine (C2.out m).mono ?_
  rintro e w2 ⟨rfl, m2, hw2⟩
  have a2 : AtR w2 g h page l := by rw [← hw2]; exact (a0.out.drewN m).drewN m2
  have o2 : Only (· = h) w w2 := by rw [← hw2]; exact ((Only.refl _ _).drewN m).drewN m2
  clear hw2 C1 C2 a0
  go_wp2_with fail
  refine (CR.out w2 a2).mono ?_
  rintro e w3 ⟨v, rfl, ho3, b3⟩
  have hh := a2.bytes.lt
  have a3 : AtR w3 g h page l := a2.keep (b3.block _ (heap_lt a2.head)) (b3.block _ a2.bytes.lt)
  have o3 : Only (· = h) w w3 := o2.below b3 o2.size
  have hlt := ho3.lt
  rw [← hlen.out] at ho3
  obtain ⟨A, c, rfl, hb⟩ := own_bytes ho3
  have hA : ∀ b off, A = some ⟨b, off, none⟩ → b ≠ h := fun b off hA => by
    subst hA
    have := (hlt b (by simp [Value.ownBlock])).1
    omega
  have W3 := Lib.hid (CW.out w3 a3 A c _ hb hA)
  clear CW CR a3 a2 o2 ho3 hlt b3 hb hA
  go_wp2_with fail
  refine W3.out.mono ?_
  rintro e w4 ⟨rfl, a4, o4, hs4⟩
  replace a4 := Lib.hid a4
  have o5 := o3.trans o4 (fun _ _ h => h)
  clear W3 o3 o4 hs4
  go_wp2
  go_ret
  exact ⟨rfl, a4.out, o5⟩

set_option maxRecDepth 100000 in
theorem refNewC (w : World) (p n : Nat) (hp : 0 < p) (hpb : p ≤ 1048576) (hpn : p * n ≤ 1073741824) :
    Calls Try.prog 57 #[.int .i64 (p : Int), .int .i64 (n : Int)] w fun e w' =>
      e = .returned (.pointer (some ⟨w.heap.size + 1, 0, none⟩)) ∧ AtR w' (w.heap.size + 1) w.heap.size p (List.replicate (p * n) 0) ∧ Below w.heap.size w w' ∧ w'.heap.size = w.heap.size + 2 := by
  have hmk : ∀ w : World, (Instr.makeSlice 38 (.int .i64 ((p : Int) * (n : Int))) (.int .i64 ((p : Int) * (n : Int)))).run Try.prog w = .ok (.slice (some ⟨w.heap.size, 0, none⟩) (p * n) (p * n)) (w.alloc (.cells (madeCells (Value.int .u8 0).cells (p * n * 1)) 5)) := by
    intro w
    have := EI.make eiBytes .i64 .i64 (p * n) (p * n) (by omega) (by omega) (by omega) w
    rw [Int.natCast_mul] at this
    exact this
  have hm := bb_made w (p * n)
  have hbel : Below w.heap.size w (w.alloc (.cells (madeCells (Value.int .u8 0).cells (p * n * 1)) 5)) := (Below.refl _ _).alloc (Nat.le_refl _) _
  have hsz := Lib.hid (World.size_alloc w (.cells (madeCells (Value.int .u8 0).cells (p * n * 1)) 5))
  have hlt := Lib.hid hm.lt
  have hq : ((p : Int) * (n : Int)) ≤ 1073741824 := by rw [← Int.natCast_mul]; omega
  have hq0 : 0 ≤ ((p : Int) * (n : Int)) := by rw [← Int.natCast_mul]; omega
  have hat : AtR ((w.alloc (.cells (madeCells (Value.int .u8 0).cells (p * n * 1)) 5)).alloc (.cells #[.int .i64 (p : Int), .slice (some ⟨w.heap.size, 0, none⟩) (p * n) (p * n)] 124)) (w.heap.size + 1) w.heap.size p (List.replicate (p * n) 0) := by
    refine ⟨?_, ?_, by omega, by simpa using hpn, by omega⟩
    · have := heap_alloc_new (w.alloc (.cells (madeCells (Value.int .u8 0).cells (p * n * 1)) 5)) (.cells #[.int .i64 (p : Int), .slice (some ⟨w.heap.size, 0, none⟩) (p * n) (p * n)] 124)
      rw [World.size_alloc] at this
      rw [this]
      simp
    · exact (Below.heap_alloc _ _ _ (by simp)).trans hm
  replace hat := Lib.hid hat
  generalize hO : Obj.cells (madeCells (Value.int .u8 0).cells (p * n * 1)) 5 = O at *
  clear hO hm
  go_enter Try.func57, Try.ntmps57
  go_wp2
  go_ret
  exact ⟨rfl, hat.out, hbel.alloc (by rw [hsz.out]; exact Nat.le_succ _) _, by rw [World.size_alloc, hsz.out]⟩

theorem refWholeNo (w : World) (g h page : Nat) (l : List UInt8) (a : AtR w g h page l) (i : Int) (hi : inI64 i) (hno : i < 0 ∨ ((l.length / page : Nat) : Int) ≤ i) :
    Calls Try.prog 69 #[.pointer (some ⟨g, 0, none⟩), .int .i64 i] w fun e w' => e = .returned (.tuple #[.slice none 0 0, .int .i64 20]) ∧ ∃ m, w.drewN m = w' := by
  obtain ⟨hi1, hi2⟩ := hi
  have c0 := a.cell0
  have c1 := a.cell1
  have hs := a.small
  have hps := a.psmall
  have hpos := a.pos
  have hz : (page : Int) ≠ 0 := by omega
  have t1 : (l.length : Int).tdiv (page : Int) = ((l.length / page : Nat) : Int) := by rw [Int.tdiv_eq_ediv_of_nonneg (by omega)]; rfl
  have b1 : l.length / page ≤ l.length := Nat.div_le_self _ _
  generalize l.length / page = q at *
  have w1 : IntKind.i64.wrap (q : Int) = q := IntWalk.i64_in _ (by omega)
  clear a
  by_cases h0 : i < 0
  · have d1 : decide (i < 0) = true := by simp; omega
    clear hno
    go_enter Try.func69, Try.ntmps69
    go_wp2_with fail
    go_quiet (fail)
    go_wp2
    go_ret2
    exact ⟨rfl, _, rfl⟩
  · have h1 : (q : Int) ≤ i := by omega
    have d1 : decide (i < 0) = false := by simp; omega
    have d2 : decide ((q : Int) ≤ i) = true := by simp; omega
    clear hno
    go_enter Try.func69, Try.ntmps69
    go_wp2_with fail
    go_quiet (fail)
    go_wp2
    go_ret2
    exact ⟨rfl, _, rfl⟩
set_option maxRecDepth 100000 in
theorem refWholeYes (w : World) (g h page : Nat) (l : List UInt8) (a : AtR w g h page l) (k : Nat) (hk : k < l.length / page) :
    Calls Try.prog 69 #[.pointer (some ⟨g, 0, none⟩), .int .i64 (k : Int)] w fun e w' =>
      ∃ v, e = .returned (.tuple #[v, .int .i64 0]) ∧ w'.ownsRow w.heap.size 5 1 v page (((l.drop (k * page)).take page).map bv) ∧ Below w.heap.size w w' := by
  have c0 := a.cell0
  have c1 := a.cell1
  have hs := a.small
  have hps := a.psmall
  have hpos := a.pos
  have hz : (page : Int) ≠ 0 := by omega
  have hgl := heap_lt a.head
  have hmul : k * page + page ≤ l.length := by
    have h1 : (k + 1) * page ≤ l.length / page * page := Nat.mul_le_mul_right _ hk
    have h2 := Nat.div_mul_le_self l.length page
    rw [Nat.add_mul, Nat.one_mul] at h1
    omega
  have hy : There page l.length ((k * page : Nat) : Int) page := by
    refine ⟨by omega, by omega, by omega, .inr ?_⟩
    rw [Int.natCast_mul, Int.mul_emod_left]; omega
  have R := Lib.hid (fun m => refReadYes (w.drewN m) g h page l (a.drewN m) (k * page) page hy)
  have ew : IntKind.i64.wrap ((k : Int) * (page : Int)) = (k : Int) * page := by
    rw [← Int.natCast_mul]; exact IntWalk.i64_in _ (by omega)
  rw [Int.natCast_mul] at R
  have t1 : (l.length : Int).tdiv (page : Int) = ((l.length / page : Nat) : Int) := by rw [Int.tdiv_eq_ediv_of_nonneg (by omega)]; rfl
  have b1 : l.length / page ≤ l.length := Nat.div_le_self _ _
  have hm1 : 0 ≤ (k : Int) * page := by rw [← Int.natCast_mul]; omega
  have hm2 : (k : Int) * page ≤ 1073741824 := by rw [← Int.natCast_mul]; omega
  generalize l.length / page = q at *
  have w1 : IntKind.i64.wrap (q : Int) = q := IntWalk.i64_in _ (by omega)
  have d1 : decide ((k : Int) < 0) = false := by simp
  have d2 : decide ((q : Int) ≤ (k : Int)) = false := by simp; omega
  have d3 : decide (q ≤ k) = false := by simp; omega
  clear a hy hmul hk
  go_enter Try.func69, Try.ntmps69
  go_wp2_with fail
  go_quiet (fail)
  go_wp2_with fail
  have cW : (w.drewN nq).cell? ⟨g, 0, none⟩ = some (.int .i64 (page : Int)) := c0
  have RW := Lib.hid (R.out (nq + 1))
  rw [show w.drewN (nq + 1) = (w.drewN nq).drew from rfl] at RW
  have bW : Below w.heap.size w (w.drewN nq) := below_drewN (Below.refl _ _) nq
  have hsW : w.heap.size = (w.drewN nq).heap.size := rfl
  clear R c0 c1 d1 d2 d3 w1 t1 hz b1
  generalize w.drewN nq = W at *
  replace bW := Lib.hid bW
  rw [hsW] at hgl
  replace hsW := Lib.hid hsW
  go_region_held3 (fun w' => w'.cell? ⟨g, 0, none⟩ = some (.int .i64 (page : Int)))
    (first
      | go_keep
      | (rw [hbel.cell (p := ⟨g, 0, none⟩) hgl]; exact cW))
    ((first
      | (go_at_call 66; refine RW.out.mono ?_; rintro e w' ⟨v, rfl, ho1, hbel⟩)))
  replace ho1 := Lib.hid ho1
  go_wp2
  go_ret2
  exact ⟨v, rfl, by rw [hsW.out]; exact ho1.out, (below_drewN bW.out 1).trans (by rw [hsW.out]; exact hbel)⟩
end Go.Proofs.Ytnjobnccknpaeaa.Arena
