/-
  The walk of settle: an entry goes to where it belongs.
-/
import Derived.Test.YteebcdicocmicaaTideMem
import Derived.Deep.DeepCutAuto
import Derived.Deep.CutBlock
namespace Go.Proofs.Yteebcdicocmicaa.Tide
open Go.RowKit Base MapI Go.Sort
set_option linter.unusedVariables false

theorem grow_below (w : World) (q : Nat) (os : Array Obj) : Below w.heap.size w (grow (w.drewN q) os) :=
  ⟨rfl, rfl, rfl, by simp [grow], fun k hk => heap_grow_old (w.drewN q) os hk⟩
theorem orderB (a b : E) (w : World) : Calls Try.prog 47 #[eV a, eV b] w fun e w' => e = .returned (.int .i64 (ord a b)) ∧ Below w.heap.size w w' :=
  (orderC a b w).mono fun e w' ⟨he, q, os, hw⟩ => ⟨he, by rw [hw]; exact grow_below w q os⟩
/-- The box of an entry. -/
def BoxE (w : World) (k : Nat) (a : E) : Prop := Blk w k 118 #[.int .u64 (a.h : Int), .int .i64 a.x, .int .u64 (a.t : Int)]

structure R1 (w : World) (g b c m n t i N : Nat) (es0 : List E) (a : E) (k n' : Nat) (cur : List E) (f : Nat → Option Nat) (wr : World) : Prop where
  hole : Hole es0 a k cur f
  mem : WM wr g b c m n' t cur f
  box : BoxE wr N a
  only : Only (Foot b m) w wr
  cnt : n' + k ≤ n + i
  far : N ≠ b ∧ N ≠ m
/-- .. on the way down. -/
structure R2 (w : World) (g b c m n t N : Nat) (es0 : List E) (a : E) (k n' : Nat) (cur : List E) (f : Nat → Option Nat) (wr : World) : Prop where
  hole : Hole es0 a k cur f
  mem : WM wr g b c m n' t cur f
  box : BoxE wr N a
  only : Only (Foot b m) w wr
  cnt : n' + es0.length ≤ n + 2 * es0.length - 1 + k
  far : N ≠ b ∧ N ≠ m
  uok : UpOK a k cur
section
variable {w wr w' : World} {g b c m n t i N k n' : Nat} {es0 cur : List E} {a : E} {f : Nat → Option Nat}
theorem R1.below (r : R1 w g b c m n t i N es0 a k n' cur f wr) (hb : Below wr.heap.size wr w') : R1 w g b c m n t i N es0 a k n' cur f w' :=
  ⟨r.hole, r.mem.below hb, Blk.below r.box hb r.box.lt, r.only.below hb r.only.size, r.cnt, r.far⟩
theorem R2.below (r : R2 w g b c m n t N es0 a k n' cur f wr) (hb : Below wr.heap.size wr w') : R2 w g b c m n t N es0 a k n' cur f w' :=
  ⟨r.hole, r.mem.below hb, Blk.below r.box hb r.box.lt, r.only.below hb r.only.size, r.cnt, r.far, r.uok⟩
theorem box_keep {S : Nat → Prop} (h : BoxE wr N a) (o : Only S wr w') (hn : ¬ S N) : BoxE w' N a := o.at_ h hn
theorem R1.goUp (r : R1 w g b c m n t i N es0 a k n' cur f wr) (hk : 0 < k) (hlt : lt a (gE cur (up k)))
    (mem : WM w' g b c m (n' + 1) t (cur.set k (gE cur (up k))) (put f (gE cur (up k)).h k)) (o : Only (Foot b m) wr w') :
    R1 w g b c m n t i N es0 a (up k) (n' + 1) (cur.set k (gE cur (up k))) (put f (gE cur (up k)).h k) w' :=
  ⟨r.hole.goUp hk hlt, mem, box_keep r.box o (by have := r.far; unfold Foot; omega), r.only.trans o (fun _ _ h => h), by have := r.cnt; have := up_lt hk; omega, r.far⟩
theorem R1.turn (r : R1 w g b c m n t i N es0 a k n' cur f wr) (hi : i < es0.length) (hu : UpOK a k cur) : R2 w g b c m n t N es0 a k n' cur f wr :=
  ⟨r.hole, r.mem, r.box, r.only, by have := r.cnt; omega, r.far, hu⟩
theorem R2.goDown {d : Nat} (r : R2 w g b c m n t N es0 a k n' cur f wr) (hd : up d = k) (h0 : 0 < d) (hdl : d < cur.length) (hmin : ∀ c, up c = k → 0 < c → c < cur.length → ¬ lt (gE cur c) (gE cur d)) (hlt : ¬ lt a (gE cur d))
    (mem : WM w' g b c m (n' + 1) t (cur.set k (gE cur d)) (put f (gE cur d).h k)) (o : Only (Foot b m) wr w') :
    R2 w g b c m n t N es0 a d (n' + 1) (cur.set k (gE cur d)) (put f (gE cur d).h k) w' := by
  obtain ⟨h1, h2⟩ := r.hole.goDown r.uok hd h0 hdl hmin hlt
  exact ⟨h1, mem, box_keep r.box o (by have := r.far; unfold Foot; omega), r.only.trans o (fun _ _ h => h), by have := r.cnt; have := up_lt h0; omega, r.far, h2⟩
end
/-- d is the child to look at: the lesser one. -/
def Dn (cur : List E) (k d : Nat) : Prop := (d < cur.length → up d = k ∧ 0 < d ∧ ∀ c, up c = k → 0 < c → c < cur.length → ¬ lt (gE cur c) (gE cur d)) ∧ (cur.length ≤ d → cur.length ≤ 2 * k + 1)
theorem dn_left {cur : List E} {k : Nat} (h : ¬ (2 * k + 1 + 1 < cur.length ∧ lt (gE cur (2 * k + 1 + 1)) (gE cur (2 * k + 1)))) : Dn cur k (2 * k + 1) := by
  refine ⟨fun hd => ⟨by unfold up; omega, by omega, fun c h1 h2 h3 h4 => ?_⟩, id⟩
  have : c = 2 * k + 1 ∨ c = 2 * k + 1 + 1 := by unfold up at h1; omega
  rcases this with rfl | rfl
  · exact lt_irrefl _ h4
  · exact h ⟨h3, h4⟩
theorem dn_right {cur : List E} {k : Nat} (h : 2 * k + 1 + 1 < cur.length ∧ lt (gE cur (2 * k + 1 + 1)) (gE cur (2 * k + 1))) : Dn cur k (2 * k + 1 + 1) := by
  refine ⟨fun hd => ⟨by unfold up; omega, by omega, fun c h1 h2 h3 h4 => ?_⟩, fun hh => by omega⟩
  have : c = 2 * k + 1 ∨ c = 2 * k + 1 + 1 := by unfold up at h1; omega
  rcases this with rfl | rfl
  · exact lt_asymm h.2 h4
  · exact lt_irrefl _ h4
theorem child_no {cur : List E} {k : Nat} (h : cur.length ≤ 2 * k + 1) (a : E) : ∀ c, up c = k → 0 < c → c < cur.length → ¬ lt (gE cur c) a := by
  intro c h1 h2 h3
  unfold up at h1; omega
theorem up_int (k : Nat) : ((k : Int) - 1).tdiv 2 = (up k : Int) := by
  unfold up
  cases k with
  | zero => rfl
  | succ k =>
    rw [show (((k + 1 : Nat) : Int) - 1) = (k : Int) by omega, Int.tdiv_eq_ediv_of_nonneg (by omega)]
    omega
theorem up_int' (k : Nat) (h : 0 < k) : ((k : Int) - 1) / 2 = (up k : Int) := by
  unfold up; omega

set_option maxRecDepth 100000 in
set_option maxHeartbeats 3200000 in
theorem settleC (w : World) (g b c m n t i : Nat) (L : List E) (f : Nat → Option Nat) (h : WM w g b c m n t L f) (hi : i < L.length) (hh : ∀ a ∈ L, a.h < M64) (hx : HeapX L i) (hm : MapX L i f) (hnd : (L.map E.h).Nodup) (hn : n + 2 * L.length + 2 < 4611686018427387904) (hL : L.length < 1073741824) :
    Calls Try.prog 45 #[.pointer (some ⟨g, 0, none⟩), .int .i64 (i : Int)] w fun e w' => e = .returned (.tuple #[]) ∧ ∃ L' f' n', WM w' g b c m n' t L' f' ∧ Only (Foot b m) w w' ∧ L'.Perm L ∧ Heap L' ∧ MapOK L' f' ∧ n' ≤ n + 2 * L.length := by
  have OR := Lib.hid orderB
  have LY := Lib.hid layC
  obtain ⟨a, ha⟩ : ∃ a, a = gE L i := ⟨_, rfl⟩
  have hole0 : Hole L a i L f := ⟨hi, by rw [ha, set_gE hi], by rw [ha, set_gE hi]; exact hx, by rw [ha, set_gE hi]; exact hm, hnd⟩
  have hma : a.h < M64 := hh a (by rw [ha]; exact gE_mem hi)
  obtain ⟨w1, hw1⟩ : ∃ w1, w1 = w.alloc (.cells #[.int .u64 (a.h : Int), .int .i64 a.x, .int .u64 (a.t : Int)] 118) := ⟨_, rfl⟩
  have hb1 : Below w.heap.size w w1 := by rw [hw1]; exact (Below.refl _ _).alloc (Nat.le_refl _) _
  have bx : BoxE w1 w.heap.size a := by rw [hw1]; exact Blk.new _ _ _
  have r0 : R1 w g b c m n t i w.heap.size L a i n L f w1 := ⟨hole0, h.below hb1, bx, Only.of_below hb1 (Nat.le_refl _) _, Nat.le_refl _, by have := h.row.lt; omega, by have := h.map.lt; omega⟩
  have c0 := h.c0
  obtain ⟨k0, k1, k2⟩ := h.row.cells i hi
  rw [← ha] at k0 k1 k2
  have hlen : (i : Int) < L.length := by omega
  have hi0 : (0 : Int) ≤ i := by omega
  obtain ⟨hs1, hs2⟩ := h.small
  unfold maxLen at hs2
  generalize hN : w.heap.size = N at *
  replace hN := Lib.hid hN
  replace hw1 := Lib.hid hw1
  replace ha := Lib.hid ha
  clear hole0 bx hb1 h hx hm
  replace r0 := Lib.hid r0
  go_enter Try.func45, Try.ntmps45
  go_upto_block 0 with fail
  rw [hN.out, ← hw1.out, up_int]
  go_cut [1] (fun s1 wx => ∃ (k n' : Nat) (cur : List E) (f' : Nat → Option Nat), s1 = .int .i64 (k : Int) ∧ R1 w g b c m n t i N L a k n' cur f' wx ∧ UpOK a k cur)
  case first =>
    go_wp2_with fail
    go_loopw [1, 5] (fun s1 s5 wr => ∃ (k n' : Nat) (cur : List E) (f' : Nat → Option Nat), s1 = .int .i64 (k : Int) ∧ s5 = .int .i64 (up k : Int) ∧ R1 w g b c m n t i N L a k n' cur f' wr) (fun s1 _ _ => (intOf s1).toNat)
    case atStart => exact ⟨i, n, L, f, rfl, rfl, r0.out⟩
    case round =>
      obtain ⟨k, n', cur, f', rfl, rfl, r⟩ := hrel
      clear r0 c0 k0 k1 k2
      have hcl : cur.length = L.length := r.hole.len
      have hkl : k < cur.length := r.hole.li
      by_cases hk : 0 < k
      · have hu := up_lt hk
        obtain ⟨z, hz⟩ : ∃ z, z = gE cur (up k) := ⟨_, rfl⟩
        have e0 := r.mem.c0
        obtain ⟨p0, p1, p2⟩ := r.mem.row.cells (up k) (by omega)
        rw [← hz] at p0 p1 p2
        have x0 := r.box.cell 0
        have x1 := r.box.cell 1
        have x2 := r.box.cell 2
        simp only [List.getElem?_toArray, List.getElem?_cons_zero, List.getElem?_cons_succ] at x0 x1 x2
        have hk0 : (0 : Int) < k := by omega
        have hul : (up k : Int) < cur.length := by omega
        have hu0 : (0 : Int) ≤ up k := by omega
        obtain ⟨hs3, hs4⟩ := r.mem.small
        unfold maxLen at hs4
        have hupi := Lib.hid (up_int' k hk)
        have hupi2 := Lib.hid (up_int' (up k))
        replace r := Lib.hid r
        replace hz := Lib.hid hz
        replace hcl := Lib.hid hcl
        go_wp2_with fail
        go_still_tail 11, (by kernel_rfl)
        change wpList _ _ _ _ _ wr.drew
        have r1 := Lib.hid (r.out.below (w' := wr.drew) (below_drewN (Below.refl _ _) 1))
        have OC := Lib.hid (OR.out a z wr.drew)
        go_wp2_with fail
        refine OC.out.mono ?_
        rintro e w2 ⟨rfl, hb2⟩
        have r2 := Lib.hid (r1.out.below hb2)
        have e0' := r2.out.mem.c0
        obtain ⟨p0', p1', p2'⟩ := r2.out.mem.row.cells (up k) (by omega)
        rw [← hz.out] at p0' p1' p2'
        clear e0 p0 p1 p2 x0 x1 x2 OC r1 r hb2
        by_cases hlt : lt a z
        · have ho : decide (ord a z < 0) = true := by simp [ord_neg, hlt]
          have hm1 := r2.out.cnt
          have LC := Lib.hid (LY.out w2 g b c m n' t k cur f' z r2.out.mem hkl (hh z (by rw [hz.out]; exact r2.out.hole.mem_of (by omega) (by omega))) (by unfold maxLen; omega))
          replace hlt := Lib.hid hlt
          go_wp2_with fail
          refine LC.out.mono ?_
          rintro e w3 ⟨rfl, m3, o3⟩
          have r3 := Lib.hid (r2.out.goUp hk (by rw [← hz.out]; exact hlt.out) (by rw [← hz.out]; exact m3) o3)
          clear m3 o3 LC r2
          go_wp2
          exact ⟨⟨up k, n' + 1, _, _, rfl, by rw [up_int], r3.out⟩, by simp [intOf]; omega⟩
        · have ho : decide (ord a z < 0) = false := by simp [ord_neg, hlt]
          have hfin := Lib.hid (show UpOK a k cur from fun _ => by rw [← hz.out]; exact hlt)
          clear hlt
          go_wp2_with fail
          go_meet
          exact ⟨k, n', cur, f', rfl, r2.out, hfin.out⟩
      · obtain rfl : k = 0 := by omega
        replace r := Lib.hid r
        clear hk
        go_wp2_with fail
        go_quiet (fail)
        go_wp2_with fail
        go_meet
        exact ⟨0, n', cur, f', rfl, r.out.below (by first | exact below_drewN (Below.refl _ _) _ | exact Below.refl _ _), fun h => absurd h (by omega)⟩
  case rest =>
    obtain ⟨k, n', cur, f', rfl, r, hu⟩ := hcut
    have r0 := Lib.hid (r.turn hi hu)
    clear r hu
    go_wp2_with fail
    go_loopw [1, 6] (fun s1 _ wr => ∃ (k n' : Nat) (cur : List E) (f' : Nat → Option Nat), s1 = .int .i64 (k : Int) ∧ R2 w g b c m n t N L a k n' cur f' wr) (fun s1 _ _ => L.length - (intOf s1).toNat)
    case atStart => exact ⟨k, n', cur, f', rfl, r0.out⟩
    case round =>
      clear r0
      obtain ⟨k, n', cur, f', rfl, r⟩ := hrel
      have hcl : cur.length = L.length := r.hole.len
      have hkl : k < cur.length := r.hole.li
      go_upto_region 7 with fail
      obtain ⟨d0, hd0⟩ : ∃ d0, d0 = 2 * k + 1 := ⟨_, rfl⟩
      rw [show (2 * (k : Int) + 1) = ((d0 : Nat) : Int) by rw [hd0]; omega]
      have hdb : d0 < 2147483648 := by omega
      have hd0' := Lib.hid hd0
      clear hd0
      replace hcl := Lib.hid hcl
      replace r := Lib.hid r
      clear c0 k0 k1 k2 hlen hi0 hs1 hs2
      go_cut [74] (fun s74 wx => ∃ B : Bool, s74 = .bool B ∧ (B = true ↔ (d0 + 1 < cur.length ∧ lt (gE cur (d0 + 1)) (gE cur d0))) ∧ R2 w g b c m n t N L a k n' cur f' wx)
      case first =>
        have e0 := r.out.mem.c0
        obtain ⟨hs3, hs4⟩ := r.out.mem.small
        unfold maxLen at hs4
        have q1 : IntKind.i64.wrap ((d0 : Int) + 1) = (d0 : Int) + 1 := IntWalk.i64_in _ (by omega)
        have q2 : (0 : Int) ≤ (d0 : Int) + 1 := by omega
        have q3 : ((d0 : Int) + 1).toNat = d0 + 1 := by omega
        have q4 : (0 : Int) ≤ d0 := by omega
        by_cases hlt : d0 + 1 < cur.length
        · obtain ⟨y, hy⟩ : ∃ y, y = gE cur (d0 + 1) := ⟨_, rfl⟩
          obtain ⟨z, hz⟩ : ∃ z, z = gE cur d0 := ⟨_, rfl⟩
          obtain ⟨p0, p1, p2⟩ := r.out.mem.row.cells d0 (by omega)
          obtain ⟨x0, x1, x2⟩ := r.out.mem.row.cells (d0 + 1) (by omega)
          rw [← hz] at p0 p1 p2
          rw [← hy] at x0 x1 x2
          have q5 : (d0 : Int) + 1 < cur.length := by omega
          have q6 : (d0 : Int) < cur.length := by omega
          have q7 : decide ((d0 : Int) + 1 < cur.length) = true := by simp; omega
          replace hy := Lib.hid hy
          replace hz := Lib.hid hz
          go_still_tail 24, (by kernel_rfl)
          change wpList _ _ _ _ _ wr.drew
          have r1 := Lib.hid (r.out.below (w' := wr.drew) (below_drewN (Below.refl _ _) 1))
          have OC := Lib.hid (OR.out y z wr.drew)
          clear q1
          go_wp2_with fail
          refine OC.out.mono ?_
          rintro e w2 ⟨rfl, hb2⟩
          have r2 := Lib.hid (r1.out.below hb2)
          clear OC r1 hb2 e0 p0 p1 p2 x0 x1 x2
          have ho := Lib.hid (ord_neg y z)
          go_wp2_with fail
          go_meet
          exact ⟨_, rfl, by rw [decide_eq_true_eq, ho.out, hy.out, hz.out]; exact ⟨fun h => ⟨hlt, h⟩, fun h => h.2⟩, r2.out⟩
        · have q7 : decide ((d0 : Int) + 1 < cur.length) = false := by simp; omega
          go_quiet (fail)
          go_wp2_with fail
          go_meet
          exact ⟨false, rfl, ⟨fun h => absurd h (by simp), fun h => absurd h.1 hlt⟩, r.out.below (below_drewN (Below.refl _ _) _)⟩
      case rest =>
        obtain ⟨B, rfl, hB, r2⟩ := hcut
        replace hB := Lib.hid hB
        replace r2 := Lib.hid r2
        clear r
        go_upto_if 74 with fail
        go_cut [6] (fun s6 wx => ∃ d : Nat, s6 = .int .i64 (d : Int) ∧ d < 4294967296 ∧ Dn cur k d ∧ R2 w g b c m n t N L a k n' cur f' wx)
        case first =>
          cases B with
          | true =>
            go_wp2_with fail
            go_meet
            refine ⟨d0 + 1, by simp, by omega, ?_, r2.out⟩
            rw [hd0'.out]
            exact dn_right (by have := hB.out.1 (by simp); rwa [hd0'.out] at this)
          | false =>
            go_wp2_with fail
            go_meet
            refine ⟨d0, rfl, by omega, ?_, r2.out⟩
            rw [hd0'.out]
            exact dn_left (fun h => by have := hB.out.2 (by rw [hd0'.out]; exact h); cases this)
        case rest =>
          obtain ⟨d, rfl, hdb2, hdn, r⟩ := hcut
          clear hB r2 hd0' hdb
          have e0 := r.mem.c0
          obtain ⟨hs3, hs4⟩ := r.mem.small
          unfold maxLen at hs4
          have q4 : (0 : Int) ≤ d := by omega
          by_cases hdl : d < cur.length
          · obtain ⟨d1, d2, d3⟩ := hdn.1 hdl
            obtain ⟨z, hz⟩ : ∃ z, z = gE cur d := ⟨_, rfl⟩
            obtain ⟨p0, p1, p2⟩ := r.mem.row.cells d hdl
            rw [← hz] at p0 p1 p2
            have x0 := r.box.cell 0
            have x1 := r.box.cell 1
            have x2 := r.box.cell 2
            simp only [List.getElem?_toArray, List.getElem?_cons_zero, List.getElem?_cons_succ] at x0 x1 x2
            have q6 : (d : Int) < cur.length := by omega
            have q7 : decide ((cur.length : Int) ≤ d) = false := by simp; omega
            have hmem := Lib.hid (r.hole.mem_of hdl (by have := up_lt d2; omega))
            replace hz := Lib.hid hz
            replace hdn := Lib.hid hdn
            replace d1 := Lib.hid d1
            replace d3 := Lib.hid d3
            replace r := Lib.hid r
            go_wp2_with fail
            go_still_tail 16, (by kernel_rfl)
            change wpList _ _ _ _ _ wc.drew
            have r1 := Lib.hid (r.out.below (w' := wc.drew) (below_drewN (Below.refl _ _) 1))
            have OC := Lib.hid (OR.out a z wc.drew)
            go_wp2_with fail
            refine OC.out.mono ?_
            rintro e w2 ⟨rfl, hb2⟩
            have r2 := Lib.hid (r1.out.below hb2)
            clear OC r1 hb2 e0 p0 p1 p2 x0 x1 x2 r
            have e0 := r2.out.mem.c0
            obtain ⟨p0, p1, p2⟩ := r2.out.mem.row.cells d hdl
            rw [← hz.out] at p0 p1 p2
            have x0 := r2.out.box.cell 0
            have x1 := r2.out.box.cell 1
            have x2 := r2.out.box.cell 2
            simp only [List.getElem?_toArray, List.getElem?_cons_zero, List.getElem?_cons_succ] at x0 x1 x2
            have hm1 := r2.out.cnt
            have hcl' := hcl.out
            by_cases hlt : lt a z
            · have ho : decide (ord a z < 0) = true := by simp [ord_neg, hlt]
              have LC := Lib.hid (LY.out w2 g b c m n' t k cur f' a r2.out.mem hkl hma (by unfold maxLen; omega))
              have hfin := Lib.hid (r2.out.hole.done r2.out.uok (fun c' h1 h2 h3 h4 => d3.out c' h1 h2 h3 (lt_trans h4 (by rw [← hz.out]; exact hlt))))
              clear hlt
              replace hcl' := Lib.hid hcl'
              go_wp2_with fail
              refine LC.out.mono ?_
              rintro e w3 ⟨rfl, m3, o3⟩
              have hfin2 := Lib.hid (show ∃ L' f' n', WM w3 g b c m n' t L' f' ∧ Only (Foot b m) w w3 ∧ L'.Perm L ∧ Heap L' ∧ MapOK L' f' ∧ n' ≤ n + 2 * L.length from
                ⟨_, _, _, m3, r2.out.only.trans o3 (fun _ _ h => h), r2.out.hole.perm, hfin.out.1, hfin.out.2, by have := hcl'.out; omega⟩)
              clear m3 o3
              go_wp2
              go_end0
              exact ⟨rfl, hfin2.out⟩
            · have ho : decide (ord a z < 0) = false := by simp [ord_neg, hlt]
              have LC := Lib.hid (LY.out w2 g b c m n' t k cur f' z r2.out.mem hkl (hh z (by rw [hz.out]; exact hmem.out)) (by unfold maxLen; omega))
              replace hlt := Lib.hid hlt
              replace hcl' := Lib.hid hcl'
              go_wp2_with fail
              refine LC.out.mono ?_
              rintro e w3 ⟨rfl, m3, o3⟩
              have r3 := Lib.hid (r2.out.goDown d1.out d2 hdl d3.out (by rw [← hz.out]; exact hlt.out) (by rw [← hz.out]; exact m3) o3)
              clear m3 o3 LC r2 e0 p0 p1 p2 x0 x1 x2
              go_wp2
              exact ⟨⟨d, n' + 1, _, _, rfl, r3.out⟩, by have := hcl'.out; have h1 := up_lt d2; have h2 := d1.out; simp [intOf]; omega⟩
          · have q7 : decide ((cur.length : Int) ≤ d) = true := by simp; omega
            have hdd := hdn.2 (by omega)
            have x0 := r.box.cell 0
            have x1 := r.box.cell 1
            have x2 := r.box.cell 2
            simp only [List.getElem?_toArray, List.getElem?_cons_zero, List.getElem?_cons_succ] at x0 x1 x2
            replace hdn := Lib.hid hdn
            have hm1 := r.cnt
            have hcl' := hcl.out
            have LC := fun k1 => LY.out (wc.drewN k1) g b c m n' t k cur f' a (r.mem.below (below_drewN (Below.refl _ _) k1)) hkl hma (by unfold maxLen; omega)
            replace LC := Lib.hid LC
            have hfin := Lib.hid (r.hole.done r.uok (child_no hdd a))
            replace hcl' := Lib.hid hcl'
            replace r := Lib.hid r
            go_wp2_with fail
            go_quiet (fail)
            go_wp2_with fail
            refine (LC.out _).mono ?_
            rintro e w3 ⟨rfl, m3, o3⟩
            have hfin2 := Lib.hid (show ∃ L' f' n', WM w3 g b c m n' t L' f' ∧ Only (Foot b m) w w3 ∧ L'.Perm L ∧ Heap L' ∧ MapOK L' f' ∧ n' ≤ n + 2 * L.length from
              ⟨_, _, _, m3, (r.out.only.drewN _).trans o3 (fun _ _ h => h), r.out.hole.perm, hfin.out.1, hfin.out.2, by have := hcl'.out; omega⟩)
            clear m3 o3
            go_wp2
            go_end0
            exact ⟨rfl, hfin2.out⟩
end Go.Proofs.Yteebcdicocmicaa.Tide
