/-
  Contracts and lemmas, joined: ItemEdit, ItemField, ItemFields, ClassOf, ItemLink, RegRel.
-/
import Derived.StillTail
import Derived.Deep.Quiet
import Derived.Deep.Draws
import Derived.Handy
import Derived.Test.YtdmclekohalolaaJ5
set_option linter.unusedSimpArgs false
set_option linter.unusedVariables false
/-
  item.edit (printed by wip/gen_field.py).
-/
namespace Go.Proofs.Ytdmclekohalolaa.Itm
open Go.RowKit Base Arena Cls
set_option linter.unusedVariables false

theorem zc_cells {u : World} {N : Nat} (B : Blk u N 117 zc) : u.cell? ⟨N, 0, none⟩ = some (.pointer none) ∧ u.cell? ⟨N, 1, none⟩ = some (.int .i64 0) ∧ u.cell? ⟨N, 2, none⟩ = some (.int .i64 0) ∧ u.cell? ⟨N, 3, none⟩ = some (.int .i64 0) := ⟨B.cell 0, B.cell 1, B.cell 2, B.cell 3⟩
section
variable (w : World) (L : Lay) (c : Conf) (s : St) (bs : List UInt8) (h : SetAt w L c s bs) (g : Cls.Good c.cf s)
include h g
set_option maxRecDepth 100000 in
theorem editNo (H : Nat) (hH : H < 18446744073709551616) (hf : findN c.cf s H = none) : Calls Try.prog 63 #[.pointer (some ⟨L.g, 0, none⟩), .int .u64 (H : Int)] w fun e w' => e = .returned (.tuple #[.agg zc, .int .i64 20]) ∧ Below w.heap.size w w' := by
  obtain ⟨w1, hw1⟩ : ∃ w1, w1 = w.alloc (.cells zc 117) := ⟨_, rfl⟩
  have B1 : Blk w1 w.heap.size 117 zc := by rw [hw1]; exact Blk.new w _ _
  have b1 : Below w.heap.size w w1 := by rw [hw1]; exact (Below.refl _ _).alloc (Nat.le_refl _) _
  have s1 : w1.heap.size = w.heap.size + 1 := by rw [hw1]; exact World.size_alloc _ _
  have h1 : SetAt w1 L c s bs := by rw [hw1]; exact h.alloc _
  have OC := openNo w1 L c s bs h1 g H hH hf
  rw [zc_eq] at hw1 OC
  replace OC := Lib.hid OC
  replace hw1 := Lib.hid hw1
  replace s1 := Lib.hid s1
  replace b1 := Lib.hid b1
  replace B1 := Lib.hid B1
  clear h1 h g hf
  generalize hN : w.heap.size = N at *
  replace hN := Lib.hid hN
  go_enter Try.func63, Try.ntmps63
  go_upto_region 1 with fail
  rw [hN.out, ← hw1.out]
  go_wp2_with fail
  refine OC.out.mono ?_
  rintro e w2 ⟨rfl, b2⟩
  have B2 := B1.out.below b2 (by have := s1.out; omega)
  have b12 := b1.out.trans (b2.mono (B' := N) (by have := s1.out; omega))
  obtain ⟨w3, hw3⟩ : ∃ w3, w3 = w2.alloc (.cells #[.pointer none, .int .i64 0, .int .i64 0, .int .i64 0] 117) := ⟨_, rfl⟩
  have b13 : Below N w w3 := by rw [hw3]; exact b12.alloc (by have h1 : w1.heap.size ≤ w2.heap.size := b2.size; have h2 : w1.heap.size = N + 1 := s1.out; omega) _
  have C3 : Blk w3 w2.heap.size 117 zc := by rw [hw3]; exact Blk.new w2 _ _
  have B3 : Blk w3 N 117 zc := by rw [hw3]; exact B2.alloc _
  obtain ⟨x0, x1, x2, x3⟩ := zc_cells B3
  obtain ⟨y0, y1, y2, y3⟩ := zc_cells C3
  have y := B3.frozen
  replace hw3 := Lib.hid hw3
  replace b13 := Lib.hid b13
  replace B3 := Lib.hid B3
  clear b12 b2 B2 C3 OC hw1 B1 b1
  generalize hN2 : w2.heap.size = N1 at *
  replace hN2 := Lib.hid hN2
  go_upto_region 2 with fail
  rw [hN2.out, ← hw3.out]
  clear hN2 hw3
  go_wp2
  exact bodyPost_ret (results_cell2 (P := Try.prog) rfl _ _ N 117 _ (0, 0) _ _ rfl rfl (blk_setz B3.out _ _ _ _) Try.underlying117 rfl (by kernel_rfl)) rfl ⟨rfl, below_set4 b13.out _ _ _ _⟩
set_option maxRecDepth 100000 in
theorem editYes {H i x p k n : Nat} (K : Chk c s bs.length H i x p k n) (h44 : rd bs (p + 44) 1 ≠ 0) : Calls Try.prog 63 #[.pointer (some ⟨L.g, 0, none⟩), .int .u64 (H : Int)] w fun e w' => e = .returned (.tuple #[.agg (kv L.ga p k n), .int .i64 0]) ∧ Below w.heap.size w w' := by
  obtain ⟨w1, hw1⟩ : ∃ w1, w1 = w.alloc (.cells zc 117) := ⟨_, rfl⟩
  have B1 : Blk w1 w.heap.size 117 zc := by rw [hw1]; exact Blk.new w _ _
  have b1 : Below w.heap.size w w1 := by rw [hw1]; exact (Below.refl _ _).alloc (Nat.le_refl _) _
  have s1 : w1.heap.size = w.heap.size + 1 := by rw [hw1]; exact World.size_alloc _ _
  have h1 : SetAt w1 L c s bs := by rw [hw1]; exact h.alloc _
  have OC := openK w1 L c s bs h1 g K
  rw [kv_eq] at OC
  obtain ⟨V, hV⟩ : ∃ V, V = rd bs (p + 44) 1 := ⟨_, rfl⟩
  have d1 : decide ((V : Int) = 0) = false := decide_eq_false (by omega)
  have d2 : ((V : Int) == 0) = false := by rw [beq_eq_false_iff_ne]; omega
  rw [zc_eq] at hw1
  rw [kv_eq]
  replace OC := Lib.hid OC
  replace hV := Lib.hid hV
  replace hw1 := Lib.hid hw1
  replace s1 := Lib.hid s1
  replace b1 := Lib.hid b1
  replace B1 := Lib.hid B1
  replace h1 := Lib.hid h1
  replace K := Lib.hid K
  clear h g h44
  generalize hN : w.heap.size = N at *
  replace hN := Lib.hid hN
  go_enter Try.func63, Try.ntmps63
  go_upto_region 1 with fail
  rw [hN.out, ← hw1.out]
  go_wp2_with fail
  refine OC.out.mono ?_
  rintro e w2 ⟨rfl, b2⟩
  have B2 := B1.out.below b2 (by have := s1.out; omega)
  have b12 := b1.out.trans (b2.mono (B' := N) (by have := s1.out; omega))
  obtain ⟨w3, hw3⟩ : ∃ w3, w3 = w2.alloc (.cells #[.pointer (some ⟨L.ga, 0, none⟩), .int .i64 (p : Int), .int .i64 (k : Int), .int .i64 (n : Int)] 117) := ⟨_, rfl⟩
  have S : OS N w w3 L c s bs w2.heap.size p k n := by rw [hw3]; exact OS.op p k n h1.out b2 b12 (by have h1 : w1.heap.size ≤ w2.heap.size := b2.size; have h2 : w1.heap.size = N + 1 := s1.out; omega)
  have B3 : Blk w3 N 117 zc := by rw [hw3]; exact B2.alloc _
  obtain ⟨y0, y1, y2, y3⟩ := S.cells
  have KC := S.key K.out hV.out
  replace KC := Lib.hid KC
  replace S := Lib.hid S
  replace hw3 := Lib.hid hw3
  replace B3 := Lib.hid B3
  clear b12 b2 B2 OC hw1 B1 b1
  generalize hN2 : w2.heap.size = N1 at *
  replace hN2 := Lib.hid hN2
  go_upto_region 2 with fail
  rw [hN2.out, ← hw3.out]
  clear hN2 hw3
  go_wp2_with fail
  refine KC.out.mono ?_
  rintro e w4 ⟨rfl, b4⟩
  replace S := S.out.step b4
  have B4 := B3.out.below b4 B3.out.lt
  obtain ⟨y0, y1, y2, y3⟩ := S.cells
  obtain ⟨x0, x1, x2, x3⟩ := zc_cells B4
  have y := B4.frozen
  replace S := Lib.hid S
  replace B4 := Lib.hid B4
  clear KC B3 b4 K hV
  go_wp2
  exact bodyPost_ret (results_cell2 (P := Try.prog) rfl _ _ N 117 _ (0, 0) _ _ rfl rfl (blk_setz B4.out _ _ _ _) Try.underlying117 rfl (by kernel_rfl)) rfl ⟨rfl, below_set4 S.out.below _ _ _ _⟩
set_option maxRecDepth 100000 in
theorem editKey {H i x p k n : Nat} (K : Chk c s bs.length H i x p k n) (h44 : rd bs (p + 44) 1 = 0) : Calls Try.prog 63 #[.pointer (some ⟨L.g, 0, none⟩), .int .u64 (H : Int)] w fun e w' => e = .returned (.tuple #[.agg zc, .int .i64 30]) ∧ Below w.heap.size w w' := by
  obtain ⟨w1, hw1⟩ : ∃ w1, w1 = w.alloc (.cells zc 117) := ⟨_, rfl⟩
  have B1 : Blk w1 w.heap.size 117 zc := by rw [hw1]; exact Blk.new w _ _
  have b1 : Below w.heap.size w w1 := by rw [hw1]; exact (Below.refl _ _).alloc (Nat.le_refl _) _
  have s1 : w1.heap.size = w.heap.size + 1 := by rw [hw1]; exact World.size_alloc _ _
  have h1 : SetAt w1 L c s bs := by rw [hw1]; exact h.alloc _
  have OC := openK w1 L c s bs h1 g K
  rw [kv_eq] at OC
  obtain ⟨V, hV⟩ : ∃ V, V = rd bs (p + 44) 1 := ⟨_, rfl⟩
  have d1 : decide ((V : Int) = 0) = true := decide_eq_true (by omega)
  have d2 : ((V : Int) == 0) = true := by rw [beq_iff_eq]; omega
  rw [zc_eq] at hw1
  
  replace OC := Lib.hid OC
  replace hV := Lib.hid hV
  replace hw1 := Lib.hid hw1
  replace s1 := Lib.hid s1
  replace b1 := Lib.hid b1
  replace B1 := Lib.hid B1
  replace h1 := Lib.hid h1
  replace K := Lib.hid K
  clear h g h44
  generalize hN : w.heap.size = N at *
  replace hN := Lib.hid hN
  go_enter Try.func63, Try.ntmps63
  go_upto_region 1 with fail
  rw [hN.out, ← hw1.out]
  go_wp2_with fail
  refine OC.out.mono ?_
  rintro e w2 ⟨rfl, b2⟩
  have B2 := B1.out.below b2 (by have := s1.out; omega)
  have b12 := b1.out.trans (b2.mono (B' := N) (by have := s1.out; omega))
  obtain ⟨w3, hw3⟩ : ∃ w3, w3 = w2.alloc (.cells #[.pointer (some ⟨L.ga, 0, none⟩), .int .i64 (p : Int), .int .i64 (k : Int), .int .i64 (n : Int)] 117) := ⟨_, rfl⟩
  have S : OS N w w3 L c s bs w2.heap.size p k n := by rw [hw3]; exact OS.op p k n h1.out b2 b12 (by have h1 : w1.heap.size ≤ w2.heap.size := b2.size; have h2 : w1.heap.size = N + 1 := s1.out; omega)
  have B3 : Blk w3 N 117 zc := by rw [hw3]; exact B2.alloc _
  obtain ⟨y0, y1, y2, y3⟩ := S.cells
  have KC := S.key K.out hV.out
  replace KC := Lib.hid KC
  replace S := Lib.hid S
  replace hw3 := Lib.hid hw3
  replace B3 := Lib.hid B3
  clear b12 b2 B2 OC hw1 B1 b1
  generalize hN2 : w2.heap.size = N1 at *
  replace hN2 := Lib.hid hN2
  go_upto_region 2 with fail
  rw [hN2.out, ← hw3.out]
  clear hN2 hw3
  go_wp2_with fail
  refine KC.out.mono ?_
  rintro e w4 ⟨rfl, b4⟩
  replace S := S.out.step b4
  have B4 := B3.out.below b4 B3.out.lt
  obtain ⟨y0, y1, y2, y3⟩ := S.cells
  obtain ⟨x0, x1, x2, x3⟩ := zc_cells B4
  have y := B4.frozen
  replace S := Lib.hid S
  replace B4 := Lib.hid B4
  clear KC B3 b4 K hV
  go_wp2
  exact bodyPost_ret (results_cell2 (P := Try.prog) rfl _ _ N 117 _ (0, 0) _ _ rfl rfl (blk_setz B4.out _ _ _ _) Try.underlying117 rfl (by kernel_rfl)) rfl ⟨rfl, below_set4 S.out.below _ _ _ _⟩
end
end Go.Proofs.Ytdmclekohalolaa.Itm
/-
  item's tell and set of each width (printed by wip/gen_field.py).
-/
namespace Go.Proofs.Ytdmclekohalolaa.Itm
open Go.RowKit Base Arena Cls
set_option linter.unusedVariables false

section
variable (w : World) (L : Lay) (c : Conf) (s : St) (bs : List UInt8) (h : SetAt w L c s bs) (g : Cls.Good c.cf s)
include h g
set_option maxRecDepth 100000 in
theorem set8No (o v H : Nat) (b : Bool) (hH : H < 18446744073709551616) (hf : findN c.cf s H = none) : Calls Try.prog 73 #[.pointer (some ⟨L.g, 0, none⟩), .int .u64 (H : Int), .int .i64 (o : Int), .int .u8 (v : Int), .bool b] w fun e w' => e = .returned (.int .i64 20) ∧ Below w.heap.size w w' := by
  have OC := editNo w L c s bs h g H hH hf
  rw [zc_eq] at OC
  replace OC := Lib.hid OC
  clear h g hf
  go_enter Try.func73, Try.ntmps73
  go_wp2_with fail
  refine OC.out.mono ?_
  rintro e w2 ⟨rfl, b2⟩
  replace b2 := Lib.hid b2
  go_wp2
  go_ret
  exact ⟨rfl, b2.out.alloc b2.out.size _⟩
set_option maxRecDepth 100000 in
theorem set8Key {H i x p k n : Nat} (K : Chk c s bs.length H i x p k n) (h44 : rd bs (p + 44) 1 = 0) (o v : Nat) (b : Bool) : Calls Try.prog 73 #[.pointer (some ⟨L.g, 0, none⟩), .int .u64 (H : Int), .int .i64 (o : Int), .int .u8 (v : Int), .bool b] w fun e w' => e = .returned (.int .i64 30) ∧ Below w.heap.size w w' := by
  have OC := editKey w L c s bs h g K h44
  rw [zc_eq] at OC
  replace OC := Lib.hid OC
  clear h g h44 K
  go_enter Try.func73, Try.ntmps73
  go_wp2_with fail
  refine OC.out.mono ?_
  rintro e w2 ⟨rfl, b2⟩
  replace b2 := Lib.hid b2
  go_wp2
  go_ret
  exact ⟨rfl, b2.out.alloc b2.out.size _⟩
set_option maxRecDepth 100000 in
theorem set8Arg {H i x p k n : Nat} (K : Chk c s bs.length H i x p k n) (h44 : rd bs (p + 44) 1 ≠ 0) (o v : Nat) : Calls Try.prog 73 #[.pointer (some ⟨L.g, 0, none⟩), .int .u64 (H : Int), .int .i64 (o : Int), .int .u8 (v : Int), .bool false] w fun e w' => e = .returned (.int .i64 1) ∧ Below w.heap.size w w' := by
  have OC := editYes w L c s bs h g K h44
  rw [kv_eq] at OC
  replace OC := Lib.hid OC
  clear h g h44 K
  go_enter Try.func73, Try.ntmps73
  go_wp2_with fail
  refine OC.out.mono ?_
  rintro e w2 ⟨rfl, b2⟩
  replace b2 := Lib.hid b2
  go_wp2
  go_ret
  exact ⟨rfl, b2.out.alloc b2.out.size _⟩
set_option maxRecDepth 100000 in
theorem set8Yes {H i x p k n : Nat} (K : Chk c s bs.length H i x p k n) (h44 : rd bs (p + 44) 1 ≠ 0) (o v : Nat) (ho : o + 1 ≤ 56) (hv : v < 256) : Calls Try.prog 73 #[.pointer (some ⟨L.g, 0, none⟩), .int .u64 (H : Int), .int .i64 (o : Int), .int .u8 (v : Int), .bool true] w fun e w' => e = .returned (.int .i64 0) ∧ SetAt w' L c s (lay bs (p + o) (putB 1 v)) ∧ Only (· = L.ha) w w' := by
  have OC := editYes w L c s bs h g K h44
  rw [kv_eq] at OC
  replace OC := Lib.hid OC
  replace h := Lib.hid h
  replace K := Lib.hid K
  clear g h44
  go_enter Try.func73, Try.ntmps73
  go_wp2_with fail
  refine OC.out.mono ?_
  rintro e w2 ⟨rfl, b2⟩
  obtain ⟨w3, hw3⟩ : ∃ w3, w3 = w2.alloc (.cells #[.pointer (some ⟨L.ga, 0, none⟩), .int .i64 (p : Int), .int .i64 (k : Int), .int .i64 (n : Int)] 117) := ⟨_, rfl⟩
  have S : OS w.heap.size w w3 L c s bs w2.heap.size p k n := by rw [hw3]; exact OS.op p k n h.out b2 b2 b2.size
  obtain ⟨y0, y1, y2, y3⟩ := S.cells
  replace S := Lib.hid S
  replace hw3 := Lib.hid hw3
  clear b2 OC
  generalize hN2 : w2.heap.size = N1 at *
  replace hN2 := Lib.hid hN2
  go_upto_region 2 with fail
  rw [hN2.out, ← hw3.out]
  clear hN2 hw3
  have PC := put8C w3 L.ga L.ha c.cf.ps bs S.out.at_ p o k n v hv (K.out.ck.there o 1 (by have := K.out.n64; omega))
  rw [kv_eq] at PC
  replace PC := Lib.hid PC
  go_wp2_with fail
  refine PC.out.mono ?_
  rintro e w5 ⟨rfl, A, o5⟩
  clear PC y0 y1 y2 y3
  have T := Lib.hid (S.out.set.laid o5 A.bytes (putlen _ _ _ _ (by have h1 := K.out.ck.all; have h2 := K.out.n64; omega)))
  replace o5 := Lib.hid ((Only.of_below S.out.below (Nat.le_refl _) (· = L.ha)).trans o5 fun _ _ h => h)
  clear A S
  go_wp2
  go_ret
  exact ⟨rfl, T.out, o5.out⟩
set_option maxRecDepth 100000 in
theorem set32No (o v H : Nat) (b : Bool) (hH : H < 18446744073709551616) (hf : findN c.cf s H = none) : Calls Try.prog 74 #[.pointer (some ⟨L.g, 0, none⟩), .int .u64 (H : Int), .int .i64 (o : Int), .int .u32 (v : Int), .bool b] w fun e w' => e = .returned (.int .i64 20) ∧ Below w.heap.size w w' := by
  have OC := editNo w L c s bs h g H hH hf
  rw [zc_eq] at OC
  replace OC := Lib.hid OC
  clear h g hf
  go_enter Try.func74, Try.ntmps74
  go_wp2_with fail
  refine OC.out.mono ?_
  rintro e w2 ⟨rfl, b2⟩
  replace b2 := Lib.hid b2
  go_wp2
  go_ret
  exact ⟨rfl, b2.out.alloc b2.out.size _⟩
set_option maxRecDepth 100000 in
theorem set32Key {H i x p k n : Nat} (K : Chk c s bs.length H i x p k n) (h44 : rd bs (p + 44) 1 = 0) (o v : Nat) (b : Bool) : Calls Try.prog 74 #[.pointer (some ⟨L.g, 0, none⟩), .int .u64 (H : Int), .int .i64 (o : Int), .int .u32 (v : Int), .bool b] w fun e w' => e = .returned (.int .i64 30) ∧ Below w.heap.size w w' := by
  have OC := editKey w L c s bs h g K h44
  rw [zc_eq] at OC
  replace OC := Lib.hid OC
  clear h g h44 K
  go_enter Try.func74, Try.ntmps74
  go_wp2_with fail
  refine OC.out.mono ?_
  rintro e w2 ⟨rfl, b2⟩
  replace b2 := Lib.hid b2
  go_wp2
  go_ret
  exact ⟨rfl, b2.out.alloc b2.out.size _⟩
set_option maxRecDepth 100000 in
theorem set32Arg {H i x p k n : Nat} (K : Chk c s bs.length H i x p k n) (h44 : rd bs (p + 44) 1 ≠ 0) (o v : Nat) : Calls Try.prog 74 #[.pointer (some ⟨L.g, 0, none⟩), .int .u64 (H : Int), .int .i64 (o : Int), .int .u32 (v : Int), .bool false] w fun e w' => e = .returned (.int .i64 1) ∧ Below w.heap.size w w' := by
  have OC := editYes w L c s bs h g K h44
  rw [kv_eq] at OC
  replace OC := Lib.hid OC
  clear h g h44 K
  go_enter Try.func74, Try.ntmps74
  go_wp2_with fail
  refine OC.out.mono ?_
  rintro e w2 ⟨rfl, b2⟩
  replace b2 := Lib.hid b2
  go_wp2
  go_ret
  exact ⟨rfl, b2.out.alloc b2.out.size _⟩
set_option maxRecDepth 100000 in
theorem set32Yes {H i x p k n : Nat} (K : Chk c s bs.length H i x p k n) (h44 : rd bs (p + 44) 1 ≠ 0) (o v : Nat) (ho : o + 4 ≤ 56) (hv : v < 4294967296) : Calls Try.prog 74 #[.pointer (some ⟨L.g, 0, none⟩), .int .u64 (H : Int), .int .i64 (o : Int), .int .u32 (v : Int), .bool true] w fun e w' => e = .returned (.int .i64 0) ∧ SetAt w' L c s (lay bs (p + o) (putB 4 v)) ∧ Only (· = L.ha) w w' := by
  have OC := editYes w L c s bs h g K h44
  rw [kv_eq] at OC
  replace OC := Lib.hid OC
  replace h := Lib.hid h
  replace K := Lib.hid K
  clear g h44
  go_enter Try.func74, Try.ntmps74
  go_wp2_with fail
  refine OC.out.mono ?_
  rintro e w2 ⟨rfl, b2⟩
  obtain ⟨w3, hw3⟩ : ∃ w3, w3 = w2.alloc (.cells #[.pointer (some ⟨L.ga, 0, none⟩), .int .i64 (p : Int), .int .i64 (k : Int), .int .i64 (n : Int)] 117) := ⟨_, rfl⟩
  have S : OS w.heap.size w w3 L c s bs w2.heap.size p k n := by rw [hw3]; exact OS.op p k n h.out b2 b2 b2.size
  obtain ⟨y0, y1, y2, y3⟩ := S.cells
  replace S := Lib.hid S
  replace hw3 := Lib.hid hw3
  clear b2 OC
  generalize hN2 : w2.heap.size = N1 at *
  replace hN2 := Lib.hid hN2
  go_upto_region 2 with fail
  rw [hN2.out, ← hw3.out]
  clear hN2 hw3
  have PC := put32C w3 L.ga L.ha c.cf.ps bs S.out.at_ p o k n v hv (K.out.ck.there o 4 (by have := K.out.n64; omega))
  rw [kv_eq] at PC
  replace PC := Lib.hid PC
  go_wp2_with fail
  refine PC.out.mono ?_
  rintro e w5 ⟨rfl, A, o5⟩
  clear PC y0 y1 y2 y3
  have T := Lib.hid (S.out.set.laid o5 A.bytes (putlen _ _ _ _ (by have h1 := K.out.ck.all; have h2 := K.out.n64; omega)))
  replace o5 := Lib.hid ((Only.of_below S.out.below (Nat.le_refl _) (· = L.ha)).trans o5 fun _ _ h => h)
  clear A S
  go_wp2
  go_ret
  exact ⟨rfl, T.out, o5.out⟩
set_option maxRecDepth 100000 in
theorem tell64No (o H : Nat) (hH : H < 18446744073709551616) (hf : findN c.cf s H = none) : Calls Try.prog 78 #[.pointer (some ⟨L.g, 0, none⟩), .int .u64 (H : Int), .int .i64 (o : Int)] w fun e w' => e = .returned (.tuple #[.int .u64 0, .int .i64 20]) ∧ Below w.heap.size w w' := by
  have OC := openNo w L c s bs h g H hH hf
  rw [zc_eq] at OC
  replace OC := Lib.hid OC
  clear h g hf
  go_enter Try.func78, Try.ntmps78
  go_wp2_with fail
  refine OC.out.mono ?_
  rintro e w2 ⟨rfl, b2⟩
  replace b2 := Lib.hid b2
  go_wp2
  go_ret2
  exact ⟨rfl, b2.out.alloc b2.out.size _⟩
set_option maxRecDepth 100000 in
theorem tell64None {H i x p k n : Nat} (K : Chk c s bs.length H i x p k n) (h44 : rd bs (p + 44) 1 = 0) (o : Nat) (ho : o + 8 ≤ 56) : Calls Try.prog 78 #[.pointer (some ⟨L.g, 0, none⟩), .int .u64 (H : Int), .int .i64 (o : Int)] w fun e w' => e = .returned (.tuple #[.int .u64 0, .int .i64 0]) ∧ Below w.heap.size w w' := by
  have OC := openK w L c s bs h g K
  rw [kv_eq] at OC
  obtain ⟨V, hV⟩ : ∃ V, V = rd bs (p + 44) 1 := ⟨_, rfl⟩
  have d1 : decide ((V : Int) = 0) = true := decide_eq_true (by omega)
  have d2 : ((V : Int) == 0) = true := by rw [beq_iff_eq]; omega
  replace OC := Lib.hid OC
  replace hV := Lib.hid hV
  replace h := Lib.hid h
  replace K := Lib.hid K
  clear g h44
  go_enter Try.func78, Try.ntmps78
  go_wp2_with fail
  refine OC.out.mono ?_
  rintro e w2 ⟨rfl, b2⟩
  obtain ⟨w3, hw3⟩ : ∃ w3, w3 = w2.alloc (.cells #[.pointer (some ⟨L.ga, 0, none⟩), .int .i64 (p : Int), .int .i64 (k : Int), .int .i64 (n : Int)] 117) := ⟨_, rfl⟩
  have S : OS w.heap.size w w3 L c s bs w2.heap.size p k n := by rw [hw3]; exact OS.op p k n h.out b2 b2 b2.size
  obtain ⟨y0, y1, y2, y3⟩ := S.cells
  have KC := Lib.hid (S.key K.out hV.out)
  replace S := Lib.hid S
  replace hw3 := Lib.hid hw3
  clear b2 OC
  generalize hN2 : w2.heap.size = N1 at *
  replace hN2 := Lib.hid hN2
  go_upto_region 2 with fail
  rw [hN2.out, ← hw3.out]
  clear hN2 hw3
  go_wp2_with fail
  refine KC.out.mono ?_
  rintro e w4 ⟨rfl, b4⟩
  replace S := S.out.step b4
  obtain ⟨y0, y1, y2, y3⟩ := S.cells
  replace S := Lib.hid S
  clear KC b4 K hV h
  go_wp2
  go_ret2
  exact ⟨rfl, S.out.below⟩
set_option maxRecDepth 100000 in
theorem tell64Yes {H i x p k n : Nat} (K : Chk c s bs.length H i x p k n) (h44 : rd bs (p + 44) 1 ≠ 0) (o : Nat) (ho : o + 8 ≤ 56) : Calls Try.prog 78 #[.pointer (some ⟨L.g, 0, none⟩), .int .u64 (H : Int), .int .i64 (o : Int)] w fun e w' => e = .returned (.tuple #[.int .u64 ((rd bs (p + o) 8 : Nat) : Int), .int .i64 0]) ∧ Below w.heap.size w w' := by
  have OC := openK w L c s bs h g K
  rw [kv_eq] at OC
  obtain ⟨V, hV⟩ : ∃ V, V = rd bs (p + 44) 1 := ⟨_, rfl⟩
  have d1 : decide ((V : Int) = 0) = false := decide_eq_false (by omega)
  have d2 : ((V : Int) == 0) = false := by rw [beq_eq_false_iff_ne]; omega
  replace OC := Lib.hid OC
  replace hV := Lib.hid hV
  replace h := Lib.hid h
  replace K := Lib.hid K
  clear g h44
  go_enter Try.func78, Try.ntmps78
  go_wp2_with fail
  refine OC.out.mono ?_
  rintro e w2 ⟨rfl, b2⟩
  obtain ⟨w3, hw3⟩ : ∃ w3, w3 = w2.alloc (.cells #[.pointer (some ⟨L.ga, 0, none⟩), .int .i64 (p : Int), .int .i64 (k : Int), .int .i64 (n : Int)] 117) := ⟨_, rfl⟩
  have S : OS w.heap.size w w3 L c s bs w2.heap.size p k n := by rw [hw3]; exact OS.op p k n h.out b2 b2 b2.size
  obtain ⟨y0, y1, y2, y3⟩ := S.cells
  have KC := Lib.hid (S.key K.out hV.out)
  replace S := Lib.hid S
  replace hw3 := Lib.hid hw3
  clear b2 OC
  generalize hN2 : w2.heap.size = N1 at *
  replace hN2 := Lib.hid hN2
  go_upto_region 2 with fail
  rw [hN2.out, ← hw3.out]
  clear hN2 hw3
  go_wp2_with fail
  refine KC.out.mono ?_
  rintro e w4 ⟨rfl, b4⟩
  replace S := S.out.step b4
  obtain ⟨y0, y1, y2, y3⟩ := S.cells
  have GC := get64C w4 L.ga L.ha c.cf.ps bs S.at_ p o k n (K.out.ck.there o 8 (by have := K.out.n64; omega))
  rw [kv_eq] at GC
  replace GC := Lib.hid GC
  replace S := Lib.hid S
  clear KC b4 K hV h
  go_wp2_with fail
  refine GC.out.mono ?_
  rintro e w5 ⟨rfl, b5⟩
  replace S := Lib.hid (S.out.step b5)
  clear GC b5 y0 y1 y2 y3
  go_wp2
  go_ret2
  exact ⟨rfl, S.out.below⟩
set_option maxRecDepth 100000 in
theorem set64No (o v H : Nat) (b : Bool) (hH : H < 18446744073709551616) (hf : findN c.cf s H = none) : Calls Try.prog 72 #[.pointer (some ⟨L.g, 0, none⟩), .int .u64 (H : Int), .int .i64 (o : Int), .int .u64 (v : Int), .bool b] w fun e w' => e = .returned (.int .i64 20) ∧ Below w.heap.size w w' := by
  have OC := editNo w L c s bs h g H hH hf
  rw [zc_eq] at OC
  replace OC := Lib.hid OC
  clear h g hf
  go_enter Try.func72, Try.ntmps72
  go_wp2_with fail
  refine OC.out.mono ?_
  rintro e w2 ⟨rfl, b2⟩
  replace b2 := Lib.hid b2
  go_wp2
  go_ret
  exact ⟨rfl, b2.out.alloc b2.out.size _⟩
set_option maxRecDepth 100000 in
theorem set64Key {H i x p k n : Nat} (K : Chk c s bs.length H i x p k n) (h44 : rd bs (p + 44) 1 = 0) (o v : Nat) (b : Bool) : Calls Try.prog 72 #[.pointer (some ⟨L.g, 0, none⟩), .int .u64 (H : Int), .int .i64 (o : Int), .int .u64 (v : Int), .bool b] w fun e w' => e = .returned (.int .i64 30) ∧ Below w.heap.size w w' := by
  have OC := editKey w L c s bs h g K h44
  rw [zc_eq] at OC
  replace OC := Lib.hid OC
  clear h g h44 K
  go_enter Try.func72, Try.ntmps72
  go_wp2_with fail
  refine OC.out.mono ?_
  rintro e w2 ⟨rfl, b2⟩
  replace b2 := Lib.hid b2
  go_wp2
  go_ret
  exact ⟨rfl, b2.out.alloc b2.out.size _⟩
set_option maxRecDepth 100000 in
theorem set64Arg {H i x p k n : Nat} (K : Chk c s bs.length H i x p k n) (h44 : rd bs (p + 44) 1 ≠ 0) (o v : Nat) : Calls Try.prog 72 #[.pointer (some ⟨L.g, 0, none⟩), .int .u64 (H : Int), .int .i64 (o : Int), .int .u64 (v : Int), .bool false] w fun e w' => e = .returned (.int .i64 1) ∧ Below w.heap.size w w' := by
  have OC := editYes w L c s bs h g K h44
  rw [kv_eq] at OC
  replace OC := Lib.hid OC
  clear h g h44 K
  go_enter Try.func72, Try.ntmps72
  go_wp2_with fail
  refine OC.out.mono ?_
  rintro e w2 ⟨rfl, b2⟩
  replace b2 := Lib.hid b2
  go_wp2
  go_ret
  exact ⟨rfl, b2.out.alloc b2.out.size _⟩
set_option maxRecDepth 100000 in
theorem set64Yes {H i x p k n : Nat} (K : Chk c s bs.length H i x p k n) (h44 : rd bs (p + 44) 1 ≠ 0) (o v : Nat) (ho : o + 8 ≤ 56) (hv : v < 18446744073709551616) : Calls Try.prog 72 #[.pointer (some ⟨L.g, 0, none⟩), .int .u64 (H : Int), .int .i64 (o : Int), .int .u64 (v : Int), .bool true] w fun e w' => e = .returned (.int .i64 0) ∧ SetAt w' L c s (lay bs (p + o) (putB 8 v)) ∧ Only (· = L.ha) w w' := by
  have OC := editYes w L c s bs h g K h44
  rw [kv_eq] at OC
  replace OC := Lib.hid OC
  replace h := Lib.hid h
  replace K := Lib.hid K
  clear g h44
  go_enter Try.func72, Try.ntmps72
  go_wp2_with fail
  refine OC.out.mono ?_
  rintro e w2 ⟨rfl, b2⟩
  obtain ⟨w3, hw3⟩ : ∃ w3, w3 = w2.alloc (.cells #[.pointer (some ⟨L.ga, 0, none⟩), .int .i64 (p : Int), .int .i64 (k : Int), .int .i64 (n : Int)] 117) := ⟨_, rfl⟩
  have S : OS w.heap.size w w3 L c s bs w2.heap.size p k n := by rw [hw3]; exact OS.op p k n h.out b2 b2 b2.size
  obtain ⟨y0, y1, y2, y3⟩ := S.cells
  replace S := Lib.hid S
  replace hw3 := Lib.hid hw3
  clear b2 OC
  generalize hN2 : w2.heap.size = N1 at *
  replace hN2 := Lib.hid hN2
  go_upto_region 2 with fail
  rw [hN2.out, ← hw3.out]
  clear hN2 hw3
  have PC := put64C w3 L.ga L.ha c.cf.ps bs S.out.at_ p o k n v hv (K.out.ck.there o 8 (by have := K.out.n64; omega))
  rw [kv_eq] at PC
  replace PC := Lib.hid PC
  go_wp2_with fail
  refine PC.out.mono ?_
  rintro e w5 ⟨rfl, A, o5⟩
  clear PC y0 y1 y2 y3
  have T := Lib.hid (S.out.set.laid o5 A.bytes (putlen _ _ _ _ (by have h1 := K.out.ck.all; have h2 := K.out.n64; omega)))
  replace o5 := Lib.hid ((Only.of_below S.out.below (Nat.le_refl _) (· = L.ha)).trans o5 fun _ _ h => h)
  clear A S
  go_wp2
  go_ret
  exact ⟨rfl, T.out, o5.out⟩
end
end Go.Proofs.Ytdmclekohalolaa.Itm
/-
  The fields' calls, over tell and set (printed by wip/gen_field.py).
-/
namespace Go.Proofs.Ytdmclekohalolaa.Itm
open Go.RowKit Base Arena Cls
set_option linter.unusedVariables false

theorem u64_nat' (n : Int) : ∃ v : Nat, IntKind.u64.wrap n = (v : Int) := Int.eq_ofNat_of_zero_le (by rw [IntKind.wrap_u64]; omega)
theorem u32_nat' (n : Int) : ∃ v : Nat, IntKind.u32.wrap n = (v : Int) := Int.eq_ofNat_of_zero_le (by rw [IntKind.wrap_u32]; omega)
theorem u8_nat' (n : Int) : ∃ v : Nat, IntKind.u8.wrap n = (v : Int) := Int.eq_ofNat_of_zero_le (by rw [IntKind.wrap_u8]; omega)
theorem tokenW (sv : Value) (H : Nat) (w : World) (v code : Int) (R : World → Prop) (C : Calls Try.prog 78 #[sv, .int .u64 (H : Int), .int .i64 32] w fun e w' => e = .returned (.tuple #[.int .u64 v, .int .i64 code]) ∧ R w') (h0 : 0 ≤ v) (h1 : v ≤ 18446744073709551615) :
    Calls Try.prog 43 #[sv, .int .u64 (H : Int)] w fun e w' => e = .returned (.tuple #[.int .u64 v, .int .i64 code]) ∧ R w' := by
  replace C := Lib.hid C
  go_enter Try.func43, Try.ntmps43
  go_wp2_with fail
  refine C.out.mono ?_
  rintro e w2 ⟨rfl, r⟩
  replace r := Lib.hid r
  go_wp2
  go_ret2
  exact ⟨rfl, r.out⟩
theorem setFlagsW (sv : Value) (H : Nat) (n : Int) (w : World) (code : Int) (R : World → Prop) (C : Calls Try.prog 74 #[sv, .int .u64 (H : Int), .int .i64 40, .int .u32 (IntKind.u32.wrap n), .bool (decide (n ≤ 4294967295))] w fun e w' => e = .returned (.int .i64 code) ∧ R w') :
    Calls Try.prog 37 #[sv, .int .u64 (H : Int), .int .u64 n] w fun e w' => e = .returned (.int .i64 code) ∧ R w' := by
  obtain ⟨b, hb⟩ : ∃ b, decide (n ≤ 4294967295) = b := ⟨_, rfl⟩
  rw [hb] at C
  generalize hv : IntKind.u32.wrap n = v at *
  replace C := Lib.hid C
  go_enter Try.func37, Try.ntmps37
  go_wp2_with fail
  refine C.out.mono ?_
  rintro e w2 ⟨rfl, r⟩
  replace r := Lib.hid r
  go_wp2
  go_ret
  exact ⟨rfl, r.out⟩
theorem setExpiryW (sv : Value) (H : Nat) (n : Int) (w : World) (code : Int) (R : World → Prop) (C : Calls Try.prog 72 #[sv, .int .u64 (H : Int), .int .i64 16, .int .u64 (IntKind.u64.wrap n), .bool (decide (0 ≤ n))] w fun e w' => e = .returned (.int .i64 code) ∧ R w') :
    Calls Try.prog 38 #[sv, .int .u64 (H : Int), .int .i64 n] w fun e w' => e = .returned (.int .i64 code) ∧ R w' := by
  obtain ⟨b, hb⟩ : ∃ b, decide (0 ≤ n) = b := ⟨_, rfl⟩
  rw [hb] at C
  generalize hv : IntKind.u64.wrap n = v at *
  replace C := Lib.hid C
  go_enter Try.func38, Try.ntmps38
  go_wp2_with fail
  refine C.out.mono ?_
  rintro e w2 ⟨rfl, r⟩
  replace r := Lib.hid r
  go_wp2
  go_ret
  exact ⟨rfl, r.out⟩
theorem setTouchedW (sv : Value) (H : Nat) (n : Int) (w : World) (code : Int) (R : World → Prop) (C : Calls Try.prog 72 #[sv, .int .u64 (H : Int), .int .i64 24, .int .u64 (IntKind.u64.wrap n), .bool (decide (0 ≤ n))] w fun e w' => e = .returned (.int .i64 code) ∧ R w') :
    Calls Try.prog 39 #[sv, .int .u64 (H : Int), .int .i64 n] w fun e w' => e = .returned (.int .i64 code) ∧ R w' := by
  obtain ⟨b, hb⟩ : ∃ b, decide (0 ≤ n) = b := ⟨_, rfl⟩
  rw [hb] at C
  generalize hv : IntKind.u64.wrap n = v at *
  replace C := Lib.hid C
  go_enter Try.func39, Try.ntmps39
  go_wp2_with fail
  refine C.out.mono ?_
  rintro e w2 ⟨rfl, r⟩
  replace r := Lib.hid r
  go_wp2
  go_ret
  exact ⟨rfl, r.out⟩
theorem setTokenW (sv : Value) (H : Nat) (n : Int) (w : World) (code : Int) (R : World → Prop) (C : Calls Try.prog 72 #[sv, .int .u64 (H : Int), .int .i64 32, .int .u64 (n), .bool true] w fun e w' => e = .returned (.int .i64 code) ∧ R w') :
    Calls Try.prog 34 #[sv, .int .u64 (H : Int), .int .u64 n] w fun e w' => e = .returned (.int .i64 code) ∧ R w' := by
  replace C := Lib.hid C
  go_enter Try.func34, Try.ntmps34
  go_wp2_with fail
  refine C.out.mono ?_
  rintro e w2 ⟨rfl, r⟩
  replace r := Lib.hid r
  go_wp2
  go_ret
  exact ⟨rfl, r.out⟩
theorem setStateW (sv : Value) (H : Nat) (n : Int) (w : World) (code : Int) (R : World → Prop) (C : Calls Try.prog 73 #[sv, .int .u64 (H : Int), .int .i64 45, .int .u8 (IntKind.u8.wrap n), .bool ((decide (1 ≤ n) && decide (n ≤ 4)))] w fun e w' => e = .returned (.int .i64 code) ∧ R w') :
    Calls Try.prog 40 #[sv, .int .u64 (H : Int), .int .i64 n] w fun e w' => e = .returned (.int .i64 code) ∧ R w' := by
  obtain ⟨b1, hb1⟩ : ∃ b, decide (1 ≤ n) = b := ⟨_, rfl⟩
  obtain ⟨b2, hb2⟩ : ∃ b, decide (n ≤ 4) = b := ⟨_, rfl⟩
  rw [hb1, hb2] at C
  generalize hv : IntKind.u8.wrap n = v at *
  cases b1
  · replace C := Lib.hid C
    go_enter Try.func40, Try.ntmps40
    go_wp2_with fail
    refine C.out.mono ?_
    rintro e w2 ⟨rfl, r⟩
    replace r := Lib.hid r
    go_wp2
    go_ret
    exact ⟨rfl, r.out⟩
  · replace C := Lib.hid C
    go_enter Try.func40, Try.ntmps40
    go_wp2_with fail
    refine C.out.mono ?_
    rintro e w2 ⟨rfl, r⟩
    replace r := Lib.hid r
    go_wp2
    go_ret
    exact ⟨rfl, r.out⟩
theorem setMarksW (sv : Value) (H : Nat) (n : Int) (w : World) (code : Int) (R : World → Prop) (C : Calls Try.prog 73 #[sv, .int .u64 (H : Int), .int .i64 46, .int .u8 (IntKind.u8.wrap n), .bool (marksN n)] w fun e w' => e = .returned (.int .i64 code) ∧ R w') :
    Calls Try.prog 35 #[sv, .int .u64 (H : Int), .int .i64 n] w fun e w' => e = .returned (.int .i64 code) ∧ R w' := by
  have MC := Lib.hid (fun w => marksC w n)
  obtain ⟨b, hb⟩ : ∃ b, marksN n = b := ⟨_, rfl⟩
  rw [hb] at C MC
  clear hb
  generalize hv : IntKind.u8.wrap n = v at *
  replace C := Lib.hid C
  go_enter Try.func35, Try.ntmps35
  go_wp2_with fail
  refine (MC.out _).mono ?_
  rintro e w' ⟨rfl, rfl⟩
  go_wp2_with fail
  refine C.out.mono ?_
  rintro e w2 ⟨rfl, r⟩
  replace r := Lib.hid r
  go_wp2
  go_ret
  exact ⟨rfl, r.out⟩
end Go.Proofs.Ytdmclekohalolaa.Itm
/-
  The walk of Of.
-/
namespace Go.Proofs.Ytdmclekohalolaa.Cls
open Go.RowKit Base MapG
set_option linter.unusedVariables false

def ofN (d : Cf) (s : St) (p : Int) : Option Nat :=
  match chunkN d s p with
  | some (i, x) => if s.tkn i x = true then some (hnd p.toNat (s.gens i x)) else none
  | none => none
def ofV : Option Nat → Value
  | some h => .tuple #[.int .u64 (h : Int), .bool true]
  | none => .tuple #[.int .u64 0, .bool false]
theorem chunkN_some {d : Cf} {s : St} (g : Good d s) {p : Int} {i x : Nat} (h : chunkN d s p = some (i, x)) : i < d.np ∧ s.own i = true ∧ x < d.n (s.cls i) ∧ 0 ≤ p ∧ p < ((d.ps * d.np : Nat) : Int) := by
  unfold chunkN at h
  split at h
  · rename_i hp
    split at h
    · rename_i hh
      injection h with h
      injection h with e1 e2
      rw [e1] at hh e2
      rw [e2] at hh
      exact ⟨g.top i hh.1, hh.1, hh.2.2, hp.1, hp.2⟩
    · cases h
  · cases h
set_option maxRecDepth 100000 in
theorem ofC (w : World) (L : Lay) (c : Conf) (s : St) (bs : List UInt8) (h : SetAt w L c s bs) (g : Good c.cf s) (p : Int) :
    Calls Try.prog 75 #[.pointer (some ⟨L.g, 0, none⟩), .int .i64 p] w fun e w' => e = .returned (ofV (ofN c.cf s p)) ∧ ∃ m, w.drewN m = w' := by
  have CC := chunkC w L c s bs h g p
  unfold ofN
  cases hc : chunkN c.cf s p with
  | none =>
    rw [hc] at CC
    unfold chunkV at CC
    unfold ofV
    simp only at CC ⊢
    replace CC := Lib.hid CC
    clear h g hc
    go_enter Try.func75, Try.ntmps75
    go_wp2_with fail
    refine CC.out.mono ?_
    rintro e w' ⟨rfl, m, rfl⟩
    go_wp2
    go_ret2
    exact ⟨rfl, _, rfl⟩
  | some r =>
    obtain ⟨i, x⟩ := r
    obtain ⟨h1, h2, h3, h4, h5⟩ := chunkN_some g hc
    rw [hc] at CC
    unfold chunkV at CC
    simp only at CC ⊢
    have x0 : (0 : Int) ≤ (x : Int) := by omega
    have x1 : (x : Int) < (c.cf.n (s.cls i) : Int) := by omega
    have p4 := fun m => (h.drewN m).p4 h1 h2
    have tk := fun m => (h.drewN m).tk h1 h2 h3
    cases ht : s.tkn i x with
    | false =>
      rw [if_neg (by simp)]
      unfold ofV
      simp only [ht] at tk
      replace CC := Lib.hid CC
      clear h g hc
      go_enter Try.func75, Try.ntmps75
      go_wp2_with fail
      refine CC.out.mono ?_
      rintro e w' ⟨rfl, m, rfl⟩
      have p4 := p4 m
      have tk := tk m
      go_wp2
      go_ret2
      exact ⟨rfl, _, rfl⟩
    | true =>
      rw [if_pos rfl]
      unfold ofV
      simp only [ht] at tk
      have p3 := fun m => (h.drewN m).p3 h1 h2
      have gn := fun m => (h.drewN m).gen h1 h2 h3
      have hgb := g.gen i x
      have ok := h.okc
      have hpb : c.cf.ps * c.cf.np ≤ 1048576 * 1024 := Nat.mul_le_mul ok.psb ok.npb
      obtain ⟨P, rfl⟩ := Int.eq_ofNat_of_zero_le h4
      have HC := Lib.hid fun W => handleC W P (s.gens i x) (by omega) hgb
      rw [Int.toNat_natCast]
      replace CC := Lib.hid CC
      clear h g hc ok hpb h5
      go_enter Try.func75, Try.ntmps75
      go_wp2_with fail
      refine CC.out.mono ?_
      rintro e w' ⟨rfl, m, rfl⟩
      have p4 := p4 m
      have tk := tk m
      have p3 := p3 m
      have gn := gn m
      go_wp2_with fail
      refine (HC.out _).mono ?_
      rintro e w' ⟨rfl, rfl⟩
      go_wp2
      go_ret2
      exact ⟨rfl, _, rfl⟩
end Go.Proofs.Ytdmclekohalolaa.Cls
/-
  item's Link and SetLink (printed by wip/gen_link.py).
-/
namespace Go.Proofs.Ytdmclekohalolaa.Itm
open Go.RowKit Base Arena Cls
set_option linter.unusedVariables false

section
variable (w : World) (L : Lay) (c : Conf) (s : St) (bs : List UInt8) (h : SetAt w L c s bs) (g : Cls.Good c.cf s)
include h g
set_option maxRecDepth 100000 in
theorem linkNo (H : Nat) (hH : H < 18446744073709551616) (hf : findN c.cf s H = none) (which : Int) : Calls Try.prog 41 #[.pointer (some ⟨L.g, 0, none⟩), .int .u64 (H : Int), .int .i64 which] w fun e w' => e = .returned (.tuple #[.int .u64 0, .int .i64 20]) ∧ Below w.heap.size w w' := by
  have OC := openNo w L c s bs h g H hH hf
  rw [zc_eq] at OC
  replace OC := Lib.hid OC
  clear h g hf
  go_enter Try.func41, Try.ntmps41
  go_wp2_with fail
  refine OC.out.mono ?_
  rintro e w2 ⟨rfl, b2⟩
  replace b2 := Lib.hid b2
  go_wp2
  go_ret2
  exact ⟨rfl, b2.out.alloc b2.out.size _⟩
set_option maxRecDepth 100000 in
theorem linkArg {H i x p k n : Nat} (K : Chk c s bs.length H i x p k n) (which : Int) (hw : which < 0 ∨ 2 < which) : Calls Try.prog 41 #[.pointer (some ⟨L.g, 0, none⟩), .int .u64 (H : Int), .int .i64 which] w fun e w' => e = .returned (.tuple #[.int .u64 0, .int .i64 1]) ∧ Below w.heap.size w w' := by
  have OC := openK w L c s bs h g K
  rw [kv_eq] at OC
  replace OC := Lib.hid OC
  clear h g K
  by_cases h0 : which < 0
  · have d0 : decide (which < 0) = true := decide_eq_true h0
    clear h0 hw
    go_enter Try.func41, Try.ntmps41
    go_wp2_with fail
    refine OC.out.mono ?_
    rintro e w2 ⟨rfl, b2⟩
    replace b2 := Lib.hid b2
    go_wp2
    go_ret2
    exact ⟨rfl, b2.out.alloc b2.out.size _⟩
  · have d0 : decide (which < 0) = false := decide_eq_false h0
    have d1 : decide (2 < which) = true := decide_eq_true (by omega)
    clear h0 hw
    go_enter Try.func41, Try.ntmps41
    go_wp2_with fail
    refine OC.out.mono ?_
    rintro e w2 ⟨rfl, b2⟩
    replace b2 := Lib.hid b2
    go_wp2
    go_ret2
    exact ⟨rfl, b2.out.alloc b2.out.size _⟩
set_option maxRecDepth 100000 in
theorem linkNone {H i x p k n : Nat} (K : Chk c s bs.length H i x p k n) (m : Nat) (hm : m ≤ 2) (h44 : rd bs (p + 44) 1 = 0) : Calls Try.prog 41 #[.pointer (some ⟨L.g, 0, none⟩), .int .u64 (H : Int), .int .i64 (m : Int)] w fun e w' => e = .returned (.tuple #[.int .u64 0, .int .i64 0]) ∧ Below w.heap.size w w' := by
  have OC := openK w L c s bs h g K
  rw [kv_eq] at OC
  have k0 : decide ((m : Int) < 0) = false := decide_eq_false (by omega)
  have k1 : decide (2 < (m : Int)) = false := decide_eq_false (by omega)
  have k2 : decide (2 < m) = false := decide_eq_false (by omega)
  obtain ⟨V, hV⟩ : ∃ V, V = rd bs (p + 44) 1 := ⟨_, rfl⟩
  have d1 : decide ((V : Int) = 0) = true := decide_eq_true (by omega)
  have d2 : ((V : Int) == 0) = true := by rw [beq_iff_eq]; omega
  replace OC := Lib.hid OC
  replace hV := Lib.hid hV
  replace h := Lib.hid h
  replace K := Lib.hid K
  clear g h44 hm
  go_enter Try.func41, Try.ntmps41
  go_wp2_with fail
  refine OC.out.mono ?_
  rintro e w2 ⟨rfl, b2⟩
  obtain ⟨w3, hw3⟩ : ∃ w3, w3 = w2.alloc (.cells #[.pointer (some ⟨L.ga, 0, none⟩), .int .i64 (p : Int), .int .i64 (k : Int), .int .i64 (n : Int)] 117) := ⟨_, rfl⟩
  have S : OS w.heap.size w w3 L c s bs w2.heap.size p k n := by rw [hw3]; exact OS.op p k n h.out b2 b2 b2.size
  obtain ⟨y0, y1, y2, y3⟩ := S.cells
  have KC := Lib.hid (S.key K.out hV.out)
  replace S := Lib.hid S
  replace hw3 := Lib.hid hw3
  clear b2 OC
  generalize hN2 : w2.heap.size = N1 at *
  replace hN2 := Lib.hid hN2
  go_upto_region 2 with fail
  rw [hN2.out, ← hw3.out]
  clear hN2 hw3
  go_wp2_with fail
  refine KC.out.mono ?_
  rintro e w4 ⟨rfl, b4⟩
  replace S := S.out.step b4
  obtain ⟨y0, y1, y2, y3⟩ := S.cells
  replace S := Lib.hid S
  clear KC b4 K hV h
  go_wp2
  go_ret2
  exact ⟨rfl, S.out.below⟩
set_option maxRecDepth 100000 in
theorem linkZero {H i x p k n : Nat} (K : Chk c s bs.length H i x p k n) (m : Nat) (hm : m ≤ 2) (h44 : rd bs (p + 44) 1 ≠ 0) (hr : rd bs (p + 4 * m) 4 = 0) : Calls Try.prog 41 #[.pointer (some ⟨L.g, 0, none⟩), .int .u64 (H : Int), .int .i64 (m : Int)] w fun e w' => e = .returned (.tuple #[.int .u64 0, .int .i64 0]) ∧ Below w.heap.size w w' := by
  have OC := openK w L c s bs h g K
  rw [kv_eq] at OC
  have k0 : decide ((m : Int) < 0) = false := decide_eq_false (by omega)
  have k1 : decide (2 < (m : Int)) = false := decide_eq_false (by omega)
  have k2 : decide (2 < m) = false := decide_eq_false (by omega)
  obtain ⟨V, hV⟩ : ∃ V, V = rd bs (p + 44) 1 := ⟨_, rfl⟩
  have d1 : decide ((V : Int) = 0) = false := decide_eq_false (by omega)
  have d2 : ((V : Int) == 0) = false := by rw [beq_eq_false_iff_ne]; omega
  have q1 : IntKind.i64.wrap (4 * (m : Int)) = ((4 * m : Nat) : Int) := by rw [IntWalk.i64_in _ (by omega)]; omega
  have q2 : IntKind.i64.wrap ((4 * m : Nat) : Int) = ((4 * m : Nat) : Int) := IntWalk.i64_in _ (by omega)
  have hm4 : 4 * m + 4 ≤ 12 := by omega
  obtain ⟨M, hM⟩ : ∃ M, M = rd bs (p + 4 * m) 4 := ⟨_, rfl⟩
  rw [← hM] at hr
  have hlt := rd_lt bs (p + 4 * m) 4
  rw [← hM] at hlt
  have e1 : decide ((M : Int) = 0) = true := decide_eq_true (by omega)
  have e2 : ((M : Int) == 0) = true := by rw [beq_iff_eq]; omega
  generalize 4 * m = m4 at *
  replace hM := Lib.hid hM
  clear hr hlt
  replace OC := Lib.hid OC
  replace hV := Lib.hid hV
  replace h := Lib.hid h
  replace K := Lib.hid K
  clear g h44 hm
  go_enter Try.func41, Try.ntmps41
  go_wp2_with fail
  refine OC.out.mono ?_
  rintro e w2 ⟨rfl, b2⟩
  obtain ⟨w3, hw3⟩ : ∃ w3, w3 = w2.alloc (.cells #[.pointer (some ⟨L.ga, 0, none⟩), .int .i64 (p : Int), .int .i64 (k : Int), .int .i64 (n : Int)] 117) := ⟨_, rfl⟩
  have S : OS w.heap.size w w3 L c s bs w2.heap.size p k n := by rw [hw3]; exact OS.op p k n h.out b2 b2 b2.size
  obtain ⟨y0, y1, y2, y3⟩ := S.cells
  have KC := Lib.hid (S.key K.out hV.out)
  replace S := Lib.hid S
  replace hw3 := Lib.hid hw3
  clear b2 OC
  generalize hN2 : w2.heap.size = N1 at *
  replace hN2 := Lib.hid hN2
  go_upto_region 2 with fail
  rw [hN2.out, ← hw3.out]
  clear hN2 hw3
  go_wp2_with fail
  refine KC.out.mono ?_
  rintro e w4 ⟨rfl, b4⟩
  replace S := S.out.step b4
  obtain ⟨y0, y1, y2, y3⟩ := S.cells
  have GC := get32C w4 L.ga L.ha c.cf.ps bs S.at_ p m4 k n (K.out.ck.there m4 4 (by have := K.out.n64; omega))
  rw [kv_eq, ← hM.out] at GC
  replace GC := Lib.hid GC
  replace S := Lib.hid S
  clear KC b4 K hV h
  go_wp2_with fail
  refine GC.out.mono ?_
  rintro e w5 ⟨rfl, b5⟩
  replace S := Lib.hid (S.out.step b5)
  clear GC b5 y0 y1 y2 y3 hM
  go_wp2
  go_ret2
  exact ⟨rfl, S.out.below⟩
set_option maxRecDepth 100000 in
theorem linkTo {H i x p k n : Nat} (K : Chk c s bs.length H i x p k n) (m : Nat) (hm : m ≤ 2) (h44 : rd bs (p + 44) 1 ≠ 0) (r : Nat) (hr : rd bs (p + 4 * m) 4 = r + 1) (T : Nat) (hT : ofN c.cf s ((8 * r : Nat) : Int) = some T) : Calls Try.prog 41 #[.pointer (some ⟨L.g, 0, none⟩), .int .u64 (H : Int), .int .i64 (m : Int)] w fun e w' => e = .returned (.tuple #[.int .u64 (T : Int), .int .i64 0]) ∧ Below w.heap.size w w' := by
  have OC := openK w L c s bs h g K
  rw [kv_eq] at OC
  have k0 : decide ((m : Int) < 0) = false := decide_eq_false (by omega)
  have k1 : decide (2 < (m : Int)) = false := decide_eq_false (by omega)
  have k2 : decide (2 < m) = false := decide_eq_false (by omega)
  obtain ⟨V, hV⟩ : ∃ V, V = rd bs (p + 44) 1 := ⟨_, rfl⟩
  have d1 : decide ((V : Int) = 0) = false := decide_eq_false (by omega)
  have d2 : ((V : Int) == 0) = false := by rw [beq_eq_false_iff_ne]; omega
  have q1 : IntKind.i64.wrap (4 * (m : Int)) = ((4 * m : Nat) : Int) := by rw [IntWalk.i64_in _ (by omega)]; omega
  have q2 : IntKind.i64.wrap ((4 * m : Nat) : Int) = ((4 * m : Nat) : Int) := IntWalk.i64_in _ (by omega)
  have hm4 : 4 * m + 4 ≤ 12 := by omega
  obtain ⟨M, hM⟩ : ∃ M, M = rd bs (p + 4 * m) 4 := ⟨_, rfl⟩
  rw [← hM] at hr
  have hlt := rd_lt bs (p + 4 * m) 4
  rw [← hM] at hlt
  have e1 : decide ((M : Int) = 0) = false := decide_eq_false (by omega)
  have e2 : ((M : Int) == 0) = false := by rw [beq_eq_false_iff_ne]; omega
  have q3 : IntKind.i64.wrap (M : Int) = (M : Int) := IntWalk.i64_in _ (by omega)
  have q4 : IntKind.i64.wrap ((M : Int) - 1) = (r : Int) := by rw [IntWalk.i64_in _ (by omega)]; omega
  have q5 : IntKind.i64.wrap (8 * (r : Int)) = ((8 * r : Nat) : Int) := by rw [IntWalk.i64_in _ (by omega)]; omega
  have TC := fun w h => ofC w L c s bs h g ((8 * r : Nat) : Int)
  rw [hT] at TC
  unfold ofV at TC
  simp only at TC
  replace TC := Lib.hid TC
  generalize 8 * r = r8 at *
  generalize 4 * m = m4 at *
  replace hM := Lib.hid hM
  clear hr hlt
  replace OC := Lib.hid OC
  replace hV := Lib.hid hV
  replace h := Lib.hid h
  replace K := Lib.hid K
  clear g h44 hm
  go_enter Try.func41, Try.ntmps41
  go_wp2_with fail
  refine OC.out.mono ?_
  rintro e w2 ⟨rfl, b2⟩
  obtain ⟨w3, hw3⟩ : ∃ w3, w3 = w2.alloc (.cells #[.pointer (some ⟨L.ga, 0, none⟩), .int .i64 (p : Int), .int .i64 (k : Int), .int .i64 (n : Int)] 117) := ⟨_, rfl⟩
  have S : OS w.heap.size w w3 L c s bs w2.heap.size p k n := by rw [hw3]; exact OS.op p k n h.out b2 b2 b2.size
  obtain ⟨y0, y1, y2, y3⟩ := S.cells
  have KC := Lib.hid (S.key K.out hV.out)
  replace S := Lib.hid S
  replace hw3 := Lib.hid hw3
  clear b2 OC
  generalize hN2 : w2.heap.size = N1 at *
  replace hN2 := Lib.hid hN2
  go_upto_region 2 with fail
  rw [hN2.out, ← hw3.out]
  clear hN2 hw3
  go_wp2_with fail
  refine KC.out.mono ?_
  rintro e w4 ⟨rfl, b4⟩
  replace S := S.out.step b4
  obtain ⟨y0, y1, y2, y3⟩ := S.cells
  have GC := get32C w4 L.ga L.ha c.cf.ps bs S.at_ p m4 k n (K.out.ck.there m4 4 (by have := K.out.n64; omega))
  rw [kv_eq, ← hM.out] at GC
  replace GC := Lib.hid GC
  replace S := Lib.hid S
  clear KC b4 K hV h
  go_wp2_with fail
  refine GC.out.mono ?_
  rintro e w5 ⟨rfl, b5⟩
  replace S := Lib.hid (S.out.step b5)
  clear GC b5 y0 y1 y2 y3 hM
  have TC2 := Lib.hid (TC.out w5 S.out.set)
  clear TC
  go_wp2_with fail
  refine TC2.out.mono ?_
  rintro e w6 ⟨rfl, m6, rfl⟩
  clear TC2
  go_wp2
  go_ret2
  exact ⟨rfl, below_drew S.out.below _⟩
set_option maxRecDepth 100000 in
theorem linkBad {H i x p k n : Nat} (K : Chk c s bs.length H i x p k n) (m : Nat) (hm : m ≤ 2) (h44 : rd bs (p + 44) 1 ≠ 0) (r : Nat) (hr : rd bs (p + 4 * m) 4 = r + 1) (hT : ofN c.cf s ((8 * r : Nat) : Int) = none) : Calls Try.prog 41 #[.pointer (some ⟨L.g, 0, none⟩), .int .u64 (H : Int), .int .i64 (m : Int)] w fun e w' => e = .returned (.tuple #[.int .u64 0, .int .i64 20]) ∧ Below w.heap.size w w' := by
  have OC := openK w L c s bs h g K
  rw [kv_eq] at OC
  have k0 : decide ((m : Int) < 0) = false := decide_eq_false (by omega)
  have k1 : decide (2 < (m : Int)) = false := decide_eq_false (by omega)
  have k2 : decide (2 < m) = false := decide_eq_false (by omega)
  obtain ⟨V, hV⟩ : ∃ V, V = rd bs (p + 44) 1 := ⟨_, rfl⟩
  have d1 : decide ((V : Int) = 0) = false := decide_eq_false (by omega)
  have d2 : ((V : Int) == 0) = false := by rw [beq_eq_false_iff_ne]; omega
  have q1 : IntKind.i64.wrap (4 * (m : Int)) = ((4 * m : Nat) : Int) := by rw [IntWalk.i64_in _ (by omega)]; omega
  have q2 : IntKind.i64.wrap ((4 * m : Nat) : Int) = ((4 * m : Nat) : Int) := IntWalk.i64_in _ (by omega)
  have hm4 : 4 * m + 4 ≤ 12 := by omega
  obtain ⟨M, hM⟩ : ∃ M, M = rd bs (p + 4 * m) 4 := ⟨_, rfl⟩
  rw [← hM] at hr
  have hlt := rd_lt bs (p + 4 * m) 4
  rw [← hM] at hlt
  have e1 : decide ((M : Int) = 0) = false := decide_eq_false (by omega)
  have e2 : ((M : Int) == 0) = false := by rw [beq_eq_false_iff_ne]; omega
  have q3 : IntKind.i64.wrap (M : Int) = (M : Int) := IntWalk.i64_in _ (by omega)
  have q4 : IntKind.i64.wrap ((M : Int) - 1) = (r : Int) := by rw [IntWalk.i64_in _ (by omega)]; omega
  have q5 : IntKind.i64.wrap (8 * (r : Int)) = ((8 * r : Nat) : Int) := by rw [IntWalk.i64_in _ (by omega)]; omega
  have TC := fun w h => ofC w L c s bs h g ((8 * r : Nat) : Int)
  rw [hT] at TC
  unfold ofV at TC
  simp only at TC
  replace TC := Lib.hid TC
  generalize 8 * r = r8 at *
  generalize 4 * m = m4 at *
  replace hM := Lib.hid hM
  clear hr hlt
  replace OC := Lib.hid OC
  replace hV := Lib.hid hV
  replace h := Lib.hid h
  replace K := Lib.hid K
  clear g h44 hm
  go_enter Try.func41, Try.ntmps41
  go_wp2_with fail
  refine OC.out.mono ?_
  rintro e w2 ⟨rfl, b2⟩
  obtain ⟨w3, hw3⟩ : ∃ w3, w3 = w2.alloc (.cells #[.pointer (some ⟨L.ga, 0, none⟩), .int .i64 (p : Int), .int .i64 (k : Int), .int .i64 (n : Int)] 117) := ⟨_, rfl⟩
  have S : OS w.heap.size w w3 L c s bs w2.heap.size p k n := by rw [hw3]; exact OS.op p k n h.out b2 b2 b2.size
  obtain ⟨y0, y1, y2, y3⟩ := S.cells
  have KC := Lib.hid (S.key K.out hV.out)
  replace S := Lib.hid S
  replace hw3 := Lib.hid hw3
  clear b2 OC
  generalize hN2 : w2.heap.size = N1 at *
  replace hN2 := Lib.hid hN2
  go_upto_region 2 with fail
  rw [hN2.out, ← hw3.out]
  clear hN2 hw3
  go_wp2_with fail
  refine KC.out.mono ?_
  rintro e w4 ⟨rfl, b4⟩
  replace S := S.out.step b4
  obtain ⟨y0, y1, y2, y3⟩ := S.cells
  have GC := get32C w4 L.ga L.ha c.cf.ps bs S.at_ p m4 k n (K.out.ck.there m4 4 (by have := K.out.n64; omega))
  rw [kv_eq, ← hM.out] at GC
  replace GC := Lib.hid GC
  replace S := Lib.hid S
  clear KC b4 K hV h
  go_wp2_with fail
  refine GC.out.mono ?_
  rintro e w5 ⟨rfl, b5⟩
  replace S := Lib.hid (S.out.step b5)
  clear GC b5 y0 y1 y2 y3 hM
  have TC2 := Lib.hid (TC.out w5 S.out.set)
  clear TC
  go_wp2_with fail
  refine TC2.out.mono ?_
  rintro e w6 ⟨rfl, m6, rfl⟩
  clear TC2
  go_wp2
  go_ret2
  exact ⟨rfl, below_drew S.out.below _⟩
set_option maxRecDepth 100000 in
theorem setLinkNo (H T : Nat) (hH : H < 18446744073709551616) (hf : findN c.cf s H = none) (which : Int) : Calls Try.prog 32 #[.pointer (some ⟨L.g, 0, none⟩), .int .u64 (H : Int), .int .i64 which, .int .u64 (T : Int)] w fun e w' => e = .returned (.int .i64 20) ∧ Below w.heap.size w w' := by
  have OC := editNo w L c s bs h g H hH hf
  rw [zc_eq] at OC
  replace OC := Lib.hid OC
  clear h g hf
  go_enter Try.func32, Try.ntmps32
  go_wp2_with fail
  refine OC.out.mono ?_
  rintro e w2 ⟨rfl, b2⟩
  replace b2 := Lib.hid b2
  go_wp2
  go_ret
  exact ⟨rfl, b2.out.alloc b2.out.size _⟩
set_option maxRecDepth 100000 in
theorem setLinkKey {H i x p k n : Nat} (K : Chk c s bs.length H i x p k n) (h44 : rd bs (p + 44) 1 = 0) (T : Nat) (which : Int) : Calls Try.prog 32 #[.pointer (some ⟨L.g, 0, none⟩), .int .u64 (H : Int), .int .i64 which, .int .u64 (T : Int)] w fun e w' => e = .returned (.int .i64 30) ∧ Below w.heap.size w w' := by
  have OC := editKey w L c s bs h g K h44
  rw [zc_eq] at OC
  replace OC := Lib.hid OC
  clear h g h44 K
  go_enter Try.func32, Try.ntmps32
  go_wp2_with fail
  refine OC.out.mono ?_
  rintro e w2 ⟨rfl, b2⟩
  replace b2 := Lib.hid b2
  go_wp2
  go_ret
  exact ⟨rfl, b2.out.alloc b2.out.size _⟩
set_option maxRecDepth 100000 in
theorem setLinkArg {H i x p k n : Nat} (K : Chk c s bs.length H i x p k n) (h44 : rd bs (p + 44) 1 ≠ 0) (T : Nat) (which : Int) (hw : which < 0 ∨ 2 < which) : Calls Try.prog 32 #[.pointer (some ⟨L.g, 0, none⟩), .int .u64 (H : Int), .int .i64 which, .int .u64 (T : Int)] w fun e w' => e = .returned (.int .i64 1) ∧ Below w.heap.size w w' := by
  have OC := editYes w L c s bs h g K h44
  rw [kv_eq] at OC
  replace OC := Lib.hid OC
  clear h g K h44
  by_cases h0 : which < 0
  · have d0 : decide (which < 0) = true := decide_eq_true h0
    clear h0 hw
    go_enter Try.func32, Try.ntmps32
    go_wp2_with fail
    refine OC.out.mono ?_
    rintro e w2 ⟨rfl, b2⟩
    replace b2 := Lib.hid b2
    go_wp2
    go_ret
    exact ⟨rfl, b2.out.alloc b2.out.size _⟩
  · have d0 : decide (which < 0) = false := decide_eq_false h0
    have d1 : decide (2 < which) = true := decide_eq_true (by omega)
    clear h0 hw
    go_enter Try.func32, Try.ntmps32
    go_wp2_with fail
    refine OC.out.mono ?_
    rintro e w2 ⟨rfl, b2⟩
    replace b2 := Lib.hid b2
    go_wp2
    go_ret
    exact ⟨rfl, b2.out.alloc b2.out.size _⟩
set_option maxRecDepth 100000 in
theorem setLinkBad {H i x p k n : Nat} (K : Chk c s bs.length H i x p k n) (h44 : rd bs (p + 44) 1 ≠ 0) (m : Nat) (hm : m ≤ 2) (T : Nat) (hT : T < 18446744073709551616) (hT0 : T ≠ 0) (hTf : findN c.cf s T = none) : Calls Try.prog 32 #[.pointer (some ⟨L.g, 0, none⟩), .int .u64 (H : Int), .int .i64 (m : Int), .int .u64 (T : Int)] w fun e w' => e = .returned (.int .i64 20) ∧ Below w.heap.size w w' := by
  have OC := editYes w L c s bs h g K h44
  rw [kv_eq] at OC
  have k0 : decide ((m : Int) < 0) = false := decide_eq_false (by omega)
  have k1 : decide (2 < (m : Int)) = false := decide_eq_false (by omega)
  have k2 : decide (2 < m) = false := decide_eq_false (by omega)
  have q1 : IntKind.i64.wrap (4 * (m : Int)) = ((4 * m : Nat) : Int) := by rw [IntWalk.i64_in _ (by omega)]; omega
  have q2 : IntKind.i64.wrap ((4 * m : Nat) : Int) = ((4 * m : Nat) : Int) := IntWalk.i64_in _ (by omega)
  have hm4 : 4 * m + 4 ≤ 12 := by omega
  generalize 4 * m = m4 at *
  have e1 : decide ((T : Int) = 0) = false := decide_eq_false (by omega)
  have e2 : ((T : Int) != 0) = true := by rw [bne_iff_ne]; omega
  have e3 : decide (T = 0) = false := decide_eq_false (by omega)
  have TC := fun w h => atC w L c s bs h g T hT
  rw [hTf] at TC
  unfold atV at TC
  simp only at TC
  replace TC := Lib.hid TC
  replace OC := Lib.hid OC
  replace h := Lib.hid h
  replace K := Lib.hid K
  clear g h44 hm
  go_enter Try.func32, Try.ntmps32
  go_wp2_with fail
  refine OC.out.mono ?_
  rintro e w2 ⟨rfl, b2⟩
  obtain ⟨w3, hw3⟩ : ∃ w3, w3 = w2.alloc (.cells #[.pointer (some ⟨L.ga, 0, none⟩), .int .i64 (p : Int), .int .i64 (k : Int), .int .i64 (n : Int)] 117) := ⟨_, rfl⟩
  have S : OS w.heap.size w w3 L c s bs w2.heap.size p k n := by rw [hw3]; exact OS.op p k n h.out b2 b2 b2.size
  obtain ⟨y0, y1, y2, y3⟩ := S.cells
  replace S := Lib.hid S
  replace hw3 := Lib.hid hw3
  clear b2 OC
  generalize hN2 : w2.heap.size = N1 at *
  replace hN2 := Lib.hid hN2
  go_upto_region 2 with fail
  rw [hN2.out, ← hw3.out]
  clear hN2 hw3
  have TC2 := Lib.hid (TC.out w3 S.out.set)
  clear TC
  go_wp2_with fail
  refine TC2.out.mono ?_
  rintro e w4 ⟨rfl, m6, rfl⟩
  clear TC2
  replace S := S.out.drewN m6
  obtain ⟨y0, y1, y2, y3⟩ := S.cells
  replace S := Lib.hid S
  go_wp2
  go_ret
  exact ⟨rfl, S.out.below⟩
set_option maxRecDepth 100000 in
theorem setLinkZero {H i x p k n : Nat} (K : Chk c s bs.length H i x p k n) (h44 : rd bs (p + 44) 1 ≠ 0) (m : Nat) (hm : m ≤ 2)  : Calls Try.prog 32 #[.pointer (some ⟨L.g, 0, none⟩), .int .u64 (H : Int), .int .i64 (m : Int), .int .u64 0] w fun e w' => e = .returned (.int .i64 0) ∧ SetAt w' L c s (lay bs (p + 4 * m) (putB 4 0)) ∧ Only (· = L.ha) w w' := by
  have OC := editYes w L c s bs h g K h44
  rw [kv_eq] at OC
  have k0 : decide ((m : Int) < 0) = false := decide_eq_false (by omega)
  have k1 : decide (2 < (m : Int)) = false := decide_eq_false (by omega)
  have k2 : decide (2 < m) = false := decide_eq_false (by omega)
  have q1 : IntKind.i64.wrap (4 * (m : Int)) = ((4 * m : Nat) : Int) := by rw [IntWalk.i64_in _ (by omega)]; omega
  have q2 : IntKind.i64.wrap ((4 * m : Nat) : Int) = ((4 * m : Nat) : Int) := IntWalk.i64_in _ (by omega)
  have hm4 : 4 * m + 4 ≤ 12 := by omega
  generalize 4 * m = m4 at *
  replace OC := Lib.hid OC
  replace h := Lib.hid h
  replace K := Lib.hid K
  clear g h44 hm
  go_enter Try.func32, Try.ntmps32
  go_wp2_with fail
  refine OC.out.mono ?_
  rintro e w2 ⟨rfl, b2⟩
  obtain ⟨w3, hw3⟩ : ∃ w3, w3 = w2.alloc (.cells #[.pointer (some ⟨L.ga, 0, none⟩), .int .i64 (p : Int), .int .i64 (k : Int), .int .i64 (n : Int)] 117) := ⟨_, rfl⟩
  have S : OS w.heap.size w w3 L c s bs w2.heap.size p k n := by rw [hw3]; exact OS.op p k n h.out b2 b2 b2.size
  obtain ⟨y0, y1, y2, y3⟩ := S.cells
  replace S := Lib.hid S
  replace hw3 := Lib.hid hw3
  clear b2 OC
  generalize hN2 : w2.heap.size = N1 at *
  replace hN2 := Lib.hid hN2
  go_upto_region 2 with fail
  rw [hN2.out, ← hw3.out]
  clear hN2 hw3
  have PC := put32C w3 L.ga L.ha c.cf.ps bs S.out.at_ p m4 k n 0 (by omega) (K.out.ck.there m4 4 (by have := K.out.n64; omega))
  rw [kv_eq] at PC
  rw [show ((0 : Nat) : Int) = 0 from rfl] at PC
  replace PC := Lib.hid PC
  go_wp2_with fail
  refine PC.out.mono ?_
  rintro e w5 ⟨rfl, A, o5⟩
  clear PC y0 y1 y2 y3
  have T := Lib.hid (S.out.set.laid o5 A.bytes (putlen _ _ _ _ (by have h1 := K.out.ck.all; have h2 := K.out.n64; omega)))
  replace o5 := Lib.hid ((Only.of_below S.out.below (Nat.le_refl _) (· = L.ha)).trans o5 fun _ _ h => h)
  clear A S
  go_wp2
  go_ret
  exact ⟨rfl, T.out, o5.out⟩
set_option maxRecDepth 100000 in
theorem setLinkTo {H i x p k n : Nat} (K : Chk c s bs.length H i x p k n) (h44 : rd bs (p + 44) 1 ≠ 0) (m : Nat) (hm : m ≤ 2) (T : Nat) (hT : T < 18446744073709551616) (hT0 : T ≠ 0) {ti tx tp : Nat} (hTf : findN c.cf s T = some (ti, tx, tp)) : Calls Try.prog 32 #[.pointer (some ⟨L.g, 0, none⟩), .int .u64 (H : Int), .int .i64 (m : Int), .int .u64 (T : Int)] w fun e w' => e = .returned (.int .i64 0) ∧ SetAt w' L c s (lay bs (p + 4 * m) (putB 4 (T % 4294967296))) ∧ Only (· = L.ha) w w' := by
  have OC := editYes w L c s bs h g K h44
  rw [kv_eq] at OC
  have k0 : decide ((m : Int) < 0) = false := decide_eq_false (by omega)
  have k1 : decide (2 < (m : Int)) = false := decide_eq_false (by omega)
  have k2 : decide (2 < m) = false := decide_eq_false (by omega)
  have q1 : IntKind.i64.wrap (4 * (m : Int)) = ((4 * m : Nat) : Int) := by rw [IntWalk.i64_in _ (by omega)]; omega
  have q2 : IntKind.i64.wrap ((4 * m : Nat) : Int) = ((4 * m : Nat) : Int) := IntWalk.i64_in _ (by omega)
  have hm4 : 4 * m + 4 ≤ 12 := by omega
  generalize 4 * m = m4 at *
  have e1 : decide ((T : Int) = 0) = false := decide_eq_false (by omega)
  have e2 : ((T : Int) != 0) = true := by rw [bne_iff_ne]; omega
  have e3 : decide (T = 0) = false := decide_eq_false (by omega)
  have TC := fun w h => atC w L c s bs h g T hT
  rw [hTf] at TC
  unfold atV at TC
  simp only at TC
  replace TC := Lib.hid TC
  obtain ⟨T4, hT4⟩ : ∃ T4, T4 = T % 4294967296 := ⟨_, rfl⟩
  have q3 : IntKind.u32.wrap (T : Int) = (T4 : Int) := by rw [IntKind.wrap_u32]; omega
  have hv : T4 < 4294967296 := by omega
  rw [← hT4]
  clear hT4 hTf
  replace OC := Lib.hid OC
  replace h := Lib.hid h
  replace K := Lib.hid K
  clear g h44 hm
  go_enter Try.func32, Try.ntmps32
  go_wp2_with fail
  refine OC.out.mono ?_
  rintro e w2 ⟨rfl, b2⟩
  obtain ⟨w3, hw3⟩ : ∃ w3, w3 = w2.alloc (.cells #[.pointer (some ⟨L.ga, 0, none⟩), .int .i64 (p : Int), .int .i64 (k : Int), .int .i64 (n : Int)] 117) := ⟨_, rfl⟩
  have S : OS w.heap.size w w3 L c s bs w2.heap.size p k n := by rw [hw3]; exact OS.op p k n h.out b2 b2 b2.size
  obtain ⟨y0, y1, y2, y3⟩ := S.cells
  replace S := Lib.hid S
  replace hw3 := Lib.hid hw3
  clear b2 OC
  generalize hN2 : w2.heap.size = N1 at *
  replace hN2 := Lib.hid hN2
  go_upto_region 2 with fail
  rw [hN2.out, ← hw3.out]
  clear hN2 hw3
  have TC2 := Lib.hid (TC.out w3 S.out.set)
  clear TC
  go_wp2_with fail
  refine TC2.out.mono ?_
  rintro e w4 ⟨rfl, m6, rfl⟩
  clear TC2
  replace S := S.out.drewN m6
  obtain ⟨y0, y1, y2, y3⟩ := S.cells
  replace S := Lib.hid S
  have PC := put32C (w3.drewN m6) L.ga L.ha c.cf.ps bs S.out.at_ p m4 k n T4 hv (K.out.ck.there m4 4 (by have := K.out.n64; omega))
  rw [kv_eq] at PC

  replace PC := Lib.hid PC
  go_wp2_with fail
  refine PC.out.mono ?_
  rintro e w5 ⟨rfl, A, o5⟩
  clear PC y0 y1 y2 y3
  have T := Lib.hid (S.out.set.laid o5 A.bytes (putlen _ _ _ _ (by have h1 := K.out.ck.all; have h2 := K.out.n64; omega)))
  replace o5 := Lib.hid ((Only.of_below S.out.below (Nat.le_refl _) (· = L.ha)).trans o5 fun _ _ h => h)
  clear A S
  go_wp2
  go_ret
  exact ⟨rfl, T.out, o5.out⟩
end
end Go.Proofs.Ytdmclekohalolaa.Itm
/-
  A region that draws its order, of operations that read, draw or make memory: one obligation an operation, under what is known of the operations that it waits for; then a tail in one forced order. Nothing here names the program.
-/
namespace Go.Proofs.Ytdmclekohalolaa.Rel
open Go
set_option linter.unusedVariables false

/-- An operation's value. -/
def valOf (o : Oper) (a : Act) : Value := match o.dst with | some d => a.tmps.getD d undef | none => undef
/-- The operations' slots are there, and unlike. -/
def dstsB (ops : Array Oper) (n m : Nat) : Bool := (List.range n).all fun i => match ops[i]? with
  | none => false
  | some o => match o.dst with
    | none => false
    | some d => decide (d < m) && (List.range n).all fun j => decide (i = j) || match ops[j]? with
      | none => true
      | some o' => decide (o'.dst ≠ some d)
/-- Each waits for earlier ones alone. -/
def fwdB (ops : Array Oper) (n : Nat) : Bool := (List.range n).all fun i => match ops[i]? with
  | none => false
  | some o => o.after.toList.all fun e => decide (e.on < i)
def fullL (n k : Nat) : Array Bool := (List.replicate n true ++ List.replicate k false).toArray
def relB (ops : Array Oper) (n m : Nat) : Bool :=
  dstsB ops n m && fwdB ops n && decide (n ≤ ops.size) && (decide (n = ops.size) || (Region.sinkB .any ops n && Region.chainB .any ops n)) && Region.seqB .any ops (ops.size - n) n (fullL n (ops.size - n))
theorem dsts_spec {ops : Array Oper} {n m : Nat} (h : dstsB ops n m = true) {i : Nat} {o : Oper} (hi : i < n) (ho : ops[i]? = some o) :
    ∃ d, o.dst = some d ∧ d < m ∧ ∀ j o', j < n → j ≠ i → ops[j]? = some o' → o'.dst ≠ some d := by
  have h1 := List.all_eq_true.1 h i (List.mem_range.2 hi)
  rw [ho] at h1
  cases hd : o.dst with
  | none => simp [hd] at h1
  | some d =>
    simp only [hd, Bool.and_eq_true, decide_eq_true_eq] at h1
    refine ⟨d, rfl, h1.1, fun j o' hj hji ho' => ?_⟩
    have h2 := List.all_eq_true.1 h1.2 j (List.mem_range.2 hj)
    simp only [ho', Bool.or_eq_true, decide_eq_true_eq] at h2
    rcases h2 with h2 | h2
    · exact absurd h2.symm hji
    · exact h2
theorem fwd_spec {ops : Array Oper} {n : Nat} (h : fwdB ops n = true) {i : Nat} (hi : i < n) : ∃ o, ops[i]? = some o ∧ ∀ e ∈ o.after, e.on < i := by
  have h1 := List.all_eq_true.1 h i (List.mem_range.2 hi)
  cases ho : ops[i]? with
  | none => simp [ho] at h1
  | some o =>
    simp only [ho] at h1
    exact ⟨o, rfl, fun e he => of_decide_eq_true (List.all_eq_true.1 h1 e (by simpa using he))⟩
/-- So many of the first n are not yet done. -/
def unl (listed : Array Bool) : Nat → Nat
  | 0 => 0
  | n + 1 => unl listed n + if listed.getD n true = false then 1 else 0
theorem getD_set_same {listed : Array Bool} {i : Nat} (h : listed.getD i true = false) : (listed.setIfInBounds i true).getD i true = true := by
  rcases Nat.lt_or_ge i listed.size with h' | h'
  · simp [h']
  · simp [Array.getElem?_eq_none h'] at h
theorem unl_far {listed : Array Bool} {i : Nat} : ∀ {n : Nat}, n ≤ i → unl (listed.setIfInBounds i true) n = unl listed n
  | 0, _ => rfl
  | n + 1, h => by simp only [unl]; rw [unl_far (by omega), getD_set_ne true (by omega)]
theorem unl_set {listed : Array Bool} {i : Nat} (hi : listed.getD i true = false) : ∀ {n : Nat}, i < n → unl (listed.setIfInBounds i true) n + 1 = unl listed n
  | 0, h => by omega
  | n + 1, h => by
    simp only [unl]
    rcases Nat.lt_or_ge i n with h1 | h1
    · have := unl_set hi h1
      rw [getD_set_ne true (by omega)]
      omega
    · obtain rfl : i = n := by omega
      rw [unl_far (Nat.le_refl _), if_neg (by rw [getD_set_same hi]; simp), if_pos hi]
theorem unl_zero {listed : Array Bool} : ∀ {n : Nat}, unl listed n = 0 → ∀ i, i < n → listed.getD i true = true
  | 0, _, i, h => by omega
  | n + 1, h, i, hi => by
    simp only [unl] at h
    rcases Nat.lt_or_ge i n with h1 | h1
    · exact unl_zero (by omega) i h1
    · obtain rfl : i = n := by omega
      cases hl : listed.getD i true with
      | true => rfl
      | false => rw [hl] at h; simp at h
theorem unl_some {listed : Array Bool} : ∀ {n : Nat}, unl listed n ≠ 0 → ∃ i, i < n ∧ listed.getD i true = false ∧ ∀ j, j < i → listed.getD j true = true
  | 0, h => absurd rfl h
  | n + 1, h => by
    by_cases h0 : unl listed n = 0
    · refine ⟨n, by omega, ?_, unl_zero h0⟩
      simp only [unl, h0] at h
      cases hl : listed.getD n true with
      | false => rfl
      | true => rw [hl] at h; simp at h
    · obtain ⟨i, h1, h2, h3⟩ := unl_some h0
      exact ⟨i, by omega, h2, h3⟩
theorem getD_tf {listed : Array Bool} {i : Nat} (hi : i < listed.size) (h : listed.getD i true = true) : listed.getD i false = true := by
  simp [hi] at h ⊢; exact h

section
variable {P : Program} {ops : Array Oper} {Q : Exit → Act → World → Prop} {n : Nat} {a0 : Act} {R : World → Prop} {le : World → World → Prop} {Φ : Nat → Value → World → Prop} {Ψ : Nat → Nat → Value → Value → Prop}
structure RInv (ops : Array Oper) (n : Nat) (a0 : Act) (R : World → Prop) (Φ : Nat → Value → World → Prop) (Ψ : Nat → Nat → Value → Value → Prop) (listed : Array Bool) (a : Act) (w : World) : Prop where
  head : HeadInv .any ops n listed
  world : R w
  size : a.tmps.size = a0.tmps.size
  defers : a.defers = a0.defers
  rest : ∀ k, (∀ i o, i < n → ops[i]? = some o → o.dst ≠ some k) → a.tmps.getD k undef = a0.tmps.getD k undef
  known : ∀ i o, i < n → ops[i]? = some o → listed.getD i false = true → Φ i (valOf o a) w
  pairs : ∀ i j oi oj, i < n → j < n → i ≠ j → ops[i]? = some oi → ops[j]? = some oj → listed.getD i false = true → listed.getD j false = true → Ψ i j (valOf oi a) (valOf oj a) ∧ Ψ j i (valOf oj a) (valOf oi a)
theorem put_same {a : Act} {d : Nat} {v : Value} (h : d < a.tmps.size) : (a.put (some d) v).tmps.getD d undef = v := by simp [Act.put, h]
theorem put_other {a : Act} {d k : Nat} {v : Value} (h : d ≠ k) : (a.put (some d) v).tmps.getD k undef = a.tmps.getD k undef := by simp [Act.put, Array.getElem?_setIfInBounds_ne h]
theorem RInv.put {listed : Array Bool} {a : Act} {w w' : World} {i : Nat} {o : Oper} {v : Value} (hd : dstsB ops n a0.tmps.size = true) (I : RInv ops n a0 R Φ Ψ listed a w) (hi : i ∈ Region.ready .any ops listed) (hin : i < n) (ho : ops[i]? = some o)
    (hR : R w') (hper : ∀ j u, Φ j u w → Φ j u w') (hv : Φ i v w') (hp : ∀ j u, j < n → j ≠ i → Φ j u w → Ψ i j v u ∧ Ψ j i u v) : RInv ops n a0 R Φ Ψ (listed.setIfInBounds i true) (a.put o.dst v) w' := by
  obtain ⟨d, hdo, hdm, hdu⟩ := dsts_spec hd hin ho
  have hds : d < a.tmps.size := by rw [I.size]; exact hdm
  have vi : valOf o (a.put o.dst v) = v := by unfold valOf; rw [hdo]; exact put_same hds
  have vj : ∀ j oj, j < n → j ≠ i → ops[j]? = some oj → valOf oj (a.put o.dst v) = valOf oj a := by
    intro j oj hj hji hoj
    obtain ⟨dj, hdj, -, -⟩ := dsts_spec hd hj hoj
    unfold valOf
    rw [hdj, hdo]
    exact put_other (fun e => hdu j oj hj hji hoj (by rw [hdj, e]))
  refine ⟨I.head.set hi hin, hR, ?_, ?_, ?_, ?_, ?_⟩
  · rw [hdo]; simp [Act.put]; exact I.size
  · rw [hdo]; exact I.defers
  · intro k hk
    rw [← I.rest k hk, hdo]
    exact put_other (fun e => hk i o hin ho (by rw [hdo, e]))
  · intro j oj hj hoj hl
    by_cases hji : j = i
    · subst hji
      have : oj = o := Option.some.inj (hoj.symm.trans ho)
      subst this
      rw [vi]; exact hv
    · rw [vj j oj hj hji hoj]
      rw [getD_set_ne false (Ne.symm hji)] at hl
      exact hper _ _ (I.known j oj hj hoj hl)
  · intro j k oj ok hj hk hjk hoj hok hlj hlk
    by_cases hji : j = i
    · subst hji
      have : oj = o := Option.some.inj (hoj.symm.trans ho)
      subst this
      rw [vi, vj k ok hk (Ne.symm hjk) hok]
      rw [getD_set_ne false hjk] at hlk
      exact hp k _ hk (Ne.symm hjk) (I.known k ok hk hok hlk)
    · rw [getD_set_ne false (Ne.symm hji)] at hlj
      by_cases hki : k = i
      · subst hki
        have : ok = o := Option.some.inj (hok.symm.trans ho)
        subst this
        rw [vi, vj j oj hj hji hoj]
        exact (hp j _ hj hji (I.known j oj hj hoj hlj)).symm
      · rw [getD_set_ne false (Ne.symm hki)] at hlk
        rw [vj j oj hj hji hoj, vj k ok hk hki hok]
        exact I.pairs j k oj ok hj hk hjk hoj hok hlj hlk
/-- What an operation waits for is known. -/
theorem RInv.dep {listed : Array Bool} {a : Act} {w : World} {i : Nat} (I : RInv ops n a0 R Φ Ψ listed a w) (hi : i ∈ Region.ready .any ops listed) (j : Nat) (oj : Oper) (hj : j < n) (hoj : ops[j]? = some oj) (hw : Region.waitsFor .any ops i j = true) : Φ j (valOf oj a) w := by
  obtain ⟨o, ho, e, he, hb, hon⟩ := Region.waitsFor_spec hw
  obtain ⟨-, o', ho', hall⟩ := mem_ready.1 hi
  have : o = o' := Option.some.inj (ho.symm.trans ho')
  subst this
  have := hall e he hb
  rw [hon] at this
  exact I.known j oj hj hoj this
theorem RInv.dep2 {listed : Array Bool} {a : Act} {w : World} {i : Nat} (I : RInv ops n a0 R Φ Ψ listed a w) (hi : i ∈ Region.ready .any ops listed) (j k : Nat) (oj ok : Oper) (hj : j < n) (hk : k < n) (hjk : j ≠ k) (hoj : ops[j]? = some oj) (hok : ops[k]? = some ok)
    (hw : Region.waitsFor .any ops i j = true) (hw2 : Region.waitsFor .any ops i k = true) : Ψ j k (valOf oj a) (valOf ok a) ∧ Ψ k j (valOf ok a) (valOf oj a) := by
  obtain ⟨-, o', ho', hall⟩ := mem_ready.1 hi
  obtain ⟨o, ho, e, he, hb, hon⟩ := Region.waitsFor_spec hw
  obtain ⟨o2, ho2, e2, he2, hb2, hon2⟩ := Region.waitsFor_spec hw2
  have h1 : o = o' := Option.some.inj (ho.symm.trans ho')
  have h2 : o2 = o' := Option.some.inj (ho2.symm.trans ho')
  subst h1
  subst h2
  have t1 := hall e he hb
  have t2 := hall e2 he2 hb2
  rw [hon] at t1
  rw [hon2] at t2
  exact I.pairs j k oj ok hj hk hjk hoj hok t1 t2
/-- No operation of the head lays into slot k. -/
def slotB (ops : Array Oper) (n k : Nat) : Bool := (List.range n).all fun i => match ops[i]? with
  | none => true
  | some o => decide (o.dst ≠ some k)
theorem RInv.slot {listed : Array Bool} {a : Act} {w : World} (I : RInv ops n a0 R Φ Ψ listed a w) (k : Nat) (h : slotB ops n k = true) : a.tmps.getD k undef = a0.tmps.getD k undef :=
  I.rest k fun i o hi ho => by
    have h1 := List.all_eq_true.1 h i (List.mem_range.2 hi)
    simp only [ho, decide_eq_true_eq] at h1
    exact h1
def Want (P : Program) (ops : Array Oper) (o : Oper) (a : Act) (w : World) (K : Act → World → Prop) (Q : Exit → Act → World → Prop) : Prop :=
  if Region.wanted o (yielded ops a.tmps) then o.wp P a w K Q else K (a.put o.dst undef) w
theorem want_none {o : Oper} {a : Act} {w : World} {K : Act → World → Prop} (hg : o.guard = none) (h : o.wp P a w K Q) : Want P ops o a w K Q := by
  unfold Want Region.wanted
  rw [hg]
  exact h
theorem yielded_of {a : Act} {j d : Nat} {b : Bool} {oj : Oper} (ho : ops[j]? = some oj) (hd : oj.dst = some d) (h : a.tmps.getD d undef = .bool b) : yielded ops a.tmps j = some b := by
  unfold yielded
  rw [ho]
  simp only [Option.bind_some, hd]
  rw [Array.getD_eq_getD_getElem?] at h
  cases hs : a.tmps[d]? with
  | none => rw [hs] at h; cases h
  | some v => rw [hs] at h; simp only [Option.getD_some] at h; subst h; rfl
theorem want_yes {o oj : Oper} {a : Act} {w : World} {K : Act → World → Prop} {j d : Nat} {b : Bool} (hg : o.guard = some (j, b)) (ho : ops[j]? = some oj) (hd : oj.dst = some d) (hv : a.tmps.getD d undef = .bool b) (h : o.wp P a w K Q) : Want P ops o a w K Q := by
  unfold Want Region.wanted
  rw [hg]
  simp only [yielded_of ho hd hv, beq_self_eq_true, if_true]
  exact h
theorem want_no {o oj : Oper} {a : Act} {w : World} {K : Act → World → Prop} {j d : Nat} {b : Bool} (hg : o.guard = some (j, b)) (ho : ops[j]? = some oj) (hd : oj.dst = some d) (hv : a.tmps.getD d undef = .bool (!b)) (h : K (a.put o.dst undef) w) : Want P ops o a w K Q := by
  unfold Want Region.wanted
  rw [hg]
  simp only [yielded_of ho hd hv]
  cases b
  · exact h
  · exact h
def Each (C : Nat → Oper → Prop) : Nat → List Oper → Prop
  | _, [] => True
  | i, o :: l => C i o ∧ Each C (i + 1) l
theorem each_at {C : Nat → Oper → Prop} : ∀ {l : List Oper} {k : Nat}, Each C k l → ∀ i o, l[i]? = some o → C (k + i) o
  | [], _, _, i, o, h => by simp at h
  | x :: l, k, ⟨h1, h2⟩, 0, o, h => by simp at h; subst h; exact h1
  | x :: l, k, ⟨h1, h2⟩, i + 1, o, h => by
    have := each_at h2 i o (by simpa using h)
    rw [show k + (i + 1) = k + 1 + i by omega]
    exact this
theorem any_rel (hB : relB ops n a0.tmps.size = true) (hper : ∀ j u w w', Φ j u w → le w w' → Φ j u w')
    (hop : ∀ i o listed a w, i < n → ops[i]? = some o → RInv ops n a0 R Φ Ψ listed a w → i ∈ Region.ready .any ops listed →
      ∀ K : Act → World → Prop, (∀ v w', R w' → le w w' → Φ i v w' → (∀ j u, j < n → j ≠ i → Φ j u w → Ψ i j v u ∧ Ψ j i u v) → K (a.put o.dst v) w') → wpOp P ops Q i K a w)
    {l : List Oper} (hl : ∀ j, l[j]? = ops[n + j]?) (hll : l.length = ops.size - n)
    (hend : ∀ a w, RInv ops n a0 R Φ Ψ (fullL n (ops.size - n)) a w → wpList P ops Q l a w) :
    ∀ (f : Nat) (listed : Array Bool) (a : Act) (w : World), unl listed n = f → RInv ops n a0 R Φ Ψ listed a w → wpAny P .any ops Q (f + (ops.size - n)) listed a w := by
  simp only [relB, Bool.and_eq_true, decide_eq_true_eq, Bool.or_eq_true] at hB
  obtain ⟨⟨⟨⟨hd, hf⟩, hn⟩, ht⟩, hseq⟩ := hB
  intro f
  induction f with
  | zero =>
    intro listed a w hu I
    have hfull : listed = fullL n (ops.size - n) := by
      apply Array.ext_getElem?
      intro j
      have hs := I.head.size
      have e0 : (fullL n (ops.size - n))[j]? = if j < n then some true else if j < ops.size then some false else none := by
        unfold fullL
        rw [List.getElem?_toArray, List.getElem?_append]
        simp only [List.length_replicate, List.getElem?_replicate]
        split
        · rfl
        · split
          · rw [if_pos (by omega)]
          · rw [if_neg (by omega)]
      rw [e0]
      rcases Nat.lt_or_ge j n with h1 | h1
      · rw [if_pos h1]
        have h2 := unl_zero hu j h1
        have hj : j < listed.size := by omega
        simp only [Array.getD_eq_getD_getElem?, Array.getElem?_eq_getElem hj, Option.getD_some] at h2
        rw [Array.getElem?_eq_getElem hj, h2]
      · rw [if_neg (by omega)]
        rcases Nat.lt_or_ge j ops.size with h3 | h3
        · rw [if_pos h3]
          have h2 := I.head.tail j h1 h3
          have hj : j < listed.size := by omega
          simp only [Array.getD_eq_getD_getElem?, Array.getElem?_eq_getElem hj, Option.getD_some] at h2
          rw [Array.getElem?_eq_getElem hj, h2]
        · rw [if_neg (by omega), Array.getElem?_eq_none (by omega)]
    rw [hfull] at I ⊢
    have := wpAny_of_seq (md := .any) (Q' := Q) l n (fullL n (ops.size - n)) a w hl (by rw [hll]; exact hseq) (hend a w I)
    rw [hll] at this
    rw [Nat.zero_add]
    exact this
  | succ f ih =>
    intro listed a w hu I
    obtain ⟨i0, hi0, hu0, hlow⟩ := unl_some (listed := listed) (n := n) (by omega)
    have hr0 : i0 ∈ Region.ready .any ops listed := by
      obtain ⟨o, ho, hafter⟩ := fwd_spec hf hi0
      exact mem_ready.2 ⟨hu0, o, ho, fun e he _ => getD_tf (by rw [I.head.size]; have := hafter e he; omega) (hlow _ (hafter e he))⟩
    have low : ∀ j ∈ Region.ready .any ops listed, j < n := fun j hj => by
      rcases Nat.lt_or_ge j n with h | h
      · exact h
      · exfalso
        obtain ⟨-, oj, hoj, -⟩ := mem_ready.1 hj
        have hjs : j < ops.size := (Array.getElem?_eq_some_iff.1 hoj).1
        rcases ht with ht | ht
        · omega
        · exact tail_waits ht.1 ht.2 (by omega) I.head _ i0 rfl hi0 hu0 j h hj
    rw [Nat.succ_add]
    refine ⟨fun h => (by rw [h] at hr0; cases hr0), fun i hi => ?_⟩
    have hin := low i hi
    obtain ⟨hui, o, ho, -⟩ := mem_ready.1 hi
    refine hop i o listed a w hin ho I hi _ fun v w' hR hle hv hp => ?_
    exact ih _ _ _ (by have := unl_set hui hin; omega) (I.put hd hi hin ho hR (fun j u h => hper j u w w' h hle) hv hp)
theorem unl_none {m : Nat} : ∀ {n : Nat}, n ≤ m → unl (Array.replicate m false) n = n
  | 0, _ => rfl
  | n + 1, h => by
    simp only [unl]
    rw [unl_none (by omega), if_pos (getD_in (by simp only [Array.size_replicate]; omega) (getD_replicate_false _ _))]
/-- The rule. -/
theorem region_rel {id : Nat} {w : World} {l : List Oper} (n : Nat) (le : World → World → Prop) (R : World → Prop) (Φ : Nat → Value → World → Prop) (Ψ : Nat → Nat → Value → Value → Prop) (hm : P.follows .mixedOrders = true) (hB : relB l.toArray n a0.tmps.size = true)
    (h0 : R w.drew) (hper : ∀ j u w w', Φ j u w → le w w' → Φ j u w')
    (hop : ∀ i o listed a w, i < n → l[i]? = some o → RInv l.toArray n a0 R Φ Ψ listed a w → i ∈ Region.ready .any l.toArray listed →
      ∀ K : Act → World → Prop, (∀ v w', R w' → le w w' → Φ i v w' → (∀ j u, j < n → j ≠ i → Φ j u w → Ψ i j v u ∧ Ψ j i u v) → K (a.put o.dst v) w') → if Region.wanted o (yielded l.toArray a.tmps) then o.wp P a w K Q else K (a.put o.dst undef) w)
    (hend : ∀ a w, RInv l.toArray n a0 R Φ Ψ (fullL n (l.toArray.size - n)) a w → wpList P l.toArray Q (l.drop n) a w) : (Code.region id l.toArray true).wp P Q a0 w := by
  refine wp_region_any hm ?_
  have hn : n ≤ l.toArray.size := by
    simp only [relB, Bool.and_eq_true, decide_eq_true_eq] at hB
    exact hB.1.1.2
  have inv0 : HeadInv .any l.toArray n (Array.replicate l.toArray.size false) :=
    ⟨by simp, fun j oj _ hl => (by rw [getD_replicate_false] at hl; cases hl), fun t _ ht => getD_in (by simpa using ht) (getD_replicate_false _ _)⟩
  have I0 : RInv l.toArray n a0 R Φ Ψ (Array.replicate l.toArray.size false) a0 w.drew :=
    ⟨inv0, h0, rfl, rfl, fun _ _ => rfl, fun j oj _ _ hl => (by rw [getD_replicate_false] at hl; cases hl), fun i j oi oj _ _ _ _ _ hl => (by rw [getD_replicate_false] at hl; cases hl)⟩
  have := any_rel (P := P) (Q := Q) (le := le) hB hper (fun i o listed a w hi ho I hr K hK => by
    have ho' : l[i]? = some o := by simpa using ho
    have := hop i o listed a w hi ho' I hr K hK
    unfold wpOp
    simp only [ho]
    split
    · rename_i h; rw [if_pos h] at this; exact .inl this
    · rename_i h; rw [if_neg h] at this; exact this) (l := l.drop n) (fun j => by simp [List.getElem?_drop]) (by simp) hend _ _ _ _ rfl I0
  rw [unl_none hn, show n + (l.toArray.size - n) = l.toArray.size by omega] at this
  exact this
/-- The rule, operation by operation. -/
theorem region_each {id : Nat} {w : World} {l : List Oper} (n : Nat) (le : World → World → Prop) (R : World → Prop) (Φ : Nat → Value → World → Prop) (Ψ : Nat → Nat → Value → Value → Prop) (hm : P.follows .mixedOrders = true) (hB : relB l.toArray n a0.tmps.size = true)
    (h0 : R w.drew) (hper : ∀ j u w w', Φ j u w → le w w' → Φ j u w')
    (hop : Each (fun i o => ∀ listed a w, RInv l.toArray n a0 R Φ Ψ listed a w → i ∈ Region.ready .any l.toArray listed →
      ∀ K : Act → World → Prop, (∀ v w', R w' → le w w' → Φ i v w' → (∀ j u, j < n → j ≠ i → Φ j u w → Ψ i j v u ∧ Ψ j i u v) → K (a.put o.dst v) w') → Want P l.toArray o a w K Q) 0 (l.take n))
    (hend : ∀ a w, RInv l.toArray n a0 R Φ Ψ (fullL n (l.toArray.size - n)) a w → wpList P l.toArray Q (l.drop n) a w) : (Code.region id l.toArray true).wp P Q a0 w :=
  region_rel n le R Φ Ψ hm hB h0 hper (fun i o listed a w hi ho I hr K hK => by
    have h := each_at hop i o (by rw [List.getElem?_take, if_pos hi]; exact ho)
    rw [Nat.zero_add] at h
    exact h listed a w I hr K hK) hend
/-- .. of a region with no tail. -/
theorem region_all {id : Nat} {w : World} {l : List Oper} (n : Nat) (hn : l.length = n) (le : World → World → Prop) (R : World → Prop) (Φ : Nat → Value → World → Prop) (Ψ : Nat → Nat → Value → Value → Prop) (hm : P.follows .mixedOrders = true) (hB : relB l.toArray n a0.tmps.size = true)
    (h0 : R w.drew) (hper : ∀ j u w w', Φ j u w → le w w' → Φ j u w')
    (hop : Each (fun i o => ∀ listed a w, RInv l.toArray n a0 R Φ Ψ listed a w → i ∈ Region.ready .any l.toArray listed →
      ∀ K : Act → World → Prop, (∀ v w', R w' → le w w' → Φ i v w' → (∀ j u, j < n → j ≠ i → Φ j u w → Ψ i j v u ∧ Ψ j i u v) → K (a.put o.dst v) w') → Want P l.toArray o a w K Q) 0 l)
    (hend : ∀ a w, RInv l.toArray n a0 R Φ Ψ (fullL n (l.toArray.size - n)) a w → Q .normal a w) : (Code.region id l.toArray true).wp P Q a0 w :=
  region_each n le R Φ Ψ hm hB h0 hper (by rw [List.take_of_length_le (by omega)]; exact hop) (fun a w I => by rw [List.drop_eq_nil_of_le (by omega)]; exact hend a w I)
theorem act_map {a : Act} {m : Nat} (h : a.tmps.size = m) : a.tmps = ((List.range m).map fun k => a.tmps.getD k undef).toArray := by
  apply Array.ext
  · simp [h]
  · intro i h1 h2
    simp [h1]
/-- The slots, one by one. -/
theorem RInv.act {listed : Array Bool} {a : Act} {w : World} (I : RInv ops n a0 R Φ Ψ listed a w) : ∃ f : Nat → Value, (∀ k, a.tmps.getD k undef = f k) ∧ a = ⟨((List.range a0.tmps.size).map f).toArray, a0.defers⟩ := by
  refine ⟨fun k => a.tmps.getD k undef, fun _ => rfl, ?_⟩
  have h := act_map I.size
  have hd := I.defers
  cases a
  simp only at h hd
  rw [hd, ← h]
theorem arr_ext {x y : Array Value} (h : x.size = y.size) (hg : ∀ k, k < x.size → x.getD k undef = y.getD k undef) : x = y := by
  apply Array.ext h
  intro k h1 h2
  have := hg k h1
  rw [Array.getD_eq_getD_getElem?, Array.getD_eq_getD_getElem?, Array.getElem?_eq_getElem h1, Array.getElem?_eq_getElem h2] at this
  exact this
def puts (f : Nat → Value) (ds : List Nat) (a : Act) : Act := ds.foldl (fun b d => b.put (some d) (f d)) a
theorem puts_size (f : Nat → Value) : ∀ (ds : List Nat) (a : Act), (puts f ds a).tmps.size = a.tmps.size ∧ (puts f ds a).defers = a.defers
  | [], a => ⟨rfl, rfl⟩
  | d :: ds, a => by
    have := puts_size f ds (a.put (some d) (f d))
    unfold puts at *
    rw [List.foldl_cons]
    rw [this.1, this.2]
    exact ⟨by simp [Act.put], rfl⟩
theorem puts_get (f : Nat → Value) : ∀ (ds : List Nat) (a : Act) (k : Nat), (puts f ds a).tmps.getD k undef = if k ∈ ds ∧ k < a.tmps.size then f k else a.tmps.getD k undef
  | [], a, k => by simp [puts]
  | d :: ds, a, k => by
    have ih := puts_get f ds (a.put (some d) (f d)) k
    unfold puts at *
    rw [List.foldl_cons, ih]
    have hs : (a.put (some d) (f d)).tmps.size = a.tmps.size := by simp [Act.put]
    rw [hs]
    by_cases hk : k ∈ ds ∧ k < a.tmps.size
    · rw [if_pos hk, if_pos ⟨List.mem_cons_of_mem _ hk.1, hk.2⟩]
    · rw [if_neg hk]
      by_cases hd : k = d
      · subst hd
        by_cases hlt : k < a.tmps.size
        · rw [put_same hlt, if_pos ⟨List.mem_cons_self .., hlt⟩]
        · rw [if_neg (fun h => hlt h.2)]
          have h1 : (a.put (some k) (f k)).tmps = a.tmps := by simp [Act.put, Array.setIfInBounds, hlt]
          rw [h1]
      · rw [put_other (Ne.symm hd), if_neg (fun h => by
          rcases List.mem_cons.1 h.1 with e | e
          · exact hd e
          · exact hk ⟨e, h.2⟩)]
/-- The slots behind the region: those ahead of it, and what its operations have laid. -/
theorem RInv.acts {listed : Array Bool} {a : Act} {w : World} (I : RInv ops n a0 R Φ Ψ listed a w) (ds : List Nat) (hds : ((List.range n).all fun i => match ops[i]? with
    | none => true
    | some o => match o.dst with
      | none => true
      | some d => ds.contains d) = true) : ∃ f : Nat → Value, (∀ d, a.tmps.getD d undef = f d) ∧ a = puts f ds a0 := by
  refine ⟨fun d => a.tmps.getD d undef, fun _ => rfl, ?_⟩
  obtain ⟨hs, hd⟩ := puts_size (fun d => a.tmps.getD d undef) ds a0
  have hg := puts_get (fun d => a.tmps.getD d undef) ds a0
  have ht : a.tmps = (puts (fun d => a.tmps.getD d undef) ds a0).tmps := by
    refine arr_ext (by rw [hs, I.size]) fun k h1 => ?_
    rw [hg k]
    by_cases hne : k ∈ ds ∧ k < a0.tmps.size
    · rw [if_pos hne]
    · rw [if_neg hne]
      refine I.rest k fun i o hi ho hdo => ?_
      have h3 := List.all_eq_true.1 hds i (List.mem_range.2 hi)
      simp only [ho, hdo] at h3
      exact hne ⟨by simpa using h3, by rw [← I.size]; exact h1⟩
  have hdf := I.defers
  rw [← hd] at hdf
  revert ht hdf
  generalize puts (fun d => a.tmps.getD d undef) ds a0 = b
  intro ht hdf
  cases a
  cases b
  simp only at ht hdf
  rw [ht, hdf]
theorem puts_list (f : Nat → Value) : ∀ (ds : List Nat) (l : List Value) (fs : List Deferred), puts f ds ⟨l.toArray, fs⟩ = ⟨(ds.foldl (fun l d => l.set d (f d)) l).toArray, fs⟩
  | [], l, fs => rfl
  | d :: ds, l, fs => by
    have := puts_list f ds (l.set d (f d)) fs
    unfold puts at *
    rw [List.foldl_cons, List.foldl_cons, ← this]
    congr 1
    simp [Act.put]
/-- .. as a list. -/
theorem RInv.acts3 {listed : Array Bool} {a : Act} {w : World} {l0 : List Value} {fs : List Deferred} (I : RInv ops n ⟨l0.toArray, fs⟩ R Φ Ψ listed a w) (ds : List Nat) (hds : ((List.range n).all fun i => match ops[i]? with
    | none => true
    | some o => match o.dst with
      | none => true
      | some d => ds.contains d) = true) : ∃ f : Nat → Value, (∀ d, a.tmps.getD d undef = f d) ∧ a = ⟨(ds.foldl (fun l d => l.set d (f d)) l0).toArray, fs⟩ := by
  obtain ⟨f, hf, ha⟩ := I.acts ds hds
  exact ⟨f, hf, by rw [ha, puts_list]⟩
/-- At the end all is known. -/
theorem RInv.done {k : Nat} {a : Act} {w : World} (I : RInv ops n a0 R Φ Ψ (fullL n k) a w) (j : Nat) (oj : Oper) (hj : j < n) (hoj : ops[j]? = some oj) : Φ j (valOf oj a) w :=
  I.known j oj hj hoj (by unfold fullL; rw [Array.getD_eq_getD_getElem?, List.getElem?_toArray, List.getElem?_append_left (by simpa using hj)]; simp [hj])
end
end Go.Proofs.Ytdmclekohalolaa.Rel
