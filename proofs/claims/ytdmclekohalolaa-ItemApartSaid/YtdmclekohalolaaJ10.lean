/-
  Contracts and lemmas, joined: ItemCopy, ClassFillPlain, ClassTook, ItemBackSt, ItemBackLook.
-/
import Derived.Lib.QuietBelow
import Derived.Test.YtdmclekohalolaaJ5
import Derived.Test.YtdmclekohalolaaJ8
import Derived.Test.YtdmclekohalolaaJ9
set_option linter.unusedSimpArgs false
set_option linter.unusedVariables false
/-
  item.Copy (printed by wip/gen_copy.py).
-/
namespace Go.Proofs.Ytdmclekohalolaa.Itm
open Go.RowKit Base Arena Cls Rel
set_option linter.unusedVariables false

/-- Within Copy: the two chunks' numbers. -/
structure CS (w0 w : World) (L : Lay) (c : Conf) (s : St) (bs : List UInt8) (N1 N2 p1 k1 n1 p2 k2 n2 : Nat) : Prop where
  os : OS w0.heap.size w0 w L c s bs N2 p2 k2 n2
  x : Blk w N1 117 (kv L.ga p1 k1 n1)
theorem CS.step {w0 w w' : World} {L : Lay} {c : Conf} {s : St} {bs : List UInt8} {N1 N2 p1 k1 n1 p2 k2 n2 : Nat} (S : CS w0 w L c s bs N1 N2 p1 k1 n1 p2 k2 n2) (b : Below w.heap.size w w') : CS w0 w' L c s bs N1 N2 p1 k1 n1 p2 k2 n2 := ⟨S.os.step b, S.x.below b S.x.lt⟩
theorem CS.drew {w0 w : World} {L : Lay} {c : Conf} {s : St} {bs : List UInt8} {N1 N2 p1 k1 n1 p2 k2 n2 : Nat} (S : CS w0 w L c s bs N1 N2 p1 k1 n1 p2 k2 n2) : CS w0 w.drew L c s bs N1 N2 p1 k1 n1 p2 k2 n2 := ⟨S.os.drewN 1, S.x.drew⟩
theorem CS.cells {w0 w : World} {L : Lay} {c : Conf} {s : St} {bs : List UInt8} {N1 N2 p1 k1 n1 p2 k2 n2 : Nat} (S : CS w0 w L c s bs N1 N2 p1 k1 n1 p2 k2 n2) : w.cell? ⟨N1, 3, none⟩ = some (.int .i64 (n1 : Int)) ∧ w.cell? ⟨N2, 0, none⟩ = some (.pointer (some ⟨L.ga, 0, none⟩)) ∧ w.cell? ⟨N2, 1, none⟩ = some (.int .i64 (p2 : Int)) ∧ w.cell? ⟨N2, 2, none⟩ = some (.int .i64 (k2 : Int)) ∧ w.cell? ⟨N2, 3, none⟩ = some (.int .i64 (n2 : Int)) :=
  ⟨S.x.cell 3, S.os.cells⟩
section
variable (w : World) (L : Lay) (c : Conf) (s : St) (bs : List UInt8) (h : SetAt w L c s bs) (g : Cls.Good c.cf s)
include h g
set_option maxRecDepth 100000 in
theorem copyNo (T F : Nat) (hT : T < 18446744073709551616) (hf : findN c.cf s T = none) : Calls Try.prog 31 #[.pointer (some ⟨L.g, 0, none⟩), .int .u64 (T : Int), .int .u64 (F : Int)] w fun e w' => e = .returned (.int .i64 20) ∧ Below w.heap.size w w' := by
  have OC := openNo w L c s bs h g T hT hf
  rw [zc_eq] at OC
  replace OC := Lib.hid OC
  clear h g hf
  go_enter Try.func31, Try.ntmps31
  go_wp2_with fail
  refine OC.out.mono ?_
  rintro e w2 ⟨rfl, b2⟩
  replace b2 := Lib.hid b2
  go_wp2
  go_ret
  exact ⟨rfl, b2.out.alloc b2.out.size _⟩
set_option maxRecDepth 100000 in
theorem copyFromNo {T F i1 x1 p1 k1 n1 : Nat} (K1 : Chk c s bs.length T i1 x1 p1 k1 n1) (hF : F < 18446744073709551616) (hf : findN c.cf s F = none) : Calls Try.prog 31 #[.pointer (some ⟨L.g, 0, none⟩), .int .u64 (T : Int), .int .u64 (F : Int)] w fun e w' => e = .returned (.int .i64 20) ∧ Below w.heap.size w w' := by
  have OC := openK w L c s bs h g K1
  rw [kv_eq] at OC
  have OD := fun w (h : SetAt w L c s bs) => openNo w L c s bs h g F hF hf
  rw [zc_eq] at OD
  replace OC := Lib.hid OC
  replace OD := Lib.hid OD
  replace h := Lib.hid h
  clear g hf K1
  go_enter Try.func31, Try.ntmps31
  go_wp2_with fail
  refine OC.out.mono ?_
  rintro e w2 ⟨rfl, b2⟩
  obtain ⟨w3, hw3⟩ : ∃ w3, w3 = w2.alloc (.cells #[.pointer (some ⟨L.ga, 0, none⟩), .int .i64 (p1 : Int), .int .i64 (k1 : Int), .int .i64 (n1 : Int)] 117) := ⟨_, rfl⟩
  have b3 : Below w.heap.size w w3 := by rw [hw3]; exact b2.alloc b2.size _
  have OE := Lib.hid (OD.out w3 (h.out.kept fun d hd => b3.block d (h.out.lt hd)))
  replace b3 := Lib.hid b3
  replace hw3 := Lib.hid hw3
  clear b2 OD OC h
  go_upto_region 2 with fail
  rw [← hw3.out]
  go_wp2_with fail
  refine OE.out.mono ?_
  rintro e w4 ⟨rfl, b4⟩
  have b5 := Lib.hid (b3.out.trans (b4.mono b3.out.size))
  clear b4 OE b3 hw3
  go_wp2
  go_ret
  exact ⟨rfl, b5.out.alloc b5.out.size _⟩
end
set_option maxRecDepth 100000 in
theorem copyKey (w : World) (L : Lay) (c : Conf) (s : St) (bs : List UInt8) (h : SetAt w L c s bs) (g : Cls.Good c.cf s) {T F i1 x1 p1 k1 n1 i2 x2 p2 k2 n2 : Nat} (K1 : Chk c s bs.length T i1 x1 p1 k1 n1) (K2 : Chk c s bs.length F i2 x2 p2 k2 n2) (h44 : rd bs (p2 + 44) 1 = 0) : Calls Try.prog 31 #[.pointer (some ⟨L.g, 0, none⟩), .int .u64 (T : Int), .int .u64 (F : Int)] w fun e w' => e = .returned (.int .i64 20) ∧ Below w.heap.size w w' := by
  obtain ⟨V, hV⟩ : ∃ V, V = rd bs (p2 + 44) 1 := ⟨_, rfl⟩
  have d1 : decide ((V : Int) = 0) = true := decide_eq_true (by omega)
  have d2 : ((V : Int) == 0) = true := by rw [beq_iff_eq]; omega
  have OC := openK w L c s bs h g K1
  have OD := fun w (h : SetAt w L c s bs) => openK w L c s bs h g K2
  rw [kv_eq] at OC
  simp only [kv_eq] at OD
  replace OC := Lib.hid OC
  replace OD := Lib.hid OD
  replace hV := Lib.hid hV
  replace h := Lib.hid h
  replace K1 := Lib.hid K1
  replace K2 := Lib.hid K2
  clear g h44
  go_enter Try.func31, Try.ntmps31
  go_wp2_with fail
  refine OC.out.mono ?_
  rintro e w2 ⟨rfl, b2⟩
  obtain ⟨w3, hw3⟩ : ∃ w3, w3 = w2.alloc (.cells #[.pointer (some ⟨L.ga, 0, none⟩), .int .i64 (p1 : Int), .int .i64 (k1 : Int), .int .i64 (n1 : Int)] 117) := ⟨_, rfl⟩
  have b3 : Below w.heap.size w w3 := by rw [hw3]; exact b2.alloc b2.size _
  have X3 : Blk w3 w2.heap.size 117 (kv L.ga p1 k1 n1) := by rw [hw3, ← kv_eq]; exact Blk.new w2 _ _
  have h3 := h.out.kept fun d hd => b3.block d (h.out.lt hd)
  have OE := Lib.hid (OD.out w3 h3)
  replace b3 := Lib.hid b3
  replace hw3 := Lib.hid hw3
  replace h3 := Lib.hid h3
  clear b2 OD OC h
  generalize hN1 : w2.heap.size = N1 at *
  replace hN1 := Lib.hid hN1
  go_upto_region 2 with fail
  rw [hN1.out, ← hw3.out]
  clear hw3 hN1
  go_wp2_with fail
  refine OE.out.mono ?_
  rintro e w4 ⟨rfl, b4⟩
  obtain ⟨w5, hw5⟩ : ∃ w5, w5 = w4.alloc (.cells #[.pointer (some ⟨L.ga, 0, none⟩), .int .i64 (p2 : Int), .int .i64 (k2 : Int), .int .i64 (n2 : Int)] 117) := ⟨_, rfl⟩
  have S : CS w w5 L c s bs N1 w4.heap.size p1 k1 n1 p2 k2 n2 := by
    rw [hw5]; exact ⟨OS.op p2 k2 n2 h3.out b4 (b3.out.trans (b4.mono b3.out.size)) (Nat.le_trans b3.out.size b4.size), (X3.below b4 X3.lt).alloc _⟩
  obtain ⟨z3, y0, y1, y2, y3⟩ := S.cells
  have KC := Lib.hid (S.os.key K2.out hV.out)
  replace S := Lib.hid S
  replace hw5 := Lib.hid hw5
  clear b3 h3 b4 OE X3
  generalize hN2 : w4.heap.size = N2 at *
  replace hN2 := Lib.hid hN2
  go_upto_region 5 with fail
  rw [hN2.out, ← hw5.out]
  clear hw5 hN2
  go_wp2_with fail
  refine KC.out.mono ?_
  rintro e w6 ⟨rfl, b6⟩
  replace S := S.out.step b6
  obtain ⟨z3, y0, y1, y2, y3⟩ := S.cells
  replace S := Lib.hid S
  clear KC b6
  go_wp2
  go_ret
  exact ⟨rfl, S.out.os.below⟩
set_option maxRecDepth 100000 in
theorem copyTwice (w : World) (L : Lay) (c : Conf) (s : St) (bs : List UInt8) (h : SetAt w L c s bs) (g : Cls.Good c.cf s) {T F i1 x1 p1 k1 n1 i2 x2 p2 k2 n2 : Nat} (K1 : Chk c s bs.length T i1 x1 p1 k1 n1) (K2 : Chk c s bs.length F i2 x2 p2 k2 n2) (h44 : rd bs (p2 + 44) 1 ≠ 0) (hTF : T = F) : Calls Try.prog 31 #[.pointer (some ⟨L.g, 0, none⟩), .int .u64 (T : Int), .int .u64 (F : Int)] w fun e w' => e = .returned (.int .i64 8) ∧ Below w.heap.size w w' := by
  obtain ⟨V, hV⟩ : ∃ V, V = rd bs (p2 + 44) 1 := ⟨_, rfl⟩
  have d1 : decide ((V : Int) = 0) = false := decide_eq_false (by omega)
  have d2 : ((V : Int) == 0) = false := by rw [beq_eq_false_iff_ne]; omega
  subst hTF
  have OC := openK w L c s bs h g K1
  have OD := fun w (h : SetAt w L c s bs) => openK w L c s bs h g K2
  rw [kv_eq] at OC
  simp only [kv_eq] at OD
  replace OC := Lib.hid OC
  replace OD := Lib.hid OD
  replace hV := Lib.hid hV
  replace h := Lib.hid h
  replace K1 := Lib.hid K1
  replace K2 := Lib.hid K2
  clear g h44
  go_enter Try.func31, Try.ntmps31
  go_wp2_with fail
  refine OC.out.mono ?_
  rintro e w2 ⟨rfl, b2⟩
  obtain ⟨w3, hw3⟩ : ∃ w3, w3 = w2.alloc (.cells #[.pointer (some ⟨L.ga, 0, none⟩), .int .i64 (p1 : Int), .int .i64 (k1 : Int), .int .i64 (n1 : Int)] 117) := ⟨_, rfl⟩
  have b3 : Below w.heap.size w w3 := by rw [hw3]; exact b2.alloc b2.size _
  have X3 : Blk w3 w2.heap.size 117 (kv L.ga p1 k1 n1) := by rw [hw3, ← kv_eq]; exact Blk.new w2 _ _
  have h3 := h.out.kept fun d hd => b3.block d (h.out.lt hd)
  have OE := Lib.hid (OD.out w3 h3)
  replace b3 := Lib.hid b3
  replace hw3 := Lib.hid hw3
  replace h3 := Lib.hid h3
  clear b2 OD OC h
  generalize hN1 : w2.heap.size = N1 at *
  replace hN1 := Lib.hid hN1
  go_upto_region 2 with fail
  rw [hN1.out, ← hw3.out]
  clear hw3 hN1
  go_wp2_with fail
  refine OE.out.mono ?_
  rintro e w4 ⟨rfl, b4⟩
  obtain ⟨w5, hw5⟩ : ∃ w5, w5 = w4.alloc (.cells #[.pointer (some ⟨L.ga, 0, none⟩), .int .i64 (p2 : Int), .int .i64 (k2 : Int), .int .i64 (n2 : Int)] 117) := ⟨_, rfl⟩
  have S : CS w w5 L c s bs N1 w4.heap.size p1 k1 n1 p2 k2 n2 := by
    rw [hw5]; exact ⟨OS.op p2 k2 n2 h3.out b4 (b3.out.trans (b4.mono b3.out.size)) (Nat.le_trans b3.out.size b4.size), (X3.below b4 X3.lt).alloc _⟩
  obtain ⟨z3, y0, y1, y2, y3⟩ := S.cells
  have KC := Lib.hid (S.os.key K2.out hV.out)
  replace S := Lib.hid S
  replace hw5 := Lib.hid hw5
  clear b3 h3 b4 OE X3
  generalize hN2 : w4.heap.size = N2 at *
  replace hN2 := Lib.hid hN2
  go_upto_region 5 with fail
  rw [hN2.out, ← hw5.out]
  clear hw5 hN2
  go_wp2_with fail
  refine KC.out.mono ?_
  rintro e w6 ⟨rfl, b6⟩
  replace S := S.out.step b6
  obtain ⟨z3, y0, y1, y2, y3⟩ := S.cells
  replace S := Lib.hid S
  clear KC b6
  go_wp2
  go_ret
  exact ⟨rfl, S.out.os.below⟩
def copyLongF (N1 V U V58 VU : Nat) (L : Lay) (n1 p2 k2 n2 : Nat) : Nat → Value → World → Prop
  | 0, v, w => v = .agg #[.pointer (some ⟨L.ga, 0, none⟩), .int .i64 (p2 : Int), .int .i64 (k2 : Int), .int .i64 (n2 : Int)]
  | 1, v, w => v = .int .i64 (V : Int)
  | 2, v, w => v = .int .i64 (V58 : Int)
  | 3, v, w => v = .agg #[.pointer (some ⟨L.ga, 0, none⟩), .int .i64 (p2 : Int), .int .i64 (k2 : Int), .int .i64 (n2 : Int)]
  | 4, v, w => v = .int .i64 (U : Int)
  | 5, v, w => v = .int .i64 (VU : Int)
  | 6, v, w => v = .pointer (some ⟨N1, 3, none⟩)
  | 7, v, w => v = .int .i64 (n1 : Int)
  | 8, v, w => v = .bool true
  | 9, v, w => v = .bool true
  | _, _, _ => True
theorem copyLongF_go {N1 V U V58 VU : Nat} {L : Lay} {n1 p2 k2 n2 : Nat} : ∀ j u w w', copyLongF N1 V U V58 VU L n1 p2 k2 n2 j u w → Below w.heap.size w w' → copyLongF N1 V U V58 VU L n1 p2 k2 n2 j u w' := by
  intro j u w w' h b
  match j, h with
  | 0, h => exact h
  | 1, h => exact h
  | 2, h => exact h
  | 3, h => exact h
  | 4, h => exact h
  | 5, h => exact h
  | 6, h => exact h
  | 7, h => exact h
  | 8, h => exact h
  | 9, h => exact h
  | j + 10, _ => exact trivial
set_option maxRecDepth 100000 in
set_option maxHeartbeats 2000000 in
theorem copyLong (w : World) (L : Lay) (c : Conf) (s : St) (bs : List UInt8) (h : SetAt w L c s bs) (g : Cls.Good c.cf s) {T F i1 x1 p1 k1 n1 i2 x2 p2 k2 n2 : Nat} (K1 : Chk c s bs.length T i1 x1 p1 k1 n1) (K2 : Chk c s bs.length F i2 x2 p2 k2 n2) (h44 : rd bs (p2 + 44) 1 ≠ 0) (hTF : T ≠ F) (hn : n1 < 58 + rd bs (p2 + 44) 1 + rd bs (p2 + 48) 4) : Calls Try.prog 31 #[.pointer (some ⟨L.g, 0, none⟩), .int .u64 (T : Int), .int .u64 (F : Int)] w fun e w' => e = .returned (.int .i64 6) ∧ Below w.heap.size w w' := by
  obtain ⟨V, hV⟩ : ∃ V, V = rd bs (p2 + 44) 1 := ⟨_, rfl⟩
  obtain ⟨U, hU⟩ : ∃ U, U = rd bs (p2 + 48) 4 := ⟨_, rfl⟩
  have hvb := rd_lt bs (p2 + 44) 1
  have hub := rd_lt bs (p2 + 48) 4
  rw [← hV] at hvb hn
  rw [← hU] at hub hn
  obtain ⟨V58, hV58⟩ : ∃ V58, V58 = 58 + V := ⟨_, rfl⟩
  obtain ⟨VU, hVU⟩ : ∃ VU, VU = V58 + U := ⟨_, rfl⟩
  have q1 : IntKind.i64.wrap (58 + (V : Int)) = (V58 : Int) := by rw [IntWalk.i64_in _ (by omega)]; omega
  have q2 : IntKind.i64.wrap ((V58 : Int) + (U : Int)) = (VU : Int) := by rw [IntWalk.i64_in _ (by omega)]; omega
  have d0 : decide ((n1 : Int) < (VU : Int)) = true := decide_eq_true (by omega)
  have d00 : decide (n1 < VU) = true := decide_eq_true (by omega)
  have d1 : decide ((V : Int) = 0) = false := decide_eq_false (by omega)
  have d2 : ((V : Int) == 0) = false := by rw [beq_eq_false_iff_ne]; omega
  have d3 : decide ((T : Int) = (F : Int)) = false := decide_eq_false (by omega)
  have d4 : ((T : Int) == (F : Int)) = false := by rw [beq_eq_false_iff_ne]; omega
  have d5 : decide (T = F) = false := decide_eq_false hTF
  replace hU := Lib.hid hU
  clear hvb hub hn hV58 hVU hTF 
  have OC := openK w L c s bs h g K1
  have OD := fun w (h : SetAt w L c s bs) => openK w L c s bs h g K2
  rw [kv_eq] at OC
  simp only [kv_eq] at OD
  replace OC := Lib.hid OC
  replace OD := Lib.hid OD
  replace hV := Lib.hid hV
  replace h := Lib.hid h
  replace K1 := Lib.hid K1
  replace K2 := Lib.hid K2
  clear g h44
  go_enter Try.func31, Try.ntmps31
  go_wp2_with fail
  refine OC.out.mono ?_
  rintro e w2 ⟨rfl, b2⟩
  obtain ⟨w3, hw3⟩ : ∃ w3, w3 = w2.alloc (.cells #[.pointer (some ⟨L.ga, 0, none⟩), .int .i64 (p1 : Int), .int .i64 (k1 : Int), .int .i64 (n1 : Int)] 117) := ⟨_, rfl⟩
  have b3 : Below w.heap.size w w3 := by rw [hw3]; exact b2.alloc b2.size _
  have X3 : Blk w3 w2.heap.size 117 (kv L.ga p1 k1 n1) := by rw [hw3, ← kv_eq]; exact Blk.new w2 _ _
  have h3 := h.out.kept fun d hd => b3.block d (h.out.lt hd)
  have OE := Lib.hid (OD.out w3 h3)
  replace b3 := Lib.hid b3
  replace hw3 := Lib.hid hw3
  replace h3 := Lib.hid h3
  clear b2 OD OC h
  generalize hN1 : w2.heap.size = N1 at *
  replace hN1 := Lib.hid hN1
  go_upto_region 2 with fail
  rw [hN1.out, ← hw3.out]
  clear hw3 hN1
  go_wp2_with fail
  refine OE.out.mono ?_
  rintro e w4 ⟨rfl, b4⟩
  obtain ⟨w5, hw5⟩ : ∃ w5, w5 = w4.alloc (.cells #[.pointer (some ⟨L.ga, 0, none⟩), .int .i64 (p2 : Int), .int .i64 (k2 : Int), .int .i64 (n2 : Int)] 117) := ⟨_, rfl⟩
  have S : CS w w5 L c s bs N1 w4.heap.size p1 k1 n1 p2 k2 n2 := by
    rw [hw5]; exact ⟨OS.op p2 k2 n2 h3.out b4 (b3.out.trans (b4.mono b3.out.size)) (Nat.le_trans b3.out.size b4.size), (X3.below b4 X3.lt).alloc _⟩
  obtain ⟨z3, y0, y1, y2, y3⟩ := S.cells
  have KC := Lib.hid (S.os.key K2.out hV.out)
  replace S := Lib.hid S
  replace hw5 := Lib.hid hw5
  clear b3 h3 b4 OE X3
  generalize hN2 : w4.heap.size = N2 at *
  replace hN2 := Lib.hid hN2
  go_upto_region 5 with fail
  rw [hN2.out, ← hw5.out]
  clear hw5 hN2
  go_wp2_with fail
  refine KC.out.mono ?_
  rintro e w6 ⟨rfl, b6⟩
  replace S := S.out.step b6
  obtain ⟨z3, y0, y1, y2, y3⟩ := S.cells
  replace S := Lib.hid S
  clear KC b6
  go_upto_region 9 with fail
  refine region_all 10 rfl (fun w w' => Below w.heap.size w w') (fun v => CS w v L c s bs N1 N2 p1 k1 n1 p2 k2 n2) (copyLongF N1 V U V58 VU L n1 p2 k2 n2) (fun _ _ _ _ => True) (by kernel_rfl) (by kernel_rfl) S.out.drew copyLongF_go ?_ ?_
  · refine ⟨?_, ?_, ?_, ?_, ?_, ?_, ?_, ?_, ?_, ?_, trivial⟩
    · intro listed a w I hr K hK
      replace S := I.world
      have e9 : a.tmps[9]?.getD undef = .pointer (some ⟨N2, 0, none⟩) := (Array.getD_eq_getD_getElem? ..).symm.trans (I.slot 9 (by kernel_rfl))
      refine want_none rfl ?_
      have C := S.cells
      obtain ⟨z3, y0, y1, y2, y3⟩ := C
      clear hr I
      go_simp
      exact hK _ _ S (le_refl' _) rfl (psi_T _ _)
    · intro listed a w I hr K hK
      replace S := I.world
      have e40 : a.tmps[40]?.getD undef = .agg #[.pointer (some ⟨L.ga, 0, none⟩), .int .i64 (p2 : Int), .int .i64 (k2 : Int), .int .i64 (n2 : Int)] := (Array.getD_eq_getD_getElem? ..).symm.trans (I.dep hr 0 _ (by decide) rfl (by kernel_rfl))
      refine want_none rfl ?_
      have C := S.os.key K2.out hV.out
      clear hr I
      go_simp
      refine C.mono ?_
      rintro e w' ⟨rfl, b2⟩
      exact hK _ _ (S.step b2) b2 rfl (psi_T _ _)
    · intro listed a w I hr K hK
      replace S := I.world
      have e41 : a.tmps[41]?.getD undef = .int .i64 (V : Int) := (Array.getD_eq_getD_getElem? ..).symm.trans (I.dep hr 1 _ (by decide) rfl (by kernel_rfl))
      refine want_none rfl ?_
      clear hr I
      go_simp
      exact hK _ _ S (le_refl' _) rfl (psi_T _ _)
    · intro listed a w I hr K hK
      replace S := I.world
      have e9 : a.tmps[9]?.getD undef = .pointer (some ⟨N2, 0, none⟩) := (Array.getD_eq_getD_getElem? ..).symm.trans (I.slot 9 (by kernel_rfl))
      refine want_none rfl ?_
      have C := S.cells
      obtain ⟨z3, y0, y1, y2, y3⟩ := C
      clear hr I
      go_simp
      exact hK _ _ S (le_refl' _) rfl (psi_T _ _)
    · intro listed a w I hr K hK
      replace S := I.world
      have e43 : a.tmps[43]?.getD undef = .agg #[.pointer (some ⟨L.ga, 0, none⟩), .int .i64 (p2 : Int), .int .i64 (k2 : Int), .int .i64 (n2 : Int)] := (Array.getD_eq_getD_getElem? ..).symm.trans (I.dep hr 3 _ (by decide) rfl (by kernel_rfl))
      refine want_none rfl ?_
      have C := S.os.value K2.out hU.out
      clear hr I
      go_simp
      refine C.mono ?_
      rintro e w' ⟨rfl, b2⟩
      exact hK _ _ (S.step b2) b2 rfl (psi_T _ _)
    · intro listed a w I hr K hK
      replace S := I.world
      have e42 : a.tmps[42]?.getD undef = .int .i64 (V58 : Int) := (Array.getD_eq_getD_getElem? ..).symm.trans (I.dep hr 2 _ (by decide) rfl (by kernel_rfl))
      have e44 : a.tmps[44]?.getD undef = .int .i64 (U : Int) := (Array.getD_eq_getD_getElem? ..).symm.trans (I.dep hr 4 _ (by decide) rfl (by kernel_rfl))
      refine want_none rfl ?_
      clear hr I
      go_simp
      exact hK _ _ S (le_refl' _) rfl (psi_T _ _)
    · intro listed a w I hr K hK
      replace S := I.world
      have e7 : a.tmps[7]?.getD undef = .pointer (some ⟨N1, 0, none⟩) := (Array.getD_eq_getD_getElem? ..).symm.trans (I.slot 7 (by kernel_rfl))
      refine want_none rfl ?_
      clear hr I
      go_simp
      exact hK _ _ S (le_refl' _) rfl (psi_T _ _)
    · intro listed a w I hr K hK
      replace S := I.world
      have e46 : a.tmps[46]?.getD undef = .pointer (some ⟨N1, 3, none⟩) := (Array.getD_eq_getD_getElem? ..).symm.trans (I.dep hr 6 _ (by decide) rfl (by kernel_rfl))
      refine want_none rfl ?_
      have C := S.cells
      obtain ⟨z3, y0, y1, y2, y3⟩ := C
      clear hr I
      go_simp
      exact hK _ _ S (le_refl' _) rfl (psi_T _ _)
    · intro listed a w I hr K hK
      replace S := I.world
      have e45 : a.tmps[45]?.getD undef = .int .i64 (VU : Int) := (Array.getD_eq_getD_getElem? ..).symm.trans (I.dep hr 5 _ (by decide) rfl (by kernel_rfl))
      have e47 : a.tmps[47]?.getD undef = .int .i64 (n1 : Int) := (Array.getD_eq_getD_getElem? ..).symm.trans (I.dep hr 7 _ (by decide) rfl (by kernel_rfl))
      refine want_none rfl ?_
      clear hr I
      go_simp
      exact hK _ _ S (le_refl' _) rfl (psi_T _ _)
    · intro listed a w I hr K hK
      replace S := I.world
      have e48 : a.tmps[48]?.getD undef = .bool true := (Array.getD_eq_getD_getElem? ..).symm.trans (I.dep hr 8 _ (by decide) rfl (by kernel_rfl))
      refine want_none rfl ?_
      clear hr I
      go_simp
      exact hK _ _ S (le_refl' _) rfl (psi_T _ _)
  · intro a w7 I7
    have e39 : a.tmps.getD 39 undef = .bool true := I7.done 9 _ (by decide) rfl
    have e0 : a.tmps.getD 0 undef = .pointer (some ⟨L.g, 0, none⟩) := I7.slot 0 (by kernel_rfl)
    have e1 : a.tmps.getD 1 undef = .int .u64 (T : Int) := I7.slot 1 (by kernel_rfl)
    have e2 : a.tmps.getD 2 undef = .int .u64 (F : Int) := I7.slot 2 (by kernel_rfl)
    have S5 := I7.world
    obtain ⟨f, hf, ha⟩ := I7.act
    rw [hf] at e39
    rw [hf] at e0
    rw [hf] at e1
    rw [hf] at e2
    replace ha : a = ⟨#[f 0, f 1, f 2, f 3, f 4, f 5, f 6, f 7, f 8, f 9, f 10, f 11, f 12, f 13, f 14, f 15, f 16, f 17, f 18, f 19, f 20, f 21, f 22, f 23, f 24, f 25, f 26, f 27, f 28, f 29, f 30, f 31, f 32, f 33, f 34, f 35, f 36, f 37, f 38, f 39, f 40, f 41, f 42, f 43, f 44, f 45, f 46, f 47, f 48, f 49, f 50, f 51, f 52, f 53, f 54, f 55, f 56, f 57, f 58, f 59], []⟩ := ha
    rw [ha, e39, e0, e1, e2]
    clear I7 hf ha e39 e0 e1 e2 a
    have bl := Lib.hid S5.os.below
    clear S5 S
    go_wp2
    go_ret
    exact ⟨rfl, bl.out⟩
def copyYesF (N1 V U V58 VU : Nat) (L : Lay) (n1 p2 k2 n2 : Nat) : Nat → Value → World → Prop
  | 0, v, w => v = .agg #[.pointer (some ⟨L.ga, 0, none⟩), .int .i64 (p2 : Int), .int .i64 (k2 : Int), .int .i64 (n2 : Int)]
  | 1, v, w => v = .int .i64 (V : Int)
  | 2, v, w => v = .int .i64 (V58 : Int)
  | 3, v, w => v = .agg #[.pointer (some ⟨L.ga, 0, none⟩), .int .i64 (p2 : Int), .int .i64 (k2 : Int), .int .i64 (n2 : Int)]
  | 4, v, w => v = .int .i64 (U : Int)
  | 5, v, w => v = .int .i64 (VU : Int)
  | 6, v, w => v = .pointer (some ⟨N1, 3, none⟩)
  | 7, v, w => v = .int .i64 (n1 : Int)
  | 8, v, w => v = .bool false
  | 9, v, w => v = .bool false
  | _, _, _ => True
theorem copyYesF_go {N1 V U V58 VU : Nat} {L : Lay} {n1 p2 k2 n2 : Nat} : ∀ j u w w', copyYesF N1 V U V58 VU L n1 p2 k2 n2 j u w → Below w.heap.size w w' → copyYesF N1 V U V58 VU L n1 p2 k2 n2 j u w' := by
  intro j u w w' h b
  match j, h with
  | 0, h => exact h
  | 1, h => exact h
  | 2, h => exact h
  | 3, h => exact h
  | 4, h => exact h
  | 5, h => exact h
  | 6, h => exact h
  | 7, h => exact h
  | 8, h => exact h
  | 9, h => exact h
  | j + 10, _ => exact trivial
set_option maxRecDepth 100000 in
set_option maxHeartbeats 4000000 in
theorem copyYes (w : World) (L : Lay) (c : Conf) (s : St) (bs : List UInt8) (h : SetAt w L c s bs) (g : Cls.Good c.cf s) {T F i1 x1 p1 k1 n1 i2 x2 p2 k2 n2 : Nat} (K1 : Chk c s bs.length T i1 x1 p1 k1 n1) (K2 : Chk c s bs.length F i2 x2 p2 k2 n2) (I : Whole) (Hs : Has bs p2 I) (Fi : I.t.Fine) (hTF : T ≠ F) (hvl : I.t.val.length ≤ 1048576) (hfit : 58 + I.t.key.length + I.t.val.length ≤ n2) (hn : 58 + I.t.key.length + I.t.val.length ≤ n1) : Calls Try.prog 31 #[.pointer (some ⟨L.g, 0, none⟩), .int .u64 (T : Int), .int .u64 (F : Int)] w fun e w' => e = .returned (.int .i64 0) ∧ SetAt w' L c s (itemB bs p1 k1 { I.t with st := 4 }) ∧ Only (· = L.ha) w w' := by
  obtain ⟨kl1, kl2⟩ := legal_len Fi.legal
  obtain ⟨V, hV⟩ : ∃ V, V = rd bs (p2 + 44) 1 := ⟨_, rfl⟩
  obtain ⟨U, hU⟩ : ∃ U, U = rd bs (p2 + 48) 4 := ⟨_, rfl⟩
  have eV : V = I.t.key.length := by rw [hV]; exact Hs.key_len (by omega)
  have eU : U = I.t.val.length := by rw [hU]; exact Hs.val_len (by omega)
  have h44 : rd bs (p2 + 44) 1 ≠ 0 := by omega
  have hvb := rd_lt bs (p2 + 44) 1
  have hub := rd_lt bs (p2 + 48) 4
  rw [← hV] at hvb
  rw [← hU] at hub
  rw [← eV, ← eU] at hn hfit
  have rk : (bs.drop (p2 + 56)).take V = I.t.key := by rw [eV]; exact Hs.key
  have rv : (bs.drop (p2 + (56 + V))).take U = I.t.val := by rw [eV, eU]; exact Hs.val
  have RC := fun w (h : SetAt w L c s bs) => readYes w L c s bs h g K2 V U hV hU (by omega) hfit (by rw [Hs.ex (by have := Fi.ex; omega)]; exact Fi.ex) (by rw [Hs.tc (by have := Fi.tc; omega)]; exact Fi.tc)
  simp only [rk, rv, Hs.fl Fi.fl, Hs.ex (by have := Fi.ex; omega), Hs.tc (by have := Fi.tc; omega), Hs.tk Fi.tk, Hs.st (by have := Fi.st4; omega), Hs.ms (by have := Fi.ms; omega)] at RC
  have F4 : ({ I.t with st := 4 } : It).Fine := ⟨Fi.legal, Fi.fl, Fi.ex, Fi.tc, Fi.tk, by show 1 ≤ 4; omega, by show 4 ≤ 4; omega, Fi.ms⟩
  have LC := fun w (h : SetAt w L c s bs) b b' ck cv hK hV' hb hb' => itemLayYes w L c s bs h g T K1.hH i1 x1 p1 K1.hf (by rw [K1.hk]; exact K1.kn) (by have := h.okc.ncb; have e : c.cf.nc = c.nc := rfl; omega) (by rw [K1.hk, K1.sz]; exact K1.ck) { I.t with st := 4 } F4 (by rw [K1.hk, K1.sz]; show 58 + I.t.key.length + I.t.val.length ≤ n1; omega) (some ⟨b, 0, none⟩) (some ⟨b', 0, none⟩) ck cv w.heap.size hK hV' hb hb'
  simp only [It.cells_eq, K1.hk] at LC
  replace RC := Lib.hid RC
  replace LC := Lib.hid LC
  replace eV := Lib.hid eV
  replace eU := Lib.hid eU
  clear rk rv Hs Fi F4 hvl kl1 kl2
  obtain ⟨V58, hV58⟩ : ∃ V58, V58 = 58 + V := ⟨_, rfl⟩
  obtain ⟨VU, hVU⟩ : ∃ VU, VU = V58 + U := ⟨_, rfl⟩
  have q1 : IntKind.i64.wrap (58 + (V : Int)) = (V58 : Int) := by rw [IntWalk.i64_in _ (by omega)]; omega
  have q2 : IntKind.i64.wrap ((V58 : Int) + (U : Int)) = (VU : Int) := by rw [IntWalk.i64_in _ (by omega)]; omega
  have d0 : decide ((n1 : Int) < (VU : Int)) = false := decide_eq_false (by omega)
  have d00 : decide (n1 < VU) = false := decide_eq_false (by omega)
  have d1 : decide ((V : Int) = 0) = false := decide_eq_false (by omega)
  have d2 : ((V : Int) == 0) = false := by rw [beq_eq_false_iff_ne]; omega
  have d3 : decide ((T : Int) = (F : Int)) = false := decide_eq_false (by omega)
  have d4 : ((T : Int) == (F : Int)) = false := by rw [beq_eq_false_iff_ne]; omega
  have d5 : decide (T = F) = false := decide_eq_false hTF
  replace hU := Lib.hid hU
  clear hvb hub hn hV58 hVU hTF hfit
  have OC := openK w L c s bs h g K1
  have OD := fun w (h : SetAt w L c s bs) => openK w L c s bs h g K2
  rw [kv_eq] at OC
  simp only [kv_eq] at OD
  replace OC := Lib.hid OC
  replace OD := Lib.hid OD
  replace hV := Lib.hid hV
  replace h := Lib.hid h
  replace K1 := Lib.hid K1
  replace K2 := Lib.hid K2
  clear g h44
  go_enter Try.func31, Try.ntmps31
  go_wp2_with fail
  refine OC.out.mono ?_
  rintro e w2 ⟨rfl, b2⟩
  obtain ⟨w3, hw3⟩ : ∃ w3, w3 = w2.alloc (.cells #[.pointer (some ⟨L.ga, 0, none⟩), .int .i64 (p1 : Int), .int .i64 (k1 : Int), .int .i64 (n1 : Int)] 117) := ⟨_, rfl⟩
  have b3 : Below w.heap.size w w3 := by rw [hw3]; exact b2.alloc b2.size _
  have X3 : Blk w3 w2.heap.size 117 (kv L.ga p1 k1 n1) := by rw [hw3, ← kv_eq]; exact Blk.new w2 _ _
  have h3 := h.out.kept fun d hd => b3.block d (h.out.lt hd)
  have OE := Lib.hid (OD.out w3 h3)
  replace b3 := Lib.hid b3
  replace hw3 := Lib.hid hw3
  replace h3 := Lib.hid h3
  clear b2 OD OC h
  generalize hN1 : w2.heap.size = N1 at *
  replace hN1 := Lib.hid hN1
  go_upto_region 2 with fail
  rw [hN1.out, ← hw3.out]
  clear hw3 hN1
  go_wp2_with fail
  refine OE.out.mono ?_
  rintro e w4 ⟨rfl, b4⟩
  obtain ⟨w5, hw5⟩ : ∃ w5, w5 = w4.alloc (.cells #[.pointer (some ⟨L.ga, 0, none⟩), .int .i64 (p2 : Int), .int .i64 (k2 : Int), .int .i64 (n2 : Int)] 117) := ⟨_, rfl⟩
  have S : CS w w5 L c s bs N1 w4.heap.size p1 k1 n1 p2 k2 n2 := by
    rw [hw5]; exact ⟨OS.op p2 k2 n2 h3.out b4 (b3.out.trans (b4.mono b3.out.size)) (Nat.le_trans b3.out.size b4.size), (X3.below b4 X3.lt).alloc _⟩
  obtain ⟨z3, y0, y1, y2, y3⟩ := S.cells
  have KC := Lib.hid (S.os.key K2.out hV.out)
  replace S := Lib.hid S
  replace hw5 := Lib.hid hw5
  clear b3 h3 b4 OE X3
  generalize hN2 : w4.heap.size = N2 at *
  replace hN2 := Lib.hid hN2
  go_upto_region 5 with fail
  rw [hN2.out, ← hw5.out]
  clear hw5 hN2
  go_wp2_with fail
  refine KC.out.mono ?_
  rintro e w6 ⟨rfl, b6⟩
  replace S := S.out.step b6
  obtain ⟨z3, y0, y1, y2, y3⟩ := S.cells
  replace S := Lib.hid S
  clear KC b6
  go_upto_region 9 with fail
  refine region_all 10 rfl (fun w w' => Below w.heap.size w w') (fun v => CS w v L c s bs N1 N2 p1 k1 n1 p2 k2 n2) (copyYesF N1 V U V58 VU L n1 p2 k2 n2) (fun _ _ _ _ => True) (by kernel_rfl) (by kernel_rfl) S.out.drew copyYesF_go ?_ ?_
  · refine ⟨?_, ?_, ?_, ?_, ?_, ?_, ?_, ?_, ?_, ?_, trivial⟩
    · intro listed a w I hr K hK
      replace S := I.world
      have e9 : a.tmps[9]?.getD undef = .pointer (some ⟨N2, 0, none⟩) := (Array.getD_eq_getD_getElem? ..).symm.trans (I.slot 9 (by kernel_rfl))
      refine want_none rfl ?_
      have C := S.cells
      obtain ⟨z3, y0, y1, y2, y3⟩ := C
      clear hr I
      go_simp
      exact hK _ _ S (le_refl' _) rfl (psi_T _ _)
    · intro listed a w I hr K hK
      replace S := I.world
      have e40 : a.tmps[40]?.getD undef = .agg #[.pointer (some ⟨L.ga, 0, none⟩), .int .i64 (p2 : Int), .int .i64 (k2 : Int), .int .i64 (n2 : Int)] := (Array.getD_eq_getD_getElem? ..).symm.trans (I.dep hr 0 _ (by decide) rfl (by kernel_rfl))
      refine want_none rfl ?_
      have C := S.os.key K2.out hV.out
      clear hr I
      go_simp
      refine C.mono ?_
      rintro e w' ⟨rfl, b2⟩
      exact hK _ _ (S.step b2) b2 rfl (psi_T _ _)
    · intro listed a w I hr K hK
      replace S := I.world
      have e41 : a.tmps[41]?.getD undef = .int .i64 (V : Int) := (Array.getD_eq_getD_getElem? ..).symm.trans (I.dep hr 1 _ (by decide) rfl (by kernel_rfl))
      refine want_none rfl ?_
      clear hr I
      go_simp
      exact hK _ _ S (le_refl' _) rfl (psi_T _ _)
    · intro listed a w I hr K hK
      replace S := I.world
      have e9 : a.tmps[9]?.getD undef = .pointer (some ⟨N2, 0, none⟩) := (Array.getD_eq_getD_getElem? ..).symm.trans (I.slot 9 (by kernel_rfl))
      refine want_none rfl ?_
      have C := S.cells
      obtain ⟨z3, y0, y1, y2, y3⟩ := C
      clear hr I
      go_simp
      exact hK _ _ S (le_refl' _) rfl (psi_T _ _)
    · intro listed a w I hr K hK
      replace S := I.world
      have e43 : a.tmps[43]?.getD undef = .agg #[.pointer (some ⟨L.ga, 0, none⟩), .int .i64 (p2 : Int), .int .i64 (k2 : Int), .int .i64 (n2 : Int)] := (Array.getD_eq_getD_getElem? ..).symm.trans (I.dep hr 3 _ (by decide) rfl (by kernel_rfl))
      refine want_none rfl ?_
      have C := S.os.value K2.out hU.out
      clear hr I
      go_simp
      refine C.mono ?_
      rintro e w' ⟨rfl, b2⟩
      exact hK _ _ (S.step b2) b2 rfl (psi_T _ _)
    · intro listed a w I hr K hK
      replace S := I.world
      have e42 : a.tmps[42]?.getD undef = .int .i64 (V58 : Int) := (Array.getD_eq_getD_getElem? ..).symm.trans (I.dep hr 2 _ (by decide) rfl (by kernel_rfl))
      have e44 : a.tmps[44]?.getD undef = .int .i64 (U : Int) := (Array.getD_eq_getD_getElem? ..).symm.trans (I.dep hr 4 _ (by decide) rfl (by kernel_rfl))
      refine want_none rfl ?_
      clear hr I
      go_simp
      exact hK _ _ S (le_refl' _) rfl (psi_T _ _)
    · intro listed a w I hr K hK
      replace S := I.world
      have e7 : a.tmps[7]?.getD undef = .pointer (some ⟨N1, 0, none⟩) := (Array.getD_eq_getD_getElem? ..).symm.trans (I.slot 7 (by kernel_rfl))
      refine want_none rfl ?_
      clear hr I
      go_simp
      exact hK _ _ S (le_refl' _) rfl (psi_T _ _)
    · intro listed a w I hr K hK
      replace S := I.world
      have e46 : a.tmps[46]?.getD undef = .pointer (some ⟨N1, 3, none⟩) := (Array.getD_eq_getD_getElem? ..).symm.trans (I.dep hr 6 _ (by decide) rfl (by kernel_rfl))
      refine want_none rfl ?_
      have C := S.cells
      obtain ⟨z3, y0, y1, y2, y3⟩ := C
      clear hr I
      go_simp
      exact hK _ _ S (le_refl' _) rfl (psi_T _ _)
    · intro listed a w I hr K hK
      replace S := I.world
      have e45 : a.tmps[45]?.getD undef = .int .i64 (VU : Int) := (Array.getD_eq_getD_getElem? ..).symm.trans (I.dep hr 5 _ (by decide) rfl (by kernel_rfl))
      have e47 : a.tmps[47]?.getD undef = .int .i64 (n1 : Int) := (Array.getD_eq_getD_getElem? ..).symm.trans (I.dep hr 7 _ (by decide) rfl (by kernel_rfl))
      refine want_none rfl ?_
      clear hr I
      go_simp
      exact hK _ _ S (le_refl' _) rfl (psi_T _ _)
    · intro listed a w I hr K hK
      replace S := I.world
      have e48 : a.tmps[48]?.getD undef = .bool false := (Array.getD_eq_getD_getElem? ..).symm.trans (I.dep hr 8 _ (by decide) rfl (by kernel_rfl))
      refine want_none rfl ?_
      clear hr I
      go_simp
      exact hK _ _ S (le_refl' _) rfl (psi_T _ _)
  · intro a w7 I7
    have e39 : a.tmps.getD 39 undef = .bool false := I7.done 9 _ (by decide) rfl
    have e0 : a.tmps.getD 0 undef = .pointer (some ⟨L.g, 0, none⟩) := I7.slot 0 (by kernel_rfl)
    have e1 : a.tmps.getD 1 undef = .int .u64 (T : Int) := I7.slot 1 (by kernel_rfl)
    have e2 : a.tmps.getD 2 undef = .int .u64 (F : Int) := I7.slot 2 (by kernel_rfl)
    have S5 := I7.world
    obtain ⟨f, hf, ha⟩ := I7.act
    rw [hf] at e39
    rw [hf] at e0
    rw [hf] at e1
    rw [hf] at e2
    replace ha : a = ⟨#[f 0, f 1, f 2, f 3, f 4, f 5, f 6, f 7, f 8, f 9, f 10, f 11, f 12, f 13, f 14, f 15, f 16, f 17, f 18, f 19, f 20, f 21, f 22, f 23, f 24, f 25, f 26, f 27, f 28, f 29, f 30, f 31, f 32, f 33, f 34, f 35, f 36, f 37, f 38, f 39, f 40, f 41, f 42, f 43, f 44, f 45, f 46, f 47, f 48, f 49, f 50, f 51, f 52, f 53, f 54, f 55, f 56, f 57, f 58, f 59], []⟩ := ha
    rw [ha, e39, e0, e1, e2]
    clear I7 hf ha e39 e0 e1 e2 a
    have RD := Lib.hid (RC.out w7 S5.os.set)
    have hba : L.ha < w7.heap.size := S5.os.set.lt (b := L.ha) ⟨.bytes, rfl⟩
    replace S := Lib.hid S5.os
    clear S5 RC z3 y0 y1 y2 y3
    go_wp2_with fail
    refine RD.out.mono ?_
    rintro e w8 ⟨b8, b, b', rfl, hb, hb', hne, Bb, Bb'⟩
    replace S := S.out.step b8
    obtain ⟨w9, hw9⟩ : ∃ w9, w9 = w8.alloc (.cells #[.slice (some ⟨b, 0, none⟩) V V, .slice (some ⟨b', 0, none⟩) U U, .int .u64 (I.t.fl : Int), .int .i64 (I.t.ex : Int), .int .i64 (I.t.tc : Int), .int .u64 (I.t.tk : Int), .int .i64 (I.t.st : Int), .int .i64 (I.t.ms : Int)] 52) := ⟨_, rfl⟩
    have B9 : Blk w9 w8.heap.size 52 #[.slice (some ⟨b, 0, none⟩) V V, .slice (some ⟨b', 0, none⟩) U U, .int .u64 (I.t.fl : Int), .int .i64 (I.t.ex : Int), .int .i64 (I.t.tc : Int), .int .u64 (I.t.tk : Int), .int .i64 (I.t.st : Int), .int .i64 (I.t.ms : Int)] := by rw [hw9]; exact Blk.new w8 _ _
    have b89 : Below w8.heap.size w8 w9 := by rw [hw9]; exact (Below.refl _ _).alloc (Nat.le_refl _) _
    have S9 := S.step b89
    have Bb9 := BB.go Bb b89
    have Bb9' := BB.go Bb' b89
    have hbl := Bb.lt
    have hbl' := Bb'.lt
    obtain ⟨wa, hwa⟩ : ∃ wa, wa = w9.setCell ⟨w8.heap.size, 6, none⟩ (.int .i64 4) := ⟨_, rfl⟩
    have Ba : Blk wa w8.heap.size 52 #[.slice (some ⟨b, 0, none⟩) V V, .slice (some ⟨b', 0, none⟩) U U, .int .u64 (I.t.fl : Int), .int .i64 (I.t.ex : Int), .int .i64 (I.t.tc : Int), .int .u64 (I.t.tk : Int), .int .i64 4, .int .i64 (I.t.ms : Int)] := by rw [hwa]; exact B9.set_ 6 _
    have ba : Below w8.heap.size w9 wa := by rw [hwa]; exact (Below.refl _ _).setCell (p := ⟨w8.heap.size, 6, none⟩) (Nat.le_refl _) _
    have b8a := b89.trans ba
    have Sa := S.step b8a
    have Bba := BB.go Bb b8a
    have Bba' := BB.go Bb' b8a
    have xa := ba.size
    have hs8 := b8a.size
    have LY := LC.out wa Sa.set b b' V U (by have := Bba.all wa.heap.size Bba.lt; exact this) (by have := Bba'.all wa.heap.size Bba'.lt; exact this) (fun d off e => by simp only [Option.some.injEq, Addr.mk.injEq] at e; omega) (fun _ d off e => by simp only [Option.some.injEq, Addr.mk.injEq] at e; omega)
    rw [← eV.out, ← eU.out] at LY
    have x0 : w9.cell? ⟨w8.heap.size, 0, none⟩ = some (.slice (some ⟨b, 0, none⟩) V V) := B9.cell 0
    have c6 : w9.cell? ⟨w8.heap.size, 6, none⟩ = some (.int .i64 (I.t.st : Int)) := B9.cell 6
    have y := B9.frozen
    have z0 : wa.cell? ⟨w8.heap.size, 0, none⟩ = some (.slice (some ⟨b, 0, none⟩) V V) := Ba.cell 0
    have z1 : wa.cell? ⟨w8.heap.size, 1, none⟩ = some (.slice (some ⟨b', 0, none⟩) U U) := Ba.cell 1
    have z2 : wa.cell? ⟨w8.heap.size, 2, none⟩ = some (.int .u64 (I.t.fl : Int)) := Ba.cell 2
    have z3 : wa.cell? ⟨w8.heap.size, 3, none⟩ = some (.int .i64 (I.t.ex : Int)) := Ba.cell 3
    have z4 : wa.cell? ⟨w8.heap.size, 4, none⟩ = some (.int .i64 (I.t.tc : Int)) := Ba.cell 4
    have z5 : wa.cell? ⟨w8.heap.size, 5, none⟩ = some (.int .u64 (I.t.tk : Int)) := Ba.cell 5
    have z6 : wa.cell? ⟨w8.heap.size, 6, none⟩ = some (.int .i64 4) := Ba.cell 6
    have z7 : wa.cell? ⟨w8.heap.size, 7, none⟩ = some (.int .i64 (I.t.ms : Int)) := Ba.cell 7
    have ob := Lib.hid (Only.of_below Sa.below (Nat.le_refl _) (· = L.ha))
    replace hw9 := Lib.hid hw9
    replace hwa := Lib.hid hwa
    replace LY := Lib.hid LY
    clear RD LC S S9 Sa B9 Ba Bb Bb' Bb9 Bb9' Bba Bba' b89 b8a ba b8 hbl hbl' xa hs8 hb hb' hne hba K1 K2
    generalize hN8 : w8.heap.size = N8 at *
    replace hN8 := Lib.hid hN8
    go_upto_region 12 with fail
    rw [hN8.out, ← hw9.out]
    go_upto_region 13 with fail
    rw [← hwa.out]
    clear hw9 hwa x0 c6 y
    go_wp2_with fail
    refine LY.out.mono ?_
    rintro e wb ⟨rfl, Sb, ob2⟩
    replace Sb := Lib.hid Sb
    replace ob := Lib.hid (ob.out.trans ob2 fun _ _ h => h)
    clear ob2 LY
    go_wp2
    go_ret
    exact ⟨rfl, Sb.out, ob.out⟩
end Go.Proofs.Ytdmclekohalolaa.Itm
/-
  A Set that one class fills: in plain numbers.
-/
namespace Go.Proofs.Ytdmclekohalolaa.Cls
open Go.RowKit Base MapG
set_option linter.unusedVariables false

def placeN (d : Cf) (k t : Nat) : Nat := t / d.n k * d.ps + t % d.n k * d.sz k
/-- t chunks of class k are taken, of the first pages; u tells which pages are the class's. -/
structure Fl (d : Cf) (k u t : Nat) (s : St) : Prop where
  good : Good d s
  own : ∀ i, i < d.np → s.own i = decide (i * d.n k < u)
  cls : ∀ i, s.own i = true → s.cls i = k
  lvs : ∀ i, s.lvs i = false
  tkn : ∀ i x, s.own i = true → x < d.n k → s.tkn i x = decide (i * d.n k + x < t)
  gens : ∀ i x, s.gens i x = 0
  old : ∀ i x, s.old i x = 0
  other : ∀ j, j ≠ k → s.free j = []
  desc : (s.free k).Pairwise (· > ·)
  rt : s.rt k = t
theorem fl_new (d : Cf) (k : Nat) : Fl d k 0 0 (new0 d) :=
  ⟨new0_good, fun i _ => by simp [new0], fun i h => (by cases h), fun _ => rfl, fun i x h => (by cases h), fun _ _ => rfl, fun _ _ => rfl, fun _ _ => rfl, List.Pairwise.nil, rfl⟩
theorem lowFrom_eq {own : Nat → Bool} {i : Nat} (ho : own i = false) : ∀ {n a : Nat}, a ≤ i → i < a + n → (∀ j, a ≤ j → j < i → own j = true) → lowFrom own n a = some i
  | 0, a, h1, h2, _ => by omega
  | n + 1, a, h1, h2, h3 => by
    unfold lowFrom
    by_cases ha : a = i
    · subst ha
      rw [if_neg (by rw [ho]; simp)]
    · rw [if_pos (h3 a (Nat.le_refl _) (by omega))]
      exact lowFrom_eq ho (by omega) (by omega) fun j hj1 hj2 => h3 j (by omega) hj2
theorem low_eq {d : Cf} {s : St} {i : Nat} (hi : i < d.np) (ho : s.own i = false) (h : ∀ j, j < i → s.own j = true) : low d s = some i := lowFrom_eq ho (Nat.zero_le _) (by omega) fun j _ hj => h j hj
theorem lowFrom_all {own : Nat → Bool} : ∀ {n a : Nat}, (∀ j, a ≤ j → j < a + n → own j = true) → lowFrom own n a = none
  | 0, _, _ => rfl
  | n + 1, a, h => by
    unfold lowFrom
    rw [if_pos (h a (Nat.le_refl _) (by omega))]
    exact lowFrom_all fun j h1 h2 => h j (by omega) (by omega)
theorem freesTo_desc {d : Cf} {s : St} {i : Nat} (hz : 1 ≤ d.sz (s.cls i)) : ∀ n, (freesTo d s i n).Pairwise (· > ·) ∧ ∀ p ∈ freesTo d s i n, p < i * d.ps + n * d.sz (s.cls i)
  | 0 => ⟨List.Pairwise.nil, fun p h => by cases h⟩
  | n + 1 => by
    obtain ⟨h1, h2⟩ := freesTo_desc hz n
    have hs : (n + 1) * d.sz (s.cls i) = n * d.sz (s.cls i) + d.sz (s.cls i) := Nat.succ_mul _ _
    unfold freesTo
    split
    · exact ⟨h1, fun p hp => by have := h2 p hp; omega⟩
    · refine ⟨List.pairwise_cons.2 ⟨fun p hp => h2 p hp, h1⟩, fun p hp => ?_⟩
      rcases List.mem_cons.1 hp with rfl | hp
      · omega
      · have := h2 p hp; omega
theorem dm {n t i x : Nat} (hn : 1 ≤ n) (hx : x < n) (h : i * n + x = t) : i = t / n ∧ x = t % n := by
  subst h
  rw [Nat.add_comm, Nat.add_mul_div_right _ _ (by omega), Nat.div_eq_of_lt hx, Nat.add_mul_mod_self_right, Nat.mod_eq_of_lt hx]
  exact ⟨(Nat.zero_add i).symm, rfl⟩
theorem dm_eq (n t : Nat) : t / n * n + t % n = t := by rw [Nat.mul_comm]; exact Nat.div_add_mod t n
theorem page_lt {n i j x : Nat} (h : i < j) (hx : x < n) : i * n + x < j * n := by
  have := Nat.mul_le_mul_right n (show i + 1 ≤ j from h)
  rw [Nat.succ_mul] at this
  omega
section
variable {d : Cf} (ok : d.Ok) {k u t : Nat} (hk : k < d.nc) {s : St}
include ok hk
theorem Fl.room (f : Fl d k t t s) (ht : t < d.np * d.n k) : ∃ s1, roomS d s k = some s1 ∧ Fl d k (t + 1) t s1 := by
  obtain ⟨hn, -⟩ := n_pos ok hk
  have hz := (ok.sz k hk).1
  have e := dm_eq (d.n k) t
  have hx : t % d.n k < d.n k := Nat.mod_lt _ (by omega)
  have hi : t / d.n k < d.np := (Nat.div_lt_iff_lt_mul (by omega)).2 ht
  by_cases h0 : t % d.n k = 0
  · have hfree : s.free k = [] := by
      refine List.eq_nil_iff_forall_not_mem.2 fun p hp => ?_
      obtain ⟨i, x, h1, h2, h3, -, h5, h6, -⟩ := (f.good.free k hk p).1 hp
      rw [f.tkn i x h2 h5, decide_eq_false_iff_not] at h6
      rw [f.own i h1, decide_eq_true_eq] at h2
      have hlt : i < t / d.n k := by
        rcases Nat.lt_or_ge i (t / d.n k) with h | h
        · exact h
        · have := Nat.mul_le_mul_right (d.n k) h; omega
      have := page_lt hlt h5
      omega
    have ho : s.own (t / d.n k) = false := by rw [f.own _ hi, decide_eq_false_iff_not]; omega
    have hlow : low d s = some (t / d.n k) := low_eq hi ho fun j hj => by
      rw [f.own j (by omega), decide_eq_true_eq]
      have := page_lt hj (show 0 < d.n k by omega)
      omega
    refine ⟨widenS d s k (t / d.n k), ?_, ?_⟩
    · unfold roomS
      rw [hfree, hlow]
    · have hc : (widen1 d s k (t / d.n k)).cls (t / d.n k) = k := upd_at _ _ _
      have fk : (widenS d s k (t / d.n k)).free = upd s.free k (s.free k ++ freesTo d (widen1 d s k (t / d.n k)) (t / d.n k) (d.n k)) := by
        show upd (widen1 d s k (t / d.n k)).free ((widen1 d s k (t / d.n k)).cls (t / d.n k)) ((widen1 d s k (t / d.n k)).free ((widen1 d s k (t / d.n k)).cls (t / d.n k)) ++ frees d (widen1 d s k (t / d.n k)) (t / d.n k)) = _
        unfold frees
        rw [hc]
        rfl
      refine ⟨f.good.widen ok hk hi ho, fun i hi' => ?_, fun i h => ?_, f.lvs, fun i x h hx' => ?_, fun i x => ?_, f.old, fun j hj => ?_, ?_, f.rt⟩
      · show upd s.own (t / d.n k) true i = _
        unfold upd
        by_cases he : i = t / d.n k
        · rw [if_pos he, he]; exact (decide_eq_true (by omega)).symm
        · rw [if_neg he, f.own i hi']
          refine decide_eq_decide.2 ⟨fun h => by omega, fun h => ?_⟩
          have : i * d.n k ≠ t := fun h' => he (dm hn (show 0 < d.n k by omega) (by omega)).1
          omega
      · show upd s.cls (t / d.n k) k i = k
        unfold upd
        by_cases he : i = t / d.n k
        · rw [if_pos he]
        · rw [if_neg he]
          refine f.cls i ?_
          have h' : upd s.own (t / d.n k) true i = true := h
          rwa [upd_ne _ _ he] at h'
      · show upd s.tkn (t / d.n k) (fun _ => false) i x = _
        unfold upd
        by_cases he : i = t / d.n k
        · rw [if_pos he, he]; exact (decide_eq_false (by omega)).symm
        · rw [if_neg he]
          have h' : upd s.own (t / d.n k) true i = true := h
          rw [upd_ne _ _ he] at h'
          exact f.tkn i x h' hx'
      · show upd s.gens (t / d.n k) (fun x => if x < d.n k then s.old (t / d.n k) (x * d.sz k) else 0) i x = 0
        unfold upd
        split
        · simp only
          split
          · exact f.old _ _
          · rfl
        · exact f.gens i x
      · rw [fk, upd_ne _ _ hj]
        exact f.other j hj
      · rw [fk, upd_at, hfree, List.nil_append]
        exact (freesTo_desc (by rw [hc]; omega) _).1
  · have ho : s.own (t / d.n k) = true := by rw [f.own _ hi, decide_eq_true_eq]; omega
    have hm : placeN d k t ∈ s.free k := (f.good.free k hk _).2 ⟨t / d.n k, t % d.n k, hi, ho, f.cls _ ho, f.lvs _, hx, by rw [f.tkn _ _ ho hx, e]; simp, rfl⟩
    refine ⟨s, ?_, { f with own := fun i hi' => ?_ }⟩
    · unfold roomS
      cases hfr : s.free k with
      | nil => rw [hfr] at hm; cases hm
      | cons a l => rfl
    · rw [f.own i hi']
      refine decide_eq_decide.2 ⟨fun h => by omega, fun h => ?_⟩
      have : i * d.n k ≠ t := fun h' => h0 (dm hn (show 0 < d.n k by omega) (show i * d.n k + 0 = t by omega)).2.symm
      omega
theorem Fl.take (f : Fl d k (t + 1) t s) (ht : t < d.np * d.n k) : ∃ l, s.free k = l ++ [placeN d k t] ∧ Fl d k (t + 1) (t + 1) (takeS d s k (placeN d k t)) := by
  obtain ⟨hn, -⟩ := n_pos ok hk
  have hz := (ok.sz k hk).1
  have e := dm_eq (d.n k) t
  have hx : t % d.n k < d.n k := Nat.mod_lt _ (by omega)
  have hi : t / d.n k < d.np := (Nat.div_lt_iff_lt_mul (by omega)).2 ht
  have ho : s.own (t / d.n k) = true := by rw [f.own _ hi, decide_eq_true_eq]; omega
  have hm : placeN d k t ∈ s.free k := (f.good.free k hk _).2 ⟨t / d.n k, t % d.n k, hi, ho, f.cls _ ho, f.lvs _, hx, by rw [f.tkn _ _ ho hx, e]; simp, rfl⟩
  have hne : s.free k ≠ [] := fun h => by rw [h] at hm; cases hm
  obtain ⟨l, p, hl⟩ : ∃ l p, s.free k = l ++ [p] := ⟨(s.free k).dropLast, (s.free k).getLast hne, (List.dropLast_concat_getLast hne).symm⟩
  obtain ⟨pl1, pl2, pl3, -, -⟩ := place_of ok (i := t / d.n k) hk hx
  have hp : p = placeN d k t := by
    obtain ⟨i, x, h1, h2, h3, -, h5, h6, h7⟩ := (f.good.free k hk p).1 (by rw [hl]; simp)
    rw [f.tkn i x h2 h5, decide_eq_false_iff_not] at h6
    rw [f.own i h1, decide_eq_true_eq] at h2
    have hle : i ≤ t / d.n k := by
      rcases Nat.lt_or_ge (t / d.n k) i with h | h
      · have := page_lt h hx; omega
      · exact h
    have hie : i = t / d.n k := by
      rcases Nat.lt_or_ge i (t / d.n k) with h | h
      · have := page_lt h h5; omega
      · omega
    subst hie
    have hxx : t % d.n k ≤ x := by omega
    have hge : placeN d k t ≤ p := by
      rw [h7]
      unfold placeN
      have := Nat.mul_le_mul_right (d.sz k) hxx
      omega
    rw [hl] at hm
    rcases List.mem_append.1 hm with h8 | h8
    · have h9 := f.desc
      rw [hl] at h9
      have := (List.pairwise_append.1 h9).2.2 _ h8 p (by simp)
      omega
    · exact (List.mem_singleton.1 h8).symm
  subst hp
  have ed : placeN d k t / d.ps = t / d.n k := pl1
  have em : placeN d k t % d.ps / d.sz k = t % d.n k := by show (_ % d.ps) / _ = _; rw [show placeN d k t % d.ps = _ from pl2, pl3]
  refine ⟨l, hl, f.good.take ok hk hl, f.own, f.cls, f.lvs, fun i x h hx' => ?_, f.gens, f.old, fun j hj => ?_, ?_, ?_⟩
  · show upd s.tkn (placeN d k t / d.ps) (upd (s.tkn (placeN d k t / d.ps)) (placeN d k t % d.ps / d.sz k) true) i x = _
    rw [ed, em]
    unfold upd
    by_cases h1 : i = t / d.n k
    · rw [if_pos h1]
      by_cases h2 : x = t % d.n k
      · rw [if_pos h2, h1, h2]; exact (decide_eq_true (by omega)).symm
      · rw [if_neg h2, ← h1, f.tkn i x h hx']
        refine decide_eq_decide.2 ⟨fun h => by omega, fun h' => ?_⟩
        have : i * d.n k + x ≠ t := fun e' => h2 (dm hn hx' e').2
        omega
    · rw [if_neg h1, f.tkn i x h hx']
      refine decide_eq_decide.2 ⟨fun h => by omega, fun h' => ?_⟩
      have : i * d.n k + x ≠ t := fun e' => h1 (dm hn hx' e').1
      omega
  · show upd s.free k (s.free k).dropLast j = []
    rw [upd_ne _ _ hj]
    exact f.other j hj
  · show (upd s.free k (s.free k).dropLast k).Pairwise _
    rw [upd_at, hl, List.dropLast_concat]
    have h9 := f.desc
    rw [hl] at h9
    exact (List.pairwise_append.1 h9).1
  · show upd s.rt k (s.rt k + 1) k = t + 1
    rw [upd_at, f.rt]
/-- All is taken. -/
theorem Fl.full (f : Fl d k (d.np * d.n k) (d.np * d.n k) s) : s.free k = [] ∧ (∀ i, i < d.np → s.own i = true) ∧ (∀ j, roomS d s j = none) ∧ s.spare = 0 ∧ s.rs k = d.np ∧ (∀ j, j < d.nc → j ≠ k → s.rs j = 0) := by
  obtain ⟨hn, -⟩ := n_pos ok hk
  have hown : ∀ i, i < d.np → s.own i = true := fun i hi => by
    rw [f.own i hi, decide_eq_true_eq]
    have := page_lt hi (show 0 < d.n k by omega)
    omega
  have hfree : s.free k = [] := by
    refine List.eq_nil_iff_forall_not_mem.2 fun p hp => ?_
    obtain ⟨i, x, h1, h2, h3, -, h5, h6, -⟩ := (f.good.free k hk p).1 hp
    rw [f.tkn i x h2 h5, decide_eq_false_iff_not] at h6
    have := page_lt h1 h5
    omega
  refine ⟨hfree, hown, fun j => ?_, ?_, ?_, fun j hj hjk => ?_⟩
  · have hj : s.free j = [] := by
      by_cases h : j = k
      · rw [h]; exact hfree
      · exact f.other j h
    unfold roomS
    rw [hj, show low d s = none from lowFrom_all fun i _ h => hown i (by omega)]
  · rw [f.good.spare]
    exact cnt_none fun i hi => by rw [hown i hi]; rfl
  · rw [f.good.rs k hk]
    refine cnt_all fun i hi => ?_
    rw [hown i hi, f.cls i (hown i hi), f.lvs i]
    simp
  · rw [f.good.rs j hj]
    refine cnt_none fun i hi => ?_
    rw [hown i hi, f.cls i (hown i hi)]
    have : (k == j) = false := by simpa using fun h => hjk h.symm
    simp [this]
end
/-- A chunk that is taken is found by its handle. -/
theorem find_hnd {d : Cf} (ok : d.Ok) {s : St} {i x G : Nat} (hi : i < d.np) (ho : s.own i = true) (hc : s.cls i < d.nc) (hx : x < d.n (s.cls i)) (ht : s.tkn i x = true) (hg : s.gens i x = G) :
    findN d s (hnd (i * d.ps + x * d.sz (s.cls i)) G) = some (i, x, i * d.ps + x * d.sz (s.cls i)) := by
  obtain ⟨p1, p2, p3, p4, p5⟩ := place_of ok (i := i) hc hx
  have hz := ok.sz _ hc
  have h1 : (i + 1) * d.ps ≤ d.np * d.ps := Nat.mul_le_mul_right _ hi
  rw [Nat.succ_mul, Nat.mul_comm d.np] at h1
  have hps8 := ok.ps8
  have hps := ok.ps
  have hpsb : d.ps * d.np ≤ 1048576 * 1024 := Nat.mul_le_mul ok.psb ok.npb
  have h8 : (i * d.ps + x * d.sz (s.cls i)) % 8 = 0 := by
    rw [Nat.add_mod, Nat.mul_mod, hps8, Nat.mul_zero, Nat.zero_mod, p5]
  generalize hp : i * d.ps + x * d.sz (s.cls i) = p at *
  have hH : hnd p G % 4294967296 = p / 8 + 1 := by unfold hnd; omega
  have hD : hnd p G / 4294967296 = G := by unfold hnd; omega
  have hb : p + 8 ≤ d.ps * d.np := by omega
  unfold findN
  rw [hH, hD, if_neg (by omega), show (p / 8 + 1 - 1) * 8 = p by omega]
  have hch : chunkN d s (p : Int) = some (i, x) := by
    unfold chunkN
    rw [if_pos ⟨by omega, by omega⟩, Int.toNat_natCast, p1, p2, if_pos ⟨ho, Nat.mul_mod_left _ _, by rw [p3]; exact hx⟩, p3]
  rw [hch]
  simp only
  rw [if_pos ⟨ht, hg⟩]
theorem hnd_next (p G : Nat) : hnd p (G + 1) = hnd p G + 4294967296 := by unfold hnd; omega
theorem placeN_lt {d : Cf} (ok : d.Ok) {k : Nat} (hk : k < d.nc) {t u : Nat} (h : t < u) : placeN d k t < placeN d k u := by
  obtain ⟨hn, -⟩ := n_pos ok hk
  have hz := (ok.sz k hk).1
  have e1 := dm_eq (d.n k) t
  have e2 := dm_eq (d.n k) u
  have x1 : t % d.n k < d.n k := Nat.mod_lt _ (by omega)
  have x2 : u % d.n k < d.n k := Nat.mod_lt _ (by omega)
  have hle : t / d.n k ≤ u / d.n k := Nat.div_le_div_right (by omega)
  unfold placeN
  rcases Nat.lt_or_ge (t / d.n k) (u / d.n k) with h1 | h1
  · obtain ⟨-, -, -, p4, -⟩ := place_of ok (i := t / d.n k) hk x1
    have h2 : (t / d.n k + 1) * d.ps ≤ u / d.n k * d.ps := Nat.mul_le_mul_right _ h1
    rw [Nat.succ_mul] at h2
    omega
  · have h2 : t / d.n k = u / d.n k := by omega
    rw [h2] at e1 ⊢
    have h3 : t % d.n k < u % d.n k := by omega
    have := Nat.mul_le_mul_right (d.sz k) (show t % d.n k + 1 ≤ u % d.n k from h3)
    rw [Nat.succ_mul] at this
    omega
end Go.Proofs.Ytdmclekohalolaa.Cls
/-
  What a Take makes of the chunks, in plain numbers: the new one is found, the others stay; two chunks share no byte.
-/
namespace Go.Proofs.Ytdmclekohalolaa.Cls
/-- Chunk x of page i is taken, of generation G, by class k, at place p. -/
structure Tkn (d : Cf) (s : St) (i x p k G : Nat) : Prop where
  iN : i < d.np
  ow : s.own i = true
  cl : s.cls i = k
  kN : k < d.nc
  xN : x < d.n k
  tk : s.tkn i x = true
  ge : s.gens i x = G
  pE : p = i * d.ps + x * d.sz k
theorem Tkn.find {d : Cf} (ok : d.Ok) {s : St} {i x p k G : Nat} (h : Tkn d s i x p k G) : findN d s (hnd p G) = some (i, x, p) := by
  obtain ⟨h1, h2, h3, h4, h5, h6, h7, h8⟩ := h
  subst h3 h8
  exact find_hnd ok h1 h2 h4 h5 h6 h7
theorem Tkn.of {d : Cf} (ok : d.Ok) {s : St} (g : Good d s) {H i x p : Nat} (h : findN d s H = some (i, x, p)) : Tkn d s i x p (s.cls i) (H / 4294967296) ∧ H = hnd p (H / 4294967296) := by
  obtain ⟨h1, h2, h3, h4, h5, h6, h7⟩ := findN_some g h
  refine ⟨⟨h1, h2, rfl, g.cls i h1 h2, h3, h4, h5, h6⟩, ?_⟩
  have hm : H % 4294967296 ≠ 0 := by
    intro e
    unfold findN at h
    rw [if_pos (.inl e)] at h
    cases h
  unfold hnd
  omega
/-- A place's bound. -/
theorem Tkn.fit {d : Cf} (ok : d.Ok) {s : St} {i x p k G : Nat} (h : Tkn d s i x p k G) : p + d.sz k ≤ (i + 1) * d.ps ∧ i * d.ps ≤ p ∧ (i + 1) * d.ps ≤ d.np * d.ps ∧ p % 8 = 0 ∧ p / d.ps = i ∧ p % d.ps = x * d.sz k ∧ x * d.sz k / d.sz k = x := by
  obtain ⟨p1, p2, p3, p4, p5⟩ := place_of ok (i := i) h.kN h.xN
  have hm : (i + 1) * d.ps ≤ d.np * d.ps := Nat.mul_le_mul_right _ h.iN
  have hps8 := ok.ps8
  have hp := h.pE
  rw [← hp] at p1 p2
  have h8 : p % 8 = 0 := by rw [hp, Nat.add_mod, Nat.mul_mod, hps8, Nat.mul_zero, Nat.zero_mod, p5]
  refine ⟨?_, by omega, hm, h8, p1, p2, p3⟩
  rw [Nat.succ_mul]
  omega
theorem Tkn.hlt {d : Cf} (ok : d.Ok) {s : St} (g : Good d s) {i x p k G : Nat} (h : Tkn d s i x p k G) : hnd p G < 18446744073709551616 ∧ hnd p G ≠ 0 ∧ hnd p G % 4294967296 = p / 8 + 1 ∧ hnd p G / 4294967296 = G ∧ p < 1073741824 := by
  obtain ⟨f1, f2, f3, f4, -⟩ := h.fit ok
  have hg := g.gen i x
  rw [h.ge] at hg
  have hb : d.np * d.ps ≤ 1024 * 1048576 := Nat.mul_le_mul ok.npb ok.psb
  have hz := (ok.sz k h.kN).1
  unfold hnd
  omega
/-- Two chunks share no byte. -/
theorem Tkn.apart {d : Cf} (ok : d.Ok) {s : St} {i x p k G i' x' p' k' G' : Nat} (h : Tkn d s i x p k G) (h' : Tkn d s i' x' p' k' G') (hne : p ≠ p') : p + d.sz k ≤ p' ∨ p' + d.sz k' ≤ p := by
  obtain ⟨f1, f2, f3, -⟩ := h.fit ok
  obtain ⟨e1, e2, e3, -⟩ := h'.fit ok
  rcases Nat.lt_trichotomy i i' with hi | hi | hi
  · left
    have : (i + 1) * d.ps ≤ i' * d.ps := Nat.mul_le_mul_right _ hi
    omega
  · subst hi
    have hk : k = k' := by rw [← h.cl, h'.cl]
    subst hk
    have hp := h.pE
    have hp' := h'.pE
    rcases Nat.lt_trichotomy x x' with hx | hx | hx
    · left
      have : (x + 1) * d.sz k ≤ x' * d.sz k := Nat.mul_le_mul_right _ hx
      rw [Nat.succ_mul] at this
      omega
    · subst hx; omega
    · right
      have : (x' + 1) * d.sz k ≤ x * d.sz k := Nat.mul_le_mul_right _ hx
      rw [Nat.succ_mul] at this
      omega
  · right
    have : (i' + 1) * d.ps ≤ i * d.ps := Nat.mul_le_mul_right _ hi
    omega
theorem Tkn.same {d : Cf} (ok : d.Ok) {s : St} {i x p k G i' x' k' G' : Nat} (h : Tkn d s i x p k G) (h' : Tkn d s i' x' p k' G') : i = i' ∧ x = x' ∧ k = k' ∧ G = G' := by
  obtain ⟨-, -, -, -, a1, a2, a3⟩ := h.fit ok
  obtain ⟨-, -, -, -, b1, b2, b3⟩ := h'.fit ok
  have hi : i = i' := by omega
  subst hi
  have hk : k = k' := by rw [← h.cl, h'.cl]
  subst hk
  have hx : x = x' := by rw [← a3, ← b3, ← a2, ← b2]
  subst hx
  exact ⟨rfl, rfl, rfl, by rw [← h.ge, h'.ge]⟩
/-- A page that comes to a class leaves the chunks of the others alone. -/
theorem Tkn.widen {d : Cf} {s : St} {i x p k G : Nat} (h : Tkn d s i x p k G) {c j : Nat} (hj : s.own j = false) : Tkn d (widenS d s c j) i x p k G := by
  have hij : i ≠ j := fun e => by rw [e] at h; rw [h.ow] at hj; cases hj
  refine ⟨h.iN, ?_, ?_, h.kN, h.xN, ?_, ?_, h.pE⟩
  · simp only [widenS, joinS, widen1, upd, if_neg hij]; exact h.ow
  · simp only [widenS, joinS, widen1, upd, if_neg hij]; exact h.cl
  · simp only [widenS, joinS, widen1, upd, if_neg hij]; exact h.tk
  · simp only [widenS, joinS, widen1, upd, if_neg hij]; exact h.ge
theorem Tkn.room {d : Cf} {s s1 : St} {i x p k G : Nat} (h : Tkn d s i x p k G) {c : Nat} (hr : roomS d s c = some s1) : Tkn d s1 i x p k G := by
  unfold roomS at hr
  split at hr
  · split at hr
    · rename_i j hj
      obtain ⟨-, h2, -⟩ := low_some hj
      cases hr
      exact h.widen h2
    · cases hr
  · cases hr
    exact h
theorem Tkn.take {d : Cf} {s : St} {i x p k G : Nat} (h : Tkn d s i x p k G) {c q : Nat} : Tkn d (takeS d s c q) i x p k G := by
  refine ⟨h.iN, h.ow, h.cl, h.kN, h.xN, ?_, h.ge, h.pE⟩
  simp only [takeS, upd]
  split
  · rename_i e
    unfold upd
    split
    · rfl
    · rw [← e]; exact h.tk
  · exact h.tk
/-- A Take. -/
theorem took {d : Cf} (ok : d.Ok) {s s1 : St} (g : Good d s) {k : Nat} (hk : k < d.nc) (hr : roomS d s k = some s1) {l : List Nat} {p : Nat} (hp : s1.free k = l ++ [p]) :
    Good d (takeS d s1 k p) ∧ Tkn d (takeS d s1 k p) (p / d.ps) (p % d.ps / d.sz k) p k (s1.gens (p / d.ps) (p % d.ps / d.sz k)) ∧ s1.tkn (p / d.ps) (p % d.ps / d.sz k) = false ∧
      ∀ {i x q c G : Nat}, Tkn d s i x q c G → Tkn d (takeS d s1 k p) i x q c G ∧ q ≠ p := by
  obtain ⟨g1, -⟩ := room_good ok g hk hr
  obtain ⟨i, x, h1, h2, h3, h4, h5, h6, h7, h8, h9⟩ := g1.last ok hk (show p ∈ s1.free k by rw [hp]; simp)
  rw [h8, h9]
  have T : Tkn d (takeS d s1 k p) i x p k (s1.gens i x) := by
    refine ⟨h1, h2, h3, hk, h5, ?_, rfl, h7⟩
    simp only [takeS, upd, h8, h9, if_true]
  refine ⟨g1.take ok hk hp, T, h6, fun {i' x' q c G} t => ?_⟩
  have t1 := t.room hr
  refine ⟨t1.take, fun e => ?_⟩
  subst e
  obtain ⟨e1, e2, -⟩ := Tkn.same ok t1.take T
  subst e1 e2
  rw [t1.tk] at h6
  cases h6
/-- A new Set has room. -/
theorem room_new {d : Cf} (ok : d.Ok) (k : Nat) : roomS d (new0 d) k = some (widenS d (new0 d) k 0) := by
  have hn := ok.np
  have : low d (new0 d) = some 0 := by
    unfold low
    obtain ⟨n, hn'⟩ : ∃ n, d.np = n + 1 := ⟨d.np - 1, by omega⟩
    rw [hn']
    rfl
  unfold roomS
  have e : (new0 d).free k = [] := rfl
  rw [e, this]
/-- .. and for a second one, if it has two pages. -/
theorem room_two {d : Cf} (ok : d.Ok) (h2 : 2 ≤ d.np) (k c p : Nat) : ∃ s1, roomS d (takeS d (widenS d (new0 d) k 0) k p) c = some s1 := by
  unfold roomS
  split
  · have hlow : low d (takeS d (widenS d (new0 d) k 0) k p) = some 1 := by
      unfold low
      obtain ⟨n, hn'⟩ : ∃ n, d.np = n + 2 := ⟨d.np - 2, by omega⟩
      rw [hn']
      simp [lowFrom, takeS, widenS, joinS, widen1, upd, new0]
    rw [hlow]
    exact ⟨_, rfl⟩
  · exact ⟨_, rfl⟩
end Go.Proofs.Ytdmclekohalolaa.Cls
/-
  What stands between the steps of ItemBack.
-/
namespace Go.Proofs.Ytdmclekohalolaa.Itm
open Go.RowKit Base Arena Cls Rel
set_option linter.unusedVariables false

theorem row_only {S : Nat → Prop} {w w' : World} (o : Only S w w') {A : Option Addr} {l : List UInt8} (h : Bytes w w.heap.size A l) (hs : l ≠ [] → ∀ b off, A = some ⟨b, off, none⟩ → ¬ S b) : Bytes w' w'.heap.size A l :=
  fun hl => let ⟨d, off, h1, h2, h3⟩ := only_bytes o h hs hl
  ⟨d, off, h1, Nat.lt_of_lt_of_le h2 o.size, h3⟩
theorem blk_put8' {w : World} {N : Nat} {t : TypeId} {c0 c1 c2 c3 c4 c5 c6 c7 : Value} (B : Blk w N t #[c0, c1, c2, c3, c4, c5, c6, c7]) (a b c d e f g h : Value) : Blk (put8 w N a b c d e f g h) N t #[a, b, c, d, e, f, g, h] := by
  have b0 : Blk _ N t #[a, c1, c2, c3, c4, c5, c6, c7] := B.set_ 0 a
  have b1 : Blk _ N t #[a, b, c2, c3, c4, c5, c6, c7] := b0.set_ 1 b
  have b2 : Blk _ N t #[a, b, c, c3, c4, c5, c6, c7] := b1.set_ 2 c
  have b3 : Blk _ N t #[a, b, c, d, c4, c5, c6, c7] := b2.set_ 3 d
  have b4 : Blk _ N t #[a, b, c, d, e, c5, c6, c7] := b3.set_ 4 e
  have b5 : Blk _ N t #[a, b, c, d, e, f, c6, c7] := b4.set_ 5 f
  have b6 : Blk _ N t #[a, b, c, d, e, f, g, c7] := b5.set_ 6 g
  have b7 : Blk _ N t #[a, b, c, d, e, f, g, h] := b6.set_ 7 h
  exact b7
structure IB (w0 w : World) (L : Lay) (c : Conf) (s : St) (bs : List UInt8) (NA NI : Nat) (ac : Array Value) (t : It) (A' Ac An : Option Addr) (nx : List UInt8) (c1 c2 : Nat) : Prop where
  set : SetAt w L c s bs
  arg : Blk w NA 39 ac
  it : Blk w NI 52 (t.cells A' Ac c1 c2)
  kB : Bytes w w.heap.size A' t.key
  vB : Bytes w w.heap.size Ac t.val
  nB : Bytes w w.heap.size An nx
  below : Below w0.heap.size w0 w
section
variable {w0 w w' : World} {L : Lay} {c : Conf} {s : St} {bs bs' : List UInt8} {NA NI : Nat} {ac : Array Value} {t : It} {A' Ac An : Option Addr} {nx : List UInt8} {c1 c2 : Nat}
theorem IB.step (S : IB w0 w L c s bs NA NI ac t A' Ac An nx c1 c2) (b : Below w.heap.size w w') : IB w0 w' L c s bs NA NI ac t A' Ac An nx c1 c2 :=
  ⟨S.set.kept fun d hd => b.block d (S.set.lt hd), S.arg.below b S.arg.lt, S.it.below b S.it.lt, bytes_go S.kB b, bytes_go S.vB b, bytes_go S.nB b, S.below.trans (b.mono S.below.size)⟩
theorem IB.drewN (S : IB w0 w L c s bs NA NI ac t A' Ac An nx c1 c2) (m : Nat) : IB w0 (w.drewN m) L c s bs NA NI ac t A' Ac An nx c1 c2 :=
  S.step ⟨rfl, rfl, rfl, Nat.le_refl _, fun _ _ => rfl⟩
/-- .. all of it lies below block B. -/
theorem IB.stepB (S : IB w0 w L c s bs NA NI ac t A' Ac An nx c1 c2) {B : Nat} (b : Below B w w') (hf : ∀ d, Foot L c s d → d < B) (hNA : NA < B) (hNI : NI < B) (h0 : w0.heap.size ≤ B)
    (hk : t.key ≠ [] → ∀ d off, A' = some ⟨d, off, none⟩ → d < B) (hv : t.val ≠ [] → ∀ d off, Ac = some ⟨d, off, none⟩ → d < B) (hn : nx ≠ [] → ∀ d off, An = some ⟨d, off, none⟩ → d < B) : IB w0 w' L c s bs NA NI ac t A' Ac An nx c1 c2 := by
  have lst : ∀ {A : Option Addr} {l : List UInt8}, Bytes w w.heap.size A l → (l ≠ [] → ∀ d off, A = some ⟨d, off, none⟩ → d < B) → Bytes w' w'.heap.size A l := fun {A l} h hl h0 => by
    obtain ⟨d, off, h1, h2, h3⟩ := h h0
    have hd := hl (by intro e; subst e; simp at h0) d off h1
    exact ⟨d, off, h1, Nat.lt_of_lt_of_le h2 b.size, fun j v hj => (b.cell (p := ⟨d, off + j, none⟩) hd).trans (h3 j v hj)⟩
  exact ⟨S.set.kept fun d hd => b.block d (hf d hd), S.arg.below b hNA, S.it.below b hNI, lst S.kB hk, lst S.vB hv, lst S.nB hn, S.below.trans (b.mono h0)⟩
/-- The lists that do not lie in the arena. -/
structure Far (w0 : World) (L : Lay) (NA NI : Nat) (t : It) (nx : List UInt8) (A' Ac An : Option Addr) : Prop where
  h : w0.heap.size ≤ L.ha
  na : NA ≠ L.ha
  ni : NI ≠ L.ha
  k : t.key ≠ [] → ∀ b off, A' = some ⟨b, off, none⟩ → b ≠ L.ha
  v : t.val ≠ [] → ∀ b off, Ac = some ⟨b, off, none⟩ → b ≠ L.ha
  n : nx ≠ [] → ∀ b off, An = some ⟨b, off, none⟩ → b ≠ L.ha
theorem IB.laid (S : IB w0 w L c s bs NA NI ac t A' Ac An nx c1 c2) (F : Far w0 L NA NI t nx A' Ac An) (M : SetAt w' L c s bs') (o : Only (· = L.ha) w w') : IB w0 w' L c s bs' NA NI ac t A' Ac An nx c1 c2 :=
  ⟨M, o.at_ S.arg F.na, o.at_ S.it F.ni, row_only o S.kB F.k, row_only o S.vB F.v, row_only o S.nB F.n, S.below.trans (o.toBelow fun k hk => ⟨Nat.lt_of_lt_of_le hk S.below.size, by have := F.h; omega⟩)⟩
end
/-- A chunk's bytes stand where another chunk, or what lies ahead of them, is laid. -/
theorem gen_lay {l : List UInt8} {p : Nat} {I : Whole} (h : p + (58 + I.t.key.length + I.t.val.length) ≤ l.length) : ((lay l p I.enc).drop (p + 12)).take 4 = putB 4 I.gen := by
  have := (Seg.at_ (Has.lay_ l p I h) 3 _ rfl).1
  rw [putB_len] at this
  exact this
theorem enc_take {l : List UInt8} {p n : Nat} {I : Whole} (h : p + n ≤ l.length) (hn : 58 + I.t.key.length + I.t.val.length ≤ n) : (((lay l p I.enc).drop p).take n).take (58 + I.t.key.length + I.t.val.length) = I.enc := by
  rw [List.take_take, Nat.min_eq_left hn]
  have := piece_lay l p I.enc (by rw [I.enc_len]; omega)
  rw [I.enc_len] at this
  exact this
theorem rest_same {l : List UInt8} {p n m : Nat} {q : List UInt8} (h : p + n ≤ l.length) (hq : q.length = m) (hm : m ≤ n) : (((lay l p q).drop p).take n).drop m = ((l.drop p).take n).drop m := by
  apply List.ext_getElem?
  intro j
  rw [List.getElem?_drop, List.getElem?_drop, piece_get, piece_get]
  split
  · rw [lay_get _ _ _ (by omega), if_neg (by omega)]
  · rfl
theorem lay_lay {l : List UInt8} {p : Nat} {q r : List UInt8} (h : p + r.length ≤ l.length) (hq : q.length ≤ r.length) : lay (lay l p q) p r = lay l p r := by
  apply List.ext_getElem?
  intro j
  have e : (lay l p q).length = l.length := lay_len _ _ _ (by omega)
  rw [lay_get _ _ _ (by omega), lay_get _ _ _ (by omega), lay_get _ _ _ (by omega)]
  split
  · rfl
  · rw [if_neg (by omega)]
end Go.Proofs.Ytdmclekohalolaa.Itm
/-
  What ItemBack looks at behind each Lay (printed by wip/gen_back.py).
-/
namespace Go.Proofs.Ytdmclekohalolaa.Itm
open Go.RowKit Base Arena Cls Rel
set_option linter.unusedVariables false

/-- Ahead of the look: the chunk as it was and as it is, the item told. -/
structure IBL (w0 w : World) (L : Lay) (c : Conf) (s : St) (bs : List UInt8) (NA NI : Nat) (ac : Array Value) (t : It) (A' Ac An : Option Addr) (nx : List UInt8) (cc1 cc2 : Nat) (NG g1 g2 bn bw : Nat) (ln lw : List UInt8) : Prop where
  ib : IB w0 w L c s bs NA NI ac t A' Ac An nx cc1 cc2
  got : Blk w NG 52 (t.cells (some ⟨g1, 0, none⟩) (some ⟨g2, 0, none⟩) t.key.length t.val.length)
  g1 : BB w 5 g1 t.key
  g2 : BB w 5 g2 t.val
  now : BB w 5 bn ln
  was : BB w 5 bw lw
theorem IBL.step {w0 w w' : World} {L : Lay} {c : Conf} {s : St} {bs : List UInt8} {NA NI : Nat} {ac : Array Value} {t : It} {A' Ac An : Option Addr} {nx : List UInt8} {cc1 cc2 NG g1 g2 bn bw : Nat} {ln lw : List UInt8} (S : IBL w0 w L c s bs NA NI ac t A' Ac An nx cc1 cc2 NG g1 g2 bn bw ln lw) (b : Below w.heap.size w w') :
    IBL w0 w' L c s bs NA NI ac t A' Ac An nx cc1 cc2 NG g1 g2 bn bw ln lw := ⟨S.ib.step b, S.got.below b S.got.lt, BB.go S.g1 b, BB.go S.g2 b, BB.go S.now b, BB.go S.was b⟩
theorem IBL.drew {w0 w : World} {L : Lay} {c : Conf} {s : St} {bs : List UInt8} {NA NI : Nat} {ac : Array Value} {t : It} {A' Ac An : Option Addr} {nx : List UInt8} {cc1 cc2 NG g1 g2 bn bw : Nat} {ln lw : List UInt8} (S : IBL w0 w L c s bs NA NI ac t A' Ac An nx cc1 cc2 NG g1 g2 bn bw ln lw) :
    IBL w0 w.drew L c s bs NA NI ac t A' Ac An nx cc1 cc2 NG g1 g2 bn bw ln lw := S.step ⟨rfl, rfl, rfl, Nat.le_refl _, fun _ _ => rfl⟩
/-- A slice's end. -/
theorem rest_bytes {w : World} {b room m : Nat} {l : List UInt8} {X : Option Addr} (hb : BB w 5 b l) (hX : X = if room = m then some ⟨b, 0, none⟩ else some ⟨b, m, none⟩) (hl : l.length = room) (hm : m ≤ room) : Bytes w w.heap.size X (l.drop m) := by
  have e : (l.drop m).take (room - m) = l.drop m := List.take_of_length_le (by simp; omega)
  have := hb.piece w.heap.size m (room - m) hb.lt (by omega) X (fun h => by rw [hX, if_neg (by omega)])
  rw [e] at this
  exact this
theorem IBL.eq_ {w0 w : World} {L : Lay} {c : Conf} {s : St} {bs : List UInt8} {NA NI : Nat} {ac : Array Value} {t : It} {A' Ac An : Option Addr} {nx : List UInt8} {cc1 cc2 NG g1 g2 bn bw : Nat} {ln lw : List UInt8} (S : IBL w0 w L c s bs NA NI ac t A' Ac An nx cc1 cc2 NG g1 g2 bn bw ln lw) : Calls Try.prog 28 #[.agg #[.slice (some ⟨g1, 0, none⟩) t.key.length t.key.length, .slice (some ⟨g2, 0, none⟩) t.val.length t.val.length, .int .u64 (t.fl : Int), .int .i64 (t.ex : Int), .int .i64 (t.tc : Int), .int .u64 (t.tk : Int), .int .i64 (t.st : Int), .int .i64 (t.ms : Int)], .agg #[.slice A' t.key.length cc1, .slice Ac t.val.length cc2, .int .u64 (t.fl : Int), .int .i64 (t.ex : Int), .int .i64 (t.tc : Int), .int .u64 (t.tk : Int), .int .i64 (t.st : Int), .int .i64 (t.ms : Int)]] w fun e w' => e = .returned (.bool true) ∧ Below w.heap.size w w' :=
  equalTrueC w t (some ⟨g1, 0, none⟩) (some ⟨g2, 0, none⟩) A' Ac t.key.length t.val.length cc1 cc2 (S.g1.all w.heap.size S.g1.lt) (S.g2.all w.heap.size S.g2.lt) S.ib.kB S.ib.vB
theorem IBL.lo_ {w0 w : World} {L : Lay} {c : Conf} {s : St} {bs : List UInt8} {NA NI : Nat} {ac : Array Value} {t : It} {A' Ac An : Option Addr} {nx : List UInt8} {cc1 cc2 NG g1 g2 bn bw : Nat} {ln lw : List UInt8} (S : IBL w0 w L c s bs NA NI ac t A' Ac An nx cc1 cc2 NG g1 g2 bn bw ln lw) {q G m room : Nat} (hroom : ln.length = room) (hr : room ≤ 1048576) (F : t.Fine) (hg : G < 4294967296) (hc : q < 256) (hm : m = 58 + t.key.length + t.val.length) (hmr : m ≤ room) (hE : ln.take m = Whole.enc ⟨0, 0, 0, G, q, t⟩) :
    Calls Try.prog 29 #[.slice (some ⟨bn, 0, none⟩) m room, .agg #[.slice A' t.key.length cc1, .slice Ac t.val.length cc2, .int .u64 (t.fl : Int), .int .i64 (t.ex : Int), .int .i64 (t.tc : Int), .int .u64 (t.tk : Int), .int .i64 (t.st : Int), .int .i64 (t.ms : Int)], .int .i64 (q : Int), .int .u64 (G : Int)] w fun e w' => e = .returned (.bool true) ∧ Below w.heap.size w w' :=
  laidOutC w bn room m ln S.now hroom hr ⟨0, 0, 0, G, q, t⟩ rfl rfl rfl F hg hc hm hmr hE A' Ac cc1 cc2 S.ib.kB S.ib.vB
theorem IBL.rq_ {w0 w : World} {L : Lay} {c : Conf} {s : St} {bs : List UInt8} {NA NI : Nat} {ac : Array Value} {t : It} {A' Ac An : Option Addr} {nx : List UInt8} {cc1 cc2 NG g1 g2 bn bw : Nat} {ln lw : List UInt8} (S : IBL w0 w L c s bs NA NI ac t A' Ac An nx cc1 cc2 NG g1 g2 bn bw ln lw) {m room : Nat} {XN XW : Option Addr} (hroom : ln.length = room) (hroomw : lw.length = room) (hmr : m ≤ room) (hXN : XN = if room = m then some ⟨bn, 0, none⟩ else some ⟨bn, m, none⟩) (hXW : XW = if room = m then some ⟨bw, 0, none⟩ else some ⟨bw, m, none⟩) (hrest : ln.drop m = lw.drop m) :
    Calls Try.prog 26 #[.slice XN (room - m) (room - m), .slice XW (room - m) (room - m)] w fun e w' => e = .returned (.bool true) ∧ w = w' := by
  have hdl : (ln.drop m).length = room - m := by simp; omega
  have := eqTrueC XN XW (room - m) (room - m) (ln.drop m) w (rest_bytes S.now hXN hroom hmr) (by rw [hrest]; exact rest_bytes S.was hXW hroomw hmr)
  rw [hdl] at this
  exact this
theorem IBL.cl {w0 w : World} {L : Lay} {c : Conf} {s : St} {bs : List UInt8} {NA NI : Nat} {ac : Array Value} {t : It} {A' Ac An : Option Addr} {nx : List UInt8} {cc1 cc2 NG g1 g2 bn bw : Nat} {ln lw : List UInt8} (S : IBL w0 w L c s bs NA NI ac t A' Ac An nx cc1 cc2 NG g1 g2 bn bw ln lw) (p : Regrown) : (Go.Sort.grow (redrawn w p.d) p.os).cell? ⟨NI, 0, none⟩ = some (.slice A' t.key.length cc1) := cell_regrown (it_cells S.ib.it).1 _ _
end Go.Proofs.Ytdmclekohalolaa.Itm
