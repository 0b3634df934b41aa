/-
  Contracts and lemmas, joined: ItemRead, ItemSame, ItemBegun, ItemBegun2, ItemLays.
-/
import Derived.Test.YtdmclekohalolaaJ4
import Derived.Test.YtdmclekohalolaaJ5
import Derived.Test.YtdmclekohalolaaJ6
set_option linter.unusedSimpArgs false
set_option linter.unusedVariables false
/-
  item.Read of a chunk that has an item (printed by wip/gen_read.py).
-/
namespace Go.Proofs.Ytdmclekohalolaa.Itm
open Go.RowKit Base Arena Cls Rel
set_option linter.unusedVariables false

section
variable {B : Nat} {w0 w w' : World} {L : Lay} {c : Conf} {s : St} {bs : List UInt8} {N H i x p k n : Nat}
theorem OS.get8 (S : OS B w0 w L c s bs N p k n) (K : Chk c s bs.length H i x p k n) (o : Nat) (ho : o + 1 ≤ 56) {V : Nat} (hV : V = rd bs (p + o) 1) :
    Calls Try.prog 69 #[.agg #[.pointer (some ⟨L.ga, 0, none⟩), .int .i64 (p : Int), .int .i64 (k : Int), .int .i64 (n : Int)], .int .i64 (o : Int)] w fun e w' => e = .returned (.int .u8 (V : Int)) ∧ Below w.heap.size w w' := by
  rw [hV]; exact get8C w L.ga L.ha c.cf.ps bs S.at_ p o k n (K.ck.there o 1 (by have := K.n64; omega))
theorem OS.get32 (S : OS B w0 w L c s bs N p k n) (K : Chk c s bs.length H i x p k n) (o : Nat) (ho : o + 4 ≤ 56) {V : Nat} (hV : V = rd bs (p + o) 4) :
    Calls Try.prog 67 #[.agg #[.pointer (some ⟨L.ga, 0, none⟩), .int .i64 (p : Int), .int .i64 (k : Int), .int .i64 (n : Int)], .int .i64 (o : Int)] w fun e w' => e = .returned (.int .u32 (V : Int)) ∧ Below w.heap.size w w' := by
  rw [hV]; exact get32C w L.ga L.ha c.cf.ps bs S.at_ p o k n (K.ck.there o 4 (by have := K.n64; omega))
theorem OS.get64 (S : OS B w0 w L c s bs N p k n) (K : Chk c s bs.length H i x p k n) (o : Nat) (ho : o + 8 ≤ 56) {V : Nat} (hV : V = rd bs (p + o) 8) :
    Calls Try.prog 68 #[.agg #[.pointer (some ⟨L.ga, 0, none⟩), .int .i64 (p : Int), .int .i64 (k : Int), .int .i64 (n : Int)], .int .i64 (o : Int)] w fun e w' => e = .returned (.int .u64 (V : Int)) ∧ Below w.heap.size w w' := by
  rw [hV]; exact get64C w L.ga L.ha c.cf.ps bs S.at_ p o k n (K.ck.there o 8 (by have := K.n64; omega))
theorem OS.read (S : OS B w0 w L c s bs N p k n) (K : Chk c s bs.length H i x p k n) (o m : Nat) (hm : o + m ≤ n) {E : List UInt8} (hE : E = (bs.drop (p + o)).take m) :
    Calls Try.prog 65 #[.agg #[.pointer (some ⟨L.ga, 0, none⟩), .int .i64 (p : Int), .int .i64 (k : Int), .int .i64 (n : Int)], .int .i64 (o : Int), .int .i64 (m : Int)] w fun e w' => e = .returned (.slice (some ⟨w.heap.size + 1, 0, none⟩) m m) ∧ BB w' 5 (w.heap.size + 1) E ∧ Below w.heap.size w w' := by
  rw [hE]; exact readC w L.ga L.ha c.cf.ps bs S.at_ p o m k n K.ck hm
end
theorem le_r (w : World) : Below w.heap.size w w := Below.refl _ _
/-- The two lists are not one. -/
def sep (x y i j : Nat) (v u : Value) : Prop := ∀ (b b' n n' c c' : Nat), i = x → j = y → v = .slice (some ⟨b, 0, none⟩) n c → u = .slice (some ⟨b', 0, none⟩) n' c' → b ≠ b'

structure RS (w0 w : World) (L : Lay) (c : Conf) (s : St) (bs : List UInt8) (N N1 p k n : Nat) : Prop where
  os : OS N w0 w L c s bs N1 p k n
  blk : Blk w N 52 zi
theorem RS.step {w0 w w' : World} {L : Lay} {c : Conf} {s : St} {bs : List UInt8} {N N1 p k n : Nat} (S : RS w0 w L c s bs N N1 p k n) (b : Below w.heap.size w w') : RS w0 w' L c s bs N N1 p k n := ⟨S.os.step b, S.blk.below b S.blk.lt⟩
theorem RS.drew {w0 w : World} {L : Lay} {c : Conf} {s : St} {bs : List UInt8} {N N1 p k n : Nat} (S : RS w0 w L c s bs N N1 p k n) : RS w0 w.drew L c s bs N N1 p k n := ⟨S.os.drewN 1, S.blk.drew⟩
theorem RS.big {w0 w : World} {L : Lay} {c : Conf} {s : St} {bs : List UInt8} {N N1 p k n : Nat} (S : RS w0 w L c s bs N N1 p k n) : N < w.heap.size := S.blk.lt
theorem BB.go {w w' : World} {t : TypeId} {b : Nat} {l : List UInt8} (h : BB w t b l) (k : Below w.heap.size w w') : BB w' t b l := (k.block b h.lt).trans h
theorem bb_far {w : World} {t : TypeId} {b : Nat} {l : List UInt8} (h : BB w t b l) {q : Addr} (hq : b ≠ q.block) (v : Value) : BB (w.setCell q v) t b l := by
  exact (Below.heap_setCell w q v b hq).trans h
theorem put8_far {w : World} {t : TypeId} {b N : Nat} {l : List UInt8} (B : BB w t b l) (hb : b ≠ N) (a1 a2 a3 a4 a5 a6 a7 a8 : Value) : BB (put8 w N a1 a2 a3 a4 a5 a6 a7 a8) t b l :=
  (bb_far (bb_far (bb_far (bb_far (bb_far (bb_far (bb_far (bb_far B (q := ⟨N, 0, none⟩) hb a1) (q := ⟨N, 1, none⟩) hb a2) (q := ⟨N, 2, none⟩) hb a3) (q := ⟨N, 3, none⟩) hb a4) (q := ⟨N, 4, none⟩) hb a5) (q := ⟨N, 5, none⟩) hb a6) (q := ⟨N, 6, none⟩) hb a7) (q := ⟨N, 7, none⟩) hb a8)
def readF (N V U V1 r40 r16 r24 r32 r45 r46 : Nat) (E0 E1 : List UInt8) (L : Lay) (p k n : Nat) : Nat → Value → World → Prop
  | 0, v, w => v = .agg #[.pointer (some ⟨L.ga, 0, none⟩), .int .i64 (p : Int), .int .i64 (k : Int), .int .i64 (n : Int)]
  | 1, v, w => v = .agg #[.pointer (some ⟨L.ga, 0, none⟩), .int .i64 (p : Int), .int .i64 (k : Int), .int .i64 (n : Int)]
  | 2, v, w => v = .int .i64 (V : Int)
  | 3, v, w => ∃ b, v = .slice (some ⟨b, 0, none⟩) V V ∧ N < b ∧ BB w 5 b E0
  | 4, v, w => v = .agg #[.pointer (some ⟨L.ga, 0, none⟩), .int .i64 (p : Int), .int .i64 (k : Int), .int .i64 (n : Int)]
  | 5, v, w => v = .agg #[.pointer (some ⟨L.ga, 0, none⟩), .int .i64 (p : Int), .int .i64 (k : Int), .int .i64 (n : Int)]
  | 6, v, w => v = .int .i64 (V : Int)
  | 7, v, w => v = .int .i64 (V1 : Int)
  | 8, v, w => v = .agg #[.pointer (some ⟨L.ga, 0, none⟩), .int .i64 (p : Int), .int .i64 (k : Int), .int .i64 (n : Int)]
  | 9, v, w => v = .int .i64 (U : Int)
  | 10, v, w => ∃ b, v = .slice (some ⟨b, 0, none⟩) U U ∧ N < b ∧ BB w 5 b E1
  | 11, v, w => v = .agg #[.pointer (some ⟨L.ga, 0, none⟩), .int .i64 (p : Int), .int .i64 (k : Int), .int .i64 (n : Int)]
  | 12, v, w => v = .int .u32 (r40 : Int)
  | 13, v, w => v = .int .u64 (r40 : Int)
  | 14, v, w => v = .agg #[.pointer (some ⟨L.ga, 0, none⟩), .int .i64 (p : Int), .int .i64 (k : Int), .int .i64 (n : Int)]
  | 15, v, w => v = .int .u64 (r16 : Int)
  | 16, v, w => v = .int .i64 (r16 : Int)
  | 17, v, w => v = .agg #[.pointer (some ⟨L.ga, 0, none⟩), .int .i64 (p : Int), .int .i64 (k : Int), .int .i64 (n : Int)]
  | 18, v, w => v = .int .u64 (r24 : Int)
  | 19, v, w => v = .int .i64 (r24 : Int)
  | 20, v, w => v = .agg #[.pointer (some ⟨L.ga, 0, none⟩), .int .i64 (p : Int), .int .i64 (k : Int), .int .i64 (n : Int)]
  | 21, v, w => v = .int .u64 (r32 : Int)
  | 22, v, w => v = .agg #[.pointer (some ⟨L.ga, 0, none⟩), .int .i64 (p : Int), .int .i64 (k : Int), .int .i64 (n : Int)]
  | 23, v, w => v = .int .u8 (r45 : Int)
  | 24, v, w => v = .int .i64 (r45 : Int)
  | 25, v, w => v = .agg #[.pointer (some ⟨L.ga, 0, none⟩), .int .i64 (p : Int), .int .i64 (k : Int), .int .i64 (n : Int)]
  | 26, v, w => v = .int .u8 (r46 : Int)
  | 27, v, w => v = .int .i64 (r46 : Int)
  | 28, v, w => ∃ b b', v = .agg #[.slice (some ⟨b, 0, none⟩) V V, .slice (some ⟨b', 0, none⟩) U U, .int .u64 (r40 : Int), .int .i64 (r16 : Int), .int .i64 (r24 : Int), .int .u64 (r32 : Int), .int .i64 (r45 : Int), .int .i64 (r46 : Int)] ∧ N < b ∧ N < b' ∧ b ≠ b' ∧ BB w 5 b E0 ∧ BB w 5 b' E1
  | _, _, _ => True
set_option maxRecDepth 100000 in
theorem readF_go {N V U V1 r40 r16 r24 r32 r45 r46 : Nat} {E0 E1 : List UInt8} {L : Lay} {p k n : Nat} : ∀ j u w w', readF N V U V1 r40 r16 r24 r32 r45 r46 E0 E1 L p k n j u w → Below w.heap.size w w' → readF N V U V1 r40 r16 r24 r32 r45 r46 E0 E1 L p k n j u w' := by
  intro j u w w' h b
  match j, h with
  | 0, h => exact h
  | 1, h => exact h
  | 2, h => exact h
  | 3, ⟨x, h1, h2, h3⟩ => exact ⟨x, h1, h2, BB.go h3 b⟩
  | 4, h => exact h
  | 5, h => exact h
  | 6, h => exact h
  | 7, h => exact h
  | 8, h => exact h
  | 9, h => exact h
  | 10, ⟨x, h1, h2, h3⟩ => exact ⟨x, h1, h2, BB.go h3 b⟩
  | 11, h => exact h
  | 12, h => exact h
  | 13, h => exact h
  | 14, h => exact h
  | 15, h => exact h
  | 16, h => exact h
  | 17, h => exact h
  | 18, h => exact h
  | 19, h => exact h
  | 20, h => exact h
  | 21, h => exact h
  | 22, h => exact h
  | 23, h => exact h
  | 24, h => exact h
  | 25, h => exact h
  | 26, h => exact h
  | 27, h => exact h
  | 28, ⟨x, x', h1, h2, h3, h4, h5, h6⟩ => exact ⟨x, x', h1, h2, h3, h4, BB.go h5 b, BB.go h6 b⟩
  | j + 29, _ => exact trivial
set_option maxRecDepth 100000 in
set_option maxHeartbeats 4000000 in
theorem readYes (w : World) (L : Lay) (c : Conf) (s : St) (bs : List UInt8) (h : SetAt w L c s bs) (g : Cls.Good c.cf s) {H i x p k n : Nat} (K0 : Chk c s bs.length H i x p k n) (V U : Nat) (hV : V = rd bs (p + 44) 1) (hU : U = rd bs (p + 48) 4) (h44 : V ≠ 0) (hfit : 58 + V + U ≤ n)
    (hx : rd bs (p + 16) 8 < 9223372036854775808) (ht : rd bs (p + 24) 8 < 9223372036854775808) :
    Calls Try.prog 27 #[.pointer (some ⟨L.g, 0, none⟩), .int .u64 (H : Int)] w fun e w' => Below w.heap.size w w' ∧ ∃ b b', e = .returned (.tuple #[.agg #[.slice (some ⟨b, 0, none⟩) V V, .slice (some ⟨b', 0, none⟩) U U, .int .u64 ((rd bs (p + 40) 4 : Nat) : Int), .int .i64 ((rd bs (p + 16) 8 : Nat) : Int), .int .i64 ((rd bs (p + 24) 8 : Nat) : Int), .int .u64 ((rd bs (p + 32) 8 : Nat) : Int), .int .i64 ((rd bs (p + 45) 1 : Nat) : Int), .int .i64 ((rd bs (p + 46) 1 : Nat) : Int)], .int .i64 0]) ∧
      w.heap.size < b ∧ w.heap.size < b' ∧ b ≠ b' ∧ BB w' 5 b ((bs.drop (p + 56)).take V) ∧ BB w' 5 b' ((bs.drop (p + (56 + V))).take U) := by
  obtain ⟨w1, hw1⟩ : ∃ w1, w1 = w.alloc (.cells zi 52) := ⟨_, rfl⟩
  have B1 : Blk w1 w.heap.size 52 zi := by rw [hw1]; exact Blk.new w _ _
  have b1 : Below w.heap.size w w1 := by rw [hw1]; exact (Below.refl _ _).alloc (Nat.le_refl _) _
  have s1 : w1.heap.size = w.heap.size + 1 := by rw [hw1]; exact World.size_alloc _ _
  have h1 : SetAt w1 L c s bs := by rw [hw1]; exact h.alloc _
  have OC := openK w1 L c s bs h1 g K0
  rw [kv_eq] at OC
  rw [zi_eq] at hw1
  obtain ⟨r40, hr40⟩ : ∃ r, r = rd bs (p + 40) 4 := ⟨_, rfl⟩
  obtain ⟨r16, hr16⟩ : ∃ r, r = rd bs (p + 16) 8 := ⟨_, rfl⟩
  obtain ⟨r24, hr24⟩ : ∃ r, r = rd bs (p + 24) 8 := ⟨_, rfl⟩
  obtain ⟨r32, hr32⟩ : ∃ r, r = rd bs (p + 32) 8 := ⟨_, rfl⟩
  obtain ⟨r45, hr45⟩ : ∃ r, r = rd bs (p + 45) 1 := ⟨_, rfl⟩
  obtain ⟨r46, hr46⟩ : ∃ r, r = rd bs (p + 46) 1 := ⟨_, rfl⟩
  obtain ⟨E0, hE0⟩ : ∃ E, E = (bs.drop (p + 56)).take V := ⟨_, rfl⟩
  obtain ⟨V1, hV1⟩ : ∃ V1, V1 = 56 + V := ⟨_, rfl⟩
  rw [← hr16] at hx
  rw [← hr24] at ht
  have l40 := rd_lt bs (p + 40) 4
  have l45 := rd_lt bs (p + 45) 1
  have l46 := rd_lt bs (p + 46) 1
  rw [← hr40] at l40
  rw [← hr45] at l45
  rw [← hr46] at l46
  rw [← hr40, ← hr16, ← hr24, ← hr32, ← hr45, ← hr46, ← hE0, ← hV1]
  obtain ⟨E1, hE1⟩ : ∃ E, E = (bs.drop (p + V1)).take U := ⟨_, rfl⟩
  rw [← hE1]
  have d1 : decide ((V : Int) = 0) = false := decide_eq_false (by omega)
  have d2 : ((V : Int) == 0) = false := by rw [beq_eq_false_iff_ne]; omega
  have hnb := K0.nb
  have q0 : IntKind.i64.wrap (56 + (V : Int)) = (V1 : Int) := by rw [IntWalk.i64_in _ (by omega)]; omega
  have q1 : IntKind.u64.wrap (r40 : Int) = (r40 : Int) := IntWalk.u64_in _ (by omega)
  have q2 : IntKind.i64.wrap (r16 : Int) = (r16 : Int) := IntWalk.i64_in _ (by omega)
  have q3 : IntKind.i64.wrap (r24 : Int) = (r24 : Int) := IntWalk.i64_in _ (by omega)
  have q4 : IntKind.i64.wrap (r45 : Int) = (r45 : Int) := IntWalk.i64_in _ (by omega)
  have q5 : IntKind.i64.wrap (r46 : Int) = (r46 : Int) := IntWalk.i64_in _ (by omega)
  have hf1 : 56 + V ≤ n := by omega
  have hf2 : V1 + U ≤ n := by omega
  clear h44 hx ht l40 l45 l46 hfit hnb hV1
  replace OC := Lib.hid OC
  replace hw1 := Lib.hid hw1
  replace s1 := Lib.hid s1
  replace b1 := Lib.hid b1
  replace B1 := Lib.hid B1
  replace h1 := Lib.hid h1
  replace K0 := Lib.hid K0
  replace hV := Lib.hid hV
  replace hU := Lib.hid hU
  replace hr40 := Lib.hid hr40
  replace hr16 := Lib.hid hr16
  replace hr24 := Lib.hid hr24
  replace hr32 := Lib.hid hr32
  replace hr45 := Lib.hid hr45
  replace hr46 := Lib.hid hr46
  replace hE0 := Lib.hid hE0
  replace hE1 := Lib.hid hE1
  clear h g
  generalize hN : w.heap.size = N at *
  replace hN := Lib.hid hN
  go_enter Try.func27, Try.ntmps27
  go_upto_region 1 with fail
  rw [hN.out, ← hw1.out]
  go_wp2_with fail
  refine OC.out.mono ?_
  rintro e w2 ⟨rfl, b2⟩
  have B2 := B1.out.below b2 (by have := s1.out; omega)
  have b12 := b1.out.trans (b2.mono (B' := N) (by have := s1.out; omega))
  obtain ⟨w3, hw3⟩ : ∃ w3, w3 = w2.alloc (.cells #[.pointer (some ⟨L.ga, 0, none⟩), .int .i64 (p : Int), .int .i64 (k : Int), .int .i64 (n : Int)] 117) := ⟨_, rfl⟩
  have S : RS w w3 L c s bs N w2.heap.size p k n := by
    rw [hw3]; exact ⟨OS.op p k n h1.out b2 b12 (by have h1 : w1.heap.size ≤ w2.heap.size := b2.size; have h2 : w1.heap.size = N + 1 := s1.out; omega), B2.alloc _⟩
  obtain ⟨y0, y1, y2, y3⟩ := S.os.cells
  have KC := Lib.hid (S.os.key K0.out hV.out)
  replace S := Lib.hid S
  replace hw3 := Lib.hid hw3
  clear b12 b2 B2 OC hw1 B1 b1
  generalize hN2 : w2.heap.size = N1 at *
  replace hN2 := Lib.hid hN2
  go_upto_region 2 with fail
  rw [hN2.out, ← hw3.out]
  clear hN2 hw3
  go_wp2_with fail
  refine KC.out.mono ?_
  rintro e w4 ⟨rfl, b4⟩
  replace S := Lib.hid (S.out.step b4)
  clear KC b4 y0 y1 y2 y3
  go_upto_region 4 with fail
  have psi_ok : ∀ (i : Nat) {v : Value} {w : World}, i ≠ 3 ∧ i ≠ 10 → ∀ j u, j < 29 → j ≠ i → readF N V U V1 r40 r16 r24 r32 r45 r46 E0 E1 L p k n j u w → sep 3 10 i j v u ∧ sep 3 10 j i u v := fun i v w hi j u _ _ _ => ⟨fun _ _ _ _ _ _ h => absurd h hi.1, fun _ _ _ _ _ _ _ h => absurd h hi.2⟩
  refine region_each 29 (fun w w' => Below w.heap.size w w') (fun v => RS w v L c s bs N N1 p k n) (readF N V U V1 r40 r16 r24 r32 r45 r46 E0 E1 L p k n) (sep 3 10) (by kernel_rfl) (by kernel_rfl) S.out.drew readF_go ?_ ?_
  · refine ⟨?_, ?_, ?_, ?_, ?_, ?_, ?_, ?_, ?_, ?_, ?_, ?_, ?_, ?_, ?_, ?_, ?_, ?_, ?_, ?_, ?_, ?_, ?_, ?_, ?_, ?_, ?_, ?_, ?_, trivial⟩
    · intro listed a w I hr K hK
      replace S := I.world
      have e6 : a.tmps[6]?.getD undef = .pointer (some ⟨N1, 0, none⟩) := (Array.getD_eq_getD_getElem? ..).symm.trans (I.slot 6 (by kernel_rfl))
      refine want_none rfl ?_
      have C := S.os.cells
      obtain ⟨x0, x1, x2, x3⟩ := C
      clear hr I
      go_simp
      exact hK _ _ S (le_r _) rfl (psi_ok _ ⟨by decide, by decide⟩)
    · intro listed a w I hr K hK
      replace S := I.world
      have e6 : a.tmps[6]?.getD undef = .pointer (some ⟨N1, 0, none⟩) := (Array.getD_eq_getD_getElem? ..).symm.trans (I.slot 6 (by kernel_rfl))
      refine want_none rfl ?_
      have C := S.os.cells
      obtain ⟨x0, x1, x2, x3⟩ := C
      clear hr I
      go_simp
      exact hK _ _ S (le_r _) rfl (psi_ok _ ⟨by decide, by decide⟩)
    · intro listed a w I hr K hK
      replace S := I.world
      have e24 : a.tmps[24]?.getD undef = .agg #[.pointer (some ⟨L.ga, 0, none⟩), .int .i64 (p : Int), .int .i64 (k : Int), .int .i64 (n : Int)] := (Array.getD_eq_getD_getElem? ..).symm.trans (I.dep hr 1 _ (by decide) rfl (by kernel_rfl))
      refine want_none rfl ?_
      have C := S.os.key K0.out hV.out
      clear hr I
      go_simp
      refine C.mono ?_
      rintro e w' ⟨rfl, b2⟩
      exact hK _ _ (S.step b2) b2 rfl (psi_ok _ ⟨by decide, by decide⟩)
    · intro listed a w I hr K hK
      replace S := I.world
      have e23 : a.tmps[23]?.getD undef = .agg #[.pointer (some ⟨L.ga, 0, none⟩), .int .i64 (p : Int), .int .i64 (k : Int), .int .i64 (n : Int)] := (Array.getD_eq_getD_getElem? ..).symm.trans (I.dep hr 0 _ (by decide) rfl (by kernel_rfl))
      have e25 : a.tmps[25]?.getD undef = .int .i64 (V : Int) := (Array.getD_eq_getD_getElem? ..).symm.trans (I.dep hr 2 _ (by decide) rfl (by kernel_rfl))
      refine want_none rfl ?_
      have C := S.os.read K0.out 56 V (by omega) hE0.out
      have hs := S.big
      clear hr I
      go_simp
      refine C.mono ?_
      rintro e w' ⟨rfl, B2, b2⟩
      refine hK _ _ (S.step b2) b2 ⟨_, rfl, by omega, B2⟩ ?_
      intro j u _ hj hu
      refine ⟨?_, ?_⟩
      · intro b b' n1 n2 c1 c2 h3 h4 h1 h2
        subst h4
        obtain ⟨d, rfl, -, hd⟩ := hu
        have hd := hd.lt
        simp only [Value.slice.injEq, Option.some.injEq, Addr.mk.injEq] at h1 h2
        omega
      · intro _ _ _ _ _ _ h3 h4
        omega
    · intro listed a w I hr K hK
      replace S := I.world
      have e6 : a.tmps[6]?.getD undef = .pointer (some ⟨N1, 0, none⟩) := (Array.getD_eq_getD_getElem? ..).symm.trans (I.slot 6 (by kernel_rfl))
      refine want_none rfl ?_
      have C := S.os.cells
      obtain ⟨x0, x1, x2, x3⟩ := C
      clear hr I
      go_simp
      exact hK _ _ S (le_r _) rfl (psi_ok _ ⟨by decide, by decide⟩)
    · intro listed a w I hr K hK
      replace S := I.world
      have e6 : a.tmps[6]?.getD undef = .pointer (some ⟨N1, 0, none⟩) := (Array.getD_eq_getD_getElem? ..).symm.trans (I.slot 6 (by kernel_rfl))
      refine want_none rfl ?_
      have C := S.os.cells
      obtain ⟨x0, x1, x2, x3⟩ := C
      clear hr I
      go_simp
      exact hK _ _ S (le_r _) rfl (psi_ok _ ⟨by decide, by decide⟩)
    · intro listed a w I hr K hK
      replace S := I.world
      have e28 : a.tmps[28]?.getD undef = .agg #[.pointer (some ⟨L.ga, 0, none⟩), .int .i64 (p : Int), .int .i64 (k : Int), .int .i64 (n : Int)] := (Array.getD_eq_getD_getElem? ..).symm.trans (I.dep hr 5 _ (by decide) rfl (by kernel_rfl))
      refine want_none rfl ?_
      have C := S.os.key K0.out hV.out
      clear hr I
      go_simp
      refine C.mono ?_
      rintro e w' ⟨rfl, b2⟩
      exact hK _ _ (S.step b2) b2 rfl (psi_ok _ ⟨by decide, by decide⟩)
    · intro listed a w I hr K hK
      replace S := I.world
      have e29 : a.tmps[29]?.getD undef = .int .i64 (V : Int) := (Array.getD_eq_getD_getElem? ..).symm.trans (I.dep hr 6 _ (by decide) rfl (by kernel_rfl))
      refine want_none rfl ?_
      clear hr I
      go_simp
      exact hK _ _ S (le_r _) rfl (psi_ok _ ⟨by decide, by decide⟩)
    · intro listed a w I hr K hK
      replace S := I.world
      have e6 : a.tmps[6]?.getD undef = .pointer (some ⟨N1, 0, none⟩) := (Array.getD_eq_getD_getElem? ..).symm.trans (I.slot 6 (by kernel_rfl))
      refine want_none rfl ?_
      have C := S.os.cells
      obtain ⟨x0, x1, x2, x3⟩ := C
      clear hr I
      go_simp
      exact hK _ _ S (le_r _) rfl (psi_ok _ ⟨by decide, by decide⟩)
    · intro listed a w I hr K hK
      replace S := I.world
      have e31 : a.tmps[31]?.getD undef = .agg #[.pointer (some ⟨L.ga, 0, none⟩), .int .i64 (p : Int), .int .i64 (k : Int), .int .i64 (n : Int)] := (Array.getD_eq_getD_getElem? ..).symm.trans (I.dep hr 8 _ (by decide) rfl (by kernel_rfl))
      refine want_none rfl ?_
      have C := S.os.value K0.out hU.out
      clear hr I
      go_simp
      refine C.mono ?_
      rintro e w' ⟨rfl, b2⟩
      exact hK _ _ (S.step b2) b2 rfl (psi_ok _ ⟨by decide, by decide⟩)
    · intro listed a w I hr K hK
      replace S := I.world
      have e27 : a.tmps[27]?.getD undef = .agg #[.pointer (some ⟨L.ga, 0, none⟩), .int .i64 (p : Int), .int .i64 (k : Int), .int .i64 (n : Int)] := (Array.getD_eq_getD_getElem? ..).symm.trans (I.dep hr 4 _ (by decide) rfl (by kernel_rfl))
      have e30 : a.tmps[30]?.getD undef = .int .i64 (V1 : Int) := (Array.getD_eq_getD_getElem? ..).symm.trans (I.dep hr 7 _ (by decide) rfl (by kernel_rfl))
      have e32 : a.tmps[32]?.getD undef = .int .i64 (U : Int) := (Array.getD_eq_getD_getElem? ..).symm.trans (I.dep hr 9 _ (by decide) rfl (by kernel_rfl))
      refine want_none rfl ?_
      have C := S.os.read K0.out V1 U (by omega) hE1.out
      have hs := S.big
      clear hr I
      go_simp
      refine C.mono ?_
      rintro e w' ⟨rfl, B2, b2⟩
      refine hK _ _ (S.step b2) b2 ⟨_, rfl, by omega, B2⟩ ?_
      intro j u _ hj hu
      refine And.symm ⟨?_, ?_⟩
      · intro b b' n1 n2 c1 c2 h3 h4 h1 h2
        subst h3
        obtain ⟨d, rfl, -, hd⟩ := hu
        have hd := hd.lt
        simp only [Value.slice.injEq, Option.some.injEq, Addr.mk.injEq] at h1 h2
        omega
      · intro _ _ _ _ _ _ h3 h4
        omega
    · intro listed a w I hr K hK
      replace S := I.world
      have e6 : a.tmps[6]?.getD undef = .pointer (some ⟨N1, 0, none⟩) := (Array.getD_eq_getD_getElem? ..).symm.trans (I.slot 6 (by kernel_rfl))
      refine want_none rfl ?_
      have C := S.os.cells
      obtain ⟨x0, x1, x2, x3⟩ := C
      clear hr I
      go_simp
      exact hK _ _ S (le_r _) rfl (psi_ok _ ⟨by decide, by decide⟩)
    · intro listed a w I hr K hK
      replace S := I.world
      have e34 : a.tmps[34]?.getD undef = .agg #[.pointer (some ⟨L.ga, 0, none⟩), .int .i64 (p : Int), .int .i64 (k : Int), .int .i64 (n : Int)] := (Array.getD_eq_getD_getElem? ..).symm.trans (I.dep hr 11 _ (by decide) rfl (by kernel_rfl))
      refine want_none rfl ?_
      have C := S.os.get32 K0.out 40 (by omega) hr40.out
      clear hr I
      go_simp
      refine C.mono ?_
      rintro e w' ⟨rfl, b2⟩
      exact hK _ _ (S.step b2) b2 rfl (psi_ok _ ⟨by decide, by decide⟩)
    · intro listed a w I hr K hK
      replace S := I.world
      have e35 : a.tmps[35]?.getD undef = .int .u32 (r40 : Int) := (Array.getD_eq_getD_getElem? ..).symm.trans (I.dep hr 12 _ (by decide) rfl (by kernel_rfl))
      refine want_none rfl ?_
      clear hr I
      go_simp
      exact hK _ _ S (le_r _) rfl (psi_ok _ ⟨by decide, by decide⟩)
    · intro listed a w I hr K hK
      replace S := I.world
      have e6 : a.tmps[6]?.getD undef = .pointer (some ⟨N1, 0, none⟩) := (Array.getD_eq_getD_getElem? ..).symm.trans (I.slot 6 (by kernel_rfl))
      refine want_none rfl ?_
      have C := S.os.cells
      obtain ⟨x0, x1, x2, x3⟩ := C
      clear hr I
      go_simp
      exact hK _ _ S (le_r _) rfl (psi_ok _ ⟨by decide, by decide⟩)
    · intro listed a w I hr K hK
      replace S := I.world
      have e37 : a.tmps[37]?.getD undef = .agg #[.pointer (some ⟨L.ga, 0, none⟩), .int .i64 (p : Int), .int .i64 (k : Int), .int .i64 (n : Int)] := (Array.getD_eq_getD_getElem? ..).symm.trans (I.dep hr 14 _ (by decide) rfl (by kernel_rfl))
      refine want_none rfl ?_
      have C := S.os.get64 K0.out 16 (by omega) hr16.out
      clear hr I
      go_simp
      refine C.mono ?_
      rintro e w' ⟨rfl, b2⟩
      exact hK _ _ (S.step b2) b2 rfl (psi_ok _ ⟨by decide, by decide⟩)
    · intro listed a w I hr K hK
      replace S := I.world
      have e38 : a.tmps[38]?.getD undef = .int .u64 (r16 : Int) := (Array.getD_eq_getD_getElem? ..).symm.trans (I.dep hr 15 _ (by decide) rfl (by kernel_rfl))
      refine want_none rfl ?_
      clear hr I
      go_simp
      exact hK _ _ S (le_r _) rfl (psi_ok _ ⟨by decide, by decide⟩)
    · intro listed a w I hr K hK
      replace S := I.world
      have e6 : a.tmps[6]?.getD undef = .pointer (some ⟨N1, 0, none⟩) := (Array.getD_eq_getD_getElem? ..).symm.trans (I.slot 6 (by kernel_rfl))
      refine want_none rfl ?_
      have C := S.os.cells
      obtain ⟨x0, x1, x2, x3⟩ := C
      clear hr I
      go_simp
      exact hK _ _ S (le_r _) rfl (psi_ok _ ⟨by decide, by decide⟩)
    · intro listed a w I hr K hK
      replace S := I.world
      have e40 : a.tmps[40]?.getD undef = .agg #[.pointer (some ⟨L.ga, 0, none⟩), .int .i64 (p : Int), .int .i64 (k : Int), .int .i64 (n : Int)] := (Array.getD_eq_getD_getElem? ..).symm.trans (I.dep hr 17 _ (by decide) rfl (by kernel_rfl))
      refine want_none rfl ?_
      have C := S.os.get64 K0.out 24 (by omega) hr24.out
      clear hr I
      go_simp
      refine C.mono ?_
      rintro e w' ⟨rfl, b2⟩
      exact hK _ _ (S.step b2) b2 rfl (psi_ok _ ⟨by decide, by decide⟩)
    · intro listed a w I hr K hK
      replace S := I.world
      have e41 : a.tmps[41]?.getD undef = .int .u64 (r24 : Int) := (Array.getD_eq_getD_getElem? ..).symm.trans (I.dep hr 18 _ (by decide) rfl (by kernel_rfl))
      refine want_none rfl ?_
      clear hr I
      go_simp
      exact hK _ _ S (le_r _) rfl (psi_ok _ ⟨by decide, by decide⟩)
    · intro listed a w I hr K hK
      replace S := I.world
      have e6 : a.tmps[6]?.getD undef = .pointer (some ⟨N1, 0, none⟩) := (Array.getD_eq_getD_getElem? ..).symm.trans (I.slot 6 (by kernel_rfl))
      refine want_none rfl ?_
      have C := S.os.cells
      obtain ⟨x0, x1, x2, x3⟩ := C
      clear hr I
      go_simp
      exact hK _ _ S (le_r _) rfl (psi_ok _ ⟨by decide, by decide⟩)
    · intro listed a w I hr K hK
      replace S := I.world
      have e43 : a.tmps[43]?.getD undef = .agg #[.pointer (some ⟨L.ga, 0, none⟩), .int .i64 (p : Int), .int .i64 (k : Int), .int .i64 (n : Int)] := (Array.getD_eq_getD_getElem? ..).symm.trans (I.dep hr 20 _ (by decide) rfl (by kernel_rfl))
      refine want_none rfl ?_
      have C := S.os.get64 K0.out 32 (by omega) hr32.out
      clear hr I
      go_simp
      refine C.mono ?_
      rintro e w' ⟨rfl, b2⟩
      exact hK _ _ (S.step b2) b2 rfl (psi_ok _ ⟨by decide, by decide⟩)
    · intro listed a w I hr K hK
      replace S := I.world
      have e6 : a.tmps[6]?.getD undef = .pointer (some ⟨N1, 0, none⟩) := (Array.getD_eq_getD_getElem? ..).symm.trans (I.slot 6 (by kernel_rfl))
      refine want_none rfl ?_
      have C := S.os.cells
      obtain ⟨x0, x1, x2, x3⟩ := C
      clear hr I
      go_simp
      exact hK _ _ S (le_r _) rfl (psi_ok _ ⟨by decide, by decide⟩)
    · intro listed a w I hr K hK
      replace S := I.world
      have e45 : a.tmps[45]?.getD undef = .agg #[.pointer (some ⟨L.ga, 0, none⟩), .int .i64 (p : Int), .int .i64 (k : Int), .int .i64 (n : Int)] := (Array.getD_eq_getD_getElem? ..).symm.trans (I.dep hr 22 _ (by decide) rfl (by kernel_rfl))
      refine want_none rfl ?_
      have C := S.os.get8 K0.out 45 (by omega) hr45.out
      clear hr I
      go_simp
      refine C.mono ?_
      rintro e w' ⟨rfl, b2⟩
      exact hK _ _ (S.step b2) b2 rfl (psi_ok _ ⟨by decide, by decide⟩)
    · intro listed a w I hr K hK
      replace S := I.world
      have e46 : a.tmps[46]?.getD undef = .int .u8 (r45 : Int) := (Array.getD_eq_getD_getElem? ..).symm.trans (I.dep hr 23 _ (by decide) rfl (by kernel_rfl))
      refine want_none rfl ?_
      clear hr I
      go_simp
      exact hK _ _ S (le_r _) rfl (psi_ok _ ⟨by decide, by decide⟩)
    · intro listed a w I hr K hK
      replace S := I.world
      have e6 : a.tmps[6]?.getD undef = .pointer (some ⟨N1, 0, none⟩) := (Array.getD_eq_getD_getElem? ..).symm.trans (I.slot 6 (by kernel_rfl))
      refine want_none rfl ?_
      have C := S.os.cells
      obtain ⟨x0, x1, x2, x3⟩ := C
      clear hr I
      go_simp
      exact hK _ _ S (le_r _) rfl (psi_ok _ ⟨by decide, by decide⟩)
    · intro listed a w I hr K hK
      replace S := I.world
      have e48 : a.tmps[48]?.getD undef = .agg #[.pointer (some ⟨L.ga, 0, none⟩), .int .i64 (p : Int), .int .i64 (k : Int), .int .i64 (n : Int)] := (Array.getD_eq_getD_getElem? ..).symm.trans (I.dep hr 25 _ (by decide) rfl (by kernel_rfl))
      refine want_none rfl ?_
      have C := S.os.get8 K0.out 46 (by omega) hr46.out
      clear hr I
      go_simp
      refine C.mono ?_
      rintro e w' ⟨rfl, b2⟩
      exact hK _ _ (S.step b2) b2 rfl (psi_ok _ ⟨by decide, by decide⟩)
    · intro listed a w I hr K hK
      replace S := I.world
      have e49 : a.tmps[49]?.getD undef = .int .u8 (r46 : Int) := (Array.getD_eq_getD_getElem? ..).symm.trans (I.dep hr 26 _ (by decide) rfl (by kernel_rfl))
      refine want_none rfl ?_
      clear hr I
      go_simp
      exact hK _ _ S (le_r _) rfl (psi_ok _ ⟨by decide, by decide⟩)
    · intro listed a w I hr K hK
      replace S := I.world
      have f26 := I.dep hr 3 _ (by decide) rfl (by kernel_rfl)
      have f33 := I.dep hr 10 _ (by decide) rfl (by kernel_rfl)
      have e36 : a.tmps[36]?.getD undef = .int .u64 (r40 : Int) := (Array.getD_eq_getD_getElem? ..).symm.trans (I.dep hr 13 _ (by decide) rfl (by kernel_rfl))
      have e39 : a.tmps[39]?.getD undef = .int .i64 (r16 : Int) := (Array.getD_eq_getD_getElem? ..).symm.trans (I.dep hr 16 _ (by decide) rfl (by kernel_rfl))
      have e42 : a.tmps[42]?.getD undef = .int .i64 (r24 : Int) := (Array.getD_eq_getD_getElem? ..).symm.trans (I.dep hr 19 _ (by decide) rfl (by kernel_rfl))
      have e44 : a.tmps[44]?.getD undef = .int .u64 (r32 : Int) := (Array.getD_eq_getD_getElem? ..).symm.trans (I.dep hr 21 _ (by decide) rfl (by kernel_rfl))
      have e47 : a.tmps[47]?.getD undef = .int .i64 (r45 : Int) := (Array.getD_eq_getD_getElem? ..).symm.trans (I.dep hr 24 _ (by decide) rfl (by kernel_rfl))
      have e50 : a.tmps[50]?.getD undef = .int .i64 (r46 : Int) := (Array.getD_eq_getD_getElem? ..).symm.trans (I.dep hr 27 _ (by decide) rfl (by kernel_rfl))
      refine want_none rfl ?_
      obtain ⟨b, e26, hb, Bb⟩ := f26
      obtain ⟨b', e33, hb', Bb'⟩ := f33
      have hne : b ≠ b' := by
        have h := (I.dep2 hr 3 10 _ _ (by decide) (by decide) (by decide) rfl rfl (by kernel_rfl) (by kernel_rfl)).1
        exact h b b' _ _ _ _ rfl rfl e26 e33
      replace e26 := (Array.getD_eq_getD_getElem? ..).symm.trans e26
      replace e33 := (Array.getD_eq_getD_getElem? ..).symm.trans e33
      clear hr I
      go_simp
      exact hK _ _ S (le_r _) ⟨b, b', rfl, hb, hb', hne, Bb, Bb'⟩ (psi_ok _ ⟨by decide, by decide⟩)
  · intro a w5 I
    obtain ⟨b, b', e51, hb, hb', hne, Bb, Bb'⟩ := I.done 28 _ (by decide) rfl
    have e4 : a.tmps.getD 4 undef = .pointer (some ⟨N, 0, none⟩) := I.slot 4 (by kernel_rfl)
    have S5 := I.world
    obtain ⟨f, hf, ha⟩ := I.act
    replace e51 : f 51 = _ := (hf 51).symm.trans e51
    rw [hf] at e4
    replace ha : a = ⟨#[f 0, f 1, f 2, f 3, f 4, f 5, f 6, f 7, f 8, f 9, f 10, f 11, f 12, f 13, f 14, f 15, f 16, f 17, f 18, f 19, f 20, f 21, f 22, f 23, f 24, f 25, f 26, f 27, f 28, f 29, f 30, f 31, f 32, f 33, f 34, f 35, f 36, f 37, f 38, f 39, f 40, f 41, f 42, f 43, f 44, f 45, f 46, f 47, f 48, f 49, f 50, f 51], []⟩ := ha
    rw [ha, e51, e4]
    clear I hf ha e51 e4 a psi_ok
    have hb5 := S5.blk
    have x0 : w5.cell? ⟨N, 0, none⟩ = some (.slice none 0 0) := hb5.cell 0
    have x1 : w5.cell? ⟨N, 1, none⟩ = some (.slice none 0 0) := hb5.cell 1
    have x2 : w5.cell? ⟨N, 2, none⟩ = some (.int .u64 0) := hb5.cell 2
    have x3 : w5.cell? ⟨N, 3, none⟩ = some (.int .i64 0) := hb5.cell 3
    have x4 : w5.cell? ⟨N, 4, none⟩ = some (.int .i64 0) := hb5.cell 4
    have x5 : w5.cell? ⟨N, 5, none⟩ = some (.int .u64 0) := hb5.cell 5
    have x6 : w5.cell? ⟨N, 6, none⟩ = some (.int .i64 0) := hb5.cell 6
    have x7 : w5.cell? ⟨N, 7, none⟩ = some (.int .i64 0) := hb5.cell 7
    have y := hb5.frozen
    have bl := S5.os.below
    replace hb5 := Lib.hid hb5
    replace bl := Lib.hid bl
    clear S5 S
    go_wp2
    refine bodyPost_ret (results_cell2 (P := Try.prog) rfl _ _ N 52 _ (0, 0) _ _ rfl rfl (blk_put8 hb5.out _ _ _ _ _ _ _ _) Try.underlying52 rfl (by kernel_rfl)) rfl ⟨below_put8 bl.out _ _ _ _ _ _ _ _, b, b', rfl, hb, hb', hne, ?_, ?_⟩
    · exact put8_far Bb (by omega) _ _ _ _ _ _ _ _
    · exact put8_far Bb' (by omega) _ _ _ _ _ _ _ _
end Go.Proofs.Ytdmclekohalolaa.Itm
/-
  item.Same, bytes.Equal (printed by wip/gen_same.py).
-/
namespace Go.Proofs.Ytdmclekohalolaa.Itm
open Go.RowKit Base Arena Cls Rel
set_option linter.unusedVariables false

theorem equalC (A A' : Option Addr) (c c' B : Nat) (a b : List UInt8) (w : World) (ha : Bytes w B A a) (hb : Bytes w B A' b) :
    Calls Try.prog 79 #[.slice A a.length c, .slice A' b.length c'] w fun e w' => e = .returned (.bool (a == b)) ∧ w = w' := by
  have s1 := conv_string (P := Try.prog) (c := c) ha Try.underlying28 Try.underlying5 9 Try.underlying9
  have s2 := conv_string (P := Try.prog) (c := c') hb Try.underlying28 Try.underlying5 9 Try.underlying9
  have e1 : ((⟨a.toArray⟩ : ByteArray).toList == (⟨b.toArray⟩ : ByteArray).toList) = (a == b) := by rw [ByteArray.toList_eq, ByteArray.toList_eq]
  clear ha hb
  generalize (⟨a.toArray⟩ : ByteArray) = x at *
  generalize (⟨b.toArray⟩ : ByteArray) = y at *
  go_enter Try.func79, Try.ntmps79
  go_wp2
  go_ret
  exact ⟨rfl, rfl⟩
/-- .. and a list of bytes of the caller's. -/
structure RK (B : Nat) (w0 w : World) (L : Lay) (c : Conf) (s : St) (bs : List UInt8) (N p k n : Nat) (A : Option Addr) (l : List UInt8) : Prop where
  os : OS B w0 w L c s bs N p k n
  by_ : Bytes w w.heap.size A l
theorem bytes_go {w w' : World} {A : Option Addr} {l : List UInt8} (h : Bytes w w.heap.size A l) (b : Below w.heap.size w w') : Bytes w' w'.heap.size A l :=
  fun hl => let ⟨d, off, h1, h2, h3⟩ := h hl
  ⟨d, off, h1, Nat.lt_of_lt_of_le h2 b.size, fun j v hj => (b.cell (p := ⟨d, off + j, none⟩) h2).trans (h3 j v hj)⟩
theorem RK.step {B : Nat} {w0 w w' : World} {L : Lay} {c : Conf} {s : St} {bs : List UInt8} {N p k n : Nat} {A : Option Addr} {l : List UInt8} (S : RK B w0 w L c s bs N p k n A l) (b : Below w.heap.size w w') : RK B w0 w' L c s bs N p k n A l := ⟨S.os.step b, bytes_go S.by_ b⟩
theorem RK.drew {B : Nat} {w0 w : World} {L : Lay} {c : Conf} {s : St} {bs : List UInt8} {N p k n : Nat} {A : Option Addr} {l : List UInt8} (S : RK B w0 w L c s bs N p k n A l) : RK B w0 w.drew L c s bs N p k n A l := ⟨S.os.drewN 1, S.by_⟩
theorem drew_is (w : World) : w.drew = w.drewN 1 := rfl
theorem psi_T {Φ : Nat → Value → World → Prop} (i n : Nat) {w : World} : ∀ j u, j < n → j ≠ i → Φ j u w → True ∧ True := fun _ _ _ _ _ => ⟨trivial, trivial⟩
theorem le_refl' (w : World) : Below w.heap.size w w := Below.refl _ _
section
variable (w : World) (L : Lay) (c : Conf) (s : St) (bs : List UInt8) (h : SetAt w L c s bs) (g : Cls.Good c.cf s)
include h g
theorem itSameNo (H : Nat) (hH : H < 18446744073709551616) (hf : findN c.cf s H = none) (A : Option Addr) (n cc : Nat) : Calls Try.prog 44 #[.pointer (some ⟨L.g, 0, none⟩), .int .u64 (H : Int), .slice A n cc] w fun e w' => e = .returned (.bool false) ∧ Below w.heap.size w w' := by
  have OC := openNo w L c s bs h g H hH hf
  rw [zc_eq] at OC
  replace OC := Lib.hid OC
  clear h g hf
  go_enter Try.func44, Try.ntmps44
  go_wp2_with fail
  refine OC.out.mono ?_
  rintro e w2 ⟨rfl, b2⟩
  replace b2 := Lib.hid b2
  go_upto_region 2 with fail
  go_quiet (fail)
  go_wp2
  go_ret
  exact ⟨rfl, below_drew (b2.out.alloc b2.out.size _) _⟩
end
def sameYesF (V cc : Nat) (E key : List UInt8) (A : Option Addr) (L : Lay) (p k n : Nat) : Nat → Value → World → Prop
  | 0, v, w => v = .int .i64 0
  | 1, v, w => v = .bool true
  | 2, v, w => v = .bool true
  | 3, v, w => v = .agg #[.pointer (some ⟨L.ga, 0, none⟩), .int .i64 (p : Int), .int .i64 (k : Int), .int .i64 (n : Int)]
  | 4, v, w => v = .int .i64 (V : Int)
  | 5, v, w => v = .bool true
  | 6, v, w => v = .bool true
  | 7, v, w => v = .bool true
  | 8, v, w => v = .agg #[.pointer (some ⟨L.ga, 0, none⟩), .int .i64 (p : Int), .int .i64 (k : Int), .int .i64 (n : Int)]
  | 9, v, w => v = .agg #[.pointer (some ⟨L.ga, 0, none⟩), .int .i64 (p : Int), .int .i64 (k : Int), .int .i64 (n : Int)]
  | 10, v, w => v = .int .i64 (V : Int)
  | 11, v, w => ∃ b, v = .slice (some ⟨b, 0, none⟩) V V ∧ b < w.heap.size ∧ BB w 5 b E
  | 12, v, w => v = .slice A key.length cc
  | 13, v, w => v = .bool (E == key)
  | 14, v, w => v = .bool (E == key)
  | 15, v, w => v = .bool (E == key)
  | _, _, _ => True
set_option maxRecDepth 100000 in
theorem sameYesF_go {V cc : Nat} {E key : List UInt8} {A : Option Addr} {L : Lay} {p k n : Nat} : ∀ j u w w', sameYesF V cc E key A L p k n j u w → Below w.heap.size w w' → sameYesF V cc E key A L p k n j u w' := by
  intro j u w w' h b
  match j, h with
  | 0, h => exact h
  | 1, h => exact h
  | 2, h => exact h
  | 3, h => exact h
  | 4, h => exact h
  | 5, h => exact h
  | 6, h => exact h
  | 7, h => exact h
  | 8, h => exact h
  | 9, h => exact h
  | 10, h => exact h
  | 11, ⟨x, h1, h2, h3⟩ => exact ⟨x, h1, Nat.lt_of_lt_of_le h2 b.size, BB.go h3 b⟩
  | 12, h => exact h
  | 13, h => exact h
  | 14, h => exact h
  | 15, h => exact h
  | j + 16, _ => exact trivial
set_option maxRecDepth 100000 in
set_option maxHeartbeats 1000000 in
theorem itSameYes (w : World) (L : Lay) (c : Conf) (s : St) (bs : List UInt8) (h : SetAt w L c s bs) (g : Cls.Good c.cf s) {H i x p k n : Nat} (K0 : Chk c s bs.length H i x p k n) (h44 : rd bs (p + 44) 1 ≠ 0) (hfit : 56 + rd bs (p + 44) 1 ≤ n) (A : Option Addr) (cc : Nat) (key : List UInt8) (hb : Bytes w w.heap.size A key) :
    Calls Try.prog 44 #[.pointer (some ⟨L.g, 0, none⟩), .int .u64 (H : Int), .slice A key.length cc] w fun e w' => e = .returned (.bool ((bs.drop (p + 56)).take (rd bs (p + 44) 1) == key)) ∧ Below w.heap.size w w' := by
  have OC := openK w L c s bs h g K0
  rw [kv_eq] at OC
  obtain ⟨V, hV⟩ : ∃ V, V = rd bs (p + 44) 1 := ⟨_, rfl⟩
  rw [← hV] at hfit ⊢
  obtain ⟨E, hE⟩ : ∃ E, E = (bs.drop (p + 56)).take V := ⟨_, rfl⟩
  rw [← hE]
  have hf1 : 56 + V ≤ n := hfit
  have hEl : E.length = V := by have := K0.ck.all; rw [hE]; simp; omega
  have d0 : decide (0 < (V : Int)) = true := decide_eq_true (by omega)
  have d1 : decide (0 < V) = true := decide_eq_true (by omega)
  replace OC := Lib.hid OC
  replace hV := Lib.hid hV
  replace hE := Lib.hid hE
  replace h := Lib.hid h
  replace hb := Lib.hid hb
  replace K0 := Lib.hid K0
  clear g h44 hfit
  go_enter Try.func44, Try.ntmps44
  go_wp2_with fail
  refine OC.out.mono ?_
  rintro e w2 ⟨rfl, b2⟩
  obtain ⟨w3, hw3⟩ : ∃ w3, w3 = w2.alloc (.cells #[.pointer (some ⟨L.ga, 0, none⟩), .int .i64 (p : Int), .int .i64 (k : Int), .int .i64 (n : Int)] 117) := ⟨_, rfl⟩
  have S : RK w.heap.size w w3 L c s bs w2.heap.size p k n A key := by
    rw [hw3]; exact ⟨OS.op p k n h.out b2 b2 b2.size, bytes_go hb.out (b2.alloc b2.size _)⟩
  replace S := Lib.hid S
  replace hw3 := Lib.hid hw3
  clear b2 OC hb h
  generalize hN2 : w2.heap.size = N1 at *
  replace hN2 := Lib.hid hN2
  go_upto_region 2 with fail
  rw [hN2.out, ← hw3.out]
  clear hN2 hw3
  refine region_all 16 rfl (fun w w' => Below w.heap.size w w') (fun v => RK w.heap.size w v L c s bs N1 p k n A key) (sameYesF V cc E key A L p k n) (fun _ _ _ _ => True) (by kernel_rfl) (by kernel_rfl) S.out.drew sameYesF_go ?_ ?_
  · refine ⟨?_, ?_, ?_, ?_, ?_, ?_, ?_, ?_, ?_, ?_, ?_, ?_, ?_, ?_, ?_, ?_, trivial⟩
    · intro listed a w I hr K hK
      replace S := I.world
      have e8 : a.tmps[8]?.getD undef = .int .i64 0 := (Array.getD_eq_getD_getElem? ..).symm.trans (I.slot 8 (by kernel_rfl))
      refine want_none rfl ?_
      clear hr I
      go_simp
      exact hK _ _ S (le_refl' _) rfl (psi_T _ _)
    · intro listed a w I hr K hK
      replace S := I.world
      have e15 : a.tmps[15]?.getD undef = .int .i64 0 := (Array.getD_eq_getD_getElem? ..).symm.trans (I.dep hr 0 _ (by decide) rfl (by kernel_rfl))
      refine want_none rfl ?_
      clear hr I
      go_simp
      exact hK _ _ S (le_refl' _) rfl (psi_T _ _)
    · intro listed a w I hr K hK
      replace S := I.world
      have e16 : a.tmps[16]?.getD undef = .bool true := (Array.getD_eq_getD_getElem? ..).symm.trans (I.dep hr 1 _ (by decide) rfl (by kernel_rfl))
      refine want_none rfl ?_
      clear hr I
      go_simp
      exact hK _ _ S (le_refl' _) rfl (psi_T _ _)
    · intro listed a w I hr K hK
      replace S := I.world
      have e7 : a.tmps[7]?.getD undef = .pointer (some ⟨N1, 0, none⟩) := (Array.getD_eq_getD_getElem? ..).symm.trans (I.slot 7 (by kernel_rfl))
      refine want_yes (d := 17) rfl rfl rfl (I.dep hr 2 _ (by decide) rfl (by kernel_rfl)) ?_
      have C := S.os.cells
      obtain ⟨x0, x1, x2, x3⟩ := C
      clear hr I
      go_simp
      exact hK _ _ S (le_refl' _) rfl (psi_T _ _)
    · intro listed a w I hr K hK
      replace S := I.world
      have e18 : a.tmps[18]?.getD undef = .agg #[.pointer (some ⟨L.ga, 0, none⟩), .int .i64 (p : Int), .int .i64 (k : Int), .int .i64 (n : Int)] := (Array.getD_eq_getD_getElem? ..).symm.trans (I.dep hr 3 _ (by decide) rfl (by kernel_rfl))
      refine want_yes (d := 17) rfl rfl rfl (I.dep hr 2 _ (by decide) rfl (by kernel_rfl)) ?_
      have C := S.os.key K0.out hV.out
      clear hr I
      go_simp
      refine C.mono ?_
      rintro e w' ⟨rfl, b2⟩
      exact hK _ _ (S.step b2) b2 rfl (psi_T _ _)
    · intro listed a w I hr K hK
      replace S := I.world
      have e19 : a.tmps[19]?.getD undef = .int .i64 (V : Int) := (Array.getD_eq_getD_getElem? ..).symm.trans (I.dep hr 4 _ (by decide) rfl (by kernel_rfl))
      refine want_yes (d := 17) rfl rfl rfl (I.dep hr 2 _ (by decide) rfl (by kernel_rfl)) ?_
      clear hr I
      go_simp
      exact hK _ _ S (le_refl' _) rfl (psi_T _ _)
    · intro listed a w I hr K hK
      replace S := I.world
      have e17 : a.tmps[17]?.getD undef = .bool true := (Array.getD_eq_getD_getElem? ..).symm.trans (I.dep hr 2 _ (by decide) rfl (by kernel_rfl))
      have e20 : a.tmps[20]?.getD undef = .bool true := (Array.getD_eq_getD_getElem? ..).symm.trans (I.dep hr 5 _ (by decide) rfl (by kernel_rfl))
      refine want_none rfl ?_
      clear hr I
      go_simp
      exact hK _ _ S (le_refl' _) rfl (psi_T _ _)
    · intro listed a w I hr K hK
      replace S := I.world
      have e21 : a.tmps[21]?.getD undef = .bool true := (Array.getD_eq_getD_getElem? ..).symm.trans (I.dep hr 6 _ (by decide) rfl (by kernel_rfl))
      refine want_none rfl ?_
      clear hr I
      go_simp
      exact hK _ _ S (le_refl' _) rfl (psi_T _ _)
    · intro listed a w I hr K hK
      replace S := I.world
      have e7 : a.tmps[7]?.getD undef = .pointer (some ⟨N1, 0, none⟩) := (Array.getD_eq_getD_getElem? ..).symm.trans (I.slot 7 (by kernel_rfl))
      refine want_yes (d := 22) rfl rfl rfl (I.dep hr 7 _ (by decide) rfl (by kernel_rfl)) ?_
      have C := S.os.cells
      obtain ⟨x0, x1, x2, x3⟩ := C
      clear hr I
      go_simp
      exact hK _ _ S (le_refl' _) rfl (psi_T _ _)
    · intro listed a w I hr K hK
      replace S := I.world
      have e7 : a.tmps[7]?.getD undef = .pointer (some ⟨N1, 0, none⟩) := (Array.getD_eq_getD_getElem? ..).symm.trans (I.slot 7 (by kernel_rfl))
      refine want_yes (d := 22) rfl rfl rfl (I.dep hr 7 _ (by decide) rfl (by kernel_rfl)) ?_
      have C := S.os.cells
      obtain ⟨x0, x1, x2, x3⟩ := C
      clear hr I
      go_simp
      exact hK _ _ S (le_refl' _) rfl (psi_T _ _)
    · intro listed a w I hr K hK
      replace S := I.world
      have e24 : a.tmps[24]?.getD undef = .agg #[.pointer (some ⟨L.ga, 0, none⟩), .int .i64 (p : Int), .int .i64 (k : Int), .int .i64 (n : Int)] := (Array.getD_eq_getD_getElem? ..).symm.trans (I.dep hr 9 _ (by decide) rfl (by kernel_rfl))
      refine want_yes (d := 22) rfl rfl rfl (I.dep hr 7 _ (by decide) rfl (by kernel_rfl)) ?_
      have C := S.os.key K0.out hV.out
      clear hr I
      go_simp
      refine C.mono ?_
      rintro e w' ⟨rfl, b2⟩
      exact hK _ _ (S.step b2) b2 rfl (psi_T _ _)
    · intro listed a w I hr K hK
      replace S := I.world
      have e23 : a.tmps[23]?.getD undef = .agg #[.pointer (some ⟨L.ga, 0, none⟩), .int .i64 (p : Int), .int .i64 (k : Int), .int .i64 (n : Int)] := (Array.getD_eq_getD_getElem? ..).symm.trans (I.dep hr 8 _ (by decide) rfl (by kernel_rfl))
      have e25 : a.tmps[25]?.getD undef = .int .i64 (V : Int) := (Array.getD_eq_getD_getElem? ..).symm.trans (I.dep hr 10 _ (by decide) rfl (by kernel_rfl))
      refine want_yes (d := 22) rfl rfl rfl (I.dep hr 7 _ (by decide) rfl (by kernel_rfl)) ?_
      have C := S.os.read K0.out 56 V hf1 hE.out
      clear hr I
      go_simp
      refine C.mono ?_
      rintro e w' ⟨rfl, B2, b2⟩
      exact hK _ _ (S.step b2) b2 ⟨_, rfl, B2.lt, B2⟩ (psi_T _ _)
    · intro listed a w I hr K hK
      replace S := I.world
      have e2 : a.tmps[2]?.getD undef = .slice A key.length cc := (Array.getD_eq_getD_getElem? ..).symm.trans (I.slot 2 (by kernel_rfl))
      refine want_yes (d := 22) rfl rfl rfl (I.dep hr 7 _ (by decide) rfl (by kernel_rfl)) ?_
      clear hr I
      go_simp
      exact hK _ _ S (le_refl' _) rfl (psi_T _ _)
    · intro listed a w I hr K hK
      replace S := I.world
      have f26 := I.dep hr 11 _ (by decide) rfl (by kernel_rfl)
      have e27 : a.tmps[27]?.getD undef = .slice A key.length cc := (Array.getD_eq_getD_getElem? ..).symm.trans (I.dep hr 12 _ (by decide) rfl (by kernel_rfl))
      refine want_yes (d := 22) rfl rfl rfl (I.dep hr 7 _ (by decide) rfl (by kernel_rfl)) ?_
      obtain ⟨b, e26, hb, Bb⟩ := f26
      replace e26 := (Array.getD_eq_getD_getElem? ..).symm.trans e26
      have C := equalC (some ⟨b, 0, none⟩) A V cc w.heap.size E key w (Bb.all w.heap.size hb) S.by_
      rw [hEl] at C
      clear hr I
      go_simp
      refine C.mono ?_
      rintro e w' ⟨rfl, rfl⟩
      exact hK _ _ S (le_refl' _) rfl (psi_T _ _)
    · intro listed a w I hr K hK
      replace S := I.world
      have e22 : a.tmps[22]?.getD undef = .bool true := (Array.getD_eq_getD_getElem? ..).symm.trans (I.dep hr 7 _ (by decide) rfl (by kernel_rfl))
      have e28 : a.tmps[28]?.getD undef = .bool (E == key) := (Array.getD_eq_getD_getElem? ..).symm.trans (I.dep hr 13 _ (by decide) rfl (by kernel_rfl))
      refine want_none rfl ?_
      clear hr I
      go_simp
      exact hK _ _ S (le_refl' _) rfl (psi_T _ _)
    · intro listed a w I hr K hK
      replace S := I.world
      have e29 : a.tmps[29]?.getD undef = .bool (E == key) := (Array.getD_eq_getD_getElem? ..).symm.trans (I.dep hr 14 _ (by decide) rfl (by kernel_rfl))
      refine want_none rfl ?_
      clear hr I
      go_simp
      exact hK _ _ S (le_refl' _) rfl (psi_T _ _)
  · intro a w5 I
    have e6 : a.tmps.getD 6 undef = .bool (E == key) := I.done 15 _ (by decide) rfl
    have S5 := I.world
    obtain ⟨f, hf, ha⟩ := I.act
    rw [hf] at e6
    replace ha : a = ⟨#[f 0, f 1, f 2, f 3, f 4, f 5, f 6, f 7, f 8, f 9, f 10, f 11, f 12, f 13, f 14, f 15, f 16, f 17, f 18, f 19, f 20, f 21, f 22, f 23, f 24, f 25, f 26, f 27, f 28, f 29], []⟩ := ha
    rw [ha, e6]
    clear I hf ha e6 a
    have bl := Lib.hid S5.os.below
    clear S5 S
    go_wp2
    go_ret
    exact ⟨rfl, bl.out⟩
def sameNoneF (V cc : Nat) (E key : List UInt8) (A : Option Addr) (L : Lay) (p k n : Nat) : Nat → Value → World → Prop
  | 0, v, w => v = .int .i64 0
  | 1, v, w => v = .bool true
  | 2, v, w => v = .bool true
  | 3, v, w => v = .agg #[.pointer (some ⟨L.ga, 0, none⟩), .int .i64 (p : Int), .int .i64 (k : Int), .int .i64 (n : Int)]
  | 4, v, w => v = .int .i64 (V : Int)
  | 5, v, w => v = .bool false
  | 6, v, w => v = .bool false
  | 7, v, w => v = .bool false
  | 8, v, w => v = undef
  | 9, v, w => v = undef
  | 10, v, w => v = undef
  | 11, v, w => v = undef
  | 12, v, w => v = undef
  | 13, v, w => v = undef
  | 14, v, w => v = .bool false
  | 15, v, w => v = .bool false
  | _, _, _ => True
set_option maxRecDepth 100000 in
theorem sameNoneF_go {V cc : Nat} {E key : List UInt8} {A : Option Addr} {L : Lay} {p k n : Nat} : ∀ j u w w', sameNoneF V cc E key A L p k n j u w → Below w.heap.size w w' → sameNoneF V cc E key A L p k n j u w' := by
  intro j u w w' h b
  match j, h with
  | 0, h => exact h
  | 1, h => exact h
  | 2, h => exact h
  | 3, h => exact h
  | 4, h => exact h
  | 5, h => exact h
  | 6, h => exact h
  | 7, h => exact h
  | 8, h => exact h
  | 9, h => exact h
  | 10, h => exact h
  | 11, h => exact h
  | 12, h => exact h
  | 13, h => exact h
  | 14, h => exact h
  | 15, h => exact h
  | j + 16, _ => exact trivial
set_option maxRecDepth 100000 in
set_option maxHeartbeats 1000000 in
theorem itSameNone (w : World) (L : Lay) (c : Conf) (s : St) (bs : List UInt8) (h : SetAt w L c s bs) (g : Cls.Good c.cf s) {H i x p k n : Nat} (K0 : Chk c s bs.length H i x p k n) (h44 : rd bs (p + 44) 1 = 0)  (A : Option Addr) (cc : Nat) (key : List UInt8) (hb : Bytes w w.heap.size A key) :
    Calls Try.prog 44 #[.pointer (some ⟨L.g, 0, none⟩), .int .u64 (H : Int), .slice A key.length cc] w fun e w' => e = .returned (.bool (false)) ∧ Below w.heap.size w w' := by
  have OC := openK w L c s bs h g K0
  rw [kv_eq] at OC
  obtain ⟨V, hV⟩ : ∃ V, V = rd bs (p + 44) 1 := ⟨_, rfl⟩
  
  obtain ⟨E, hE⟩ : ∃ E, E = (bs.drop (p + 56)).take V := ⟨_, rfl⟩
  
  
  
  have d0 : decide (0 < (V : Int)) = false := decide_eq_false (by omega)
  have d1 : decide (0 < V) = false := decide_eq_false (by omega)
  replace OC := Lib.hid OC
  replace hV := Lib.hid hV
  replace hE := Lib.hid hE
  replace h := Lib.hid h
  replace hb := Lib.hid hb
  replace K0 := Lib.hid K0
  clear g h44 
  go_enter Try.func44, Try.ntmps44
  go_wp2_with fail
  refine OC.out.mono ?_
  rintro e w2 ⟨rfl, b2⟩
  obtain ⟨w3, hw3⟩ : ∃ w3, w3 = w2.alloc (.cells #[.pointer (some ⟨L.ga, 0, none⟩), .int .i64 (p : Int), .int .i64 (k : Int), .int .i64 (n : Int)] 117) := ⟨_, rfl⟩
  have S : RK w.heap.size w w3 L c s bs w2.heap.size p k n A key := by
    rw [hw3]; exact ⟨OS.op p k n h.out b2 b2 b2.size, bytes_go hb.out (b2.alloc b2.size _)⟩
  replace S := Lib.hid S
  replace hw3 := Lib.hid hw3
  clear b2 OC hb h
  generalize hN2 : w2.heap.size = N1 at *
  replace hN2 := Lib.hid hN2
  go_upto_region 2 with fail
  rw [hN2.out, ← hw3.out]
  clear hN2 hw3
  refine region_all 16 rfl (fun w w' => Below w.heap.size w w') (fun v => RK w.heap.size w v L c s bs N1 p k n A key) (sameNoneF V cc E key A L p k n) (fun _ _ _ _ => True) (by kernel_rfl) (by kernel_rfl) S.out.drew sameNoneF_go ?_ ?_
  · refine ⟨?_, ?_, ?_, ?_, ?_, ?_, ?_, ?_, ?_, ?_, ?_, ?_, ?_, ?_, ?_, ?_, trivial⟩
    · intro listed a w I hr K hK
      replace S := I.world
      have e8 : a.tmps[8]?.getD undef = .int .i64 0 := (Array.getD_eq_getD_getElem? ..).symm.trans (I.slot 8 (by kernel_rfl))
      refine want_none rfl ?_
      clear hr I
      go_simp
      exact hK _ _ S (le_refl' _) rfl (psi_T _ _)
    · intro listed a w I hr K hK
      replace S := I.world
      have e15 : a.tmps[15]?.getD undef = .int .i64 0 := (Array.getD_eq_getD_getElem? ..).symm.trans (I.dep hr 0 _ (by decide) rfl (by kernel_rfl))
      refine want_none rfl ?_
      clear hr I
      go_simp
      exact hK _ _ S (le_refl' _) rfl (psi_T _ _)
    · intro listed a w I hr K hK
      replace S := I.world
      have e16 : a.tmps[16]?.getD undef = .bool true := (Array.getD_eq_getD_getElem? ..).symm.trans (I.dep hr 1 _ (by decide) rfl (by kernel_rfl))
      refine want_none rfl ?_
      clear hr I
      go_simp
      exact hK _ _ S (le_refl' _) rfl (psi_T _ _)
    · intro listed a w I hr K hK
      replace S := I.world
      have e7 : a.tmps[7]?.getD undef = .pointer (some ⟨N1, 0, none⟩) := (Array.getD_eq_getD_getElem? ..).symm.trans (I.slot 7 (by kernel_rfl))
      refine want_yes (d := 17) rfl rfl rfl (I.dep hr 2 _ (by decide) rfl (by kernel_rfl)) ?_
      have C := S.os.cells
      obtain ⟨x0, x1, x2, x3⟩ := C
      clear hr I
      go_simp
      exact hK _ _ S (le_refl' _) rfl (psi_T _ _)
    · intro listed a w I hr K hK
      replace S := I.world
      have e18 : a.tmps[18]?.getD undef = .agg #[.pointer (some ⟨L.ga, 0, none⟩), .int .i64 (p : Int), .int .i64 (k : Int), .int .i64 (n : Int)] := (Array.getD_eq_getD_getElem? ..).symm.trans (I.dep hr 3 _ (by decide) rfl (by kernel_rfl))
      refine want_yes (d := 17) rfl rfl rfl (I.dep hr 2 _ (by decide) rfl (by kernel_rfl)) ?_
      have C := S.os.key K0.out hV.out
      clear hr I
      go_simp
      refine C.mono ?_
      rintro e w' ⟨rfl, b2⟩
      exact hK _ _ (S.step b2) b2 rfl (psi_T _ _)
    · intro listed a w I hr K hK
      replace S := I.world
      have e19 : a.tmps[19]?.getD undef = .int .i64 (V : Int) := (Array.getD_eq_getD_getElem? ..).symm.trans (I.dep hr 4 _ (by decide) rfl (by kernel_rfl))
      refine want_yes (d := 17) rfl rfl rfl (I.dep hr 2 _ (by decide) rfl (by kernel_rfl)) ?_
      clear hr I
      go_simp
      exact hK _ _ S (le_refl' _) rfl (psi_T _ _)
    · intro listed a w I hr K hK
      replace S := I.world
      have e17 : a.tmps[17]?.getD undef = .bool true := (Array.getD_eq_getD_getElem? ..).symm.trans (I.dep hr 2 _ (by decide) rfl (by kernel_rfl))
      have e20 : a.tmps[20]?.getD undef = .bool false := (Array.getD_eq_getD_getElem? ..).symm.trans (I.dep hr 5 _ (by decide) rfl (by kernel_rfl))
      refine want_none rfl ?_
      clear hr I
      go_simp
      exact hK _ _ S (le_refl' _) rfl (psi_T _ _)
    · intro listed a w I hr K hK
      replace S := I.world
      have e21 : a.tmps[21]?.getD undef = .bool false := (Array.getD_eq_getD_getElem? ..).symm.trans (I.dep hr 6 _ (by decide) rfl (by kernel_rfl))
      refine want_none rfl ?_
      clear hr I
      go_simp
      exact hK _ _ S (le_refl' _) rfl (psi_T _ _)
    · intro listed a w I hr K hK
      replace S := I.world
      have e7 : a.tmps[7]?.getD undef = .pointer (some ⟨N1, 0, none⟩) := (Array.getD_eq_getD_getElem? ..).symm.trans (I.slot 7 (by kernel_rfl))
      refine want_no (d := 22) rfl rfl rfl (I.dep hr 7 _ (by decide) rfl (by kernel_rfl)) ?_
      exact hK _ _ S (le_refl' _) rfl (psi_T _ _)
    · intro listed a w I hr K hK
      replace S := I.world
      have e7 : a.tmps[7]?.getD undef = .pointer (some ⟨N1, 0, none⟩) := (Array.getD_eq_getD_getElem? ..).symm.trans (I.slot 7 (by kernel_rfl))
      refine want_no (d := 22) rfl rfl rfl (I.dep hr 7 _ (by decide) rfl (by kernel_rfl)) ?_
      exact hK _ _ S (le_refl' _) rfl (psi_T _ _)
    · intro listed a w I hr K hK
      replace S := I.world
      have e24 : a.tmps[24]?.getD undef = undef := (Array.getD_eq_getD_getElem? ..).symm.trans (I.dep hr 9 _ (by decide) rfl (by kernel_rfl))
      refine want_no (d := 22) rfl rfl rfl (I.dep hr 7 _ (by decide) rfl (by kernel_rfl)) ?_
      exact hK _ _ S (le_refl' _) rfl (psi_T _ _)
    · intro listed a w I hr K hK
      replace S := I.world
      have e23 : a.tmps[23]?.getD undef = undef := (Array.getD_eq_getD_getElem? ..).symm.trans (I.dep hr 8 _ (by decide) rfl (by kernel_rfl))
      have e25 : a.tmps[25]?.getD undef = undef := (Array.getD_eq_getD_getElem? ..).symm.trans (I.dep hr 10 _ (by decide) rfl (by kernel_rfl))
      refine want_no (d := 22) rfl rfl rfl (I.dep hr 7 _ (by decide) rfl (by kernel_rfl)) ?_
      exact hK _ _ S (le_refl' _) rfl (psi_T _ _)
    · intro listed a w I hr K hK
      replace S := I.world
      have e2 : a.tmps[2]?.getD undef = .slice A key.length cc := (Array.getD_eq_getD_getElem? ..).symm.trans (I.slot 2 (by kernel_rfl))
      refine want_no (d := 22) rfl rfl rfl (I.dep hr 7 _ (by decide) rfl (by kernel_rfl)) ?_
      exact hK _ _ S (le_refl' _) rfl (psi_T _ _)
    · intro listed a w I hr K hK
      replace S := I.world
      have e26 : a.tmps[26]?.getD undef = undef := (Array.getD_eq_getD_getElem? ..).symm.trans (I.dep hr 11 _ (by decide) rfl (by kernel_rfl))
      have e27 : a.tmps[27]?.getD undef = undef := (Array.getD_eq_getD_getElem? ..).symm.trans (I.dep hr 12 _ (by decide) rfl (by kernel_rfl))
      refine want_no (d := 22) rfl rfl rfl (I.dep hr 7 _ (by decide) rfl (by kernel_rfl)) ?_
      exact hK _ _ S (le_refl' _) rfl (psi_T _ _)
    · intro listed a w I hr K hK
      replace S := I.world
      have e22 : a.tmps[22]?.getD undef = .bool false := (Array.getD_eq_getD_getElem? ..).symm.trans (I.dep hr 7 _ (by decide) rfl (by kernel_rfl))
      have e28 : a.tmps[28]?.getD undef = undef := (Array.getD_eq_getD_getElem? ..).symm.trans (I.dep hr 13 _ (by decide) rfl (by kernel_rfl))
      refine want_none rfl ?_
      clear hr I
      go_simp
      exact hK _ _ S (le_refl' _) rfl (psi_T _ _)
    · intro listed a w I hr K hK
      replace S := I.world
      have e29 : a.tmps[29]?.getD undef = .bool false := (Array.getD_eq_getD_getElem? ..).symm.trans (I.dep hr 14 _ (by decide) rfl (by kernel_rfl))
      refine want_none rfl ?_
      clear hr I
      go_simp
      exact hK _ _ S (le_refl' _) rfl (psi_T _ _)
  · intro a w5 I
    have e6 : a.tmps.getD 6 undef = .bool false := I.done 15 _ (by decide) rfl
    have S5 := I.world
    obtain ⟨f, hf, ha⟩ := I.act
    rw [hf] at e6
    replace ha : a = ⟨#[f 0, f 1, f 2, f 3, f 4, f 5, f 6, f 7, f 8, f 9, f 10, f 11, f 12, f 13, f 14, f 15, f 16, f 17, f 18, f 19, f 20, f 21, f 22, f 23, f 24, f 25, f 26, f 27, f 28, f 29], []⟩ := ha
    rw [ha, e6]
    clear I hf ha e6 a
    have bl := Lib.hid S5.os.below
    clear S5 S
    go_wp2
    go_ret
    exact ⟨rfl, bl.out⟩
end Go.Proofs.Ytdmclekohalolaa.Itm
/-
  The statements' configurations; Within.
-/
namespace Go.Proofs.Ytdmclekohalolaa.Itm
open Go.RowKit Base Arena Cls
set_option linter.unusedVariables false

theorem tmod_emod2 (i n : Int) : (i.tmod n) % n = i % n := by
  have h := Int.mul_tdiv_add_tmod i n
  conv => rhs; rw [← h]
  rw [Int.add_comm, Int.add_mul_emod_self_left]
theorem withinI (i : Int) (n : Nat) (hi : Cls.In i) (hn : 1 ≤ n) (hn2 : n ≤ 1073741824) (w : World) :
    Calls Try.prog 19 #[.int .i64 i, .int .i64 (n : Int)] w fun e w' => e = .returned (.int .i64 (((i % (n : Int)).toNat : Nat) : Int)) ∧ w = w' := by
  obtain ⟨h1, h2⟩ := hi
  have t1 := Int.tmod_lt_of_pos i (show 0 < (n : Int) by omega)
  have t2 := Int.lt_tmod_of_pos i (show 0 < (n : Int) by omega)
  have t3 := Int.emod_nonneg (i.tmod n) (show (n : Int) ≠ 0 by omega)
  have t4 := Int.emod_lt_of_pos (i.tmod n) (show 0 < (n : Int) by omega)
  have he := Lib.hid (show (i.tmod n + n) % n = i % n by have := Int.add_mul_emod_self_left (i.tmod n) n 1; rw [Int.mul_one] at this; rw [this]; exact tmod_emod2 i n)
  have hz : (n : Int) ≠ 0 := by omega
  have h0 := Int.emod_nonneg i (show (n : Int) ≠ 0 by omega)
  rw [Int.toNat_of_nonneg h0]
  clear h0
  go_enter Try.func19, Try.ntmps19
  go_wp2
  go_ret
  exact ⟨by rw [← he.out]; rfl, rfl⟩
theorem withinI_lt (i : Int) {n : Nat} (hn : 1 ≤ n) : (i % (n : Int)).toNat < n := by
  have h0 := Int.emod_nonneg i (show (n : Int) ≠ 0 by omega)
  have h1 := Int.emod_lt_of_pos i (show 0 < (n : Int) by omega)
  omega
theorem setRow_blk {w : World} {g : Nat} {t : TypeId} {c c' : Array Value} (hg : Blk w g t c) : Blk (w.setRow g c') g t c' := by
  unfold Blk World.setRow at *
  simp only [Array.getElem?_modify, if_true, hg, Option.map_some]
theorem setRow_only (w : World) (g : Nat) (c' : Array Value) : Only (· = g) w (w.setRow g c') :=
  ⟨rfl, rfl, rfl, by simp [World.setRow], fun k hk hs => by simp only [World.setRow, Array.getElem?_modify]; rw [if_neg (fun e => hs e.symm)]⟩
theorem blk_new' {w : World} {n : Nat} (h : w.heap.size = n) {t : TypeId} {cs : Array Value} : Blk (w.alloc (.cells cs t)) n t cs := by subst h; exact Blk.new w t cs
theorem conf_set7 {w : World} {N : Nat} {t : TypeId} {c0 c1 c2 c3 c4 c5 c6 : Value} (B : Blk w N t #[c0, c1, c2, c3, c4, c5, c6]) (a0 a1 a2 a3 a4 a5 a6 : Value) :
    Blk (((((((w.setCell ⟨N, 0, none⟩ a0).setCell ⟨N, 1, none⟩ a1).setCell ⟨N, 2, none⟩ a2).setCell ⟨N, 3, none⟩ a3).setCell ⟨N, 4, none⟩ a4).setCell ⟨N, 5, none⟩ a5).setCell ⟨N, 6, none⟩ a6) N t #[a0, a1, a2, a3, a4, a5, a6] := by
  have b0 : Blk _ N t #[a0, c1, c2, c3, c4, c5, c6] := B.set_ 0 a0
  have b1 : Blk _ N t #[a0, a1, c2, c3, c4, c5, c6] := b0.set_ 1 a1
  have b2 : Blk _ N t #[a0, a1, a2, c3, c4, c5, c6] := b1.set_ 2 a2
  have b3 : Blk _ N t #[a0, a1, a2, a3, c4, c5, c6] := b2.set_ 3 a3
  have b4 : Blk _ N t #[a0, a1, a2, a3, a4, c5, c6] := b3.set_ 4 a4
  have b5 : Blk _ N t #[a0, a1, a2, a3, a4, a5, c6] := b4.set_ 5 a5
  have b6 : Blk _ N t #[a0, a1, a2, a3, a4, a5, a6] := b5.set_ 6 a6
  exact b6
theorem below_set7 {w v : World} {N : Nat} (h : Below N w v) (a0 a1 a2 a3 a4 a5 a6 : Value) :
    Below N w (((((((v.setCell ⟨N, 0, none⟩ a0).setCell ⟨N, 1, none⟩ a1).setCell ⟨N, 2, none⟩ a2).setCell ⟨N, 3, none⟩ a3).setCell ⟨N, 4, none⟩ a4).setCell ⟨N, 5, none⟩ a5).setCell ⟨N, 6, none⟩ a6) :=
  ((((((h.setCell (p := ⟨N, 0, none⟩) (Nat.le_refl _) a0).setCell (p := ⟨N, 1, none⟩) (Nat.le_refl _) a1).setCell (p := ⟨N, 2, none⟩) (Nat.le_refl _) a2).setCell (p := ⟨N, 3, none⟩) (Nat.le_refl _) a3).setCell (p := ⟨N, 4, none⟩) (Nat.le_refl _) a4).setCell (p := ⟨N, 5, none⟩) (Nat.le_refl _) a5).setCell (p := ⟨N, 6, none⟩) (Nat.le_refl _) a6
/-- A whole value laid over a block that holds such values. -/
theorem wp_store_whole {P : Program} {o : Oper} {a : Act} {w : World} {K : Act → World → Prop} {Q : Exit → Act → World → Prop} (t : TypeId) (x y : Operand) (ho : o.op = .store t x y) (g : Nat) (c c' : Array Value) (hx : a.eval x = .pointer (some ⟨g, 0, none⟩)) (hy : a.eval y = .agg c')
    (hg : Blk w g t c) (hi : (P.info? t).map (·.size) = some c'.size) (hs : c.size = c'.size) (h1 : c'.all (·.oneCell') = true) (hK : ∀ w', Blk w' g t c' → Only (· = g) w w' → w'.heap.size = w.heap.size → K (a.put o.dst undef) w') : o.wp P a w K Q := by
  have hr := run_storeVar_row (P := P) w g t t c c' hg hi hs h1
  unfold Oper.wp
  simp only [execOp, ho, hx, hy, Instr.storeAt, Instr.sureAddr, Sem.run_bind, Sem.run_pure, Result.andThen, hr]
  refine hK _ ?_ ?_ ?_
  · exact setRow_blk hg
  · exact setRow_only w g c'
  · simp [World.setRow]
/-- The configurations. -/
def ic : Nat → Conf
  | 0 => ⟨4096, 3, 200, 64, 256, 30, 30⟩
  | 1 => ⟨4096, 2, 400, 128, 400, 30, 30⟩
  | 2 => ⟨8192, 3, 400, 512, 4000, 30, 30⟩
  | _ => ⟨4096, 5, 130, 64, 100, 30, 30⟩
theorem ic_ref : ∀ k, k < 4 → refN (ic k) = 0
  | 0, _ => by kernel_rfl
  | 1, _ => by kernel_rfl
  | 2, _ => by kernel_rfl
  | 3, _ => by kernel_rfl
set_option maxRecDepth 100000 in
set_option maxHeartbeats 4000000 in
theorem itemConfigC (n : Int) (hn : Cls.In n) (w : World) : Calls Try.prog 17 #[.int .i64 n] w fun e w' => e = .returned (.agg (ic (n % 4).toNat).cells) ∧ Below w.heap.size w w' := by
  have WC := withinI n 4 hn (by omega) (by omega)
  have hk := withinI_lt n (n := 4) (by omega)
  rw [show ((4 : Nat) : Int) = 4 from rfl] at WC hk
  generalize (n % 4).toNat = k at *
  obtain ⟨w1, hw1⟩ : ∃ w1, w1 = w.alloc (.cells #[.int .i64 0, .int .i64 0, .int .i64 0, .int .i64 0, .int .i64 0, .int .i64 0, .int .i64 0] 44) := ⟨_, rfl⟩
  have B1 : Blk w1 w.heap.size 44 #[.int .i64 0, .int .i64 0, .int .i64 0, .int .i64 0, .int .i64 0, .int .i64 0, .int .i64 0] := by rw [hw1]; exact Blk.new w _ _
  have b1 : Below w.heap.size w w1 := by rw [hw1]; exact (Below.refl _ _).alloc (Nat.le_refl _) _
  have s1 : w1.heap.size = w.heap.size + 1 := by rw [hw1]; exact World.size_alloc _ _
  replace WC := Lib.hid WC
  replace hw1 := Lib.hid hw1
  generalize hN : w.heap.size = N at *
  replace hN := Lib.hid hN
  go_enter Try.func17, Try.ntmps17
  go_upto_region 1 with fail
  rw [hN.out, ← hw1.out]
  iterate 20 (first | go_values | go_skip | go_guarded | go_step | go_upon | go_in | go_back)
  refine wp_store_whole (P := Try.prog) 99 (.tmp 3) (.tmp 8) rfl (N + 1) _ _ rfl rfl (blk_new' s1) (by kernel_rfl) rfl (by kernel_rfl) ?_
  intro w3 B3 o3 z3
  have b3 : Below N w w3 := (b1.alloc (by omega) _).trans (o3.toBelow (B := N) fun k hk => ⟨by rw [World.size_alloc]; omega, by omega⟩)
  have C3 : Blk w3 N 44 #[.int .i64 0, .int .i64 0, .int .i64 0, .int .i64 0, .int .i64 0, .int .i64 0, .int .i64 0] := o3.at_ (B1.alloc _) (by omega)
  clear o3 z3 hw1 B1 b1 s1
  have y0 : w3.cell? ⟨N, 0, none⟩ = some (.int .i64 0) := C3.cell 0
  have y1 : w3.cell? ⟨N, 1, none⟩ = some (.int .i64 0) := C3.cell 1
  have y2 : w3.cell? ⟨N, 2, none⟩ = some (.int .i64 0) := C3.cell 2
  have y3 : w3.cell? ⟨N, 3, none⟩ = some (.int .i64 0) := C3.cell 3
  have y4 : w3.cell? ⟨N, 4, none⟩ = some (.int .i64 0) := C3.cell 4
  have y5 : w3.cell? ⟨N, 5, none⟩ = some (.int .i64 0) := C3.cell 5
  have y6 : w3.cell? ⟨N, 6, none⟩ = some (.int .i64 0) := C3.cell 6
  have yz := C3.frozen
  replace b3 := Lib.hid b3
  replace C3 := Lib.hid C3
  go_upto_region 2 with fail
  go_wp2_with fail
  refine (WC.out _).mono ?_
  rintro e w' ⟨rfl, rfl⟩
  have z0 : Cls.In n := hn
  clear WC hn
  rcases (show k = 0 ∨ k = 1 ∨ k = 2 ∨ k = 3 by omega) with rfl | rfl | rfl | rfl
  all_goals clear hk
  · have x0 := B3.cell 0
    have x1 := B3.cell 1
    have x2 := B3.cell 2
    have x3 := B3.cell 3
    have x4 := B3.cell 4
    have x5 := B3.cell 5
    have x6 := B3.cell 6
    replace B3 := Lib.hid B3
    go_wp2
    exact bodyPost_ret (results_cell_row (P := Try.prog) rfl _ _ N 44 _ (0, 0) _ rfl (conf_set7 C3.out _ _ _ _ _ _ _) Try.underlying44 rfl (by kernel_rfl)) rfl ⟨rfl, below_set7 b3.out _ _ _ _ _ _ _⟩
  · have x0 := B3.cell 7
    have x1 := B3.cell 8
    have x2 := B3.cell 9
    have x3 := B3.cell 10
    have x4 := B3.cell 11
    have x5 := B3.cell 12
    have x6 := B3.cell 13
    replace B3 := Lib.hid B3
    go_wp2
    exact bodyPost_ret (results_cell_row (P := Try.prog) rfl _ _ N 44 _ (0, 0) _ rfl (conf_set7 C3.out _ _ _ _ _ _ _) Try.underlying44 rfl (by kernel_rfl)) rfl ⟨rfl, below_set7 b3.out _ _ _ _ _ _ _⟩
  · have x0 := B3.cell 14
    have x1 := B3.cell 15
    have x2 := B3.cell 16
    have x3 := B3.cell 17
    have x4 := B3.cell 18
    have x5 := B3.cell 19
    have x6 := B3.cell 20
    replace B3 := Lib.hid B3
    go_wp2
    exact bodyPost_ret (results_cell_row (P := Try.prog) rfl _ _ N 44 _ (0, 0) _ rfl (conf_set7 C3.out _ _ _ _ _ _ _) Try.underlying44 rfl (by kernel_rfl)) rfl ⟨rfl, below_set7 b3.out _ _ _ _ _ _ _⟩
  · have x0 := B3.cell 21
    have x1 := B3.cell 22
    have x2 := B3.cell 23
    have x3 := B3.cell 24
    have x4 := B3.cell 25
    have x5 := B3.cell 26
    have x6 := B3.cell 27
    replace B3 := Lib.hid B3
    go_wp2
    exact bodyPost_ret (results_cell_row (P := Try.prog) rfl _ _ N 44 _ (0, 0) _ rfl (conf_set7 C3.out _ _ _ _ _ _ _) Try.underlying44 rfl (by kernel_rfl)) rfl ⟨rfl, below_set7 b3.out _ _ _ _ _ _ _⟩
end Go.Proofs.Ytdmclekohalolaa.Itm
/-
  The walk of begun.
-/
namespace Go.Proofs.Ytdmclekohalolaa.Itm
open Go.RowKit Base Arena Cls
set_option linter.unusedVariables false

theorem itemNumC (w : World) (n : Int) : Calls Try.prog 8 #[.int .i64 n] w fun e w' => e = .returned (.int .i64 n) ∧ w = w' := by
  go_enter Try.func8, Try.ntmps8
  go_wp2
  go_ret
  exact ⟨rfl, rfl⟩
theorem ref3NewC (w : World) (r : Nat) : Calls Try.prog 77 #[.pointer (some ⟨r, 0, none⟩)] w fun e w' => e = .returned (.pointer (some ⟨w.heap.size, 0, none⟩)) ∧ Blk w' w.heap.size 170 #[.pointer (some ⟨r, 0, none⟩), .slice none 0 0, .slice none 0 0] ∧ Below w.heap.size w w' := by
  go_enter Try.func77, Try.ntmps77
  go_wp2
  go_ret
  exact ⟨rfl, Blk.new w _ _, (Below.refl _ _).alloc (Nat.le_refl _) _⟩
/-- What begun makes. -/
structure Begun (B : Nat) (w : World) (b : Nat) (L : Lay) (c : Conf) (r3 r2 hd : Nat) : Prop where
  st : Blk w b 85 #[.pointer (some ⟨L.g, 0, none⟩), .pointer (some ⟨r3, 0, none⟩), .slice none 0 0, .pointer (some ⟨hd, 0, none⟩)]
  set : SetAt w L c (new0 c.cf) (List.replicate (c.cf.ps * c.cf.np) 0)
  foot : ∀ k, Foot L c (new0 c.cf) k → B ≤ k ∧ k < r3
  r3B : Blk w r3 170 #[.pointer (some ⟨r2, 0, none⟩), .slice none 0 0, .slice none 0 0]
  r2B : RAt w B r2 c c.cf.np c.nc
  hdB : Blk w hd 145 #[.slice none 0 0, .slice none 0 0, .int .i64 0]
  l1 : B ≤ r3
  l2 : r3 < hd
  l3 : hd < b
set_option maxRecDepth 100000 in
set_option maxHeartbeats 1600000 in
theorem itemBegunC (w : World) (n : Int) (hn : Cls.In n) :
    Calls Try.prog 42 #[.int .i64 n] w fun e w' => Below w.heap.size w w' ∧ ∃ b L r3 r2 hd, e = .returned (.pointer (some ⟨b, 0, none⟩)) ∧ Begun w.heap.size w' b L (ic (n % 4).toNat) r3 r2 hd := by
  have CC := itemConfigC n hn w
  have hr : refN (ic (n % 4).toNat) = 0 := ic_ref _ (withinI_lt n (n := 4) (by omega))
  generalize ic (n % 4).toNat = c at *
  have RC := Lib.hid (fun w => refNewC w c)
  have NC := Lib.hid (fun w => newC w c)
  have n1 := fun w => itemNumC w 0
  unfold Conf.cells at CC NC
  unfold Conf.rcells at RC
  replace CC := Lib.hid CC
  go_enter Try.func42, Try.ntmps42
  go_wp2_with fail
  refine CC.out.mono ?_
  rintro e w1 ⟨rfl, b1⟩
  obtain ⟨w2, hw2⟩ : ∃ w2, w2 = w1.alloc (.cells #[.int .i64 c.ps, .int .i64 c.np, .int .i64 c.fa, .int .i64 c.mc, .int .i64 c.il, .int .i64 c.hot, .int .i64 c.warm] 44) := ⟨_, rfl⟩
  have b2 : Below w.heap.size w w2 := by rw [hw2]; exact b1.alloc b1.size _
  have B2 : Blk w2 w1.heap.size 44 c.cells := by rw [hw2]; exact Blk.new w1 _ _
  have s2 : w.heap.size ≤ w1.heap.size := b1.size
  obtain ⟨x0, x1, x2, x3, x4, x5, x6⟩ := conf_cells B2
  have NC2 := Lib.hid (NC.out w2)
  replace hw2 := Lib.hid hw2
  replace b2 := Lib.hid b2
  clear CC b1 NC
  generalize hN : w1.heap.size = N at *
  replace hN := Lib.hid hN
  go_upto_region 2 with fail
  rw [hN.out, ← hw2.out]
  clear hw2 hN
  go_wp2_with fail
  refine NC2.out.mono ?_
  rintro e w3 ⟨b3, ⟨h0, -⟩ | ⟨-, L, rfl, M, F⟩⟩
  · exact absurd hr h0
  have B3 := B2.below b3 B2.lt
  have l2 : w.heap.size ≤ w2.heap.size := b2.out.size
  have b13 := b2.out.trans (b3.mono (B' := w.heap.size) l2)
  obtain ⟨x0, x1, x2, x3, x4, x5, x6⟩ := conf_cells B3
  have RC3 := Lib.hid (RC.out w3)
  have l3 : w.heap.size ≤ w3.heap.size := b13.size
  replace b13 := Lib.hid b13
  replace M := Lib.hid M
  replace F := Lib.hid F
  clear NC2 RC b3 b2 B2
  go_wp2_with fail
  refine RC3.out.mono ?_
  rintro e w4 ⟨b4, ⟨h0, -⟩ | ⟨-, r, rfl, R⟩⟩
  · exact absurd hr h0
  have M4 := M.out.kept fun d hd => b4.block d (M.out.lt hd)
  have b14 := b13.out.trans (b4.mono (B' := w.heap.size) l3)
  have AC := Lib.hid (arenaC w4 L c _ _ M4)
  have RR := Lib.hid (ref3NewC w4 r)
  have l4 : w.heap.size ≤ w4.heap.size := b14.size
  have F4 : ∀ k, Foot L c (new0 c.cf) k → w.heap.size ≤ k ∧ k < w4.heap.size := fun k hk => ⟨Nat.le_trans l2 (F.out k hk), M4.lt hk⟩
  replace b14 := Lib.hid b14
  replace M4 := Lib.hid M4
  replace R := Lib.hid (R.weak l3)
  replace F4 := Lib.hid F4
  clear RC3 b4 b13 M B3 x0 x1 x2 x3 x4 x5 x6 F
  go_wp2_with (first | (go_at_call 8; refine (n1 _).mono ?_; rintro e w' ⟨rfl, rfl⟩) | (go_at_call 30; refine AC.out.mono ?_; rintro e w' ⟨rfl, rfl⟩) | fail)
  refine RR.out.mono ?_
  rintro e w5 ⟨rfl, B5, b5⟩
  have M5 := Lib.hid (M4.out.kept fun d hd => b5.block d (M4.out.lt hd))
  have R5 := Lib.hid (R.out.kept b5)
  have b15 := Lib.hid (b14.out.trans (b5.mono (B' := w.heap.size) l4))
  have l5 : w4.heap.size < w5.heap.size := B5.lt
  replace B5 := Lib.hid B5
  clear RR b5 b14 M4 AC n1
  go_wp2
  go_ret
  refine ⟨(b15.out.alloc (by omega) _).alloc (by rw [World.size_alloc]; omega) _, _, L, w4.heap.size, r, w5.heap.size, rfl, ?_, ?_, F4.out, ?_, ?_, ?_, l4, l5, ?_⟩
  · have := Blk.new (w5.alloc (.cells #[.slice none 0 0, .slice none 0 0, .int .i64 0] 145)) 85 #[.pointer (some ⟨L.g, 0, none⟩), .pointer (some ⟨w4.heap.size, 0, none⟩), .slice none 0 0, .pointer (some ⟨w5.heap.size, 0, none⟩)]
    rw [World.size_alloc] at this
    exact this
  · exact (M5.out.alloc _).alloc _
  · exact (B5.out.alloc _).alloc _
  · exact R5.out.kept (((Below.refl _ w5).alloc (Nat.le_refl _) _).alloc (by rw [World.size_alloc]; omega) _)
  · exact (Blk.new w5 _ _).alloc _
  · omega
end Go.Proofs.Ytdmclekohalolaa.Itm
/-
  item.Lay of an item that fits (printed by wip/gen_itemlay.py).
-/
namespace Go.Proofs.Ytdmclekohalolaa.Itm
open Go.RowKit Base Arena Cls
set_option linter.unusedVariables false

/-- An item's numbers, key and value. -/
structure It where
  key : List UInt8
  val : List UInt8
  fl : Nat
  ex : Nat
  tc : Nat
  tk : Nat
  st : Nat
  ms : Nat
structure It.Fine (t : It) : Prop where
  legal : legalN t.key = true
  fl : t.fl < 4294967296
  ex : t.ex < 9223372036854775808
  tc : t.tc < 9223372036854775808
  tk : t.tk < 18446744073709551616
  st1 : 1 ≤ t.st
  st4 : t.st ≤ 4
  ms : t.ms < 16
def It.cells (t : It) (Ak Av : Option Addr) (ck cv : Nat) : Array Value :=
  #[.slice Ak t.key.length ck, .slice Av t.val.length cv, .int .u64 (t.fl : Int), .int .i64 (t.ex : Int), .int .i64 (t.tc : Int), .int .u64 (t.tk : Int), .int .i64 (t.st : Int), .int .i64 (t.ms : Int)]
theorem It.cells_eq (t : It) (Ak Av : Option Addr) (ck cv : Nat) : t.cells Ak Av ck cv =
  #[.slice Ak t.key.length ck, .slice Av t.val.length cv, .int .u64 (t.fl : Int), .int .i64 (t.ex : Int), .int .i64 (t.tc : Int), .int .u64 (t.tk : Int), .int .i64 (t.st : Int), .int .i64 (t.ms : Int)] := rfl
theorem legal_len {l : List UInt8} (h : legalN l = true) : 1 ≤ l.length ∧ l.length ≤ 250 := by
  unfold legalN at h
  simp at h
  omega
def links (l : List UInt8) (p : Nat) : Nat → List UInt8
  | 0 => l
  | m + 1 => lay (links l p m) (p + 4 * m) (putB 4 0)
def h16 (l : List UInt8) (p : Nat) (t : It) : List UInt8 := lay (links l p 3) (p + 16) (putB 8 t.ex)
def h24 (l : List UInt8) (p : Nat) (t : It) : List UInt8 := lay (h16 l p t) (p + 24) (putB 8 t.tc)
def h32 (l : List UInt8) (p : Nat) (t : It) : List UInt8 := lay (h24 l p t) (p + 32) (putB 8 t.tk)
def h40 (l : List UInt8) (p : Nat) (t : It) : List UInt8 := lay (h32 l p t) (p + 40) (putB 4 t.fl)
def h44 (l : List UInt8) (p : Nat) (t : It) : List UInt8 := lay (h40 l p t) (p + 44) (putB 1 t.key.length)
def h45 (l : List UInt8) (p : Nat) (t : It) : List UInt8 := lay (h44 l p t) (p + 45) (putB 1 t.st)
def h46 (l : List UInt8) (p : Nat) (t : It) : List UInt8 := lay (h45 l p t) (p + 46) (putB 1 t.ms)
def h47 (l : List UInt8) (p k : Nat) (t : It) : List UInt8 := lay (h46 l p t) (p + 47) (putB 1 k)
def h52 (l : List UInt8) (p k : Nat) (t : It) : List UInt8 := lay (h47 l p k t) (p + 52) (putB 4 0)
def h56 (l : List UInt8) (p k : Nat) (t : It) : List UInt8 := lay (h52 l p k t) (p + 56) t.key
def itemB (l : List UInt8) (p k : Nat) (t : It) : List UInt8 := layV (h56 l p k t) p t.key.length t.val
section
variable (l : List UInt8) (p k : Nat) (t : It)
theorem links_len (h : p + 12 ≤ l.length) : ∀ m, m ≤ 3 → (links l p m).length = l.length
  | 0, _ => rfl
  | m + 1, hm => by
    unfold links
    rw [putlen _ _ _ _ (by rw [links_len h m (by omega)]; omega), links_len h m (by omega)]
theorem h16_len (h : p + 56 ≤ l.length) : (h16 l p t).length = l.length := by unfold h16; rw [putlen _ _ _ _ (by rw [links_len l p (by omega) 3 (by omega)]; omega), links_len l p (by omega) 3 (by omega)]
theorem h24_len (h : p + 56 ≤ l.length) : (h24 l p t).length = l.length := by unfold h24; rw [putlen _ _ _ _ (by rw [h16_len l p t h]; omega), h16_len l p t h]
theorem h32_len (h : p + 56 ≤ l.length) : (h32 l p t).length = l.length := by unfold h32; rw [putlen _ _ _ _ (by rw [h24_len l p t h]; omega), h24_len l p t h]
theorem h40_len (h : p + 56 ≤ l.length) : (h40 l p t).length = l.length := by unfold h40; rw [putlen _ _ _ _ (by rw [h32_len l p t h]; omega), h32_len l p t h]
theorem h44_len (h : p + 56 ≤ l.length) : (h44 l p t).length = l.length := by unfold h44; rw [putlen _ _ _ _ (by rw [h40_len l p t h]; omega), h40_len l p t h]
theorem h45_len (h : p + 56 ≤ l.length) : (h45 l p t).length = l.length := by unfold h45; rw [putlen _ _ _ _ (by rw [h44_len l p t h]; omega), h44_len l p t h]
theorem h46_len (h : p + 56 ≤ l.length) : (h46 l p t).length = l.length := by unfold h46; rw [putlen _ _ _ _ (by rw [h45_len l p t h]; omega), h45_len l p t h]
theorem h47_len (h : p + 56 ≤ l.length) : (h47 l p k t).length = l.length := by unfold h47; rw [putlen _ _ _ _ (by rw [h46_len l p t h]; omega), h46_len l p t h]
theorem h52_len (h : p + 56 ≤ l.length) : (h52 l p k t).length = l.length := by unfold h52; rw [putlen _ _ _ _ (by rw [h47_len l p k t h]; omega), h47_len l p k t h]
theorem h56_len (h : p + 56 + t.key.length ≤ l.length) : (h56 l p k t).length = l.length := by unfold h56; rw [lay_len _ _ _ (by rw [h52_len l p k t (by omega)]; omega), h52_len l p k t (by omega)]
theorem layV_len (K : Nat) (v : List UInt8) (h : p + 56 + K + v.length + 2 ≤ l.length) : (layV l p K v).length = l.length := by
  have e1 : (lay l (p + 48) (putB 4 v.length)).length = l.length := putlen _ _ _ _ (by omega)
  have e2 : (lay (lay l (p + 48) (putB 4 v.length)) (p + (56 + K)) v).length = l.length := by rw [lay_len _ _ _ (by rw [e1]; omega), e1]
  unfold layV
  rw [lay_len _ _ _ (by rw [e2]; simp; omega), e2]
theorem itemB_len (h : p + 58 + t.key.length + t.val.length ≤ l.length) : (itemB l p k t).length = l.length := by
  unfold itemB
  rw [layV_len _ _ _ _ (by rw [h56_len l p k t (by omega)]; omega), h56_len l p k t (by omega)]
theorem h56_key (h : p + 56 + t.key.length ≤ l.length) (hk : t.key.length < 256) : rd (h56 l p k t) (p + 44) 1 = t.key.length := by
  have e := h40_len l p t (by omega)
  have e1 := h44_len l p t (by omega)
  have e2 := h45_len l p t (by omega)
  have e3 := h46_len l p t (by omega)
  have e4 := h47_len l p k t (by omega)
  have e5 := h52_len l p k t (by omega)
  unfold h56
  rw [rd_out _ _ _ _ _ (by omega) (by omega)]
  unfold h52
  rw [rd_out _ _ _ _ _ (by rw [putB_len]; omega) (by omega)]
  unfold h47
  rw [rd_out _ _ _ _ _ (by rw [putB_len]; omega) (by omega)]
  unfold h46
  rw [rd_out _ _ _ _ _ (by rw [putB_len]; omega) (by omega)]
  unfold h45
  rw [rd_out _ _ _ _ _ (by rw [putB_len]; omega) (by omega)]
  unfold h44
  exact rd_lay _ _ _ _ (by omega) (by omega)
end
/-- What Lay's walk holds between two of its steps. -/
structure LS (w0 w : World) (g h page N0 N1 : Nat) (c0 c1 : Array Value) (Ak Av : Option Addr) (B : Nat) (key val : List UInt8) (l : List UInt8) : Prop where
  at_ : At w g h page l
  b0 : Blk w N0 52 c0
  b1 : Blk w N1 117 c1
  k : Bytes w B Ak key
  v : Bytes w B Av val
  o : Only (· = h) w0 w
  n0 : N0 ≠ h
  n1 : N1 ≠ h
  ak : ∀ b off, Ak = some ⟨b, off, none⟩ → b ≠ h
  av : val ≠ [] → ∀ b off, Av = some ⟨b, off, none⟩ → b ≠ h
theorem LS.step {w0 w w' : World} {g h page N0 N1 : Nat} {c0 c1 : Array Value} {Ak Av : Option Addr} {B : Nat} {key val l l' : List UInt8} (S : LS w0 w g h page N0 N1 c0 c1 Ak Av B key val l) (a : At w' g h page l') (o : Only (· = h) w w') :
    LS w0 w' g h page N0 N1 c0 c1 Ak Av B key val l' :=
  ⟨a, o.at_ S.b0 S.n0, o.at_ S.b1 S.n1, o.row S.k S.ak, only_bytes o S.v S.av, S.o.trans o fun _ _ h => h, S.n0, S.n1, S.ak, S.av⟩
theorem LS.drewN {w0 w : World} {g h page N0 N1 : Nat} {c0 c1 : Array Value} {Ak Av : Option Addr} {B : Nat} {key val l : List UInt8} (S : LS w0 w g h page N0 N1 c0 c1 Ak Av B key val l) (m : Nat) :
    LS w0 (w.drewN m) g h page N0 N1 c0 c1 Ak Av B key val l :=
  ⟨⟨S.at_.head, S.at_.bytes, S.at_.pos, S.at_.small, S.at_.psmall⟩, S.b0, S.b1, S.k, S.v, S.o.drewN m, S.n0, S.n1, S.ak, S.av⟩
theorem LS.cells {w0 w : World} {g h page N0 N1 p k n : Nat} {t : It} {Ak Av : Option Addr} {ck cv B : Nat} {key val l : List UInt8} (S : LS w0 w g h page N0 N1 (t.cells Ak Av ck cv) (kv g p k n) Ak Av B key val l) :
    w.cell? ⟨N1, 0, none⟩ = some (.pointer (some ⟨g, 0, none⟩)) ∧ w.cell? ⟨N1, 1, none⟩ = some (.int .i64 (p : Int)) ∧ w.cell? ⟨N1, 2, none⟩ = some (.int .i64 (k : Int)) ∧ w.cell? ⟨N1, 3, none⟩ = some (.int .i64 (n : Int)) ∧
    w.cell? ⟨N0, 0, none⟩ = some (.slice Ak t.key.length ck) ∧ w.cell? ⟨N0, 1, none⟩ = some (.slice Av t.val.length cv) ∧ w.cell? ⟨N0, 2, none⟩ = some (.int .u64 (t.fl : Int)) ∧ w.cell? ⟨N0, 3, none⟩ = some (.int .i64 (t.ex : Int)) ∧
    w.cell? ⟨N0, 4, none⟩ = some (.int .i64 (t.tc : Int)) ∧ w.cell? ⟨N0, 5, none⟩ = some (.int .u64 (t.tk : Int)) ∧ w.cell? ⟨N0, 6, none⟩ = some (.int .i64 (t.st : Int)) ∧ w.cell? ⟨N0, 7, none⟩ = some (.int .i64 (t.ms : Int)) :=
  ⟨S.b1.cell 0, S.b1.cell 1, S.b1.cell 2, S.b1.cell 3, S.b0.cell 0, S.b0.cell 1, S.b0.cell 2, S.b0.cell 3, S.b0.cell 4, S.b0.cell 5, S.b0.cell 6, S.b0.cell 7⟩
set_option maxRecDepth 100000 in
set_option maxHeartbeats 4000000 in
theorem itemLayYes (w : World) (L : Lay) (c : Conf) (s : St) (bs : List UInt8) (h : SetAt w L c s bs) (g : Cls.Good c.cf s) (H : Nat) (hH : H < 18446744073709551616) (i x p : Nat) (hf : findN c.cf s H = some (i, x, p)) (hk : s.cls i < c.nc) (hnc : c.nc ≤ 256)
    (hc : Ck c.cf.ps bs.length p (c.sz (s.cls i))) (t : It) (F : t.Fine) (hn : 58 + t.key.length + t.val.length ≤ c.sz (s.cls i)) (Ak Av : Option Addr) (ck cv B : Nat) (hK : Bytes w B Ak t.key) (hV : Bytes w B Av t.val)
    (ak : ∀ b off, Ak = some ⟨b, off, none⟩ → b ≠ L.ha) (av : t.val ≠ [] → ∀ b off, Av = some ⟨b, off, none⟩ → b ≠ L.ha) :
    Calls Try.prog 24 #[.pointer (some ⟨L.g, 0, none⟩), .int .u64 (H : Int), .agg (t.cells Ak Av ck cv)] w fun e w' => e = .returned (.int .i64 0) ∧ SetAt w' L c s (itemB bs p (s.cls i) t) ∧ Only (· = L.ha) w w' := by
  obtain ⟨w1, hw1⟩ : ∃ w1, w1 = w.alloc (.cells (t.cells Ak Av ck cv) 52) := ⟨_, rfl⟩
  have ok := h.okc
  have A0 := h.arena ok
  have h1 : SetAt w1 L c s bs := by rw [hw1]; exact h.alloc _
  have o1 : Only (· = L.ha) w w1 := by rw [hw1]; exact (Only.refl _ _).alloc _
  have B1 : Blk w1 w.heap.size 52 (t.cells Ak Av ck cv) := by rw [hw1]; exact Blk.new w _ _
  have s1 : w1.heap.size = w.heap.size + 1 := by rw [hw1]; exact World.size_alloc _ _
  have k1 : Bytes w1 B Ak t.key := o1.row hK ak
  have v1 : Bytes w1 B Av t.val := only_bytes o1 hV av
  have hN0 : w.heap.size ≠ L.ha := by have := A0.bytes.lt; omega
  have OC := openYes w1 L c s bs h1 g H hH i x p hf hk
  obtain ⟨hl1, hl2⟩ := legal_len F.legal
  have hst := F.st1
  have hst4 := F.st4
  have hmk := F.ms
  have hfl := F.fl
  have hex := F.ex
  have htc := F.tc
  have htk := F.tk
  have hall := hc.all
  have hsmall := A0.small
  have LC := Lib.hid (fun w B' (hB : Bytes w B' Ak t.key) => legalC Ak ck B' t.key w hB (by unfold maxLen; omega))
  rw [F.legal] at LC
  have MC := marksC
  have hm0 : marksN (t.ms : Int) = true := by unfold marksN; simp; omega
  have MC1 := Lib.hid (fun w => MC w (t.ms : Int))
  rw [hm0] at MC1
  clear MC hm0
  have hcls : s.cls i < 256 := by omega
  generalize hn0 : c.sz (s.cls i) = n at *
  generalize hk0 : s.cls i = k at *
  have d1 : decide ((n : Int) - 58 - (t.key.length : Int) < (t.val.length : Int)) = false := decide_eq_false (by omega)
  have q1 : IntKind.i64.wrap ((n : Int) - 58) = (n : Int) - 58 := IntWalk.i64_in _ (by omega)
  have q2 : IntKind.i64.wrap ((n : Int) - 58 - (t.key.length : Int)) = (n : Int) - 58 - (t.key.length : Int) := IntWalk.i64_in _ (by omega)
  have e1 : decide ((t.st : Int) < 1) = false := decide_eq_false (by omega)
  have e2 : decide (4 < (t.st : Int)) = false := decide_eq_false (by omega)
  have e3 : decide (4294967295 < (t.fl : Int)) = false := decide_eq_false (by omega)
  have e4 : decide ((t.ex : Int) < 0) = false := decide_eq_false (by omega)
  have e5 : decide ((t.tc : Int) < 0) = false := decide_eq_false (by omega)
  have r1 : IntKind.u64.wrap (t.ex : Int) = (t.ex : Int) := IntWalk.u64_in _ (by omega)
  have r2 : IntKind.u64.wrap (t.tc : Int) = (t.tc : Int) := IntWalk.u64_in _ (by omega)
  have r3 : IntKind.u32.wrap (t.fl : Int) = (t.fl : Int) := IntWalk.u32_in _ (by omega)
  have r4 : IntKind.u8.wrap (t.key.length : Int) = (t.key.length : Int) := IntWalk.u8_in _ (by omega)
  have r5 : IntKind.u8.wrap (t.st : Int) = (t.st : Int) := IntWalk.u8_in _ (by omega)
  have r6 : IntKind.u8.wrap (t.ms : Int) = (t.ms : Int) := IntWalk.u8_in _ (by omega)
  have r7 : IntKind.u8.wrap (k : Int) = (k : Int) := IntWalk.u8_in _ (by omega)
  have r8 : IntKind.i64.wrap ((p : Int) + 56) = ((p + 56 : Nat) : Int) := by rw [IntWalk.i64_in _ (by omega)]; omega
  rw [It.cells_eq] at hw1 ⊢
  rw [kv_eq] at OC
  obtain ⟨y0, y1, y2, y3, y4, y5, y6, y7⟩ : w1.cell? ⟨w.heap.size, 0, none⟩ = some (.slice Ak t.key.length ck) ∧ w1.cell? ⟨w.heap.size, 1, none⟩ = some (.slice Av t.val.length cv) ∧ w1.cell? ⟨w.heap.size, 2, none⟩ = some (.int .u64 (t.fl : Int)) ∧ w1.cell? ⟨w.heap.size, 3, none⟩ = some (.int .i64 (t.ex : Int)) ∧
    w1.cell? ⟨w.heap.size, 4, none⟩ = some (.int .i64 (t.tc : Int)) ∧ w1.cell? ⟨w.heap.size, 5, none⟩ = some (.int .u64 (t.tk : Int)) ∧ w1.cell? ⟨w.heap.size, 6, none⟩ = some (.int .i64 (t.st : Int)) ∧ w1.cell? ⟨w.heap.size, 7, none⟩ = some (.int .i64 (t.ms : Int)) :=
    ⟨B1.cell 0, B1.cell 1, B1.cell 2, B1.cell 3, B1.cell 4, B1.cell 5, B1.cell 6, B1.cell 7⟩
  replace hw1 := Lib.hid hw1
  replace OC := Lib.hid OC
  replace o1 := Lib.hid o1
  replace h := Lib.hid h
  replace h1 := Lib.hid h1
  replace s1 := Lib.hid s1
  replace B1 := Lib.hid B1
  replace k1 := Lib.hid k1
  replace v1 := Lib.hid v1
  replace F := Lib.hid F
  have hn56 : 56 ≤ n := by omega
  have hpl : p + 56 ≤ bs.length := by omega
  have hkb : t.key.length < 256 := by omega
  replace hn := Lib.hid hn
  clear hst hst4 hmk hfl hex htc htk hK hV hf hk hn0 hnc
  generalize hN : w.heap.size = N at *
  replace hN := Lib.hid hN
  go_enter Try.func24, Try.ntmps24
  go_upto_region 1 with fail
  rw [hN.out, ← hw1.out]
  go_wp2_with fail
  refine OC.out.mono ?_
  rintro e w2 ⟨rfl, b2⟩
  have h2 : SetAt w2 L c s bs := h1.out.kept fun b hb => b2.block b (h1.out.lt hb)
  have A2 := h2.arena ok
  have o2 := o1.out.trans (Only.of_below b2 (Nat.le_refl _) (· = L.ha)) fun _ _ h => h
  have k2 : Bytes w2 B Ak t.key := (Only.of_below b2 (Nat.le_refl _) (· = L.ha)).row k1.out ak
  have v2 : Bytes w2 B Av t.val := only_bytes (Only.of_below b2 (Nat.le_refl _) (· = L.ha)) v1.out av
  have B2 := B1.out.below b2 (by have := s1.out; omega)
  obtain ⟨w3, hw3⟩ : ∃ w3, w3 = w2.alloc (.cells #[.pointer (some ⟨L.ga, 0, none⟩), .int .i64 (p : Int), .int .i64 (k : Int), .int .i64 (n : Int)] 117) := ⟨_, rfl⟩
  have hN1 : w2.heap.size ≠ L.ha := by have := A2.bytes.lt; omega
  have S : LS w w3 L.ga L.ha c.cf.ps N w2.heap.size (t.cells Ak Av ck cv) (kv L.ga p k n) Ak Av B t.key t.val bs := by
    have o23 : Only (· = L.ha) w2 w3 := by rw [hw3]; exact (Only.refl _ _).alloc _
    refine ⟨?_, o23.at_ B2 hN0, ?_, o23.row k2 ak, only_bytes o23 v2 av, o2.trans o23 fun _ _ h => h, hN0, hN1, ak, av⟩
    · rw [hw3]; exact A2.keep (Below.heap_alloc w2 _ _ (heap_lt A2.head)) (Below.heap_alloc w2 _ _ A2.bytes.lt)
    · rw [hw3, ← kv_eq]; exact Blk.new w2 _ _
  replace hw3 := Lib.hid hw3
  clear b2 h1 h2 A2 o2 k2 v2 B2 B1 OC o1 k1 v1 hw1 y0 y1 y2 y3 y4 y5 y6 y7 hN0 hN1 s1
  generalize hN2 : w2.heap.size = N1 at *
  replace hN2 := Lib.hid hN2
  obtain ⟨x0, x1, x2, x3, y0, y1, y2, y3, y4, y5, y6, y7⟩ := S.cells
  have LC3 := Lib.hid (LC.out w3 B S.k)
  replace S := Lib.hid S
  go_upto_region 2 with fail
  rw [hN2.out, ← hw3.out]
  clear LC hN2 hw3
  go_wp2_with fail
  refine LC3.out.mono ?_
  rintro e w' ⟨rfl, rfl⟩
  clear LC3
  go_wp2_with (first | (go_at_call 57; refine (MC1.out _).mono ?_; rintro e w' ⟨rfl, rfl⟩) | fail)
  clear MC1 d1 q1 q2 e1 e2 e3 e4 e5 x0 x1 x2 x3 y0 y1 y2 y3 y4 y5 y6 y7
  go_loopw [67] (fun v wr => ∃ m : Nat, m ≤ 3 ∧ v = .int .i64 (m : Int) ∧ Hid (LS w wr L.ga L.ha c.cf.ps N N1 (t.cells Ak Av ck cv) (kv L.ga p k n) Ak Av B t.key t.val (links bs p m))) (fun v _ => 3 - (intOf v).toNat)
  case atStart => exact ⟨0, by omega, rfl, S⟩
  case round =>
    obtain ⟨m, hm, rfl, S⟩ := hrel
    obtain ⟨x0, x1, x2, x3, y0, y1, y2, y3, y4, y5, y6, y7⟩ := S.out.cells
    by_cases hm3 : m < 3
    · have d1 : decide ((m : Int) < 3) = true := decide_eq_true (by omega)
      have P := put32C wr L.ga L.ha c.cf.ps _ S.out.at_ p (4 * m) k n 0 (by omega) (by rw [links_len bs p (by omega) m (by omega)]; exact hc.there (4 * m) 4 (by omega))
      have q1 : IntKind.i64.wrap (4 * (m : Int)) = ((4 * m : Nat) : Int) := by rw [IntWalk.i64_in _ (by omega)]; omega
      have q2 : IntKind.i64.wrap ((4 * m : Nat) : Int) = ((4 * m : Nat) : Int) := IntWalk.i64_in _ (by omega)
      have S2 := Lib.hid fun w' a o => S.out.step (w' := w') (l' := links bs p (m + 1)) a o
      have hl : links bs p (m + 1) = lay (links bs p m) (p + 4 * m) (putB 4 0) := rfl
      rw [← hl] at P
      clear hl
      rw [kv_eq, show ((0 : Nat) : Int) = 0 from rfl] at P
      replace P := Lib.hid P
      generalize 4 * m = m4 at *
      clear S
      go_wp2_with fail
      refine P.out.mono ?_
      rintro e w' ⟨rfl, a, o⟩
      have S := Lib.hid (S2.out w' a o)
      clear a o P S2 x0 x1 x2 x3 y0 y1 y2 y3 y4 y5 y6 y7
      go_wp2
      go_roundw
      case rel => exact ⟨m + 1, by omega, by simp, S⟩
      case measure => simp [intOf] <;> omega
    · obtain rfl : m = 3 := by omega
      clear hm hm3
      rename World => w4
      have P := put64C w4 L.ga L.ha c.cf.ps _ S.out.at_ p 16 k n t.ex (by have := F.out.ex; omega) (by rw [links_len bs p (by omega) 3 (by omega)]; exact hc.there 16 8 (by omega))
      have hl : h16 bs p t = lay (links bs p 3) (p + 16) (putB 8 (t.ex)) := rfl
      rw [← hl] at P
      clear hl
      rw [kv_eq, show ((16 : Nat) : Int) = 16 from rfl] at P
      have S2 := Lib.hid fun w' a o => S.out.step (w' := w') (l' := h16 bs p t) a o
      replace P := Lib.hid P
      clear S
      go_wp2_with fail
      refine P.out.mono ?_
      rintro e w5 ⟨rfl, a, o⟩
      have S := Lib.hid (S2.out w5 a o)
      clear a o P S2 x0 x1 x2 x3 y0 y1 y2 y3 y4 y5 y6 y7
      obtain ⟨x0, x1, x2, x3, y0, y1, y2, y3, y4, y5, y6, y7⟩ := S.out.cells
      have P := put64C w5 L.ga L.ha c.cf.ps _ S.out.at_ p 24 k n t.tc (by have := F.out.tc; omega) (by rw [h16_len bs p t hpl]; exact hc.there 24 8 (by omega))
      have hl : h24 bs p t = lay (h16 bs p t) (p + 24) (putB 8 (t.tc)) := rfl
      rw [← hl] at P
      clear hl
      rw [kv_eq, show ((24 : Nat) : Int) = 24 from rfl] at P
      have S2 := Lib.hid fun w' a o => S.out.step (w' := w') (l' := h24 bs p t) a o
      replace P := Lib.hid P
      clear S
      go_wp2_with fail
      refine P.out.mono ?_
      rintro e w6 ⟨rfl, a, o⟩
      have S := Lib.hid (S2.out w6 a o)
      clear a o P S2 x0 x1 x2 x3 y0 y1 y2 y3 y4 y5 y6 y7
      obtain ⟨x0, x1, x2, x3, y0, y1, y2, y3, y4, y5, y6, y7⟩ := S.out.cells
      have P := put64C w6 L.ga L.ha c.cf.ps _ S.out.at_ p 32 k n t.tk F.out.tk (by rw [h24_len bs p t hpl]; exact hc.there 32 8 (by omega))
      have hl : h32 bs p t = lay (h24 bs p t) (p + 32) (putB 8 (t.tk)) := rfl
      rw [← hl] at P
      clear hl
      rw [kv_eq, show ((32 : Nat) : Int) = 32 from rfl] at P
      have S2 := Lib.hid fun w' a o => S.out.step (w' := w') (l' := h32 bs p t) a o
      replace P := Lib.hid P
      clear S
      go_wp2_with fail
      refine P.out.mono ?_
      rintro e w7 ⟨rfl, a, o⟩
      have S := Lib.hid (S2.out w7 a o)
      clear a o P S2 x0 x1 x2 x3 y0 y1 y2 y3 y4 y5 y6 y7
      obtain ⟨x0, x1, x2, x3, y0, y1, y2, y3, y4, y5, y6, y7⟩ := S.out.cells
      have P := put32C w7 L.ga L.ha c.cf.ps _ S.out.at_ p 40 k n t.fl F.out.fl (by rw [h32_len bs p t hpl]; exact hc.there 40 4 (by omega))
      have hl : h40 bs p t = lay (h32 bs p t) (p + 40) (putB 4 (t.fl)) := rfl
      rw [← hl] at P
      clear hl
      rw [kv_eq, show ((40 : Nat) : Int) = 40 from rfl] at P
      have S2 := Lib.hid fun w' a o => S.out.step (w' := w') (l' := h40 bs p t) a o
      replace P := Lib.hid P
      clear S
      go_wp2_with fail
      refine P.out.mono ?_
      rintro e w8 ⟨rfl, a, o⟩
      have S := Lib.hid (S2.out w8 a o)
      clear a o P S2 x0 x1 x2 x3 y0 y1 y2 y3 y4 y5 y6 y7
      obtain ⟨x0, x1, x2, x3, y0, y1, y2, y3, y4, y5, y6, y7⟩ := S.out.cells
      have P := put8C w8 L.ga L.ha c.cf.ps _ S.out.at_ p 44 k n t.key.length hkb (by rw [h40_len bs p t hpl]; exact hc.there 44 1 (by omega))
      have hl : h44 bs p t = lay (h40 bs p t) (p + 44) (putB 1 (t.key.length)) := rfl
      rw [← hl] at P
      clear hl
      rw [kv_eq, show ((44 : Nat) : Int) = 44 from rfl] at P
      have S2 := Lib.hid fun w' a o => S.out.step (w' := w') (l' := h44 bs p t) a o
      replace P := Lib.hid P
      clear S
      go_wp2_with fail
      refine P.out.mono ?_
      rintro e w9 ⟨rfl, a, o⟩
      have S := Lib.hid (S2.out w9 a o)
      clear a o P S2 x0 x1 x2 x3 y0 y1 y2 y3 y4 y5 y6 y7
      obtain ⟨x0, x1, x2, x3, y0, y1, y2, y3, y4, y5, y6, y7⟩ := S.out.cells
      have P := put8C w9 L.ga L.ha c.cf.ps _ S.out.at_ p 45 k n t.st (by have := F.out.st4; omega) (by rw [h44_len bs p t hpl]; exact hc.there 45 1 (by omega))
      have hl : h45 bs p t = lay (h44 bs p t) (p + 45) (putB 1 (t.st)) := rfl
      rw [← hl] at P
      clear hl
      rw [kv_eq, show ((45 : Nat) : Int) = 45 from rfl] at P
      have S2 := Lib.hid fun w' a o => S.out.step (w' := w') (l' := h45 bs p t) a o
      replace P := Lib.hid P
      clear S
      go_wp2_with fail
      refine P.out.mono ?_
      rintro e w10 ⟨rfl, a, o⟩
      have S := Lib.hid (S2.out w10 a o)
      clear a o P S2 x0 x1 x2 x3 y0 y1 y2 y3 y4 y5 y6 y7
      obtain ⟨x0, x1, x2, x3, y0, y1, y2, y3, y4, y5, y6, y7⟩ := S.out.cells
      have P := put8C w10 L.ga L.ha c.cf.ps _ S.out.at_ p 46 k n t.ms (by have := F.out.ms; omega) (by rw [h45_len bs p t hpl]; exact hc.there 46 1 (by omega))
      have hl : h46 bs p t = lay (h45 bs p t) (p + 46) (putB 1 (t.ms)) := rfl
      rw [← hl] at P
      clear hl
      rw [kv_eq, show ((46 : Nat) : Int) = 46 from rfl] at P
      have S2 := Lib.hid fun w' a o => S.out.step (w' := w') (l' := h46 bs p t) a o
      replace P := Lib.hid P
      clear S
      go_wp2_with fail
      refine P.out.mono ?_
      rintro e w11 ⟨rfl, a, o⟩
      have S := Lib.hid (S2.out w11 a o)
      clear a o P S2 x0 x1 x2 x3 y0 y1 y2 y3 y4 y5 y6 y7
      obtain ⟨x0, x1, x2, x3, y0, y1, y2, y3, y4, y5, y6, y7⟩ := S.out.cells
      have P := put8C w11 L.ga L.ha c.cf.ps _ S.out.at_ p 47 k n k hcls (by rw [h46_len bs p t hpl]; exact hc.there 47 1 (by omega))
      have hl : h47 bs p k t = lay (h46 bs p t) (p + 47) (putB 1 (k)) := rfl
      rw [← hl] at P
      clear hl
      rw [kv_eq, show ((47 : Nat) : Int) = 47 from rfl] at P
      have S2 := Lib.hid fun w' a o => S.out.step (w' := w') (l' := h47 bs p k t) a o
      replace P := Lib.hid P
      clear S
      go_wp2_with fail
      refine P.out.mono ?_
      rintro e w12 ⟨rfl, a, o⟩
      have S := Lib.hid (S2.out w12 a o)
      clear a o P S2 x0 x1 x2 x3 y0 y1 y2 y3 y4 y5 y6 y7
      obtain ⟨x0, x1, x2, x3, y0, y1, y2, y3, y4, y5, y6, y7⟩ := S.out.cells
      have P := put32C w12 L.ga L.ha c.cf.ps _ S.out.at_ p 52 k n 0 (by omega) (by rw [h47_len bs p k t hpl]; exact hc.there 52 4 (by omega))
      have hl : h52 bs p k t = lay (h47 bs p k t) (p + 52) (putB 4 (0)) := rfl
      rw [← hl] at P
      clear hl
      rw [kv_eq, show ((52 : Nat) : Int) = 52 from rfl, show ((0 : Nat) : Int) = 0 from rfl] at P
      have S2 := Lib.hid fun w' a o => S.out.step (w' := w') (l' := h52 bs p k t) a o
      replace P := Lib.hid P
      clear S
      go_wp2_with fail
      refine P.out.mono ?_
      rintro e w13 ⟨rfl, a, o⟩
      have S := Lib.hid (S2.out w13 a o)
      clear a o P S2 x0 x1 x2 x3 y0 y1 y2 y3 y4 y5 y6 y7
      obtain ⟨x0, x1, x2, x3, y0, y1, y2, y3, y4, y5, y6, y7⟩ := S.out.cells
      have P := writeYes w13 L.ga L.ha c.cf.ps _ S.out.at_ ((p + 56 : Nat) : Int) Ak ck B t.key S.out.k (by rw [h52_len bs p k t hpl]; exact hc.there 56 t.key.length (by have := hn.out; omega))
      rw [Int.toNat_natCast] at P
      have hl : h56 bs p k t = lay (h52 bs p k t) (p + 56) t.key := rfl
      rw [← hl] at P
      clear hl
      have S2 := Lib.hid fun w' a o => S.out.step (w' := w') (l' := h56 bs p k t) a o
      replace P := Lib.hid P
      clear S
      go_wp2_with fail
      refine P.out.mono ?_
      rintro e w15 ⟨rfl, a, o, -⟩
      have S := Lib.hid (S2.out w15 a o)
      clear a o P S2 x0 x1 x2 x3 y0 y1 y2 y3 y4 y5 y6 y7
      obtain ⟨x0, x1, x2, x3, y0, y1, y2, y3, y4, y5, y6, y7⟩ := S.out.cells
      have hal : p + 56 + t.key.length ≤ bs.length := by have := hn.out; omega
      have P := layC w15 L.ga L.ha c.cf.ps _ S.out.at_ p k n (by rw [h56_len bs p k t hal]; exact hc) Av cv B t.val S.out.v av t.key.length (h56_key bs p k t hal hkb) (by have := hn.out; omega)
      have hl : layV (h56 bs p k t) p t.key.length t.val = itemB bs p k t := rfl
      rw [hl] at P
      clear hl
      rw [kv_eq] at P
      have S2 := Lib.hid fun w' a o => S.out.step (w' := w') (l' := itemB bs p k t) a o
      replace P := Lib.hid P
      clear S
      go_wp2_with fail
      refine P.out.mono ?_
      rintro e w16 ⟨rfl, a, o⟩
      have S := Lib.hid (S2.out w16 a o)
      clear a o P S2 x0 x1 x2 x3 y0 y1 y2 y3 y4 y5 y6 y7
      go_wp2
      go_ret
      refine ⟨rfl, h.out.laid S.out.o S.out.at_.bytes ?_, S.out.o⟩
      exact itemB_len _ _ _ _ (by have := hn.out; omega)
end Go.Proofs.Ytdmclekohalolaa.Itm
