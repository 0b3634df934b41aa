/-
  Contracts and lemmas, joined: ItemMade, ItemArg, ItemLaid, ItemLayNo, ItemValue.
-/
import Derived.Deep.RegionWith
import Derived.Test.YtdmclekohalolaaJ7
import Derived.Test.YtdmclekohalolaaJ8
set_option linter.unusedSimpArgs false
set_option linter.unusedVariables false
/-
  The statements' made: an item that may be laid (printed by wip/gen_made.py).
-/
namespace Go.Proofs.Ytdmclekohalolaa.Itm
open Go.RowKit Base Arena Cls Rel
set_option linter.unusedVariables false

theorem own_bytes2 {w : World} {base n : Nat} {e : TypeId} {v : Value} {l : List UInt8} (h : w.ownsRow base e 1 v n (l.map bv)) : ∃ A c, v = .slice A l.length c ∧ Bytes w w.heap.size A l ∧ ∀ b off, A = some ⟨b, off, none⟩ → base ≤ b := by
  obtain ⟨A, c, hv, hB⟩ := own_bytes h
  refine ⟨A, c, hv, hB, fun b off e => ?_⟩
  rcases h.2 with ⟨rfl, h0⟩ | ⟨g, cap, cur, rfl, hb, -⟩
  · simp only [Value.slice.injEq] at hv; rw [← hv.1] at e; cases e
  · simp only [Value.slice.injEq] at hv
    rw [← hv.1] at e
    simp only [Option.some.injEq, Addr.mk.injEq] at e
    omega
theorem own_bytes3 {w : World} {base n : Nat} {e : TypeId} {v : Value} {l : List UInt8} (h : w.ownsRow base e 1 v n (l.map bv)) : ∃ A c, v = .slice A l.length c ∧ Bytes w w.heap.size A l ∧ (∀ b off, A = some ⟨b, off, none⟩ → base ≤ b) ∧ l.length ≤ c := by
  obtain ⟨A, c, hv, hB, hA⟩ := own_bytes2 h
  refine ⟨A, c, hv, hB, hA, ?_⟩
  rcases h.2 with ⟨rfl, h0⟩ | ⟨g, cap, cur, rfl, hb, hg, hnc, -⟩
  · simp only [Value.slice.injEq] at hv; omega
  · simp only [Value.slice.injEq] at hv; omega
theorem i64_and62 (n : Int) : bits .and .i64 n 4611686018427387903 = n % 4611686018427387904 := by
  have h127 : (BitVec.ofInt 64 4611686018427387903).toNat = 2 ^ 62 - 1 := by decide
  have key : (BitVec.ofInt 64 n &&& BitVec.ofInt 64 4611686018427387903).toNat = (n % ((2 ^ 64 : Nat) : Int)).toNat % 2 ^ 62 := by
    rw [BitVec.toNat_and, BitVec.toNat_ofInt, h127, Nat.and_two_pow_sub_one_eq_mod]
  show IntKind.i64.wrap ((BitVec.ofInt 64 n &&& BitVec.ofInt 64 4611686018427387903).toNat : Nat) = n % 4611686018427387904
  rw [key, IntKind.wrap_i64]
  omega
theorem below_put8N {w v : World} {N M : Nat} (h : Below N w v) (hM : N ≤ M) (a b c d e f g k : Value) : Below N w (put8 v M a b c d e f g k) :=
  (((((((h.setCell (p := ⟨M, 0, none⟩) hM a).setCell (p := ⟨M, 1, none⟩) hM b).setCell (p := ⟨M, 2, none⟩) hM c).setCell (p := ⟨M, 3, none⟩) hM d).setCell (p := ⟨M, 4, none⟩) hM e).setCell (p := ⟨M, 5, none⟩) hM f).setCell (p := ⟨M, 6, none⟩) hM g).setCell (p := ⟨M, 7, none⟩) hM k
theorem bytes_set {w : World} {A : Option Addr} {l : List UInt8} (h : Bytes w w.heap.size A l) {q : Addr} (hq : ∀ b off, A = some ⟨b, off, none⟩ → b ≠ q.block) (v : Value) : Bytes (w.setCell q v) (w.setCell q v).heap.size A l :=
  fun hl => let ⟨d, off, h1, h2, h3⟩ := h hl
  ⟨d, off, h1, by rw [World.size_setCell]; exact h2, fun j u hj => by
    have hc := h3 j u hj
    have hd := Below.heap_setCell w q v d (hq d off h1)
    rw [← hc]
    unfold World.cell?
    simp only [hd]⟩
theorem bytes_put8 {w : World} {A : Option Addr} {l : List UInt8} {M : Nat} (h : Bytes w w.heap.size A l) (hq : ∀ b off, A = some ⟨b, off, none⟩ → b ≠ M) (a1 a2 a3 a4 a5 a6 a7 a8 : Value) : Bytes (put8 w M a1 a2 a3 a4 a5 a6 a7 a8) (put8 w M a1 a2 a3 a4 a5 a6 a7 a8).heap.size A l :=
  bytes_set (q := ⟨M, 7, none⟩) (bytes_set (q := ⟨M, 6, none⟩) (bytes_set (q := ⟨M, 5, none⟩) (bytes_set (q := ⟨M, 4, none⟩) (bytes_set (q := ⟨M, 3, none⟩) (bytes_set (q := ⟨M, 2, none⟩) (bytes_set (q := ⟨M, 1, none⟩) (bytes_set (q := ⟨M, 0, none⟩) h hq a1) hq a2) hq a3) hq a4) hq a5) hq a6) hq a7) hq a8
/-- What the statements take. -/
structure LaidA where
  cfg : Int
  cls : Int
  key : List UInt8
  val : List UInt8
  nxt : List UInt8
  fl : Nat
  tk : Nat
  ex : Int
  tc : Int
  st : Int
  ms : Int
structure LaidA.Ok (x : LaidA) : Prop where
  cfg : Cls.In x.cfg
  cls : Cls.In x.cls
  key : x.key.length ≤ maxLen
  fl : x.fl < 18446744073709551616
  tk : x.tk < 18446744073709551616
  ex : Cls.In x.ex
  tc : Cls.In x.tc
  st : Cls.In x.st
  ms : Cls.In x.ms
def LaidA.cells (x : LaidA) (Ak Av An : Option Addr) (ck cv cn : Nat) : Array Value :=
  #[.int .i64 x.cfg, .int .i64 x.cls, .slice Ak x.key.length ck, .slice Av x.val.length cv, .slice An x.nxt.length cn, .int .u64 (x.fl : Int), .int .u64 (x.tk : Int), .int .i64 x.ex, .int .i64 x.tc, .int .i64 x.st, .int .i64 x.ms]
theorem LaidA.cells_eq (x : LaidA) (Ak Av An : Option Addr) (ck cv cn : Nat) : x.cells Ak Av An ck cv cn =
  #[.int .i64 x.cfg, .int .i64 x.cls, .slice Ak x.key.length ck, .slice Av x.val.length cv, .slice An x.nxt.length cn, .int .u64 (x.fl : Int), .int .u64 (x.tk : Int), .int .i64 x.ex, .int .i64 x.tc, .int .i64 x.st, .int .i64 x.ms] := rfl
/-- The item that is meant. -/
def LaidA.it (x : LaidA) : It :=
  ⟨rightN x.key, x.val, x.fl % 4294967296, (x.ex % 4611686018427387904).toNat, (x.tc % 4611686018427387904).toNat, x.tk, 1 + (x.st % 4).toNat, (x.ms % 16).toNat⟩
theorem LaidA.fine (x : LaidA) (h : x.tk < 18446744073709551616) : x.it.Fine :=
  ⟨right_legal _, Nat.mod_lt _ (by omega), by show (x.ex % 4611686018427387904).toNat < _; omega, by show (x.tc % 4611686018427387904).toNat < _; omega, h, by show 1 ≤ 1 + (x.st % 4).toNat; omega, by show 1 + (x.st % 4).toNat ≤ 4; omega, by show (x.ms % 16).toNat < 16; omega⟩
/-- Within made. -/
structure MS (w0 w : World) (N N1 : Nat) (x : LaidA) (Ak Av An : Option Addr) (ck cv cn : Nat) : Prop where
  arg : Blk w N 39 (x.cells Ak Av An ck cv cn)
  res : Blk w N1 52 zi
  below : Below N w0 w
  kB : Bytes w w.heap.size Ak x.key
theorem MS.step {w0 w w' : World} {N N1 : Nat} {x : LaidA} {Ak Av An : Option Addr} {ck cv cn : Nat} (S : MS w0 w N N1 x Ak Av An ck cv cn) (b : Below w.heap.size w w') : MS w0 w' N N1 x Ak Av An ck cv cn :=
  ⟨S.arg.below b S.arg.lt, S.res.below b S.res.lt, S.below.trans (b.mono (Nat.le_of_lt S.arg.lt)), bytes_go S.kB b⟩
theorem MS.drew {w0 w : World} {N N1 : Nat} {x : LaidA} {Ak Av An : Option Addr} {ck cv cn : Nat} (S : MS w0 w N N1 x Ak Av An ck cv cn) : MS w0 w.drew N N1 x Ak Av An ck cv cn :=
  ⟨S.arg.drew, S.res.drew, below_drew S.below 1, S.kB⟩
theorem MS.big {w0 w : World} {N N1 : Nat} {x : LaidA} {Ak Av An : Option Addr} {ck cv cn : Nat} (S : MS w0 w N N1 x Ak Av An ck cv cn) : N1 < w.heap.size := S.res.lt
theorem MS.cells {w0 w : World} {N N1 : Nat} {x : LaidA} {Ak Av An : Option Addr} {ck cv cn : Nat} (S : MS w0 w N N1 x Ak Av An ck cv cn) :
    w.cell? ⟨N, 2, none⟩ = some (.slice Ak x.key.length ck) ∧ w.cell? ⟨N, 3, none⟩ = some (.slice Av x.val.length cv) ∧ w.cell? ⟨N, 5, none⟩ = some (.int .u64 (x.fl : Int)) ∧ w.cell? ⟨N, 6, none⟩ = some (.int .u64 (x.tk : Int)) ∧
    w.cell? ⟨N, 7, none⟩ = some (.int .i64 x.ex) ∧ w.cell? ⟨N, 8, none⟩ = some (.int .i64 x.tc) ∧ w.cell? ⟨N, 9, none⟩ = some (.int .i64 x.st) ∧ w.cell? ⟨N, 10, none⟩ = some (.int .i64 x.ms) :=
  ⟨S.arg.cell 2, S.arg.cell 3, S.arg.cell 5, S.arg.cell 6, S.arg.cell 7, S.arg.cell 8, S.arg.cell 9, S.arg.cell 10⟩
def madeF (N N1 F4 E4 T4 S4 S5 M4 ck cv : Nat) (Ak Av : Option Addr) (x : LaidA) : Nat → Value → World → Prop
  | 0, v, w => v = .pointer (some ⟨N, 2, none⟩)
  | 1, v, w => v = .slice Ak x.key.length ck
  | 2, v, w => ∃ A cc, v = .slice A (rightN x.key).length cc ∧ (∀ b off, A = some ⟨b, off, none⟩ → N1 < b) ∧ (Bytes w w.heap.size A (rightN x.key) ∧ (rightN x.key).length ≤ cc)
  | 3, v, w => v = .pointer (some ⟨N, 3, none⟩)
  | 4, v, w => v = .slice Av x.val.length cv
  | 5, v, w => v = .pointer (some ⟨N, 5, none⟩)
  | 6, v, w => v = .int .u64 (x.fl : Int)
  | 7, v, w => v = .int .u64 (F4 : Int)
  | 8, v, w => v = .pointer (some ⟨N, 6, none⟩)
  | 9, v, w => v = .int .u64 (x.tk : Int)
  | 10, v, w => v = .pointer (some ⟨N, 7, none⟩)
  | 11, v, w => v = .int .i64 x.ex
  | 12, v, w => v = .int .i64 (E4 : Int)
  | 13, v, w => v = .pointer (some ⟨N, 8, none⟩)
  | 14, v, w => v = .int .i64 x.tc
  | 15, v, w => v = .int .i64 (T4 : Int)
  | 16, v, w => v = .pointer (some ⟨N, 9, none⟩)
  | 17, v, w => v = .int .i64 x.st
  | 18, v, w => v = .int .i64 (S4 : Int)
  | 19, v, w => v = .int .i64 ((S5 : Nat) : Int)
  | 20, v, w => v = .pointer (some ⟨N, 10, none⟩)
  | 21, v, w => v = .int .i64 x.ms
  | 22, v, w => v = .int .i64 (M4 : Int)
  | 23, v, w => ∃ A cc, v = .agg #[.slice A (rightN x.key).length cc, .slice Av x.val.length cv, .int .u64 (F4 : Int), .int .i64 (E4 : Int), .int .i64 (T4 : Int), .int .u64 (x.tk : Int), .int .i64 (S5 : Int), .int .i64 (M4 : Int)] ∧ (∀ b off, A = some ⟨b, off, none⟩ → N1 < b) ∧ (Bytes w w.heap.size A (rightN x.key) ∧ (rightN x.key).length ≤ cc)
  | _, _, _ => True
set_option maxRecDepth 100000 in
theorem madeF_go {N N1 F4 E4 T4 S4 S5 M4 ck cv : Nat} {Ak Av : Option Addr} {x : LaidA} : ∀ j u w w', madeF N N1 F4 E4 T4 S4 S5 M4 ck cv Ak Av x j u w → Below w.heap.size w w' → madeF N N1 F4 E4 T4 S4 S5 M4 ck cv Ak Av x j u w' := by
  intro j u w w' h b
  match j, h with
  | 0, h => exact h
  | 1, h => exact h
  | 2, ⟨A, cc, h1, h2, h3⟩ => exact ⟨A, cc, h1, h2, ⟨bytes_go h3.1 b, h3.2⟩⟩
  | 3, h => exact h
  | 4, h => exact h
  | 5, h => exact h
  | 6, h => exact h
  | 7, h => exact h
  | 8, h => exact h
  | 9, h => exact h
  | 10, h => exact h
  | 11, h => exact h
  | 12, h => exact h
  | 13, h => exact h
  | 14, h => exact h
  | 15, h => exact h
  | 16, h => exact h
  | 17, h => exact h
  | 18, h => exact h
  | 19, h => exact h
  | 20, h => exact h
  | 21, h => exact h
  | 22, h => exact h
  | 23, ⟨A, cc, h1, h2, h3⟩ => exact ⟨A, cc, h1, h2, ⟨bytes_go h3.1 b, h3.2⟩⟩
  | j + 24, _ => exact trivial
set_option maxRecDepth 100000 in
set_option maxHeartbeats 2000000 in
theorem madeCapC (w : World) (x : LaidA) (ok : x.Ok) (Ak Av An : Option Addr) (ck cv cn : Nat) (kB : Bytes w w.heap.size Ak x.key) :
    Calls Try.prog 21 #[.agg (x.cells Ak Av An ck cv cn)] w fun e w' => ∃ A cc, e = .returned (.agg (x.it.cells A Av cc cv)) ∧ Below w.heap.size w w' ∧ (∀ b off, A = some ⟨b, off, none⟩ → w.heap.size < b) ∧ Bytes w' w'.heap.size A (rightN x.key) ∧ (rightN x.key).length ≤ cc := by
  obtain ⟨w1, hw1⟩ : ∃ w1, w1 = (w.alloc (.cells (x.cells Ak Av An ck cv cn) 39)).alloc (.cells zi 52) := ⟨_, rfl⟩
  have S : MS w w1 w.heap.size (w.heap.size + 1) x Ak Av An ck cv cn := by
    have b1 : Below w.heap.size w w1 := by rw [hw1]; exact ((Below.refl _ _).alloc (Nat.le_refl _) _).alloc (by rw [World.size_alloc]; omega) _
    refine ⟨by rw [hw1]; exact (Blk.new w _ _).alloc _, by rw [hw1]; exact blk_new' (World.size_alloc _ _), b1, ?_⟩
    exact bytes_go kB b1
  have hkl := ok.key
  have SC := withinI x.st 4 ok.st (by omega) (by omega)
  have MC := withinI x.ms 16 ok.ms (by omega) (by omega)
  rw [show ((4 : Nat) : Int) = 4 from rfl] at SC
  rw [show ((16 : Nat) : Int) = 16 from rfl] at MC
  have q1 : IntKind.i64.wrap (1 + ((x.st % 4).toNat : Int)) = ((1 + (x.st % 4).toNat : Nat) : Int) := by rw [IntWalk.i64_in _ (by omega)]; omega
  have q2 : bits .and .i64 x.ex 4611686018427387903 = (((x.ex % 4611686018427387904).toNat : Nat) : Int) := by rw [i64_and62]; omega
  have q3 : bits .and .i64 x.tc 4611686018427387903 = (((x.tc % 4611686018427387904).toNat : Nat) : Int) := by rw [i64_and62]; omega
  have q4 : ((x.fl : Int)).tmod 4294967296 = ((x.fl % 4294967296 : Nat) : Int) := tmodN x.fl 4294967296
  simp only [It.cells_eq, LaidA.it]
  generalize x.fl % 4294967296 = F4 at *
  generalize (x.ex % 4611686018427387904).toNat = E4 at *
  generalize (x.tc % 4611686018427387904).toNat = T4 at *
  generalize (x.st % 4).toNat = S4 at *
  generalize 1 + S4 = S5 at *
  generalize (x.ms % 16).toNat = M4 at *
  rw [LaidA.cells_eq, zi_eq] at hw1
  rw [LaidA.cells_eq]
  replace hw1 := Lib.hid hw1
  replace SC := Lib.hid SC
  replace MC := Lib.hid MC
  replace S := Lib.hid S
  replace kB := Lib.hid kB
  clear ok
  generalize hN : w.heap.size = N at *
  generalize hN1 : N + 1 = N1 at *
  have hN2 := Lib.hid (show w.heap.size + 1 = N1 by omega)
  replace hN := Lib.hid hN
  replace hN1 := Lib.hid hN1
  go_enter Try.func21, Try.ntmps21
  go_upto_region 1 with fail
  rw [hN2.out, hN.out, ← hw1.out]
  clear hw1 hN2
  refine region_each 24 (fun w w' => Below w.heap.size w w') (fun v => MS w v N N1 x Ak Av An ck cv cn) (madeF N N1 F4 E4 T4 S4 S5 M4 ck cv Ak Av x) (fun _ _ _ _ => True) (by kernel_rfl) (by kernel_rfl) S.out.drew madeF_go ?_ ?_
  · refine ⟨?_, ?_, ?_, ?_, ?_, ?_, ?_, ?_, ?_, ?_, ?_, ?_, ?_, ?_, ?_, ?_, ?_, ?_, ?_, ?_, ?_, ?_, ?_, ?_, trivial⟩
    · intro listed a w I hr K hK
      replace S := I.world
      have e1 : a.tmps[1]?.getD undef = .pointer (some ⟨N, 0, none⟩) := (Array.getD_eq_getD_getElem? ..).symm.trans (I.slot 1 (by kernel_rfl))
      refine want_none rfl ?_
      clear hr I
      go_simp
      exact hK _ _ S (le_refl' _) rfl (psi_T _ _)
    · intro listed a w I hr K hK
      replace S := I.world
      have e3 : a.tmps[3]?.getD undef = .pointer (some ⟨N, 2, none⟩) := (Array.getD_eq_getD_getElem? ..).symm.trans (I.dep hr 0 _ (by decide) rfl (by kernel_rfl))
      refine want_none rfl ?_
      have C := S.cells
      obtain ⟨x2, x3, x5, x6, x7, x8, x9, x10⟩ := C
      clear hr I
      go_simp
      exact hK _ _ S (le_refl' _) rfl (psi_T _ _)
    · intro listed a w I hr K hK
      replace S := I.world
      have e4 : a.tmps[4]?.getD undef = .slice Ak x.key.length ck := (Array.getD_eq_getD_getElem? ..).symm.trans (I.dep hr 1 _ (by decide) rfl (by kernel_rfl))
      refine want_none rfl ?_
      have C := rightC Ak ck x.key w S.kB hkl
      have hb := S.big
      clear hr I
      go_simp
      refine C.mono ?_
      rintro e w' ⟨v, rfl, own, b2⟩
      obtain ⟨A, cc, rfl, hB, hA, hcap⟩ := own_bytes3 own
      exact hK _ _ (S.step b2) b2 ⟨A, cc, rfl, fun b off e => Nat.lt_of_lt_of_le hb (hA b off e), hB, hcap⟩ (psi_T _ _)
    · intro listed a w I hr K hK
      replace S := I.world
      have e1 : a.tmps[1]?.getD undef = .pointer (some ⟨N, 0, none⟩) := (Array.getD_eq_getD_getElem? ..).symm.trans (I.slot 1 (by kernel_rfl))
      refine want_none rfl ?_
      clear hr I
      go_simp
      exact hK _ _ S (le_refl' _) rfl (psi_T _ _)
    · intro listed a w I hr K hK
      replace S := I.world
      have e6 : a.tmps[6]?.getD undef = .pointer (some ⟨N, 3, none⟩) := (Array.getD_eq_getD_getElem? ..).symm.trans (I.dep hr 3 _ (by decide) rfl (by kernel_rfl))
      refine want_none rfl ?_
      have C := S.cells
      obtain ⟨x2, x3, x5, x6, x7, x8, x9, x10⟩ := C
      clear hr I
      go_simp
      exact hK _ _ S (le_refl' _) rfl (psi_T _ _)
    · intro listed a w I hr K hK
      replace S := I.world
      have e1 : a.tmps[1]?.getD undef = .pointer (some ⟨N, 0, none⟩) := (Array.getD_eq_getD_getElem? ..).symm.trans (I.slot 1 (by kernel_rfl))
      refine want_none rfl ?_
      clear hr I
      go_simp
      exact hK _ _ S (le_refl' _) rfl (psi_T _ _)
    · intro listed a w I hr K hK
      replace S := I.world
      have e8 : a.tmps[8]?.getD undef = .pointer (some ⟨N, 5, none⟩) := (Array.getD_eq_getD_getElem? ..).symm.trans (I.dep hr 5 _ (by decide) rfl (by kernel_rfl))
      refine want_none rfl ?_
      have C := S.cells
      obtain ⟨x2, x3, x5, x6, x7, x8, x9, x10⟩ := C
      clear hr I
      go_simp
      exact hK _ _ S (le_refl' _) rfl (psi_T _ _)
    · intro listed a w I hr K hK
      replace S := I.world
      have e9 : a.tmps[9]?.getD undef = .int .u64 (x.fl : Int) := (Array.getD_eq_getD_getElem? ..).symm.trans (I.dep hr 6 _ (by decide) rfl (by kernel_rfl))
      refine want_none rfl ?_
      clear hr I
      go_simp
      exact hK _ _ S (le_refl' _) rfl (psi_T _ _)
    · intro listed a w I hr K hK
      replace S := I.world
      have e1 : a.tmps[1]?.getD undef = .pointer (some ⟨N, 0, none⟩) := (Array.getD_eq_getD_getElem? ..).symm.trans (I.slot 1 (by kernel_rfl))
      refine want_none rfl ?_
      clear hr I
      go_simp
      exact hK _ _ S (le_refl' _) rfl (psi_T _ _)
    · intro listed a w I hr K hK
      replace S := I.world
      have e11 : a.tmps[11]?.getD undef = .pointer (some ⟨N, 6, none⟩) := (Array.getD_eq_getD_getElem? ..).symm.trans (I.dep hr 8 _ (by decide) rfl (by kernel_rfl))
      refine want_none rfl ?_
      have C := S.cells
      obtain ⟨x2, x3, x5, x6, x7, x8, x9, x10⟩ := C
      clear hr I
      go_simp
      exact hK _ _ S (le_refl' _) rfl (psi_T _ _)
    · intro listed a w I hr K hK
      replace S := I.world
      have e1 : a.tmps[1]?.getD undef = .pointer (some ⟨N, 0, none⟩) := (Array.getD_eq_getD_getElem? ..).symm.trans (I.slot 1 (by kernel_rfl))
      refine want_none rfl ?_
      clear hr I
      go_simp
      exact hK _ _ S (le_refl' _) rfl (psi_T _ _)
    · intro listed a w I hr K hK
      replace S := I.world
      have e13 : a.tmps[13]?.getD undef = .pointer (some ⟨N, 7, none⟩) := (Array.getD_eq_getD_getElem? ..).symm.trans (I.dep hr 10 _ (by decide) rfl (by kernel_rfl))
      refine want_none rfl ?_
      have C := S.cells
      obtain ⟨x2, x3, x5, x6, x7, x8, x9, x10⟩ := C
      clear hr I
      go_simp
      exact hK _ _ S (le_refl' _) rfl (psi_T _ _)
    · intro listed a w I hr K hK
      replace S := I.world
      have e14 : a.tmps[14]?.getD undef = .int .i64 x.ex := (Array.getD_eq_getD_getElem? ..).symm.trans (I.dep hr 11 _ (by decide) rfl (by kernel_rfl))
      refine want_none rfl ?_
      clear hr I
      go_simp
      exact hK _ _ S (le_refl' _) rfl (psi_T _ _)
    · intro listed a w I hr K hK
      replace S := I.world
      have e1 : a.tmps[1]?.getD undef = .pointer (some ⟨N, 0, none⟩) := (Array.getD_eq_getD_getElem? ..).symm.trans (I.slot 1 (by kernel_rfl))
      refine want_none rfl ?_
      clear hr I
      go_simp
      exact hK _ _ S (le_refl' _) rfl (psi_T _ _)
    · intro listed a w I hr K hK
      replace S := I.world
      have e16 : a.tmps[16]?.getD undef = .pointer (some ⟨N, 8, none⟩) := (Array.getD_eq_getD_getElem? ..).symm.trans (I.dep hr 13 _ (by decide) rfl (by kernel_rfl))
      refine want_none rfl ?_
      have C := S.cells
      obtain ⟨x2, x3, x5, x6, x7, x8, x9, x10⟩ := C
      clear hr I
      go_simp
      exact hK _ _ S (le_refl' _) rfl (psi_T _ _)
    · intro listed a w I hr K hK
      replace S := I.world
      have e17 : a.tmps[17]?.getD undef = .int .i64 x.tc := (Array.getD_eq_getD_getElem? ..).symm.trans (I.dep hr 14 _ (by decide) rfl (by kernel_rfl))
      refine want_none rfl ?_
      clear hr I
      go_simp
      exact hK _ _ S (le_refl' _) rfl (psi_T _ _)
    · intro listed a w I hr K hK
      replace S := I.world
      have e1 : a.tmps[1]?.getD undef = .pointer (some ⟨N, 0, none⟩) := (Array.getD_eq_getD_getElem? ..).symm.trans (I.slot 1 (by kernel_rfl))
      refine want_none rfl ?_
      clear hr I
      go_simp
      exact hK _ _ S (le_refl' _) rfl (psi_T _ _)
    · intro listed a w I hr K hK
      replace S := I.world
      have e19 : a.tmps[19]?.getD undef = .pointer (some ⟨N, 9, none⟩) := (Array.getD_eq_getD_getElem? ..).symm.trans (I.dep hr 16 _ (by decide) rfl (by kernel_rfl))
      refine want_none rfl ?_
      have C := S.cells
      obtain ⟨x2, x3, x5, x6, x7, x8, x9, x10⟩ := C
      clear hr I
      go_simp
      exact hK _ _ S (le_refl' _) rfl (psi_T _ _)
    · intro listed a w I hr K hK
      replace S := I.world
      have e20 : a.tmps[20]?.getD undef = .int .i64 x.st := (Array.getD_eq_getD_getElem? ..).symm.trans (I.dep hr 17 _ (by decide) rfl (by kernel_rfl))
      refine want_none rfl ?_
      have C := SC.out w
      clear hr I
      go_simp
      refine C.mono ?_
      rintro e w' ⟨rfl, rfl⟩
      exact hK _ _ S (le_refl' _) rfl (psi_T _ _)
    · intro listed a w I hr K hK
      replace S := I.world
      have e21 : a.tmps[21]?.getD undef = .int .i64 (S4 : Int) := (Array.getD_eq_getD_getElem? ..).symm.trans (I.dep hr 18 _ (by decide) rfl (by kernel_rfl))
      refine want_none rfl ?_
      clear hr I
      go_simp
      exact hK _ _ S (le_refl' _) rfl (psi_T _ _)
    · intro listed a w I hr K hK
      replace S := I.world
      have e1 : a.tmps[1]?.getD undef = .pointer (some ⟨N, 0, none⟩) := (Array.getD_eq_getD_getElem? ..).symm.trans (I.slot 1 (by kernel_rfl))
      refine want_none rfl ?_
      clear hr I
      go_simp
      exact hK _ _ S (le_refl' _) rfl (psi_T _ _)
    · intro listed a w I hr K hK
      replace S := I.world
      have e23 : a.tmps[23]?.getD undef = .pointer (some ⟨N, 10, none⟩) := (Array.getD_eq_getD_getElem? ..).symm.trans (I.dep hr 20 _ (by decide) rfl (by kernel_rfl))
      refine want_none rfl ?_
      have C := S.cells
      obtain ⟨x2, x3, x5, x6, x7, x8, x9, x10⟩ := C
      clear hr I
      go_simp
      exact hK _ _ S (le_refl' _) rfl (psi_T _ _)
    · intro listed a w I hr K hK
      replace S := I.world
      have e24 : a.tmps[24]?.getD undef = .int .i64 x.ms := (Array.getD_eq_getD_getElem? ..).symm.trans (I.dep hr 21 _ (by decide) rfl (by kernel_rfl))
      refine want_none rfl ?_
      have C := MC.out w
      clear hr I
      go_simp
      refine C.mono ?_
      rintro e w' ⟨rfl, rfl⟩
      exact hK _ _ S (le_refl' _) rfl (psi_T _ _)
    · intro listed a w I hr K hK
      replace S := I.world
      have f5 := I.dep hr 2 _ (by decide) rfl (by kernel_rfl)
      have e7 : a.tmps[7]?.getD undef = .slice Av x.val.length cv := (Array.getD_eq_getD_getElem? ..).symm.trans (I.dep hr 4 _ (by decide) rfl (by kernel_rfl))
      have e10 : a.tmps[10]?.getD undef = .int .u64 (F4 : Int) := (Array.getD_eq_getD_getElem? ..).symm.trans (I.dep hr 7 _ (by decide) rfl (by kernel_rfl))
      have e12 : a.tmps[12]?.getD undef = .int .u64 (x.tk : Int) := (Array.getD_eq_getD_getElem? ..).symm.trans (I.dep hr 9 _ (by decide) rfl (by kernel_rfl))
      have e15 : a.tmps[15]?.getD undef = .int .i64 (E4 : Int) := (Array.getD_eq_getD_getElem? ..).symm.trans (I.dep hr 12 _ (by decide) rfl (by kernel_rfl))
      have e18 : a.tmps[18]?.getD undef = .int .i64 (T4 : Int) := (Array.getD_eq_getD_getElem? ..).symm.trans (I.dep hr 15 _ (by decide) rfl (by kernel_rfl))
      have e22 : a.tmps[22]?.getD undef = .int .i64 ((S5 : Nat) : Int) := (Array.getD_eq_getD_getElem? ..).symm.trans (I.dep hr 19 _ (by decide) rfl (by kernel_rfl))
      have e25 : a.tmps[25]?.getD undef = .int .i64 (M4 : Int) := (Array.getD_eq_getD_getElem? ..).symm.trans (I.dep hr 22 _ (by decide) rfl (by kernel_rfl))
      refine want_none rfl ?_
      obtain ⟨A, cc, e5, hA, hB⟩ := f5
      replace e5 := (Array.getD_eq_getD_getElem? ..).symm.trans e5
      clear hr I
      go_simp
      exact hK _ _ S (le_refl' _) ⟨A, cc, rfl, hA, hB⟩ (psi_T _ _)
  · intro a w5 I
    obtain ⟨A, cc, e26, hA, hB, hcap⟩ := I.done 23 _ (by decide) rfl
    have e2 : a.tmps.getD 2 undef = .pointer (some ⟨N1, 0, none⟩) := I.slot 2 (by kernel_rfl)
    have S5' := I.world
    obtain ⟨f, hf, ha⟩ := I.act
    replace e26 : f 26 = _ := (hf 26).symm.trans e26
    rw [hf] at e2
    replace ha : a = ⟨#[f 0, f 1, f 2, f 3, f 4, f 5, f 6, f 7, f 8, f 9, f 10, f 11, f 12, f 13, f 14, f 15, f 16, f 17, f 18, f 19, f 20, f 21, f 22, f 23, f 24, f 25, f 26], []⟩ := ha
    rw [ha, e26, e2]
    clear I hf ha e26 e2 a
    have hb5 := S5'.res
    have x0 : w5.cell? ⟨N1, 0, none⟩ = some (.slice none 0 0) := hb5.cell 0
    have x1 : w5.cell? ⟨N1, 1, none⟩ = some (.slice none 0 0) := hb5.cell 1
    have x2 : w5.cell? ⟨N1, 2, none⟩ = some (.int .u64 0) := hb5.cell 2
    have x3 : w5.cell? ⟨N1, 3, none⟩ = some (.int .i64 0) := hb5.cell 3
    have x4 : w5.cell? ⟨N1, 4, none⟩ = some (.int .i64 0) := hb5.cell 4
    have x5 : w5.cell? ⟨N1, 5, none⟩ = some (.int .u64 0) := hb5.cell 5
    have x6 : w5.cell? ⟨N1, 6, none⟩ = some (.int .i64 0) := hb5.cell 6
    have x7 : w5.cell? ⟨N1, 7, none⟩ = some (.int .i64 0) := hb5.cell 7
    have y := hb5.frozen
    have bl := S5'.below
    have hlt := hb5.lt
    have hne := S5'.arg.ne_ hb5 (by decide)
    replace hb5 := Lib.hid hb5
    replace bl := Lib.hid bl
    replace hB := Lib.hid hB
    replace hcap := Lib.hid hcap
    clear S5' S
    go_wp2
    refine bodyPost_ret (results_cell_row (P := Try.prog) rfl _ _ N1 52 _ (0, 0) _ rfl (blk_put8 hb5.out _ _ _ _ _ _ _ _) Try.underlying52 rfl (by kernel_rfl)) rfl ⟨A, cc, rfl, below_put8N bl.out (by have := hN1.out; omega) _ _ _ _ _ _ _ _, fun b off e => by have h1 := hA b off e; have h2 := hN1.out; omega, ?_, hcap.out⟩
    exact bytes_put8 hB.out (fun b off e => by have := hA b off e; omega) _ _ _ _ _ _ _ _
theorem madeC (w : World) (x : LaidA) (ok : x.Ok) (Ak Av An : Option Addr) (ck cv cn : Nat) (kB : Bytes w w.heap.size Ak x.key) :
    Calls Try.prog 21 #[.agg (x.cells Ak Av An ck cv cn)] w fun e w' => ∃ A cc, e = .returned (.agg (x.it.cells A Av cc cv)) ∧ Below w.heap.size w w' ∧ (∀ b off, A = some ⟨b, off, none⟩ → w.heap.size < b) ∧ Bytes w' w'.heap.size A (rightN x.key) :=
  (madeCapC w x ok Ak Av An ck cv cn kB).mono fun _ _ ⟨A, cc, h1, h2, h3, h4, _⟩ => ⟨A, cc, h1, h2, h3, h4⟩
end Go.Proofs.Ytdmclekohalolaa.Itm
/-
  What the arguments of the laws of items are: an item that is meant, with its config and class.
-/
namespace Go.Proofs.Ytdmclekohalolaa.ItmArg
open Go.ChangeShapes Go.WideShapes Go.ChangeAt Go.RowKit LawFrame Go.Deep ClsArg
set_option linter.unusedVariables false

variable {H : Type} {enc : TypeId × Value → H}
/-- A struct's fields, with their weights. -/
theorem struct_weight {P : Program} {w : World} {e : TypeId} {fs : Array Field} {fuel : Nat} {cs : List Value} {x : DataW H × List MemPlace} (he : P.underlying e = some (.struct fs))
    (h : DataW.trod enc P w 0 (fun _ => true) true fuel e cs = some x) :
    ∃ n, cs.length = P.cellsOf e ∧ ∀ (j : Nat) (f : Field), fs[j]? = some f → ∃ (y : DataW H × List MemPlace), DataW.trod enc P w 0 (fun _ => true) true n f.type ((cs.drop f.offset).take (P.cellsOf f.type)) = some y ∧ ∀ m ∈ y.1.weights P f.type, m ∈ x.1.weights P e := by
  obtain ⟨ys, n', hn', hy, hlen, hyl, hf⟩ := DataW.trod_struct he h
  refine ⟨n', hlen, fun j f hj => ?_⟩
  have hjl : j < fs.size := (Array.getElem?_eq_some_iff.1 hj).1
  have hys : ys[j]? = some (ys[j]'(by omega)) := List.getElem?_eq_getElem (by omega)
  refine ⟨_, (hf j f hj).trans hys, fun z hz => ?_⟩
  rw [hy]
  simp only [DataW.weights, he]
  exact DataW.weights_mem_each (P := P) (j := j) (by rw [List.getElem?_map, Array.getElem?_toList, hj]; rfl) (by rw [List.getElem?_map, hys]; rfl) z hz
set_option maxRecDepth 100000 in
theorem laid_at {W : World} {cs : List Value} {x : DataW H × List MemPlace} {fuel : Nat}
    (hf : DataW.trod enc Try.prog W 0 (fun _ => true) true fuel 39 cs = some x) (hk : ∀ m ∈ x.1.weights Try.prog 39, m ≤ reachBytes) :
    ∃ (c : Itm.LaidA) (Ak Av An : Option Addr) (ck cv cn : Nat), cs = (c.cells Ak Av An ck cv cn).toList ∧ c.Ok ∧ Base.Bytes W W.heap.size Ak c.key ∧ Base.Bytes W W.heap.size Av c.val ∧ Base.Bytes W W.heap.size An c.nxt ∧ c.val.length ≤ 140737488351232 ∧ c.nxt.length ≤ 140737488351232 := by
  obtain ⟨n, hl, hfi⟩ := struct_weight Try.underlying39 hf
  match cs, hl.trans (show Try.prog.cellsOf 39 = 11 by kernel_rfl) with
  | [c0, c1, c2, c3, c4, c5, c6, c7, c8, c9, c10], _ =>
    have ki : Try.prog.cellsOf 3 = 1 := by kernel_rfl
    have ku : Try.prog.cellsOf 37 = 1 := by kernel_rfl
    have kb : Try.prog.cellsOf 28 = 1 := by kernel_rfl
    obtain ⟨y0, t0, -⟩ := hfi 0 _ rfl
    obtain ⟨y1, t1, -⟩ := hfi 1 _ rfl
    obtain ⟨y2, t2, k2⟩ := hfi 2 _ rfl
    obtain ⟨y3, t3, k3⟩ := hfi 3 _ rfl
    obtain ⟨y4, t4, k4⟩ := hfi 4 _ rfl
    obtain ⟨y5, t5, -⟩ := hfi 5 _ rfl
    obtain ⟨y6, t6, -⟩ := hfi 6 _ rfl
    obtain ⟨y7, t7, -⟩ := hfi 7 _ rfl
    obtain ⟨y8, t8, -⟩ := hfi 8 _ rfl
    obtain ⟨y9, t9, -⟩ := hfi 9 _ rfl
    obtain ⟨y10, t10, -⟩ := hfi 10 _ rfl
    simp [ki, ku, kb] at t0 t1 t2 t3 t4 t5 t6 t7 t8 t9 t10
    obtain ⟨x0, e0, -, w0⟩ := DataW.trod_int Try.underlying3 t0
    obtain ⟨x1, e1, -, w1⟩ := DataW.trod_int Try.underlying3 t1
    obtain ⟨A2, s2, l2, rfl, hl2, hb2⟩ := bytes_form t2 (fun m hm => hk m (k2 m hm))
    obtain ⟨A3, s3, l3, rfl, hl3, hb3⟩ := bytes_form t3 (fun m hm => hk m (k3 m hm))
    obtain ⟨A4, s4, l4, rfl, hl4, hb4⟩ := bytes_form t4 (fun m hm => hk m (k4 m hm))
    obtain ⟨x5, e5, -, w5⟩ := DataW.trod_int Try.underlying37 t5
    obtain ⟨x6, e6, -, w6⟩ := DataW.trod_int Try.underlying37 t6
    obtain ⟨x7, e7, -, w7⟩ := DataW.trod_int Try.underlying3 t7
    obtain ⟨x8, e8, -, w8⟩ := DataW.trod_int Try.underlying3 t8
    obtain ⟨x9, e9, -, w9⟩ := DataW.trod_int Try.underlying3 t9
    obtain ⟨x10, e10, -, w10⟩ := DataW.trod_int Try.underlying3 t10
    simp only [List.cons.injEq, and_true] at e0 e1 e5 e6 e7 e8 e9 e10
    subst e0 e1 e5 e6 e7 e8 e9 e10
    obtain ⟨z5, rfl, hz5⟩ := u64_nat w5
    obtain ⟨z6, rfl, hz6⟩ := u64_nat w6
    exact ⟨⟨x0, x1, l2, l3, l4, z5, z6, x7, x8, x9, x10⟩, A2, A3, A4, s2, s3, s4, rfl, ⟨i64_bd w0, i64_bd w1, by show l2.length ≤ maxLen; unfold maxLen; omega, hz5, hz6, i64_bd w7, i64_bd w8, i64_bd w9, i64_bd w10⟩, hb2, hb3, hb4, hl3, hl4⟩
end Go.Proofs.Ytdmclekohalolaa.ItmArg
/-
  The statements' equal, laidOut, chunkOf.
-/
namespace Go.Proofs.Ytdmclekohalolaa.Itm
open Go.RowKit Base Arena Cls Rel
set_option linter.unusedVariables false

theorem beq_self' (l : List UInt8) : (l == l) = true := by simp
theorem eqTrueC (A A' : Option Addr) (c c' : Nat) (l : List UInt8) (w : World) (ha : Bytes w w.heap.size A l) (hb : Bytes w w.heap.size A' l) :
    Calls Try.prog 26 #[.slice A l.length c, .slice A' l.length c'] w fun e w' => e = .returned (.bool true) ∧ w = w' := by
  have := Book.eqC A A' c c' w.heap.size l l w ha hb
  rw [beq_self'] at this
  exact this
theorem it_cells {w : World} {N : Nat} {t : It} {A B : Option Addr} {a b : Nat} (X : Blk w N 52 (t.cells A B a b)) :
    w.cell? ⟨N, 0, none⟩ = some (.slice A t.key.length a) ∧ w.cell? ⟨N, 1, none⟩ = some (.slice B t.val.length b) ∧ w.cell? ⟨N, 2, none⟩ = some (.int .u64 (t.fl : Int)) ∧ w.cell? ⟨N, 3, none⟩ = some (.int .i64 (t.ex : Int)) ∧
    w.cell? ⟨N, 4, none⟩ = some (.int .i64 (t.tc : Int)) ∧ w.cell? ⟨N, 5, none⟩ = some (.int .u64 (t.tk : Int)) ∧ w.cell? ⟨N, 6, none⟩ = some (.int .i64 (t.st : Int)) ∧ w.cell? ⟨N, 7, none⟩ = some (.int .i64 (t.ms : Int)) :=
  ⟨X.cell 0, X.cell 1, X.cell 2, X.cell 3, X.cell 4, X.cell 5, X.cell 6, X.cell 7⟩
set_option maxRecDepth 100000 in
set_option maxHeartbeats 1600000 in
theorem equalTrueC (w : World) (t : It) (A1 A2 B1 B2 : Option Addr) (a1 a2 b1 b2 : Nat) (h1 : Bytes w w.heap.size A1 t.key) (h2 : Bytes w w.heap.size A2 t.val) (h3 : Bytes w w.heap.size B1 t.key) (h4 : Bytes w w.heap.size B2 t.val) :
    Calls Try.prog 28 #[.agg (t.cells A1 A2 a1 a2), .agg (t.cells B1 B2 b1 b2)] w fun e w' => e = .returned (.bool true) ∧ Below w.heap.size w w' := by
  obtain ⟨w1, hw1⟩ : ∃ w1, w1 = (w.alloc (.cells (t.cells A1 A2 a1 a2) 52)).alloc (.cells (t.cells B1 B2 b1 b2) 52) := ⟨_, rfl⟩
  have X : Blk w1 w.heap.size 52 (t.cells A1 A2 a1 a2) := by rw [hw1]; exact (Blk.new w _ _).alloc _
  have Y : Blk w1 (w.heap.size + 1) 52 (t.cells B1 B2 b1 b2) := by rw [hw1]; exact blk_new' (World.size_alloc _ _)
  have b : Below w.heap.size w w1 := by rw [hw1]; exact ((Below.refl _ _).alloc (Nat.le_refl _) _).alloc (by rw [World.size_alloc]; omega) _
  have K1 := Lib.hid (eqTrueC A1 B1 a1 b1 t.key w1 (bytes_go h1 b) (bytes_go h3 b))
  have K2 := Lib.hid (eqTrueC A2 B2 a2 b2 t.val w1 (bytes_go h2 b) (bytes_go h4 b))
  obtain ⟨x0, x1, x2, x3, x4, x5, x6, x7⟩ := it_cells X
  obtain ⟨y0, y1, y2, y3, y4, y5, y6, y7⟩ := it_cells Y
  rw [It.cells_eq, It.cells_eq] at hw1
  rw [It.cells_eq, It.cells_eq]
  replace hw1 := Lib.hid hw1
  replace b := Lib.hid b
  clear X Y h1 h2 h3 h4
  generalize hN : w.heap.size = N at *
  generalize hN1 : N + 1 = N1 at *
  have hN2 := Lib.hid (show w.heap.size + 1 = N1 by omega)
  replace hN := Lib.hid hN
  replace hN1 := Lib.hid hN1
  go_enter Try.func28, Try.ntmps28
  go_upto_region 1 with fail
  rw [hN2.out, hN.out, ← hw1.out]
  clear hw1 hN2 hN
  go_wp2_with fail
  refine K1.out.mono ?_
  rintro e w' ⟨rfl, rfl⟩
  go_wp2_with fail
  refine K2.out.mono ?_
  rintro e w' ⟨rfl, rfl⟩
  go_wp2
  go_ret
  exact ⟨rfl, b.out⟩
theorem rd_one (l : List UInt8) (o : Nat) (h : o < l.length) : rd l o 1 = (l[o]).toNat := by
  have := rd_succ l o 0 (by omega)
  rw [this]
  simp [rd, beN]
theorem bb_rd {w : World} {t : TypeId} {d : Nat} {l : List UInt8} (hb : BB w t d l) {o v : Nat} (ho : o < l.length) (hv : rd l o 1 = v) : w.cell? ⟨d, o, none⟩ = some (.int .u8 (v : Int)) := by
  rw [rd_one l o ho] at hv
  rw [← hv]
  exact hb.cell o ho
theorem rd_two {l : List UInt8} {o : Nat} {x y : UInt8} (h : (l.drop o).take 2 = [x, y]) : rd l o 1 = x.toNat ∧ rd l (o + 1) 1 = y.toNat := by
  have e0 : ((l.drop o).take 2)[0]? = some x := by rw [h]; rfl
  have e1 : ((l.drop o).take 2)[1]? = some y := by rw [h]; rfl
  rw [piece_get, if_pos (by omega)] at e0 e1
  have h0 := (List.getElem?_eq_some_iff.1 e0)
  have h1 := (List.getElem?_eq_some_iff.1 e1)
  obtain ⟨a0, b0⟩ := h0
  obtain ⟨a1, b1⟩ := h1
  rw [rd_one l o a0, rd_one l (o + 1) a1]
  exact ⟨congrArg UInt8.toNat b0, congrArg UInt8.toNat b1⟩
theorem rd_take (l : List UInt8) (n o m : Nat) (h : o + m ≤ n) : rd (l.take n) o m = rd l o m := by
  unfold rd
  congr 1
  apply List.ext_getElem?
  intro j
  rw [piece_get, piece_get]
  split
  · rw [List.getElem?_take, if_pos (by omega)]
  · rfl
theorem has_take {l : List UInt8} {I : Whole} {n : Nat} (hn : n = 58 + I.t.key.length + I.t.val.length) (hE : l.take n = I.enc) (hl : n ≤ l.length) : Has l 0 I := by
  subst hn
  exact Has.of (by omega) (by rw [List.drop_zero]; exact hE)
set_option maxRecDepth 100000 in
set_option maxHeartbeats 4000000 in
theorem laidOutC (w : World) (d room n : Nat) (l : List UInt8) (hb : BB w 5 d l) (hroom : l.length = room) (hr : room ≤ 1048576) (I : Whole) (h0 : I.l0 = 0) (h1 : I.l1 = 0) (h2 : I.l2 = 0) (F : I.t.Fine) (hg : I.gen < 4294967296) (hc : I.cl < 256)
    (hn : n = 58 + I.t.key.length + I.t.val.length) (hnr : n ≤ room) (hE : l.take n = I.enc) (Ak Av : Option Addr) (ck cv : Nat) (hK : Bytes w w.heap.size Ak I.t.key) (hV : Bytes w w.heap.size Av I.t.val) :
    Calls Try.prog 29 #[.slice (some ⟨d, 0, none⟩) n room, .agg (I.t.cells Ak Av ck cv), .int .i64 (I.cl : Int), .int .u64 (I.gen : Int)] w fun e w' => e = .returned (.bool true) ∧ Below w.heap.size w w' := by
  have Hs := has_take hn hE (by omega)
  obtain ⟨k1, k2⟩ := legal_len F.legal
  have r0 : rd l 0 8 = 0 := by
    have e0 := (Seg.at_ Hs 0 _ rfl).1
    have e1 := (Seg.at_ Hs 1 _ rfl).1
    rw [h0] at e0
    rw [h1] at e1
    rw [putB_len] at e0 e1
    have : (l.drop 0).take 8 = putB 4 0 ++ putB 4 0 := by
      have e0' : (l.drop 0).take 4 = putB 4 0 := e0
      have e1' : (l.drop 4).take 4 = putB 4 0 := e1
      rw [show putB 4 0 ++ putB 4 0 = (l.drop 0).take 4 ++ (l.drop 4).take 4 by rw [e0', e1']]
      apply List.ext_getElem?
      intro j
      rw [piece_get, List.getElem?_append]
      have hl4 : ((l.drop 0).take 4).length = 4 := by simp; omega
      rw [hl4]
      split
      · split
        · rw [piece_get, if_pos (by omega)]
        · rw [piece_get, if_pos (by omega)]; congr 1; omega
      · rw [if_neg (by omega), piece_get, if_neg (by omega)]
    unfold rd
    rw [this]
    rfl
  have r8 : rd l 8 4 = 0 := by have := Hs.l2_ (by rw [h2]; decide); rw [h2] at this; exact this
  have r12 : rd l 12 4 = I.gen := by have := Hs.gen_ hg; rw [Nat.zero_add] at this; exact this
  have r52 : rd l 52 4 = 0 := by have := Hs.pad; rw [Nat.zero_add] at this; exact this
  have r16 : rd l 16 8 = I.t.ex := by have := Hs.ex (by have := F.ex; omega); rw [Nat.zero_add] at this; exact this
  have r24 : rd l 24 8 = I.t.tc := by have := Hs.tc (by have := F.tc; omega); rw [Nat.zero_add] at this; exact this
  have r32 : rd l 32 8 = I.t.tk := by have := Hs.tk F.tk; rw [Nat.zero_add] at this; exact this
  have r40 : rd l 40 4 = I.t.fl := by have := Hs.fl F.fl; rw [Nat.zero_add] at this; exact this
  have r48 : rd l 48 4 = I.t.val.length := by have := Hs.val_len (by omega); rw [Nat.zero_add] at this; exact this
  have c44 : rd l 44 1 = I.t.key.length := by have := Hs.key_len (by omega); rw [Nat.zero_add] at this; exact this
  have c45 : rd l 45 1 = I.t.st := by have := Hs.st (by have := F.st4; omega); rw [Nat.zero_add] at this; exact this
  have c46 : rd l 46 1 = I.t.ms := by have := Hs.ms (by have := F.ms; omega); rw [Nat.zero_add] at this; exact this
  have c47 : rd l 47 1 = I.cl := by have := Hs.cl_ hc; rw [Nat.zero_add] at this; exact this
  have fin := Hs.fin
  rw [Nat.zero_add] at fin
  obtain ⟨f0, f1⟩ := rd_two fin
  rw [show 56 + I.t.key.length + I.t.val.length = n - 2 by omega] at f0
  rw [show 56 + I.t.key.length + I.t.val.length + 1 = n - 1 by omega] at f1
  obtain ⟨w1, hw1⟩ : ∃ w1, w1 = w.alloc (.cells (I.t.cells Ak Av ck cv) 52) := ⟨_, rfl⟩
  have X : Blk w1 w.heap.size 52 (I.t.cells Ak Av ck cv) := by rw [hw1]; exact Blk.new w _ _
  have b : Below w.heap.size w w1 := by rw [hw1]; exact (Below.refl _ _).alloc (Nat.le_refl _) _
  have hb1 : BB w1 5 d l := BB.go hb b
  have K1 := bytes_go hK b
  have V1 := bytes_go hV b
  have bp := hb1.piece w1.heap.size 0 n hb1.lt (by omega) (some ⟨d, 0, none⟩) (fun _ => rfl)
  rw [List.drop_zero] at bp
  have hln : (l.take n).length = n := by simp; omega
  have big := fun (m : Nat) (o k : Nat) (hk : k ≤ 8) (ho : o + k ≤ n) => bigC (some ⟨d, 0, none⟩) room w1.heap.size (l.take n) (w1.drewN m) bp (by rw [hln]; unfold maxLen; omega) o k hk (by rw [hln]; exact ho)
  simp only [hln] at big
  have G0 := fun m => big m 0 8 (by omega) (by omega)
  have G8 := fun m => big m 8 4 (by omega) (by omega)
  have G12 := fun m => big m 12 4 (by omega) (by omega)
  have G52 := fun m => big m 52 4 (by omega) (by omega)
  have G16 := fun m => big m 16 8 (by omega) (by omega)
  have G24 := fun m => big m 24 8 (by omega) (by omega)
  have G32 := fun m => big m 32 8 (by omega) (by omega)
  have G40 := fun m => big m 40 4 (by omega) (by omega)
  have G48 := fun m => big m 48 4 (by omega) (by omega)
  rw [rd_take l n 0 8 (by omega), r0] at G0
  rw [rd_take l n 8 4 (by omega), r8] at G8
  rw [rd_take l n 12 4 (by omega), r12] at G12
  rw [rd_take l n 52 4 (by omega), r52] at G52
  rw [rd_take l n 16 8 (by omega), r16] at G16
  rw [rd_take l n 24 8 (by omega), r24] at G24
  rw [rd_take l n 32 8 (by omega), r32] at G32
  rw [rd_take l n 40 4 (by omega), r40] at G40
  rw [rd_take l n 48 4 (by omega), r48] at G48
  have Z0 : Calls Try.prog 70 #[.slice (some ⟨d, 0, none⟩) n room, .int .i64 0, .int .i64 8] w1 fun e w' => e = .returned (.int .u64 0) ∧ w1 = w' := G0 0
  have Z8 : Calls Try.prog 70 #[.slice (some ⟨d, 0, none⟩) n room, .int .i64 8, .int .i64 4] w1 fun e w' => e = .returned (.int .u64 0) ∧ w1 = w' := G8 0
  have Z12 : Calls Try.prog 70 #[.slice (some ⟨d, 0, none⟩) n room, .int .i64 12, .int .i64 4] w1 fun e w' => e = .returned (.int .u64 (I.gen : Int)) ∧ w1 = w' := G12 0
  have Z52 : Calls Try.prog 70 #[.slice (some ⟨d, 0, none⟩) n room, .int .i64 52, .int .i64 4] w1 fun e w' => e = .returned (.int .u64 0) ∧ w1 = w' := G52 0
  have Y16 : ∀ m, Calls Try.prog 70 #[.slice (some ⟨d, 0, none⟩) n room, .int .i64 16, .int .i64 8] (w1.drewN m) fun e w' => e = .returned (.int .u64 (I.t.ex : Int)) ∧ w1.drewN m = w' := G16
  have Y24 : ∀ m, Calls Try.prog 70 #[.slice (some ⟨d, 0, none⟩) n room, .int .i64 24, .int .i64 8] (w1.drewN m) fun e w' => e = .returned (.int .u64 (I.t.tc : Int)) ∧ w1.drewN m = w' := G24
  have Y32 : ∀ m, Calls Try.prog 70 #[.slice (some ⟨d, 0, none⟩) n room, .int .i64 32, .int .i64 8] (w1.drewN m) fun e w' => e = .returned (.int .u64 (I.t.tk : Int)) ∧ w1.drewN m = w' := G32
  have Y40 : ∀ m, Calls Try.prog 70 #[.slice (some ⟨d, 0, none⟩) n room, .int .i64 40, .int .i64 4] (w1.drewN m) fun e w' => e = .returned (.int .u64 (I.t.fl : Int)) ∧ w1.drewN m = w' := G40
  have Y48 : ∀ m, Calls Try.prog 70 #[.slice (some ⟨d, 0, none⟩) n room, .int .i64 48, .int .i64 4] (w1.drewN m) fun e w' => e = .returned (.int .u64 (I.t.val.length : Int)) ∧ w1.drewN m = w' := G48
  clear G0 G8 G12 G52 G16 G24 G32 G40 G48 big r0 r8 r12 r52 r16 r24 r32 r40 r48 bp hln
  have pk := hb1.piece w1.heap.size 56 I.t.key.length hb1.lt (by omega) (some ⟨d, 56, none⟩) (fun _ => rfl)
  have pv := hb1.piece w1.heap.size (56 + I.t.key.length) I.t.val.length hb1.lt (by omega) (some ⟨d, 56 + I.t.key.length, none⟩) (fun _ => rfl)
  have hkey := Hs.key
  have hval := Hs.val
  rw [Nat.zero_add] at hkey hval
  rw [hkey] at pk
  rw [hval] at pv
  have KE := fun m c1 => eqTrueC (some ⟨d, 56, none⟩) Ak c1 ck I.t.key (w1.drewN m) pk K1
  have VE := fun m c1 => eqTrueC (some ⟨d, 56 + I.t.key.length, none⟩) Av c1 cv I.t.val (w1.drewN m) pv V1
  clear pk pv hkey hval K1 V1 fin Hs hE hK hV hb
  obtain ⟨x0, x1, x2, x3, x4, x5, x6, x7⟩ := it_cells X
  have b44 := bb_rd hb1 (by omega) c44
  have b45 := bb_rd hb1 (by omega) c45
  have b46 := bb_rd hb1 (by omega) c46
  have b47 := bb_rd hb1 (by omega) c47
  have bf0 := bb_rd hb1 (by omega) f0
  have bf1 := bb_rd hb1 (by omega) f1
  have hex := F.ex
  have htc := F.tc
  have hst := F.st4
  have hms := F.ms
  clear c44 c45 c46 c47 f0 f1 hb1 X F h0 h1 h2
  rw [It.cells_eq] at hw1
  rw [It.cells_eq]
  have g44 : (44 : Int) < (n : Int) := by omega
  have g45 : (45 : Int) < (n : Int) := by omega
  have g46 : (46 : Int) < (n : Int) := by omega
  have g47 : (47 : Int) < (n : Int) := by omega
  generalize I.t.key.length = K at *
  generalize I.t.val.length = V at *
  generalize I.t.ex = ex at *
  generalize I.t.tc = tc at *
  generalize I.t.tk = tk at *
  generalize I.t.fl = fl at *
  generalize I.t.st = st at *
  generalize I.t.ms = ms at *
  generalize I.cl = cl at *
  generalize I.gen = gen at *
  have q1 : IntKind.i64.wrap (58 + (K : Int)) = ((58 + K : Nat) : Int) := by rw [IntWalk.i64_in _ (by omega)]; omega
  have q2 : IntKind.i64.wrap (((58 + K : Nat) : Int) + (V : Int)) = (n : Int) := by rw [IntWalk.i64_in _ (by omega)]; omega
  have q3 : IntKind.u64.wrap (ex : Int) = (ex : Int) := IntWalk.u64_in _ (by omega)
  have q4 : IntKind.u64.wrap (tc : Int) = (tc : Int) := IntWalk.u64_in _ (by omega)
  have q5 : IntKind.i64.wrap (K : Int) = (K : Int) := IntWalk.i64_in _ (by omega)
  have q6 : IntKind.i64.wrap (st : Int) = (st : Int) := IntWalk.i64_in _ (by omega)
  have q7 : IntKind.i64.wrap (ms : Int) = (ms : Int) := IntWalk.i64_in _ (by omega)
  have q8 : IntKind.i64.wrap (cl : Int) = (cl : Int) := IntWalk.i64_in _ (by omega)
  have q9 : IntKind.u64.wrap (V : Int) = (V : Int) := IntWalk.u64_in _ (by omega)
  have s1 : IntKind.i64.wrap (56 + (K : Int)) = ((56 + K : Nat) : Int) := by rw [IntWalk.i64_in _ (by omega)]; omega
  have s2 : IntKind.i64.wrap (((56 + K : Nat) : Int) + (V : Int)) = ((56 + K + V : Nat) : Int) := by rw [IntWalk.i64_in _ (by omega)]; omega
  have s3 : IntKind.i64.wrap ((n : Int) - 2) = ((n - 2 : Nat) : Int) := by rw [IntWalk.i64_in _ (by omega)]; omega
  have s4 : IntKind.i64.wrap ((n : Int) - 1) = ((n - 1 : Nat) : Int) := by rw [IntWalk.i64_in _ (by omega)]; omega
  have t1 : (56 : Int) ≤ ((56 + K : Nat) : Int) := by omega
  have t2 : ((56 + K : Nat) : Int) ≤ (room : Int) := by omega
  have t3 : ((56 + K : Nat) : Int) ≤ ((56 + K + V : Nat) : Int) := by omega
  have t4 : ((56 + K + V : Nat) : Int) ≤ (room : Int) := by omega
  have t5 : (0 : Int) ≤ ((56 + K : Nat) : Int) := by omega
  have t6 : (0 : Int) ≤ ((n - 2 : Nat) : Int) := by omega
  have t7 : ((n - 2 : Nat) : Int) < (n : Int) := by omega
  have t8 : (0 : Int) ≤ ((n - 1 : Nat) : Int) := by omega
  have t9 : ((n - 1 : Nat) : Int) < (n : Int) := by omega
  have u1 : 56 + K - 56 = K := by omega
  have u2 : 56 + K + V - (56 + K) = V := by omega
  have u3 : room ≠ 56 := by omega
  have u4 : room ≠ 56 + K := by omega
  have u5 : room - 56 ≠ 0 := by omega
  have u6 : room - (56 + K) ≠ 0 := by omega
  clear hn hnr hr hroom k1 k2 hex htc hst hms hc hg
  generalize 56 + K + V = KV at *
  generalize 56 + K = K56 at *
  generalize 58 + K = K58 at *
  generalize n - 2 = n2 at *
  generalize n - 1 = n1 at *
  replace hw1 := Lib.hid hw1
  replace b := Lib.hid b
  replace Z0 := Lib.hid Z0
  replace Z8 := Lib.hid Z8
  replace Z12 := Lib.hid Z12
  replace Z52 := Lib.hid Z52
  replace Y16 := Lib.hid Y16
  replace Y24 := Lib.hid Y24
  replace Y32 := Lib.hid Y32
  replace Y40 := Lib.hid Y40
  replace Y48 := Lib.hid Y48
  replace KE := Lib.hid KE
  replace VE := Lib.hid VE
  generalize hN : w.heap.size = N at *
  replace hN := Lib.hid hN
  go_enter Try.func29, Try.ntmps29
  go_upto_region 1 with fail
  rw [hN.out, ← hw1.out]
  go_wp2_with fail
  refine Z0.out.mono ?_
  rintro e w' ⟨rfl, rfl⟩
  go_wp2_with fail
  refine Z8.out.mono ?_
  rintro e w' ⟨rfl, rfl⟩
  go_wp2_with fail
  refine Z12.out.mono ?_
  rintro e w' ⟨rfl, rfl⟩
  go_wp2_with fail
  refine Z52.out.mono ?_
  rintro e w' ⟨rfl, rfl⟩
  go_upto_region 4 with fail
  go_quiet ((first | (go_at_call_of 70 (Value.int IntKind.i64 16); exact quiet_left (Y16.out _)) | (go_at_call_of 70 (Value.int IntKind.i64 24); exact quiet_left (Y24.out _)) | (go_at_call_of 70 (Value.int IntKind.i64 32); exact quiet_left (Y32.out _)) | (go_at_call_of 70 (Value.int IntKind.i64 40); exact quiet_left (Y40.out _))))
  go_upto_region 6 with fail
  go_quiet ((first | (go_at_call_of 70 (Value.int IntKind.i64 48); exact quiet_add_left (Y48.out _))))
  go_upto_region 8 with fail
  go_quiet ((first | (go_at_call_of 26 (Value.slice Ak K ck); exact quiet_add_left (KE.out _ _)) | (go_at_call_of 26 (Value.slice Av V cv); exact quiet_add_left (VE.out _ _))))
  go_wp2
  go_ret
  exact ⟨rfl, below_drew (below_drew (below_drew b.out _) _) _⟩
/-- All bytes of a handle's chunk. -/
theorem chunkOfC (w : World) (L : Lay) (c : Conf) (s : St) (bs : List UInt8) (h : SetAt w L c s bs) (g : Cls.Good c.cf s) {H i x p k n : Nat} (K : Chk c s bs.length H i x p k n) :
    Calls Try.prog 23 #[.pointer (some ⟨L.g, 0, none⟩), .int .u64 (H : Int)] w fun e w' => ∃ b, e = .returned (.slice (some ⟨b, 0, none⟩) n n) ∧ w.heap.size ≤ b ∧ BB w' 5 b ((bs.drop p).take n) ∧ Below w.heap.size w w' := by
  have AC := atC w L c s bs h g H K.hH
  rw [K.hf] at AC
  unfold atV at AC
  simp only [K.hk] at AC
  have ok := h.okc
  have RC := fun m => arenaC (w.drewN m) L c s bs (h.drewN m)
  have CC := fun m => chunkSizeC (w.drewN m) L c s bs (h.drewN m) (k : Int)
  have kn := K.kn
  simp only [if_pos (show (0 : Int) ≤ (k : Int) ∧ (k : Int) < (c.nc : Int) by omega), Int.toNat_natCast, K.sz] at CC
  have hck := K.ck.there 0 n (by omega)
  rw [Nat.add_zero] at hck
  have DC := fun m => Arena.readYes (w.drewN m) L.ga L.ha c.cf.ps bs ((h.drewN m).arena ok) _ _ hck
  simp only [Int.toNat_natCast] at DC
  have n0 := fun w => itemNumC w 0
  replace AC := Lib.hid AC
  replace RC := Lib.hid RC
  replace CC := Lib.hid CC
  replace DC := Lib.hid DC
  clear h g K hck kn ok
  go_enter Try.func23, Try.ntmps23
  go_wp2_with fail
  refine AC.out.mono ?_
  rintro e w' ⟨rfl, m, rfl⟩
  go_wp2_with (first | (go_at_call 8; refine (n0 _).mono ?_; rintro e w' ⟨rfl, rfl⟩) | (go_at_call 30; refine (RC.out _).mono ?_; rintro e w' ⟨rfl, rfl⟩) | (go_at_call 22; refine (CC.out _).mono ?_; rintro e w' ⟨rfl, rfl⟩) | fail)
  refine (DC.out _).mono ?_
  rintro e w5 ⟨rfl, B5, b5, -⟩
  replace B5 := Lib.hid B5
  have b6 : Below w.heap.size w w5 := ⟨b5.os, b5.tape, b5.output, b5.size, b5.block⟩
  replace b6 := Lib.hid b6
  clear b5
  go_wp2_with (first | (go_at_call 8; refine (n0 _).mono ?_; rintro e w' ⟨rfl, rfl⟩) | fail)
  go_ret
  exact ⟨_, rfl, Nat.le_refl _, B5.out, b6.out⟩
end Go.Proofs.Ytdmclekohalolaa.Itm
/-
  item.Lay refused (printed by wip/gen_layno.py).
-/
namespace Go.Proofs.Ytdmclekohalolaa.Itm
open Go.RowKit Base Arena Cls
set_option linter.unusedVariables false

/-- An item as it is handed in, right or not. -/
structure Raw where
  key : List UInt8
  val : List UInt8
  fl : Nat
  ex : Int
  tc : Int
  tk : Nat
  st : Int
  ms : Int
def Raw.cells (t : Raw) (Ak Av : Option Addr) (ck cv : Nat) : Array Value :=
  #[.slice Ak t.key.length ck, .slice Av t.val.length cv, .int .u64 (t.fl : Int), .int .i64 t.ex, .int .i64 t.tc, .int .u64 (t.tk : Int), .int .i64 t.st, .int .i64 t.ms]
theorem Raw.cells_eq (t : Raw) (Ak Av : Option Addr) (ck cv : Nat) : t.cells Ak Av ck cv =
  #[.slice Ak t.key.length ck, .slice Av t.val.length cv, .int .u64 (t.fl : Int), .int .i64 t.ex, .int .i64 t.tc, .int .u64 (t.tk : Int), .int .i64 t.st, .int .i64 t.ms] := rfl
def It.raw (t : It) : Raw := ⟨t.key, t.val, t.fl, t.ex, t.tc, t.tk, t.st, t.ms⟩
theorem It.raw_cells (t : It) (Ak Av : Option Addr) (ck cv : Nat) : t.raw.cells Ak Av ck cv = t.cells Ak Av ck cv := rfl
def Raw.good (t : Raw) : Bool := decide (1 ≤ t.st) && decide (t.st ≤ 4) && marksN t.ms && decide (t.fl ≤ 4294967295) && decide (0 ≤ t.ex) && decide (0 ≤ t.tc)
theorem raw_cells {w : World} {N : Nat} {t : Raw} {A B : Option Addr} {a b : Nat} (X : Blk w N 52 (t.cells A B a b)) :
    w.cell? ⟨N, 0, none⟩ = some (.slice A t.key.length a) ∧ w.cell? ⟨N, 1, none⟩ = some (.slice B t.val.length b) ∧ w.cell? ⟨N, 2, none⟩ = some (.int .u64 (t.fl : Int)) ∧ w.cell? ⟨N, 3, none⟩ = some (.int .i64 t.ex) ∧
    w.cell? ⟨N, 4, none⟩ = some (.int .i64 t.tc) ∧ w.cell? ⟨N, 5, none⟩ = some (.int .u64 (t.tk : Int)) ∧ w.cell? ⟨N, 6, none⟩ = some (.int .i64 t.st) ∧ w.cell? ⟨N, 7, none⟩ = some (.int .i64 t.ms) :=
  ⟨X.cell 0, X.cell 1, X.cell 2, X.cell 3, X.cell 4, X.cell 5, X.cell 6, X.cell 7⟩
section
variable (w : World) (L : Lay) (c : Conf) (s : St) (bs : List UInt8) (h : SetAt w L c s bs) (g : Cls.Good c.cf s) (t : Raw) (Ak Av : Option Addr) (ck cv : Nat)
include h g
set_option maxRecDepth 100000 in
theorem layNo (H : Nat) (hH : H < 18446744073709551616) (hf : findN c.cf s H = none) : Calls Try.prog 24 #[.pointer (some ⟨L.g, 0, none⟩), .int .u64 (H : Int), .agg (t.cells Ak Av ck cv)] w fun e w' => e = .returned (.int .i64 20) ∧ Below w.heap.size w w' := by
  obtain ⟨w1, hw1⟩ : ∃ w1, w1 = w.alloc (.cells (t.cells Ak Av ck cv) 52) := ⟨_, rfl⟩
  have B1 : Blk w1 w.heap.size 52 (t.cells Ak Av ck cv) := by rw [hw1]; exact Blk.new w _ _
  have b1 : Below w.heap.size w w1 := by rw [hw1]; exact (Below.refl _ _).alloc (Nat.le_refl _) _
  have s1 : w1.heap.size = w.heap.size + 1 := by rw [hw1]; exact World.size_alloc _ _
  have h1 : SetAt w1 L c s bs := by rw [hw1]; exact h.alloc _
  have OC := openNo w1 L c s bs h1 g H hH hf
  rw [zc_eq] at OC
  rw [Raw.cells_eq] at hw1
  rw [Raw.cells_eq]
  replace OC := Lib.hid OC
  replace hw1 := Lib.hid hw1
  replace b1 := Lib.hid b1
  replace s1 := Lib.hid s1
  clear B1 h1 h g hf
  generalize hN : w.heap.size = N at *
  replace hN := Lib.hid hN
  go_enter Try.func24, Try.ntmps24
  go_upto_region 1 with fail
  rw [hN.out, ← hw1.out]
  go_wp2_with fail
  refine OC.out.mono ?_
  rintro e w2 ⟨rfl, b2⟩
  have b3 := Lib.hid ((b1.out.trans (b2.mono (B' := N) (by have := s1.out; omega))).alloc (by have h1 : w1.heap.size ≤ w2.heap.size := b2.size; have h2 : w1.heap.size = N + 1 := s1.out; omega) (.cells #[.pointer none, .int .i64 0, .int .i64 0, .int .i64 0] 117))
  clear b2
  go_wp2
  go_ret
  exact ⟨rfl, b3.out⟩
set_option maxRecDepth 100000 in
set_option maxHeartbeats 2000000 in
theorem layKey {H i x p k n : Nat} (K : Chk c s bs.length H i x p k n) (hB : Bytes w w.heap.size Ak t.key) (hkm : t.key.length ≤ maxLen) (hvm : t.val.length ≤ maxLen) (hl : legalN t.key = false) : Calls Try.prog 24 #[.pointer (some ⟨L.g, 0, none⟩), .int .u64 (H : Int), .agg (t.cells Ak Av ck cv)] w fun e w' => e = .returned (.int .i64 30) ∧ Below w.heap.size w w' := by
  obtain ⟨w1, hw1⟩ : ∃ w1, w1 = w.alloc (.cells (t.cells Ak Av ck cv) 52) := ⟨_, rfl⟩
  have B1 : Blk w1 w.heap.size 52 (t.cells Ak Av ck cv) := by rw [hw1]; exact Blk.new w _ _
  have b1 : Below w.heap.size w w1 := by rw [hw1]; exact (Below.refl _ _).alloc (Nat.le_refl _) _
  have s1 : w1.heap.size = w.heap.size + 1 := by rw [hw1]; exact World.size_alloc _ _
  have h1 : SetAt w1 L c s bs := by rw [hw1]; exact h.alloc _
  have OC := openK w1 L c s bs h1 g K
  rw [kv_eq] at OC
  have LC := fun w (hB : Bytes w w.heap.size Ak t.key) => legalC Ak ck w.heap.size t.key w hB hkm
  rw [hl] at LC
  rw [Raw.cells_eq] at hw1
  rw [Raw.cells_eq]
  have BR := bytes_go hB b1
  replace OC := Lib.hid OC
  replace LC := Lib.hid LC
  replace hw1 := Lib.hid hw1
  replace b1 := Lib.hid b1
  replace s1 := Lib.hid s1
  replace B1 := Lib.hid B1
  replace BR := Lib.hid BR
  clear h1 h g hB
  generalize hN : w.heap.size = N at *
  replace hN := Lib.hid hN
  go_enter Try.func24, Try.ntmps24
  go_upto_region 1 with fail
  rw [hN.out, ← hw1.out]
  go_wp2_with fail
  refine OC.out.mono ?_
  rintro e w2 ⟨rfl, b2⟩
  obtain ⟨w3, hw3⟩ : ∃ w3, w3 = w2.alloc (.cells #[.pointer (some ⟨L.ga, 0, none⟩), .int .i64 (p : Int), .int .i64 (k : Int), .int .i64 (n : Int)] 117) := ⟨_, rfl⟩
  have b23 : Below w2.heap.size w2 w3 := by rw [hw3]; exact (Below.refl _ _).alloc (Nat.le_refl _) _
  have B3 := (B1.out.below b2 (by have := s1.out; omega)).below b23 (by have h1 : w1.heap.size ≤ w2.heap.size := b2.size; have h2 : w1.heap.size = N + 1 := s1.out; omega)
  have C3 : Blk w3 w2.heap.size 117 (kv L.ga p k n) := by rw [hw3, ← kv_eq]; exact Blk.new w2 _ _
  have LC3 := LC.out w3 (bytes_go (bytes_go BR.out b2) b23)
  have b3 : Below N w w3 := (b1.out.trans (b2.mono (B' := N) (by have := s1.out; omega))).trans (b23.mono (by have h1 : w1.heap.size ≤ w2.heap.size := b2.size; have h2 : w1.heap.size = N + 1 := s1.out; omega))
  obtain ⟨x0, x1, x2, x3, x4, x5, x6, x7⟩ := raw_cells B3
  have y3 : w3.cell? ⟨w2.heap.size, 3, none⟩ = some (.int .i64 (n : Int)) := C3.cell 3
  replace LC3 := Lib.hid LC3
  replace hw3 := Lib.hid hw3
  replace b3 := Lib.hid b3
  clear b2 b23 B3 C3 OC LC BR hw1
  generalize hN2 : w2.heap.size = N1 at *
  replace hN2 := Lib.hid hN2
  go_upto_region 2 with fail
  rw [hN2.out, ← hw3.out]
  clear hN2 hw3
  go_wp2_with fail
  refine LC3.out.mono ?_
  rintro e w' ⟨rfl, rfl⟩
  go_wp2
  go_ret
  exact ⟨rfl, b3.out⟩
set_option maxRecDepth 100000 in
set_option maxHeartbeats 2000000 in
theorem layLong {H i x p k n : Nat} (K : Chk c s bs.length H i x p k n) (hB : Bytes w w.heap.size Ak t.key) (hkm : t.key.length ≤ maxLen) (hvm : t.val.length ≤ maxLen) (hl : legalN t.key = true) (hn : n < 58 + t.key.length + t.val.length) : Calls Try.prog 24 #[.pointer (some ⟨L.g, 0, none⟩), .int .u64 (H : Int), .agg (t.cells Ak Av ck cv)] w fun e w' => e = .returned (.int .i64 6) ∧ Below w.heap.size w w' := by
  obtain ⟨w1, hw1⟩ : ∃ w1, w1 = w.alloc (.cells (t.cells Ak Av ck cv) 52) := ⟨_, rfl⟩
  have B1 : Blk w1 w.heap.size 52 (t.cells Ak Av ck cv) := by rw [hw1]; exact Blk.new w _ _
  have b1 : Below w.heap.size w w1 := by rw [hw1]; exact (Below.refl _ _).alloc (Nat.le_refl _) _
  have s1 : w1.heap.size = w.heap.size + 1 := by rw [hw1]; exact World.size_alloc _ _
  have h1 : SetAt w1 L c s bs := by rw [hw1]; exact h.alloc _
  have OC := openK w1 L c s bs h1 g K
  rw [kv_eq] at OC
  have LC := fun w (hB : Bytes w w.heap.size Ak t.key) => legalC Ak ck w.heap.size t.key w hB hkm
  rw [hl] at LC
  obtain ⟨hl1, hl2⟩ := legal_len hl
  have hnb := K.nb
  unfold maxLen at hvm
  have q1 : IntKind.i64.wrap ((n : Int) - 58) = (n : Int) - 58 := IntWalk.i64_in _ (by omega)
  have q2 : IntKind.i64.wrap ((n : Int) - 58 - (t.key.length : Int)) = (n : Int) - 58 - (t.key.length : Int) := IntWalk.i64_in _ (by omega)
  have d1 : decide ((n : Int) - 58 - (t.key.length : Int) < (t.val.length : Int)) = true := decide_eq_true (by omega)
  rw [Raw.cells_eq] at hw1
  rw [Raw.cells_eq]
  have BR := bytes_go hB b1
  replace OC := Lib.hid OC
  replace LC := Lib.hid LC
  replace hw1 := Lib.hid hw1
  replace b1 := Lib.hid b1
  replace s1 := Lib.hid s1
  replace B1 := Lib.hid B1
  replace BR := Lib.hid BR
  clear h1 h g hB
  generalize hN : w.heap.size = N at *
  replace hN := Lib.hid hN
  go_enter Try.func24, Try.ntmps24
  go_upto_region 1 with fail
  rw [hN.out, ← hw1.out]
  go_wp2_with fail
  refine OC.out.mono ?_
  rintro e w2 ⟨rfl, b2⟩
  obtain ⟨w3, hw3⟩ : ∃ w3, w3 = w2.alloc (.cells #[.pointer (some ⟨L.ga, 0, none⟩), .int .i64 (p : Int), .int .i64 (k : Int), .int .i64 (n : Int)] 117) := ⟨_, rfl⟩
  have b23 : Below w2.heap.size w2 w3 := by rw [hw3]; exact (Below.refl _ _).alloc (Nat.le_refl _) _
  have B3 := (B1.out.below b2 (by have := s1.out; omega)).below b23 (by have h1 : w1.heap.size ≤ w2.heap.size := b2.size; have h2 : w1.heap.size = N + 1 := s1.out; omega)
  have C3 : Blk w3 w2.heap.size 117 (kv L.ga p k n) := by rw [hw3, ← kv_eq]; exact Blk.new w2 _ _
  have LC3 := LC.out w3 (bytes_go (bytes_go BR.out b2) b23)
  have b3 : Below N w w3 := (b1.out.trans (b2.mono (B' := N) (by have := s1.out; omega))).trans (b23.mono (by have h1 : w1.heap.size ≤ w2.heap.size := b2.size; have h2 : w1.heap.size = N + 1 := s1.out; omega))
  obtain ⟨x0, x1, x2, x3, x4, x5, x6, x7⟩ := raw_cells B3
  have y3 : w3.cell? ⟨w2.heap.size, 3, none⟩ = some (.int .i64 (n : Int)) := C3.cell 3
  replace LC3 := Lib.hid LC3
  replace hw3 := Lib.hid hw3
  replace b3 := Lib.hid b3
  clear b2 b23 B3 C3 OC LC BR hw1
  generalize hN2 : w2.heap.size = N1 at *
  replace hN2 := Lib.hid hN2
  go_upto_region 2 with fail
  rw [hN2.out, ← hw3.out]
  clear hN2 hw3
  go_wp2_with fail
  refine LC3.out.mono ?_
  rintro e w' ⟨rfl, rfl⟩
  go_wp2
  go_ret
  exact ⟨rfl, b3.out⟩
set_option maxRecDepth 100000 in
set_option maxHeartbeats 2000000 in
theorem layArg {H i x p k n : Nat} (K : Chk c s bs.length H i x p k n) (hB : Bytes w w.heap.size Ak t.key) (hkm : t.key.length ≤ maxLen) (hvm : t.val.length ≤ maxLen) (hl : legalN t.key = true) (hn : 58 + t.key.length + t.val.length ≤ n) (ha : t.good = false) : Calls Try.prog 24 #[.pointer (some ⟨L.g, 0, none⟩), .int .u64 (H : Int), .agg (t.cells Ak Av ck cv)] w fun e w' => e = .returned (.int .i64 1) ∧ Below w.heap.size w w' := by
  obtain ⟨w1, hw1⟩ : ∃ w1, w1 = w.alloc (.cells (t.cells Ak Av ck cv) 52) := ⟨_, rfl⟩
  have B1 : Blk w1 w.heap.size 52 (t.cells Ak Av ck cv) := by rw [hw1]; exact Blk.new w _ _
  have b1 : Below w.heap.size w w1 := by rw [hw1]; exact (Below.refl _ _).alloc (Nat.le_refl _) _
  have s1 : w1.heap.size = w.heap.size + 1 := by rw [hw1]; exact World.size_alloc _ _
  have h1 : SetAt w1 L c s bs := by rw [hw1]; exact h.alloc _
  have OC := openK w1 L c s bs h1 g K
  rw [kv_eq] at OC
  have LC := fun w (hB : Bytes w w.heap.size Ak t.key) => legalC Ak ck w.heap.size t.key w hB hkm
  rw [hl] at LC
  obtain ⟨hl1, hl2⟩ := legal_len hl
  have hnb := K.nb
  unfold maxLen at hvm
  have q1 : IntKind.i64.wrap ((n : Int) - 58) = (n : Int) - 58 := IntWalk.i64_in _ (by omega)
  have q2 : IntKind.i64.wrap ((n : Int) - 58 - (t.key.length : Int)) = (n : Int) - 58 - (t.key.length : Int) := IntWalk.i64_in _ (by omega)
  have d1 : decide ((n : Int) - 58 - (t.key.length : Int) < (t.val.length : Int)) = false := decide_eq_false (by omega)
  have MC := fun w => marksC w t.ms
  rw [Raw.cells_eq] at hw1
  rw [Raw.cells_eq]
  have BR := bytes_go hB b1
  replace OC := Lib.hid OC
  replace LC := Lib.hid LC
  replace hw1 := Lib.hid hw1
  replace b1 := Lib.hid b1
  replace s1 := Lib.hid s1
  replace B1 := Lib.hid B1
  replace BR := Lib.hid BR
  clear h1 h g hB
  generalize hN : w.heap.size = N at *
  replace hN := Lib.hid hN
  by_cases c0 : t.st < 1
  · have e0 : decide (t.st < 1) = true := decide_eq_true c0
    clear MC
    go_enter Try.func24, Try.ntmps24
    go_upto_region 1 with fail
    rw [hN.out, ← hw1.out]
    go_wp2_with fail
    refine OC.out.mono ?_
    rintro e w2 ⟨rfl, b2⟩
    obtain ⟨w3, hw3⟩ : ∃ w3, w3 = w2.alloc (.cells #[.pointer (some ⟨L.ga, 0, none⟩), .int .i64 (p : Int), .int .i64 (k : Int), .int .i64 (n : Int)] 117) := ⟨_, rfl⟩
    have b23 : Below w2.heap.size w2 w3 := by rw [hw3]; exact (Below.refl _ _).alloc (Nat.le_refl _) _
    have B3 := (B1.out.below b2 (by have := s1.out; omega)).below b23 (by have h1 : w1.heap.size ≤ w2.heap.size := b2.size; have h2 : w1.heap.size = N + 1 := s1.out; omega)
    have C3 : Blk w3 w2.heap.size 117 (kv L.ga p k n) := by rw [hw3, ← kv_eq]; exact Blk.new w2 _ _
    have LC3 := LC.out w3 (bytes_go (bytes_go BR.out b2) b23)
    have b3 : Below N w w3 := (b1.out.trans (b2.mono (B' := N) (by have := s1.out; omega))).trans (b23.mono (by have h1 : w1.heap.size ≤ w2.heap.size := b2.size; have h2 : w1.heap.size = N + 1 := s1.out; omega))
    obtain ⟨x0, x1, x2, x3, x4, x5, x6, x7⟩ := raw_cells B3
    have y3 : w3.cell? ⟨w2.heap.size, 3, none⟩ = some (.int .i64 (n : Int)) := C3.cell 3
    replace LC3 := Lib.hid LC3
    replace hw3 := Lib.hid hw3
    replace b3 := Lib.hid b3
    clear b2 b23 B3 C3 OC LC BR hw1
    generalize hN2 : w2.heap.size = N1 at *
    replace hN2 := Lib.hid hN2
    go_upto_region 2 with fail
    rw [hN2.out, ← hw3.out]
    clear hN2 hw3
    go_wp2_with fail
    refine LC3.out.mono ?_
    rintro e w' ⟨rfl, rfl⟩
    go_wp2_with fail
    go_ret
    exact ⟨rfl, b3.out⟩
  · have e0 : decide (t.st < 1) = false := decide_eq_false c0
    by_cases c1 : 4 < t.st
    · have e1 : decide (4 < t.st) = true := decide_eq_true c1
      clear MC
      go_enter Try.func24, Try.ntmps24
      go_upto_region 1 with fail
      rw [hN.out, ← hw1.out]
      go_wp2_with fail
      refine OC.out.mono ?_
      rintro e w2 ⟨rfl, b2⟩
      obtain ⟨w3, hw3⟩ : ∃ w3, w3 = w2.alloc (.cells #[.pointer (some ⟨L.ga, 0, none⟩), .int .i64 (p : Int), .int .i64 (k : Int), .int .i64 (n : Int)] 117) := ⟨_, rfl⟩
      have b23 : Below w2.heap.size w2 w3 := by rw [hw3]; exact (Below.refl _ _).alloc (Nat.le_refl _) _
      have B3 := (B1.out.below b2 (by have := s1.out; omega)).below b23 (by have h1 : w1.heap.size ≤ w2.heap.size := b2.size; have h2 : w1.heap.size = N + 1 := s1.out; omega)
      have C3 : Blk w3 w2.heap.size 117 (kv L.ga p k n) := by rw [hw3, ← kv_eq]; exact Blk.new w2 _ _
      have LC3 := LC.out w3 (bytes_go (bytes_go BR.out b2) b23)
      have b3 : Below N w w3 := (b1.out.trans (b2.mono (B' := N) (by have := s1.out; omega))).trans (b23.mono (by have h1 : w1.heap.size ≤ w2.heap.size := b2.size; have h2 : w1.heap.size = N + 1 := s1.out; omega))
      obtain ⟨x0, x1, x2, x3, x4, x5, x6, x7⟩ := raw_cells B3
      have y3 : w3.cell? ⟨w2.heap.size, 3, none⟩ = some (.int .i64 (n : Int)) := C3.cell 3
      replace LC3 := Lib.hid LC3
      replace hw3 := Lib.hid hw3
      replace b3 := Lib.hid b3
      clear b2 b23 B3 C3 OC LC BR hw1
      generalize hN2 : w2.heap.size = N1 at *
      replace hN2 := Lib.hid hN2
      go_upto_region 2 with fail
      rw [hN2.out, ← hw3.out]
      clear hN2 hw3
      go_wp2_with fail
      refine LC3.out.mono ?_
      rintro e w' ⟨rfl, rfl⟩
      go_wp2_with fail
      go_ret
      exact ⟨rfl, b3.out⟩
    · have e1 : decide (4 < t.st) = false := decide_eq_false c1
      by_cases c2 : marksN t.ms = false
      · rw [c2] at MC
        go_enter Try.func24, Try.ntmps24
        go_upto_region 1 with fail
        rw [hN.out, ← hw1.out]
        go_wp2_with fail
        refine OC.out.mono ?_
        rintro e w2 ⟨rfl, b2⟩
        obtain ⟨w3, hw3⟩ : ∃ w3, w3 = w2.alloc (.cells #[.pointer (some ⟨L.ga, 0, none⟩), .int .i64 (p : Int), .int .i64 (k : Int), .int .i64 (n : Int)] 117) := ⟨_, rfl⟩
        have b23 : Below w2.heap.size w2 w3 := by rw [hw3]; exact (Below.refl _ _).alloc (Nat.le_refl _) _
        have B3 := (B1.out.below b2 (by have := s1.out; omega)).below b23 (by have h1 : w1.heap.size ≤ w2.heap.size := b2.size; have h2 : w1.heap.size = N + 1 := s1.out; omega)
        have C3 : Blk w3 w2.heap.size 117 (kv L.ga p k n) := by rw [hw3, ← kv_eq]; exact Blk.new w2 _ _
        have LC3 := LC.out w3 (bytes_go (bytes_go BR.out b2) b23)
        have b3 : Below N w w3 := (b1.out.trans (b2.mono (B' := N) (by have := s1.out; omega))).trans (b23.mono (by have h1 : w1.heap.size ≤ w2.heap.size := b2.size; have h2 : w1.heap.size = N + 1 := s1.out; omega))
        obtain ⟨x0, x1, x2, x3, x4, x5, x6, x7⟩ := raw_cells B3
        have y3 : w3.cell? ⟨w2.heap.size, 3, none⟩ = some (.int .i64 (n : Int)) := C3.cell 3
        replace LC3 := Lib.hid LC3
        replace hw3 := Lib.hid hw3
        replace b3 := Lib.hid b3
        clear b2 b23 B3 C3 OC LC BR hw1
        generalize hN2 : w2.heap.size = N1 at *
        replace hN2 := Lib.hid hN2
        go_upto_region 2 with fail
        rw [hN2.out, ← hw3.out]
        clear hN2 hw3
        go_wp2_with fail
        refine LC3.out.mono ?_
        rintro e w' ⟨rfl, rfl⟩
        go_wp2_with (first | (go_at_call 57; refine (MC _).mono ?_; rintro e w' ⟨rfl, rfl⟩) | fail)
        go_ret
        exact ⟨rfl, b3.out⟩
      · have c2t : marksN t.ms = true := by cases hm : marksN t.ms with | true => rfl | false => exact absurd hm c2
        rw [c2t] at MC
        by_cases c3 : 4294967295 < (t.fl : Int)
        · have e3 : decide (4294967295 < (t.fl : Int)) = true := decide_eq_true c3
          go_enter Try.func24, Try.ntmps24
          go_upto_region 1 with fail
          rw [hN.out, ← hw1.out]
          go_wp2_with fail
          refine OC.out.mono ?_
          rintro e w2 ⟨rfl, b2⟩
          obtain ⟨w3, hw3⟩ : ∃ w3, w3 = w2.alloc (.cells #[.pointer (some ⟨L.ga, 0, none⟩), .int .i64 (p : Int), .int .i64 (k : Int), .int .i64 (n : Int)] 117) := ⟨_, rfl⟩
          have b23 : Below w2.heap.size w2 w3 := by rw [hw3]; exact (Below.refl _ _).alloc (Nat.le_refl _) _
          have B3 := (B1.out.below b2 (by have := s1.out; omega)).below b23 (by have h1 : w1.heap.size ≤ w2.heap.size := b2.size; have h2 : w1.heap.size = N + 1 := s1.out; omega)
          have C3 : Blk w3 w2.heap.size 117 (kv L.ga p k n) := by rw [hw3, ← kv_eq]; exact Blk.new w2 _ _
          have LC3 := LC.out w3 (bytes_go (bytes_go BR.out b2) b23)
          have b3 : Below N w w3 := (b1.out.trans (b2.mono (B' := N) (by have := s1.out; omega))).trans (b23.mono (by have h1 : w1.heap.size ≤ w2.heap.size := b2.size; have h2 : w1.heap.size = N + 1 := s1.out; omega))
          obtain ⟨x0, x1, x2, x3, x4, x5, x6, x7⟩ := raw_cells B3
          have y3 : w3.cell? ⟨w2.heap.size, 3, none⟩ = some (.int .i64 (n : Int)) := C3.cell 3
          replace LC3 := Lib.hid LC3
          replace hw3 := Lib.hid hw3
          replace b3 := Lib.hid b3
          clear b2 b23 B3 C3 OC LC BR hw1
          generalize hN2 : w2.heap.size = N1 at *
          replace hN2 := Lib.hid hN2
          go_upto_region 2 with fail
          rw [hN2.out, ← hw3.out]
          clear hN2 hw3
          go_wp2_with fail
          refine LC3.out.mono ?_
          rintro e w' ⟨rfl, rfl⟩
          go_wp2_with (first | (go_at_call 57; refine (MC _).mono ?_; rintro e w' ⟨rfl, rfl⟩) | fail)
          go_ret
          exact ⟨rfl, b3.out⟩
        · have e3 : decide (4294967295 < (t.fl : Int)) = false := decide_eq_false c3
          by_cases c4 : t.ex < 0
          · have e4 : decide (t.ex < 0) = true := decide_eq_true c4
            go_enter Try.func24, Try.ntmps24
            go_upto_region 1 with fail
            rw [hN.out, ← hw1.out]
            go_wp2_with fail
            refine OC.out.mono ?_
            rintro e w2 ⟨rfl, b2⟩
            obtain ⟨w3, hw3⟩ : ∃ w3, w3 = w2.alloc (.cells #[.pointer (some ⟨L.ga, 0, none⟩), .int .i64 (p : Int), .int .i64 (k : Int), .int .i64 (n : Int)] 117) := ⟨_, rfl⟩
            have b23 : Below w2.heap.size w2 w3 := by rw [hw3]; exact (Below.refl _ _).alloc (Nat.le_refl _) _
            have B3 := (B1.out.below b2 (by have := s1.out; omega)).below b23 (by have h1 : w1.heap.size ≤ w2.heap.size := b2.size; have h2 : w1.heap.size = N + 1 := s1.out; omega)
            have C3 : Blk w3 w2.heap.size 117 (kv L.ga p k n) := by rw [hw3, ← kv_eq]; exact Blk.new w2 _ _
            have LC3 := LC.out w3 (bytes_go (bytes_go BR.out b2) b23)
            have b3 : Below N w w3 := (b1.out.trans (b2.mono (B' := N) (by have := s1.out; omega))).trans (b23.mono (by have h1 : w1.heap.size ≤ w2.heap.size := b2.size; have h2 : w1.heap.size = N + 1 := s1.out; omega))
            obtain ⟨x0, x1, x2, x3, x4, x5, x6, x7⟩ := raw_cells B3
            have y3 : w3.cell? ⟨w2.heap.size, 3, none⟩ = some (.int .i64 (n : Int)) := C3.cell 3
            replace LC3 := Lib.hid LC3
            replace hw3 := Lib.hid hw3
            replace b3 := Lib.hid b3
            clear b2 b23 B3 C3 OC LC BR hw1
            generalize hN2 : w2.heap.size = N1 at *
            replace hN2 := Lib.hid hN2
            go_upto_region 2 with fail
            rw [hN2.out, ← hw3.out]
            clear hN2 hw3
            go_wp2_with fail
            refine LC3.out.mono ?_
            rintro e w' ⟨rfl, rfl⟩
            go_wp2_with (first | (go_at_call 57; refine (MC _).mono ?_; rintro e w' ⟨rfl, rfl⟩) | fail)
            go_ret
            exact ⟨rfl, b3.out⟩
          · have e4 : decide (t.ex < 0) = false := decide_eq_false c4
            by_cases c5 : t.tc < 0
            · have e5 : decide (t.tc < 0) = true := decide_eq_true c5
              go_enter Try.func24, Try.ntmps24
              go_upto_region 1 with fail
              rw [hN.out, ← hw1.out]
              go_wp2_with fail
              refine OC.out.mono ?_
              rintro e w2 ⟨rfl, b2⟩
              obtain ⟨w3, hw3⟩ : ∃ w3, w3 = w2.alloc (.cells #[.pointer (some ⟨L.ga, 0, none⟩), .int .i64 (p : Int), .int .i64 (k : Int), .int .i64 (n : Int)] 117) := ⟨_, rfl⟩
              have b23 : Below w2.heap.size w2 w3 := by rw [hw3]; exact (Below.refl _ _).alloc (Nat.le_refl _) _
              have B3 := (B1.out.below b2 (by have := s1.out; omega)).below b23 (by have h1 : w1.heap.size ≤ w2.heap.size := b2.size; have h2 : w1.heap.size = N + 1 := s1.out; omega)
              have C3 : Blk w3 w2.heap.size 117 (kv L.ga p k n) := by rw [hw3, ← kv_eq]; exact Blk.new w2 _ _
              have LC3 := LC.out w3 (bytes_go (bytes_go BR.out b2) b23)
              have b3 : Below N w w3 := (b1.out.trans (b2.mono (B' := N) (by have := s1.out; omega))).trans (b23.mono (by have h1 : w1.heap.size ≤ w2.heap.size := b2.size; have h2 : w1.heap.size = N + 1 := s1.out; omega))
              obtain ⟨x0, x1, x2, x3, x4, x5, x6, x7⟩ := raw_cells B3
              have y3 : w3.cell? ⟨w2.heap.size, 3, none⟩ = some (.int .i64 (n : Int)) := C3.cell 3
              replace LC3 := Lib.hid LC3
              replace hw3 := Lib.hid hw3
              replace b3 := Lib.hid b3
              clear b2 b23 B3 C3 OC LC BR hw1
              generalize hN2 : w2.heap.size = N1 at *
              replace hN2 := Lib.hid hN2
              go_upto_region 2 with fail
              rw [hN2.out, ← hw3.out]
              clear hN2 hw3
              go_wp2_with fail
              refine LC3.out.mono ?_
              rintro e w' ⟨rfl, rfl⟩
              go_wp2_with (first | (go_at_call 57; refine (MC _).mono ?_; rintro e w' ⟨rfl, rfl⟩) | fail)
              go_ret
              exact ⟨rfl, b3.out⟩
            · have e5 : decide (t.tc < 0) = false := decide_eq_false c5
              exfalso
              unfold Raw.good at ha
              rw [c2t] at ha
              simp only [Bool.and_true, Bool.and_eq_false_iff, decide_eq_false_iff_not] at ha
              omega
end
end Go.Proofs.Ytdmclekohalolaa.Itm
/-
  item.Value (printed by wip/gen_value.py).
-/
namespace Go.Proofs.Ytdmclekohalolaa.Itm
open Go.RowKit Base Arena Cls Rel
set_option linter.unusedVariables false

section
variable (w : World) (L : Lay) (c : Conf) (s : St) (bs : List UInt8) (h : SetAt w L c s bs) (g : Cls.Good c.cf s) (A : Option Addr) (m cc : Nat)
include h g
set_option maxRecDepth 100000 in
theorem valueNo (H : Nat) (hH : H < 18446744073709551616) (hf : findN c.cf s H = none) : Calls Try.prog 25 #[.pointer (some ⟨L.g, 0, none⟩), .int .u64 (H : Int), .slice A m cc] w fun e w' => e = .returned (.int .i64 20) ∧ Below w.heap.size w w' := by
  have OC := editNo w L c s bs h g H hH hf
  rw [zc_eq] at OC
  replace OC := Lib.hid OC
  clear h g hf
  go_enter Try.func25, Try.ntmps25
  go_wp2_with fail
  refine OC.out.mono ?_
  rintro e w2 ⟨rfl, b2⟩
  replace b2 := Lib.hid b2
  go_upto_region 2 with fail
  go_quiet (fail)
  go_wp2
  go_ret
  exact ⟨rfl, below_drew (b2.out.alloc b2.out.size _) _⟩
set_option maxRecDepth 100000 in
theorem valueKey {H i x p k n : Nat} (K : Chk c s bs.length H i x p k n) (h44 : rd bs (p + 44) 1 = 0) : Calls Try.prog 25 #[.pointer (some ⟨L.g, 0, none⟩), .int .u64 (H : Int), .slice A m cc] w fun e w' => e = .returned (.int .i64 30) ∧ Below w.heap.size w w' := by
  have OC := editKey w L c s bs h g K h44
  rw [zc_eq] at OC
  replace OC := Lib.hid OC
  clear h g h44 K
  go_enter Try.func25, Try.ntmps25
  go_wp2_with fail
  refine OC.out.mono ?_
  rintro e w2 ⟨rfl, b2⟩
  replace b2 := Lib.hid b2
  go_upto_region 2 with fail
  go_quiet (fail)
  go_wp2
  go_ret
  exact ⟨rfl, below_drew (b2.out.alloc b2.out.size _) _⟩
end
def valueLongF (N1 V m cc : Nat) (A : Option Addr) (L : Lay) (p k n : Nat) : Nat → Value → World → Prop
  | 0, v, w => v = .int .i64 0
  | 1, v, w => v = .bool true
  | 2, v, w => v = .bool true
  | 3, v, w => v = .slice A m cc
  | 4, v, w => v = .int .i64 (m : Int)
  | 5, v, w => v = .pointer (some ⟨N1, 3, none⟩)
  | 6, v, w => v = .int .i64 (n : Int)
  | 7, v, w => v = .int .i64 ((n : Int) - 58)
  | 8, v, w => v = .agg #[.pointer (some ⟨L.ga, 0, none⟩), .int .i64 (p : Int), .int .i64 (k : Int), .int .i64 (n : Int)]
  | 9, v, w => v = .int .i64 (V : Int)
  | 10, v, w => v = .int .i64 ((n : Int) - 58 - (V : Int))
  | 11, v, w => v = .bool true
  | 12, v, w => v = .bool true
  | _, _, _ => True
theorem valueLongF_go {N1 V m cc : Nat} {A : Option Addr} {L : Lay} {p k n : Nat} : ∀ j u w w', valueLongF N1 V m cc A L p k n j u w → Below w.heap.size w w' → valueLongF N1 V m cc A L p k n j u w' := by
  intro j u w w' h b
  match j, h with
  | 0, h => exact h
  | 1, h => exact h
  | 2, h => exact h
  | 3, h => exact h
  | 4, h => exact h
  | 5, h => exact h
  | 6, h => exact h
  | 7, h => exact h
  | 8, h => exact h
  | 9, h => exact h
  | 10, h => exact h
  | 11, h => exact h
  | 12, h => exact h
  | j + 13, _ => exact trivial
set_option maxRecDepth 100000 in
set_option maxHeartbeats 1000000 in
theorem valueLong (w : World) (L : Lay) (c : Conf) (s : St) (bs : List UInt8) (h : SetAt w L c s bs) (g : Cls.Good c.cf s) {H i x p k n : Nat} (K0 : Chk c s bs.length H i x p k n) (h44 : rd bs (p + 44) 1 ≠ 0) (A : Option Addr) (cc : Nat) (l : List UInt8) (hb : Bytes w w.heap.size A l) (hm : l.length ≤ maxLen) (hn : n < 58 + rd bs (p + 44) 1 + l.length) :
    Calls Try.prog 25 #[.pointer (some ⟨L.g, 0, none⟩), .int .u64 (H : Int), .slice A l.length cc] w fun e w' => e = .returned (.int .i64 6) ∧ Below w.heap.size w w' := by
  have OC := editYes w L c s bs h g K0 h44
  rw [kv_eq] at OC
  obtain ⟨V, hV⟩ : ∃ V, V = rd bs (p + 44) 1 := ⟨_, rfl⟩
  rw [← hV] at hn 
  have hnb := K0.nb
  have hvb := rd_lt bs (p + 44) 1
  rw [← hV] at hvb
  unfold maxLen at hm
  have q1 : IntKind.i64.wrap ((n : Int) - 58) = (n : Int) - 58 := IntWalk.i64_in _ (by omega)
  have q2 : IntKind.i64.wrap ((n : Int) - 58 - (V : Int)) = (n : Int) - 58 - (V : Int) := IntWalk.i64_in _ (by omega)
  have d1 : decide ((n : Int) - 58 - (V : Int) < (l.length : Int)) = true := decide_eq_true (by omega)
  obtain ⟨m, hml⟩ : ∃ m, m = l.length := ⟨_, rfl⟩
  rw [← hml] at d1 hn ⊢
  replace OC := Lib.hid OC
  replace hV := Lib.hid hV
  replace h := Lib.hid h
  replace hb := Lib.hid hb
  replace K0 := Lib.hid K0
  replace hml := Lib.hid hml
  clear g h44 hvb hm hnb
  go_enter Try.func25, Try.ntmps25
  go_wp2_with fail
  refine OC.out.mono ?_
  rintro e w2 ⟨rfl, b2⟩
  obtain ⟨w3, hw3⟩ : ∃ w3, w3 = w2.alloc (.cells #[.pointer (some ⟨L.ga, 0, none⟩), .int .i64 (p : Int), .int .i64 (k : Int), .int .i64 (n : Int)] 117) := ⟨_, rfl⟩
  have S : RK w.heap.size w w3 L c s bs w2.heap.size p k n A l := by
    rw [hw3]; exact ⟨OS.op p k n h.out b2 b2 b2.size, bytes_go hb.out (b2.alloc b2.size _)⟩
  replace S := Lib.hid S
  replace hw3 := Lib.hid hw3
  clear b2 OC hb h
  generalize hN2 : w2.heap.size = N1 at *
  replace hN2 := Lib.hid hN2
  go_upto_region 2 with fail
  rw [hN2.out, ← hw3.out]
  clear hN2 hw3
  refine region_all 13 rfl (fun w w' => Below w.heap.size w w') (fun v => RK w.heap.size w v L c s bs N1 p k n A l) (valueLongF N1 V m cc A L p k n) (fun _ _ _ _ => True) (by kernel_rfl) (by kernel_rfl) S.out.drew valueLongF_go ?_ ?_
  · refine ⟨?_, ?_, ?_, ?_, ?_, ?_, ?_, ?_, ?_, ?_, ?_, ?_, ?_, trivial⟩
    · intro listed a w I hr K hK
      replace S := I.world
      have e8 : a.tmps[8]?.getD undef = .int .i64 0 := (Array.getD_eq_getD_getElem? ..).symm.trans (I.slot 8 (by kernel_rfl))
      refine want_none rfl ?_
      clear hr I
      go_simp
      exact hK _ _ S (le_refl' _) rfl (psi_T _ _)
    · intro listed a w I hr K hK
      replace S := I.world
      have e15 : a.tmps[15]?.getD undef = .int .i64 0 := (Array.getD_eq_getD_getElem? ..).symm.trans (I.dep hr 0 _ (by decide) rfl (by kernel_rfl))
      refine want_none rfl ?_
      clear hr I
      go_simp
      exact hK _ _ S (le_refl' _) rfl (psi_T _ _)
    · intro listed a w I hr K hK
      replace S := I.world
      have e16 : a.tmps[16]?.getD undef = .bool true := (Array.getD_eq_getD_getElem? ..).symm.trans (I.dep hr 1 _ (by decide) rfl (by kernel_rfl))
      refine want_none rfl ?_
      clear hr I
      go_simp
      exact hK _ _ S (le_refl' _) rfl (psi_T _ _)
    · intro listed a w I hr K hK
      replace S := I.world
      have e2 : a.tmps[2]?.getD undef = .slice A m cc := (Array.getD_eq_getD_getElem? ..).symm.trans (I.slot 2 (by kernel_rfl))
      refine want_yes (d := 17) rfl rfl rfl (I.dep hr 2 _ (by decide) rfl (by kernel_rfl)) ?_
      clear hr I
      go_simp
      exact hK _ _ S (le_refl' _) rfl (psi_T _ _)
    · intro listed a w I hr K hK
      replace S := I.world
      have e18 : a.tmps[18]?.getD undef = .slice A m cc := (Array.getD_eq_getD_getElem? ..).symm.trans (I.dep hr 3 _ (by decide) rfl (by kernel_rfl))
      refine want_yes (d := 17) rfl rfl rfl (I.dep hr 2 _ (by decide) rfl (by kernel_rfl)) ?_
      clear hr I
      go_simp
      exact hK _ _ S (le_refl' _) rfl (psi_T _ _)
    · intro listed a w I hr K hK
      replace S := I.world
      have e7 : a.tmps[7]?.getD undef = .pointer (some ⟨N1, 0, none⟩) := (Array.getD_eq_getD_getElem? ..).symm.trans (I.slot 7 (by kernel_rfl))
      refine want_yes (d := 17) rfl rfl rfl (I.dep hr 2 _ (by decide) rfl (by kernel_rfl)) ?_
      clear hr I
      go_simp
      exact hK _ _ S (le_refl' _) rfl (psi_T _ _)
    · intro listed a w I hr K hK
      replace S := I.world
      have e20 : a.tmps[20]?.getD undef = .pointer (some ⟨N1, 3, none⟩) := (Array.getD_eq_getD_getElem? ..).symm.trans (I.dep hr 5 _ (by decide) rfl (by kernel_rfl))
      refine want_yes (d := 17) rfl rfl rfl (I.dep hr 2 _ (by decide) rfl (by kernel_rfl)) ?_
      have C := S.os.cells
      obtain ⟨x0, x1, x2, x3⟩ := C
      clear hr I
      go_simp
      exact hK _ _ S (le_refl' _) rfl (psi_T _ _)
    · intro listed a w I hr K hK
      replace S := I.world
      have e21 : a.tmps[21]?.getD undef = .int .i64 (n : Int) := (Array.getD_eq_getD_getElem? ..).symm.trans (I.dep hr 6 _ (by decide) rfl (by kernel_rfl))
      refine want_yes (d := 17) rfl rfl rfl (I.dep hr 2 _ (by decide) rfl (by kernel_rfl)) ?_
      clear hr I
      go_simp
      exact hK _ _ S (le_refl' _) rfl (psi_T _ _)
    · intro listed a w I hr K hK
      replace S := I.world
      have e7 : a.tmps[7]?.getD undef = .pointer (some ⟨N1, 0, none⟩) := (Array.getD_eq_getD_getElem? ..).symm.trans (I.slot 7 (by kernel_rfl))
      refine want_yes (d := 17) rfl rfl rfl (I.dep hr 2 _ (by decide) rfl (by kernel_rfl)) ?_
      have C := S.os.cells
      obtain ⟨x0, x1, x2, x3⟩ := C
      clear hr I
      go_simp
      exact hK _ _ S (le_refl' _) rfl (psi_T _ _)
    · intro listed a w I hr K hK
      replace S := I.world
      have e23 : a.tmps[23]?.getD undef = .agg #[.pointer (some ⟨L.ga, 0, none⟩), .int .i64 (p : Int), .int .i64 (k : Int), .int .i64 (n : Int)] := (Array.getD_eq_getD_getElem? ..).symm.trans (I.dep hr 8 _ (by decide) rfl (by kernel_rfl))
      refine want_yes (d := 17) rfl rfl rfl (I.dep hr 2 _ (by decide) rfl (by kernel_rfl)) ?_
      have C := S.os.key K0.out hV.out
      clear hr I
      go_simp
      refine C.mono ?_
      rintro e w' ⟨rfl, b2⟩
      exact hK _ _ (S.step b2) b2 rfl (psi_T _ _)
    · intro listed a w I hr K hK
      replace S := I.world
      have e22 : a.tmps[22]?.getD undef = .int .i64 ((n : Int) - 58) := (Array.getD_eq_getD_getElem? ..).symm.trans (I.dep hr 7 _ (by decide) rfl (by kernel_rfl))
      have e24 : a.tmps[24]?.getD undef = .int .i64 (V : Int) := (Array.getD_eq_getD_getElem? ..).symm.trans (I.dep hr 9 _ (by decide) rfl (by kernel_rfl))
      refine want_yes (d := 17) rfl rfl rfl (I.dep hr 2 _ (by decide) rfl (by kernel_rfl)) ?_
      clear hr I
      go_simp
      exact hK _ _ S (le_refl' _) rfl (psi_T _ _)
    · intro listed a w I hr K hK
      replace S := I.world
      have e19 : a.tmps[19]?.getD undef = .int .i64 (m : Int) := (Array.getD_eq_getD_getElem? ..).symm.trans (I.dep hr 4 _ (by decide) rfl (by kernel_rfl))
      have e25 : a.tmps[25]?.getD undef = .int .i64 ((n : Int) - 58 - (V : Int)) := (Array.getD_eq_getD_getElem? ..).symm.trans (I.dep hr 10 _ (by decide) rfl (by kernel_rfl))
      refine want_yes (d := 17) rfl rfl rfl (I.dep hr 2 _ (by decide) rfl (by kernel_rfl)) ?_
      clear hr I
      go_simp
      exact hK _ _ S (le_refl' _) rfl (psi_T _ _)
    · intro listed a w I hr K hK
      replace S := I.world
      have e17 : a.tmps[17]?.getD undef = .bool true := (Array.getD_eq_getD_getElem? ..).symm.trans (I.dep hr 2 _ (by decide) rfl (by kernel_rfl))
      have e26 : a.tmps[26]?.getD undef = .bool true := (Array.getD_eq_getD_getElem? ..).symm.trans (I.dep hr 11 _ (by decide) rfl (by kernel_rfl))
      refine want_none rfl ?_
      clear hr I
      go_simp
      exact hK _ _ S (le_refl' _) rfl (psi_T _ _)
  · intro a w5 I
    have e27 : a.tmps.getD 27 undef = .bool true := I.done 12 _ (by decide) rfl
    have e8 : a.tmps.getD 8 undef = .int .i64 0 := I.slot 8 (by kernel_rfl)
    have e7 : a.tmps.getD 7 undef = .pointer (some ⟨N1, 0, none⟩) := I.slot 7 (by kernel_rfl)
    have e2 : a.tmps.getD 2 undef = .slice A m cc := I.slot 2 (by kernel_rfl)
    have S5 := I.world
    obtain ⟨f, hf, ha⟩ := I.act
    rw [hf] at e27
    rw [hf] at e8
    rw [hf] at e7
    rw [hf] at e2
    replace ha : a = ⟨#[f 0, f 1, f 2, f 3, f 4, f 5, f 6, f 7, f 8, f 9, f 10, f 11, f 12, f 13, f 14, f 15, f 16, f 17, f 18, f 19, f 20, f 21, f 22, f 23, f 24, f 25, f 26, f 27, f 28, f 29, f 30, f 31, f 32, f 33], []⟩ := ha
    rw [ha, e27, e8, e7, e2]
    clear I hf ha e27 e8 e7 e2 a
    have bl := Lib.hid S5.os.below
    clear S5 S
    go_wp2
    go_ret
    exact ⟨rfl, bl.out⟩
def valueYesF (N1 V m cc : Nat) (A : Option Addr) (L : Lay) (p k n : Nat) : Nat → Value → World → Prop
  | 0, v, w => v = .int .i64 0
  | 1, v, w => v = .bool true
  | 2, v, w => v = .bool true
  | 3, v, w => v = .slice A m cc
  | 4, v, w => v = .int .i64 (m : Int)
  | 5, v, w => v = .pointer (some ⟨N1, 3, none⟩)
  | 6, v, w => v = .int .i64 (n : Int)
  | 7, v, w => v = .int .i64 ((n : Int) - 58)
  | 8, v, w => v = .agg #[.pointer (some ⟨L.ga, 0, none⟩), .int .i64 (p : Int), .int .i64 (k : Int), .int .i64 (n : Int)]
  | 9, v, w => v = .int .i64 (V : Int)
  | 10, v, w => v = .int .i64 ((n : Int) - 58 - (V : Int))
  | 11, v, w => v = .bool false
  | 12, v, w => v = .bool false
  | _, _, _ => True
theorem valueYesF_go {N1 V m cc : Nat} {A : Option Addr} {L : Lay} {p k n : Nat} : ∀ j u w w', valueYesF N1 V m cc A L p k n j u w → Below w.heap.size w w' → valueYesF N1 V m cc A L p k n j u w' := by
  intro j u w w' h b
  match j, h with
  | 0, h => exact h
  | 1, h => exact h
  | 2, h => exact h
  | 3, h => exact h
  | 4, h => exact h
  | 5, h => exact h
  | 6, h => exact h
  | 7, h => exact h
  | 8, h => exact h
  | 9, h => exact h
  | 10, h => exact h
  | 11, h => exact h
  | 12, h => exact h
  | j + 13, _ => exact trivial
set_option maxRecDepth 100000 in
set_option maxHeartbeats 1000000 in
theorem valueYes (w : World) (L : Lay) (c : Conf) (s : St) (bs : List UInt8) (h : SetAt w L c s bs) (g : Cls.Good c.cf s) {H i x p k n : Nat} (K0 : Chk c s bs.length H i x p k n) (h44 : rd bs (p + 44) 1 ≠ 0) (A : Option Addr) (cc : Nat) (l : List UInt8) (hb : Bytes w w.heap.size A l) (hm : l.length ≤ maxLen) (hA : l ≠ [] → ∀ b off, A = some ⟨b, off, none⟩ → b ≠ L.ha) (hn : 58 + rd bs (p + 44) 1 + l.length ≤ n) :
    Calls Try.prog 25 #[.pointer (some ⟨L.g, 0, none⟩), .int .u64 (H : Int), .slice A l.length cc] w fun e w' => e = .returned (.int .i64 0) ∧ SetAt w' L c s (layV bs p (rd bs (p + 44) 1) l) ∧ Only (· = L.ha) w w' := by
  have OC := editYes w L c s bs h g K0 h44
  rw [kv_eq] at OC
  obtain ⟨V, hV⟩ : ∃ V, V = rd bs (p + 44) 1 := ⟨_, rfl⟩
  rw [← hV] at hn ⊢
  have hnb := K0.nb
  have hvb := rd_lt bs (p + 44) 1
  rw [← hV] at hvb
  unfold maxLen at hm
  have q1 : IntKind.i64.wrap ((n : Int) - 58) = (n : Int) - 58 := IntWalk.i64_in _ (by omega)
  have q2 : IntKind.i64.wrap ((n : Int) - 58 - (V : Int)) = (n : Int) - 58 - (V : Int) := IntWalk.i64_in _ (by omega)
  have d1 : decide ((n : Int) - 58 - (V : Int) < (l.length : Int)) = false := decide_eq_false (by omega)
  obtain ⟨m, hml⟩ : ∃ m, m = l.length := ⟨_, rfl⟩
  rw [← hml] at d1 hn ⊢
  replace OC := Lib.hid OC
  replace hV := Lib.hid hV
  replace h := Lib.hid h
  replace hb := Lib.hid hb
  replace K0 := Lib.hid K0
  replace hml := Lib.hid hml
  clear g h44 hvb hm hnb
  go_enter Try.func25, Try.ntmps25
  go_wp2_with fail
  refine OC.out.mono ?_
  rintro e w2 ⟨rfl, b2⟩
  obtain ⟨w3, hw3⟩ : ∃ w3, w3 = w2.alloc (.cells #[.pointer (some ⟨L.ga, 0, none⟩), .int .i64 (p : Int), .int .i64 (k : Int), .int .i64 (n : Int)] 117) := ⟨_, rfl⟩
  have S : RK w.heap.size w w3 L c s bs w2.heap.size p k n A l := by
    rw [hw3]; exact ⟨OS.op p k n h.out b2 b2 b2.size, bytes_go hb.out (b2.alloc b2.size _)⟩
  replace S := Lib.hid S
  replace hw3 := Lib.hid hw3
  clear b2 OC hb h
  generalize hN2 : w2.heap.size = N1 at *
  replace hN2 := Lib.hid hN2
  go_upto_region 2 with fail
  rw [hN2.out, ← hw3.out]
  clear hN2 hw3
  refine region_all 13 rfl (fun w w' => Below w.heap.size w w') (fun v => RK w.heap.size w v L c s bs N1 p k n A l) (valueYesF N1 V m cc A L p k n) (fun _ _ _ _ => True) (by kernel_rfl) (by kernel_rfl) S.out.drew valueYesF_go ?_ ?_
  · refine ⟨?_, ?_, ?_, ?_, ?_, ?_, ?_, ?_, ?_, ?_, ?_, ?_, ?_, trivial⟩
    · intro listed a w I hr K hK
      replace S := I.world
      have e8 : a.tmps[8]?.getD undef = .int .i64 0 := (Array.getD_eq_getD_getElem? ..).symm.trans (I.slot 8 (by kernel_rfl))
      refine want_none rfl ?_
      clear hr I
      go_simp
      exact hK _ _ S (le_refl' _) rfl (psi_T _ _)
    · intro listed a w I hr K hK
      replace S := I.world
      have e15 : a.tmps[15]?.getD undef = .int .i64 0 := (Array.getD_eq_getD_getElem? ..).symm.trans (I.dep hr 0 _ (by decide) rfl (by kernel_rfl))
      refine want_none rfl ?_
      clear hr I
      go_simp
      exact hK _ _ S (le_refl' _) rfl (psi_T _ _)
    · intro listed a w I hr K hK
      replace S := I.world
      have e16 : a.tmps[16]?.getD undef = .bool true := (Array.getD_eq_getD_getElem? ..).symm.trans (I.dep hr 1 _ (by decide) rfl (by kernel_rfl))
      refine want_none rfl ?_
      clear hr I
      go_simp
      exact hK _ _ S (le_refl' _) rfl (psi_T _ _)
    · intro listed a w I hr K hK
      replace S := I.world
      have e2 : a.tmps[2]?.getD undef = .slice A m cc := (Array.getD_eq_getD_getElem? ..).symm.trans (I.slot 2 (by kernel_rfl))
      refine want_yes (d := 17) rfl rfl rfl (I.dep hr 2 _ (by decide) rfl (by kernel_rfl)) ?_
      clear hr I
      go_simp
      exact hK _ _ S (le_refl' _) rfl (psi_T _ _)
    · intro listed a w I hr K hK
      replace S := I.world
      have e18 : a.tmps[18]?.getD undef = .slice A m cc := (Array.getD_eq_getD_getElem? ..).symm.trans (I.dep hr 3 _ (by decide) rfl (by kernel_rfl))
      refine want_yes (d := 17) rfl rfl rfl (I.dep hr 2 _ (by decide) rfl (by kernel_rfl)) ?_
      clear hr I
      go_simp
      exact hK _ _ S (le_refl' _) rfl (psi_T _ _)
    · intro listed a w I hr K hK
      replace S := I.world
      have e7 : a.tmps[7]?.getD undef = .pointer (some ⟨N1, 0, none⟩) := (Array.getD_eq_getD_getElem? ..).symm.trans (I.slot 7 (by kernel_rfl))
      refine want_yes (d := 17) rfl rfl rfl (I.dep hr 2 _ (by decide) rfl (by kernel_rfl)) ?_
      clear hr I
      go_simp
      exact hK _ _ S (le_refl' _) rfl (psi_T _ _)
    · intro listed a w I hr K hK
      replace S := I.world
      have e20 : a.tmps[20]?.getD undef = .pointer (some ⟨N1, 3, none⟩) := (Array.getD_eq_getD_getElem? ..).symm.trans (I.dep hr 5 _ (by decide) rfl (by kernel_rfl))
      refine want_yes (d := 17) rfl rfl rfl (I.dep hr 2 _ (by decide) rfl (by kernel_rfl)) ?_
      have C := S.os.cells
      obtain ⟨x0, x1, x2, x3⟩ := C
      clear hr I
      go_simp
      exact hK _ _ S (le_refl' _) rfl (psi_T _ _)
    · intro listed a w I hr K hK
      replace S := I.world
      have e21 : a.tmps[21]?.getD undef = .int .i64 (n : Int) := (Array.getD_eq_getD_getElem? ..).symm.trans (I.dep hr 6 _ (by decide) rfl (by kernel_rfl))
      refine want_yes (d := 17) rfl rfl rfl (I.dep hr 2 _ (by decide) rfl (by kernel_rfl)) ?_
      clear hr I
      go_simp
      exact hK _ _ S (le_refl' _) rfl (psi_T _ _)
    · intro listed a w I hr K hK
      replace S := I.world
      have e7 : a.tmps[7]?.getD undef = .pointer (some ⟨N1, 0, none⟩) := (Array.getD_eq_getD_getElem? ..).symm.trans (I.slot 7 (by kernel_rfl))
      refine want_yes (d := 17) rfl rfl rfl (I.dep hr 2 _ (by decide) rfl (by kernel_rfl)) ?_
      have C := S.os.cells
      obtain ⟨x0, x1, x2, x3⟩ := C
      clear hr I
      go_simp
      exact hK _ _ S (le_refl' _) rfl (psi_T _ _)
    · intro listed a w I hr K hK
      replace S := I.world
      have e23 : a.tmps[23]?.getD undef = .agg #[.pointer (some ⟨L.ga, 0, none⟩), .int .i64 (p : Int), .int .i64 (k : Int), .int .i64 (n : Int)] := (Array.getD_eq_getD_getElem? ..).symm.trans (I.dep hr 8 _ (by decide) rfl (by kernel_rfl))
      refine want_yes (d := 17) rfl rfl rfl (I.dep hr 2 _ (by decide) rfl (by kernel_rfl)) ?_
      have C := S.os.key K0.out hV.out
      clear hr I
      go_simp
      refine C.mono ?_
      rintro e w' ⟨rfl, b2⟩
      exact hK _ _ (S.step b2) b2 rfl (psi_T _ _)
    · intro listed a w I hr K hK
      replace S := I.world
      have e22 : a.tmps[22]?.getD undef = .int .i64 ((n : Int) - 58) := (Array.getD_eq_getD_getElem? ..).symm.trans (I.dep hr 7 _ (by decide) rfl (by kernel_rfl))
      have e24 : a.tmps[24]?.getD undef = .int .i64 (V : Int) := (Array.getD_eq_getD_getElem? ..).symm.trans (I.dep hr 9 _ (by decide) rfl (by kernel_rfl))
      refine want_yes (d := 17) rfl rfl rfl (I.dep hr 2 _ (by decide) rfl (by kernel_rfl)) ?_
      clear hr I
      go_simp
      exact hK _ _ S (le_refl' _) rfl (psi_T _ _)
    · intro listed a w I hr K hK
      replace S := I.world
      have e19 : a.tmps[19]?.getD undef = .int .i64 (m : Int) := (Array.getD_eq_getD_getElem? ..).symm.trans (I.dep hr 4 _ (by decide) rfl (by kernel_rfl))
      have e25 : a.tmps[25]?.getD undef = .int .i64 ((n : Int) - 58 - (V : Int)) := (Array.getD_eq_getD_getElem? ..).symm.trans (I.dep hr 10 _ (by decide) rfl (by kernel_rfl))
      refine want_yes (d := 17) rfl rfl rfl (I.dep hr 2 _ (by decide) rfl (by kernel_rfl)) ?_
      clear hr I
      go_simp
      exact hK _ _ S (le_refl' _) rfl (psi_T _ _)
    · intro listed a w I hr K hK
      replace S := I.world
      have e17 : a.tmps[17]?.getD undef = .bool true := (Array.getD_eq_getD_getElem? ..).symm.trans (I.dep hr 2 _ (by decide) rfl (by kernel_rfl))
      have e26 : a.tmps[26]?.getD undef = .bool false := (Array.getD_eq_getD_getElem? ..).symm.trans (I.dep hr 11 _ (by decide) rfl (by kernel_rfl))
      refine want_none rfl ?_
      clear hr I
      go_simp
      exact hK _ _ S (le_refl' _) rfl (psi_T _ _)
  · intro a w5 I
    have e27 : a.tmps.getD 27 undef = .bool false := I.done 12 _ (by decide) rfl
    have e8 : a.tmps.getD 8 undef = .int .i64 0 := I.slot 8 (by kernel_rfl)
    have e7 : a.tmps.getD 7 undef = .pointer (some ⟨N1, 0, none⟩) := I.slot 7 (by kernel_rfl)
    have e2 : a.tmps.getD 2 undef = .slice A m cc := I.slot 2 (by kernel_rfl)
    have S5 := I.world
    obtain ⟨f, hf, ha⟩ := I.act
    rw [hf] at e27
    rw [hf] at e8
    rw [hf] at e7
    rw [hf] at e2
    replace ha : a = ⟨#[f 0, f 1, f 2, f 3, f 4, f 5, f 6, f 7, f 8, f 9, f 10, f 11, f 12, f 13, f 14, f 15, f 16, f 17, f 18, f 19, f 20, f 21, f 22, f 23, f 24, f 25, f 26, f 27, f 28, f 29, f 30, f 31, f 32, f 33], []⟩ := ha
    rw [ha, e27, e8, e7, e2]
    clear I hf ha e27 e8 e7 e2 a
    have bl := Lib.hid S5.os.below
    obtain ⟨y0, y1, y2, y3⟩ := S5.os.cells
    have P := layC w5 L.ga L.ha c.cf.ps bs S5.os.at_ p k n K0.out.ck A cc w5.heap.size l S5.by_ hA V hV.out.symm (by have := hml.out; omega)
    rw [kv_eq, ← hml.out] at P
    have hS := Lib.hid S5.os.set
    replace P := Lib.hid P
    clear S5 S
    go_wp2_with fail
    refine P.out.mono ?_
    rintro e w6 ⟨rfl, at6, o6⟩
    have T := Lib.hid (hS.out.laid o6 at6.bytes (layV_len bs p V l (by have h1 := K0.out.ck.all; have h2 := hml.out; omega)))
    replace o6 := Lib.hid ((Only.of_below bl.out (Nat.le_refl _) (· = L.ha)).trans o6 fun _ _ h => h)
    clear at6 P y0 y1 y2 y3
    go_wp2
    go_ret
    exact ⟨rfl, T.out, o6.out⟩
end Go.Proofs.Ytdmclekohalolaa.Itm
