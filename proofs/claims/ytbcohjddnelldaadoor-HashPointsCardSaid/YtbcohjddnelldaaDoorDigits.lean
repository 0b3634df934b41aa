/-
  The library's digits (internal/strconv.AppendUint and what it calls), laid at this program's numbers; AppendInt of a number below 1000 to a row of bytes.
-/
import Derived.Test.YtbcohjddnelldaaDoorProg
import Derived.Test.YtbcohjddnelldaaDoorAppTail
import Derived.Shelf.Strconv.AppendIntPublic10
namespace Go.Proofs.YtbcohjddnelldaaDoor.Digits
open Go.RowKit Base Go.Shelf Go.Sort Go.Lib Tail
set_option linter.unusedVariables false

def digRen : Go.Shelf.Ren := ⟨fun | 288 => 22 | 283 => 25 | 284 => 26 | 285 => 27 | 286 => 28 | 129 => 30 | 317 => 29 | 318 => 31 | 319 => 32 | 320 => 33 | 337 => 34 | 338 => 35 | n => n, fun | 37 => 38 | 53 => 36 | 3 => 3 | 4 => 4 | 9 => 9 | 171 => 53 | 0 => 0 | 173 => 56 | 212 => 60 | 51 => 34 | 5 => 5 | 20 => 20 | 213 => 61 | 46 => 48 | 232 => 65 | 233 => 66 | n => n, fun | 17 => 0 | 18 => 1 | 19 => 2 | n => n⟩
theorem digLay : Go.Proofs.LaysM.n288 Tryd.prog digRen := {
  mixed := by kernel_rfl,
  f129 := Tryd.func30.trans (congrArg some (by kernel_rfl)),
  f283 := Tryd.func25.trans (congrArg some (by kernel_rfl)),
  f284 := Tryd.func26.trans (congrArg some (by kernel_rfl)),
  f285 := Tryd.func27.trans (congrArg some (by kernel_rfl)),
  f286 := Tryd.func28.trans (congrArg some (by kernel_rfl)),
  f288 := Tryd.func22.trans (congrArg some (by kernel_rfl)),
  f317 := Tryd.func29.trans (congrArg some (by kernel_rfl)),
  f318 := Tryd.func31.trans (congrArg some (by kernel_rfl)),
  f319 := Tryd.func32.trans (congrArg some (by kernel_rfl)),
  f320 := Tryd.func33.trans (congrArg some (by kernel_rfl)),
  f337 := Tryd.func34.trans (congrArg some (by kernel_rfl)),
  f338 := Tryd.func35.trans (congrArg some (by kernel_rfl)),
  t0 := Tryd.underlying0,
  a0 := Tryd.isAgg0,
  z0 := Tryd.sizeOf0,
  v0 := Tryd.zeroValue0,
  t3 := Tryd.underlying3,
  a3 := Tryd.isAgg3,
  z3 := Tryd.sizeOf3,
  v3 := Tryd.zeroValue3,
  t4 := Tryd.underlying4,
  a4 := Tryd.isAgg4,
  z4 := Tryd.sizeOf4,
  v4 := Tryd.zeroValue4,
  t5 := Tryd.underlying5,
  a5 := Tryd.isAgg5,
  z5 := Tryd.sizeOf5,
  v5 := Tryd.zeroValue5,
  t9 := Tryd.underlying9,
  a9 := Tryd.isAgg9,
  z9 := Tryd.sizeOf9,
  v9 := Tryd.zeroValue9,
  t20 := Tryd.underlying20,
  a20 := Tryd.isAgg20,
  z20 := Tryd.sizeOf20,
  v20 := Tryd.zeroValue20,
  t37 := Tryd.underlying38,
  a37 := Tryd.isAgg38,
  z37 := Tryd.sizeOf38,
  v37 := Tryd.zeroValue38,
  t46 := Tryd.underlying48,
  a46 := Tryd.isAgg48,
  z46 := Tryd.sizeOf48,
  v46 := Tryd.zeroValue48,
  t51 := Tryd.underlying34,
  a51 := Tryd.isAgg34,
  z51 := Tryd.sizeOf34,
  v51 := Tryd.zeroValue34,
  t53 := Tryd.underlying36,
  a53 := Tryd.isAgg36,
  z53 := Tryd.sizeOf36,
  v53 := Tryd.zeroValue36,
  t171 := Tryd.underlying53,
  a171 := Tryd.isAgg53,
  z171 := Tryd.sizeOf53,
  v171 := Tryd.zeroValue53,
  t173 := Tryd.underlying56,
  a173 := Tryd.isAgg56,
  z173 := Tryd.sizeOf56,
  v173 := Tryd.zeroValue56,
  t212 := Tryd.underlying60,
  a212 := Tryd.isAgg60,
  z212 := Tryd.sizeOf60,
  v212 := Tryd.zeroValue60,
  t213 := Tryd.underlying61,
  a213 := Tryd.isAgg61,
  z213 := Tryd.sizeOf61,
  t232 := Tryd.underlying65,
  a232 := Tryd.isAgg65,
  z232 := Tryd.sizeOf65,
  v232 := Tryd.zeroValue65,
  t233 := Tryd.underlying66,
  a233 := Tryd.isAgg66,
  z233 := Tryd.sizeOf66,
  v233 := Tryd.zeroValue66,
  g17 := by kernel_rfl,
  g18 := by kernel_rfl,
  g19 := by kernel_rfl,
  i0 := by kernel_rfl,
  i3 := by kernel_rfl,
  i4 := by kernel_rfl,
  i5 := by kernel_rfl,
  i9 := by kernel_rfl,
  i20 := by kernel_rfl,
  i37 := by kernel_rfl,
  i46 := by kernel_rfl,
  i51 := by kernel_rfl,
  i53 := by kernel_rfl,
  i171 := by kernel_rfl,
  i173 := by kernel_rfl,
  i212 := by kernel_rfl,
  i232 := by kernel_rfl,
  i233 := by kernel_rfl,
  m17 := by kernel_rfl,
  m18 := by kernel_rfl,
  m19 := by kernel_rfl }

theorem u8row : (Tryd.prog.info? 5).map (fun i => (i.zero, i.size, i.bytes)) = some (some (.int .u8 0), 1, 1) := by kernel_rfl
theorem smallC (u : Nat) (hu : u < 100) (w : World) : Calls Tryd.prog 25 #[.int .i64 u] w fun e w' => e = .returned (.string ⟨(decDigits u).toArray⟩) ∧ w' = w := Any.internal_strconv_small { digLay with } u hu w
theorem numDigitsC (u : Nat) (h1 : 1 ≤ u) (h2 : u < 18446744073709551616) (w : World) (ht : TabIs Tryd.prog w "internal/strconv.uint64pow10" .u64 pow10Tab) :
    Calls Tryd.prog 26 #[.int .u64 u] w fun e w' => e = .returned (.int .i64 (nDigits u)) ∧ w' = w := Any.internal_strconv_numDigits { digLay with } u h1 h2 w ht

set_option maxHeartbeats 3200000 in
set_option maxRecDepth 100000 in
theorem appSmallC (w : World) (B : Nat) (v : Value) (l : List UInt8) (h : OwnT w B 5 v l) (hB : B ≤ w.heap.size) (hl : l.length ≤ 1000000) (u : Nat) (hu : u < 100) :
    Calls Tryd.prog 22 #[v, .int .u64 u, .int .i64 10] w fun e w' => ∃ v', e = .returned v' ∧ OwnT w' B 5 v' (l ++ decDigits u) ∧ Below B w w' := by
  obtain ⟨i0, hi, hz0, hz1, hz2⟩ := info_parts u8row
  have hlen : (decDigits u).length ≤ 20 := by
    rw [decDigits_length]
    by_cases h10 : u < 10
    · rw [nDigits_small h10]; omega
    · rw [nDigits_big h10, nDigits_small (show u / 10 < 10 by omega)]; omega
  have iu : (u : Int) < 100 := by omega
  have C := Lib.hid (smallC u hu w)
  replace h := Lib.hid h
  replace hlen := Lib.hid hlen
  generalize hd : decDigits u = m at *
  replace hd := Lib.hid hd
  go_enter Tryd.func22, Tryd.ntmps22
  go_wp2_with fail
  refine C.out.mono ?_
  rintro e w' ⟨rfl, rfl⟩
  go_wp2_with (at_builtin; refine wpList_app_string rfl _ _ 38 9 rfl B 5 i0 Tryd.underlying38 Tryd.underlying9 hi hz0 hz1 hz2 v l m rfl h.out rfl (by have := hlen.out; omega) hB ?_)
  intro v' w1 h1 hb1
  go_wp2
  go_ret
  exact ⟨v', rfl, h1, hb1⟩

set_option maxHeartbeats 6400000 in
set_option maxRecDepth 100000 in
theorem appBigC (w : World) (B : Nat) (v : Value) (l : List UInt8) (h : OwnT w B 5 v l) (hB : B ≤ w.heap.size) (hl : l.length ≤ 1000000) (u : Nat) (hu : 100 ≤ u) (hu64 : u < 18446744073709551616) (ht : TabIs Tryd.prog w "internal/strconv.uint64pow10" .u64 pow10Tab) :
    Calls Tryd.prog 22 #[v, .int .u64 u, .int .i64 10] w fun e w' => ∃ v', e = .returned v' ∧ OwnT w' B 5 v' (l ++ decDigits u) ∧ Below B w w' := by
  obtain ⟨i0, hi, hz0, hz1, hz2⟩ := info_parts u8row
  have hu1 : 1 ≤ u := by omega
  have hnd20 : nDigits u ≤ 20 := by have := numDigits_eq u hu1 hu64; split at this <;> omega
  have hal : Tryd.prog.arrayLen 53 = 24 := by simp [Program.arrayLen, Tryd.underlying53]
  have hsl : ∀ W, (Instr.sliceAt 53 (.pointer (some ⟨w.heap.size, 0, none⟩)) none (some (.int .i64 (nDigits u : Int))) none).run Tryd.prog W = .ok (.slice (some ⟨w.heap.size, 0, none⟩) (nDigits u) 24) W := fun W => by
    rw [run_sliceAt_array_h W 53 ⟨w.heap.size, 0, none⟩ (by simp [Program.arrayLen, Program.elem, Tryd.underlying53]) .i64 (nDigits u : Int) (by omega) (by rw [hal]; omega)]
    go_simp
  have hH0 := holds_zero0 w 53 (nDigits u) (by omega)
  have hfmt : Calls Tryd.prog 27 #[.slice (some ⟨w.heap.size, 0, none⟩) (Array.replicate (nDigits u) (0 : UInt8)).size 24, .int .u64 u] (w.alloc (.cells zeros24 53)) fun e w' =>
      e = .returned (.tuple #[]) ∧ ∃ (n v' : Nat) (dk : Array UInt8), w' = (putRow (fun (b : UInt8) => Value.int .u8 (b.toNat : Int)) (w.alloc (.cells zeros24 53)) w.heap.size 0 dk).drewN n ∧ FmtInv (Array.replicate (nDigits u) (0 : UInt8)).size u 0 v' dk :=
    Any.internal_strconv_formatBase10 { digLay with } w.heap.size 0 24 u (Array.replicate (nDigits u) (0 : UInt8)) (w.alloc (.cells zeros24 53)) hH0 (by rw [Array.size_replicate]; exact lt_pow_nDigits u) hu64 (by rw [Array.size_replicate]; omega)
  rw [Array.size_replicate] at hfmt
  have HH0 := Lib.hid hH0
  have iu : (100 : Int) ≤ (u : Int) := by omega
  have ND := Lib.hid (numDigitsC u hu1 hu64 (w.alloc (.cells zeros24 53)) (tabIs_alloc ht _))
  replace hfmt := Lib.hid hfmt
  replace h := Lib.hid h
  clear hH0 hal ht
  go_enter Tryd.func22, Tryd.ntmps22
  go_wp2_with fail
  refine ND.out.mono ?_
  rintro e w' ⟨rfl, rfl⟩
  go_wp2_with fail
  refine hfmt.out.mono ?_
  rintro e w' ⟨rfl, k, v', dk, rfl, hF⟩
  have hcells : ∀ j u', ((decDigits u).map bv)[j]? = some u' → ((putRow (fun (b : UInt8) => Value.int .u8 (b.toNat : Int)) (w.alloc (.cells zeros24 53)) w.heap.size 0 dk).drewN k).cell? ((⟨w.heap.size, 0, none⟩ : Addr).add j) = some u' := by
    intro j u' hj
    have hjl : j < (decDigits u).length := by
      have h5 := (List.getElem?_eq_some_iff.1 hj).1
      rwa [List.length_map] at h5
    have e5 : ((decDigits u).map bv)[j]? = some (Value.int .u8 ((decDigits u)[j].toNat : Int)) := by simp [bv, hjl]
    rw [e5] at hj
    cases hj
    rw [row_is_numeral hF j hjl, add_plain, World.cell?_drewN]
    exact cell?_putRow (fun (b : UInt8) => Value.int .u8 (b.toNat : Int)) _ w.heap.size 0 _ dk HH0.out (by rw [hF.size, Array.size_replicate]) j (by rw [hF.size]; rw [decDigits_length] at hjl; exact hjl)
  obtain ⟨os, eo⟩ := fin_at w (.cells zeros24 53) dk k 0
  have hb2 : Below w.heap.size w ((putRow (fun (b : UInt8) => Value.int .u8 (b.toNat : Int)) (w.alloc (.cells zeros24 53)) w.heap.size 0 dk).drewN k) := by rw [eo]; exact below_grow w.heap.size w (Nat.le_refl _) k os
  have h2 := h.out.old hb2 (Nat.le_refl _)
  have hs2 := hb2.size
  generalize (putRow (fun (b : UInt8) => Value.int .u8 (b.toNat : Int)) (w.alloc (.cells zeros24 53)) w.heap.size 0 dk).drewN k = W2 at hcells h2 hb2 hs2 ⊢
  clear eo HH0 hfmt
  have hdl : (decDigits u).length = nDigits u := decDigits_length u
  replace hdl := Lib.hid hdl
  replace h2 := Lib.hid h2
  go_wp2_with (at_builtin; refine wpList_app_bytes rfl _ _ 38 rfl B 5 i0 Tryd.underlying38 hi hz0 hz1 hz2 v l (decDigits u) rfl h2.out ⟨w.heap.size, 0, none⟩ 24 (by rw [hdl.out]; rfl) hcells (by rw [hdl.out]; omega) (by omega) ?_)
  intro v2 w3 h3 hb3
  go_wp2
  go_ret
  exact ⟨v2, rfl, h3, (hb2.mono hB).trans hb3⟩

/-- AppendInt of a number below 1000. -/
theorem appInnerC (w : World) (B : Nat) (v : Value) (l : List UInt8) (h : OwnT w B 5 v l) (hB : B ≤ w.heap.size) (hl : l.length ≤ 1000000) (u : Nat) (hu : u < 1000) (ht : TabIs Tryd.prog w "internal/strconv.uint64pow10" .u64 pow10Tab) :
    Calls Tryd.prog 18 #[v, .int .i64 u, .int .i64 10] w fun e w' => ∃ v', e = .returned v' ∧ OwnT w' B 5 v' (l ++ decDigits u) ∧ Below B w w' := by
  have C : Calls Tryd.prog 22 #[v, .int .u64 u, .int .i64 10] w fun e w' => ∃ v', e = .returned v' ∧ OwnT w' B 5 v' (l ++ decDigits u) ∧ Below B w w' := by
    by_cases h1 : u < 100
    · exact appSmallC w B v l h hB hl u h1
    · exact appBigC w B v l h hB hl u (by omega) (by omega) ht
  replace C := Lib.hid C
  clear h ht
  go_enter Tryd.func18, Tryd.ntmps18
  go_wp2_with fail
  refine C.out.mono ?_
  rintro e w1 ⟨v1, rfl, h1, hb1⟩
  go_wp2
  go_ret
  exact ⟨v1, rfl, h1, hb1⟩
theorem appC (w : World) (B : Nat) (v : Value) (l : List UInt8) (h : OwnT w B 5 v l) (hB : B ≤ w.heap.size) (hl : l.length ≤ 1000000) (u : Nat) (hu : u < 1000) (ht : TabIs Tryd.prog w "internal/strconv.uint64pow10" .u64 pow10Tab) :
    Calls Tryd.prog 14 #[v, .int .i64 u, .int .i64 10] w fun e w' => ∃ v', e = .returned v' ∧ OwnT w' B 5 v' (l ++ decDigits u) ∧ Below B w w' := by
  have C := Lib.hid (appInnerC w B v l h hB hl u hu ht)
  clear h ht
  go_enter Tryd.func14, Tryd.ntmps14
  go_wp2_with fail
  refine C.out.mono ?_
  rintro e w1 ⟨v1, rfl, h1, hb1⟩
  go_wp2
  go_ret
  exact ⟨v1, rfl, h1, hb1⟩
end Go.Proofs.YtbcohjddnelldaaDoor.Digits
