/-
  The walks of the reference's Digits and Points.
-/
import Derived.Test.YtbcohjddnelldaaDoorPoints
import Derived.Test.YtbcohjddnelldaaDoorHashRefWalks
import Derived.StillTailTactics
import Derived.Deep.DeepCutAuto
import Derived.Deep.DrawnRows
namespace Go.Proofs.YtbcohjddnelldaaDoor.Pts
open Go.RowKit Base Tail Digits HashPlain HashW HashR
set_option linter.unusedVariables false

theorem one_byte (w : World) (x : Int) (c : UInt8) (hx : x = (c.toNat : Int)) (dst : TypeId) (hd : Tryd.prog.underlying dst = some .string) (w' : World) (hb : Below (w.heap.size + 1) (w.alloc (.cells #[.int .u8 x] 5)) w') :
    (convert 38 dst (.slice (some ⟨w.heap.size, 0, none⟩) 1 1)).run Tryd.prog w' = .ok (.string ⟨#[c]⟩) w' := by
  subst hx
  have hby : Bytes w' (w.heap.size + 1) (some ⟨w.heap.size, 0, none⟩) [c] := fun _ => ⟨_, _, rfl, by omega, fun j v hv => by
    rw [hb.cell (by show w.heap.size < w.heap.size + 1; omega), Nat.zero_add, cell_of_row (w.alloc _) w.heap.size j _ 5 (0, 0) (heap_alloc_new w _)]
    simpa [bv] using hv⟩
  exact conv_string (c := 1) hby Tryd.underlying38 Tryd.underlying5 dst hd
theorem one_byte0 (w : World) (x : Int) (c : UInt8) (hx : x = (c.toNat : Int)) (dst : TypeId) (hd : Tryd.prog.underlying dst = some .string) :
    (convert 38 dst (.slice (some ⟨w.heap.size, 0, none⟩) 1 1)).run Tryd.prog (w.alloc (.cells #[.int .u8 x] 5)) = .ok (.string ⟨#[c]⟩) (w.alloc (.cells #[.int .u8 x] 5)) :=
  one_byte w x c hx dst hd _ (Below.refl _ _)

set_option maxRecDepth 100000 in
set_option maxHeartbeats 1600000 in
theorem digitsC (n : Nat) (hn : n < 1000) (w : World) : Calls Tryd.prog 17 #[.int .i64 (n : Int)] w fun e w' => e = .returned (.string ⟨(Lib.decDigits n).toArray⟩) ∧ Below w.heap.size w w' := by
  induction n using Nat.strongRecOn generalizing w with
  | ind n ih =>
    by_cases h : n < 10
    · have hd : Lib.decDigits n = [UInt8.ofNat (48 + n)] := Lib.decDigits_one h
      rw [hd]
      have hc := one_byte0 w (48 + (n : Int)) (UInt8.ofNat (48 + n)) (by rw [UInt8.toNat_ofNat']; omega) 9 Tryd.underlying9
      have hb : Below w.heap.size w (w.alloc (.cells #[.int .u8 (48 + (n : Int))] 5)) := (Below.refl _ _).alloc (Nat.le_refl _) _
      clear hd ih
      generalize UInt8.ofNat (48 + n) = c at *
      go_enter Tryd.func17, Tryd.ntmps17
      go_wp2
      go_ret
      exact ⟨rfl, hb⟩
    · have hd : Lib.decDigits n = Lib.decDigits (n / 10) ++ [UInt8.ofNat (48 + n % 10)] := by rw [Lib.decDigits, dif_neg h]
      rw [hd]
      have C : ∀ W, Calls Tryd.prog 17 #[.int .i64 ((n : Int) / 10)] W fun e w' => e = .returned (.string ⟨(Lib.decDigits (n / 10)).toArray⟩) ∧ Below W.heap.size W w' := fun W => ih (n / 10) (by omega) (by omega) W
      replace C := Lib.hid C
      have hc0 := fun W => one_byte0 W (48 + (n : Int) % 10) (UInt8.ofNat (48 + n % 10)) (by rw [UInt8.toNat_ofNat']; omega) 9 Tryd.underlying9
      have hcD : ∀ w', Below (w.heap.size + 1) (w.drew.alloc (.cells #[.int .u8 (48 + (n : Int) % 10)] 5)) w' → (convert 38 9 (.slice (some ⟨w.heap.size, 0, none⟩) 1 1)).run Tryd.prog w' = .ok (.string ⟨#[UInt8.ofNat (48 + n % 10)]⟩) w' :=
        fun w' hb => one_byte w.drew (48 + (n : Int) % 10) (UInt8.ofNat (48 + n % 10)) (by rw [UInt8.toNat_ofNat']; omega) 9 Tryd.underlying9 w' hb
      have hcE : (convert 38 9 (.slice (some ⟨w.heap.size, 0, none⟩) 1 1)).run Tryd.prog (w.alloc (.cells #[.int .u8 (48 + (n : Int) % 10)] 5)).drew = .ok (.string ⟨#[UInt8.ofNat (48 + n % 10)]⟩) (w.alloc (.cells #[.int .u8 (48 + (n : Int) % 10)] 5)).drew :=
        hcD _ (Below.refl _ (w.drew.alloc (.cells #[.int .u8 (48 + (n : Int) % 10)] 5)))
      replace hcD := Lib.hid hcD
      have hcat : (⟨(Lib.decDigits (n / 10)).toArray⟩ : ByteArray) ++ ⟨#[UInt8.ofNat (48 + n % 10)]⟩ = ⟨(Lib.decDigits (n / 10) ++ [UInt8.ofNat (48 + n % 10)]).toArray⟩ := cat_bytes _ [_]
      have hlen : (Lib.decDigits (n / 10)).length ≤ 20 := by
        rw [Lib.decDigits_length]
        have h2 := Lib.numDigits_eq (n / 10) (by omega) (by omega)
        split at h2 <;> omega
      have hq : ¬ (9223372036854775807 < (Lib.decDigits (n / 10)).length + 1) := by omega
      have w1 : IntKind.i64.wrap ((n : Int) / 10) = (n : Int) / 10 := IntWalk.i64_in _ (by omega)
      have w2 : IntKind.i64.wrap ((n : Int) % 10) = (n : Int) % 10 := IntWalk.i64_in _ (by omega)
      have ht : (n : Int).tmod 10 = (n : Int) % 10 := Int.tmod_eq_emod_of_nonneg (by omega)
      have w3 : IntKind.i64.wrap (48 + (n : Int) % 10) = 48 + (n : Int) % 10 := IntWalk.i64_in _ (by omega)
      have w4 : IntKind.u8.wrap (48 + (n : Int) % 10) = 48 + (n : Int) % 10 := by rw [IntKind.wrap_u8]; omega
      clear hd ih
      generalize UInt8.ofNat (48 + n % 10) = c at *
      generalize Lib.decDigits (n / 10) = ds at *
      go_enter Tryd.func17, Tryd.ntmps17
      go_upto_region 3 with fail
      go_region_law
        ((go_simp; first | (go_at_call 17; refine (C.out _).mono ?_; rintro e w1 ⟨rfl, b1⟩; first | (have hcx := hcD.out w1 (b1.mono (by simp))) | skip)))
      all_goals
        have hB : Below w.heap.size w w1 := by
          first
            | exact (below_drewN ((Below.refl _ w).alloc (Nat.le_refl _) _) 1).trans (b1.mono (by simp))
            | exact ((below_drewN (Below.refl _ w) 1).alloc (Nat.le_refl _) _).trans (b1.mono (by simp))
            | exact (below_drewN (Below.refl _ w) 1).trans b1
        go_wp2
        go_ret
        first
          | exact ⟨rfl, hB⟩
          | exact ⟨rfl, hB.alloc hB.size _⟩

theorem refPointsNo (w : World) (nm : List UInt8) (n : Int) (hnm : nm.length ≤ maxLen) (hn : -9223372036854775808 ≤ n ∧ n < 9223372036854775808) (h : ¬ (1 ≤ nm.length ∧ nm.length ≤ 250 ∧ 1 ≤ n ∧ n ≤ 512)) :
    Calls Tryd.prog 7 #[.string ⟨nm.toArray⟩, .int .i64 n] w fun e w' => e = .returned (.tuple #[.slice none 0 0, .int .i64 1]) ∧ w = w' := by
  unfold maxLen at hnm
  obtain ⟨n1, n2⟩ := hn
  have hsz : (⟨nm.toArray⟩ : ByteArray).size = nm.length := by simp [ByteArray.size]
  generalize (⟨nm.toArray⟩ : ByteArray) = s at *
  generalize nm.length = q at *
  have hc : q = 0 ∨ 250 < q ∨ (1 ≤ q ∧ q ≤ 250 ∧ n < 1) ∨ (1 ≤ q ∧ q ≤ 250 ∧ 512 < n) := by omega
  clear h
  rcases hc with h | h | ⟨h1, h2, h3⟩ | ⟨h1, h2, h3⟩
  · have b1 : decide ((q : Int) < 1) = true := by simp; omega
    replace h := Lib.hid h
    go_enter Tryd.func7, Tryd.ntmps7
    go_wp2
    go_ret2
    exact ⟨rfl, rfl⟩
  · have b1 : decide ((q : Int) < 1) = false := by simp; omega
    have b2 : decide ((250 : Int) < q) = true := by simp; omega
    go_enter Tryd.func7, Tryd.ntmps7
    go_wp2
    go_ret2
    exact ⟨rfl, rfl⟩
  · have b1 : decide ((q : Int) < 1) = false := by simp; omega
    have b2 : decide ((250 : Int) < q) = false := by simp; omega
    have b3 : decide (n < 1) = true := by simp; omega
    go_enter Tryd.func7, Tryd.ntmps7
    go_wp2
    go_ret2
    exact ⟨rfl, rfl⟩
  · have b1 : decide ((q : Int) < 1) = false := by simp; omega
    have b2 : decide ((250 : Int) < q) = false := by simp; omega
    have b3 : decide (n < 1) = false := by simp; omega
    have b4 : decide (512 < n) = true := by simp; omega
    go_enter Tryd.func7, Tryd.ntmps7
    go_wp2
    go_ret2
    exact ⟨rfl, rfl⟩

theorem u32one (L : List Nat) : ∀ u ∈ L.map u32v, u.oneCell' = true := by
  intro u hu
  obtain ⟨x, -, rfl⟩ := List.mem_map.1 hu
  rfl
set_option maxRecDepth 100000 in
set_option maxHeartbeats 3200000 in
theorem refPointsYes (w : World) (nm : List UInt8) (n : Nat) (hq : 1 ≤ nm.length ∧ nm.length ≤ 250) (hn : 1 ≤ n ∧ n ≤ 512) :
    Calls Tryd.prog 7 #[.string ⟨nm.toArray⟩, .int .i64 (n : Int)] w fun e w' => ∃ v, e = .returned (.tuple #[v, .int .i64 0]) ∧ w'.ownsRow w.heap.size 34 1 v n ((ptsL nm n).map u32v) ∧ Below w.heap.size w w' := by
  obtain ⟨q1, q2⟩ := hq
  obtain ⟨n1, n2⟩ := hn
  have hsz : (⟨nm.toArray⟩ : ByteArray).size = nm.length := by simp [ByteArray.size]
  have hcat : (⟨nm.toArray⟩ : ByteArray) ++ ⟨#[45]⟩ = ⟨(nm ++ [45]).toArray⟩ := cat_bytes nm [45]
  go_enter Tryd.func7, Tryd.ntmps7
  generalize hg : w.heap.size = g at *
  replace hg := Lib.hid hg
  go_wp2_with fail
  go_loopw [6, 7] (fun s6 i wr => ∃ k : Nat, k ≤ n ∧ i = .int .i64 (k : Int) ∧ wr.ownsRow g 34 1 s6 k ((ptsL nm k).map u32v) ∧ Below g w wr) (fun _ i _ => n - (RowKit.intOf i).toNat)
  case atStart => exact ⟨0, Nat.zero_le _, rfl, World.ownsRow_nil _ _ _ _, Below.refl _ _⟩
  case round =>
    obtain ⟨k, hk, rfl, hown, hb⟩ := hrel
    have hsg : g ≤ wr.heap.size := by have := hb.size; rw [hg.out] at this; exact this
    by_cases hlt : k < n
    · have D1 := Lib.hid (digitsC k (by omega) wr)
      have hpt := Lib.hid (show ptN nm k = pointN (sumB Begin ((nm ++ [45]) ++ Lib.decDigits k)) by unfold ptN; simp)
      have hdl : (Lib.decDigits k).length ≤ 20 := by
        rw [Lib.decDigits_length]
        by_cases h1 : 1 ≤ k
        · have h2 := Lib.numDigits_eq k h1 (by omega)
          split at h2 <;> omega
        · rw [Lib.nDigits_small (by omega)]; omega
      have hcat2 : (⟨(nm ++ [45]).toArray⟩ : ByteArray) ++ ⟨(Lib.decDigits k).toArray⟩ = ⟨((nm ++ [45]) ++ Lib.decDigits k).toArray⟩ := cat_bytes (nm ++ [45]) _
      have hq1 : ¬ (9223372036854775807 < nm.length + 1) := by omega
      have hq2 : ¬ (9223372036854775807 < nm.length + 1 + (Lib.decDigits k).length) := by omega
      have hXl : ((nm ++ [45]) ++ Lib.decDigits k).length ≤ 1000 := by simp; omega
      generalize Lib.decDigits k = ds at *
      go_wp2_with fail
      refine D1.out.mono ?_
      rintro e w1 ⟨rfl, b1⟩
      have hown1 := hown.kept (only_of_below b1 none) (by cases v_own : u6.ownBlock <;> simp)
      have hb1 : Below g w w1 := hb.trans (b1.mono hsg)
      have hsg1 : g ≤ w1.heap.size := Nat.le_trans hsg b1.size
      generalize (nm ++ [45]) ++ ds = X at *
      obtain ⟨v2, w2, hcv, ho2, b2⟩ := conv_row w1 X (by unfold maxLen; omega)
      obtain ⟨g2, c2, rfl, -, hby⟩ := ho2.bytes
      have hown2 := hown1.kept (only_of_below b2 none) (by cases v_own : u6.ownBlock <;> simp)
      have hb2 : Below g w w2 := hb1.trans (b2.mono hsg1)
      have hsg2 : g ≤ w2.heap.size := Nat.le_trans hsg1 b2.size
      have S1 := Lib.hid (refSumC _ c2 _ X w2 hby (by unfold maxLen; omega))
      have hM := sumB_lt Begin X (by decide)
      have P1 := Lib.hid (refPointC (sumB Begin X) hM w2)
      clear ho2 hby hown hown1 b1 b2
      generalize hSX : sumB Begin X = S at *
      go_wp2_with fail
      refine S1.out.mono ?_
      rintro e w' ⟨rfl, rfl⟩
      go_wp2_with fail
      refine P1.out.mono ?_
      rintro e w' ⟨rfl, rfl⟩
      generalize hZ : pointN S = Z at *
      have own3 : (w2.alloc (.cells #[.int .u32 (Z : Int)] 34)).ownsRow g 34 1 u6 k ((ptsL nm k).map u32v) := hown2.alloc _
      have rd3 : Reads (w2.alloc (.cells #[.int .u32 (Z : Int)] 34)) (w2.heap.size + 1) 1 (some ⟨w2.heap.size, 0, none⟩) 1 ([Z].map u32v) :=
        ⟨rfl, fun _ => ⟨_, rfl, Nat.lt_succ_self _, fun j u hj => by
          rw [add_explicit, Nat.zero_add, cell_of_row (w2.alloc _) w2.heap.size j _ 34 (0, 0) (heap_alloc_new w2 _)]
          simpa [u32v] using hj⟩⟩
      have hb3 : Below g w (w2.alloc (.cells #[.int .u32 (Z : Int)] 34)) := hb2.alloc hsg2 _
      have hsg3 : g ≤ (w2.alloc (.cells #[.int .u32 (Z : Int)] 34)).heap.size := by rw [World.size_alloc]; omega
      clear hown2 hb2
      go_wp2_with (at_builtin; refine wpList_app rfl _ _ 26 rfl eiU32 g u6 k ((ptsL nm k).map u32v) rfl own3 (w2.heap.size + 1) (some ⟨w2.heap.size, 0, none⟩) 1 1 ([Z].map u32v) rfl rd3 (u32one [Z]) (by unfold maxLen; omega) (by omega) hsg3 ?_)
      intro v4 w4 hown4 hgrow hob
      have hb4 : Below g w w4 := hb3.grown hgrow hsg3 (fun j hj => (own3.lt j hj).1)
      have hz : (ptsL nm k).map u32v ++ [Z].map u32v = (ptsL nm (k + 1)).map u32v := by
        unfold ptsL
        simp only [List.range_succ, List.map_append, List.map_cons, List.map_nil]
        rw [hpt.out]
      have hown5 : w4.ownsRow g 34 1 v4 (k + 1) ((ptsL nm (k + 1)).map u32v) := by rw [← hz]; exact hown4
      replace hown5 := Lib.hid hown5
      clear hown4 hgrow hob own3 rd3 hb3 hz hSX hZ
      go_wp2
      go_roundw
      case rel => exact ⟨k + 1, by omega, by go_num, hown5.out, hb4⟩
      case measure => simp [RowKit.intOf]; omega
    · obtain rfl : k = n := by omega
      go_wp2
      go_ret2
      exact ⟨_, rfl, hown, hb⟩
end Go.Proofs.YtbcohjddnelldaaDoor.Pts
