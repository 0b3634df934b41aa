/-
  The walk of hash.Points.
-/
import Derived.Test.YtbcohjddnelldaaDoorDigits
import Derived.Test.YtbcohjddnelldaaDoorHashMixWalks
import Derived.Test.YtbcohjddnelldaaDoorHashSumWalks
import Derived.Lib.Hide
namespace Go.Proofs.YtbcohjddnelldaaDoor.Pts
open Go.RowKit Base Go.Lib Tail Digits HashPlain HashW
set_option linter.unusedVariables false

noncomputable def ptN (nm : List UInt8) (k : Nat) : Nat := pointN (sumB Begin (nm ++ 45 :: decDigits k))
noncomputable def ptsL (nm : List UInt8) (n : Nat) : List Nat := (List.range n).map (ptN nm)
def u32v (k : Nat) : Value := .int .u32 (k : Int)
/-- Block g is a row of those numbers. -/
def NumRow (w : World) (g : Nat) (L : List Nat) : Prop := w.heap[g]? = some (.cells (L.map u32v).toArray 34 (0, 0))
theorem eiU32 : EI Tryd.prog 26 34 (.int .u32 0) 1 4 := EI.mk' Tryd.underlying26 (by kernel_rfl) rfl (by decide)
abbrev Tab (w : World) : Prop := TabIs Tryd.prog w "internal/strconv.uint64pow10" .u64 pow10Tab

theorem pointsNo (w : World) (nm : List UInt8) (n : Int) (hnm : nm.length ≤ maxLen) (hn : -9223372036854775808 ≤ n ∧ n < 9223372036854775808) (h : ¬ (1 ≤ nm.length ∧ nm.length ≤ 250 ∧ 1 ≤ n ∧ n ≤ 512)) :
    Calls Tryd.prog 6 #[.string ⟨nm.toArray⟩, .int .i64 n] w fun e w' => e = .returned (.tuple #[.slice none 0 0, .int .i64 1]) ∧ w = w' := by
  unfold maxLen at hnm
  obtain ⟨n1, n2⟩ := hn
  have hsz : (⟨nm.toArray⟩ : ByteArray).size = nm.length := by simp [ByteArray.size]
  generalize (⟨nm.toArray⟩ : ByteArray) = s at *
  generalize nm.length = q at *
  have hc : q = 0 ∨ 250 < q ∨ (1 ≤ q ∧ q ≤ 250 ∧ n < 1) ∨ (1 ≤ q ∧ q ≤ 250 ∧ 512 < n) := by omega
  clear h
  rcases hc with h | h | ⟨h1, h2, h3⟩ | ⟨h1, h2, h3⟩
  · have b1 : decide ((q : Int) < 1) = true := by simp; omega
    replace h := Lib.hid h
    go_enter Tryd.func6, Tryd.ntmps6
    go_wp2
    go_ret2
    exact ⟨rfl, rfl⟩
  · have b1 : decide ((q : Int) < 1) = false := by simp; omega
    have b2 : decide ((250 : Int) < q) = true := by simp; omega
    go_enter Tryd.func6, Tryd.ntmps6
    go_wp2
    go_ret2
    exact ⟨rfl, rfl⟩
  · have b1 : decide ((q : Int) < 1) = false := by simp; omega
    have b2 : decide ((250 : Int) < q) = false := by simp; omega
    have b3 : decide (n < 1) = true := by simp; omega
    go_enter Tryd.func6, Tryd.ntmps6
    go_wp2
    go_ret2
    exact ⟨rfl, rfl⟩
  · have b1 : decide ((q : Int) < 1) = false := by simp; omega
    have b2 : decide ((250 : Int) < q) = false := by simp; omega
    have b3 : decide (n < 1) = false := by simp; omega
    have b4 : decide (512 < n) = true := by simp; omega
    go_enter Tryd.func6, Tryd.ntmps6
    go_wp2
    go_ret2
    exact ⟨rfl, rfl⟩

theorem zeros_row (w : World) (n : Nat) : NumRow (w.alloc (.cells (madeCells #[Value.int .u32 0] n) 34)) w.heap.size (List.replicate n 0) := by
  unfold NumRow
  rw [heap_alloc_new]
  have : madeCells #[Value.int .u32 0] n = ((List.replicate n 0).map u32v).toArray := by
    apply Array.ext'
    apply List.ext_getElem
    · simp [madeCells]
    · intro i h1 h2
      simp [madeCells, u32v, Nat.mod_one]
  rw [this]
theorem made_nums (w : World) (n : Nat) (hn : n ≤ 512) : ∃ w0, (Instr.makeSlice 26 (.int .i64 (n : Int)) (.int .i64 (n : Int))).run Tryd.prog w = .ok (.slice (some ⟨w.heap.size, 0, none⟩) n n) w0 ∧ NumRow w0 w.heap.size (List.replicate n 0) ∧ Below w.heap.size w w0 := by
  have h := EI.make eiU32 .i64 .i64 n n (by omega) (by omega) (by omega) w
  rw [Nat.mul_one] at h
  exact ⟨_, h, zeros_row w n, (Below.refl _ _).alloc (Nat.le_refl _) _⟩
theorem conv_row (w : World) (l : List UInt8) (hl : l.length ≤ maxLen) : ∃ v w1, (convert 9 38 (.string ⟨l.toArray⟩)).run Tryd.prog w = .ok v w1 ∧ OwnT w1 w.heap.size 5 v l ∧ Below w.heap.size w w1 := by
  have h := Go.Lib.run_convert_string_bytes (P := Tryd.prog) w 9 38 5 ⟨l.toArray⟩ (u := .string) Tryd.underlying9 Tryd.underlying38 Tryd.underlying5
  have hs : (⟨l.toArray⟩ : ByteArray).size = l.length := by simp [ByteArray.size]
  rw [hs] at h
  exact ⟨_, _, h, ownT_conv w 5 l hl, ⟨rfl, rfl, rfl, by rw [bytesWorld_size]; omega, fun k hk => bytesWorld_at_old w _ _ k hk⟩⟩
theorem NumRow.lt {w : World} {g : Nat} {L : List Nat} (h : NumRow w g L) : g < w.heap.size := heap_lt h
theorem NumRow.below {w w' : World} {g B : Nat} {L : List Nat} (h : NumRow w g L) (hb : Below B w w') (hg : g < B) : NumRow w' g L := (hb.block g hg).trans h
theorem NumRow.set {w : World} {g : Nat} {L : List Nat} (h : NumRow w g L) (k x : Nat) : NumRow (w.setCell ⟨g, k, none⟩ (.int .u32 (x : Int))) g (L.set k x) := by
  unfold NumRow at *
  have := Blk.set_ (w := w) (g := g) (t := 34) (cs := (L.map u32v).toArray) h k (.int .u32 (x : Int))
  unfold Blk at this
  rw [this]
  congr 3
  simp [List.map_set, u32v]
theorem NumRow.cell {w : World} {g : Nat} {L : List Nat} (h : NumRow w g L) (k : Nat) (hk : k < L.length) : w.cell? ⟨g, k, none⟩ = some (.int .u32 (L[k] : Int)) := by
  rw [cell_of_row w g k _ _ _ h]
  simp [u32v, hk]
theorem NumRow.frozen {w : World} {g : Nat} {L : List Nat} (h : NumRow w g L) (k : Nat) : w.frozen? ⟨g, k, none⟩ = false := Blk.frozen (t := 34) h k

theorem ptN_lt (nm : List UInt8) (k : Nat) : ptN nm k < 4294967296 := by
  unfold ptN pointN
  have := mixN_lt (sumB Begin (nm ++ 45 :: decDigits k))
  unfold M64 at this
  omega
theorem cat_bytes (a b : List UInt8) : (⟨a.toArray⟩ : ByteArray) ++ ⟨b.toArray⟩ = ⟨(a ++ b).toArray⟩ := by
  apply ByteArray.ext
  simp
theorem step_set (nm : List UInt8) (n k : Nat) (hk : k < n) : (ptsL nm k ++ List.replicate (n - k) 0).set k (ptN nm k) = ptsL nm (k + 1) ++ List.replicate (n - (k + 1)) 0 := by
  have hl : (ptsL nm k).length = k := by simp [ptsL]
  rw [List.set_append, if_neg (by omega), hl, Nat.sub_self, show n - k = (n - (k + 1)) + 1 by omega, List.replicate_succ, List.set_cons_zero]
  unfold ptsL
  rw [List.range_succ, List.map_append, List.append_assoc]
  rfl

set_option maxRecDepth 100000 in
set_option maxHeartbeats 3200000 in
theorem pointsYes (w : World) (nm : List UInt8) (n : Nat) (hq : 1 ≤ nm.length ∧ nm.length ≤ 250) (hn : 1 ≤ n ∧ n ≤ 512) (ht : Tab w) :
    Calls Tryd.prog 6 #[.string ⟨nm.toArray⟩, .int .i64 (n : Int)] w fun e w' => e = .returned (.tuple #[.slice (some ⟨w.heap.size, 0, none⟩) n n, .int .i64 0]) ∧ NumRow w' w.heap.size (ptsL nm n) ∧ Below w.heap.size w w' := by
  obtain ⟨q1, q2⟩ := hq
  obtain ⟨n1, n2⟩ := hn
  have hT := Lib.hid (tabBelow_of_tabIs ht)
  clear ht
  have hsz : (⟨nm.toArray⟩ : ByteArray).size = nm.length := by simp [ByteArray.size]
  obtain ⟨w0, hmk, r0, b0⟩ := made_nums w n n2
  have hcat : (⟨nm.toArray⟩ : ByteArray) ++ ⟨#[45]⟩ = ⟨(nm ++ [45]).toArray⟩ := cat_bytes nm [45]
  replace r0 := Lib.hid r0
  go_enter Tryd.func6, Tryd.ntmps6
  go_wp2_with fail
  generalize hg : w.heap.size = g at *
  replace hg := Lib.hid hg
  clear hmk
  go_loopw [7, 28] (fun _ i wr => ∃ k : Nat, k ≤ n ∧ i = .int .i64 (k : Int) ∧ NumRow wr g (ptsL nm k ++ List.replicate (n - k) 0) ∧ Below g w wr) (fun _ i _ => n - (RowKit.intOf i).toNat)
  case atStart => exact ⟨0, Nat.zero_le _, rfl, r0.out, b0⟩
  case round =>
    obtain ⟨k, hk, rfl, rr, hb⟩ := hrel
    clear r0 b0
    by_cases hlt : k < n
    · have htk : Tab wr := hT.out wr hb
      obtain ⟨v1, w1, hcv, ho1, hb1⟩ := conv_row wr (nm ++ [45]) (by unfold maxLen; simp; omega)
      have ht1 : Tab w1 := hT.out w1 (hb.trans (hb1.mono (Nat.le_of_lt rr.lt)))
      have A1 := Lib.hid (appC w1 wr.heap.size v1 (nm ++ [45]) ho1 hb1.size (by simp; omega) k (by omega) ht1)
      have hstep := Lib.hid (step_set nm n k hlt)
      have hlk : (ptsL nm k ++ List.replicate (n - k) 0).length = n := by simp [ptsL]; omega
      have hpt := Lib.hid (show ptN nm k = pointN (sumB Begin (nm ++ [45] ++ decDigits k)) by unfold ptN; simp)
      replace hlk := Lib.hid hlk
      replace rr := Lib.hid rr
      have hgr := rr.out.lt
      replace ho1 := Lib.hid ho1
      clear htk ht1
      go_wp2_with fail
      refine A1.out.mono ?_
      rintro e w2 ⟨v2, rfl, ho2, hb2⟩
      obtain ⟨g2, c2, rfl, hB2, hby⟩ := ho2.bytes
      have hl2 : (nm ++ [45] ++ decDigits k).length ≤ maxLen := by
        obtain ⟨_, cap, _, _, hv, _, _, h1, h2, _⟩ := ho2
        exact Nat.le_trans h1 h2
      have S1 := Lib.hid (sumC _ c2 _ _ w2 hby hl2)
      have hM := sumB_lt Begin (nm ++ [45] ++ decDigits k) (by decide)
      have P1 := Lib.hid (pointC (sumB Begin (nm ++ [45] ++ decDigits k)) hM w2)
      have hb12 : Below wr.heap.size wr w2 := hb1.trans hb2
      have r2 : NumRow w2 g (ptsL nm k ++ List.replicate (n - k) 0) := rr.out.below hb12 hgr
      have hbw2 : Below g w w2 := hb.trans (hb12.mono (Nat.le_of_lt hgr))
      have hplt : pointN (sumB Begin (nm ++ [45] ++ decDigits k)) < 4294967296 := by rw [← hpt.out]; exact ptN_lt nm k
      clear ho2 hby hM A1 hb12 hb1 hb2 hl2 rr
      generalize hS : sumB Begin (nm ++ [45] ++ decDigits k) = S at *
      generalize (nm ++ [45] ++ decDigits k).length = L2 at *
      replace hS := Lib.hid hS
      go_wp2_with fail
      refine S1.out.mono ?_
      rintro e w' ⟨rfl, rfl⟩
      go_wp2_with fail
      refine P1.out.mono ?_
      rintro e w' ⟨rfl, rfl⟩
      have cc := r2.cell k (by rw [hlk.out]; exact hlt)
      have cf := r2.frozen k
      have r3 := r2.set k (pointN S)
      rw [← hpt.out, hstep.out] at r3
      have hbw3 : Below g w (w2.setCell ⟨g, k, none⟩ (.int .u32 (pointN S : Int))) := hbw2.setCell (Nat.le_refl _) _
      replace r3 := Lib.hid r3
      replace r2 := Lib.hid r2
      rw [hpt.out] at r3
      generalize pointN S = x at *
      go_wp2
      go_roundw
      case rel => exact ⟨k + 1, by omega, by go_num, r3.out, hbw3⟩
      case measure => simp [RowKit.intOf]; omega
    · obtain rfl : k = n := by omega
      rw [Nat.sub_self, List.replicate_zero, List.append_nil] at rr
      go_wp2
      go_ret2
      rw [hg.out]
      exact ⟨rfl, rr, hb⟩
end Go.Proofs.YtbcohjddnelldaaDoor.Pts
