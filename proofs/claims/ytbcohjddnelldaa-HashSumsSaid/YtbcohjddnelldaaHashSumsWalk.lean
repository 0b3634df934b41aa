/-
  Walk of the law HashSums: for every list of rows of bytes it returns true, and nothing that was there is changed.
-/
import Derived.Test.YtbcohjddnelldaaHashRefWalks
import Derived.Test.YtbcohjddnelldaaBookLend
import Derived.Lib.SlBytesConst
namespace Go.Proofs.Ytbcohjddnelldaa.HashS
open Go.RowKit HashPlain Base HashW HashR Book
set_option linter.unusedVariables false

/-- The slice holds slices of bytes, one cell each. -/
def ByteRows (w : World) (A : Option Addr) (ls : List (List UInt8)) : Prop := ∀ (k : Nat) (hk : k < ls.length), ∃ b off A' c', A = some ⟨b, off, none⟩ ∧ b < w.heap.size ∧
    w.cell? ⟨b, off + k, none⟩ = some (.slice A' (ls[k]).length c') ∧ (ls[k]).length ≤ c' ∧ c' ≤ maxLen ∧ Bytes w w.heap.size A' ls[k]

theorem sum_a : sumB Begin [97] = 12638187200555641996 := by rw [sumB_one, onN_eq]; decide
theorem bytes_take {w : World} {B : Nat} {A : Option Addr} {l : List UInt8} (h : Bytes w B A l) (n : Nat) : Bytes w B A (l.take n) := by
  intro hx
  obtain ⟨b, off, e, hb, hc⟩ := h (by rw [List.length_map] at hx ⊢; have := List.length_take_le n l; have := List.length_take_le' n l; omega)
  refine ⟨b, off, e, hb, fun j v hv => hc j v ?_⟩
  rw [List.map_take, List.getElem?_take] at hv
  split at hv
  · exact hv
  · cases hv

theorem bytes_a (w : World) (o : Obj) (h : o = .cells #[.int .u8 97] 5 (1, 2)) : Bytes (w.alloc o) (w.heap.size + 1) (some ⟨w.heap.size, 0, none⟩) [97] := by
  subst h
  intro _
  refine ⟨_, _, rfl, by omega, fun j v hv => ?_⟩
  match j, hv with
  | 0, hv =>
    simp at hv; subst hv
    rw [Nat.zero_add, cell_of_row (w.alloc _) w.heap.size 0 #[.int .u8 97] 5 (1, 2) (heap_alloc_new w _)]
    rfl

set_option maxHeartbeats 800000 in
theorem lawC (A : Option Addr) (c : Nat) (ls : List (List UInt8)) (w : World) (hT : ByteRows w A ls) (hl : ls.length ≤ maxLen) :
    Calls Try.prog 3 #[.slice A ls.length c] w fun e w' => e = .returned (.bool true) ∧ Below w.heap.size w w' := by
  unfold maxLen at hl
  have kc := fun (w : World) (C : Array Value) (n c : Nat) => Lib.run_convert_bytes_const (P := Try.prog) w 23 5 C n c Try.underlying23 Try.underlying5
  go_enter Try.func3, Try.ntmps3
  go_wp2
  go_loopw [3] (fun i wr => ∃ k : Nat, k ≤ ls.length ∧ i = .int .i64 k ∧ Below w.heap.size w wr) (fun i _ => ls.length - (intOf i).toNat)
  case atStart => exact ⟨0, Nat.zero_le _, rfl, Below.refl _ _⟩
  case round =>
    obtain ⟨k, hk, rfl, hbel⟩ := hrel
    by_cases hlt : k < ls.length ∧ k < 40
    · obtain ⟨hk1, hk2⟩ := hlt
      obtain ⟨b, off, A', c', rfl, hb, c1, hc1, hc2, hB⟩ := hT k hk1
      replace c1 := (hbel.cell (p := ⟨b, off + k, none⟩) hb).trans c1
      replace hB := (Row.below hB hbel).more hbel.size
      generalize ls[k] = l at *
      have main : ∀ (m : List UInt8) (n : Nat), m.length = n → n ≤ 3000 → Bytes wr wr.heap.size A' m → 
          (∀ (w : World), Bytes w w.heap.size A' m → Calls Try.prog 7 #[.slice A' n c'] w fun e w' => ∃ g cap, e = .returned (.slice (some ⟨g, 0, none⟩) n cap) ∧ w.heap.size ≤ g ∧ Lent w' g cap m ∧ Below w.heap.size w w') ∧
          (∀ (w : World) (A : Option Addr) (c B : Nat), Bytes w B A m → Calls Try.prog 8 #[.slice A n c] w fun e w' => e = .returned (.int .u64 ((sumB Begin m : Nat) : Int)) ∧ w = w') ∧
          (∀ (w : World) (A : Option Addr) (c B : Nat), Bytes w B A m → Calls Try.prog 9 #[.slice A n c] w fun e w' => e = .returned (.int .u64 ((sumB Begin m : Nat) : Int)) ∧ w = w') ∧
          (∀ (w : World) (g cap B : Nat), Lent w g cap m → Bytes w B A' m → Calls Try.prog 10 #[.slice (some ⟨g, 0, none⟩) n cap, .slice A' n c'] w fun e w' => e = .returned (.bool true) ∧ ∃ n, w.drewN n = w') := by
        intro m n hn h3 hm
        subst hn
        exact ⟨fun w hb => lendC A' c' m w hb (by omega), fun w A c B hb => sumC A c B m w hb (by unfold maxLen; omega), fun w A c B hb => refSumC A c B m w hb (by unfold maxLen; omega),
          fun w g cap B hL hb => intactC g cap A' c' B m w hL hb (by omega)⟩
      by_cases h3 : 3000 < l.length
      · have hB3 := bytes_take hB 3000
        obtain ⟨L, S, T, I⟩ := main _ 3000 (by rw [List.length_take]; omega) (by omega) hB3
        clear main
        generalize l.take 3000 = m at *
        have L := Lib.hid L; have S := Lib.hid S; have T := Lib.hid T; have I := Lib.hid I
        go_wp2_with fail
        refine (L.out _ hB3).mono ?_
        rintro e w2 ⟨g, cap, rfl, hg, hL, hb2⟩
        have hB2 := (Row.below hB3 hb2).more hb2.size
        go_wp2_with fail
        refine (S.out _ _ _ _ (hL.bytes hL.lt)).mono ?_
        rintro e w' ⟨rfl, rfl⟩
        go_wp2_with fail
        refine (T.out _ _ _ _ hB2).mono ?_
        rintro e w' ⟨rfl, rfl⟩
        go_wp2_with fail
        refine (I.out _ _ _ _ hL hB2).mono ?_
        rintro e w3 ⟨rfl, nq, rfl⟩
        go_wp2
        go_roundw
        case rel => exact ⟨k + 1, by omega, by go_num, below_drewN (hbel.trans (hb2.mono hbel.size)) _⟩
        case measure => simp [intOf]; omega
      · obtain ⟨L, S, T, I⟩ := main l _ rfl (by omega) hB
        clear main
        have L := Lib.hid L; have S := Lib.hid S; have T := Lib.hid T; have I := Lib.hid I
        go_wp2_with fail
        refine (L.out _ hB).mono ?_
        rintro e w2 ⟨g, cap, rfl, hg, hL, hb2⟩
        have hB2 := (Row.below hB hb2).more hb2.size
        go_wp2_with fail
        refine (S.out _ _ _ _ (hL.bytes hL.lt)).mono ?_
        rintro e w' ⟨rfl, rfl⟩
        go_wp2_with fail
        refine (T.out _ _ _ _ hB2).mono ?_
        rintro e w' ⟨rfl, rfl⟩
        go_wp2_with fail
        refine (I.out _ _ _ _ hL hB2).mono ?_
        rintro e w3 ⟨rfl, nq, rfl⟩
        go_wp2
        go_roundw
        case rel => exact ⟨k + 1, by omega, by go_num, below_drewN (hbel.trans (hb2.mono hbel.size)) _⟩
        case measure => simp [intOf]; omega
    · have hs := sum_a
      rcases Nat.lt_or_ge k ls.length with h1 | h1
      · have h2 : ¬ k < 40 := by omega
        clear hlt
        go_wp2_with fail
        refine (sumC _ 1 _ [97] _ (bytes_a wr _ rfl) (by simp [maxLen])).mono ?_
        rintro e w' ⟨rfl, rfl⟩
        go_wp2
        go_ret
        exact ⟨rfl, hbel.alloc hbel.size _⟩
      · have h2 : ¬ k < ls.length := by omega
        clear hlt
        go_wp2_with fail
        refine (sumC _ 1 _ [97] _ (bytes_a wr _ rfl) (by simp [maxLen])).mono ?_
        rintro e w' ⟨rfl, rfl⟩
        go_wp2
        go_ret
        exact ⟨rfl, hbel.alloc hbel.size _⟩
end Go.Proofs.Ytbcohjddnelldaa.HashS
