/-
  Walk of the law HashMixes: for every list of turns it returns true, and nothing that was there is changed.
-/
import Derived.Test.YtbcohjddnelldaaHashRefWalks
import Derived.Test.YtbcohjddnelldaaHashMixWalks
namespace Go.Proofs.Ytbcohjddnelldaa.HashM
set_option linter.unusedVariables false
open Go.RowKit HashPlain Base HashW HashR

/-- The slice holds the turns, two cells each, all of them numbers of their kinds. -/
def Turns (w : World) (A : Option Addr) (l : List (Nat × Int)) : Prop := ∀ (k : Nat) (hk : k < l.length), ∃ b off, A = some ⟨b, off, none⟩ ∧ b < w.heap.size ∧
    w.cell? ⟨b, off + k * 2, none⟩ = some (.int .u64 ((l[k]).1 : Int)) ∧ w.cell? ⟨b, off + k * 2 + 1, none⟩ = some (.int .i64 (l[k]).2) ∧ (l[k]).1 < M64 ∧ -9223372036854775808 ≤ (l[k]).2 ∧ (l[k]).2 < 9223372036854775808

theorem mix1 : mixN 1 = 6238072747940578789 := by decide
theorem point1 : pointN 1 = 1452414493 := by decide
theorem slot1 : slotN 1 2 = 1 := by decide

set_option maxRecDepth 100000 in
theorem lawC (A : Option Addr) (c : Nat) (l : List (Nat × Int)) (w : World) (hT : Turns w A l) (hl : l.length ≤ maxLen) :
    Calls Try.prog 5 #[.slice A l.length c] w fun e w' => e = .returned (.bool true) ∧ Below w.heap.size w w' := by
  unfold maxLen at hl
  go_enter Try.func5, Try.ntmps5
  go_wp2
  go_loopw [3] (fun i wr => ∃ k : Nat, k ≤ l.length ∧ i = .int .i64 k ∧ Below w.heap.size w wr) (fun i _ => l.length - (intOf i).toNat)
  case atStart => exact ⟨0, Nat.zero_le _, rfl, Below.refl _ _⟩
  case round =>
    obtain ⟨k, hk, rfl, hbel⟩ := hrel
    by_cases hlt : k < l.length ∧ k < 100
    · obtain ⟨hk1, hk2⟩ := hlt
      obtain ⟨b, off, rfl, hb, c1, c2, f1, f2⟩ := hT k hk1
      replace c1 := (hbel.cell (p := ⟨b, off + k * 2, none⟩) hb).trans c1
      replace c2 := (hbel.cell (p := ⟨b, off + k * 2 + 1, none⟩) hb).trans c2
      generalize l[k].1 = h at *
      generalize l[k].2 = n at *
      go_wp2
      go_quiet ((first
        | (go_at_call 12; exact quiet_left (mixC h f1 _))
        | (go_at_call 13; exact quiet_left (refMixC h f1 _))
        | (go_at_call 14; exact quiet_left (slotC h n f1 f2 _))
        | (go_at_call 15; exact quiet_left (refSlotC h n f1 f2 _))
        | (go_at_call 16; exact quiet_left (pointC h f1 _))
        | (go_at_call 17; exact quiet_left (refPointC h f1 _))))
      go_wp2
      go_roundw
      case rel => exact ⟨k + 1, by omega, by go_num, below_drewN (hbel.alloc hbel.size _) _⟩
      case measure => simp [intOf]; omega
    · have e1 := mix1
      have e2 := point1
      have e3 := slot1
      rcases Nat.lt_or_ge k l.length with h1 | h1
      · have h2 : ¬ k < 100 := by omega
        clear hlt
        go_wp2_with (first
          | (go_at_call 12; refine (mixC 1 (by decide) _).mono ?_; rintro e w' ⟨rfl, rfl⟩)
          | (go_at_call 16; refine (pointC 1 (by decide) _).mono ?_; rintro e w' ⟨rfl, rfl⟩)
          | (go_at_call 14; refine (slotC 1 2 (by decide) (by decide) _).mono ?_; rintro e w' ⟨rfl, rfl⟩))
        go_ret
        exact ⟨rfl, hbel⟩
      · have h2 : ¬ k < l.length := by omega
        clear hlt
        go_wp2_with (first
          | (go_at_call 12; refine (mixC 1 (by decide) _).mono ?_; rintro e w' ⟨rfl, rfl⟩)
          | (go_at_call 16; refine (pointC 1 (by decide) _).mono ?_; rintro e w' ⟨rfl, rfl⟩)
          | (go_at_call 14; refine (slotC 1 2 (by decide) (by decide) _).mono ?_; rintro e w' ⟨rfl, rfl⟩))
        go_ret
        exact ⟨rfl, hbel⟩
end Go.Proofs.Ytbcohjddnelldaa.HashM
