/-
  PROVED: HashPointsCardSaid: for every list of names the law HashPoints returns true; the argument reads as it did, where the tables of internal/strconv and math/bits read as the program's text lays them.
-/
import Derived.Test.YtbcohjddnelldaaDoorDoorLaid
import Derived.Test.YtbcohjddnelldaaDoorHashPointsLaw
namespace Go.Proofs.YtbcohjddnelldaaDoor.hashPoints
open Go.ChangeShapes Go.WideShapes Go.ChangeAt Go.RowKit LawFrame Door
set_option linter.unusedVariables false

set_option maxRecDepth 100000 in
theorem contract {H : Type} {enc : TypeId × Value → H} (W : World) (args : Array Value) (ds : List (DataW H)) (p : List MemPlace)
    (hval : ∀ (j : Nat) t v, Tryd.f3.params[j]? = some t → args[j]? = some v → Value.okWide Tryd.prog W .any 0 t v)
    (hA : DataW.TrodAll enc Tryd.prog W 0 (fun _ => true) true Tryd.f3.params.toList args.toList ds p) (hlt : ∀ x ∈ p, x.block < W.heap.size) (ht : Pts.Tab W) :
    Calls Tryd.prog 3 args W fun e W' => e = .returned (.bool true) ∧ Below W.heap.size W W' := by
  rw [Tryd.params3] at hA hval
  obtain ⟨v0, d0, rfl, rfl, h0⟩ := trodAll_one hA
  obtain ⟨a0, len, cap, rfl⟩ := okWide_slice Tryd.underlying22 (hval 0 22 v0 rfl rfl)
  obtain ⟨fuel, hf⟩ := h0
  obtain ⟨hl, hm, hi⟩ := fields_at Tryd.underlying22 Tryd.underlying25 (by kernel_rfl) (by kernel_rfl) (by decide) hf
  obtain ⟨l, hlen, hP⟩ := list_of (fun k (t : Pts.Nm) => ∃ b off, a0 = some (⟨b, off, none⟩ : Addr) ∧ b < W.heap.size ∧ t.t.length ≤ maxLen ∧ (-9223372036854775808 ≤ t.n ∧ t.n < 9223372036854775808) ∧
      W.cell? ⟨b, off + k * 2, none⟩ = some (.string ⟨t.t.toArray⟩) ∧ W.cell? ⟨b, off + k * 2 + 1, none⟩ = some (.int .i64 t.n)) len (by
      intro k hk
      obtain ⟨b, off, n, rfl, hb, hfi⟩ := hi k hk
      obtain ⟨v0, y0, hc0, ht0⟩ := hfi 0 _ rfl
      obtain ⟨v1, y1, hc1, ht1⟩ := hfi 1 _ rfl
      obtain ⟨s, e0, -, hs⟩ := DataW.trod_string Tryd.underlying9 ht0
      obtain ⟨x1, e1, -, wx1⟩ := DataW.trod_int Tryd.underlying3 ht1
      simp only [List.cons.injEq, and_true] at e0 e1
      subst e0 e1
      obtain ⟨⟨l⟩⟩ := s
      exact ⟨⟨l, x1⟩, b, off, rfl, hb, by simpa [ByteArray.size] using hs, i64_bd wx1, hc0, hc1⟩)
  subst hlen
  exact Pts.pointsLawC W ht a0 cap l hP (by omega)

set_option maxRecDepth 100000 in
theorem lifted (os : Os) (started : os.Started) (H : Type) (enc : TypeId × Value → H) :
    ReturnsInHanded {} Tryd.checked os 3 .any (fun w args => (Rows.hashPointsSpec.pre enc Tryd.prog Tryd.f3 [] false w args ∧ laidMetH Tryd.prog Rows.hashPointsRow.laid w) ∧ sizedMet enc Tryd.prog Tryd.f3 (OpenSpec.ofChange Rows.hashPointsSpec) false w args)
      (Rows.hashPointsSpec.post enc Tryd.prog Tryd.f3 false true false false) := by
  refine returnsInHanded_of_change_and (C := Tryd.checked) (X := fun w _ => laidMetH Tryd.prog Rows.hashPointsRow.laid w) (fun _ _ _ hh h => h.of_heap hh) own started (by kernel_rfl) Tryd.func3
    (ChangeSpec.witness_shaped (enc := enc) (C := Tryd.checked) (os := os) (X := fun w _ => laidMetH Tryd.prog Rows.hashPointsRow.laid w) false (World.doorLaid Tryd.prog 400 os) #[.slice none 0 0] 8 rfl (World.shaped_of_RefB (by kernel_rfl) (by kernel_rfl)) (by kernel_rfl) (by kernel_rfl) (by kernel_rfl) (door_met os _)) ?_
  intro W base args ds gs before hval hW _ _ hL _
  have hW' := hW
  obtain ⟨p, q, hA, hV, rfl, hfz, hnd⟩ := hW
  refine (contract W args ds p hval hA (fun x hx => hW'.lt x (List.mem_append_left _ hx)) (tab_of_laid hL)).mono fun e W' ⟨he, hb⟩ => ?_
  subst he
  exact ⟨_, rfl, post_of_law (tb := 4) (n := 1) laid (by kernel_rfl) rfl rfl Tryd.underlying4 rfl (fun ds h => match ds, h with | [_], _ => rfl) hW' hb⟩

theorem row_holds : Rows.HashPointsSaid :=
  OpenClaim.holds_of_wide 3 Tryd.f3 rfl rfl rfl rfl rfl rfl rfl ⟨rfl, rfl, rfl, rfl, rfl⟩ rfl rfl rfl rfl rfl (by kernel_rfl) Tryd.func3 (by kernel_rfl)
    (of_decide_eq_true (by kernel_rfl)) (by unfold Func.isWrapper; first | (rw [if_pos (by decide +kernel)]; kernel_rfl) | (rw [if_neg (by decide +kernel)]; exact ⟨rfl, rfl⟩))
    (fun os started H enc _ => lifted os started H enc)
theorem proved : Rows.HashPointsCardSaid :=
  Claim7.holds_tied_plain_at .later [] [.data, .data, .data] true (true, "706e484f92e141e39cca6556da7fc9022818bf57054788e41b92793bb31f2ec8") false
    row_holds (fun _ h => by cases h) (by kernel_rfl) (fun _ h => by cases h) hashPoints_row_tie rfl ⟨rfl, rfl⟩ (by kernel_rfl) rfl
    (fun f fn hf hfn => by
      obtain rfl : f = 3 := Option.some.inj ((show Tryd.prog.funcNamed "granary/granarylaw04.HashPoints" = some 3 by kernel_rfl).symm.trans hf) |>.symm
      obtain rfl : fn = Tryd.f3 := (Option.some.inj (Tryd.func3.symm.trans hfn)).symm
      exact ⟨by kernel_rfl, fun j t ht => by
        have hm : t ∈ Tryd.f3.params.toList := by simpa using Array.mem_of_getElem? ht
        have hall : (Tryd.f3.params.toList.all fun u => !Tryd.prog.wantsStandIn u) = true := by kernel_rfl
        exact show Tryd.prog.wantsStandIn t = false by simpa using List.all_eq_true.1 hall t hm⟩)
    (by kernel_rfl)
#print axioms proved
end Go.Proofs.YtbcohjddnelldaaDoor.hashPoints
