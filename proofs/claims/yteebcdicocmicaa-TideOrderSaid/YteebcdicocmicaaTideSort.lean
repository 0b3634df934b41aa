/-
  slices.SortFunc of a row of entries: the library's contract at this program's numbers.
-/
import Derived.Test.YteebcdicocmicaaTideMem
import Derived.Shelf.SlSortCmp.WholeK
import Derived.Shelf.SlSortCmp.NoneTotal
namespace Go.Proofs.Yteebcdicocmicaa.Tide
open Go.RowKit Base Go.Sort Go.Shelf
set_option linter.unusedVariables false

def sortRen : Go.Shelf.Ren := ⟨fun | 6 => 46 | 15 => 65 | 14 => 64 | 28 => 89 | 29 => 90 | 20 => 81 | 21 => 82 | 22 => 83 | 23 => 84 | 24 => 85 | 25 => 86 | 26 => 87 | 27 => 88 | 46 => 94 | 47 => 95 | 48 => 96 | 49 => 97 | 50 => 98 | 57 => 99 | n => n, fun | 22 => 114 | 24 => 118 | 25 => 122 | 3 => 3 | 39 => 136 | 0 => 0 | 53 => 177 | 55 => 23 | 4 => 4 | 46 => 171 | 45 => 170 | 50 => 123 | 5 => 5 | 9 => 9 | 66 => 180 | 70 => 183 | 76 => 185 | 77 => 186 | n => n, fun | n => n⟩
theorem sortLay : Go.Proofs.SlLaysF0.n6 Try.prog sortRen := {
  mixed := by kernel_rfl,
  f6 := ⟨Try.f46.name, by decide, Try.func46.trans (congrArg some (by kernel_rfl))⟩,
  f14 := ⟨Try.f64.name, by decide, Try.func64.trans (congrArg some (by kernel_rfl))⟩,
  f15 := Try.func65.trans (congrArg some (by kernel_rfl)),
  f20 := ⟨Try.f81.name, by decide, Try.func81.trans (congrArg some (by kernel_rfl))⟩,
  f21 := ⟨Try.f82.name, by decide, Try.func82.trans (congrArg some (by kernel_rfl))⟩,
  f22 := ⟨Try.f83.name, by decide, Try.func83.trans (congrArg some (by kernel_rfl))⟩,
  f23 := ⟨Try.f84.name, by decide, Try.func84.trans (congrArg some (by kernel_rfl))⟩,
  f24 := ⟨Try.f85.name, by decide, Try.func85.trans (congrArg some (by kernel_rfl))⟩,
  f25 := ⟨Try.f86.name, by decide, Try.func86.trans (congrArg some (by kernel_rfl))⟩,
  f26 := ⟨Try.f87.name, by decide, Try.func87.trans (congrArg some (by kernel_rfl))⟩,
  f27 := ⟨Try.f88.name, by decide, Try.func88.trans (congrArg some (by kernel_rfl))⟩,
  f28 := Try.func89.trans (congrArg some (by kernel_rfl)),
  f29 := Try.func90.trans (congrArg some (by kernel_rfl)),
  f46 := ⟨Try.f94.name, by decide, Try.func94.trans (congrArg some (by kernel_rfl))⟩,
  f47 := Try.func95.trans (congrArg some (by kernel_rfl)),
  f48 := Try.func96.trans (congrArg some (by kernel_rfl)),
  f49 := ⟨Try.f97.name, by decide, Try.func97.trans (congrArg some (by kernel_rfl))⟩,
  f50 := ⟨Try.f98.name, by decide, Try.func98.trans (congrArg some (by kernel_rfl))⟩,
  f57 := ⟨Try.f99.name, by decide, Try.func99.trans (congrArg some (by kernel_rfl))⟩,
  t0 := Try.underlying0,
  a0 := Try.isAgg0,
  z0 := Try.sizeOf0,
  v0 := Try.zeroValue0,
  t3 := Try.underlying3,
  a3 := Try.isAgg3,
  z3 := Try.sizeOf3,
  v3 := Try.zeroValue3,
  t4 := Try.underlying4,
  a4 := Try.isAgg4,
  z4 := Try.sizeOf4,
  v4 := Try.zeroValue4,
  t5 := Try.underlying5,
  a5 := Try.isAgg5,
  z5 := Try.sizeOf5,
  v5 := Try.zeroValue5,
  t9 := Try.underlying9,
  a9 := Try.isAgg9,
  z9 := Try.sizeOf9,
  v9 := Try.zeroValue9,
  t22 := Try.underlying114,
  a22 := Try.isAgg114,
  z22 := Try.sizeOf114,
  v22 := Try.zeroValue114,
  t25 := Try.underlying122,
  a25 := Try.isAgg122,
  z25 := Try.sizeOf122,
  v25 := Try.zeroValue122,
  t39 := Try.underlying136,
  a39 := Try.isAgg136,
  z39 := Try.sizeOf136,
  v39 := Try.zeroValue136,
  t45 := Try.underlying170,
  a45 := Try.isAgg170,
  z45 := Try.sizeOf170,
  v45 := Try.zeroValue170,
  t46 := Try.underlying171,
  a46 := Try.isAgg171,
  z46 := Try.sizeOf171,
  v46 := Try.zeroValue171,
  t50 := Try.underlying123,
  a50 := Try.isAgg123,
  z50 := Try.sizeOf123,
  v50 := Try.zeroValue123,
  t53 := Try.underlying177,
  a53 := Try.isAgg177,
  z53 := Try.sizeOf177,
  v53 := Try.zeroValue177,
  t55 := Try.underlying23,
  a55 := Try.isAgg23,
  z55 := Try.sizeOf23,
  v55 := Try.zeroValue23,
  t66 := Try.underlying180,
  a66 := Try.isAgg180,
  z66 := Try.sizeOf180,
  v66 := Try.zeroValue180,
  t70 := Try.underlying183,
  a70 := Try.isAgg183,
  z70 := Try.sizeOf183,
  v70 := Try.zeroValue183,
  t76 := Try.underlying185,
  a76 := Try.isAgg185,
  z76 := Try.sizeOf185,
  v76 := Try.zeroValue185,
  t77 := Try.underlying186,
  a77 := Try.isAgg186,
  z77 := Try.sizeOf186,
  v77 := Try.zeroValue186 }

instance : Inhabited E := ⟨dE⟩
theorem gE_bang (d : Array E) (i : Nat) (h : i < d.size) : d[i]! = gE d.toList i := by
  rw [getElem!_pos d i h, gE_eq (by simpa using h)]
  simp
theorem flat_bang (L : List E) (t : Nat) (h : t < L.length * 3) : (flat L)[t]? = some ((eC (gE L (t / 3)))[t % 3]!) := by
  have hq : t / 3 < L.length := by omega
  obtain ⟨a0, a1, a2⟩ := flat_at L (t / 3) hq
  have h3 : t % 3 = 0 ∨ t % 3 = 1 ∨ t % 3 = 2 := by omega
  have e := Nat.div_add_mod t 3
  rcases h3 with h0 | h0 | h0
  · rw [h0, show t = t / 3 * 3 by omega]
    rw [show t / 3 * 3 / 3 = t / 3 by omega]
    exact a0
  · rw [h0]
    have : (flat L)[t / 3 * 3 + 1]? = (flat L)[t]? := by congr 1; omega
    rw [← this]
    exact a1
  · rw [h0]
    have : (flat L)[t / 3 * 3 + 2]? = (flat L)[t]? := by congr 1; omega
    rw [← this]
    exact a2
theorem flatK_bang (L : List E) (t : Nat) (h : t < L.length * 3) : (flat L)[t]? = some (flatK eC 3 L.toArray)[t]! := by
  rw [get_flatK _ _ _ _ (by simpa using h), flat_bang L t h, gE_bang _ _ (by simp; omega)]
theorem HR.holds {w : World} {b c : Nat} {L : List E} (h : HR w b c L) : HoldsK eC 3 w b 0 L.toArray := by
  intro j hj
  have hj' : j < L.length * 3 := by simpa using hj
  obtain ⟨cur, h1, h2, h3, h4, h5⟩ := id h
  have e : w.cell? ⟨b, j, none⟩ = (flat L)[j]? := by
    rw [cell_of_row w b j cur 118 (0, 0) h1, ← h5, List.getElem?_take, if_pos hj']
    simp
  rw [Nat.zero_add, e, flatK_bang L j hj']
  exact ⟨rfl, h.frozen j⟩
theorem sorted_hr {w : World} {b c n : Nat} {L : List E} (h : HR w b c L) (d : Array E) (os : Array Obj) (hd : d.size = L.length) :
    HR (sortWorldK eC 3 w b 0 n d os) b c d.toList ∧ Only (· = b) w (sortWorldK eC 3 w b 0 n d os) := by
  obtain ⟨cur, h1, h2, h3, h4, h5⟩ := id h
  have hb := h.lt
  have hheap : ∀ k, k < w.heap.size → (sortWorldK eC 3 w b 0 n d os).heap[k]? = (mapBlock w b (putCells id 0 (flatK eC 3 d))).heap[k]? := fun k hk => by
    unfold sortWorldK
    exact heap_grow_old _ os (by simpa [putRowK, putRow, mapBlock, ahead] using hk)
  constructor
  · refine ⟨putCells id 0 (flatK eC 3 d) cur, ?_, by simpa [hd] using h2, h3, by simpa [putCells] using h4, ?_⟩
    · rw [hheap b hb]
      simp [mapBlock, Array.getElem?_modify, onCells, h1]
    · apply List.ext_getElem?
      intro k
      rw [List.getElem?_take]
      split
      · rename_i hk
        have hk2 : k < d.size * 3 := by simpa using hk
        have hkc : k < cur.size := by rw [h4]; omega
        have e := flatK_bang d.toList k (by simpa using hk2)
        rw [e]
        simp [putCells, hkc, hk2]
      · rename_i hk
        rw [List.getElem?_eq_none (by rw [flat_len]; omega)]
  · refine ⟨rfl, rfl, rfl, by simp [sortWorldK, putRowK, putRow, mapBlock, ahead, grow], fun k hk hs => ?_⟩
    rw [hheap k hk]
    simp [mapBlock, Array.getElem?_modify, show ¬ b = k from fun e => hs e.symm]
theorem ltOf_ord (a b : E) : ltOf ord a b = decide (lt a b) := by
  unfold ltOf
  have := ord_neg a b
  by_cases h : lt a b
  · simp [h, this]
  · simp only [h, decide_false, decide_eq_false_iff_not]; rw [this]; exact h
theorem swoOrd : SWO (ltOf ord) where
  irrefl x := by rw [ltOf_ord]; simpa using lt_irrefl x
  trans x y z h1 h2 := by rw [ltOf_ord] at *; simp only [decide_eq_true_eq] at *; exact lt_trans h1 h2
  ntrans x y z h1 h2 := by rw [ltOf_ord] at *; simp only [decide_eq_false_iff_not] at *; exact le_trans h2 h1

theorem sortC (w : World) (b c : Nat) (L : List E) (h : HR w b c L) (hL : L.length < 1073741824) :
    Calls Try.prog 46 #[.slice (some ⟨b, 0, none⟩) L.length c, .func (.func 47) #[] #[]] w fun e w' =>
      e = .returned (.tuple #[]) ∧ ∃ L', L'.Perm L ∧ L'.Pairwise (fun x y => ¬ lt y x) ∧ HR w' b c L' ∧ Only (· = b) w w' := by
  have eg : ∀ args w, (callFunc 47 args).run Try.prog w = .ok (.enter 47 args) w := enters_of Try.func47 (by kernel_rfl) rfl
  have hcmp : CmpLays Try.prog 47 #[] eC 3 ord b 0 L.toArray.size w := fun m os dk hdk x y => orderC x y _
  have hcon := AnyQ.slices_SortFunc sortLay 3 Try.isAgg118 Try.sizeOf118 eC (fun _ => rfl) (fun x v hv => by simp [eC] at hv; rcases hv with rfl | rfl | rfl <;> rfl) ord swoOrd 47 #[] b 0 c L.toArray w eg hcmp h.holds h.lt (by simp; omega)
  rw [show L.toArray.size = L.length by simp] at hcon
  refine Calls.mono hcon fun e w' ⟨he, d', n, os, hp, hs, hw⟩ => ⟨he, d'.toList, ?_, ?_, ?_⟩
  · have h1 : d'.size = L.length := by have := hp.1; simpa using this
    have h2 := hp.2.2
    have e1 : d'.extract 0 L.length = d' := by rw [← h1, Array.extract_size]
    have e2 : L.toArray.extract 0 L.length = L.toArray := by
      have : L.toArray.size = L.length := by simp
      rw [← this, Array.extract_size]
    rw [e1, e2] at h2
    simpa using h2
  · have h1 : d'.size = L.length := by have := hp.1; simpa using this
    rw [List.pairwise_iff_getElem]
    intro i j hi hj hij
    simp only [Array.length_toList] at hi hj
    have := hs i j (Nat.zero_le _) hij (by omega)
    rw [ltOf_ord, getElem!_pos d' i hi, getElem!_pos d' j hj] at this
    simpa using this
  · have h1 : d'.size = L.length := by have := hp.1; simpa using this
    rw [hw]
    exact sorted_hr h d' os h1
theorem sortAny (w : World) (base : Nat) (v : Value) (L : List E) (h : w.ownsRow base 118 3 v L.length (flat L)) (hL : L.length < 1073741824) :
    Calls Try.prog 46 #[v, .func (.func 47) #[] #[]] w fun e w' =>
      e = .returned (.tuple #[]) ∧ ∃ L', L'.Perm L ∧ L'.Pairwise (fun x y => ¬ lt y x) ∧ w'.ownsRow base 118 3 v L'.length (flat L') ∧ Only (fun k => v.ownBlock = some k) w w' := by
  rcases Nat.eq_zero_or_pos L.length with h0 | h0
  · obtain rfl : L = [] := List.eq_nil_of_length_eq_zero h0
    have hA : ∃ A c, v = .slice A 0 c := by
      rcases h.2 with ⟨rfl, _⟩ | ⟨g, cap, cur, rfl, _⟩
      · exact ⟨none, 0, rfl⟩
      · exact ⟨_, _, rfl⟩
    obtain ⟨A, c, rfl⟩ := hA
    exact (AnyF.slices_SortFunc_none sortLay A c _ w).mono fun e w' ⟨he, hw⟩ => ⟨he, [], List.Perm.refl _, List.Pairwise.nil, by rw [hw]; exact h, by rw [hw]; exact Only.refl _ _⟩
  · obtain ⟨b, c, rfl, hb, hr⟩ := HR.of_own h h0
    refine (sortC w b c L hr hL).mono fun e w' ⟨he, L', hp, hs, hr', ho⟩ => ⟨he, L', hp, hs, ?_, ho.mono (fun x _ hx => by subst hx; rfl)⟩
    have := hr'.own hb
    rw [hp.length_eq] at this ⊢
    exact this
end Go.Proofs.Yteebcdicocmicaa.Tide
