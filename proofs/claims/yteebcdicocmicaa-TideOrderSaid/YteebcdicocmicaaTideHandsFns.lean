/-
  The walks of the statement's without and handed.
-/
import Derived.Test.YteebcdicocmicaaTideHandles
import Derived.Test.YteebcdicocmicaaTideHandsPlain
namespace Go.Proofs.Yteebcdicocmicaa.Tide
open Go.RowKit Base MapI
set_option linter.unusedVariables false

theorem outL_step (l : List Nat) (k i : Nat) (hi : i < l.length) : outL (l.take (i + 1)) k = outL (l.take i) k ++ (if l[i] = k then [] else [l[i]]) := by
  rw [List.take_succ_eq_append_getElem hi]
  unfold outL
  rw [List.filter_append]
  congr 1
  by_cases h : l[i] = k <;> simp [h]
theorem giveL_step (l : List Nat) (a b i : Nat) (hi : i < l.length) : giveL (l.take (i + 1)) a b = giveL (l.take i) a b ++ (if l[i] = a then [b] else if l[i] = b then [] else [l[i]]) := by
  rw [List.take_succ_eq_append_getElem hi]
  unfold giveL
  rw [List.filterMap_append]
  congr 1
  by_cases h : l[i] = a
  · simp [h]
  · by_cases h2 : l[i] = b
    · simp [h2]; split <;> simp [*]
    · simp [h, h2]
theorem outL_len (l : List Nat) (k : Nat) : (outL l k).length ≤ l.length := List.length_filter_le _ _
theorem giveL_len (l : List Nat) (a b : Nat) : (giveL l a b).length ≤ l.length := List.length_filterMap_le _ _
theorem nums_append (l m : List Nat) : nums (l ++ m) = nums l ++ nums m := by simp [nums]
theorem rd_one (wr : World) (x : Nat) : Reads (wr.alloc (.cells #[.int .u64 (x : Int)] 69)) (wr.heap.size + 1) 1 (some ⟨wr.heap.size, 0, none⟩) 1 (nums [x]) := by
  refine ⟨rfl, fun _ => ⟨_, rfl, by simp, fun j u hu => ?_⟩⟩
  have hb := (Blk.new wr 69 #[.int .u64 (x : Int)]).cell j
  rw [add_explicit, Nat.zero_add, hb, ← hu]
  simp [nums]
theorem one_one (x : Nat) : ∀ u ∈ nums [x], u.oneCell' = true := by intro u hu; simp [nums] at hu; subst hu; rfl

set_option maxRecDepth 100000 in
set_option maxHeartbeats 1600000 in
theorem withoutC (w : World) (v : Value) (l : List Nat) (k : Nat) (h : HL w v l) (hl : l.length < 100000) :
    Calls Try.prog 37 #[v, .int .u64 (k : Int)] w fun e w' => ∃ v', e = .returned v' ∧
      w'.ownsRow w.heap.size 69 1 v' (outL l k).length (nums (outL l k)) ∧ Below w.heap.size w w' := by
  obtain ⟨A, c, rfl, h1, h2, h3⟩ := h
  unfold maxLen at h2
  have H3 := Lib.hid h3
  clear h3
  go_enter Try.func37, Try.ntmps37
  go_wp2_with fail
  go_loopw [5, 6] (fun s5 s6 wr => ∃ i : Nat, i ≤ l.length ∧ s6 = .int .i64 (i : Int) ∧ wr.ownsRow w.heap.size 69 1 s5 (outL (l.take i) k).length (nums (outL (l.take i) k)) ∧ Below w.heap.size w wr) (fun _ s6 _ => l.length - (intOf s6).toNat)
  case atStart => exact ⟨0, Nat.zero_le _, rfl, World.ownsRow_nil _ _ _ _, Below.refl _ _⟩
  case round =>
    obtain ⟨i, hi, rfl, own, hb⟩ := hrel
    by_cases hlt : i < l.length
    · obtain ⟨b, rfl, hbl, hc⟩ := H3.out i l[i] (List.getElem?_eq_getElem hlt)
      replace hc := (hb.cell (p := ⟨b, i, none⟩) hbl).trans hc
      have hst := outL_step l k i hlt
      have hol := Nat.le_trans (outL_len (l.take i) k) (List.length_take_le _ _)
      have hB := hb.size
      have q1 : (0 : Int) ≤ i := by omega
      have q2 : (i : Int) < l.length := by omega
      generalize l[i] = x at *
      generalize outL (l.take i) k = u at *
      replace hb := Lib.hid hb
      by_cases hxk : x = k
      · subst hxk
        rw [if_pos rfl, List.append_nil] at hst
        replace own := Lib.hid own
        replace hst := Lib.hid hst
        go_wp2
        go_roundw
        case rel => exact ⟨i + 1, by omega, by go_num, by rw [hst.out]; exact own.out, hb.out⟩
        case measure => simp [intOf]; omega
      · rw [if_neg hxk] at hst
        have e1 : ((x : Int) == (k : Int)) = false := beq_eq_false_iff_ne.2 (by omega)
        have rd := Lib.hid (rd_one wr x)
        have one := Lib.hid (one_one x)
        replace own := Lib.hid own
        replace hst := Lib.hid hst
        have hxk' : ¬ (x : Int) = (k : Int) := by omega
        go_wp2_with (at_builtin; refine wpList_app rfl _ _ _ rfl eiH w.heap.size _ u.length (nums u) rfl (own.out.alloc _) (wr.heap.size + 1) (some ⟨wr.heap.size, 0, none⟩) 1 1 (nums [x]) rfl rd.out one.out ?a1 ?a2 ?a3 ?_)
        case a1 => unfold maxLen; omega
        case a2 => omega
        case a3 => first | omega | (simp; omega)
        intro v3 w3 own3 g3 at3
        have b3 := Lib.hid ((hb.out.alloc hB _).grown g3 (by simp; omega) (fun x hx => (own.out.lt x hx).1))
        rw [← nums_append, ← hst.out] at own3
        have hlen : u.length + 1 = (outL (l.take (i + 1)) k).length := by rw [hst.out]; simp
        rw [hlen] at own3
        replace own3 := Lib.hid own3
        clear g3 at3 own rd one
        go_wp2
        go_roundw
        case rel => exact ⟨i + 1, by omega, by go_num, own3.out, b3.out⟩
        case measure => simp [intOf]; omega
    · obtain rfl : i = l.length := by omega
      rw [List.take_length] at own
      replace own := Lib.hid own
      replace hb := Lib.hid hb
      have qd : decide ((l.length : Int) < l.length) = false := by simp
      go_wp2
      go_ret
      exact ⟨_, rfl, own.out, hb.out⟩

set_option maxRecDepth 100000 in
set_option maxHeartbeats 1600000 in
theorem handedC (w : World) (v : Value) (l : List Nat) (a b : Nat) (h : HL w v l) (hl : l.length < 100000) :
    Calls Try.prog 39 #[v, .int .u64 (a : Int), .int .u64 (b : Int)] w fun e w' => ∃ v', e = .returned v' ∧
      w'.ownsRow w.heap.size 69 1 v' (giveL l a b).length (nums (giveL l a b)) ∧ Below w.heap.size w w' := by
  obtain ⟨A, c, rfl, h1, h2, h3⟩ := h
  unfold maxLen at h2
  have H3 := Lib.hid h3
  clear h3
  go_enter Try.func39, Try.ntmps39
  go_wp2_with fail
  go_loopw [7, 8] (fun s5 s6 wr => ∃ i : Nat, i ≤ l.length ∧ s6 = .int .i64 (i : Int) ∧ wr.ownsRow w.heap.size 69 1 s5 (giveL (l.take i) a b).length (nums (giveL (l.take i) a b)) ∧ Below w.heap.size w wr) (fun _ s6 _ => l.length - (intOf s6).toNat)
  case atStart => exact ⟨0, Nat.zero_le _, rfl, World.ownsRow_nil _ _ _ _, Below.refl _ _⟩
  case round =>
    obtain ⟨i, hi, rfl, own, hb⟩ := hrel
    by_cases hlt : i < l.length
    · obtain ⟨bb, rfl, hbl, hc⟩ := H3.out i l[i] (List.getElem?_eq_getElem hlt)
      replace hc := (hb.cell (p := ⟨bb, i, none⟩) hbl).trans hc
      have hst := giveL_step l a b i hlt
      have hol := Nat.le_trans (giveL_len (l.take i) a b) (List.length_take_le _ _)
      have hB := hb.size
      have q1 : (0 : Int) ≤ i := by omega
      have q2 : (i : Int) < l.length := by omega
      generalize l[i] = x at *
      generalize giveL (l.take i) a b = u at *
      replace hb := Lib.hid hb
      have put : ∀ (y : Nat), giveL (l.take (i + 1)) a b = u ++ [y] → ∀ (v3 : Value) (w3 : World), w3.ownsRow w.heap.size 69 1 v3 (u.length + 1) (nums u ++ nums [y]) → w3.ownsRow w.heap.size 69 1 v3 (giveL (l.take (i + 1)) a b).length (nums (giveL (l.take (i + 1)) a b)) := by
        intro y hy v3 w3 o
        rw [hy, nums_append, List.length_append]
        exact o
      by_cases hxa : x = a
      · subst hxa
        rw [if_pos rfl] at hst
        have rd := Lib.hid (rd_one wr b)
        have one := Lib.hid (one_one b)
        replace put := Lib.hid (put b hst)
        replace own := Lib.hid own
        clear hst
        go_wp2_with (at_builtin; refine wpList_app rfl _ _ _ rfl eiH w.heap.size _ u.length (nums u) rfl (own.out.alloc _) (wr.heap.size + 1) (some ⟨wr.heap.size, 0, none⟩) 1 1 (nums [b]) rfl rd.out one.out ?a1 ?a2 ?a3 ?_)
        case a1 => unfold maxLen; omega
        case a2 => omega
        case a3 => first | omega | (simp; omega)
        intro v3 w3 own3 g3 at3
        have b3 := Lib.hid ((hb.out.alloc hB _).grown g3 (by simp; omega) (fun x hx => (own.out.lt x hx).1))
        replace own3 := Lib.hid (put.out v3 w3 own3)
        clear g3 at3 own rd one put
        go_wp2
        go_roundw
        case rel => exact ⟨i + 1, by omega, by go_num, own3.out, b3.out⟩
        case measure => simp [intOf]; omega
      · rw [if_neg hxa] at hst
        have e1 : ((x : Int) == (a : Int)) = false := beq_eq_false_iff_ne.2 (by omega)
        have hxa' : ¬ (x : Int) = (a : Int) := by omega
        by_cases hxb : x = b
        · subst hxb
          rw [if_pos rfl, List.append_nil] at hst
          replace own := Lib.hid own
          replace hst := Lib.hid hst
          clear put
          go_wp2
          go_roundw
          case rel => exact ⟨i + 1, by omega, by go_num, by rw [hst.out]; exact own.out, hb.out⟩
          case measure => simp [intOf]; omega
        · rw [if_neg hxb] at hst
          have e2 : ((x : Int) == (b : Int)) = false := beq_eq_false_iff_ne.2 (by omega)
          have hxb' : ¬ (x : Int) = (b : Int) := by omega
          have rd := Lib.hid (rd_one wr x)
          have one := Lib.hid (one_one x)
          replace put := Lib.hid (put x hst)
          replace own := Lib.hid own
          clear hst
          go_wp2_with (at_builtin; refine wpList_app rfl _ _ _ rfl eiH w.heap.size _ u.length (nums u) rfl (own.out.alloc _) (wr.heap.size + 1) (some ⟨wr.heap.size, 0, none⟩) 1 1 (nums [x]) rfl rd.out one.out ?a1 ?a2 ?a3 ?_)
          case a1 => unfold maxLen; omega
          case a2 => omega
          case a3 => first | omega | (simp; omega)
          intro v3 w3 own3 g3 at3
          have b3 := Lib.hid ((hb.out.alloc hB _).grown g3 (by simp; omega) (fun x hx => (own.out.lt x hx).1))
          replace own3 := Lib.hid (put.out v3 w3 own3)
          clear g3 at3 own rd one put
          go_wp2
          go_roundw
          case rel => exact ⟨i + 1, by omega, by go_num, own3.out, b3.out⟩
          case measure => simp [intOf]; omega
    · obtain rfl : i = l.length := by omega
      rw [List.take_length] at own
      replace own := Lib.hid own
      replace hb := Lib.hid hb
      have qd : decide ((l.length : Int) < l.length) = false := by simp
      go_wp2
      go_ret
      exact ⟨_, rfl, own.out, hb.out⟩
end Go.Proofs.Yteebcdicocmicaa.Tide
