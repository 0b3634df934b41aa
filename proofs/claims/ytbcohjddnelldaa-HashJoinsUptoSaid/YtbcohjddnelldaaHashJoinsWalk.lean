/-
  Walk of the law HashJoins: for every two rows of bytes (together at most 2^20), every place and every turn it returns true, and nothing that was there is changed.
-/
import Derived.Test.YtbcohjddnelldaaHashJoinPlain
import Derived.Test.YtbcohjddnelldaaBookLend
import Derived.Deep.RegionHeld3
import Derived.StillTailTactics
namespace Go.Proofs.Ytbcohjddnelldaa.HashJ
open Go.RowKit HashPlain Base HashW Book
set_option linter.unusedVariables false

theorem zeroB (W : World) : Bytes (W.alloc (.cells #[.int .u8 0] 5)) (W.heap.size + 1) (some ⟨W.heap.size, 0, none⟩) [0] := by
  intro _
  refine ⟨_, _, rfl, by omega, fun j v hv => ?_⟩
  match j, hv with
  | 0, hv =>
    simp at hv; subst hv
    rw [Nat.zero_add, cell_of_row (W.alloc _) W.heap.size 0 #[.int .u8 0] 5 (0, 0) (heap_alloc_new W _)]
    rfl

set_option maxRecDepth 100000 in
theorem lawC (A B : Option Addr) (ca cb : Nat) (a b : List UInt8) (at_ : Int) (by_ : UInt8) (w : World) (ha : Bytes w w.heap.size A a) (hb : Bytes w w.heap.size B b) (hab : a.length + b.length ≤ 1048576)
    (hat : -9223372036854775808 ≤ at_ ∧ at_ < 9223372036854775808) :
    Calls Try.prog 4 #[.agg #[.slice A a.length ca, .slice B b.length cb, .int .i64 at_, .int .u8 (by_.toNat : Int)]] w fun e w' => e = .returned (.bool true) ∧ Below w.heap.size w w' := by
  have ra := ha.reads
  have rb := hb.reads
  obtain ⟨i0, hi0, hz0, hz1, hz2⟩ := eiBytes.info
  have c0 : (w.alloc (.cells #[.slice A a.length ca, .slice B b.length cb, .int .i64 at_, .int .u8 (by_.toNat : Int)] 30)).cell? ⟨w.heap.size, 0, none⟩ = some (.slice A a.length ca) := World.cell?_alloc_new _ _ _ _
  have c1 : (w.alloc (.cells #[.slice A a.length ca, .slice B b.length cb, .int .i64 at_, .int .u8 (by_.toNat : Int)] 30)).cell? ⟨w.heap.size, 1, none⟩ = some (.slice B b.length cb) := World.cell?_alloc_new _ _ _ _
  have c2 : (w.alloc (.cells #[.slice A a.length ca, .slice B b.length cb, .int .i64 at_, .int .u8 (by_.toNat : Int)] 30)).cell? ⟨w.heap.size, 2, none⟩ = some (.int .i64 at_) := World.cell?_alloc_new _ _ _ _
  have c3 : (w.alloc (.cells #[.slice A a.length ca, .slice B b.length cb, .int .i64 at_, .int .u8 (by_.toNat : Int)] 30)).cell? ⟨w.heap.size, 3, none⟩ = some (.int .u8 (by_.toNat : Int)) := World.cell?_alloc_new _ _ _ _
  have hsz : (w.alloc (.cells #[.slice A a.length ca, .slice B b.length cb, .int .i64 at_, .int .u8 (by_.toNat : Int)] 30)).heap.size = w.heap.size + 1 := World.size_alloc _ _
  have hbel : Below w.heap.size w (w.alloc (.cells #[.slice A a.length ca, .slice B b.length cb, .int .i64 at_, .int .u8 (by_.toNat : Int)] 30)) := (Below.refl _ _).alloc (Nat.le_refl _) _
  go_enter Try.func4, Try.ntmps4
  go_wp2_with fail
  generalize w.alloc (.cells #[.slice A a.length ca, .slice B b.length cb, .int .i64 at_, .int .u8 (by_.toNat : Int)] 30) = w0 at *
  have ra0 := (ra.below hbel)
  have rb0 := (rb.below hbel)
  have hsz' := Lib.hid hsz
  generalize hG : w.heap.size = G at *
  replace hG := Lib.hid hG
  have hlt0 : G < w0.heap.size := by omega
  clear hsz
  have hne0 : some G ≠ (Value.slice (some ⟨w0.heap.size, 0, none⟩) 0 0).ownBlock := by simp [Value.ownBlock]; omega
  have ra1 := (ra0.alloc (Nat.le_of_lt hlt0) (.cells #[] 5)).drew
  have rb1 := (rb0.alloc (Nat.le_of_lt hlt0) (.cells #[] 5)).drew
  have own0 : ((w0.alloc (.cells #[] 5)).drew).ownsRow G 5 1 (.slice (some ⟨w0.heap.size, 0, none⟩) 0 0) 0 [] := World.ownsRow_made w0 #[] 0 (Nat.le_of_lt hlt0) (by simp [maxLen]) rfl
  have hbel1 : Below G w ((w0.alloc (.cells #[] 5)).drew) := (hbel.alloc (Nat.le_of_lt hlt0) _).drew
  have one_a := bv_one a
  have one_b := bv_one b
  go_region_held3 (fun w' => w'.cell? ⟨G, 0, none⟩ = some (.slice A a.length ca) ∧ w'.cell? ⟨G, 1, none⟩ = some (.slice B b.length cb))
    (first
      | go_keep
      | (go_split_ands; refine ⟨?_, ?_⟩ <;> (rw [hgrow.cell_far _ (by simp; omega) hne0]; first | assumption | simp [*]))
      | (have hne1 : some G ≠ v1.ownBlock := (by rcases hat1 with e | e <;> rw [e] <;> simp [Value.ownBlock] <;> omega)
         have hlt1 : G < w1.heap.size := (by have := hgrow.size; simp at this; omega)
         go_split_ands
         refine ⟨?_, ?_⟩ <;> (rw [hgrow2.cell_far _ hlt1 hne1]; assumption)))
    ((first
      | (refine step_append_any _ (by rfl) (.tmp 7) _ _ (by rfl) G 5 i0 _ 1 1 Try.underlying23 hi0 hz0 hz1 hz2 rfl (by omega) _ 0 [] (by rfl) own0 G A a.length ca (a.map bv) (by rfl) ra1 one_a (by unfold maxLen; omega) (by omega) (by simp; omega) ?_; intro v1 w1 hown1 hgrow hat1)
      | (refine step_append_any _ (by rfl) (.tmp 10) _ _ (by rfl) G 5 i0 _ 1 1 Try.underlying23 hi0 hz0 hz1 hz2 rfl (by omega) v1 (0 + a.length) ([] ++ a.map bv) (by rfl) hown1 G B b.length cb (b.map bv) (by rfl) (rb1.grown hgrow (by simp; omega) (by intro g hg; simp [Value.ownBlock] at hg; omega)) one_b (by unfold maxLen; omega) (by omega) (by have := hgrow.size; simp at this; omega) ?_; intro v2 w2 hown2 hgrow2 hat2)))
  have hne1 : some G ≠ v1.ownBlock := (by rcases hat1 with e | e <;> rw [e] <;> simp [Value.ownBlock] <;> omega)
  have hlt1 : G < w1.heap.size := (by have := hgrow.size; simp at this; omega)
  have hlt2 : G < w2.heap.size := Nat.lt_of_lt_of_le hlt1 hgrow2.size
  have hbelA : Below G w w1 := hbel1.grown hgrow (by simp; omega) (fun k hk => by simp [Value.ownBlock] at hk; omega)
  have hbelB : Below G w w2 := hbelA.grown hgrow2 (Nat.le_of_lt hlt1) (fun k hk => (hown1.lt k hk).1)
  have old : ∀ j v, w0.cell? ⟨G, j, none⟩ = some v → w2.cell? ⟨G, j, none⟩ = some v := fun j v h =>
    hgrow2.cell (hgrow.cell ((World.cell?_alloc_lt w0 _ ⟨G, j, none⟩ hlt0).trans h) hne0) hne1
  have d0 := old 0 _ c0
  have d1 := old 1 _ c1
  have d2 := old 2 _ c2
  have d3 := old 3 _ c3
  have bA : Bytes w2 w2.heap.size A a := (Row.below ha (hG.out ▸ hbelB)).more (by have := hbelB.size; have := hG.out; omega)
  have bB : Bytes w2 w2.heap.size B b := (Row.below hb (hG.out ▸ hbelB)).more (by have := hbelB.size; have := hG.out; omega)
  rw [List.nil_append, ← List.map_append] at hown2
  have hS : sumB Begin (a ++ b) = sumB (sumB Begin a) b := sumB_append _ _ _
  have hlen : (a ++ b).length ≤ 1048576 := by rw [List.length_append]; exact hab
  clear ra rb ra0 rb0 ra1 rb1 own0 one_a one_b hbel hbel1 hbelA hgrow hgrow2 hat1 hat2 hne0 hne1 hown1 old c0 c1 c2 c3 ha hb hsz' hlt0 hlt1
  generalize hall : a ++ b = all at *
  replace hall := Lib.hid hall
  obtain ⟨A2, cc, rfl, bAll⟩ := own_bytes hown2
  clear hown2
  have lA := sumB_lt Begin a (by decide)
  have lAll := sumB_lt Begin all (by decide)
  have C1 : ∀ wx : World, wx.heap = w2.heap → Calls Try.prog 8 #[.slice A a.length ca] wx fun e w' => e = .returned (.int .u64 ((sumB Begin a : Nat) : Int)) ∧ wx = w' :=
    fun wx hx => sumC A ca w2.heap.size a wx (bA.keep (fun p _ => by simp [World.cell?, hx])) (by unfold maxLen; omega)
  have C2 : ∀ wx : World, wx.heap = w2.heap → Calls Try.prog 11 #[.int .u64 ((sumB Begin a : Nat) : Int), .slice B b.length cb] wx fun e w' => e = .returned (.int .u64 ((sumB Begin all : Nat) : Int)) ∧ wx = w' :=
    fun wx hx => by rw [hS]; exact lawOnC _ lA B cb w2.heap.size b wx (bB.keep (fun p _ => by simp [World.cell?, hx])) (by unfold maxLen; omega)
  have C3 : ∀ wx : World, wx.heap = w2.heap → Calls Try.prog 11 #[.int .u64 14695981039346656037, .slice A2 all.length cc] wx fun e w' => e = .returned (.int .u64 ((sumB Begin all : Nat) : Int)) ∧ wx = w' :=
    fun wx hx => lawOnC Begin (by decide) A2 cc w2.heap.size all wx (bAll.keep (fun p _ => by simp [World.cell?, hx])) (by unfold maxLen; omega)
  have C4 : ∀ wx : World, wx.heap = w2.heap → Calls Try.prog 8 #[.slice A2 all.length cc] wx fun e w' => e = .returned (.int .u64 ((sumB Begin all : Nat) : Int)) ∧ wx = w' :=
    fun wx hx => sumC A2 cc w2.heap.size all wx (bAll.keep (fun p _ => by simp [World.cell?, hx])) (by unfold maxLen; omega)
  replace C1 := Lib.hid C1; replace C2 := Lib.hid C2; replace C3 := Lib.hid C3; replace C4 := Lib.hid C4
  replace hS := Lib.hid hS
  generalize sumB Begin a = sa at *
  generalize hsl : sumB Begin all = sl at *
  replace hsl := Lib.hid hsl
  go_wp2_with fail
  refine (C4.out _ rfl).mono ?_
  rintro e w' ⟨rfl, rfl⟩
  go_wp2_with fail
  go_quiet ((first
    | (go_at_call 8; with_reducible exact quiet_left (C1.out _ rfl))
    | (go_at_call 11; with_reducible exact quiet_left (C2.out _ rfl))
    | (go_at_call 11; with_reducible exact quiet_left (C3.out _ rfl))))
  rename_i nq _
  have e2 : (w2.drewN nq).cell? ⟨G, 2, none⟩ = some (.int .i64 at_) := d2
  have e3 : (w2.drewN nq).cell? ⟨G, 3, none⟩ = some (.int .u8 (by_.toNat : Int)) := d3
  have bW : Bytes (w2.drewN nq) (w2.drewN nq).heap.size A2 all := bAll
  have hbelW : Below G w (w2.drewN nq) := below_drewN hbelB nq
  have hltW : G < (w2.drewN nq).heap.size := hlt2
  clear d0 d1 d2 d3 bA bB bAll hbelB hlt2 C1 C2 C3 C4 hS
  generalize w2.drewN nq = W at *
  have hzz : (((sumB Begin [0] : Nat) : Int) != ((sumB Begin [] : Nat) : Int)) = true := by
    rw [bne_iff_ne]; intro h; exact sum_zero (by omega)
  have hz : all.length = 0 ∨ (0 < all.length ∧ by_ = 0) ∨ (0 < all.length ∧ by_ ≠ 0) := by
    rcases Nat.eq_zero_or_pos all.length with h | h
    · exact .inl h
    · by_cases h2 : by_ = 0
      · exact .inr (.inl ⟨h, h2⟩)
      · exact .inr (.inr ⟨h, h2⟩)
  rcases hz with hz | ⟨hp, hz⟩ | ⟨hp, hz⟩
  · have q : ((all.length : Int) == 0) = true := by simp [hz]
    clear hz
    go_wp2_with fail
    refine (sumC (some ⟨W.heap.size, 0, none⟩) 1 (W.heap.size + 1) [0] _ (zeroB W) (by simp [maxLen])).mono ?_
    rintro e w' ⟨rfl, rfl⟩
    go_wp2_with fail
    refine (sumC none 0 0 [] _ (Row.nil_ _ _ _) (by simp [maxLen])).mono ?_
    rintro e w' ⟨rfl, rfl⟩
    go_wp2
    go_ret
    exact ⟨rfl, hG.out ▸ (hbelW.alloc (Nat.le_of_lt hltW) _)⟩
  · subst hz
    have q : ((all.length : Int) == 0) = false := by rw [beq_eq_false_iff_ne]; omega
    have q2 : (((0 : UInt8).toNat : Int) == 0) = true := by decide
    go_wp2_with fail
    refine (sumC (some ⟨W.heap.size, 0, none⟩) 1 (W.heap.size + 1) [0] _ (zeroB W) (by simp [maxLen])).mono ?_
    rintro e w' ⟨rfl, rfl⟩
    go_wp2_with fail
    refine (sumC none 0 0 [] _ (Row.nil_ _ _ _) (by simp [maxLen])).mono ?_
    rintro e w' ⟨rfl, rfl⟩
    go_wp2
    go_ret
    exact ⟨rfl, hG.out ▸ (hbelW.alloc (Nat.le_of_lt hltW) _)⟩
  · have q : ((all.length : Int) == 0) = false := by rw [beq_eq_false_iff_ne]; omega
    have q2 : ((by_.toNat : Int) == 0) = false := by
      rw [beq_eq_false_iff_ne]; intro h; exact hz (UInt8.toNat_inj.1 (by simpa using (by omega : by_.toNat = 0)))
    have t1 := Int.tmod_lt_of_pos at_ (show 0 < (all.length : Int) by omega)
    have t2 := Int.lt_tmod_of_pos at_ (show 0 < (all.length : Int) by omega)
    have t3 := Int.emod_lt_of_pos (at_.tmod all.length) (show 0 < (all.length : Int) by omega)
    have t4 := Int.emod_nonneg (at_.tmod all.length) (show (all.length : Int) ≠ 0 by omega)
    obtain ⟨k, hk⟩ := Int.eq_ofNat_of_zero_le t4
    have hkl : k < all.length := by omega
    clear t3 t4
    have bW1 := (bW.reads).alloc (Nat.le_refl _) (.cells #[] 5)
    have own1 : (W.alloc (.cells #[] 5)).ownsRow W.heap.size 5 1 (.slice (some ⟨W.heap.size, 0, none⟩) 0 0) 0 [] := World.ownsRow_made W #[] 0 (Nat.le_refl _) (by simp [maxLen]) rfl
    have hbel3 : Below W.heap.size W (W.alloc (.cells #[] 5)) := (Below.refl _ _).alloc (Nat.le_refl _) _
    go_wp2_with (at_builtin; refine wpList_app rfl _ _ _ rfl eiBytes W.heap.size _ _ _ rfl own1 W.heap.size A2 all.length cc (all.map bv) rfl bW1 (bv_one all) ?c1 ?c2 ?c3 ?_)
    case c1 => unfold maxLen; omega
    case c2 => omega
    case c3 => simp
    intro v3 W3 own3 hg3 _
    replace hbel3 := hbel3.grown hg3 (by simp) (fun j hj => by simp [Value.ownBlock] at hj; omega)
    clear own1 hg3 bW1
    rcases own3.2 with ⟨-, h0⟩ | ⟨g, cap, cur, rfl, hg1, hg2, hg3, hg4, hg5, hg6⟩
    · omega
    rw [Nat.mul_one] at hg5 hg6
    have hcurk : cur[k]? = some (bv all[k]) := by
      have : (cur.toList.take all.length)[k]? = some (bv all[k]) := by rw [hg6, List.getElem?_map, List.getElem?_eq_getElem hkl]; rfl
      rw [List.getElem?_take, if_pos hkl] at this
      simpa using this
    have f1 : W3.cell? ⟨g, k, none⟩ = some (.int .u8 ((all[k]).toNat : Int)) := by rw [cell_of_row W3 g k cur 5 (0, 0) hg2]; exact hcurk
    have f2 : W3.frozen? ⟨g, k, none⟩ = false := by simp [World.frozen?, hg2]
    have f3 : W3.cell? ⟨G, 3, none⟩ = some (.int .u8 (by_.toNat : Int)) := (hbel3.cell (p := ⟨G, 3, none⟩) hltW).trans e3
    have f4 : G ≠ g := by omega
    have f5 : bits .xor .u8 ((all[k]).toNat : Int) (by_.toNat : Int) = ((all[k] ^^^ by_).toNat : Int) := by
      rw [UInt8.toNat_xor]
      have h1 := (all[k]).toNat_lt
      have h2 := by_.toNat_lt
      generalize (all[k]).toNat = x at *
      generalize by_.toNat = y at *
      have hx : x ^^^ y < 2 ^ 8 := Nat.xor_lt_two_pow (by omega) (by omega)
      show IntKind.u8.wrap ((BitVec.ofInt 8 (x : Int) ^^^ BitVec.ofInt 8 (y : Int)).toNat : Int) = _
      rw [BitVec.toNat_xor, BitVec.ofInt_natCast, BitVec.ofInt_natCast, BitVec.toNat_ofNat, BitVec.toNat_ofNat, Nat.mod_eq_of_lt h1, Nat.mod_eq_of_lt h2, IntKind.wrap_u8']
      omega
    have hturn := turn_byte all[k] by_ hz
    have hne := sum_turn Begin all k (all[k] ^^^ by_) (by decide) hkl hturn
    rw [hsl.out] at hne
    have hset : Bytes (W3.setCell ⟨g, k, none⟩ (.int .u8 ((all[k] ^^^ by_).toNat : Int))) (g + 1) (some ⟨g, 0, none⟩) (all.set k (all[k] ^^^ by_)) := by
      intro _
      refine ⟨g, 0, rfl, by omega, fun j v hv => ?_⟩
      rw [Nat.zero_add]
      rw [List.getElem?_map, List.getElem?_set] at hv
      by_cases hj : k = j
      · subst hj
        rw [if_pos rfl, if_pos hkl] at hv
        injection hv with hv
        subst hv
        exact World.cell?_setCell_same _ _ _ f1
      · rw [if_neg hj] at hv
        rw [World.cell?_setCell_other _ _ _ _ (fun h => by injection h; omega), cell_of_row W3 g j cur 5 (0, 0) hg2]
        have hjl : j < all.length := by
          rcases Nat.lt_or_ge j all.length with h | h
          · exact h
          · rw [List.getElem?_eq_none h] at hv; cases hv
        have : (cur.toList.take all.length)[j]? = some v := by rw [hg6, List.getElem?_map]; exact hv
        rw [List.getElem?_take, if_pos hjl] at this
        simpa using this
    have hsl2 : (all.set k (all[k] ^^^ by_)).length = all.length := List.length_set
    have C5 : ∀ wx : World, wx.heap = (W3.setCell ⟨g, k, none⟩ (.int .u8 ((all[k] ^^^ by_).toNat : Int))).heap →
        Calls Try.prog 8 #[.slice (some ⟨g, 0, none⟩) all.length cap] wx fun e w' => e = .returned (.int .u64 ((sumB Begin (all.set k (all[k] ^^^ by_)) : Nat) : Int)) ∧ wx = w' := fun wx hx => by
      have := sumC (some ⟨g, 0, none⟩) cap (g + 1) _ wx (hset.keep (fun p _ => by simp [World.cell?, hx])) (by rw [hsl2]; unfold maxLen; omega)
      rwa [hsl2] at this
    replace C5 := Lib.hid C5
    have hfin : (((sumB Begin (all.set k (all[k] ^^^ by_)) : Nat) : Int) != ((sl : Nat) : Int)) = true := by rw [bne_iff_ne]; omega
    clear hset hsl2 hturn hne hg6 hg5 hg4 hcurk own3
    generalize sumB Begin (all.set k (all[k] ^^^ by_)) = s2 at *
    generalize (all[k] ^^^ by_).toNat = z at *
    generalize (all[k]).toNat = x at *
    generalize by_.toNat = y at *
    go_wp2_with fail
    go_still_tail 10, (by kernel_rfl)
    change wpList _ _ _ _ _ W3.drew
    go_wp2_with fail
    refine (C5.out _ (by rfl)).mono ?_
    rintro e w' ⟨rfl, rfl⟩
    go_wp2
    go_ret
    exact ⟨rfl, hG.out ▸ ((hbelW.trans (hbel3.mono (Nat.le_of_lt hltW))).setCell (by show G ≤ g; omega) _).drew⟩
end Go.Proofs.Ytbcohjddnelldaa.HashJ
