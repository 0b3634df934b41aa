/-
  Walk of the law ArenaApart: one call that lays something changes just the bytes that it names.
-/
import Derived.Test.YtnjobnccknpaeaaArenaFilled
import Derived.Test.YtnjobnccknpaeaaAgg
import Derived.Test.YtnjobnccknpaeaaBookLend
import Derived.Test.YtnjobnccknpaeaaArenaNumbersWalk
namespace Go.Proofs.Ytnjobnccknpaeaa.Arena
open Go.RowKit Base
set_option linter.unusedVariables false

/-- The boxed row of a call. -/
def OBox (w : World) (b : Nat) (d wh at_ to n wd : Int) (v : Nat) (B O : Value) : Prop :=
  w.heap[b]? = some (.cells #[.int .i64 d, .int .i64 wh, .int .i64 at_, .int .i64 to, .int .i64 n, .int .i64 wd, .int .u64 (v : Int), B, O] 40)

theorem OBox.cells {w : World} {b : Nat} {d wh at_ to n wd : Int} {v : Nat} {B O : Value} (h : OBox w b d wh at_ to n wd v B O) : w.cell? ⟨b, 0, none⟩ = some (.int .i64 d) ∧ w.cell? ⟨b, 1, none⟩ = some (.int .i64 wh) ∧ w.cell? ⟨b, 2, none⟩ = some (.int .i64 at_) ∧
    w.cell? ⟨b, 3, none⟩ = some (.int .i64 to) ∧ w.cell? ⟨b, 4, none⟩ = some (.int .i64 n) ∧ w.cell? ⟨b, 5, none⟩ = some (.int .i64 wd) ∧ w.cell? ⟨b, 6, none⟩ = some (.int .u64 (v : Int)) := by
  unfold OBox at h
  refine ⟨?_, ?_, ?_, ?_, ?_, ?_, ?_⟩ <;> (rw [cell_of_row w b _ _ 40 (0, 0) h]; rfl)
/-- Within a number. -/
theorem withinN (i : Int) (k : Nat) (hi : inI64 i) (hk : 1 ≤ k) (hk2 : k ≤ 1073741824) : ∃ q : Nat, q < k ∧ ∀ (w : World) (x : Int), x = (k : Int) → Calls Try.prog 12 #[.int .i64 i, .int .i64 x] w fun e w' => e = .returned (.int .i64 (q : Int)) ∧ w = w' := by
  have q0 := Int.emod_nonneg i (show (k : Int) ≠ 0 by omega)
  have q1 := Int.emod_lt_of_pos i (show (0 : Int) < k by omega)
  obtain ⟨q, hq⟩ := Int.eq_ofNat_of_zero_le q0
  refine ⟨q, by omega, ?_⟩
  rintro w x rfl
  have := withinC i k hi hk hk2 w
  rwa [hq] at this

/-- The block of an own row of bytes. -/
def BO (w : World) (g : Nat) (l : List UInt8) : Prop := ∃ cur e, w.heap[g]? = some (.cells cur e (0, 0)) ∧ cur.toList.take l.length = l.map bv
theorem BO.keep {w w' : World} {g : Nat} {l : List UInt8} (h : BO w g l) (hk : w'.heap[g]? = w.heap[g]?) : BO w' g l := by
  obtain ⟨cur, e, h1, h2⟩ := h
  exact ⟨cur, e, hk.trans h1, h2⟩
theorem BO.lt {w : World} {g : Nat} {l : List UInt8} (h : BO w g l) : g < w.heap.size := by
  obtain ⟨cur, e, h1, h2⟩ := h
  exact heap_lt h1
theorem BO.piece {w : World} {g : Nat} {l : List UInt8} (h : BO w g l) (B at_ n : Nat) (hB : g < B) (hn : at_ + n ≤ l.length) (A : Option Addr) (hA : 0 < n → A = some ⟨g, at_, none⟩) : Bytes w B A ((l.drop at_).take n) := by
  obtain ⟨cur, e, h1, h2⟩ := h
  intro hx
  have hn0 : 0 < n := by
    rcases Nat.eq_zero_or_pos n with h | h
    · subst h; simp at hx
    · exact h
  refine ⟨g, at_, hA hn0, hB, fun j v hv => ?_⟩
  rw [cell_of_row w g _ cur e (0, 0) h1]
  rw [List.getElem?_map] at hv
  have hj : j < n := by
    by_cases hjn : j < n
    · exact hjn
    · rw [List.getElem?_take_eq_none (by omega)] at hv; simp at hv
  rw [List.getElem?_take_of_lt hj, List.getElem?_drop, ← List.getElem?_map, ← h2, List.getElem?_take_of_lt (by omega)] at hv
  simpa using hv
theorem own_open {w : World} {base n : Nat} {e : TypeId} {v : Value} {l : List UInt8} (h : w.ownsRow base e 1 v n (l.map bv)) (hn : 0 < n) : ∃ g c, v = .slice (some ⟨g, 0, none⟩) n c ∧ base ≤ g ∧ n ≤ c ∧ c ≤ maxLen ∧ BO w g l := by
  have hl : n = l.length := by have := h.1; simp at this; omega
  rcases h.2 with ⟨_, h0⟩ | ⟨g, cap, cur, rfl, hb, hg, hnc, hcm, hcs, ht⟩
  · omega
  · exact ⟨g, cap, rfl, hb, hnc, hcm, cur, e, hg, by rw [← hl]; simpa using ht⟩
theorem own_below {w w' : World} {base n size : Nat} {e : TypeId} {v : Value} {xs : List Value} (h : w.ownsRow base e size v n xs) (b : Below w.heap.size w w') : w'.ownsRow base e size v n xs := by
  refine h.kept (row := none) ⟨b.os, b.tape, b.output, b.size, fun k hk _ => b.block k hk⟩ ?_
  cases v.ownBlock with
  | none => exact .inl rfl
  | some x => exact .inr (by simp)
def lenV : Value → Nat
  | .slice _ n _ => n
  | _ => 0
set_option maxRecDepth 100000 in
set_option maxHeartbeats 1600000 in
theorem apart4 (w : World) (wh at_ to n wd : Int) (v : Nat) (B O : Value) (hwh : inI64 wh) (hat : inI64 at_) (hto : inI64 to) (hn : inI64 n) (hwd : inI64 wd) :
    Calls Try.prog 5 #[.agg #[.int .i64 4, .int .i64 wh, .int .i64 at_, .int .i64 to, .int .i64 n, .int .i64 wd, .int .u64 (v : Int), B, O]] w fun e w' => e = .returned (.bool true) ∧ Below w.heap.size w w' := by
  have F := Lib.hid (filledC (w.alloc (.cells #[.int .i64 4, .int .i64 wh, .int .i64 at_, .int .i64 to, .int .i64 n, .int .i64 wd, .int .u64 (v : Int), B, O] 40)))
  have hbox : OBox (w.alloc (.cells #[.int .i64 4, .int .i64 wh, .int .i64 at_, .int .i64 to, .int .i64 n, .int .i64 wd, .int .u64 (v : Int), B, O] 40)) w.heap.size 4 wh at_ to n wd v B O := heap_alloc_new _ _
  have hbel0 : Below w.heap.size w (w.alloc (.cells #[.int .i64 4, .int .i64 wh, .int .i64 at_, .int .i64 to, .int .i64 n, .int .i64 wd, .int .u64 (v : Int), B, O] 40)) := (Below.refl _ _).alloc (Nat.le_refl _) _
  have hsz0 : (w.alloc (.cells #[.int .i64 4, .int .i64 wh, .int .i64 at_, .int .i64 to, .int .i64 n, .int .i64 wd, .int .u64 (v : Int), B, O] 40)).heap.size = w.heap.size + 1 := World.size_alloc _ _
  have num0 := Lib.hid (numC 0 (by unfold inI64; omega))
  go_enter Try.func5, Try.ntmps5
  go_wp2_with fail
  generalize w.alloc (.cells #[.int .i64 4, .int .i64 wh, .int .i64 at_, .int .i64 to, .int .i64 n, .int .i64 wd, .int .u64 (v : Int), B, O] 40) = wB at *
  refine F.out.mono ?_
  rintro e w1 ⟨g, h, L, rfl, a1, hL, hg, hh, hb1⟩
  have bx1 : OBox w1 w.heap.size 4 wh at_ to n wd v B O := (hb1.block _ (by omega)).trans hbox
  replace hb1 : Below w.heap.size w w1 := hbel0.trans (hb1.mono hbel0.size)
  have hgl2 : g < w1.heap.size := heap_lt a1.head
  have hhl2 : h < w1.heap.size := a1.bytes.lt
  have hwg : w.heap.size < g := by omega
  have hwh' : w.heap.size < h := by omega
  clear hbel0 hbox F hsz0 hg hh
  generalize hbb : w.heap.size = b at *
  replace hbb := Lib.hid hbb
  have IM := Lib.hid (imageC w1 g h L a1 hL)
  go_wp2_with fail
  refine IM.out.mono ?_
  rintro e w2 ⟨iv, rfl, own2, b2⟩
  clear IM
  have bx2 : OBox w2 b 4 wh at_ to n wd v B O := (b2.block _ (by omega)).trans bx1
  have a2 : At w2 g h 4096 L := a1.keep (b2.block _ hgl2) (b2.block _ hhl2)
  have hb2 : Below b w w2 := hb1.trans (b2.mono (by omega))
  obtain ⟨c0, c1, c2, c3, c4, c5, c6⟩ := bx2.cells
  obtain ⟨qa, hqa, WA⟩ := withinN wh 2 hwh (by omega) (by omega)
  obtain ⟨qb, hqb, WB⟩ := withinN at_ 4096 hat (by omega) (by omega)
  obtain ⟨qn, hqn, WN⟩ := withinN n (4096 - qb + 1) hn (by omega) (by omega)
  obtain ⟨qc, hqc, WC⟩ := withinN wd 2 hwd (by omega) (by omega)
  obtain ⟨qd, hqd, WD⟩ := withinN to (4096 - qn + 1) hto (by omega) (by omega)
  replace WA := Lib.hid (show ∀ w w2 : World, w = w2 → Calls Try.prog 12 #[.int .i64 wh, .int .i64 2] w fun e w' => e = .returned (.int .i64 (qa : Int)) ∧ w2 = w' from by rintro w _ rfl; exact WA w _ rfl)
  replace WB := Lib.hid (show ∀ w w2 : World, w = w2 → Calls Try.prog 12 #[.int .i64 at_, .int .i64 4096] w fun e w' => e = .returned (.int .i64 (qb : Int)) ∧ w2 = w' from by rintro w _ rfl; exact WB w _ rfl)
  replace WN := Lib.hid WN
  replace WC := Lib.hid (show ∀ w w2 : World, w = w2 → Calls Try.prog 12 #[.int .i64 wd, .int .i64 2] w fun e w' => e = .returned (.int .i64 (qc : Int)) ∧ w2 = w' from by rintro w _ rfl; exact WC w _ rfl)
  replace WD := Lib.hid (show ∀ w w2 : World, w = w2 → Calls Try.prog 12 #[.int .i64 to, .int .i64 (4096 - (qn : Int) + 1)] w fun e w' => e = .returned (.int .i64 (qd : Int)) ∧ w2 = w' from by rintro w _ rfl; exact WD w _ (by omega))
  replace hL := Lib.hid hL
  have s1 : IntKind.i64.wrap (4096 * (qa : Int)) = 4096 * (qa : Int) := IntWalk.i64_in _ (by omega)
  have s2 : IntKind.i64.wrap (4096 * (qa : Int) + (qb : Int)) = 4096 * (qa : Int) + (qb : Int) := IntWalk.i64_in _ (by omega)
  have s3 : IntKind.i64.wrap (4096 * (qc : Int)) = 4096 * (qc : Int) := IntWalk.i64_in _ (by omega)
  have s4 : IntKind.i64.wrap (4096 * (qc : Int) + (qd : Int)) = 4096 * (qc : Int) + (qd : Int) := IntWalk.i64_in _ (by omega)
  have s5 : IntKind.i64.wrap (4096 - (qn : Int)) = 4096 - (qn : Int) := IntWalk.i64_in _ (by omega)
  have s6 : IntKind.i64.wrap (4096 - (qn : Int) + 1) = 4096 - (qn : Int) + 1 := IntWalk.i64_in _ (by omega)
  go_wp2_with fail
  go_quiet ((first
    | (go_at_call 12; with_reducible exact quiet_left (WA.out _ _ rfl))
    | (go_at_call 12; with_reducible exact quiet_left (WB.out _ _ rfl))))
  have a3 : At (w2.drewN nq) g h 4096 L := at_drewN a2 nq
  have hb3 : Below b w (w2.drewN nq) := below_drewN hb2 nq
  have bx3 : OBox (w2.drewN nq) b 4 wh at_ to n wd v B O := bx2
  have own3 : (w2.drewN nq).ownsRow w1.heap.size 5 1 iv 8192 (L.map bv) := own2
  have sz3 : w1.heap.size ≤ (w2.drewN nq).heap.size := b2.size
  clear c0 c1 c2 c3 c4 c5 c6 a2 hb2 bx2 own2 b2 WA WB s1 s2
  obtain ⟨c0, c1, c2, c3, c4, c5, c6⟩ := bx3.cells
  go_wp2_with fail
  generalize w2.drewN nq = w3 at *
  refine (WN.out _ _ (by omega)).mono ?_
  rintro e w' ⟨rfl, rfl⟩
  go_wp2_with fail
  go_quiet ((first
    | (go_at_call 12; with_reducible exact quiet_left (WC.out _ _ rfl))
    | (go_at_call 12; with_reducible exact quiet_left (WD.out _ _ rfl))))
  have a4 : At (w3.drewN nq) g h 4096 L := at_drewN a3 nq
  have hb4 : Below b w (w3.drewN nq) := below_drewN hb3 nq
  have bx4 : OBox (w3.drewN nq) b 4 wh at_ to n wd v B O := bx3
  have own4 : (w3.drewN nq).ownsRow w1.heap.size 5 1 iv 8192 (L.map bv) := own3
  have sz4 : w1.heap.size ≤ (w3.drewN nq).heap.size := sz3
  clear c0 c1 c2 c3 c4 c5 c6 a3 hb3 bx3 own3 sz3 WC WD WN s3 s4 s5 s6
  obtain ⟨c0, c1, c2, c3, c4, c5, c6⟩ := bx4.cells
  generalize hw4 : w3.drewN nq = w4 at *
  clear hw4
  obtain ⟨gi, ci, rfl, hgi, hci, hcm, bo4⟩ := own_open own4 (by omega)
  obtain ⟨p, hp⟩ : ∃ p : Nat, 4096 * (qa : Int) + (qb : Int) = (p : Int) := ⟨4096 * qa + qb, by omega⟩
  obtain ⟨t, ht⟩ : ∃ t : Nat, 4096 * (qc : Int) + (qd : Int) = (t : Int) := ⟨4096 * qc + qd, by omega⟩
  have hTp : Hid (There 4096 8192 (p : Int) (qn : Int)) := Lib.hid (by unfold There; omega)
  have hTt : Hid (There 4096 8192 (t : Int) (qn : Int)) := Lib.hid (by unfold There; omega)
  have hp8 : p + qn ≤ 8192 := by omega
  have ht8 : t + qn ≤ 8192 := by omega
  have hqn : qn ≤ 4096 := by omega
  clear own4 bx1 hb1 a1 hwh hat hto hn hwd c1 c2 c3 c4 c5
  go_wp2_with fail
  rw [hp, ht]
  clear hp ht hqa hqb hqc hqd
  have ho0 : w4.ownsRow w4.heap.size 5 1 (.slice none 0 0) 0 [] := World.ownsRow_nil _ _ _ _
  have bo : Below w4.heap.size w4 w4 := Below.refl _ _
  go_loopw [8] (fun v wr => ∃ (j : Nat) (bs : List UInt8), j ≤ qn ∧ Hid (bs.length = j) ∧ wr.ownsRow w4.heap.size 5 1 v j (bs.map bv) ∧ Below w4.heap.size w4 wr) (fun v _ => qn - lenV v)
  case atStart => exact ⟨0, [], by omega, Lib.hid rfl, ho0, bo⟩
  case round =>
    obtain ⟨j, bs, hj, hbs, own, bq⟩ := hrel
    clear ho0 bo
    have hbs' := hbs.out
    obtain ⟨A, c, hv, hB⟩ := own_bytes own
    rw [hbs'] at hv
    subst hv
    have hbz := bq.size
    by_cases hjl : j < qn
    · have hdj : decide ((j : Int) < (qn : Int)) = true := by simp; omega
      obtain ⟨b1, hb1'⟩ := byte_some ((j : Int) % 256) (by omega) (by omega)
      clear hbs' hB
      go_wp2_with (first
        | (at_builtin; refine wpList_app rfl _ _ _ rfl eiBytes w4.heap.size _ _ _ rfl (own.alloc _) (wr.heap.size + 1) (some ⟨wr.heap.size, 0, none⟩) 1 1 [bv b1] rfl ?c1 ?c2 ?c3 ?c4 ?c5 ?_))
      case c1 => exact ⟨rfl, fun _ => ⟨_, rfl, by show wr.heap.size < _; omega, fun i u hu => by match i, hu with | 0, hu => simp at hu; subst hu; simp [Addr.add, bv]⟩⟩
      case c2 => intro u hu; simp at hu; subst hu; rfl
      case c3 => unfold maxLen; omega
      case c4 => omega
      case c5 => simp; omega
      intro v2 w5 own2 g2 _
      have bq2 : Below w4.heap.size w4 w5 := (bq.alloc hbz _).grown g2 (by simp; omega) (fun x hx => (own.lt x hx).1)
      have own3 : w5.ownsRow w4.heap.size 5 1 v2 (j + 1) ((bs ++ [b1]).map bv) := by simpa using own2
      have hlv : lenV v2 = j + 1 := by
        obtain ⟨A', c', hv', _⟩ := own_bytes own3
        rw [hv']
        show (bs ++ [b1]).length = _
        rw [List.length_append, hbs.out]; rfl
      clear own2 g2 own hb1'
      replace hlv := Lib.hid hlv
      go_wp2
      go_roundw
      case rel => exact ⟨j + 1, bs ++ [b1], by omega, Lib.hid (by rw [List.length_append, hbs.out]; rfl), own3, bq2⟩
      case measure => have := hlv.out; show qn - lenV v2 < qn - j; omega
    · obtain rfl : j = qn := by omega
      have ar : At wr g h 4096 L := at_below a4 bq (heap_lt a4.head) a4.bytes.lt
      have bor : BO wr gi L := bo4.keep (bq.block _ bo4.lt)
      have hbr : Below b w wr := hb4.trans (bq.mono (by omega))
      have W := writeYes wr g h 4096 L ar (p : Int) A c _ bs hB (by rw [hL.out, hbs']; exact hTp.out)
      rw [hbs'] at W
      replace W := Lib.hid W
      clear hbs'
      go_wp2_with fail
      refine W.out.mono ?_
      rintro e w5 ⟨rfl, a5, o5, s5⟩
      have bo5 : BO w5 gi L := bor.keep (o5.block _ bor.lt (by show ¬ gi = h; omega))
      have hB5 : Bytes w5 w5.heap.size A bs := by
        rw [s5]
        exact o5.row hB (fun x off e => by subst e; have := (own.lt x rfl).1; have := a4.bytes.lt; show ¬ x = h; omega)
      have hb5 : Below b w w5 := hbr.trans (o5.toBelow (fun x hx => ⟨by omega, by show ¬ x = h; omega⟩))
      have hsz5 : w1.heap.size ≤ w5.heap.size := by omega
      have hM : Hid (lay L p bs = L.take p ++ bs ++ L.drop (p + j)) := Lib.hid (by unfold lay; rw [hbs.out])
      have hMl : (lay L p bs).length = 8192 := by rw [lay_len _ _ _ (by rw [hL.out, hbs.out]; omega)]; exact hL.out
      rw [Int.toNat_natCast] at a5
      generalize lay L p bs = M at *
      clear W hB own bor ar bq hbr o5 s5 hTp hTt a4 hbz bx4 c0 c6 bo4 sz4 hb4
      generalize hq : p = q at *
      go_wp2_with fail
      refine (num0.out _).mono ?_
      rintro e w' ⟨rfl, rfl⟩
      have hlq : (L.take q).length = q := by rw [List.length_take, hL.out]; omega
      have C := copyC (some ⟨gi, 0, none⟩) ci (L.take q) w5 (by have := bo5.piece w5.heap.size 0 q bo5.lt (by rw [hL.out]; omega) (some ⟨gi, 0, none⟩) (fun _ => rfl); rwa [List.drop_zero] at this) (by omega)
      rw [hlq] at C
      replace C := Lib.hid C
      replace hlq := Lib.hid hlq
      have s1 : IntKind.i64.wrap ((q : Int) + (j : Int)) = ((q + j : Nat) : Int) := by rw [IntWalk.i64_in _ (by omega)]; omega
      go_wp2_with fail
      refine C.out.mono ?_
      rintro e w6 ⟨v6, rfl, own6, b6⟩
      have rA : Reads w6 w5.heap.size 1 A j (bs.map bv) := by
        have := hB5.reads
        rw [hbs.out] at this
        exact this.below b6
      have h1 := bv_one bs
      clear C hB5
      go_wp2_with (at_builtin; refine wpList_app rfl _ _ _ rfl eiBytes w5.heap.size _ _ _ rfl own6 _ _ _ _ (bs.map bv) rfl rA h1 ?d1 ?d2 ?d3 ?_)
      case d1 => unfold maxLen; omega
      case d2 => omega
      case d3 => exact b6.size
      intro v7 w7 own7 g7 _
      have b7 : Below w5.heap.size w5 w7 := b6.grown g7 b6.size (fun x hx => (own6.lt x hx).1)
      clear own6 g7 rA h1 b6
      have bo7 : BO w7 gi L := bo5.keep (b7.block _ bo5.lt)
      have pcs : ∀ A2, (0 < 8192 - (q + j) → A2 = some ⟨gi, q + j, none⟩) → Reads w7 w7.heap.size 1 A2 (8192 - (q + j)) ((L.drop (q + j)).map bv) := by
        intro A2 hA2
        have hl2 : (L.drop (q + j)).length = 8192 - (q + j) := by rw [List.length_drop, hL.out]
        have := (bo7.piece w7.heap.size (q + j) (8192 - (q + j)) bo7.lt (by rw [hL.out]; omega) A2 hA2).reads
        rwa [List.take_of_length_le (by omega), hl2] at this
      replace pcs := Lib.hid pcs
      have h2 := bv_one (L.drop (q + j))
      by_cases hcq : ci = q + j
      all_goals
        go_wp2_with (at_builtin; refine wpList_app rfl _ _ _ rfl eiBytes w5.heap.size _ _ _ rfl own7 w7.heap.size _ (8192 - (q + j)) _ ((L.drop (q + j)).map bv) rfl (pcs.out _ (by first | exact fun _ => rfl | (intro h0; exfalso; omega))) h2 ?e1 ?e2 ?e3 ?_)
        case e1 => unfold maxLen; omega
        case e2 => omega
        case e3 => exact b7.size
        intro v8 w8 own8 g8 _
        have b8 : Below w5.heap.size w5 w8 := b7.grown g8 b7.size (fun x hx => (own7.lt x hx).1)
        have e8 : q + j + (8192 - (q + j)) = 8192 := by omega
        have own9 : w8.ownsRow w5.heap.size 5 1 v8 8192 (M.map bv) := by rw [hM.out]; simpa [e8] using own8
        clear own8 e8 own7 g8 b7 bo7 pcs h2 hM
        have a8 : At w8 g h 4096 M := at_below a5 b8 (heap_lt a5.head) a5.bytes.lt
        have hb8 : Below b w w8 := hb5.trans (b8.mono (by omega))
        have IM := Lib.hid (imageC w8 g h M a8 hMl)
        go_wp2_with fail
        refine IM.out.mono ?_
        rintro e w9 ⟨iv9, rfl, own10, b9⟩
        have own11 : w9.ownsRow w5.heap.size 5 1 v8 8192 (M.map bv) := own_below own9 b9
        obtain ⟨A9, c9, rfl, B9⟩ := own_bytes own10
        obtain ⟨A10, c10, rfl, B10⟩ := own_bytes own11
        rw [hMl]
        have hb9 : Below b w w9 := hb8.trans (b9.mono (Nat.le_trans (by omega) b8.size))
        have E := Book.eqC A9 A10 c9 c10 w9.heap.size M M w9 B9 B10
        rw [hMl] at E
        replace E := Lib.hid E
        go_wp2_with fail
        refine E.out.mono ?_
        rintro e w' ⟨rfl, rfl⟩
        go_wp2
        go_ret
        exact ⟨by simp, hbb.out.symm ▸ hb9⟩

set_option maxRecDepth 100000 in
set_option maxHeartbeats 1600000 in
theorem apart5 (w : World) (wh at_ to n wd : Int) (v : Nat) (B O : Value) (hwh : inI64 wh) (hat : inI64 at_) (hto : inI64 to) (hn : inI64 n) (hwd : inI64 wd) :
    Calls Try.prog 5 #[.agg #[.int .i64 5, .int .i64 wh, .int .i64 at_, .int .i64 to, .int .i64 n, .int .i64 wd, .int .u64 (v : Int), B, O]] w fun e w' => e = .returned (.bool true) ∧ Below w.heap.size w w' := by
  have F := Lib.hid (filledC (w.alloc (.cells #[.int .i64 5, .int .i64 wh, .int .i64 at_, .int .i64 to, .int .i64 n, .int .i64 wd, .int .u64 (v : Int), B, O] 40)))
  have hbox : OBox (w.alloc (.cells #[.int .i64 5, .int .i64 wh, .int .i64 at_, .int .i64 to, .int .i64 n, .int .i64 wd, .int .u64 (v : Int), B, O] 40)) w.heap.size 5 wh at_ to n wd v B O := heap_alloc_new _ _
  have hbel0 : Below w.heap.size w (w.alloc (.cells #[.int .i64 5, .int .i64 wh, .int .i64 at_, .int .i64 to, .int .i64 n, .int .i64 wd, .int .u64 (v : Int), B, O] 40)) := (Below.refl _ _).alloc (Nat.le_refl _) _
  have hsz0 : (w.alloc (.cells #[.int .i64 5, .int .i64 wh, .int .i64 at_, .int .i64 to, .int .i64 n, .int .i64 wd, .int .u64 (v : Int), B, O] 40)).heap.size = w.heap.size + 1 := World.size_alloc _ _
  have num0 := Lib.hid (numC 0 (by unfold inI64; omega))
  go_enter Try.func5, Try.ntmps5
  go_wp2_with fail
  generalize w.alloc (.cells #[.int .i64 5, .int .i64 wh, .int .i64 at_, .int .i64 to, .int .i64 n, .int .i64 wd, .int .u64 (v : Int), B, O] 40) = wB at *
  refine F.out.mono ?_
  rintro e w1 ⟨g, h, L, rfl, a1, hL, hg, hh, hb1⟩
  have bx1 : OBox w1 w.heap.size 5 wh at_ to n wd v B O := (hb1.block _ (by omega)).trans hbox
  replace hb1 : Below w.heap.size w w1 := hbel0.trans (hb1.mono hbel0.size)
  have hgl2 : g < w1.heap.size := heap_lt a1.head
  have hhl2 : h < w1.heap.size := a1.bytes.lt
  have hwg : w.heap.size < g := by omega
  have hwh' : w.heap.size < h := by omega
  clear hbel0 hbox F hsz0 hg hh
  generalize hbb : w.heap.size = b at *
  replace hbb := Lib.hid hbb
  have IM := Lib.hid (imageC w1 g h L a1 hL)
  go_wp2_with fail
  refine IM.out.mono ?_
  rintro e w2 ⟨iv, rfl, own2, b2⟩
  clear IM
  have bx2 : OBox w2 b 5 wh at_ to n wd v B O := (b2.block _ (by omega)).trans bx1
  have a2 : At w2 g h 4096 L := a1.keep (b2.block _ hgl2) (b2.block _ hhl2)
  have hb2 : Below b w w2 := hb1.trans (b2.mono (by omega))
  obtain ⟨c0, c1, c2, c3, c4, c5, c6⟩ := bx2.cells
  obtain ⟨qa, hqa, WA⟩ := withinN wh 2 hwh (by omega) (by omega)
  obtain ⟨qb, hqb, WB⟩ := withinN at_ 4096 hat (by omega) (by omega)
  obtain ⟨qn, hqn, WN⟩ := withinN n (4096 - qb + 1) hn (by omega) (by omega)
  obtain ⟨qc, hqc, WC⟩ := withinN wd 2 hwd (by omega) (by omega)
  obtain ⟨qd, hqd, WD⟩ := withinN to (4096 - qn + 1) hto (by omega) (by omega)
  replace WA := Lib.hid (show ∀ w w2 : World, w = w2 → Calls Try.prog 12 #[.int .i64 wh, .int .i64 2] w fun e w' => e = .returned (.int .i64 (qa : Int)) ∧ w2 = w' from by rintro w _ rfl; exact WA w _ rfl)
  replace WB := Lib.hid (show ∀ w w2 : World, w = w2 → Calls Try.prog 12 #[.int .i64 at_, .int .i64 4096] w fun e w' => e = .returned (.int .i64 (qb : Int)) ∧ w2 = w' from by rintro w _ rfl; exact WB w _ rfl)
  replace WN := Lib.hid WN
  replace WC := Lib.hid (show ∀ w w2 : World, w = w2 → Calls Try.prog 12 #[.int .i64 wd, .int .i64 2] w fun e w' => e = .returned (.int .i64 (qc : Int)) ∧ w2 = w' from by rintro w _ rfl; exact WC w _ rfl)
  replace WD := Lib.hid (show ∀ w w2 : World, w = w2 → Calls Try.prog 12 #[.int .i64 to, .int .i64 (4096 - (qn : Int) + 1)] w fun e w' => e = .returned (.int .i64 (qd : Int)) ∧ w2 = w' from by rintro w _ rfl; exact WD w _ (by omega))
  replace hL := Lib.hid hL
  have s1 : IntKind.i64.wrap (4096 * (qa : Int)) = 4096 * (qa : Int) := IntWalk.i64_in _ (by omega)
  have s2 : IntKind.i64.wrap (4096 * (qa : Int) + (qb : Int)) = 4096 * (qa : Int) + (qb : Int) := IntWalk.i64_in _ (by omega)
  have s3 : IntKind.i64.wrap (4096 * (qc : Int)) = 4096 * (qc : Int) := IntWalk.i64_in _ (by omega)
  have s4 : IntKind.i64.wrap (4096 * (qc : Int) + (qd : Int)) = 4096 * (qc : Int) + (qd : Int) := IntWalk.i64_in _ (by omega)
  have s5 : IntKind.i64.wrap (4096 - (qn : Int)) = 4096 - (qn : Int) := IntWalk.i64_in _ (by omega)
  have s6 : IntKind.i64.wrap (4096 - (qn : Int) + 1) = 4096 - (qn : Int) + 1 := IntWalk.i64_in _ (by omega)
  go_wp2_with fail
  go_quiet ((first
    | (go_at_call 12; with_reducible exact quiet_left (WA.out _ _ rfl))
    | (go_at_call 12; with_reducible exact quiet_left (WB.out _ _ rfl))))
  have a3 : At (w2.drewN nq) g h 4096 L := at_drewN a2 nq
  have hb3 : Below b w (w2.drewN nq) := below_drewN hb2 nq
  have bx3 : OBox (w2.drewN nq) b 5 wh at_ to n wd v B O := bx2
  have own3 : (w2.drewN nq).ownsRow w1.heap.size 5 1 iv 8192 (L.map bv) := own2
  have sz3 : w1.heap.size ≤ (w2.drewN nq).heap.size := b2.size
  clear c0 c1 c2 c3 c4 c5 c6 a2 hb2 bx2 own2 b2 WA WB s1 s2
  obtain ⟨c0, c1, c2, c3, c4, c5, c6⟩ := bx3.cells
  go_wp2_with fail
  generalize w2.drewN nq = w3 at *
  refine (WN.out _ _ (by omega)).mono ?_
  rintro e w' ⟨rfl, rfl⟩
  go_wp2_with fail
  go_quiet ((first
    | (go_at_call 12; with_reducible exact quiet_left (WC.out _ _ rfl))
    | (go_at_call 12; with_reducible exact quiet_left (WD.out _ _ rfl))))
  have a4 : At (w3.drewN nq) g h 4096 L := at_drewN a3 nq
  have hb4 : Below b w (w3.drewN nq) := below_drewN hb3 nq
  have bx4 : OBox (w3.drewN nq) b 5 wh at_ to n wd v B O := bx3
  have own4 : (w3.drewN nq).ownsRow w1.heap.size 5 1 iv 8192 (L.map bv) := own3
  have sz4 : w1.heap.size ≤ (w3.drewN nq).heap.size := sz3
  clear c0 c1 c2 c3 c4 c5 c6 a3 hb3 bx3 own3 sz3 WC WD WN s3 s4 s5 s6
  obtain ⟨c0, c1, c2, c3, c4, c5, c6⟩ := bx4.cells
  generalize hw4 : w3.drewN nq = w4 at *
  clear hw4
  obtain ⟨gi, ci, rfl, hgi, hci, hcm, bo4⟩ := own_open own4 (by omega)
  obtain ⟨p, hp⟩ : ∃ p : Nat, 4096 * (qa : Int) + (qb : Int) = (p : Int) := ⟨4096 * qa + qb, by omega⟩
  obtain ⟨t, ht⟩ : ∃ t : Nat, 4096 * (qc : Int) + (qd : Int) = (t : Int) := ⟨4096 * qc + qd, by omega⟩
  have hTp : Hid (There 4096 8192 (p : Int) (qn : Int)) := Lib.hid (by unfold There; omega)
  have hTt : Hid (There 4096 8192 (t : Int) (qn : Int)) := Lib.hid (by unfold There; omega)
  have hp8 : p + qn ≤ 8192 := by omega
  have ht8 : t + qn ≤ 8192 := by omega
  have hqn : qn ≤ 4096 := by omega
  clear own4 bx1 hb1 a1 hwh hat hto hn hwd c1 c2 c3 c4 c5
  go_wp2_with fail
  rw [hp, ht]
  clear hp ht hqa hqb hqc hqd
  obtain ⟨b1, hb1'⟩ := byte_some ((v : Int) % 256) (by omega) (by omega)
  have ho0 : w4.ownsRow w4.heap.size 5 1 (.slice none 0 0) 0 [] := World.ownsRow_nil _ _ _ _
  have bo : Below w4.heap.size w4 w4 := Below.refl _ _
  go_loopw [8] (fun v wr => ∃ (j : Nat) (bs : List UInt8), j ≤ qn ∧ Hid (bs = List.replicate j b1) ∧ wr.ownsRow w4.heap.size 5 1 v j (bs.map bv) ∧ Below w4.heap.size w4 wr) (fun v _ => qn - lenV v)
  case atStart => exact ⟨0, [], by omega, Lib.hid rfl, ho0, bo⟩
  case round =>
    obtain ⟨j, bs, hj, hbr, own, bq⟩ := hrel
    have hbs : Hid (bs.length = j) := Lib.hid (by rw [hbr.out, List.length_replicate])
    have c6' : wr.cell? ⟨b, 6, none⟩ = some (.int .u64 (v : Int)) := (bq.cell (show b < w4.heap.size by omega)).trans c6
    clear ho0 bo
    have hbs' := hbs.out
    obtain ⟨A, c, hv, hB⟩ := own_bytes own
    rw [hbs'] at hv
    subst hv
    have hbz := bq.size
    by_cases hjl : j < qn
    · have hdj : decide ((j : Int) < (qn : Int)) = true := by simp; omega
      clear hbs' hB
      go_wp2_with (first
        | (at_builtin; refine wpList_app rfl _ _ _ rfl eiBytes w4.heap.size _ _ _ rfl (own.alloc _) (wr.heap.size + 1) (some ⟨wr.heap.size, 0, none⟩) 1 1 [bv b1] rfl ?c1 ?c2 ?c3 ?c4 ?c5 ?_))
      case c1 => exact ⟨rfl, fun _ => ⟨_, rfl, by show wr.heap.size < _; omega, fun i u hu => by match i, hu with | 0, hu => simp at hu; subst hu; simp [Addr.add, bv]⟩⟩
      case c2 => intro u hu; simp at hu; subst hu; rfl
      case c3 => unfold maxLen; omega
      case c4 => omega
      case c5 => simp; omega
      intro v2 w5 own2 g2 _
      have bq2 : Below w4.heap.size w4 w5 := (bq.alloc hbz _).grown g2 (by simp; omega) (fun x hx => (own.lt x hx).1)
      have own3 : w5.ownsRow w4.heap.size 5 1 v2 (j + 1) ((bs ++ [b1]).map bv) := by simpa using own2
      have hlv : lenV v2 = j + 1 := by
        obtain ⟨A', c', hv', _⟩ := own_bytes own3
        rw [hv']
        show (bs ++ [b1]).length = _
        rw [List.length_append, hbs.out]; rfl
      clear own2 g2 own
      replace hlv := Lib.hid hlv
      go_wp2
      go_roundw
      case rel => exact ⟨j + 1, bs ++ [b1], by omega, Lib.hid (by rw [hbr.out, ← List.replicate_succ']), own3, bq2⟩
      case measure => have := hlv.out; show qn - lenV v2 < qn - j; omega
    · obtain rfl : j = qn := by omega
      have ar : At wr g h 4096 L := at_below a4 bq (heap_lt a4.head) a4.bytes.lt
      have bor : BO wr gi L := bo4.keep (bq.block _ bo4.lt)
      have hbw : Below b w wr := hb4.trans (bq.mono (by omega))
      have W := fillYes wr g h 4096 L ar (p : Int) (j : Int) b1 (by rw [hL.out]; exact hTp.out)
      rw [Int.toNat_natCast, Int.toNat_natCast, ← hbr.out] at W
      replace W := Lib.hid W
      clear hbs'
      go_wp2_with fail
      refine W.out.mono ?_
      rintro e w5 ⟨rfl, a5, o5, s5⟩
      have bo5 : BO w5 gi L := bor.keep (o5.block _ bor.lt (by show ¬ gi = h; omega))
      have hB5 : Bytes w5 w5.heap.size A bs := by
        rw [s5]
        exact o5.row hB (fun x off e => by subst e; have := (own.lt x rfl).1; have := a4.bytes.lt; show ¬ x = h; omega)
      have hb5 : Below b w w5 := hbw.trans (o5.toBelow (fun x hx => ⟨by omega, by show ¬ x = h; omega⟩))
      have hsz5 : w1.heap.size ≤ w5.heap.size := by omega
      have hM : Hid (lay L p bs = L.take p ++ bs ++ L.drop (p + j)) := Lib.hid (by unfold lay; rw [hbs.out])
      have hMl : (lay L p bs).length = 8192 := by rw [lay_len _ _ _ (by rw [hL.out, hbs.out]; omega)]; exact hL.out
      generalize lay L p bs = M at *
      clear W hB own bor ar bq o5 s5 hTp hTt a4 hbz bx4 c0 c6 bo4 sz4 hb4 hbr hbw c6' hb1'
      generalize hq : p = q at *
      go_wp2_with fail
      refine (num0.out _).mono ?_
      rintro e w' ⟨rfl, rfl⟩
      have hlq : (L.take q).length = q := by rw [List.length_take, hL.out]; omega
      have C := copyC (some ⟨gi, 0, none⟩) ci (L.take q) w5 (by have := bo5.piece w5.heap.size 0 q bo5.lt (by rw [hL.out]; omega) (some ⟨gi, 0, none⟩) (fun _ => rfl); rwa [List.drop_zero] at this) (by omega)
      rw [hlq] at C
      replace C := Lib.hid C
      replace hlq := Lib.hid hlq
      have s1 : IntKind.i64.wrap ((q : Int) + (j : Int)) = ((q + j : Nat) : Int) := by rw [IntWalk.i64_in _ (by omega)]; omega
      go_wp2_with fail
      refine C.out.mono ?_
      rintro e w6 ⟨v6, rfl, own6, b6⟩
      have rA : Reads w6 w5.heap.size 1 A j (bs.map bv) := by
        have := hB5.reads
        rw [hbs.out] at this
        exact this.below b6
      have h1 := bv_one bs
      clear C hB5
      go_wp2_with (at_builtin; refine wpList_app rfl _ _ _ rfl eiBytes w5.heap.size _ _ _ rfl own6 _ _ _ _ (bs.map bv) rfl rA h1 ?d1 ?d2 ?d3 ?_)
      case d1 => unfold maxLen; omega
      case d2 => omega
      case d3 => exact b6.size
      intro v7 w7 own7 g7 _
      have b7 : Below w5.heap.size w5 w7 := b6.grown g7 b6.size (fun x hx => (own6.lt x hx).1)
      clear own6 g7 rA h1 b6
      have bo7 : BO w7 gi L := bo5.keep (b7.block _ bo5.lt)
      have pcs : ∀ A2, (0 < 8192 - (q + j) → A2 = some ⟨gi, q + j, none⟩) → Reads w7 w7.heap.size 1 A2 (8192 - (q + j)) ((L.drop (q + j)).map bv) := by
        intro A2 hA2
        have hl2 : (L.drop (q + j)).length = 8192 - (q + j) := by rw [List.length_drop, hL.out]
        have := (bo7.piece w7.heap.size (q + j) (8192 - (q + j)) bo7.lt (by rw [hL.out]; omega) A2 hA2).reads
        rwa [List.take_of_length_le (by omega), hl2] at this
      replace pcs := Lib.hid pcs
      have h2 := bv_one (L.drop (q + j))
      by_cases hcq : ci = q + j
      all_goals
        go_wp2_with (at_builtin; refine wpList_app rfl _ _ _ rfl eiBytes w5.heap.size _ _ _ rfl own7 w7.heap.size _ (8192 - (q + j)) _ ((L.drop (q + j)).map bv) rfl (pcs.out _ (by first | exact fun _ => rfl | (intro h0; exfalso; omega))) h2 ?e1 ?e2 ?e3 ?_)
        case e1 => unfold maxLen; omega
        case e2 => omega
        case e3 => exact b7.size
        intro v8 w8 own8 g8 _
        have b8 : Below w5.heap.size w5 w8 := b7.grown g8 b7.size (fun x hx => (own7.lt x hx).1)
        have e8 : q + j + (8192 - (q + j)) = 8192 := by omega
        have own9 : w8.ownsRow w5.heap.size 5 1 v8 8192 (M.map bv) := by rw [hM.out]; simpa [e8] using own8
        clear own8 e8 own7 g8 b7 bo7 pcs h2 hM
        have a8 : At w8 g h 4096 M := at_below a5 b8 (heap_lt a5.head) a5.bytes.lt
        have hb8 : Below b w w8 := hb5.trans (b8.mono (by omega))
        have IM := Lib.hid (imageC w8 g h M a8 hMl)
        go_wp2_with fail
        refine IM.out.mono ?_
        rintro e w9 ⟨iv9, rfl, own10, b9⟩
        have own11 : w9.ownsRow w5.heap.size 5 1 v8 8192 (M.map bv) := own_below own9 b9
        obtain ⟨A9, c9, rfl, B9⟩ := own_bytes own10
        obtain ⟨A10, c10, rfl, B10⟩ := own_bytes own11
        rw [hMl]
        have hb9 : Below b w w9 := hb8.trans (b9.mono (Nat.le_trans (by omega) b8.size))
        have E := Book.eqC A9 A10 c9 c10 w9.heap.size M M w9 B9 B10
        rw [hMl] at E
        replace E := Lib.hid E
        go_wp2_with fail
        refine E.out.mono ?_
        rintro e w' ⟨rfl, rfl⟩
        go_wp2
        go_ret
        exact ⟨by simp, hbb.out.symm ▸ hb9⟩

set_option maxRecDepth 100000 in
set_option maxHeartbeats 1600000 in
theorem apartE (w : World) (d wh at_ to n wd : Int) (v : Nat) (B O : Value) (hwh : inI64 wh) (hat : inI64 at_) (hto : inI64 to) (hn : inI64 n) (hwd : inI64 wd) (hd4 : ¬ d = 4) (hd5 : ¬ d = 5) :
    Calls Try.prog 5 #[.agg #[.int .i64 d, .int .i64 wh, .int .i64 at_, .int .i64 to, .int .i64 n, .int .i64 wd, .int .u64 (v : Int), B, O]] w fun e w' => e = .returned (.bool true) ∧ Below w.heap.size w w' := by
  have F := Lib.hid (filledC (w.alloc (.cells #[.int .i64 d, .int .i64 wh, .int .i64 at_, .int .i64 to, .int .i64 n, .int .i64 wd, .int .u64 (v : Int), B, O] 40)))
  have hbox : OBox (w.alloc (.cells #[.int .i64 d, .int .i64 wh, .int .i64 at_, .int .i64 to, .int .i64 n, .int .i64 wd, .int .u64 (v : Int), B, O] 40)) w.heap.size d wh at_ to n wd v B O := heap_alloc_new _ _
  have hbel0 : Below w.heap.size w (w.alloc (.cells #[.int .i64 d, .int .i64 wh, .int .i64 at_, .int .i64 to, .int .i64 n, .int .i64 wd, .int .u64 (v : Int), B, O] 40)) := (Below.refl _ _).alloc (Nat.le_refl _) _
  have hsz0 : (w.alloc (.cells #[.int .i64 d, .int .i64 wh, .int .i64 at_, .int .i64 to, .int .i64 n, .int .i64 wd, .int .u64 (v : Int), B, O] 40)).heap.size = w.heap.size + 1 := World.size_alloc _ _
  have num0 := Lib.hid (numC 0 (by unfold inI64; omega))
  go_enter Try.func5, Try.ntmps5
  go_wp2_with fail
  generalize w.alloc (.cells #[.int .i64 d, .int .i64 wh, .int .i64 at_, .int .i64 to, .int .i64 n, .int .i64 wd, .int .u64 (v : Int), B, O] 40) = wB at *
  refine F.out.mono ?_
  rintro e w1 ⟨g, h, L, rfl, a1, hL, hg, hh, hb1⟩
  have bx1 : OBox w1 w.heap.size d wh at_ to n wd v B O := (hb1.block _ (by omega)).trans hbox
  replace hb1 : Below w.heap.size w w1 := hbel0.trans (hb1.mono hbel0.size)
  have hgl2 : g < w1.heap.size := heap_lt a1.head
  have hhl2 : h < w1.heap.size := a1.bytes.lt
  have hwg : w.heap.size < g := by omega
  have hwh' : w.heap.size < h := by omega
  clear hbel0 hbox F hsz0 hg hh
  generalize hbb : w.heap.size = b at *
  replace hbb := Lib.hid hbb
  have IM := Lib.hid (imageC w1 g h L a1 hL)
  go_wp2_with fail
  refine IM.out.mono ?_
  rintro e w2 ⟨iv, rfl, own2, b2⟩
  clear IM
  have bx2 : OBox w2 b d wh at_ to n wd v B O := (b2.block _ (by omega)).trans bx1
  have a2 : At w2 g h 4096 L := a1.keep (b2.block _ hgl2) (b2.block _ hhl2)
  have hb2 : Below b w w2 := hb1.trans (b2.mono (by omega))
  obtain ⟨c0, c1, c2, c3, c4, c5, c6⟩ := bx2.cells
  obtain ⟨qa, hqa, WA⟩ := withinN wh 2 hwh (by omega) (by omega)
  obtain ⟨qb, hqb, WB⟩ := withinN at_ 4096 hat (by omega) (by omega)
  obtain ⟨qn, hqn, WN⟩ := withinN n (4096 - qb + 1) hn (by omega) (by omega)
  obtain ⟨qc, hqc, WC⟩ := withinN wd 2 hwd (by omega) (by omega)
  obtain ⟨qd, hqd, WD⟩ := withinN to (4096 - qn + 1) hto (by omega) (by omega)
  replace WA := Lib.hid (show ∀ w w2 : World, w = w2 → Calls Try.prog 12 #[.int .i64 wh, .int .i64 2] w fun e w' => e = .returned (.int .i64 (qa : Int)) ∧ w2 = w' from by rintro w _ rfl; exact WA w _ rfl)
  replace WB := Lib.hid (show ∀ w w2 : World, w = w2 → Calls Try.prog 12 #[.int .i64 at_, .int .i64 4096] w fun e w' => e = .returned (.int .i64 (qb : Int)) ∧ w2 = w' from by rintro w _ rfl; exact WB w _ rfl)
  replace WN := Lib.hid WN
  replace WC := Lib.hid (show ∀ w w2 : World, w = w2 → Calls Try.prog 12 #[.int .i64 wd, .int .i64 2] w fun e w' => e = .returned (.int .i64 (qc : Int)) ∧ w2 = w' from by rintro w _ rfl; exact WC w _ rfl)
  replace WD := Lib.hid (show ∀ w w2 : World, w = w2 → Calls Try.prog 12 #[.int .i64 to, .int .i64 (4096 - (qn : Int) + 1)] w fun e w' => e = .returned (.int .i64 (qd : Int)) ∧ w2 = w' from by rintro w _ rfl; exact WD w _ (by omega))
  replace hL := Lib.hid hL
  have s1 : IntKind.i64.wrap (4096 * (qa : Int)) = 4096 * (qa : Int) := IntWalk.i64_in _ (by omega)
  have s2 : IntKind.i64.wrap (4096 * (qa : Int) + (qb : Int)) = 4096 * (qa : Int) + (qb : Int) := IntWalk.i64_in _ (by omega)
  have s3 : IntKind.i64.wrap (4096 * (qc : Int)) = 4096 * (qc : Int) := IntWalk.i64_in _ (by omega)
  have s4 : IntKind.i64.wrap (4096 * (qc : Int) + (qd : Int)) = 4096 * (qc : Int) + (qd : Int) := IntWalk.i64_in _ (by omega)
  have s5 : IntKind.i64.wrap (4096 - (qn : Int)) = 4096 - (qn : Int) := IntWalk.i64_in _ (by omega)
  have s6 : IntKind.i64.wrap (4096 - (qn : Int) + 1) = 4096 - (qn : Int) + 1 := IntWalk.i64_in _ (by omega)
  go_wp2_with fail
  go_quiet ((first
    | (go_at_call 12; with_reducible exact quiet_left (WA.out _ _ rfl))
    | (go_at_call 12; with_reducible exact quiet_left (WB.out _ _ rfl))))
  have a3 : At (w2.drewN nq) g h 4096 L := at_drewN a2 nq
  have hb3 : Below b w (w2.drewN nq) := below_drewN hb2 nq
  have bx3 : OBox (w2.drewN nq) b d wh at_ to n wd v B O := bx2
  have own3 : (w2.drewN nq).ownsRow w1.heap.size 5 1 iv 8192 (L.map bv) := own2
  have sz3 : w1.heap.size ≤ (w2.drewN nq).heap.size := b2.size
  clear c0 c1 c2 c3 c4 c5 c6 a2 hb2 bx2 own2 b2 WA WB s1 s2
  obtain ⟨c0, c1, c2, c3, c4, c5, c6⟩ := bx3.cells
  go_wp2_with fail
  generalize w2.drewN nq = w3 at *
  refine (WN.out _ _ (by omega)).mono ?_
  rintro e w' ⟨rfl, rfl⟩
  go_wp2_with fail
  go_quiet ((first
    | (go_at_call 12; with_reducible exact quiet_left (WC.out _ _ rfl))
    | (go_at_call 12; with_reducible exact quiet_left (WD.out _ _ rfl))))
  have a4 : At (w3.drewN nq) g h 4096 L := at_drewN a3 nq
  have hb4 : Below b w (w3.drewN nq) := below_drewN hb3 nq
  have bx4 : OBox (w3.drewN nq) b d wh at_ to n wd v B O := bx3
  have own4 : (w3.drewN nq).ownsRow w1.heap.size 5 1 iv 8192 (L.map bv) := own3
  have sz4 : w1.heap.size ≤ (w3.drewN nq).heap.size := sz3
  clear c0 c1 c2 c3 c4 c5 c6 a3 hb3 bx3 own3 sz3 WC WD WN s3 s4 s5 s6
  obtain ⟨c0, c1, c2, c3, c4, c5, c6⟩ := bx4.cells
  generalize hw4 : w3.drewN nq = w4 at *
  clear hw4
  obtain ⟨gi, ci, rfl, hgi, hci, hcm, bo4⟩ := own_open own4 (by omega)
  obtain ⟨p, hp⟩ : ∃ p : Nat, 4096 * (qa : Int) + (qb : Int) = (p : Int) := ⟨4096 * qa + qb, by omega⟩
  obtain ⟨t, ht⟩ : ∃ t : Nat, 4096 * (qc : Int) + (qd : Int) = (t : Int) := ⟨4096 * qc + qd, by omega⟩
  have hTp : Hid (There 4096 8192 (p : Int) (qn : Int)) := Lib.hid (by unfold There; omega)
  have hTt : Hid (There 4096 8192 (t : Int) (qn : Int)) := Lib.hid (by unfold There; omega)
  have hp8 : p + qn ≤ 8192 := by omega
  have ht8 : t + qn ≤ 8192 := by omega
  have hqn : qn ≤ 4096 := by omega
  clear own4 bx1 hb1 a1 hwh hat hto hn hwd c1 c2 c3 c4 c5
  go_wp2_with fail
  rw [hp, ht]
  clear hp ht hqa hqb hqc hqd
  have R := readYes w4 g h 4096 L a4 (p : Int) (qn : Int) (by rw [hL.out]; exact hTp.out)
  rw [Int.toNat_natCast, Int.toNat_natCast] at R
  have hbl : ((L.drop p).take qn).length = qn := by rw [List.length_take, List.length_drop, hL.out]; omega
  obtain ⟨bs, hbsd⟩ : ∃ bs, bs = (L.drop p).take qn := ⟨_, rfl⟩
  rw [← hbsd] at R hbl
  replace R := Lib.hid R
  replace hbs := Lib.hid hbl
  clear hbl c0 c6
  replace hbsd := Lib.hid hbsd
  go_wp2_with fail
  refine R.out.mono ?_
  rintro e wr ⟨rfl, xr, br, sr⟩
  have ar : At wr g h 4096 L := at_below a4 br (heap_lt a4.head) a4.bytes.lt
  have bor : BO wr gi L := bo4.keep (br.block _ bo4.lt)
  have hbr : Below b w wr := hb4.trans (br.mono (by omega))
  go_wp2_with fail
  refine (num0.out _).mono ?_
  rintro e w' ⟨rfl, rfl⟩
  have W := moveYes wr g h 4096 L ar (t : Int) (p : Int) (qn : Int) (by rw [hL.out]; exact hTt.out) (by rw [hL.out]; exact hTp.out)
  rw [Int.toNat_natCast, Int.toNat_natCast, Int.toNat_natCast, ← hbsd.out] at W
  replace W := Lib.hid W
  go_wp2_with fail
  refine W.out.mono ?_
  rintro e w5 ⟨rfl, a5, o5, s5⟩
  have hh4 := a4.bytes.lt
  have bo5 : BO w5 gi L := bor.keep (o5.block _ bor.lt (by show ¬ gi = h; omega))
  have x5 : BB w5 5 w4.heap.size bs := (o5.block _ xr.lt (by show ¬ w4.heap.size = h; omega)).trans xr
  have hB5 : Bytes w5 w5.heap.size (some ⟨w4.heap.size, 0, none⟩) bs := x5.all _ x5.lt
  have hb5 : Below b w w5 := hbr.trans (o5.toBelow (fun x hx => ⟨by omega, by show ¬ x = h; omega⟩))
  have hsz5 : w1.heap.size ≤ w5.heap.size := by omega
  have hM : Hid (lay L t bs = L.take t ++ bs ++ L.drop (t + qn)) := Lib.hid (by unfold lay; rw [hbs.out])
  have hMl : (lay L t bs).length = 8192 := by rw [lay_len _ _ _ (by rw [hL.out, hbs.out]; omega)]; exact hL.out
  generalize lay L t bs = M at *
  clear W R x5 xr hbsd bor ar br hbr o5 s5 sr hTp hTt a4 hb4 bx4 bo4 sz4 hh4
  generalize hjj : qn = j at *
  generalize hq : t = q at *
  replace hp8 := ht8
  go_wp2_with fail
  refine (num0.out _).mono ?_
  rintro e w' ⟨rfl, rfl⟩
  have hlq : (L.take q).length = q := by rw [List.length_take, hL.out]; omega
  have C := copyC (some ⟨gi, 0, none⟩) ci (L.take q) w5 (by have := bo5.piece w5.heap.size 0 q bo5.lt (by rw [hL.out]; omega) (some ⟨gi, 0, none⟩) (fun _ => rfl); rwa [List.drop_zero] at this) (by omega)
  rw [hlq] at C
  replace C := Lib.hid C
  replace hlq := Lib.hid hlq
  have s1 : IntKind.i64.wrap ((q : Int) + (j : Int)) = ((q + j : Nat) : Int) := by rw [IntWalk.i64_in _ (by omega)]; omega
  go_wp2_with fail
  refine C.out.mono ?_
  rintro e w6 ⟨v6, rfl, own6, b6⟩
  have rA : Reads w6 w5.heap.size 1 (some ⟨w4.heap.size, 0, none⟩) j (bs.map bv) := by
    have := hB5.reads
    rw [hbs.out] at this
    exact this.below b6
  have h1 := bv_one bs
  clear C hB5
  go_wp2_with (at_builtin; refine wpList_app rfl _ _ _ rfl eiBytes w5.heap.size _ _ _ rfl own6 _ _ _ _ (bs.map bv) rfl rA h1 ?d1 ?d2 ?d3 ?_)
  case d1 => unfold maxLen; omega
  case d2 => omega
  case d3 => exact b6.size
  intro v7 w7 own7 g7 _
  have b7 : Below w5.heap.size w5 w7 := b6.grown g7 b6.size (fun x hx => (own6.lt x hx).1)
  clear own6 g7 rA h1 b6
  have bo7 : BO w7 gi L := bo5.keep (b7.block _ bo5.lt)
  have pcs : ∀ A2, (0 < 8192 - (q + j) → A2 = some ⟨gi, q + j, none⟩) → Reads w7 w7.heap.size 1 A2 (8192 - (q + j)) ((L.drop (q + j)).map bv) := by
    intro A2 hA2
    have hl2 : (L.drop (q + j)).length = 8192 - (q + j) := by rw [List.length_drop, hL.out]
    have := (bo7.piece w7.heap.size (q + j) (8192 - (q + j)) bo7.lt (by rw [hL.out]; omega) A2 hA2).reads
    rwa [List.take_of_length_le (by omega), hl2] at this
  replace pcs := Lib.hid pcs
  have h2 := bv_one (L.drop (q + j))
  by_cases hcq : ci = q + j
  all_goals
    go_wp2_with (at_builtin; refine wpList_app rfl _ _ _ rfl eiBytes w5.heap.size _ _ _ rfl own7 w7.heap.size _ (8192 - (q + j)) _ ((L.drop (q + j)).map bv) rfl (pcs.out _ (by first | exact fun _ => rfl | (intro h0; exfalso; omega))) h2 ?e1 ?e2 ?e3 ?_)
    case e1 => unfold maxLen; omega
    case e2 => omega
    case e3 => exact b7.size
    intro v8 w8 own8 g8 _
    have b8 : Below w5.heap.size w5 w8 := b7.grown g8 b7.size (fun x hx => (own7.lt x hx).1)
    have e8 : q + j + (8192 - (q + j)) = 8192 := by omega
    have own9 : w8.ownsRow w5.heap.size 5 1 v8 8192 (M.map bv) := by rw [hM.out]; simpa [e8] using own8
    clear own8 e8 own7 g8 b7 bo7 pcs h2 hM
    have a8 : At w8 g h 4096 M := at_below a5 b8 (heap_lt a5.head) a5.bytes.lt
    have hb8 : Below b w w8 := hb5.trans (b8.mono (by omega))
    have IM := Lib.hid (imageC w8 g h M a8 hMl)
    go_wp2_with fail
    refine IM.out.mono ?_
    rintro e w9 ⟨iv9, rfl, own10, b9⟩
    have own11 : w9.ownsRow w5.heap.size 5 1 v8 8192 (M.map bv) := own_below own9 b9
    obtain ⟨A9, c9, rfl, B9⟩ := own_bytes own10
    obtain ⟨A10, c10, rfl, B10⟩ := own_bytes own11
    rw [hMl]
    have hb9 : Below b w w9 := hb8.trans (b9.mono (Nat.le_trans (by omega) b8.size))
    have E := Book.eqC A9 A10 c9 c10 w9.heap.size M M w9 B9 B10
    rw [hMl] at E
    replace E := Lib.hid E
    go_wp2_with fail
    refine E.out.mono ?_
    rintro e w' ⟨rfl, rfl⟩
    go_wp2
    go_ret
    exact ⟨by simp, hbb.out.symm ▸ hb9⟩
end Go.Proofs.Ytnjobnccknpaeaa.Arena
