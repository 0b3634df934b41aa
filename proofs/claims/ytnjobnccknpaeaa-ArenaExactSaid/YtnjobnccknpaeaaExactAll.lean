/-
  The walks of pair.all and of begun.
-/
import Derived.Test.YtnjobnccknpaeaaExactTold
import Derived.Test.YtnjobnccknpaeaaArenaNew
import Derived.Test.YtnjobnccknpaeaaArenaWakes
import Derived.Test.YtnjobnccknpaeaaBookLend
namespace Go.Proofs.Ytnjobnccknpaeaa.Exact
open Go.RowKit Base Arena Held Book
set_option linter.unusedVariables false

set_option maxRecDepth 100000 in
set_option maxHeartbeats 1600000 in
theorem allC (w : World) {p N ga ha gr hr hh page : Nat} {l : List UInt8} {G : Nat → Prop} (P : Pair2 w p N ga ha gr hr hh page l l G) :
    Calls Try.prog 35 #[.pointer (some ⟨p, 0, none⟩)] w fun e w' => e = .returned (.bool true) ∧ Below w.heap.size w w' := by
  have hs := P.r.small
  have hps := P.r.psmall
  have hpos := P.r.pos
  have hz : (page : Int) ≠ 0 := by omega
  have t1 : (l.length : Int).tdiv (page : Int) = ((l.length / page : Nat) : Int) := by rw [Int.tdiv_eq_ediv_of_nonneg (by omega)]; rfl
  have b1 : l.length / page ≤ l.length := Nat.div_le_self _ _
  have S1 : ∀ (W : World), Pair2 W p N ga ha gr hr hh page l l G → ∀ n, Calls Try.prog 24 #[.pointer (some ⟨ga, 0, none⟩)] (W.drewN n) fun e w' => e = .returned (.int .i64 (page : Int)) ∧ ∃ m, w' = W.drewN m := fun W P n => quiet_left (pageSizeC _ ga ha page l (P.drewN n).a)
  have S2 : ∀ (W : World), Pair2 W p N ga ha gr hr hh page l l G → ∀ n, Calls Try.prog 25 #[.pointer (some ⟨ga, 0, none⟩)] (W.drewN n) fun e w' => e = .returned (.int .i64 ((l.length / page : Nat) : Int)) ∧ ∃ m, w' = W.drewN m := fun W P n => quiet_drew (pagesC _ ga ha page l (P.drewN n).a)
  have S3 : ∀ (W : World), Pair2 W p N ga ha gr hr hh page l l G → ∀ n, Calls Try.prog 26 #[.pointer (some ⟨ga, 0, none⟩)] (W.drewN n) fun e w' => e = .returned (.int .i64 (l.length : Int)) ∧ ∃ m, w' = W.drewN m := fun W P n => quiet_left (lenC _ ga ha page l (P.drewN n).a)
  obtain ⟨k0, k1, -⟩ := P.cells
  have c0 := P.r.cell0
  have c1 := P.r.cell1
  generalize hq : l.length / page = q at *
  have w1 : IntKind.i64.wrap (q : Int) = q := IntWalk.i64_in _ (by omega)
  replace P := Lib.hid P
  replace hq := Lib.hid hq
  replace S1 := Lib.hid S1
  replace S2 := Lib.hid S2
  replace S3 := Lib.hid S3
  go_enter Try.func35, Try.ntmps35
  go_wp2_with fail
  go_quiet (fail)
  have P2 := Lib.hid (P.out.drewN nq)
  have bw : Below w.heap.size w (w.drewN nq) := below_drewN (Below.refl _ _) nq
  clear k0 k1 c0 c1 t1 w1
  generalize w.drewN nq = w2 at *
  have T1 := Lib.hid (S1.out w2 P2.out)
  have T2 := Lib.hid (S2.out w2 P2.out)
  have T3 := Lib.hid (S3.out w2 P2.out)
  obtain ⟨k0, k1, -⟩ := P2.out.cells
  have c0 := P2.out.r.cell0
  have c1 := P2.out.r.cell1
  clear S1 S2 S3
  go_wp2_with fail
  go_quiet ((first
    | (go_at_call 24; with_reducible exact (T1.out _))
    | (go_at_call 25; with_reducible exact (T2.out _))
    | (go_at_call 26; with_reducible exact (T3.out _))))
  have P3 := Lib.hid (P2.out.drewN nq)
  have bw3 : Below w.heap.size w (w2.drewN nq) := below_drewN bw nq
  have hsz : w.heap.size ≤ (w2.drewN nq).heap.size := bw3.size
  clear k0 k1 c0 c1 T1 T2 T3 P2 bw
  generalize w2.drewN nq = w3 at *
  replace P3 := Lib.hid (show ∀ W, Below w.heap.size w W → Pair2 W p N ga ha gr hr hh page l l G from fun W hW => P.out.below hW)
  go_wp2_with fail
  go_loopw [4] (fun s wr => ∃ i : Int, -1 ≤ i ∧ i ≤ (q : Int) + 1 ∧ s = .int .i64 i ∧ Below w.heap.size w wr) (fun s _ => ((q : Int) + 1 - intOf s).toNat)
  case atStart => exact ⟨-1, by omega, by omega, rfl, bw3⟩
  case round =>
    obtain ⟨i, hi1, hi2, rfl, hb⟩ := hrel
    by_cases hlt : i ≤ (q : Int)
    · have d1 : decide (i ≤ (q : Int)) = true := by simp; omega
      have wi : IntKind.i64.wrap (i + 1) = i + 1 := IntWalk.i64_in _ (by omega)
      have Pr := P3.out _ hb
      obtain ⟨k0, -⟩ := Pr.cells
      have ii : inI64 i := by unfold inI64; omega
      have GJ := Lib.hid (pageJ Pr i ii)
      have RJ := Lib.hid (fun (W : World) (P : Pair2 W p N ga ha gr hr hh page l l G) => refWholeJ P i ii)
      have NJ := Lib.hid (numC (pgC page l.length i) (by unfold pgC inI64; split <;> omega))
      clear ii bw3 hsz
      generalize pgC page l.length i = C at *
      generalize pgL page l i = L at *
      replace Pr := Lib.hid Pr
      replace hb := Lib.hid hb
      replace wi := Lib.hid wi
      go_wp2_with fail
      refine GJ.out.mono ?_
      rintro e w4 ⟨A1, rfl, B4, b4⟩
      have hb4 : Below w.heap.size w w4 := hb.out.trans (b4.mono hb.out.size)
      have P4 := P3.out _ hb4
      obtain ⟨-, k1, -⟩ := P4.cells
      have R4 := Lib.hid (RJ.out w4 P4)
      replace B4 := Lib.hid B4
      clear GJ RJ k0 b4 Pr P4
      go_wp2_with fail
      refine R4.out.mono ?_
      rintro e w5 ⟨A5, c5, rfl, q5, -, b5⟩
      have hb5 : Below w.heap.size w w5 := hb4.trans (b5.mono hb4.size)
      have EJ : Calls Try.prog 23 #[.slice A1 L.length L.length, .slice A5 L.length c5] w5 fun e w' => e = .returned (.bool true) ∧ w5 = w' := by
        obtain ⟨A6, h6, h7⟩ := B4.out.bytes
        injection h6 with h6
        subst h6
        refine (eqC A1 A5 L.length c5 w5.heap.size L L w5 (Row.more (Row.below h7 b5) b5.size) q5).mono ?_
        rintro e w' ⟨rfl, rfl⟩
        exact ⟨by simp, rfl⟩
      replace EJ := Lib.hid EJ
      replace hb5 := Lib.hid hb5
      clear R4 k1 B4 b5 q5 hb4
      go_wp2_with fail
      refine (NJ.out _).mono ?_
      rintro e w' ⟨rfl, rfl⟩
      go_wp2_with fail
      refine EJ.out.mono ?_
      rintro e w' ⟨rfl, rfl⟩
      clear EJ NJ
      replace wi := wi.out
      go_wp2
      go_roundw
      case rel => exact ⟨i + 1, by omega, by omega, by first | rfl | go_num, hb5.out⟩
      case measure => simp [intOf]; omega
    · have d1 : decide (i ≤ (q : Int)) = false := by simp; omega
      replace hb := Lib.hid hb
      go_wp2
      go_ret
      exact ⟨rfl, hb.out⟩

theorem begun_end {w w1 w2 : World} {page : Nat} {l : List UInt8} (a1 : At w1 (w.heap.size + 1) w.heap.size page l) (b1 : Below w.heap.size w w1) (s1 : w1.heap.size = w.heap.size + 2) (r2 : AtR w2 (w1.heap.size + 1) w1.heap.size page l) (b2 : Below w1.heap.size w1 w2) (s2 : w2.heap.size = w1.heap.size + 2) :
    Pair2 ((w2.alloc (.cells #[.slice none 0 0, .slice none 0 0, .int .i64 0] 111)).alloc (.cells #[.pointer (some ⟨w.heap.size + 1, 0, none⟩), .pointer (some ⟨w1.heap.size + 1, 0, none⟩), .pointer (some ⟨w2.heap.size, 0, none⟩)] 70))
      (w2.heap.size + 1) w.heap.size (w.heap.size + 1) w.heap.size (w1.heap.size + 1) w1.heap.size w2.heap.size page l l (HF w2.heap.size (.slice none 0 0) (.slice none 0 0) [] []) ∧
    Below w.heap.size w ((w2.alloc (.cells #[.slice none 0 0, .slice none 0 0, .int .i64 0] 111)).alloc (.cells #[.pointer (some ⟨w.heap.size + 1, 0, none⟩), .pointer (some ⟨w1.heap.size + 1, 0, none⟩), .pointer (some ⟨w2.heap.size, 0, none⟩)] 70)) := by
  obtain ⟨w3, hw3⟩ : ∃ w3, w3 = w2.alloc (.cells #[.slice none 0 0, .slice none 0 0, .int .i64 0] 111) := ⟨_, rfl⟩
  have s3 : w3.heap.size = w2.heap.size + 1 := by rw [hw3]; exact World.size_alloc _ _
  have c3 : w3.heap[w2.heap.size]? = some (.cells #[.slice none 0 0, .slice none 0 0, .int .i64 0] 111 (0, 0)) := by rw [hw3]; exact heap_alloc_new _ _
  have b3 : Below w2.heap.size w2 w3 := by rw [hw3]; exact (Below.refl _ _).alloc (Nat.le_refl _) _
  rw [← hw3]
  clear hw3
  obtain ⟨w4, hw4⟩ : ∃ w4, w4 = w3.alloc (.cells #[.pointer (some ⟨w.heap.size + 1, 0, none⟩), .pointer (some ⟨w1.heap.size + 1, 0, none⟩), .pointer (some ⟨w2.heap.size, 0, none⟩)] 70) := ⟨_, rfl⟩
  have c4 : w4.heap[w2.heap.size + 1]? = some (.cells #[.pointer (some ⟨w.heap.size + 1, 0, none⟩), .pointer (some ⟨w1.heap.size + 1, 0, none⟩), .pointer (some ⟨w2.heap.size, 0, none⟩)] 70 (0, 0)) := by rw [hw4, ← s3]; exact heap_alloc_new _ _
  have b4 : Below w3.heap.size w3 w4 := by rw [hw4]; exact (Below.refl _ _).alloc (Nat.le_refl _) _
  rw [← hw4]
  clear hw4
  have b24 : Below w2.heap.size w2 w4 := b3.trans (b4.mono (by omega))
  have b14 : Below w1.heap.size w1 w4 := b2.trans (b24.mono (by omega))
  have a4 := a1.keep (b14.block _ (show w.heap.size + 1 < w1.heap.size by omega)) (b14.block _ (show w.heap.size < w1.heap.size by omega))
  have r4 := r2.keep (b24.block _ (show w1.heap.size + 1 < w2.heap.size by omega)) (b24.block _ (show w1.heap.size < w2.heap.size by omega))
  have c34 := (b4.block _ (show w2.heap.size < w3.heap.size by omega)).trans c3
  have hk : HeldOk w4 w2.heap.size w.heap.size (HF w2.heap.size (.slice none 0 0) (.slice none 0 0) [] []) :=
    ⟨_, _, _, _, [], 0, ⟨c34, World.ownsRow_nil _ _ _ _, World.ownsRow_nil _ _ _ _, .inl rfl, by simp, by simp, by simp, by simp, rfl, rfl, by omega⟩, by simp, by omega, rfl⟩
  have hn : ∀ b, b ≠ w2.heap.size → ¬ HF w2.heap.size (.slice none 0 0) (.slice none 0 0) [] [] b := by
    rintro b hb (h1 | h1 | h1 | ⟨j, u, hu, h1⟩ | ⟨j, u, hu, h1⟩)
    · exact hb h1
    · simp [Value.ownBlock] at h1
    · simp [Value.ownBlock] at h1
    · simp at hu
    · simp at hu
  exact ⟨⟨c4, a4, r4, hk, by omega, ⟨hn _ (by omega), hn _ (by omega), hn _ (by omega), hn _ (by omega), hn _ (by omega)⟩, by omega⟩, b1.trans (b14.mono (by omega))⟩

set_option maxRecDepth 100000 in
set_option maxHeartbeats 1600000 in
theorem begunC (w : World) (x y : Int) (hx : inI64 x) (hy : inI64 y) :
    Calls Try.prog 31 #[.int .i64 x, .int .i64 y] w fun e w' => ∃ (p ga ha gr hr hh page : Nat) (l : List UInt8) (G : Nat → Prop),
      e = .returned (.pointer (some ⟨p, 0, none⟩)) ∧ Pair2 w' p w.heap.size ga ha gr hr hh page l l G ∧ Below w.heap.size w w' := by
  have W1 := Lib.hid (withinC x 3 hx (by omega) (by omega) w)
  have W2 := Lib.hid (withinC y 4 hy (by omega) (by omega) w)
  have num0 := Lib.hid (numC 0 (by unfold inI64; omega))
  obtain ⟨n, hn, hn1, hn2⟩ : ∃ n : Nat, 1 + y % 4 = (n : Int) ∧ 1 ≤ n ∧ n ≤ 4 := ⟨(1 + y % 4).toNat, by omega, by omega, by omega⟩
  have wn : IntKind.i64.wrap (1 + y % 4) = (n : Int) := by rw [hn]; exact IntWalk.i64_in _ (by omega)
  replace hn := Lib.hid hn
  have h3 : x % 3 = 0 ∨ x % 3 = 1 ∨ x % 3 = 2 := by omega
  go_enter Try.func31, Try.ntmps31
  go_wp2_with fail
  refine W1.out.mono ?_
  rintro e w' ⟨rfl, rfl⟩
  rcases h3 with h3 | h3 | h3
  · have e3 : x % ((3 : Nat) : Int) = 0 := h3
    rw [e3]
    clear h3 e3
    have NJ := Lib.hid (newYes w 4096 n (by unfold RightPage; omega) hn1 (by omega))
    have RJ := fun W => refNewC W 4096 n (by omega) (by omega) (by omega)
    have hlen : (List.replicate (4096 * n) (0 : UInt8)).length ≤ 1073741824 := by simp; omega
    generalize List.replicate (4096 * n) (0 : UInt8) = l at *
    replace RJ := Lib.hid RJ
    go_wp2_with fail
    refine W2.out.mono ?_
    rintro e w' ⟨rfl, rfl⟩
    have wn' : IntKind.i64.wrap (1 + y % ((4 : Nat) : Int)) = (n : Int) := wn
    go_wp2_with fail
    refine NJ.out.mono ?_
    rintro e w1 ⟨rfl, a1, b1, s1⟩
    replace a1 := Lib.hid a1
    replace b1 := Lib.hid b1
    replace s1 := Lib.hid s1
    go_wp2_with fail
    refine (num0.out _).mono ?_
    rintro e w' ⟨rfl, rfl⟩
    go_wp2_with fail
    refine (RJ.out _).mono ?_
    rintro e w2 ⟨rfl, r2, b2, s2⟩
    have E := Lib.hid (begun_end a1.out b1.out s1.out r2 b2 s2)
    clear a1 b1 s1 r2 b2 s2 RJ NJ W1 W2 num0 hlen
    go_wp2
    go_ret
    exact ⟨_, _, _, _, _, _, _, _, _, rfl, E.out.1, E.out.2⟩
  · have e3 : x % ((3 : Nat) : Int) = 1 := h3
    rw [e3]
    clear h3 e3
    have NJ := Lib.hid (newYes w 8192 n (by unfold RightPage; omega) hn1 (by omega))
    have RJ := fun W => refNewC W 8192 n (by omega) (by omega) (by omega)
    have hlen : (List.replicate (8192 * n) (0 : UInt8)).length ≤ 1073741824 := by simp; omega
    generalize List.replicate (8192 * n) (0 : UInt8) = l at *
    replace RJ := Lib.hid RJ
    go_wp2_with fail
    refine W2.out.mono ?_
    rintro e w' ⟨rfl, rfl⟩
    have wn' : IntKind.i64.wrap (1 + y % ((4 : Nat) : Int)) = (n : Int) := wn
    go_wp2_with fail
    refine NJ.out.mono ?_
    rintro e w1 ⟨rfl, a1, b1, s1⟩
    replace a1 := Lib.hid a1
    replace b1 := Lib.hid b1
    replace s1 := Lib.hid s1
    go_wp2_with fail
    refine (num0.out _).mono ?_
    rintro e w' ⟨rfl, rfl⟩
    go_wp2_with fail
    refine (RJ.out _).mono ?_
    rintro e w2 ⟨rfl, r2, b2, s2⟩
    have E := Lib.hid (begun_end a1.out b1.out s1.out r2 b2 s2)
    clear a1 b1 s1 r2 b2 s2 RJ NJ W1 W2 num0 hlen
    go_wp2
    go_ret
    exact ⟨_, _, _, _, _, _, _, _, _, rfl, E.out.1, E.out.2⟩
  · have e3 : x % ((3 : Nat) : Int) = 2 := h3
    rw [e3]
    clear h3 e3
    have NJ := Lib.hid (newYes w 16384 n (by unfold RightPage; omega) hn1 (by omega))
    have RJ := fun W => refNewC W 16384 n (by omega) (by omega) (by omega)
    have hlen : (List.replicate (16384 * n) (0 : UInt8)).length ≤ 1073741824 := by simp; omega
    generalize List.replicate (16384 * n) (0 : UInt8) = l at *
    replace RJ := Lib.hid RJ
    go_wp2_with fail
    refine W2.out.mono ?_
    rintro e w' ⟨rfl, rfl⟩
    have wn' : IntKind.i64.wrap (1 + y % ((4 : Nat) : Int)) = (n : Int) := wn
    go_wp2_with fail
    refine NJ.out.mono ?_
    rintro e w1 ⟨rfl, a1, b1, s1⟩
    replace a1 := Lib.hid a1
    replace b1 := Lib.hid b1
    replace s1 := Lib.hid s1
    go_wp2_with fail
    refine (num0.out _).mono ?_
    rintro e w' ⟨rfl, rfl⟩
    go_wp2_with fail
    refine (RJ.out _).mono ?_
    rintro e w2 ⟨rfl, r2, b2, s2⟩
    have E := Lib.hid (begun_end a1.out b1.out s1.out r2 b2 s2)
    clear a1 b1 s1 r2 b2 s2 RJ NJ W1 W2 num0 hlen
    go_wp2
    go_ret
    exact ⟨_, _, _, _, _, _, _, _, _, rfl, E.out.1, E.out.2⟩
end Go.Proofs.Ytnjobnccknpaeaa.Exact
