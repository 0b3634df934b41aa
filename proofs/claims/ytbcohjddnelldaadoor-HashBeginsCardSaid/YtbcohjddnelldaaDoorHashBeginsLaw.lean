/-
  The walk of the law HashBegins.
-/
import Derived.Test.YtbcohjddnelldaaDoorPointsSame
import Derived.StillTailTactics
import Derived.Deep.DeepCutAuto
import Derived.Deep.DrawnRows
namespace Go.Proofs.YtbcohjddnelldaaDoor.Pts
open Go.RowKit Base Tail Digits HashPlain HashW
set_option linter.unusedVariables false

theorem tmod_emod' (i n : Int) : i.tmod n % n = i % n := by
  have h := Int.tmod_add_mul_tdiv i n
  conv => rhs; rw [← h]
  rw [Int.add_mul_emod_self_left]
/-- A number taken into [0, n). -/
theorem within (i : Int) (n : Nat) (hn : 1 ≤ n) (hn2 : n ≤ 512) : ∃ a : Nat, a < n ∧ (wrap64 (i.tmod n + n)).tmod n = (a : Int) := by
  have t1 := Int.tmod_lt_of_pos i (show 0 < (n : Int) by omega)
  have t2 := Int.lt_tmod_of_pos i (show 0 < (n : Int) by omega)
  have he : (i.tmod n + n) % n = i % n := by have := Int.add_mul_emod_self_left (i.tmod n) n 1; rw [Int.mul_one] at this; rw [this]; exact tmod_emod' i n
  have t3 := Int.emod_nonneg i (show (n : Int) ≠ 0 by omega)
  have t4 := Int.emod_lt_of_pos i (show 0 < (n : Int) by omega)
  refine ⟨(i % n).toNat, by omega, ?_⟩
  rw [IntWalk.wrap64_in _ (by omega), Int.tmod_eq_emod_of_nonneg (by omega), he]
  omega
theorem within1 (i : Int) : ∃ a : Nat, a < 512 ∧ wrap64 (1 + (wrap64 (i.tmod 512 + 512)).tmod 512) = ((a + 1 : Nat) : Int) := by
  obtain ⟨a, h, e⟩ := within i 512 (by omega) (by omega)
  refine ⟨a, h, ?_⟩
  rw [show ((512 : Nat) : Int) = 512 from rfl] at e
  rw [e, IntWalk.wrap64_in _ (by omega)]
  omega

theorem eiBytes : EI Tryd.prog 38 5 (.int .u8 0) 1 1 := EI.mk' Tryd.underlying38 (by kernel_rfl) rfl (by decide)
/-- The digits that were laid so far, and what is left of the number. -/
def DI (k y : Nat) (ds : List UInt8) : Prop := (ds = [] ∧ y = k) ∨ (0 < ds.length ∧ ((0 < y ∧ Lib.decDigits y ++ ds = Lib.decDigits k) ∨ (y = 0 ∧ ds = Lib.decDigits k)))
theorem digit_cons (y : Nat) : (y < 10 ∧ Lib.decDigits y = [UInt8.ofNat (48 + y % 10)]) ∨ (¬ y < 10 ∧ Lib.decDigits y = Lib.decDigits (y / 10) ++ [UInt8.ofNat (48 + y % 10)]) := by
  by_cases h : y < 10
  · refine .inl ⟨h, ?_⟩
    rw [Lib.decDigits, dif_pos h, Nat.mod_eq_of_lt h]
  · refine .inr ⟨h, ?_⟩
    rw [Lib.decDigits, dif_neg h]
theorem DI.step {k y : Nat} {ds : List UInt8} (h : DI k y ds) (hc : 0 < y ∨ ds = []) : DI k (y / 10) (UInt8.ofNat (48 + y % 10) :: ds) := by
  refine .inr ⟨by simp, ?_⟩
  rcases h with ⟨rfl, rfl⟩ | ⟨h0, ⟨h1, h2⟩ | ⟨rfl, h2⟩⟩
  · rcases digit_cons y with ⟨h3, h4⟩ | ⟨h3, h4⟩
    · exact .inr ⟨by omega, h4.symm⟩
    · exact .inl ⟨by omega, h4.symm⟩
  · rcases digit_cons y with ⟨h3, h4⟩ | ⟨h3, h4⟩
    · exact .inr ⟨by omega, by rw [h4] at h2; exact h2⟩
    · refine .inl ⟨by omega, ?_⟩
      rw [h4, List.append_assoc] at h2
      exact h2
  · rcases hc with h | h
    · omega
    · rw [h] at h0; simp at h0
theorem DI.short {k y : Nat} {ds : List UInt8} (h : DI k y ds) (hk : k < 1000) : ds.length ≤ 20 := by
  have h3 : (Lib.decDigits k).length ≤ 20 := by
    have := Lib.decDigits_length k
    by_cases h1 : 1 ≤ k
    · have h2 := Lib.numDigits_eq k h1 (by omega)
      split at h2 <;> omega
    · rw [this, Lib.nDigits_small (by omega)]; omega
  rcases h with ⟨rfl, rfl⟩ | ⟨h0, ⟨h1, h2⟩ | ⟨rfl, h2⟩⟩
  · simp
  · rw [← h2, List.length_append] at h3
    omega
  · rw [h2]; exact h3
def emptyOf (v : Value) : Nat := match v.ownBlock with | none => 1 | some _ => 0

theorem same_row {w w' : World} {B : Nat} {A : Option Addr} {l : List UInt8} (h : Bytes w B A l) (hh : w'.heap = w.heap) : Bytes w' B A l := Row.keep h fun p _ => by simp [World.cell?, hh]
/-- The conversion of a string, and the law's own sum of what came of it. -/
theorem conv_on (X : List UInt8) (hX : X.length ≤ 1000) : ∃ (V : World → Value) (U : World → World), (∀ W, (convert 9 38 (.string ⟨X.toArray⟩)).run Tryd.prog W = .ok (V W) (U W)) ∧
    (∀ W W', W'.heap = (U W).heap → Calls Tryd.prog 13 #[.int .u64 14695981039346656037, V W] W' fun e w' => e = .returned (.int .u64 ((sumB Begin X : Nat) : Int)) ∧ W' = w') ∧
    ∀ W, Below W.heap.size W (U W) := by
  refine ⟨fun W => .slice (some ⟨W.heap.size, 0, none⟩) X.length (grownCap W X.length 0 5), fun W => Lib.bytesWorld W 5 ⟨X.toArray⟩, fun W => ?_, fun W W' hh => ?_, fun W => ?_⟩
  · have h := Go.Lib.run_convert_string_bytes (P := Tryd.prog) W 9 38 5 ⟨X.toArray⟩ Tryd.underlying9 Tryd.underlying38 Tryd.underlying5
    have hs : (⟨X.toArray⟩ : ByteArray).size = X.length := by simp [ByteArray.size]
    rw [hs] at h
    exact h
  · obtain ⟨g, cap, hv, -, hby⟩ := (ownT_conv W 5 X (by unfold maxLen; omega)).bytes
    have hv2 := hv
    injection hv with h1 h2 h3
    have h1' : g = W.heap.size := by injection h1 with h1; injection h1 with h1; exact h1.symm
    subst h1'
    exact lawOnC Begin (by decide) _ _ _ X W' (same_row hby hh) (by unfold maxLen; omega)
  · exact ⟨rfl, rfl, rfl, by rw [Lib.bytesWorld_size]; omega, fun k hk => Lib.bytesWorld_at_old W _ _ k hk⟩

set_option maxRecDepth 100000 in
set_option maxHeartbeats 6400000 in
theorem beginsC (w : World) (ht : Tab w) (nm : List UInt8) (F M T : Int) (hnm : nm.length ≤ maxLen) (hF : -9223372036854775808 ≤ F ∧ F < 9223372036854775808) (hM : -9223372036854775808 ≤ M ∧ M < 9223372036854775808) (hT : -9223372036854775808 ≤ T ∧ T < 9223372036854775808) :
    Calls Tryd.prog 5 #[.agg #[.string ⟨nm.toArray⟩, .int .i64 F, .int .i64 M, .int .i64 T]] w fun e w' => e = .returned (.bool true) ∧ Below w.heap.size w w' := by
  unfold maxLen at hnm
  obtain ⟨f1, f2⟩ := hF
  obtain ⟨m1, m2⟩ := hM
  obtain ⟨t1, t2⟩ := hT
  have hTB := Lib.hid (Lib.tabBelow_of_tabIs ht)
  clear ht
  obtain ⟨a, ha, ea⟩ := within1 F
  obtain ⟨b, hb, eb⟩ := within1 M
  replace ea := Lib.hid ea
  replace eb := Lib.hid eb
  have hcells : ∀ i, (w.alloc (.cells #[.string ⟨nm.toArray⟩, .int .i64 F, .int .i64 M, .int .i64 T] 43)).cell? ⟨w.heap.size, i, none⟩ = (#[.string ⟨nm.toArray⟩, .int .i64 F, .int .i64 M, .int .i64 T] : Array Value)[i]? := fun i => cell_of_row _ _ _ _ 43 (0, 0) (heap_alloc_new w _)
  have k0 := hcells 0
  have k1 := hcells 1
  have k2 := hcells 2
  have k3 := hcells 3
  clear hcells
  simp only [List.getElem?_toArray, List.getElem?_cons_zero, List.getElem?_cons_succ] at k0 k1 k2 k3
  have b0 : Below w.heap.size w (w.alloc (.cells #[.string ⟨nm.toArray⟩, .int .i64 F, .int .i64 M, .int .i64 T] 43)) := (Below.refl _ _).alloc (Nat.le_refl _) _
  go_enter Tryd.func5, Tryd.ntmps5
  go_upto_region 1 with fail
  generalize w.alloc (.cells #[.string ⟨nm.toArray⟩, .int .i64 F, .int .i64 M, .int .i64 T] 43) = w1 at *
  generalize hN : w.heap.size = N at *
  replace hN := Lib.hid hN
  go_upto_if 27 with fail
  rw [ea.out, eb.out]
  clear ea eb k1 k2
  go_cut [3, 4] from 13 to 29 (fun s3 s4 wx => ∃ f m : Nat, s3 = .int .i64 (f : Int) ∧ s4 = .int .i64 (m : Int) ∧ 1 ≤ f ∧ f ≤ m ∧ m ≤ 512 ∧ w1 = wx)
  case first =>
    by_cases hab : b + 1 < a + 1
    · go_wp2
      go_meet
      exact ⟨b + 1, a + 1, rfl, rfl, by omega, by omega, by omega, rfl⟩
    · go_wp2
      go_meet
      exact ⟨a + 1, b + 1, rfl, rfl, by omega, by omega, by omega, rfl⟩
  case rest =>
    obtain ⟨f, m, rfl, rfl, hf1, hfm, hm512, rfl⟩ := hcut
    clear ha hb
    go_upto_region 6 with fail
    go_cut [39] from 13 to 38 (fun (s39 : Value) (wx : World) => ∃ q : Bool, s39 = .bool q ∧ (q = true ↔ ¬ (1 ≤ nm.length ∧ nm.length ≤ 250)) ∧ w1 = wx)
    case first =>
      by_cases hq : 1 ≤ nm.length ∧ nm.length ≤ 250
      · obtain ⟨q1, q2⟩ := hq
        have e1 : decide ((nm.length : Int) < 1) = false := by simp; omega
        have e2 : decide ((250 : Int) < nm.length) = false := by simp; omega
        go_wp2
        go_meet
        exact ⟨false, rfl, by simp [q1, q2], rfl⟩
      · rcases (show nm.length = 0 ∨ 250 < nm.length by omega) with h0 | h0
        · have e1 : decide ((nm.length : Int) < 1) = true := by simp; omega
          replace h0 := Lib.hid h0
          go_wp2
          go_meet
          exact ⟨true, rfl, by simpa using hq, rfl⟩
        · have e1 : decide ((nm.length : Int) < 1) = false := by simp; omega
          have e2 : decide ((250 : Int) < nm.length) = true := by simp; omega
          go_wp2
          go_meet
          exact ⟨true, rfl, by simpa using hq, rfl⟩
    obtain ⟨q, rfl, hq, rfl⟩ := hcut
    go_upto_if 39 with fail
    go_cut [5] from 13 to 40 (fun (s5 : Value) (wx : World) => ∃ l : List UInt8, s5 = Value.string (ByteArray.mk l.toArray) ∧ 1 ≤ l.length ∧ l.length ≤ 250 ∧ w1 = wx)
    case first =>
      cases q with
      | false =>
        have hq2 : 1 ≤ nm.length ∧ nm.length ≤ 250 := by
          apply Classical.byContradiction
          intro h
          have := hq.2 h
          simp at this
        go_wp2
        go_meet
        exact ⟨nm, rfl, hq2.1, hq2.2, rfl⟩
      | true =>
        go_wp2
        go_meet
        exact ⟨[115], rfl, by simp, by simp, rfl⟩
    case rest =>
      obtain ⟨l, rfl, hl1, hl2, rfl⟩ := hcut
      clear k0 hnm
      have P1 := Lib.hid (pointsYes w1 l f ⟨hl1, hl2⟩ ⟨hf1, by omega⟩ (hTB.out w1 b0))
      have hs1 : N ≤ w1.heap.size := by have := b0.size; rw [hN.out] at this; exact this
      go_wp2_with fail
      refine P1.out.mono ?_
      rintro e w2 ⟨rfl, r2, b2⟩
      have B2 : Below N w w2 := b0.trans (b2.mono hs1)
      have hNg : N < w1.heap.size := World.block_lt_of_cell? w1 ⟨N, 3, none⟩ k3
      have P2 := Lib.hid (pointsYes w2 l m ⟨hl1, hl2⟩ ⟨by omega, hm512⟩ (hTB.out w2 B2))
      clear P1
      generalize hg1 : w1.heap.size = g1 at *
      have hgl : g1 < w2.heap.size := r2.lt
      replace r2 := Lib.hid r2
      go_wp2_with fail
      refine P2.out.mono ?_
      rintro e w3 ⟨rfl, r3, b3⟩
      have B3 : Below N w w3 := B2.trans (b3.mono (Nat.le_trans hs1 (Nat.le_of_lt hgl)))
      have k33 : w3.cell? ⟨N, 3, none⟩ = some (.int .i64 T) := ((b2.trans (b3.mono (Nat.le_of_lt hgl))).cell (p := ⟨N, 3, none⟩) hNg).trans k3
      have r23 : NumRow w3 g1 (ptsL l f) := r2.out.below b3 hgl
      have htk : (ptsL l m).take f = ptsL l f := by
        unfold ptsL
        rw [← List.map_take, List.take_range, Nat.min_eq_left hfm]
      have hlen : (ptsL l f).length = f := by simp [ptsL]
      clear P2
      generalize hg2 : w2.heap.size = g2 at *
      have SM := sameC (some ⟨g1, 0, none⟩) (some ⟨g2, 0, none⟩) f m w3.heap.size w3.heap.size (ptsL l f) f hlen w3 (r23.nums _ r23.lt) (by rw [← htk]; exact r3.numsTake _ _ r3.lt) (by unfold maxLen; omega)
      replace SM := Lib.hid SM
      replace r3 := Lib.hid r3
      go_wp2_with fail
      refine SM.out.mono ?_
      rintro e w4 ⟨rfl, m4, hw4⟩
      have k34 : w4.cell? ⟨N, 3, none⟩ = some (.int .i64 T) := by rw [← hw4]; exact k33
      have r4 : NumRow w4 g2 (ptsL l m) := by rw [← hw4]; exact r3.out
      have B4 : Below N w w4 := by rw [← hw4]; exact below_drewN B3 _
      clear k33 k3 SM B3 B2 b2 b3 r2 r23 htk hlen b0 r3
      replace hw4 := Lib.hid hw4
      replace r4 := Lib.hid r4
      obtain ⟨k, hk, ek⟩ := within T m (by omega) hm512
      have hmz : (m : Int) ≠ 0 := by omega
      replace ek := Lib.hid ek
      go_upto_region 13 with fail
      rw [ek.out]
      have hGN : N ≤ w4.heap.size := by have := B4.size; rw [hN.out] at this; exact this
      generalize hG : w4.heap.size = G at *
      replace hG := Lib.hid hG
      clear ek
      go_wp2_with fail
      go_loopw [11, 12] (fun s11 s12 wr => ∃ (y : Nat) (ds : List UInt8), s12 = .int .i64 (y : Int) ∧ wr.ownsRow G 5 1 s11 ds.length (ds.map bv) ∧ (ds = [] → s11 = .slice none 0 0) ∧ DI k y ds ∧ y ≤ k ∧ Below G w4 wr) (fun s11 s12 _ => 2 * (intOf s12).toNat + emptyOf s11)
      case atStart => exact ⟨k, [], rfl, World.ownsRow_nil _ _ _ _, fun _ => rfl, .inl ⟨rfl, rfl⟩, Nat.le_refl _, Below.refl _ _⟩
      case round =>
        obtain ⟨y, ds, rfl, hown, hnil, hdi, hy, hb⟩ := hrel
        have hsh := hdi.short (by omega)
        have hsz : G ≤ wr.heap.size := by have := hb.size; rw [hG.out] at this; exact this
        obtain ⟨A, c, hv, hby⟩ := own_bytes hown
        subst hv
        have hbv : Value.int .u8 (48 + (y : Int) % 10) = bv (UInt8.ofNat (48 + y % 10)) := by
          unfold bv
          rw [UInt8.toNat_ofNat']
          congr 1
          omega
        have own1 : (wr.alloc (.cells #[Value.int .u8 (48 + (y : Int) % 10)] 5)).ownsRow G 5 1 (.slice (some ⟨wr.heap.size, 0, none⟩) 1 1) 1 [Value.int .u8 (48 + (y : Int) % 10)] :=
          ⟨rfl, .inr ⟨_, _, _, rfl, hsz, heap_alloc_new wr _, Nat.le_refl _, by simp [maxLen], rfl, rfl⟩⟩
        have hrd : Reads (wr.alloc (.cells #[Value.int .u8 (48 + (y : Int) % 10)] 5)) wr.heap.size 1 A ds.length (ds.map bv) := hby.reads.alloc (Nat.le_refl _) _
        have hb1 : Below G w4 (wr.alloc (.cells #[Value.int .u8 (48 + (y : Int) % 10)] 5)) := hb.alloc hsz _
        have hgw : G ≤ (wr.alloc (.cells #[Value.int .u8 (48 + (y : Int) % 10)] 5)).heap.size := by rw [World.size_alloc]; omega
        replace hbv := Lib.hid hbv
        by_cases hgo : 0 < y ∨ ds = []
        · have hst := Lib.hid (hdi.step hgo)
          clear hdi hown hby
          have hcase : (0 < y) ∨ (y = 0 ∧ ds = []) := by
            rcases hgo with h | h
            · exact .inl h
            · rcases Nat.eq_zero_or_pos y with h0 | h0
              · exact .inr ⟨h0, h⟩
              · exact .inl h0
          clear hgo
          rcases hcase with hy0 | ⟨rfl, rfl⟩
          rotate_left
          · obtain ⟨rfl, -, rfl⟩ : A = none ∧ ([] : List UInt8).length = 0 ∧ c = 0 := by
              have := hnil rfl
              simpa using this
            clear hnil
            have c1 : decide ((0 : Int) < 0) = false := by simp
            have me : 2 * (0 / 10) + 0 < 2 * 0 + emptyOf (.slice none 0 0) := by decide
            go_wp2_with (at_builtin; refine wpList_app rfl _ _ 38 rfl eiBytes G (.slice (some ⟨wr.heap.size, 0, none⟩) 1 1) 1 [Value.int .u8 (48 + ((0 : Nat) : Int) % 10)] rfl own1 wr.heap.size none 0 0 [] rfl hrd (bv_one []) (by unfold maxLen; omega) (by omega) hgw ?_)
            intro v1 w5 hown1 hgrow hob
            have hb5 : Below G w4 w5 := hb1.grown hgrow hgw (fun k hk => (own1.lt k hk).1)
            have h2 : w5.ownsRow G 5 1 v1 1 (([48] : List UInt8).map bv) := hown1
            obtain ⟨b5, c5, hv5, -⟩ := h2.form (by omega)
            have he5 : emptyOf v1 = 0 := by rw [hv5]; rfl
            replace h2 := Lib.hid h2
            clear hown1 hgrow hob own1 hrd hb1 hgw hv5
            go_wp2
            go_roundw
            case rel => exact ⟨0, [48], by go_num, h2.out, fun h => by simp at h, hst.out, by omega, hb5⟩
            case measure => rw [he5]; decide
          · have c1 : decide ((0 : Int) < y) = true := by simp; omega
            have me : 2 * (y / 10) + 0 < 2 * y + emptyOf (.slice A ds.length c) := by omega
            clear hnil
            go_wp2_with (at_builtin; refine wpList_app rfl _ _ 38 rfl eiBytes G (.slice (some ⟨wr.heap.size, 0, none⟩) 1 1) 1 [Value.int .u8 (48 + (y : Int) % 10)] rfl own1 wr.heap.size A ds.length c (ds.map bv) rfl hrd (bv_one ds) (by unfold maxLen; omega) (by omega) hgw ?_)
            intro v1 w5 hown1 hgrow hob
            have hb5 : Below G w4 w5 := hb1.grown hgrow hgw (fun k hk => (own1.lt k hk).1)
            have hl : 1 + ds.length = (UInt8.ofNat (48 + y % 10) :: ds).length := by rw [List.length_cons]; omega
            have hx : Value.int .u8 (48 + (y : Int) % 10) :: ds.map bv = (UInt8.ofNat (48 + y % 10) :: ds).map bv := by rw [hbv.out]; rfl
            rw [hx, hl] at hown1
            obtain ⟨b5, c5, hv5, -⟩ := hown1.form (by rw [List.length_cons]; omega)
            have he5 : emptyOf v1 = 0 := by rw [hv5]; rfl
            replace hown1 := Lib.hid hown1
            clear hgrow hob own1 hrd hb1 hgw hv5 hl hx
            go_wp2
            go_roundw
            case rel => exact ⟨y / 10, _, by go_num, hown1.out, fun h => by simp at h, hst.out, by omega, hb5⟩
            case measure => rw [he5]; simp [intOf]; omega
        · have hy0 : y = 0 := by omega
          subst hy0
          have hpos : 0 < ds.length := by
            rcases Nat.eq_zero_or_pos ds.length with h | h
            · exact absurd (.inr (List.eq_nil_of_length_eq_zero h)) hgo
            · exact h
          have hds : ds = Lib.decDigits k := by
            rcases hdi with ⟨h1, -⟩ | ⟨-, ⟨h1, -⟩ | ⟨-, h1⟩⟩
            · rw [h1] at hpos; simp at hpos
            · omega
            · exact h1
          have c1 : decide ((0 : Int) < 0) = false := by simp
          have c2 : decide ((ds.length : Int) = 0) = false := by simp; intro h; rw [h] at hpos; simp at hpos
          clear own1 hrd hb1 hgw hgo hdi hnil
          replace hds := Lib.hid hds
          go_wp2_with fail
          have r5 : NumRow wr g2 (ptsL l m) := r4.out.below hb (by rw [← hG.out]; exact r4.out.lt)
          have hpl : (ptsL l m).length = m := by simp [ptsL]
          have hpk : (ptsL l m)[k]'(by rw [hpl]; exact hk) = ptN l k := by simp [ptsL]
          have cc := r5.cell k (by rw [hpl]; exact hk)
          rw [hpk] at cc
          have hpt : ptN l k = pointN (sumB Begin ((l ++ [45]) ++ ds)) := by unfold ptN; rw [hds.out]; simp
          rw [hpt] at cc
          have hc1 : (⟨l.toArray⟩ : ByteArray) ++ ⟨#[45]⟩ = ⟨(l ++ [45]).toArray⟩ := cat_bytes l [45]
          have hc2 : (⟨(l ++ [45]).toArray⟩ : ByteArray) ++ ⟨ds.toArray⟩ = ⟨((l ++ [45]) ++ ds).toArray⟩ := cat_bytes (l ++ [45]) ds
          have hcs := conv_string (c := c) (show Bytes wr.drew wr.heap.size A ds from hby) Tryd.underlying38 Tryd.underlying5 9 Tryd.underlying9
          have hM := sumB_lt Begin ((l ++ [45]) ++ ds) (by decide)
          have hXl : ((l ++ [45]) ++ ds).length ≤ 1000 := by simp; omega
          clear hpk hpt hpl r5
          generalize (l ++ [45]) ++ ds = X at *
          obtain ⟨V, U, hcv, hon, hU⟩ := conv_on X hXl
          have hgl5 : g2 < wr.heap.size := Nat.lt_of_lt_of_le (by rw [← hG.out]; exact r4.out.lt) hsz
          have ccU : ∀ W : World, W.heap = wr.heap → (U W).cell? ⟨g2, k, none⟩ = some (.int .u32 (pointN (sumB Begin X) : Int)) := fun W hW => ((hU W).cell (p := ⟨g2, k, none⟩) (by rw [hW]; exact hgl5)).trans (by simp only [World.cell?, hW] at *; exact cc)
          have cc1 := ccU wr rfl
          have cc2 := ccU wr.drew rfl
          have cc3 := ccU wr.drew.drew rfl
          have PT := Lib.hid (pointC (sumB Begin X) hM)
          have P1 : ∀ W, Calls Tryd.prog 10 #[.int .u64 1] W fun e w' => e = .returned (.int .u32 1452414493) ∧ W = w' := fun W => by
            have := pointC 1 (by decide) W
            rw [show pointN 1 = 1452414493 by decide] at this
            exact this
          replace P1 := Lib.hid P1
          replace hon := Lib.hid hon
          replace hU := Lib.hid hU
          generalize sumB Begin X = S at *
          generalize pointN S = Z at *
          have hq1 : ¬ (9223372036854775807 < l.length + 1) := by omega
          have hq2 : ¬ (9223372036854775807 < l.length + 1 + ds.length) := by omega
          clear ccU hM hsh hXl
          go_region_law
            ((go_simp; first | (go_at_call 13; refine (hon.out _ _ rfl).mono ?_; rintro e w' ⟨rfl, rfl⟩) | (go_at_call 10; first | (refine (PT.out _).mono ?_; rintro e w' ⟨rfl, rfl⟩) | (refine (P1.out _).mono ?_; rintro e w' ⟨rfl, rfl⟩))))
          all_goals
            go_wp2
            go_ret
            refine ⟨by first | rfl | kernel_rfl, ?_⟩
            rw [hN.out]
            have hbN : Below N w wr := B4.trans (hb.mono hGN)
            have hbd : Below N w (U wr.drew) := (below_drewN hbN 1).trans ((hU.out wr.drew).mono (Nat.le_trans hGN hsz))
            first | exact hbd | exact below_drewN hbd _ | (trace_state; sorry)
end Go.Proofs.YtbcohjddnelldaaDoor.Pts
