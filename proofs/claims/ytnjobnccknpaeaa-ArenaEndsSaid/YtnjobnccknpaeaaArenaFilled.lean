/-
  The walks of the reference's Copy and of the helpers filled and image.
-/
import Derived.Test.YtnjobnccknpaeaaArenaWithin
namespace Go.Proofs.Ytnjobnccknpaeaa.Arena
open Go.RowKit Base
set_option linter.unusedVariables false

/-- A copy owns its bytes. -/
theorem copyC (A : Option Addr) (c : Nat) (l : List UInt8) (w : World) (hb : Bytes w w.heap.size A l) (hl : l.length ≤ 1073741824) :
    Calls Try.prog 22 #[.slice A l.length c] w fun e w' => ∃ v, e = .returned v ∧ w'.ownsRow w.heap.size 5 1 v l.length (l.map bv) ∧ Below w.heap.size w w' := by
  have hmk : ∀ w : World, (Instr.makeSlice 38 (.int .i64 0) (.int .i64 (l.length : Int))).run Try.prog w = .ok (.slice (some ⟨w.heap.size, 0, none⟩) 0 l.length) (w.alloc (.cells (madeCells (Value.int .u8 0).cells (l.length * 1)) 5)) :=
    fun w => EI.make eiBytes .i64 .i64 0 l.length (by omega) (by omega) (by omega) w
  have h1 := bv_one l
  have hown0 : (w.alloc (.cells (madeCells (Value.int .u8 0).cells (l.length * 1)) 5)).ownsRow w.heap.size 5 1 (.slice (some ⟨w.heap.size, 0, none⟩) 0 l.length) 0 [] :=
    World.ownsRow_made w _ _ (Nat.le_refl _) (by unfold maxLen; omega) (by simp [madeCells])
  have hr0 := hb.reads.alloc (Nat.le_refl _) (.cells (madeCells (Value.int .u8 0).cells (l.length * 1)) 5)
  have hbel0 : Below w.heap.size w (w.alloc (.cells (madeCells (Value.int .u8 0).cells (l.length * 1)) 5)) := (Below.refl _ _).alloc (Nat.le_refl _) _
  generalize hO : Obj.cells (madeCells (Value.int .u8 0).cells (l.length * 1)) 5 = O at *
  clear hO
  go_enter Try.func22, Try.ntmps22
  go_wp2_with (at_builtin; refine wpList_app rfl _ _ _ rfl eiBytes w.heap.size _ _ _ rfl hown0 w.heap.size A l.length c (l.map bv) rfl hr0 h1 ?c1 ?c2 ?c3 ?_)
  case c1 => unfold maxLen; omega
  case c2 => omega
  case c3 => simp
  intro v1 w1 hown1 hg1 _
  have hbel1 : Below w.heap.size w w1 := hbel0.grown hg1 (by simp) (fun k hk => by simp [Value.ownBlock] at hk; omega)
  clear hg1 hr0 hbel0 hown0 hmk
  go_wp2
  go_ret
  exact ⟨v1, rfl, by simpa using hown1, hbel1⟩

/-- Two pages, told one behind the other. -/
theorem imageC (w : World) (g h : Nat) (L : List UInt8) (a : At w g h 4096 L) (hL : L.length = 8192) :
    Calls Try.prog 17 #[.pointer (some ⟨g, 0, none⟩)] w fun e w' => ∃ v, e = .returned v ∧ w'.ownsRow w.heap.size 5 1 v 8192 (L.map bv) ∧ Below w.heap.size w w' := by
  have P0 := Lib.hid (pageYes w g h 4096 L a 0 (by rw [hL]; decide))
  have P1 : ∀ w', At w' g h 4096 L → _ := fun w' a' => pageYes w' g h 4096 L a' 1 (by rw [hL]; decide)
  replace P1 := Lib.hid P1
  have num0 := Lib.hid (numC 0 (by unfold inI64; omega))
  have hsplit : (L.drop (0 * 4096)).take 4096 ++ (L.drop (1 * 4096)).take 4096 = L := by
    rw [Nat.zero_mul, Nat.one_mul, List.drop_zero]
    rw [List.take_of_length_le (l := L.drop 4096) (by simp; omega), List.take_append_drop]
  have l0 : ((L.drop (0 * 4096)).take 4096).length = 4096 := by simp; omega
  have l1 : ((L.drop (1 * 4096)).take 4096).length = 4096 := by simp; omega
  generalize (L.drop (0 * 4096)).take 4096 = X at *
  generalize (L.drop (1 * 4096)).take 4096 = Y at *
  replace hsplit := Lib.hid hsplit
  have hgl := heap_lt a.head
  have hhl := a.bytes.lt
  replace l0 := Lib.hid l0
  replace l1 := Lib.hid l1
  replace hL := Lib.hid hL
  go_enter Try.func17, Try.ntmps17
  go_wp2_with fail
  refine P0.out.mono ?_
  rintro e w1 ⟨rfl, x1, b1, s1⟩
  have a1 : At w1 g h 4096 L := a.keep (b1.block _ hgl) (b1.block _ hhl)
  replace s1 := Lib.hid s1
  go_wp2_with fail
  refine (P1.out _ a1).mono ?_
  rintro e w2 ⟨rfl, y2, b2, s2⟩
  have x2 : BB w2 5 w.heap.size X := (b2.block _ x1.lt).trans x1
  have bb2 : Below w.heap.size w w2 := b1.trans (b2.mono b1.size)
  rw [s1.out] at y2
  replace s2 := Lib.hid s2
  clear b1 b2
  go_wp2_with fail
  refine (num0.out _).mono ?_
  rintro e w' ⟨rfl, rfl⟩
  go_wp2_with fail
  refine (num0.out _).mono ?_
  rintro e w' ⟨rfl, rfl⟩
  have C := copyC (some ⟨w.heap.size, 0, none⟩) 4096 X w2 (x2.all _ x2.lt) (by rw [l0.out]; omega)
  rw [l0.out] at C
  replace C := Lib.hid C
  rw [s1.out]
  go_wp2_with fail
  refine C.out.mono ?_
  rintro e w3 ⟨v, rfl, own3, b3⟩
  have y3 : BB w3 5 (w.heap.size + 1) Y := (b3.block _ y2.lt).trans y2
  have bb3 : Below w.heap.size w w3 := bb2.trans (b3.mono bb2.size)
  have rY : Reads w3 (w.heap.size + 2) 1 (some ⟨w.heap.size + 1, 0, none⟩) 4096 (Y.map bv) := by
    have := (y3.all (w.heap.size + 2) (by omega)).reads
    rwa [l1.out] at this
  have h1 := bv_one Y
  have hsz : w.heap.size ≤ w2.heap.size := bb2.size
  have own3' : w3.ownsRow w.heap.size 5 1 v 4096 (X.map bv) := ⟨own3.1, by
    rcases own3.2 with hh | ⟨g', cap', cur', e1, e2, e3⟩
    · exact .inl hh
    · exact .inr ⟨g', cap', cur', e1, Nat.le_trans hsz e2, e3⟩⟩
  clear b3 own3 x2 y2 y3
  go_wp2_with (at_builtin; refine wpList_app rfl _ _ _ rfl eiBytes w.heap.size _ _ _ rfl own3' _ _ 4096 4096 (Y.map bv) rfl rY h1 ?c1 ?c2 ?c3 ?_)
  case c1 => unfold maxLen; omega
  case c2 => omega
  case c3 => exact bb3.size
  intro v4 w4 own4 g4 _
  have bb4 : Below w.heap.size w w4 := bb3.grown g4 bb3.size (fun k hk => (own3'.lt k hk).1)
  clear g4 own3'
  go_wp2
  go_ret
  refine ⟨v4, rfl, ?_, bb4⟩
  rw [← hsplit.out, List.map_append]
  exact own4

theorem byte_some (x : Int) (h : 0 ≤ x) (h2 : x < 256) : ∃ b : UInt8, x = (b.toNat : Int) := ⟨UInt8.ofNat x.toNat, by rw [ofNat_toNat]; omega⟩
theorem at_below {w w' : World} {g h page B : Nat} {l : List UInt8} (a : At w g h page l) (b : Below B w w') (hg : g < B) (hh : h < B) : At w' g h page l := a.keep (b.block g hg) (b.block h hh)

set_option maxRecDepth 100000 in
set_option maxHeartbeats 800000 in
theorem filledC (w : World) : Calls Try.prog 16 #[] w fun e w' => ∃ g h L, e = .returned (.pointer (some ⟨g, 0, none⟩)) ∧ At w' g h 4096 L ∧ L.length = 8192 ∧ w.heap.size ≤ g ∧ w.heap.size ≤ h ∧ Below w.heap.size w w' := by
  have N := Lib.hid (newYes w 4096 2 (by unfold RightPage; omega) (by omega) (by omega))
  have num0 := Lib.hid (numC 0 (by unfold inI64; omega))
  go_enter Try.func16, Try.ntmps16
  go_wp2_with fail
  refine N.out.mono ?_
  rintro e w1 ⟨rfl, a1, hb1, hs1⟩
  have lZ : (List.replicate (4096 * 2) (0 : UInt8)).length = 8192 := by simp
  generalize List.replicate (4096 * 2) (0 : UInt8) = Z at *
  have hw : w.heap.size ≤ w.heap.size + 1 := Nat.le_succ _
  have hglt : w.heap.size + 1 < w1.heap.size := by omega
  replace hs1 := Lib.hid hs1
  have hh0 : Hid (w.heap.size ≤ w.heap.size) := Lib.hid (Nat.le_refl _)
  have hg0 : Hid (w.heap.size ≤ w.heap.size + 1) := Lib.hid (Nat.le_succ _)
  clear hw N
  go_wp2_with fail
  refine (num0.out _).mono ?_
  rintro e w' ⟨rfl, rfl⟩
  generalize hg : w.heap.size + 1 = g at *
  generalize hh : w.heap.size = h at *
  replace hg := Lib.hid hg
  replace hh := Lib.hid hh
  have hhg : h < w1.heap.size := by have := hg.out; omega
  go_wp2
  go_loopw [3] (fun i wr => ∃ (k : Nat) (L : List UInt8), k ≤ 2 ∧ i = .int .i64 (k : Int) ∧ At wr g h 4096 L ∧ Hid (L.length = 8192) ∧ Below h w wr ∧ w1.heap.size ≤ wr.heap.size) (fun i _ => 2 - (intOf i).toNat)
  case atStart => exact ⟨0, Z, by omega, rfl, a1, Lib.hid lZ, hb1, Nat.le_refl _⟩
  case round =>
    obtain ⟨k, L, hk, rfl, ak, hL, bk, sk⟩ := hrel
    clear a1 hb1 lZ
    by_cases hlt : k < 2
    · have hd2 : decide ((k : Int) < 2) = true := by simp; omega
      obtain ⟨wo, hwo⟩ : ∃ wo : World, wo = wr := ⟨_, rfl⟩
      rw [← hwo] at ak bk sk
      have bo : Below wo.heap.size wo wr := by rw [hwo]; exact Below.refl _ _
      have ho0 : wr.ownsRow wo.heap.size 5 1 (.slice none 0 0) 0 [] := World.ownsRow_nil _ _ _ _
      replace hwo := Lib.hid hwo
      go_wp2
      go_loopw [4, 5] (fun v i wq => ∃ (j : Nat) (bs : List UInt8), j ≤ 4096 ∧ i = .int .i64 (j : Int) ∧ Hid (bs.length = j) ∧ wq.ownsRow wo.heap.size 5 1 v j (bs.map bv) ∧ Below wo.heap.size wo wq) (fun _ i _ => 4096 - (intOf i).toNat)
      case atStart => exact ⟨0, [], by omega, rfl, Lib.hid rfl, ho0, bo⟩
      case round =>
        obtain ⟨j, bs, hj, rfl, hbs, own, bq⟩ := hrel
        clear ho0 bo
        by_cases hjl : j < 4096
        · obtain ⟨b, hb⟩ := byte_some (1 + (7 * (j : Int) + (j : Int) / 251 + (k : Int)) % 250) (by omega) (by omega)
          have hbz := bq.size
          go_wp2_with (first
            | (at_builtin; refine wpList_app rfl _ _ _ rfl eiBytes wo.heap.size _ _ _ rfl (own.alloc _) (wr.heap.size + 1) (some ⟨wr.heap.size, 0, none⟩) 1 1 [bv b] rfl ?c1 ?c2 ?c3 ?c4 ?c5 ?_))
          case c1 => exact ⟨rfl, fun _ => ⟨_, rfl, by show wr.heap.size < _; omega, fun i u hu => by match i, hu with | 0, hu => simp at hu; subst hu; simp [Addr.add, bv]⟩⟩
          case c2 => intro u hu; simp at hu; subst hu; rfl
          case c3 => unfold maxLen; omega
          case c4 => omega
          case c5 => simp; omega
          intro v2 w2 own2 g2 _
          have bq2 : Below wo.heap.size wo w2 := (bq.alloc hbz _).grown g2 (by simp; omega) (fun x hx => (own.lt x hx).1)
          have own3 : w2.ownsRow wo.heap.size 5 1 v2 (j + 1) ((bs ++ [b]).map bv) := by simpa using own2
          clear own2 g2 own hb
          go_wp2
          go_roundw
          case rel => first | exact ⟨j + 1, bs ++ [b], by omega, by go_num, Lib.hid (by rw [List.length_append, hbs.out]; rfl), own3, bq2⟩ | ((repeat apply Exists.intro); exact ⟨⟨j + 1, bs ++ [b], by omega, by go_num, Lib.hid (by rw [List.length_append, hbs.out]; rfl), own3, bq2⟩, rfl⟩)
          case measure => simp [intOf]; omega
        · obtain rfl : j = 4096 := by omega
          have hbs' := hbs.out
          obtain ⟨A, c, hv, hB⟩ := own_bytes own
          rw [hbs'] at hv
          subst hv
          have ar : At wr g h 4096 L := at_below ak bq (by omega) (by omega)
          have W := writeYes wr g h 4096 L ar (4096 * (k : Int)) A c _ bs hB (by rw [hL.out, hbs']; unfold There; omega)
          rw [hbs'] at W
          replace W := Lib.hid W
          have hlay : Hid ((lay L (4096 * (k : Int)).toNat bs).length = 8192) := Lib.hid (by rw [lay_len _ _ _ (by rw [hL.out, hbs']; omega)]; exact hL.out)
          have bwr : Below h w wr := bk.trans (bq.mono (by omega))
          have hsz := bq.size
          generalize lay L (4096 * (k : Int)).toNat bs = L2 at *
          clear hbs' hbs own hB
          go_wp2_with fail
          refine W.out.mono ?_
          rintro e w3 ⟨rfl, a3, o3, s3⟩
          have b3 : Below h w w3 := bwr.trans (o3.toBelow (fun x hx => ⟨by omega, by show ¬ x = h; omega⟩))
          replace s3 := Lib.hid s3
          go_wp2_with fail
          refine (num0.out _).mono ?_
          rintro e w' ⟨rfl, rfl⟩
          go_wp2
          go_roundw
          case rel => exact ⟨k + 1, L2, by omega, by go_num, a3, hlay, b3, by rw [s3.out]; omega⟩
          case measure => simp [intOf]; omega
    · obtain rfl : k = 2 := by omega
      go_wp2
      go_ret
      exact ⟨g, h, L, rfl, ak, hL.out, by have := hg.out; have := hh.out; omega, by have := hh.out; omega, hh.out.symm ▸ bk⟩
end Go.Proofs.Ytnjobnccknpaeaa.Arena
