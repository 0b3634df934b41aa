/-
  The walks of the arena's methods: PageSize, Pages, Len, Read, Write, Fill, Move, Same, Page: what each answers, and what the bytes are behind it.
-/
import Derived.Test.YtnjobnccknpaeaaArenaThere
namespace Go.Proofs.Ytnjobnccknpaeaa.Arena
open Go.RowKit Base
set_option linter.unusedVariables false

theorem eiBytes : EI Try.prog 38 5 (.int .u8 0) 1 1 := EI.mk' Try.underlying38 (by kernel_rfl) rfl (by decide)
theorem u8size : (Try.prog.info? 5).map (·.size) = some 1 := by kernel_rfl
theorem made_one (z : Value) (n : Nat) : madeCells #[z] n = Array.replicate n z := by
  apply Array.ext
  · simp [madeCells]
  · intro i h1 h2
    simp [madeCells, Nat.mod_one]
theorem bb_made (w : World) (n : Nat) : BB (w.alloc (.cells (madeCells (Value.int .u8 0).cells (n * 1)) 5)) 5 w.heap.size (List.replicate n 0) := by
  unfold BB
  rw [heap_alloc_new, show (Value.int .u8 0).cells = #[Value.int .u8 0] from rfl, made_one, Nat.mul_one]
  simp [bv]

theorem pageSizeC (w : World) (g h page : Nat) (l : List UInt8) (a : At w g h page l) :
    Calls Try.prog 24 #[.pointer (some ⟨g, 0, none⟩)] w fun e w' => e = .returned (.int .i64 (page : Int)) ∧ w = w' := by
  have c0 := a.cell0
  go_enter Try.func24, Try.ntmps24
  go_wp2
  go_ret
  exact ⟨rfl, rfl⟩
theorem lenC (w : World) (g h page : Nat) (l : List UInt8) (a : At w g h page l) :
    Calls Try.prog 26 #[.pointer (some ⟨g, 0, none⟩)] w fun e w' => e = .returned (.int .i64 (l.length : Int)) ∧ w = w' := by
  have c1 := a.cell1
  have hs := a.small
  go_enter Try.func26, Try.ntmps26
  go_wp2
  go_ret
  exact ⟨rfl, rfl⟩
theorem pagesC (w : World) (g h page : Nat) (l : List UInt8) (a : At w g h page l) :
    Calls Try.prog 25 #[.pointer (some ⟨g, 0, none⟩)] w fun e w' => e = .returned (.int .i64 ((l.length / page : Nat) : Int)) ∧ ∃ m, w.drewN m = w' := by
  have c0 := a.cell0
  have c1 := a.cell1
  have hs := a.small
  have hp := a.pos
  have hps := a.psmall
  have hq : l.length / page ≤ l.length := Nat.div_le_self _ _
  have hq2 : (l.length : Int) / (page : Int) = ((l.length / page : Nat) : Int) := rfl
  have h0 : 0 ≤ ((l.length / page : Nat) : Int) := Int.natCast_nonneg _
  have h1 : ((l.length / page : Nat) : Int) ≤ (l.length : Int) := Int.ofNat_le.2 hq
  have hw : IntKind.i64.wrap ((l.length / page : Nat) : Int) = ((l.length / page : Nat) : Int) := IntWalk.i64_in _ (by omega)
  have ht : (l.length : Int).tdiv (page : Int) = ((l.length / page : Nat) : Int) := by rw [Int.tdiv_eq_ediv_of_nonneg (by omega)]; rfl
  have hz : (page : Int) ≠ 0 := by omega
  generalize l.length / page = q at *
  go_enter Try.func25, Try.ntmps25
  go_wp2_with fail
  go_quiet (fail)
  go_wp2
  go_ret
  exact ⟨rfl, _, rfl⟩
theorem toldC (w : World) (A : Option Addr) (c B : Nat) (l : List UInt8) (hb : Bytes w B A l) (hB : B ≤ w.heap.size) (hl : l.length ≤ 1073741824) :
    Calls Try.prog 55 #[.slice A l.length c] w fun e w' => e = .returned (.slice (some ⟨w.heap.size, 0, none⟩) l.length l.length) ∧ BB w' 5 w.heap.size l ∧ Below w.heap.size w w' ∧ w'.heap.size = w.heap.size + 1 := by
  have hmk : ∀ w : World, (Instr.makeSlice 38 (.int .i64 (l.length : Int)) (.int .i64 (l.length : Int))).run Try.prog w = .ok (.slice (some ⟨w.heap.size, 0, none⟩) l.length l.length) (w.alloc (.cells (madeCells (Value.int .u8 0).cells (l.length * 1)) 5)) :=
    fun w => EI.make eiBytes .i64 .i64 l.length l.length (by omega) (by omega) (by omega) w
  have hm := bb_made w l.length
  have hbel : Below w.heap.size w (w.alloc (.cells (madeCells (Value.int .u8 0).cells (l.length * 1)) 5)) := (Below.refl _ _).alloc (Nat.le_refl _) _
  have hb2 : Bytes (w.alloc (.cells (madeCells (Value.int .u8 0).cells (l.length * 1)) 5)) B A l := Row.alloc hb hB _
  have hsz : (w.alloc (.cells (madeCells (Value.int .u8 0).cells (l.length * 1)) 5)).heap.size = w.heap.size + 1 := World.size_alloc _ _
  generalize hO : Obj.cells (madeCells (Value.int .u8 0).cells (l.length * 1)) 5 = O at *
  clear hO
  replace hsz := Lib.hid hsz
  go_enter Try.func55, Try.ntmps55
  go_wp2_with ((refine wpList_copyB rfl _ _ _ _ rfl _ Try.underlying38 u8size _ _ _ _ _ _ rfl rfl w.heap.size 0 5 (List.replicate l.length 0) l hm (by simp) (fun _ => rfl) hb2 (by simp) ?_; intro w1 hb1 ho1 hs1))
  go_ret
  refine ⟨rfl, ?_, hbel.trans (ho1.toBelow (fun k hk => ⟨by have := hsz.out; omega, by show ¬ k = _; omega⟩)), hs1.trans hsz.out⟩
  have e : lay (List.replicate l.length 0) 0 l = l := by simp [lay]
  rwa [e] at hb1

/-- A refusal: the error's number is 20, and nothing has changed. -/
theorem readNo (w : World) (g h page : Nat) (l : List UInt8) (a : At w g h page l) (at_ n : Int) (ha : inI64 at_) (hn : inI64 n) (hno : ¬ There page l.length at_ n) :
    Calls Try.prog 20 #[.pointer (some ⟨g, 0, none⟩), .int .i64 at_, .int .i64 n] w fun e w' => e = .returned (.tuple #[.slice none 0 0, .int .i64 20]) ∧ ∃ m, w.drewN m = w' := by
  have C := Lib.hid (thereNo w g h page l a at_ n ha hn hno)
  go_enter Try.func20, Try.ntmps20
  go_wp2_with fail
  refine C.out.mono ?_
  rintro e w' ⟨rfl, m, rfl⟩
  go_wp2
  go_ret2
  exact ⟨rfl, _, rfl⟩
theorem readYes (w : World) (g h page : Nat) (l : List UInt8) (a : At w g h page l) (at_ n : Int) (hy : There page l.length at_ n) :
    Calls Try.prog 20 #[.pointer (some ⟨g, 0, none⟩), .int .i64 at_, .int .i64 n] w fun e w' =>
      e = .returned (.tuple #[.slice (some ⟨w.heap.size, 0, none⟩) n.toNat n.toNat, .int .i64 0]) ∧ BB w' 5 w.heap.size ((l.drop at_.toNat).take n.toNat) ∧ Below w.heap.size w w' ∧ w'.heap.size = w.heap.size + 1 := by
  have C := Lib.hid (thereYes w g h page l a at_ n hy)
  obtain ⟨q1, q2, q3, q4⟩ := hy
  have hs := a.small
  have hlen : ((l.drop at_.toNat).take n.toNat).length = n.toNat := by simp; omega
  have hb := a.bytes
  have hlt := hb.lt
  have T : ∀ (m : Nat) (A : Option Addr), (0 < n → A = some ⟨h, at_.toNat, none⟩) → Calls Try.prog 55 #[.slice A n.toNat n.toNat] (w.drewN m) fun e w' =>
      e = .returned (.slice (some ⟨w.heap.size, 0, none⟩) n.toNat n.toNat) ∧ BB w' 5 w.heap.size ((l.drop at_.toNat).take n.toNat) ∧ Below w.heap.size (w.drewN m) w' ∧ w'.heap.size = w.heap.size + 1 := by
    intro m A hA
    have hp := BB.piece (w := w.drewN m) hb w.heap.size at_.toNat n.toNat hlt (by omega) A (fun h0 => hA (by omega))
    have := toldC (w.drewN m) A n.toNat w.heap.size _ hp (Nat.le_refl _) (by omega)
    rw [hlen] at this
    exact this
  replace T := Lib.hid T
  go_enter Try.func20, Try.ntmps20
  go_wp2_with fail
  refine C.out.mono ?_
  rintro e w' ⟨A, rfl, hA, m, rfl⟩
  go_wp2_with fail
  refine (T.out m A hA).mono ?_
  rintro e w1 ⟨rfl, hb1, hbel, hsz⟩
  replace hsz := Lib.hid hsz
  go_wp2
  go_ret2
  exact ⟨rfl, hb1, ⟨hbel.os, hbel.tape, hbel.output, hbel.size, hbel.block⟩, hsz.out⟩

theorem writeNo (w : World) (g h page : Nat) (l : List UInt8) (a : At w g h page l) (at_ : Int) (ha : inI64 at_) (A : Option Addr) (n c : Nat) (hn : n ≤ maxLen) (hno : ¬ There page l.length at_ n) :
    Calls Try.prog 18 #[.pointer (some ⟨g, 0, none⟩), .int .i64 at_, .slice A n c] w fun e w' => e = .returned (.int .i64 20) ∧ ∃ m, w.drewN m = w' := by
  unfold maxLen at hn
  have C := Lib.hid (thereNo w g h page l a at_ n ha ⟨by omega, by omega⟩ hno)
  go_enter Try.func18, Try.ntmps18
  go_wp2_with fail
  refine C.out.mono ?_
  rintro e w' ⟨rfl, m, rfl⟩
  go_wp2
  go_ret
  exact ⟨rfl, _, rfl⟩
theorem writeYes (w : World) (g h page : Nat) (l : List UInt8) (a : At w g h page l) (at_ : Int) (A : Option Addr) (c B : Nat) (p : List UInt8) (hp : Bytes w B A p) (hy : There page l.length at_ p.length) :
    Calls Try.prog 18 #[.pointer (some ⟨g, 0, none⟩), .int .i64 at_, .slice A p.length c] w fun e w' =>
      e = .returned (.int .i64 0) ∧ At w' g h page (lay l at_.toNat p) ∧ Only (· = h) w w' ∧ w'.heap.size = w.heap.size := by
  have C := Lib.hid (thereYes w g h page l a at_ p.length hy)
  obtain ⟨q1, q2, q3, q4⟩ := hy
  have hs := a.small
  have hb := a.bytes
  go_enter Try.func18, Try.ntmps18
  go_wp2_with fail
  refine C.out.mono ?_
  rintro e w' ⟨A', rfl, hA, m, rfl⟩
  replace hA : 0 < p.length → A' = some ⟨h, at_.toNat, none⟩ := fun h0 => hA (by omega)
  have hbm : BB (w.drewN m) 5 h l := hb
  have hpm : Bytes (w.drewN m) B A p := hp
  go_wp2_with ((refine wpList_copyB rfl _ _ _ _ rfl _ Try.underlying38 u8size _ _ _ _ _ _ rfl rfl h at_.toNat 5 l p hbm (by simp) hA hpm (by omega) ?_; intro w1 hb1 ho1 hs1))
  go_ret
  refine ⟨rfl, a.turn ⟨ho1.os, ho1.tape, ho1.output, ho1.size, ho1.block⟩ hb1 (lay_len _ _ _ (by omega)), ⟨ho1.os, ho1.tape, ho1.output, ho1.size, ho1.block⟩, hs1⟩
end Go.Proofs.Ytnjobnccknpaeaa.Arena
