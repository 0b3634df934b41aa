/-
  Due of all, and Move of any two, as the law TideHands calls them.
-/
import Derived.Test.YteebcdicocmicaaTideHandsFns
namespace Go.Proofs.Yteebcdicocmicaa.Tide
open Go.RowKit Base MapI
set_option linter.unusedVariables false

theorem WA.foot {w : World} {g : Nat} {hv : Value} {m n t : Nat} {R : List E} (h : WA w g hv m n t R) : ∀ k, Foot2 g hv m k → k < w.heap.size := by
  obtain ⟨⟨L, f, h1, h2, h3, h4⟩, h5⟩ := h
  intro k hk
  rcases hk with rfl | rfl | hk
  · exact heap_lt h1.head
  · exact h1.map.lt
  · exact (h1.own.lt k hk).2
theorem dueAll (w : World) (g : Nat) (hv : Value) (m n t i : Nat) (R : List E) (h : WA w g hv m n t R) (ri : RI R t i) (hi : i ≤ 1000) :
    Calls Try.prog 30 #[.pointer (some ⟨g, 0, none⟩), .int .i64 9223372036854775807, .int .i64 1000] w fun e w' => ∃ (v : Value) (S : List E), e = .returned v ∧ Srt S R ∧
      HL w' v (S.map E.h) ∧ (∀ b, v.ownBlock = some b → w.heap.size ≤ b) ∧ Below w.heap.size w w' := by
  refine (dueC w g hv m n t R 9223372036854775807 1000 h (by have := ri.len; omega) (by omega)).mono ?_
  rintro e w' ⟨v, S, k, rfl, hp, hs, hk, own, b⟩
  rw [due_all ri] at hp
  have hl := hp.length_eq
  have hle := ri.len
  have hk2 : k = S.length := by
    rw [hk, show (1000 : Int).toNat = 1000 from rfl]
    exact Nat.min_eq_left (by omega)
  subst hk2
  rw [List.take_length, hands_nums] at own
  exact ⟨v, S, rfl, ⟨hp, hs⟩, HL.of_own own, fun x hx => (own.lt x hx).1, b⟩
theorem has_perm {S R : List E} (h : S.Perm R) (a : Nat) : hasH S a = hasH R a := by
  unfold hasH
  rw [Bool.eq_iff_iff, List.any_eq_true, List.any_eq_true]
  exact ⟨fun ⟨x, h1, h2⟩ => ⟨x, h.mem_iff.1 h1, h2⟩, fun ⟨x, h1, h2⟩ => ⟨x, h.mem_iff.2 h1, h2⟩⟩
/-- What the row becomes. -/
def wantL (l : List Nat) (a b : Nat) (there : Bool) : List Nat := if there then giveL l a b else l
theorem moveAll (w : World) (g : Nat) (hv : Value) (m n t i : Nat) (R : List E) (a b : Nat) (h : WA w g hv m n t R) (ri : RI R t i) (hi : i ≤ 200) (hn : n ≤ 1000 * i) (ha : a < M64) (hb : b < M64) :
    Calls Try.prog 38 #[.pointer (some ⟨g, 0, none⟩), .int .u64 (a : Int), .int .u64 (b : Int)] w fun e w' => e = .returned (.bool (hasH R a)) ∧
      ∃ hv' n' R', WA w' g hv' m n' t R' ∧ Only (Foot2 g hv m) w w' ∧ (hv'.ownBlock = hv.ownBlock) ∧ n' ≤ n + 1000 ∧ RI R' t i ∧
        ∀ S, Srt S R → ∃ S', Srt S' R' ∧ S'.map E.h = wantL (S.map E.h) a b (hasH R a) := by
  have hle := ri.len
  by_cases hc : hasH R a = true ∧ a ≠ b
  · obtain ⟨hin, hne⟩ := hc
    refine (moveC w g hv m n t R a b h ha hb hne hin (by omega) (by omega)).mono ?_
    rintro e w' ⟨rfl, hv', n', wa, o, f, hn'⟩
    rw [hin]
    exact ⟨rfl, hv', n', _, wa, o, f, by omega, ri.move a b, fun S s => ⟨_, s.move a b, by rw [giveL_map S hne]; rfl⟩⟩
  · have hno : hasH R a = false ∨ a = b := by
      cases hh : hasH R a with
      | false => exact .inl rfl
      | true => exact .inr (Classical.byContradiction fun hx => hc ⟨hh, hx⟩)
    refine (moveNone w g hv m n t R a b h ha hb hno).mono ?_
    rintro e w' ⟨rfl, rfl⟩
    refine ⟨rfl, hv, n, R, h, Only.refl _ _, rfl, by omega, ri, fun S s => ⟨S, s, ?_⟩⟩
    unfold wantL
    rcases hno with hno | rfl
    · rw [hno]; rfl
    · rw [giveL_self]; split <;> rfl
theorem any_map (S : List E) (a : Nat) : (S.map E.h).any (fun x => x == a) = hasH S a := by
  unfold hasH
  rw [List.any_map]
  congr 1
end Go.Proofs.Yteebcdicocmicaa.Tide
