/-
  The walk of Release.
-/
import Derived.Test.YtgodinapdahocaaClassLeave
namespace Go.Proofs.Ytgodinapdahocaa.Cls
open Go.RowKit Base MapG
set_option linter.unusedVariables false

theorem releaseArg (w : World) (L : Lay) (c : Conf) (s : St) (bs : List UInt8) (h : SetAt w L c s bs) (i : Int) (hp : ∀ j, pageN c.cf s i = some j → s.lvs j = false) :
    Calls Try.prog 32 #[.pointer (some ⟨L.g, 0, none⟩), .int .i64 i] w fun e w' => e = .returned (.int .i64 1) ∧ w = w' := by
  have OC := ownedC w L c s bs h i
  cases hq : pageN c.cf s i with
  | none =>
    rw [hq] at OC
    unfold pageV at OC
    simp only at OC
    replace OC := Lib.hid OC
    clear h hq hp
    go_enter Try.func32, Try.ntmps32
    go_wp2_with fail
    refine OC.out.mono ?_
    rintro e w' ⟨rfl, rfl⟩
    go_wp2
    go_ret
    exact ⟨rfl, rfl⟩
  | some j =>
    have hl := hp j hq
    obtain ⟨-, hj, -⟩ := pageN_some hq
    rw [hq] at OC
    unfold pageV at OC
    simp only at OC
    have p1 := h.p1 hj
    rw [hl] at p1
    replace OC := Lib.hid OC
    clear h hq hp hl
    go_enter Try.func32, Try.ntmps32
    go_wp2_with fail
    refine OC.out.mono ?_
    rintro e w' ⟨rfl, rfl⟩
    go_wp2
    go_ret
    exact ⟨rfl, rfl⟩
theorem releaseBusy (w : World) (L : Lay) (c : Conf) (s : St) (bs : List UInt8) (h : SetAt w L c s bs) (i : Nat) (h1 : i < c.cf.np) (h2 : s.own i = true) (h3 : s.lvs i = true) (h4 : 0 < s.held i) :
    Calls Try.prog 32 #[.pointer (some ⟨L.g, 0, none⟩), .int .i64 (i : Int)] w fun e w' => e = .returned (.int .i64 10) ∧ w = w' := by
  have OC := ownedC w L c s bs h (i : Int)
  rw [pageN_nat h1 h2] at OC
  unfold pageV at OC
  simp only at OC
  have p1 := h.p1 h1
  have p5 := h.p5 h1
  rw [h3] at p1
  have d1 : decide (0 < (s.held i : Int)) = true := decide_eq_true (by omega)
  have d1' : decide (0 < s.held i) = true := decide_eq_true h4
  replace OC := Lib.hid OC
  clear h h1 h2 h3 h4
  go_enter Try.func32, Try.ntmps32
  go_wp2_with fail
  refine OC.out.mono ?_
  rintro e w' ⟨rfl, rfl⟩
  go_wp2
  go_ret
  exact ⟨rfl, rfl⟩
/-- m generations of page i are kept. -/
def relS (d : Cf) (s : St) (i m : Nat) : St := { s with old := upd s.old i (fun x => if x % d.sz (s.cls i) = 0 ∧ x / d.sz (s.cls i) < m then s.gens i (x / d.sz (s.cls i)) else s.old i x), om := upd s.om i (s.om i + m) }
theorem relS_zero (d : Cf) (s : St) (i : Nat) : relS d s i 0 = s := by
  unfold relS
  have : (fun x => if x % d.sz (s.cls i) = 0 ∧ x / d.sz (s.cls i) < 0 then s.gens i (x / d.sz (s.cls i)) else s.old i x) = s.old i := by
    funext x
    rw [if_neg (fun h => absurd h.2 (Nat.not_lt_zero _))]
  rw [this, Nat.add_zero, upd_self, upd_self]
/-- A page that kept nothing has a map. -/
theorem SetAt.newMap {w : World} {L : Lay} {c : Conf} {s : St} {bs : List UInt8} (h : SetAt w L c s bs) (i : Nat) (hi : i < c.cf.np) (hO : L.O i = none) :
    SetAt ((w.alloc (.map #[] 0)).setCell ⟨L.gp, i * 7 + 6, none⟩ (.map (some w.heap.size))) { L with O := upd L.O i (some w.heap.size) } c s bs ∧
      Went w ((w.alloc (.map #[] 0)).setCell ⟨L.gp, i * 7 + 6, none⟩ (.map (some w.heap.size))) L { L with O := upd L.O i (some w.heap.size) } c s s := by
  have hlt := h.pagesB.lt
  have o0 : Only (· = L.gp) w ((w.alloc (.map #[] 0)).setCell ⟨L.gp, i * 7 + 6, none⟩ (.map (some w.heap.size))) := ((Only.refl (· = L.gp) w).alloc _).setCell (p := ⟨L.gp, i * 7 + 6, none⟩) (fun _ => rfl) _
  have hold := h.oldB hi
  rw [hO] at hold
  obtain ⟨hm0, hf0⟩ := hold
  have hM : MapG ((w.alloc (.map #[] 0)).setCell ⟨L.gp, i * 7 + 6, none⟩ (.map (some w.heap.size))) w.heap.size 0 (fun _ => none) :=
    (MapG.made w).kept (Below.heap_setCell _ ⟨L.gp, i * 7 + 6, none⟩ _ w.heap.size (by show w.heap.size ≠ L.gp; omega))
  have hG := (h.pagesB.only (w' := w.alloc (.map #[] 0)) (S := fun _ => False) ((Only.refl _ w).alloc _) (fun e => e)).set i 6 hi (by omega) (.map (some w.heap.size))
  have hat : ∀ q, ¬ (q = Part.pages ∨ q = .old i) → ∀ b', Lay.blk { L with O := upd L.O i (some w.heap.size) } c.cf s q = some b' → L.blk c.cf s q = some b' := by
    intro q hq b' e
    cases q with
    | old j =>
      have hj : j ≠ i := fun e => hq (.inr (by rw [e]))
      have e' : (if j < c.cf.np then upd L.O i (some w.heap.size) j else none) = some b' := e
      rw [upd_ne _ _ hj] at e'
      exact e'
    | pages => exact absurd (.inl rfl) hq
    | _ => exact e
  have eo : Lay.blk { L with O := upd L.O i (some w.heap.size) } c.cf s (.old i) = some w.heap.size := by
    show (if i < c.cf.np then upd L.O i (some w.heap.size) i else none) = _
    rw [if_pos hi, upd_at]
  refine ⟨h.turns (fun p => p = .pages ∨ p = .old i) o0 (fun b e _ => ⟨.pages, .inl rfl, by rw [e]; rfl⟩) ?_ ?_ hat ?_ rfl, ⟨o0.mono fun b _ e => ⟨.pages, by rw [e]; rfl⟩, ?_⟩⟩
  · rintro p (rfl | rfl)
    · refine hG.congr fun a b _ hb => ?_
      unfold put2
      by_cases he : a = i ∧ b = 6
      · obtain ⟨rfl, rfl⟩ := he
        rw [if_pos ⟨rfl, rfl⟩]
        show _ = Value.map (upd L.O a (some w.heap.size) a)
        rw [upd_at]
      · rw [if_neg he]
        obtain rfl | rfl | rfl | rfl | rfl | rfl | rfl : b = 0 ∨ b = 1 ∨ b = 2 ∨ b = 3 ∨ b = 4 ∨ b = 5 ∨ b = 6 := by omega
        all_goals first | rfl | skip
        have : a ≠ i := fun e => he ⟨e, rfl⟩
        show Value.map (L.O a) = Value.map (upd L.O i (some w.heap.size) a)
        rw [upd_ne _ _ this]
    · intro _
      show OldAt _ (upd L.O i (some w.heap.size) i) _ _
      rw [upd_at, hm0]
      exact ⟨_, hM, fun x => (hf0 x).symm⟩
  · intro q hq hp
    cases q with
    | old j =>
      have hj : j ≠ i := fun e => hq (.inr (by rw [e]))
      intro hh
      show OldAt _ (upd L.O i (some w.heap.size) j) _ _
      rw [upd_ne _ _ hj]
      exact hp hh
    | pages => exact absurd (.inl rfl) hq
    | _ => exact hp
  · rintro p b (rfl | rfl) e
    · exact .inl e
    · rw [eo] at e
      injection e with e
      refine .inr ⟨by omega, ?_⟩
      rintro q (rfl | rfl) e2
      · injection e2 with e2
        have : L.gp = b := e2
        omega
      · rfl
  · rintro b ⟨p, hp⟩
    by_cases hpo : p = .old i
    · subst hpo
      rw [eo] at hp
      injection hp with hp
      exact .inr (by omega)
    · by_cases hpp : p = .pages
      · subst hpp; exact .inl ⟨.pages, hp⟩
      · exact .inl ⟨p, hat p (fun h => h.elim hpp hpo) b hp⟩
/-- One more generation is kept. -/
theorem SetAt.putOld {w w' : World} {L : Lay} {c : Conf} {s : St} {bs : List UInt8} {i m b : Nat} (h : SetAt w L c (relS c.cf s i m) bs) (hi : i < c.cf.np) (hz : 1 ≤ c.cf.sz (s.cls i)) (hO : L.O i = some b) {n : Nat} {f : Nat → Option Nat}
    (hf : ∀ x, (f x).getD 0 = (relS c.cf s i m).old i x) (hn : n = s.om i + m) (o : Only (· = b) w w') (hM : MapG w' b (n + 1) (put f (m * c.cf.sz (s.cls i)) (s.gens i m))) : SetAt w' L c (relS c.cf s i (m + 1)) bs := by
  have hb : L.blk c.cf (relS c.cf s i m) (.old i) = some b := by
    show (if i < c.cf.np then L.O i else none) = _
    rw [if_pos hi, hO]
  refine h.turn (.old i) o (fun b' e _ => by rw [e]; exact hb) ?_ ?_ ?_ (fun b' e => .inl e) rfl
  · intro _
    show OldAt w' (L.O i) (upd s.om i (s.om i + (m + 1)) i) (upd s.old i _ i)
    rw [hO, upd_at, upd_at, ← Nat.add_assoc, ← hn]
    refine ⟨_, hM, fun x => ?_⟩
    unfold put
    show (if x = m * c.cf.sz (s.cls i) then some (s.gens i m) else f x).getD 0 = if x % c.cf.sz (s.cls i) = 0 ∧ x / c.cf.sz (s.cls i) < m + 1 then s.gens i (x / c.cf.sz (s.cls i)) else s.old i x
    by_cases hx : x = m * c.cf.sz (s.cls i)
    · subst hx
      rw [if_pos rfl, if_pos ⟨Nat.mul_mod_left _ _, by rw [Nat.mul_div_cancel _ hz]; omega⟩, Nat.mul_div_cancel _ hz]
      rfl
    · rw [if_neg hx, hf x]
      show upd s.old i (fun x => if x % c.cf.sz (s.cls i) = 0 ∧ x / c.cf.sz (s.cls i) < m then s.gens i (x / c.cf.sz (s.cls i)) else s.old i x) i x = _
      rw [upd_at]
      by_cases h1 : x % c.cf.sz (s.cls i) = 0 ∧ x / c.cf.sz (s.cls i) < m
      · rw [if_pos h1, if_pos ⟨h1.1, by omega⟩]
      · rw [if_neg h1]
        by_cases h2 : x % c.cf.sz (s.cls i) = 0 ∧ x / c.cf.sz (s.cls i) < m + 1
        · exfalso
          have h3 : x / c.cf.sz (s.cls i) = m := by
            rcases Nat.lt_or_ge (x / c.cf.sz (s.cls i)) m with h | h
            · exact absurd ⟨h2.1, h⟩ h1
            · omega
          have h4 := Nat.div_add_mod x (c.cf.sz (s.cls i))
          rw [h2.1, h3, Nat.add_zero, Nat.mul_comm] at h4
          exact hx h4.symm
        · rw [if_neg h2]
  · intro q hq hp
    cases q with
    | old j =>
      have hj : j ≠ i := fun e => hq (by rw [e])
      intro hh
      have := hp hh
      show OldAt w (L.O j) (upd s.om i _ j) (upd s.old i _ j)
      have h' : OldAt w (L.O j) (upd s.om i (s.om i + m) j) (upd s.old i _ j) := this
      rw [upd_ne _ _ hj, upd_ne _ _ hj] at h' ⊢
      exact h'
    | _ => exact hp
  · intro q hq b' e
    cases q with
    | old j => exact e
    | _ => exact e
/-- The page is nobody's. -/
def goneS (s : St) (i : Nat) : St := { s with own := upd s.own i false, lvs := upd s.lvs i false, cls := upd s.cls i 0, held := upd s.held i 0 }
theorem SetAt.gone {w w' : World} {L : Lay} {c : Conf} {s : St} {bs : List UInt8} (h : SetAt w L c s bs) (i : Nat) (hi : i < c.cf.np) (o : Only (· = L.gp) w w')
    (hG : Grid w' L.gp 104 c.cf.np 7 (fun a b => if a = i then pv c.cf L (goneS s i) i b else pv c.cf L s a b)) : SetAt w' L c (goneS s i) bs ∧ Went w w' L L c s (goneS s i) := by
  have hat : ∀ q b', L.blk c.cf (goneS s i) q = some b' → L.blk c.cf s q = some b' := by
    intro q b' e
    cases q with
    | gens j =>
      by_cases hj : j = i
      · subst hj
        rw [Lay.blk, if_neg (fun hh => by have h2 : upd s.own j false j = true := hh.2; rw [upd_at] at h2; cases h2)] at e
        cases e
      · have e' : (if j < c.cf.np ∧ upd s.own i false j = true then some (L.G j) else none) = some b' := e
        rw [upd_ne _ _ hj] at e'
        exact e'
    | tkn j =>
      by_cases hj : j = i
      · subst hj
        rw [Lay.blk, if_neg (fun hh => by have h2 : upd s.own j false j = true := hh.2; rw [upd_at] at h2; cases h2)] at e
        cases e
      · have e' : (if j < c.cf.np ∧ upd s.own i false j = true then some (L.T j) else none) = some b' := e
        rw [upd_ne _ _ hj] at e'
        exact e'
    | _ => exact e
  refine ⟨h.turn .pages o (fun b e _ => by rw [e]; rfl) (hG.congr fun a b _ hb => ?_) ?_ (fun q _ b e => hat q b e) (fun b e => .inl e) rfl, ⟨o.mono fun b _ e => ⟨.pages, by rw [e]; rfl⟩, fun b ⟨p, hp⟩ => .inl ⟨p, hat p b hp⟩⟩⟩
  · by_cases ha : a = i
    · rw [if_pos ha, ha]
    · rw [if_neg ha]
      obtain rfl | rfl | rfl | rfl | rfl | rfl | rfl : b = 0 ∨ b = 1 ∨ b = 2 ∨ b = 3 ∨ b = 4 ∨ b = 5 ∨ b = 6 := by omega
      · exact congrArg Value.bool (upd_ne s.own false ha).symm
      · exact congrArg Value.bool (upd_ne s.lvs false ha).symm
      · show Value.int .i64 (s.cls a : Int) = .int .i64 ((upd s.cls i 0 a : Nat) : Int)
        rw [upd_ne _ _ ha]
      · show rowV c.cf s L.G a = rowV c.cf (goneS s i) L.G a
        unfold rowV goneS
        simp only [upd_ne _ _ ha]
      · show rowV c.cf s L.T a = rowV c.cf (goneS s i) L.T a
        unfold rowV goneS
        simp only [upd_ne _ _ ha]
      · show Value.int .i64 (s.held a : Int) = .int .i64 ((upd s.held i 0 a : Nat) : Int)
        rw [upd_ne _ _ ha]
      · rfl
  · intro q hq hp
    cases q with
    | gens j =>
      rintro ⟨hj1, hj2⟩
      have hji : j ≠ i := fun e => by
        subst e
        have h2 : upd s.own j false j = true := hj2
        rw [upd_at] at h2
        cases h2
      have h2 : upd s.own i false j = true := hj2
      rw [upd_ne _ _ hji] at h2
      have := hp ⟨hj1, h2⟩
      show Grid w (L.G j) _ (c.cf.n (upd s.cls i 0 j)) 1 _
      rw [upd_ne _ _ hji]
      exact this
    | tkn j =>
      rintro ⟨hj1, hj2⟩
      have hji : j ≠ i := fun e => by
        subst e
        have h2 : upd s.own j false j = true := hj2
        rw [upd_at] at h2
        cases h2
      have h2 : upd s.own i false j = true := hj2
      rw [upd_ne _ _ hji] at h2
      have := hp ⟨hj1, h2⟩
      show Grid w (L.T j) _ (c.cf.n (upd s.cls i 0 j)) 1 _
      rw [upd_ne _ _ hji]
      exact this
    | pages => exact absurd rfl hq
    | _ => exact hp
end Go.Proofs.Ytgodinapdahocaa.Cls
