/-
  The walk of Take.
-/
import Derived.Test.YtgodinapdahocaaClassWiden2
import Derived.Test.YtgodinapdahocaaClassFind
namespace Go.Proofs.Ytgodinapdahocaa.Cls
open Go.RowKit Base MapG
set_option linter.unusedVariables false

/-- The lowest page that is nobody's. -/
def lowFrom (own : Nat → Bool) : Nat → Nat → Option Nat
  | 0, _ => none
  | n + 1, i => if own i then lowFrom own n (i + 1) else some i
def low (d : Cf) (s : St) : Option Nat := lowFrom s.own d.np 0
theorem lowFrom_some {own : Nat → Bool} : ∀ {n i j : Nat}, lowFrom own n i = some j → i ≤ j ∧ j < i + n ∧ own j = false ∧ ∀ x, i ≤ x → x < j → own x = true
  | 0, i, j, h => by cases h
  | n + 1, i, j, h => by
    unfold lowFrom at h
    split at h
    · rename_i h1
      obtain ⟨a, b, e, f⟩ := lowFrom_some h
      refine ⟨by omega, by omega, e, fun x hx hj => ?_⟩
      rcases Nat.lt_or_ge i x with h2 | h2
      · exact f x h2 hj
      · obtain rfl : x = i := by omega
        exact h1
    · rename_i h1
      injection h with h
      subst h
      exact ⟨by omega, by omega, by simpa using h1, fun x a b => by omega⟩
theorem lowFrom_none {own : Nat → Bool} : ∀ {n i : Nat}, lowFrom own n i = none → ∀ x, i ≤ x → x < i + n → own x = true
  | 0, i, _, x, h1, h2 => by omega
  | n + 1, i, h, x, h1, h2 => by
    unfold lowFrom at h
    split at h
    · rename_i h3
      rcases Nat.lt_or_ge i x with h4 | h4
      · exact lowFrom_none h x h4 (by omega)
      · obtain rfl : x = i := by omega
        exact h3
    · cases h
theorem low_some {d : Cf} {s : St} {i : Nat} (h : low d s = some i) : i < d.np ∧ s.own i = false ∧ ∀ j, j < i → s.own j = true := by
  obtain ⟨-, a, b, e⟩ := lowFrom_some h
  exact ⟨by omega, b, fun j hj => e j (by omega) hj⟩
theorem low_none {d : Cf} {s : St} (h : low d s = none) : ∀ j, j < d.np → s.own j = true := fun j hj => lowFrom_none h j (by omega) (by omega)
/-- The state in which a class has a free chunk, if there is room. -/
def roomS (d : Cf) (s : St) (k : Nat) : Option St :=
  match s.free k with
  | [] => match low d s with
    | some i => some (widenS d s k i)
    | none => none
  | _ :: _ => some s
theorem freesTo_ne {d : Cf} {s : St} {i : Nat} : ∀ {n : Nat}, 1 ≤ n → (∀ x, s.tkn i x = false) → freesTo d s i n ≠ []
  | 0, h, _ => by omega
  | n + 1, _, h => by unfold freesTo; rw [if_neg (by rw [h]; simp)]; simp
theorem widen_free {d : Cf} (ok : d.Ok) {s : St} {k i : Nat} (hk : k < d.nc) : (widenS d s k i).free k ≠ [] := by
  have hc : (widen1 d s k i).cls i = k := upd_at _ _ _
  have hne : freesTo d (widen1 d s k i) i (d.n k) ≠ [] := freesTo_ne (n_pos ok hk).1 fun x => by show upd s.tkn i (fun _ => false) i x = false; rw [upd_at]
  show upd (widen1 d s k i).free ((widen1 d s k i).cls i) ((widen1 d s k i).free ((widen1 d s k i).cls i) ++ frees d (widen1 d s k i) i) k ≠ []
  rw [hc, upd_at]
  unfold frees
  rw [hc]
  intro e
  exact hne (List.append_eq_nil_iff.1 e).2
theorem room_good {d : Cf} (ok : d.Ok) {s s1 : St} (g : Good d s) {k : Nat} (hk : k < d.nc) (h : roomS d s k = some s1) : Good d s1 ∧ ∃ l p, s1.free k = l ++ [p] := by
  have key : ∀ l : List Nat, l ≠ [] → ∃ l' p, l = l' ++ [p] := fun l hl => ⟨l.dropLast, l.getLast hl, (List.dropLast_concat_getLast hl).symm⟩
  unfold roomS at h
  split at h
  · split at h
    · rename_i i hlow
      injection h with h
      subst h
      obtain ⟨a, b, -⟩ := low_some hlow
      exact ⟨g.widen ok hk a b, key _ (widen_free ok hk)⟩
    · cases h
  · rename_i a l he
    injection h with h
    subst h
    exact ⟨g, key _ (by rw [he]; simp)⟩
theorem own_drop {w : World} {N n cap : Nat} {A : Option Addr} {e : TypeId} {xs : List Value} {x : Value} (h : w.ownsRow N e 1 (.slice A (n + 1) cap) (n + 1) (xs ++ [x])) : w.ownsRow N e 1 (.slice A n cap) n xs := by
  have hl := h.1
  rw [List.length_append, List.length_singleton] at hl
  have hx : xs.length = n := by omega
  refine ⟨by omega, ?_⟩
  rcases h.2 with ⟨h1, h2⟩ | ⟨g, cap', cur, hv, hB, hg, h1, h2, h3, h4⟩
  · cases h2
  · injection hv with e1 e2 e3
    subst e1 e3
    refine .inr ⟨g, cap, cur, rfl, hB, hg, by omega, h2, h3, ?_⟩
    have h5 := congrArg (List.take n) h4
    rw [List.take_take, List.take_append_of_le_length (by omega), List.take_of_length_le (by omega : xs.length ≤ n)] at h5
    rw [← h5]
    congr 1
    omega
theorem there_of {d : Cf} (ok : d.Ok) {k i x : Nat} (hk : k < d.nc) (hi : i < d.np) (hx : x < d.n k) (a n : Nat) (hn : a + n ≤ 64) : Arena.There d.ps (d.ps * d.np) ((i * d.ps + x * d.sz k + a : Nat) : Int) (n : Int) := by
  obtain ⟨e1, e2, -, e4, -⟩ := place_of ok (i := i) hk hx
  have h64 := (ok.sz k hk).1
  have h1 : (i + 1) * d.ps ≤ d.np * d.ps := Nat.mul_le_mul_right _ hi
  rw [Nat.succ_mul, Nat.mul_comm d.np] at h1
  have hps := ok.ps
  have hm : (i * d.ps + x * d.sz k + a) % d.ps = x * d.sz k + a ∨ n = 0 := by
    rcases Nat.eq_zero_or_pos n with h0 | h0
    · exact .inr h0
    · left
      rw [Nat.add_assoc, Nat.mul_comm i, Nat.mul_add_mod]
      exact Nat.mod_eq_of_lt (by omega)
  refine ⟨by omega, by omega, by omega, ?_⟩
  rcases hm with hm | hm
  · right
    rw [← Int.natCast_emod, hm]
    omega
  · left; omega
end Go.Proofs.Ytgodinapdahocaa.Cls
