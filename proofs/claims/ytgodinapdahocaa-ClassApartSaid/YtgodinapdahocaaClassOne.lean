/-
  One operation on a Set by the program's answers alone: in plain numbers, and what is known of a Set and the handles that it told.
-/
import Derived.Test.YtgodinapdahocaaClassOf
import Derived.Test.YtgodinapdahocaaClassRelease2
import Derived.Test.YtgodinapdahocaaClassFillsLaw
namespace Go.Proofs.Ytgodinapdahocaa.Cls
open Go.RowKit Base MapG
set_option linter.unusedVariables false

structure POp where
  do_ : Int
  a : Int
  b : Int
  h : Nat
  raw : Bool
def hvv (h : Nat) : Value := .int .u64 (h : Int)
def i64v (h : Nat) : Int := IntKind.i64.wrap (h : Int)
def toldUse (o : POp) (told : List Nat) : Bool := !o.raw && decide (0 < told.length)
def oneH (o : POp) (told : List Nat) : Nat := if toldUse o told = true then told.getD (o.a % (told.length : Int)).toNat 0 else o.h
def atN (d : Cf) (s : St) (h : Nat) : Int × Int × Int :=
  match findN d s h with
  | some (i, _, p) => ((p : Int), (s.cls i : Int), 0)
  | none => (0, 0, 20)
def ownerN (d : Cf) (s : St) (i : Int) : Int := match pageN d s i with | some j => (s.cls j : Int) | none => -1
def freeN (d : Cf) (s : St) (k : Int) : Int := if 0 ≤ k ∧ k < (d.nc : Int) then ((s.free k.toNat).length : Int) else 0
def takenN (d : Cf) (s : St) (k : Int) : Int := if 0 ≤ k ∧ k < (d.nc : Int) then (s.rt k.toNat : Int) else 0
section
variable (w : World) (L : Lay) (c : Conf) (s : St) (bs : List UInt8) (h : SetAt w L c s bs) (i : Int)
include h
theorem ownerC' : Calls Try.prog 57 #[.pointer (some ⟨L.g, 0, none⟩), .int .i64 i] w fun e w' => e = .returned (.int .i64 (ownerN c.cf s i)) ∧ w = w' := ownerC w L c s bs h i
theorem freeC' : Calls Try.prog 30 #[.pointer (some ⟨L.g, 0, none⟩), .int .i64 i] w fun e w' => e = .returned (.int .i64 (freeN c.cf s i)) ∧ w = w' := freeC w L c s bs h i
theorem takenC' : Calls Try.prog 29 #[.pointer (some ⟨L.g, 0, none⟩), .int .i64 i] w fun e w' => e = .returned (.int .i64 (takenN c.cf s i)) ∧ w = w' := takenC w L c s bs h i
end
def tellN (d : Cf) (s : St) (o : POp) (told : List Nat) : List Int :=
  [(atN d s (oneH o told)).1, (atN d s (oneH o told)).2.1, (atN d s (oneH o told)).2.2, i64v ((ofN d s (atN d s (oneH o told)).1).getD 0), (s.spare : Int), ownerN d s o.a, (quotaN d s o.a : Int), freeN d s o.a, takenN d s o.a] ++
    (if (ofN d s (atN d s (oneH o told)).1).isSome = true then [1] else [])
def oneN (d : Cf) (s : St) (o : POp) (told : List Nat) : List Int × St × List Nat :=
  if o.do_ = 1 then
    match roomS d s (o.a % (d.nc : Int)).toNat with
    | none => ([21, 0], s, told)
    | some s1 => ([0, i64v (hnd ((s1.free (o.a % (d.nc : Int)).toNat).getLastD 0) (s1.gens ((s1.free (o.a % (d.nc : Int)).toNat).getLastD 0 / d.ps) ((s1.free (o.a % (d.nc : Int)).toNat).getLastD 0 % d.ps / d.sz (o.a % (d.nc : Int)).toNat)))],
        takeS d s1 (o.a % (d.nc : Int)).toNat ((s1.free (o.a % (d.nc : Int)).toNat).getLastD 0),
        told ++ [hnd ((s1.free (o.a % (d.nc : Int)).toNat).getLastD 0) (s1.gens ((s1.free (o.a % (d.nc : Int)).toNat).getLastD 0 / d.ps) ((s1.free (o.a % (d.nc : Int)).toNat).getLastD 0 % d.ps / d.sz (o.a % (d.nc : Int)).toNat))])
  else if o.do_ = 2 then
    match findN d s (oneH o told) with
    | none => ([20], s, told)
    | some (i, x, _) => ([0], giveS d s i x, told)
  else if o.do_ = 10 then
    match pageN d s o.a with
    | none => ([1], s, told)
    | some i => if s.lvs i = true then ([10], s, told) else ([0], leaveS d s i, told)
  else if o.do_ = 11 then
    match pageN d s o.a with
    | none => ([1], s, told)
    | some i => if s.lvs i = true then ([0], stayS d s i, told) else ([1], s, told)
  else if o.do_ = 12 then
    match pageN d s o.a with
    | none => ([1], s, told)
    | some i => if s.lvs i = true then (if 0 < s.held i then ([10], s, told) else ([0], releaseS d s i, told)) else ([1], s, told)
  else (tellN d s o told, s, told)
/-- The blocks of a Set and of the handles that it told. -/
def GF (L : Lay) (c : Conf) (s : St) (v : Value) (b : Nat) : Prop := Foot L c s b ∨ v.ownBlock = some b
structure Grp (w : World) (L : Lay) (c : Conf) (s : St) (bs : List UInt8) (v : Value) (told : List Nat) : Prop where
  set : SetAt w L c s bs
  good : Good c.cf s
  row : w.ownsRow 0 50 1 v told.length (told.map hvv)
  away : ∀ b, v.ownBlock = some b → ¬ Foot L c s b
  small : ∀ h ∈ told, h < 18446744073709551616
section
variable {w w' : World} {L L' : Lay} {c : Conf} {s s' : St} {bs bs' : List UInt8} {v : Value} {told : List Nat}
theorem Grp.lt (g : Grp w L c s bs v told) {b : Nat} (h : GF L c s v b) : b < w.heap.size := h.elim g.set.lt fun h => own_block g.row h
theorem Grp.kept {S : Nat → Prop} (g : Grp w L c s bs v told) (o : Only S w w') (h : ∀ b, GF L c s v b → ¬ S b) : Grp w' L c s bs v told :=
  ⟨g.set.only o fun b hb => h b (.inl hb), g.good, kept_row o g.row fun b hb => h b (.inr hb), g.away, g.small⟩
theorem Grp.drewN (g : Grp w L c s bs v told) (m : Nat) : Grp (w.drewN m) L c s bs v told := ⟨g.set.drewN m, g.good, own_kept g.row fun _ _ => rfl, g.away, g.small⟩
theorem Grp.alloc (g : Grp w L c s bs v told) (o : Obj) : Grp (w.alloc o) L c s bs v told := g.kept (S := fun _ => False) ((Only.refl _ w).alloc o) fun _ _ h => h
/-- The change of a Set and its handles. -/
structure Moved (w w' : World) (L L' : Lay) (c : Conf) (s s' : St) (v v' : Value) : Prop where
  only : Only (GF L c s v) w w'
  foot : ∀ b, GF L' c s' v' b → GF L c s v b ∨ w.heap.size ≤ b
theorem Moved.refl (w : World) (L : Lay) (c : Conf) (s : St) (v : Value) : Moved w w L L c s s v v := ⟨Only.refl _ _, fun _ h => .inl h⟩
theorem Moved.trans {w1 : World} {L1 : Lay} {s1 : St} {v1 v' : Value} (h : Moved w w1 L L1 c s s1 v v1) (k : Moved w1 w' L1 L' c s1 s' v1 v') : Moved w w' L L' c s s' v v' :=
  ⟨h.only.trans k.only fun x hx hf => (h.foot x hf).resolve_right (by omega), fun b hb => (k.foot b hb).elim (h.foot b) fun hb => .inr (Nat.le_trans h.only.size hb)⟩
theorem Moved.quiet {S : Nat → Prop} (h : Only (fun _ => False) w w') (L : Lay) (c : Conf) (s : St) (v : Value) : Moved w w' L L c s s v v := ⟨h.mono fun _ _ h => h.elim, fun _ h => .inl h⟩
theorem Grp.step (g : Grp w L c s bs v told) (H : SetAt w' L' c s' bs') (k : Went w w' L L' c s s') (g' : Good c.cf s') : Grp w' L' c s' bs' v told ∧ Moved w w' L L' c s s' v v := by
  have aw : ∀ b, v.ownBlock = some b → ¬ Foot L' c s' b := fun b e hf => (k.foot b hf).elim (g.away b e) fun h => by have := own_block g.row e; omega
  exact ⟨⟨H, g', kept_row k.only g.row g.away, aw, g.small⟩, ⟨k.only.mono fun _ _ h => .inl h, fun b h => h.elim (fun h => (k.foot b h).imp .inl id) fun h => .inl (.inr h)⟩⟩
end
/-- What one operation leaves. -/
structure OnePost (w w' : World) (L L' : Lay) (c : Conf) (s : St) (r : List Int × St × List Nat) (bs' : List UInt8) (v vO vT : Value) : Prop where
  g : L'.g = L.g
  grp : Grp w' L' c r.2.1 bs' vT r.2.2
  moved : Moved w w' L L' c s r.2.1 v vT
  out : w'.ownsRow w.heap.size 3 1 vO r.1.length (r.1.map (Value.int .i64))
theorem own_lit (w : World) (N : Nat) (l : List Value) (hN : N ≤ w.heap.size) (hl : l.length ≤ 1000) : (w.alloc (.cells l.toArray 3)).ownsRow N 3 1 (.slice (some ⟨w.heap.size, 0, none⟩) l.length l.length) l.length l :=
  ⟨by simp, .inr ⟨w.heap.size, l.length, l.toArray, rfl, hN, heap_alloc_new _ _, Nat.le_refl _, by unfold maxLen; omega, by simp, by simp⟩⟩
/-- One number is told. -/
theorem post_lit {w w6 : World} {L L6 : Lay} {c : Conf} {s s6 : St} {bs6 : List UInt8} {v v6 : Value} {told6 : List Nat} (hg : L6.g = L.g) (G : Grp w6 L6 c s6 bs6 v6 told6) (M : Moved w w6 L L6 c s s6 v v6) (l : List Int) (hl : l.length ≤ 1000) :
    OnePost w (w6.alloc (.cells (l.map (Value.int .i64)).toArray 3)) L L6 c s (l, s6, told6) bs6 v (.slice (some ⟨w6.heap.size, 0, none⟩) l.length l.length) v6 := by
  have := own_lit w6 w.heap.size (l.map (Value.int .i64)) M.only.size (by simpa using hl)
  rw [List.length_map] at this
  exact ⟨hg, G.alloc _, ⟨M.only.alloc _, M.foot⟩, this⟩
/-- One more handle is told. -/
theorem grp_append {w w' : World} {L : Lay} {c : Conf} {s : St} {bs : List UInt8} {v v' : Value} {told : List Nat} {o : Obj} {h : Nat} (g : Grp w L c s bs v told) (hg : (w.alloc o).grownBy w' v.ownBlock)
    (own : w'.ownsRow 0 50 1 v' (told.length + 1) (told.map hvv ++ [hvv h])) (hat : v'.ownBlock = v.ownBlock ∨ v'.ownBlock = some (w.heap.size + 1)) (hh : h < 18446744073709551616) :
    Grp w' L c s bs v' (told ++ [h]) ∧ Moved w w' L L c s s v v' := by
  have o1 : Only (fun b => v.ownBlock = some b) w w' := ((Only.refl _ w).alloc _).grown hg (fun b e _ => e)
  have hs : SetAt w' L c s bs := g.set.only o1 fun b hb e => g.away b e hb
  refine ⟨⟨hs, g.good, ?_, fun b e hf => ?_, fun x hx => ?_⟩, ⟨o1.mono fun b _ e => .inr e, fun b hb => ?_⟩⟩
  · rw [List.length_append, List.map_append]
    exact own
  · rcases hat with h1 | h1
    · exact g.away b (h1 ▸ e) hf
    · rw [h1] at e
      injection e with e
      have := g.set.lt hf
      omega
  · rcases List.mem_append.1 hx with h1 | h1
    · exact g.small x h1
    · rw [List.mem_singleton.1 h1]; exact hh
  · rcases hb with h1 | h1
    · exact .inl (.inl h1)
    · rcases hat with h2 | h2
      · exact .inl (.inr (h2 ▸ h1))
      · rw [h2] at h1
        injection h1 with h1
        exact .inr (by omega)
theorem atV_eq (d : Cf) (s : St) (h : Nat) : atV s (findN d s h) = .tuple #[.int .i64 (atN d s h).1, .int .i64 (atN d s h).2.1, .int .i64 (atN d s h).2.2] := by
  unfold atN atV
  cases findN d s h with
  | none => rfl
  | some r => rfl
theorem ofV_eq (r : Option Nat) : ofV r = .tuple #[.int .u64 ((r.getD 0 : Nat) : Int), .bool r.isSome] := by
  cases r <;> rfl
def opV (o : POp) (vV : Value) : Value := .agg #[.int .i64 o.do_, .int .i64 o.a, .int .i64 o.b, .int .u64 (o.h : Int), .bool o.raw, vV]
theorem oneH_lt {o : POp} {told : List Nat} (hh : o.h < 18446744073709551616) (hs : ∀ h ∈ told, h < 18446744073709551616) : oneH o told < 18446744073709551616 := by
  unfold oneH
  split
  · rw [List.getD_eq_getElem?_getD]
    cases hx : told[(o.a % (told.length : Int)).toNat]? with
    | none => simp
    | some x => exact hs x (List.mem_of_getElem? hx)
  · exact hh
end Go.Proofs.Ytgodinapdahocaa.Cls
