/-
  One operation, whichever; two rows of answers are alike; three Sets beside each other.
-/
import Derived.Test.YtgodinapdahocaaClassOneTake
import Derived.Test.YtgodinapdahocaaClassOneGive
import Derived.Test.YtgodinapdahocaaClassOneLeave
import Derived.Test.YtgodinapdahocaaClassOneStay
import Derived.Test.YtgodinapdahocaaClassOneRelease
import Derived.Test.YtgodinapdahocaaClassOneTell
namespace Go.Proofs.Ytgodinapdahocaa.Cls
open Go.RowKit Base MapG
set_option linter.unusedVariables false

theorem oneC (w : World) (L : Lay) (c : Conf) (s : St) (bs : List UInt8) (o : POp) (Av : Option Addr) (nv cv : Nat) (v : Value) (told : List Nat) (G : Grp w L c s bs v told) (ha : In o.a) (hh : o.h < 18446744073709551616) (hom : ∀ i, s.om i ≤ 1000000000) (hln : told.length ≤ 1000000) :
    Calls Try.prog 33 #[.pointer (some ⟨L.g, 0, none⟩), opV o (.slice Av nv cv), v] w fun e w' =>
      ∃ vO vT L' bs', e = .returned (.tuple #[vO, vT]) ∧ OnePost w w' L L' c s (oneN c.cf s o told) bs' v vO vT := by
  by_cases h1 : o.do_ = 1
  · exact oneTake w L c s bs o Av nv cv v told G ha hh hom hln h1
  by_cases h2 : o.do_ = 2
  · exact oneGive w L c s bs o Av nv cv v told G ha hh hom hln h2
  by_cases h3 : o.do_ = 10
  · exact oneLeave w L c s bs o Av nv cv v told G ha hh hom hln h3
  by_cases h4 : o.do_ = 11
  · exact oneStay w L c s bs o Av nv cv v told G ha hh hom hln h4
  by_cases h5 : o.do_ = 12
  · exact oneRelease w L c s bs o Av nv cv v told G ha hh hom hln h5
  exact oneTell w L c s bs o Av nv cv v told G ha hh hom hln ⟨h1, h2, h3, h4, h5⟩
theorem one_om {d : Cf} (ok : d.Ok) {s : St} (g : Good d s) (o : POp) (told : List Nat) (i : Nat) : (oneN d s o told).2.1.om i ≤ s.om i + 16384 := by
  unfold oneN
  by_cases h1 : o.do_ = 1
  · rw [if_pos h1]
    cases hr : roomS d s (o.a % (d.nc : Int)).toNat with
    | none => exact Nat.le_add_right _ _
    | some s1 =>
      have : s1.om = s.om := by
        unfold roomS at hr
        split at hr
        · split at hr
          · injection hr with hr; rw [← hr]; rfl
          · cases hr
        · injection hr with hr; rw [← hr]
      show s1.om i ≤ _
      rw [this]; exact Nat.le_add_right _ _
  rw [if_neg h1]
  by_cases h2 : o.do_ = 2
  · rw [if_pos h2]
    cases hr : findN d s (oneH o told) with
    | none => exact Nat.le_add_right _ _
    | some r => exact Nat.le_add_right _ _
  rw [if_neg h2]
  by_cases h3 : o.do_ = 10
  · rw [if_pos h3]
    cases hr : pageN d s o.a with
    | none => exact Nat.le_add_right _ _
    | some j =>
      show (if s.lvs j = true then ([10], s, told) else ([0], leaveS d s j, told) : List Int × St × List Nat).2.1.om i ≤ _
      split <;> exact Nat.le_add_right _ _
  rw [if_neg h3]
  by_cases h4 : o.do_ = 11
  · rw [if_pos h4]
    cases hr : pageN d s o.a with
    | none => exact Nat.le_add_right _ _
    | some j =>
      show (if s.lvs j = true then ([0], stayS d s j, told) else ([1], s, told) : List Int × St × List Nat).2.1.om i ≤ _
      split <;> exact Nat.le_add_right _ _
  rw [if_neg h4]
  by_cases h5 : o.do_ = 12
  · rw [if_pos h5]
    cases hr : pageN d s o.a with
    | none => exact Nat.le_add_right _ _
    | some j =>
      obtain ⟨-, hj, ho⟩ := pageN_some hr
      have hn := (n_pos ok (g.cls j hj ho)).2
      show (if s.lvs j = true then (if 0 < s.held j then ([10], s, told) else ([0], releaseS d s j, told)) else ([1], s, told) : List Int × St × List Nat).2.1.om i ≤ _
      split
      · split
        · exact Nat.le_add_right _ _
        · show upd s.om j (s.om j + d.n (s.cls j)) i ≤ _
          unfold upd
          split
          · rename_i h; rw [h]; omega
          · exact Nat.le_add_right _ _
      · exact Nat.le_add_right _ _
  rw [if_neg h5]
  exact Nat.le_add_right _ _
theorem one_told (d : Cf) (s : St) (o : POp) (told : List Nat) : (oneN d s o told).2.2.length ≤ told.length + 1 := by
  unfold oneN
  by_cases h1 : o.do_ = 1
  · rw [if_pos h1]
    cases hr : roomS d s (o.a % (d.nc : Int)).toNat with
    | none => exact Nat.le_succ _
    | some s1 => show (told ++ [_]).length ≤ _; rw [List.length_append]; exact Nat.le_refl _
  rw [if_neg h1]
  by_cases h2 : o.do_ = 2
  · rw [if_pos h2]
    cases hr : findN d s (oneH o told) with
    | none => exact Nat.le_succ _
    | some r => exact Nat.le_succ _
  rw [if_neg h2]
  by_cases h3 : o.do_ = 10
  · rw [if_pos h3]
    cases hr : pageN d s o.a with
    | none => exact Nat.le_succ _
    | some j =>
      show (if s.lvs j = true then ([10], s, told) else ([0], leaveS d s j, told) : List Int × St × List Nat).2.2.length ≤ _
      split <;> exact Nat.le_succ _
  rw [if_neg h3]
  by_cases h4 : o.do_ = 11
  · rw [if_pos h4]
    cases hr : pageN d s o.a with
    | none => exact Nat.le_succ _
    | some j =>
      show (if s.lvs j = true then ([0], stayS d s j, told) else ([1], s, told) : List Int × St × List Nat).2.2.length ≤ _
      split <;> exact Nat.le_succ _
  rw [if_neg h4]
  by_cases h5 : o.do_ = 12
  · rw [if_pos h5]
    cases hr : pageN d s o.a with
    | none => exact Nat.le_succ _
    | some j =>
      show (if s.lvs j = true then (if 0 < s.held j then ([10], s, told) else ([0], releaseS d s j, told)) else ([1], s, told) : List Int × St × List Nat).2.2.length ≤ _
      split
      · split <;> exact Nat.le_succ _
      · exact Nat.le_succ _
  rw [if_neg h5]
  exact Nat.le_succ _
set_option maxRecDepth 100000 in
theorem alikeC (w : World) (N M : Nat) (vP vQ : Value) (l : List Int) (hp : w.ownsRow N 3 1 vP l.length (l.map (Value.int .i64))) (hq : w.ownsRow M 3 1 vQ l.length (l.map (Value.int .i64))) :
    Calls Try.prog 34 #[vP, vQ] w fun e w' => e = .returned (.bool true) ∧ ∃ m, w.drewN m = w' := by
  obtain ⟨A, cp, rfl⟩ := own_is hp
  obtain ⟨B, cq, rfl⟩ := own_is hq
  have hlm := hp.2
  have hln : l.length ≤ maxLen := by
    rcases hp.2 with ⟨-, h⟩ | ⟨g, cap, cur, hv, -, -, h1, h2, -⟩
    · rw [h]; unfold maxLen; omega
    · exact Nat.le_trans h1 h2
  unfold maxLen at hln
  have HP := Lib.hid hp
  have HQ := Lib.hid hq
  clear hp hq hlm
  go_enter Try.func34, Try.ntmps34
  go_wp2
  go_loopw [5] (fun v wr => ∃ i : Nat, v = .int .i64 (i : Int) ∧ i ≤ l.length ∧ ∃ m, w.drewN m = wr) (fun v _ => l.length - (intOf v).toNat)
  case atStart => exact ⟨0, rfl, Nat.zero_le _, 0, rfl⟩
  case round =>
    obtain ⟨i, rfl, hi, m, hm⟩ := hrel
    by_cases hin : i < l.length
    · have e1 : decide ((i : Int) < (l.length : Int)) = true := decide_eq_true (by omega)
      have q1 : IntKind.i64.wrap ((i : Int) + 1) = (i : Int) + 1 := IntWalk.i64_in _ (by omega)
      have i0 : (0 : Int) ≤ (i : Int) := by omega
      have i1 : (i : Int) < (l.length : Int) := by omega
      obtain ⟨ga, c1, h1, ca⟩ := own_at (i := i) (x := .int .i64 l[i]) HP.out (by rw [List.getElem?_map, List.getElem?_eq_getElem hin]; rfl)
      obtain ⟨gb, c2, h2, cb⟩ := own_at (i := i) (x := .int .i64 l[i]) HQ.out (by rw [List.getElem?_map, List.getElem?_eq_getElem hin]; rfl)
      injection h1 with hA1 hA2 hA3
      injection h2 with hB1 hB2 hB3
      subst hA1 hA3 hB1 hB3
      have ca' : wr.cell? ⟨ga, i, none⟩ = some (.int .i64 l[i]) := by rw [← hm]; exact ca
      have cb' : wr.cell? ⟨gb, i, none⟩ = some (.int .i64 l[i]) := by rw [← hm]; exact cb
      generalize l[i] = x at *
      replace hm := Lib.hid hm
      clear ca cb
      go_upto_region 6 with fail
      go_quiet (fail)
      have hm' : ∃ m, w.drewN m = wr.drewN nq := ⟨m + nq, by rw [← hm.out, World.drewN_drewN]⟩
      go_wp2
      go_roundw
      case rel => exact ⟨i + 1, by simp, by omega, hm'⟩
      case measure => simp [intOf] <;> omega
    · obtain rfl : l.length = i := by omega
      have e1 : decide ((l.length : Int) < (l.length : Int)) = false := by simp
      have hm' := Lib.hid (show ∃ m, w.drewN m = wr from ⟨m, hm⟩)
      clear hm
      go_wp2
      go_ret
      exact ⟨rfl, hm'.out⟩
/-- A Set and its handles. -/
structure Gp where
  L : Lay
  c : Conf
  s : St
  bs : List UInt8
  v : Value
  t : List Nat
def Gp.F (g : Gp) : Nat → Prop := GF g.L g.c g.s g.v
def Gp.here (g : Gp) (w : World) : Prop := Grp w g.L g.c g.s g.bs g.v g.t
/-- Three of them, each in blocks of its own. -/
structure Tri (N : Nat) (W w : World) (a b c : Gp) : Prop where
  bel : Below N W w
  sz : N ≤ w.heap.size
  ga : a.here w
  gb : b.here w
  gc : c.here w
  ab : ∀ x, a.F x → ¬ b.F x
  ac : ∀ x, a.F x → ¬ c.F x
  bc : ∀ x, b.F x → ¬ c.F x
  fa : ∀ x, a.F x → N ≤ x
  fb : ∀ x, b.F x → N ≤ x
  fc : ∀ x, c.F x → N ≤ x
section
variable {N : Nat} {W w w' : World} {a b c a' : Gp}
theorem Tri.rot (h : Tri N W w a b c) : Tri N W w b c a :=
  ⟨h.bel, h.sz, h.gb, h.gc, h.ga, h.bc, fun x hx hy => h.ab x hy hx, fun x hx hy => h.ac x hy hx, h.fb, h.fc, h.fa⟩
theorem Tri.step (h : Tri N W w a b c) (g : a'.here w') (o : Only a.F w w') (f : ∀ x, a'.F x → a.F x ∨ w.heap.size ≤ x) : Tri N W w' a' b c := by
  have ltb : ∀ x, b.F x → x < w.heap.size := fun x hx => Grp.lt h.gb hx
  have ltc : ∀ x, c.F x → x < w.heap.size := fun x hx => Grp.lt h.gc hx
  refine ⟨h.bel.trans ⟨o.os, o.tape, o.output, o.size, fun k hk => o.block k (by have := h.sz; omega) fun hf => by have := h.fa k hf; omega⟩, Nat.le_trans h.sz o.size, g, Grp.kept h.gb o fun x hx hy => h.ab x hy hx, Grp.kept h.gc o fun x hx hy => h.ac x hy hx, ?_, ?_, h.bc, ?_, h.fb, h.fc⟩
  · intro x hx hy
    rcases f x hx with h1 | h1
    · exact h.ab x h1 hy
    · have := ltb x hy; omega
  · intro x hx hy
    rcases f x hx with h1 | h1
    · exact h.ac x h1 hy
    · have := ltc x hy; omega
  · intro x hx
    rcases f x hx with h1 | h1
    · exact h.fa x h1
    · have := h.sz; omega
theorem Tri.drewN (h : Tri N W w a b c) (m : Nat) : Tri N W (w.drewN m) a b c :=
  ⟨below_drewN h.bel m, h.sz, Grp.drewN h.ga m, Grp.drewN h.gb m, Grp.drewN h.gc m, h.ab, h.ac, h.bc, h.fa, h.fb, h.fc⟩
end
end Go.Proofs.Ytgodinapdahocaa.Cls
