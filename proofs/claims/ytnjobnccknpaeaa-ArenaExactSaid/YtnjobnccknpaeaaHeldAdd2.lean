/-
  The walk of Held.Add.
-/
import Derived.Test.YtnjobnccknpaeaaHeldAdd
import Derived.Deep.DeepCutAuto
import Derived.Deep.RegionLaw
import Derived.Deep.DrawnRows
namespace Go.Proofs.Ytnjobnccknpaeaa.Held
open Go.RowKit Base Tail
set_option linter.unusedVariables false

/-- Block h is what is held, few enough; F: all its blocks. -/
def HeldOk (w : World) (h N : Nat) (F : Nat → Prop) : Prop := ∃ (vg vw : Value) (ps qs : List Value) (Ls : List (List UInt8)) (size : Nat), HeldAt w h N vg vw ps qs Ls size ∧ ps.length < 250 ∧ size < 2097152 ∧ F = HF h vg vw ps qs
theorem HeldOk.keep {w w' : World} {h N : Nat} {F : Nat → Prop} (H : HeldOk w h N F) (hk : ∀ b, F b → w'.heap[b]? = w.heap[b]?) : HeldOk w' h N F := by
  obtain ⟨vg, vw, ps, qs, Ls, size, h1, h2, h3, rfl⟩ := H
  exact ⟨vg, vw, ps, qs, Ls, size, h1.keep hk, h2, h3, rfl⟩
theorem HeldOk.lt {w : World} {h N : Nat} {F : Nat → Prop} (H : HeldOk w h N F) : ∀ b, F b → N ≤ b ∧ b < w.heap.size := by
  obtain ⟨vg, vw, ps, qs, Ls, size, h1, h2, h3, rfl⟩ := H
  exact h1.lt
theorem step_run {P : Program} {w : World} {ops : Array Oper} {o : Oper} {a : Act} {K : Act → World → Prop} {Q : Exit → Act → World → Prop} {E : Prop} (hgd : o.guard = none) (s x : Operand) (t : TypeId)
    (ho : o.op = .call { callee := .builtin .append, args := #[s, x], argTypes := #[t, t] }) (v xv : Value) (hs : a.eval s = v) (hx : a.eval x = xv) (R : Value → World → Prop)
    (hr : ∃ v' w', (Builtin.append_ #[t, t] o.type #[v, xv]).run P w = .ok v' w' ∧ R v' w') (h : ∀ v' w', R v' w' → K (a.put o.dst v') w') : if Region.wanted o (yielded ops a.tmps) = true then Oper.wp P o a w K Q else E := by
  have hw : Region.wanted o (yielded ops a.tmps) = true := by simp [Region.wanted, hgd]
  rw [if_pos hw]
  obtain ⟨v', w', hr, h2⟩ := hr
  unfold Oper.wp execOp
  simp only [ho, resolve, invoke, builtin, Sem.run_bind, Sem.run_pure, Result.andThen_ok, List.map_toArray, List.map_cons, List.map_nil, hs, hx, hr]
  exact h v' w' h2

theorem add_fin {w w2 w3 w5 : World} {h : Nat} {vg vw v3 v4 p q : Value} {ps qs : List Value} (on1 : Only (fun b => b = h ∨ vg.ownBlock = some b) w w2) (ob1 : v3.ownBlock = vg.ownBlock ∨ v3.ownBlock = some (w.heap.size + 1)) (sz1 : w.heap.size ≤ w2.heap.size) (hb3 : Below w2.heap.size w2 w3)
    (on4 : Only (fun b => b = h ∨ vw.ownBlock = some b) w3 w5) (ob4 : v4.ownBlock = vw.ownBlock ∨ v4.ownBlock = some (w3.heap.size + 1)) (hq : ∀ b, q.ownBlock = some b → w2.heap.size ≤ b) :
    Only (fun b => HF h vg vw ps qs b ∨ p.ownBlock = some b) w w5 ∧ ∀ b, HF h v3 v4 (ps ++ [p]) (qs ++ [q]) b → HF h vg vw ps qs b ∨ p.ownBlock = some b ∨ w.heap.size ≤ b := by
  have s3 := hb3.size
  refine ⟨((on1.mono ?_).below hb3 sz1).trans on4 ?_, ?_⟩
  · rintro x - (rfl | hx)
    · exact .inl (.inl rfl)
    · exact .inl (.inr (.inl hx))
  · rintro x - (rfl | hx)
    · exact .inl (.inl rfl)
    · exact .inl (.inr (.inr (.inl hx)))
  · rintro b (rfl | h1 | h1 | ⟨j, u, hu, h1⟩ | ⟨j, u, hu, h1⟩)
    · exact .inl (.inl rfl)
    · rcases ob1 with h2 | h2
      · exact .inl (.inr (.inl (h2.symm.trans h1)))
      · rw [h1] at h2
        injection h2 with h2
        exact .inr (.inr (by omega))
    · rcases ob4 with h2 | h2
      · exact .inl (.inr (.inr (.inl (h2.symm.trans h1))))
      · rw [h1] at h2
        injection h2 with h2
        exact .inr (.inr (by omega))
    · rcases getElem?_snoc hu with ⟨-, h2⟩ | ⟨-, rfl⟩
      · exact .inl (.inr (.inr (.inr (.inl ⟨j, u, h2, h1⟩))))
      · exact .inr (.inl h1)
    · rcases getElem?_snoc hu with ⟨-, h2⟩ | ⟨-, rfl⟩
      · exact .inl (.inr (.inr (.inr (.inr ⟨j, u, h2, h1⟩))))
      · have := hq b h1
        exact .inr (.inr (by omega))

set_option maxRecDepth 100000 in
set_option maxHeartbeats 1600000 in
theorem addC (w : World) (h N : Nat) (F : Nat → Prop) (H : HeldOk w h N F) (got : Value) (L : List UInt8) (hg : BRow w N got L) (hL : L.length ≤ 1073741824) (hgf : ∀ b, got.ownBlock = some b → ¬ F b)
    (A : Option Addr) (c : Nat) (hb : Bytes w w.heap.size A L) (hA : ∀ b off, A = some ⟨b, off, none⟩ → ¬ F b) :
    Calls Try.prog 67 #[.pointer (some ⟨h, 0, none⟩), got, .slice A L.length c] w fun e w' =>
      e = .returned (.bool true) ∧ ∃ F', HeldOk w' h N F' ∧ Only (fun b => F b ∨ got.ownBlock = some b) w w' ∧ ∀ b, F' b → F b ∨ got.ownBlock = some b ∨ w.heap.size ≤ b := by
  obtain ⟨vg, vw, ps, qs, Ls, size, H0, hn, hsz, rfl⟩ := H
  obtain ⟨k0, k1, k2, z0, z1, z2⟩ := H0.pre.cells
  obtain ⟨Ag, rfl, hgb⟩ := hg.bytes
  have P1 := fun ty => H0.pre.push1 L hg hL hgf (by omega) H0.lq ty
  have hlq := H0.lq
  have hlp := H0.lp
  have hlt := H0.lt
  replace hlq := Lib.hid hlq
  replace hlp := Lib.hid hlp
  replace hg := Lib.hid hg
  replace H0 := Lib.hid H0
  replace P1 := Lib.hid P1
  replace hgf := Lib.hid hgf
  obtain ⟨A3, c3, rfl⟩ := own_slice H0.out.og
  obtain ⟨A4, c4, rfl⟩ := own_slice H0.out.ow
  generalize hvg : Value.slice A3 ps.length c3 = vg at *
  generalize hvw : Value.slice A4 qs.length c4 = vw at *
  replace hvg := Lib.hid hvg
  replace hvw := Lib.hid hvw
  go_enter Try.func67, Try.ntmps67
  go_wp2_with (at_builtin; refine wpList_run rfl _ _ 109 rfl vg (.slice (some ⟨w.heap.size, 0, none⟩) 1 1) rfl rfl (fun v' w' => w'.cell? ⟨h, 0, none⟩ = some vg ∧ w'.frozen? ⟨h, 0, none⟩ = false ∧
      (Pre (w'.setCell ⟨h, 0, none⟩ v') h N v' vw (ps ++ [.slice Ag L.length L.length]) qs (Ls ++ [L]) size ∧ (v'.ownBlock = vg.ownBlock ∨ v'.ownBlock = some (w.heap.size + 1)) ∧ Only (fun b => b = h ∨ vg.ownBlock = some b) w (w'.setCell ⟨h, 0, none⟩ v') ∧ w.heap.size ≤ w'.heap.size)) (P1.out _) ?_)
  intro v1 w1 q1 q2 Pn ob1 on1 sz1
  obtain ⟨B3, d3, hv1⟩ := own_slice Pn.og
  rw [List.length_append, List.length_singleton] at hv1
  subst hv1
  clear P1 k0 k1 k2 z0 z1 z2
  replace Pn := Lib.hid Pn
  replace ob1 := Lib.hid ob1
  replace on1 := Lib.hid on1
  go_upto_region 2 with fail
  clear q1 q2
  have hsz2 : w1.heap.size = (w1.setCell ⟨h, 0, none⟩ (.slice B3 (ps.length + 1) d3)).heap.size := (World.size_setCell _ _ _).symm
  rw [hsz2] at sz1
  clear hsz2
  generalize w1.setCell ⟨h, 0, none⟩ (.slice B3 (ps.length + 1) d3) = w2 at *
  have hhF : HF h vg vw ps qs h := .inl rfl
  have hb2 : Bytes w2 w.heap.size A L := on1.out.row hb fun b off hA0 hc => by
    rcases hc with rfl | hc
    · exact hA _ _ hA0 (.inl rfl)
    · exact hA _ _ hA0 (.inr (.inl hc))
  have CP := copyC w2.drew A c w.heap.size L hb2 sz1 hL
  obtain ⟨k0, k1, k2, z0, z1, z2⟩ := Pn.out.cells
  have P2 : ∀ (w3 : World) (A5 : Option Addr) (c5 : Nat), w3.ownsRow w2.heap.size 5 1 (.slice A5 L.length c5) L.length (L.map bv) → Below w2.heap.size w2 w3 → ∀ ty, ∃ v' w', (Builtin.append_ #[109, 109] ty #[vw, .slice (some ⟨w3.heap.size, 0, none⟩) 1 1]).run Try.prog (w3.alloc (.cells #[.slice A5 L.length c5] 38)) = .ok v' w' ∧ w'.cell? ⟨h, 1, none⟩ = some vw ∧ w'.frozen? ⟨h, 1, none⟩ = false ∧
      (Pre (w'.setCell ⟨h, 1, none⟩ v') h N (.slice B3 (ps.length + 1) d3) v' (ps ++ [.slice Ag L.length L.length]) (qs ++ [.slice A5 L.length c5]) (Ls ++ [L]) size ∧ (v'.ownBlock = vw.ownBlock ∨ v'.ownBlock = some (w3.heap.size + 1)) ∧ Only (fun b => b = h ∨ vw.ownBlock = some b) w3 (w'.setCell ⟨h, 1, none⟩ v') ∧ w3.heap.size ≤ w'.heap.size) := by
    intro w3 A5 c5 ho3 hb3 ty
    have hlt2 := Pn.out.lt
    have hN2 : N ≤ w2.heap.size := by have := hlt2 h (.inl rfl); omega
    exact (Pn.out.below hb3).push2 L (own_more ho3 hN2) rfl (by rw [hlq.out, List.getElem?_append_right (Nat.le_refl _), Nat.sub_self]; rfl) (by rw [hlq.out, ← hlp.out]; omega) (fun hc => by
      have h1 := (ho3.lt h hc).1
      have h2 := (hlt2 h (.inl rfl)).2
      omega) ty
  have hh2 : h < w2.heap.size := (Pn.out.lt h (.inl rfl)).2
  replace CP := Lib.hid CP
  replace P2 := Lib.hid P2
  clear hb2 hb hA
  go_region_law (first
      | (refine step_run (by rfl) _ _ 109 (by rfl) vw (.slice (some ⟨w3.heap.size, 0, none⟩) 1 1) (by rfl) (by rfl) _ (P2.out w3 A5 c5 ho3 hb3 _) ?_; rintro v4 w4 ⟨q3, q4, P4, ob4, on4, sz4⟩; obtain ⟨B4, d4, hv4⟩ := own_slice P4.ow; rw [List.length_append, List.length_singleton] at hv4; subst hv4)
      | (go_simp; go_at_call 22; refine CP.out.mono ?_; rintro e w3 ⟨v, rfl, ho3, hb3⟩; obtain ⟨A5, c5, rfl⟩ := own_slice ho3; replace hb3 : Below w2.heap.size w2 w3 := (below_drewN (Below.refl _ _) 1).trans hb3; have k1' : w3.cell? ⟨h, 1, none⟩ = some vw := (hb3.cell (p := ⟨h, 1, none⟩) hh2).trans k1; have k1a : ∀ o, (w3.alloc o).cell? ⟨h, 1, none⟩ = some vw := fun o => (World.cell?_alloc_lt w3 o ⟨h, 1, none⟩ (Nat.lt_of_lt_of_le hh2 hb3.size)).trans k1'))
  all_goals
    obtain ⟨O5, S5⟩ := add_fin (p := .slice Ag L.length L.length) (ps := ps) (qs := qs) on1.out ob1.out sz1 hb3 on4 ob4 (fun b hb => (ho3.lt b hb).1)
    have P6 := P4.set2 (s2 := size + L.length + 140)
    have O6 := O5.setCell (p := ⟨h, 2, none⟩) (fun _ => .inl (.inl rfl)) (.int .i64 ((size + L.length + 140 : Nat) : Int))
    obtain ⟨j0, j1, j2, y0, y1, y2⟩ := P4.cells
    clear q3 q4 P4 ob4 on4 sz4 ho3 hb3 k1' k1a CP P2 k0 k1 k2 z0 z1 z2 O5 hh2 Pn ob1 on1 sz1
    generalize w4.setCell ⟨h, 1, none⟩ (.slice B4 (qs.length + 1) d4) = w5 at *
    have e6 : ((size + L.length + 140 : Nat) : Int) = (size : Int) + (L.length : Int) + 140 := by omega
    have wA : IntKind.i64.wrap ((size : Int) + (L.length : Int)) = (size : Int) + (L.length : Int) := IntWalk.i64_in _ (by omega)
    have wB : IntKind.i64.wrap ((size : Int) + (L.length : Int) + 140) = (size : Int) + (L.length : Int) + 140 := IntWalk.i64_in _ (by omega)
    rw [e6] at P6 O6
    obtain ⟨w6, hw6⟩ : ∃ w6, w6 = w5.setCell ⟨h, 2, none⟩ (.int .i64 ((size : Int) + (L.length : Int) + 140)) := ⟨_, rfl⟩
    rw [← hw6] at P6 O6
    replace hw6 := Lib.hid hw6
    replace P6 := Lib.hid P6
    replace O6 := Lib.hid O6
    replace S5 := Lib.hid S5
    replace e6 := Lib.hid e6
    go_upto_region 4 with fail
    rw [← hw6.out]
    clear j0 j1 j2 y0 y1 y2
    obtain ⟨j0, j1, j2, y0, y1, y2⟩ := P6.out.cells
    rw [e6.out] at j2
    have OA := Lib.hid (ownAllC w6 h N _ _ _ _ _ _ (P6.out.full (by simp [hlq.out])) (by rw [List.length_append, List.length_singleton]; omega))
    have hps : ps.length + 1 = (ps ++ [Value.slice Ag L.length L.length]).length := by simp
    have H6 := Lib.hid (P6.out.full (by simp [hlq.out]))
    clear P6 j1 y0 y1 y2
    by_cases hl1 : ps.length + 1 < 250
    · have d1 : decide ((ps.length : Int) + 1 < 250) = true := by simp; omega
      by_cases hl2 : size + L.length + 140 < 2097152
      · have d2 : decide ((size : Int) + (L.length : Int) + 140 < 2097152) = true := by simp; omega
        have fin : HeldOk w6 h N (HF h (.slice B3 (ps.length + 1) d3) (.slice B4 (qs.length + 1) d4) (ps ++ [.slice Ag L.length L.length]) (qs ++ [.slice A5 L.length c5])) := ⟨_, _, _, _, _, _, H6.out, by rw [← hps]; exact hl1, hl2, rfl⟩
        replace fin := Lib.hid fin
        replace hps := Lib.hid hps
        clear H6 hw6
        go_wp2
        go_ret
        exact ⟨rfl, _, fin.out, O6.out, S5.out⟩
      · have d2 : decide ((size : Int) + (L.length : Int) + 140 < 2097152) = false := by simp; omega
        replace hps := Lib.hid hps
        go_wp2_with fail
        refine OA.out.mono ?_
        rintro e w7 ⟨rfl, H7, O7⟩
        have fin : HeldOk w7 h N (HF h (.slice none 0 0) (.slice none 0 0) [] []) := ⟨_, _, _, _, _, _, H7, by simp, by omega, rfl⟩
        have O8 := O6.out.trans O7 (fun x hx hf => (S5.out x hf).elim .inl (fun h => h.elim .inr (fun h => absurd h (by omega))))
        have S8 : ∀ b, HF h (.slice none 0 0) (.slice none 0 0) [] [] b → HF h vg vw ps qs b ∨ (Value.slice Ag L.length L.length).ownBlock = some b ∨ w.heap.size ≤ b := by
          rintro b (rfl | h1 | h1 | ⟨j, u, hu, h1⟩ | ⟨j, u, hu, h1⟩)
          · exact .inl (.inl rfl)
          · simp [Value.ownBlock] at h1
          · simp [Value.ownBlock] at h1
          · simp at hu
          · simp at hu
        replace fin := Lib.hid fin
        replace O8 := Lib.hid O8
        replace S8 := Lib.hid S8
        clear H7 O7 OA H6 hw6 O6 S5
        go_wp2
        go_ret
        exact ⟨rfl, _, fin.out, O8.out, S8.out⟩
    · have d1 : decide ((ps.length : Int) + 1 < 250) = false := by simp; omega
      replace hps := Lib.hid hps
      go_wp2_with fail
      refine OA.out.mono ?_
      rintro e w7 ⟨rfl, H7, O7⟩
      have fin : HeldOk w7 h N (HF h (.slice none 0 0) (.slice none 0 0) [] []) := ⟨_, _, _, _, _, _, H7, by simp, by omega, rfl⟩
      have O8 := O6.out.trans O7 (fun x hx hf => (S5.out x hf).elim .inl (fun h => h.elim .inr (fun h => absurd h (by omega))))
      have S8 : ∀ b, HF h (.slice none 0 0) (.slice none 0 0) [] [] b → HF h vg vw ps qs b ∨ (Value.slice Ag L.length L.length).ownBlock = some b ∨ w.heap.size ≤ b := by
        rintro b (rfl | h1 | h1 | ⟨j, u, hu, h1⟩ | ⟨j, u, hu, h1⟩)
        · exact .inl (.inl rfl)
        · simp [Value.ownBlock] at h1
        · simp [Value.ownBlock] at h1
        · simp at hu
        · simp at hu
      replace fin := Lib.hid fin
      replace O8 := Lib.hid O8
      replace S8 := Lib.hid S8
      clear H7 O7 OA H6 hw6 O6 S5
      go_wp2
      go_ret
      exact ⟨rfl, _, fin.out, O8.out, S8.out⟩
end Go.Proofs.Ytnjobnccknpaeaa.Held
