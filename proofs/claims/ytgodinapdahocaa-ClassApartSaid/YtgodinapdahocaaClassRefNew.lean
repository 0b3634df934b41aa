/-
  The walk of the document's New.
-/
import Derived.Test.YtgodinapdahocaaClassRefused
import Derived.Test.YtgodinapdahocaaClassNew
namespace Go.Proofs.Ytgodinapdahocaa.Cls
open Go.RowKit Base MapG
set_option linter.unusedVariables false

theorem eiII : EI Try.prog 122 36 (.slice none 0 0) 1 24 := EI.mk' Try.underlying122 (by kernel_rfl) rfl (by decide)
def rset (c : Conf) (vS vO vG vC vR : Value) : Array Value := #[.int .i64 c.ps, .int .i64 c.np, .int .i64 c.fa, .int .i64 c.mc, .int .i64 c.il, vS, vO, vG, vC, vR]
theorem rconf_cells {w : World} {b : Nat} {t : TypeId} {c : Conf} (h : Blk w b t c.rcells) : w.cell? ⟨b, 0, none⟩ = some (.int .i64 c.ps) ∧ w.cell? ⟨b, 1, none⟩ = some (.int .i64 c.np) ∧ w.cell? ⟨b, 2, none⟩ = some (.int .i64 c.fa) ∧ w.cell? ⟨b, 3, none⟩ = some (.int .i64 c.mc) ∧
    w.cell? ⟨b, 4, none⟩ = some (.int .i64 c.il) := ⟨h.cell 0, h.cell 1, h.cell 2, h.cell 3, h.cell 4⟩
theorem reads_v (w : World) (v : Value) (e : TypeId) : Reads (w.alloc (.cells #[v] e)) (w.heap.size + 1) 1 (some ⟨w.heap.size, 0, none⟩) 1 [v] :=
  ⟨rfl, fun _ => ⟨_, rfl, Nat.lt_succ_self _, fun j u hj => by
    rw [add_explicit, Nat.zero_add, cell_of_row (w.alloc _) w.heap.size j _ e (0, 0) (heap_alloc_new w _)]
    simpa using hj⟩⟩
/-- The document's Set, its pages and rows at work. -/
structure RAt (w : World) (N b : Nat) (c : Conf) (i j : Nat) : Prop where
  lt : N ≤ b
  parts : ∃ vS A cp A' cp' A2 cp2, Blk w b 124 (rset c vS (.slice A i cp) (.slice A' i cp') (.slice none 0 0) (.slice A2 j cp2)) ∧ w.ownsRow N 3 1 vS c.nc (((List.range c.nc).map c.sz).map iv) ∧
    (∀ k, vS.ownBlock = some k → k < b) ∧ w.ownsRow (b + 1) 3 1 (.slice A i cp) i (List.replicate i (.int .i64 (-1))) ∧ w.ownsRow (b + 1) 4 1 (.slice A' i cp') i (List.replicate i (.bool false)) ∧
    w.ownsRow (b + 1) 36 1 (.slice A2 j cp2) j (List.replicate j (.slice none 0 0))
theorem own_base {w : World} {N n : Nat} {e : TypeId} {v : Value} {xs : List Value} {b : Nat} (h : w.ownsRow N e 1 v n xs) (hb : v.ownBlock = some b) : N ≤ b := by
  rcases h.2 with ⟨rfl, _⟩ | ⟨g, cap, cur, rfl, hB, hg, _⟩
  · cases hb
  · have : g = b := by simpa [Value.ownBlock] using hb
    omega
theorem own_ne {w : World} {N n M m : Nat} {e e' : TypeId} {v v' : Value} {xs ys : List Value} {b : Nat} (h : w.ownsRow N e 1 v n xs) (h' : w.ownsRow M e' 1 v' m ys) (he : e ≠ e') (hb : v.ownBlock = some b) (hb' : v'.ownBlock = some b) : False := by
  rcases h.2 with ⟨rfl, _⟩ | ⟨g, cap, cur, rfl, _, hg, _⟩
  · cases hb
  rcases h'.2 with ⟨rfl, _⟩ | ⟨g', cap', cur', rfl, _, hg', _⟩
  · cases hb'
  have e1 : g = b := by simpa [Value.ownBlock] using hb
  have e2 : g' = b := by simpa [Value.ownBlock] using hb'
  subst e1 e2
  rw [hg] at hg'
  injection hg' with h1
  injection h1 with _ h2
  exact he h2
theorem kept_row {w w' : World} {N n : Nat} {e : TypeId} {v : Value} {xs : List Value} {S : Nat → Prop} (o : Only S w w') (h : w.ownsRow N e 1 v n xs) (hne : ∀ k, v.ownBlock = some k → ¬ S k) : w'.ownsRow N e 1 v n xs :=
  own_kept h fun k e => o.block k (own_block h e) (hne k e)
theorem own_nil (w : World) (N : Nat) (e : TypeId) : w.ownsRow N e 1 (.slice none 0 0) 0 [] := ⟨rfl, .inl ⟨rfl, rfl⟩⟩
theorem rat_new {w3 : World} {N M : Nat} {c : Conf} {A : Option Addr} {cp : Nat} (hM : N ≤ M) (h3 : M ≤ w3.heap.size) (own : w3.ownsRow M 3 1 (.slice A c.nc cp) c.nc (((List.range c.nc).map c.sz).map iv)) :
    RAt (w3.alloc (.cells (rset c (.slice A c.nc cp) (.slice none 0 0) (.slice none 0 0) (.slice none 0 0) (.slice none 0 0)) 124)) N w3.heap.size c 0 0 :=
  ⟨by omega, _, none, 0, none, 0, none, 0, Blk.new w3 _ _, (own_weak own hM).alloc _, fun k e => own_block own e, own_nil _ _ _, own_nil _ _ _, own_nil _ _ _⟩
/-- A row of the document's Set is longer by one. -/
theorem grown_row {w w6 : World} {N b i n : Nat} {e t : TypeId} {cs : Array Value} {v v6 x : Value} {o : Obj} (hb : N ≤ b) (B : Blk w b t cs) (own : w.ownsRow (b + 1) e 1 v n (List.replicate n x)) (hg : (w.alloc o).grownBy w6 v.ownBlock)
    (own6 : w6.ownsRow (b + 1) e 1 v6 (n + 1) (List.replicate n x ++ [x])) : Only (fun k => v.ownBlock = some k) w w6 ∧ Blk w6 b t cs ∧ Blk (w6.setCell ⟨b, i, none⟩ v6) b t (cs.setIfInBounds i v6) ∧ (w6.setCell ⟨b, i, none⟩ v6).ownsRow (b + 1) e 1 v6 (n + 1) (List.replicate (n + 1) x) ∧
      Only (fun k => k = b ∨ v.ownBlock = some k) w (w6.setCell ⟨b, i, none⟩ v6) ∧ ∀ {B0 : Nat} {w0 : World}, B0 ≤ b → Below B0 w0 w → Below B0 w0 (w6.setCell ⟨b, i, none⟩ v6) := by
  have o6 : Only (fun k => v.ownBlock = some k) w w6 := ((Only.refl _ w).alloc _).grown hg (fun k e _ => e)
  have B6 : Blk w6 b t cs := (o6.block b B.lt (fun e => by have := own_base own e; omega)).trans B
  refine ⟨o6, B6, B6.set_ i v6, ?_, (o6.mono fun k _ h => .inr h).setCell (fun _ => .inl rfl) v6, fun {B0 w0} h0 h1 => ?_⟩
  · have e6 : List.replicate (n + 1) x = List.replicate n x ++ [x] := List.replicate_succ'
    rw [e6]
    refine own_kept own6 fun k ek => Below.heap_setCell w6 _ v6 k fun hk => ?_
    have := own_base own6 ek
    have hk' : k = b := hk
    omega
  · have hsz := h1.size
    have hlt := B.lt
    exact ((h1.alloc (by omega) o).grown hg (by rw [World.size_alloc]; omega) (fun k e => by have := own_base own e; omega)).setCell h0 v6
set_option maxRecDepth 100000 in
set_option maxHeartbeats 1600000 in
theorem refNewC (w : World) (c : Conf) :
    Calls Try.prog 39 #[.agg c.rcells] w fun e w' => Below w.heap.size w w' ∧
      ((refN c ≠ 0 ∧ e = .returned (.tuple #[.pointer none, .int .i64 (refN c)])) ∨ (refN c = 0 ∧ ∃ b, e = .returned (.tuple #[.pointer (some ⟨b, 0, none⟩), .int .i64 0]) ∧ RAt w' w.heap.size b c c.cf.np c.nc)) := by
  obtain ⟨w1, hw1⟩ : ∃ w1, w1 = w.alloc (.cells c.rcells 34) := ⟨_, rfl⟩
  have B1 : Blk w1 w.heap.size 34 c.rcells := by rw [hw1]; exact Blk.new w _ _
  have b1 : Below w.heap.size w w1 := by rw [hw1]; exact (Below.refl _ _).alloc (Nat.le_refl _) _
  have s1 : w1.heap.size = w.heap.size + 1 := by rw [hw1]; exact World.size_alloc _ _
  obtain ⟨x0, x1, x2, x3, x4⟩ := rconf_cells B1
  have RC := Lib.hid (refusedC c w1)
  have SC := Lib.hid (fun h => refSizesC c h)
  unfold Conf.rcells at RC SC hw1 ⊢
  replace hw1 := Lib.hid hw1
  replace B1 := Lib.hid B1
  generalize hN : w.heap.size = N at *
  replace hN := Lib.hid hN
  go_enter Try.func39, Try.ntmps39
  go_upto_region 1 with fail
  rw [hN.out, ← hw1.out]
  go_wp2_with fail
  refine RC.out.mono ?_
  rintro e w2 ⟨rfl, b2⟩
  have B2 := B1.out.below b2 (by omega)
  have b12 := Lib.hid (b1.trans (b2.mono (B' := N) (by omega)))
  have s2 := b2.size
  by_cases hr : refN c = 0
  rotate_left
  · have d1 : (refN c != 0) = true := by rw [bne_iff_ne]; exact hr
    have d2 : decide (refN c = 0) = false := by simp [hr]
    replace b1 := Lib.hid b1
    replace b2 := Lib.hid b2
    replace B2 := Lib.hid B2
    replace hr := Lib.hid hr
    go_wp2
    go_ret2
    exact ⟨b12.out, .inl ⟨hr.out, rfl⟩⟩
  have hR := (refN_zero hr).1
  rw [hr]
  obtain ⟨y0, y1, y2, y3, y4⟩ := rconf_cells B2
  have S2 := Lib.hid (SC.out hR w2.drew)
  have n1 := hR.np1
  have n2 := hR.np2
  have npE := Lib.hid hR.npE
  replace B2 := Lib.hid B2
  replace hr := Lib.hid hr
  replace hR := Lib.hid hR
  clear x0 x1 x2 x3 x4 RC SC b1 hw1 B1 b2
  go_upto_region 4 with fail
  go_cut [5] from 13 to 17 (fun s5 wx => ∃ b, s5 = .pointer (some ⟨b, 0, none⟩) ∧ N + 1 ≤ b ∧ Hid (RAt wx N b c 0 0) ∧ Hid (Below (N + 1) w2 wx))
  case first =>
    go_region_law ((go_simp; first | (go_at_call 17; refine S2.out.mono ?_; rintro e w3 ⟨v, rfl, own, b3⟩; obtain ⟨A, cp, rfl⟩ := own_is own; have B3 := B2.out.below (Below.drew (Below.refl _ w2) |>.trans b3) (show N < w2.heap.size by omega); obtain ⟨z0, z1, z2, z3, z4⟩ := rconf_cells B3)))
    all_goals
      have M := rat_new (N := N) (c := c) (by show N ≤ w2.heap.size; omega) b3.size own
      have b4 : Below (N + 1) w2 (w3.alloc (.cells (rset c (.slice A c.nc cp) (.slice none 0 0) (.slice none 0 0) (.slice none 0 0) (.slice none 0 0)) 124)) := by
        have h3 := b3.size
        have h3' : w2.heap.size ≤ w3.heap.size := h3
        exact (((Below.refl _ w2).drew).trans (b3.mono (show N + 1 ≤ w2.heap.size by omega))).alloc (by omega) _
      have hb3 : N + 1 ≤ w3.heap.size := by
        have h3 := b3.size
        have h3' : w2.heap.size ≤ w3.heap.size := h3
        omega
      unfold rset at M b4
      replace M := Lib.hid M
      replace b4 := Lib.hid b4
      clear own b3 B3
      go_wp2_with fail
      go_meet
      exact ⟨_, rfl, hb3, M, b4⟩
  case rest =>
    obtain ⟨b, rfl, hb, H, b23⟩ := hcut
    clear S2
    go_wp2_with fail
    go_loopw [6] (fun v wr => ∃ j : Nat, v = .int .i64 (j : Int) ∧ j ≤ c.cf.np ∧ Hid (RAt wr N b c j 0) ∧ Hid (Below (N + 1) w2 wr)) (fun v _ => c.cf.np - (intOf v).toNat)
    case atStart => exact ⟨0, rfl, Nat.zero_le _, H, b23⟩
    case round =>
      obtain ⟨j, rfl, hj, H, b2r⟩ := hrel
      clear b23 y0 y1 y2 y3 y4
      obtain ⟨-, y1, -, -, -⟩ := rconf_cells (B2.out.below b2r.out (Nat.lt_succ_self N))
      obtain ⟨vS, A, cp, A', cp', A2, cp2, B, oS, hS, oO, oG, oR⟩ := H.out.parts
      have hnp : c.cf.np ≤ 1024 := by have := npE.out; omega
      by_cases hjn : j < c.cf.np
      · have d1 : decide ((j : Int) < c.np) = true := by have := npE.out; rw [decide_eq_true_eq]; omega
        have c6 : wr.cell? ⟨b, 6, none⟩ = some (.slice A j cp) := B.cell 6
        have q1 : IntKind.i64.wrap ((j : Int) + 1) = (j : Int) + 1 := IntWalk.i64_in _ (by omega)
        have hlt := B.lt
        go_upto_region 8 with fail
        go_wp2_with (at_builtin; refine wpList_app rfl _ _ _ rfl eiI (b + 1) _ _ _ rfl (oO.alloc _) (wr.heap.size + 1) (some ⟨wr.heap.size, 0, none⟩) 1 1 [.int .i64 (-1)] rfl ?c1 ?c2 ?c3 ?c4 ?c5 ?_)
        case c1 => exact reads_v wr _ _
        case c2 => intro u hu; rw [List.mem_singleton] at hu; subst hu; rfl
        case c3 => unfold maxLen; omega
        case c4 => omega
        case c5 => rw [World.size_alloc]; omega
        intro VV w6 own6 hg6 hat6
        obtain ⟨A6, cp6, rfl⟩ := own_is own6
        obtain ⟨o6, B6, B7, oO7, o7, bl7⟩ := grown_row (i := 6) (show N ≤ b by omega) B oO hg6 own6
        have f6 : w6.frozen? ⟨b, 6, none⟩ = false := B6.frozen 6
        have c6' : w6.cell? ⟨b, 6, none⟩ = some (.slice A j cp) := B6.cell 6
        obtain ⟨w7, hw7⟩ : ∃ w7, w7 = w6.setCell ⟨b, 6, none⟩ (.slice A6 (j + 1) cp6) := ⟨_, rfl⟩
        rw [← hw7] at B7 oO7 o7 bl7
        have b27 := bl7 hb b2r.out
        have oS7 := kept_row o7 oS (fun k e h => h.elim (fun h => by have := hS k e; omega) (fun h => by have := own_base oO h; have := hS k e; omega))
        have oG7 := kept_row o7 oG (fun k e h => h.elim (fun h => by have := own_base oG e; omega) (fun h => own_ne oO oG (by decide) h e))
        have oR7 := kept_row o7 oR (fun k e h => h.elim (fun h => by have := own_base oR e; omega) (fun h => own_ne oO oR (by decide) h e))
        replace hw7 := Lib.hid hw7
        replace B7 := Lib.hid B7
        replace b27 := Lib.hid b27
        replace oS7 := Lib.hid oS7
        replace oO7 := Lib.hid oO7
        clear o6 o7 bl7 B oS oO oG oR own6 hg6 hat6 c6 B6 hlt
        go_upto_region 9 with fail
        rw [← hw7.out]
        clear f6 c6'
        have c7 : w7.cell? ⟨b, 7, none⟩ = some (.slice A' j cp') := B7.out.cell 7
        have hlt := B7.out.lt
        go_wp2_with (at_builtin; refine wpList_app rfl _ _ _ rfl eiB (b + 1) _ _ _ rfl (oG7.alloc _) (w7.heap.size + 1) (some ⟨w7.heap.size, 0, none⟩) 1 1 [.bool false] rfl ?c1 ?c2 ?c3 ?c4 ?c5 ?_)
        case c1 => exact reads_v w7 _ _
        case c2 => intro u hu; rw [List.mem_singleton] at hu; subst hu; rfl
        case c3 => unfold maxLen; omega
        case c4 => omega
        case c5 => rw [World.size_alloc]; omega
        intro VV w8 own8 hg8 hat8
        obtain ⟨A8, cp8, rfl⟩ := own_is own8
        obtain ⟨o8, B8, B9, oG9, o9, bl9⟩ := grown_row (i := 7) (show N ≤ b by omega) B7.out oG7 hg8 own8
        have f8 : w8.frozen? ⟨b, 7, none⟩ = false := B8.frozen 7
        have c8' : w8.cell? ⟨b, 7, none⟩ = some (.slice A' j cp') := B8.cell 7
        obtain ⟨w9, hw9⟩ : ∃ w9, w9 = w8.setCell ⟨b, 7, none⟩ (.slice A8 (j + 1) cp8) := ⟨_, rfl⟩
        rw [← hw9] at B9 oG9 o9 bl9
        have b29 := Lib.hid (bl9 hb b27.out)
        have oS9 := kept_row o9 oS7.out (fun k e h => h.elim (fun h => by have := hS k e; omega) (fun h => by have := own_base oG7 h; have := hS k e; omega))
        have oO9 := kept_row o9 oO7.out (fun k e h => h.elim (fun h => by have := own_base oO7.out e; omega) (fun h => own_ne oG7 oO7.out (by decide) h e))
        have oR9 := kept_row o9 oR7 (fun k e h => h.elim (fun h => by have := own_base oR7 e; omega) (fun h => own_ne oG7 oR7 (by decide) h e))
        have H9 : Hid (RAt w9 N b c (j + 1) 0) := Lib.hid ⟨by omega, vS, A6, cp6, A8, cp8, A2, cp2, B9, oS9, hS, oO9, oG9, oR9⟩
        replace hw9 := Lib.hid hw9
        clear o8 B8 B9 oG9 o9 bl9 oS9 oO9 oR9 own8 hg8 hat8 oS7 oO7 oG7 oR7 B7 b27 hlt c7
        go_upto_region 7 with fail
        rw [← hw9.out]
        clear f8 c8'
        go_wp2
        go_roundw
        case rel => exact ⟨j + 1, by simp, by omega, H9, b29⟩
        case measure => simp [intOf] <;> omega
      · obtain rfl : j = c.cf.np := by omega
        have d1 : decide ((c.cf.np : Int) < c.np) = false := by have := npE.out; rw [decide_eq_false_iff_not]; omega
        clear oS hS oO oG oR B y1 d1
        have d1 : decide ((c.cf.np : Int) < c.np) = false := by have := npE.out; rw [decide_eq_false_iff_not]; omega
        obtain ⟨-, y1, -, -, -⟩ := rconf_cells (B2.out.below b2r.out (Nat.lt_succ_self N))
        go_wp2_with fail
        clear y1 d1
        go_loopw [7] (fun v ws => ∃ j : Nat, v = .int .i64 (j : Int) ∧ j ≤ c.nc ∧ Hid (RAt ws N b c c.cf.np j) ∧ Hid (Below (N + 1) w2 ws)) (fun v _ => c.nc - (intOf v).toNat)
        case atStart => exact ⟨0, rfl, Nat.zero_le _, H, b2r⟩
        case round =>
          obtain ⟨j, rfl, hj, H, b2r⟩ := hrel
          obtain ⟨vS, A, cp, A', cp', A2, cp2, B, oS, hS, oO, oG, oR⟩ := H.out.parts
          obtain ⟨AS, cS, rfl⟩ := own_is oS
          have c5 : wr.cell? ⟨b, 5, none⟩ = some (.slice AS c.nc cS) := B.cell 5
          have c9 : wr.cell? ⟨b, 9, none⟩ = some (.slice A2 j cp2) := B.cell 9
          by_cases hjn : j < c.nc
          · have d1 : decide ((j : Int) < (c.nc : Int)) = true := by simp; omega
            have h62 : c.nc ≤ 62 := (okOf hr.out).1.ncb
            have q1 : IntKind.i64.wrap ((j : Int) + 1) = (j : Int) + 1 := IntWalk.i64_in _ (by omega)
            have hlt := B.lt
            go_upto_region 13 with fail
            go_wp2_with (at_builtin; refine wpList_app rfl _ _ _ rfl eiII (b + 1) _ _ _ rfl (oR.alloc _) (wr.heap.size + 1) (some ⟨wr.heap.size, 0, none⟩) 1 1 [.slice none 0 0] rfl ?c1 ?c2 ?c3 ?c4 ?c5 ?_)
            case c1 => exact reads_v wr _ _
            case c2 => intro u hu; rw [List.mem_singleton] at hu; subst hu; rfl
            case c3 => unfold maxLen; omega
            case c4 => omega
            case c5 => rw [World.size_alloc]; omega
            intro VV w6 own6 hg6 hat6
            obtain ⟨A6, cp6, rfl⟩ := own_is own6
            obtain ⟨o6, B6, B7, oR7, o7, bl7⟩ := grown_row (i := 9) (show N ≤ b by omega) B oR hg6 own6
            have f6 : w6.frozen? ⟨b, 9, none⟩ = false := B6.frozen 9
            have c6' : w6.cell? ⟨b, 9, none⟩ = some (.slice A2 j cp2) := B6.cell 9
            obtain ⟨w7, hw7⟩ : ∃ w7, w7 = w6.setCell ⟨b, 9, none⟩ (.slice A6 (j + 1) cp6) := ⟨_, rfl⟩
            rw [← hw7] at B7 oR7 o7 bl7
            have b27 := Lib.hid (bl7 hb b2r.out)
            have oS7 := kept_row o7 oS (fun k e h => h.elim (fun h => by have := hS k e; omega) (fun h => by have := own_base oR h; have := hS k e; omega))
            have oG7 := kept_row o7 oG (fun k e h => h.elim (fun h => by have := own_base oG e; omega) (fun h => own_ne oR oG (by decide) h e))
            have oO7 := kept_row o7 oO (fun k e h => h.elim (fun h => by have := own_base oO e; omega) (fun h => own_ne oR oO (by decide) h e))
            have H7 : Hid (RAt w7 N b c c.cf.np (j + 1)) := Lib.hid ⟨by omega, .slice AS c.nc cS, A, cp, A', cp', A6, cp6, B7, oS7, hS, oO7, oG7, oR7⟩
            replace hw7 := Lib.hid hw7
            clear o6 o7 bl7 B oS oO oG oR own6 hg6 hat6 c5 c9 B6 hlt oS7 oG7 oO7 oR7 B7
            go_upto_region 12 with fail
            rw [← hw7.out]
            clear f6 c6'
            go_wp2
            go_roundw
            case rel => exact ⟨j + 1, by simp, by omega, H7, b27⟩
            case measure => simp [intOf] <;> omega
          · obtain rfl : j = c.nc := by omega
            have d1 : decide ((c.nc : Int) < (c.nc : Int)) = false := by simp
            clear oS hS oO oG oR B
            go_wp2
            go_ret2
            exact ⟨b12.out.trans (b2r.out.mono (Nat.le_succ N)), .inr ⟨hr.out, b, rfl, H.out⟩⟩
end Go.Proofs.Ytgodinapdahocaa.Cls
