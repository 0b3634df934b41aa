/-
  Two clocks of the program's and two of the document's in step: the walks of begin and same.
-/
import Derived.Test.YteebcdicocmicaaTideWakes
namespace Go.Proofs.Yteebcdicocmicaa.Clk
open Go.RowKit Base
set_option linter.unusedVariables false

structure St where
  now : Int
  pend : Int
  cut : Int
def ptr (g : Nat) : Value := .pointer (some ⟨g, 0, none⟩)
structure TW (w : World) (B T : Nat) (g h : Nat → Nat) (s : Nat → St) : Prop where
  head : Blk w T 54 #[ptr (g 0), ptr (g 1), ptr (h 0), ptr (h 1)]
  ck : ∀ k, k < 2 → Ck w (g k) (s k).now (s k).pend (s k).cut
  rc : ∀ k, k < 2 → Rc w (h k) (s k).now (s k).pend (s k).cut
  ok : ∀ k, k < 2 → 1 ≤ (s k).now ∧ (s k).now ≤ 1099511627776
  dg : g 0 ≠ g 1
  dh : h 0 ≠ h 1
  lo : B ≤ T ∧ ∀ k, k < 2 → B ≤ g k ∧ B ≤ h k
theorem ck_rc {w : World} {g h : Nat} {a b c a' b' c' : Int} (x : Ck w g a b c) (y : Rc w h a' b' c') : g ≠ h := Blk.ne_ x y (by decide)
section
variable {w w' : World} {B T : Nat} {g h : Nat → Nat} {s : Nat → St}
theorem TW.cc (t : TW w B T g h s) (k : Nat) (hk : k < 2) : w.cell? ⟨T, k, none⟩ = some (ptr (g k)) ∧ w.cell? ⟨T, 2 + k, none⟩ = some (ptr (h k)) := by
  have : k = 0 ∨ k = 1 := by omega
  rcases this with rfl | rfl
  · exact ⟨t.head.cell 0, t.head.cell 2⟩
  · exact ⟨t.head.cell 1, t.head.cell 3⟩
theorem TW.below (t : TW w B T g h s) (b : Below w.heap.size w w') : TW w' B T g h s :=
  ⟨t.head.below b t.head.lt, fun k hk => Blk.below (t.ck k hk) b (Blk.lt (t.ck k hk)), fun k hk => Blk.below (t.rc k hk) b (Blk.lt (t.rc k hk)), t.ok, t.dg, t.dh, t.lo⟩
theorem TW.drewN (t : TW w B T g h s) (n : Nat) : TW (w.drewN n) B T g h s := t.below (below_drewN (Below.refl _ _) n)
theorem blk_only {S : Nat → Prop} {k : Nat} {e : TypeId} {cs : Array Value} (h : Blk w k e cs) (o : Only S w w') (hs : ¬ S k) : Blk w' k e cs := o.at_ h hs
def upS (s : Nat → St) (k : Nat) (x : St) : Nat → St := fun j => if j = k then x else s j
theorem g_inj (t : TW w B T g h s) {i k : Nat} (hi : i < 2) (hk : k < 2) (hne : i ≠ k) : g i ≠ g k ∧ h i ≠ h k := by
  have : (i = 0 ∧ k = 1) ∨ (i = 1 ∧ k = 0) := by omega
  rcases this with ⟨rfl, rfl⟩ | ⟨rfl, rfl⟩
  · exact ⟨t.dg, t.dh⟩
  · exact ⟨fun e => t.dg e.symm, fun e => t.dh e.symm⟩
/-- Half a step: the program's clock k is turned; then the document's. -/
theorem TW.half {w1 : World} (t : TW w B T g h s) (k : Nat) (hk : k < 2) (x : St) (o1 : Only (· = g k) w w1) (c : Ck w1 (g k) x.now x.pend x.cut) (hx : 1 ≤ x.now ∧ x.now ≤ 1099511627776) :
    Rc w1 (h k) (s k).now (s k).pend (s k).cut ∧ (∀ w2, Only (· = h k) w1 w2 → Rc w2 (h k) x.now x.pend x.cut → TW w2 B T g h (upS s k x)) ∧
      Blk w1 T 54 #[ptr (g 0), ptr (g 1), ptr (h 0), ptr (h 1)] := by
  have hTg : ∀ j, j < 2 → T ≠ g j := fun j hj => Blk.ne_ t.head (t.ck j hj) (by decide)
  have hTh : ∀ j, j < 2 → T ≠ h j := fun j hj => Blk.ne_ t.head (t.rc j hj) (by decide)
  have hgh : ∀ i j, i < 2 → j < 2 → g i ≠ h j := fun i j hi hj => ck_rc (t.ck i hi) (t.rc j hj)
  have head1 := blk_only t.head o1 (hTg k hk)
  refine ⟨blk_only (t.rc k hk) o1 (fun e => hgh k k hk hk e.symm), fun w2 o2 r => ⟨blk_only head1 o2 (hTh k hk), fun j hj => ?_, fun j hj => ?_, fun j hj => ?_, t.dg, t.dh, t.lo⟩, head1⟩
  · unfold upS
    by_cases hjk : j = k
    · subst hjk
      rw [if_pos rfl]
      exact blk_only c o2 (hgh j j hj hj)
    · rw [if_neg hjk]
      exact blk_only (blk_only (t.ck j hj) o1 (g_inj t hj hk hjk).1) o2 (hgh j k hj hk)
  · unfold upS
    by_cases hjk : j = k
    · subst hjk
      rw [if_pos rfl]
      exact r
    · rw [if_neg hjk]
      exact blk_only (blk_only (t.rc j hj) o1 (fun e => hgh k j hk hj e.symm)) o2 (g_inj t hj hk hjk).2
  · unfold upS
    by_cases hjk : j = k
    · rw [if_pos hjk]; exact hx
    · rw [if_neg hjk]; exact t.ok j hj
end

set_option maxRecDepth 100000 in
set_option maxHeartbeats 3200000 in
theorem sameC (w : World) (B T : Nat) (g h : Nat → Nat) (s : Nat → St) (t : TW w B T g h s) :
    Calls Try.prog 25 #[.pointer (some ⟨T, 0, none⟩)] w fun e w' => e = .returned (.bool true) ∧ ∃ n, w.drewN n = w' := by
  have N1 := Lib.hid nowC
  have N2 := Lib.hid cutC
  have N3 := Lib.hid pendC
  have H := Lib.hid t
  clear t
  go_enter Try.func25, Try.ntmps25
  go_wp2_with fail
  go_loopw [3] (fun i wr => ∃ k : Nat, k ≤ 2 ∧ i = .int .i64 (k : Int) ∧ ∃ n, w.drewN n = wr) (fun i _ => 2 - (intOf i).toNat)
  case atStart => exact ⟨0, by omega, rfl, 0, rfl⟩
  case round =>
    obtain ⟨k, hk, rfl, n, hn⟩ := hrel
    by_cases hlt : k < 2
    · have R := H.out.drewN n
      rw [hn] at R
      obtain ⟨c1, c2⟩ := R.cc k hlt
      unfold ptr at c1 c2
      have ck := R.ck k hlt
      have rc := R.rc k hlt
      obtain ⟨d0, d1, d2⟩ := rc.c
      have q1 : (0 : Int) ≤ k := by omega
      have q2 : (k : Int) < 2 := by omega
      have q3 : decide ((k : Int) < 2) = true := by simp; omega
      have ckN := fun m => Blk.drewN ck m
      replace ckN := Lib.hid ckN
      replace R := Lib.hid R
      replace hn := Lib.hid hn
      generalize (s k).now = x1 at *
      generalize (s k).pend = x2 at *
      generalize (s k).cut = x3 at *
      clear ck rc
      go_wp2_with fail
      go_quiet ((first | (go_at_call 18; exact quiet_left (N1.out _ _ _ _ _ (ckN.out _))) | (go_at_call 19; exact quiet_left (N2.out _ _ _ _ _ (ckN.out _))) | (go_at_call 44; exact quiet_left (N3.out _ _ _ _ _ (ckN.out _)))))
      go_wp2
      go_roundw
      case rel => exact ⟨k + 1, by omega, by go_num, _, by rw [← hn.out]; exact (World.drewN_drewN _ _ _).symm⟩
      case measure => simp [intOf]; omega
    · have q3 : decide ((k : Int) < 2) = false := by simp; omega
      replace hn := Lib.hid hn
      go_wp2
      go_ret
      exact ⟨rfl, n, hn.out⟩

def upN (g : Nat → Nat) (k x : Nat) : Nat → Nat := fun j => if j = k then x else g j
def setV (k : Nat) (p q : Value) (a b c d : Value) : Array Value := if k = 0 then #[p, b, q, d] else #[a, p, c, q]

set_option maxRecDepth 100000 in
set_option maxHeartbeats 3200000 in
theorem beginNo (w : World) (T k : Nat) (now cut pend : Int) (h : newOK now pend = false) :
    Calls Try.prog 20 #[.pointer (some ⟨T, 0, none⟩), .int .i64 (k : Int), .int .i64 now, .int .u64 cut, .int .i64 pend] w fun e w' => e = .returned (.bool true) ∧ w = w' := by
  have num1 := Lib.hid (fun w => numC 1 w (by omega))
  have P := Lib.hid (fun w => newNo now cut pend w h)
  have R := Lib.hid (fun w => newRNo now cut pend w h)
  clear h
  go_enter Try.func20, Try.ntmps20
  go_wp2_with fail
  refine (P.out _).mono ?_
  rintro e w' ⟨rfl, rfl⟩
  go_wp2_with fail
  refine (R.out _).mono ?_
  rintro e w' ⟨rfl, rfl⟩
  go_wp2_with fail
  refine (num1.out _).mono ?_
  rintro e w' ⟨rfl, rfl⟩
  go_wp2
  go_ret
  exact ⟨rfl, rfl⟩

set_option maxRecDepth 100000 in
set_option maxHeartbeats 3200000 in
theorem beginYes (w : World) (T k : Nat) (a b c d : Option Addr) (now cut pend : Int) (hT : Blk w T 54 #[.pointer a, .pointer b, .pointer c, .pointer d]) (hk : k < 2) (h : newOK now pend = true) :
    Calls Try.prog 20 #[.pointer (some ⟨T, 0, none⟩), .int .i64 (k : Int), .int .i64 now, .int .u64 cut, .int .i64 pend] w fun e w' => e = .returned (.bool true) ∧
      ∃ g' h', Blk w' T 54 (setV k (ptr g') (ptr h') (.pointer a) (.pointer b) (.pointer c) (.pointer d)) ∧ Ck w' g' now pend cut ∧ Rc w' h' now pend cut ∧ w.heap.size ≤ g' ∧ w.heap.size ≤ h' ∧ Only (· = T) w w' := by
  have num0 := Lib.hid (fun w => numC 0 w (by omega))
  have P := Lib.hid (fun w => newYes now cut pend w h)
  have R := Lib.hid (fun w => newRYes now cut pend w h)
  have hTl := hT.lt
  replace hT := Lib.hid hT
  clear h
  go_enter Try.func20, Try.ntmps20
  go_wp2_with fail
  refine (P.out _).mono ?_
  rintro e w1 ⟨rfl, ck1, b1⟩
  have T1 := hT.out.below b1 hTl
  have hl1 : w.heap.size < w1.heap.size := Blk.lt ck1
  generalize hN : w.heap.size = N at *
  replace hN := Lib.hid hN
  replace ck1 := Lib.hid ck1
  replace T1 := Lib.hid T1
  replace b1 := Lib.hid b1
  go_wp2_with fail
  refine (R.out _).mono ?_
  rintro e w2 ⟨rfl, rc2, b2⟩
  have T2 := T1.out.below b2 (by omega)
  have ck2 : Ck w2 N now pend cut := Blk.below ck1.out b2 hl1
  have o2 : Only (· = T) w w2 := (Only.of_below b1.out (by rw [hN.out]; exact Nat.le_refl _) _).below b2 (by rw [hN.out]; omega)
  have hne : T ≠ N ∧ T ≠ w1.heap.size := ⟨by omega, by omega⟩
  obtain ⟨hne1, hne2⟩ := hne
  generalize hM : w1.heap.size = M at *
  replace hM := Lib.hid hM
  have z : ∀ i, w2.frozen? ⟨T, i, none⟩ = false := fun i => T2.frozen i
  have y0 := T2.cell 0
  have y1 := T2.cell 1
  have y2 := T2.cell 2
  have y3 := T2.cell 3
  simp only [List.getElem?_toArray, List.getElem?_cons_zero, List.getElem?_cons_succ] at y0 y1 y2 y3
  have z0 := z 0
  have z1 := z 1
  have z2 := z 2
  have z3 := z 3
  clear z
  replace ck2 := Lib.hid ck2
  replace rc2 := Lib.hid rc2
  replace T2 := Lib.hid T2
  replace b2 := Lib.hid b2
  replace o2 := Lib.hid o2
  go_wp2_with fail
  refine (num0.out _).mono ?_
  rintro e w' ⟨rfl, rfl⟩
  have hk2 : k = 0 ∨ k = 1 := by omega
  rcases hk2 with rfl | rfl
  · go_wp2
    go_ret
    refine ⟨rfl, N, M, (T2.out.set_ 0 (ptr N)).set_ 2 (ptr M), ?_, ?_, Nat.le_of_eq hN.out, by rw [hN.out]; omega, ?_⟩
    · exact Blk.far (Blk.far ck2.out (p := ⟨T, 0, none⟩) (fun e => hne1 e.symm) _) (p := ⟨T, 2, none⟩) (fun e => hne1 e.symm) _
    · exact Blk.far (Blk.far rc2.out (p := ⟨T, 0, none⟩) (fun e => hne2 e.symm) _) (p := ⟨T, 2, none⟩) (fun e => hne2 e.symm) _
    · exact only_same (only_same o2.out (only_set _ _ _ _)) (only_set _ _ _ _)
  · go_wp2
    go_ret
    refine ⟨rfl, N, M, (T2.out.set_ 1 (ptr N)).set_ 3 (ptr M), ?_, ?_, Nat.le_of_eq hN.out, by rw [hN.out]; omega, ?_⟩
    · exact Blk.far (Blk.far ck2.out (p := ⟨T, 1, none⟩) (fun e => hne1 e.symm) _) (p := ⟨T, 3, none⟩) (fun e => hne1 e.symm) _
    · exact Blk.far (Blk.far rc2.out (p := ⟨T, 1, none⟩) (fun e => hne2 e.symm) _) (p := ⟨T, 3, none⟩) (fun e => hne2 e.symm) _
    · exact only_same (only_same o2.out (only_set _ _ _ _)) (only_set _ _ _ _)
theorem TW.begun {w w' : World} {B T : Nat} {g h : Nat → Nat} {s : Nat → St} (t : TW w B T g h s) (k : Nat) (hk : k < 2) (x : St) (hx : newOK x.now x.pend = true) {g' h' : Nat}
    (b : Blk w' T 54 (setV k (ptr g') (ptr h') (ptr (g 0)) (ptr (g 1)) (ptr (h 0)) (ptr (h 1)))) (c : Ck w' g' x.now x.pend x.cut) (r : Rc w' h' x.now x.pend x.cut) (hg : w.heap.size ≤ g') (hh : w.heap.size ≤ h') (o : Only (· = T) w w') :
    TW w' B T (upN g k g') (upN h k h') (upS s k x) := by
  have hB : B ≤ w.heap.size := by have := t.lo.1; have := t.head.lt; omega
  have hTg : ∀ j, j < 2 → g j ≠ T := fun j hj e => Blk.ne_ t.head (t.ck j hj) (by decide) e.symm
  have hTh : ∀ j, j < 2 → h j ≠ T := fun j hj e => Blk.ne_ t.head (t.rc j hj) (by decide) e.symm
  have gl : ∀ j, j < 2 → g j < w.heap.size := fun j hj => Blk.lt (t.ck j hj)
  have hl : ∀ j, j < 2 → h j < w.heap.size := fun j hj => Blk.lt (t.rc j hj)
  unfold newOK at hx
  simp only [Bool.and_eq_true, decide_eq_true_eq] at hx
  refine ⟨?_, fun j hj => ?_, fun j hj => ?_, fun j hj => ?_, ?_, ?_, t.lo.1, fun j hj => ?_⟩
  · have : k = 0 ∨ k = 1 := by omega
    rcases this with rfl | rfl
    · exact b
    · exact b
  · unfold upN upS
    by_cases hjk : j = k
    · rw [if_pos hjk, if_pos hjk]; exact c
    · rw [if_neg hjk, if_neg hjk]; exact blk_only (t.ck j hj) o (hTg j hj)
  · unfold upN upS
    by_cases hjk : j = k
    · rw [if_pos hjk, if_pos hjk]; exact r
    · rw [if_neg hjk, if_neg hjk]; exact blk_only (t.rc j hj) o (hTh j hj)
  · unfold upS
    by_cases hjk : j = k
    · rw [if_pos hjk]; exact hx.1
    · rw [if_neg hjk]; exact t.ok j hj
  · have : k = 0 ∨ k = 1 := by omega
    have g0 := gl 0 (by omega)
    have g1 := gl 1 (by omega)
    rcases this with rfl | rfl
    · show g' ≠ g 1; omega
    · show g 0 ≠ g'; omega
  · have : k = 0 ∨ k = 1 := by omega
    have g0 := hl 0 (by omega)
    have g1 := hl 1 (by omega)
    rcases this with rfl | rfl
    · show h' ≠ h 1; omega
    · show h 0 ≠ h'; omega
  · unfold upN
    by_cases hjk : j = k
    · rw [if_pos hjk, if_pos hjk]; omega
    · rw [if_neg hjk, if_neg hjk]; exact t.lo.2 j hj
end Go.Proofs.Yteebcdicocmicaa.Clk
