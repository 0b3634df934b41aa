/-
  Contracts and lemmas, joined: QueueZap, QueueBytes0.
-/
import Derived.Test.YtfjiphibalhcgaaGreatJ13
import Derived.Test.YtfjiphibalhcgaaGreatJ15
set_option linter.unusedSimpArgs false
set_option linter.unusedVariables false
/-
  Two images beside one another: what stands at the links and states of items is blotted out.
-/
namespace Go.Proofs.YtfjiphibalhcgaaGreat.Que
open Go.RowKit Base Arena Cls Itm
set_option linter.unusedVariables false
set_option linter.unusedSectionVars false

def hitZ (p j : Nat) : Prop := p + 4 ≤ j ∧ j < p + 12 ∨ j = p + 45
def zk (p : Nat) : Nat → List UInt8 → List UInt8
  | 0, l => l
  | k + 1, l => (zk p k l).set (p + (4 + k)) 0
def zap (p : Nat) (l : List UInt8) : List UInt8 := (zk p 8 l).set (p + 45) 0
def zaps (ps : List Nat) (l : List UInt8) : List UInt8 := ps.foldl (fun l p => zap p l) l
theorem zk_len (p : Nat) (l : List UInt8) : ∀ k, (zk p k l).length = l.length
  | 0 => rfl
  | k + 1 => by unfold zk; rw [List.length_set]; exact zk_len p l k
theorem zap_len (p : Nat) (l : List UInt8) : (zap p l).length = l.length := by unfold zap; rw [List.length_set]; exact zk_len p l 8
theorem zk_get (p : Nat) (l : List UInt8) (j : Nat) : ∀ k, (zk p k l)[j]? = if p + 4 ≤ j ∧ j < p + (4 + k) then (if j < l.length then some 0 else none) else l[j]?
  | 0 => by rw [if_neg (by omega)]; rfl
  | k + 1 => by
    unfold zk
    rw [List.getElem?_set, zk_len, zk_get p l j k]
    repeat' split
    all_goals first | rfl | omega | (exfalso; omega)
theorem zap_get (p : Nat) (l : List UInt8) (j : Nat) : (zap p l)[j]? = if p + 4 ≤ j ∧ j < p + 12 ∨ j = p + 45 then (if j < l.length then some 0 else none) else l[j]? := by
  unfold zap
  rw [List.getElem?_set, zk_len, zk_get]
  repeat' split
  all_goals first | rfl | omega | (exfalso; omega)
theorem zaps_get (j : Nat) : ∀ (ps : List Nat) (l : List UInt8), ((∃ p ∈ ps, hitZ p j) → (zaps ps l)[j]? = if j < l.length then some 0 else none) ∧ ((¬ ∃ p ∈ ps, hitZ p j) → (zaps ps l)[j]? = l[j]?)
  | [], l => ⟨fun ⟨p, hp, _⟩ => (by cases hp), fun _ => rfl⟩
  | p :: t, l => by
    have ih := zaps_get j t (zap p l)
    rw [zap_len] at ih
    have e : zaps (p :: t) l = zaps t (zap p l) := rfl
    rw [e]
    refine ⟨fun ⟨q, hq, hh⟩ => ?_, fun hn => ?_⟩
    · by_cases ht : ∃ p ∈ t, hitZ p j
      · exact ih.1 ht
      · rw [ih.2 ht, zap_get]
        rcases List.mem_cons.1 hq with rfl | hq
        · exact if_pos hh
        · exact absurd ⟨q, hq, hh⟩ ht
    · rw [ih.2 fun ⟨q, hq, hh⟩ => hn ⟨q, List.mem_cons_of_mem _ hq, hh⟩, zap_get]
      exact if_neg fun hh => hn ⟨p, List.mem_cons_self .., hh⟩
theorem zaps_eq {D : Nat → Prop} {a b : List UInt8} (h : Ed D a b) {ps : List Nat} (hD : ∀ p, D p → p ∈ ps) : zaps ps a = zaps ps b := by
  apply List.ext_getElem?
  intro j
  by_cases hp : ∃ p ∈ ps, hitZ p j
  · rw [(zaps_get j ps a).1 hp, (zaps_get j ps b).1 hp, h.1]
  · rw [(zaps_get j ps a).2 hp, (zaps_get j ps b).2 hp]
    exact (h.2 j fun p hd hh => hp ⟨p, hD p hd, hh⟩).symm
/-- The places of the items among the handles. -/
def plN (c : Conf) (s : St) (Z : Nat → Option Zd) (H : Nat) : Option Nat := match findN c.cf s H with
  | some (_, _, p) => if (Z H).isSome = true then some p else none
  | none => none
theorem zaps_snoc (ps : List Nat) (p : Nat) (l : List UInt8) : zaps (ps ++ [p]) l = zap p (zaps ps l) := by
  unfold zaps
  rw [List.foldl_append]
  rfl
/-- The two copies. -/
structure XY (w0 : World) (gx cx gy cy : Nat) (X Y : List UInt8) (w : World) : Prop where
  x : w.ownsRow w0.heap.size 5 1 (.slice (some ⟨gx, 0, none⟩) 16384 cx) 16384 (X.map bv)
  y : w.ownsRow w0.heap.size 5 1 (.slice (some ⟨gy, 0, none⟩) 16384 cy) 16384 (Y.map bv)
  ne : gx ≠ gy
  b : Below w0.heap.size w0 w
section
variable {w0 w : World} {gx cx gy cy : Nat} {X Y : List UInt8} (h : XY w0 gx cx gy cy X Y w)
include h
theorem XY.swap : XY w0 gy cy gx cx Y X w := ⟨h.y, h.x, h.ne.symm, h.b⟩
theorem XY.lx : X.length = 16384 := by have := h.x.1; rwa [List.length_map] at this
theorem XY.cell {k : Nat} (hk : k < 16384) : (∃ v, w.cell? ⟨gx, k, none⟩ = some v) ∧ w.frozen? ⟨gx, k, none⟩ = false := by
  rcases h.x.2 with ⟨e0, -⟩ | ⟨g', cap, cur, hv, hB, hg, h1, h2, h3, h4⟩
  · cases e0
  · injection hv with hv1 hv2 hv3
    injection hv1 with hv1
    injection hv1 with hv1
    subst hv1
    have hB' : Blk w gx 5 cur := hg
    refine ⟨⟨_, (hB'.cell k).trans (Array.getElem?_eq_getElem (by omega))⟩, hB'.frozen k⟩
theorem XY.below {w' : World} (b : Below w.heap.size w w') : XY w0 gx cx gy cy X Y w' :=
  ⟨own_keptN h.x fun d e => b.block d (own_blockN h.x e), own_keptN h.y fun d e => b.block d (own_blockN h.y e), h.ne, h.b.trans (b.mono h.b.size)⟩
theorem XY.set {k : Nat} (hk : k < 16384) : XY w0 gx cx gy cy (X.set k 0) Y (w.setCell ⟨gx, k, none⟩ (.int .u8 0)) := by
  refine ⟨?_, own_keptN h.y fun d e => ?_, h.ne, h.b.setCell (p := ⟨gx, k, none⟩) (own_base h.x rfl) _⟩
  · rw [List.map_set]
    exact own_put h.x _ hk
  · exact (only_cell1 (S := (· = gx)) w gx k (.int .u8 0) rfl).block d (own_blockN h.y e) (fun e2 => by
      have e3 : some gy = some d := e
      injection e3 with e3
      exact h.ne (e2.symm.trans e3.symm))
end
theorem own_some {w : World} {N n : Nat} {e : TypeId} {v : Value} {xs : List Value} (h : w.ownsRow N e 1 v n xs) (hn : 0 < n) : ∃ g c, v = .slice (some ⟨g, 0, none⟩) n c := by
  rcases h.2 with ⟨e0, h0⟩ | ⟨g, cap, cur, e0, -⟩
  · have := h.1
    first
      | omega
      | (subst h0; simp at this; omega)
      | (rw [h0] at this; simp at this; omega)
  · exact ⟨g, cap, e0⟩
theorem quiet_more6 {P : Program} {f : FuncId} {args : Array Value} {w : World} {n : Nat} {v : Value}
    (h : Calls P f args (w.drewN n) fun e w' => e = .returned v ∧ ∃ m, (w.drewN n).drewN m = w') : Calls P f args (w.drewN n) fun e w'' => e = .returned v ∧ ∃ m, w'' = w.drewN m :=
  h.mono fun _ _ ⟨he, m, hm⟩ => ⟨he, n + m, by rw [← hm, World.drewN_drewN]⟩
theorem own_zero8 (w : World) (N : Nat) (hN : N ≤ w.heap.size) : (w.alloc (.cells #[] 5)).ownsRow N 5 1 (.slice (some ⟨w.heap.size, 0, none⟩) 0 0) 0 [] :=
  ⟨rfl, .inr ⟨w.heap.size, 0, #[], rfl, hN, Blk.new w _ _, Nat.le_refl _, by unfold maxLen; decide, rfl, rfl⟩⟩
theorem xy_eq {w0 w : World} {gx cx gy cy : Nat} {X Y : List UInt8} (h : XY w0 gx cx gy cy X Y w) : Bytes w w.heap.size (some ⟨gx, 0, none⟩) X := by
  obtain ⟨A, c, e, hb⟩ := own_bytes h.x
  injection e with e
  rw [e]; exact hb
section
variable {N : Nat} {w : World} {W : W6} {s : St} {bs : List UInt8} {Z : Nat → Option Zd} {Ls : Nat → Nat → List Nat} {r : RS} {laid told : List Nat} {t : Nat} (h : WI N w W s bs Z Ls r laid told t) (ht : t ≤ 60000)
include h ht
set_option maxRecDepth 100000 in
set_option maxHeartbeats 3200000 in
theorem apartC {a b : List UInt8} {A B : Option Addr} {ca cb Na : Nat} (ra : w.ownsRow Na 5 1 (.slice A 16384 ca) 16384 (a.map bv)) (rb : w.ownsRow Na 5 1 (.slice B 16384 cb) 16384 (b.map bv)) (hE : Ed (Itp qc s Z) a b) :
    Calls Tryz.prog 41 #[.pointer (some ⟨W.b, 0, none⟩), .slice A 16384 ca, .slice B 16384 cb] w fun e w' => e = .returned (.bool true) ∧ Below w.heap.size w w' := by
  have htl := h.tl
  have TC : ∃ A cp, ∀ w2, Below w.heap.size w w2 → w2.cell? ⟨W.b, 4, none⟩ = some (.slice A told.length cp) ∧ ∀ (i x : Nat), told[i]? = some x → ∃ g, A = some ⟨g, 0, none⟩ ∧ w2.cell? ⟨g, i, none⟩ = some (.int .u64 (x : Int)) := by
    obtain ⟨A, cp, hv⟩ := own_is h.wat.told
    refine ⟨A, cp, fun w2 b => ?_⟩
    have h2 := h.below b
    obtain ⟨-, -, -, -, y4⟩ := h2.wat.cW
    have own := h2.wat.told
    rw [hv] at y4 own
    refine ⟨y4, fun i x hx => ?_⟩
    obtain ⟨g, c', hv2, u⟩ := own_uv own hx
    injection hv2 with e1 e2 e3
    exact ⟨g, e1, u⟩
  obtain ⟨At, cpt, TC⟩ := TC
  have CW : ∀ w2, Below w.heap.size w w2 → w2.cell? ⟨W.b, 2, none⟩ = some (.pointer (some ⟨W.M.b, 0, none⟩)) ∧ w2.cell? ⟨W.b, 3, none⟩ = some (.pointer (some ⟨W.R.b, 0, none⟩)) := fun w2 b => by
    obtain ⟨-, -, y2, y3, -⟩ := (h.below b).wat.cW
    exact ⟨y2, y3⟩
  have RC := fun w2 (b : Below w.heap.size w w2) H => ratC w2 W.M qc r ((h.below b).d6 ht).ref ((h.below b).d6 ht).fine ((h.below b).d6 ht).ch H
  have IC := fun w2 (b : Below w.heap.size w w2) H => is6C ((h.below b).d6 ht) H
  have FN : ∀ H, findN qc.cf s H = none → ratV r.ch (rfind r.ch H) = .tuple #[.int .i64 0, .int .i64 0, .int .i64 20] := fun H hf => by
    rw [h.rel.find_none h.wat.okc h.wat.good hf]; rfl
  have FS : ∀ H i x p, findN qc.cf s H = some (i, x, p) → ratV r.ch (rfind r.ch H) = .tuple #[.int .i64 (p : Int), .int .i64 (s.cls i : Int), .int .i64 0] ∧ p + 64 ≤ 16384 := fun H i x p hf => by
    obtain ⟨j, hj1, hj2⟩ := h.rel.find_some h.wat.okc h.wat.good hf
    rw [hj1]
    refine ⟨by unfold ratV; simp only [hj2], ?_⟩
    obtain ⟨t0, -⟩ := Tkn.of h.wat.okc h.wat.good hf
    obtain ⟨a1, a2, a3, a4, a5⟩ := t0.fit h.wat.okc
    have h1 := (h.wat.okc.sz _ t0.kN).1
    have h2 : qc.cf.np * qc.cf.ps = 16384 := by decide
    omega
  have hD : ∀ p, Itp qc s Z p → p ∈ told.filterMap (plN qc s Z) := fun p ⟨H, i, x, hf, hz⟩ => by
    rw [List.mem_filterMap]
    refine ⟨H, h.lt H ((h.agr H i x p hf).1 hz), ?_⟩
    unfold plN
    rw [hf]
    exact if_pos hz
  replace TC := Lib.hid TC
  replace CW := Lib.hid CW
  replace RC := Lib.hid RC
  replace IC := Lib.hid IC
  replace FN := Lib.hid FN
  replace FS := Lib.hid FS
  replace hD := Lib.hid hD
  replace hE := Lib.hid hE
  clear h
  have hone : ∀ l : List UInt8, ∀ u ∈ l.map bv, u.oneCell' = true := fun l u hu => by
    obtain ⟨x, -, rfl⟩ := List.mem_map.1 hu; rfl
  go_enter Tryz.func41, Tryz.ntmps41
  go_wp2_with (at_builtin; refine wpList_app rfl _ _ _ rfl eiBytes w.heap.size _ _ _ rfl (own_zero8 w w.heap.size (Nat.le_refl _)) (w.heap.size + 1) A 16384 ca (a.map bv) rfl ?c1 (hone a) ?c3 ?c4 ?c5 ?_)
  case c1 => exact World.size_alloc w _ ▸ Reads.of_own (ra.alloc _)
  case c3 => unfold maxLen; omega
  case c4 => omega
  case c5 => rw [World.size_alloc]; omega
  intro v1 w1 o1 g1 _
  obtain ⟨gx, cx, rfl⟩ := own_some o1 (by decide)
  have b1 : Below w.heap.size w w1 := ((Below.refl _ w).alloc (Nat.le_refl _) _).grown g1 (by rw [World.size_alloc]; omega) (fun k e => by
    have e : some w.heap.size = some k := e
    injection e with e
    omega)
  have rb1 := own_keptN rb fun d e => b1.block d (own_blockN rb e)
  replace b1 := Lib.hid b1
  clear g1
  go_wp2_with (at_builtin; refine wpList_app rfl _ _ _ rfl eiBytes w1.heap.size _ _ _ rfl (own_zero8 w1 w1.heap.size (Nat.le_refl _)) (w1.heap.size + 1) B 16384 cb (b.map bv) rfl ?c1 (hone b) ?c3 ?c4 ?c5 ?_)
  case c1 => exact World.size_alloc w1 _ ▸ Reads.of_own (rb1.alloc _)
  case c3 => unfold maxLen; omega
  case c4 => omega
  case c5 => rw [World.size_alloc]; omega
  intro v2 w2 o2 g2 _
  obtain ⟨gy, cy, rfl⟩ := own_some o2 (by decide)
  have b2 : Below w1.heap.size w1 w2 := ((Below.refl _ w1).alloc (Nat.le_refl _) _).grown g2 (by rw [World.size_alloc]; omega) (fun k e => by
    have e : some w1.heap.size = some k := e
    injection e with e
    omega)
  have S0 : XY w gx cx gy cy a b w2 := by
    have hx := own_blockN o1 (b := gx) rfl
    have hy := own_base o2 (b := gy) rfl
    exact ⟨own_keptN o1 fun d e => b2.block d (own_blockN o1 e), own_down o2 b1.out.size, by omega, b1.out.trans (b2.mono b1.out.size)⟩
  replace S0 := Lib.hid S0
  clear b1 b2 o1 o2 g2 rb1 ra rb hone
  go_wp2_with fail
  go_loopw [9] (fun v wr => ∃ i : Nat, v = .int .i64 (i : Int) ∧ i ≤ told.length ∧ Hid (XY w gx cx gy cy (zaps ((told.take i).filterMap (plN qc s Z)) a) (zaps ((told.take i).filterMap (plN qc s Z)) b) wr)) (fun v _ => told.length - (intOf v).toNat)
  case atStart => exact ⟨0, rfl, Nat.zero_le _, S0⟩
  case round =>
    obtain ⟨i, rfl, hi, S⟩ := hrel
    obtain ⟨y4, TT⟩ := TC.out _ S.out.b
    obtain ⟨y2, y3⟩ := CW.out _ S.out.b
    by_cases hlt : i < told.length
    · have hx : told[i]? = some told[i] := List.getElem?_eq_getElem hlt
      obtain ⟨g, rfl, u⟩ := TT i _ hx
      have i0 : (0 : Int) ≤ (i : Int) := by omega
      have i1 : (i : Int) < (told.length : Int) := by omega
      have d1 : decide ((i : Int) < (told.length : Int)) = true := decide_eq_true i1
      have q1 : IntKind.i64.wrap ((i : Int) + 1) = (i : Int) + 1 := IntWalk.i64_in _ (by omega)
      have nx : ∀ ps, plN qc s Z told[i] = ps → (told.take (i + 1)).filterMap (plN qc s Z) = (told.take i).filterMap (plN qc s Z) ++ ps.toList := fun ps e => by
        rw [List.take_add_one, hx, List.filterMap_append]
        congr 1
        show [told[i]].filterMap (plN qc s Z) = _
        cases ps with
        | none => simp [List.filterMap_cons, e]
        | some p => simp [List.filterMap_cons, e]
      have TD := fun w2 (b : Below w.heap.size w w2) => (TC.out w2 b).2 i _ hx
      generalize told[i] = H at *
      have R1 := fun m => RC.out (wr.drewN m) (below_drewN S.out.b m) H
      replace TT := Lib.hid TT
      replace TD := Lib.hid TD
      replace nx := Lib.hid nx
      clear hx
      cases hf : findN qc.cf s H with
      | none =>
        rw [FN.out H hf] at R1
        have ep : plN qc s Z H = none := by unfold plN; rw [hf]
        have nx1 := nx.out _ ep
        rw [Option.toList_none, List.append_nil] at nx1
        rw [← nx1] at S
        replace R1 := Lib.hid R1
        clear hf ep nx1 nx TD
        go_upto_region 6 with fail
        go_quiet (first | (go_at_call 59; with_reducible exact quiet_more6 (R1.out _)) | fail)
        obtain ⟨w3, hw3⟩ : ∃ w3, w3 = wr.drewN nq := ⟨_, rfl⟩
        rw [← hw3]
        have S3 := Lib.hid (show XY w gx cx gy cy _ _ w3 from hw3 ▸ S.out.below (below_drewN (Below.refl _ _) nq))
        clear hw3
        go_upto_region 7 with fail
        go_quiet (fail)
        obtain ⟨w4, hw4⟩ : ∃ w4, w4 = w3.drewN nq := ⟨_, rfl⟩
        rw [← hw4]
        have S4 := Lib.hid (show XY w gx cx gy cy _ _ w4 from hw4 ▸ S3.out.below (below_drewN (Below.refl _ _) nq))
        clear hw4
        go_wp2
        go_roundw
        case rel => exact ⟨i + 1, by simp, by omega, S4⟩
        case measure => simp [intOf] <;> omega
      | some y =>
        obtain ⟨j, x, p⟩ := y
        obtain ⟨f1, f2⟩ := FS.out H j x p hf
        rw [f1] at R1
        replace R1 := Lib.hid R1
        clear f1
        go_upto_region 6 with fail
        go_quiet (first | (go_at_call 59; with_reducible exact quiet_more6 (R1.out _)) | fail)
        obtain ⟨w3, hw3⟩ : ∃ w3, w3 = wr.drewN nq := ⟨_, rfl⟩
        rw [← hw3]
        have S3 := Lib.hid (show XY w gx cx gy cy _ _ w3 from hw3 ▸ S.out.below (below_drewN (Below.refl _ _) nq))
        have I1 := fun m => IC.out (w3.drewN m) (below_drewN S3.out.b m) H
        have iv : isN qc s Z H = (Z H).isSome := by unfold isN; rw [hf]; rfl
        rw [iv] at I1
        clear hw3 y2 y3 y4 u R1 S
        obtain ⟨y4, -⟩ := TC.out _ S3.out.b
        obtain ⟨y2, y3⟩ := CW.out _ S3.out.b
        obtain ⟨g', eg, u⟩ := TD.out _ S3.out.b
        injection eg with eg
        injection eg with eg
        subst eg
        cases hz : (Z H).isSome with
        | false =>
          rw [hz] at I1
          have ep : plN qc s Z H = none := by unfold plN; rw [hf]; exact if_neg (by rw [hz]; exact Bool.noConfusion)
          have nx1 := nx.out _ ep
          rw [Option.toList_none, List.append_nil] at nx1
          rw [← nx1] at S3
          replace I1 := Lib.hid I1
          clear hf ep nx1 nx TD hz iv
          go_upto_region 7 with fail
          go_quiet (first | (go_at_call 26; with_reducible exact quiet_more6 (I1.out _)) | fail)
          obtain ⟨w4, hw4⟩ : ∃ w4, w4 = w3.drewN nq := ⟨_, rfl⟩
          rw [← hw4]
          have S4 := Lib.hid (show XY w gx cx gy cy _ _ w4 from hw4 ▸ S3.out.below (below_drewN (Below.refl _ _) nq))
          clear hw4
          go_wp2
          go_roundw
          case rel => exact ⟨i + 1, by simp, by omega, S4⟩
          case measure => simp [intOf] <;> omega
        | true =>
          rw [hz] at I1
          have ep : plN qc s Z H = some p := by unfold plN; rw [hf]; exact if_pos hz
          have nx1 := nx.out _ ep
          have nxa : zap p (zaps ((told.take i).filterMap (plN qc s Z)) a) = zaps ((told.take (i + 1)).filterMap (plN qc s Z)) a := by rw [nx1, Option.toList_some, zaps_snoc]
          have nxb : zap p (zaps ((told.take i).filterMap (plN qc s Z)) b) = zaps ((told.take (i + 1)).filterMap (plN qc s Z)) b := by rw [nx1, Option.toList_some, zaps_snoc]
          replace I1 := Lib.hid I1
          replace nxa := Lib.hid nxa
          replace nxb := Lib.hid nxb
          generalize zaps ((told.take i).filterMap (plN qc s Z)) a = X at *
          generalize zaps ((told.take i).filterMap (plN qc s Z)) b = Y at *
          clear hf ep nx1 nx TD hz iv
          go_upto_region 7 with fail
          go_quiet (first | (go_at_call 26; with_reducible exact quiet_more6 (I1.out _)) | fail)
          obtain ⟨w4, hw4⟩ : ∃ w4, w4 = w3.drewN nq := ⟨_, rfl⟩
          rw [← hw4]
          have S4 := Lib.hid (show XY w gx cx gy cy _ _ w4 from hw4 ▸ S3.out.below (below_drewN (Below.refl _ _) nq))
          clear hw4 S3 I1 y2 y3 y4 u
          go_wp2_with fail
          go_loopw [13] (fun v wx => ∃ k : Nat, v = .int .i64 ((4 + k : Nat) : Int) ∧ k ≤ 8 ∧ Hid (XY w gx cx gy cy (zk p k X) (zk p k Y) wx)) (fun v _ => 12 - (intOf v).toNat)
          case atStart => exact ⟨0, rfl, Nat.zero_le _, S4⟩
          case round =>
            obtain ⟨k, rfl, hk, S⟩ := hrel
            by_cases hk8 : k < 8
            · have d2 : decide (((4 + k : Nat) : Int) < 12) = true := decide_eq_true (by omega)
              have q2 : IntKind.i64.wrap (((4 + k : Nat) : Int) + 1) = ((4 + (k + 1) : Nat) : Int) := by rw [IntWalk.i64_in _ (by omega)]; omega
              have q3 : IntKind.i64.wrap ((p : Int) + ((4 + k : Nat) : Int)) = ((p + (4 + k) : Nat) : Int) := by rw [IntWalk.i64_in _ (by omega)]; omega
              have hkk : p + (4 + k) < 16384 := by omega
              have S5 := S.out.set hkk
              have S6 := (S5.swap.set hkk).swap
              obtain ⟨⟨vx, cvx⟩, fx⟩ := S.out.cell hkk
              obtain ⟨⟨vy, cvy⟩, fy⟩ := S5.swap.cell hkk
              have k0 : (0 : Int) ≤ ((p + (4 + k) : Nat) : Int) := by omega
              have k1 : ((p + (4 + k) : Nat) : Int) < 16384 := by omega
              replace S6 := Lib.hid (show XY w gx cx gy cy (zk p (k + 1) X) (zk p (k + 1) Y) _ from S6)
              replace S5 := Lib.hid S5
              generalize hpk : p + (4 + k) = pk at *
              generalize h4k : 4 + k = fk at *
              generalize h4k1 : 4 + (k + 1) = fk1 at *
              replace hpk := Lib.hid hpk
              replace h4k := Lib.hid h4k
              replace h4k1 := Lib.hid h4k1
              go_wp2
              go_roundw
              case rel => exact ⟨k + 1, by rw [h4k1.out], by omega, S6⟩
              case measure => have := h4k.out; have := h4k1.out; simp [intOf] <;> omega
            · obtain rfl : k = 8 := by omega
              have hkk : p + 45 < 16384 := by omega
              have S5 := S.out.set hkk
              have S6 := (S5.swap.set hkk).swap
              obtain ⟨⟨vx, cvx⟩, fx⟩ := S.out.cell hkk
              obtain ⟨⟨vy, cvy⟩, fy⟩ := S5.swap.cell hkk
              have q3 : IntKind.i64.wrap ((p : Int) + 45) = ((p + 45 : Nat) : Int) := by rw [IntWalk.i64_in _ (by omega)]; omega
              have k0 : (0 : Int) ≤ ((p + 45 : Nat) : Int) := by omega
              have k1 : ((p + 45 : Nat) : Int) < 16384 := by omega
              replace S6 := Lib.hid (show XY w gx cx gy cy (zaps ((told.take (i + 1)).filterMap (plN qc s Z)) a) (zaps ((told.take (i + 1)).filterMap (plN qc s Z)) b) _ from by rw [← nxa.out, ← nxb.out]; exact S6)
              replace S5 := Lib.hid S5
              generalize hpk : p + 45 = pk at *
              replace hpk := Lib.hid hpk
              go_wp2
              go_roundw
              case rel => exact ⟨i + 1, by simp, by omega, S6⟩
              case measure => simp [intOf] <;> omega
    · obtain rfl : i = told.length := by omega
      have d1 : decide ((told.length : Int) < (told.length : Int)) = false := by simp
      have hS := S.out
      rw [List.take_length] at hS
      have ez := zaps_eq hE.out (ps := told.filterMap (plN qc s Z)) hD.out
      have EQ := Book.eqC (some ⟨gx, 0, none⟩) (some ⟨gy, 0, none⟩) cx cy wr.heap.size _ _ wr (xy_eq hS) (xy_eq hS.swap)
      rw [hS.lx, hS.swap.lx, ez, beq_self_eq_true] at EQ
      replace EQ := Lib.hid EQ
      replace hS := Lib.hid hS.b
      replace TT := Lib.hid TT
      clear S ez
      go_wp2_with fail
      refine EQ.out.mono ?_
      rintro e w3 ⟨rfl, rfl⟩
      go_wp2
      go_ret
      exact ⟨rfl, hS.out⟩
end
end Go.Proofs.YtfjiphibalhcgaaGreat.Que
/-
  A move of the program's lists and the document's, one behind the other: what becomes of the bytes.
-/
namespace Go.Proofs.YtfjiphibalhcgaaGreat.Que
open Go.RowKit Base Arena Cls Itm
set_option linter.unusedVariables false
set_option linter.unusedSectionVars false

/-- What the walk reads of the world. -/
def Mv (W : W6) (w : World) : Prop := w.cell? ⟨W.b, 0, none⟩ = some (.pointer (some ⟨W.L.g, 0, none⟩)) ∧ w.cell? ⟨W.b, 1, none⟩ = some (.pointer (some ⟨W.gq, 0, none⟩)) ∧ w.cell? ⟨W.b, 3, none⟩ = some (.pointer (some ⟨W.R.b, 0, none⟩))
/-- Behind it. -/
def GoesB (N : Nat) (w w' : World) (W : W6) (s : St) (bs : List UInt8) (Z : Nat → Option Zd) (r : RS) (laid told : List Nat) (t RR : Nat) : Prop := ∃ bs' Z' R' Ls', R'.b = W.R.b ∧ Grew qc w w' W { W with R := R' } s s ∧ Ed (Itp qc s Z') bs bs' ∧ (RR ≠ 0 → bs' = bs) ∧
  WI N w' { W with R := R' } s bs' Z' Ls' r laid told t
theorem GoesB.goes {N : Nat} {w w' : World} {W : W6} {s : St} {bs : List UInt8} {Z : Nat → Option Zd} {r : RS} {laid told : List Nat} {t RR : Nat} (h : GoesB N w w' W s bs Z r laid told t RR) : Goes N w w' W s t := by
  obtain ⟨bs', Z', R', Ls', -, G, -, -, T⟩ := h
  exact ⟨{ W with R := R' }, s, bs', Z', Ls', r, laid, told, rfl, G, T⟩
section
variable {N : Nat} {w : World} {W : W6} {s : St} {bs : List UInt8} {Z : Nat → Option Zd} {Ls Ld : Nat → Nat → List Nat} {r : RS} {laid told : List Nat} (h : WAt N w W qc s bs Z Ls Ld r laid told) (htl : told.length ≤ 60000) (o : Op6) (ok : o.Ok)
include h htl ok
set_option maxRecDepth 100000 in
theorem otherW : Calls Tryz.prog 36 #[.pointer (some ⟨W.b, 0, none⟩), .agg o.cells] w fun e w' => e = .returned (.int .u64 (otN told o : Int)) ∧ Below w.heap.size w w' := by
  obtain ⟨w1, hw1⟩ : ∃ w1, w1 = w.alloc (.cells o.cells 28) := ⟨_, rfl⟩
  have B1 : Blk w1 w.heap.size 28 o.cells := by rw [hw1]; exact Blk.new w _ _
  have b1 : Below w.heap.size w w1 := by rw [hw1]; exact (Below.refl _ _).alloc (Nat.le_refl _) _
  obtain ⟨x0, x1, x2, x3, x4, x5⟩ := op6_cells B1
  have h1 := h.below b1
  obtain ⟨-, -, -, -, y4⟩ := h1.cW
  obtain ⟨A, cp, hv⟩ := own_is h1.told
  have own := h1.told
  rw [hv] at y4 own
  unfold otN
  unfold Op6.cells at hw1 ⊢
  replace b1 := Lib.hid b1
  replace hw1 := Lib.hid hw1
  by_cases hn : told = []
  · rw [if_pos hn]
    have y4' : w1.cell? ⟨W.b, 4, none⟩ = some (.slice A 0 cp) := by rw [y4, hn]; rfl
    clear h h1 B1 own hv hn y4
    generalize hN : w.heap.size = N0 at *
    replace hN := Lib.hid hN
    go_enter Tryz.func36, Tryz.ntmps36
    go_upto_region 1 with fail
    rw [hN.out, ← hw1.out]
    go_wp2
    go_ret
    exact ⟨rfl, b1.out⟩
  · rw [if_neg hn]
    obtain ⟨hlt, hx⟩ := told_at hn o.c
    have WC := withinI o.c told.length ok.c (by omega) (by omega)
    generalize told[(o.c % (told.length : Int)).toNat]?.getD 0 = H at *
    generalize (o.c % (told.length : Int)).toNat = i at *
    obtain ⟨g, c', hv2, u⟩ := own_uv own hx
    injection hv2 with e1 e2 e3
    subst e1 e3
    generalize told.length = n at *
    have i0 : (0 : Int) ≤ (i : Int) := by omega
    have i1 : (i : Int) < (n : Int) := by omega
    have z0 : ((n : Int) == 0) = false := by rw [beq_eq_false_iff_ne]; omega
    have z1 : decide ((n : Int) = 0) = false := decide_eq_false (by omega)
    have z2 : ¬ (n = 0) := by omega
    replace WC := Lib.hid WC
    clear h h1 B1 own hv hn hx e2
    generalize hN : w.heap.size = N0 at *
    replace hN := Lib.hid hN
    go_enter Tryz.func36, Tryz.ntmps36
    go_upto_region 1 with fail
    rw [hN.out, ← hw1.out]
    go_upto_region 3 with fail
    go_quiet (first | (go_at_call 16; with_reducible exact quiet_left (WC.out _)) | fail)
    go_wp2
    go_ret
    exact ⟨rfl, b1.out.trans (by first | exact below_drewN (Below.refl _ _) _ | exact Below.refl _ _)⟩
end
/-- Behind an operation that is no make and no give; EE: what was answered. -/
def QBA (N : Nat) (w w' : World) (W : W6) (s : St) (bs : List UInt8) (r : RS) (laid told : List Nat) (t : Nat) (EE : Int) : Prop := ∃ bs' Z' R' Ls', R'.b = W.R.b ∧ Grew qc w w' W { W with R := R' } s s ∧ Ed (Itp qc s Z') bs bs' ∧ (EE ≠ 0 → bs' = bs) ∧
  WI N w' { W with R := R' } s bs' Z' Ls' r laid told t
theorem QBA.of {N : Nat} {w w' : World} {W : W6} {s : St} {bs : List UInt8} {Z : Nat → Option Zd} {r : RS} {laid told : List Nat} {t RR : Nat} (h : GoesB N w w' W s bs Z r laid told t RR) : QBA N w w' W s bs r laid told t (RR : Int) := by
  obtain ⟨bs', Z', R', Ls', eb, G, E, hne, T⟩ := h
  exact ⟨bs', Z', R', Ls', eb, G, E, fun e => hne (by omega), T⟩
theorem QBA.stay {N : Nat} {w w' : World} {W : W6} {s : St} {bs : List UInt8} {Z : Nat → Option Zd} {Ls : Nat → Nat → List Nat} {r : RS} {laid told : List Nat} {t : Nat} (h : WI N w W s bs Z Ls r laid told t) (b : Below w.heap.size w w') : QBA N w w' W s bs r laid told t (-1) :=
  ⟨bs, Z, W.R, Ls, rfl, (Grew.refl _ _ _ _).step b, Ed.refl _ _, fun _ => rfl, h.below b⟩
section
variable {N : Nat} {w : World} {W : W6} {s : St} {bs : List UInt8} {Z : Nat → Option Zd} {Ls : Nat → Nat → List Nat} {r : RS} {laid told : List Nat} {t : Nat} (h : WI N w W s bs Z Ls r laid told t) (ht : t ≤ 60000)
include h ht
theorem WI.mv : Mv W w := by
  obtain ⟨y0, y1, -, y3, -⟩ := h.wat.cW
  exact ⟨y0, y1, y3⟩
theorem moveBoth {fP fD : FuncId} {aP aD : Array Value} {RR : Nat} {Lx : Nat → Nat → List Nat}
    (PC : ∀ v, QW v W.L qc s bs Z W.gq W.gl Ls → Calls Tryz.prog fP aP v fun e v' => e = .returned (.int .i64 (RR : Int)) ∧ Did v v' W.L qc s bs Z W.gq W.gl (RR, Lx))
    (DC : ∀ v, D6 v W.R W.M qc s Z Ls r laid → Calls Tryz.prog fD aD v fun e v' => e = .returned (.int .i64 (RR : Int)) ∧ ∃ R', R'.b = W.R.b ∧ Went6 v v' W.R R' (3 * qc.nc) ∧ R6At v' R' W.M.b (3 * qc.nc) laid (rows6 Lx)) :
    ∀ w5, Below w.heap.size w w5 → Calls Tryz.prog fP aP w5 fun e v => e = .returned (.int .i64 (RR : Int)) ∧ Mv W v ∧ (∀ b, b < w5.heap.size → (∀ i, ¬ W.foot qc s i b) → v.heap[b]? = w5.heap[b]?) ∧ (∃ bs' Z' Lx, WAt N v W qc s bs' Z' Lx Ls r laid told) ∧
      ∀ v', Below v.heap.size v v' → Calls Tryz.prog fD aD v' fun e w' => e = .returned (.int .i64 (RR : Int)) ∧ GoesB N w w' W s bs Z r laid told t RR := by
  intro w5 b5
  have h5 := h.below b5
  refine (PC w5 h5.wat.q).mono ?_
  rintro e v ⟨e1, o, bs', Z', hE, hz, hne, Q⟩
  have T := h5.wat.turn o Q
  obtain ⟨y0, y1, -, y3, -⟩ := T.cW
  refine ⟨e1, ⟨y0, y1, y3⟩, fun b hb hn => o.block b hb (fun e => by
    rcases e with e | e
    · exact hn .set (by rw [e]; exact ⟨.bytes, rfl⟩)
    · exact hn .queue (.inr e)), ⟨_, _, _, T⟩, fun v' bv => ?_⟩
  have T := T.below bv
  refine (DC v' ((h5.d6 ht).at_ T.doc T.ref)).mono ?_
  rintro e w' ⟨e2, R', eb, We, D⟩
  have T2 := T.doc_ (R' := R') (laid' := laid) (Ld' := Lx) D eb We
  have G := ((((Grew.refl qc w W s).step b5).trans (grew_turn o)).step bv).trans (grew_doc We)
  refine ⟨e2, bs', Z', R', Lx, eb, G, ?_, hne, T2, h.rel, fun H i x p hf => by rw [hz H]; exact h.agr H i x p hf, hE.1.trans h.bs, h.ch, h.la, h.tl, h.tlt, h.lg, h.ln, h.lt⟩
  rw [itp_congr hz]
  exact hE
theorem bothPush {H : Nat} (hH : H < 18446744073709551616) (kind : Int) : ∃ RR : Nat, ∀ w5, Below w.heap.size w w5 → Calls Tryz.prog 22 #[.pointer (some ⟨W.gq, 0, none⟩), .int .u64 (H : Int), .int .i64 kind] w5 fun e v => e = .returned (.int .i64 (RR : Int)) ∧ Mv W v ∧ (∀ b, b < w5.heap.size → (∀ i, ¬ W.foot qc s i b) → v.heap[b]? = w5.heap[b]?) ∧ (∃ bs' Z' Lx, WAt N v W qc s bs' Z' Lx Ls r laid told) ∧
    ∀ v', Below v.heap.size v v' → Calls Tryz.prog 32 #[.pointer (some ⟨W.R.b, 0, none⟩), .int .u64 (H : Int), .int .i64 kind, .bool false] v' fun e w' => e = .returned (.int .i64 (RR : Int)) ∧ GoesB N w w' W s bs Z r laid told t RR := by
  obtain ⟨RR, Lx, hP⟩ : ∃ RR Lx, pushN qc s Z Ls H kind false = (RR, Lx) := ⟨_, _, rfl⟩
  refine ⟨RR, moveBoth h ht (Lx := Lx) (fun v q => ?_) (fun v d => ?_)⟩
  · have := (pushC q _ hH kind).1
    rw [hP] at this
    exact this
  · have := push6C d H kind false
    rw [hP] at this
    exact this
theorem bothLast {H : Nat} (hH : H < 18446744073709551616) (kind : Int) : ∃ RR : Nat, ∀ w5, Below w.heap.size w w5 → Calls Tryz.prog 23 #[.pointer (some ⟨W.gq, 0, none⟩), .int .u64 (H : Int), .int .i64 kind] w5 fun e v => e = .returned (.int .i64 (RR : Int)) ∧ Mv W v ∧ (∀ b, b < w5.heap.size → (∀ i, ¬ W.foot qc s i b) → v.heap[b]? = w5.heap[b]?) ∧ (∃ bs' Z' Lx, WAt N v W qc s bs' Z' Lx Ls r laid told) ∧
    ∀ v', Below v.heap.size v v' → Calls Tryz.prog 32 #[.pointer (some ⟨W.R.b, 0, none⟩), .int .u64 (H : Int), .int .i64 kind, .bool true] v' fun e w' => e = .returned (.int .i64 (RR : Int)) ∧ GoesB N w w' W s bs Z r laid told t RR := by
  obtain ⟨RR, Lx, hP⟩ : ∃ RR Lx, pushN qc s Z Ls H kind true = (RR, Lx) := ⟨_, _, rfl⟩
  refine ⟨RR, moveBoth h ht (Lx := Lx) (fun v q => ?_) (fun v d => ?_)⟩
  · have := (pushC q _ hH kind).2
    rw [hP] at this
    exact this
  · have := push6C d H kind true
    rw [hP] at this
    exact this
theorem bothDrop {H : Nat} (hH : H < 18446744073709551616)  : ∃ RR : Nat, ∀ w5, Below w.heap.size w w5 → Calls Tryz.prog 24 #[.pointer (some ⟨W.gq, 0, none⟩), .int .u64 (H : Int)] w5 fun e v => e = .returned (.int .i64 (RR : Int)) ∧ Mv W v ∧ (∀ b, b < w5.heap.size → (∀ i, ¬ W.foot qc s i b) → v.heap[b]? = w5.heap[b]?) ∧ (∃ bs' Z' Lx, WAt N v W qc s bs' Z' Lx Ls r laid told) ∧
    ∀ v', Below v.heap.size v v' → Calls Tryz.prog 33 #[.pointer (some ⟨W.R.b, 0, none⟩), .int .u64 (H : Int)] v' fun e w' => e = .returned (.int .i64 (RR : Int)) ∧ GoesB N w w' W s bs Z r laid told t RR := by
  obtain ⟨RR, Lx, hP⟩ : ∃ RR Lx, dropN qc s Ls H = (RR, Lx) := ⟨_, _, rfl⟩
  refine ⟨RR, moveBoth h ht (Lx := Lx) (fun v q => ?_) (fun v d => ?_)⟩
  · have := dropC q _ hH
    rw [hP] at this
    exact this
  · have := drop6C d H
    rw [hP] at this
    exact this
theorem bothShift {H : Nat} (hH : H < 18446744073709551616) (kind : Int) : ∃ RR : Nat, ∀ w5, Below w.heap.size w w5 → Calls Tryz.prog 25 #[.pointer (some ⟨W.gq, 0, none⟩), .int .u64 (H : Int), .int .i64 kind] w5 fun e v => e = .returned (.int .i64 (RR : Int)) ∧ Mv W v ∧ (∀ b, b < w5.heap.size → (∀ i, ¬ W.foot qc s i b) → v.heap[b]? = w5.heap[b]?) ∧ (∃ bs' Z' Lx, WAt N v W qc s bs' Z' Lx Ls r laid told) ∧
    ∀ v', Below v.heap.size v v' → Calls Tryz.prog 34 #[.pointer (some ⟨W.R.b, 0, none⟩), .int .u64 (H : Int), .int .i64 kind] v' fun e w' => e = .returned (.int .i64 (RR : Int)) ∧ GoesB N w w' W s bs Z r laid told t RR := by
  obtain ⟨RR, Lx, hP⟩ : ∃ RR Lx, shiftN qc s Ls H kind = (RR, Lx) := ⟨_, _, rfl⟩
  refine ⟨RR, moveBoth h ht (Lx := Lx) (fun v q => ?_) (fun v d => ?_)⟩
  · have := shiftC q _ hH kind
    rw [hP] at this
    exact this
  · have := shift6C d H kind
    rw [hP] at this
    exact this
theorem bothSwap {H : Nat} (hH : H < 18446744073709551616) {G : Nat} (hG : G < 18446744073709551616) : ∃ RR : Nat, ∀ w5, Below w.heap.size w w5 → Calls Tryz.prog 35 #[.pointer (some ⟨W.gq, 0, none⟩), .int .u64 (H : Int), .int .u64 (G : Int)] w5 fun e v => e = .returned (.int .i64 (RR : Int)) ∧ Mv W v ∧ (∀ b, b < w5.heap.size → (∀ i, ¬ W.foot qc s i b) → v.heap[b]? = w5.heap[b]?) ∧ (∃ bs' Z' Lx, WAt N v W qc s bs' Z' Lx Ls r laid told) ∧
    ∀ v', Below v.heap.size v v' → Calls Tryz.prog 37 #[.pointer (some ⟨W.R.b, 0, none⟩), .int .u64 (H : Int), .int .u64 (G : Int)] v' fun e w' => e = .returned (.int .i64 (RR : Int)) ∧ GoesB N w w' W s bs Z r laid told t RR := by
  obtain ⟨RR, Lx, hP⟩ : ∃ RR Lx, swapN qc s Z Ls H G = (RR, Lx) := ⟨_, _, rfl⟩
  refine ⟨RR, moveBoth h ht (Lx := Lx) (fun v q => ?_) (fun v d => ?_)⟩
  · have := swapC q _ _ hH hG
    rw [hP] at this
    exact this
  · have := swap6C d H G
    rw [hP] at this
    exact this
end
end Go.Proofs.YtfjiphibalhcgaaGreat.Que
