/-
  Contracts and lemmas, joined: LruSet, LruStep, LruMakes, LruMakes2, LruMakes3, LruItem, LruMakes4, LruChunks.
-/
import Derived.Test.YtngehaiigbbknaaGreatJ8
import Derived.Test.YtngehaiigbbknaaGreatJ9
set_option linter.unusedSimpArgs false
set_option linter.unusedVariables false
set_option linter.unusedSectionVars false
set_option maxRecDepth 100000
/-
  The document's Lru: New, Is, Set.
-/
namespace Go.Proofs.YtngehaiigbbknaaGreat.Que
open Go.RowKit Base Arena Cls Itm
def dropA (H : Nat) (l : List Nat) : List Nat := l.filter (fun x => x != H)
def actN (H : Nat) (on : Bool) (l : List Nat) : List Nat := dropA H l ++ (if on then [H] else [])
theorem dropA_step {H x : Nat} {l : List Nat} {k : Nat} (hx : l[k]? = some x) : dropA H (l.take (k + 1)) = if x = H then dropA H (l.take k) else dropA H (l.take k) ++ [x] := by
 have e : l.take (k + 1) = l.take k ++ [x] := by
  rw [List.take_add_one, hx]; rfl
 unfold dropA
 rw [e, List.filter_append]
 by_cases h : x = H
 ·rw [if_pos h]; simp [h]
 ·rw [if_neg h]; simp [h]
theorem dropA_len (H : Nat) (l : List Nat) : (dropA H l).length <= l.length := List.length_filter_le _ _
set_option maxHeartbeats 1000000 in
theorem setA (w : World) (dm N cp : Nat) (A : Option Addr) (p : Value) (hot warm : Int) (l : List Nat) (D : Blk w dm 99 #[p, .int .i64 hot, .int .i64 warm, .slice A l.length cp]) (own : w.ownsRow N 50 1 (.slice A l.length cp) l.length (l.map uv)) (hlen : l.length <= 1073741823) (H : Nat) (on : Bool) :
  Calls Tryz.prog 68 #[.pointer (some ⟨dm, 0, none⟩), .int .u64 (H : Int), .bool on] w fun e w' => e = .returned (.tuple #[]) /\ ∃ w6 A' cp', w' = w6.setCell ⟨dm, 3, none⟩ (.slice A' (actN H on l).length cp') /\ Below w.heap.size w w6 /\ w6.ownsRow w.heap.size 50 1 (.slice A' (actN H on l).length cp') (actN H on l).length ((actN H on l).map uv) := by
 obtain ⟨n, hn⟩ : ∃ n, n = l.length := ⟨_, rfl⟩
 rw [<- hn] at own D
 have hn1 : n <= 1073741823 := by omega
 have dl := D.lt
 have at_ : ∀ (k x : Nat), l[k]? = some x -> ∃ g, A = some ⟨g, 0, none⟩ /\ g < w.heap.size /\ w.cell? ⟨g, k, none⟩ = some (.int .u64 (x : Int)) := by
  intro k x hx
  obtain ⟨g, c', hv, u⟩ := own_uv own hx
  injection hv with hv1 hv2 hv3
  exact ⟨g, hv1, own_blockN own (by rw [hv1]; rfl), u⟩
 replace hn := Lib.hid hn
 replace at_ := Lib.hid at_
 replace D := Lib.hid D
 clear own hlen
 go_enter Tryz.func68, Tryz.ntmps68
 go_wp2
 go_loopw [6, 7] (fun vo vi wr => ∃ (k m cp' : Nat) (A' : Option Addr), vi = .int .i64 (k : Int) /\ vo = .slice A' m cp' /\ k <= n /\ Hid (m = (dropA H (l.take k)).length) /\ Hid (Below w.heap.size w wr) /\ Hid (wr.ownsRow w.heap.size 50 1 (.slice A' m cp') m ((dropA H (l.take k)).map uv))) (fun _ vi _ => n - (intOf vi).toNat)
 case atStart => exact ⟨0, 0, 0, none, rfl, rfl, Nat.zero_le _, Lib.hid (by simp [dropA]), Lib.hid (Below.refl _ _), Lib.hid (by simp [dropA]; exact own_nil _ _ _)⟩
 case round =>
  obtain ⟨k, m, cp', A', rfl, rfl, hk, hm, hb, ho⟩ := hrel
  have c3 := (hb.out.cell (p := ⟨dm, 3, none⟩) dl).trans (D.out.cell 3)
  by_cases hkn : k < n
  ·obtain ⟨x, hx⟩ : ∃ x, l[k]? = some x := ⟨l[k]'(by rw [<- hn.out]; exact hkn), List.getElem?_eq_getElem _⟩
   obtain ⟨g, rfl, hg, cl⟩ := at_.out k x hx
   have st := dropA_step (H := H) hx
   have clr := (hb.out.cell (p := ⟨g, k, none⟩) hg).trans cl
   have k0 : (0 : Int) <= (k : Int) := by omega
   have k1 : (k : Int) < (n : Int) := by omega
   have d1 : decide ((k : Int) < (n : Int)) = true := decide_eq_true k1
   have q1 : IntKind.i64.wrap ((k : Int) + 1) = (k : Int) + 1 := IntWalk.i64_in _ (by omega)
   replace hx := Lib.hid hx
   by_cases hki : x = H
   ·have d2 : ((x : Int) == (H : Int)) = true := by rw [beq_iff_eq]; omega
    have d3 : ((x : Int) != (H : Int)) = false := by rw [bne_eq_false_iff_eq]; omega
    have d4 : decide ((x : Int) = (H : Int)) = true := decide_eq_true (by omega)
    rw [if_pos hki] at st
    rw [<- st] at hm ho
    replace st := Lib.hid st
    replace hki := Lib.hid hki
    go_wp2
    go_roundw
    case rel => exact ⟨k + 1, m, cp', A', by simp, rfl, by omega, hm, hb, ho⟩
    case measure => simp [intOf] <;> omega
   ·have d2 : ((x : Int) == (H : Int)) = false := by rw [beq_eq_false_iff_ne]; omega
    have d3 : ((x : Int) != (H : Int)) = true := by rw [bne_iff_ne]; omega
    have d4 : decide ((x : Int) = (H : Int)) = false := decide_eq_false (by omega)
    rw [if_neg hki] at st
    have hml : m <= 1073741823 := by
     rw [hm.out]
     have := dropA_len H (l.take k)
     rw [List.length_take] at this
     omega
    have sz := hb.out.size
    replace st := Lib.hid st
    replace hki := Lib.hid hki
    go_wp2_with (at_builtin; refine wpList_app rfl _ _ _ rfl eiL w.heap.size _ _ _ rfl (ho.out.alloc _) (wr.heap.size + 1) (some ⟨wr.heap.size, 0, none⟩) 1 1 [.int .u64 (x : Int)] rfl ?c1 ?c2 ?c3 ?c4 ?c5 ?_)
    case c1 => exact reads_v wr _ _
    case c2 => intro u hu; rw [List.mem_singleton] at hu; subst hu; rfl
    case c3 => unfold maxLen; omega
    case c4 => omega
    case c5 => rw [World.size_alloc]; omega
    intro VV w6 own6 hg6 hat6
    obtain ⟨A6, cp6, rfl⟩ := own_is own6
    have b6 : Below w.heap.size w w6 := (hb.out.alloc sz _).grown hg6 (by rw [World.size_alloc]; omega) (fun j e => own_base ho.out e)
    have om : (dropA H (l.take (k + 1))).length = m + 1 := by rw [st.out, List.length_append, List.length_singleton, <- hm.out]
    have o6 : w6.ownsRow w.heap.size 50 1 (.slice A6 (m + 1) cp6) (m + 1) ((dropA H (l.take (k + 1))).map uv) := by rw [st.out, List.map_append]; exact own6
    replace om := Lib.hid om
    replace o6 := Lib.hid o6
    replace b6 := Lib.hid b6
    clear own6 hg6 hat6 ho hb
    go_wp2
    go_roundw
    case rel => exact ⟨k + 1, m + 1, cp6, A6, by simp, rfl, by omega, Lib.hid om.out.symm, b6, o6⟩
    case measure => simp [intOf] <;> omega
  ·obtain rfl : k = n := by omega
   have d1 : decide ((k : Int) < (k : Int)) = false := by simp
   have et : l.take k = l := List.take_of_length_le (by rw [<- hn.out]; exact Nat.le_refl _)
   rw [et] at hm ho
   have hml : m <= 1073741823 := by
    rw [hm.out]
    have := dropA_len H l
    rw [<- hn.out] at this
    omega
   have c4 := fun w6 (b : Below w.heap.size w w6) => D.out.below b dl
   have sz := hb.out.size
   replace c4 := Lib.hid c4
   cases on with
   | true =>
    go_wp2_with (at_builtin; refine wpList_app rfl _ _ _ rfl eiL w.heap.size _ _ _ rfl (ho.out.alloc _) (wr.heap.size + 1) (some ⟨wr.heap.size, 0, none⟩) 1 1 [.int .u64 (H : Int)] rfl ?c1 ?c2 ?c3 ?c4 ?c5 ?_)
    case c1 => exact reads_v wr _ _
    case c2 => intro u hu; rw [List.mem_singleton] at hu; subst hu; rfl
    case c3 => unfold maxLen; omega
    case c4 => omega
    case c5 => rw [World.size_alloc]; omega
    intro VV w6 own6 hg6 hat6
    obtain ⟨A6, cp6, rfl⟩ := own_is own6
    have b6 : Below w.heap.size w w6 := (hb.out.alloc sz _).grown hg6 (by rw [World.size_alloc]; omega) (fun j e => own_base ho.out e)
    have B6 := c4.out w6 b6
    have r1 := B6.cell 3
    have r2 := B6.frozen 3
    have om : (actN H true l).length = m + 1 := by unfold actN; rw [if_pos rfl, List.length_append, List.length_singleton, <- hm.out]
    have o6 : w6.ownsRow w.heap.size 50 1 (.slice A6 (m + 1) cp6) (m + 1) ((actN H true l).map uv) := by unfold actN; rw [if_pos rfl, List.map_append]; exact own6
    replace o6 := Lib.hid o6
    replace b6 := Lib.hid b6
    replace om := Lib.hid om
    replace B6 := Lib.hid B6
    clear own6 hg6 hat6 ho hb
    go_wp2
    go_end0
    exact ⟨rfl, w6, A6, cp6, by rw [om.out], b6.out, by rw [om.out]; exact o6.out⟩
   | false =>
    have B6 := c4.out wr hb.out
    have r1 := B6.cell 3
    have r2 := B6.frozen 3
    have om : (actN H false l).length = m := by unfold actN; rw [if_neg (by decide), List.append_nil, <- hm.out]
    have o6 : wr.ownsRow w.heap.size 50 1 (.slice A' m cp') m ((actN H false l).map uv) := by unfold actN; rw [if_neg (by decide), List.append_nil]; exact ho.out
    replace o6 := Lib.hid o6
    replace om := Lib.hid om
    replace B6 := Lib.hid B6
    clear ho
    go_wp2
    go_end0
    exact ⟨rfl, wr, A', cp', by rw [om.out], hb.out, by rw [om.out]; exact o6.out⟩
section
variable {N : Nat} {w : World} {W : W6} {c : Conf} {s : St} {bs : List UInt8} {Z : Nat -> Option Zd} {Ls Ld : Nat -> Nat -> List Nat} {r : RS} {laid told act : List Nat} {mk : Nat -> Nat} (h : WAt N w W c s bs Z Ls Ld r laid told act mk)
include h
theorem WAt.lt (i : C6) (b : Nat) (hb : W.foot c s i b) : b < w.heap.size := by
  cases i with
  | set => obtain ⟨F, S, q⟩ := h.q; exact S.zs.set.lt hb
  | ref => exact h.ref.lt hb
  | queue =>
    obtain ⟨F, S, q⟩ := h.q
    rcases hb with rfl | rfl
    · exact S.q.ltq
    · exact S.q.ltl
  | doc => exact h.doc.lt hb
  | own =>
    rcases hb with rfl | hb
    · exact h.own.lt
    · exact own_blockN h.told hb
  | lru => exact (h.lru b hb).lt
  | act =>
    rcases hb with hb | hb
    · exact (h.dlr b hb).lt
    · exact own_blockN h.row hb
theorem WAt.set : SetAt w W.L c s bs := by obtain ⟨F, S, q⟩ := h.q; exact S.zs.set
theorem WAt.good : Cls.Good c.cf s := by obtain ⟨F, S, q⟩ := h.q; exact S.zs.good
theorem WAt.okc : c.cf.Ok := h.set.okc
theorem WAt.sepOf {W' : W6} {s' : St} (i0 : C6) (hk : ∀ i b, W'.foot c s' i b -> i = i0 /\ (W.foot c s i0 b \/ w.heap.size <= b) \/ i ≠ i0 /\ W.foot c s i b) (hN : N <= w.heap.size) :
    (∀ i j b, W'.foot c s' i b -> W'.foot c s' j b -> i = j) /\ ∀ i b, W'.foot c s' i b -> N <= b := by
  refine ⟨fun i j b hi hj => ?_, fun i b hb => ?_⟩
  · rcases hk i b hi with ⟨e1, h1⟩ | ⟨n1, h1⟩ <;> rcases hk j b hj with ⟨e2, h2⟩ | ⟨n2, h2⟩
    · rw [e1, e2]
    · rcases h1 with h1 | h1
      · rw [e1]; exact h.sep _ _ b h1 h2
      · have := h.lt _ _ h2; omega
    · rcases h2 with h2 | h2
      · rw [e2]; exact h.sep _ _ b h1 h2
      · have := h.lt _ _ h1; omega
    · exact h.sep _ _ b h1 h2
  · rcases hk i b hb with ⟨-, h1 | h1⟩ | ⟨-, h1⟩
    · exact h.base _ _ h1
    · omega
    · exact h.base _ _ h1
theorem WAt.hN (w' : World) (hw : w.heap.size <= w'.heap.size) : N <= w'.heap.size := by
  have := h.base .own W.b (.inl rfl)
  have := h.own.lt
  omega
theorem WAt.hN0 : N <= w.heap.size := h.hN w (Nat.le_refl _)
theorem WAt.below {w' : World} (b : Below w.heap.size w w') : WAt N w' W c s bs Z Ls Ld r laid told act mk := by
  obtain ⟨F, S, q⟩ := h.q
  exact ⟨⟨F, S.below b, q⟩, h.ref.kept fun d hd => b.block d (h.ref.lt hd), h.doc.below b, h.own.below b h.own.lt, own_keptN h.told fun d e => b.block d (own_blockN h.told e), h.sep, h.tb, h.base, fun g e => (h.lru g e).below b (h.lru g e).lt, fun d e => (h.dlr d e).below b (h.dlr d e).lt, own_keptN h.row fun d e => b.block d (own_blockN h.row e), h.ad, h.mks⟩
theorem WAt.take {w' : World} {L' : Lay} {s1 : St} {k : Nat} (hk : k < c.cf.nc) (hr : roomS c.cf s k = some s1) {l : List Nat} {p : Nat} (hp : s1.free k = l ++ [p]) {H0 : Nat} (h0 : H0 = hnd p (s1.gens (p / c.cf.ps) (p % c.cf.ps / c.cf.sz k))) (G : Nat) (eg : L'.g = W.L.g)
    (hb : bs.length = c.cf.ps * c.cf.np) (M : SetAt w' L' c (takeS c.cf s1 k p) (takeB bs p G)) (We : Went w w' W.L L' c s (takeS c.cf s1 k p)) :
    WAt N w' { W with L := L' } c (takeS c.cf s1 k p) (takeB bs p G) (upd Z H0 none) Ls Ld r laid told act mk := by
  have ns : ∀ i b, i ≠ .set -> W.foot c s i b -> ¬ Foot W.L c s b := fun i b hi hb hf => hi (h.sep i .set b hb hf)
  have sp := h.sepOf (W' := { W with L := L' }) (s' := takeS c.cf s1 k p) .set (fun i b hb => by
    cases i with
    | set => exact .inl ⟨rfl, We.foot b hb⟩
    | _ => exact .inr ⟨by simp, hb⟩) h.hN0
  have O : Blk w' W.b 36 W.cells := (We.only.block _ h.own.lt (ns .own _ (by simp) (.inl rfl))).trans h.own
  have LC : ∀ g, W.gm = some g -> Blk w g 97 (W6.lc { W with L := L' }) := fun g e => by
    have := h.lru g e
    unfold W6.lc at this ⊢
    rw [eg]
    exact this
  have AC := h.dlr
  refine ⟨h.q.take h.okc h.good hk hr hp h0 hb G eg M We, h.ref.only We.only fun b hb => ns .ref b (by simp) hb, h.doc.only We.only fun b hb => ns .doc b (by simp) hb, ?_, own_keptN h.told fun b e => We.only.block b (own_blockN h.told e) (ns .own b (by simp) (.inr e)), sp.1, h.tb, sp.2, fun g e => (We.only.block _ (h.lru g e).lt (ns .lru g (by simp) e)).trans (LC g e), fun d e => (We.only.block _ (h.dlr d e).lt (ns .act d (by simp) (.inl e))).trans (AC d e), own_keptN h.row fun d e => We.only.block d (own_blockN h.row e) (ns .act d (by simp) (.inr e)), h.ad, h.mks.take h.okc h.good hk hr hp h0 hb G⟩
  have e : W6.cells { W with L := L' } = W.cells := by unfold W6.cells; rw [eg]
  rw [e]
  exact O
theorem WAt.rtake {w' : World} {M' : RL} {r' : RS} (R : RSetAt w' M' c r') (We : RWent w w' W.M M' c) : WAt N w' { W with M := M' } c s bs Z Ls Ld r' laid told act mk := by
  have ns : ∀ i b, i ≠ .ref -> W.foot c s i b -> ¬ RFoot W.M c b := fun i b hi hb hf => hi (h.sep i .ref b hb hf)
  have sp := h.sepOf (W' := { W with M := M' }) (s' := s) .ref (fun i b hb => by
    cases i with
    | ref => exact .inl ⟨rfl, We.foot b hb⟩
    | _ => exact .inr ⟨by simp, hb⟩) h.hN0
  have O : Blk w' W.b 36 W.cells := (We.only.block _ h.own.lt (ns .own _ (by simp) (.inl rfl))).trans h.own
  have D := h.doc.only We.only fun b hb => ns .doc b (by simp) hb
  have LC := h.lru
  have AC := h.dlr
  obtain ⟨F, S, q⟩ := h.q
  have e : W6.cells { W with M := M' } = W.cells := by unfold W6.cells; rw [We.b]
  refine ⟨⟨F, ⟨S.zs.only We.only fun b hb => ns .set b (by simp) hb, S.q.only We.only (ns .queue _ (by simp) (.inl rfl)) (ns .queue _ (by simp) (.inr rfl)), S.fq, S.fl⟩, q⟩, R, ?_, ?_, own_keptN h.told fun b e => We.only.block b (own_blockN h.told e) (ns .own b (by simp) (.inr e)), sp.1, h.tb, sp.2, fun g e => (We.only.block _ (h.lru g e).lt (ns .lru g (by simp) e)).trans (LC g e), fun d e => (We.only.block _ (h.dlr d e).lt (ns .act d (by simp) (.inl e))).trans (AC d e), own_keptN h.row fun d e => We.only.block d (own_blockN h.row e) (ns .act d (by simp) (.inr e)), h.ad, h.mks⟩
  · show R6At w' W.R M'.b _ _ _
    rw [We.b]; exact D
  · rw [e]; exact O
theorem WAt.doc_ {w' : World} {R' : R6} {laid' : List Nat} {Ld' : Nat -> Nat -> List Nat} (D : R6At w' R' W.M.b (3 * c.nc) laid' (fun i => Ld' (i / 3) (i % 3))) (eb : R'.b = W.R.b) (We : Went6 w w' W.R R' (3 * c.nc)) : WAt N w' { W with R := R' } c s bs Z Ls Ld' r laid' told act mk := by
  have ns : ∀ i b, i ≠ .doc -> W.foot c s i b -> ¬ F6 W.R (3 * c.nc) b := fun i b hi hb hf => hi (h.sep i .doc b hb hf)
  have sp := h.sepOf (W' := { W with R := R' }) (s' := s) .doc (fun i b hb => by
    cases i with
    | doc => exact .inl ⟨rfl, We.foot b hb⟩
    | _ => exact .inr ⟨by simp, hb⟩) h.hN0
  have O : Blk w' W.b 36 W.cells := (We.only.block _ h.own.lt (ns .own _ (by simp) (.inl rfl))).trans h.own
  have LC := h.lru
  have AC : ∀ d, W.dm = some d -> Blk w d 99 (W6.dc { W with R := R' }) := fun g e => by
    have := h.dlr g e
    unfold W6.dc at this ⊢
    rw [eb]
    exact this
  obtain ⟨F, S, q⟩ := h.q
  have e : W6.cells { W with R := R' } = W.cells := by unfold W6.cells; rw [eb]
  refine ⟨⟨F, ⟨S.zs.only We.only fun b hb => ns .set b (by simp) hb, S.q.only We.only (ns .queue _ (by simp) (.inl rfl)) (ns .queue _ (by simp) (.inr rfl)), S.fq, S.fl⟩, q⟩, h.ref.only We.only fun b hb => ns .ref b (by simp) hb, D, ?_, own_keptN h.told fun b e => We.only.block b (own_blockN h.told e) (ns .own b (by simp) (.inr e)), sp.1, h.tb, sp.2, fun g e => (We.only.block _ (h.lru g e).lt (ns .lru g (by simp) e)).trans (LC g e), fun d e => (We.only.block _ (h.dlr d e).lt (ns .act d (by simp) (.inl e))).trans (AC d e), own_keptN h.row fun d e => We.only.block d (own_blockN h.row e) (ns .act d (by simp) (.inr e)), h.ad, h.mks⟩
  rw [e]; exact O
theorem WAt.turn {w' : World} {bs' : List UInt8} {Z' : Nat -> Option Zd} {Ls' : Nat -> Nat -> List Nat} (o : Only (Two W.L W.gl) w w') (Q : QW w' W.L c s bs' Z' W.gq W.gl Ls') {mk' : Nat -> Nat} (m : Mks c s bs' Z' mk') : WAt N w' W c s bs' Z' Ls' Ld r laid told act mk' := by
  have LC := h.lru
  have AC := h.dlr
  have ns : ∀ i b, i ≠ .set -> i ≠ .queue -> W.foot c s i b -> ¬ Two W.L W.gl b := fun i b h1 h2 hb hf => by
    rcases hf with e | e
    · exact h1 (h.sep i .set b hb (by rw [e]; exact ⟨.bytes, rfl⟩))
    · exact h2 (h.sep i .queue b hb (.inr e))
  exact ⟨Q, h.ref.only o fun b hb => ns .ref b (by simp) (by simp) hb, h.doc.only o fun b hb => ns .doc b (by simp) (by simp) hb, (o.block _ h.own.lt (ns .own _ (by simp) (by simp) (.inl rfl))).trans h.own, own_keptN h.told fun b e => o.block b (own_blockN h.told e) (ns .own b (by simp) (by simp) (.inr e)), h.sep, h.tb, h.base, fun g e => (o.block _ (h.lru g e).lt (ns .lru g (by simp) (by simp) e)).trans (LC g e), fun d e => (o.block _ (h.dlr d e).lt (ns .act d (by simp) (by simp) (.inl e))).trans (AC d e), own_keptN h.row fun d e => o.block d (own_blockN h.row e) (ns .act d (by simp) (by simp) (.inr e)), h.ad, m⟩
theorem WAt.tell {w6 : World} {v' : Value} {H : Nat} (o : Only (fun b => W.vT.ownBlock = some b) w w6) (own6 : w6.ownsRow 0 50 1 v' (told.length + 1) (told.map uv ++ [uv H])) (hat : ∀ b, v'.ownBlock = some b -> W.vT.ownBlock = some b \/ w.heap.size <= b) :
    WAt N (w6.setCell ⟨W.b, 6, none⟩ v') { W with vT := v' } c s bs Z Ls Ld r laid (told ++ [H]) act mk := by
  have LC := h.lru
  have AC := h.dlr
  have ns : ∀ i b, i ≠ .own -> W.foot c s i b -> ¬ (b = W.b \/ W.vT.ownBlock = some b) := fun i b hi hb hf => hi (h.sep i .own b hb hf)
  have o2 := only_cell1 (S := fun b => b = W.b \/ W.vT.ownBlock = some b) w6 W.b 6 v' (.inl rfl)
  have o3 : Only (fun b => b = W.b \/ W.vT.ownBlock = some b) w (w6.setCell ⟨W.b, 6, none⟩ v') := (o.mono fun b _ e => .inr e).trans o2 fun _ _ h => h
  have sp := h.sepOf (W' := { W with vT := v' }) (s' := s) .own (fun i b hb => by
    cases i with
    | own =>
      rcases hb with hb | hb
      · exact .inl ⟨rfl, .inl (.inl hb)⟩
      · exact .inl ⟨rfl, (hat b hb).imp .inr id⟩
    | _ => exact .inr ⟨by simp, hb⟩) h.hN0
  have tb' : v'.ownBlock ≠ some W.b := fun e => by
    rcases hat _ e with h1 | h1
    · exact h.tb h1
    · have := h.own.lt; omega
  have O : Blk w6 W.b 36 W.cells := (o.block _ h.own.lt h.tb).trans h.own
  obtain ⟨F, S, q⟩ := h.q
  refine ⟨⟨F, ⟨S.zs.only o3 fun b hb => ns .set b (by simp) hb, S.q.only o3 (ns .queue _ (by simp) (.inl rfl)) (ns .queue _ (by simp) (.inr rfl)), S.fq, S.fl⟩, q⟩, h.ref.only o3 fun b hb => ns .ref b (by simp) hb, h.doc.only o3 fun b hb => ns .doc b (by simp) hb, O.set_ 6 v', ?_, sp.1, tb', sp.2, fun g e => (o3.block _ (h.lru g e).lt (ns .lru g (by simp) e)).trans (LC g e), fun d e => (o3.block _ (h.dlr d e).lt (ns .act d (by simp) (.inl e))).trans (AC d e), own_keptN h.row fun d e => o3.block d (own_blockN h.row e) (ns .act d (by simp) (.inr e)), h.ad, h.mks⟩
  have e : (told ++ [H]).map uv = told.map uv ++ [uv H] := List.map_append
  rw [e, List.length_append]
  exact own_keptN own6 fun b e => (only_cell1 (S := (· = W.b)) w6 W.b 6 v' rfl).block b (own_blockN own6 e) fun e2 => tb' (e2 ▸ e)
theorem WAt.acts {w6 : World} {v' : Value} {dm : Nat} (ed : W.dm = some dm) {act' : List Nat} (o : Below w.heap.size w w6) (own6 : w6.ownsRow 0 50 1 v' act'.length (act'.map uv)) (hat : ∀ b, v'.ownBlock = some b -> w.heap.size <= b) :
    WAt N (w6.setCell ⟨dm, 3, none⟩ v') { W with vA := v' } c s bs Z Ls Ld r laid told act' mk := by
  have k := h.below o
  have ns : ∀ i b, i ≠ .act -> W.foot c s i b -> b ≠ dm := fun i b hi hb hf => hi (h.sep i .act b hb (by rw [hf]; exact .inl ed))
  have o2 := only_cell1 (S := (· = dm)) w6 dm 3 v' rfl
  have dl := (h.dlr dm ed).lt
  have sp := h.sepOf (W' := { W with vA := v' }) (s' := s) .act (fun i b hb => by
    cases i with
    | act =>
      rcases hb with hb | hb
      · exact .inl ⟨rfl, .inl (.inl hb)⟩
      · exact .inl ⟨rfl, .inr (hat b hb)⟩
    | _ => exact .inr ⟨by simp, hb⟩) h.hN0
  have vd : v'.ownBlock ≠ some dm := fun e => by have := hat dm e; omega
  have O := k.dlr dm ed
  obtain ⟨F, S, q⟩ := k.q
  refine ⟨⟨F, ⟨S.zs.only o2 fun b hb => ns .set b (by simp) hb, S.q.only o2 (ns .queue _ (by simp) (.inl rfl)) (ns .queue _ (by simp) (.inr rfl)), S.fq, S.fl⟩, q⟩, k.ref.only o2 fun b hb => ns .ref b (by simp) hb, k.doc.only o2 fun b hb => ns .doc b (by simp) hb, (o2.block _ k.own.lt (ns .own _ (by simp) (.inl rfl))).trans k.own, own_keptN k.told fun b e => o2.block b (own_blockN k.told e) (ns .own b (by simp) (.inr e)), sp.1, h.tb, sp.2, fun g e => (o2.block _ (k.lru g e).lt (ns .lru g (by simp) e)).trans (k.lru g e), fun d e => ?_, own_keptN own6 fun b e => o2.block b (own_blockN own6 e) fun e2 => vd (e2 ▸ e), fun d e => ?_, h.mks⟩
  · obtain rfl : dm = d := by rw [ed] at e; injection e
    exact O.set_ 3 v'
  · obtain rfl : dm = d := by rw [ed] at e; injection e
    exact vd
end
theorem below_any {S : Nat -> Prop} {w w' : World} (h : Below w.heap.size w w') : Only S w w' := ⟨h.os, h.tape, h.output, h.size, fun i hi _ => h.block i hi⟩
def Sm (W' W : W6) : Prop := W'.b = W.b /\ W'.gm = W.gm /\ W'.dm = W.dm /\ W'.hot = W.hot /\ W'.warm = W.warm
structure Grew (c : Conf) (w0 w : World) (W0 W : W6) (s0 s : St) : Prop where
  only : Only (fun b => ∃ i, W0.foot c s0 i b) w0 w
  foot : ∀ i b, W.foot c s i b -> (∃ j, W0.foot c s0 j b) \/ w0.heap.size <= b
theorem Grew.refl (c : Conf) (w : World) (W : W6) (s : St) : Grew c w w W W s s := ⟨Only.refl _ _, fun i b hb => .inl ⟨i, hb⟩⟩
theorem Grew.trans {c : Conf} {w0 w1 w2 : World} {W0 W1 W2 : W6} {s0 s1 s2 : St} (h : Grew c w0 w1 W0 W1 s0 s1) (k : Grew c w1 w2 W1 W2 s1 s2) : Grew c w0 w2 W0 W2 s0 s2 :=
  ⟨h.only.trans k.only fun x hx ⟨i, hf⟩ => (h.foot i x hf).resolve_right (by omega), fun i b hb => (k.foot i b hb).elim (fun ⟨j, hj⟩ => h.foot j b hj) fun hb => .inr (Nat.le_trans h.only.size hb)⟩
theorem Grew.step {c : Conf} {w0 w w' : World} {W0 W : W6} {s0 s : St} (h : Grew c w0 w W0 W s0 s) (b : Below w.heap.size w w') : Grew c w0 w' W0 W s0 s := ⟨h.only.below b h.only.size, h.foot⟩
theorem Grew.below {c : Conf} {N : Nat} {w0 w : World} {W0 W : W6} {s0 s : St} (h : Grew c w0 w W0 W s0 s) (hb : ∀ i b, W0.foot c s0 i b -> N <= b) (hN : N <= w0.heap.size) : Below N w0 w :=
  h.only.toBelow fun k hk => ⟨by omega, fun ⟨i, e⟩ => by have := hb i k e; omega⟩
theorem Grew.away {c : Conf} {w0 w : World} {W0 W : W6} {s0 s : St} (h : Grew c w0 w W0 W s0 s) {b : Nat} (hb : b < w0.heap.size) (hn : ∀ i, ¬ W0.foot c s0 i b) : w.heap[b]? = w0.heap[b]? /\ ∀ i, ¬ W.foot c s i b :=
  ⟨h.only.block b hb fun ⟨i, e⟩ => hn i e, fun i e => (h.foot i b e).elim (fun ⟨j, hj⟩ => hn j hj) fun h1 => by omega⟩
theorem grew_take {c : Conf} {w w' : World} {W : W6} {L' : Lay} {s s' : St} (We : Went w w' W.L L' c s s') : Grew c w w' W { W with L := L' } s s' :=
  ⟨We.only.mono fun b _ e => ⟨.set, e⟩, fun i b hb => by
    cases i with
    | set => exact (We.foot b hb).imp (fun e => ⟨.set, e⟩) id
    | ref => exact .inl ⟨.ref, hb⟩
    | queue => exact .inl ⟨.queue, hb⟩
    | doc => exact .inl ⟨.doc, hb⟩
    | own => exact .inl ⟨.own, hb⟩
    | lru => exact .inl ⟨.lru, hb⟩
    | act => exact .inl ⟨.act, hb⟩⟩
theorem grew_rtake {c : Conf} {w w' : World} {W : W6} {M' : RL} {s : St} (We : RWent w w' W.M M' c) : Grew c w w' W { W with M := M' } s s :=
  ⟨We.only.mono fun b _ e => ⟨.ref, e⟩, fun i b hb => by
    cases i with
    | ref => exact (We.foot b hb).imp (fun e => ⟨.ref, e⟩) id
    | set => exact .inl ⟨.set, hb⟩
    | queue => exact .inl ⟨.queue, hb⟩
    | doc => exact .inl ⟨.doc, hb⟩
    | own => exact .inl ⟨.own, hb⟩
    | lru => exact .inl ⟨.lru, hb⟩
    | act => exact .inl ⟨.act, hb⟩⟩
theorem grew_doc {c : Conf} {w w' : World} {W : W6} {R' : R6} {s : St} (We : Went6 w w' W.R R' (3 * c.nc)) : Grew c w w' W { W with R := R' } s s :=
  ⟨We.only.mono fun b _ e => ⟨.doc, e⟩, fun i b hb => by
    cases i with
    | doc => exact (We.foot b hb).imp (fun e => ⟨.doc, e⟩) id
    | set => exact .inl ⟨.set, hb⟩
    | queue => exact .inl ⟨.queue, hb⟩
    | ref => exact .inl ⟨.ref, hb⟩
    | own => exact .inl ⟨.own, hb⟩
    | lru => exact .inl ⟨.lru, hb⟩
    | act => exact .inl ⟨.act, hb⟩⟩
theorem grew_turn {c : Conf} {w w' : World} {W : W6} {s : St} (o : Only (Two W.L W.gl) w w') : Grew c w w' W W s s :=
  ⟨o.mono fun b _ e => by
    rcases e with e | e
    · exact ⟨.set, by rw [e]; exact ⟨.bytes, rfl⟩⟩
    · exact ⟨.queue, .inr e⟩, fun i b hb => .inl ⟨i, hb⟩⟩
theorem grew_tell {c : Conf} {w w' : World} {W : W6} {v' : Value} {s : St} (o : Only (fun b => b = W.b \/ W.vT.ownBlock = some b) w w') (hat : ∀ b, v'.ownBlock = some b -> W.vT.ownBlock = some b \/ w.heap.size <= b) : Grew c w w' W { W with vT := v' } s s :=
  ⟨o.mono fun b _ e => ⟨.own, e⟩, fun i b hb => by
    cases i with
    | own =>
      rcases hb with hb | hb
      · exact .inl ⟨.own, .inl hb⟩
      · exact (hat b hb).imp (fun e => ⟨.own, .inr e⟩) id
    | set => exact .inl ⟨.set, hb⟩
    | queue => exact .inl ⟨.queue, hb⟩
    | ref => exact .inl ⟨.ref, hb⟩
    | doc => exact .inl ⟨.doc, hb⟩
    | lru => exact .inl ⟨.lru, hb⟩
    | act => exact .inl ⟨.act, hb⟩⟩
theorem grew_acts {c : Conf} {w w6 : World} {W : W6} {v' : Value} {s : St} {dm : Nat} (ed : W.dm = some dm) (o : Below w.heap.size w w6) (hat : ∀ b, v'.ownBlock = some b -> w.heap.size <= b) : Grew c w (w6.setCell ⟨dm, 3, none⟩ v') W { W with vA := v' } s s :=
  ⟨(below_any o).trans ((only_cell1 (S := fun b => ∃ i, W.foot c s i b) w6 dm 3 v' ⟨.act, .inl ed⟩)) fun _ _ h => h, fun i b hb => by
    cases i with
    | act =>
      rcases hb with hb | hb
      · exact .inl ⟨.act, .inl hb⟩
      · exact .inr (hat b hb)
    | own => exact .inl ⟨.own, hb⟩
    | set => exact .inl ⟨.set, hb⟩
    | queue => exact .inl ⟨.queue, hb⟩
    | ref => exact .inl ⟨.ref, hb⟩
    | doc => exact .inl ⟨.doc, hb⟩
    | lru => exact .inl ⟨.lru, hb⟩⟩
structure Op6 where
 dO : Int
 a : Int
 b : Int
 c : Int
 h : Nat
 raw : Bool
def Op6.cells (o : Op6) : Array Value := #[.int .i64 o.dO, .int .i64 o.a, .int .i64 o.b, .int .i64 o.c, .int .u64 (o.h : Int), .bool o.raw]
structure Op6.Ok (o : Op6) : Prop where
 dO : Cls.In o.dO
 a : Cls.In o.a
 b : Cls.In o.b
 c : Cls.In o.c
 h : o.h < 18446744073709551616
theorem op6_cells {w : World} {N : Nat} {t : TypeId} {o : Op6} (h : Blk w N t o.cells) : w.cell? ⟨N, 0, none⟩ = some (.int .i64 o.dO) /\ w.cell? ⟨N, 1, none⟩ = some (.int .i64 o.a) /\ w.cell? ⟨N, 2, none⟩ = some (.int .i64 o.b) /\ w.cell? ⟨N, 3, none⟩ = some (.int .i64 o.c) /\ w.cell? ⟨N, 4, none⟩ = some (.int .u64 (o.h : Int)) /\ w.cell? ⟨N, 5, none⟩ = some (.bool o.raw) :=
 ⟨h.cell 0, h.cell 1, h.cell 2, h.cell 3, h.cell 4, h.cell 5⟩
theorem qc_sz (k : Nat) (hk : k < 3) : 64 <= qc.sz k /\ qc.cf.n k <= 64 := by
 obtain rfl | rfl | rfl : k = 0 \/ k = 1 \/ k = 2 := by omega
 all_goals decide
section
variable {N : Nat} {w : World} {W : W6} {s : St} {bs : List UInt8} {Z : Nat -> Option Zd} {Ls Ld : Nat -> Nat -> List Nat} {r : RS} {laid told act : List Nat} {mk : Nat -> Nat} (h : WAt N w W qc s bs Z Ls Ld r laid told act mk)
include h
theorem WAt.cW : w.cell? ⟨W.b, 0, none⟩ = some (.pointer (some ⟨W.L.g, 0, none⟩)) /\ w.cell? ⟨W.b, 1, none⟩ = some (.pointer (some ⟨W.gq, 0, none⟩)) /\ w.cell? ⟨W.b, 3, none⟩ = some (.pointer (some ⟨W.M.b, 0, none⟩)) /\ w.cell? ⟨W.b, 4, none⟩ = some (.pointer (some ⟨W.R.b, 0, none⟩)) /\ w.cell? ⟨W.b, 6, none⟩ = some W.vT :=
 ⟨h.own.cell 0, h.own.cell 1, h.own.cell 3, h.own.cell 4, h.own.cell 6⟩
theorem WAt.cL : w.cell? ⟨W.b, 2, none⟩ = some (ptrO W.gm) /\ w.cell? ⟨W.b, 5, none⟩ = some (ptrO W.dm) := ⟨h.own.cell 2, h.own.cell 5⟩
theorem makesNo (o : Op6) (ok : o.Ok) (Rl : Rel qc.cf s r) (hr : roomS qc.cf s (o.b % 3).toNat = none) :
  Calls Tryz.prog 42 #[.pointer (some ⟨W.b, 0, none⟩), .agg o.cells] w fun e w' => e = .returned (.bool true) /\ Below w.heap.size w w' := by
 have hk : (o.b % 3).toNat < 3 := by omega
 have hnc := qc_nc
 obtain ⟨w1, hw1⟩ : ∃ w1, w1 = w.alloc (.cells o.cells 64) := ⟨_, rfl⟩
 have B1 : Blk w1 w.heap.size 64 o.cells := by rw [hw1]; exact Blk.new w _ _
 have b1 : Below w.heap.size w w1 := by rw [hw1]; exact (Below.refl _ _).alloc (Nat.le_refl _) _
 have h1 := h.below b1
 obtain ⟨x0, x1, x2, x3, x4, x5⟩ := op6_cells B1
 obtain ⟨y0, y1, y2, y3, y4⟩ := h1.cW
 have WC := withinI o.b 3 ok.b (by omega) (by omega)
 rw [show ((3 : Nat) : Int) = 3 from rfl] at WC
 have TC := takeNo w1 W.L qc s bs h1.set _ (by rw [hnc]; exact hk) hr
 have RC := rtakeNo w1 W.M qc r h1.ref _ (by rw [hnc]; exact hk) ((Rl.room h1.okc h1.good (by show _ < qc.nc; omega)).1 hr)
 generalize (o.b % 3).toNat = k at *
 have n1 := fun w => numC6 w 21
 replace TC := Lib.hid TC
 replace RC := Lib.hid RC
 replace WC := Lib.hid WC
 replace b1 := Lib.hid b1
 unfold Op6.cells at hw1 ⊢
 replace hw1 := Lib.hid hw1
 clear h h1 Rl hr B1 hnc
 generalize hN : w.heap.size = N0 at *
 replace hN := Lib.hid hN
 go_enter Tryz.func42, Tryz.ntmps42
 go_upto_region 1 with fail
 rw [hN.out, <- hw1.out]
 go_wp2_with (first | (go_at_call 31; refine (WC.out _).mono ?_; rintro e w' ⟨rfl, rfl⟩) | (go_at_call 81; refine TC.out.mono ?_; rintro e w' ⟨rfl, rfl⟩) | (go_at_call 82; refine RC.out.mono ?_; rintro e w' ⟨rfl, rfl⟩) | (go_at_call 14; refine (n1 _).mono ?_; rintro e w' ⟨rfl, rfl⟩) | fail)
 go_ret
 exact ⟨rfl, b1.out⟩
end
structure Took6 (N N0 : Nat) (w0 w : World) (W0 : W6) (s0 : St) (W : W6) (s : St) (bs : List UInt8) (Z : Nat -> Option Zd) (Ls Ld : Nat -> Nat -> List Nat) (r : RS) (laid told act : List Nat) (mk : Nat -> Nat) (o : Op6) : Prop where
 wat : WAt N w W qc s bs Z Ls Ld r laid told act mk
 op : Blk w N0 64 o.cells
 far : ∀ i, ¬ W.foot qc s i N0
 below : Below N w0 w
 grew : Grew qc w0 w W0 W s0 s
theorem Took6.cells {N N0 : Nat} {w0 w : World} {W0 : W6} {s0 : St} {W : W6} {s : St} {bs : List UInt8} {Z : Nat -> Option Zd} {Ls Ld : Nat -> Nat -> List Nat} {r : RS} {laid told act : List Nat} {mk : Nat -> Nat} {o : Op6} (h : Took6 N N0 w0 w W0 s0 W s bs Z Ls Ld r laid told act mk o) :
  w.cell? ⟨N0, 0, none⟩ = some (.int .i64 o.dO) /\ w.cell? ⟨W.b, 0, none⟩ = some (.pointer (some ⟨W.L.g, 0, none⟩)) /\ w.cell? ⟨W.b, 3, none⟩ = some (.pointer (some ⟨W.M.b, 0, none⟩)) /\ w.cell? ⟨W.b, 4, none⟩ = some (.pointer (some ⟨W.R.b, 0, none⟩)) /\ w.cell? ⟨W.b, 6, none⟩ = some W.vT := by
 obtain ⟨y0, y1, y2, y3, y4⟩ := h.wat.cW
 exact ⟨h.op.cell 0, y0, y2, y3, y4⟩
theorem took6_begin {N : Nat} {w : World} {W : W6} {s : St} {bs : List UInt8} {Z : Nat -> Option Zd} {Ls Ld : Nat -> Nat -> List Nat} {r : RS} {laid told act : List Nat} {mk : Nat -> Nat} (h : WAt N w W qc s bs Z Ls Ld r laid told act mk) (o : Op6) :
    Took6 N w.heap.size w (w.alloc (.cells o.cells 64)) W s W s bs Z Ls Ld r laid told act mk o :=
  ⟨h.below ((Below.refl _ _).alloc (Nat.le_refl _) _), Blk.new w _ _, fun i hi => by have := h.lt i _ hi; omega, (Below.refl N w).alloc h.hN0 _, (Grew.refl _ _ _ _).step ((Below.refl _ _).alloc (Nat.le_refl _) _)⟩
section
variable {N N0 : Nat} {w0 w : World} {W0 : W6} {s0 : St} {W : W6} {s : St} {bs : List UInt8} {Z : Nat -> Option Zd} {Ls Ld : Nat -> Nat -> List Nat} {r : RS} {laid told act : List Nat} {mk : Nat -> Nat} {o : Op6} (h : Took6 N N0 w0 w W0 s0 W s bs Z Ls Ld r laid told act mk o)
include h
theorem Took6.take {w' : World} {L' : Lay} {s1 : St} {k : Nat} (hk : k < qc.cf.nc) (hr : roomS qc.cf s k = some s1) {l : List Nat} {p : Nat} (hp : s1.free k = l ++ [p]) {H0 : Nat} (h0 : H0 = hnd p (s1.gens (p / qc.cf.ps) (p % qc.cf.ps / qc.cf.sz k))) (G : Nat) (eg : L'.g = W.L.g)
    (hb : bs.length = qc.cf.ps * qc.cf.np) (M : SetAt w' L' qc (takeS qc.cf s1 k p) (takeB bs p G)) (We : Went w w' W.L L' qc s (takeS qc.cf s1 k p)) : Took6 N N0 w0 w' W0 s0 { W with L := L' } (takeS qc.cf s1 k p) (takeB bs p G) (upd Z H0 none) Ls Ld r laid told act mk o := by
  obtain ⟨A, B⟩ := We.away h.op (h.far .set)
  refine ⟨h.wat.take hk hr hp h0 G eg hb M We, A, fun i hi => ?_, h.below.trans (We.only.toBelow (B := N) fun k hk => ⟨by have := h.wat.hN0; omega, fun e => by have := h.wat.base .set k e; omega⟩), h.grew.trans (grew_take We)⟩
  cases i with
  | set => exact B hi
  | ref => exact h.far .ref hi
  | queue => exact h.far .queue hi
  | doc => exact h.far .doc hi
  | own => exact h.far .own hi
  | lru => exact h.far .lru hi
  | act => exact h.far .act hi
theorem Took6.rtake {w' : World} {M' : RL} {r' : RS} (R : RSetAt w' M' qc r') (We : RWent w w' W.M M' qc) : Took6 N N0 w0 w' W0 s0 { W with M := M' } s bs Z Ls Ld r' laid told act mk o := by
  refine ⟨h.wat.rtake R We, (We.only.block _ h.op.lt (h.far .ref)).trans h.op, fun i hi => ?_, h.below.trans (We.only.toBelow (B := N) fun k hk => ⟨by have := h.wat.hN0; omega, fun e => by have := h.wat.base .ref k e; omega⟩), h.grew.trans (grew_rtake We)⟩
  cases i with
  | set => exact h.far .set hi
  | ref =>
    rcases We.foot _ hi with h1 | h1
    · exact h.far .ref h1
    · have := h.op.lt; omega
  | queue => exact h.far .queue hi
  | doc => exact h.far .doc hi
  | own => exact h.far .own hi
  | lru => exact h.far .lru hi
  | act => exact h.far .act hi
theorem Took6.tell {w6 : World} {v' : Value} {H : Nat} (oo : Only (fun b => W.vT.ownBlock = some b) w w6) (own6 : w6.ownsRow 0 50 1 v' (told.length + 1) (told.map uv ++ [uv H])) (hat : ∀ b, v'.ownBlock = some b -> W.vT.ownBlock = some b \/ w.heap.size <= b) :
    Took6 N N0 w0 (w6.setCell ⟨W.b, 6, none⟩ v') W0 s0 { W with vT := v' } s bs Z Ls Ld r laid (told ++ [H]) act mk o := by
  have o2 := only_cell1 (S := fun b => b = W.b \/ W.vT.ownBlock = some b) w6 W.b 6 v' (.inl rfl)
  have o3 : Only (fun b => b = W.b \/ W.vT.ownBlock = some b) w (w6.setCell ⟨W.b, 6, none⟩ v') := (oo.mono fun b _ e => .inr e).trans o2 fun _ _ h => h
  refine ⟨h.wat.tell oo own6 hat, (o3.block _ h.op.lt (h.far .own)).trans h.op, fun i hi => ?_, h.below.trans (o3.toBelow (B := N) fun k hk => ⟨by have := h.wat.hN0; omega, fun e => by have := h.wat.base .own k e; omega⟩), h.grew.trans (grew_tell o3 hat)⟩
  cases i with
  | set => exact h.far .set hi
  | ref => exact h.far .ref hi
  | queue => exact h.far .queue hi
  | doc => exact h.far .doc hi
  | own =>
    rcases hi with h1 | h1
    · exact h.far .own (.inl h1)
    · rcases hat _ h1 with h2 | h2
      · exact h.far .own (.inr h2)
      · have := h.op.lt; omega
  | lru => exact h.far .lru hi
  | act => exact h.far .act hi
theorem Took6.acts {w6 : World} {v' : Value} {dm : Nat} (ed : W.dm = some dm) {act' : List Nat} (oo : Below w.heap.size w w6) (own6 : w6.ownsRow 0 50 1 v' act'.length (act'.map uv)) (hat : ∀ b, v'.ownBlock = some b -> w.heap.size <= b) :
    Took6 N N0 w0 (w6.setCell ⟨dm, 3, none⟩ v') W0 s0 { W with vA := v' } s bs Z Ls Ld r laid told act' mk o := by
  have hd := h.far .act
  have hne : N0 ≠ dm := fun e => hd (.inl (by rw [e]; exact ed))
  have G := grew_acts (c := qc) (s := s) ed oo hat
  refine ⟨h.wat.acts ed oo own6 hat, ((only_cell1 (S := (· = dm)) w6 dm 3 v' rfl).block N0 (Nat.lt_of_lt_of_le h.op.lt oo.size) hne).trans (h.op.below oo h.op.lt), fun i hi => ?_, h.below.trans (G.below h.wat.base h.wat.hN0), h.grew.trans G⟩
  cases i with
  | act =>
    rcases hi with hi | hi
    · exact h.far .act (.inl hi)
    · have := hat _ hi; have := h.op.lt; omega
  | set => exact h.far .set hi
  | ref => exact h.far .ref hi
  | queue => exact h.far .queue hi
  | doc => exact h.far .doc hi
  | own => exact h.far .own hi
  | lru => exact h.far .lru hi
end
theorem rroom_len {r r1 : RS} {k : Nat} (hk : k < 3) (hr : rroomS qc.cf r k = some r1) : r1.ch.length <= r.ch.length + 64 := by
 have hn := (qc_sz k hk).2
 unfold rroomS at hr
 split at hr
 ·split at hr
  ·injection hr with hr
   subst hr
   unfold rpage rcuts
   simp
   omega
  ·cases hr
 ·injection hr with hr
  subst hr
  omega
section
variable {N : Nat} {w : World} {W : W6} {s : St} {bs : List UInt8} {Z : Nat -> Option Zd} {Ls Ld : Nat -> Nat -> List Nat} {r : RS} {laid told act : List Nat} {mk : Nat -> Nat} (h : WAt N w W qc s bs Z Ls Ld r laid told act mk)
include h
set_option maxHeartbeats 1600000 in
theorem makesBare (o : Op6) (ok : o.Ok) (Rl : Rel qc.cf s r) (hb : bs.length = qc.cf.ps * qc.cf.np) (hlen : r.ch.length + 16384 <= 1073741824) (hfr : (s.free (o.b % 3).toNat).length + 16384 <= 1073741824) (htl : told.length + 1 <= 1073741824)
  {s1 : St} (hr : roomS qc.cf s (o.b % 3).toNat = some s1) {l : List Nat} {p : Nat} (hp : s1.free (o.b % 3).toNat = l ++ [p]) {H0 : Nat} (h0 : H0 = hnd p (s1.gens (p / qc.cf.ps) (p % qc.cf.ps / qc.sz (o.b % 3).toNat))) (hd : o.dO = 2) :
  Calls Tryz.prog 42 #[.pointer (some ⟨W.b, 0, none⟩), .agg o.cells] w fun e w' => e = .returned (.bool true) /\ Below N w w' /\ ∃ W' r', Sm W' W /\ Grew qc w w' W W' s (takeS qc.cf s1 (o.b % 3).toNat p) /\ Rel qc.cf (takeS qc.cf s1 (o.b % 3).toNat p) r' /\ r'.ch.length <= r.ch.length + 16384 /\
   WAt N w' W' qc (takeS qc.cf s1 (o.b % 3).toNat p) (takeB bs p (s1.gens (p / qc.cf.ps) (p % qc.cf.ps / qc.sz (o.b % 3).toNat))) (upd Z H0 none) Ls Ld r' laid (told ++ [H0]) act mk := by
 have hk : (o.b % 3).toNat < 3 := by omega
 have hkn : (o.b % 3).toNat < qc.nc := by rw [qc_nc]; exact hk
 have T1 := took6_begin h o
 obtain ⟨w1, hw1⟩ : ∃ w1, w1 = w.alloc (.cells o.cells 64) := ⟨_, rfl⟩
 rw [<- hw1] at T1
 have WC := withinI o.b 3 ok.b (by omega) (by omega)
 rw [show ((3 : Nat) : Int) = 3 from rfl] at WC
 have TC := takeYes w1 W.L qc s bs T1.wat.set T1.wat.good _ hkn s1 hr l p hp
 rw [<- h0] at TC
 have okc := T1.wat.okc
 have g1 := (room_good okc T1.wat.good hkn hr).1
 obtain ⟨r1, hr1, Rl1⟩ := (Rl.room okc T1.wat.good (k := (o.b % 3).toNat) hkn).2 s1 hr
 obtain ⟨l', j, hj, hx, Rl2⟩ := Rl1.take okc g1 hkn hp
 generalize hkE : (o.b % 3).toNat = k at *
 have RK := fun w2 M' (R : RSetAt w2 M' qc r) => rtakeYes w2 M' qc r R hlen k hkn (by rw [Rl.row_len hkn]; exact hfr) r1 hr1 l' j _ hj hx (Nat.le_of_lt (Nat.lt_of_lt_of_le (Rl1.pl j _ hx) (by decide))) (g1.gen _ _)
 have hnm : (RC.name ⟨p, k, s1.gens (p / qc.cf.ps) (p % qc.cf.ps / qc.cf.sz k), false, false⟩) = H0 := h0.symm
 have hcl : (rtake r1 k j).ch.length <= r.ch.length + 16384 := by
  have := rroom_len hk hr1
  unfold rtake
  simp only [List.length_modify]
  omega
 obtain ⟨x0, y0, y2, y3, y4⟩ := T1.cells
 have xb : w1.cell? ⟨w.heap.size, 2, none⟩ = some (.int .i64 o.b) := T1.op.cell 2
 rw [hd] at x0
 have n1 := fun w => numC6 w 0
 have H9 : (takeS qc.cf s1 k p) = takeS qc.cf s1 k p := rfl
 replace TC := Lib.hid TC
 replace WC := Lib.hid WC
 replace T1 := Lib.hid T1
 replace hnm := Lib.hid hnm
 replace Rl2 := Lib.hid Rl2
 replace hcl := Lib.hid hcl
 replace hp := Lib.hid hp
 replace hr := Lib.hid hr
 replace h0 := Lib.hid h0
 replace hb := Lib.hid hb
 replace htl := Lib.hid htl
 replace hkn := Lib.hid hkn
 replace hkE := Lib.hid hkE
 clear Rl Rl1 hj hx hr1 g1 okc hlen hfr H9 hk
 replace RK := Lib.hid RK
 have hdE := Lib.hid hd
 unfold Op6.cells at hw1 ⊢
 rw [hd] at hw1 ⊢
 replace hw1 := Lib.hid hw1
 clear hd
 generalize hN : w.heap.size = N0 at *
 replace hN := Lib.hid hN
 go_enter Tryz.func42, Tryz.ntmps42
 go_upto_region 1 with fail
 rw [hN.out, <- hw1.out]
 go_wp2_with fail
 refine (WC.out _).mono ?_
 rintro e w' ⟨rfl, rfl⟩
 go_wp2_with fail
 refine TC.out.mono ?_
 rintro e w2 ⟨rfl, L', eg, M2, We2⟩
 have T2 := T1.out.take (H0 := H0) hkn.out hr.out hp.out h0.out _ eg hb.out M2 We2
 obtain ⟨x0, y0, y2, y3, y4⟩ := T2.cells
 rw [hdE.out] at x0
 have RC2 := RK.out w2 W.M T2.wat.ref
 rw [hnm.out] at RC2
 replace RC2 := Lib.hid RC2
 replace T2 := Lib.hid T2
 clear TC WC T1 M2 We2 RK hw1 eg
 go_wp2_with fail
 refine RC2.out.mono ?_
 rintro e w3 ⟨rfl, M', R3, We3⟩
 have T3 := T2.out.rtake R3 We3
 obtain ⟨x0, y0, y2, y3, y4⟩ := T3.cells
 rw [hdE.out] at x0
 have wb := We3.b
 obtain ⟨A, cp, hv⟩ := own_is T3.wat.told
 have own := T3.wat.told
 have fz := T3.wat.own.frozen 6
 have z1 : ∀ o, (w3.alloc o).frozen? ⟨W.b, 6, none⟩ = false := fun o => (T3.wat.own.alloc o).frozen 6
 simp only at hv y4 own
 rw [hv] at y4 own
 replace T3 := Lib.hid T3
 replace hv := Lib.hid hv
 replace own := Lib.hid own
 clear RC2 T2 R3 We3 wb
 go_wp2_with (first | (go_at_call 14; refine (n1 _).mono ?_; rintro e w' ⟨rfl, rfl⟩) | (at_builtin; refine wpList_app rfl _ _ _ rfl eiL 0 _ _ _ rfl (own.out.alloc _) (w3.heap.size + 1) (some ⟨w3.heap.size, 0, none⟩) 1 1 [.int .u64 (H0 : Int)] rfl ?c1 ?c2 ?c3 ?c4 ?c5 ?_))
 case c1 => exact reads_v w3 _ _
 case c2 => intro u hu; rw [List.mem_singleton] at hu; subst hu; rfl
 case c3 => have := htl.out; unfold maxLen; omega
 case c4 => have := htl.out; omega
 case c5 => exact Nat.zero_le _
 intro VV w6 own6 hg6 hat6
 obtain ⟨A6, cp6, rfl⟩ := own_is own6
 have o6 : Only (fun k => W.vT.ownBlock = some k) w3 w6 := ((Only.refl _ w3).alloc _).grown hg6 (fun k e _ => by rw [hv.out]; exact e)
 have hat : ∀ b, (Value.slice A6 (told.length + 1) cp6).ownBlock = some b -> W.vT.ownBlock = some b \/ w3.heap.size <= b := fun b e => by
  rcases hat6 with h6 | h6
  ·rw [hv.out, <- h6]; exact .inl e
  ·rw [h6] at e
   injection e with e
   exact .inr (by omega)
 have T6 := T3.out.tell o6 own6 hat
 have B6 : Blk w6 W.b 36 _ := (o6.block _ T3.out.wat.own.lt T3.out.wat.tb).trans T3.out.wat.own
 have r1 := B6.cell 6
 have r2 := B6.frozen 6
 obtain ⟨x0, -, -, -, -⟩ := T6.cells
 rw [hdE.out] at x0
 simp only at x0
 replace T6 := Lib.hid T6
 replace B6 := Lib.hid B6
 clear own6 hg6 hat6 o6 hat z1 fz own T3 hv
 go_wp2_with fail
 go_ret
 exact ⟨rfl, T6.out.below, ⟨W.b, L', M', W.gq, W.gl, W.R, .slice A6 (told.length + 1) cp6, W.gm, W.dm, W.vA, W.hot, W.warm⟩, _, ⟨rfl, rfl, rfl, rfl, rfl⟩, T6.out.grew, Rl2.out, hcl.out, T6.out.wat⟩
end
theorem bvE {x : Nat} (hx : x < 256) : bv (UInt8.ofNat x) = .int .u8 (x : Int) := by
 unfold bv
 rw [UInt8.toNat_ofNat', Nat.mod_eq_of_lt hx]
theorem bytes_blk {w : World} {b B : Nat} {l : List UInt8} {cs : Array Value} (h : Blk w b 5 cs) (e : cs = (l.map bv).toArray) (hb : b < B) : Bytes w B (some ⟨b, 0, none⟩) l := fun _ => ⟨b, 0, rfl, hb, fun k x hx => by
 rw [Nat.zero_add, h.cell, e]
 simpa using hx⟩
theorem two_legal {a b : Nat} (ha : a < 26) (hb : b < 26) : legalN [UInt8.ofNat (97 + a), UInt8.ofNat (97 + b)] = true := by
 have h1 : ∀ a : Fin 26, okB (UInt8.ofNat (97 + a.val)) = true := by decide
 have e1 := h1 ⟨a, ha⟩
 have e2 := h1 ⟨b, hb⟩
 simp only at e1 e2
 unfold legalN
 rw [List.all_cons, List.all_cons, List.all_nil, e1, e2]
 rfl
theorem layItemC {w : World} {L : Lay} {s : St} {bs : List UInt8} {Z : Nat -> Option Zd} {gq gl : Nat} {Ls : Nat -> Nat -> List Nat} (h : QW w L qc s bs Z gq gl Ls) {mk : Nat -> Nat} (m : Mks qc s bs Z mk) {H i x p : Nat} (hf : findN qc.cf s H = some (i, x, p)) (hz : Z H = none) (gen : Nat) (hg : (bs.drop (p + 12)).take 4 = putB 4 gen)
  {na nb nm a : Nat} (ha : na < 26) (hb : nb < 26) (hm : nm < 16) (K : Blk w a 5 #[.int .u8 (97 + (na : Int)), .int .u8 (97 + (nb : Int))]) (ea : a ≠ L.ha) :
  Calls Tryz.prog 85 #[.pointer (some ⟨L.g, 0, none⟩), .int .u64 (H : Int), .agg #[.slice (some ⟨a, 0, none⟩) 2 2, .slice none 0 0, .int .u64 0, .int .i64 0, .int .i64 0, .int .u64 0, .int .i64 4, .int .i64 (nm : Int)]] w fun e w' => e = .returned (.int .i64 0) /\ Only (Two L gl) w w' /\
   ∃ bs', bs'.length = bs.length /\ QW w' L qc s bs' (upd Z H (some ⟨4, 0, 0⟩)) gq gl Ls /\ Mks qc s bs' (upd Z H (some ⟨4, 0, 0⟩)) (upd mk H nm) := by
 have hnl : ∀ x k, x < qc.nc -> k < 3 -> H ∉ Ls x k := by
  intro x k hx hk hh
  obtain ⟨F, S, q⟩ := h
  obtain ⟨z, hz2⟩ := (q.is hx hk hh).2
  rw [hz] at hz2
  cases hz2
 have Kt : Tkn qc.cf s i x p (s.cls i) (H / 4294967296) := by obtain ⟨F, S, q⟩ := h; exact (Tkn.of S.okc S.zs.good hf).1
 have kN : s.cls i < 3 := by have := Kt.kN; rw [show qc.cf.nc = qc.nc from rfl, qc_nc] at this; exact this
 have hsz := (qc_sz _ kN).1
 have F : It.Fine ⟨[UInt8.ofNat (97 + na), UInt8.ofNat (97 + nb)], [], 0, 0, 0, 0, 4, nm⟩ := ⟨two_legal ha hb, by show 0 < _; omega, by show 0 < _; omega, by show 0 < _; omega, by show 0 < _; omega, by show 1 <= 4; omega, by show 4 <= 4; omega, hm⟩
 obtain ⟨K2, ok, g⟩ : Chk qc s bs.length H i x p (s.cls i) (qc.sz (s.cls i)) /\ qc.cf.Ok /\ Cls.Good qc.cf s := by
  obtain ⟨F, S, q⟩ := h
  exact ⟨Chk.of S.zs.set S.zs.good (good_lt S.okc S.zs.good hf) hf, S.okc, S.zs.good⟩
 have hlen : p + 64 <= bs.length := by
  have := K2.ck.all
  have := K2.n64
  omega
 have MM := m.laid ok g K2 ⟨[UInt8.ofNat (97 + na), UInt8.ofNat (97 + nb)], [], 0, 0, 0, 0, 4, nm⟩ F (by show 58 + 2 + 0 <= _; omega) gen hg ⟨4, 0, 0⟩
 have kB : Bytes w (a + 1) (some ⟨a, 0, none⟩) [UInt8.ofNat (97 + na), UInt8.ofNat (97 + nb)] := bytes_blk K (by
  show _ = #[bv _, bv _]
  rw [bvE (by omega), bvE (by omega)]
  simp) (by omega)
 have vB : Bytes w (a + 1) none [] := fun e => by simp at e
 have C := laidC h hf hnl _ F rfl (by show 58 + 2 + 0 <= _; omega) gen hg (some ⟨a, 0, none⟩) none 2 0 _ kB vB (fun b' off e => by injection e with e; injection e with e; exact e ▸ ea) (fun e => (e rfl).elim)
 exact C.mono fun e w' ⟨h1, h2, h3⟩ => ⟨h1, h2, _, itemB_len _ _ _ _ (by show p + 58 + 2 + 0 <= _; omega), h3, MM⟩
def laidN (H : Nat) (l : List Nat) : List Nat := if H ∈ l then l else l ++ [H]
theorem lay6C (w : World) (R : R6) (mb n : Nat) (laid : List Nat) (lists : Nat -> List Nat) (h : R6At w R mb n laid lists) (hlen : laid.length + 1 <= 1073741824) (H : Nat) : Calls Tryz.prog 84 #[.pointer (some ⟨R.b, 0, none⟩), .int .u64 (H : Int)] w fun e w' => e = .returned (.tuple #[]) /\ ∃ R', R'.b = R.b /\ Went6 w w' R R' n /\ R6At w' R' mb n (laidN H laid) lists := by
  by_cases hm : H ∈ laid
  · have e : laidN H laid = laid := if_pos hm
    rw [e]
    exact (lay6In w R mb n laid lists h hlen H hm).mono fun e w' ⟨h1, h2⟩ => ⟨h1, R, rfl, h2 ▸ ⟨Only.refl _ _, fun b hb => .inl hb, rfl⟩, h2 ▸ h⟩
  · have e : laidN H laid = laid ++ [H] := if_neg hm
    rw [e]
    exact lay6Out w R mb n laid lists h hlen H hm
theorem Took6.step {N N0 : Nat} {w0 w w' : World} {W0 : W6} {s0 : St} {W : W6} {s : St} {bs : List UInt8} {Z : Nat -> Option Zd} {Ls Ld : Nat -> Nat -> List Nat} {r : RS} {laid told act : List Nat} {mk : Nat -> Nat} {o : Op6} (h : Took6 N N0 w0 w W0 s0 W s bs Z Ls Ld r laid told act mk o) (b : Below w.heap.size w w') : Took6 N N0 w0 w' W0 s0 W s bs Z Ls Ld r laid told act mk o :=
  ⟨h.wat.below b, h.op.below b h.op.lt, h.far, h.below.trans (b.mono h.wat.hN0), h.grew.step b⟩
theorem Took6.doc_ {N N0 : Nat} {w0 w w' : World} {W0 : W6} {s0 : St} {W : W6} {s : St} {bs : List UInt8} {Z : Nat -> Option Zd} {Ls Ld : Nat -> Nat -> List Nat} {r : RS} {laid laid' told act : List Nat} {mk : Nat -> Nat} {o : Op6} (h : Took6 N N0 w0 w W0 s0 W s bs Z Ls Ld r laid told act mk o) {R' : R6} (D : R6At w' R' W.M.b (3 * qc.nc) laid' (fun i => Ld (i / 3) (i % 3))) (eb : R'.b = W.R.b) (We : Went6 w w' W.R R' (3 * qc.nc)) :
    Took6 N N0 w0 w' W0 s0 { W with R := R' } s bs Z Ls Ld r laid' told act mk o := by
  refine ⟨h.wat.doc_ D eb We, (We.only.block _ h.op.lt (h.far .doc)).trans h.op, fun i hi => ?_, h.below.trans (We.only.toBelow (B := N) fun k hk => ⟨by have := h.wat.hN0; omega, fun e => by have := h.wat.base .doc k e; omega⟩), h.grew.trans (grew_doc We)⟩
  cases i with
  | set => exact h.far .set hi
  | ref => exact h.far .ref hi
  | queue => exact h.far .queue hi
  | doc =>
    rcases We.foot _ hi with h1 | h1
    · exact h.far .doc h1
    · have := h.op.lt; omega
  | own => exact h.far .own hi
  | lru => exact h.far .lru hi
  | act => exact h.far .act hi
theorem Took6.laid {N N0 : Nat} {w0 w w' : World} {W0 : W6} {s0 : St} {W : W6} {s : St} {bs bs' : List UInt8} {Z Z' : Nat -> Option Zd} {Ls Ld : Nat -> Nat -> List Nat} {r : RS} {laid told act : List Nat} {mk : Nat -> Nat} {o : Op6} (h : Took6 N N0 w0 w W0 s0 W s bs Z Ls Ld r laid told act mk o) (oz : Only (Two W.L W.gl) w w') (Q : QW w' W.L qc s bs' Z' W.gq W.gl Ls) {mk' : Nat -> Nat} (m : Mks qc s bs' Z' mk') :
    WAt N w' W qc s bs' Z' Ls Ld r laid told act mk' /\ Below N w0 w' /\ Grew qc w0 w' W0 W s0 s := by
  refine ⟨h.wat.turn oz Q m, h.below.trans (oz.toBelow (B := N) fun k hk => ⟨by have := h.wat.hN0; omega, fun e => ?_⟩), h.grew.trans (grew_turn oz)⟩
  rcases e with e | e
  · have := h.wat.base .set k (by rw [e]; exact ⟨.bytes, rfl⟩); omega
  · have := h.wat.base .queue k (.inr e); omega
def markN (n : Nat) : Nat := n * 7 % 16
def oddB (m : Nat) : Bool := m % 2 == 1
theorem marksF (n : Nat) (hn : n <= 1073741825) (w : World) : Calls Tryz.prog 83 #[.int .i64 (n : Int)] w fun e w' => e = .returned (.int .i64 (markN n : Int)) /\ w = w' := by
  have q1 : IntKind.i64.wrap ((n : Int) * 7) = ((n * 7 : Nat) : Int) := by rw [IntWalk.i64_in _ (by omega)]; omega
  have q2 : ((n * 7 : Nat) : Int).tmod 16 = (markN n : Int) := tmodN (n * 7) 16
  generalize markN n = M at *
  generalize n * 7 = P at *
  go_enter Tryz.func83, Tryz.ntmps83
  go_wp2
  go_ret
  exact ⟨rfl, rfl⟩
section
variable {N : Nat} {w : World} {W : W6} {s : St} {bs : List UInt8} {Z : Nat -> Option Zd} {Ls Ld : Nat -> Nat -> List Nat} {r : RS} {laid told act : List Nat} {mk : Nat -> Nat} (h : WAt N w W qc s bs Z Ls Ld r laid told act mk)
include h
set_option maxHeartbeats 1600000 in
theorem makesItem (o : Op6) (ok : o.Ok) (Rl : Rel qc.cf s r) (hb : bs.length = qc.cf.ps * qc.cf.np) (hlen : r.ch.length + 16384 <= 1073741824) (hfr : (s.free (o.b % 3).toNat).length + 16384 <= 1073741824) (htl : told.length + 1 <= 1073741824) (hla : laid.length + 1 <= 1073741824) (hal : act.length <= 1073741823) {dmb : Nat} (ed : W.dm = some dmb)
    {s1 : St} (hr : roomS qc.cf s (o.b % 3).toNat = some s1) {l : List Nat} {p : Nat} (hp : s1.free (o.b % 3).toNat = l ++ [p]) {H0 : Nat} (h0 : H0 = hnd p (s1.gens (p / qc.cf.ps) (p % qc.cf.ps / qc.sz (o.b % 3).toNat))) (hd : o.dO ≠ 2) :
    Calls Tryz.prog 42 #[.pointer (some ⟨W.b, 0, none⟩), .agg o.cells] w fun e w' => e = .returned (.bool true) /\ Below N w w' /\ ∃ W' r', Sm W' W /\ Grew qc w w' W W' s (takeS qc.cf s1 (o.b % 3).toNat p) /\ Rel qc.cf (takeS qc.cf s1 (o.b % 3).toNat p) r' /\ r'.ch.length <= r.ch.length + 16384 /\
      ∃ bs', bs'.length = bs.length /\ WAt N w' W' qc (takeS qc.cf s1 (o.b % 3).toNat p) bs' (upd Z H0 (some ⟨4, 0, 0⟩)) Ls Ld r' (laidN H0 laid) (told ++ [H0]) (actN H0 (oddB (markN (told.length + 1))) act) (upd mk H0 (markN (told.length + 1))) := by
  have hk : (o.b % 3).toNat < 3 := by omega
  have hkn : (o.b % 3).toNat < qc.nc := by rw [qc_nc]; exact hk
  have T1 := took6_begin h o
  obtain ⟨w1, hw1⟩ : ∃ w1, w1 = w.alloc (.cells o.cells 64) := ⟨_, rfl⟩
  rw [<- hw1] at T1
  have WC := withinI o.b 3 ok.b (by omega) (by omega)
  rw [show ((3 : Nat) : Int) = 3 from rfl] at WC
  have TC := takeYes w1 W.L qc s bs T1.wat.set T1.wat.good _ hkn s1 hr l p hp
  rw [<- h0] at TC
  have okc := T1.wat.okc
  have g1 := (room_good okc T1.wat.good hkn hr).1
  obtain ⟨r1, hr1, Rl1⟩ := (Rl.room okc T1.wat.good (k := (o.b % 3).toNat) hkn).2 s1 hr
  obtain ⟨l', j, hj, hx, Rl2⟩ := Rl1.take okc g1 hkn hp
  generalize hkE : (o.b % 3).toNat = k at *
  have RK := fun w2 M' (R : RSetAt w2 M' qc r) => rtakeYes w2 M' qc r R hlen k hkn (by rw [Rl.row_len hkn]; exact hfr) r1 hr1 l' j _ hj hx (Nat.le_of_lt (Nat.lt_of_lt_of_le (Rl1.pl j _ hx) (by decide))) (g1.gen _ _)
  have hnm : (RC.name ⟨p, k, s1.gens (p / qc.cf.ps) (p % qc.cf.ps / qc.cf.sz k), false, false⟩) = H0 := h0.symm
  have hcl : (rtake r1 k j).ch.length <= r.ch.length + 16384 := by
    have := rroom_len hk hr1
    unfold rtake
    simp only [List.length_modify]
    omega
  obtain ⟨x0, y0, y2, y3, y4⟩ := T1.cells
  have xb : w1.cell? ⟨w.heap.size, 2, none⟩ = some (.int .i64 o.b) := T1.op.cell 2
  have n1 := fun w => numC6 w 0
  have H9 : (takeS qc.cf s1 k p) = takeS qc.cf s1 k p := rfl
  replace TC := Lib.hid TC
  replace WC := Lib.hid WC
  replace T1 := Lib.hid T1
  replace hnm := Lib.hid hnm
  replace Rl2 := Lib.hid Rl2
  replace hcl := Lib.hid hcl
  replace hp := Lib.hid hp
  replace hr := Lib.hid hr
  replace h0 := Lib.hid h0
  replace hb := Lib.hid hb
  replace htl := Lib.hid htl
  replace hkn := Lib.hid hkn
  replace hal := Lib.hid hal
  replace ed := Lib.hid ed
  replace hkE := Lib.hid hkE
  clear Rl Rl1 hj hx hr1 g1 okc hlen hfr H9 hk
  replace RK := Lib.hid RK
  have d1 : decide (o.dO = 2) = false := decide_eq_false hd
  have d2 : (o.dO == 2) = false := by rw [beq_eq_false_iff_ne]; exact hd
  unfold Op6.cells at hw1 ⊢
  replace hw1 := Lib.hid hw1
  clear hd
  generalize hN : w.heap.size = N0 at *
  replace hN := Lib.hid hN
  go_enter Tryz.func42, Tryz.ntmps42
  go_upto_region 1 with fail
  rw [hN.out, <- hw1.out]
  go_wp2_with fail
  refine (WC.out _).mono ?_
  rintro e w' ⟨rfl, rfl⟩
  go_wp2_with fail
  refine TC.out.mono ?_
  rintro e w2 ⟨rfl, L', eg, M2, We2⟩
  have T2 := T1.out.take (H0 := H0) hkn.out hr.out hp.out h0.out _ eg hb.out M2 We2
  obtain ⟨x0, y0, y2, y3, y4⟩ := T2.cells
  have RC2 := RK.out w2 W.M T2.wat.ref
  rw [hnm.out] at RC2
  replace RC2 := Lib.hid RC2
  replace T2 := Lib.hid T2
  clear TC WC T1 M2 We2 RK hw1 eg
  go_wp2_with fail
  refine RC2.out.mono ?_
  rintro e w3 ⟨rfl, M', R3, We3⟩
  have T3 := T2.out.rtake R3 We3
  obtain ⟨x0, y0, y2, y3, y4⟩ := T3.cells
  have wb := We3.b
  obtain ⟨A, cp, hv⟩ := own_is T3.wat.told
  have own := T3.wat.told
  have fz := T3.wat.own.frozen 6
  have z1 : ∀ o, (w3.alloc o).frozen? ⟨W.b, 6, none⟩ = false := fun o => (T3.wat.own.alloc o).frozen 6
  simp only at hv y4 own
  rw [hv] at y4 own
  replace T3 := Lib.hid T3
  replace hv := Lib.hid hv
  replace own := Lib.hid own
  clear RC2 T2 R3 We3 wb
  go_wp2_with (first | (go_at_call 14; refine (n1 _).mono ?_; rintro e w' ⟨rfl, rfl⟩) | (at_builtin; refine wpList_app rfl _ _ _ rfl eiL 0 _ _ _ rfl (own.out.alloc _) (w3.heap.size + 1) (some ⟨w3.heap.size, 0, none⟩) 1 1 [.int .u64 (H0 : Int)] rfl ?c1 ?c2 ?c3 ?c4 ?c5 ?_))
  case c1 => exact reads_v w3 _ _
  case c2 => intro u hu; rw [List.mem_singleton] at hu; subst hu; rfl
  case c3 => have := htl.out; unfold maxLen; omega
  case c4 => have := htl.out; omega
  case c5 => exact Nat.zero_le _
  intro VV w6 own6 hg6 hat6
  obtain ⟨A6, cp6, rfl⟩ := own_is own6
  have o6 : Only (fun k => W.vT.ownBlock = some k) w3 w6 := ((Only.refl _ w3).alloc _).grown hg6 (fun k e _ => by rw [hv.out]; exact e)
  have hat : ∀ b, (Value.slice A6 (told.length + 1) cp6).ownBlock = some b -> W.vT.ownBlock = some b \/ w3.heap.size <= b := fun b e => by
    rcases hat6 with h6 | h6
    · rw [hv.out, <- h6]; exact .inl e
    · rw [h6] at e
      injection e with e
      exact .inr (by omega)
  have T6 := T3.out.tell o6 own6 hat
  have B6 : Blk w6 W.b 36 _ := (o6.block _ T3.out.wat.own.lt T3.out.wat.tb).trans T3.out.wat.own
  have r1 := B6.cell 6
  have r2 := B6.frozen 6
  obtain ⟨x0, -, -, -, -⟩ := T6.cells
  simp only at x0
  obtain ⟨-, y0, -, y3, y4⟩ := T6.cells
  simp only at y0 y3 y4
  obtain ⟨n, hn⟩ : ∃ n, n = told.length + 1 := ⟨_, rfl⟩
  rw [<- hn] at T6 y0 y3 y4 x0 ⊢
  obtain ⟨w7, hw7⟩ : ∃ w7, w7 = w6.setCell ⟨W.b, 6, none⟩ (.slice A6 n cp6) := ⟨_, rfl⟩
  rw [<- hw7] at T6 x0 y0 y3 y4
  replace T6 := Lib.hid T6
  replace B6 := Lib.hid B6
  replace hn := Lib.hid hn
  replace hw7 := Lib.hid hw7
  clear own6 hg6 hat6 o6 hat z1 fz own T3 hv
  go_upto_region 9 with fail
  rw [<- hw7.out]
  clear hw7 r1 r2 B6
  go_upto_region 12 with fail
  have hn9 : n <= 1073741824 := by have := hn.out; have := htl.out; omega
  obtain ⟨nq, hnq⟩ : ∃ nq, nq = n / 26 := ⟨_, rfl⟩
  obtain ⟨na, hna⟩ : ∃ na, na = n % 26 := ⟨_, rfl⟩
  obtain ⟨nb, hnb⟩ : ∃ nb, nb = nq % 26 := ⟨_, rfl⟩
  obtain ⟨nm, hnm2⟩ : ∃ nm, nm = markN n := ⟨_, rfl⟩
  obtain ⟨on, hon⟩ : ∃ on, on = oddB nm := ⟨_, rfl⟩
  have MF := Lib.hid (fun w => marksF n (by omega) w)
  rw [<- hnm2] at MF
  have m1 : ((n : Int)).tmod 26 = (na : Int) := by rw [hna]; exact tmodN n 26
  have m2 : ((n : Int)).tdiv 26 = (nq : Int) := by rw [hnq]; exact tdivN n 26
  have m3 : ((nq : Int)).tmod 26 = (nb : Int) := by rw [hnb]; exact tmodN nq 26
  have i1 : na < 26 := by omega
  have i2 : nb < 26 := by omega
  have i3 : nm < 16 := by rw [hnm2]; exact Nat.mod_lt _ (by omega)
  have q0 : IntKind.i64.wrap (nq : Int) = (nq : Int) := IntWalk.i64_in _ (by omega)
  have q1 : IntKind.i64.wrap (97 + (na : Int)) = ((97 + na : Nat) : Int) := by rw [IntWalk.i64_in _ (by omega)]; omega
  have q2 : IntKind.i64.wrap (97 + (nb : Int)) = ((97 + nb : Nat) : Int) := by rw [IntWalk.i64_in _ (by omega)]; omega
  obtain ⟨n2, hn2⟩ : ∃ n2, n2 = nm % 2 := ⟨_, rfl⟩
  have m6 : ((nm : Int)).tmod 2 = (n2 : Int) := by rw [hn2]; exact tmodN nm 2
  have m7 : ((n2 : Int) == 1) = on := by
    rw [hon]; unfold oddB; rw [<- hn2]
    have : n2 = 0 \/ n2 = 1 := by omega
    rcases this with e | e <;> rw [e] <;> rfl
  have m8 : decide ((n2 : Int) = 1) = on := by
    rw [hon]; unfold oddB; rw [<- hn2]
    have : n2 = 0 \/ n2 = 1 := by omega
    rcases this with e | e <;> rw [e] <;> rfl
  replace hnq := Lib.hid hnq
  replace hna := Lib.hid hna
  replace hnb := Lib.hid hnb
  replace hnm2 := Lib.hid hnm2
  replace hon := Lib.hid hon
  replace hn2 := Lib.hid hn2
  go_upto_region 13 with (first | (go_at_call 83; refine (MF.out _).mono ?_; rintro e w' ⟨rfl, rfl⟩) | fail)
  obtain ⟨w8, hw8⟩ : ∃ w8, w8 = (w7.alloc (.cells #[.int .u8 (97 + (na : Int)), .int .u8 (97 + (nb : Int))] 5)).alloc (.cells #[.slice (some ⟨w7.heap.size, 0, none⟩) 2 2, .slice none 0 0, .int .u64 0, .int .i64 0, .int .i64 0, .int .u64 0, .int .i64 4, .int .i64 (nm : Int)] 151) := ⟨_, rfl⟩
  rw [<- hw8]
  have K8 : Blk w8 w7.heap.size 5 #[.int .u8 (97 + (na : Int)), .int .u8 (97 + (nb : Int))] := by rw [hw8]; exact (Blk.new w7 _ _).alloc _
  have I8 : Blk w8 (w7.heap.size + 1) 151 #[.slice (some ⟨w7.heap.size, 0, none⟩) 2 2, .slice none 0 0, .int .u64 0, .int .i64 0, .int .i64 0, .int .u64 0, .int .i64 4, .int .i64 (nm : Int)] := by rw [hw8]; exact blk_new' (World.size_alloc _ _)
  have b8 : Below w7.heap.size w7 w8 := by rw [hw8]; exact ((Below.refl _ w7).alloc (Nat.le_refl _) _).alloc (by rw [World.size_alloc]; omega) _
  have T8 := T6.out.step b8
  have LC := Lib.hid (lay6C w8 W.R _ _ laid _ T8.wat.doc hla H0)
  obtain ⟨-, y0, -, y3, -⟩ := T8.cells
  simp only at y0 y3
  have wl : ∀ i b, W6.foot ⟨W.b, L', M', W.gq, W.gl, W.R, .slice A6 n cp6, W.gm, W.dm, W.vA, W.hot, W.warm⟩ qc (takeS qc.cf s1 k p) i b -> b < w7.heap.size := fun i b hb => T6.out.wat.lt i b hb
  replace wl := Lib.hid wl
  replace T8 := Lib.hid T8
  replace K8 := Lib.hid K8
  replace I8 := Lib.hid I8
  clear hw8 b8 T6 m1 m2 m3 q0 q1 q2 x0 y4 xb y2
  go_wp2_with fail
  refine LC.out.mono ?_
  rintro e w9 ⟨rfl, R', eb, W9, D9⟩
  have T9 := T8.out.doc_ D9 eb W9
  have nf : ∀ b, w7.heap.size <= b -> ¬ F6 W.R (3 * qc.nc) b := fun b hb hf => by have := wl.out .doc b hf; omega
  have K9 : Blk w9 w7.heap.size 5 _ := (W9.only.block _ K8.out.lt (nf _ (by omega))).trans K8.out
  have I9 : Blk w9 (w7.heap.size + 1) 151 _ := (W9.only.block _ I8.out.lt (nf _ (by omega))).trans I8.out
  have d7 : dmb < w7.heap.size := wl.out .act dmb (.inl ed.out)
  obtain ⟨-, y5⟩ := T9.wat.cL
  simp only at y5
  rw [ed.out] at y5
  unfold ptrO at y5
  have wl9 : ∀ i b, W6.foot ⟨W.b, L', M', W.gq, W.gl, R', .slice A6 n cp6, W.gm, W.dm, W.vA, W.hot, W.warm⟩ qc (takeS qc.cf s1 k p) i b -> i ≠ .doc -> b < w7.heap.size := fun i b hb hi => by
    cases i with
    | doc => exact absurd rfl hi
    | set => exact wl.out .set b hb
    | ref => exact wl.out .ref b hb
    | queue => exact wl.out .queue b hb
    | own => exact wl.out .own b hb
    | lru => exact wl.out .lru b hb
    | act => exact wl.out .act b hb
  replace T9 := Lib.hid T9
  replace K9 := Lib.hid K9
  replace I9 := Lib.hid I9
  replace wl9 := Lib.hid wl9
  clear T8 LC K8 I8 D9 W9 nf y3 wl y0
  go_upto_region 14 with fail
  go_cut [] from 81 to 90 (fun wx => ∃ (A7 : Option Addr) (cp7 : Nat), Hid (Took6 N N0 w wx W s ⟨W.b, L', M', W.gq, W.gl, R', .slice A6 n cp6, W.gm, W.dm, .slice A7 (actN H0 on act).length cp7, W.hot, W.warm⟩ (takeS qc.cf s1 k p) (takeB bs p (s1.gens (p / qc.cf.ps) (p % qc.cf.ps / qc.cf.sz k))) (upd Z H0 none) Ls Ld (rtake r1 k j) (laidN H0 laid) (told ++ [H0]) (actN H0 on act) mk o) /\
    Hid (Blk wx w7.heap.size 5 #[.int .u8 (97 + (na : Int)), .int .u8 (97 + (nb : Int))]) /\ Hid (Blk wx (w7.heap.size + 1) 151 #[.slice (some ⟨w7.heap.size, 0, none⟩) 2 2, .slice none 0 0, .int .u64 0, .int .i64 0, .int .i64 0, .int .u64 0, .int .i64 4, .int .i64 (nm : Int)]))
  case first =>
    have bd : Below w9.heap.size w9 w9.drew := below_drewN (Below.refl _ _) 1
    obtain ⟨w10, hw10⟩ : ∃ w10, w10 = w9.drew := ⟨_, rfl⟩
    rw [<- hw10] at bd
    have T10 := T9.out.step bd
    have K10 := K9.out.below bd K9.out.lt
    have I10 := I9.out.below bd I9.out.lt
    obtain ⟨Aa, cpa, hva⟩ := own_is T10.wat.row
    have rowA := T10.wat.row
    have D10 := T10.wat.dlr dmb ed.out
    unfold W6.dc at D10
    simp only at hva rowA D10
    rw [hva] at rowA D10
    have SC := setA w10 dmb 0 cpa Aa _ _ _ act D10 rowA hal.out H0 on
    have y5a := D10.lt
    rw [hw10] at SC
    replace SC := Lib.hid SC
    replace T10 := Lib.hid T10
    replace K10 := Lib.hid K10
    replace I10 := Lib.hid I10
    clear D10 rowA hva
    go_region_law ((go_simp; first | (go_at_call 83; refine (MF.out _).mono ?_; rintro e w' ⟨rfl, rfl⟩) | (go_at_call 68; refine SC.out.mono ?_; rintro e w11 ⟨rfl, wz, A7, cp7, rfl, bz, oz⟩)))
    all_goals
      rw [<- hw10] at bz oz
      have hat : ∀ b, (Value.slice A7 (actN H0 on act).length cp7).ownBlock = some b -> w10.heap.size <= b := fun b e => own_base oz e
      have oz0 := own_weak oz (Nat.zero_le _)
      have T11 := Lib.hid (T10.out.acts ed.out bz oz0 hat)
      have s10 := bd.size
      have lt9 : w7.heap.size + 1 < w10.heap.size := I10.out.lt
      have oc := only_cell1 (S := (· = dmb)) wz dmb 3 (.slice A7 (actN H0 on act).length cp7) rfl
      have K11 := Lib.hid (show Blk (wz.setCell ⟨dmb, 3, none⟩ (.slice A7 (actN H0 on act).length cp7)) w7.heap.size 5 _ from (oc.block _ (by have := bz.size; omega) (by omega)).trans (K10.out.below bz K10.out.lt))
      have I11 := Lib.hid (show Blk (wz.setCell ⟨dmb, 3, none⟩ (.slice A7 (actN H0 on act).length cp7)) (w7.heap.size + 1) 151 _ from (oc.block _ (by have := bz.size; omega) (by omega)).trans (I10.out.below bz I10.out.lt))
      clear bz oz oz0 hat oc
      go_wp2_with fail
      go_meet
      exact ⟨A7, cp7, T11, K11, I11⟩
  case rest =>
    obtain ⟨A7, cp7, T11, K11, I11⟩ := hcut
    rename World => w11
    clear T9 K9 I9 y5
    have z0 := I11.out.cell 0
    have z1 := I11.out.cell 1
    have z2 := I11.out.cell 2
    have z3 := I11.out.cell 3
    have z4 := I11.out.cell 4
    have z5 := I11.out.cell 5
    have z6 := I11.out.cell 6
    have z7 := I11.out.cell 7
    have eLa : ∀ b, w7.heap.size <= b -> b ≠ L'.ha := fun b hb e => by have := wl9.out .set b (by rw [e]; exact ⟨.bytes, rfl⟩) (by simp); omega
    obtain ⟨-, y0, -, -, -⟩ := T11.out.cells
    simp only at y0
    have hgd := h.good
    have okc := T11.out.wat.okc
    obtain ⟨⟨fi, fx, f0, -⟩, -, -⟩ := took_find okc hgd hkn.out hr.out hp.out h0.out
    have hfit : p + 64 <= bs.length := by
      obtain ⟨t0, -⟩ := Tkn.of okc T11.out.wat.good f0
      obtain ⟨a1, a2, a3, a4, a5⟩ := t0.fit okc
      have := (okc.sz _ t0.kN).1
      rw [hb.out, Nat.mul_comm]
      omega
    have bd : Below w11.heap.size w11 w11.drew := below_drewN (Below.refl _ _) 1
    have T12 := T11.out.step bd
    have YC := layItemC T12.wat.q T12.wat.mks f0 (upd_at _ _ _) _ (take_gen (by omega)) i1 i2 i3 (K11.out.below bd K11.out.lt) (eLa _ (Nat.le_refl _))
    have tl : (takeB bs p (s1.gens (p / qc.cf.ps) (p % qc.cf.ps / qc.sz k))).length = bs.length := take_len (by omega)
    replace tl := Lib.hid tl
    replace YC := Lib.hid YC
    replace T12 := Lib.hid T12
    clear T11 K11 I11 f0 hgd okc hfit eLa bd
    go_upto_region 15 with fail
    go_region_law ((go_simp; first | (go_at_call 85; refine YC.out.mono ?_; rintro e wz ⟨rfl, oz, bz, lz, Qz, Mz⟩) | (go_at_call 14; refine (n1 _).mono ?_; rintro e w' ⟨rfl, rfl⟩)))
    all_goals
      have TT := T12.out.laid oz Qz Mz
      replace TT := Lib.hid TT
      go_wp2
      go_ret
      exact ⟨rfl, TT.out.2.1, ⟨W.b, L', M', W.gq, W.gl, R', .slice A6 n cp6, W.gm, W.dm, .slice A7 (actN H0 on act).length cp7, W.hot, W.warm⟩, ⟨rfl, rfl, rfl, rfl, rfl⟩, TT.out.2.2, _, Rl2.out, hcl.out, bz, lz.trans tl.out, by have := TT.out.1; rw [upd_upd] at this; rw [<- hn.out, <- hnm2.out, <- hon.out]; exact this⟩
end
theorem qc_cells : qc.cells = #[.int .i64 4096, .int .i64 4, .int .i64 200, .int .i64 64, .int .i64 256, .int .i64 0, .int .i64 0] := rfl
theorem qc_rcells : qc.rcells = #[.int .i64 4096, .int .i64 4, .int .i64 200, .int .i64 64, .int .i64 256] := rfl
set_option maxHeartbeats 1600000 in
theorem chunksC (w : World) : Calls Tryz.prog 11 #[] w fun e w' => Below w.heap.size w w' /\ ∃ W : W6, e = .returned (.pointer (some ⟨W.b, 0, none⟩)) /\ W.gm = none /\ W.dm = none /\ W.vA = .slice none 0 0 /\ WAt w.heap.size w' W qc (new0 qc.cf) (List.replicate (qc.cf.ps * qc.cf.np) 0) (fun _ => none) (fun _ _ => []) (fun _ _ => []) rnew0 [] [] [] (fun _ => 0) := by
 have RC : ∀ w, _ := fun w => refNewC w qc
 have NC := Cls.newC w qc
 rw [qc_cells] at NC
 simp only [qc_rcells] at RC
 have hr : refN qc = 0 := qc_ref
 have hnc : qc.nc = 3 := qc_nc
 have hnp : qc.cf.np = 4 := qc_np
 generalize qc = c at *
 have n1 := fun w => numC6 w 0
 replace NC := Lib.hid NC
 replace RC := Lib.hid RC
 go_enter Tryz.func11, Tryz.ntmps11
 go_wp2_with fail
 refine NC.out.mono ?_
 rintro e w3 ⟨b3, ⟨h0, -⟩ | ⟨-, L, rfl, M, F⟩⟩
 ·exact absurd hr h0
 have l23 := b3.size
 have b13 := b3
 have RC3 := Lib.hid (RC.out w3)
 replace b13 := Lib.hid b13
 replace M := Lib.hid M
 replace F := Lib.hid F
 clear NC RC b3
 go_wp2_with fail
 refine RC3.out.mono ?_
 rintro e w4 ⟨b4, ⟨h0, -⟩ | ⟨-, r2, rfl, R⟩⟩
 ·exact absurd hr h0
 have M4 := M.out.kept fun d hd => b4.block d (M.out.lt hd)
 have l34 := b4.size
 have b14 := b13.out.trans (b4.mono (B' := w.heap.size) (by omega))
 obtain ⟨M2, eb, RS4, F2⟩ := RSetAt.new hr (by omega) (by omega) R
 have FM : ∀ d, Foot L c (new0 c.cf) d -> w.heap.size <= d /\ d < w3.heap.size := fun d hd => ⟨F.out d hd, M.out.lt hd⟩
 have QC := Lib.hid (newC w4 L c _ _ M4)
 subst eb
 replace b14 := Lib.hid b14
 replace M4 := Lib.hid M4
 replace RS4 := Lib.hid RS4
 replace F2 := Lib.hid F2
 replace FM := Lib.hid FM
 clear RC3 b4 b13 M F R
 go_wp2_with (first | (go_at_call 14; refine (n1 _).mono ?_; rintro e w' ⟨rfl, rfl⟩) | (go_at_call 40; refine QC.out.mono ?_; rintro e w5 ⟨gq, gl, rfl, b5, g1, g2, Q5⟩) | fail)
 have RS5 := RS4.out.kept fun d hd => b5.block d (RS4.out.lt hd)
 have M5 := M4.out.kept fun d hd => b5.block d (M4.out.lt hd)
 have l45 := b5.size
 have b15 := b14.out.trans (b5.mono (B' := w.heap.size) (by omega))
 have NC6 := Lib.hid (new6C w5 M2 c _ RS5 (by omega))
 have FR : ∀ d, RFoot M2 c d -> w3.heap.size <= d /\ d < w4.heap.size := fun d hd => ⟨F2.out d hd, RS4.out.lt hd⟩
 have lq := Q5.ltq
 have ll := Q5.ltl
 replace b15 := Lib.hid b15
 replace RS5 := Lib.hid RS5
 replace M5 := Lib.hid M5
 replace FR := Lib.hid FR
 replace Q5 := Lib.hid Q5
 clear QC b14 b5 M4 RS4 F2
 go_wp2_with fail
 refine NC6.out.mono ?_
 rintro e w6 ⟨R, rfl, b6, F6', D6⟩
 have l56 := b6.size
 have RS6 := RS5.out.kept fun d hd => b6.block d (RS5.out.lt hd)
 have M6 := M5.out.kept fun d hd => b6.block d (M5.out.lt hd)
 have Q6 := Q5.out.below b6
 have b16 := b15.out.trans (b6.mono (B' := w.heap.size) (by omega))
 have FD : ∀ d, F6 R (3 * c.nc) d -> w5.heap.size <= d /\ d < w6.heap.size := fun d hd => ⟨F6' d hd, D6.lt hd⟩
 replace b16 := Lib.hid b16
 replace RS6 := Lib.hid RS6
 replace M6 := Lib.hid M6
 replace Q6 := Lib.hid Q6
 replace D6 := Lib.hid D6
 replace FD := Lib.hid FD
 clear NC6 b15 b6 RS5 M5 Q5 F6'
 go_wp2_with fail
 go_ret
 have a6 : ∀ o, Below w6.heap.size w6 (w6.alloc o) := fun o => (Below.refl _ _).alloc (Nat.le_refl _) o
 refine ⟨b16.out.alloc (by omega) _, ⟨w6.heap.size, L, M2, gq, gl, R, .slice none 0 0, none, none, .slice none 0 0, 0, 0⟩, rfl, rfl, rfl, rfl, ?_⟩
 refine ⟨QW.new (M6.out.alloc _) (Q6.out.below (a6 _)) (fun h => by have := FM.out gq h; omega) (fun h => by have := FM.out gl h; omega), RS6.out.alloc _, D6.out.below (a6 _), Blk.new w6 _ _, ⟨rfl, .inl ⟨rfl, rfl⟩⟩, ?_, ?_, ?_, fun g e => (by cases e), fun d e => (by cases e), ⟨rfl, .inl ⟨rfl, rfl⟩⟩, fun d e => (by cases e), fun H i x p _ e => (by cases e)⟩
 ·have key : ∀ i b, W6.foot ⟨w6.heap.size, L, M2, gq, gl, R, .slice none 0 0, none, none, .slice none 0 0, 0, 0⟩ c (new0 c.cf) i b -> (i = .set /\ w.heap.size <= b /\ b < w3.heap.size) \/ (i = .ref /\ w3.heap.size <= b /\ b < w4.heap.size) \/ (i = .queue /\ w4.heap.size <= b /\ b < w5.heap.size) \/ (i = .doc /\ w5.heap.size <= b /\ b < w6.heap.size) \/ (i = .own /\ b = w6.heap.size) := by
   intro i b hb
   cases i with
   | set => exact .inl ⟨rfl, FM.out b hb⟩
   | ref => exact .inr (.inl ⟨rfl, FR.out b hb⟩)
   | queue => exact .inr (.inr (.inl ⟨rfl, by have hb : b = gq \/ b = gl := hb; omega⟩))
   | doc => exact .inr (.inr (.inr (.inl ⟨rfl, FD.out b hb⟩)))
   | own => exact .inr (.inr (.inr (.inr ⟨rfl, by
     rcases hb with hb | hb
     ·exact hb
     ·cases hb⟩)))
   | lru => cases hb
   | act => rcases hb with hb | hb <;> cases hb
  intro i j b hi hj
  rcases key i b hi with ⟨rfl, h1⟩ | ⟨rfl, h1⟩ | ⟨rfl, h1⟩ | ⟨rfl, h1⟩ | ⟨rfl, h1⟩ <;> rcases key j b hj with ⟨rfl, h2⟩ | ⟨rfl, h2⟩ | ⟨rfl, h2⟩ | ⟨rfl, h2⟩ | ⟨rfl, h2⟩ <;> first | rfl | (exfalso; omega)
 ·intro h; cases h
 ·intro i b hb
  cases i with
  | set => have := FM.out b hb; omega
  | ref => have := FR.out b hb; omega
  | queue =>
   have hb : b = gq \/ b = gl := hb
   omega
  | doc => have := FD.out b hb; omega
  | own =>
   rcases hb with rfl | hb
   ·show w.heap.size <= w6.heap.size
    omega
   ·cases hb
  | lru => cases hb
  | act => rcases hb with hb | hb <;> cases hb
end Go.Proofs.YtngehaiigbbknaaGreat.Que
