/-
  ArenaExact's pair: the program's arena, the document's, and what is held; what each call leaves of them.
-/
import Derived.Test.YtnjobnccknpaeaaHeldAdd2
import Derived.Test.YtnjobnccknpaeaaArenaRef5
import Derived.Test.YtnjobnccknpaeaaArenaGetD
import Derived.Test.YtnjobnccknpaeaaArenaWithin
namespace Go.Proofs.Ytnjobnccknpaeaa.Exact
open Go.RowKit Base Arena Held
set_option linter.unusedVariables false

/-- Block p is a pair: the program's arena with the bytes la, the document's with lr, and what is held. -/
structure Pair2 (w : World) (p N ga ha gr hr hh page : Nat) (la lr : List UInt8) (G : Nat → Prop) : Prop where
  head : w.heap[p]? = some (.cells #[.pointer (some ⟨ga, 0, none⟩), .pointer (some ⟨gr, 0, none⟩), .pointer (some ⟨hh, 0, none⟩)] 70 (0, 0))
  a : At w ga ha page la
  r : AtR w gr hr page lr
  k : HeldOk w hh N G
  d : ha ≠ hr ∧ p ≠ ha ∧ p ≠ hr ∧ ga ≠ hr ∧ gr ≠ ha
  nG : ¬ G p ∧ ¬ G ga ∧ ¬ G ha ∧ ¬ G gr ∧ ¬ G hr
  lo : N ≤ p ∧ N ≤ ga ∧ N ≤ ha ∧ N ≤ gr ∧ N ≤ hr
/-- Its blocks. -/
def PF (p ga ha gr hr : Nat) (G : Nat → Prop) (b : Nat) : Prop := b = p ∨ b = ga ∨ b = ha ∨ b = gr ∨ b = hr ∨ G b
section
variable {w w' : World} {p N ga ha gr hr hh page : Nat} {la lr : List UInt8} {G : Nat → Prop}
theorem Pair2.lt (P : Pair2 w p N ga ha gr hr hh page la lr G) : ∀ b, PF p ga ha gr hr G b → N ≤ b ∧ b < w.heap.size := by
  obtain ⟨l1, l2, l3, l4, l5⟩ := P.lo
  rintro b (rfl | rfl | rfl | rfl | rfl | h)
  · exact ⟨l1, heap_lt P.head⟩
  · exact ⟨l2, heap_lt P.a.head⟩
  · exact ⟨l3, P.a.bytes.lt⟩
  · exact ⟨l4, heap_lt P.r.head⟩
  · exact ⟨l5, P.r.bytes.lt⟩
  · exact P.k.lt b h
theorem Pair2.keep (P : Pair2 w p N ga ha gr hr hh page la lr G) (hk : ∀ b, PF p ga ha gr hr G b → w'.heap[b]? = w.heap[b]?) : Pair2 w' p N ga ha gr hr hh page la lr G :=
  ⟨(hk p (.inl rfl)).trans P.head, P.a.keep (hk _ (.inr (.inl rfl))) (hk _ (.inr (.inr (.inl rfl)))), P.r.keep (hk _ (.inr (.inr (.inr (.inl rfl))))) (hk _ (.inr (.inr (.inr (.inr (.inl rfl)))))), P.k.keep fun b hb => hk b (.inr (.inr (.inr (.inr (.inr hb))))), P.d, P.nG, P.lo⟩
theorem Pair2.below (P : Pair2 w p N ga ha gr hr hh page la lr G) (hb : Below w.heap.size w w') : Pair2 w' p N ga ha gr hr hh page la lr G := P.keep fun b h => hb.block b (P.lt b h).2
theorem Pair2.drewN (P : Pair2 w p N ga ha gr hr hh page la lr G) (n : Nat) : Pair2 (w.drewN n) p N ga ha gr hr hh page la lr G := P.keep fun _ _ => rfl
theorem Pair2.stepA (P : Pair2 w p N ga ha gr hr hh page la lr G) {la' : List UInt8} (a' : At w' ga ha page la') (o : Only (· = ha) w w') : Pair2 w' p N ga ha gr hr hh page la' lr G := by
  obtain ⟨d1, d2, d3, d4, d5⟩ := P.d
  obtain ⟨n1, n2, n3, n4, n5⟩ := P.nG
  exact ⟨(o.block p (heap_lt P.head) d2).trans P.head, a', P.r.only o d5 (fun h => d1 h.symm), P.k.keep fun b hb => o.block b (P.k.lt b hb).2 (fun h => n3 (h ▸ hb)), P.d, P.nG, P.lo⟩
theorem Pair2.stepR (P : Pair2 w p N ga ha gr hr hh page la lr G) {lr' : List UInt8} (r' : AtR w' gr hr page lr') (o : Only (· = hr) w w') : Pair2 w' p N ga ha gr hr hh page la lr' G := by
  obtain ⟨d1, d2, d3, d4, d5⟩ := P.d
  obtain ⟨n1, n2, n3, n4, n5⟩ := P.nG
  exact ⟨(o.block p (heap_lt P.head) d3).trans P.head, P.a.only o d4 d1, r', P.k.keep fun b hb => o.block b (P.k.lt b hb).2 (fun h => n5 (h ▸ hb)), P.d, P.nG, P.lo⟩
theorem Pair2.cells (P : Pair2 w p N ga ha gr hr hh page la lr G) : w.cell? ⟨p, 0, none⟩ = some (.pointer (some ⟨ga, 0, none⟩)) ∧ w.cell? ⟨p, 1, none⟩ = some (.pointer (some ⟨gr, 0, none⟩)) ∧ w.cell? ⟨p, 2, none⟩ = some (.pointer (some ⟨hh, 0, none⟩)) :=
  ⟨by rw [cell_of_row w p 0 _ _ (0, 0) P.head]; rfl, by rw [cell_of_row w p 1 _ _ (0, 0) P.head]; rfl, by rw [cell_of_row w p 2 _ _ (0, 0) P.head]; rfl⟩

/-- The bytes with q laid at a place, if there is one. -/
noncomputable def layL (page : Nat) (l : List UInt8) (at_ n : Int) (q : List UInt8) : List UInt8 := if there page l.length at_ n = true then lay l at_.toNat q else l
/-- The error's number. -/
noncomputable def cd (page len : Nat) (at_ n : Int) : Int := if there page len at_ n = true then 0 else 20
theorem there_yes {page len : Nat} {at_ n : Int} (h : There page len at_ n) : there page len at_ n = true := decide_eq_true h
theorem there_no {page len : Nat} {at_ n : Int} (h : ¬ There page len at_ n) : ¬ there page len at_ n = true := fun hc => h (of_decide_eq_true hc)
theorem layL_len {page : Nat} {l q : List UInt8} {at_ n : Int} (hq : q.length = n.toNat) : (layL page l at_ n q).length = l.length := by
  unfold layL
  split
  · rename_i h
    obtain ⟨h1, h2, h3, -⟩ : There page l.length at_ n := of_decide_eq_true h
    exact lay_len _ _ _ (by rw [hq]; omega)
  · rfl

theorem putJ (P : Pair2 w p N ga ha gr hr hh page la lr G) (k : Nat) (hk : Wide k) (own : Bool) (at_ : Int) (hat : inI64 at_) (v : Nat) (hv : v < 18446744073709551616) :
    Calls Try.prog 13 #[.pointer (some ⟨ga, 0, none⟩), .int .i64 at_, .int .i64 (k : Int), .int .u64 (v : Int), .bool own] w fun e w' =>
      e = .returned (.int .i64 (cd page la.length at_ k)) ∧ Pair2 w' p N ga ha gr hr hh page (layL page la at_ k (putB k v)) lr G ∧ Only (· = ha) w w' := by
  by_cases hy : There page la.length at_ k
  · unfold cd layL
    rw [if_pos (there_yes hy), if_pos (there_yes hy)]
    refine (putDYes k hk own w ga ha page la P.a at_ v hv hy).mono ?_
    rintro e w' ⟨rfl, a', o, -⟩
    exact ⟨rfl, P.stepA a' o, o⟩
  · unfold cd layL
    rw [if_neg (there_no hy), if_neg (there_no hy)]
    refine (putDNo k hk own w ga ha page la P.a at_ hat v hv hy).mono ?_
    rintro e w' ⟨rfl, m, rfl⟩
    exact ⟨rfl, P.drewN m, (Only.refl _ _).drewN m⟩
theorem refPutJ (P : Pair2 w p N ga ha gr hr hh page la lr G) (k : Nat) (hk : Wide k) (at_ : Int) (hat : inI64 at_) (v : Nat) (hv : v < 18446744073709551616) :
    Calls Try.prog 58 #[.pointer (some ⟨gr, 0, none⟩), .int .i64 at_, .int .i64 (k : Int), .int .u64 (v : Int)] w fun e w' =>
      e = .returned (.int .i64 (cd page lr.length at_ k)) ∧ Pair2 w' p N ga ha gr hr hh page la (layL page lr at_ k (putB k v)) G ∧ Only (· = hr) w w' := by
  have hk8 : k ≤ 8 := by unfold Wide at hk; omega
  by_cases hy : There page lr.length at_ k
  · unfold cd layL
    rw [if_pos (there_yes hy), if_pos (there_yes hy)]
    refine (refPutYes w gr hr page lr P.r at_ k v hv hk8 hy).mono ?_
    rintro e w' ⟨rfl, a', o, -⟩
    exact ⟨rfl, P.stepR a' o, o⟩
  · unfold cd layL
    rw [if_neg (there_no hy), if_neg (there_no hy)]
    refine (refPutNo w gr hr page lr P.r at_ k v hat ⟨by omega, by omega⟩ hy).mono ?_
    rintro e w' ⟨rfl, m, rfl⟩
    exact ⟨rfl, P.drewN m, (Only.refl _ _).drewN m⟩
theorem writeJ (P : Pair2 w p N ga ha gr hr hh page la lr G) (at_ : Int) (hat : inI64 at_) (A : Option Addr) (c B : Nat) (q : List UInt8) (hq : Bytes w B A q) (hql : q.length ≤ maxLen) :
    Calls Try.prog 18 #[.pointer (some ⟨ga, 0, none⟩), .int .i64 at_, .slice A q.length c] w fun e w' =>
      e = .returned (.int .i64 (cd page la.length at_ q.length)) ∧ Pair2 w' p N ga ha gr hr hh page (layL page la at_ q.length q) lr G ∧ Only (· = ha) w w' := by
  by_cases hy : There page la.length at_ q.length
  · unfold cd layL
    rw [if_pos (there_yes hy), if_pos (there_yes hy)]
    refine (writeYes w ga ha page la P.a at_ A c B q hq hy).mono ?_
    rintro e w' ⟨rfl, a', o, -⟩
    exact ⟨rfl, P.stepA a' o, o⟩
  · unfold cd layL
    rw [if_neg (there_no hy), if_neg (there_no hy)]
    refine (writeNo w ga ha page la P.a at_ hat A q.length c hql hy).mono ?_
    rintro e w' ⟨rfl, m, rfl⟩
    exact ⟨rfl, P.drewN m, (Only.refl _ _).drewN m⟩
theorem refWriteJ (P : Pair2 w p N ga ha gr hr hh page la lr G) (at_ : Int) (hat : inI64 at_) (A : Option Addr) (c B : Nat) (q : List UInt8) (hq : Bytes w B A q) (hql : q.length ≤ maxLen) (hA : q ≠ [] → ∀ b off, A = some ⟨b, off, none⟩ → b ≠ hr) :
    Calls Try.prog 62 #[.pointer (some ⟨gr, 0, none⟩), .int .i64 at_, .slice A q.length c] w fun e w' =>
      e = .returned (.int .i64 (cd page lr.length at_ q.length)) ∧ Pair2 w' p N ga ha gr hr hh page la (layL page lr at_ q.length q) G ∧ Only (· = hr) w w' := by
  by_cases hy : There page lr.length at_ q.length
  · unfold cd layL
    rw [if_pos (there_yes hy), if_pos (there_yes hy)]
    refine (refWriteYes w gr hr page lr P.r at_ A c B q hq hA hy).mono ?_
    rintro e w' ⟨rfl, a', o, -⟩
    exact ⟨rfl, P.stepR a' o, o⟩
  · unfold cd layL
    rw [if_neg (there_no hy), if_neg (there_no hy)]
    refine (refWriteNo w gr hr page lr P.r at_ hat A q.length c hql hy).mono ?_
    rintro e w' ⟨rfl, m, rfl⟩
    exact ⟨rfl, P.drewN m, (Only.refl _ _).drewN m⟩
theorem fillJ (P : Pair2 w p N ga ha gr hr hh page la lr G) (at_ n : Int) (b : UInt8) (hat : inI64 at_) (hn : inI64 n) :
    Calls Try.prog 19 #[.pointer (some ⟨ga, 0, none⟩), .int .i64 at_, .int .i64 n, .int .u8 (b.toNat : Int)] w fun e w' =>
      e = .returned (.int .i64 (cd page la.length at_ n)) ∧ Pair2 w' p N ga ha gr hr hh page (layL page la at_ n (List.replicate n.toNat b)) lr G ∧ Only (· = ha) w w' := by
  by_cases hy : There page la.length at_ n
  · unfold cd layL
    rw [if_pos (there_yes hy), if_pos (there_yes hy)]
    refine (fillYes w ga ha page la P.a at_ n b hy).mono ?_
    rintro e w' ⟨rfl, a', o, -⟩
    exact ⟨rfl, P.stepA a' o, o⟩
  · unfold cd layL
    rw [if_neg (there_no hy), if_neg (there_no hy)]
    refine (fillNo w ga ha page la P.a at_ n b hat hn hy).mono ?_
    rintro e w' ⟨rfl, m, rfl⟩
    exact ⟨rfl, P.drewN m, (Only.refl _ _).drewN m⟩
theorem refFillJ (P : Pair2 w p N ga ha gr hr hh page la lr G) (at_ n : Int) (b : UInt8) (hat : inI64 at_) (hn : inI64 n) :
    Calls Try.prog 63 #[.pointer (some ⟨gr, 0, none⟩), .int .i64 at_, .int .i64 n, .int .u8 (b.toNat : Int)] w fun e w' =>
      e = .returned (.int .i64 (cd page lr.length at_ n)) ∧ Pair2 w' p N ga ha gr hr hh page la (layL page lr at_ n (List.replicate n.toNat b)) G ∧ Only (· = hr) w w' := by
  by_cases hy : There page lr.length at_ n
  · unfold cd layL
    rw [if_pos (there_yes hy), if_pos (there_yes hy)]
    refine (refFillYes w gr hr page lr P.r at_ n b hy).mono ?_
    rintro e w' ⟨rfl, a', o, -⟩
    exact ⟨rfl, P.stepR a' o, o⟩
  · unfold cd layL
    rw [if_neg (there_no hy), if_neg (there_no hy)]
    refine (refFillNo w gr hr page lr P.r at_ n b hat hn hy).mono ?_
    rintro e w' ⟨rfl, m, rfl⟩
    exact ⟨rfl, P.drewN m, (Only.refl _ _).drewN m⟩
/-- What Move leaves, and its error's number. -/
noncomputable def mvL (page : Nat) (l : List UInt8) (t f n : Int) : List UInt8 := if there page l.length f n = true then layL page l t n ((l.drop f.toNat).take n.toNat) else l
noncomputable def mvC (page len : Nat) (t f n : Int) : Int := if there page len f n = true then cd page len t n else 20
theorem mvL_len {l : List UInt8} {t f n : Int} : (mvL page l t f n).length = l.length := by
  unfold mvL
  split
  · rename_i h
    obtain ⟨h1, h2, h3, -⟩ : There page l.length f n := of_decide_eq_true h
    exact layL_len (by simp; omega)
  · rfl
theorem moveJ (P : Pair2 w p N ga ha gr hr hh page la lr G) (t f n : Int) (ht : inI64 t) (hf : inI64 f) (hn : inI64 n) :
    Calls Try.prog 21 #[.pointer (some ⟨ga, 0, none⟩), .int .i64 t, .int .i64 f, .int .i64 n] w fun e w' =>
      e = .returned (.int .i64 (mvC page la.length t f n)) ∧ Pair2 w' p N ga ha gr hr hh page (mvL page la t f n) lr G ∧ Only (· = ha) w w' := by
  by_cases hy : There page la.length t n ∧ There page la.length f n
  · obtain ⟨y1, y2⟩ := hy
    unfold mvC mvL cd layL
    rw [if_pos (there_yes y2), if_pos (there_yes y2), if_pos (there_yes y1), if_pos (there_yes y1)]
    refine (moveYes w ga ha page la P.a t f n y1 y2).mono ?_
    rintro e w' ⟨rfl, a', o, -⟩
    exact ⟨rfl, P.stepA a' o, o⟩
  · have hc : mvC page la.length t f n = 20 := by
      unfold mvC cd
      by_cases h2 : There page la.length f n
      · rw [if_pos (there_yes h2), if_neg (there_no fun h1 => hy ⟨h1, h2⟩)]
      · rw [if_neg (there_no h2)]
    have hl : mvL page la t f n = la := by
      unfold mvL layL
      by_cases h2 : There page la.length f n
      · rw [if_pos (there_yes h2), if_neg (there_no fun h1 => hy ⟨h1, h2⟩)]
      · rw [if_neg (there_no h2)]
    rw [hc, hl]
    refine (moveNo w ga ha page la P.a t f n ht hf hn hy).mono ?_
    rintro e w' ⟨rfl, m, rfl⟩
    exact ⟨rfl, P.drewN m, (Only.refl _ _).drewN m⟩
theorem refMoveJ (P : Pair2 w p N ga ha gr hr hh page la lr G) (t f n : Int) (ht : inI64 t) (hf : inI64 f) (hn : inI64 n) :
    Calls Try.prog 64 #[.pointer (some ⟨gr, 0, none⟩), .int .i64 t, .int .i64 f, .int .i64 n] w fun e w' =>
      e = .returned (.int .i64 (mvC page lr.length t f n)) ∧ Pair2 w' p N ga ha gr hr hh page la (mvL page lr t f n) G ∧ Only (· = hr) w w' := by
  by_cases hy : There page lr.length t n ∧ There page lr.length f n
  · obtain ⟨y1, y2⟩ := hy
    unfold mvC mvL cd layL
    rw [if_pos (there_yes y2), if_pos (there_yes y2), if_pos (there_yes y1), if_pos (there_yes y1)]
    refine (refMoveYes w gr hr page lr P.r t f n y1 y2).mono ?_
    rintro e w' ⟨rfl, a', o⟩
    exact ⟨rfl, P.stepR a' o, o⟩
  · have hc : mvC page lr.length t f n = 20 := by
      unfold mvC cd
      by_cases h2 : There page lr.length f n
      · rw [if_pos (there_yes h2), if_neg (there_no fun h1 => hy ⟨h1, h2⟩)]
      · rw [if_neg (there_no h2)]
    have hl : mvL page lr t f n = lr := by
      unfold mvL layL
      by_cases h2 : There page lr.length f n
      · rw [if_pos (there_yes h2), if_neg (there_no fun h1 => hy ⟨h1, h2⟩)]
      · rw [if_neg (there_no h2)]
    rw [hc, hl]
    refine (refMoveNo w gr hr page lr P.r t f n ht hf hn hy).mono ?_
    rintro e w' ⟨rfl, m, rfl⟩
    exact ⟨rfl, P.drewN m, (Only.refl _ _).drewN m⟩
end
end Go.Proofs.Ytnjobnccknpaeaa.Exact
