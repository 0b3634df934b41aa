/-
  A pair with all its blocks as one; what each call leaves of it.
-/
import Derived.Test.YtnjobnccknpaeaaExactLays3
import Derived.Test.YtnjobnccknpaeaaExactTells5
import Derived.Test.YtnjobnccknpaeaaExactAll
namespace Go.Proofs.Ytnjobnccknpaeaa.Exact
open Go.RowKit Base Arena Held
set_option linter.unusedVariables false

def PairB (w : World) (N p : Nat) (F : Nat → Prop) : Prop := ∃ (ga ha gr hr hh page : Nat) (l : List UInt8) (G : Nat → Prop), Pair2 w p N ga ha gr hr hh page l l G ∧ F = PF p ga ha gr hr G
theorem PairB.keep {w w' : World} {N p : Nat} {F : Nat → Prop} (P : PairB w N p F) (hk : ∀ b, F b → w'.heap[b]? = w.heap[b]?) : PairB w' N p F := by
  obtain ⟨ga, ha, gr, hr, hh, page, l, G, P, rfl⟩ := P
  exact ⟨ga, ha, gr, hr, hh, page, l, G, P.keep hk, rfl⟩
theorem PairB.lt {w : World} {N p : Nat} {F : Nat → Prop} (P : PairB w N p F) : ∀ b, F b → N ≤ b ∧ b < w.heap.size := by
  obtain ⟨ga, ha, gr, hr, hh, page, l, G, P, rfl⟩ := P
  exact P.lt
theorem PairB.only {w w' : World} {N p : Nat} {F S : Nat → Prop} (P : PairB w N p F) (o : Only S w w') (hd : ∀ b, F b → ¬ S b) : PairB w' N p F := P.keep fun b hb => o.block b (P.lt b hb).2 (hd b hb)
theorem PairB.below {w w' : World} {N p : Nat} {F : Nat → Prop} (P : PairB w N p F) (hb : Below w.heap.size w w') : PairB w' N p F := P.keep fun b h => hb.block b (P.lt b h).2
theorem heldOk_less {w : World} {h N M : Nat} {F : Nat → Prop} (H : HeldOk w h N F) (hM : M ≤ N) : HeldOk w h M F := by
  obtain ⟨vg, vw, ps, qs, Ls, size, H, h2, h3, rfl⟩ := H
  refine ⟨vg, vw, ps, qs, Ls, size, ⟨H.head, own_more H.og hM, own_more H.ow hM, H.apw, fun j p L hp hL => ?_, fun j q L hq hL => own_more (H.qr j q L hq hL) hM, H.ap, H.len, H.lp, H.lq, Nat.le_trans hM H.hN⟩, h2, h3, rfl⟩
  rcases H.pr j p L hp hL with h | ⟨g, h4, h5, h6⟩
  · exact .inl h
  · exact .inr ⟨g, h4, Nat.le_trans hM h5, h6⟩
theorem PairB.mk_ {w : World} {p N M ga ha gr hr hh page : Nat} {l : List UInt8} {G : Nat → Prop} (P : Pair2 w p N ga ha gr hr hh page l l G) (hM : M ≤ N) : PairB w M p (PF p ga ha gr hr G) := by
  obtain ⟨l1, l2, l3, l4, l5⟩ := P.lo
  exact ⟨ga, ha, gr, hr, hh, page, l, G, ⟨P.head, P.a, P.r, heldOk_less P.k hM, P.d, P.nG, by omega⟩, rfl⟩

theorem laysB (w : World) (N p : Nat) (F : Nat → Prop) (P : PairB w N p F) (o : Op) (ok : o.Ok w N) :
    Calls Try.prog 32 #[.pointer (some ⟨p, 0, none⟩), .agg o.cells] w fun e w' => e = .returned (.bool true) ∧ PairB w' N p F ∧ Only F w w' := by
  obtain ⟨ga, ha, gr, hr, hh, page, l, G, P, rfl⟩ := P
  refine (laysC w P o ok).mono ?_
  rintro e w' ⟨rfl, l', hl, P', o⟩
  refine ⟨rfl, ⟨ga, ha, gr, hr, hh, page, l', G, P', rfl⟩, o.mono ?_⟩
  rintro x - (rfl | rfl)
  · exact .inr (.inr (.inl rfl))
  · exact .inr (.inr (.inr (.inr (.inl rfl))))
theorem tellsB (w : World) (N p : Nat) (F : Nat → Prop) (P : PairB w N p F) (o : Op) (ok : o.Ok w N) :
    Calls Try.prog 33 #[.pointer (some ⟨p, 0, none⟩), .agg o.cells] w fun e w' => e = .returned (.bool true) ∧ ∃ F', PairB w' N p F' ∧ Only F w w' ∧ ∀ b, F' b → F b ∨ w.heap.size ≤ b := by
  obtain ⟨ga, ha, gr, hr, hh, page, l, G, P, rfl⟩ := P
  refine (tellsC w P o ok).mono ?_
  rintro e w' ⟨rfl, G', P', o, hs⟩
  refine ⟨rfl, _, ⟨ga, ha, gr, hr, hh, page, l, G', P', rfl⟩, o.mono fun x _ h => .inr (.inr (.inr (.inr (.inr h)))), ?_⟩
  rintro b (h | h | h | h | h | h)
  · exact .inl (.inl h)
  · exact .inl (.inr (.inl h))
  · exact .inl (.inr (.inr (.inl h)))
  · exact .inl (.inr (.inr (.inr (.inl h))))
  · exact .inl (.inr (.inr (.inr (.inr (.inl h)))))
  · exact (hs b h).elim (fun h => .inl (.inr (.inr (.inr (.inr (.inr h)))))) .inr
theorem ownPB (w : World) (N p : Nat) (F : Nat → Prop) (P : PairB w N p F) : ∃ hh, w.cell? ⟨p, 2, none⟩ = some (.pointer (some ⟨hh, 0, none⟩)) ∧
    Calls Try.prog 34 #[.pointer (some ⟨hh, 0, none⟩)] w fun e w' => e = .returned (.bool true) ∧ ∃ F', PairB w' N p F' ∧ Only F w w' ∧ ∀ b, F' b → F b ∨ w.heap.size ≤ b := by
  obtain ⟨ga, ha, gr, hr, hh, page, l, G, P, rfl⟩ := P
  refine ⟨hh, P.cells.2.2, (ownJ P).mono ?_⟩
  rintro e w' ⟨rfl, G', P', o, hs⟩
  refine ⟨rfl, _, ⟨ga, ha, gr, hr, hh, page, l, G', P', rfl⟩, o.mono fun x _ h => .inr (.inr (.inr (.inr (.inr h)))), ?_⟩
  rintro b (h | h | h | h | h | h)
  · exact .inl (.inl h)
  · exact .inl (.inr (.inl h))
  · exact .inl (.inr (.inr (.inl h)))
  · exact .inl (.inr (.inr (.inr (.inl h))))
  · exact .inl (.inr (.inr (.inr (.inr (.inl h)))))
  · exact (hs b h).elim (fun h => .inl (.inr (.inr (.inr (.inr (.inr h)))))) .inr
theorem allB (w : World) (N p : Nat) (F : Nat → Prop) (P : PairB w N p F) :
    Calls Try.prog 35 #[.pointer (some ⟨p, 0, none⟩)] w fun e w' => e = .returned (.bool true) ∧ Below w.heap.size w w' := by
  obtain ⟨ga, ha, gr, hr, hh, page, l, G, P, rfl⟩ := P
  exact allC w P
theorem begunB (w : World) (x y : Int) (hx : inI64 x) (hy : inI64 y) (M : Nat) (hM : M ≤ w.heap.size) :
    Calls Try.prog 31 #[.int .i64 x, .int .i64 y] w fun e w' => ∃ (p : Nat) (F : Nat → Prop), e = .returned (.pointer (some ⟨p, 0, none⟩)) ∧ PairB w' M p F ∧ Below w.heap.size w w' ∧ ∀ b, F b → w.heap.size ≤ b := by
  refine (begunC w x y hx hy).mono ?_
  rintro e w' ⟨p, ga, ha, gr, hr, hh, page, l, G, rfl, P, b⟩
  exact ⟨p, _, rfl, PairB.mk_ P hM, b, fun k hk => (P.lt k hk).1⟩
/-- Two pairs, with nothing in common, and what stands below them as it was. -/
structure Two (w0 w : World) (M p q : Nat) (F1 F2 : Nat → Prop) : Prop where
  a : PairB w M p F1
  b : PairB w M q F2
  d : ∀ x, F1 x → ¬ F2 x
  s : Below M w0 w
  m : M ≤ w0.heap.size
theorem Two.swap {w0 w : World} {M p q : Nat} {F1 F2 : Nat → Prop} (T : Two w0 w M p q F1 F2) : Two w0 w M q p F2 F1 := ⟨T.b, T.a, fun x h1 h2 => T.d x h2 h1, T.s, T.m⟩
theorem Two.step {w0 w w' : World} {M p q : Nat} {F1 F2 F1' : Nat → Prop} (T : Two w0 w M p q F1 F2) (a' : PairB w' M p F1') (o : Only F1 w w') (h : ∀ b, F1' b → F1 b ∨ w.heap.size ≤ b) : Two w0 w' M p q F1' F2 := by
  refine ⟨a', T.b.only o fun b hb hc => T.d b hc hb, fun x h1 h2 => ?_, T.s.trans (o.toBelow fun k hk => ⟨?_, fun hc => ?_⟩), T.m⟩
  · rcases h x h1 with h3 | h3
    · exact T.d x h3 h2
    · have := (T.b.lt x h2).2
      omega
  · have := T.s.size
    have := T.m
    omega
  · have := (T.a.lt k hc).1
    omega
theorem Two.below {w0 w w' : World} {M p q : Nat} {F1 F2 : Nat → Prop} (T : Two w0 w M p q F1 F2) (hb : Below w.heap.size w w') : Two w0 w' M p q F1 F2 :=
  ⟨T.a.below hb, T.b.below hb, T.d, T.s.trans (hb.mono (Nat.le_trans T.m T.s.size)), T.m⟩

/-- The slice holds the calls, nine cells each. -/
def OpsAt (w : World) (N : Nat) (A : Option Addr) (l : List Op) : Prop := ∀ (k : Nat) (hk : k < l.length), (l[k]).Ok w N ∧ ∃ b off, A = some ⟨b, off, none⟩ ∧ b < N ∧ ∀ j v, (l[k]).cells[j]? = some v → w.cell? ⟨b, off + k * 9 + j, none⟩ = some v
theorem OpsAt.below {w w' : World} {N M : Nat} {A : Option Addr} {l : List Op} (h : OpsAt w N A l) (hb : Below N w w') (hM : N ≤ M) : OpsAt w' M A l := by
  intro k hk
  obtain ⟨h1, b, off, h2, h3, h4⟩ := h k hk
  have h5 := h1.below hb
  exact ⟨⟨h5.pl, h5.tt, h5.n, h5.width, h5.which, h5.d, h5.v, h5.q, Row.more h5.b hM⟩, b, off, h2, by omega, fun j v hv => (hb.cell (p := ⟨b, off + k * 9 + j, none⟩) h3).trans (h4 j v hv)⟩
theorem OpsAt.at_ {w : World} {N : Nat} {A : Option Addr} {l : List Op} (h : OpsAt w N A l) (k : Nat) (hk : k < l.length) : ∃ (o : Op) (b off : Nat), o.Ok w N ∧ A = some ⟨b, off, none⟩ ∧ b < N ∧ w.cell? ⟨b, off + k * 9, none⟩ = some (.int .i64 o.d) ∧ w.cell? ⟨b, off + k * 9 + 1, none⟩ = some (.int .i64 o.which) ∧ w.cell? ⟨b, off + k * 9 + 2, none⟩ = some (.int .i64 o.pl) ∧
    w.cell? ⟨b, off + k * 9 + 3, none⟩ = some (.int .i64 o.tt) ∧ w.cell? ⟨b, off + k * 9 + 4, none⟩ = some (.int .i64 o.n) ∧ w.cell? ⟨b, off + k * 9 + 5, none⟩ = some (.int .i64 o.width) ∧ w.cell? ⟨b, off + k * 9 + 6, none⟩ = some (.int .u64 (o.v : Int)) ∧
    w.cell? ⟨b, off + k * 9 + 7, none⟩ = some (.slice o.A o.q.length o.c) ∧ w.cell? ⟨b, off + k * 9 + 8, none⟩ = some (.bool o.own) := by
  obtain ⟨h1, b, off, h2, h3, h4⟩ := h k hk
  exact ⟨l[k], b, off, h1, h2, h3, h4 0 _ rfl, h4 1 _ rfl, h4 2 _ rfl, h4 3 _ rfl, h4 4 _ rfl, h4 5 _ rfl, h4 6 _ rfl, h4 7 _ rfl, h4 8 _ rfl⟩
end Go.Proofs.Ytnjobnccknpaeaa.Exact
