/-
  The walk of Held.Add: one more list that was told, and what it must hold.
-/
import Derived.Test.YtnjobnccknpaeaaHeldOwn
import Derived.Deep.RegionHeld3
namespace Go.Proofs.Ytnjobnccknpaeaa.Held
open Go.RowKit Base Tail
set_option linter.unusedVariables false

/-- What is held, while a list is put in. -/
structure Pre (w : World) (h N : Nat) (vg vw : Value) (ps qs : List Value) (Ls : List (List UInt8)) (size : Nat) : Prop where
  head : w.heap[h]? = some (.cells #[vg, vw, .int .i64 (size : Int)] 111 (0, 0))
  og : w.ownsRow N 38 1 vg ps.length ps
  ow : w.ownsRow N 38 1 vw qs.length qs
  apw : vg.ownBlock = none ∨ vg.ownBlock ≠ vw.ownBlock
  pr : ∀ (j : Nat) (p : Value) (L : List UInt8), ps[j]? = some p → Ls[j]? = some L → BRow w N p L
  qr : ∀ (j : Nat) (q : Value) (L : List UInt8), qs[j]? = some q → Ls[j]? = some L → CRow w N q L
  ap : ∀ (i j : Nat) (p p' : Value), ps[i]? = some p → ps[j]? = some p' → i ≠ j → p.ownBlock = none ∨ p.ownBlock ≠ p'.ownBlock
  len : ∀ L ∈ Ls, L.length ≤ 1073741824
  lp : ps.length = Ls.length
  lq : qs.length ≤ Ls.length
  hN : N ≤ h
theorem HeldAt.pre {w : World} {h N size : Nat} {vg vw : Value} {ps qs : List Value} {Ls : List (List UInt8)} (H : HeldAt w h N vg vw ps qs Ls size) : Pre w h N vg vw ps qs Ls size :=
  ⟨H.head, H.og, H.ow, H.apw, H.pr, H.qr, H.ap, H.len, H.lp, Nat.le_of_eq H.lq, H.hN⟩
theorem Pre.full {w : World} {h N size : Nat} {vg vw : Value} {ps qs : List Value} {Ls : List (List UInt8)} (H : Pre w h N vg vw ps qs Ls size) (hq : qs.length = Ls.length) : HeldAt w h N vg vw ps qs Ls size :=
  ⟨H.head, H.og, H.ow, H.apw, H.pr, H.qr, H.ap, H.len, H.lp, hq, H.hN⟩
theorem Pre.prAt {w : World} {h N size : Nat} {vg vw : Value} {ps qs : List Value} {Ls : List (List UInt8)} (H : Pre w h N vg vw ps qs Ls size) {j : Nat} {p : Value} (hp : ps[j]? = some p) : ∃ L, BRow w N p L := by
  have hj : j < Ls.length := by rw [← H.lp]; exact (List.getElem?_eq_some_iff.1 hp).1
  exact ⟨_, H.pr j p _ hp (List.getElem?_eq_getElem hj)⟩
theorem Pre.qrAt {w : World} {h N size : Nat} {vg vw : Value} {ps qs : List Value} {Ls : List (List UInt8)} (H : Pre w h N vg vw ps qs Ls size) {j : Nat} {q : Value} (hq : qs[j]? = some q) : ∃ L, CRow w N q L := by
  have hj : j < Ls.length := Nat.lt_of_lt_of_le (List.getElem?_eq_some_iff.1 hq).1 H.lq
  exact ⟨_, H.qr j q _ hq (List.getElem?_eq_getElem hj)⟩
theorem Pre.lt {w : World} {h N size : Nat} {vg vw : Value} {ps qs : List Value} {Ls : List (List UInt8)} (H : Pre w h N vg vw ps qs Ls size) : ∀ b, HF h vg vw ps qs b → N ≤ b ∧ b < w.heap.size := by
  rintro b (rfl | h1 | h1 | ⟨j, p, hp, h1⟩ | ⟨j, q, hq, h1⟩)
  · exact ⟨H.hN, heap_lt H.head⟩
  · exact H.og.lt b h1
  · exact H.ow.lt b h1
  · obtain ⟨L, hL⟩ := H.prAt hp
    exact hL.lt b h1
  · obtain ⟨L, hL⟩ := H.qrAt hq
    exact hL.lt b h1
theorem Pre.keep {w w' : World} {h N size : Nat} {vg vw : Value} {ps qs : List Value} {Ls : List (List UInt8)} (H : Pre w h N vg vw ps qs Ls size) (hk : ∀ b, HF h vg vw ps qs b → w'.heap[b]? = w.heap[b]?) : Pre w' h N vg vw ps qs Ls size :=
  ⟨(hk h (.inl rfl)).trans H.head, own_keep H.og fun b hb => hk b (.inr (.inl hb)), own_keep H.ow fun b hb => hk b (.inr (.inr (.inl hb))), H.apw, fun j p L hp hL => (H.pr j p L hp hL).keep fun b hb => hk b (.inr (.inr (.inr (.inl ⟨j, p, hp, hb⟩)))),
    fun j q L hq hL => own_keep (H.qr j q L hq hL) fun b hb => hk b (.inr (.inr (.inr (.inr ⟨j, q, hq, hb⟩)))), H.ap, H.len, H.lp, H.lq, H.hN⟩
theorem Pre.below {w w' : World} {h N size : Nat} {vg vw : Value} {ps qs : List Value} {Ls : List (List UInt8)} (H : Pre w h N vg vw ps qs Ls size) (hb : Below w.heap.size w w') : Pre w' h N vg vw ps qs Ls size := H.keep fun b hf => hb.block b (H.lt b hf).2
theorem Pre.cells {w : World} {h N size : Nat} {vg vw : Value} {ps qs : List Value} {Ls : List (List UInt8)} (H : Pre w h N vg vw ps qs Ls size) :
    w.cell? ⟨h, 0, none⟩ = some vg ∧ w.cell? ⟨h, 1, none⟩ = some vw ∧ w.cell? ⟨h, 2, none⟩ = some (.int .i64 (size : Int)) ∧ w.frozen? ⟨h, 0, none⟩ = false ∧ w.frozen? ⟨h, 1, none⟩ = false ∧ w.frozen? ⟨h, 2, none⟩ = false :=
  ⟨by rw [cell_of_row w h 0 _ _ (0, 0) H.head]; rfl, by rw [cell_of_row w h 1 _ _ (0, 0) H.head]; rfl, by rw [cell_of_row w h 2 _ _ (0, 0) H.head]; rfl, Blk.frozen H.head 0, Blk.frozen H.head 1, Blk.frozen H.head 2⟩
/-- Block h is none of the rows' blocks. -/
theorem Pre.hne {w : World} {h N size : Nat} {vg vw : Value} {ps qs : List Value} {Ls : List (List UInt8)} (H : Pre w h N vg vw ps qs Ls size) :
    vg.ownBlock ≠ some h ∧ vw.ownBlock ≠ some h ∧ (∀ (j : Nat) (p : Value), ps[j]? = some p → p.ownBlock ≠ some h) ∧ (∀ (j : Nat) (q : Value), qs[j]? = some q → q.ownBlock ≠ some h) := by
  refine ⟨own_ne H.og H.head (by decide), own_ne H.ow H.head (by decide), fun j p hp hc => ?_, fun j q hq => ?_⟩
  · obtain ⟨L, hL⟩ := H.prAt hp
    rcases hL with ⟨-, rfl⟩ | ⟨g, rfl, -, h1⟩
    · simp [Value.ownBlock] at hc
    · simp only [Value.ownBlock, Option.some.injEq] at hc
      subst hc
      unfold BB at h1
      rw [H.head] at h1
      injection h1 with h1
      injection h1 with _ h3
      exact absurd h3 (by decide)
  · obtain ⟨L, hL⟩ := H.qrAt hq
    exact own_ne hL H.head (by decide)
/-- A cell of block h written. -/
theorem Pre.set2 {w : World} {h N size s2 : Nat} {vg vw : Value} {ps qs : List Value} {Ls : List (List UInt8)} (H : Pre w h N vg vw ps qs Ls size) : Pre (w.setCell ⟨h, 2, none⟩ (.int .i64 (s2 : Int))) h N vg vw ps qs Ls s2 := by
  obtain ⟨h1, h2, h3, h4⟩ := H.hne
  have far : ∀ b, b ≠ h → (w.setCell ⟨h, 2, none⟩ (.int .i64 (s2 : Int))).heap[b]? = w.heap[b]? := fun b hb => Below.heap_setCell w ⟨h, 2, none⟩ _ b hb
  exact ⟨Blk.set_ H.head 2 _, own_keep H.og fun b hb => far b fun hc => h1 (by rw [hb, hc]), own_keep H.ow fun b hb => far b fun hc => h2 (by rw [hb, hc]), H.apw, fun j p L hp hL => (H.pr j p L hp hL).keep fun b hb => far b fun hc => h3 j p hp (by rw [hb, hc]),
    fun j q L hq hL => own_keep (H.qr j q L hq hL) fun b hb => far b fun hc => h4 j q hq (by rw [hb, hc]), H.ap, H.len, H.lp, H.lq, H.hN⟩
theorem Pre.push1 {w : World} {h N size : Nat} {vg vw p : Value} {ps qs : List Value} {Ls : List (List UInt8)} (H : Pre w h N vg vw ps qs Ls size) (L : List UInt8) (hp : BRow w N p L) (hL : L.length ≤ 1073741824) (hf : ∀ b, p.ownBlock = some b → ¬ HF h vg vw ps qs b) (hn : ps.length ≤ 1000000) (hq : qs.length = Ls.length) (ty : TypeId) :
    ∃ v' w', (Builtin.append_ #[109, 109] ty #[vg, .slice (some ⟨w.heap.size, 0, none⟩) 1 1]).run Try.prog (w.alloc (.cells #[p] 38)) = .ok v' w' ∧ w'.cell? ⟨h, 0, none⟩ = some vg ∧ w'.frozen? ⟨h, 0, none⟩ = false ∧
      (Pre (w'.setCell ⟨h, 0, none⟩ v') h N v' vw (ps ++ [p]) qs (Ls ++ [L]) size ∧ (v'.ownBlock = vg.ownBlock ∨ v'.ownBlock = some (w.heap.size + 1)) ∧ Only (fun b => b = h ∨ vg.ownBlock = some b) w (w'.setCell ⟨h, 0, none⟩ v') ∧ w.heap.size ≤ w'.heap.size) := by
  have hhs := heap_lt H.head
  have hNs : N ≤ w.heap.size := by have := H.hN; omega
  obtain ⟨v', w', hr, o', hk, hsz, hob, hb⟩ := push_run w N vg p ps.length ps ty H.og hp.one hn hNs
  obtain ⟨h1, h2, h3, h4⟩ := H.hne
  have hd : w'.heap[h]? = some (.cells #[vg, vw, .int .i64 (size : Int)] 111 (0, 0)) := (hk h hhs h1).trans H.head
  have far : ∀ b, b ≠ h → (w'.setCell ⟨h, 0, none⟩ v').heap[b]? = w'.heap[b]? := fun b hb => Below.heap_setCell w' ⟨h, 0, none⟩ _ b hb
  have keep : ∀ {u : Value}, (∀ g, u.ownBlock = some g → g < w.heap.size) → (u.ownBlock = none ∨ u.ownBlock ≠ vg.ownBlock) → u.ownBlock ≠ some h → ∀ g, u.ownBlock = some g → (w'.setCell ⟨h, 0, none⟩ v').heap[g]? = w.heap[g]? := by
    intro u hu1 hu2 hu3 g hg
    rw [far g (fun hc => hu3 (by rw [hg, hc]))]
    refine hk g (hu1 g hg) fun hc => ?_
    rcases hu2 with hu2 | hu2
    · rw [hu2] at hg; cases hg
    · exact hu2 (hg.trans hc.symm)
  have hph : p.ownBlock ≠ some h := fun hc => hf h hc (.inl rfl)
  have hwv : vw.ownBlock = none ∨ vw.ownBlock ≠ vg.ownBlock := by
    rcases H.apw with h5 | h5
    · rcases h6 : vw.ownBlock with _ | g
      · exact .inl rfl
      · exact .inr (by rw [h5]; simp)
    · exact .inr fun hc => h5 hc.symm
  have hv'h : v'.ownBlock ≠ some h := by
    rcases hob with h5 | h5
    · rw [h5]; exact h1
    · rw [h5]; simp; omega
  refine ⟨v', w', hr, by rw [cell_of_row w' h 0 _ _ (0, 0) hd]; rfl, Blk.frozen hd 0, ⟨Blk.set_ hd 0 v', by rw [List.length_append]; exact own_keep o' fun b hb => far b fun hc => hv'h (by rw [hb, hc]), own_keep H.ow (keep (fun g hg => (H.ow.lt g hg).2) hwv h2), ?_, fun j u M hu hM => ?_,
    fun j u M hu hM => ?_, fun i j a a' ha ha' hij => ?_, fun M hM => ?_, by simp [H.lp], by simp; have := H.lq; omega, H.hN⟩, hob, ⟨hb.os, hb.tape, hb.output, by simpa using hsz, fun b hb1 hb2 => ?_⟩, hsz⟩
  · rcases hob with h5 | h5
    · rw [h5]; exact H.apw
    · refine .inr fun hc => ?_
      have := (H.ow.lt _ (hc.symm.trans h5)).2
      omega
  · rcases getElem?_snoc hu with ⟨hi, h5⟩ | ⟨rfl, rfl⟩
    · rw [List.getElem?_append_left (by rw [← H.lp]; exact hi)] at hM
      have := H.pr j u M h5 hM
      exact this.keep (keep (fun g hg => (this.lt g hg).2) (this.ne H.og) (h3 j u h5))
    · rw [H.lp, List.getElem?_append_right (Nat.le_refl _), Nat.sub_self] at hM
      simp at hM
      subst hM
      exact hp.keep (keep (fun g hg => (hp.lt g hg).2) (hp.ne H.og) hph)
  · rw [List.getElem?_append_left (by rw [← hq]; exact (List.getElem?_eq_some_iff.1 hu).1)] at hM
    have := H.qr j u M hu hM
    exact own_keep this (keep (fun g hg => (this.lt g hg).2) (CRow.ne this H.og) (h4 j u hu))
  · rcases getElem?_snoc ha with ⟨hi, h5⟩ | ⟨hi, rfl⟩
    · rcases getElem?_snoc ha' with ⟨hj, h6⟩ | ⟨hj, rfl⟩
      · exact H.ap i j a a' h5 h6 hij
      · rcases h7 : a.ownBlock with _ | g
        · exact .inl rfl
        · exact .inr fun hc => hf g hc.symm (.inr (.inr (.inr (.inl ⟨i, a, h5, h7⟩))))
    · rcases getElem?_snoc ha' with ⟨hj, h6⟩ | ⟨hj, rfl⟩
      · rcases h7 : a.ownBlock with _ | g
        · exact .inl rfl
        · exact .inr fun hc => hf g h7 (.inr (.inr (.inr (.inl ⟨j, a', h6, hc.symm⟩))))
      · omega
  · rcases List.mem_append.1 hM with h5 | h5
    · exact H.len M h5
    · rw [List.mem_singleton.1 h5]; exact hL
  · rw [far b (fun hc => hb2 (.inl hc))]
    exact hk b hb1 fun hc => hb2 (.inr hc)
theorem Pre.push2 {w : World} {h N size : Nat} {vg vw q : Value} {ps qs : List Value} {Ls : List (List UInt8)} (H : Pre w h N vg vw ps qs Ls size) (L : List UInt8) (hq : CRow w N q L) (h1q : q.oneCell' = true) (hLs : Ls[qs.length]? = some L) (hn : qs.length ≤ 1000000) (hf : q.ownBlock ≠ some h) (ty : TypeId) :
    ∃ v' w', (Builtin.append_ #[109, 109] ty #[vw, .slice (some ⟨w.heap.size, 0, none⟩) 1 1]).run Try.prog (w.alloc (.cells #[q] 38)) = .ok v' w' ∧ w'.cell? ⟨h, 1, none⟩ = some vw ∧ w'.frozen? ⟨h, 1, none⟩ = false ∧
      (Pre (w'.setCell ⟨h, 1, none⟩ v') h N vg v' ps (qs ++ [q]) Ls size ∧ (v'.ownBlock = vw.ownBlock ∨ v'.ownBlock = some (w.heap.size + 1)) ∧ Only (fun b => b = h ∨ vw.ownBlock = some b) w (w'.setCell ⟨h, 1, none⟩ v') ∧ w.heap.size ≤ w'.heap.size) := by
  have hhs := heap_lt H.head
  have hNs : N ≤ w.heap.size := by have := H.hN; omega
  obtain ⟨v', w', hr, o', hk, hsz, hob, hb⟩ := push_run w N vw q qs.length qs ty H.ow h1q hn hNs
  obtain ⟨h1, h2, h3, h4⟩ := H.hne
  have hd : w'.heap[h]? = some (.cells #[vg, vw, .int .i64 (size : Int)] 111 (0, 0)) := (hk h hhs h2).trans H.head
  have far : ∀ b, b ≠ h → (w'.setCell ⟨h, 1, none⟩ v').heap[b]? = w'.heap[b]? := fun b hb => Below.heap_setCell w' ⟨h, 1, none⟩ _ b hb
  have keep : ∀ {u : Value}, (∀ g, u.ownBlock = some g → g < w.heap.size) → (u.ownBlock = none ∨ u.ownBlock ≠ vw.ownBlock) → u.ownBlock ≠ some h → ∀ g, u.ownBlock = some g → (w'.setCell ⟨h, 1, none⟩ v').heap[g]? = w.heap[g]? := by
    intro u hu1 hu2 hu3 g hg
    rw [far g (fun hc => hu3 (by rw [hg, hc]))]
    refine hk g (hu1 g hg) fun hc => ?_
    rcases hu2 with hu2 | hu2
    · rw [hu2] at hg; cases hg
    · exact hu2 (hg.trans hc.symm)
  have hv'h : v'.ownBlock ≠ some h := by
    rcases hob with h5 | h5
    · rw [h5]; exact h2
    · rw [h5]; simp; omega
  refine ⟨v', w', hr, by rw [cell_of_row w' h 1 _ _ (0, 0) hd]; rfl, Blk.frozen hd 1, ⟨Blk.set_ hd 1 v', own_keep H.og (keep (fun g hg => (H.og.lt g hg).2) H.apw h1), by rw [List.length_append]; exact own_keep o' fun b hb => far b fun hc => hv'h (by rw [hb, hc]), ?_, fun j u M hu hM => ?_,
    fun j u M hu hM => ?_, H.ap, H.len, H.lp, ?_, H.hN⟩, hob, ⟨hb.os, hb.tape, hb.output, by simpa using hsz, fun b hb1 hb2 => ?_⟩, hsz⟩
  · rcases hob with h5 | h5
    · rw [h5]; exact H.apw
    · rcases h6 : vg.ownBlock with _ | g
      · exact .inl rfl
      · refine .inr fun hc => ?_
        rw [h5] at hc
        injection hc with hc
        have := (H.og.lt _ h6).2
        omega
  · have := H.pr j u M hu hM
    exact this.keep (keep (fun g hg => (this.lt g hg).2) (this.ne H.ow) (h3 j u hu))
  · rcases getElem?_snoc hu with ⟨hi, h5⟩ | ⟨rfl, rfl⟩
    · have := H.qr j u M h5 hM
      exact own_keep this (keep (fun g hg => (this.lt g hg).2) (CRow.ne this H.ow) (h4 j u h5))
    · rw [hLs] at hM
      cases hM
      exact own_keep hq (keep (fun g hg => (hq.lt g hg).2) (CRow.ne hq H.ow) hf)
  · rw [List.length_append, List.length_singleton]
    exact (List.getElem?_eq_some_iff.1 hLs).1
  · rw [far b (fun hc => hb2 (.inl hc))]
    exact hk b hb1 fun hc => hb2 (.inr hc)
end Go.Proofs.Ytnjobnccknpaeaa.Held
