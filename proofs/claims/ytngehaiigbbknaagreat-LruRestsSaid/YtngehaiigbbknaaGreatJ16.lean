/-
  Contracts and lemmas, joined: LruDoc3, LruMoves, LruMoves2, LruScript, LruArgs, LruWRow, LruActive, LruWakes, LruRestsLaw.
-/
import Derived.Test.YtngehaiigbbknaaGreatJ1
import Derived.Test.YtngehaiigbbknaaGreatJ11
import Derived.Test.YtngehaiigbbknaaGreatJ12
import Derived.Test.YtngehaiigbbknaaGreatJ15
set_option linter.unusedSimpArgs false
set_option linter.unusedVariables false
set_option linter.unusedSectionVars false
set_option maxRecDepth 100000
/-
  The document's Lru: Balance.
-/
namespace Go.Proofs.YtngehaiigbbknaaGreat.Que
open Go.RowKit Base Arena Cls Itm
theorem WAt.only {N : Nat} {w : World} {W : W6} {c : Conf} {s : St} {bs : List UInt8} {Z : Nat -> Option Zd} {Ls Ld : Nat -> Nat -> List Nat} {r : RS} {laid told act : List Nat} {mk : Nat -> Nat} (h : WAt N w W c s bs Z Ls Ld r laid told act mk) {S : Nat -> Prop} {w' : World} (o : Only S w w') (ns : ∀ i b, W.foot c s i b -> ¬ S b) : WAt N w' W c s bs Z Ls Ld r laid told act mk := by
 have LC := h.lru
 have AC := h.dlr
 obtain ⟨F, S', q⟩ := h.q
 exact ⟨⟨F, ⟨S'.zs.only o fun b hb => ns .set b hb, S'.q.only o (ns .queue _ (.inl rfl)) (ns .queue _ (.inr rfl)), S'.fq, S'.fl⟩, q⟩, h.ref.only o fun b hb => ns .ref b hb, h.doc.only o fun b hb => ns .doc b hb, (o.block _ h.own.lt (ns .own _ (.inl rfl))).trans h.own, own_keptN h.told fun b e => o.block b (own_blockN h.told e) (ns .own b (.inr e)), h.sep, h.tb, h.base, fun g e => (o.block _ (h.lru g e).lt (ns .lru g e)).trans (LC g e), fun d e => (o.block _ (h.dlr d e).lt (ns .act d (.inl e))).trans (AC d e), own_keptN h.row fun d e => o.block d (own_blockN h.row e) (ns .act d (.inr e)), h.ad, h.mks⟩
theorem DX.only {N : Nat} {w : World} {W : W6} {s : St} {bs : List UInt8} {Z : Nat -> Option Zd} {Ls Ld : Nat -> Nat -> List Nat} {r : RS} {laid told act : List Nat} {mk : Nat -> Nat} (h : DX N w W s bs Z Ls Ld r laid told act mk) {S : Nat -> Prop} {w' : World} (o : Only S w w') (ns : ∀ i b, W.foot qc s i b -> ¬ S b) : DX N w' W s bs Z Ls Ld r laid told act mk := ⟨h.wat.only o ns, h.rel, h.agr, h.ch, h.la, h.dq, h.al⟩
theorem Grew.aside {c : Conf} {w0 w w' : World} {W0 W : W6} {s0 s : St} (h : Grew c w0 w W0 W s0 s) {S : Nat -> Prop} (o : Only S w w') (hS : ∀ b, S b -> w0.heap.size <= b) : Grew c w0 w' W0 W s0 s :=
 ⟨h.only.trans o fun b hb hs => by have := hS b hs; omega, h.foot⟩
def lenV : Value -> Nat
 | .slice _ n _ => n
 | _ => 0
structure DGx (N : Nat) (w w' : World) (W W1 : W6) (s : St) (bs : List UInt8) (Z : Nat -> Option Zd) (Ls Ld' : Nat -> Nat -> List Nat) (r : RS) (laid told act' : List Nat) (mk : Nat -> Nat) : Prop where
 eq_ : ∃ R' vA', W1 = { W with R := R', vA := vA' } /\ R'.b = W.R.b
 grew : Grew qc w w' W W1 s s
 dx : DX N w' W1 s bs Z Ls Ld' r laid told act' mk
theorem DGx.dg {N : Nat} {w w' : World} {W W1 : W6} {s : St} {bs : List UInt8} {Z : Nat -> Option Zd} {Ls Ld' : Nat -> Nat -> List Nat} {r : RS} {laid told act' : List Nat} {mk : Nat -> Nat} (h : DGx N w w' W W1 s bs Z Ls Ld' r laid told act' mk) : DG N w w' W s bs Z Ls Ld' r laid told act' mk := by
 obtain ⟨⟨R', vA', rfl, e⟩, G, D⟩ := h
 exact ⟨R', vA', e, G, D⟩
theorem DGx.next {N : Nat} {w w1 w2 : World} {W W1 : W6} {s : St} {bs : List UInt8} {Z : Nat -> Option Zd} {Ls L1 L2 : Nat -> Nat -> List Nat} {r : RS} {laid told a1 a2 : List Nat} {mk : Nat -> Nat} (h : DGx N w w1 W W1 s bs Z Ls L1 r laid told a1 mk) (k : DG N w1 w2 W1 s bs Z Ls L2 r laid told a2 mk) :
  ∃ W2, DGx N w w2 W W2 s bs Z Ls L2 r laid told a2 mk /\ Grew qc w1 w2 W1 W2 s s := by
 obtain ⟨⟨R', vA', rfl, e⟩, G, D⟩ := h
 obtain ⟨R2, v2, e2, G2, D2⟩ := k
 exact ⟨_, ⟨⟨R2, v2, rfl, e2.trans e⟩, G.trans G2, D2⟩, G2⟩
theorem DGx.below {N : Nat} {w w1 w2 : World} {W W1 : W6} {s : St} {bs : List UInt8} {Z : Nat -> Option Zd} {Ls L1 : Nat -> Nat -> List Nat} {r : RS} {laid told a1 : List Nat} {mk : Nat -> Nat} (h : DGx N w w1 W W1 s bs Z Ls L1 r laid told a1 mk) (b : Below w1.heap.size w1 w2) : DGx N w w2 W W1 s bs Z Ls L1 r laid told a1 mk :=
 ⟨h.eq_, h.grew.step b, h.dx.below b⟩
theorem DGx.is {N : Nat} {w w1 : World} {W W1 : W6} {s : St} {bs : List UInt8} {Z : Nat -> Option Zd} {Ls L1 : Nat -> Nat -> List Nat} {r : RS} {laid told a1 : List Nat} {mk : Nat -> Nat} (h : DGx N w w1 W W1 s bs Z Ls L1 r laid told a1 mk) : W1.R.b = W.R.b /\ W1.dm = W.dm /\ W1.hot = W.hot /\ W1.warm = W.warm := by
 obtain ⟨R', vA', rfl, e⟩ := h.eq_
 exact ⟨e, rfl, rfl, rfl⟩
section
variable {N : Nat} {w : World} {W : W6} {s : St} {bs : List UInt8} {Z : Nat -> Option Zd} {Ls Ld : Nat -> Nat -> List Nat} {r : RS} {laid told act : List Nat} {mk : Nat -> Nat} (h : DX N w W s bs Z Ls Ld r laid told act mk) {dm : Nat} (ed : W.dm = some dm) (sh : Shr W.hot W.warm)
include h ed sh
set_option maxHeartbeats 1600000 in
theorem DX.balanceD (x links : Int) (hl : links <= 2000) : Calls Tryz.prog 29 #[.pointer (some ⟨dm, 0, none⟩), .int .i64 x, .int .i64 links] w fun e w' => ∃ A cp, e = .returned (.slice A (dbalN s W.hot W.warm x links.toNat Ld act).1.length cp) /\ w'.ownsRow w.heap.size 50 1 (.slice A (dbalN s W.hot W.warm x links.toNat Ld act).1.length cp) (dbalN s W.hot W.warm x links.toNat Ld act).1.length ((dbalN s W.hot W.warm x links.toNat Ld act).1.map uv) /\
  DG N w w' W s bs Z Ls (dbalN s W.hot W.warm x links.toNat Ld act).2.1 r laid told (dbalN s W.hot W.warm x links.toNat Ld act).2.2 mk := by
 obtain ⟨n, hn⟩ : ∃ n, n = links.toNat := ⟨_, rfl⟩
 rw [<- hn]
 obtain ⟨P, hP⟩ : ∃ P, P = dbalN s W.hot W.warm x n Ld act := ⟨_, rfl⟩
 rw [<- hP]
 have D0 : DGx N w w W W s bs Z Ls Ld r laid told act mk := ⟨⟨W.R, W.vA, rfl, rfl⟩, Grew.refl _ _ _ _, h⟩
 have hn1 : (n : Int) = links \/ n = 0 /\ links <= 0 := by omega
 have hl3 : n <= 2000 := by omega
 have C1 : ∀ w1 W1 L1 a1, DGx N w w1 W W1 s bs Z Ls L1 r laid told a1 mk -> Calls Tryz.prog 65 #[.pointer (some ⟨dm, 0, none⟩), .int .i64 x] w1 fun e w' => e = .returned (.int .i64 (dueA (fun H => decide (H ∈ a1)) L1 W.hot W.warm x : Int)) /\ Below w1.heap.size w1 w' := fun w1 W1 L1 a1 D => by
  obtain ⟨e1, e2, e3, e4⟩ := D.is
  have := D.dx.dueD (dm := dm) (e2.trans ed) (by rw [e3, e4]; exact sh) x
  rwa [e3, e4] at this
 have C2 : ∀ w1 W1 L1 a1 (k : Nat), DGx N w w1 W W1 s bs Z Ls L1 r laid told a1 mk -> Calls Tryz.prog 66 #[.pointer (some ⟨W.R.b, 0, none⟩), .int .i64 x, .int .i64 (k : Int)] w1 fun e w' => e = .returned (.tuple #[.int .u64 (tailX L1 x k : Int), .bool (decide (0 < lenX L1 x k))]) /\ Below w1.heap.size w1 w' := fun w1 W1 L1 a1 k D => by
  obtain ⟨e1, e2, e3, e4⟩ := D.is
  obtain ⟨Zd, -, d⟩ := D.dx.d6
  have := d.tail x k
  rwa [e1] at this
 have C3 : ∀ w1 W1 L1 a1 (T : Nat), DGx N w w1 W W1 s bs Z Ls L1 r laid told a1 mk -> Calls Tryz.prog 67 #[.pointer (some ⟨dm, 0, none⟩), .int .u64 (T : Int)] w1 fun e w' => e = .returned (.bool (decide (T ∈ a1))) /\ w1 = w' := fun w1 W1 L1 a1 T D => D.dx.isD (D.is.2.1.trans ed) T
 have C4 : ∀ w1 W1 L1 a1 (T : Nat) (k : Int), DGx N w w1 W W1 s bs Z Ls L1 r laid told a1 mk -> Calls Tryz.prog 59 #[.pointer (some ⟨W.R.b, 0, none⟩), .int .u64 (T : Int), .int .i64 k] w1 fun e w' => e = .returned (.int .i64 ((shiftN qc s L1 T k).1 : Int)) /\ ∃ W2, DGx N w w' W W2 s bs Z Ls (shiftN qc s L1 T k).2 r laid told a1 mk /\ Grew qc w1 w' W1 W2 s s := fun w1 W1 L1 a1 T k D => by
  have := D.dx.shiftD T k
  rw [D.is.1] at this
  exact this.mono fun e w' ⟨e1, D2⟩ => ⟨e1, D.next D2⟩
 have C5 : ∀ w1 W1 L1 a1 (T : Nat), DGx N w w1 W W1 s bs Z Ls L1 r laid told a1 mk -> Calls Tryz.prog 68 #[.pointer (some ⟨dm, 0, none⟩), .int .u64 (T : Int), .bool false] w1 fun e w' => e = .returned (.tuple #[]) /\ ∃ W2, DGx N w w' W W2 s bs Z Ls L1 r laid told (actN T false a1) mk /\ Grew qc w1 w' W1 W2 s s := fun w1 W1 L1 a1 T D =>
  (D.dx.setD (dm := dm) (D.is.2.1.trans ed) T false (by have := D.dx.al; simp; exact this)).mono fun e w' ⟨e1, D2⟩ => ⟨e1, D.next D2⟩
 have CE : ∀ w1 W1 L1 a1, DGx N w w1 W W1 s bs Z Ls L1 r laid told a1 mk -> w1.cell? ⟨dm, 0, none⟩ = some (.pointer (some ⟨W.R.b, 0, none⟩)) := fun w1 W1 L1 a1 D => by
  have := (D.dx.cA (dm := dm) (D.is.2.1.trans ed)).1
  rwa [D.is.1] at this
 have LN : ∀ {k : Nat} {L1 : Nat -> Nat -> List Nat} {a1 : List Nat}, dueA (fun H => decide (H ∈ a1)) L1 W.hot W.warm x = k -> k ≠ 0 -> 0 < lenX L1 x (k : Int) := fun e h0 => (dueA_len sh x e h0).1
 replace hn := Lib.hid hn
 replace hP := Lib.hid hP
 replace D0 := Lib.hid D0
 replace C1 := Lib.hid C1
 replace C2 := Lib.hid C2
 replace C3 := Lib.hid C3
 replace C4 := Lib.hid C4
 replace C5 := Lib.hid C5
 replace CE := Lib.hid CE
 clear h ed sh
 generalize W.hot = hot at *
 generalize W.warm = warm at *
 go_enter Tryz.func29, Tryz.ntmps29
 go_wp2
 go_loopw [7] (fun v7 wr => ∃ (m cp : Nat) (A : Option Addr) (pre : List Nat) (L1 : Nat -> Nat -> List Nat) (a1 : List Nat) (W1 : W6), v7 = .slice A m cp /\ m <= n /\ Hid (P.1 = pre ++ (dbalN s hot warm x (n - m) L1 a1).1 /\ P.2 = (dbalN s hot warm x (n - m) L1 a1).2 /\ pre.length = m) /\ Hid (DGx N w wr W W1 s bs Z Ls L1 r laid told a1 mk) /\ Hid (wr.ownsRow w.heap.size 50 1 (.slice A m cp) m (pre.map uv)) /\ Hid (∀ b, (Value.slice A m cp).ownBlock = some b -> ∀ i, ¬ W1.foot qc s i b)) (fun v7 _ => n - lenV v7)
 case atStart => exact ⟨0, 0, none, [], Ld, act, W, rfl, Nat.zero_le _, Lib.hid ⟨by rw [hP.out]; rfl, by rw [hP.out]; rfl, rfl⟩, D0, Lib.hid (own_nil _ _ _), Lib.hid (fun b e => by cases e)⟩
 case round =>
  obtain ⟨m, cp, A, pre, L1, a1, W1, rfl, hm, hp, D, ho, hf⟩ := hrel
  by_cases hmn : m < n
  ·have d1 : decide ((m : Int) < links) = true := decide_eq_true (by omega)
   have S1 := Lib.hid (C1.out wr W1 L1 a1 D.out)
   obtain ⟨k, hk⟩ : ∃ k, dueA (fun H => decide (H ∈ a1)) L1 hot warm x = k := ⟨_, rfl⟩
   rw [hk] at S1
   go_wp2_with fail
   refine S1.out.mono ?_
   rintro e w1 ⟨rfl, b1⟩
   have D1 := D.out.below b1
   have own1 := own_keptN ho.out fun b e => b1.block b (own_blockN ho.out e)
   replace own1 := Lib.hid own1
   by_cases h0 : k = 0
   ·subst h0
    rw [dbalN_no hk] at hp
    obtain ⟨p1, p2, p3⟩ := hp.out
    have e1 : P.1 = pre := by rw [p1]; simp
    have DD := Lib.hid D1.dg
    have hp := Lib.hid (And.intro e1 p2)
    replace p3 := Lib.hid p3
    clear D1 b1 p1 p2 e1 hk
    go_wp2
    go_ret
    refine ⟨A, cp, ?_, ?_, ?_⟩
    ·rw [hp.out.1, p3.out]; rfl
    ·rw [hp.out.1, p3.out]; exact own1.out
    ·rw [hp.out.2]; exact DD.out
   ·have d2 : ((k : Int) == 0) = false := by rw [beq_eq_false_iff_ne]; omega
    have d3 : decide ((k : Int) = 0) = false := decide_eq_false (by omega)
    have d4 : decide (k = 0) = false := decide_eq_false h0
    obtain ⟨j, hj⟩ : ∃ j, n - m = j + 1 := ⟨n - m - 1, by omega⟩
    have hj2 : n - (m + 1) = j := by omega
    have hln := LN hk h0
    have S2 := C2.out w1 W1 L1 a1 k D1
    have c0 := CE.out w1 W1 L1 a1 D1
    obtain ⟨T, hT⟩ : ∃ T, tailX L1 x (k : Int) = T := ⟨_, rfl⟩
    rw [hT] at S2
    rw [hj, dbalN_yes hk h0 hT] at hp
    generalize decide (0 < lenX L1 x (k : Int)) = okb at S2
    replace S2 := Lib.hid S2
    replace D1 := Lib.hid D1
    replace hk := Lib.hid hk
    replace hT := Lib.hid hT
    replace hj := Lib.hid hj
    replace hj2 := Lib.hid hj2
    have szs : w.heap.size <= w1.heap.size := D1.out.grew.only.size
    replace szs := Lib.hid szs
    clear S1 b1 D ho hln
    go_wp2_with fail
    refine S2.out.mono ?_
    rintro e w2 ⟨rfl, b2⟩
    have D2 := D1.out.below b2
    have own2 := own_keptN own1.out fun b e => b2.block b (own_blockN own1.out e)
    have S3 := C3.out w2 W1 L1 a1 T D2
    have c0 := CE.out w2 W1 L1 a1 D2
    replace own2 := Lib.hid own2
    replace S3 := Lib.hid S3
    by_cases hTa : T ∈ a1
    ·have ea : decide (T ∈ a1) = true := decide_eq_true hTa
     rw [if_pos hTa] at hp
     have S4 := Lib.hid (C4.out w2 W1 L1 a1 T 2 D2)
     generalize (shiftN qc s L1 T 2).2 = L2 at *
     generalize (shiftN qc s L1 T 2).1 = RR at *
     rw [ea] at S3
     replace D2 := Lib.hid D2
     replace ea := Lib.hid ea
     replace hTa := Lib.hid hTa
     clear D1 own1 S2 b2
     go_wp2_with fail
     refine S3.out.mono ?_
     rintro e w3 ⟨rfl, rfl⟩
     go_wp2_with fail
     refine S4.out.mono ?_
     rintro e w3 ⟨rfl, W2, D3, G3⟩
     have S5 := Lib.hid (C5.out w3 W2 L2 a1 T D3)
     replace D3 := Lib.hid D3
     replace G3 := Lib.hid G3
     clear c0 S3 S4
     go_wp2_with fail
     refine S5.out.mono ?_
     rintro e w4 ⟨rfl, W3, D4, G4⟩
     have G := G3.out.trans G4
     have aw : ∀ b, (Value.slice A m cp).ownBlock = some b -> w4.heap[b]? = w2.heap[b]? /\ ∀ i, ¬ W3.foot qc s i b := fun b e => G.away (own_blockN own2.out e) (hf.out b e)
     have own4 := own_keptN own2.out fun b e => (aw b e).1
     have hf4 := fun b e => (aw b e).2
     have sz : w.heap.size <= w4.heap.size := D4.grew.only.size
     replace own4 := Lib.hid own4
     replace hf4 := Lib.hid hf4
     replace D4 := Lib.hid D4
     clear S5 G3 G4 G aw D3 D2 own2 hf
     go_wp2_with (at_builtin; refine wpList_app rfl _ _ _ rfl eiL w.heap.size _ _ _ rfl (own4.out.alloc _) (w4.heap.size + 1) (some ⟨w4.heap.size, 0, none⟩) 1 1 [.int .u64 (T : Int)] rfl ?c1 ?c2 ?c3 ?c4 ?c5 ?_)
     case c1 => exact reads_v w4 _ _
     case c2 => intro u hu; rw [List.mem_singleton] at hu; subst hu; rfl
     case c3 => unfold maxLen; omega
     case c4 => omega
     case c5 => rw [World.size_alloc]; omega
     intro VV w6 own6 hg6 hat6
     obtain ⟨A6, cp6, rfl⟩ := own_is own6
     have o6 : Only (fun k => (Value.slice A m cp).ownBlock = some k) w4 w6 := ((Only.refl _ w4).alloc _).grown hg6 (fun k e _ => e)
     have dx6 := D4.out.dx.only o6 fun i b hb e => hf4.out b e i hb
     have D6' : DGx N w w6 W W3 s bs Z Ls L2 r laid told (actN T false a1) mk := ⟨D4.out.eq_, D4.out.grew.aside o6 fun b e => own_base own4.out e, dx6⟩
     have hf6 : ∀ b, (Value.slice A6 (m + 1) cp6).ownBlock = some b -> ∀ i, ¬ W3.foot qc s i b := fun b e i hb => by
      rcases hat6 with h1 | h1
      ·rw [h1] at e; exact hf4.out b e i hb
      ·rw [h1] at e
       injection e with e
       have := D4.out.dx.wat.lt i b hb
       omega
     have own6' : w6.ownsRow w.heap.size 50 1 (.slice A6 (m + 1) cp6) (m + 1) ((pre ++ [T]).map uv) := by rw [List.map_append]; exact own6
     replace own6' := Lib.hid own6'
     replace hf6 := Lib.hid hf6
     replace D6' := Lib.hid D6'
     clear own6 hg6 hat6 o6 dx6 D4 hf4 own4
     go_wp2
     go_roundw
     case rel =>
      refine ⟨m + 1, cp6, A6, pre ++ [T], L2, actN T false a1, W3, rfl, by omega, Lib.hid ⟨?_, ?_, ?_⟩, D6', own6', hf6⟩
      ·rw [hp.out.1, hj2.out]; simp
      ·rw [hp.out.2.1, hj2.out]
      ·rw [List.length_append, hp.out.2.2]; rfl
     case measure => simp [lenV] <;> omega
    ·have ea : decide (T ∈ a1) = false := decide_eq_false hTa
     rw [if_neg hTa] at hp
     have S4 := Lib.hid (C4.out w2 W1 L1 a1 T 3 D2)
     generalize (shiftN qc s L1 T 3).2 = L2 at *
     generalize (shiftN qc s L1 T 3).1 = RR at *
     rw [ea] at S3
     replace D2 := Lib.hid D2
     replace ea := Lib.hid ea
     replace hTa := Lib.hid hTa
     clear D1 own1 S2 b2
     go_wp2_with fail
     refine S3.out.mono ?_
     rintro e w3 ⟨rfl, rfl⟩
     go_wp2_with fail
     refine S4.out.mono ?_
     rintro e w3 ⟨rfl, W2, D3, G3⟩
     have S5 := Lib.hid (C5.out w3 W2 L2 a1 T D3)
     replace D3 := Lib.hid D3
     replace G3 := Lib.hid G3
     clear c0 S3 S4
     go_wp2_with fail
     refine S5.out.mono ?_
     rintro e w4 ⟨rfl, W3, D4, G4⟩
     have G := G3.out.trans G4
     have aw : ∀ b, (Value.slice A m cp).ownBlock = some b -> w4.heap[b]? = w2.heap[b]? /\ ∀ i, ¬ W3.foot qc s i b := fun b e => G.away (own_blockN own2.out e) (hf.out b e)
     have own4 := own_keptN own2.out fun b e => (aw b e).1
     have hf4 := fun b e => (aw b e).2
     have sz : w.heap.size <= w4.heap.size := D4.grew.only.size
     replace own4 := Lib.hid own4
     replace hf4 := Lib.hid hf4
     replace D4 := Lib.hid D4
     clear S5 G3 G4 G aw D3 D2 own2 hf
     go_wp2_with (at_builtin; refine wpList_app rfl _ _ _ rfl eiL w.heap.size _ _ _ rfl (own4.out.alloc _) (w4.heap.size + 1) (some ⟨w4.heap.size, 0, none⟩) 1 1 [.int .u64 (T : Int)] rfl ?c1 ?c2 ?c3 ?c4 ?c5 ?_)
     case c1 => exact reads_v w4 _ _
     case c2 => intro u hu; rw [List.mem_singleton] at hu; subst hu; rfl
     case c3 => unfold maxLen; omega
     case c4 => omega
     case c5 => rw [World.size_alloc]; omega
     intro VV w6 own6 hg6 hat6
     obtain ⟨A6, cp6, rfl⟩ := own_is own6
     have o6 : Only (fun k => (Value.slice A m cp).ownBlock = some k) w4 w6 := ((Only.refl _ w4).alloc _).grown hg6 (fun k e _ => e)
     have dx6 := D4.out.dx.only o6 fun i b hb e => hf4.out b e i hb
     have D6' : DGx N w w6 W W3 s bs Z Ls L2 r laid told (actN T false a1) mk := ⟨D4.out.eq_, D4.out.grew.aside o6 fun b e => own_base own4.out e, dx6⟩
     have hf6 : ∀ b, (Value.slice A6 (m + 1) cp6).ownBlock = some b -> ∀ i, ¬ W3.foot qc s i b := fun b e i hb => by
      rcases hat6 with h1 | h1
      ·rw [h1] at e; exact hf4.out b e i hb
      ·rw [h1] at e
       injection e with e
       have := D4.out.dx.wat.lt i b hb
       omega
     have own6' : w6.ownsRow w.heap.size 50 1 (.slice A6 (m + 1) cp6) (m + 1) ((pre ++ [T]).map uv) := by rw [List.map_append]; exact own6
     replace own6' := Lib.hid own6'
     replace hf6 := Lib.hid hf6
     replace D6' := Lib.hid D6'
     clear own6 hg6 hat6 o6 dx6 D4 hf4 own4
     go_wp2
     go_roundw
     case rel =>
      refine ⟨m + 1, cp6, A6, pre ++ [T], L2, actN T false a1, W3, rfl, by omega, Lib.hid ⟨?_, ?_, ?_⟩, D6', own6', hf6⟩
      ·rw [hp.out.1, hj2.out]; simp
      ·rw [hp.out.2.1, hj2.out]
      ·rw [List.length_append, hp.out.2.2]; rfl
     case measure => simp [lenV] <;> omega
  ·obtain rfl : m = n := by omega
   have d1 : decide ((m : Int) < links) = false := decide_eq_false (by omega)
   obtain ⟨p1, p2, p3⟩ := hp.out
   have e1 : P.1 = pre := by rw [p1, Nat.sub_self]; simp [dbalN]
   have e2 : P.2 = (L1, a1) := by rw [p2, Nat.sub_self]; rfl
   have DD := Lib.hid D.out.dg
   have hp := Lib.hid (And.intro e1 e2)
   replace p3 := Lib.hid p3
   clear p1 p2 e1 e2
   go_wp2
   go_ret
   refine ⟨A, cp, ?_, ?_, ?_⟩
   ·rw [hp.out.1, p3.out]; rfl
   ·rw [hp.out.1, p3.out]; exact ho.out
   ·rw [hp.out.2]; exact DD.out
end
def Hf (N : Nat) (w1 v : World) (W : W6) (s : St) (bs : List UInt8) (Z : Nat -> Option Zd) (Ls Ld : Nat -> Nat -> List Nat) (r : RS) (laid told act : List Nat) (mk : Nat -> Nat) : Prop :=
 ∃ bs' Z' W1, bs'.length = bs.length /\ (∀ H, (Z' H).isSome = (Z H).isSome) /\ (∃ R' vA', W1 = { W with R := R', vA := vA' } /\ R'.b = W.R.b) /\ Grew qc w1 v W W1 s s /\ DX N v W1 s bs' Z' Ls Ld r laid told act mk
theorem QL.cg {s : St} {Z Z' : Nat -> Option Zd} {L : Nat -> Nat -> List Nat} (h : QL s Z L) (z : ∀ H, (Z' H).isSome = (Z H).isSome) : QL s Z' L := by
 obtain ⟨Z1, F, e, q⟩ := h
 exact ⟨Z1, F, fun K => (e K).trans (z K).symm, q⟩
section
variable {N : Nat} {w1 v : World} {W : W6} {s : St} {bs : List UInt8} {Z : Nat -> Option Zd} {Ls Ld : Nat -> Nat -> List Nat} {r : RS} {laid told act : List Nat} {mk : Nat -> Nat} (h : Hf N w1 v W s bs Z Ls Ld r laid told act mk)
include h
theorem Hf.cells {N0 : Nat} {o : Op6} (B : Blk w1 N0 64 o.cells) (hn : ∀ i, ¬ W.foot qc s i N0) : Cmv W.b N0 W.gm W.dm W.L.g W.gq W.R.b o v := by
 obtain ⟨bs', Z', W1, e1, z1, ⟨R', vA', rfl, eb⟩, G, D⟩ := h
 have BO := D.wat.own
 have B0 := (G.away B.lt hn).1.trans B
 have c4 := BO.cell 4
 refine ⟨⟨BO.cell 0, BO.cell 1, BO.cell 2, ?_, BO.cell 5⟩, op6_cells B0⟩
 rw [<- eb]
 exact c4
theorem Hf.prog {F : FuncId} {args : Array Value} {x : Ending} {Lx : Nat -> Nat -> List Nat} {mk' : Nat -> Nat} {g : Nat} (hg : W.gm = some g)
  (C : ∀ bs' Z', (∀ H, (Z' H).isSome = (Z H).isSome) -> LS v W.L s bs' Z' W.gq W.gl Ls mk g W.hot W.warm -> Calls Tryz.prog F args v fun e v' => e = x /\ DL v v' W.L s bs' Z' W.gq W.gl Lx mk' g W.hot W.warm) :
  Calls Tryz.prog F args v fun e v' => e = x /\ Hf N w1 v' W s bs Z Lx Ld r laid told act mk' := by
 obtain ⟨bs', Z', W1, e1, z1, ⟨R', vA', rfl, eb⟩, G, D⟩ := h
 refine (C bs' Z' z1 (D.wat.ls (g := g) hg)).mono ?_
 rintro e v' ⟨rfl, D2⟩
 obtain ⟨bs2, Z2, e2, z2, G2, A⟩ := D.wat.dl (g := g) hg D2
 exact ⟨rfl, bs2, Z2, _, e2.trans e1, fun H => (z2 H).trans (z1 H), ⟨R', vA', rfl, eb⟩, G.trans G2, A, D.rel, fun H i x p hf => by rw [z2 H]; exact D.agr H i x p hf, D.ch, D.la, D.dq.cg z2, D.al⟩
theorem Hf.que {F : FuncId} {args : Array Value} {x : Ending} {RR : Nat} {Lx : Nat -> Nat -> List Nat}
  (C : ∀ bs' Z', (∀ H, (Z' H).isSome = (Z H).isSome) -> QW v W.L qc s bs' Z' W.gq W.gl Ls -> Calls Tryz.prog F args v fun e v' => e = x /\ Did v v' W.L qc s bs' Z' W.gq W.gl (RR, Lx)) :
  Calls Tryz.prog F args v fun e v' => e = x /\ Hf N w1 v' W s bs Z Lx Ld r laid told act mk := by
 obtain ⟨bs', Z', W1, e1, z1, ⟨R', vA', rfl, eb⟩, G, D⟩ := h
 refine (C bs' Z' z1 D.wat.q).mono ?_
 rintro e v' ⟨rfl, o, bs2, Z2, hE, z2, -, Q⟩
 have A := D.wat.turn o Q (D.wat.mks.ed D.wat.okc D.wat.good hE z2)
 exact ⟨rfl, bs2, Z2, _, hE.1.trans e1, fun H => (z2 H).trans (z1 H), ⟨R', vA', rfl, eb⟩, G.trans (grew_turn o), A, D.rel, fun H i x p hf => by rw [z2 H]; exact D.agr H i x p hf, D.ch, D.la, D.dq.cg z2, D.al⟩
theorem Hf.docu {F : FuncId} {args : Array Value} {X : Ending -> Prop} {Lx : Nat -> Nat -> List Nat} {act' : List Nat}
  (C : ∀ bs' Z' W1, (∀ H, (Z' H).isSome = (Z H).isSome) -> W1.R.b = W.R.b -> W1.dm = W.dm -> W1.hot = W.hot -> W1.warm = W.warm -> DX N v W1 s bs' Z' Ls Ld r laid told act mk -> Calls Tryz.prog F args v fun e v' => X e /\ DG N v v' W1 s bs' Z' Ls Lx r laid told act' mk) :
  Calls Tryz.prog F args v fun e v' => X e /\ Hf N w1 v' W s bs Z Ls Lx r laid told act' mk := by
 obtain ⟨bs', Z', W1, e1, z1, ⟨R', vA', rfl, eb⟩, G, D⟩ := h
 refine (C bs' Z' { W with R := R', vA := vA' } z1 eb rfl rfl rfl D).mono ?_
 rintro e v' ⟨hX, R2, v2, e2, G2, D2⟩
 exact ⟨hX, bs', Z', _, e1, z1, ⟨R2, v2, rfl, e2.trans eb⟩, G.trans G2, D2⟩
end
section
variable {N : Nat} {w : World} {W : W6} {s : St} {bs : List UInt8} {Z : Nat -> Option Zd} {Ls : Nat -> Nat -> List Nat} {r : RS} {laid told act : List Nat} {mk : Nat -> Nat} {t : Nat} (h : LI N w W s bs Z Ls r laid told act mk t)
include h
theorem LI.hf (ht : t <= 60000) {v : World} (b : Below w.heap.size w v) : Hf N w v W s bs Z Ls Ls r laid told act mk :=
 ⟨bs, Z, W, rfl, fun _ => rfl, ⟨W.R, W.vA, rfl, rfl⟩, (Grew.refl _ _ _ _).step b, (h.below b).dx ht⟩
theorem LI.end_ {v : World} {Lx : Nat -> Nat -> List Nat} {act' : List Nat} {mk' : Nat -> Nat} (H : Hf N w v W s bs Z Lx Lx r laid told act' mk') (hl : act'.length <= t + 1) (ab : ∀ H, isN qc s Z H = true -> (H ∈ act' ↔ mk' H % 2 = 1)) (mr : ∀ H, mk' H / 2 = mk H / 2) : Goes N w v W s (t + 1) := by
 obtain ⟨bs', Z', W1, e1, z1, ⟨R', vA', rfl, eb⟩, G, D⟩ := H
 exact ⟨{ W with R := R', vA := vA' }, s, bs', Z', Lx, r, laid, told, act', mk', ⟨rfl, rfl, rfl, rfl, rfl⟩, G, D.wat, h.rel, D.agr, e1.trans h.bs, by have := h.ch; omega, by have := h.la; omega, by have := h.tl; omega, hl, h.tlt, h.lg, h.ln, h.lt, fun K hK => ab K (by rw [<- isN_congr z1]; exact hK), fun K hK => (mr K).trans (h.mr K (by rw [<- isN_congr z1]; exact hK)), h.dmS, h.sh⟩
end
theorem mk_div (mk : Nat -> Nat) (H : Nat) (on : Bool) (K : Nat) : mkOn mk H on K / 2 = mk K / 2 := by
 unfold mkOn
 by_cases e : K = H
 ·rw [e, upd_at]
  cases on
  ·show 2 * (mk H / 2) / 2 = _; omega
  ·show (2 * (mk H / 2) + 1) / 2 = _; omega
 ·rw [upd_ne _ _ e]
theorem ab_on {mk : Nat -> Nat} {act : List Nat} (H : Nat) (on : Bool) {K : Nat} (h : K ∈ act ↔ mk K % 2 = 1) : K ∈ actN H on act ↔ mkOn mk H on K % 2 = 1 := by
 unfold mkOn
 by_cases e : K = H
 ·rw [e, actN_self, upd_at]
  cases on
  ·exact ⟨fun e => (by cases e), fun e2 => by
    have e3 : 2 * (mk H / 2) % 2 = 1 := e2
    omega⟩
  ·refine ⟨fun _ => ?_, fun _ => rfl⟩
   show (2 * (mk H / 2) + 1) % 2 = 1
   omega
 ·rw [actN_other _ _ e, upd_ne _ _ e]
  exact h
theorem QL.tot {s : St} {Z : Nat -> Option Zd} {Ls : Nat -> Nat -> List Nat} (q : QL s Z Ls) {laid : List Nat} (hl : ∀ H, isN qc s Z H = true -> H ∈ laid) (x : Int) : totX Ls x <= laid.length := by
 obtain ⟨Z1, F, e1, q⟩ := q
 unfold totX lenX lsN
 by_cases hx : 0 <= x /\ x < (qc.nc : Int)
 ·rw [if_pos ⟨hx.1, hx.2, by decide, by decide⟩, if_pos ⟨hx.1, hx.2, by decide, by decide⟩, if_pos ⟨hx.1, hx.2, by decide, by decide⟩]
  have hX : x.toNat < qc.nc := by omega
  have := nodup_sub (l := (Ls x.toNat 0 ++ Ls x.toNat 1) ++ Ls x.toNat 2) (m := laid) (by
   rw [List.nodup_append, List.nodup_append]
   refine ⟨⟨q.nd _ 0 hX (by decide), q.nd _ 1 hX (by decide), fun a ha b hb e => ?_⟩, q.nd _ 2 hX (by decide), fun a ha b hb e => ?_⟩
   ·subst e
    have := (q.dj _ 0 _ 1 a hX (by decide) hX (by decide) ha hb).2
    omega
   ·subst e
    rcases List.mem_append.1 ha with ha | ha
    ·have := (q.dj _ 0 _ 2 a hX (by decide) hX (by decide) ha hb).2
     omega
    ·have := (q.dj _ 1 _ 2 a hX (by decide) hX (by decide) ha hb).2
     omega) (fun a ha => by
   refine hl a ?_
   rw [<- isN_congr e1]
   rcases List.mem_append.1 ha with ha | ha
   ·rcases List.mem_append.1 ha with ha | ha
    ·exact isN_it (q.is hX (by decide) ha)
    ·exact isN_it (q.is hX (by decide) ha)
   ·exact isN_it (q.is hX (by decide) ha))
  rw [List.length_append, List.length_append] at this
  exact this
 ·rw [if_neg (fun e => hx ⟨e.1, e.2.1⟩), if_neg (fun e => hx ⟨e.1, e.2.1⟩), if_neg (fun e => hx ⟨e.1, e.2.1⟩)]
  simp
theorem LI.laid_ {N : Nat} {w : World} {W : W6} {s : St} {bs : List UInt8} {Z : Nat -> Option Zd} {Ls : Nat -> Nat -> List Nat} {r : RS} {laid told act : List Nat} {mk : Nat -> Nat} {t : Nat} (h : LI N w W s bs Z Ls r laid told act mk t) (H : Nat) (hI : isN qc s Z H = true) : H ∈ laid := by
 unfold isN at hI
 obtain ⟨i1, i2⟩ := Bool.and_eq_true_iff.1 hI
 obtain ⟨⟨i, x, p⟩, hf⟩ := Option.isSome_iff_exists.1 i1
 exact (h.agr H i x p hf).1 i2
def bndN (l : Int) : Int := if l <= 2000 then l else 2000
theorem boundedC (w : World) (l : Int) : Calls Tryz.prog 30 #[.int .i64 l] w fun e w' => e = .returned (.int .i64 (bndN l)) /\ w = w' := by
 unfold bndN
 by_cases h : l <= 2000
 ·rw [if_pos h]
  have d1 : decide ((2000 : Int) < l) = false := decide_eq_false (by omega)
  clear h
  go_enter Tryz.func30, Tryz.ntmps30
  go_wp2
  go_ret
  exact ⟨rfl, rfl⟩
 ·rw [if_neg h]
  have d1 : decide ((2000 : Int) < l) = true := decide_eq_true (by omega)
  clear h
  go_enter Tryz.func30, Tryz.ntmps30
  go_wp2
  go_ret
  exact ⟨rfl, rfl⟩
section
variable {N : Nat} {w : World} {W : W6} {s : St} {bs : List UInt8} {Z : Nat -> Option Zd} {Ls : Nat -> Nat -> List Nat} {r : RS} {laid told act : List Nat} {mk : Nat -> Nat} {t : Nat} (h : LI N w W s bs Z Ls r laid told act mk t) (ht : t <= 60000) (o : Op6) (ok : o.Ok)
include h ht ok
theorem LI.begin : ∃ w1, w1 = w.alloc (.cells o.cells 64) /\ Below w.heap.size w w1 /\ LI N w1 W s bs Z Ls r laid told act mk t /\ Blk w1 w.heap.size 64 o.cells /\ (∀ i, ¬ W.foot qc s i w.heap.size) /\
  Calls Tryz.prog 51 #[.pointer (some ⟨W.b, 0, none⟩), .agg o.cells] w1 (fun e w' => e = .returned (.int .u64 (hdN told o : Int)) /\ Below w1.heap.size w1 w') := by
 have b1 : Below w.heap.size w (w.alloc (.cells o.cells 64)) := (Below.refl _ _).alloc (Nat.le_refl _) _
 refine ⟨_, rfl, b1, h.below b1, Blk.new w _ _, fun i e => ?_, handleC (h.below b1) ht o ok⟩
 have := h.wat.lt i _ e
 omega
end
section
variable {N : Nat} {w : World} {W : W6} {s : St} {bs : List UInt8} {Z : Nat -> Option Zd} {Ls : Nat -> Nat -> List Nat} {r : RS} {laid told act : List Nat} {mk : Nat -> Nat} {t : Nat} (h : LI N w W s bs Z Ls r laid told act mk t) (ht : t <= 900) (o : Op6) (ok : o.Ok)
include h ht ok
theorem movesC (hgm : (∃ g, W.gm = some g) \/ (o.dO = 1 \/ o.dO = 2 \/ o.dO = 10 \/ o.dO = 12)) : Calls Tryz.prog 26 #[.pointer (some ⟨W.b, 0, none⟩), .agg o.cells] w fun e w' => e = .returned (.bool true) /\ Goes N w w' W s (t + 1) := by
 have ht6 : t <= 60000 := by omega
 obtain ⟨w1, hw1, b1, h1, B1, hn, HC⟩ := h.begin ht6 o ok
 have hH := hdN_lt h.tlt ok
 obtain ⟨d, edm⟩ := h.dmS
 have okc := h.wat.okc
 have g := h.wat.good
 have fin : ∀ {v}, Goes N w1 v W s (t + 1) -> Goes N w v W s (t + 1) := fun G => G.behind b1
 have P0s : ∀ v n, Below w1.heap.size w1 v -> Below w1.heap.size w1 (v.drewN n) := fun v n b => below_drewN b n
 have P0c : ∀ v, Below w1.heap.size w1 v -> Cmv W.b w.heap.size W.gm W.dm W.L.g W.gq W.R.b o v := fun v b => (h1.hf ht6 b).cells B1 hn
 rw [hw1] at HC
 have hs : ∀ v, Below w1.heap.size w1 v -> Hf N w1 v W s bs Z Ls Ls r laid told act mk := fun v b => h1.hf ht6 b
 have hc : ∀ {Lp Ld a m} v, Hf N w1 v W s bs Z Lp Ld r laid told a m -> Cmv W.b w.heap.size W.gm W.dm W.L.g W.gq W.R.b o v := fun v H => H.cells B1 hn
 by_cases d1 : o.dO = 1
 ·exact (armMake w W.b o _ W.gm W.dm W.L.g W.gq W.R.b (fun v => Below w1.heap.size w1 v) (fun v => Goes N w1 v W s (t + 1)) (by rw [<- hw1] at HC ⊢; exact HC) P0s P0c d1 fun v b => (makesC (h1.below b) ht6 o ok).mono fun e w' ⟨e1, G⟩ => ⟨e1, G.behind b⟩).mono fun e w' ⟨e1, G⟩ => ⟨e1, fin G⟩
 by_cases d2 : o.dO = 2
 ·exact (armBare w W.b o _ W.gm W.dm W.L.g W.gq W.R.b (fun v => Below w1.heap.size w1 v) (fun v => Goes N w1 v W s (t + 1)) (by rw [<- hw1] at HC ⊢; exact HC) P0s P0c d2 fun v b => (makesC (h1.below b) ht6 o ok).mono fun e w' ⟨e1, G⟩ => ⟨e1, G.behind b⟩).mono fun e w' ⟨e1, G⟩ => ⟨e1, fin G⟩
 by_cases d3 : o.dO = 3
 ·obtain ⟨n, GB⟩ := giveBoth h1 ht6 hH
  refine (armGive w W.b o (hdN told o) n W.gm W.dm W.L.g W.gq W.R.b (fun v => Below w1.heap.size w1 v) (fun v => Calls Tryz.prog 54 #[.pointer (some ⟨W.R.b, 0, none⟩), .int .u64 (hdN told o : Int)] v fun e w' => e = .returned (.int .i64 (n : Int)) /\ Gv W w' /\ Goes N w1 w' W s t) (fun v => Goes N w1 v W s (t + 1)) (by rw [<- hw1] at HC ⊢; exact HC) P0s P0c d3 (stK (clsN qc s (hdN told o)) Ls (hdN told o)) (clsN qc s (hdN told o)) (fun v b => ((h1.below b).d6w ht6).whereC _) (fun v b _ => h1.stays b (Nat.le_succ _)) (fun v b h0 => ?_) (fun v P1 => P1.mono fun e w' ⟨e1, c, G⟩ => ⟨e1, c, G.more (Nat.le_succ _)⟩)).mono fun e w' ⟨e1, G⟩ => ⟨e1, fin G⟩
  refine (GB v b).mono fun e w' ⟨e1, c, P1⟩ => ⟨e1, c, P1 ?_⟩
  rcases (h1.d6w ht6).at6 (hdN told o) with ⟨-, e2⟩ | ⟨k, l1, l2, e2, -⟩
  ·exact e2
  ·omega
 by_cases d10 : o.dO = 10
 ·refine (armShift w W.b o (hdN told o) (shiftN qc s Ls (hdN told o) o.b).1 W.gm W.dm W.L.g W.gq W.R.b (fun v => Below w1.heap.size w1 v) (fun v => Hf N w1 v W s bs Z (shiftN qc s Ls (hdN told o) o.b).2 Ls r laid told act mk) (fun v => Hf N w1 v W s bs Z (shiftN qc s Ls (hdN told o) o.b).2 (shiftN qc s Ls (hdN told o) o.b).2 r laid told act mk) (by rw [<- hw1] at HC ⊢; exact HC) P0s P0c hc hc d10 (fun v b => (hs v b).que fun bs' Z' z' q => shiftP q _ hH o.b) (fun v P1 => P1.docu fun bs' Z' W2 z' eb ed eh ew D => ?_)).mono fun e w' ⟨e1, H2⟩ => ⟨e1, fin (h1.end_ H2 (by have := h.al; omega) h.ab fun _ => rfl)⟩
  rw [<- eb]
  exact D.shiftD _ o.b
 by_cases d12 : o.dO = 12
 ·refine (armPush w W.b o (hdN told o) (pushN qc s Z Ls (hdN told o) o.b false).1 W.gm W.dm W.L.g W.gq W.R.b (fun v => Below w1.heap.size w1 v) (fun v => Hf N w1 v W s bs Z (pushN qc s Z Ls (hdN told o) o.b false).2 Ls r laid told act mk) (fun v => Hf N w1 v W s bs Z (pushN qc s Z Ls (hdN told o) o.b false).2 (pushN qc s Z Ls (hdN told o) o.b false).2 r laid told act mk) (by rw [<- hw1] at HC ⊢; exact HC) P0s P0c hc hc d12 (fun v b => (hs v b).que (RR := (pushN qc s Z Ls (hdN told o) o.b false).1) fun bs' Z' z' q => ?_) (fun v P1 => P1.docu fun bs' Z' W2 z' eb ed eh ew D => ?_)).mono fun e w' ⟨e1, H2⟩ => ⟨e1, fin (h1.end_ H2 (by have := h.al; omega) h.ab fun _ => rfl)⟩
  ·have := pushP q _ hH o.b
   rw [pushN_cg z'] at this
   exact this
  ·have := D.pushD (hdN told o) o.b false
   rw [pushN_cg z', eb] at this
   exact this
 by_cases dE : o.dO ≠ 4 /\ o.dO ≠ 5 /\ o.dO ≠ 6 /\ o.dO ≠ 7
 ·exact (armElse w W.b o _ W.gm W.dm W.L.g W.gq W.R.b (fun v => Below w1.heap.size w1 v) (fun v => Goes N w1 v W s (t + 1)) (by rw [<- hw1] at HC ⊢; exact HC) P0s P0c ⟨d1, d2, d3, dE.1, dE.2.1, dE.2.2.1, dE.2.2.2, d10, d12⟩ fun v b => h1.stays b (Nat.le_succ _)).mono fun e w' ⟨e1, G⟩ => ⟨e1, fin G⟩
 obtain ⟨gp, hg⟩ : ∃ g, W.gm = some g := hgm.resolve_right (by omega)
 by_cases d4 : o.dO = 4
 ·refine (armEnter w W.b o (hdN told o) (pushN qc s Z Ls (hdN told o) 1 false).1 W.gm W.dm W.L.g W.gq W.R.b (fun v => Below w1.heap.size w1 v) (fun v => Hf N w1 v W s bs Z (pushN qc s Z Ls (hdN told o) 1 false).2 Ls r laid told act (entM mk (hdN told o) (pushN qc s Z Ls (hdN told o) 1 false).1)) (fun v => Hf N w1 v W s bs Z (pushN qc s Z Ls (hdN told o) 1 false).2 (pushN qc s Z Ls (hdN told o) 1 false).2 r laid told (entA act (hdN told o) (pushN qc s Z Ls (hdN told o) 1 false).1) (entM mk (hdN told o) (pushN qc s Z Ls (hdN told o) 1 false).1)) (by rw [<- hw1] at HC ⊢; exact HC) P0s P0c hc hc d4 hg edm (fun v b => (hs v b).prog hg fun bs' Z' z' q => ?_) (fun v P1 => P1.docu fun bs' Z' W2 z' eb ed eh ew D => ?_)).mono fun e w' ⟨e1, H2⟩ => ⟨e1, fin (h1.end_ H2 ?_ ?_ ?_)⟩
  ·have := enterC q _ hH
   rw [pushN_cg z'] at this
   exact this
  ·have := D.enterD (dm := d) (ed.trans edm) (hdN told o)
   rw [pushN_cg z'] at this
   exact this
  all_goals generalize (pushN qc s Z Ls (hdN told o) 1 false).1 = RR at *
  ·unfold entA
   have := h.al
   have := actN_len (hdN told o) false act
   split <;> omega
  ·intro K hK
   unfold entA entM
   split
   ·exact ab_on _ _ (h.ab K hK)
   ·exact h.ab K hK
  ·intro K
   unfold entM
   split
   ·exact mk_div _ _ _ _
   ·rfl
 by_cases d5 : o.dO = 5
 ·refine (armLeave w W.b o (hdN told o) (dropN qc s Ls (hdN told o)).1 W.gm W.dm W.L.g W.gq W.R.b (fun v => Below w1.heap.size w1 v) (fun v => Hf N w1 v W s bs Z (dropN qc s Ls (hdN told o)).2 Ls r laid told act mk) (fun v => Hf N w1 v W s bs Z (dropN qc s Ls (hdN told o)).2 (dropN qc s Ls (hdN told o)).2 r laid told act mk) (by rw [<- hw1] at HC ⊢; exact HC) P0s P0c hc hc d5 hg edm (fun v b => (hs v b).prog hg fun bs' Z' z' q => leaveC q _ hH) (fun v P1 => P1.docu fun bs' Z' W2 z' eb ed eh ew D => ?_)).mono fun e w' ⟨e1, H2⟩ => ⟨e1, fin (h1.end_ H2 (by have := h.al; omega) h.ab fun _ => rfl)⟩
  exact D.leaveD (dm := d) (ed.trans edm) _
 by_cases d6 : o.dO = 6
 ·refine (armHit w W.b o (hdN told o) (hitR s Ls (hdN told o)) W.gm W.dm W.L.g W.gq W.R.b (fun v => Below w1.heap.size w1 v) (fun v => Hf N w1 v W s bs Z Ls Ls r laid told act (hitM s Ls mk (hdN told o))) (fun v => Hf N w1 v W s bs Z Ls Ls r laid told (hitA s Ls act (hdN told o)) (hitM s Ls mk (hdN told o))) (by rw [<- hw1] at HC ⊢; exact HC) P0s P0c hc hc d6 hg edm (fun v b => (hs v b).prog hg fun bs' Z' z' q => hitC q _ hH) (fun v P1 => P1.docu fun bs' Z' W2 z' eb ed eh ew D => ?_)).mono fun e w' ⟨e1, H2⟩ => ⟨e1, fin (h1.end_ H2 ?_ ?_ ?_)⟩
  ·exact D.hitD (dm := d) (ed.trans edm) _ (by have := h.al; omega)
  ·unfold hitA
   have := h.al
   have := actN_len (hdN told o) true act
   split <;> omega
  ·intro K hK
   unfold hitA hitM
   split
   ·exact h.ab K hK
   ·exact ab_on _ _ (h.ab K hK)
  ·intro K
   unfold hitM
   split
   ·rfl
   ·exact mk_div _ _ _ _
 have d7 : o.dO = 7 := by omega
 have q := h.wat.q.ql
 have tot := QL.tot q h.laid_ o.c
 have phi := phi_two Ls mk o.c
 have la := h.la
 obtain ⟨k1, k2, k3, k4, k5⟩ := bal_phi okc g h.sh o.b.toNat Ls mk (x := o.c) q
 have eB : balN s Z W.hot W.warm o.c (bndN o.b).toNat Ls mk = balN s Z W.hot W.warm o.c o.b.toNat Ls mk := by
  unfold bndN
  split
  ·rfl
  ·exact (k5 (by omega)).2 _ (by omega)
 obtain ⟨e1, e2, e3, e4⟩ := bal_both okc g h.sh (bndN o.b).toNat Ls mk act (x := o.c) q h.ab
 rw [eB] at e1 e2 e3
 have hbd : bndN o.b <= 2000 := by unfold bndN; split <;> omega
 refine (armBalance w W.b o (hdN told o) (balN s Z W.hot W.warm o.c o.b.toNat Ls mk).1.length W.gm W.dm W.L.g W.gq W.R.b (fun v => Below w1.heap.size w1 v) (fun v => Hf N w1 v W s bs Z (balN s Z W.hot W.warm o.c o.b.toNat Ls mk).2.1 Ls r laid told act (balN s Z W.hot W.warm o.c o.b.toNat Ls mk).2.2) (fun v => Hf N w1 v W s bs Z (balN s Z W.hot W.warm o.c o.b.toNat Ls mk).2.1 (balN s Z W.hot W.warm o.c o.b.toNat Ls mk).2.1 r laid told (dbalN s W.hot W.warm o.c (bndN o.b).toNat Ls act).2.2 (balN s Z W.hot W.warm o.c o.b.toNat Ls mk).2.2) (by rw [<- hw1] at HC ⊢; exact HC) P0s P0c hc hc d7 hg edm (bndN o.b) (fun v => boundedC v _) (fun v b => (hs v b).prog hg fun bs' Z' z' q => ?_) (fun v P1 => (P1.docu (X := fun e => ∃ A cp, e = .returned (.slice A (balN s Z W.hot W.warm o.c o.b.toNat Ls mk).1.length cp)) fun bs' Z' W2 z' eb ed eh ew D => ?_))).mono fun e w' ⟨e1, H2⟩ => ⟨e1, fin (h1.end_ H2 ?_ e3 k4)⟩
 ·have := balanceC q h.sh o.c o.b ok.b
  rwa [balN_nxt z'] at this
 ·have := D.balanceD (dm := d) (ed.trans edm) (by rw [eh, ew]; exact h.sh) o.c (bndN o.b) hbd
  rw [eh, ew, e1, e2] at this
  exact this.mono fun e w' ⟨A, cp, e1, _, G⟩ => ⟨⟨A, cp, e1⟩, G⟩
 ·have := h.al
  omega
end
def OCells (w : World) (b o : Nat) (p : Op6) : Prop := w.cell? ⟨b, o, none⟩ = some (.int .i64 p.dO) /\ w.cell? ⟨b, o + 1, none⟩ = some (.int .i64 p.a) /\ w.cell? ⟨b, o + 2, none⟩ = some (.int .i64 p.b) /\
 w.cell? ⟨b, o + 3, none⟩ = some (.int .i64 p.c) /\ w.cell? ⟨b, o + 4, none⟩ = some (.int .u64 (p.h : Int)) /\ w.cell? ⟨b, o + 5, none⟩ = some (.bool p.raw)
def ORow (W : World) (a0 : Option Addr) (k : Nat) (p : Op6) : Prop := ∃ b off, a0 = some (⟨b, off, none⟩ : Addr) /\ b < W.heap.size /\ p.Ok /\ OCells W b (off + k * 6) p
theorem OCells.below {W w : World} {B b o : Nat} {p : Op6} (h : OCells W b o p) (k : Below B W w) (hb : b < B) : OCells w b o p :=
 ⟨(k.cell (p := ⟨b, o, none⟩) hb).trans h.1, (k.cell (p := ⟨b, o + 1, none⟩) hb).trans h.2.1, (k.cell (p := ⟨b, o + 2, none⟩) hb).trans h.2.2.1, (k.cell (p := ⟨b, o + 3, none⟩) hb).trans h.2.2.2.1, (k.cell (p := ⟨b, o + 4, none⟩) hb).trans h.2.2.2.2.1, (k.cell (p := ⟨b, o + 5, none⟩) hb).trans h.2.2.2.2.2⟩
theorem LI.new {w : World} {N : Nat} {W : W6} (h : WAt N w W qc (new0 qc.cf) (List.replicate (qc.cf.ps * qc.cf.np) 0) (fun _ => none) (fun _ _ => []) (fun _ _ => []) rnew0 [] [] [] (fun _ => 0)) (dm : ∃ d, W.dm = some d) (sh : Shr W.hot W.warm) :
  LI N w W (new0 qc.cf) (List.replicate (qc.cf.ps * qc.cf.np) 0) (fun _ => none) (fun _ _ => []) rnew0 [] [] [] (fun _ => 0) 0 :=
 ⟨h, rel_new _, fun H i x p _ => ⟨fun e => (by cases e), fun e => (by cases e)⟩, List.length_replicate, Nat.zero_le _, Nat.zero_le _, Nat.zero_le _, Nat.zero_le _, fun H e => (by cases e), fun H e => (by cases e), List.nodup_nil, fun H e => (by cases e),
  fun H e => (by unfold isN at e; simp at e), fun H e => (by unfold isN at e; simp at e), dm, sh⟩
def Goer (N : Nat) (W0 : World) (b : Nat) (gm : Option Nat) (hot warm : Int) (w : World) (t : Nat) : Prop := ∃ W s bs Z Ls r laid told act mk, W.b = b /\ W.gm = gm /\ W.hot = hot /\ W.warm = warm /\ Below N W0 w /\ N <= w.heap.size /\ LI N w W s bs Z Ls r laid told act mk t
theorem Goer.next {N : Nat} {W0 w w' : World} {W : W6} {s : St} {bs : List UInt8} {Z : Nat -> Option Zd} {Ls : Nat -> Nat -> List Nat} {r : RS} {laid told act : List Nat} {mk : Nat -> Nat} {t t' : Nat} {b : Nat} {gm : Option Nat} {hot warm : Int} (h : LI N w W s bs Z Ls r laid told act mk t) (hB : Below N W0 w)
  (e1 : W.b = b) (e2 : W.gm = gm) (e3 : W.hot = hot) (e4 : W.warm = warm) (G : Goes N w w' W s t') : Goer N W0 b gm hot warm w' t' := by
 obtain ⟨W', s', bs', Z', Ls', r', laid', told', act', mk', ⟨f1, f2, f3, f4, f5⟩, G, T⟩ := G
 exact ⟨W', s', bs', Z', Ls', r', laid', told', act', mk', f1.trans e1, f2.trans e2, f4.trans e3, f5.trans e4, hB.trans (G.below h.wat.base h.wat.hN0), T.wat.hN0, T⟩
theorem begun_shr (a b : Int) : Shr (hotN a : Int) (warmN a b : Int) := by
 obtain ⟨s1, s2, s3, s4⟩ := shares_in a b
 exact ⟨by omega, by omega, by omega, by omega⟩
set_option maxHeartbeats 3200000 in
theorem scriptedC (W : World) (a b : Int) (ha : Cls.In a) (hb : Cls.In b) (a0 : Option Addr) (cap : Nat) (l : List Op6) (hP : ∀ (k : Nat) (hk : k < l.length), ORow W a0 k l[k]) (hl : l.length <= maxLen) :
  Calls Tryz.prog 16 #[.agg #[.int .i64 a, .int .i64 b], .slice a0 l.length cap] W fun e w' => ∃ b0 g, e = .returned (.pointer (some ⟨b0, 0, none⟩)) /\ ∃ t, t <= 250 /\ Goer W.heap.size W b0 (some g) (hotN a : Int) (warmN a b : Int) w' t := by
 obtain ⟨w1, hw1⟩ : ∃ w1, w1 = W.alloc (.cells #[.int .i64 a, .int .i64 b] 38) := ⟨_, rfl⟩
 have B1 : Blk w1 W.heap.size 38 #[.int .i64 a, .int .i64 b] := by rw [hw1]; exact Blk.new W _ _
 have b1 : Below W.heap.size W w1 := by rw [hw1]; exact (Below.refl _ _).alloc (Nat.le_refl _) _
 have x0 := B1.cell 0
 have x1 := B1.cell 1
 have BC := Lib.hid (begunC8 w1 a b ha hb)
 have sh := Lib.hid (begun_shr a b)
 have HP := Lib.hid hP
 unfold maxLen at hl
 clear hP ha hb B1
 generalize hotN a = hot at *
 generalize warmN a b = warm at *
 obtain ⟨N, hN⟩ : ∃ N, W.heap.size = N := ⟨_, rfl⟩
 rw [hN] at b1 x0 x1 ⊢
 replace hN := Lib.hid hN
 replace hw1 := Lib.hid hw1
 go_enter Tryz.func16, Tryz.ntmps16
 go_upto_region 1 with fail
 rw [hN.out, <- hw1.out]
 go_wp2_with fail
 refine BC.out.mono ?_
 rintro e w2 ⟨b2, W1, g, d, rfl, eg, ed, eh, ew, A1⟩
 have hN1 : N <= w1.heap.size := by have := b1.size; rw [<- hN.out]; exact this
 have G1 : Goer N W W1.b (some g) (hot : Int) (warm : Int) w2 0 := ⟨W1, _, _, _, _, _, _, _, _, _, rfl, eg, eh, ew, b1.trans (b2.mono hN1), Nat.le_trans hN1 b2.size, LI.new (A1.weak hN1) ⟨d, ed⟩ (by rw [eh, ew]; exact sh.out)⟩
 generalize W1.b = b0 at *
 replace G1 := Lib.hid G1
 clear b1 b2 A1 BC x0 x1 hw1 eg ed eh ew
 go_wp2_with fail
 go_loopw [6] (fun vi wr => ∃ i : Nat, vi = .int .i64 (i : Int) /\ i <= l.length /\ i <= 250 /\ Hid (Goer N W b0 (some g) (hot : Int) (warm : Int) wr i)) (fun vi _ => l.length - (intOf vi).toNat)
 case atStart => exact ⟨0, rfl, Nat.zero_le _, Nat.zero_le _, G1⟩
 case round =>
  obtain ⟨i, rfl, hi, hi2, G⟩ := hrel
  clear G1
  by_cases hlt : i < l.length /\ i < 250
  ·obtain ⟨h1, h2⟩ := hlt
   have d1 : decide ((i : Int) < (l.length : Int)) = true := decide_eq_true (by omega)
   have d1' : decide (i < l.length) = true := decide_eq_true h1
   have d2 : decide ((i : Int) < 250) = true := decide_eq_true (by omega)
   have q1 : IntKind.i64.wrap ((i : Int) + 1) = (i : Int) + 1 := IntWalk.i64_in _ (by omega)
   have i0 : (0 : Int) <= (i : Int) := by omega
   have i1 : (i : Int) < (l.length : Int) := by omega
   obtain ⟨W2, s2, bs2, Z2, Ls2, r2, laid2, told2, act2, mk2, eb, eg, eh, ew, hB, hNr, T⟩ := G.out
   obtain ⟨b9, off, rfl, hbl, ok, O1⟩ := HP.out i h1
   have hbN : b9 < N := by rw [<- hN.out]; exact hbl
   generalize l[i] = o at *
   have DC := movesC T (by omega) o ok (.inl ⟨g, eg⟩)
   have GN := fun w' (G : Goes N wr w' W2 s2 (i + 1)) => Goer.next T hB eb eg eh ew G
   rw [eb] at DC
   obtain ⟨z0, z1, z2, z3, z4, z5⟩ := O1.below hB hbN
   unfold Op6.cells at DC
   by_cases h8 : o.dO = 8
   ·have n8 : ((8 : Int) != 8) = false := rfl
    rw [h8] at z0
    have G2 := Lib.hid ((GN wr (T.stays (Below.refl _ _) (Nat.le_succ _))))
    clear HP T hB hbl O1 ok hNr DC GN G h8 eb eg eh ew
    go_wp2
    go_roundw
    case rel => exact ⟨i + 1, by simp, by omega, by omega, G2⟩
    case measure => simp [intOf] <;> omega
   ·have n8 : (o.dO != 8) = true := by rw [bne_iff_ne]; exact h8
    have n9 : decide (o.dO = 8) = false := decide_eq_false h8
    replace DC := Lib.hid DC
    replace GN := Lib.hid GN
    replace h8 := Lib.hid h8
    clear HP T hB hbl O1 ok hNr G eb eg eh ew
    go_wp2_with fail
    refine DC.out.mono ?_
    rintro e w3 ⟨rfl, G⟩
    have G3 := Lib.hid (GN.out _ G)
    clear G DC GN z0 z1 z2 z3 z4 z5
    go_wp2
    go_roundw
    case rel => exact ⟨i + 1, by simp, by omega, by omega, G3⟩
    case measure => simp [intOf] <;> omega
  have GE := Lib.hid (⟨i, hi2, G.out⟩ : ∃ t, t <= 250 /\ Goer N W b0 (some g) (hot : Int) (warm : Int) wr t)
  clear G HP
  rcases Nat.lt_or_ge i l.length with h1 | h1
  ·have d1 : decide ((i : Int) < (l.length : Int)) = true := decide_eq_true (by omega)
   have d1' : decide (i < l.length) = true := decide_eq_true h1
   have d2 : decide ((i : Int) < 250) = false := decide_eq_false (by omega)
   clear hlt
   go_wp2
   go_ret
   exact ⟨b0, g, rfl, GE.out⟩
  ·have d1 : decide ((i : Int) < (l.length : Int)) = false := decide_eq_false (by omega)
   have d1' : decide (i < l.length) = false := decide_eq_false (by omega)
   clear hlt
   go_wp2
   go_ret
   exact ⟨b0, g, rfl, GE.out⟩
end Go.Proofs.YtngehaiigbbknaaGreat.Que
/-
  What the arguments of the laws of the Lru are: shares, lists of operations.
-/
namespace Go.Proofs.YtngehaiigbbknaaGreat.LrArg
open Go.ChangeShapes Go.WideShapes Go.ChangeAt Go.RowKit LawFrame Go.Deep ClsArg
variable {H : Type} {enc : TypeId × Value -> H}
theorem shareArg {W : World} {v : Value} {x : DataW H × List MemPlace} {fuel : Nat} (hv : Value.okWide Tryz.prog W .any 0 38 v)
  (hf : DataW.trod enc Tryz.prog W 0 (fun _ => true) true fuel 38 v.cells.toList = some x) : ∃ a b : Int, v = .agg #[.int .i64 a, .int .i64 b] /\ Cls.In a /\ Cls.In b := by
 obtain ⟨cs, rfl, hsz⟩ := okWide_struct Tryz.underlying38 hv
 obtain ⟨n, hl, hfi⟩ := struct_at Tryz.underlying38 (by kernel_rfl) (by kernel_rfl) hf
 obtain ⟨v0, y0, hc0, ht0⟩ := hfi 0 _ rfl
 obtain ⟨v1, y1, hc1, ht1⟩ := hfi 1 _ rfl
 obtain ⟨x0, e0, -, wx0⟩ := DataW.trod_int Tryz.underlying3 ht0
 obtain ⟨x1, e1, -, wx1⟩ := DataW.trod_int Tryz.underlying3 ht1
 simp only [List.cons.injEq, and_true] at e0 e1
 subst e0 e1
 refine ⟨x0, x1, ?_, i64_bd wx0, i64_bd wx1⟩
 obtain ⟨lc⟩ := cs
 match lc, hl with
 | [c0, c1], _ =>
  have g : ∀ {a b : Value}, some a = some b -> a = b := fun h => by injection h
  have f0 : c0 = .int .i64 x0 := g hc0
  have f1 : c1 = .int .i64 x1 := g hc1
  subst f0 f1
  rfl
theorem ops8_at {W : World} {fuel len cap : Nat} {A : Option Addr} {x : DataW H × List MemPlace} (h : DataW.trod enc Tryz.prog W 0 (fun _ => true) true fuel 44 [.slice A len cap] = some x) :
  ∃ l : List Que.Op6, l.length = len /\ len <= cap /\ cap <= maxLen /\ ∀ (k : Nat) (hk : k < l.length), Que.ORow W A k l[k] := by
 obtain ⟨hl, hm, hi⟩ := fields_at Tryz.underlying44 Tryz.underlying64 (by kernel_rfl) (by kernel_rfl) (by decide) h
 obtain ⟨l, hlen, hP⟩ := list_of (fun k (p : Que.Op6) => Que.ORow W A k p) len (by
  intro k hk
  obtain ⟨b, off, n, rfl, hb, hfi⟩ := hi k hk
  obtain ⟨v0, y0, hc0, ht0⟩ := hfi 0 _ rfl
  obtain ⟨v1, y1, hc1, ht1⟩ := hfi 1 _ rfl
  obtain ⟨v2, y2, hc2, ht2⟩ := hfi 2 _ rfl
  obtain ⟨v3, y3, hc3, ht3⟩ := hfi 3 _ rfl
  obtain ⟨v4, y4, hc4, ht4⟩ := hfi 4 _ rfl
  obtain ⟨v5, y5, hc5, ht5⟩ := hfi 5 _ rfl
  obtain ⟨x0, e0, -, wx0⟩ := DataW.trod_int Tryz.underlying3 ht0
  obtain ⟨x1, e1, -, wx1⟩ := DataW.trod_int Tryz.underlying3 ht1
  obtain ⟨x2, e2, -, wx2⟩ := DataW.trod_int Tryz.underlying3 ht2
  obtain ⟨x3, e3, -, wx3⟩ := DataW.trod_int Tryz.underlying3 ht3
  obtain ⟨x4, e4, -, wx4⟩ := DataW.trod_int Tryz.underlying50 ht4
  obtain ⟨x5, e5, -⟩ := DataW.trod_bool Tryz.underlying4 ht5
  simp only [List.cons.injEq, and_true] at e0 e1 e2 e3 e4 e5
  obtain ⟨u4, e4', hu4⟩ := u64_nat wx4
  subst e4'
  subst e0 e1 e2 e3 e4 e5
  exact ⟨⟨x0, x1, x2, x3, u4, x5⟩, b, off, rfl, hb, ⟨i64_bd wx0, i64_bd wx1, i64_bd wx2, i64_bd wx3, hu4⟩, hc0, hc1, hc2, hc3, hc4, hc5⟩)
 exact ⟨l, hlen, hl, hm, fun k hk => hP k hk⟩
end Go.Proofs.YtngehaiigbbknaaGreat.LrArg
/-
  The law's row: the row of a class, told by the queue.
-/
namespace Go.Proofs.YtngehaiigbbknaaGreat.Que
open Go.RowKit Base Arena Cls Itm
theorem eiHd : EI Tryz.prog 55 51 (.int .u64 0) 1 8 := EI.mk' Tryz.underlying55 (by kernel_rfl) rfl (by decide)
def accX (Ls : Nat -> Nat -> List Nat) (x : Int) (k : Nat) : List Nat := if k = 3 then [] else if k = 2 then revX Ls x 3 else if k = 1 then revX Ls x 3 ++ revX Ls x 2 else rowX Ls x
theorem accX_step (Ls : Nat -> Nat -> List Nat) (x : Int) {k : Nat} (h1 : 1 <= k) (h3 : k <= 3) : accX Ls x (k - 1) = accX Ls x k ++ revX Ls x (k : Int) := by
 have : k = 1 \/ k = 2 \/ k = 3 := by omega
 rcases this with rfl | rfl | rfl <;> rfl
theorem accX_le (Ls : Nat -> Nat -> List Nat) (x : Int) (k : Nat) : (accX Ls x k).length <= (rowX Ls x).length := by
 unfold accX rowX
 split
 ·simp
 split
 ·simp only [List.length_append]; omega
 split
 ·simp only [List.length_append]; omega
 ·exact Nat.le_refl _
theorem rowX_len (Ls : Nat -> Nat -> List Nat) (x : Int) : (rowX Ls x).length = totX Ls x := by
 unfold rowX revX totX lenX
 simp only [List.length_append, List.length_reverse]
 omega
set_option maxHeartbeats 1600000 in
theorem rowC {w : World} {L : Lay} {s : St} {bs : List UInt8} {Z : Nat -> Option Zd} {gq gl : Nat} {Ls : Nat -> Nat -> List Nat} (h : QW w L qc s bs Z gq gl Ls) {b : Nat} (hb : w.cell? ⟨b, 1, none⟩ = some (.pointer (some ⟨gq, 0, none⟩))) (x : Int) (ht : totX Ls x <= 900) :
  Calls Tryz.prog 22 #[.pointer (some ⟨b, 0, none⟩), .int .i64 x] w fun e w' => Below w.heap.size w w' /\ ∃ A cp, e = .returned (.slice A (rowX Ls x).length cp) /\ w'.ownsRow w.heap.size 51 1 (.slice A (rowX Ls x).length cp) (rowX Ls x).length ((rowX Ls x).map uv) := by
 have hbl : b < w.heap.size := World.block_lt_of_cell? w _ hb
 have QP : ∀ w', Below w.heap.size w w' -> QW w' L qc s bs Z gq gl Ls := fun w' k => by
  obtain ⟨F, S, q⟩ := h
  exact ⟨F, S.below k, q⟩
 have KK : ∀ k : Int, KF (fun w' => Below w.heap.size w w') gq x k (revX Ls x k) := fun k => KF.of h QP x k
 have CE : ∀ w', Below w.heap.size w w' -> w'.cell? ⟨b, 1, none⟩ = some (.pointer (some ⟨gq, 0, none⟩)) := fun w' k => (k.cell (p := ⟨b, 1, none⟩) hbl).trans hb
 have ac := fun k => accX_le Ls x k
 have rl := rowX_len Ls x
 have st := fun {k : Nat} (h1 : 1 <= k) (h3 : k <= 3) => accX_step Ls x h1 h3
 have a3 : accX Ls x 3 = [] := rfl
 have a0 : accX Ls x 0 = rowX Ls x := rfl
 generalize revX Ls x = RV at *
 generalize accX Ls x = AC at *
 have rl9 : (rowX Ls x).length <= 900 := by omega
 generalize rowX Ls x = RX at *
 replace KK := Lib.hid KK
 replace CE := Lib.hid CE
 replace a3 := Lib.hid a3
 replace a0 := Lib.hid a0
 replace ac := Lib.hid ac
 clear h hb QP rl ht
 go_enter Tryz.func22, Tryz.ntmps22
 go_wp2
 go_loopw [5, 6] (fun vo vk wr => ∃ (k m cp : Nat) (A : Option Addr), vk = .int .i64 (k : Int) /\ k <= 3 /\ vo = .slice A m cp /\ Hid (m = (AC k).length) /\ Hid (Below w.heap.size w wr) /\ Hid (wr.ownsRow w.heap.size 51 1 (.slice A m cp) m ((AC k).map uv))) (fun _ vk _ => (intOf vk).toNat)
 case atStart => exact ⟨3, 0, 0, none, rfl, Nat.le_refl _, rfl, Lib.hid (by rw [a3.out]; rfl), Lib.hid (Below.refl _ _), Lib.hid (by rw [a3.out]; exact own_nil _ _ _)⟩
 case round =>
  obtain ⟨k, m, cp, A, rfl, hk3, rfl, hm, hB, ho⟩ := hrel
  by_cases hk : 1 <= k
  ·have d1 : decide ((1 : Int) <= (k : Int)) = true := decide_eq_true (by omega)
   have d1' : decide (1 <= k) = true := decide_eq_true hk
   have q1 : IntKind.i64.wrap ((k : Int) - 1) = ((k - 1 : Nat) : Int) := by rw [IntWalk.i64_in _ (by omega)]; omega
   have c1 := CE.out wr hB.out
   have hst := st hk hk3
   have K := KK.out (k : Int)
   generalize RV (k : Int) = R at *
   have TC := Lib.hid (K.tc wr hB.out)
   replace K := Lib.hid K
   replace hst := Lib.hid hst
   go_wp2_with fail
   refine TC.out.mono ?_
   rintro e w' ⟨rfl, rfl⟩
   go_wp2_with fail
   go_loopw [5, 7, 8] (fun vo vh vb wr => ∃ (l1 l2 : List Nat) (m cp : Nat) (A : Option Addr), vo = .slice A m cp /\ vh = .int .u64 (l2.head?.getD 0 : Int) /\ vb = .bool (decide (0 < l2.length)) /\ Hid (R = l1 ++ l2) /\ Hid (m = (AC k ++ l1).length) /\ Hid (Below w.heap.size w wr) /\ Hid (wr.ownsRow w.heap.size 51 1 (.slice A m cp) m ((AC k ++ l1).map uv))) (fun vo _ _ _ => 1000 - lenV vo)
   case atStart => exact ⟨[], R, m, cp, A, rfl, rfl, rfl, Lib.hid rfl, Lib.hid (by rw [List.append_nil]; exact hm.out), hB, by rw [List.append_nil]; exact ho⟩
   case round =>
    obtain ⟨l1, l2, m2, cp2, A2, rfl, rfl, rfl, hR, hm2, hB2, ho2⟩ := hrel
    have hle : m2 + l2.length <= 900 := by
     have := ac.out (k - 1)
     rw [hst.out, hR.out, List.length_append, List.length_append] at this
     have e2 := hm2.out
     rw [List.length_append] at e2
     omega
    cases l2 with
    | nil =>
     have e1 : decide (0 < ([] : List Nat).length) = false := rfl
     rw [e1]
     rw [List.append_nil] at hR
     have hm3 : Hid (m2 = (AC (k - 1)).length) := Lib.hid (by rw [hst.out, hR.out]; exact hm2.out)
     have ho3 : Hid (wr.ownsRow w.heap.size 51 1 (.slice A2 m2 cp2) m2 ((AC (k - 1)).map uv)) := Lib.hid (by rw [hst.out, hR.out]; exact ho2.out)
     clear hm2 ho2 hR e1 TC K hst
     go_wp2
     go_roundw
     case rel => exact ⟨k - 1, m2, cp2, A2, by simp, by omega, rfl, hm3, hB2, ho3⟩
     case measure => simp [intOf] <;> omega
    | cons y l2 =>
     have e1 : decide (0 < (y :: l2).length) = true := rfl
     have e0 : ((y :: l2).head?.getD 0) = y := rfl
     rw [e1, e0]
     rw [List.length_cons] at hle
     have d2 : decide ((m2 : Int) < 1000) = true := decide_eq_true (by omega)
     have d2' : decide (m2 < 1000) = true := decide_eq_true (by omega)
     have sz := hB2.out.size
     clear e1 e0
     go_wp2_with (at_builtin; refine wpList_app rfl _ _ _ rfl eiHd w.heap.size _ _ _ rfl (ho2.out.alloc _) (wr.heap.size + 1) (some ⟨wr.heap.size, 0, none⟩) 1 1 [.int .u64 (y : Int)] rfl ?c1 ?c2 ?c3 ?c4 ?c5 ?_)
     case c1 => exact reads_v wr _ _
     case c2 => intro u hu; rw [List.mem_singleton] at hu; subst hu; rfl
     case c3 => unfold maxLen; omega
     case c4 => omega
     case c5 => rw [World.size_alloc]; omega
     intro VV w6 own6 hg6 hat6
     obtain ⟨A6, cp6, rfl⟩ := own_is own6
     have b6 : Below w.heap.size w w6 := (hB2.out.alloc sz _).grown hg6 (by rw [World.size_alloc]; omega) (fun j e => own_base ho2.out e)
     obtain ⟨-, AC6⟩ := K.out.ac w6 b6 l1 y l2 hR.out
     have c6 := CE.out w6 b6
     have own6' : w6.ownsRow w.heap.size 51 1 (.slice A6 (m2 + 1) cp6) (m2 + 1) ((AC k ++ (l1 ++ [y])).map uv) := by
      have : (AC k ++ (l1 ++ [y])).map uv = (AC k).map uv ++ (l1.map uv ++ [.int .u64 (y : Int)]) := by rw [List.map_append, List.map_append]; rfl
      rw [this]; exact own6
     replace own6' := Lib.hid own6'
     replace b6 := Lib.hid b6
     replace AC6 := Lib.hid AC6
     clear own6 hg6 hat6 ho2 hB2
     go_wp2_with fail
     refine AC6.out.mono ?_
     rintro e w7 ⟨rfl, b7⟩
     have b7' := Lib.hid (b6.out.trans (b7.mono b6.out.size))
     have own7 := Lib.hid (own_keptN own6'.out fun b e => b7.block b (own_blockN own6'.out e))
     clear b7 AC6 c6 own6' b6
     go_wp2
     go_roundw
     case rel => exact ⟨l1 ++ [y], l2, m2 + 1, cp6, A6, rfl, rfl, rfl, Lib.hid (by rw [hR.out]; simp), Lib.hid (by have := hm2.out; simp only [List.length_append, List.length_singleton] at this ⊢; omega), b7', own7⟩
     case measure => simp [lenV] <;> omega
  ·obtain rfl : k = 0 := by omega
   have d1 : decide ((1 : Int) <= ((0 : Nat) : Int)) = false := rfl
   rw [a0.out] at hm ho
   replace d1 := Lib.hid d1
   clear hk hk3
   go_wp2
   go_ret
   exact ⟨hB.out, A, cp, by rw [<- hm.out]; rfl, by rw [<- hm.out]; exact ho.out⟩
section
variable {w : World} {L : Lay} {s : St} {bs : List UInt8} {Z : Nat -> Option Zd} {gq gl : Nat} {Ls : Nat -> Nat -> List Nat} {mk : Nat -> Nat} {g : Nat} {hot warm : Int} (h : LS w L s bs Z gq gl Ls mk g hot warm)
include h
theorem activeW {b : Nat} (hb : w.cell? ⟨b, 0, none⟩ = some (.pointer (some ⟨L.g, 0, none⟩))) (H : Nat) (hH : H < 18446744073709551616) : Calls Tryz.prog 21 #[.pointer (some ⟨b, 0, none⟩), .int .u64 (H : Int)] w fun e w' => e = .returned (.bool (actB s Z mk H)) /\ Below w.heap.size w w' := by
 have n1 := fun w e => numC6 w e
 have key : ∃ (v e : Nat), (Calls Tryz.prog 46 #[.pointer (some ⟨L.g, 0, none⟩), .int .u64 (H : Int)] w fun x w' => x = .returned (.tuple #[.int .i64 (v : Int), .int .i64 (e : Int)]) /\ Below w.heap.size w w') /\ v < 16 /\ ((e ≠ 0 /\ actB s Z mk H = false) \/ (e = 0 /\ v % 2 = 0 /\ actB s Z mk H = false) \/ (e = 0 /\ v % 2 = 1 /\ actB s Z mk H = true)) := by
  unfold actB isN
  cases hf : findN qc.cf s H with
  | none => exact ⟨0, 20, marksNo h.q hH hf, by omega, .inl ⟨by omega, rfl⟩⟩
  | some t =>
   obtain ⟨i, x, p⟩ := t
   cases hz : Z H with
   | none => exact ⟨0, 0, marksNone h.q hH hf hz, by omega, .inr (.inl ⟨rfl, rfl, rfl⟩)⟩
   | some z =>
    refine ⟨mk H, 0, marksYes h.q h.m hH hf hz, (h.m H i x p hf (by rw [hz]; rfl)).2, .inr ?_⟩
    have : mk H % 2 = 0 \/ mk H % 2 = 1 := by omega
    rcases this with e | e
    ·exact .inl ⟨rfl, e, by rw [e]; rfl⟩
    ·exact .inr ⟨rfl, e, by rw [e]; rfl⟩
 obtain ⟨v, e, MC, hv, hB⟩ := key
 have a1 := and_one hv
 replace MC := Lib.hid MC
 replace n1 := Lib.hid n1
 clear h
 rcases hB with ⟨he, hB⟩ | ⟨rfl, e1, hB⟩ | ⟨rfl, e1, hB⟩ <;> rw [hB] <;> clear hB
 ·have d1 : ((e : Int) == 0) = false := by rw [beq_eq_false_iff_ne]; omega
  have d2 : decide ((e : Int) = 0) = false := decide_eq_false (by omega)
  have d3 : decide (e = 0) = false := decide_eq_false he
  go_enter Tryz.func21, Tryz.ntmps21
  go_wp2_with fail
  refine MC.out.mono ?_
  rintro x w' ⟨rfl, b⟩
  replace b := Lib.hid b
  go_wp2_with fail
  refine (n1.out _ _).mono ?_
  rintro x w' ⟨rfl, rfl⟩
  go_wp2
  go_ret
  exact ⟨rfl, b.out⟩
 ·rw [e1] at a1
  replace e1 := Lib.hid e1
  go_enter Tryz.func21, Tryz.ntmps21
  go_wp2_with fail
  refine MC.out.mono ?_
  rintro x w' ⟨rfl, b⟩
  replace b := Lib.hid b
  go_wp2_with fail
  refine (n1.out _ _).mono ?_
  rintro x w' ⟨rfl, rfl⟩
  go_wp2
  go_ret
  exact ⟨rfl, b.out⟩
 ·rw [e1] at a1
  replace e1 := Lib.hid e1
  go_enter Tryz.func21, Tryz.ntmps21
  go_wp2_with fail
  refine MC.out.mono ?_
  rintro x w' ⟨rfl, b⟩
  replace b := Lib.hid b
  go_wp2_with fail
  refine (n1.out _ _).mono ?_
  rintro x w' ⟨rfl, rfl⟩
  go_wp2
  go_ret
  exact ⟨rfl, b.out⟩
end
theorem three_rev {l : List Nat} (h : l.length = 3) : ∃ c b a, l = [c, b, a] /\ l.reverse = [a, b, c] := by
 match l, h with
 | [c, b, a], _ => exact ⟨c, b, a, rfl, rfl⟩
theorem wpAnyH_weak {P : Program} {md : Region.Mode} {ops : Array Oper} {Q : Exit -> Act -> World -> Prop} {S S' : World -> Prop} (hS : ∀ w, S' w -> S w) : ∀ (fuel : Nat) (listed : Array Bool) (a : Act) (w : World), wpAnyH P md ops Q S' fuel listed a w -> wpAnyH P md ops Q S fuel listed a w
 | 0, _, _, _, h => h
 | fuel + 1, _, _, _, h => ⟨h.1, fun i hi => wpOp_mono (fun a' w' h' => ⟨hS w' h'.1, wpAnyH_weak hS fuel _ a' w' h'.2⟩) (h.2 i hi)⟩
set_option maxHeartbeats 3200000 in
theorem wakesC (w : World) : Calls Tryz.prog 15 #[] w fun e w' => e = .returned (.bool true) /\ Below w.heap.size w w' := by
 have BC := begunC8 w 33 33 (by unfold Cls.In; decide) (by unfold Cls.In; decide)
 have n1 := fun w => numC6 w 0
 obtain ⟨N, hN⟩ : ∃ N, N = w.heap.size := ⟨_, rfl⟩
 rw [<- hN] at BC ⊢
 replace hN := Lib.hid hN
 replace BC := Lib.hid BC
 go_enter Tryz.func15, Tryz.ntmps15
 go_wp2_with fail
 refine BC.out.mono ?_
 rintro e w1 ⟨b1, W, g, d, rfl, hg, hd, hh, hw, A1⟩
 have R1 : WLx N w w1 W g d [] [] := ⟨_, _, _, _, _, _, _, b1, by rw [<- tri_one, oneL_nil]; exact A1, ⟨by simp, by simp, by simp, by simp⟩, rel_new _, .inl ⟨rfl, rfl⟩, by simp, by show 0 <= _; omega, by simp, by simp, hg, hd, by rw [hh]; rfl, by rw [hw]; rfl, by simp⟩
 replace R1 := Lib.hid R1
 clear b1 hg hd hh hw A1 BC
 obtain ⟨b, hb⟩ : ∃ b, b = W.b := ⟨_, rfl⟩
 rw [<- hb]
 replace hb := Lib.hid hb
 go_wp2_with fail
 go_loopw [2] (fun vi wr => ∃ (i : Nat) (W' : W6) (l : List Nat), vi = .int .i64 (i : Int) /\ i <= 3 /\ Hid (W'.b = b) /\ Hid (l.length = i) /\ Hid (WLx N w wr W' g d l.reverse l)) (fun vi _ => 3 - (intOf vi).toNat)
 case atStart => exact ⟨0, W, [], rfl, Nat.zero_le _, Lib.hid hb.out.symm, Lib.hid rfl, R1⟩
 case round =>
  obtain ⟨i, W', l, rfl, hi, eb, hl, R⟩ := hrel
  clear R1
  by_cases hin : i < 3
  ·have d1 : decide ((i : Int) < 3) = true := decide_eq_true (by omega)
   have q1 : IntKind.i64.wrap ((i : Int) + 1) = (i : Int) + 1 := IntWalk.i64_in _ (by omega)
   have bd : Below wr.heap.size wr wr.drew := below_drewN (Below.refl _ _) 1
   have MC := (R.out.below bd).make (by rw [List.length_reverse, hl.out]; omega)
   rw [eb.out] at MC
   obtain ⟨i2, hi2⟩ : ∃ i2, i2 = i + 1 := ⟨_, rfl⟩
   have key : ∀ w3 W3 H, W3.b = b -> H ∉ l.reverse -> WLx N w w3 W3 g d (l.reverse ++ [H]) l -> ∃ gT cT, (w3.cell? ⟨b, 2, none⟩ = some (.pointer (some ⟨g, 0, none⟩)) /\ w3.cell? ⟨b, 6, none⟩ = some (.slice (some ⟨gT, 0, none⟩) i2 cT) /\ w3.cell? ⟨gT, i, none⟩ = some (.int .u64 (H : Int))) /\
     Calls Tryz.prog 36 #[.pointer (some ⟨g, 0, none⟩), .int .u64 (H : Int)] w3 fun e w' => e = .returned (.int .i64 0) /\ WLx N w w' W3 g d (H :: l).reverse (H :: l) /\ (w'.cell? ⟨b, 2, none⟩ = some (.pointer (some ⟨g, 0, none⟩)) /\ w'.cell? ⟨b, 6, none⟩ = some (.slice (some ⟨gT, 0, none⟩) i2 cT) /\ w'.cell? ⟨gT, i, none⟩ = some (.int .u64 (H : Int))) := by
    intro w3 W3 H eb3 hnH R3
    have key2 : ∀ v (k : List Nat), WLx N w v W3 g d (l.reverse ++ [H]) k -> v.cell? ⟨b, 2, none⟩ = some (.pointer (some ⟨g, 0, none⟩)) /\ v.cell? ⟨b, 6, none⟩ = some W3.vT /\ ∃ gT cT, W3.vT = .slice (some ⟨gT, 0, none⟩) i2 cT /\ v.cell? ⟨gT, i, none⟩ = some (.int .u64 (H : Int)) := by
     intro v k Rv
     obtain ⟨c2, c6, T3, -, -⟩ := Rv.cW
     rw [eb3] at c2 c6
     obtain ⟨gT, cT, hvT, u3⟩ := own_uv (i := i) (x := H) T3 (by rw [List.getElem?_append_right (by rw [List.length_reverse, hl.out]; exact Nat.le_refl _), List.length_reverse, hl.out, Nat.sub_self]; rfl)
     rw [List.length_append, List.length_singleton, List.length_reverse, hl.out, <- hi2] at hvT
     exact ⟨c2, c6, gT, cT, hvT, u3⟩
    obtain ⟨c2, c6, gT, cT, hvT, u3⟩ := key2 w3 l R3
    refine ⟨gT, cT, ⟨c2, by rw [c6, hvT], u3⟩, ?_⟩
    have EC := R3.enter (H := H) (by simp) (fun e => hnH (by simpa using e))
    refine EC.mono ?_
    rintro e w' ⟨rfl, R4⟩
    obtain ⟨k2, k6, gT', cT', hv', u4⟩ := key2 w' _ R4
    have e5 := hvT.symm.trans hv'
    injection e5 with e6 e7 e8
    injection e6 with e6
    injection e6 with e6
    rw [List.reverse_cons]
    exact ⟨rfl, R4, k2, by rw [k6, hvT], by rw [e6]; exact u4⟩
   have q2 : ((i2 : Int) != (i : Int) + 1) = false := by rw [bne_eq_false_iff_eq]; omega
   have q3 : ((i2 : Int) == (i : Int) + 1) = true := by rw [beq_iff_eq]; omega
   have q4 : decide ((i2 : Int) = (i : Int) + 1) = true := decide_eq_true (by omega)
   have i0 : (0 : Int) <= (i : Int) := by omega
   have i1 : (i : Int) < (i2 : Int) := by omega
   replace MC := Lib.hid MC
   replace key := Lib.hid key
   replace hi2 := Lib.hid hi2
   clear R bd
   go_upto_region 7 with fail
   go_cut [47] from 18 to 47 (fun s47 wx => s47 = .bool false /\ ∃ (W3 : W6) (H : Nat), Hid (W3.b = b) /\ Hid (WLx N w wx W3 g d (H :: l).reverse (H :: l)))
   case first =>
    refine wp_region_noPanic ?_
    refine wp_region_held_drew (S := fun _ => True) (by kernel_rfl) trivial (fun hHeld => ?_)
    refine tkh (i := 0) (v := ?_) rfl ?_ ?_
    rotate_left
    ·try simp only [qA, qS, qZ]
     rintro w -
     go_simp
     (try with_reducible rfl)
    try simp only [qA, qS, qZ, Act.put, qT, qO, qN]
    refine tkh (i := 1) (v := ?_) rfl ?_ ?_
    rotate_left
    ·try simp only [qA, qS, qZ]
     rintro w -
     go_simp
     (try with_reducible rfl)
    try simp only [qA, qS, qZ, Act.put, qT, qO, qN]
    refine wpAnyH_ready (rs := [2]) (by kernel_rfl) (by simp) ?_
    refine AllReadyH.cons (o := _) rfl (fun K hK => ?_) ?_
    ·try simp only [qA, qS, qZ]
     go_simp
     go_at_call 42
     refine MC.out.mono ?_
     rintro e w3 ⟨rfl, W3, H, eb3, hnH, R3⟩
     obtain ⟨gT, cT, S3, EC⟩ := key.out w3 W3 H eb3 hnH R3
     replace EC := Lib.hid EC
     replace eb3 := Lib.hid eb3
     clear R3 MC key hnH
     go_wp2_with fail
     refine hK.out _ _ trivial (fun hHeld => ?_)
     clear hK K hHeld
     try simp only [qA, qS, qZ, Act.put, qT, qO, qN]
     refine wpAnyH_weak (S' := fun v => v.cell? ⟨b, 2, none⟩ = some (.pointer (some ⟨g, 0, none⟩)) /\ v.cell? ⟨b, 6, none⟩ = some (.slice (some ⟨gT, 0, none⟩) i2 cT) /\ v.cell? ⟨gT, i, none⟩ = some (.int .u64 (H : Int))) (fun _ _ => trivial) _ _ _ _ ?_
     refine tkh (i := 3) (v := ?_) rfl ?_ ?_
     rotate_left
     ·try simp only [qA, qS, qZ]
      rintro w ⟨hS1, hS2, hS3⟩
      go_simp
      (try with_reducible rfl)
     try simp only [qA, qS, qZ, Act.put, qT, qO, qN]
     refine tkh (i := 4) (v := ?_) rfl ?_ ?_
     rotate_left
     ·try simp only [qA, qS, qZ]
      rintro w ⟨hS1, hS2, hS3⟩
      go_simp
      (try with_reducible rfl)
     try simp only [qA, qS, qZ, Act.put, qT, qO, qN]
     refine tkh (i := 5) (v := ?_) rfl ?_ ?_
     rotate_left
     ·try simp only [qA, qS, qZ]
      rintro w ⟨hS1, hS2, hS3⟩
      go_simp
      (try with_reducible rfl)
     try simp only [qA, qS, qZ, Act.put, qT, qO, qN]
     refine tkh (i := 6) (v := ?_) rfl ?_ ?_
     rotate_left
     ·try simp only [qA, qS, qZ]
      rintro w ⟨hS1, hS2, hS3⟩
      go_simp
      (try with_reducible rfl)
     try simp only [qA, qS, qZ, Act.put, qT, qO, qN]
     refine tkh (i := 7) (v := ?_) rfl ?_ ?_
     rotate_left
     ·try simp only [qA, qS, qZ]
      rintro w ⟨hS1, hS2, hS3⟩
      go_simp
      (try with_reducible rfl)
     try simp only [qA, qS, qZ, Act.put, qT, qO, qN]
     refine tkh (i := 8) (v := ?_) rfl ?_ ?_
     rotate_left
     ·try simp only [qA, qS, qZ]
      rintro w ⟨hS1, hS2, hS3⟩
      go_simp
      (try with_reducible rfl)
     try simp only [qA, qS, qZ, Act.put, qT, qO, qN]
     refine tkh (i := 9) (v := ?_) rfl ?_ ?_
     rotate_left
     ·try simp only [qA, qS, qZ]
      rintro w ⟨hS1, hS2, hS3⟩
      go_simp
      (try with_reducible rfl)
     try simp only [qA, qS, qZ, Act.put, qT, qO, qN]
     refine tkh (i := 10) (v := ?_) rfl ?_ ?_
     rotate_left
     ·try simp only [qA, qS, qZ]
      rintro w ⟨hS1, hS2, hS3⟩
      go_simp
      (try with_reducible rfl)
     try simp only [qA, qS, qZ, Act.put, qT, qO, qN]
     refine tkh (i := 11) (v := ?_) rfl ?_ ?_
     rotate_left
     ·try simp only [qA, qS, qZ]
      rintro w ⟨hS1, hS2, hS3⟩
      go_simp
      (try with_reducible rfl)
     try simp only [qA, qS, qZ, Act.put, qT, qO, qN]
     refine tkh (i := 12) (v := ?_) rfl ?_ ?_
     rotate_left
     ·try simp only [qA, qS, qZ]
      rintro w ⟨hS1, hS2, hS3⟩
      go_simp
      (try with_reducible rfl)
     try simp only [qA, qS, qZ, Act.put, qT, qO, qN]
     refine tkh (i := 13) (v := ?_) rfl ?_ ?_
     rotate_left
     ·try simp only [qA, qS, qZ]
      rintro w ⟨hS1, hS2, hS3⟩
      go_simp
      (try with_reducible rfl)
     try simp only [qA, qS, qZ, Act.put, qT, qO, qN]
     refine tkh (i := 14) (v := ?_) rfl ?_ ?_
     rotate_left
     ·try simp only [qA, qS, qZ]
      rintro w ⟨hS1, hS2, hS3⟩
      go_simp
      (try with_reducible rfl)
     try simp only [qA, qS, qZ, Act.put, qT, qO, qN]
     refine tkh (i := 15) (v := ?_) rfl ?_ ?_
     rotate_left
     ·try simp only [qA, qS, qZ]
      rintro w ⟨hS1, hS2, hS3⟩
      go_simp
      (try with_reducible rfl)
     try simp only [qA, qS, qZ, Act.put, qT, qO, qN]
     refine tkh (i := 16) (v := ?_) rfl ?_ ?_
     rotate_left
     ·try simp only [qA, qS, qZ]
      rintro w ⟨hS1, hS2, hS3⟩
      go_simp
      (try with_reducible rfl)
     try simp only [qA, qS, qZ, Act.put, qT, qO, qN]
     refine tkh (i := 17) (v := ?_) rfl ?_ ?_
     rotate_left
     ·try simp only [qA, qS, qZ]
      rintro w ⟨hS1, hS2, hS3⟩
      go_simp
      (try with_reducible rfl)
     try simp only [qA, qS, qZ, Act.put, qT, qO, qN]
     refine tkh (i := 18) (v := ?_) rfl ?_ ?_
     rotate_left
     ·try simp only [qA, qS, qZ]
      rintro w ⟨hS1, hS2, hS3⟩
      go_simp
      (try with_reducible rfl)
     try simp only [qA, qS, qZ, Act.put, qT, qO, qN]
     refine tkh (i := 19) (v := ?_) rfl ?_ ?_
     rotate_left
     ·try simp only [qA, qS, qZ]
      rintro w ⟨hS1, hS2, hS3⟩
      go_simp
      (try with_reducible rfl)
     try simp only [qA, qS, qZ, Act.put, qT, qO, qN]
     refine tkh (i := 20) (v := ?_) rfl ?_ ?_
     rotate_left
     ·try simp only [qA, qS, qZ]
      rintro w ⟨hS1, hS2, hS3⟩
      go_simp
      (try with_reducible rfl)
     try simp only [qA, qS, qZ, Act.put, qT, qO, qN]
     refine tkh (i := 21) (v := ?_) rfl ?_ ?_
     rotate_left
     ·try simp only [qA, qS, qZ]
      rintro w ⟨hS1, hS2, hS3⟩
      go_simp
      (try with_reducible rfl)
     try simp only [qA, qS, qZ, Act.put, qT, qO, qN]
     refine tkh (i := 22) (v := ?_) rfl ?_ ?_
     rotate_left
     ·try simp only [qA, qS, qZ]
      rintro w ⟨hS1, hS2, hS3⟩
      go_simp
      (try with_reducible rfl)
     try simp only [qA, qS, qZ, Act.put, qT, qO, qN]
     refine tkh (i := 23) (v := ?_) rfl ?_ ?_
     rotate_left
     ·try simp only [qA, qS, qZ]
      rintro w ⟨hS1, hS2, hS3⟩
      go_simp
      (try with_reducible rfl)
     try simp only [qA, qS, qZ, Act.put, qT, qO, qN]
     refine tkh (i := 24) (v := ?_) rfl ?_ ?_
     rotate_left
     ·try simp only [qA, qS, qZ]
      rintro w ⟨hS1, hS2, hS3⟩
      go_simp
      (try with_reducible rfl)
     try simp only [qA, qS, qZ, Act.put, qT, qO, qN]
     refine tkh (i := 25) (v := ?_) rfl ?_ ?_
     rotate_left
     ·try simp only [qA, qS, qZ]
      rintro w ⟨hS1, hS2, hS3⟩
      go_simp
      (try with_reducible rfl)
     try simp only [qA, qS, qZ, Act.put, qT, qO, qN]
     refine wpAnyH_ready (rs := [26]) (by kernel_rfl) (by simp) ?_
     refine AllReadyH.cons (o := _) rfl (fun K hK => ?_) ?_
     ·try simp only [qA, qS, qZ]
      go_simp
      go_at_call 36
      refine EC.out.mono ?_
      rintro e w4 ⟨rfl, R4, S4⟩
      replace R4 := Lib.hid R4
      clear EC
      go_wp2_with fail
      refine hK.out _ _ S4 (fun hHeld => ?_)
      clear hK K hHeld
      try simp only [qA, qS, qZ, Act.put, qT, qO, qN]
      refine wpAnyH_ready (rs := [27]) (by kernel_rfl) (by simp) ?_
      refine AllReadyH.cons (o := _) rfl (fun K hK => ?_) ?_
      ·try simp only [qA, qS, qZ]
       go_simp
       go_at_call 14
       refine (n1 _).mono ?_
       rintro e w' ⟨rfl, rfl⟩
       go_wp2_with fail
       refine hK.out _ _ S4 (fun hHeld => ?_)
       clear hK K hHeld
       try simp only [qA, qS, qZ, Act.put, qT, qO, qN]
       refine tkh (i := 28) (v := ?_) rfl ?_ ?_
       rotate_left
       ·try simp only [qA, qS, qZ]
        rintro w ⟨hS1, hS2, hS3⟩
        go_simp
        (try with_reducible rfl)
       try simp only [qA, qS, qZ, Act.put, qT, qO, qN]
       refine tkh (i := 29) (v := ?_) rfl ?_ ?_
       rotate_left
       ·try simp only [qA, qS, qZ]
        rintro w ⟨hS1, hS2, hS3⟩
        go_simp
        (try with_reducible rfl)
       try simp only [qA, qS, qZ, Act.put, qT, qO, qN]
       refine wpAnyH_done (by kernel_rfl) ?_ _
       refine NoPanic.normal ?_
       clear S3 S4
       go_wp2_with fail
       go_meet
       exact ⟨rfl, W3, H, eb3, R4⟩
      exact AllReadyH.nil
     exact AllReadyH.nil
    exact AllReadyH.nil
   case rest =>
    obtain ⟨rfl, W3, H, eb3, R4⟩ := hcut
    rename World => w4
    go_wp2
    go_roundw
    case rel => exact ⟨i + 1, W3, H :: l, by simp, by omega, eb3, Lib.hid (by rw [List.length_cons, hl.out]), R4⟩
    case measure => simp [intOf] <;> omega
  ·obtain rfl : i = 3 := by omega
   have d1 : decide (((3 : Nat) : Int) < 3) = false := by decide
   obtain ⟨c, m, a, rfl, hr3⟩ := three_rev hl.out
   have R' := R.out
   rw [hr3] at R'
   have BL := R'.balance
   rw [eb.out] at BL
   obtain ⟨c2, -, -, -, -⟩ := R'.cW
   rw [eb.out] at c2
   obtain ⟨a64, a0⟩ := R'.lt (H := a) (by simp)
   obtain ⟨-, m0⟩ := R'.lt (H := m) (by simp)
   obtain ⟨-, c0⟩ := R'.lt (H := c) (by simp)
   replace BL := Lib.hid BL
   replace eb := Lib.hid eb.out
   replace a0 := Lib.hid a0
   replace m0 := Lib.hid m0
   replace c0 := Lib.hid c0
   clear R R' hr3 hl
   go_wp2_with fail
   refine BL.out.mono ?_
   rintro e w2 ⟨rfl, b2, s, bs, Z, mk, L, gq, gl, S2, ea, hN2, k2, k6, T2, bl2⟩
   (try rw [eb.out] at k2)
   (try rw [eb.out] at k6)
   have PC := pickC S2 0 0 5 (by unfold Cls.In; decide)
   obtain ⟨p1, p2⟩ := pick_three (A := actB s Z mk) a0.out m0.out c0.out (actB_even ea)
   rw [tri_row, show ([m, a].reverse ++ ([] : List Nat).reverse ++ [c].reverse) = [a, m, c] from rfl, p1, p2] at PC
   clear p1 p2
   have LC := fun v (bv : Below w2.heap.size w2 v) => lenC3 (S2.below bv) 0
   obtain ⟨t1, t2, t3⟩ := tri_len [c] [] [m, a]
   rw [t1, t2, t3] at LC
   obtain ⟨gT, cT, hvT, u0⟩ := own_uv (i := 0) (x := a) T2 rfl
   rw [hvT, show [a, m, c].length = 3 from rfl] at k6
   replace PC := Lib.hid PC
   replace LC := Lib.hid LC
   replace b2 := Lib.hid b2
   replace hvT := Lib.hid hvT
   clear S2 T2 ea t1 t2 t3 BL c2
   go_wp2_with fail
   refine PC.out.mono ?_
   rintro e w3 ⟨rfl, b3⟩
   have k2' := (b3.cell (p := ⟨b, 2, none⟩) (World.block_lt_of_cell? _ _ k2)).trans k2
   have k6' := (b3.cell (p := ⟨b, 6, none⟩) (World.block_lt_of_cell? _ _ k6)).trans k6
   have u0' := (b3.cell (p := ⟨gT, 0, none⟩) (World.block_lt_of_cell? _ _ u0)).trans u0
   have LC3 := Lib.hid (LC.out w3 b3)
   have b13 := b2.out.trans (b3.mono hN2)
   have hN3 := Nat.le_trans hN2 b3.size
   replace b13 := Lib.hid b13
   clear k2 k6 u0 b3 b2 PC LC
   go_wp2_with fail
   refine LC3.out.mono ?_
   rintro e w4 ⟨rfl, b4⟩
   have k6 := (b4.cell (p := ⟨b, 6, none⟩) (World.block_lt_of_cell? _ _ k6')).trans k6'
   have u0 := (b4.cell (p := ⟨gT, 0, none⟩) (World.block_lt_of_cell? _ _ u0')).trans u0'
   have b14 := Lib.hid (b13.out.trans (b4.mono hN3))
   clear k2' k6' u0' b4 b13
   go_wp2
   go_ret
   exact ⟨rfl, b14.out⟩
def Rst (N : Nat) (W0 wr : World) (W : W6) (s : St) (Ld : Nat -> Nat -> List Nat) (r : RS) (laid told act : List Nat) : Prop :=
 ∃ bs Z Ls mk, WAt N wr W qc s bs Z Ls Ld r laid told act mk /\ (∀ H, isN qc s Z H = true -> H ∈ laid) /\ Below N W0 wr /\ N <= wr.heap.size
theorem Rst.below {N : Nat} {W0 wr w' : World} {W : W6} {s : St} {Ld : Nat -> Nat -> List Nat} {r : RS} {laid told act : List Nat} (h : Rst N W0 wr W s Ld r laid told act) (b : Below wr.heap.size wr w') : Rst N W0 w' W s Ld r laid told act := by
 obtain ⟨bs, Z, Ls, mk, A, l, B, hN⟩ := h
 exact ⟨bs, Z, Ls, mk, A.below b, l, B.trans (b.mono hN), Nat.le_trans hN b.size⟩
theorem Rst.cells {N : Nat} {W0 wr : World} {W : W6} {s : St} {Ld : Nat -> Nat -> List Nat} {r : RS} {laid told act : List Nat} (h : Rst N W0 wr W s Ld r laid told act) : wr.cell? ⟨W.b, 0, none⟩ = some (.pointer (some ⟨W.L.g, 0, none⟩)) /\ wr.cell? ⟨W.b, 1, none⟩ = some (.pointer (some ⟨W.gq, 0, none⟩)) /\ wr.cell? ⟨W.b, 2, none⟩ = some (ptrO W.gm) := by
 obtain ⟨bs, Z, Ls, mk, A, l, B, hN⟩ := h
 obtain ⟨y0, y1, -⟩ := A.cW
 exact ⟨y0, y1, A.cL.1⟩
theorem Rst.balance {N : Nat} {W0 wr : World} {W : W6} {s : St} {Ld : Nat -> Nat -> List Nat} {r : RS} {laid told act : List Nat} (h : Rst N W0 wr W s Ld r laid told act) {g : Nat} (hg : W.gm = some g) (sh : Shr W.hot W.warm) (hl : laid.length <= 250) (c : Int) (hc : 0 <= c /\ c < 3) (N9 : Nat) (h9 : N9 < wr.heap.size) (hf : ∀ i, ¬ W.foot qc s i N9) :
  ∃ n1 n2 n3 : Nat, n1 + n2 + n3 <= 250 /\ (∀ w1, Below wr.heap.size wr w1 -> Calls Tryz.prog 18 #[.pointer (some ⟨g, 0, none⟩), .int .i64 c] w1 fun e w' => e = .returned (.tuple #[.int .i64 (n1 : Int), .int .i64 (n2 : Int), .int .i64 (n3 : Int)]) /\ Below w1.heap.size w1 w') /\
  ∃ k m1 m2 m3 T : Nat, k <= 3 * (n1 + n2 + n3) /\ m1 + m2 + m3 = n1 + n2 + n3 /\ ¬ (((n1 + n2 + n3 : Nat) : Int) * W.hot < 100 * (m1 : Int)) /\ ¬ (((n1 + n2 + n3 : Nat) : Int) * W.warm < 100 * (m2 : Int)) /\
  ∀ w1, Below wr.heap.size wr w1 -> Calls Tryz.prog 19 #[.pointer (some ⟨g, 0, none⟩), .int .i64 c, .int .i64 1099511627776, .nilFunc] w1 fun e w2 => e = .returned (.int .i64 (k : Int)) /\ Rst N W0 w2 W s Ld r laid told act /\ w2.heap[N9]? = wr.heap[N9]? /\
   (∀ w3, Below w2.heap.size w2 w3 -> Calls Tryz.prog 18 #[.pointer (some ⟨g, 0, none⟩), .int .i64 c] w3 fun e w' => e = .returned (.tuple #[.int .i64 (m1 : Int), .int .i64 (m2 : Int), .int .i64 (m3 : Int)]) /\ Below w3.heap.size w3 w') /\
   (∀ w3, Below w2.heap.size w2 w3 -> Calls Tryz.prog 19 #[.pointer (some ⟨g, 0, none⟩), .int .i64 c, .int .i64 9, .nilFunc] w3 fun e w4 => e = .returned (.int .i64 0) /\ Rst N W0 w4 W s Ld r laid told act /\ w4.heap[N9]? = wr.heap[N9]? /\
    (∀ w5, Below w4.heap.size w4 w5 -> Calls Tryz.prog 20 #[.pointer (some ⟨W.gq, 0, none⟩), .int .i64 c, .int .i64 3] w5 fun e w' => e = .returned (.tuple #[.int .u64 (T : Int), .bool (decide (0 < m3))]) /\ w5 = w') /\
    (0 < m3 -> ∀ w5, Below w4.heap.size w4 w5 -> Calls Tryz.prog 21 #[.pointer (some ⟨W.b, 0, none⟩), .int .u64 (T : Int)] w5 fun e w' => e = .returned (.bool false) /\ Below w5.heap.size w5 w') /\
    (∀ w5, Below w4.heap.size w4 w5 -> Calls Tryz.prog 22 #[.pointer (some ⟨W.b, 0, none⟩), .int .i64 c] w5 fun e w' => (∃ A cp, e = .returned (.slice A (n1 + n2 + n3) cp)) /\ Below w5.heap.size w5 w')) := by
 have hR := h
 obtain ⟨bs, Z, Ls, mk, A, l, B, hN⟩ := h
 have q := A.q.ql
 have okc := A.okc
 have gd := A.good
 have tot := QL.tot q l c
 have phi := phi_two Ls mk c
 have ls := fun w1 (b : Below wr.heap.size wr w1) => (A.below b).ls (g := g) hg
 have ei : Cls.In 1099511627776 := by unfold Cls.In; decide
 have e9 : Cls.In 9 := by unfold Cls.In; decide
 obtain ⟨k1, k2, k3, k4, k5⟩ := bal_phi okc gd sh (1099511627776 : Int).toNat Ls mk (x := c) q
 have hbig : phiN Ls mk c <= (1099511627776 : Int).toNat := by
  have : (1099511627776 : Int).toNat = 1099511627776 := rfl
  omega
 obtain ⟨d0, -⟩ := k5 hbig
 have bal := fun w1 (b : Below wr.heap.size wr w1) => balanceC (ls w1 b) sh c 1099511627776 ei
 generalize balN s Z W.hot W.warm c (1099511627776 : Int).toNat Ls mk = P at *
 obtain ⟨ks, L2, mk2⟩ := P
 simp only at *
 have et : totX L2 c = lenX L2 c 1 + lenX L2 c 2 + lenX L2 c 3 := rfl
 have et0 : totX Ls c = lenX Ls c 1 + lenX Ls c 2 + lenX Ls c 3 := rfl
 have da : dueA (actB s Z mk2) L2 W.hot W.warm c = 0 := d0
 have hh : hotB L2 W.hot c = false := by
  cases e : hotB L2 W.hot c with
  | false => rfl
  | true => unfold dueA at da; rw [e] at da; cases da
 have hw : warmB L2 W.warm c = false := by
  cases e : warmB L2 W.warm c with
  | false => rfl
  | true => unfold dueA at da; rw [hh, e] at da; cases da
 have hcold : (decide (0 < lenX L2 c 3) && actB s Z mk2 (tailX L2 c 3)) = false := by
  cases e : (decide (0 < lenX L2 c 3) && actB s Z mk2 (tailX L2 c 3)) with
  | false => rfl
  | true => unfold dueA at da; rw [hh, hw, e] at da; cases da
 refine ⟨lenX Ls c 1, lenX Ls c 2, lenX Ls c 3, by omega, fun w1 b => lenC3 (ls w1 b) c, ks.length, lenX L2 c 1, lenX L2 c 2, lenX L2 c 3, tailX L2 c 3, by omega, by omega, ?_, ?_, fun w1 b1 => ?_⟩
 ·have := of_decide_eq_false hh
  rw [k2, et0] at this
  exact this
 ·have := of_decide_eq_false hw
  rw [k2, et0] at this
  exact this
 refine (bal w1 b1).mono ?_
 rintro e w2 ⟨rfl, D⟩
 have st9 : w2.heap[N9]? = wr.heap[N9]? := (D.1.block _ (Nat.lt_of_lt_of_le h9 b1.size) (by
  rintro (e | e)
  ·exact hf .set (by rw [e]; exact ⟨.bytes, rfl⟩)
  ·exact hf .queue (.inr e))).trans (b1.block _ h9)
 obtain ⟨bs2, Z2, e2, z2, G2, A2⟩ := (A.below b1).dl (g := g) hg D
 have hB2 : Below N W0 w2 := B.trans ((b1.mono hN).trans (G2.below (A.below b1).base (A.below b1).hN0))
 have l2 : ∀ H, isN qc s Z2 H = true -> H ∈ laid := fun H hI => l H (by rw [<- isN_congr z2]; exact hI)
 have R2 : Rst N W0 w2 W s Ld r laid told act := ⟨bs2, Z2, L2, mk2, A2, l2, hB2, A2.hN0⟩
 have ls2 := fun w3 (b : Below w2.heap.size w2 w3) => (A2.below b).ls (g := g) hg
 have d2 : dueK s Z2 L2 mk2 W.hot W.warm c = 0 := by rw [dueK_congr z2]; exact d0
 refine ⟨rfl, R2, st9, fun w3 b3 => lenC3 (ls2 w3 b3) c, fun w3 b3 => ?_⟩
 have bal2 := balanceC (ls2 w3 b3) sh c 9 e9
 rw [balN_no d2] at bal2
 refine bal2.mono ?_
 rintro e w4 ⟨rfl, D4⟩
 have st94 : w4.heap[N9]? = wr.heap[N9]? := (D4.1.block _ (by have := b1.size; have := D.1.size; have := b3.size; omega) (by
  rintro (e | e)
  ·exact hf .set (by rw [e]; exact ⟨.bytes, rfl⟩)
  ·exact hf .queue (.inr e))).trans ((b3.block _ (by have := b1.size; have := D.1.size; omega)).trans st9)
 obtain ⟨bs4, Z4, e4, z4, G4, A4⟩ := (A2.below b3).dl (g := g) hg D4
 have hB4 : Below N W0 w4 := hB2.trans ((b3.mono A2.hN0).trans (G4.below (A2.below b3).base (A2.below b3).hN0))
 have ls4 := fun w5 (b : Below w4.heap.size w4 w5) => (A4.below b).ls (g := g) hg
 refine ⟨rfl, ⟨bs4, Z4, L2, mk2, A4, fun H hI => l2 H (by rw [<- isN_congr z4]; exact hI), hB4, A4.hN0⟩, st94, fun w5 b5 => ?_, fun h3 w5 b5 => ?_, fun w5 b5 => ?_⟩
 ·exact tailC (A4.below b5).q c 3
 ·have ht := (ls4 w5 b5).tail h3
  have := activeW (ls4 w5 b5) (b := W.b) (A4.below b5).cW.1 (tailX L2 c 3) ht.2.1
  have ea : actB s Z4 mk2 (tailX L2 c 3) = false := by
   rw [actB_congr z4, actB_congr z2]
   rw [decide_eq_true h3, Bool.true_and] at hcold
   exact hcold
  rw [ea] at this
  exact this
 ·have t9 : totX L2 c <= 900 := by rw [k2]; omega
  have := rowC (A4.below b5).q (b := W.b) (A4.below b5).cW.2.1 c t9
  rw [rowX_len, k2, et0] at this
  exact this.mono fun e w' ⟨b, A, cp, e1, _⟩ => ⟨⟨A, cp, e1⟩, b⟩
set_option maxHeartbeats 3200000 in
theorem lruRestsC (W : World) (a b : Int) (ha : Cls.In a) (hb : Cls.In b) (a0 : Option Addr) (cap : Nat) (l : List Op6) (hP : ∀ (k : Nat) (hk : k < l.length), ORow W a0 k l[k]) (hl : l.length <= maxLen) :
  Calls Tryz.prog 5 #[.agg #[.int .i64 a, .int .i64 b], .slice a0 l.length cap] W fun e w' => e = .returned (.bool true) /\ Below W.heap.size W w' := by
 obtain ⟨w1, hw1⟩ : ∃ w1, w1 = W.alloc (.cells #[.int .i64 a, .int .i64 b] 38) := ⟨_, rfl⟩
 have B1 : Blk w1 W.heap.size 38 #[.int .i64 a, .int .i64 b] := by rw [hw1]; exact Blk.new W _ _
 have b1 : Below W.heap.size W w1 := by rw [hw1]; exact (Below.refl _ _).alloc (Nat.le_refl _) _
 have x0 := B1.cell 0
 have x1 := B1.cell 1
 have SC1 := Lib.hid (scriptedC w1 a b ha hb a0 cap l (fun k hk => by
  obtain ⟨b9, off, e, h1, h2, h3⟩ := hP k hk
  exact ⟨b9, off, e, Nat.lt_of_lt_of_le h1 b1.size, h2, h3.below b1 h1⟩) hl)
 have SH := Lib.hid (fun w => sharedC w a b ha hb)
 have sh0 := begun_shr a b
 have WC := Lib.hid wakesC
 unfold maxLen at hl
 clear hP ha hb
 generalize hotN a = hot at *
 generalize warmN a b = warm at *
 obtain ⟨N, hN⟩ : ∃ N, W.heap.size = N := ⟨_, rfl⟩
 rw [hN] at b1 x0 x1 B1 ⊢
 have hN1 : N <= w1.heap.size := by have := b1.size; rw [<- hN]; exact this
 replace hN := Lib.hid hN
 replace hw1 := Lib.hid hw1
 replace B1 := Lib.hid B1
 go_enter Tryz.func5, Tryz.ntmps5
 go_upto_region 1 with fail
 rw [hN.out, <- hw1.out]
 go_wp2_with fail
 refine SC1.out.mono ?_
 rintro e w2 ⟨b0, g, rfl, t, ht, W2, s, bs, Z, Ls, r, laid, told, act, mk, eb, eg, eh, ew, hB, hN2, T⟩
 have B2 := B1.out.below hB B1.out.lt
 have x0 := B2.cell 0
 have x1 := B2.cell 1
 have R2 : Rst N W w2 W2 s Ls r laid told act := ⟨bs, Z, Ls, mk, T.wat.weak hN1, T.laid_, b1.trans (hB.mono hN1), Nat.le_trans hN1 hN2⟩
 have hla : laid.length <= 250 := Nat.le_trans T.la ht
 have ub : ∀ (w3 : World) i, w2.heap.size <= w3.heap.size -> ¬ W2.foot qc s i w3.heap.size := fun w3 i h e => by
  have := T.wat.lt i _ e
  omega
 have shW : Shr W2.hot W2.warm := by rw [eh, ew]; exact sh0
 have sq := sh0
 replace R2 := Lib.hid R2
 replace ub := Lib.hid ub
 replace shW := Lib.hid shW
 replace eg := Lib.hid eg
 replace hla := Lib.hid hla
 clear SC1 b1 hB hN2 T B1 B2 hw1 hN1
 go_wp2_with fail
 refine (SH.out w2).mono ?_
 rintro e w3 ⟨rfl, b3⟩
 have R3 := R2.out.below b3
 obtain ⟨N9, h9⟩ : ∃ N9, N9 = w3.heap.size := ⟨_, rfl⟩
 obtain ⟨w4, hw4⟩ : ∃ w4, w4 = w3.alloc (.cells #[.int .i64 (hot : Int), .int .i64 (warm : Int)] 38) := ⟨_, rfl⟩
 have B4 : Blk w4 N9 38 #[.int .i64 (hot : Int), .int .i64 (warm : Int)] := by rw [hw4, h9]; exact Blk.new w3 _ _
 have b4 : Below w3.heap.size w3 w4 := by rw [hw4]; exact (Below.refl _ _).alloc (Nat.le_refl _) _
 have R4 := R3.below b4
 have hf : ∀ i, ¬ W2.foot qc s i N9 := fun i => by rw [h9]; exact ub.out w3 i b3.size
 replace R4 := Lib.hid R4
 replace B4 := Lib.hid B4
 replace hf := Lib.hid hf
 replace h9 := Lib.hid h9
 replace hw4 := Lib.hid hw4
 clear R2 R3 b3 b4 x0 x1 ub SH
 go_upto_region 5 with fail
 rw [<- h9.out, <- hw4.out]
 clear hw4 h9
 go_wp2_with fail
 go_loopw [7] (fun vi wr => ∃ c : Nat, vi = .int .i64 (c : Int) /\ c <= 3 /\ Hid (Rst N W wr W2 s Ls r laid told act) /\ Hid (Blk wr N9 38 #[.int .i64 (hot : Int), .int .i64 (warm : Int)])) (fun vi _ => 3 - (intOf vi).toNat)
 case atStart => exact ⟨0, rfl, by omega, R4, B4⟩
 case round =>
  obtain ⟨c, rfl, hc, R, B⟩ := hrel
  clear R4 B4
  by_cases hc3 : c < 3
  ·have d1 : decide ((c : Int) < 3) = true := decide_eq_true (by omega)
   have d1' : decide (c < 3) = true := decide_eq_true hc3
   have q1 : IntKind.i64.wrap ((c : Int) + 1) = (c : Int) + 1 := IntWalk.i64_in _ (by omega)
   obtain ⟨n1, n2, n3, hn, L1, k, m1, m2, m3, T, hk, hm, hh, hw, BC⟩ := R.out.balance eg.out shW.out hla.out (c : Int) (by omega) N9 B.out.lt hf.out
   rw [eh] at hh
   rw [ew] at hw
   obtain ⟨y0, y1, y2⟩ := R.out.cells
   rw [eb] at y0 y1 y2
   rw [eg.out] at y2
   unfold ptrO at y2
   have CE : ∀ w', Rst N W w' W2 s Ls r laid told act -> w'.cell? ⟨b0, 1, none⟩ = some (.pointer (some ⟨W2.gq, 0, none⟩)) /\ w'.cell? ⟨b0, 2, none⟩ = some (.pointer (some ⟨g, 0, none⟩)) := fun w' R' => by
    obtain ⟨y0, y1, y2⟩ := R'.cells
    rw [eb] at y1 y2
    rw [eg.out] at y2
    exact ⟨y1, y2⟩
   rw [eb] at BC
   have p1 : IntKind.i64.wrap ((n1 : Int) + (n2 : Int)) = (n1 : Int) + (n2 : Int) := IntWalk.i64_in _ (by omega)
   obtain ⟨n, en⟩ : ∃ n, n = n1 + n2 + n3 := ⟨_, rfl⟩
   have p2 : IntKind.i64.wrap ((n1 : Int) + (n2 : Int) + (n3 : Int)) = (n : Int) := by rw [IntWalk.i64_in _ (by omega)]; omega
   have p3 : IntKind.i64.wrap ((m1 : Int) + (m2 : Int)) = (m1 : Int) + (m2 : Int) := IntWalk.i64_in _ (by omega)
   have p4 : IntKind.i64.wrap ((m1 : Int) + (m2 : Int) + (m3 : Int)) = (n : Int) := by rw [IntWalk.i64_in _ (by omega)]; omega
   rw [<- en] at hk hm hh hw BC hn
   have p5 : IntKind.i64.wrap (100 * (m1 : Int)) = 100 * (m1 : Int) := IntWalk.i64_in _ (by omega)
   have p6 : IntKind.i64.wrap (100 * (m2 : Int)) = 100 * (m2 : Int) := IntWalk.i64_in _ (by omega)
   have bh : (n : Int) * (hot : Int) <= 250 * 90 := Int.mul_le_mul (by omega) sq.h2 (by omega) (by omega)
   have bh0 : 0 <= (n : Int) * (hot : Int) := Int.mul_nonneg (by omega) (by omega)
   have bw : (n : Int) * (warm : Int) <= 250 * 90 := Int.mul_le_mul (by omega) sq.w2 (by omega) (by omega)
   have bw0 : 0 <= (n : Int) * (warm : Int) := Int.mul_nonneg (by omega) (by omega)
   have p9 : IntKind.i64.wrap (3 * (n : Int)) = 3 * (n : Int) := IntWalk.i64_in _ (by omega)
   obtain ⟨X, eX⟩ : ∃ X : Int, X = (n : Int) * (hot : Int) := ⟨_, rfl⟩
   obtain ⟨Y, eY⟩ : ∃ Y : Int, Y = (n : Int) * (warm : Int) := ⟨_, rfl⟩
   have p7 : IntKind.i64.wrap ((n : Int) * (hot : Int)) = X := by rw [eX]; exact IntWalk.i64_in _ (by omega)
   have p8 : IntKind.i64.wrap ((n : Int) * (warm : Int)) = Y := by rw [eY]; exact IntWalk.i64_in _ (by omega)
   rw [<- eX] at hh
   rw [<- eY] at hw
   have e0 : ((n : Int) != (n : Int)) = false := bne_self_eq_false _
   have e1 : decide (X < 100 * (m1 : Int)) = false := decide_eq_false hh
   have e2 : decide (Y < 100 * (m2 : Int)) = false := decide_eq_false hw
   have e3 : decide ((k : Int) < 0) = false := decide_eq_false (by omega)
   have e4 : decide (3 * (n : Int) < (k : Int)) = false := decide_eq_false (by omega)
   have e5 : decide (3 * n < k) = false := decide_eq_false (by omega)
   have L1r := Lib.hid (L1 wr (Below.refl _ _))
   replace BC := Lib.hid BC
   replace CE := Lib.hid CE
   replace en := Lib.hid en
   replace hk := Lib.hid hk
   replace hm := Lib.hid hm
   replace hn := Lib.hid hn
   replace eX := Lib.hid eX
   replace eY := Lib.hid eY
   clear L1 hh hw bh bh0 bw bw0
   go_wp2_with fail
   refine L1r.out.mono ?_
   rintro e w5 ⟨rfl, b5⟩
   obtain ⟨y1, y2⟩ := CE.out w5 (R.out.below b5)
   have BC5 := Lib.hid (BC.out w5 b5)
   clear y0 L1r b5 BC x0 x1
   go_wp2_with fail
   refine BC5.out.mono ?_
   rintro e w6 ⟨rfl, R6, st6, L6, BC6⟩
   have B6 : Blk w6 N9 38 #[.int .i64 (hot : Int), .int .i64 (warm : Int)] := st6.trans B.out
   obtain ⟨y1, y2⟩ := CE.out w6 R6
   have L6r := Lib.hid (L6 w6 (Below.refl _ _))
   replace BC6 := Lib.hid BC6
   replace R6 := Lib.hid R6
   replace B6 := Lib.hid B6
   clear BC5 R st6 L6
   go_wp2_with fail
   refine L6r.out.mono ?_
   rintro e w7 ⟨rfl, b7⟩
   obtain ⟨y1, y2⟩ := CE.out w7 (R6.out.below b7)
   have B7 := B6.out.below b7 B6.out.lt
   have x0 := B7.cell 0
   have x1 := B7.cell 1
   have BC7 := Lib.hid (BC6.out w7 b7)
   clear b7 B7 BC6 R6 B6 L6r
   go_wp2_with fail
   refine BC7.out.mono ?_
   rintro e w8 ⟨rfl, R8, st8, T8, A8, W8⟩
   have B8 : Blk w8 N9 38 #[.int .i64 (hot : Int), .int .i64 (warm : Int)] := st8.trans B.out
   obtain ⟨y1, y2⟩ := CE.out w8 R8
   have T8r := T8 w8 (Below.refl _ _)
   have A8r := fun h => A8 h w8 (Below.refl _ _)
   replace W8 := Lib.hid W8
   replace R8 := Lib.hid R8
   replace B8 := Lib.hid B8
   clear BC7 T8 A8 B x0 x1 p5 p6 p7 p8 p9 e1 e2 e3 e4 e5
   have fin : ∀ w9, Below w8.heap.size w8 w9 -> Hid (Rst N W w9 W2 s Ls r laid told act) /\ Hid (Blk w9 N9 38 #[.int .i64 (hot : Int), .int .i64 (warm : Int)]) := fun w9 b9 => ⟨Lib.hid (R8.out.below b9), Lib.hid (B8.out.below b9 B8.out.lt)⟩
   replace fin := Lib.hid fin
   by_cases h3 : 0 < m3
   ·have f1 : decide (0 < m3) = true := decide_eq_true h3
    have f2 : decide ((0 : Int) < (m3 : Int)) = true := decide_eq_true (by omega)
    rw [f1] at T8r
    have A8r := Lib.hid (A8r h3)
    replace T8r := Lib.hid T8r
    replace h3 := Lib.hid h3
    go_wp2_with fail
    refine T8r.out.mono ?_
    rintro e w9 ⟨rfl, rfl⟩
    go_wp2_with fail
    refine A8r.out.mono ?_
    rintro e w9 ⟨rfl, b9⟩
    have W9 := Lib.hid (W8.out w9 b9)
    replace b9 := Lib.hid b9
    clear A8r T8r W8 y1 y2
    go_wp2_with fail
    refine W9.out.mono ?_
    rintro e w10 ⟨⟨A, cp, rfl⟩, b10⟩
    obtain ⟨F1, F2⟩ := fin.out w10 (b9.out.trans (b10.mono b9.out.size))
    clear W9 b9 b10
    go_wp2
    go_roundw
    case rel => exact ⟨c + 1, by simp, by omega, F1, F2⟩
    case measure => simp [intOf] <;> omega
   ·have f1 : decide (0 < m3) = false := decide_eq_false h3
    have f2 : decide ((0 : Int) < (m3 : Int)) = false := decide_eq_false (by omega)
    rw [f1] at T8r
    have W9 := Lib.hid (W8.out w8 (Below.refl _ _))
    replace T8r := Lib.hid T8r
    replace h3 := Lib.hid h3
    clear A8r W8
    go_wp2_with fail
    refine T8r.out.mono ?_
    rintro e w9 ⟨rfl, rfl⟩
    clear T8r y1 y2
    go_wp2_with fail
    refine W9.out.mono ?_
    rintro e w10 ⟨⟨A, cp, rfl⟩, b10⟩
    obtain ⟨F1, F2⟩ := fin.out w10 b10
    clear W9 b10
    go_wp2
    go_roundw
    case rel => exact ⟨c + 1, by simp, by omega, F1, F2⟩
    case measure => simp [intOf] <;> omega
  ·obtain rfl : c = 3 := by omega
   have hBW : Hid (Below N W wr /\ N <= wr.heap.size) := Lib.hid (by obtain ⟨_, _, _, _, _, _, h1, h2⟩ := R.out; exact ⟨h1, h2⟩)
   clear R B hc hc3
   go_wp2_with fail
   refine (WC.out _).mono ?_
   rintro e w7 ⟨rfl, b7⟩
   have hB7 := Lib.hid (hBW.out.1.trans (b7.mono hBW.out.2))
   clear b7
   go_wp2
   go_ret
   exact ⟨rfl, hB7.out⟩
end Go.Proofs.YtngehaiigbbknaaGreat.Que
