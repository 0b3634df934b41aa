/-
  Contracts and lemmas, joined: QueueRowPlain, QueueRowAt, QueueRowLaw.
-/
import Derived.Test.YtfjiphibalhcgaaGreatJ11
set_option linter.unusedSimpArgs false
set_option linter.unusedVariables false
/-
  QueueRow's row in plain numbers.
-/
namespace Go.Proofs.YtfjiphibalhcgaaGreat.Que
open Go.RowKit Base Arena Cls Itm
set_option linter.unusedVariables false

/-- One list of class 0 has items, the k-th. -/
def oneL (k : Nat) (l : List Nat) : Nat → Nat → List Nat := fun a b => if a = 0 ∧ b = k then l else []
theorem oneL_at (k : Nat) (l : List Nat) : oneL k l 0 k = l := if_pos ⟨rfl, rfl⟩
theorem oneL_upd (k : Nat) (l l' : List Nat) : updL (oneL k l) 0 k l' = oneL k l' := by
  funext a b
  unfold updL oneL
  split <;> rfl
theorem oneL_nil (k : Nat) : oneL k [] = fun _ _ => [] := by
  funext a b
  unfold oneL
  split <;> rfl
theorem oneL_no {k : Nat} {l : List Nat} {H : Nat} (h : H ∉ l) : stK 0 (oneL k l) H = 0 := by
  have key : ∀ j, H ∉ oneL k l 0 j := by
    intro j hm
    unfold oneL at hm
    split at hm
    · exact h hm
    · cases hm
  unfold stK
  rw [if_neg (key 0), if_neg (key 1), if_neg (key 2)]
theorem oneL_yes {k : Nat} (hk : k < 3) {l : List Nat} {H : Nat} (h : H ∈ l) : stK 0 (oneL k l) H = k + 1 := by
  have key : ∀ j, j ≠ k → H ∉ oneL k l 0 j := by
    intro j hj hm
    unfold oneL at hm
    rw [if_neg (fun e => hj e.2)] at hm
    cases hm
  have hk' : H ∈ oneL k l 0 k := by rw [oneL_at]; exact h
  unfold stK
  obtain rfl | rfl | rfl : k = 0 ∨ k = 1 ∨ k = 2 := by omega
  · rw [if_pos hk']
  · rw [if_neg (key 0 (by omega)), if_pos hk']
  · rw [if_neg (key 0 (by omega)), if_neg (key 1 (by omega)), if_pos hk']
theorem lsN_one {k : Nat} (hk : k < 3) (l : List Nat) : lsN qc (oneL k l) 0 ((k : Int) + 1) = l := by
  unfold lsN
  rw [if_pos ⟨by omega, by rw [qc_nc]; decide, by omega, by omega⟩, show ((k : Int) + 1).toNat - 1 = k by omega]
  exact oneL_at k l
theorem rev_erase {a b : List Nat} {H : Nat} (hb : H ∉ b) : ((a ++ H :: b).reverse).erase H = (a ++ b).reverse := by
  have e : (a ++ H :: b).reverse = b.reverse ++ H :: a.reverse := by simp
  rw [e, List.erase_append_right _ (by simpa using hb), List.erase_cons_head, List.reverse_append]
/-- The told items: all of them good, of class 0. -/
structure RowI (s : St) (Z : Nat → Option Zd) (told want : List Nat) : Prop where
  it : ∀ H ∈ told, ∃ i x p, findN qc.cf s H = some (i, x, p) ∧ s.cls i = 0
  is : ∀ H ∈ told, (Z H).isSome = true
  sub : ∀ H ∈ want, H ∈ told
  nd : want.Nodup
/-- Of class 0 so many are taken, of its first page. -/
def Rm (s : St) (i : Nat) : Prop := (i = 0 ∧ s = new0 qc.cf) ∨ (0 < i ∧ (s.free 0).length + i = 64)
theorem Rm.room {s : St} {i : Nat} (ok : qc.cf.Ok) (h : Rm s i) (hi : i < 64) : ∃ s1, roomS qc.cf s 0 = some s1 ∧ (s1.free 0).length + i = 64 := by
  rcases h with ⟨rfl, rfl⟩ | ⟨h1, h2⟩
  · exact ⟨_, room_new ok 0, by decide⟩
  · refine ⟨s, ?_, h2⟩
    unfold roomS
    split
    · rename_i e
      rw [e] at h2
      simp at h2
      omega
    · rfl
theorem Rm.take {s1 : St} {i p : Nat} (h : (s1.free 0).length + i = 64) (hi : i < 64) : Rm (takeS qc.cf s1 0 p) (i + 1) := by
  refine .inr ⟨by omega, ?_⟩
  show (upd s1.free 0 (s1.free 0).dropLast 0).length + (i + 1) = 64
  rw [upd_at, List.length_dropLast]
  omega
theorem RowI.z {s : St} {Z Z' : Nat → Option Zd} {told want : List Nat} (h : RowI s Z told want) (hz : ∀ H, (Z' H).isSome = (Z H).isSome) : RowI s Z' told want :=
  ⟨h.it, fun H hH => (hz H).trans (h.is H hH), h.sub, h.nd⟩
theorem RowI.make {s s1 : St} {Z : Nat → Option Zd} {told want : List Nat} (ok : qc.cf.Ok) (g : Cls.Good qc.cf s) (h : RowI s Z told want) (hr : roomS qc.cf s 0 = some s1) {l : List Nat} {p : Nat} (hp : s1.free 0 = l ++ [p]) {H0 : Nat}
    (h0 : H0 = hnd p (s1.gens (p / qc.cf.ps) (p % qc.cf.ps / qc.cf.sz 0))) :
    H0 ∉ told ∧ RowI (takeS qc.cf s1 0 p) (upd Z H0 (some ⟨4, 0, 0⟩)) (told ++ [H0]) want := by
  obtain ⟨⟨i, x, f, c⟩, A, -⟩ := took_find ok g (by decide) hr hp h0
  have hn : H0 ∉ told := fun hm => by
    obtain ⟨i, x, p, hf, -⟩ := h.it H0 hm
    exact (A _ _ _ _ hf).2.2.1 rfl
  have it : ∀ H ∈ told ++ [H0], ∃ i x q, findN qc.cf (takeS qc.cf s1 0 p) H = some (i, x, q) ∧ (takeS qc.cf s1 0 p).cls i = 0 := by
    intro H hH
    rcases List.mem_append.1 hH with hH | hH
    · obtain ⟨i, x, q, hf, hc⟩ := h.it H hH
      exact ⟨i, x, q, (A _ _ _ _ hf).1, (A _ _ _ _ hf).2.1.trans hc⟩
    · rw [List.mem_singleton] at hH
      subst hH
      exact ⟨i, x, p, f, c⟩
  have is : ∀ H ∈ told ++ [H0], (upd Z H0 (some ⟨4, 0, 0⟩) H).isSome = true := by
    intro H hH
    by_cases e : H = H0
    · subst e; rw [upd_at]; rfl
    · rw [upd_ne _ _ e]
      rcases List.mem_append.1 hH with hH | hH
      · exact h.is H hH
      · exact absurd (List.mem_singleton.1 hH) e
  exact ⟨hn, it, is, fun H hH => List.mem_append.2 (.inl (h.sub H hH)), h.nd⟩
theorem RowI.add {s : St} {Z : Nat → Option Zd} {told want : List Nat} (h : RowI s Z told want) {H : Nat} (hH : H ∈ told) (hn : H ∉ want) : RowI s Z told (H :: want) ∧ RowI s Z told (want ++ [H]) := by
  refine ⟨⟨h.it, h.is, fun x hx => ?_, List.nodup_cons.2 ⟨hn, h.nd⟩⟩, ⟨h.it, h.is, fun x hx => ?_, List.nodup_append.2 ⟨h.nd, by simp, fun a ha b hb e => ?_⟩⟩⟩
  · rcases List.mem_cons.1 hx with rfl | hx
    · exact hH
    · exact h.sub x hx
  · rcases List.mem_append.1 hx with hx | hx
    · exact h.sub x hx
    · rw [List.mem_singleton] at hx; exact hx ▸ hH
  · rw [List.mem_singleton] at hb
    exact hn (hb ▸ e ▸ ha)
section
variable {s : St} {Z : Nat → Option Zd} {told want : List Nat} (h : RowI s Z told want) {H : Nat} (hH : H ∈ told) {k : Nat} (hk : k < 3) {l : List Nat}
include h hH
theorem RowI.cl : clsN qc s H = 0 := by
  obtain ⟨i, x, p, hf, hc⟩ := h.it H hH
  unfold clsN
  rw [hf]
  exact hc
theorem RowI.lt (ok : qc.cf.Ok) (g : Cls.Good qc.cf s) : H < 18446744073709551616 := by
  obtain ⟨i, x, p, hf, hc⟩ := h.it H hH
  exact good_lt ok g hf
include hk
theorem RowI.push (hn : H ∉ l) (last : Bool) : pushN qc s Z (oneL k l) H ((k : Int) + 1) last = (0, oneL k (if last then l ++ [H] else H :: l)) := by
  obtain ⟨i, x, p, hf, hc⟩ := h.it H hH
  have ei : isN qc s Z H = true := by unfold isN; rw [hf, h.is H hH]; rfl
  unfold pushN
  rw [if_neg (by omega), if_neg (by rw [ei]; exact Bool.noConfusion), h.cl hH, if_neg (fun e => e (oneL_no hn)), show ((k : Int) + 1).toNat - 1 = k by omega]
  unfold putN
  rw [oneL_at, oneL_upd]
theorem RowI.shift (hm : H ∈ l) : shiftN qc s (oneL k l) H ((k : Int) + 1) = (0, oneL k (H :: l.erase H)) := by
  unfold shiftN
  rw [if_neg (by omega), h.cl hH, if_neg (by rw [oneL_yes hk hm]; omega), show ((k : Int) + 1).toNat - 1 = k by omega]
  unfold putN outN
  rw [oneL_yes hk hm, Nat.add_sub_cancel, oneL_at, oneL_upd, oneL_at, oneL_upd]
  rfl
theorem RowI.drop (hm : H ∈ l) : dropN qc s (oneL k l) H = (0, oneL k (l.erase H)) := by
  unfold dropN
  rw [h.cl hH, if_neg (by rw [oneL_yes hk hm]; omega)]
  unfold outN
  rw [oneL_yes hk hm, Nat.add_sub_cancel, oneL_at, oneL_upd]
end
end Go.Proofs.YtfjiphibalhcgaaGreat.Que
/-
  QueueRow's world: its row and its own list beside the statements' world.
-/
namespace Go.Proofs.YtfjiphibalhcgaaGreat.Que
open Go.RowKit Base Arena Cls Itm
set_option linter.unusedVariables false
set_option linter.unusedSectionVars false

/-- What lies elsewhere went on. -/
theorem WAt.only {N : Nat} {w w' : World} {W : W6} {c : Conf} {s : St} {bs : List UInt8} {Z : Nat → Option Zd} {Ls Ld : Nat → Nat → List Nat} {r : RS} {laid told : List Nat} (h : WAt N w W c s bs Z Ls Ld r laid told) {S : Nat → Prop} (o : Only S w w') (hs : ∀ i b, W.foot c s i b → ¬ S b) :
    WAt N w' W c s bs Z Ls Ld r laid told := by
  obtain ⟨F, S, q⟩ := h.q
  exact ⟨⟨F, ⟨S.zs.only o fun b hb => hs .set b hb, S.q.only o (hs .queue _ (.inl rfl)) (hs .queue _ (.inr rfl)), S.fq, S.fl⟩, q⟩, h.ref.only o fun b hb => hs .ref b hb, h.doc.only o fun b hb => hs .doc b hb,
    (o.block _ h.own.lt (hs .own _ (.inl rfl))).trans h.own, own_keptN h.told fun b e => o.block b (own_blockN h.told e) (hs .own b (.inr e)), h.sep, h.tb, h.base⟩
structure RowAt (N : Nat) (w0 w : World) (W : W6) (k : Nat) (s : St) (bs : List UInt8) (Z : Nat → Option Zd) (r : RS) (laid told want l : List Nat) (v : Value) : Prop where
  bel : Below N w0 w
  wat : WAt N w W qc s bs Z (oneL k l) (fun _ _ => []) r laid told
  row : RowI s Z told want
  rel : Rel qc.cf s r
  rm : Rm s told.length
  bs : bs.length = qc.cf.ps * qc.cf.np
  ch : r.ch.length ≤ 16384 * told.length
  la : laid.length ≤ told.length
  own : w.ownsRow N 26 1 v want.length (want.map uv)
  far : ∀ b, v.ownBlock = some b → ∀ i, ¬ W.foot qc s i b
def RwAt (N : Nat) (w0 w : World) (W : W6) (k : Nat) (told want l : List Nat) (v : Value) : Prop := ∃ s bs Z r laid, RowAt N w0 w W k s bs Z r laid told want l v
section
variable {N : Nat} {w0 w : World} {W : W6} {k : Nat} {told want l : List Nat} {v : Value} (h : RwAt N w0 w W k told want l v)
include h
theorem RwAt.cW : w.cell? ⟨W.b, 1, none⟩ = some (.pointer (some ⟨W.gq, 0, none⟩)) ∧ w.cell? ⟨W.b, 4, none⟩ = some W.vT ∧ w.ownsRow 0 26 1 W.vT told.length (told.map uv) ∧ w.ownsRow N 26 1 v want.length (want.map uv) ∧ Below N w0 w ∧ N ≤ w.heap.size := by
  obtain ⟨s, bs, Z, r, laid, h⟩ := h
  exact ⟨h.wat.own.cell 1, h.wat.own.cell 4, h.wat.told, h.own, h.bel, h.wat.hN0⟩
theorem RwAt.below {w' : World} (b : Below w.heap.size w w') : RwAt N w0 w' W k told want l v := by
  obtain ⟨s, bs, Z, r, laid, h⟩ := h
  exact ⟨s, bs, Z, r, laid, h.bel.trans (b.mono h.wat.hN0), h.wat.below b, h.row, h.rel, h.rm, h.bs, h.ch, h.la, own_keptN h.own fun d e => b.block d (own_blockN h.own e), h.far⟩
theorem RwAt.lt {H : Nat} (hH : H ∈ told) : H < 18446744073709551616 := by
  obtain ⟨s, bs, Z, r, laid, h⟩ := h
  exact h.row.lt hH h.wat.okc h.wat.good
theorem RwAt.nd : want.Nodup ∧ ∀ H ∈ want, H ∈ told := by
  obtain ⟨s, bs, Z, r, laid, h⟩ := h
  exact ⟨h.row.nd, h.row.sub⟩
/-- The queue went on. -/
theorem RwAt.turn_ {w' : World} {s : St} {bs : List UInt8} {Z : Nat → Option Zd} {r : RS} {laid : List Nat} (h : RowAt N w0 w W k s bs Z r laid told want l v) {R : Nat} {l' : List Nat} (D : Did w w' W.L qc s bs Z W.gq W.gl (R, oneL k l')) : RwAt N w0 w' W k told want l' v := by
  obtain ⟨o, bs', Z', E, dz, -, Q⟩ := D
  have hne : ∀ b, v.ownBlock = some b → ¬ Two W.L W.gl b := fun b e t => by
    rcases t with t | t
    · exact h.far b e .set (by rw [t]; exact ⟨.bytes, rfl⟩)
    · exact h.far b e .queue (.inr t)
  refine ⟨s, bs', Z', r, laid, h.bel.trans (o.toBelow fun j hj => ⟨by have := h.wat.hN0; omega, fun t => ?_⟩), h.wat.turn o Q, h.row.z dz, h.rel, h.rm, E.1.trans h.bs, h.ch, h.la, own_keptN h.own fun b e => o.block b (own_blockN h.own e) (hne b e), h.far⟩
  rcases t with t | t
  · have := h.wat.base .set j (by rw [t]; exact ⟨.bytes, rfl⟩); omega
  · have := h.wat.base .queue j (.inr t); omega
variable (hk : k < 3) {H : Nat} (hH : H ∈ told)
include hk hH
theorem RwAt.push (hn : H ∉ l) :
    (Calls Tryz.prog 22 #[.pointer (some ⟨W.gq, 0, none⟩), .int .u64 (H : Int), .int .i64 ((k : Int) + 1)] w fun e w' => e = .returned (.int .i64 0) ∧ RwAt N w0 w' W k told want (H :: l) v) ∧
    (Calls Tryz.prog 23 #[.pointer (some ⟨W.gq, 0, none⟩), .int .u64 (H : Int), .int .i64 ((k : Int) + 1)] w fun e w' => e = .returned (.int .i64 0) ∧ RwAt N w0 w' W k told want (l ++ [H]) v) := by
  have h' := h
  obtain ⟨s, bs, Z, r, laid, h⟩ := h
  obtain ⟨A, B⟩ := pushC h.wat.q H (h.row.lt hH h.wat.okc h.wat.good) ((k : Int) + 1)
  rw [h.row.push hH hk hn false] at A
  rw [h.row.push hH hk hn true] at B
  exact ⟨A.mono fun e w' ⟨e1, D⟩ => ⟨e1, RwAt.turn_ h' h D⟩, B.mono fun e w' ⟨e1, D⟩ => ⟨e1, RwAt.turn_ h' h D⟩⟩
theorem RwAt.shift (hm : H ∈ l) : Calls Tryz.prog 25 #[.pointer (some ⟨W.gq, 0, none⟩), .int .u64 (H : Int), .int .i64 ((k : Int) + 1)] w fun e w' => e = .returned (.int .i64 0) ∧ RwAt N w0 w' W k told want (H :: l.erase H) v := by
  have h' := h
  obtain ⟨s, bs, Z, r, laid, h⟩ := h
  have A := shiftC h.wat.q H (h.row.lt hH h.wat.okc h.wat.good) ((k : Int) + 1)
  rw [h.row.shift hH hk hm] at A
  exact A.mono fun e w' ⟨e1, D⟩ => ⟨e1, RwAt.turn_ h' h D⟩
theorem RwAt.drop (hm : H ∈ l) : Calls Tryz.prog 24 #[.pointer (some ⟨W.gq, 0, none⟩), .int .u64 (H : Int)] w fun e w' => e = .returned (.int .i64 0) ∧ RwAt N w0 w' W k told want (l.erase H) v := by
  have h' := h
  obtain ⟨s, bs, Z, r, laid, h⟩ := h
  have A := dropC h.wat.q H (h.row.lt hH h.wat.okc h.wat.good)
  rw [h.row.drop hH hk hm] at A
  exact A.mono fun e w' ⟨e1, D⟩ => ⟨e1, RwAt.turn_ h' h D⟩
end
section
variable {N : Nat} {w0 w : World} {W : W6} {k : Nat} {told want l : List Nat} {v : Value} (h : RwAt N w0 w W k told want l v) (hk : k < 3)
include h hk
theorem RwAt.tail : Calls Tryz.prog 28 #[.pointer (some ⟨W.gq, 0, none⟩), .int .i64 0, .int .i64 ((k : Int) + 1)] w fun e w' => e = .returned (.tuple #[.int .u64 (l.getLast?.getD 0 : Int), .bool (decide (0 < l.length))]) ∧ w = w' := by
  obtain ⟨s, bs, Z, r, laid, h⟩ := h
  have A := tailC h.wat.q 0 ((k : Int) + 1)
  rw [lsN_one hk] at A
  exact A
theorem RwAt.len : Calls Tryz.prog 29 #[.pointer (some ⟨W.gq, 0, none⟩), .int .i64 0, .int .i64 ((k : Int) + 1)] w fun e w' => e = .returned (.int .i64 (l.length : Int)) ∧ w = w' := by
  obtain ⟨s, bs, Z, r, laid, h⟩ := h
  have A := lenC h.wat.q 0 ((k : Int) + 1)
  rw [lsN_one hk] at A
  exact A
end
theorem RwAt.make {N : Nat} {w0 w : World} {W : W6} {k : Nat} {told want l : List Nat} {v : Value} (h : RwAt N w0 w W k told want l v) (ht : told.length < 60) :
    Calls Tryz.prog 20 #[.pointer (some ⟨W.b, 0, none⟩), .agg #[.int .i64 1, .int .i64 0, .int .i64 0, .int .i64 0, .int .u64 0, .bool false]] w fun e w' => e = .returned (.bool true) ∧ ∃ W' H, W'.b = W.b ∧ H ∉ told ∧ RwAt N w0 w' W' k (told ++ [H]) want l v := by
  obtain ⟨s, bs, Z, r, laid, h⟩ := h
  have ok := h.wat.okc
  obtain ⟨s1, hr, hf⟩ := h.rm.room ok (by omega)
  obtain ⟨l0, p, hp⟩ := (room_good ok h.wat.good (by decide) hr).2
  obtain ⟨H0, h0⟩ : ∃ H0, H0 = hnd p (s1.gens (p / qc.cf.ps) (p % qc.cf.ps / qc.cf.sz 0)) := ⟨_, rfl⟩
  obtain ⟨hn, rw'⟩ := h.row.make ok h.wat.good hr hp h0
  have hch := h.ch
  have hla := h.la
  refine (makesItem h.wat o0 o0_ok h.rel h.bs (by omega) (by have := free_short h.wat.good ok (k := 0) (by decide); exact Nat.le_trans (Nat.add_le_add_right this _) (by decide)) (by omega) (by omega) hr hp h0 (by decide)).mono ?_
  rintro e w' ⟨rfl, b, W', r', eb, G, R', hc', bs', hb', A'⟩
  have key : ∀ b, v.ownBlock = some b → w'.heap[b]? = w.heap[b]? ∧ ∀ i, ¬ W'.foot qc (takeS qc.cf s1 0 p) i b := fun b e => G.away (own_blockN h.own e) (h.far b e)
  refine ⟨rfl, W', H0, eb, hn, _, _, _, _, _, h.bel.trans b, A', rw', R', ?_, hb'.trans h.bs, ?_, ?_, own_keptN h.own fun b e => (key b e).1, fun b e => (key b e).2⟩
  · rw [List.length_append]
    exact Rm.take hf (by omega)
  · rw [List.length_append, List.length_singleton]
    omega
  · rw [List.length_append, List.length_singleton]
    unfold laidN
    split
    · omega
    · rw [List.length_append, List.length_singleton]; omega
/-- The own list is another one. -/
theorem RwAt.list {N : Nat} {w0 w w' : World} {W : W6} {k : Nat} {told want l want' : List Nat} {v v' : Value} (h : RwAt N w0 w W k told want l v) (o : Only (fun b => v.ownBlock = some b) w w') (own : w'.ownsRow N 26 1 v' want'.length (want'.map uv))
    (hat : ∀ b, v'.ownBlock = some b → v.ownBlock = some b ∨ w.heap.size ≤ b) (hd : want'.Nodup) (hs : ∀ H ∈ want', H ∈ told) : RwAt N w0 w' W k told want' l v' := by
  obtain ⟨s, bs, Z, r, laid, h⟩ := h
  refine ⟨s, bs, Z, r, laid, h.bel.trans (o.toBelow fun j hj => ⟨by have := h.wat.hN0; omega, fun e => by have := own_base h.own e; omega⟩), h.wat.only o fun i b hb e => h.far b e i hb, ⟨h.row.it, h.row.is, hs, hd⟩, h.rel, h.rm, h.bs, h.ch, h.la, own, fun b e i hf => ?_⟩
  rcases hat b e with h1 | h1
  · exact h.far b h1 i hf
  · have := h.wat.lt i b hf; omega
theorem own_more {w : World} {N B n : Nat} {e : TypeId} {v : Value} {xs : List Value} (h : w.ownsRow B e 1 v n xs) (hN : N ≤ B) : w.ownsRow N e 1 v n xs :=
  ⟨h.1, h.2.imp id fun ⟨g, cap, cur, e1, hB, hh⟩ => ⟨g, cap, cur, e1, by omega, hh⟩⟩
/-- .. in new memory. -/
theorem RwAt.fresh {N : Nat} {w0 w w' : World} {W : W6} {k : Nat} {told want l want' : List Nat} {v v' : Value} (h : RwAt N w0 w W k told want l v) (b : Below w.heap.size w w') (own : w'.ownsRow w.heap.size 26 1 v' want'.length (want'.map uv)) (hd : want'.Nodup) (hs : ∀ H ∈ want', H ∈ told) : RwAt N w0 w' W k told want' l v' :=
  h.list (Only.of_below b (Nat.le_refl _) _) (own_more own h.cW.2.2.2.2.2) (fun b e => .inr (own_base own e)) hd hs
/-- An append as one step of a region that draws its order. -/
theorem step_app {P : Program} {w : World} {ops : Array Oper} {o : Oper} {a : Act} {K : Act → World → Prop} {Q : Exit → Act → World → Prop} {X : Prop} (hgd : o.guard = none) (s x : Operand) (t : TypeId)
    (ho : o.op = .call { callee := .builtin .append, args := #[s, x], argTypes := #[t, t] })
    {e : TypeId} {z : Value} {size bytes : Nat} (E : EI P t e z size bytes)
    (base : Nat) (v : Value) (n : Nat) (xs : List Value) (hs : a.eval s = v) (hown : w.ownsRow base e size v n xs)
    (B : Nat) (A : Option Addr) (m c : Nat) (news : List Value) (hx : a.eval x = .slice A m c) (hr : Reads w B size A m news) (h1 : ∀ u ∈ news, u.oneCell' = true)
    (h63 : n + m ≤ maxLen) (hbytes : (n + m) * bytes ≤ 140737488355328) (hbase : base ≤ w.heap.size)
    (h : ∀ v' w', w'.ownsRow base e size v' (n + m) (xs ++ news) → w.grownBy w' v.ownBlock → (v'.ownBlock = v.ownBlock ∨ v'.ownBlock = some w.heap.size) → K (a.put o.dst v') w') : if Region.wanted o (yielded ops a.tmps) = true then Oper.wp P o a w K Q else X := by
  obtain ⟨i, hi, hz, hsi, hby⟩ := E.info
  exact step_append_any w hgd s x t ho base e i z size bytes E.ht hi hz hsi hby E.zs E.pos v n xs hs hown B A m c news hx hr h1 h63 hbytes hbase h
theorem own_lit0 (w : World) (N : Nat) (hN : N ≤ w.heap.size) : (w.alloc (.cells #[] 26)).ownsRow N 26 1 (.slice (some ⟨w.heap.size, 0, none⟩) 0 0) 0 [] :=
  ⟨rfl, .inr ⟨w.heap.size, 0, #[], rfl, hN, Blk.new w _ _, Nat.le_refl _, by unfold maxLen; decide, rfl, rfl⟩⟩
theorem uv_cells (l : List Nat) : ∀ u ∈ l.map uv, u.oneCell' = true := by
  intro u hu
  obtain ⟨z, -, rfl⟩ := List.mem_map.1 hu
  rfl
theorem ne_of_own {w : World} {N n : Nat} {e : TypeId} {v : Value} {xs : List Value} (h : w.ownsRow N e 1 v n xs) : ∀ b, v.ownBlock = some b → b ≠ w.heap.size := fun b e => Nat.ne_of_lt (own_blockN h e)
/-- The two pieces of an own list, without its j-th. -/
theorem reads_cut {w : World} {N g n cp j : Nat} {l : List Nat} (h : w.ownsRow N 26 1 (.slice (some ⟨g, 0, none⟩) n cp) n (l.map uv)) (hj : j < n) :
    n ≤ cp ∧ Reads w w.heap.size 1 (some ⟨g, 0, none⟩) j ((l.take j).map uv) ∧ Reads w w.heap.size 1 (if cp = j + 1 then some ⟨g, 0, none⟩ else some ⟨g, j + 1, none⟩) (n - (j + 1)) ((l.drop (j + 1)).map uv) := by
  have hr := Reads.of_own h
  have hl : l.length = n := by have := h.1; simpa using this
  have hc : n ≤ cp := by
    rcases h.2 with ⟨e, h0⟩ | ⟨g', cap, cur, e, -, -, hle, -⟩
    · cases e
    · injection e with e1 e2 e3
      omega
  refine ⟨hc, ⟨by rw [List.length_map, List.length_take]; omega, fun h0 => ?_⟩, ?_⟩
  · obtain ⟨ad, e, hb, hcell⟩ := hr.2 (by omega)
    refine ⟨ad, e, hb, fun i u hu => hcell i u ?_⟩
    rw [List.map_take, List.getElem?_take] at hu
    split at hu
    · exact hu
    · cases hu
  · have h2 := hr.cut (k := j + 1) (cap := cp) (by omega) hc
    rw [Nat.mul_one, ← List.map_drop] at h2
    have e : Option.map (fun x : Addr => x.add (j + 1)) (some ⟨g, 0, none⟩) = some ⟨g, j + 1, none⟩ := by simp [Addr.add]
    rw [e] at h2
    exact h2
end Go.Proofs.YtfjiphibalhcgaaGreat.Que
/-
  The walk of QueueRow.
-/
namespace Go.Proofs.YtfjiphibalhcgaaGreat.Que
open Go.RowKit Base Arena Cls Itm
set_option linter.unusedVariables false
set_option linter.unusedSectionVars false

theorem own_litU (w : World) (N H : Nat) (hN : N ≤ w.heap.size) : (w.alloc (.cells #[.int .u64 (H : Int)] 26)).ownsRow N 26 1 (.slice (some ⟨w.heap.size, 0, none⟩) 1 1) 1 [uv H] :=
  ⟨rfl, .inr ⟨w.heap.size, 1, #[uv H], rfl, hN, Blk.new w _ _, Nat.le_refl _, by unfold maxLen; decide, rfl, rfl⟩⟩
/-- The argument's list of bools. -/
def BoolAt (w : World) (A : Option Addr) (j : Nat) (b : Bool) : Prop := ∃ g off, A = some ⟨g, off, none⟩ ∧ g < w.heap.size ∧ w.cell? ⟨g, off + j, none⟩ = some (.bool b)
theorem BoolAt.below {w w' : World} {A : Option Addr} {j : Nat} {b : Bool} (h : BoolAt w A j b) {N : Nat} (hN : w.heap.size ≤ N) (hb : Below N w w') : ∃ g off, A = some ⟨g, off, none⟩ ∧ w'.cell? ⟨g, off + j, none⟩ = some (.bool b) := by
  obtain ⟨g, off, e, hg, hc⟩ := h
  exact ⟨g, off, e, (hb.cell (p := ⟨g, off + j, none⟩) (by show g < N; omega)).trans hc⟩
set_option maxRecDepth 100000 in
set_option maxHeartbeats 3200000 in
theorem rowC (w : World) (n0 kd sh : Int) (h0 : Cls.In n0) (h1 : Cls.In kd) (h2 : Cls.In sh) (A : Option Addr) (cap : Nat) (last : List Bool) (hl : last.length ≤ 9223372036854775807) (hA : ∀ j (hj : j < last.length), BoolAt w A j last[j]) :
    Calls Tryz.prog 7 #[.agg #[.int .i64 n0, .int .i64 kd, .int .i64 sh, .slice A last.length cap]] w fun e w' => e = .returned (.bool true) ∧ Below w.heap.size w w' := by
  obtain ⟨w1, hw1⟩ : ∃ w1, w1 = w.alloc (.cells #[.int .i64 n0, .int .i64 kd, .int .i64 sh, .slice A last.length cap] 63) := ⟨_, rfl⟩
  have B1 : Blk w1 w.heap.size 63 #[.int .i64 n0, .int .i64 kd, .int .i64 sh, .slice A last.length cap] := by rw [hw1]; exact Blk.new w _ _
  have b1 : Below w.heap.size w w1 := by rw [hw1]; exact (Below.refl _ _).alloc (Nat.le_refl _) _
  have s1 : w1.heap.size = w.heap.size + 1 := by rw [hw1]; exact World.size_alloc _ _
  have hA1 : ∀ j (hj : j < last.length), BoolAt w1 A j last[j] := fun j hj => by
    obtain ⟨g, off, e, hg, hc⟩ := hA j hj
    exact ⟨g, off, e, by omega, (b1.cell (p := ⟨g, off + j, none⟩) hg).trans hc⟩
  have BC := Lib.hid (begunC6 w1)
  have NC := withinI n0 40 h0 (by omega) (by omega)
  have KC := withinI kd 3 h1 (by omega) (by omega)
  rw [show ((40 : Nat) : Int) = 40 from rfl] at NC
  rw [show ((3 : Nat) : Int) = 3 from rfl] at KC
  have hn40 : (n0 % 40).toNat < 40 := by omega
  have hk3 : (kd % 3).toNat < 3 := by omega
  generalize (n0 % 40).toNat = n at *
  generalize (kd % 3).toNat = k at *
  have n0C := fun w => numC6 w 0
  have qk : IntKind.i64.wrap (1 + (k : Int)) = (k : Int) + 1 := by rw [IntWalk.i64_in _ (by omega)]; omega
  replace NC := Lib.hid NC
  replace KC := Lib.hid KC
  replace hw1 := Lib.hid hw1
  replace hA1 := Lib.hid hA1
  replace hl := Lib.hid hl
  replace b1 := Lib.hid b1
  replace h2 := Lib.hid h2
  clear hA h0 h1
  generalize hN : w.heap.size = N at *
  replace hN := Lib.hid hN
  go_enter Tryz.func7, Tryz.ntmps7
  go_upto_region 1 with fail
  rw [hN.out, ← hw1.out]
  go_wp2_with fail
  refine BC.out.mono ?_
  rintro e w2 ⟨b2, W, rfl, A2⟩
  obtain ⟨N1, hN1⟩ : ∃ N1, N1 = w1.heap.size := ⟨_, rfl⟩
  rw [← hN1] at b2 A2
  have R2 : RwAt N1 w1 w2 W k [] [] [] (.slice none 0 0) := ⟨_, _, _, _, _, b2, by rw [oneL_nil]; exact A2, ⟨by simp, by simp, by simp, by simp⟩, rel_new _, .inl ⟨rfl, rfl⟩, by simp, by show 0 ≤ _; omega, by simp, own_nil _ _ _, fun b e => (by cases e)⟩
  have B2 := B1.below b2 (by omega)
  have hNN := Lib.hid (hN1.trans s1)
  have hA2 := Lib.hid (show ∀ j (hj : j < last.length) w', Below N1 w1 w' → ∃ g off, A = some ⟨g, off, none⟩ ∧ w'.cell? ⟨g, off + j, none⟩ = some (.bool last[j]) from fun j hj w' hb => (hA1.out j hj).below (by omega) hb)
  clear hN1 s1 hA1
  have x0 := B2.cell 0
  have x1 := B2.cell 1
  replace R2 := Lib.hid R2
  clear A2 BC b2 hw1
  go_wp2_with fail
  refine (NC.out _).mono ?_
  rintro e w' ⟨rfl, rfl⟩
  go_wp2_with fail
  refine (KC.out _).mono ?_
  rintro e w' ⟨rfl, rfl⟩
  go_wp2_with fail
  clear x0 x1 NC KC B2
  go_loopw [6, 7] (fun vw vi wr => ∃ (i cp : Nat) (A6 : Option Addr) (W' : W6) (told want : List Nat), vi = .int .i64 (i : Int) ∧ vw = .slice A6 i cp ∧ i ≤ n ∧ Hid (W'.b = W.b) ∧ Hid (told.length = i) ∧ Hid (want.length = i) ∧
    Hid (RwAt N1 w1 wr W' k told want want.reverse (.slice A6 i cp))) (fun _ vi _ => n - (intOf vi).toNat)
  case atStart => exact ⟨0, 0, none, W, [], [], rfl, rfl, Nat.zero_le _, Lib.hid rfl, Lib.hid rfl, Lib.hid rfl, R2⟩
  case round =>
    obtain ⟨i, cp, A6, W', told, want, rfl, rfl, hi, eW, ht, hwl, R⟩ := hrel
    clear R2
    by_cases hin : i < n
    · have d1 : decide ((i : Int) < (n : Int)) = true := decide_eq_true (by omega)
      have q1 : IntKind.i64.wrap ((i : Int) + 1) = (i : Int) + 1 := IntWalk.i64_in _ (by omega)
      have MC := R.out.make (by have := ht.out; omega)
      rw [eW.out] at MC
      replace MC := Lib.hid MC
      go_wp2_with fail
      refine MC.out.mono ?_
      rintro e w3 ⟨rfl, W3, H, eb, hnH, R3⟩
      obtain ⟨c1, c4, T3, own3, bel3, hs3⟩ := R3.cW
      rw [eb] at c1 c4
      obtain ⟨gT, cT, hvT, u3⟩ := own_uv (i := i) (x := H) T3 (by rw [List.getElem?_append_right (by have := ht.out; omega), ht.out, Nat.sub_self]; rfl)
      rw [hvT, List.length_append, List.length_singleton, ht.out] at c4
      have B3 := B1.below bel3 (by have := hNN.out; omega)
      have x3 := B3.cell 3
      have hm : H ∈ told ++ [H] := by simp
      have hnw : H ∉ want := fun e => hnH (R.out.nd.2 H e)
      have hnr : H ∉ want.reverse := by simpa using hnw
      obtain ⟨PC, LC⟩ := R3.push hk3 hm hnr
      have q2 : ((i : Int) + 1 == (((i + 1 : Nat)) : Int)) = true := by rw [beq_iff_eq]; omega
      have q3 : ((((i + 1 : Nat)) : Int) != (i : Int) + 1) = false := by rw [bne_eq_false_iff_eq]; omega
      have q4 : decide ((((i + 1 : Nat)) : Int) = (i : Int) + 1) = true := decide_eq_true (by omega)
      have hBL : ∀ hj : i < last.length, ∃ g off, A = some ⟨g, off, none⟩ ∧ w3.cell? ⟨g, off + i, none⟩ = some (.bool last[i]) := fun hj => hA2.out i hj w3 bel3
      have hT3 : (told ++ [H]).length = i + 1 := by rw [List.length_append, List.length_singleton, ht.out]
      replace R3 := Lib.hid R3
      replace PC := Lib.hid PC
      replace LC := Lib.hid LC
      replace hBL := Lib.hid hBL
      replace hnw := Lib.hid hnw
      replace hm := Lib.hid hm
      replace own3 := Lib.hid own3
      replace hT3 := Lib.hid hT3
      have eb3 := Lib.hid eb
      clear MC T3 hvT bel3 B3 hnH hnr eb
      go_upto_region 13 with fail
      go_cut [63] from 52 to 62 (fun s63 wx => (∃ b : Bool, s63 = .bool b) ∧ w3 = wx)
      case first =>
        by_cases hiL : i < last.length
        · have dL : decide ((i : Int) < (last.length : Int)) = true := decide_eq_true (by omega)
          obtain ⟨g, off, rfl, cB⟩ := hBL.out hiL
          generalize last[i] = lb at cB
          have i0 : (0 : Int) ≤ (i : Int) := by omega
          have i1 : (i : Int) < (last.length : Int) := by omega
          go_wp2_with fail
          go_meet
          exact ⟨⟨lb, rfl⟩, rfl⟩
        · have dL : decide ((i : Int) < (last.length : Int)) = false := decide_eq_false (by omega)
          go_wp2_with fail
          go_meet
          exact ⟨⟨false, rfl⟩, rfl⟩
      case rest =>
        obtain ⟨⟨b, rfl⟩, rfl⟩ := hcut
        clear hBL x3 u3 c4
        cases b with
        | true =>
          clear PC
          go_wp2_with fail
          refine LC.out.mono ?_
          rintro e w4 ⟨rfl, R4⟩
          obtain ⟨-, -, -, own4, -, hs4⟩ := R4.cW
          rw [hwl.out] at own4
          have oL := own_litU w4 N1 H hs4
          have rd := Reads.of_own (World.ownsRow.alloc own4 (.cells #[.int .u64 (H : Int)] 26))
          rw [World.size_alloc] at rd
          replace R4 := Lib.hid R4
          replace own4 := Lib.hid own4
          replace oL := Lib.hid oL
          replace rd := Lib.hid rd
          clear LC R own3 R3
          go_wp2_with (first | (go_at_call 14; refine (n0C _).mono ?_; rintro e w' ⟨rfl, rfl⟩) | (at_builtin; refine wpList_app rfl _ _ _ rfl eiL N1 _ _ _ rfl oL.out (w4.heap.size + 1) A6 i cp (want.map uv) rfl ?c1 ?c2 ?c3 ?c4 ?c5 ?_) | fail)
          case c1 => exact rd.out
          case c2 => intro u hu; obtain ⟨z, -, rfl⟩ := List.mem_map.1 hu; rfl
          case c3 => unfold maxLen; omega
          case c4 => omega
          case c5 => rw [World.size_alloc]; omega
          intro VV w6 own6 hg6 hat6
          rw [Nat.add_comm 1 i] at own6
          obtain ⟨A7, cp7, rfl⟩ := own_is own6
          have o6 : Only (fun k => (Value.slice A6 i cp).ownBlock = some k) w4 w6 := ((Only.refl _ w4).alloc _).grown hg6 (fun k e hk => by
            have e : some w4.heap.size = some k := e
            injection e with e
            omega)
          have R6 := R4.out.list (want' := H :: want) (v' := .slice A7 (i + 1) cp7) o6 (by rw [List.length_cons, hwl.out]; exact own6) (fun b e => .inr (by
            rcases hat6 with h6 | h6
            · rw [h6] at e
              have e : some w4.heap.size = some b := e
              injection e with e
              omega
            · rw [h6] at e; (try rw [World.size_alloc] at e)
              injection e with e
              omega)) (List.nodup_cons.2 ⟨hnw.out, R4.out.nd.1⟩) (fun x hx => by
            rcases List.mem_cons.1 hx with rfl | hx
            · exact hm.out
            · exact R4.out.nd.2 x hx)
          rw [show want.reverse ++ [H] = (H :: want).reverse from List.reverse_cons.symm] at R6
          replace R6 := Lib.hid R6
          clear own6 hg6 hat6 o6 R4 own4 oL rd
          go_wp2
          go_roundw
          case rel => exact ⟨i + 1, cp7, A7, W3, told ++ [H], H :: want, by simp, rfl, by omega, eb3, hT3, Lib.hid (by rw [List.length_cons, hwl.out]), R6⟩
          case measure => simp [intOf] <;> omega
        | false =>
          clear LC
          go_wp2_with fail
          refine PC.out.mono ?_
          rintro e w4 ⟨rfl, R4⟩
          obtain ⟨-, -, -, own4, -, hs4⟩ := R4.cW
          rw [hwl.out] at own4
          replace R4 := Lib.hid R4
          replace own4 := Lib.hid own4
          clear PC R own3 R3
          go_wp2_with (first | (go_at_call 14; refine (n0C _).mono ?_; rintro e w' ⟨rfl, rfl⟩) | (at_builtin; refine wpList_app rfl _ _ _ rfl eiL N1 _ _ _ rfl (own4.out.alloc _) (w4.heap.size + 1) (some ⟨w4.heap.size, 0, none⟩) 1 1 [.int .u64 (H : Int)] rfl ?c1 ?c2 ?c3 ?c4 ?c5 ?_) | fail)
          case c1 => exact reads_v w4 _ _
          case c2 => intro u hu; rw [List.mem_singleton] at hu; subst hu; rfl
          case c3 => unfold maxLen; omega
          case c4 => omega
          case c5 => rw [World.size_alloc]; omega
          intro VV w6 own6 hg6 hat6
          obtain ⟨A7, cp7, rfl⟩ := own_is own6
          have o6 : Only (fun k => (Value.slice A6 i cp).ownBlock = some k) w4 w6 := ((Only.refl _ w4).alloc _).grown hg6 (fun k e _ => e)
          have R6 := R4.out.list (want' := want ++ [H]) (v' := .slice A7 (i + 1) cp7) o6 (by rw [List.length_append, List.length_singleton, hwl.out, List.map_append]; exact own6) (fun b e => by
            rcases hat6 with h6 | h6
            · exact .inl (h6 ▸ e)
            · rw [h6] at e; (try rw [World.size_alloc] at e)
              injection e with e
              exact .inr (by omega)) (List.nodup_append.2 ⟨R4.out.nd.1, by simp, fun a ha b hb e => by rw [List.mem_singleton] at hb; exact hnw.out (hb ▸ e ▸ ha)⟩) (fun x hx => by
            rcases List.mem_append.1 hx with hx | hx
            · exact R4.out.nd.2 x hx
            · rw [List.mem_singleton] at hx; exact hx ▸ hm.out)
          rw [show H :: want.reverse = (want ++ [H]).reverse by simp] at R6
          replace R6 := Lib.hid R6
          clear own6 hg6 hat6 o6 R4 own4
          go_wp2
          go_roundw
          case rel => exact ⟨i + 1, cp7, A7, W3, told ++ [H], want ++ [H], by simp, rfl, by omega, eb3, hT3, Lib.hid (by rw [List.length_append, List.length_singleton, hwl.out]), R6⟩
          case measure => simp [intOf] <;> omega
    · obtain rfl : n = i := by omega
      have d1 : decide ((n : Int) < (n : Int)) = false := by simp
      have i1 : Reads wr N1 1 A6 n (want.map uv) → True := fun _ => trivial
      clear i1
      go_upto_if 91 with fail
      go_cut [6, 9, 10] from 91 to 121 (fun s6 s9 s10 wx => ∃ (A7 : Option Addr) (cp7 : Nat) (want' : List Nat), s6 = .slice A7 n cp7 ∧ Hid (want'.length = n) ∧ Hid (RwAt N1 w1 wx W' k told want' want'.reverse (.slice A7 n cp7)))
      case first =>
        by_cases h0 : 0 < n
        · have d2 : decide ((0 : Int) < (n : Int)) = true := decide_eq_true (by omega)
          have B3 := B1.below R.out.cW.2.2.2.2.1 (by have := hNN.out; omega)
          have x2 := B3.cell 2
          obtain ⟨c1, -, -, own3, -, -⟩ := R.out.cW
          rw [eW.out] at c1
          rw [hwl.out] at own3
          have WC := withinI sh n h2.out (by omega) (by omega)
          have hj : (sh % (n : Int)).toNat < n := by have := Int.emod_nonneg sh (show (n : Int) ≠ 0 by omega); have := Int.emod_lt_of_pos sh (show 0 < (n : Int) by omega); omega
          generalize (sh % (n : Int)).toNat = j at *
          obtain ⟨H, hx⟩ : ∃ H, want[j]? = some H := ⟨want[j]'(by have := hwl.out; omega), List.getElem?_eq_getElem _⟩
          obtain ⟨g, c', hv, u3⟩ := own_uv own3 hx
          injection hv with hv1 hv2 hv3
          subst hv1 hv3
          have hmw : H ∈ want := List.mem_of_getElem? hx
          have SC := R.out.shift hk3 (R.out.nd.2 H hmw) (by simpa using hmw)
          replace SC := Lib.hid SC
          replace WC := Lib.hid WC
          replace own3 := Lib.hid own3
          replace hx := Lib.hid hx
          clear B3 hv2
          have j0 : (0 : Int) ≤ (j : Int) := by omega
          have j1 : (j : Int) < (n : Int) := by omega
          go_wp2_with fail
          refine (WC.out _).mono ?_
          rintro e w' ⟨rfl, rfl⟩
          go_wp2_with fail
          refine SC.out.mono ?_
          rintro e w4 ⟨rfl, R4⟩
          replace R4 := Lib.hid R4
          clear SC WC
          go_upto_region 25 with (go_at_call 14; refine (n0C _).mono ?_; rintro e w' ⟨rfl, rfl⟩)
          have hn0 : n ≤ 40 := by omega
          obtain ⟨w5, hw5⟩ : ∃ w5, w5 = w4.drew := ⟨_, rfl⟩
          have R5 : RwAt N1 w1 w5 W' k told want (H :: want.reverse.erase H) (.slice (some ⟨g, 0, none⟩) n cp) := by rw [hw5]; exact R4.out.below (below_drewN (Below.refl _ _) 1)
          obtain ⟨-, -, -, own5, -, -⟩ := R5.cW
          rw [hwl.out] at own5
          obtain ⟨hcp, rd1, rd2⟩ := reads_cut own5 hj
          have hsp : want = want.take j ++ H :: want.drop (j + 1) := by
            have hl := hwl.out
            have e := (List.take_append_drop j want).symm
            rw [List.drop_eq_getElem_cons (by omega)] at e
            have e2 : want[j]'(by omega) = H := Option.some.inj ((List.getElem?_eq_getElem (by omega)).symm.trans hx.out)
            rw [e2] at e
            exact e
          have fin : ∀ w' V, Below w5.heap.size w5 w' → w'.ownsRow w5.heap.size 26 1 V n ([] ++ (want.take j).map uv ++ (want.drop (j + 1)).map uv ++ [uv H]) → ∃ want6, Hid (want6.length = n) ∧ RwAt N1 w1 w' W' k told want6 want6.reverse V := by
            intro w' V hb ho
            have hl := hwl.out
            have nd := R5.nd.1
            rw [hsp] at nd
            obtain ⟨d1, d2, d3⟩ := List.nodup_append.1 nd
            obtain ⟨d4, d5⟩ := List.nodup_cons.1 d2
            have hn1 : H ∉ want.take j := fun e => d3 H e H (List.mem_cons_self ..) rfl
            have hlen : (want.take j ++ want.drop (j + 1) ++ [H]).length = n := by simp; omega
            refine ⟨want.take j ++ want.drop (j + 1) ++ [H], Lib.hid hlen, ?_⟩
            have er : (want.take j ++ want.drop (j + 1) ++ [H]).reverse = H :: want.reverse.erase H := by
              rw [List.reverse_append, List.reverse_singleton, List.singleton_append]
              congr 1
              conv => rhs; rw [hsp]
              exact (rev_erase d4).symm
            rw [er]
            refine R5.fresh hb (by rw [hlen, List.map_append, List.map_append]; exact ho) ?_ ?_
            · refine List.nodup_append.2 ⟨List.nodup_append.2 ⟨d1, d5, fun a ha b hb => d3 a ha b (List.mem_cons_of_mem _ hb)⟩, by simp, fun a ha b hb e => ?_⟩
              rw [List.mem_singleton] at hb
              subst hb e
              exact (List.mem_append.1 ha).elim hn1 d4
            · intro x hx'
              refine R5.nd.2 x ?_
              rw [hsp]
              rcases List.mem_append.1 hx' with h | h
              · rcases List.mem_append.1 h with h | h
                · exact List.mem_append.2 (.inl h)
                · exact List.mem_append.2 (.inr (List.mem_cons_of_mem _ h))
              · rw [List.mem_singleton] at h
                subst h
                simp
          have hjc : j ≤ cp := by omega
          have qj : IntKind.i64.wrap ((j : Int) + 1) = (j : Int) + 1 := IntWalk.i64_in _ (by omega)
          have tj : ((j : Int) + 1).toNat = j + 1 := by omega
          have qj0 : (0 : Int) ≤ (j : Int) + 1 := by omega
          have qj1 : (j : Int) + 1 ≤ (n : Int) := by omega
          have hlen := Lib.hid (show j + (n - (j + 1)) + 1 = n by omega)
          have bw5 := Below.refl w5.heap.size w5
          replace rd1 := Lib.hid rd1
          replace rd2 := Lib.hid rd2
          replace fin := Lib.hid fin
          replace hsp := Lib.hid hsp
          clear R5 own5 R4 own3 hx u3 R hcp
          refine wp_region_noPanic ?_
          refine wp_region_held_drew (S := fun w' => True) (by kernel_rfl) trivial (fun hHeld => ?_)
          rw [← hw5]
          clear hw5
          refine wpAnyH_take (i := 1) (oi := _) (v := ?_) rfl (by kernel_rfl) (by kernel_rfl) (by kernel_rfl) (fun _ _ _ h => h) (Or.inl ⟨by rfl, ?_⟩) (by trivial) ?_
          rotate_left
          · try simp only [List.getElem_toArray, List.getElem_cons_succ, List.getElem_cons_zero]
            intro w hSw
            (try dsimp only at hSw)
            go_simp
            (try with_reducible rfl)
          try simp only [List.getElem_toArray, List.getElem_cons_succ, List.getElem_cons_zero, Act.put, List.setIfInBounds_toArray, List.set_cons_zero, List.set_cons_succ]
          refine wpAnyH_take (i := 2) (oi := _) (v := ?_) rfl (by kernel_rfl) (by kernel_rfl) (by kernel_rfl) (fun _ _ _ h => h) (Or.inl ⟨by rfl, ?_⟩) (by trivial) ?_
          rotate_left
          · try simp only [List.getElem_toArray, List.getElem_cons_succ, List.getElem_cons_zero]
            intro w hSw
            (try dsimp only at hSw)
            go_simp
            (try with_reducible rfl)
          try simp only [List.getElem_toArray, List.getElem_cons_succ, List.getElem_cons_zero, Act.put, List.setIfInBounds_toArray, List.set_cons_zero, List.set_cons_succ]
          refine wpAnyH_take (i := 3) (oi := _) (v := ?_) rfl (by kernel_rfl) (by kernel_rfl) (by kernel_rfl) (fun _ _ _ h => h) (Or.inl ⟨by rfl, ?_⟩) (by trivial) ?_
          rotate_left
          · try simp only [List.getElem_toArray, List.getElem_cons_succ, List.getElem_cons_zero]
            intro w hSw
            (try dsimp only at hSw)
            go_simp
            (try with_reducible rfl)
          try simp only [List.getElem_toArray, List.getElem_cons_succ, List.getElem_cons_zero, Act.put, List.setIfInBounds_toArray, List.set_cons_zero, List.set_cons_succ]
          refine wpAnyH_take (i := 5) (oi := _) (v := ?_) rfl (by kernel_rfl) (by kernel_rfl) (by kernel_rfl) (fun _ _ _ h => h) (Or.inl ⟨by rfl, ?_⟩) (by trivial) ?_
          rotate_left
          · try simp only [List.getElem_toArray, List.getElem_cons_succ, List.getElem_cons_zero]
            intro w hSw
            (try dsimp only at hSw)
            go_simp
            (try with_reducible rfl)
          try simp only [List.getElem_toArray, List.getElem_cons_succ, List.getElem_cons_zero, Act.put, List.setIfInBounds_toArray, List.set_cons_zero, List.set_cons_succ]
          refine wpAnyH_take (i := 6) (oi := _) (v := ?_) rfl (by kernel_rfl) (by kernel_rfl) (by kernel_rfl) (fun _ _ _ h => h) (Or.inl ⟨by rfl, ?_⟩) (by trivial) ?_
          rotate_left
          · try simp only [List.getElem_toArray, List.getElem_cons_succ, List.getElem_cons_zero]
            intro w hSw
            (try dsimp only at hSw)
            go_simp
            (try with_reducible rfl)
          try simp only [List.getElem_toArray, List.getElem_cons_succ, List.getElem_cons_zero, Act.put, List.setIfInBounds_toArray, List.set_cons_zero, List.set_cons_succ]
          refine wpAnyH_take (i := 7) (oi := _) (v := ?_) rfl (by kernel_rfl) (by kernel_rfl) (by kernel_rfl) (fun _ _ _ h => h) (Or.inl ⟨by rfl, ?_⟩) (by trivial) ?_
          rotate_left
          · try simp only [List.getElem_toArray, List.getElem_cons_succ, List.getElem_cons_zero]
            intro w hSw
            (try dsimp only at hSw)
            go_simp
            (try with_reducible rfl)
          try simp only [List.getElem_toArray, List.getElem_cons_succ, List.getElem_cons_zero, Act.put, List.setIfInBounds_toArray, List.set_cons_zero, List.set_cons_succ]
          refine wpAnyH_take (i := 8) (oi := _) (v := ?_) rfl (by kernel_rfl) (by kernel_rfl) (by kernel_rfl) (fun _ _ _ h => h) (Or.inl ⟨by rfl, ?_⟩) (by trivial) ?_
          rotate_left
          · try simp only [List.getElem_toArray, List.getElem_cons_succ, List.getElem_cons_zero]
            intro w hSw
            (try dsimp only at hSw)
            go_simp
            (try with_reducible rfl)
          try simp only [List.getElem_toArray, List.getElem_cons_succ, List.getElem_cons_zero, Act.put, List.setIfInBounds_toArray, List.set_cons_zero, List.set_cons_succ]
          refine wpAnyH_take (i := 10) (oi := _) (v := ?_) rfl (by kernel_rfl) (by kernel_rfl) (by kernel_rfl) (fun _ _ _ h => h) (Or.inl ⟨by rfl, ?_⟩) (by trivial) ?_
          rotate_left
          · try simp only [List.getElem_toArray, List.getElem_cons_succ, List.getElem_cons_zero]
            intro w hSw
            (try dsimp only at hSw)
            go_simp
            (try with_reducible rfl)
          try simp only [List.getElem_toArray, List.getElem_cons_succ, List.getElem_cons_zero, Act.put, List.setIfInBounds_toArray, List.set_cons_zero, List.set_cons_succ]
          refine wpAnyH_ready (rs := [0, 11]) (by kernel_rfl) (by simp) ?_
          refine AllReadyH.cons (o := _) rfl (fun K hK => ?_) ?_
          · try simp only [List.getElem_toArray, List.getElem_cons_succ, List.getElem_cons_zero, Act.put, List.setIfInBounds_toArray, List.set_cons_zero, List.set_cons_succ]
            go_simp
            refine hK.out _ _ trivial (fun _ => ?_)
            clear hK K
            try simp only [List.getElem_toArray, List.getElem_cons_succ, List.getElem_cons_zero, Act.put, List.setIfInBounds_toArray, List.set_cons_zero, List.set_cons_succ]
            obtain ⟨v6, hv6⟩ : ∃ x, x = World.alloc w5 (.cells #[] 26) := ⟨_, rfl⟩
            have bv6 : Below w5.heap.size w5 v6 := by rw [hv6]; exact bw5.alloc bw5.size _
            have sv6 := Lib.hid (show v6.heap.size = w5.heap.size + 1 by rw [hv6]; exact World.size_alloc _ _)
            have o0v6 : v6.ownsRow w5.heap.size 26 1 (.slice (some ⟨w5.heap.size, 0, none⟩) 0 0) 0 [] := by rw [hv6]; exact own_lit0 _ _ bw5.size
            rw [← hv6]
            clear hv6
            refine wpAnyH_ready (rs := [4, 11]) (by kernel_rfl) (by simp) ?_
            refine AllReadyH.cons (o := _) rfl (fun K hK => ?_) ?_
            · try simp only [List.getElem_toArray, List.getElem_cons_succ, List.getElem_cons_zero, Act.put, List.setIfInBounds_toArray, List.set_cons_zero, List.set_cons_succ]
              refine step_app (a := ⟨_, _⟩) (by rfl) (.tmp 109) (.tmp 112) 45 (by rfl) eiL w5.heap.size _ _ _ (by rfl) o0v6 _ _ _ _ _ (by rfl) (rd1.out.below bv6) ?ga1 ?gb1 ?gc1 bv6.size ?_
              case ga1 => first | exact uv_cells _ | (intro u hu; rw [List.mem_singleton] at hu; subst hu; rfl)
              case gb1 => unfold maxLen; omega
              case gc1 => omega
              intro V v7 o4v7 hgv7 hatv7
              refine hK.out _ _ trivial (fun _ => ?_)
              clear hK K
              try simp only [List.getElem_toArray, List.getElem_cons_succ, List.getElem_cons_zero, Act.put, List.setIfInBounds_toArray, List.set_cons_zero, List.set_cons_succ]
              rw [Nat.zero_add] at o4v7
              obtain ⟨Av7, cv7, rfl⟩ := own_is o4v7
              have bv7 : Below w5.heap.size w5 v7 := bv6.grown hgv7 bv6.size (fun k e => own_base o0v6 e)
              refine wpAnyH_ready (rs := [9, 11]) (by kernel_rfl) (by simp) ?_
              refine AllReadyH.cons (o := _) rfl (fun K hK => ?_) ?_
              · try simp only [List.getElem_toArray, List.getElem_cons_succ, List.getElem_cons_zero, Act.put, List.setIfInBounds_toArray, List.set_cons_zero, List.set_cons_succ]
                refine step_app (a := ⟨_, _⟩) (by rfl) (.tmp 113) (.tmp 117) 45 (by rfl) eiL w5.heap.size _ _ _ (by rfl) o4v7 _ _ _ _ _ (by rfl) (rd2.out.below bv7) ?ga2 ?gb2 ?gc2 bv7.size ?_
                case ga2 => first | exact uv_cells _ | (intro u hu; rw [List.mem_singleton] at hu; subst hu; rfl)
                case gb2 => unfold maxLen; omega
                case gc2 => omega
                intro V v8 o9v8 hgv8 hatv8
                refine hK.out _ _ trivial (fun _ => ?_)
                clear hK K
                try simp only [List.getElem_toArray, List.getElem_cons_succ, List.getElem_cons_zero, Act.put, List.setIfInBounds_toArray, List.set_cons_zero, List.set_cons_succ]
                obtain ⟨Av8, cv8, rfl⟩ := own_is o9v8
                have bv8 : Below w5.heap.size w5 v8 := bv7.grown hgv8 bv7.size (fun k e => own_base o4v7 e)
                refine wpAnyH_ready (rs := [11]) (by kernel_rfl) (by simp) ?_
                refine AllReadyH.cons (o := _) rfl (fun K hK => ?_) ?_
                · try simp only [List.getElem_toArray, List.getElem_cons_succ, List.getElem_cons_zero, Act.put, List.setIfInBounds_toArray, List.set_cons_zero, List.set_cons_succ]
                  go_simp
                  refine hK.out _ _ trivial (fun _ => ?_)
                  clear hK K
                  try simp only [List.getElem_toArray, List.getElem_cons_succ, List.getElem_cons_zero, Act.put, List.setIfInBounds_toArray, List.set_cons_zero, List.set_cons_succ]
                  obtain ⟨v9, hv9⟩ : ∃ x, x = World.alloc v8 (.cells #[.int .u64 (H : Int)] 26) := ⟨_, rfl⟩
                  have bv9 : Below w5.heap.size w5 v9 := by rw [hv9]; exact bv8.alloc bv8.size _
                  have sv9 := Lib.hid (show v9.heap.size = v8.heap.size + 1 by rw [hv9]; exact World.size_alloc _ _)
                  have oLv9 := own_litU v8 w5.heap.size H bv8.size
                  rw [← hv9] at oLv9
                  have o9v9 := World.ownsRow.alloc o9v8 (.cells #[.int .u64 (H : Int)] 26)
                  rw [← hv9] at o9v9
                  have nev9 := ne_of_own o9v8
                  rw [← hv9]
                  clear hv9
                  refine wpAnyH_ready (rs := [12]) (by kernel_rfl) (by simp) ?_
                  refine AllReadyH.cons (o := _) rfl (fun K hK => ?_) ?_
                  · try simp only [List.getElem_toArray, List.getElem_cons_succ, List.getElem_cons_zero, Act.put, List.setIfInBounds_toArray, List.set_cons_zero, List.set_cons_succ]
                    refine step_app (a := ⟨_, _⟩) (by rfl) (.tmp 118) (.tmp 120) 45 (by rfl) eiL w5.heap.size _ _ _ (by rfl) o9v9 _ _ _ _ _ (by rfl) (Reads.of_own oLv9) ?ga3 ?gb3 ?gc3 bv9.size ?_
                    case ga3 => first | exact uv_cells _ | (intro u hu; rw [List.mem_singleton] at hu; subst hu; rfl)
                    case gb3 => unfold maxLen; omega
                    case gc3 => omega
                    intro V v10 o12v10 hgv10 hatv10
                    refine hK.out _ _ trivial (fun _ => ?_)
                    clear hK K
                    try simp only [List.getElem_toArray, List.getElem_cons_succ, List.getElem_cons_zero, Act.put, List.setIfInBounds_toArray, List.set_cons_zero, List.set_cons_succ]
                    rw [hlen.out] at o12v10
                    obtain ⟨Av10, cv10, rfl⟩ := own_is o12v10
                    have bv10 : Below w5.heap.size w5 v10 := bv9.grown hgv10 bv9.size (fun k e => own_base o9v9 e)
                    refine wpAnyH_take (i := 13) (oi := _) (v := ?_) rfl (by kernel_rfl) (by kernel_rfl) (by kernel_rfl) (fun _ _ _ h => h) (Or.inl ⟨by rfl, ?_⟩) (by trivial) ?_
                    rotate_left
                    · try simp only [List.getElem_toArray, List.getElem_cons_succ, List.getElem_cons_zero]
                      intro w hSw
                      (try dsimp only at hSw)
                      go_simp
                      (try with_reducible rfl)
                    try simp only [List.getElem_toArray, List.getElem_cons_succ, List.getElem_cons_zero, Act.put, List.setIfInBounds_toArray, List.set_cons_zero, List.set_cons_succ]
                    refine wpAnyH_done (by kernel_rfl) ?_ _
                    refine NoPanic.normal ?_
                    have R6 := fin.out v10 _ bv10 o12v10
                    obtain ⟨want6, hw6, R6⟩ := R6
                    replace R6 := Lib.hid R6
                    go_wp2_with fail
                    all_goals
                      go_meet
                      exact ⟨_, _, want6, rfl, hw6, R6⟩
                  exact AllReadyH.nil
                exact AllReadyH.nil
              refine AllReadyH.cons (o := _) rfl (fun K hK => ?_) ?_
              · try simp only [List.getElem_toArray, List.getElem_cons_succ, List.getElem_cons_zero, Act.put, List.setIfInBounds_toArray, List.set_cons_zero, List.set_cons_succ]
                go_simp
                refine hK.out _ _ trivial (fun _ => ?_)
                clear hK K
                try simp only [List.getElem_toArray, List.getElem_cons_succ, List.getElem_cons_zero, Act.put, List.setIfInBounds_toArray, List.set_cons_zero, List.set_cons_succ]
                obtain ⟨v8, hv8⟩ : ∃ x, x = World.alloc v7 (.cells #[.int .u64 (H : Int)] 26) := ⟨_, rfl⟩
                have bv8 : Below w5.heap.size w5 v8 := by rw [hv8]; exact bv7.alloc bv7.size _
                have sv8 := Lib.hid (show v8.heap.size = v7.heap.size + 1 by rw [hv8]; exact World.size_alloc _ _)
                have oLv8 := own_litU v7 w5.heap.size H bv7.size
                rw [← hv8] at oLv8
                have o4v8 := World.ownsRow.alloc o4v7 (.cells #[.int .u64 (H : Int)] 26)
                rw [← hv8] at o4v8
                have nev8 := ne_of_own o4v7
                rw [← hv8]
                clear hv8
                refine wpAnyH_ready (rs := [9]) (by kernel_rfl) (by simp) ?_
                refine AllReadyH.cons (o := _) rfl (fun K hK => ?_) ?_
                · try simp only [List.getElem_toArray, List.getElem_cons_succ, List.getElem_cons_zero, Act.put, List.setIfInBounds_toArray, List.set_cons_zero, List.set_cons_succ]
                  refine step_app (a := ⟨_, _⟩) (by rfl) (.tmp 113) (.tmp 117) 45 (by rfl) eiL w5.heap.size _ _ _ (by rfl) o4v8 _ _ _ _ _ (by rfl) (rd2.out.below bv8) ?ga4 ?gb4 ?gc4 bv8.size ?_
                  case ga4 => first | exact uv_cells _ | (intro u hu; rw [List.mem_singleton] at hu; subst hu; rfl)
                  case gb4 => unfold maxLen; omega
                  case gc4 => omega
                  intro V v9 o9v9 hgv9 hatv9
                  refine hK.out _ _ trivial (fun _ => ?_)
                  clear hK K
                  try simp only [List.getElem_toArray, List.getElem_cons_succ, List.getElem_cons_zero, Act.put, List.setIfInBounds_toArray, List.set_cons_zero, List.set_cons_succ]
                  obtain ⟨Av9, cv9, rfl⟩ := own_is o9v9
                  have bv9 : Below w5.heap.size w5 v9 := bv8.grown hgv9 bv8.size (fun k e => own_base o4v8 e)
                  have oLv9 := own_keptN oLv8 fun b e => hgv9.block b (own_blockN oLv8 e) fun e2 => nev8 b e2.symm (by have e : some v7.heap.size = some b := e; injection e with e; exact e.symm)
                  have nev9 : ∀ b, (Value.slice Av9 _ cv9).ownBlock = some b → b ≠ v7.heap.size := fun b e => by
                    rcases hatv9 with h6 | h6
                    · exact nev8 b (h6 ▸ e)
                    · rw [h6] at e
                      injection e with e
                      have e9 : v7.heap.size < v8.heap.size := own_blockN (b := v7.heap.size) oLv8 rfl
                      omega
                  refine wpAnyH_ready (rs := [12]) (by kernel_rfl) (by simp) ?_
                  refine AllReadyH.cons (o := _) rfl (fun K hK => ?_) ?_
                  · try simp only [List.getElem_toArray, List.getElem_cons_succ, List.getElem_cons_zero, Act.put, List.setIfInBounds_toArray, List.set_cons_zero, List.set_cons_succ]
                    refine step_app (a := ⟨_, _⟩) (by rfl) (.tmp 118) (.tmp 120) 45 (by rfl) eiL w5.heap.size _ _ _ (by rfl) o9v9 _ _ _ _ _ (by rfl) (Reads.of_own oLv9) ?ga5 ?gb5 ?gc5 bv9.size ?_
                    case ga5 => first | exact uv_cells _ | (intro u hu; rw [List.mem_singleton] at hu; subst hu; rfl)
                    case gb5 => unfold maxLen; omega
                    case gc5 => omega
                    intro V v10 o12v10 hgv10 hatv10
                    refine hK.out _ _ trivial (fun _ => ?_)
                    clear hK K
                    try simp only [List.getElem_toArray, List.getElem_cons_succ, List.getElem_cons_zero, Act.put, List.setIfInBounds_toArray, List.set_cons_zero, List.set_cons_succ]
                    rw [hlen.out] at o12v10
                    obtain ⟨Av10, cv10, rfl⟩ := own_is o12v10
                    have bv10 : Below w5.heap.size w5 v10 := bv9.grown hgv10 bv9.size (fun k e => own_base o9v9 e)
                    refine wpAnyH_take (i := 13) (oi := _) (v := ?_) rfl (by kernel_rfl) (by kernel_rfl) (by kernel_rfl) (fun _ _ _ h => h) (Or.inl ⟨by rfl, ?_⟩) (by trivial) ?_
                    rotate_left
                    · try simp only [List.getElem_toArray, List.getElem_cons_succ, List.getElem_cons_zero]
                      intro w hSw
                      (try dsimp only at hSw)
                      go_simp
                      (try with_reducible rfl)
                    try simp only [List.getElem_toArray, List.getElem_cons_succ, List.getElem_cons_zero, Act.put, List.setIfInBounds_toArray, List.set_cons_zero, List.set_cons_succ]
                    refine wpAnyH_done (by kernel_rfl) ?_ _
                    refine NoPanic.normal ?_
                    have R6 := fin.out v10 _ bv10 o12v10
                    obtain ⟨want6, hw6, R6⟩ := R6
                    replace R6 := Lib.hid R6
                    go_wp2_with fail
                    all_goals
                      go_meet
                      exact ⟨_, _, want6, rfl, hw6, R6⟩
                  exact AllReadyH.nil
                exact AllReadyH.nil
              exact AllReadyH.nil
            refine AllReadyH.cons (o := _) rfl (fun K hK => ?_) ?_
            · try simp only [List.getElem_toArray, List.getElem_cons_succ, List.getElem_cons_zero, Act.put, List.setIfInBounds_toArray, List.set_cons_zero, List.set_cons_succ]
              go_simp
              refine hK.out _ _ trivial (fun _ => ?_)
              clear hK K
              try simp only [List.getElem_toArray, List.getElem_cons_succ, List.getElem_cons_zero, Act.put, List.setIfInBounds_toArray, List.set_cons_zero, List.set_cons_succ]
              obtain ⟨v7, hv7⟩ : ∃ x, x = World.alloc v6 (.cells #[.int .u64 (H : Int)] 26) := ⟨_, rfl⟩
              have bv7 : Below w5.heap.size w5 v7 := by rw [hv7]; exact bv6.alloc bv6.size _
              have sv7 := Lib.hid (show v7.heap.size = v6.heap.size + 1 by rw [hv7]; exact World.size_alloc _ _)
              have oLv7 := own_litU v6 w5.heap.size H bv6.size
              rw [← hv7] at oLv7
              have o0v7 := World.ownsRow.alloc o0v6 (.cells #[.int .u64 (H : Int)] 26)
              rw [← hv7] at o0v7
              have nev7 := ne_of_own o0v6
              rw [← hv7]
              clear hv7
              refine wpAnyH_ready (rs := [4]) (by kernel_rfl) (by simp) ?_
              refine AllReadyH.cons (o := _) rfl (fun K hK => ?_) ?_
              · try simp only [List.getElem_toArray, List.getElem_cons_succ, List.getElem_cons_zero, Act.put, List.setIfInBounds_toArray, List.set_cons_zero, List.set_cons_succ]
                refine step_app (a := ⟨_, _⟩) (by rfl) (.tmp 109) (.tmp 112) 45 (by rfl) eiL w5.heap.size _ _ _ (by rfl) o0v7 _ _ _ _ _ (by rfl) (rd1.out.below bv7) ?ga6 ?gb6 ?gc6 bv7.size ?_
                case ga6 => first | exact uv_cells _ | (intro u hu; rw [List.mem_singleton] at hu; subst hu; rfl)
                case gb6 => unfold maxLen; omega
                case gc6 => omega
                intro V v8 o4v8 hgv8 hatv8
                refine hK.out _ _ trivial (fun _ => ?_)
                clear hK K
                try simp only [List.getElem_toArray, List.getElem_cons_succ, List.getElem_cons_zero, Act.put, List.setIfInBounds_toArray, List.set_cons_zero, List.set_cons_succ]
                rw [Nat.zero_add] at o4v8
                obtain ⟨Av8, cv8, rfl⟩ := own_is o4v8
                have bv8 : Below w5.heap.size w5 v8 := bv7.grown hgv8 bv7.size (fun k e => own_base o0v7 e)
                have oLv8 := own_keptN oLv7 fun b e => hgv8.block b (own_blockN oLv7 e) fun e2 => nev7 b e2.symm (by have e : some v6.heap.size = some b := e; injection e with e; exact e.symm)
                have nev8 : ∀ b, (Value.slice Av8 _ cv8).ownBlock = some b → b ≠ v6.heap.size := fun b e => by
                  rcases hatv8 with h6 | h6
                  · exact nev7 b (h6 ▸ e)
                  · rw [h6] at e
                    injection e with e
                    have e9 : v6.heap.size < v7.heap.size := own_blockN (b := v6.heap.size) oLv7 rfl
                    omega
                refine wpAnyH_ready (rs := [9]) (by kernel_rfl) (by simp) ?_
                refine AllReadyH.cons (o := _) rfl (fun K hK => ?_) ?_
                · try simp only [List.getElem_toArray, List.getElem_cons_succ, List.getElem_cons_zero, Act.put, List.setIfInBounds_toArray, List.set_cons_zero, List.set_cons_succ]
                  refine step_app (a := ⟨_, _⟩) (by rfl) (.tmp 113) (.tmp 117) 45 (by rfl) eiL w5.heap.size _ _ _ (by rfl) o4v8 _ _ _ _ _ (by rfl) (rd2.out.below bv8) ?ga7 ?gb7 ?gc7 bv8.size ?_
                  case ga7 => first | exact uv_cells _ | (intro u hu; rw [List.mem_singleton] at hu; subst hu; rfl)
                  case gb7 => unfold maxLen; omega
                  case gc7 => omega
                  intro V v9 o9v9 hgv9 hatv9
                  refine hK.out _ _ trivial (fun _ => ?_)
                  clear hK K
                  try simp only [List.getElem_toArray, List.getElem_cons_succ, List.getElem_cons_zero, Act.put, List.setIfInBounds_toArray, List.set_cons_zero, List.set_cons_succ]
                  obtain ⟨Av9, cv9, rfl⟩ := own_is o9v9
                  have bv9 : Below w5.heap.size w5 v9 := bv8.grown hgv9 bv8.size (fun k e => own_base o4v8 e)
                  have oLv9 := own_keptN oLv8 fun b e => hgv9.block b (own_blockN oLv8 e) fun e2 => nev8 b e2.symm (by have e : some v6.heap.size = some b := e; injection e with e; exact e.symm)
                  have nev9 : ∀ b, (Value.slice Av9 _ cv9).ownBlock = some b → b ≠ v6.heap.size := fun b e => by
                    rcases hatv9 with h6 | h6
                    · exact nev8 b (h6 ▸ e)
                    · rw [h6] at e
                      injection e with e
                      have e9 : v6.heap.size < v8.heap.size := own_blockN (b := v6.heap.size) oLv8 rfl
                      omega
                  refine wpAnyH_ready (rs := [12]) (by kernel_rfl) (by simp) ?_
                  refine AllReadyH.cons (o := _) rfl (fun K hK => ?_) ?_
                  · try simp only [List.getElem_toArray, List.getElem_cons_succ, List.getElem_cons_zero, Act.put, List.setIfInBounds_toArray, List.set_cons_zero, List.set_cons_succ]
                    refine step_app (a := ⟨_, _⟩) (by rfl) (.tmp 118) (.tmp 120) 45 (by rfl) eiL w5.heap.size _ _ _ (by rfl) o9v9 _ _ _ _ _ (by rfl) (Reads.of_own oLv9) ?ga8 ?gb8 ?gc8 bv9.size ?_
                    case ga8 => first | exact uv_cells _ | (intro u hu; rw [List.mem_singleton] at hu; subst hu; rfl)
                    case gb8 => unfold maxLen; omega
                    case gc8 => omega
                    intro V v10 o12v10 hgv10 hatv10
                    refine hK.out _ _ trivial (fun _ => ?_)
                    clear hK K
                    try simp only [List.getElem_toArray, List.getElem_cons_succ, List.getElem_cons_zero, Act.put, List.setIfInBounds_toArray, List.set_cons_zero, List.set_cons_succ]
                    rw [hlen.out] at o12v10
                    obtain ⟨Av10, cv10, rfl⟩ := own_is o12v10
                    have bv10 : Below w5.heap.size w5 v10 := bv9.grown hgv10 bv9.size (fun k e => own_base o9v9 e)
                    refine wpAnyH_take (i := 13) (oi := _) (v := ?_) rfl (by kernel_rfl) (by kernel_rfl) (by kernel_rfl) (fun _ _ _ h => h) (Or.inl ⟨by rfl, ?_⟩) (by trivial) ?_
                    rotate_left
                    · try simp only [List.getElem_toArray, List.getElem_cons_succ, List.getElem_cons_zero]
                      intro w hSw
                      (try dsimp only at hSw)
                      go_simp
                      (try with_reducible rfl)
                    try simp only [List.getElem_toArray, List.getElem_cons_succ, List.getElem_cons_zero, Act.put, List.setIfInBounds_toArray, List.set_cons_zero, List.set_cons_succ]
                    refine wpAnyH_done (by kernel_rfl) ?_ _
                    refine NoPanic.normal ?_
                    have R6 := fin.out v10 _ bv10 o12v10
                    obtain ⟨want6, hw6, R6⟩ := R6
                    replace R6 := Lib.hid R6
                    go_wp2_with fail
                    all_goals
                      go_meet
                      exact ⟨_, _, want6, rfl, hw6, R6⟩
                  exact AllReadyH.nil
                exact AllReadyH.nil
              exact AllReadyH.nil
            exact AllReadyH.nil
          refine AllReadyH.cons (o := _) rfl (fun K hK => ?_) ?_
          · try simp only [List.getElem_toArray, List.getElem_cons_succ, List.getElem_cons_zero, Act.put, List.setIfInBounds_toArray, List.set_cons_zero, List.set_cons_succ]
            go_simp
            refine hK.out _ _ trivial (fun _ => ?_)
            clear hK K
            try simp only [List.getElem_toArray, List.getElem_cons_succ, List.getElem_cons_zero, Act.put, List.setIfInBounds_toArray, List.set_cons_zero, List.set_cons_succ]
            obtain ⟨v6, hv6⟩ : ∃ x, x = World.alloc w5 (.cells #[.int .u64 (H : Int)] 26) := ⟨_, rfl⟩
            have bv6 : Below w5.heap.size w5 v6 := by rw [hv6]; exact bw5.alloc bw5.size _
            have sv6 := Lib.hid (show v6.heap.size = w5.heap.size + 1 by rw [hv6]; exact World.size_alloc _ _)
            have oLv6 := own_litU w5 w5.heap.size H bw5.size
            rw [← hv6] at oLv6
            rw [← hv6]
            clear hv6
            refine wpAnyH_ready (rs := [0]) (by kernel_rfl) (by simp) ?_
            refine AllReadyH.cons (o := _) rfl (fun K hK => ?_) ?_
            · try simp only [List.getElem_toArray, List.getElem_cons_succ, List.getElem_cons_zero, Act.put, List.setIfInBounds_toArray, List.set_cons_zero, List.set_cons_succ]
              go_simp
              refine hK.out _ _ trivial (fun _ => ?_)
              clear hK K
              try simp only [List.getElem_toArray, List.getElem_cons_succ, List.getElem_cons_zero, Act.put, List.setIfInBounds_toArray, List.set_cons_zero, List.set_cons_succ]
              obtain ⟨v7, hv7⟩ : ∃ x, x = World.alloc v6 (.cells #[] 26) := ⟨_, rfl⟩
              have bv7 : Below w5.heap.size w5 v7 := by rw [hv7]; exact bv6.alloc bv6.size _
              have sv7 := Lib.hid (show v7.heap.size = v6.heap.size + 1 by rw [hv7]; exact World.size_alloc _ _)
              have o0v7 : v7.ownsRow w5.heap.size 26 1 (.slice (some ⟨v6.heap.size, 0, none⟩) 0 0) 0 [] := by rw [hv7]; exact own_lit0 _ _ bv6.size
              have oLv7 := World.ownsRow.alloc oLv6 (.cells #[] 26)
              rw [← hv7] at oLv7
              have nev7 : ∀ b, (Value.slice (some ⟨v6.heap.size, 0, none⟩) 0 0).ownBlock = some b → b ≠ w5.heap.size := fun b e => by
                have e : some v6.heap.size = some b := e
                injection e with e
                have := sv6.out
                omega
              rw [← hv7]
              clear hv7
              refine wpAnyH_ready (rs := [4]) (by kernel_rfl) (by simp) ?_
              refine AllReadyH.cons (o := _) rfl (fun K hK => ?_) ?_
              · try simp only [List.getElem_toArray, List.getElem_cons_succ, List.getElem_cons_zero, Act.put, List.setIfInBounds_toArray, List.set_cons_zero, List.set_cons_succ]
                refine step_app (a := ⟨_, _⟩) (by rfl) (.tmp 109) (.tmp 112) 45 (by rfl) eiL w5.heap.size _ _ _ (by rfl) o0v7 _ _ _ _ _ (by rfl) (rd1.out.below bv7) ?ga9 ?gb9 ?gc9 bv7.size ?_
                case ga9 => first | exact uv_cells _ | (intro u hu; rw [List.mem_singleton] at hu; subst hu; rfl)
                case gb9 => unfold maxLen; omega
                case gc9 => omega
                intro V v8 o4v8 hgv8 hatv8
                refine hK.out _ _ trivial (fun _ => ?_)
                clear hK K
                try simp only [List.getElem_toArray, List.getElem_cons_succ, List.getElem_cons_zero, Act.put, List.setIfInBounds_toArray, List.set_cons_zero, List.set_cons_succ]
                rw [Nat.zero_add] at o4v8
                obtain ⟨Av8, cv8, rfl⟩ := own_is o4v8
                have bv8 : Below w5.heap.size w5 v8 := bv7.grown hgv8 bv7.size (fun k e => own_base o0v7 e)
                have oLv8 := own_keptN oLv7 fun b e => hgv8.block b (own_blockN oLv7 e) fun e2 => nev7 b e2.symm (by have e : some w5.heap.size = some b := e; injection e with e; exact e.symm)
                have nev8 : ∀ b, (Value.slice Av8 _ cv8).ownBlock = some b → b ≠ w5.heap.size := fun b e => by
                  rcases hatv8 with h6 | h6
                  · exact nev7 b (h6 ▸ e)
                  · rw [h6] at e
                    injection e with e
                    have e9 : w5.heap.size < v7.heap.size := own_blockN (b := w5.heap.size) oLv7 rfl
                    omega
                refine wpAnyH_ready (rs := [9]) (by kernel_rfl) (by simp) ?_
                refine AllReadyH.cons (o := _) rfl (fun K hK => ?_) ?_
                · try simp only [List.getElem_toArray, List.getElem_cons_succ, List.getElem_cons_zero, Act.put, List.setIfInBounds_toArray, List.set_cons_zero, List.set_cons_succ]
                  refine step_app (a := ⟨_, _⟩) (by rfl) (.tmp 113) (.tmp 117) 45 (by rfl) eiL w5.heap.size _ _ _ (by rfl) o4v8 _ _ _ _ _ (by rfl) (rd2.out.below bv8) ?ga10 ?gb10 ?gc10 bv8.size ?_
                  case ga10 => first | exact uv_cells _ | (intro u hu; rw [List.mem_singleton] at hu; subst hu; rfl)
                  case gb10 => unfold maxLen; omega
                  case gc10 => omega
                  intro V v9 o9v9 hgv9 hatv9
                  refine hK.out _ _ trivial (fun _ => ?_)
                  clear hK K
                  try simp only [List.getElem_toArray, List.getElem_cons_succ, List.getElem_cons_zero, Act.put, List.setIfInBounds_toArray, List.set_cons_zero, List.set_cons_succ]
                  obtain ⟨Av9, cv9, rfl⟩ := own_is o9v9
                  have bv9 : Below w5.heap.size w5 v9 := bv8.grown hgv9 bv8.size (fun k e => own_base o4v8 e)
                  have oLv9 := own_keptN oLv8 fun b e => hgv9.block b (own_blockN oLv8 e) fun e2 => nev8 b e2.symm (by have e : some w5.heap.size = some b := e; injection e with e; exact e.symm)
                  have nev9 : ∀ b, (Value.slice Av9 _ cv9).ownBlock = some b → b ≠ w5.heap.size := fun b e => by
                    rcases hatv9 with h6 | h6
                    · exact nev8 b (h6 ▸ e)
                    · rw [h6] at e
                      injection e with e
                      have e9 : w5.heap.size < v8.heap.size := own_blockN (b := w5.heap.size) oLv8 rfl
                      omega
                  refine wpAnyH_ready (rs := [12]) (by kernel_rfl) (by simp) ?_
                  refine AllReadyH.cons (o := _) rfl (fun K hK => ?_) ?_
                  · try simp only [List.getElem_toArray, List.getElem_cons_succ, List.getElem_cons_zero, Act.put, List.setIfInBounds_toArray, List.set_cons_zero, List.set_cons_succ]
                    refine step_app (a := ⟨_, _⟩) (by rfl) (.tmp 118) (.tmp 120) 45 (by rfl) eiL w5.heap.size _ _ _ (by rfl) o9v9 _ _ _ _ _ (by rfl) (Reads.of_own oLv9) ?ga11 ?gb11 ?gc11 bv9.size ?_
                    case ga11 => first | exact uv_cells _ | (intro u hu; rw [List.mem_singleton] at hu; subst hu; rfl)
                    case gb11 => unfold maxLen; omega
                    case gc11 => omega
                    intro V v10 o12v10 hgv10 hatv10
                    refine hK.out _ _ trivial (fun _ => ?_)
                    clear hK K
                    try simp only [List.getElem_toArray, List.getElem_cons_succ, List.getElem_cons_zero, Act.put, List.setIfInBounds_toArray, List.set_cons_zero, List.set_cons_succ]
                    rw [hlen.out] at o12v10
                    obtain ⟨Av10, cv10, rfl⟩ := own_is o12v10
                    have bv10 : Below w5.heap.size w5 v10 := bv9.grown hgv10 bv9.size (fun k e => own_base o9v9 e)
                    refine wpAnyH_take (i := 13) (oi := _) (v := ?_) rfl (by kernel_rfl) (by kernel_rfl) (by kernel_rfl) (fun _ _ _ h => h) (Or.inl ⟨by rfl, ?_⟩) (by trivial) ?_
                    rotate_left
                    · try simp only [List.getElem_toArray, List.getElem_cons_succ, List.getElem_cons_zero]
                      intro w hSw
                      (try dsimp only at hSw)
                      go_simp
                      (try with_reducible rfl)
                    try simp only [List.getElem_toArray, List.getElem_cons_succ, List.getElem_cons_zero, Act.put, List.setIfInBounds_toArray, List.set_cons_zero, List.set_cons_succ]
                    refine wpAnyH_done (by kernel_rfl) ?_ _
                    refine NoPanic.normal ?_
                    have R6 := fin.out v10 _ bv10 o12v10
                    obtain ⟨want6, hw6, R6⟩ := R6
                    replace R6 := Lib.hid R6
                    go_wp2_with fail
                    all_goals
                      go_meet
                      exact ⟨_, _, want6, rfl, hw6, R6⟩
                  exact AllReadyH.nil
                exact AllReadyH.nil
              exact AllReadyH.nil
            exact AllReadyH.nil
          exact AllReadyH.nil
        · obtain rfl : n = 0 := by omega
          have d2 : decide ((0 : Int) < ((0 : Nat) : Int)) = false := by decide
          go_wp2_with fail
          go_meet
          exact ⟨A6, cp, want, rfl, hwl, R⟩
      case rest =>
        obtain ⟨A7, cp7, want', rfl, hw', R7⟩ := hcut
        clear R hwl
        go_wp2_with fail
        go_loopw [11] (fun vi ws => ∃ i : Nat, vi = .int .i64 (i : Int) ∧ i ≤ n ∧ Hid (RwAt N1 w1 ws W' k told want' (want'.drop i).reverse (.slice A7 n cp7))) (fun vi _ => n - (intOf vi).toNat)
        case atStart => exact ⟨0, rfl, Nat.zero_le _, by rw [List.drop_zero]; exact R7⟩
        case round =>
          obtain ⟨i, rfl, hi, R⟩ := hrel
          clear R7
          by_cases hin : i < n
          · have d1 : decide ((i : Int) < (n : Int)) = true := decide_eq_true (by omega)
            have q1 : IntKind.i64.wrap ((i : Int) + 1) = (i : Int) + 1 := IntWalk.i64_in _ (by omega)
            obtain ⟨c1, -, -, own3, -, -⟩ := R.out.cW
            rw [eW.out] at c1
            rw [hw'.out] at own3
            obtain ⟨H, hx⟩ : ∃ H, want'[i]? = some H := ⟨want'[i]'(by have := hw'.out; omega), List.getElem?_eq_getElem _⟩
            obtain ⟨g, c', hv, u3⟩ := own_uv own3 hx
            injection hv with hv1 hv2 hv3
            subst hv1 hv3
            have hdr : want'.drop i = H :: want'.drop (i + 1) := by
              have e2 : want'[i]'(by have := hw'.out; omega) = H := Option.some.inj ((List.getElem?_eq_getElem (by have := hw'.out; omega)).symm.trans hx)
              rw [List.drop_eq_getElem_cons (by have := hw'.out; omega), e2]
            have hnd : H ∉ want'.drop (i + 1) := by
              have nd := R.out.nd.1
              rw [← List.take_append_drop i want', hdr] at nd
              exact (List.nodup_cons.1 (List.nodup_append.1 nd).2.1).1
            have TC := R.out.tail hk3
            have LC := R.out.len hk3
            have DC := R.out.drop hk3 (R.out.nd.2 H (List.mem_of_getElem? hx)) (by rw [hdr]; simp)
            have er : (want'.drop i).reverse.erase H = (want'.drop (i + 1)).reverse := by
              rw [hdr]
              exact rev_erase (a := []) hnd
            rw [er] at DC
            have el : (want'.drop i).reverse.length = n - i := by rw [List.length_reverse, List.length_drop, hw'.out]
            have eg : (want'.drop i).reverse.getLast?.getD 0 = H := by rw [hdr]; simp
            rw [el, eg, decide_eq_true (show 0 < n - i by omega)] at TC
            rw [el] at LC
            obtain ⟨M, hM⟩ : ∃ M, M = n - i := ⟨_, rfl⟩
            rw [← hM] at LC
            have qM : IntKind.i64.wrap ((n : Int) - (i : Int)) = (M : Int) := by rw [IntWalk.i64_in _ (by omega)]; omega
            have i0 : (0 : Int) ≤ (i : Int) := by omega
            have i1 : (i : Int) < (n : Int) := by omega
            replace TC := Lib.hid TC
            replace LC := Lib.hid LC
            replace DC := Lib.hid DC
            replace hM := Lib.hid hM
            clear own3 hx hdr hnd er el eg hv2 R
            go_wp2_with fail
            refine TC.out.mono ?_
            rintro e w7 ⟨rfl, rfl⟩
            go_wp2_with fail
            refine LC.out.mono ?_
            rintro e w7 ⟨rfl, rfl⟩
            go_wp2_with fail
            refine DC.out.mono ?_
            rintro e w7 ⟨rfl, R8⟩
            replace R8 := Lib.hid R8
            clear TC LC DC
            go_wp2_with (first | (go_at_call 14; refine (n0C _).mono ?_; rintro e w' ⟨rfl, rfl⟩) | fail)
            go_roundw
            case rel => exact ⟨i + 1, by simp, by omega, R8⟩
            case measure => simp [intOf] <;> omega
          · obtain rfl : i = n := by omega
            have d1 : decide ((i : Int) < (i : Int)) = false := by simp
            obtain ⟨c1, -, -, -, bel, hs⟩ := R.out.cW
            rw [eW.out] at c1
            have R9 := R.out
            rw [List.drop_of_length_le (by rw [hw'.out]; exact Nat.le_refl _), List.reverse_nil] at R9
            have TC := R9.tail hk3
            have LC := R9.len hk3
            have ez : decide (0 < ([] : List Nat).length) = false := rfl
            have eg : (([] : List Nat).getLast?.getD 0) = 0 := rfl
            have el : ([] : List Nat).length = 0 := rfl
            rw [ez, eg] at TC
            rw [el] at LC
            have wkH := Lib.hid (wakesC wr)
            have bF := Lib.hid (b1.out.trans (bel.mono (show N ≤ N1 by have := hNN.out; omega)))
            have hsF := Lib.hid (show N ≤ wr.heap.size by have := hNN.out; omega)
            replace TC := Lib.hid TC
            replace LC := Lib.hid LC
            clear R R9 ez eg el bel hs
            go_wp2_with fail
            refine TC.out.mono ?_
            rintro e w7 ⟨rfl, rfl⟩
            go_wp2_with fail
            refine LC.out.mono ?_
            rintro e w7 ⟨rfl, rfl⟩
            go_wp2_with fail
            refine wkH.out.mono ?_
            rintro e w9 ⟨rfl, b9⟩
            replace b9 := Lib.hid b9
            go_wp2
            go_ret
            exact ⟨rfl, bF.out.trans (b9.out.mono hsF.out)⟩
end Go.Proofs.YtfjiphibalhcgaaGreat.Que
