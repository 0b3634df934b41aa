/-
  A Set in memory: frames, what a config that is right gives, the cells that walks read.
-/
import Derived.Test.YtgodinapdahocaaClassTurn
import Derived.Test.YtgodinapdahocaaClassGood2
namespace Go.Proofs.Ytgodinapdahocaa.Cls
open Go.RowKit Base MapG
set_option linter.unusedVariables false

/-- step_append_new, behind the region's choice. -/
theorem wp_append_new {P : Program} (w : World) {ops : Array Oper} {o : Oper} {a : Act} {K : Act → World → Prop} {Q : Exit → Act → World → Prop} (hgd : o.guard = none) (s x : Operand) (t : TypeId)
    (ho : o.op = .call { callee := .builtin .append, args := #[s, x], argTypes := #[t, t] })
    (base : Nat) (e : TypeId) (i : TypeInfo) (z : Value) (size bytes : Nat) (ht : P.underlying t = some (.slice e)) (hi : P.info? e = some i) (hz : i.zero = some z)
    (hsize : i.size = size) (hby : i.bytes = bytes) (hzs : z.cells.size = size) (hsz : 0 < size)
    (v : Value) (n : Nat) (xs : List Value) (hs : a.eval s = v) (hown : w.ownsRow base e size v n xs)
    (B : Nat) (A : Option Addr) (m c : Nat) (news : List Value) (hx : a.eval x = .slice A m c) (hr : Reads w B size A m news) (h1 : ∀ u ∈ news, u.oneCell' = true)
    (h63 : n + m ≤ maxLen) (hbytes : (n + m) * bytes ≤ 140737488355328) (hbase : base ≤ w.heap.size) (hm : 0 < n + m)
    (h : ∀ b cap w', w'.ownsRow base e size (.slice (some ⟨b, 0, none⟩) (n + m) cap) (n + m) (xs ++ news) → w.grownBy w' v.ownBlock → (v.ownBlock = some b ∨ b = w.heap.size) → b < w'.heap.size → K (a.put o.dst (.slice (some ⟨b, 0, none⟩) (n + m) cap)) w') : Oper.wp P o a w K Q := by
  have := step_append_new (P := P) w (ops := ops) (E := True) (Q := Q) hgd s x t ho base e i z size bytes ht hi hz hsize hby hzs hsz v n xs hs hown B A m c news hx hr h1 h63 hbytes hbase hm h
  rwa [if_pos (by simp [Region.wanted, hgd])] at this
structure Went (w w' : World) (L L' : Lay) (c : Conf) (s s' : St) : Prop where
  only : Only (Foot L c s) w w'
  foot : ∀ b, Foot L' c s' b → Foot L c s b ∨ w.heap.size ≤ b
theorem Went.refl (w : World) (L : Lay) (c : Conf) (s : St) : Went w w L L c s s := ⟨Only.refl _ _, fun _ h => .inl h⟩
theorem Went.trans {w w1 w2 : World} {L L1 L2 : Lay} {c : Conf} {s s1 s2 : St} (h : Went w w1 L L1 c s s1) (k : Went w1 w2 L1 L2 c s1 s2) : Went w w2 L L2 c s s2 :=
  ⟨h.only.trans k.only fun x hx hf => (h.foot x hf).resolve_right (by omega), fun b hb => (k.foot b hb).elim (h.foot b) fun hb => .inr (Nat.le_trans h.only.size hb)⟩
theorem Went.next {w w1 w2 : World} {L L1 L2 : Lay} {c : Conf} {s s1 s2 : St} (h : Went w w1 L L1 c s s1) (o : Only (Foot L1 c s1) w1 w2) (hf : ∀ p, L2.blk c.cf s2 p = L1.blk c.cf s1 p) : Went w w2 L L2 c s s2 :=
  h.trans ⟨o, fun b ⟨p, hp⟩ => .inl ⟨p, (hf p).symm.trans hp⟩⟩
theorem only_at {S : Nat → Prop} (w : World) (b j : Nat) (v : Value) (h : S b) : Only S w (w.setCell ⟨b, j, none⟩ v) := (Only.refl S w).setCell (p := ⟨b, j, none⟩) (fun _ => h) v
theorem okOf {c : Conf} (h : refN c = 0) : c.cf.Ok ∧ Right c := by
  unfold refN at h
  by_cases hR : Right c
  · refine ⟨?_, hR⟩
    rw [if_pos hR] at h
    have h62 : c.nc ≤ 62 := by
      rcases Nat.lt_or_ge 62 c.nc with h1 | h1
      · rw [if_pos h1] at h; cases h
      · exact h1
    have a1 := hR.ps
    have a2 := hR.np1
    have a3 := hR.np2
    unfold Page9 at a1
    have hn := szs_nice hR.nice
    have hl := lim_le c.il.toNat
    have a4 := hR.il2
    have hlp : lim c.il.toNat ≤ c.ps.toNat := by unfold lim; omega
    refine ⟨?_, ?_, ?_, ?_, ?_, (cntN_ok _ _ _).pos, h62, fun k _ => ?_⟩
    · show 4096 ≤ c.ps.toNat; omega
    · show c.ps.toNat ≤ 1048576; omega
    · show c.ps.toNat % 8 = 0; omega
    · show 1 ≤ c.np.toNat; omega
    · show c.np.toNat ≤ 1024; omega
    · obtain ⟨b1, b2, b3⟩ := hn k
      exact ⟨b2, Nat.le_trans b3 hlp, b1⟩
  · rw [if_neg hR] at h; cases h
theorem nodup_le : ∀ (N : Nat) (l : List Nat), l.Nodup → (∀ x ∈ l, x < N) → l.length ≤ N
  | 0, [], _, _ => Nat.le_refl _
  | 0, x :: l, _, h => absurd (h x (List.mem_cons_self ..)) (by omega)
  | N + 1, l, hd, h => by
    have h1 := nodup_le N (l.erase N) (hd.erase _) fun x hx => by
      have h2 := (List.Nodup.mem_erase_iff hd).1 hx
      have := h x h2.2
      omega
    rw [List.length_erase] at h1
    split at h1 <;> omega
theorem Good.short {c : Cf} {s : St} (g : Good c s) (ok : c.Ok) {k : Nat} (hk : k < c.nc) : (s.free k).length ≤ 1073741824 := by
  refine nodup_le _ _ (g.nodup k hk) fun p hp => ?_
  obtain ⟨i, x, h1, -, -, -, h5, -, rfl, -⟩ := g.last ok hk hp
  obtain ⟨-, -, -, h6, -⟩ := place_of ok (i := i) hk h5
  have h7 := ok.psb
  have h8 := ok.npb
  have h9 : (i + 1) * c.ps ≤ 1024 * 1048576 := Nat.mul_le_mul (by omega) h7
  rw [Nat.succ_mul] at h9
  have := (ok.sz k hk).1
  omega
theorem Right.psE {c : Conf} (h : Right c) : c.ps = (c.cf.ps : Int) := by have := h.ps; unfold Page9 at this; show c.ps = ((c.ps.toNat : Nat) : Int); omega
theorem Right.npE {c : Conf} (h : Right c) : c.np = (c.cf.np : Int) := by have := h.np1; show c.np = ((c.np.toNat : Nat) : Int); omega
theorem upd_self {α : Type} (f : Nat → α) (i : Nat) : upd f i (f i) = f := by
  funext j
  unfold upd
  split
  · rename_i h; rw [h]
  · rfl
theorem upd_upd {α : Type} (f : Nat → α) (i : Nat) (u v : α) : upd (upd f i u) i v = upd f i v := by
  funext j
  unfold upd
  split <;> rfl
theorem freesTo_len (c : Cf) (s : St) (i : Nat) : ∀ n, (freesTo c s i n).length ≤ n
  | 0 => Nat.le_refl _
  | n + 1 => by
    have := freesTo_len c s i n
    unfold freesTo
    split
    · omega
    · simp only [List.length_cons]; omega
section
variable {w : World} {L : Lay} {c : Conf} {s : St} {bs : List UInt8} (h : SetAt w L c s bs)
include h
theorem SetAt.okc : c.cf.Ok := (okOf h.ok).1
theorem SetAt.right : Right c := (okOf h.ok).2
theorem SetAt.cPs : w.cell? ⟨L.g, 0, none⟩ = some (.int .i64 (c.cf.ps : Int)) := by rw [h.headB.cell 0, ← h.right.psE]; rfl
theorem SetAt.cArena : w.cell? ⟨L.g, 7, none⟩ = some (.pointer (some ⟨L.ga, 0, none⟩)) := by rw [h.headB.cell 7]; rfl
theorem SetAt.cSizes : w.cell? ⟨L.g, 8, none⟩ = some (.slice (some ⟨L.gs, 0, none⟩) c.nc L.sc) := by rw [h.headB.cell 8]; rfl
theorem SetAt.cPages : w.cell? ⟨L.g, 9, none⟩ = some (.slice (some ⟨L.gp, 0, none⟩) c.cf.np c.cf.np) := by rw [h.headB.cell 9]; rfl
theorem SetAt.cRows : w.cell? ⟨L.g, 10, none⟩ = some (.slice (some ⟨L.gr, 0, none⟩) c.nc c.nc) := by rw [h.headB.cell 10]; rfl
theorem SetAt.cSpare : w.cell? ⟨L.g, 11, none⟩ = some (.int .i64 (s.spare : Int)) := by rw [h.headB.cell 11]; rfl
theorem SetAt.fz (i : Nat) : w.frozen? ⟨L.g, i, none⟩ = false := h.headB.frozen i
theorem SetAt.fzP (i : Nat) : w.frozen? ⟨L.gp, i, none⟩ = false := h.pagesB.frozen i
theorem SetAt.fzR (i : Nat) : w.frozen? ⟨L.gr, i, none⟩ = false := h.rowsB.frozen i
theorem SetAt.sz {k : Nat} (hk : k < c.nc) : w.cell? ⟨L.gs, k, none⟩ = some (.int .i64 (c.sz k : Int)) := h.sizesB.cell1 k hk
theorem SetAt.p0 {i : Nat} (hi : i < c.cf.np) : w.cell? ⟨L.gp, i * 7, none⟩ = some (.bool (s.own i)) := h.pagesB.cell i 0 hi (by omega)
theorem SetAt.p1 {i : Nat} (hi : i < c.cf.np) : w.cell? ⟨L.gp, i * 7 + 1, none⟩ = some (.bool (s.lvs i)) := h.pagesB.cell i 1 hi (by omega)
theorem SetAt.p2 {i : Nat} (hi : i < c.cf.np) : w.cell? ⟨L.gp, i * 7 + 2, none⟩ = some (.int .i64 (s.cls i : Int)) := h.pagesB.cell i 2 hi (by omega)
theorem SetAt.p3 {i : Nat} (hi : i < c.cf.np) (ho : s.own i = true) : w.cell? ⟨L.gp, i * 7 + 3, none⟩ = some (.slice (some ⟨L.G i, 0, none⟩) (c.cf.n (s.cls i)) (c.cf.n (s.cls i))) := by
  rw [h.pagesB.cell i 3 hi (by omega)]; show some (rowV c.cf s L.G i) = _; unfold rowV; rw [if_pos ho]
theorem SetAt.p4 {i : Nat} (hi : i < c.cf.np) (ho : s.own i = true) : w.cell? ⟨L.gp, i * 7 + 4, none⟩ = some (.slice (some ⟨L.T i, 0, none⟩) (c.cf.n (s.cls i)) (c.cf.n (s.cls i))) := by
  rw [h.pagesB.cell i 4 hi (by omega)]; show some (rowV c.cf s L.T i) = _; unfold rowV; rw [if_pos ho]
theorem SetAt.p5 {i : Nat} (hi : i < c.cf.np) : w.cell? ⟨L.gp, i * 7 + 5, none⟩ = some (.int .i64 (s.held i : Int)) := h.pagesB.cell i 5 hi (by omega)
theorem SetAt.p6 {i : Nat} (hi : i < c.cf.np) : w.cell? ⟨L.gp, i * 7 + 6, none⟩ = some (.map (L.O i)) := h.pagesB.cell i 6 hi (by omega)
theorem SetAt.gen {i : Nat} (hi : i < c.cf.np) (ho : s.own i = true) {x : Nat} (hx : x < c.cf.n (s.cls i)) : w.cell? ⟨L.G i, x, none⟩ = some (.int .u32 (s.gens i x : Int)) := (h.gensB hi ho).cell1 x hx
theorem SetAt.tk {i : Nat} (hi : i < c.cf.np) (ho : s.own i = true) {x : Nat} (hx : x < c.cf.n (s.cls i)) : w.cell? ⟨L.T i, x, none⟩ = some (.bool (s.tkn i x)) := (h.tknB hi ho).cell1 x hx
theorem SetAt.r0 {k : Nat} (hk : k < c.nc) : w.cell? ⟨L.gr, k * 4, none⟩ = some (L.F k) := h.rowsB.cell k 0 hk (by omega)
theorem SetAt.r1 {k : Nat} (hk : k < c.nc) : w.cell? ⟨L.gr, k * 4 + 1, none⟩ = some (.int .i64 (s.rt k : Int)) := h.rowsB.cell k 1 hk (by omega)
theorem SetAt.r2 {k : Nat} (hk : k < c.nc) : w.cell? ⟨L.gr, k * 4 + 2, none⟩ = some (.int .i64 (s.rp k : Int)) := h.rowsB.cell k 2 hk (by omega)
theorem SetAt.r3 {k : Nat} (hk : k < c.nc) : w.cell? ⟨L.gr, k * 4 + 3, none⟩ = some (.int .i64 (s.rs k : Int)) := h.rowsB.cell k 3 hk (by omega)
end
end Go.Proofs.Ytgodinapdahocaa.Cls
