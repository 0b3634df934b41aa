/-
  What each call that tells tells of a pair.
-/
import Derived.Test.YtnjobnccknpaeaaExactPair
namespace Go.Proofs.Ytnjobnccknpaeaa.Exact
open Go.RowKit Base Arena Held
set_option linter.unusedVariables false

/-- What Read tells, what Page tells, what Get tells, what Same tells. -/
noncomputable def rdL (page : Nat) (l : List UInt8) (at_ n : Int) : List UInt8 := if there page l.length at_ n = true then (l.drop at_.toNat).take n.toNat else []
noncomputable def pgL (page : Nat) (l : List UInt8) (i : Int) : List UInt8 := if 0 ≤ i ∧ i < ((l.length / page : Nat) : Int) then (l.drop (i.toNat * page)).take page else []
noncomputable def pgC (page len : Nat) (i : Int) : Int := if 0 ≤ i ∧ i < ((len / page : Nat) : Int) then 0 else 20
noncomputable def gtN (page : Nat) (l : List UInt8) (at_ : Int) (k : Nat) : Nat := if there page l.length at_ k = true then beN ((l.drop at_.toNat).take k) else 0
noncomputable def smB (page : Nat) (l : List UInt8) (at_ : Int) (q : List UInt8) : Bool := if there page l.length at_ q.length = true then (l.drop at_.toNat).take q.length == q else false
theorem rdL_le {page : Nat} {l : List UInt8} {at_ n : Int} : (rdL page l at_ n).length ≤ l.length := by
  unfold rdL
  split
  · simp only [List.length_take, List.length_drop]; omega
  · exact Nat.zero_le _
theorem pgL_le {page : Nat} {l : List UInt8} {i : Int} : (pgL page l i).length ≤ l.length := by
  unfold pgL
  split
  · simp only [List.length_take, List.length_drop]; omega
  · exact Nat.zero_le _
theorem page_in {page len k : Nat} (hp : 0 < page) (hk : k < len / page) : k * page + page ≤ len := by
  have h1 : (k + 1) * page ≤ len := Nat.le_trans (Nat.mul_le_mul_right page hk) (Nat.div_mul_le_self len page)
  rw [Nat.succ_mul] at h1
  exact h1
theorem brow_new {w : World} {N g : Nat} {l : List UInt8} (h : BB w 5 g l) (hN : N ≤ g) : BRow w N (.slice (some ⟨g, 0, none⟩) l.length l.length) l := .inr ⟨g, rfl, hN, h⟩
theorem own_new {B : Nat} {w : World} {n : Nat} {l : List UInt8} {v : Value} (h : w.ownsRow B 5 1 v n (l.map bv)) : ∃ A c, v = .slice A l.length c ∧ Bytes w w.heap.size A l ∧ ∀ b off, A = some ⟨b, off, none⟩ → B ≤ b := by
  obtain ⟨A, c, rfl, hb⟩ := own_bytes h
  refine ⟨A, c, rfl, hb, ?_⟩
  rintro b off rfl
  rcases h.2 with ⟨h1, -⟩ | ⟨g, cap, cur, h1, hB, -⟩
  · simp at h1
  · simp only [Value.slice.injEq, Option.some.injEq, Addr.mk.injEq] at h1
    omega
section
variable {w w' : World} {p N ga ha gr hr hh page : Nat} {la lr : List UInt8} {G : Nat → Prop}
theorem readJ (P : Pair2 w p N ga ha gr hr hh page la lr G) (at_ n : Int) (hat : inI64 at_) (hn : inI64 n) :
    Calls Try.prog 20 #[.pointer (some ⟨ga, 0, none⟩), .int .i64 at_, .int .i64 n] w fun e w' =>
      ∃ A, e = .returned (.tuple #[.slice A (rdL page la at_ n).length (rdL page la at_ n).length, .int .i64 (cd page la.length at_ n)]) ∧ BRow w' w.heap.size (.slice A (rdL page la at_ n).length (rdL page la at_ n).length) (rdL page la at_ n) ∧ Below w.heap.size w w' := by
  by_cases hy : There page la.length at_ n
  · unfold cd rdL
    rw [if_pos (there_yes hy), if_pos (there_yes hy)]
    refine (readYes w ga ha page la P.a at_ n hy).mono ?_
    rintro e w' ⟨rfl, hb, hbl, -⟩
    have hl : ((la.drop at_.toNat).take n.toNat).length = n.toNat := by
      obtain ⟨h1, h2, h3, -⟩ := hy
      simp only [List.length_take, List.length_drop]
      omega
    refine ⟨_, by rw [hl], ?_, hbl⟩
    exact brow_new hb (Nat.le_refl _)
  · unfold cd rdL
    rw [if_neg (there_no hy), if_neg (there_no hy)]
    refine (readNo w ga ha page la P.a at_ n hat hn hy).mono ?_
    rintro e w' ⟨rfl, m, rfl⟩
    exact ⟨none, rfl, .inl ⟨rfl, rfl⟩, below_drewN (Below.refl _ _) m⟩
theorem refReadJ (P : Pair2 w p N ga ha gr hr hh page la lr G) (at_ n : Int) (hat : inI64 at_) (hn : inI64 n) :
    Calls Try.prog 66 #[.pointer (some ⟨gr, 0, none⟩), .int .i64 at_, .int .i64 n] w fun e w' =>
      ∃ A c, e = .returned (.tuple #[.slice A (rdL page lr at_ n).length c, .int .i64 (cd page lr.length at_ n)]) ∧ Bytes w' w'.heap.size A (rdL page lr at_ n) ∧ (∀ b off, A = some ⟨b, off, none⟩ → w.heap.size ≤ b) ∧ Below w.heap.size w w' := by
  by_cases hy : There page lr.length at_ n
  · unfold cd rdL
    rw [if_pos (there_yes hy), if_pos (there_yes hy)]
    have hy' := hy
    obtain ⟨h1, h2, h3, -⟩ := hy
    obtain ⟨a, rfl⟩ := Int.eq_ofNat_of_zero_le h1
    obtain ⟨b, rfl⟩ := Int.eq_ofNat_of_zero_le h2
    refine (refReadYes w gr hr page lr P.r a b hy').mono ?_
    rintro e w' ⟨v, rfl, hb, hbl⟩
    obtain ⟨A, c, rfl, hq, hA⟩ := own_new hb
    exact ⟨A, c, rfl, hq, hA, hbl⟩
  · unfold cd rdL
    rw [if_neg (there_no hy), if_neg (there_no hy)]
    refine (refReadNo w gr hr page lr P.r at_ n hat hn hy).mono ?_
    rintro e w' ⟨rfl, m, rfl⟩
    exact ⟨none, 0, rfl, fun h => absurd h (by simp), (fun b off h => by cases h), below_drewN (Below.refl _ _) m⟩
theorem pageJ (P : Pair2 w p N ga ha gr hr hh page la lr G) (i : Int) (hi : inI64 i) :
    Calls Try.prog 53 #[.pointer (some ⟨ga, 0, none⟩), .int .i64 i] w fun e w' =>
      ∃ A, e = .returned (.tuple #[.slice A (pgL page la i).length (pgL page la i).length, .int .i64 (pgC page la.length i)]) ∧ BRow w' w.heap.size (.slice A (pgL page la i).length (pgL page la i).length) (pgL page la i) ∧ Below w.heap.size w w' := by
  by_cases hy : 0 ≤ i ∧ i < ((la.length / page : Nat) : Int)
  · unfold pgC pgL
    rw [if_pos hy, if_pos hy]
    obtain ⟨h1, h2⟩ := hy
    obtain ⟨k, rfl⟩ := Int.eq_ofNat_of_zero_le h1
    have hk : k < la.length / page := by omega
    refine (pageYes w ga ha page la P.a k hk).mono ?_
    rintro e w' ⟨rfl, hb, hbl, -⟩
    have hl : ((la.drop (k * page)).take page).length = page := by
      have := page_in P.a.pos hk
      simp only [List.length_take, List.length_drop]
      omega
    refine ⟨_, by rw [show ((k : Int)).toNat = k from rfl, hl], ?_, hbl⟩
    exact brow_new hb (Nat.le_refl _)
  · unfold pgC pgL
    rw [if_neg hy, if_neg hy]
    refine (pageNo w ga ha page la P.a i hi (by omega)).mono ?_
    rintro e w' ⟨rfl, m, rfl⟩
    exact ⟨none, rfl, .inl ⟨rfl, rfl⟩, below_drewN (Below.refl _ _) m⟩
theorem refWholeJ (P : Pair2 w p N ga ha gr hr hh page la lr G) (i : Int) (hi : inI64 i) :
    Calls Try.prog 69 #[.pointer (some ⟨gr, 0, none⟩), .int .i64 i] w fun e w' =>
      ∃ A c, e = .returned (.tuple #[.slice A (pgL page lr i).length c, .int .i64 (pgC page lr.length i)]) ∧ Bytes w' w'.heap.size A (pgL page lr i) ∧ (∀ b off, A = some ⟨b, off, none⟩ → w.heap.size ≤ b) ∧ Below w.heap.size w w' := by
  by_cases hy : 0 ≤ i ∧ i < ((lr.length / page : Nat) : Int)
  · unfold pgC pgL
    rw [if_pos hy, if_pos hy]
    obtain ⟨h1, h2⟩ := hy
    obtain ⟨k, rfl⟩ := Int.eq_ofNat_of_zero_le h1
    have hk : k < lr.length / page := by omega
    refine (refWholeYes w gr hr page lr P.r k hk).mono ?_
    rintro e w' ⟨v, rfl, hb, hbl⟩
    obtain ⟨A, c, rfl, hq, hA⟩ := own_new hb
    exact ⟨A, c, rfl, hq, hA, hbl⟩
  · unfold pgC pgL
    rw [if_neg hy, if_neg hy]
    refine (refWholeNo w gr hr page lr P.r i hi (by omega)).mono ?_
    rintro e w' ⟨rfl, m, rfl⟩
    exact ⟨none, 0, rfl, fun h => absurd h (by simp), (fun b off h => by cases h), below_drewN (Below.refl _ _) m⟩
theorem getJ (P : Pair2 w p N ga ha gr hr hh page la lr G) (k : Nat) (hk : Wide k) (own : Bool) (at_ : Int) (hat : inI64 at_) :
    Calls Try.prog 14 #[.pointer (some ⟨ga, 0, none⟩), .int .i64 at_, .int .i64 (k : Int), .bool own] w fun e w' =>
      e = .returned (.tuple #[.int .u64 (gtN page la at_ k : Int), .int .i64 (cd page la.length at_ k)]) ∧ ∃ m, w.drewN m = w' := by
  by_cases hy : There page la.length at_ k
  · unfold cd gtN
    rw [if_pos (there_yes hy), if_pos (there_yes hy)]
    exact getDYes k hk own w ga ha page la P.a at_ hy
  · unfold cd gtN
    rw [if_neg (there_no hy), if_neg (there_no hy)]
    exact getDNo k hk own w ga ha page la P.a at_ hat hy
theorem refGetJ (P : Pair2 w p N ga ha gr hr hh page la lr G) (k : Nat) (hk : Wide k) (at_ : Int) (hat : inI64 at_) :
    Calls Try.prog 65 #[.pointer (some ⟨gr, 0, none⟩), .int .i64 at_, .int .i64 (k : Int)] w fun e w' =>
      e = .returned (.tuple #[.int .u64 (gtN page lr at_ k : Int), .int .i64 (cd page lr.length at_ k)]) ∧ ∃ m, w.drewN m = w' := by
  have hk8 : k ≤ 8 := by unfold Wide at hk; omega
  by_cases hy : There page lr.length at_ k
  · unfold cd gtN
    rw [if_pos (there_yes hy), if_pos (there_yes hy)]
    exact refGetYes w gr hr page lr P.r at_ k hk8 hy
  · unfold cd gtN
    rw [if_neg (there_no hy), if_neg (there_no hy)]
    exact refGetNo w gr hr page lr P.r at_ k hat ⟨by omega, by omega⟩ hy
theorem sameJ (P : Pair2 w p N ga ha gr hr hh page la lr G) (at_ : Int) (hat : inI64 at_) (A : Option Addr) (c B : Nat) (q : List UInt8) (hq : Bytes w B A q) (hql : q.length ≤ maxLen) :
    Calls Try.prog 27 #[.pointer (some ⟨ga, 0, none⟩), .int .i64 at_, .slice A q.length c] w fun e w' => e = .returned (.bool (smB page la at_ q)) ∧ ∃ m, w.drewN m = w' := by
  by_cases hy : There page la.length at_ q.length
  · unfold smB
    rw [if_pos (there_yes hy)]
    exact sameYes w ga ha page la P.a at_ A c B q hq hy
  · unfold smB
    rw [if_neg (there_no hy)]
    exact sameNo w ga ha page la P.a at_ hat A q.length c hql hy
theorem refSameJ (P : Pair2 w p N ga ha gr hr hh page la lr G) (at_ : Int) (hat : inI64 at_) (A : Option Addr) (c B : Nat) (q : List UInt8) (hq : Bytes w B A q) (hql : q.length ≤ maxLen) :
    Calls Try.prog 68 #[.pointer (some ⟨gr, 0, none⟩), .int .i64 at_, .slice A q.length c] w fun e w' => e = .returned (.bool (smB page lr at_ q)) ∧ ∃ m, w.drewN m = w' := by
  by_cases hy : There page lr.length at_ q.length
  · unfold smB
    rw [if_pos (there_yes hy)]
    have hy' := hy
    obtain ⟨h1, h2, h3, -⟩ := hy
    obtain ⟨a, rfl⟩ := Int.eq_ofNat_of_zero_le h1
    exact refSameYes w gr hr page lr P.r a A c B q hq hy'
  · unfold smB
    rw [if_neg (there_no hy)]
    exact refSameNo w gr hr page lr P.r at_ hat A q.length c hql hy
/-- What was held is more. -/
theorem Pair2.more (P : Pair2 w p N ga ha gr hr hh page la lr G) {G' : Nat → Prop} {got : Value} {W0 : Nat} (h1 : HeldOk w' hh N G') (o : Only (fun b => G b ∨ got.ownBlock = some b) w w') (h2 : ∀ b, G' b → G b ∨ got.ownBlock = some b ∨ w.heap.size ≤ b)
    (hW : ∀ b, PF p ga ha gr hr G b → b < W0) (hg : ∀ b, got.ownBlock = some b → W0 ≤ b) : Pair2 w' p N ga ha gr hr hh page la lr G' := by
  have key : ∀ b, PF p ga ha gr hr G b → ¬ G b → w'.heap[b]? = w.heap[b]? ∧ ¬ G' b := fun b hb hn => by
    have hlt := P.lt b hb
    have hw0 := hW b hb
    refine ⟨o.block b hlt.2 ?_, fun hc => ?_⟩
    · rintro (h | h)
      · exact hn h
      · have := hg b h; omega
    · rcases h2 b hc with h | h | h
      · exact hn h
      · have := hg b h; omega
      · omega
  obtain ⟨n1, n2, n3, n4, n5⟩ := P.nG
  have e1 := key p (.inl rfl) n1
  have e2 := key ga (.inr (.inl rfl)) n2
  have e3 := key ha (.inr (.inr (.inl rfl))) n3
  have e4 := key gr (.inr (.inr (.inr (.inl rfl)))) n4
  have e5 := key hr (.inr (.inr (.inr (.inr (.inl rfl))))) n5
  exact ⟨e1.1.trans P.head, P.a.keep e2.1 e3.1, P.r.keep e4.1 e5.1, h1, P.d, ⟨e1.2, e2.2, e3.2, e4.2, e5.2⟩, P.lo⟩
theorem addJ {w0 : World} (P0 : Pair2 w0 p N ga ha gr hr hh page la lr G) (hb0 : Below w0.heap.size w0 w) (L : List UInt8) (A A' : Option Addr) (c : Nat) (hg : BRow w w0.heap.size (.slice A L.length L.length) L) (hL : L.length ≤ 1073741824)
    (hb : Bytes w w.heap.size A' L) (hA : ∀ b off, A' = some ⟨b, off, none⟩ → w0.heap.size ≤ b) :
    Calls Try.prog 67 #[.pointer (some ⟨hh, 0, none⟩), .slice A L.length L.length, .slice A' L.length c] w fun e w' =>
      e = .returned (.bool true) ∧ ∃ G', Pair2 w' p N ga ha gr hr hh page la lr G' ∧ Only G w0 w' ∧ ∀ b, G' b → G b ∨ w0.heap.size ≤ b := by
  have P := P0.below hb0
  have hW : ∀ b, PF p ga ha gr hr G b → b < w0.heap.size := fun b h => (P0.lt b h).2
  have hgo : ∀ b, (Value.slice A L.length L.length).ownBlock = some b → w0.heap.size ≤ b := fun b h => (hg.lt b h).1
  have hgN : BRow w N (.slice A L.length L.length) L := by
    rcases hg with h | ⟨g, h1, h2, h3⟩
    · exact .inl h
    · have := P0.lt p (.inl rfl)
      exact .inr ⟨g, h1, by omega, h3⟩
  refine (addC w hh N G P.k _ L hgN hL (fun b h hc => ?_) A' c hb (fun b off h hc => ?_)).mono ?_
  · have h1 := hgo b h
    have h2 := hW b (.inr (.inr (.inr (.inr (.inr hc)))))
    omega
  · have h1 := hA b off h
    have h2 := hW b (.inr (.inr (.inr (.inr (.inr hc)))))
    omega
  · rintro e w' ⟨rfl, G', h1, o, h2⟩
    have hs := hb0.size
    have ho0 : Only G w0 w := (Only.refl _ _).below hb0 (Nat.le_refl _)
    refine ⟨rfl, G', P.more h1 o h2 hW hgo, ho0.trans o fun b hb h => ?_, fun b hb => ?_⟩
    · rcases h with h | h
      · exact h
      · have := hgo b h; omega
    · rcases h2 b hb with h | h | h
      · exact .inl h
      · exact .inr (hgo b h)
      · exact .inr (by omega)
/-- What was held is looked at and let go. -/
theorem ownJ (P : Pair2 w p N ga ha gr hr hh page la lr G) :
    Calls Try.prog 34 #[.pointer (some ⟨hh, 0, none⟩)] w fun e w' =>
      e = .returned (.bool true) ∧ ∃ G', Pair2 w' p N ga ha gr hr hh page la lr G' ∧ Only G w w' ∧ ∀ b, G' b → G b ∨ w.heap.size ≤ b := by
  obtain ⟨vg, vw, ps, qs, Ls, size, H, hn, hsz, hG⟩ := P.k
  refine (ownAllC w hh N size vg vw ps qs Ls H (by omega)).mono ?_
  rintro e w' ⟨rfl, H', o⟩
  rw [← hG] at o
  have k' : HeldOk w' hh N (HF hh (.slice none 0 0) (.slice none 0 0) [] []) := ⟨_, _, _, _, _, _, H', by simp, by omega, rfl⟩
  have hsub : ∀ b, HF hh (.slice none 0 0) (.slice none 0 0) [] [] b → G b := by
    rintro b (rfl | h1 | h1 | ⟨j, u, hu, h1⟩ | ⟨j, u, hu, h1⟩)
    · rw [hG]; exact .inl rfl
    · simp [Value.ownBlock] at h1
    · simp [Value.ownBlock] at h1
    · simp at hu
    · simp at hu
  exact ⟨rfl, _, P.more (got := .int .i64 0) (W0 := w.heap.size) k' (o.mono fun x _ h => .inl h) (fun b h => .inl (hsub b h)) (fun b h => (P.lt b h).2) (fun b h => by simp [Value.ownBlock] at h), o, fun b h => .inl (hsub b h)⟩
end
end Go.Proofs.Ytnjobnccknpaeaa.Exact
