/-
  The calls of the law ArenaEnds, each over the state that a round keeps.
-/
import Derived.Test.YtnjobnccknpaeaaArenaEndsFns
namespace Go.Proofs.Ytnjobnccknpaeaa.Arena
open Go.RowKit Base
set_option linter.unusedVariables false

/-- The slice holds the ends, four cells each. -/
def EndsAt (w : World) (A : Option Addr) (l : List (Int × Int × Int × Bool)) : Prop := ∀ (k : Nat) (hk : k < l.length), ∃ b off, A = some ⟨b, off, none⟩ ∧ b < w.heap.size ∧
    w.cell? ⟨b, off + k * 4, none⟩ = some (.int .i64 (l[k]).1) ∧ w.cell? ⟨b, off + k * 4 + 1, none⟩ = some (.int .i64 (l[k]).2.1) ∧ w.cell? ⟨b, off + k * 4 + 2, none⟩ = some (.int .i64 (l[k]).2.2.1) ∧ w.cell? ⟨b, off + k * 4 + 3, none⟩ = some (.bool (l[k]).2.2.2) ∧
    inI64 (l[k]).1 ∧ inI64 (l[k]).2.1 ∧ inI64 (l[k]).2.2.1

structure St (w wr : World) (g h gi ci : Nat) (L : List UInt8) : Prop where
  a : At wr g h 4096 L
  b : BO wr gi L
  c : Below w.heap.size w wr
  len : L.length = 8192
  ne : gi ≠ h
  hh : w.heap.size ≤ h
  hgi : w.heap.size ≤ gi
  cap : 8192 ≤ ci
  capm : ci ≤ maxLen
section
variable {w wr : World} {g h gi ci : Nat} {L : List UInt8}
theorem not_there_min {x : Int} {m m2 : Nat} (hno : ¬ There 4096 8192 x m) (hm2 : m2 = Nat.min m 8192) : ¬ There 4096 8192 x m2 := by
  rcases Nat.lt_or_ge 8192 m with h1 | h1
  · have : m2 = 8192 := by rw [hm2]; exact Nat.min_eq_right (by omega)
    subst this
    intro ⟨z1, z2, z3, z4⟩
    omega
  · have : m2 = m := by rw [hm2]; exact Nat.min_eq_left h1
    subst this
    exact hno
theorem St.drewN (s : St w wr g h gi ci L) (m : Nat) : St w (wr.drewN m) g h gi ci L := ⟨at_drewN s.a m, s.b, below_drewN s.c m, s.len, s.ne, s.hh, s.hgi, s.cap, s.capm⟩
theorem St.below {w' : World} (s : St w wr g h gi ci L) (hb : Below wr.heap.size wr w') : St w w' g h gi ci L :=
  ⟨at_below s.a hb (heap_lt s.a.head) s.a.bytes.lt, s.b.keep (hb.block _ s.b.lt), s.c.trans (hb.mono s.c.size), s.len, s.ne, s.hh, s.hgi, s.cap, s.capm⟩

theorem St.readNo (s : St w wr g h gi ci L) (x y : Int) (hx : inI64 x) (hy : inI64 y) (hno : ¬ There 4096 8192 x y) :
    Calls Try.prog 20 #[.pointer (some ⟨g, 0, none⟩), .int .i64 x, .int .i64 y] wr fun e w' => e = .returned (.tuple #[.slice none 0 0, .int .i64 20]) ∧ St w w' g h gi ci L :=
  (Arena.readNo wr g h 4096 L s.a x y hx hy (by rw [s.len]; exact hno)).mono fun e w' ⟨he, m, hm⟩ => ⟨he, by rw [← hm]; exact s.drewN m⟩
theorem St.fillNo (s : St w wr g h gi ci L) (x y : Int) (hx : inI64 x) (hy : inI64 y) (hno : ¬ There 4096 8192 x y) :
    Calls Try.prog 19 #[.pointer (some ⟨g, 0, none⟩), .int .i64 x, .int .i64 y, .int .u8 0] wr fun e w' => e = .returned (.int .i64 20) ∧ St w w' g h gi ci L :=
  (Arena.fillNo wr g h 4096 L s.a x y 0 hx hy (by rw [s.len]; exact hno)).mono fun e w' ⟨he, m, hm⟩ => ⟨he, by rw [← hm]; exact s.drewN m⟩
theorem St.moveNo (s : St w wr g h gi ci L) (x z y : Int) (hx : inI64 x) (hz : inI64 z) (hy : inI64 y) (hno : ¬ (There 4096 8192 x y ∧ There 4096 8192 z y)) :
    Calls Try.prog 21 #[.pointer (some ⟨g, 0, none⟩), .int .i64 x, .int .i64 z, .int .i64 y] wr fun e w' => e = .returned (.int .i64 20) ∧ St w w' g h gi ci L :=
  (Arena.moveNo wr g h 4096 L s.a x z y hx hz hy (by rw [s.len]; exact hno)).mono fun e w' ⟨he, m, hm⟩ => ⟨he, by rw [← hm]; exact s.drewN m⟩
theorem St.writeNo (s : St w wr g h gi ci L) (x : Int) (A : Option Addr) (n c : Nat) (hx : inI64 x) (hn : n ≤ 8192) (hno : ¬ There 4096 8192 x n) :
    Calls Try.prog 18 #[.pointer (some ⟨g, 0, none⟩), .int .i64 x, .slice A n c] wr fun e w' => e = .returned (.int .i64 20) ∧ St w w' g h gi ci L :=
  (Arena.writeNo wr g h 4096 L s.a x hx A n c (by simp [maxLen]; omega) (by rw [s.len]; exact hno)).mono fun e w' ⟨he, m, hm⟩ => ⟨he, by rw [← hm]; exact s.drewN m⟩
/-- No bytes told: Same of none. -/
theorem St.sameNil (s : St w wr g h gi ci L) (x y : Int) (hx : inI64 x) (hno : ¬ There 4096 8192 x y) :
    ∃ sb : Bool, (sb = false ∨ (sb = true ∧ (y == 0) = false)) ∧ Calls Try.prog 27 #[.pointer (some ⟨g, 0, none⟩), .int .i64 x, .slice none 0 0] wr fun e w' => e = .returned (.bool sb) ∧ St w w' g h gi ci L := by
  by_cases h0 : There 4096 8192 x 0
  · refine ⟨true, .inr ⟨rfl, beq_eq_false_iff_ne.2 (by rintro rfl; exact hno h0)⟩, ?_⟩
    have S := sameYes wr g h 4096 L s.a x none 0 wr.heap.size [] (Row.nil_ _ _ _) (by rw [s.len]; exact h0)
    refine S.mono fun e w' ⟨he, m, hm⟩ => ⟨by simpa using he, by rw [← hm]; exact s.drewN m⟩
  · refine ⟨false, .inl rfl, ?_⟩
    exact (sameNo wr g h 4096 L s.a x hx none 0 0 (by simp [maxLen]) (by rw [s.len]; exact h0)).mono fun e w' ⟨he, m, hm⟩ => ⟨he, by rw [← hm]; exact s.drewN m⟩
theorem St.put8 {M : List UInt8} {wr' : World} (s : St w wr g h gi ci L) (a : At wr' g h 4096 M) (hM : M.length = 8192) (b : BO wr' gi L) (hc : Below w.heap.size w wr') :
    Calls Try.prog 30 #[.pointer (some ⟨g, 0, none⟩), .slice (some ⟨gi, 0, none⟩) 8192 ci] wr' fun e w' => e = .returned (.bool true) ∧ St w w' g h gi ci L := by
  refine (put8C wr' g h gi ci M L a hM s.len b s.ne s.cap s.capm).mono fun e w' ⟨he, a', o, hs⟩ => ⟨he, a', b.keep (o.block _ b.lt s.ne), ?_, s.len, s.ne, s.hh, s.hgi, s.cap, s.capm⟩
  exact hc.trans (o.toBelow (fun k hk => ⟨Nat.lt_of_lt_of_le hk hc.size, by have := s.hh; show ¬ k = h; omega⟩))
theorem St.image (s : St w wr g h gi ci L) :
    Calls Try.prog 17 #[.pointer (some ⟨g, 0, none⟩)] wr fun e w' => ∃ gv cv, e = .returned (.slice (some ⟨gv, 0, none⟩) 8192 cv) ∧ BO w' gv L ∧ BO w' gi L ∧ Below w.heap.size w w' := by
  refine (imageC wr g h L s.a s.len).mono fun e w' ⟨v, he, own, hb⟩ => ?_
  obtain ⟨gv, cv, rfl, h1, h2, h3, h4⟩ := own_open own (by omega)
  exact ⟨gv, cv, he, h4, s.b.keep (hb.block _ s.b.lt), s.c.trans (hb.mono s.c.size)⟩
theorem eqBO {w : World} {ga gb ca cb : Nat} {L : List UInt8} (ha : BO w ga L) (hb : BO w gb L) (hL : L.length = 8192) :
    Calls Try.prog 23 #[.slice (some ⟨ga, 0, none⟩) 8192 ca, .slice (some ⟨gb, 0, none⟩) 8192 cb] w fun e w' => e = .returned (.bool true) ∧ w = w' := by
  have h1 := ha.piece w.heap.size 0 8192 ha.lt (by omega) (some ⟨ga, 0, none⟩) (fun _ => rfl)
  have h2 := hb.piece w.heap.size 0 8192 hb.lt (by omega) (some ⟨gb, 0, none⟩) (fun _ => rfl)
  rw [List.drop_zero, List.take_of_length_le (by omega)] at h1 h2
  have E := Book.eqC _ _ ca cb w.heap.size L L w h1 h2
  rw [hL, beq_self_eq_true] at E
  exact E
theorem St.put8' (s : St w wr g h gi ci L) :
    Calls Try.prog 30 #[.pointer (some ⟨g, 0, none⟩), .slice (some ⟨gi, 0, none⟩) 8192 ci] wr fun e w' => e = .returned (.bool true) ∧ St w w' g h gi ci L :=
  s.put8 s.a s.len s.b s.c

/-- What a Read told lies in a block of its own. -/
structure Su (w wr : World) (g h gi ci B p m : Nat) (M L : List UInt8) : Prop where
  a : At wr g h 4096 M
  lenM : M.length = 8192
  b : BO wr gi L
  c : Below w.heap.size w wr
  t : BB wr 5 B ((L.drop p).take m)
  ne : B ≠ h
theorem St.readYes (s : St w wr g h gi ci L) (p m : Nat) (hy : There 4096 8192 p m) :
    Calls Try.prog 20 #[.pointer (some ⟨g, 0, none⟩), .int .i64 (p : Int), .int .i64 (m : Int)] wr fun e w' => ∃ B, e = .returned (.tuple #[.slice (some ⟨B, 0, none⟩) m m, .int .i64 0]) ∧ Su w w' g h gi ci B p m L L := by
  refine (Arena.readYes wr g h 4096 L s.a p m (by rw [s.len]; exact hy)).mono fun e w' ⟨he, hb, hbl, hs⟩ => ?_
  rw [Int.toNat_natCast, Int.toNat_natCast] at *
  have s' := s.below hbl
  exact ⟨_, he, s'.a, s.len, s'.b, s'.c, hb, by have := s.a.bytes.lt; omega⟩
theorem Su.drewN {B p m : Nat} {M : List UInt8} (s : Su w wr g h gi ci B p m M L) (k : Nat) : Su w (wr.drewN k) g h gi ci B p m M L := ⟨at_drewN s.a k, s.lenM, s.b, below_drewN s.c k, s.t, s.ne⟩
theorem tell_len {p m : Nat} (hL : L.length = 8192) (hy : There 4096 8192 p m) : ((L.drop p).take m).length = m := by
  obtain ⟨q1, q2, q3, q4⟩ := hy
  rw [List.length_take, List.length_drop]; omega
theorem Su.same {B p m : Nat} (s : Su w wr g h gi ci B p m L L) (hy : There 4096 8192 p m) :
    Calls Try.prog 27 #[.pointer (some ⟨g, 0, none⟩), .int .i64 (p : Int), .slice (some ⟨B, 0, none⟩) m m] wr fun e w' => e = .returned (.bool true) ∧ Su w w' g h gi ci B p m L L := by
  have hl := tell_len s.lenM hy
  have S := sameYes wr g h 4096 L s.a p (some ⟨B, 0, none⟩) m (B + 1) _ (s.t.all (B + 1) (by omega)) (by rw [s.lenM, hl]; exact hy)
  rw [Int.toNat_natCast, hl, beq_self_eq_true] at S
  exact S.mono fun e w' ⟨he, k, hk⟩ => ⟨he, by rw [← hk]; exact s.drewN k⟩
/-- A write of bytes that lie in a block other than the arena's. -/
theorem Su.write {B p m : Nat} {M : List UInt8} (s : Su w wr g h gi ci B p m M L) (hh : w.heap.size ≤ h) (hgi : gi ≠ h) (hy : There 4096 8192 p m) (A : Option Addr) (c : Nat) (q : List UInt8) (hq : q.length = m) (hA : Bytes wr wr.heap.size A q) :
    Calls Try.prog 18 #[.pointer (some ⟨g, 0, none⟩), .int .i64 (p : Int), .slice A m c] wr fun e w' => e = .returned (.int .i64 0) ∧ ∃ M', Su w w' g h gi ci B p m M' L := by
  have W := writeYes wr g h 4096 M s.a p A c wr.heap.size q hA (by rw [s.lenM, hq]; exact hy)
  rw [hq] at W
  refine W.mono fun e w' ⟨he, a, o, hs⟩ => ⟨he, _, a, ?_, s.b.keep (o.block _ s.b.lt hgi), ?_, ?_, s.ne⟩
  · obtain ⟨q1, q2, q3, q4⟩ := hy
    rw [lay_len _ _ _ (by rw [s.lenM, hq, Int.toNat_natCast]; omega), s.lenM]
  · exact s.c.trans (o.toBelow (fun k hk => ⟨Nat.lt_of_lt_of_le hk s.c.size, by show ¬ k = h; omega⟩))
  · exact o.at_ s.t s.ne
theorem Su.writeWas {B p m : Nat} {M : List UInt8} (s : Su w wr g h gi ci B p m M L) (hh : w.heap.size ≤ h) (hgi : gi ≠ h) (hL : L.length = 8192) (hy : There 4096 8192 p m) :
    Calls Try.prog 18 #[.pointer (some ⟨g, 0, none⟩), .int .i64 (p : Int), .slice (some ⟨gi, 0, none⟩) m ci] wr fun e w' => e = .returned (.int .i64 0) ∧ ∃ M', Su w w' g h gi ci B p m M' L := by
  obtain ⟨q1, q2, q3, q4⟩ := id hy
  have hb := s.b.piece wr.heap.size 0 m s.b.lt (by omega) (some ⟨gi, 0, none⟩) (fun _ => rfl)
  rw [List.drop_zero] at hb
  exact s.write hh hgi hy (some ⟨gi, 0, none⟩) ci (L.take m) (by rw [List.length_take]; omega) hb
theorem Su.writeTold {B p m : Nat} {M : List UInt8} (s : Su w wr g h gi ci B p m M L) (hh : w.heap.size ≤ h) (hgi : gi ≠ h) (hL : L.length = 8192) (hy : There 4096 8192 p m) :
    Calls Try.prog 18 #[.pointer (some ⟨g, 0, none⟩), .int .i64 (p : Int), .slice (some ⟨B, 0, none⟩) m m] wr fun e w' => e = .returned (.int .i64 0) ∧ ∃ M', Su w w' g h gi ci B p m M' L :=
  s.write hh hgi hy (some ⟨B, 0, none⟩) m _ (tell_len hL hy) (s.t.all _ s.t.lt)
end
end Go.Proofs.Ytnjobnccknpaeaa.Arena
