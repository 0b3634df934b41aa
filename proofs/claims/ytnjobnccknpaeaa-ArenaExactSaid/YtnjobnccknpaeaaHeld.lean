/-
  The statements' own Held: what its small functions answer, and rows of rows of bytes.
-/
import Derived.Test.YtnjobnccknpaeaaBookLend
import Derived.Test.YtnjobnccknpaeaaAppTail
namespace Go.Proofs.Ytnjobnccknpaeaa.Held
open Go.RowKit Base Tail
set_option linter.unusedVariables false

theorem eiB : EI Try.prog 38 5 (.int .u8 0) 1 1 := EI.mk' Try.underlying38 (by kernel_rfl) rfl (by decide)
theorem eiBB : EI Try.prog 109 38 (.slice none 0 0) 1 24 := EI.mk' Try.underlying109 (by kernel_rfl) rfl (by decide)

/-- Byte k of list i's mark. -/
def ownB (i k : Nat) : UInt8 := if k % 2 = 0 then UInt8.ofNat i else UInt8.ofNat (i + k + 100)
/-- The marks. -/
def mrk (i n : Nat) : List UInt8 := (List.range n).map (ownB i)
theorem mrk_len (i n : Nat) : (mrk i n).length = n := by simp [mrk]
theorem mrk_succ (i n : Nat) : mrk i (n + 1) = mrk i n ++ [ownB i n] := by simp [mrk, List.range_succ]
theorem mrk_at (i n k : Nat) (h : k < n) : (mrk i n)[k]? = some (ownB i k) := by simp [mrk, h]
theorem mrk_take (i n m : Nat) (h : m ≤ n) : (mrk i n).take m = mrk i m := by
  apply List.ext_getElem?
  intro k
  rw [List.getElem?_take]
  split
  · rename_i hk
    rw [mrk_at i n k (by omega), mrk_at i m k hk]
  · rename_i hk
    rw [List.getElem?_eq_none (by rw [mrk_len]; omega)]

theorem ownC (i k : Nat) (hi : i ≤ 2147483648) (hk : k ≤ 2147483648) (w : World) :
    Calls Try.prog 70 #[.int .i64 (i : Int), .int .i64 (k : Int)] w fun e w' => e = .returned (.int .u8 ((ownB i k).toNat : Int)) ∧ w = w' := by
  have hm : (k : Int).tmod 2 = ((k % 2 : Nat) : Int) := by rw [Int.tmod_eq_emod_of_nonneg (by omega)]; rfl
  by_cases h0 : k % 2 = 0
  · have hv : ((ownB i k).toNat : Int) = (i : Int) % 256 := by
      unfold ownB
      rw [if_pos h0, UInt8.toNat_ofNat']
      rfl
    have hw : IntKind.u8.wrap (i : Int) = (i : Int) % 256 := by rw [IntKind.wrap_u8]
    rw [hv]
    rw [h0] at hm
    replace hv := Lib.hid hv
    generalize (i : Int) % 256 = z at *
    go_enter Try.func70, Try.ntmps70
    go_wp2
    go_ret
    exact ⟨rfl, rfl⟩
  · have hv : ((ownB i k).toNat : Int) = ((i : Int) + k + 100) % 256 := by
      unfold ownB
      rw [if_neg h0, UInt8.toNat_ofNat']
      simp
    have hw : IntKind.u8.wrap ((i : Int) + k + 100) = ((i : Int) + k + 100) % 256 := by rw [IntKind.wrap_u8]
    have w1 : IntKind.i64.wrap ((i : Int) + k) = (i : Int) + k := IntWalk.i64_in _ (by omega)
    have w2 : IntKind.i64.wrap ((i : Int) + k + 100) = (i : Int) + k + 100 := IntWalk.i64_in _ (by omega)
    rw [hv]
    rw [show k % 2 = 1 by omega] at hm
    replace hv := Lib.hid hv
    generalize ((i : Int) + k + 100) % 256 = z at *
    go_enter Try.func70, Try.ntmps70
    go_wp2
    go_ret
    exact ⟨rfl, rfl⟩

theorem markedC (i n : Nat) (hi : i ≤ 2147483648) (hn : n ≤ 2147483648) (A : Option Addr) (c B : Nat) (w : World) (hb : Bytes w B A (mrk i n)) :
    Calls Try.prog 71 #[.slice A n c, .int .i64 (i : Int)] w fun e w' => e = .returned (.bool true) ∧ ∃ m, w.drewN m = w' := by
  go_enter Try.func71, Try.ntmps71
  go_wp2_with fail
  go_loopw [5] (fun s wr => ∃ k m : Nat, k ≤ n ∧ s = .int .i64 (k : Int) ∧ w.drewN m = wr) (fun s _ => n - (intOf s).toNat)
  case atStart => exact ⟨0, 0, by omega, rfl, rfl⟩
  case round =>
    obtain ⟨k, m, hk, rfl, hm⟩ := hrel
    by_cases hlt : k < n
    · obtain ⟨b1, o1, hA1, hb1, cq⟩ := hb.at_ k (by rw [mrk_len]; exact hlt)
      have hx : (mrk i n)[k]'(by rw [mrk_len]; exact hlt) = ownB i k := by
        have := mrk_at i n k hlt
        rw [List.getElem?_eq_getElem (by rw [mrk_len]; exact hlt)] at this
        injection this
      rw [hx] at cq
      subst hA1
      have cw : wr.cell? ⟨b1, o1 + k, none⟩ = some (.int .u8 ((ownB i k).toNat : Int)) := by rw [← hm]; exact cq
      replace hm := Lib.hid hm
      have OC := Lib.hid (ownC i k hi (by omega))
      generalize ((ownB i k).toNat : Int) = z at *
      clear cq hx hb
      go_wp2_with fail
      go_quiet ((go_at_call 70; exact quiet_left (OC.out _)))
      go_wp2
      go_roundw
      case rel => exact ⟨k + 1, _, by omega, by go_num, by rw [← hm.out]; exact (World.drewN_drewN _ _ _).symm⟩
      case measure => simp [intOf]; omega
    · obtain rfl : k = n := by omega
      replace hm := Lib.hid hm
      go_wp2
      go_ret
      exact ⟨rfl, m, hm.out⟩

theorem copyC (w : World) (A : Option Addr) (c B : Nat) (l : List UInt8) (hb : Bytes w B A l) (hB : B ≤ w.heap.size) (hl : l.length ≤ 1073741824) :
    Calls Try.prog 22 #[.slice A l.length c] w fun e w' => ∃ v, e = .returned v ∧ w'.ownsRow w.heap.size 5 1 v l.length (l.map bv) ∧ Below w.heap.size w w' := by
  have hmk : (Instr.makeSlice 38 (.int .i64 0) (.int .i64 (l.length : Int))).run Try.prog w = .ok (.slice (some ⟨w.heap.size, 0, none⟩) 0 l.length) (w.alloc (.cells (madeCells (Value.int .u8 0).cells (l.length * 1)) 5)) :=
    EI.make eiB .i64 .i64 0 l.length (by omega) (by omega) (by omega) w
  have own0 : (w.alloc (.cells (madeCells (Value.int .u8 0).cells (l.length * 1)) 5)).ownsRow w.heap.size 5 1 (.slice (some ⟨w.heap.size, 0, none⟩) 0 l.length) 0 [] :=
    World.ownsRow_made w _ l.length (Nat.le_refl _) (by unfold maxLen; omega) (by simp [madeCells])
  have hbel : Below w.heap.size w (w.alloc (.cells (madeCells (Value.int .u8 0).cells (l.length * 1)) 5)) := (Below.refl _ _).alloc (Nat.le_refl _) _
  have hb2 : Reads (w.alloc (.cells (madeCells (Value.int .u8 0).cells (l.length * 1)) 5)) B 1 A l.length (l.map bv) := hb.reads.alloc hB _
  have hsz : w.heap.size ≤ (w.alloc (.cells (madeCells (Value.int .u8 0).cells (l.length * 1)) 5)).heap.size := by rw [World.size_alloc]; omega
  generalize hO : Obj.cells (madeCells (Value.int .u8 0).cells (l.length * 1)) 5 = O at *
  clear hO
  go_enter Try.func22, Try.ntmps22
  go_wp2_with (at_builtin; refine wpList_app rfl _ _ 38 rfl eiB w.heap.size (.slice (some ⟨w.heap.size, 0, none⟩) 0 l.length) 0 [] rfl own0 B A l.length c (l.map bv) rfl hb2 (bv_one l) (by unfold maxLen; omega) (by omega) hsz ?_)
  intro v1 w1 hown1 hgrow hob
  have hb3 : Below w.heap.size w w1 := hbel.grown hgrow hsz (fun k hk => (own0.lt k hk).1)
  replace hown1 := Lib.hid hown1
  clear hgrow hob own0 hb2
  go_wp2
  go_ret
  exact ⟨_, rfl, hown1.out, hb3⟩

/-- A list that the program told: none, or a block of its own without room. -/
def BRow (w : World) (N : Nat) (v : Value) (l : List UInt8) : Prop :=
  (l = [] ∧ v = .slice none 0 0) ∨ ∃ g, v = .slice (some ⟨g, 0, none⟩) l.length l.length ∧ N ≤ g ∧ BB w 5 g l
/-- A list with a row of its own, with or without room. -/
def CRow (w : World) (N : Nat) (v : Value) (l : List UInt8) : Prop := w.ownsRow N 5 1 v l.length (l.map bv)
/-- A slice whose bytes stand in a block. -/
def HasB (w : World) (q : Value) (l : List UInt8) : Prop := ∃ g c cur fz, q = .slice (some ⟨g, 0, none⟩) l.length c ∧ w.heap[g]? = some (.cells cur 5 fz) ∧ cur.toList.take l.length = l.map bv

theorem BRow.bytes {w : World} {N : Nat} {v : Value} {l : List UInt8} (h : BRow w N v l) : ∃ A, v = .slice A l.length l.length ∧ Bytes w w.heap.size A l := by
  rcases h with ⟨rfl, rfl⟩ | ⟨g, rfl, -, h⟩
  · exact ⟨none, rfl, fun h => absurd h (by simp)⟩
  · have hb := BB.piece h (g + 1) 0 l.length (Nat.lt_succ_self g) (by omega) (some ⟨g, 0, none⟩) (fun _ => rfl)
    rw [List.drop_zero, List.take_length] at hb
    exact ⟨_, rfl, Row.more hb h.lt⟩
theorem HasB.bytes {w : World} {q : Value} {l : List UInt8} (h : HasB w q l) : ∃ A c, q = .slice A l.length c ∧ Bytes w w.heap.size A l := by
  obtain ⟨g, c, cur, fz, rfl, hg, h5⟩ := h
  refine ⟨_, c, rfl, fun _ => ⟨g, 0, rfl, heap_lt hg, fun j u hj => ?_⟩⟩
  rw [Nat.zero_add, cell_of_row w g j cur _ fz hg]
  rw [← h5, List.getElem?_take] at hj
  split at hj
  · simpa using hj
  · cases hj
theorem BRow.one {w : World} {N : Nat} {v : Value} {l : List UInt8} (h : BRow w N v l) : v.oneCell' = true := by
  obtain ⟨A, rfl, -⟩ := h.bytes
  rfl
theorem BRow.keep {w w' : World} {N : Nat} {v : Value} {l : List UInt8} (h : BRow w N v l) (hk : ∀ g, v.ownBlock = some g → w'.heap[g]? = w.heap[g]?) : BRow w' N v l := by
  rcases h with h | ⟨g, rfl, h1, h2⟩
  · exact .inl h
  · exact .inr ⟨g, rfl, h1, (hk g rfl).trans h2⟩
theorem BRow.lt {w : World} {N : Nat} {v : Value} {l : List UInt8} (h : BRow w N v l) : ∀ g, v.ownBlock = some g → N ≤ g ∧ g < w.heap.size := by
  intro g hg
  rcases h with ⟨-, rfl⟩ | ⟨g', rfl, h1, h2⟩
  · simp [Value.ownBlock] at hg
  · simp only [Value.ownBlock, Option.some.injEq] at hg
    subst hg
    exact ⟨h1, h2.lt⟩
theorem HasB.keep {w w' : World} {v : Value} {l : List UInt8} (h : HasB w v l) (hk : ∀ g, v.ownBlock = some g → w'.heap[g]? = w.heap[g]?) : HasB w' v l := by
  obtain ⟨g, c, cur, fz, rfl, h1, h2⟩ := h
  exact ⟨g, c, cur, fz, rfl, (hk g rfl).trans h1, h2⟩
theorem HasB.lt {w : World} {v : Value} {l : List UInt8} (h : HasB w v l) : ∀ g, v.ownBlock = some g → g < w.heap.size := by
  intro g hg
  obtain ⟨g', c, cur, fz, rfl, h1, h2⟩ := h
  simp only [Value.ownBlock, Option.some.injEq] at hg
  subst hg
  exact heap_lt h1
theorem own_keep {w w' : World} {N size n : Nat} {e : TypeId} {v : Value} {xs : List Value} (h : w.ownsRow N e size v n xs) (hk : ∀ g, v.ownBlock = some g → w'.heap[g]? = w.heap[g]?) : w'.ownsRow N e size v n xs := by
  refine ⟨h.1, ?_⟩
  rcases h.2 with h1 | ⟨g, cap, cur, rfl, h1, h2, h3⟩
  · exact .inl h1
  · exact .inr ⟨g, cap, cur, rfl, h1, (hk g rfl).trans h2, h3⟩
theorem own_more {w : World} {N M size n : Nat} {e : TypeId} {v : Value} {xs : List Value} (h : w.ownsRow N e size v n xs) (hM : M ≤ N) : w.ownsRow M e size v n xs := by
  refine ⟨h.1, ?_⟩
  rcases h.2 with h1 | ⟨g, cap, cur, rfl, h1, h2⟩
  · exact .inl h1
  · exact .inr ⟨g, cap, cur, rfl, Nat.le_trans hM h1, h2⟩
/-- A row's block is no block of cells of another type. -/
theorem own_ne {w : World} {N size n g : Nat} {e t : TypeId} {v : Value} {xs : List Value} {cur : Array Value} {fz : Nat × Nat} (h : w.ownsRow N e size v n xs) (hg : w.heap[g]? = some (.cells cur t fz)) (hne : e ≠ t) : v.ownBlock ≠ some g := by
  rcases h.2 with ⟨rfl, _⟩ | ⟨g1, c1, cur1, rfl, _, hg1, _⟩
  · simp [Value.ownBlock]
  · intro hc
    simp [Value.ownBlock] at hc
    subst hc
    rw [hg1] at hg
    injection hg with hg
    injection hg with _ h3
    exact hne h3
theorem BRow.ne {w : World} {N M : Nat} {v u : Value} {l : List UInt8} {n : Nat} {xs : List Value} (h : BRow w N v l) (o : w.ownsRow M 38 1 u n xs) : v.ownBlock = none ∨ v.ownBlock ≠ u.ownBlock := by
  rcases h with ⟨-, rfl⟩ | ⟨g, rfl, -, h⟩
  · exact .inl rfl
  · exact .inr fun hc => own_ne o (g := g) (h : w.heap[g]? = _) (by decide) hc.symm
theorem HasB.ne {w : World} {M : Nat} {v u : Value} {l : List UInt8} {n : Nat} {xs : List Value} (h : HasB w v l) (o : w.ownsRow M 38 1 u n xs) : v.ownBlock ≠ u.ownBlock := by
  obtain ⟨g, c, cur, fz, rfl, h1, h2⟩ := h
  exact fun hc => own_ne o (g := g) h1 (by decide) hc.symm
theorem CRow.ne {w : World} {N M : Nat} {v u : Value} {l : List UInt8} {n : Nat} {xs : List Value} (h : CRow w N v l) (o : w.ownsRow M 38 1 u n xs) : v.ownBlock = none ∨ v.ownBlock ≠ u.ownBlock := by
  rcases h.2 with ⟨rfl, _⟩ | ⟨g1, c1, cur1, rfl, _, hg1, _⟩
  · exact .inl rfl
  · exact .inr fun hc => own_ne o (g := g1) hg1 (by decide) hc.symm

/-- One more list behind a row of lists: all other blocks stand. -/
theorem push_run (w : World) (N : Nat) (v p : Value) (n : Nat) (xs : List Value) (ty : TypeId) (o : w.ownsRow N 38 1 v n xs) (h1 : p.oneCell' = true) (hn : n ≤ 1000000) (hN : N ≤ w.heap.size) :
    ∃ v' w', (Builtin.append_ #[109, 109] ty #[v, .slice (some ⟨w.heap.size, 0, none⟩) 1 1]).run Try.prog (w.alloc (.cells #[p] 38)) = .ok v' w' ∧ w'.ownsRow N 38 1 v' (n + 1) (xs ++ [p]) ∧
      (∀ g, g < w.heap.size → v.ownBlock ≠ some g → w'.heap[g]? = w.heap[g]?) ∧ w.heap.size ≤ w'.heap.size ∧ (v'.ownBlock = v.ownBlock ∨ v'.ownBlock = some (w.heap.size + 1)) ∧ Below N w w' := by
  obtain ⟨i, hi, hz, hsi, hby⟩ := eiBB.info
  have rd : Reads (w.alloc (.cells #[p] 38)) (w.heap.size + 1) 1 (some ⟨w.heap.size, 0, none⟩) 1 [p] :=
    ⟨rfl, fun _ => ⟨_, rfl, Nat.lt_succ_self _, fun j u hj => by
      rw [add_explicit, Nat.zero_add, cell_of_row (w.alloc _) w.heap.size j _ 38 (0, 0) (heap_alloc_new w _)]
      simpa using hj⟩⟩
  obtain ⟨v', w', hr, h2, h3, h4⟩ := run_append_any (P := Try.prog) (w.alloc (.cells #[p] 38)) N 109 ty 38 i _ 1 24 eiBB.ht hi hz hsi hby eiBB.zs eiBB.pos v n xs (o.alloc _) (w.heap.size + 1) (some ⟨w.heap.size, 0, none⟩) 1 1 [p] rd (by simpa using h1) (by unfold maxLen; omega) (by omega) (by rw [World.size_alloc]; omega)
  have hal : ∀ g, g < w.heap.size → (w.alloc (.cells #[p] 38)).heap[g]? = w.heap[g]? := fun g hg => Below.heap_alloc w _ g hg
  have hsz := h3.size
  rw [World.size_alloc] at hsz h4
  refine ⟨v', w', hr, h2, fun g hg hne => ?_, by omega, h4, ?_⟩
  · rw [h3.block g (by rw [World.size_alloc]; omega) (fun hc => hne hc.symm), hal g hg]
  · have hbl : Below N w (w.alloc (.cells #[p] 38)) := (Below.refl _ _).alloc hN _
    exact hbl.grown h3 (by rw [World.size_alloc]; omega) (fun k hk => (o.lt k hk).1)

/-- The operation, for the walk: what is known of its run. -/
theorem wpList_run {P : Program} {w : World} {ops : Array Oper} {rest : List Oper} {o : Oper} {a : Act} {Q : Exit → Act → World → Prop} (hgd : o.guard = none) (s x : Operand) (t : TypeId)
    (ho : o.op = .call { callee := .builtin .append, args := #[s, x], argTypes := #[t, t] }) (v xv : Value) (hs : a.eval s = v) (hx : a.eval x = xv) (R : Value → World → Prop)
    (hr : ∃ v' w', (Builtin.append_ #[t, t] o.type #[v, xv]).run P w = .ok v' w' ∧ R v' w') (h : ∀ v' w', R v' w' → wpList P ops Q rest (a.put o.dst v') w') : wpList P ops Q (o :: rest) a w := by
  refine wpList_plain hgd fun K hK => ?_
  obtain ⟨v', w', hr, h2⟩ := hr
  unfold Oper.wp execOp
  simp only [ho, resolve, invoke, builtin, Sem.run_bind, Sem.run_pure, Result.andThen_ok, List.map_toArray, List.map_cons, List.map_nil, hs, hx, hr]
  exact hK _ _ (h v' w' h2)

/-- One byte behind a row: in its room, or in a new block. -/
theorem app1 (w : World) (B : Nat) (ty : TypeId) (g cap : Nat) (cur : Array Value) (fz : Nat × Nat) (l : List UInt8) (b : UInt8) (hg : w.heap[g]? = some (.cells cur 5 fz)) (h1 : l.length ≤ cap) (h2 : cap ≤ maxLen) (h3 : cur.size = cap)
    (h4 : Loose fz cap) (h5 : cur.toList.take l.length = l.map bv) (hB : B ≤ g) (hlim : l.length + 1 ≤ 140737488355328) (hBs : B ≤ w.heap.size) :
    ∃ v' w', (Builtin.append_ #[38, 38] ty #[.slice (some ⟨g, 0, none⟩) l.length cap, .slice (some ⟨w.heap.size, 0, none⟩) 1 1]).run Try.prog (w.alloc (.cells #[bv b] 5)) = .ok v' w' ∧ OwnT w' B 5 v' (l ++ [b]) ∧ w.heap.size ≤ w'.heap.size ∧ Below B w w' ∧
      ((l.length < cap ∧ v'.ownBlock = some g ∧ ∀ k, k < w.heap.size → k ≠ g → w'.heap[k]? = w.heap[k]?) ∨ (v'.ownBlock = some (w.heap.size + 1) ∧ Below w.heap.size w w')) := by
  obtain ⟨i, hi, hz, hs1, hb1⟩ := eiB.info
  have hgl := heap_lt hg
  have hmx : l.length + 1 ≤ maxLen := by unfold maxLen; omega
  have hga : (w.alloc (.cells #[bv b] 5)).heap[g]? = some (.cells cur 5 fz) := (Below.heap_alloc w _ g hgl).trans hg
  have hsa : (w.alloc (.cells #[bv b] 5)).heap.size = w.heap.size + 1 := World.size_alloc _ _
  have hb0 : ∀ M, M ≤ w.heap.size → Below M w (w.alloc (.cells #[bv b] 5)) := fun M hM => (Below.refl _ _).alloc hM _
  have hm : ∀ j x, ([b].map bv)[j]? = some x → (w.alloc (.cells #[bv b] 5)).cell? ((⟨w.heap.size, 0, none⟩ : Addr).add j) = some x := fun j u hj => by
    rw [add_explicit, Nat.zero_add, cell_of_row (w.alloc _) w.heap.size j _ 5 (0, 0) (heap_alloc_new w _)]
    simpa using hj
  have hal : ∀ k, k < w.heap.size → (w.alloc (.cells #[bv b] 5)).heap[k]? = w.heap[k]? := fun k hk => Below.heap_alloc w _ k hk
  generalize hwa : w.alloc (.cells #[bv b] 5) = wa at *
  replace hwa := Lib.hid hwa
  by_cases hroom : l.length + 1 ≤ cap
  · have hf := run_firstCells_some (P := Try.prog) wa 1 1 ⟨w.heap.size, 0, none⟩ 1 1 ([b].map bv) (by simp) hm
    have hst := stores Try.prog g 5 fz l.length ([b].map bv) 0 cur wa hga (by rw [h3]; exact h4) (by simp; omega) (bv_one [b])
    simp only [Nat.add_zero, List.length_map, List.length_singleton] at hst
    have hol := own_laid (m := [b]) hB hga h2 h3 h4 h5 (by simpa using hroom)
    rw [List.length_singleton] at hol
    refine ⟨_, _, ?_, hol, ?_, ?_, .inl ⟨by omega, rfl, fun k hk hne => ?_⟩⟩
    · rw [List.length_append]
      simp [Builtin.append_, run_underlying eiB.ht, sizeOf, typeInfo, hi, hs1, Builtin.lenOf, hroom]
      simp only [List.map_cons, List.map_nil] at hf hst
      simp [hf, Addr.add_lit, hst]
    · simp [hsa]
    · exact (hb0 B hBs).trans (Tail.below_setRow _ hB)
    · rw [setRow_other wa g k _ hne, hal k hk]
  · have hcells : ∀ j x, (l.map bv)[j]? = some x → wa.cell? ((⟨g, 0, none⟩ : Addr).add j) = some x := by
      intro j x hj
      rw [add_explicit, Nat.zero_add, cell_of_row wa g j cur _ fz hga]
      rw [← h5, List.getElem?_take] at hj
      split at hj
      · simpa using hj
      · cases hj
    have hr := run_append_grow (P := Try.prog) wa 38 ty 5 i (.int .u8 0) eiB.ht hi hz ⟨g, 0, none⟩ l.length cap (l.map bv) (by simp [hs1]) hcells ⟨w.heap.size, 0, none⟩ 1 1 ([b].map bv) (by simp [hs1]) hm (by omega) (by omega) (by rw [hb1]; exact growslice_fits (by omega) (by omega))
    obtain ⟨q1, q2⟩ := own_new wa B 5 l [b] cap (by omega) (by simpa using hmx)
    obtain ⟨-, q3⟩ := own_new wa w.heap.size 5 l [b] cap (by omega) (by simpa using hmx)
    rw [List.length_append, List.length_singleton] at q1
    rw [List.length_singleton] at q2 q3
    refine ⟨_, _, hr, by rw [hsa] at q1 ⊢; exact q1, ?_, (hb0 B hBs).trans q2, .inr ⟨by rw [hsa]; rfl, (hb0 _ (Nat.le_refl _)).trans q3⟩⟩
    have := q3.size
    omega
/-- One byte behind none. -/
theorem app1n (w : World) (B : Nat) (ty : TypeId) (b : UInt8) (hBs : B ≤ w.heap.size) :
    ∃ v' w', (Builtin.append_ #[38, 38] ty #[.slice none 0 0, .slice (some ⟨w.heap.size, 0, none⟩) 1 1]).run Try.prog (w.alloc (.cells #[bv b] 5)) = .ok v' w' ∧ OwnT w' B 5 v' [b] ∧ v'.ownBlock = some (w.heap.size + 1) ∧ Below w.heap.size w w' := by
  obtain ⟨i, hi, hz, hsi, hby⟩ := eiB.info
  have rd : Reads (w.alloc (.cells #[bv b] 5)) (w.heap.size + 1) 1 (some ⟨w.heap.size, 0, none⟩) 1 [bv b] :=
    ⟨rfl, fun _ => ⟨_, rfl, Nat.lt_succ_self _, fun j u hj => by
      rw [add_explicit, Nat.zero_add, cell_of_row (w.alloc _) w.heap.size j _ 5 (0, 0) (heap_alloc_new w _)]
      simpa using hj⟩⟩
  obtain ⟨v', w', hr, h2, h3, h4⟩ := run_append_any (P := Try.prog) (w.alloc (.cells #[bv b] 5)) w.heap.size 38 ty 5 i _ 1 1 eiB.ht hi hz hsi hby eiB.zs eiB.pos (.slice none 0 0) 0 [] (World.ownsRow_nil _ _ _ _) (w.heap.size + 1) (some ⟨w.heap.size, 0, none⟩) 1 1 [bv b] rd (fun u hu => by rw [List.mem_singleton.1 hu]; rfl) (by unfold maxLen; omega) (by omega) (by rw [World.size_alloc]; omega)
  rw [World.size_alloc] at h4
  have hbl : Below w.heap.size w (w.alloc (.cells #[bv b] 5)) := (Below.refl _ _).alloc (Nat.le_refl _) _
  have hob : v'.ownBlock = some (w.heap.size + 1) := by
    rcases h4 with h4 | h4
    · rcases h2.2 with ⟨rfl, h0⟩ | ⟨g, cap, cur, rfl, -⟩
      · omega
      · simp [Value.ownBlock] at h4
    · exact h4
  refine ⟨v', w', hr, ?_, hob, hbl.grown h3 (by rw [World.size_alloc]; omega) (fun k hk => by simp [Value.ownBlock] at hk)⟩
  rcases h2.2 with ⟨rfl, h0⟩ | ⟨g, cap, cur, rfl, hg0, hg, hn, hc, hs, ht⟩
  · omega
  · exact ⟨g, cap, cur, (0, 0), rfl, by omega, hg, hn, hc, by simpa using hs, Loose.zero _, by simpa using ht⟩
end Go.Proofs.Ytnjobnccknpaeaa.Held
