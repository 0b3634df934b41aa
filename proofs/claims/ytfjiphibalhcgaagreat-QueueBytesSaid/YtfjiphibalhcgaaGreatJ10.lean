/-
  Contracts and lemmas, joined: Ref6Put.
-/
import Derived.Test.YtfjiphibalhcgaaGreatJ9
set_option linter.unusedSimpArgs false
set_option linter.unusedVariables false
/-
  The document's queue: put.
-/
namespace Go.Proofs.YtfjiphibalhcgaaGreat.Que
open Go.RowKit Base Arena Cls Itm
set_option linter.unusedVariables false
set_option linter.unusedSectionVars false

/-- An append as one step of a region that draws its order. -/
theorem step_ap {P : Program} {w : World} {ops : Array Oper} {o : Oper} {a : Act} {K : Act → World → Prop} {Q : Exit → Act → World → Prop} {X : Prop} (hgd : o.guard = none) (s x : Operand) (t : TypeId)
    (ho : o.op = .call { callee := .builtin .append, args := #[s, x], argTypes := #[t, t] })
    {e : TypeId} {z : Value} {size bytes : Nat} (E : EI P t e z size bytes)
    (base : Nat) (v : Value) (n : Nat) (xs : List Value) (hs : a.eval s = v) (hown : w.ownsRow base e size v n xs)
    (B : Nat) (A : Option Addr) (m c : Nat) (news : List Value) (hx : a.eval x = .slice A m c) (hr : Reads w B size A m news) (h1 : ∀ u ∈ news, u.oneCell' = true)
    (h63 : n + m ≤ maxLen) (hbytes : (n + m) * bytes ≤ 140737488355328) (hbase : base ≤ w.heap.size)
    (h : ∀ v' w', w'.ownsRow base e size v' (n + m) (xs ++ news) → w.grownBy w' v.ownBlock → (v'.ownBlock = v.ownBlock ∨ v'.ownBlock = some w.heap.size) → K (a.put o.dst v') w') : if Region.wanted o (yielded ops a.tmps) = true then Oper.wp P o a w K Q else X := by
  obtain ⟨i, hi, hz, hsi, hby⟩ := E.info
  exact step_append_any w hgd s x t ho base e i z size bytes E.ht hi hz hsi hby E.zs E.pos v n xs hs hown B A m c news hx hr h1 h63 hbytes hbase h
theorem ne_own {w : World} {N n : Nat} {e : TypeId} {v : Value} {xs : List Value} (h : w.ownsRow N e 1 v n xs) : ∀ b, v.ownBlock = some b → b ≠ w.heap.size := fun b e => Nat.ne_of_lt (own_blockN h e)
/-- What the region of a change of a list finds. -/
structure Reg6 (w : World) (R : R6) (mb n : Nat) (laid : List Nat) (lists : Nat → List Nat) (j K cp : Nat) (A : Option Addr) : Prop where
  at_ : R6At w R mb n laid lists
  hj : j < n
  len : (lists j).length = K
  cl : w.cell? ⟨R.gL, j, none⟩ = some (.slice A K cp)
  own : w.ownsRow 0 26 1 (.slice A K cp) K ((lists j).map uv)
theorem Reg6.facts {w : World} {R : R6} {mb n : Nat} {laid : List Nat} {lists : Nat → List Nat} {j K cp : Nat} {A : Option Addr} (h : Reg6 w R mb n laid lists j K cp A) :
    w.cell? ⟨R.b, 2, none⟩ = some (.slice (some ⟨R.gL, 0, none⟩) n n) ∧ R.b < w.heap.size ∧ (∃ cs, Blk w R.gL 45 cs) ∧ R.gL < w.heap.size ∧ R.gL ≠ R.b ∧ Reads w w.heap.size 1 A K ((lists j).map uv) :=
  ⟨h.at_.c2, h.at_.head.lt, h.at_.grid.blk, h.at_.grid.lt, (fun e => (by have := h.at_.inj .grid .head R.gL rfl (by rw [e]; rfl); cases this)), Reads.of_own h.own⟩
theorem R6At.reg {w : World} {R : R6} {mb n : Nat} {laid : List Nat} {lists : Nat → List Nat} (h : R6At w R mb n laid lists) {j : Nat} (hj : j < n) : ∃ K cp A, Reg6 w R mb n laid lists j K cp A := by
  obtain ⟨A, cp, -, cl, own⟩ := h.cell hj
  exact ⟨_, cp, A, h, hj, rfl, cl, own⟩
theorem R6At.drew {w : World} {R : R6} {mb n : Nat} {laid : List Nat} {lists : Nat → List Nat} (h : R6At w R mb n laid lists) : R6At w.drew R mb n laid lists := h.kept fun _ _ => rfl
section
variable (w : World) (R : R6) (M : RL) (c : Conf) (r : RS) (laid : List Nat) (Ls : Nat → Nat → List Nat) (h : R6At w R M.b (3 * c.nc) laid (rows6 Ls)) (hr : RSetAt w M c r) (fi : RFine r) (hlen : r.ch.length ≤ 1073741824) (hnc : c.nc ≤ 62) (hll : ∀ x k, x < c.nc → k < 3 → (Ls x k).length ≤ 1073741823) (H i : Nat) (x : RC) (hf : rfind r.ch H = some i) (hx : r.ch[i]? = some x) (hxc : x.cls < c.nc) (k : Nat) (hk : k < 3)
include h hr fi hlen hnc hll hf hx hxc hk
set_option maxRecDepth 100000 in
set_option maxHeartbeats 1600000 in
theorem putHead : Calls Tryz.prog 78 #[.pointer (some ⟨R.b, 0, none⟩), .int .u64 (H : Int), .int .i64 ((k : Int) + 1), .bool false] w fun e w' => e = .returned (.tuple #[]) ∧ ∃ R', R'.b = R.b ∧ Went6 w w' R R' (3 * c.nc) ∧ R6At w' R' M.b (3 * c.nc) laid (rows6 (updL Ls x.cls k (H :: Ls x.cls k))) := by
  have AC := ratC w M c r hr fi hlen H
  rw [hf] at AC
  unfold ratV at AC
  simp only [hx] at AC
  have c0 := h.c0
  have LCm : ∀ m, Calls Tryz.prog 54 #[.pointer (some ⟨R.b, 0, none⟩), .int .i64 (x.cls : Int), .int .i64 ((k : Int) + 1)] (w.drewN m) fun e w' => e = .returned (.int .i64 ((3 * x.cls + k : Nat) : Int)) ∧ w.drewN m = w' := by
    intro m
    have := listC6 (w.drewN m) R M c r _ laid _ (h.kept fun _ _ => rfl) (hr.kept fun _ _ => rfl) (by omega) (x.cls : Int) ((k : Int) + 1)
    unfold lsI at this
    rw [if_pos (by omega), show 3 * (x.cls : Int) + ((k : Int) + 1) - 1 = ((3 * x.cls + k : Nat) : Int) by omega] at this
    exact this
  have hj : 3 * x.cls + k < 3 * c.nc := by omega
  have rg : ∀ m, R6At (w.drewN m) R M.b (3 * c.nc) laid (rows6 Ls) := fun m => h.kept fun _ _ => rfl
  have eL := rows6_at Ls (X := x.cls) hk
  have hlb := hll x.cls k hxc hk
  have eU := rows6_upd Ls x.cls k hk (H :: Ls x.cls k)
  rw [← eU]
  rw [← eL] at hlb ⊢
  generalize rows6 Ls = lists at *
  generalize 3 * x.cls + k = j at *
  generalize hn : 3 * c.nc = n at *
  generalize x.cls = X at *
  replace AC := Lib.hid AC
  replace LCm := Lib.hid LCm
  replace rg := Lib.hid rg
  clear h hr fi hlen hll hf hx eL eU hxc
  go_enter Tryz.func78, Tryz.ntmps78
  go_wp2_with fail
  refine AC.out.mono ?_
  rintro e w1 ⟨rfl, m1, hw1⟩
  have LC := LCm.out m1
  have rg1 := rg.out m1
  rw [hw1] at LC rg1
  have c0' := rg1.c0
  replace LC := Lib.hid LC
  replace hw1 := Lib.hid hw1
  replace rg1 := Lib.hid rg1
  clear AC LCm rg
  go_wp2_with fail
  refine LC.out.mono ?_
  rintro e w' ⟨rfl, rfl⟩
  clear LC
  go_upto_region 4 with fail
  obtain ⟨w5, hw5⟩ : ∃ w5, w5 = w1.drew := ⟨_, rfl⟩
  have h5 : R6At w5 R M.b n laid lists := by rw [hw5]; exact rg1.out.drew
  obtain ⟨K, cp, A, r5⟩ := h5.reg hj
  obtain ⟨c2, hRb, ⟨cs, GB⟩, hGl, hne, rd⟩ := r5.facts
  have cl := r5.cl
  have hK' : K ≤ 1073741823 := by rw [← r5.len]; exact hlb
  have bw5 := Below.refl w5.heap.size w5
  have j0 : (0 : Int) ≤ (j : Int) := by omega
  have j1 : (j : Int) < (n : Int) := by omega
  have fin : ∀ w6 V, Below w5.heap.size w5 w6 → w6.ownsRow w5.heap.size 26 1 V (1 + K) ([uv H] ++ (lists j).map uv) → ∃ R', R'.b = R.b ∧ Went6 w (w6.setCell ⟨R.gL, j, none⟩ V) R R' n ∧ R6At (w6.setCell ⟨R.gL, j, none⟩ V) R' M.b n laid (upd lists j (H :: lists j)) := by
    intro w6 V b6 o6
    obtain ⟨a1, a2⟩ := h5.setRow hj (l := H :: lists j) b6 (by rw [List.length_cons, r5.len, Nat.add_comm K 1]; exact o6)
    have hs : w5.heap.size = w.heap.size := by rw [hw5, ← hw1.out]; rfl
    refine ⟨{ R with F := upd R.F j V }, rfl, ⟨⟨a2.only.os.trans (by rw [hw5, ← hw1.out]; rfl), a2.only.tape.trans (by rw [hw5, ← hw1.out]; rfl), a2.only.output.trans (by rw [hw5, ← hw1.out]; rfl), hs ▸ a2.only.size, fun d hd hn => (a2.only.block d (by omega) hn).trans (by rw [hw5, ← hw1.out]; rfl)⟩, fun d hd => (a2.foot d hd).imp id fun h => by omega, rfl⟩, a1⟩
  replace rd := Lib.hid rd
  replace fin := Lib.hid fin
  clear r5 h5 rg1 c0'
  refine wp_region_noPanic ?_
  refine wp_region_held_drew (S := fun w' => w'.cell? ⟨R.b, 2, none⟩ = some (.slice (some ⟨R.gL, 0, none⟩) n n)) (by kernel_rfl) (by rw [← hw5]; exact c2) (fun hHeld => ?_)
  rw [← hw5] at hHeld ⊢
  clear hw5
  refine wpAnyH_take (i := 0) (oi := _) (v := ?_) rfl (by kernel_rfl) (by kernel_rfl) (by kernel_rfl) (fun _ _ _ h => h) (Or.inl ⟨by rfl, ?_⟩) (by assumption) ?_
  rotate_left
  · try simp only [List.getElem_toArray, List.getElem_cons_succ, List.getElem_cons_zero]
    intro w hSw
    (try dsimp only at hSw)
    go_simp
    (try with_reducible rfl)
  try simp only [List.getElem_toArray, List.getElem_cons_succ, List.getElem_cons_zero, Act.put, List.setIfInBounds_toArray, List.set_cons_zero, List.set_cons_succ]
  refine wpAnyH_take (i := 1) (oi := _) (v := ?_) rfl (by kernel_rfl) (by kernel_rfl) (by kernel_rfl) (fun _ _ _ h => h) (Or.inl ⟨by rfl, ?_⟩) (by assumption) ?_
  rotate_left
  · try simp only [List.getElem_toArray, List.getElem_cons_succ, List.getElem_cons_zero]
    intro w hSw
    (try dsimp only at hSw)
    go_simp
    (try with_reducible rfl)
  try simp only [List.getElem_toArray, List.getElem_cons_succ, List.getElem_cons_zero, Act.put, List.setIfInBounds_toArray, List.set_cons_zero, List.set_cons_succ]
  refine wpAnyH_take (i := 2) (oi := _) (v := ?_) rfl (by kernel_rfl) (by kernel_rfl) (by kernel_rfl) (fun _ _ _ h => h) (Or.inl ⟨by rfl, ?_⟩) (by assumption) ?_
  rotate_left
  · try simp only [List.getElem_toArray, List.getElem_cons_succ, List.getElem_cons_zero]
    intro w hSw
    (try dsimp only at hSw)
    go_simp
    (try with_reducible rfl)
  try simp only [List.getElem_toArray, List.getElem_cons_succ, List.getElem_cons_zero, Act.put, List.setIfInBounds_toArray, List.set_cons_zero, List.set_cons_succ]
  refine wpAnyH_take (i := 3) (oi := _) (v := ?_) rfl (by kernel_rfl) (by kernel_rfl) (by kernel_rfl) (fun _ _ _ h => h) (Or.inl ⟨by rfl, ?_⟩) (by assumption) ?_
  rotate_left
  · try simp only [List.getElem_toArray, List.getElem_cons_succ, List.getElem_cons_zero]
    intro w hSw
    (try dsimp only at hSw)
    go_simp
    (try with_reducible rfl)
  try simp only [List.getElem_toArray, List.getElem_cons_succ, List.getElem_cons_zero, Act.put, List.setIfInBounds_toArray, List.set_cons_zero, List.set_cons_succ]
  refine wpAnyH_take (i := 4) (oi := _) (v := ?_) rfl (by kernel_rfl) (by kernel_rfl) (by kernel_rfl) (fun _ _ _ h => h) (Or.inl ⟨by rfl, ?_⟩) (by assumption) ?_
  rotate_left
  · try simp only [List.getElem_toArray, List.getElem_cons_succ, List.getElem_cons_zero]
    intro w hSw
    (try dsimp only at hSw)
    go_simp
    (try with_reducible rfl)
  try simp only [List.getElem_toArray, List.getElem_cons_succ, List.getElem_cons_zero, Act.put, List.setIfInBounds_toArray, List.set_cons_zero, List.set_cons_succ]
  refine wpAnyH_take (i := 5) (oi := _) (v := ?_) rfl (by kernel_rfl) (by kernel_rfl) (by kernel_rfl) (fun _ _ _ h => h) (Or.inl ⟨by rfl, ?_⟩) (by assumption) ?_
  rotate_left
  · try simp only [List.getElem_toArray, List.getElem_cons_succ, List.getElem_cons_zero]
    intro w hSw
    (try dsimp only at hSw)
    go_simp
    (try with_reducible rfl)
  try simp only [List.getElem_toArray, List.getElem_cons_succ, List.getElem_cons_zero, Act.put, List.setIfInBounds_toArray, List.set_cons_zero, List.set_cons_succ]
  refine wpAnyH_take (i := 7) (oi := _) (v := ?_) rfl (by kernel_rfl) (by kernel_rfl) (by kernel_rfl) (fun _ _ _ h => h) (Or.inl ⟨by rfl, ?_⟩) (by assumption) ?_
  rotate_left
  · try simp only [List.getElem_toArray, List.getElem_cons_succ, List.getElem_cons_zero]
    intro w hSw
    (try dsimp only at hSw)
    go_simp
    (try with_reducible rfl)
  try simp only [List.getElem_toArray, List.getElem_cons_succ, List.getElem_cons_zero, Act.put, List.setIfInBounds_toArray, List.set_cons_zero, List.set_cons_succ]
  refine wpAnyH_take (i := 8) (oi := _) (v := ?_) rfl (by kernel_rfl) (by kernel_rfl) (by kernel_rfl) (fun _ _ _ h => h) (Or.inl ⟨by rfl, ?_⟩) (by assumption) ?_
  rotate_left
  · try simp only [List.getElem_toArray, List.getElem_cons_succ, List.getElem_cons_zero]
    intro w hSw
    (try dsimp only at hSw)
    go_simp
    (try with_reducible rfl)
  try simp only [List.getElem_toArray, List.getElem_cons_succ, List.getElem_cons_zero, Act.put, List.setIfInBounds_toArray, List.set_cons_zero, List.set_cons_succ]
  refine wpAnyH_take (i := 9) (oi := _) (v := ?_) rfl (by kernel_rfl) (by kernel_rfl) (by kernel_rfl) (fun _ _ _ h => h) (Or.inl ⟨by rfl, ?_⟩) (by assumption) ?_
  rotate_left
  · try simp only [List.getElem_toArray, List.getElem_cons_succ, List.getElem_cons_zero]
    intro w hSw
    (try dsimp only at hSw)
    go_simp
    (try with_reducible rfl)
  try simp only [List.getElem_toArray, List.getElem_cons_succ, List.getElem_cons_zero, Act.put, List.setIfInBounds_toArray, List.set_cons_zero, List.set_cons_succ]
  refine wpAnyH_take (i := 10) (oi := _) (v := ?_) rfl (by kernel_rfl) (by kernel_rfl) (by kernel_rfl) (fun _ _ _ h => h) (Or.inl ⟨by rfl, ?_⟩) (by assumption) ?_
  rotate_left
  · try simp only [List.getElem_toArray, List.getElem_cons_succ, List.getElem_cons_zero]
    intro w hSw
    (try dsimp only at hSw)
    go_simp
    (try with_reducible rfl)
  try simp only [List.getElem_toArray, List.getElem_cons_succ, List.getElem_cons_zero, Act.put, List.setIfInBounds_toArray, List.set_cons_zero, List.set_cons_succ]
  refine wpAnyH_take (i := 11) (oi := _) (v := ?_) rfl (by kernel_rfl) (by kernel_rfl) (by kernel_rfl) (fun _ _ _ h => h) (Or.inl ⟨by rfl, ?_⟩) (by assumption) ?_
  rotate_left
  · try simp only [List.getElem_toArray, List.getElem_cons_succ, List.getElem_cons_zero]
    intro w hSw
    (try dsimp only at hSw)
    go_simp
    (try with_reducible rfl)
  try simp only [List.getElem_toArray, List.getElem_cons_succ, List.getElem_cons_zero, Act.put, List.setIfInBounds_toArray, List.set_cons_zero, List.set_cons_succ]
  refine wpAnyH_take (i := 12) (oi := _) (v := ?_) rfl (by kernel_rfl) (by kernel_rfl) (by kernel_rfl) (fun _ _ _ h => h) (Or.inl ⟨by rfl, ?_⟩) (by assumption) ?_
  rotate_left
  · try simp only [List.getElem_toArray, List.getElem_cons_succ, List.getElem_cons_zero]
    intro w hSw
    (try dsimp only at hSw)
    go_simp
    (try with_reducible rfl)
  try simp only [List.getElem_toArray, List.getElem_cons_succ, List.getElem_cons_zero, Act.put, List.setIfInBounds_toArray, List.set_cons_zero, List.set_cons_succ]
  refine wpAnyH_ready (rs := [6, 13]) (by kernel_rfl) (by simp) ?_
  refine AllReadyH.cons (o := _) rfl (fun K hK => ?_) ?_
  · try simp only [List.getElem_toArray, List.getElem_cons_succ, List.getElem_cons_zero, Act.put, List.setIfInBounds_toArray, List.set_cons_zero, List.set_cons_succ]
    go_simp
    obtain ⟨v6, hv6⟩ : ∃ x, x = World.alloc w5 (.cells #[.int .u64 (H : Int)] 26) := ⟨_, rfl⟩
    have bv6 : Below w5.heap.size w5 v6 := by rw [hv6]; exact bw5.alloc bw5.size _
    have sv6 := Lib.hid (show v6.heap.size = w5.heap.size + 1 by rw [hv6]; exact World.size_alloc _ _)
    have oAv6 := own_one w5 w5.heap.size H bw5.size
    rw [← hv6] at oAv6
    rw [← hv6]
    clear hv6
    refine hK.out _ _ ((bv6.cell (p := ⟨R.b, 2, none⟩) hRb).trans c2) (fun hHeld => ?_)
    clear hK K
    try simp only [List.getElem_toArray, List.getElem_cons_succ, List.getElem_cons_zero, Act.put, List.setIfInBounds_toArray, List.set_cons_zero, List.set_cons_succ]
    refine wpAnyH_ready (rs := [13]) (by kernel_rfl) (by simp) ?_
    refine AllReadyH.cons (o := _) rfl (fun K hK => ?_) ?_
    · try simp only [List.getElem_toArray, List.getElem_cons_succ, List.getElem_cons_zero, Act.put, List.setIfInBounds_toArray, List.set_cons_zero, List.set_cons_succ]
      have clv7 := (bv6.cell (p := ⟨R.gL, j, none⟩) hGl).trans cl
      go_simp
      refine hK.out _ _ ((bv6.cell (p := ⟨R.b, 2, none⟩) hRb).trans c2) (fun hHeld => ?_)
      clear hK K
      try simp only [List.getElem_toArray, List.getElem_cons_succ, List.getElem_cons_zero, Act.put, List.setIfInBounds_toArray, List.set_cons_zero, List.set_cons_succ]
      clear clv7
      refine wpAnyH_ready (rs := [14]) (by kernel_rfl) (by simp) ?_
      refine AllReadyH.cons (o := _) rfl (fun K hK => ?_) ?_
      · try simp only [List.getElem_toArray, List.getElem_cons_succ, List.getElem_cons_zero, Act.put, List.setIfInBounds_toArray, List.set_cons_zero, List.set_cons_succ]
        refine step_ap (a := ⟨_, _⟩) (by rfl) (.tmp 51) (.tmp 58) 45 (by rfl) eiL w5.heap.size _ _ _ (by rfl) oAv6 _ _ _ _ _ (by rfl) (rd.out.below bv6) ?ga1 ?gb1 ?gc1 bv6.size ?_
        case ga1 => first | exact uvs_cells _ | (intro u hu; rw [List.mem_singleton] at hu; subst hu; rfl)
        case gb1 => unfold maxLen; omega
        case gc1 => omega
        intro V v8 oAv8 hgv8 hatv8
        (try rw [Nat.zero_add] at oAv8)
        obtain ⟨Av8, cv8, rfl⟩ := own_is oAv8
        have bv8 : Below w5.heap.size w5 v8 := bv6.grown hgv8 bv6.size (fun k e => own_base oAv6 e)
        refine hK.out _ _ ((bv8.cell (p := ⟨R.b, 2, none⟩) hRb).trans c2) (fun hHeld => ?_)
        clear hK K
        try simp only [List.getElem_toArray, List.getElem_cons_succ, List.getElem_cons_zero, Act.put, List.setIfInBounds_toArray, List.set_cons_zero, List.set_cons_succ]
        refine wpAnyH_take (i := 15) (oi := _) (v := ?_) rfl (by kernel_rfl) (by kernel_rfl) (by kernel_rfl) (fun _ _ _ h => h) (Or.inl ⟨by rfl, ?_⟩) (by assumption) ?_
        rotate_left
        · try simp only [List.getElem_toArray, List.getElem_cons_succ, List.getElem_cons_zero]
          intro w hSw
          (try dsimp only at hSw)
          go_simp
          (try with_reducible rfl)
        try simp only [List.getElem_toArray, List.getElem_cons_succ, List.getElem_cons_zero, Act.put, List.setIfInBounds_toArray, List.set_cons_zero, List.set_cons_succ]
        refine wpAnyH_ready (rs := [16]) (by kernel_rfl) (by simp) ?_
        refine AllReadyH.cons (o := _) rfl (fun K hK => ?_) ?_
        · try simp only [List.getElem_toArray, List.getElem_cons_succ, List.getElem_cons_zero, Act.put, List.setIfInBounds_toArray, List.set_cons_zero, List.set_cons_succ]
          have clv9 := (bv8.cell (p := ⟨R.gL, j, none⟩) hGl).trans cl
          have zzv9 : Blk v8 R.gL 45 _ := (bv8.block R.gL hGl).trans GB
          have zfv9 := zzv9.frozen j
          replace zzv9 := Lib.hid zzv9
          go_simp
          refine hK.out _ _ ((World.cell?_setCell_far _ _ _ _ hne).trans ((bv8.cell (p := ⟨R.b, 2, none⟩) hRb).trans c2)) (fun hHeld => ?_)
          clear hK K
          try simp only [List.getElem_toArray, List.getElem_cons_succ, List.getElem_cons_zero, Act.put, List.setIfInBounds_toArray, List.set_cons_zero, List.set_cons_succ]
          clear clv9 zfv9 zzv9
          refine wpAnyH_done (by kernel_rfl) ?_ _
          refine NoPanic.normal ?_
          have T := Lib.hid (fin.out v8 _ bv8 oAv8)
          go_wp2
          go_end0
          exact ⟨rfl, T.out⟩
        exact AllReadyH.nil
      exact AllReadyH.nil
    exact AllReadyH.nil
  refine AllReadyH.cons (o := _) rfl (fun K hK => ?_) ?_
  · try simp only [List.getElem_toArray, List.getElem_cons_succ, List.getElem_cons_zero, Act.put, List.setIfInBounds_toArray, List.set_cons_zero, List.set_cons_succ]
    have clv6 := (bw5.cell (p := ⟨R.gL, j, none⟩) hGl).trans cl
    go_simp
    refine hK.out _ _ ((bw5.cell (p := ⟨R.b, 2, none⟩) hRb).trans c2) (fun hHeld => ?_)
    clear hK K
    try simp only [List.getElem_toArray, List.getElem_cons_succ, List.getElem_cons_zero, Act.put, List.setIfInBounds_toArray, List.set_cons_zero, List.set_cons_succ]
    clear clv6
    refine wpAnyH_ready (rs := [6]) (by kernel_rfl) (by simp) ?_
    refine AllReadyH.cons (o := _) rfl (fun K hK => ?_) ?_
    · try simp only [List.getElem_toArray, List.getElem_cons_succ, List.getElem_cons_zero, Act.put, List.setIfInBounds_toArray, List.set_cons_zero, List.set_cons_succ]
      go_simp
      obtain ⟨v7, hv7⟩ : ∃ x, x = World.alloc w5 (.cells #[.int .u64 (H : Int)] 26) := ⟨_, rfl⟩
      have bv7 : Below w5.heap.size w5 v7 := by rw [hv7]; exact bw5.alloc bw5.size _
      have sv7 := Lib.hid (show v7.heap.size = w5.heap.size + 1 by rw [hv7]; exact World.size_alloc _ _)
      have oAv7 := own_one w5 w5.heap.size H bw5.size
      rw [← hv7] at oAv7
      rw [← hv7]
      clear hv7
      refine hK.out _ _ ((bv7.cell (p := ⟨R.b, 2, none⟩) hRb).trans c2) (fun hHeld => ?_)
      clear hK K
      try simp only [List.getElem_toArray, List.getElem_cons_succ, List.getElem_cons_zero, Act.put, List.setIfInBounds_toArray, List.set_cons_zero, List.set_cons_succ]
      refine wpAnyH_ready (rs := [14]) (by kernel_rfl) (by simp) ?_
      refine AllReadyH.cons (o := _) rfl (fun K hK => ?_) ?_
      · try simp only [List.getElem_toArray, List.getElem_cons_succ, List.getElem_cons_zero, Act.put, List.setIfInBounds_toArray, List.set_cons_zero, List.set_cons_succ]
        refine step_ap (a := ⟨_, _⟩) (by rfl) (.tmp 51) (.tmp 58) 45 (by rfl) eiL w5.heap.size _ _ _ (by rfl) oAv7 _ _ _ _ _ (by rfl) (rd.out.below bv7) ?ga2 ?gb2 ?gc2 bv7.size ?_
        case ga2 => first | exact uvs_cells _ | (intro u hu; rw [List.mem_singleton] at hu; subst hu; rfl)
        case gb2 => unfold maxLen; omega
        case gc2 => omega
        intro V v8 oAv8 hgv8 hatv8
        (try rw [Nat.zero_add] at oAv8)
        obtain ⟨Av8, cv8, rfl⟩ := own_is oAv8
        have bv8 : Below w5.heap.size w5 v8 := bv7.grown hgv8 bv7.size (fun k e => own_base oAv7 e)
        refine hK.out _ _ ((bv8.cell (p := ⟨R.b, 2, none⟩) hRb).trans c2) (fun hHeld => ?_)
        clear hK K
        try simp only [List.getElem_toArray, List.getElem_cons_succ, List.getElem_cons_zero, Act.put, List.setIfInBounds_toArray, List.set_cons_zero, List.set_cons_succ]
        refine wpAnyH_take (i := 15) (oi := _) (v := ?_) rfl (by kernel_rfl) (by kernel_rfl) (by kernel_rfl) (fun _ _ _ h => h) (Or.inl ⟨by rfl, ?_⟩) (by assumption) ?_
        rotate_left
        · try simp only [List.getElem_toArray, List.getElem_cons_succ, List.getElem_cons_zero]
          intro w hSw
          (try dsimp only at hSw)
          go_simp
          (try with_reducible rfl)
        try simp only [List.getElem_toArray, List.getElem_cons_succ, List.getElem_cons_zero, Act.put, List.setIfInBounds_toArray, List.set_cons_zero, List.set_cons_succ]
        refine wpAnyH_ready (rs := [16]) (by kernel_rfl) (by simp) ?_
        refine AllReadyH.cons (o := _) rfl (fun K hK => ?_) ?_
        · try simp only [List.getElem_toArray, List.getElem_cons_succ, List.getElem_cons_zero, Act.put, List.setIfInBounds_toArray, List.set_cons_zero, List.set_cons_succ]
          have clv9 := (bv8.cell (p := ⟨R.gL, j, none⟩) hGl).trans cl
          have zzv9 : Blk v8 R.gL 45 _ := (bv8.block R.gL hGl).trans GB
          have zfv9 := zzv9.frozen j
          replace zzv9 := Lib.hid zzv9
          go_simp
          refine hK.out _ _ ((World.cell?_setCell_far _ _ _ _ hne).trans ((bv8.cell (p := ⟨R.b, 2, none⟩) hRb).trans c2)) (fun hHeld => ?_)
          clear hK K
          try simp only [List.getElem_toArray, List.getElem_cons_succ, List.getElem_cons_zero, Act.put, List.setIfInBounds_toArray, List.set_cons_zero, List.set_cons_succ]
          clear clv9 zfv9 zzv9
          refine wpAnyH_done (by kernel_rfl) ?_ _
          refine NoPanic.normal ?_
          have T := Lib.hid (fin.out v8 _ bv8 oAv8)
          go_wp2
          go_end0
          exact ⟨rfl, T.out⟩
        exact AllReadyH.nil
      exact AllReadyH.nil
    exact AllReadyH.nil
  exact AllReadyH.nil
set_option maxRecDepth 100000 in
set_option maxHeartbeats 1600000 in
theorem putTail : Calls Tryz.prog 78 #[.pointer (some ⟨R.b, 0, none⟩), .int .u64 (H : Int), .int .i64 ((k : Int) + 1), .bool true] w fun e w' => e = .returned (.tuple #[]) ∧ ∃ R', R'.b = R.b ∧ Went6 w w' R R' (3 * c.nc) ∧ R6At w' R' M.b (3 * c.nc) laid (rows6 (updL Ls x.cls k (Ls x.cls k ++ [H]))) := by
  have AC := ratC w M c r hr fi hlen H
  rw [hf] at AC
  unfold ratV at AC
  simp only [hx] at AC
  have c0 := h.c0
  have LCm : ∀ m, Calls Tryz.prog 54 #[.pointer (some ⟨R.b, 0, none⟩), .int .i64 (x.cls : Int), .int .i64 ((k : Int) + 1)] (w.drewN m) fun e w' => e = .returned (.int .i64 ((3 * x.cls + k : Nat) : Int)) ∧ w.drewN m = w' := by
    intro m
    have := listC6 (w.drewN m) R M c r _ laid _ (h.kept fun _ _ => rfl) (hr.kept fun _ _ => rfl) (by omega) (x.cls : Int) ((k : Int) + 1)
    unfold lsI at this
    rw [if_pos (by omega), show 3 * (x.cls : Int) + ((k : Int) + 1) - 1 = ((3 * x.cls + k : Nat) : Int) by omega] at this
    exact this
  have hj : 3 * x.cls + k < 3 * c.nc := by omega
  have rg : ∀ m, R6At (w.drewN m) R M.b (3 * c.nc) laid (rows6 Ls) := fun m => h.kept fun _ _ => rfl
  have eL := rows6_at Ls (X := x.cls) hk
  have hlb := hll x.cls k hxc hk
  have eU := rows6_upd Ls x.cls k hk (Ls x.cls k ++ [H])
  rw [← eU]
  rw [← eL] at hlb ⊢
  generalize rows6 Ls = lists at *
  generalize 3 * x.cls + k = j at *
  generalize hn : 3 * c.nc = n at *
  generalize x.cls = X at *
  replace AC := Lib.hid AC
  replace LCm := Lib.hid LCm
  replace rg := Lib.hid rg
  clear h hr fi hlen hll hf hx eL eU hxc
  go_enter Tryz.func78, Tryz.ntmps78
  go_wp2_with fail
  refine AC.out.mono ?_
  rintro e w1 ⟨rfl, m1, hw1⟩
  have LC := LCm.out m1
  have rg1 := rg.out m1
  rw [hw1] at LC rg1
  have c0' := rg1.c0
  replace LC := Lib.hid LC
  replace hw1 := Lib.hid hw1
  replace rg1 := Lib.hid rg1
  clear AC LCm rg
  go_wp2_with fail
  refine LC.out.mono ?_
  rintro e w' ⟨rfl, rfl⟩
  clear LC
  go_upto_region 3 with fail
  obtain ⟨w5, hw5⟩ : ∃ w5, w5 = w1.drew := ⟨_, rfl⟩
  have h5 : R6At w5 R M.b n laid lists := by rw [hw5]; exact rg1.out.drew
  obtain ⟨K, cp, A, r5⟩ := h5.reg hj
  obtain ⟨c2, hRb, ⟨cs, GB⟩, hGl, hne, rd⟩ := r5.facts
  have cl := r5.cl
  have hK' : K ≤ 1073741823 := by rw [← r5.len]; exact hlb
  have bw5 := Below.refl w5.heap.size w5
  have j0 : (0 : Int) ≤ (j : Int) := by omega
  have j1 : (j : Int) < (n : Int) := by omega
  have fin : ∀ w6 V, Below w5.heap.size w5 w6 → w6.ownsRow w5.heap.size 26 1 V (K + 1) ([] ++ (lists j).map uv ++ [uv H]) → ∃ R', R'.b = R.b ∧ Went6 w (w6.setCell ⟨R.gL, j, none⟩ V) R R' n ∧ R6At (w6.setCell ⟨R.gL, j, none⟩ V) R' M.b n laid (upd lists j (lists j ++ [H])) := by
    intro w6 V b6 o6
    obtain ⟨a1, a2⟩ := h5.setRow hj (l := lists j ++ [H]) b6 (by rw [List.length_append, List.length_singleton, r5.len, List.map_append]; exact o6)
    have hs : w5.heap.size = w.heap.size := by rw [hw5, ← hw1.out]; rfl
    refine ⟨{ R with F := upd R.F j V }, rfl, ⟨⟨a2.only.os.trans (by rw [hw5, ← hw1.out]; rfl), a2.only.tape.trans (by rw [hw5, ← hw1.out]; rfl), a2.only.output.trans (by rw [hw5, ← hw1.out]; rfl), hs ▸ a2.only.size, fun d hd hn => (a2.only.block d (by omega) hn).trans (by rw [hw5, ← hw1.out]; rfl)⟩, fun d hd => (a2.foot d hd).imp id fun h => by omega, rfl⟩, a1⟩
  replace rd := Lib.hid rd
  replace fin := Lib.hid fin
  clear r5 h5 rg1 c0'
  refine wp_region_noPanic ?_
  refine wp_region_held_drew (S := fun w' => w'.cell? ⟨R.b, 2, none⟩ = some (.slice (some ⟨R.gL, 0, none⟩) n n)) (by kernel_rfl) (by rw [← hw5]; exact c2) (fun hHeld => ?_)
  rw [← hw5] at hHeld ⊢
  clear hw5
  refine wpAnyH_take (i := 0) (oi := _) (v := ?_) rfl (by kernel_rfl) (by kernel_rfl) (by kernel_rfl) (fun _ _ _ h => h) (Or.inl ⟨by rfl, ?_⟩) (by assumption) ?_
  rotate_left
  · try simp only [List.getElem_toArray, List.getElem_cons_succ, List.getElem_cons_zero]
    intro w hSw
    (try dsimp only at hSw)
    go_simp
    (try with_reducible rfl)
  try simp only [List.getElem_toArray, List.getElem_cons_succ, List.getElem_cons_zero, Act.put, List.setIfInBounds_toArray, List.set_cons_zero, List.set_cons_succ]
  refine wpAnyH_take (i := 1) (oi := _) (v := ?_) rfl (by kernel_rfl) (by kernel_rfl) (by kernel_rfl) (fun _ _ _ h => h) (Or.inl ⟨by rfl, ?_⟩) (by assumption) ?_
  rotate_left
  · try simp only [List.getElem_toArray, List.getElem_cons_succ, List.getElem_cons_zero]
    intro w hSw
    (try dsimp only at hSw)
    go_simp
    (try with_reducible rfl)
  try simp only [List.getElem_toArray, List.getElem_cons_succ, List.getElem_cons_zero, Act.put, List.setIfInBounds_toArray, List.set_cons_zero, List.set_cons_succ]
  refine wpAnyH_take (i := 2) (oi := _) (v := ?_) rfl (by kernel_rfl) (by kernel_rfl) (by kernel_rfl) (fun _ _ _ h => h) (Or.inl ⟨by rfl, ?_⟩) (by assumption) ?_
  rotate_left
  · try simp only [List.getElem_toArray, List.getElem_cons_succ, List.getElem_cons_zero]
    intro w hSw
    (try dsimp only at hSw)
    go_simp
    (try with_reducible rfl)
  try simp only [List.getElem_toArray, List.getElem_cons_succ, List.getElem_cons_zero, Act.put, List.setIfInBounds_toArray, List.set_cons_zero, List.set_cons_succ]
  refine wpAnyH_take (i := 3) (oi := _) (v := ?_) rfl (by kernel_rfl) (by kernel_rfl) (by kernel_rfl) (fun _ _ _ h => h) (Or.inl ⟨by rfl, ?_⟩) (by assumption) ?_
  rotate_left
  · try simp only [List.getElem_toArray, List.getElem_cons_succ, List.getElem_cons_zero]
    intro w hSw
    (try dsimp only at hSw)
    go_simp
    (try with_reducible rfl)
  try simp only [List.getElem_toArray, List.getElem_cons_succ, List.getElem_cons_zero, Act.put, List.setIfInBounds_toArray, List.set_cons_zero, List.set_cons_succ]
  refine wpAnyH_take (i := 4) (oi := _) (v := ?_) rfl (by kernel_rfl) (by kernel_rfl) (by kernel_rfl) (fun _ _ _ h => h) (Or.inl ⟨by rfl, ?_⟩) (by assumption) ?_
  rotate_left
  · try simp only [List.getElem_toArray, List.getElem_cons_succ, List.getElem_cons_zero]
    intro w hSw
    (try dsimp only at hSw)
    go_simp
    (try with_reducible rfl)
  try simp only [List.getElem_toArray, List.getElem_cons_succ, List.getElem_cons_zero, Act.put, List.setIfInBounds_toArray, List.set_cons_zero, List.set_cons_succ]
  refine wpAnyH_take (i := 6) (oi := _) (v := ?_) rfl (by kernel_rfl) (by kernel_rfl) (by kernel_rfl) (fun _ _ _ h => h) (Or.inl ⟨by rfl, ?_⟩) (by assumption) ?_
  rotate_left
  · try simp only [List.getElem_toArray, List.getElem_cons_succ, List.getElem_cons_zero]
    intro w hSw
    (try dsimp only at hSw)
    go_simp
    (try with_reducible rfl)
  try simp only [List.getElem_toArray, List.getElem_cons_succ, List.getElem_cons_zero, Act.put, List.setIfInBounds_toArray, List.set_cons_zero, List.set_cons_succ]
  refine wpAnyH_take (i := 7) (oi := _) (v := ?_) rfl (by kernel_rfl) (by kernel_rfl) (by kernel_rfl) (fun _ _ _ h => h) (Or.inl ⟨by rfl, ?_⟩) (by assumption) ?_
  rotate_left
  · try simp only [List.getElem_toArray, List.getElem_cons_succ, List.getElem_cons_zero]
    intro w hSw
    (try dsimp only at hSw)
    go_simp
    (try with_reducible rfl)
  try simp only [List.getElem_toArray, List.getElem_cons_succ, List.getElem_cons_zero, Act.put, List.setIfInBounds_toArray, List.set_cons_zero, List.set_cons_succ]
  refine wpAnyH_take (i := 8) (oi := _) (v := ?_) rfl (by kernel_rfl) (by kernel_rfl) (by kernel_rfl) (fun _ _ _ h => h) (Or.inl ⟨by rfl, ?_⟩) (by assumption) ?_
  rotate_left
  · try simp only [List.getElem_toArray, List.getElem_cons_succ, List.getElem_cons_zero]
    intro w hSw
    (try dsimp only at hSw)
    go_simp
    (try with_reducible rfl)
  try simp only [List.getElem_toArray, List.getElem_cons_succ, List.getElem_cons_zero, Act.put, List.setIfInBounds_toArray, List.set_cons_zero, List.set_cons_succ]
  refine wpAnyH_take (i := 9) (oi := _) (v := ?_) rfl (by kernel_rfl) (by kernel_rfl) (by kernel_rfl) (fun _ _ _ h => h) (Or.inl ⟨by rfl, ?_⟩) (by assumption) ?_
  rotate_left
  · try simp only [List.getElem_toArray, List.getElem_cons_succ, List.getElem_cons_zero]
    intro w hSw
    (try dsimp only at hSw)
    go_simp
    (try with_reducible rfl)
  try simp only [List.getElem_toArray, List.getElem_cons_succ, List.getElem_cons_zero, Act.put, List.setIfInBounds_toArray, List.set_cons_zero, List.set_cons_succ]
  refine wpAnyH_take (i := 10) (oi := _) (v := ?_) rfl (by kernel_rfl) (by kernel_rfl) (by kernel_rfl) (fun _ _ _ h => h) (Or.inl ⟨by rfl, ?_⟩) (by assumption) ?_
  rotate_left
  · try simp only [List.getElem_toArray, List.getElem_cons_succ, List.getElem_cons_zero]
    intro w hSw
    (try dsimp only at hSw)
    go_simp
    (try with_reducible rfl)
  try simp only [List.getElem_toArray, List.getElem_cons_succ, List.getElem_cons_zero, Act.put, List.setIfInBounds_toArray, List.set_cons_zero, List.set_cons_succ]
  refine wpAnyH_take (i := 11) (oi := _) (v := ?_) rfl (by kernel_rfl) (by kernel_rfl) (by kernel_rfl) (fun _ _ _ h => h) (Or.inl ⟨by rfl, ?_⟩) (by assumption) ?_
  rotate_left
  · try simp only [List.getElem_toArray, List.getElem_cons_succ, List.getElem_cons_zero]
    intro w hSw
    (try dsimp only at hSw)
    go_simp
    (try with_reducible rfl)
  try simp only [List.getElem_toArray, List.getElem_cons_succ, List.getElem_cons_zero, Act.put, List.setIfInBounds_toArray, List.set_cons_zero, List.set_cons_succ]
  refine wpAnyH_take (i := 14) (oi := _) (v := ?_) rfl (by kernel_rfl) (by kernel_rfl) (by kernel_rfl) (fun _ _ _ h => h) (Or.inl ⟨by rfl, ?_⟩) (by assumption) ?_
  rotate_left
  · try simp only [List.getElem_toArray, List.getElem_cons_succ, List.getElem_cons_zero]
    intro w hSw
    (try dsimp only at hSw)
    go_simp
    (try with_reducible rfl)
  try simp only [List.getElem_toArray, List.getElem_cons_succ, List.getElem_cons_zero, Act.put, List.setIfInBounds_toArray, List.set_cons_zero, List.set_cons_succ]
  refine wpAnyH_ready (rs := [5, 12, 15]) (by kernel_rfl) (by simp) ?_
  refine AllReadyH.cons (o := _) rfl (fun K hK => ?_) ?_
  · try simp only [List.getElem_toArray, List.getElem_cons_succ, List.getElem_cons_zero, Act.put, List.setIfInBounds_toArray, List.set_cons_zero, List.set_cons_succ]
    go_simp
    obtain ⟨v6, hv6⟩ : ∃ x, x = World.alloc w5 (.cells #[] 26) := ⟨_, rfl⟩
    have bv6 : Below w5.heap.size w5 v6 := by rw [hv6]; exact bw5.alloc bw5.size _
    have sv6 := Lib.hid (show v6.heap.size = w5.heap.size + 1 by rw [hv6]; exact World.size_alloc _ _)
    have oAv6 := own_zero w5 w5.heap.size bw5.size
    rw [← hv6] at oAv6
    rw [← hv6]
    clear hv6
    refine hK.out _ _ ((bv6.cell (p := ⟨R.b, 2, none⟩) hRb).trans c2) (fun hHeld => ?_)
    clear hK K
    try simp only [List.getElem_toArray, List.getElem_cons_succ, List.getElem_cons_zero, Act.put, List.setIfInBounds_toArray, List.set_cons_zero, List.set_cons_succ]
    refine wpAnyH_ready (rs := [12, 15]) (by kernel_rfl) (by simp) ?_
    refine AllReadyH.cons (o := _) rfl (fun K hK => ?_) ?_
    · try simp only [List.getElem_toArray, List.getElem_cons_succ, List.getElem_cons_zero, Act.put, List.setIfInBounds_toArray, List.set_cons_zero, List.set_cons_succ]
      have clv7 := (bv6.cell (p := ⟨R.gL, j, none⟩) hGl).trans cl
      go_simp
      refine hK.out _ _ ((bv6.cell (p := ⟨R.b, 2, none⟩) hRb).trans c2) (fun hHeld => ?_)
      clear hK K
      try simp only [List.getElem_toArray, List.getElem_cons_succ, List.getElem_cons_zero, Act.put, List.setIfInBounds_toArray, List.set_cons_zero, List.set_cons_succ]
      clear clv7
      refine wpAnyH_ready (rs := [13, 15]) (by kernel_rfl) (by simp) ?_
      refine AllReadyH.cons (o := _) rfl (fun K hK => ?_) ?_
      · try simp only [List.getElem_toArray, List.getElem_cons_succ, List.getElem_cons_zero, Act.put, List.setIfInBounds_toArray, List.set_cons_zero, List.set_cons_succ]
        refine step_ap (a := ⟨_, _⟩) (by rfl) (.tmp 32) (.tmp 39) 45 (by rfl) eiL w5.heap.size _ _ _ (by rfl) oAv6 _ _ _ _ _ (by rfl) (rd.out.below bv6) ?ga3 ?gb3 ?gc3 bv6.size ?_
        case ga3 => first | exact uvs_cells _ | (intro u hu; rw [List.mem_singleton] at hu; subst hu; rfl)
        case gb3 => unfold maxLen; omega
        case gc3 => omega
        intro V v8 oAv8 hgv8 hatv8
        (try rw [Nat.zero_add] at oAv8)
        obtain ⟨Av8, cv8, rfl⟩ := own_is oAv8
        have bv8 : Below w5.heap.size w5 v8 := bv6.grown hgv8 bv6.size (fun k e => own_base oAv6 e)
        refine hK.out _ _ ((bv8.cell (p := ⟨R.b, 2, none⟩) hRb).trans c2) (fun hHeld => ?_)
        clear hK K
        try simp only [List.getElem_toArray, List.getElem_cons_succ, List.getElem_cons_zero, Act.put, List.setIfInBounds_toArray, List.set_cons_zero, List.set_cons_succ]
        refine wpAnyH_ready (rs := [15]) (by kernel_rfl) (by simp) ?_
        refine AllReadyH.cons (o := _) rfl (fun K hK => ?_) ?_
        · try simp only [List.getElem_toArray, List.getElem_cons_succ, List.getElem_cons_zero, Act.put, List.setIfInBounds_toArray, List.set_cons_zero, List.set_cons_succ]
          go_simp
          obtain ⟨v9, hv9⟩ : ∃ x, x = World.alloc v8 (.cells #[.int .u64 (H : Int)] 26) := ⟨_, rfl⟩
          have bv9 : Below w5.heap.size w5 v9 := by rw [hv9]; exact bv8.alloc bv8.size _
          have sv9 := Lib.hid (show v9.heap.size = v8.heap.size + 1 by rw [hv9]; exact World.size_alloc _ _)
          have oLv9 := own_one v8 w5.heap.size H bv8.size
          rw [← hv9] at oLv9
          have oAv9 := World.ownsRow.alloc oAv8 (.cells #[.int .u64 (H : Int)] 26)
          rw [← hv9] at oAv9
          have nev9 := ne_own oAv8
          rw [← hv9]
          clear hv9
          refine hK.out _ _ ((bv9.cell (p := ⟨R.b, 2, none⟩) hRb).trans c2) (fun hHeld => ?_)
          clear hK K
          try simp only [List.getElem_toArray, List.getElem_cons_succ, List.getElem_cons_zero, Act.put, List.setIfInBounds_toArray, List.set_cons_zero, List.set_cons_succ]
          refine wpAnyH_ready (rs := [16]) (by kernel_rfl) (by simp) ?_
          refine AllReadyH.cons (o := _) rfl (fun K hK => ?_) ?_
          · try simp only [List.getElem_toArray, List.getElem_cons_succ, List.getElem_cons_zero, Act.put, List.setIfInBounds_toArray, List.set_cons_zero, List.set_cons_succ]
            refine step_ap (a := ⟨_, _⟩) (by rfl) (.tmp 40) (.tmp 42) 45 (by rfl) eiL w5.heap.size _ _ _ (by rfl) oAv9 _ _ _ _ _ (by rfl) (Reads.of_own oLv9) ?ga4 ?gb4 ?gc4 bv9.size ?_
            case ga4 => first | exact uvs_cells _ | (intro u hu; rw [List.mem_singleton] at hu; subst hu; rfl)
            case gb4 => unfold maxLen; omega
            case gc4 => omega
            intro V v10 oAv10 hgv10 hatv10
            (try rw [Nat.zero_add] at oAv10)
            obtain ⟨Av10, cv10, rfl⟩ := own_is oAv10
            have bv10 : Below w5.heap.size w5 v10 := bv9.grown hgv10 bv9.size (fun k e => own_base oAv9 e)
            refine hK.out _ _ ((bv10.cell (p := ⟨R.b, 2, none⟩) hRb).trans c2) (fun hHeld => ?_)
            clear hK K
            try simp only [List.getElem_toArray, List.getElem_cons_succ, List.getElem_cons_zero, Act.put, List.setIfInBounds_toArray, List.set_cons_zero, List.set_cons_succ]
            refine wpAnyH_take (i := 17) (oi := _) (v := ?_) rfl (by kernel_rfl) (by kernel_rfl) (by kernel_rfl) (fun _ _ _ h => h) (Or.inl ⟨by rfl, ?_⟩) (by assumption) ?_
            rotate_left
            · try simp only [List.getElem_toArray, List.getElem_cons_succ, List.getElem_cons_zero]
              intro w hSw
              (try dsimp only at hSw)
              go_simp
              (try with_reducible rfl)
            try simp only [List.getElem_toArray, List.getElem_cons_succ, List.getElem_cons_zero, Act.put, List.setIfInBounds_toArray, List.set_cons_zero, List.set_cons_succ]
            refine wpAnyH_ready (rs := [18]) (by kernel_rfl) (by simp) ?_
            refine AllReadyH.cons (o := _) rfl (fun K hK => ?_) ?_
            · try simp only [List.getElem_toArray, List.getElem_cons_succ, List.getElem_cons_zero, Act.put, List.setIfInBounds_toArray, List.set_cons_zero, List.set_cons_succ]
              have clv11 := (bv10.cell (p := ⟨R.gL, j, none⟩) hGl).trans cl
              have zzv11 : Blk v10 R.gL 45 _ := (bv10.block R.gL hGl).trans GB
              have zfv11 := zzv11.frozen j
              replace zzv11 := Lib.hid zzv11
              go_simp
              refine hK.out _ _ ((World.cell?_setCell_far _ _ _ _ hne).trans ((bv10.cell (p := ⟨R.b, 2, none⟩) hRb).trans c2)) (fun hHeld => ?_)
              clear hK K
              try simp only [List.getElem_toArray, List.getElem_cons_succ, List.getElem_cons_zero, Act.put, List.setIfInBounds_toArray, List.set_cons_zero, List.set_cons_succ]
              clear clv11 zfv11 zzv11
              refine wpAnyH_done (by kernel_rfl) ?_ _
              refine NoPanic.normal ?_
              have T := Lib.hid (fin.out v10 _ bv10 oAv10)
              go_wp2
              go_end0
              exact ⟨rfl, T.out⟩
            exact AllReadyH.nil
          exact AllReadyH.nil
        exact AllReadyH.nil
      refine AllReadyH.cons (o := _) rfl (fun K hK => ?_) ?_
      · try simp only [List.getElem_toArray, List.getElem_cons_succ, List.getElem_cons_zero, Act.put, List.setIfInBounds_toArray, List.set_cons_zero, List.set_cons_succ]
        go_simp
        obtain ⟨v8, hv8⟩ : ∃ x, x = World.alloc v6 (.cells #[.int .u64 (H : Int)] 26) := ⟨_, rfl⟩
        have bv8 : Below w5.heap.size w5 v8 := by rw [hv8]; exact bv6.alloc bv6.size _
        have sv8 := Lib.hid (show v8.heap.size = v6.heap.size + 1 by rw [hv8]; exact World.size_alloc _ _)
        have oLv8 := own_one v6 w5.heap.size H bv6.size
        rw [← hv8] at oLv8
        have oAv8 := World.ownsRow.alloc oAv6 (.cells #[.int .u64 (H : Int)] 26)
        rw [← hv8] at oAv8
        have nev8 := ne_own oAv6
        rw [← hv8]
        clear hv8
        refine hK.out _ _ ((bv8.cell (p := ⟨R.b, 2, none⟩) hRb).trans c2) (fun hHeld => ?_)
        clear hK K
        try simp only [List.getElem_toArray, List.getElem_cons_succ, List.getElem_cons_zero, Act.put, List.setIfInBounds_toArray, List.set_cons_zero, List.set_cons_succ]
        refine wpAnyH_ready (rs := [13]) (by kernel_rfl) (by simp) ?_
        refine AllReadyH.cons (o := _) rfl (fun K hK => ?_) ?_
        · try simp only [List.getElem_toArray, List.getElem_cons_succ, List.getElem_cons_zero, Act.put, List.setIfInBounds_toArray, List.set_cons_zero, List.set_cons_succ]
          refine step_ap (a := ⟨_, _⟩) (by rfl) (.tmp 32) (.tmp 39) 45 (by rfl) eiL w5.heap.size _ _ _ (by rfl) oAv8 _ _ _ _ _ (by rfl) (rd.out.below bv8) ?ga5 ?gb5 ?gc5 bv8.size ?_
          case ga5 => first | exact uvs_cells _ | (intro u hu; rw [List.mem_singleton] at hu; subst hu; rfl)
          case gb5 => unfold maxLen; omega
          case gc5 => omega
          intro V v9 oAv9 hgv9 hatv9
          (try rw [Nat.zero_add] at oAv9)
          obtain ⟨Av9, cv9, rfl⟩ := own_is oAv9
          have bv9 : Below w5.heap.size w5 v9 := bv8.grown hgv9 bv8.size (fun k e => own_base oAv8 e)
          have oLv9 := own_keptN oLv8 fun b e => hgv9.block b (own_blockN oLv8 e) fun e2 => nev8 b e2.symm (by have e : some v6.heap.size = some b := e; injection e with e; exact e.symm)
          have nev9 : ∀ b, (Value.slice Av9 _ cv9).ownBlock = some b → b ≠ v6.heap.size := fun b e => by
            rcases hatv9 with h6 | h6
            · exact nev8 b (h6 ▸ e)
            · rw [h6] at e
              injection e with e
              have e9 : v6.heap.size < v8.heap.size := own_blockN (b := v6.heap.size) oLv8 rfl
              omega
          refine hK.out _ _ ((bv9.cell (p := ⟨R.b, 2, none⟩) hRb).trans c2) (fun hHeld => ?_)
          clear hK K
          try simp only [List.getElem_toArray, List.getElem_cons_succ, List.getElem_cons_zero, Act.put, List.setIfInBounds_toArray, List.set_cons_zero, List.set_cons_succ]
          refine wpAnyH_ready (rs := [16]) (by kernel_rfl) (by simp) ?_
          refine AllReadyH.cons (o := _) rfl (fun K hK => ?_) ?_
          · try simp only [List.getElem_toArray, List.getElem_cons_succ, List.getElem_cons_zero, Act.put, List.setIfInBounds_toArray, List.set_cons_zero, List.set_cons_succ]
            refine step_ap (a := ⟨_, _⟩) (by rfl) (.tmp 40) (.tmp 42) 45 (by rfl) eiL w5.heap.size _ _ _ (by rfl) oAv9 _ _ _ _ _ (by rfl) (Reads.of_own oLv9) ?ga6 ?gb6 ?gc6 bv9.size ?_
            case ga6 => first | exact uvs_cells _ | (intro u hu; rw [List.mem_singleton] at hu; subst hu; rfl)
            case gb6 => unfold maxLen; omega
            case gc6 => omega
            intro V v10 oAv10 hgv10 hatv10
            (try rw [Nat.zero_add] at oAv10)
            obtain ⟨Av10, cv10, rfl⟩ := own_is oAv10
            have bv10 : Below w5.heap.size w5 v10 := bv9.grown hgv10 bv9.size (fun k e => own_base oAv9 e)
            refine hK.out _ _ ((bv10.cell (p := ⟨R.b, 2, none⟩) hRb).trans c2) (fun hHeld => ?_)
            clear hK K
            try simp only [List.getElem_toArray, List.getElem_cons_succ, List.getElem_cons_zero, Act.put, List.setIfInBounds_toArray, List.set_cons_zero, List.set_cons_succ]
            refine wpAnyH_take (i := 17) (oi := _) (v := ?_) rfl (by kernel_rfl) (by kernel_rfl) (by kernel_rfl) (fun _ _ _ h => h) (Or.inl ⟨by rfl, ?_⟩) (by assumption) ?_
            rotate_left
            · try simp only [List.getElem_toArray, List.getElem_cons_succ, List.getElem_cons_zero]
              intro w hSw
              (try dsimp only at hSw)
              go_simp
              (try with_reducible rfl)
            try simp only [List.getElem_toArray, List.getElem_cons_succ, List.getElem_cons_zero, Act.put, List.setIfInBounds_toArray, List.set_cons_zero, List.set_cons_succ]
            refine wpAnyH_ready (rs := [18]) (by kernel_rfl) (by simp) ?_
            refine AllReadyH.cons (o := _) rfl (fun K hK => ?_) ?_
            · try simp only [List.getElem_toArray, List.getElem_cons_succ, List.getElem_cons_zero, Act.put, List.setIfInBounds_toArray, List.set_cons_zero, List.set_cons_succ]
              have clv11 := (bv10.cell (p := ⟨R.gL, j, none⟩) hGl).trans cl
              have zzv11 : Blk v10 R.gL 45 _ := (bv10.block R.gL hGl).trans GB
              have zfv11 := zzv11.frozen j
              replace zzv11 := Lib.hid zzv11
              go_simp
              refine hK.out _ _ ((World.cell?_setCell_far _ _ _ _ hne).trans ((bv10.cell (p := ⟨R.b, 2, none⟩) hRb).trans c2)) (fun hHeld => ?_)
              clear hK K
              try simp only [List.getElem_toArray, List.getElem_cons_succ, List.getElem_cons_zero, Act.put, List.setIfInBounds_toArray, List.set_cons_zero, List.set_cons_succ]
              clear clv11 zfv11 zzv11
              refine wpAnyH_done (by kernel_rfl) ?_ _
              refine NoPanic.normal ?_
              have T := Lib.hid (fin.out v10 _ bv10 oAv10)
              go_wp2
              go_end0
              exact ⟨rfl, T.out⟩
            exact AllReadyH.nil
          exact AllReadyH.nil
        exact AllReadyH.nil
      exact AllReadyH.nil
    refine AllReadyH.cons (o := _) rfl (fun K hK => ?_) ?_
    · try simp only [List.getElem_toArray, List.getElem_cons_succ, List.getElem_cons_zero, Act.put, List.setIfInBounds_toArray, List.set_cons_zero, List.set_cons_succ]
      go_simp
      obtain ⟨v7, hv7⟩ : ∃ x, x = World.alloc v6 (.cells #[.int .u64 (H : Int)] 26) := ⟨_, rfl⟩
      have bv7 : Below w5.heap.size w5 v7 := by rw [hv7]; exact bv6.alloc bv6.size _
      have sv7 := Lib.hid (show v7.heap.size = v6.heap.size + 1 by rw [hv7]; exact World.size_alloc _ _)
      have oLv7 := own_one v6 w5.heap.size H bv6.size
      rw [← hv7] at oLv7
      have oAv7 := World.ownsRow.alloc oAv6 (.cells #[.int .u64 (H : Int)] 26)
      rw [← hv7] at oAv7
      have nev7 := ne_own oAv6
      rw [← hv7]
      clear hv7
      refine hK.out _ _ ((bv7.cell (p := ⟨R.b, 2, none⟩) hRb).trans c2) (fun hHeld => ?_)
      clear hK K
      try simp only [List.getElem_toArray, List.getElem_cons_succ, List.getElem_cons_zero, Act.put, List.setIfInBounds_toArray, List.set_cons_zero, List.set_cons_succ]
      refine wpAnyH_ready (rs := [12]) (by kernel_rfl) (by simp) ?_
      refine AllReadyH.cons (o := _) rfl (fun K hK => ?_) ?_
      · try simp only [List.getElem_toArray, List.getElem_cons_succ, List.getElem_cons_zero, Act.put, List.setIfInBounds_toArray, List.set_cons_zero, List.set_cons_succ]
        have clv8 := (bv7.cell (p := ⟨R.gL, j, none⟩) hGl).trans cl
        go_simp
        refine hK.out _ _ ((bv7.cell (p := ⟨R.b, 2, none⟩) hRb).trans c2) (fun hHeld => ?_)
        clear hK K
        try simp only [List.getElem_toArray, List.getElem_cons_succ, List.getElem_cons_zero, Act.put, List.setIfInBounds_toArray, List.set_cons_zero, List.set_cons_succ]
        clear clv8
        refine wpAnyH_ready (rs := [13]) (by kernel_rfl) (by simp) ?_
        refine AllReadyH.cons (o := _) rfl (fun K hK => ?_) ?_
        · try simp only [List.getElem_toArray, List.getElem_cons_succ, List.getElem_cons_zero, Act.put, List.setIfInBounds_toArray, List.set_cons_zero, List.set_cons_succ]
          refine step_ap (a := ⟨_, _⟩) (by rfl) (.tmp 32) (.tmp 39) 45 (by rfl) eiL w5.heap.size _ _ _ (by rfl) oAv7 _ _ _ _ _ (by rfl) (rd.out.below bv7) ?ga7 ?gb7 ?gc7 bv7.size ?_
          case ga7 => first | exact uvs_cells _ | (intro u hu; rw [List.mem_singleton] at hu; subst hu; rfl)
          case gb7 => unfold maxLen; omega
          case gc7 => omega
          intro V v9 oAv9 hgv9 hatv9
          (try rw [Nat.zero_add] at oAv9)
          obtain ⟨Av9, cv9, rfl⟩ := own_is oAv9
          have bv9 : Below w5.heap.size w5 v9 := bv7.grown hgv9 bv7.size (fun k e => own_base oAv7 e)
          have oLv9 := own_keptN oLv7 fun b e => hgv9.block b (own_blockN oLv7 e) fun e2 => nev7 b e2.symm (by have e : some v6.heap.size = some b := e; injection e with e; exact e.symm)
          have nev9 : ∀ b, (Value.slice Av9 _ cv9).ownBlock = some b → b ≠ v6.heap.size := fun b e => by
            rcases hatv9 with h6 | h6
            · exact nev7 b (h6 ▸ e)
            · rw [h6] at e
              injection e with e
              have e9 : v6.heap.size < v7.heap.size := own_blockN (b := v6.heap.size) oLv7 rfl
              omega
          refine hK.out _ _ ((bv9.cell (p := ⟨R.b, 2, none⟩) hRb).trans c2) (fun hHeld => ?_)
          clear hK K
          try simp only [List.getElem_toArray, List.getElem_cons_succ, List.getElem_cons_zero, Act.put, List.setIfInBounds_toArray, List.set_cons_zero, List.set_cons_succ]
          refine wpAnyH_ready (rs := [16]) (by kernel_rfl) (by simp) ?_
          refine AllReadyH.cons (o := _) rfl (fun K hK => ?_) ?_
          · try simp only [List.getElem_toArray, List.getElem_cons_succ, List.getElem_cons_zero, Act.put, List.setIfInBounds_toArray, List.set_cons_zero, List.set_cons_succ]
            refine step_ap (a := ⟨_, _⟩) (by rfl) (.tmp 40) (.tmp 42) 45 (by rfl) eiL w5.heap.size _ _ _ (by rfl) oAv9 _ _ _ _ _ (by rfl) (Reads.of_own oLv9) ?ga8 ?gb8 ?gc8 bv9.size ?_
            case ga8 => first | exact uvs_cells _ | (intro u hu; rw [List.mem_singleton] at hu; subst hu; rfl)
            case gb8 => unfold maxLen; omega
            case gc8 => omega
            intro V v10 oAv10 hgv10 hatv10
            (try rw [Nat.zero_add] at oAv10)
            obtain ⟨Av10, cv10, rfl⟩ := own_is oAv10
            have bv10 : Below w5.heap.size w5 v10 := bv9.grown hgv10 bv9.size (fun k e => own_base oAv9 e)
            refine hK.out _ _ ((bv10.cell (p := ⟨R.b, 2, none⟩) hRb).trans c2) (fun hHeld => ?_)
            clear hK K
            try simp only [List.getElem_toArray, List.getElem_cons_succ, List.getElem_cons_zero, Act.put, List.setIfInBounds_toArray, List.set_cons_zero, List.set_cons_succ]
            refine wpAnyH_take (i := 17) (oi := _) (v := ?_) rfl (by kernel_rfl) (by kernel_rfl) (by kernel_rfl) (fun _ _ _ h => h) (Or.inl ⟨by rfl, ?_⟩) (by assumption) ?_
            rotate_left
            · try simp only [List.getElem_toArray, List.getElem_cons_succ, List.getElem_cons_zero]
              intro w hSw
              (try dsimp only at hSw)
              go_simp
              (try with_reducible rfl)
            try simp only [List.getElem_toArray, List.getElem_cons_succ, List.getElem_cons_zero, Act.put, List.setIfInBounds_toArray, List.set_cons_zero, List.set_cons_succ]
            refine wpAnyH_ready (rs := [18]) (by kernel_rfl) (by simp) ?_
            refine AllReadyH.cons (o := _) rfl (fun K hK => ?_) ?_
            · try simp only [List.getElem_toArray, List.getElem_cons_succ, List.getElem_cons_zero, Act.put, List.setIfInBounds_toArray, List.set_cons_zero, List.set_cons_succ]
              have clv11 := (bv10.cell (p := ⟨R.gL, j, none⟩) hGl).trans cl
              have zzv11 : Blk v10 R.gL 45 _ := (bv10.block R.gL hGl).trans GB
              have zfv11 := zzv11.frozen j
              replace zzv11 := Lib.hid zzv11
              go_simp
              refine hK.out _ _ ((World.cell?_setCell_far _ _ _ _ hne).trans ((bv10.cell (p := ⟨R.b, 2, none⟩) hRb).trans c2)) (fun hHeld => ?_)
              clear hK K
              try simp only [List.getElem_toArray, List.getElem_cons_succ, List.getElem_cons_zero, Act.put, List.setIfInBounds_toArray, List.set_cons_zero, List.set_cons_succ]
              clear clv11 zfv11 zzv11
              refine wpAnyH_done (by kernel_rfl) ?_ _
              refine NoPanic.normal ?_
              have T := Lib.hid (fin.out v10 _ bv10 oAv10)
              go_wp2
              go_end0
              exact ⟨rfl, T.out⟩
            exact AllReadyH.nil
          exact AllReadyH.nil
        exact AllReadyH.nil
      exact AllReadyH.nil
    exact AllReadyH.nil
  refine AllReadyH.cons (o := _) rfl (fun K hK => ?_) ?_
  · try simp only [List.getElem_toArray, List.getElem_cons_succ, List.getElem_cons_zero, Act.put, List.setIfInBounds_toArray, List.set_cons_zero, List.set_cons_succ]
    have clv6 := (bw5.cell (p := ⟨R.gL, j, none⟩) hGl).trans cl
    go_simp
    refine hK.out _ _ ((bw5.cell (p := ⟨R.b, 2, none⟩) hRb).trans c2) (fun hHeld => ?_)
    clear hK K
    try simp only [List.getElem_toArray, List.getElem_cons_succ, List.getElem_cons_zero, Act.put, List.setIfInBounds_toArray, List.set_cons_zero, List.set_cons_succ]
    clear clv6
    refine wpAnyH_ready (rs := [5, 15]) (by kernel_rfl) (by simp) ?_
    refine AllReadyH.cons (o := _) rfl (fun K hK => ?_) ?_
    · try simp only [List.getElem_toArray, List.getElem_cons_succ, List.getElem_cons_zero, Act.put, List.setIfInBounds_toArray, List.set_cons_zero, List.set_cons_succ]
      go_simp
      obtain ⟨v7, hv7⟩ : ∃ x, x = World.alloc w5 (.cells #[] 26) := ⟨_, rfl⟩
      have bv7 : Below w5.heap.size w5 v7 := by rw [hv7]; exact bw5.alloc bw5.size _
      have sv7 := Lib.hid (show v7.heap.size = w5.heap.size + 1 by rw [hv7]; exact World.size_alloc _ _)
      have oAv7 := own_zero w5 w5.heap.size bw5.size
      rw [← hv7] at oAv7
      rw [← hv7]
      clear hv7
      refine hK.out _ _ ((bv7.cell (p := ⟨R.b, 2, none⟩) hRb).trans c2) (fun hHeld => ?_)
      clear hK K
      try simp only [List.getElem_toArray, List.getElem_cons_succ, List.getElem_cons_zero, Act.put, List.setIfInBounds_toArray, List.set_cons_zero, List.set_cons_succ]
      refine wpAnyH_ready (rs := [13, 15]) (by kernel_rfl) (by simp) ?_
      refine AllReadyH.cons (o := _) rfl (fun K hK => ?_) ?_
      · try simp only [List.getElem_toArray, List.getElem_cons_succ, List.getElem_cons_zero, Act.put, List.setIfInBounds_toArray, List.set_cons_zero, List.set_cons_succ]
        refine step_ap (a := ⟨_, _⟩) (by rfl) (.tmp 32) (.tmp 39) 45 (by rfl) eiL w5.heap.size _ _ _ (by rfl) oAv7 _ _ _ _ _ (by rfl) (rd.out.below bv7) ?ga9 ?gb9 ?gc9 bv7.size ?_
        case ga9 => first | exact uvs_cells _ | (intro u hu; rw [List.mem_singleton] at hu; subst hu; rfl)
        case gb9 => unfold maxLen; omega
        case gc9 => omega
        intro V v8 oAv8 hgv8 hatv8
        (try rw [Nat.zero_add] at oAv8)
        obtain ⟨Av8, cv8, rfl⟩ := own_is oAv8
        have bv8 : Below w5.heap.size w5 v8 := bv7.grown hgv8 bv7.size (fun k e => own_base oAv7 e)
        refine hK.out _ _ ((bv8.cell (p := ⟨R.b, 2, none⟩) hRb).trans c2) (fun hHeld => ?_)
        clear hK K
        try simp only [List.getElem_toArray, List.getElem_cons_succ, List.getElem_cons_zero, Act.put, List.setIfInBounds_toArray, List.set_cons_zero, List.set_cons_succ]
        refine wpAnyH_ready (rs := [15]) (by kernel_rfl) (by simp) ?_
        refine AllReadyH.cons (o := _) rfl (fun K hK => ?_) ?_
        · try simp only [List.getElem_toArray, List.getElem_cons_succ, List.getElem_cons_zero, Act.put, List.setIfInBounds_toArray, List.set_cons_zero, List.set_cons_succ]
          go_simp
          obtain ⟨v9, hv9⟩ : ∃ x, x = World.alloc v8 (.cells #[.int .u64 (H : Int)] 26) := ⟨_, rfl⟩
          have bv9 : Below w5.heap.size w5 v9 := by rw [hv9]; exact bv8.alloc bv8.size _
          have sv9 := Lib.hid (show v9.heap.size = v8.heap.size + 1 by rw [hv9]; exact World.size_alloc _ _)
          have oLv9 := own_one v8 w5.heap.size H bv8.size
          rw [← hv9] at oLv9
          have oAv9 := World.ownsRow.alloc oAv8 (.cells #[.int .u64 (H : Int)] 26)
          rw [← hv9] at oAv9
          have nev9 := ne_own oAv8
          rw [← hv9]
          clear hv9
          refine hK.out _ _ ((bv9.cell (p := ⟨R.b, 2, none⟩) hRb).trans c2) (fun hHeld => ?_)
          clear hK K
          try simp only [List.getElem_toArray, List.getElem_cons_succ, List.getElem_cons_zero, Act.put, List.setIfInBounds_toArray, List.set_cons_zero, List.set_cons_succ]
          refine wpAnyH_ready (rs := [16]) (by kernel_rfl) (by simp) ?_
          refine AllReadyH.cons (o := _) rfl (fun K hK => ?_) ?_
          · try simp only [List.getElem_toArray, List.getElem_cons_succ, List.getElem_cons_zero, Act.put, List.setIfInBounds_toArray, List.set_cons_zero, List.set_cons_succ]
            refine step_ap (a := ⟨_, _⟩) (by rfl) (.tmp 40) (.tmp 42) 45 (by rfl) eiL w5.heap.size _ _ _ (by rfl) oAv9 _ _ _ _ _ (by rfl) (Reads.of_own oLv9) ?ga10 ?gb10 ?gc10 bv9.size ?_
            case ga10 => first | exact uvs_cells _ | (intro u hu; rw [List.mem_singleton] at hu; subst hu; rfl)
            case gb10 => unfold maxLen; omega
            case gc10 => omega
            intro V v10 oAv10 hgv10 hatv10
            (try rw [Nat.zero_add] at oAv10)
            obtain ⟨Av10, cv10, rfl⟩ := own_is oAv10
            have bv10 : Below w5.heap.size w5 v10 := bv9.grown hgv10 bv9.size (fun k e => own_base oAv9 e)
            refine hK.out _ _ ((bv10.cell (p := ⟨R.b, 2, none⟩) hRb).trans c2) (fun hHeld => ?_)
            clear hK K
            try simp only [List.getElem_toArray, List.getElem_cons_succ, List.getElem_cons_zero, Act.put, List.setIfInBounds_toArray, List.set_cons_zero, List.set_cons_succ]
            refine wpAnyH_take (i := 17) (oi := _) (v := ?_) rfl (by kernel_rfl) (by kernel_rfl) (by kernel_rfl) (fun _ _ _ h => h) (Or.inl ⟨by rfl, ?_⟩) (by assumption) ?_
            rotate_left
            · try simp only [List.getElem_toArray, List.getElem_cons_succ, List.getElem_cons_zero]
              intro w hSw
              (try dsimp only at hSw)
              go_simp
              (try with_reducible rfl)
            try simp only [List.getElem_toArray, List.getElem_cons_succ, List.getElem_cons_zero, Act.put, List.setIfInBounds_toArray, List.set_cons_zero, List.set_cons_succ]
            refine wpAnyH_ready (rs := [18]) (by kernel_rfl) (by simp) ?_
            refine AllReadyH.cons (o := _) rfl (fun K hK => ?_) ?_
            · try simp only [List.getElem_toArray, List.getElem_cons_succ, List.getElem_cons_zero, Act.put, List.setIfInBounds_toArray, List.set_cons_zero, List.set_cons_succ]
              have clv11 := (bv10.cell (p := ⟨R.gL, j, none⟩) hGl).trans cl
              have zzv11 : Blk v10 R.gL 45 _ := (bv10.block R.gL hGl).trans GB
              have zfv11 := zzv11.frozen j
              replace zzv11 := Lib.hid zzv11
              go_simp
              refine hK.out _ _ ((World.cell?_setCell_far _ _ _ _ hne).trans ((bv10.cell (p := ⟨R.b, 2, none⟩) hRb).trans c2)) (fun hHeld => ?_)
              clear hK K
              try simp only [List.getElem_toArray, List.getElem_cons_succ, List.getElem_cons_zero, Act.put, List.setIfInBounds_toArray, List.set_cons_zero, List.set_cons_succ]
              clear clv11 zfv11 zzv11
              refine wpAnyH_done (by kernel_rfl) ?_ _
              refine NoPanic.normal ?_
              have T := Lib.hid (fin.out v10 _ bv10 oAv10)
              go_wp2
              go_end0
              exact ⟨rfl, T.out⟩
            exact AllReadyH.nil
          exact AllReadyH.nil
        exact AllReadyH.nil
      refine AllReadyH.cons (o := _) rfl (fun K hK => ?_) ?_
      · try simp only [List.getElem_toArray, List.getElem_cons_succ, List.getElem_cons_zero, Act.put, List.setIfInBounds_toArray, List.set_cons_zero, List.set_cons_succ]
        go_simp
        obtain ⟨v8, hv8⟩ : ∃ x, x = World.alloc v7 (.cells #[.int .u64 (H : Int)] 26) := ⟨_, rfl⟩
        have bv8 : Below w5.heap.size w5 v8 := by rw [hv8]; exact bv7.alloc bv7.size _
        have sv8 := Lib.hid (show v8.heap.size = v7.heap.size + 1 by rw [hv8]; exact World.size_alloc _ _)
        have oLv8 := own_one v7 w5.heap.size H bv7.size
        rw [← hv8] at oLv8
        have oAv8 := World.ownsRow.alloc oAv7 (.cells #[.int .u64 (H : Int)] 26)
        rw [← hv8] at oAv8
        have nev8 := ne_own oAv7
        rw [← hv8]
        clear hv8
        refine hK.out _ _ ((bv8.cell (p := ⟨R.b, 2, none⟩) hRb).trans c2) (fun hHeld => ?_)
        clear hK K
        try simp only [List.getElem_toArray, List.getElem_cons_succ, List.getElem_cons_zero, Act.put, List.setIfInBounds_toArray, List.set_cons_zero, List.set_cons_succ]
        refine wpAnyH_ready (rs := [13]) (by kernel_rfl) (by simp) ?_
        refine AllReadyH.cons (o := _) rfl (fun K hK => ?_) ?_
        · try simp only [List.getElem_toArray, List.getElem_cons_succ, List.getElem_cons_zero, Act.put, List.setIfInBounds_toArray, List.set_cons_zero, List.set_cons_succ]
          refine step_ap (a := ⟨_, _⟩) (by rfl) (.tmp 32) (.tmp 39) 45 (by rfl) eiL w5.heap.size _ _ _ (by rfl) oAv8 _ _ _ _ _ (by rfl) (rd.out.below bv8) ?ga11 ?gb11 ?gc11 bv8.size ?_
          case ga11 => first | exact uvs_cells _ | (intro u hu; rw [List.mem_singleton] at hu; subst hu; rfl)
          case gb11 => unfold maxLen; omega
          case gc11 => omega
          intro V v9 oAv9 hgv9 hatv9
          (try rw [Nat.zero_add] at oAv9)
          obtain ⟨Av9, cv9, rfl⟩ := own_is oAv9
          have bv9 : Below w5.heap.size w5 v9 := bv8.grown hgv9 bv8.size (fun k e => own_base oAv8 e)
          have oLv9 := own_keptN oLv8 fun b e => hgv9.block b (own_blockN oLv8 e) fun e2 => nev8 b e2.symm (by have e : some v7.heap.size = some b := e; injection e with e; exact e.symm)
          have nev9 : ∀ b, (Value.slice Av9 _ cv9).ownBlock = some b → b ≠ v7.heap.size := fun b e => by
            rcases hatv9 with h6 | h6
            · exact nev8 b (h6 ▸ e)
            · rw [h6] at e
              injection e with e
              have e9 : v7.heap.size < v8.heap.size := own_blockN (b := v7.heap.size) oLv8 rfl
              omega
          refine hK.out _ _ ((bv9.cell (p := ⟨R.b, 2, none⟩) hRb).trans c2) (fun hHeld => ?_)
          clear hK K
          try simp only [List.getElem_toArray, List.getElem_cons_succ, List.getElem_cons_zero, Act.put, List.setIfInBounds_toArray, List.set_cons_zero, List.set_cons_succ]
          refine wpAnyH_ready (rs := [16]) (by kernel_rfl) (by simp) ?_
          refine AllReadyH.cons (o := _) rfl (fun K hK => ?_) ?_
          · try simp only [List.getElem_toArray, List.getElem_cons_succ, List.getElem_cons_zero, Act.put, List.setIfInBounds_toArray, List.set_cons_zero, List.set_cons_succ]
            refine step_ap (a := ⟨_, _⟩) (by rfl) (.tmp 40) (.tmp 42) 45 (by rfl) eiL w5.heap.size _ _ _ (by rfl) oAv9 _ _ _ _ _ (by rfl) (Reads.of_own oLv9) ?ga12 ?gb12 ?gc12 bv9.size ?_
            case ga12 => first | exact uvs_cells _ | (intro u hu; rw [List.mem_singleton] at hu; subst hu; rfl)
            case gb12 => unfold maxLen; omega
            case gc12 => omega
            intro V v10 oAv10 hgv10 hatv10
            (try rw [Nat.zero_add] at oAv10)
            obtain ⟨Av10, cv10, rfl⟩ := own_is oAv10
            have bv10 : Below w5.heap.size w5 v10 := bv9.grown hgv10 bv9.size (fun k e => own_base oAv9 e)
            refine hK.out _ _ ((bv10.cell (p := ⟨R.b, 2, none⟩) hRb).trans c2) (fun hHeld => ?_)
            clear hK K
            try simp only [List.getElem_toArray, List.getElem_cons_succ, List.getElem_cons_zero, Act.put, List.setIfInBounds_toArray, List.set_cons_zero, List.set_cons_succ]
            refine wpAnyH_take (i := 17) (oi := _) (v := ?_) rfl (by kernel_rfl) (by kernel_rfl) (by kernel_rfl) (fun _ _ _ h => h) (Or.inl ⟨by rfl, ?_⟩) (by assumption) ?_
            rotate_left
            · try simp only [List.getElem_toArray, List.getElem_cons_succ, List.getElem_cons_zero]
              intro w hSw
              (try dsimp only at hSw)
              go_simp
              (try with_reducible rfl)
            try simp only [List.getElem_toArray, List.getElem_cons_succ, List.getElem_cons_zero, Act.put, List.setIfInBounds_toArray, List.set_cons_zero, List.set_cons_succ]
            refine wpAnyH_ready (rs := [18]) (by kernel_rfl) (by simp) ?_
            refine AllReadyH.cons (o := _) rfl (fun K hK => ?_) ?_
            · try simp only [List.getElem_toArray, List.getElem_cons_succ, List.getElem_cons_zero, Act.put, List.setIfInBounds_toArray, List.set_cons_zero, List.set_cons_succ]
              have clv11 := (bv10.cell (p := ⟨R.gL, j, none⟩) hGl).trans cl
              have zzv11 : Blk v10 R.gL 45 _ := (bv10.block R.gL hGl).trans GB
              have zfv11 := zzv11.frozen j
              replace zzv11 := Lib.hid zzv11
              go_simp
              refine hK.out _ _ ((World.cell?_setCell_far _ _ _ _ hne).trans ((bv10.cell (p := ⟨R.b, 2, none⟩) hRb).trans c2)) (fun hHeld => ?_)
              clear hK K
              try simp only [List.getElem_toArray, List.getElem_cons_succ, List.getElem_cons_zero, Act.put, List.setIfInBounds_toArray, List.set_cons_zero, List.set_cons_succ]
              clear clv11 zfv11 zzv11
              refine wpAnyH_done (by kernel_rfl) ?_ _
              refine NoPanic.normal ?_
              have T := Lib.hid (fin.out v10 _ bv10 oAv10)
              go_wp2
              go_end0
              exact ⟨rfl, T.out⟩
            exact AllReadyH.nil
          exact AllReadyH.nil
        exact AllReadyH.nil
      exact AllReadyH.nil
    refine AllReadyH.cons (o := _) rfl (fun K hK => ?_) ?_
    · try simp only [List.getElem_toArray, List.getElem_cons_succ, List.getElem_cons_zero, Act.put, List.setIfInBounds_toArray, List.set_cons_zero, List.set_cons_succ]
      go_simp
      obtain ⟨v7, hv7⟩ : ∃ x, x = World.alloc w5 (.cells #[.int .u64 (H : Int)] 26) := ⟨_, rfl⟩
      have bv7 : Below w5.heap.size w5 v7 := by rw [hv7]; exact bw5.alloc bw5.size _
      have sv7 := Lib.hid (show v7.heap.size = w5.heap.size + 1 by rw [hv7]; exact World.size_alloc _ _)
      have oLv7 := own_one w5 w5.heap.size H bw5.size
      rw [← hv7] at oLv7
      rw [← hv7]
      clear hv7
      refine hK.out _ _ ((bv7.cell (p := ⟨R.b, 2, none⟩) hRb).trans c2) (fun hHeld => ?_)
      clear hK K
      try simp only [List.getElem_toArray, List.getElem_cons_succ, List.getElem_cons_zero, Act.put, List.setIfInBounds_toArray, List.set_cons_zero, List.set_cons_succ]
      refine wpAnyH_ready (rs := [5]) (by kernel_rfl) (by simp) ?_
      refine AllReadyH.cons (o := _) rfl (fun K hK => ?_) ?_
      · try simp only [List.getElem_toArray, List.getElem_cons_succ, List.getElem_cons_zero, Act.put, List.setIfInBounds_toArray, List.set_cons_zero, List.set_cons_succ]
        go_simp
        obtain ⟨v8, hv8⟩ : ∃ x, x = World.alloc v7 (.cells #[] 26) := ⟨_, rfl⟩
        have bv8 : Below w5.heap.size w5 v8 := by rw [hv8]; exact bv7.alloc bv7.size _
        have sv8 := Lib.hid (show v8.heap.size = v7.heap.size + 1 by rw [hv8]; exact World.size_alloc _ _)
        have oAv8 := own_zero v7 w5.heap.size bv7.size
        rw [← hv8] at oAv8
        have oLv8 := World.ownsRow.alloc oLv7 (.cells #[] 26)
        rw [← hv8] at oLv8
        have nev8 : ∀ b, (Value.slice (some ⟨v7.heap.size, 0, none⟩) 0 0).ownBlock = some b → b ≠ w5.heap.size := fun b e => by
          have e : some v7.heap.size = some b := e
          injection e with e
          have e9 : w5.heap.size < v7.heap.size := own_blockN (b := w5.heap.size) oLv7 rfl
          omega
        rw [← hv8]
        clear hv8
        refine hK.out _ _ ((bv8.cell (p := ⟨R.b, 2, none⟩) hRb).trans c2) (fun hHeld => ?_)
        clear hK K
        try simp only [List.getElem_toArray, List.getElem_cons_succ, List.getElem_cons_zero, Act.put, List.setIfInBounds_toArray, List.set_cons_zero, List.set_cons_succ]
        refine wpAnyH_ready (rs := [13]) (by kernel_rfl) (by simp) ?_
        refine AllReadyH.cons (o := _) rfl (fun K hK => ?_) ?_
        · try simp only [List.getElem_toArray, List.getElem_cons_succ, List.getElem_cons_zero, Act.put, List.setIfInBounds_toArray, List.set_cons_zero, List.set_cons_succ]
          refine step_ap (a := ⟨_, _⟩) (by rfl) (.tmp 32) (.tmp 39) 45 (by rfl) eiL w5.heap.size _ _ _ (by rfl) oAv8 _ _ _ _ _ (by rfl) (rd.out.below bv8) ?ga13 ?gb13 ?gc13 bv8.size ?_
          case ga13 => first | exact uvs_cells _ | (intro u hu; rw [List.mem_singleton] at hu; subst hu; rfl)
          case gb13 => unfold maxLen; omega
          case gc13 => omega
          intro V v9 oAv9 hgv9 hatv9
          (try rw [Nat.zero_add] at oAv9)
          obtain ⟨Av9, cv9, rfl⟩ := own_is oAv9
          have bv9 : Below w5.heap.size w5 v9 := bv8.grown hgv9 bv8.size (fun k e => own_base oAv8 e)
          have oLv9 := own_keptN oLv8 fun b e => hgv9.block b (own_blockN oLv8 e) fun e2 => nev8 b e2.symm (by have e : some w5.heap.size = some b := e; injection e with e; exact e.symm)
          have nev9 : ∀ b, (Value.slice Av9 _ cv9).ownBlock = some b → b ≠ w5.heap.size := fun b e => by
            rcases hatv9 with h6 | h6
            · exact nev8 b (h6 ▸ e)
            · rw [h6] at e
              injection e with e
              have e9 : w5.heap.size < v8.heap.size := own_blockN (b := w5.heap.size) oLv8 rfl
              omega
          refine hK.out _ _ ((bv9.cell (p := ⟨R.b, 2, none⟩) hRb).trans c2) (fun hHeld => ?_)
          clear hK K
          try simp only [List.getElem_toArray, List.getElem_cons_succ, List.getElem_cons_zero, Act.put, List.setIfInBounds_toArray, List.set_cons_zero, List.set_cons_succ]
          refine wpAnyH_ready (rs := [16]) (by kernel_rfl) (by simp) ?_
          refine AllReadyH.cons (o := _) rfl (fun K hK => ?_) ?_
          · try simp only [List.getElem_toArray, List.getElem_cons_succ, List.getElem_cons_zero, Act.put, List.setIfInBounds_toArray, List.set_cons_zero, List.set_cons_succ]
            refine step_ap (a := ⟨_, _⟩) (by rfl) (.tmp 40) (.tmp 42) 45 (by rfl) eiL w5.heap.size _ _ _ (by rfl) oAv9 _ _ _ _ _ (by rfl) (Reads.of_own oLv9) ?ga14 ?gb14 ?gc14 bv9.size ?_
            case ga14 => first | exact uvs_cells _ | (intro u hu; rw [List.mem_singleton] at hu; subst hu; rfl)
            case gb14 => unfold maxLen; omega
            case gc14 => omega
            intro V v10 oAv10 hgv10 hatv10
            (try rw [Nat.zero_add] at oAv10)
            obtain ⟨Av10, cv10, rfl⟩ := own_is oAv10
            have bv10 : Below w5.heap.size w5 v10 := bv9.grown hgv10 bv9.size (fun k e => own_base oAv9 e)
            refine hK.out _ _ ((bv10.cell (p := ⟨R.b, 2, none⟩) hRb).trans c2) (fun hHeld => ?_)
            clear hK K
            try simp only [List.getElem_toArray, List.getElem_cons_succ, List.getElem_cons_zero, Act.put, List.setIfInBounds_toArray, List.set_cons_zero, List.set_cons_succ]
            refine wpAnyH_take (i := 17) (oi := _) (v := ?_) rfl (by kernel_rfl) (by kernel_rfl) (by kernel_rfl) (fun _ _ _ h => h) (Or.inl ⟨by rfl, ?_⟩) (by assumption) ?_
            rotate_left
            · try simp only [List.getElem_toArray, List.getElem_cons_succ, List.getElem_cons_zero]
              intro w hSw
              (try dsimp only at hSw)
              go_simp
              (try with_reducible rfl)
            try simp only [List.getElem_toArray, List.getElem_cons_succ, List.getElem_cons_zero, Act.put, List.setIfInBounds_toArray, List.set_cons_zero, List.set_cons_succ]
            refine wpAnyH_ready (rs := [18]) (by kernel_rfl) (by simp) ?_
            refine AllReadyH.cons (o := _) rfl (fun K hK => ?_) ?_
            · try simp only [List.getElem_toArray, List.getElem_cons_succ, List.getElem_cons_zero, Act.put, List.setIfInBounds_toArray, List.set_cons_zero, List.set_cons_succ]
              have clv11 := (bv10.cell (p := ⟨R.gL, j, none⟩) hGl).trans cl
              have zzv11 : Blk v10 R.gL 45 _ := (bv10.block R.gL hGl).trans GB
              have zfv11 := zzv11.frozen j
              replace zzv11 := Lib.hid zzv11
              go_simp
              refine hK.out _ _ ((World.cell?_setCell_far _ _ _ _ hne).trans ((bv10.cell (p := ⟨R.b, 2, none⟩) hRb).trans c2)) (fun hHeld => ?_)
              clear hK K
              try simp only [List.getElem_toArray, List.getElem_cons_succ, List.getElem_cons_zero, Act.put, List.setIfInBounds_toArray, List.set_cons_zero, List.set_cons_succ]
              clear clv11 zfv11 zzv11
              refine wpAnyH_done (by kernel_rfl) ?_ _
              refine NoPanic.normal ?_
              have T := Lib.hid (fin.out v10 _ bv10 oAv10)
              go_wp2
              go_end0
              exact ⟨rfl, T.out⟩
            exact AllReadyH.nil
          exact AllReadyH.nil
        exact AllReadyH.nil
      exact AllReadyH.nil
    exact AllReadyH.nil
  refine AllReadyH.cons (o := _) rfl (fun K hK => ?_) ?_
  · try simp only [List.getElem_toArray, List.getElem_cons_succ, List.getElem_cons_zero, Act.put, List.setIfInBounds_toArray, List.set_cons_zero, List.set_cons_succ]
    go_simp
    obtain ⟨v6, hv6⟩ : ∃ x, x = World.alloc w5 (.cells #[.int .u64 (H : Int)] 26) := ⟨_, rfl⟩
    have bv6 : Below w5.heap.size w5 v6 := by rw [hv6]; exact bw5.alloc bw5.size _
    have sv6 := Lib.hid (show v6.heap.size = w5.heap.size + 1 by rw [hv6]; exact World.size_alloc _ _)
    have oLv6 := own_one w5 w5.heap.size H bw5.size
    rw [← hv6] at oLv6
    rw [← hv6]
    clear hv6
    refine hK.out _ _ ((bv6.cell (p := ⟨R.b, 2, none⟩) hRb).trans c2) (fun hHeld => ?_)
    clear hK K
    try simp only [List.getElem_toArray, List.getElem_cons_succ, List.getElem_cons_zero, Act.put, List.setIfInBounds_toArray, List.set_cons_zero, List.set_cons_succ]
    refine wpAnyH_ready (rs := [5, 12]) (by kernel_rfl) (by simp) ?_
    refine AllReadyH.cons (o := _) rfl (fun K hK => ?_) ?_
    · try simp only [List.getElem_toArray, List.getElem_cons_succ, List.getElem_cons_zero, Act.put, List.setIfInBounds_toArray, List.set_cons_zero, List.set_cons_succ]
      go_simp
      obtain ⟨v7, hv7⟩ : ∃ x, x = World.alloc v6 (.cells #[] 26) := ⟨_, rfl⟩
      have bv7 : Below w5.heap.size w5 v7 := by rw [hv7]; exact bv6.alloc bv6.size _
      have sv7 := Lib.hid (show v7.heap.size = v6.heap.size + 1 by rw [hv7]; exact World.size_alloc _ _)
      have oAv7 := own_zero v6 w5.heap.size bv6.size
      rw [← hv7] at oAv7
      have oLv7 := World.ownsRow.alloc oLv6 (.cells #[] 26)
      rw [← hv7] at oLv7
      have nev7 : ∀ b, (Value.slice (some ⟨v6.heap.size, 0, none⟩) 0 0).ownBlock = some b → b ≠ w5.heap.size := fun b e => by
        have e : some v6.heap.size = some b := e
        injection e with e
        have e9 : w5.heap.size < v6.heap.size := own_blockN (b := w5.heap.size) oLv6 rfl
        omega
      rw [← hv7]
      clear hv7
      refine hK.out _ _ ((bv7.cell (p := ⟨R.b, 2, none⟩) hRb).trans c2) (fun hHeld => ?_)
      clear hK K
      try simp only [List.getElem_toArray, List.getElem_cons_succ, List.getElem_cons_zero, Act.put, List.setIfInBounds_toArray, List.set_cons_zero, List.set_cons_succ]
      refine wpAnyH_ready (rs := [12]) (by kernel_rfl) (by simp) ?_
      refine AllReadyH.cons (o := _) rfl (fun K hK => ?_) ?_
      · try simp only [List.getElem_toArray, List.getElem_cons_succ, List.getElem_cons_zero, Act.put, List.setIfInBounds_toArray, List.set_cons_zero, List.set_cons_succ]
        have clv8 := (bv7.cell (p := ⟨R.gL, j, none⟩) hGl).trans cl
        go_simp
        refine hK.out _ _ ((bv7.cell (p := ⟨R.b, 2, none⟩) hRb).trans c2) (fun hHeld => ?_)
        clear hK K
        try simp only [List.getElem_toArray, List.getElem_cons_succ, List.getElem_cons_zero, Act.put, List.setIfInBounds_toArray, List.set_cons_zero, List.set_cons_succ]
        clear clv8
        refine wpAnyH_ready (rs := [13]) (by kernel_rfl) (by simp) ?_
        refine AllReadyH.cons (o := _) rfl (fun K hK => ?_) ?_
        · try simp only [List.getElem_toArray, List.getElem_cons_succ, List.getElem_cons_zero, Act.put, List.setIfInBounds_toArray, List.set_cons_zero, List.set_cons_succ]
          refine step_ap (a := ⟨_, _⟩) (by rfl) (.tmp 32) (.tmp 39) 45 (by rfl) eiL w5.heap.size _ _ _ (by rfl) oAv7 _ _ _ _ _ (by rfl) (rd.out.below bv7) ?ga15 ?gb15 ?gc15 bv7.size ?_
          case ga15 => first | exact uvs_cells _ | (intro u hu; rw [List.mem_singleton] at hu; subst hu; rfl)
          case gb15 => unfold maxLen; omega
          case gc15 => omega
          intro V v9 oAv9 hgv9 hatv9
          (try rw [Nat.zero_add] at oAv9)
          obtain ⟨Av9, cv9, rfl⟩ := own_is oAv9
          have bv9 : Below w5.heap.size w5 v9 := bv7.grown hgv9 bv7.size (fun k e => own_base oAv7 e)
          have oLv9 := own_keptN oLv7 fun b e => hgv9.block b (own_blockN oLv7 e) fun e2 => nev7 b e2.symm (by have e : some w5.heap.size = some b := e; injection e with e; exact e.symm)
          have nev9 : ∀ b, (Value.slice Av9 _ cv9).ownBlock = some b → b ≠ w5.heap.size := fun b e => by
            rcases hatv9 with h6 | h6
            · exact nev7 b (h6 ▸ e)
            · rw [h6] at e
              injection e with e
              have e9 : w5.heap.size < v7.heap.size := own_blockN (b := w5.heap.size) oLv7 rfl
              omega
          refine hK.out _ _ ((bv9.cell (p := ⟨R.b, 2, none⟩) hRb).trans c2) (fun hHeld => ?_)
          clear hK K
          try simp only [List.getElem_toArray, List.getElem_cons_succ, List.getElem_cons_zero, Act.put, List.setIfInBounds_toArray, List.set_cons_zero, List.set_cons_succ]
          refine wpAnyH_ready (rs := [16]) (by kernel_rfl) (by simp) ?_
          refine AllReadyH.cons (o := _) rfl (fun K hK => ?_) ?_
          · try simp only [List.getElem_toArray, List.getElem_cons_succ, List.getElem_cons_zero, Act.put, List.setIfInBounds_toArray, List.set_cons_zero, List.set_cons_succ]
            refine step_ap (a := ⟨_, _⟩) (by rfl) (.tmp 40) (.tmp 42) 45 (by rfl) eiL w5.heap.size _ _ _ (by rfl) oAv9 _ _ _ _ _ (by rfl) (Reads.of_own oLv9) ?ga16 ?gb16 ?gc16 bv9.size ?_
            case ga16 => first | exact uvs_cells _ | (intro u hu; rw [List.mem_singleton] at hu; subst hu; rfl)
            case gb16 => unfold maxLen; omega
            case gc16 => omega
            intro V v10 oAv10 hgv10 hatv10
            (try rw [Nat.zero_add] at oAv10)
            obtain ⟨Av10, cv10, rfl⟩ := own_is oAv10
            have bv10 : Below w5.heap.size w5 v10 := bv9.grown hgv10 bv9.size (fun k e => own_base oAv9 e)
            refine hK.out _ _ ((bv10.cell (p := ⟨R.b, 2, none⟩) hRb).trans c2) (fun hHeld => ?_)
            clear hK K
            try simp only [List.getElem_toArray, List.getElem_cons_succ, List.getElem_cons_zero, Act.put, List.setIfInBounds_toArray, List.set_cons_zero, List.set_cons_succ]
            refine wpAnyH_take (i := 17) (oi := _) (v := ?_) rfl (by kernel_rfl) (by kernel_rfl) (by kernel_rfl) (fun _ _ _ h => h) (Or.inl ⟨by rfl, ?_⟩) (by assumption) ?_
            rotate_left
            · try simp only [List.getElem_toArray, List.getElem_cons_succ, List.getElem_cons_zero]
              intro w hSw
              (try dsimp only at hSw)
              go_simp
              (try with_reducible rfl)
            try simp only [List.getElem_toArray, List.getElem_cons_succ, List.getElem_cons_zero, Act.put, List.setIfInBounds_toArray, List.set_cons_zero, List.set_cons_succ]
            refine wpAnyH_ready (rs := [18]) (by kernel_rfl) (by simp) ?_
            refine AllReadyH.cons (o := _) rfl (fun K hK => ?_) ?_
            · try simp only [List.getElem_toArray, List.getElem_cons_succ, List.getElem_cons_zero, Act.put, List.setIfInBounds_toArray, List.set_cons_zero, List.set_cons_succ]
              have clv11 := (bv10.cell (p := ⟨R.gL, j, none⟩) hGl).trans cl
              have zzv11 : Blk v10 R.gL 45 _ := (bv10.block R.gL hGl).trans GB
              have zfv11 := zzv11.frozen j
              replace zzv11 := Lib.hid zzv11
              go_simp
              refine hK.out _ _ ((World.cell?_setCell_far _ _ _ _ hne).trans ((bv10.cell (p := ⟨R.b, 2, none⟩) hRb).trans c2)) (fun hHeld => ?_)
              clear hK K
              try simp only [List.getElem_toArray, List.getElem_cons_succ, List.getElem_cons_zero, Act.put, List.setIfInBounds_toArray, List.set_cons_zero, List.set_cons_succ]
              clear clv11 zfv11 zzv11
              refine wpAnyH_done (by kernel_rfl) ?_ _
              refine NoPanic.normal ?_
              have T := Lib.hid (fin.out v10 _ bv10 oAv10)
              go_wp2
              go_end0
              exact ⟨rfl, T.out⟩
            exact AllReadyH.nil
          exact AllReadyH.nil
        exact AllReadyH.nil
      exact AllReadyH.nil
    refine AllReadyH.cons (o := _) rfl (fun K hK => ?_) ?_
    · try simp only [List.getElem_toArray, List.getElem_cons_succ, List.getElem_cons_zero, Act.put, List.setIfInBounds_toArray, List.set_cons_zero, List.set_cons_succ]
      have clv7 := (bv6.cell (p := ⟨R.gL, j, none⟩) hGl).trans cl
      go_simp
      refine hK.out _ _ ((bv6.cell (p := ⟨R.b, 2, none⟩) hRb).trans c2) (fun hHeld => ?_)
      clear hK K
      try simp only [List.getElem_toArray, List.getElem_cons_succ, List.getElem_cons_zero, Act.put, List.setIfInBounds_toArray, List.set_cons_zero, List.set_cons_succ]
      clear clv7
      refine wpAnyH_ready (rs := [5]) (by kernel_rfl) (by simp) ?_
      refine AllReadyH.cons (o := _) rfl (fun K hK => ?_) ?_
      · try simp only [List.getElem_toArray, List.getElem_cons_succ, List.getElem_cons_zero, Act.put, List.setIfInBounds_toArray, List.set_cons_zero, List.set_cons_succ]
        go_simp
        obtain ⟨v8, hv8⟩ : ∃ x, x = World.alloc v6 (.cells #[] 26) := ⟨_, rfl⟩
        have bv8 : Below w5.heap.size w5 v8 := by rw [hv8]; exact bv6.alloc bv6.size _
        have sv8 := Lib.hid (show v8.heap.size = v6.heap.size + 1 by rw [hv8]; exact World.size_alloc _ _)
        have oAv8 := own_zero v6 w5.heap.size bv6.size
        rw [← hv8] at oAv8
        have oLv8 := World.ownsRow.alloc oLv6 (.cells #[] 26)
        rw [← hv8] at oLv8
        have nev8 : ∀ b, (Value.slice (some ⟨v6.heap.size, 0, none⟩) 0 0).ownBlock = some b → b ≠ w5.heap.size := fun b e => by
          have e : some v6.heap.size = some b := e
          injection e with e
          have e9 : w5.heap.size < v6.heap.size := own_blockN (b := w5.heap.size) oLv6 rfl
          omega
        rw [← hv8]
        clear hv8
        refine hK.out _ _ ((bv8.cell (p := ⟨R.b, 2, none⟩) hRb).trans c2) (fun hHeld => ?_)
        clear hK K
        try simp only [List.getElem_toArray, List.getElem_cons_succ, List.getElem_cons_zero, Act.put, List.setIfInBounds_toArray, List.set_cons_zero, List.set_cons_succ]
        refine wpAnyH_ready (rs := [13]) (by kernel_rfl) (by simp) ?_
        refine AllReadyH.cons (o := _) rfl (fun K hK => ?_) ?_
        · try simp only [List.getElem_toArray, List.getElem_cons_succ, List.getElem_cons_zero, Act.put, List.setIfInBounds_toArray, List.set_cons_zero, List.set_cons_succ]
          refine step_ap (a := ⟨_, _⟩) (by rfl) (.tmp 32) (.tmp 39) 45 (by rfl) eiL w5.heap.size _ _ _ (by rfl) oAv8 _ _ _ _ _ (by rfl) (rd.out.below bv8) ?ga17 ?gb17 ?gc17 bv8.size ?_
          case ga17 => first | exact uvs_cells _ | (intro u hu; rw [List.mem_singleton] at hu; subst hu; rfl)
          case gb17 => unfold maxLen; omega
          case gc17 => omega
          intro V v9 oAv9 hgv9 hatv9
          (try rw [Nat.zero_add] at oAv9)
          obtain ⟨Av9, cv9, rfl⟩ := own_is oAv9
          have bv9 : Below w5.heap.size w5 v9 := bv8.grown hgv9 bv8.size (fun k e => own_base oAv8 e)
          have oLv9 := own_keptN oLv8 fun b e => hgv9.block b (own_blockN oLv8 e) fun e2 => nev8 b e2.symm (by have e : some w5.heap.size = some b := e; injection e with e; exact e.symm)
          have nev9 : ∀ b, (Value.slice Av9 _ cv9).ownBlock = some b → b ≠ w5.heap.size := fun b e => by
            rcases hatv9 with h6 | h6
            · exact nev8 b (h6 ▸ e)
            · rw [h6] at e
              injection e with e
              have e9 : w5.heap.size < v8.heap.size := own_blockN (b := w5.heap.size) oLv8 rfl
              omega
          refine hK.out _ _ ((bv9.cell (p := ⟨R.b, 2, none⟩) hRb).trans c2) (fun hHeld => ?_)
          clear hK K
          try simp only [List.getElem_toArray, List.getElem_cons_succ, List.getElem_cons_zero, Act.put, List.setIfInBounds_toArray, List.set_cons_zero, List.set_cons_succ]
          refine wpAnyH_ready (rs := [16]) (by kernel_rfl) (by simp) ?_
          refine AllReadyH.cons (o := _) rfl (fun K hK => ?_) ?_
          · try simp only [List.getElem_toArray, List.getElem_cons_succ, List.getElem_cons_zero, Act.put, List.setIfInBounds_toArray, List.set_cons_zero, List.set_cons_succ]
            refine step_ap (a := ⟨_, _⟩) (by rfl) (.tmp 40) (.tmp 42) 45 (by rfl) eiL w5.heap.size _ _ _ (by rfl) oAv9 _ _ _ _ _ (by rfl) (Reads.of_own oLv9) ?ga18 ?gb18 ?gc18 bv9.size ?_
            case ga18 => first | exact uvs_cells _ | (intro u hu; rw [List.mem_singleton] at hu; subst hu; rfl)
            case gb18 => unfold maxLen; omega
            case gc18 => omega
            intro V v10 oAv10 hgv10 hatv10
            (try rw [Nat.zero_add] at oAv10)
            obtain ⟨Av10, cv10, rfl⟩ := own_is oAv10
            have bv10 : Below w5.heap.size w5 v10 := bv9.grown hgv10 bv9.size (fun k e => own_base oAv9 e)
            refine hK.out _ _ ((bv10.cell (p := ⟨R.b, 2, none⟩) hRb).trans c2) (fun hHeld => ?_)
            clear hK K
            try simp only [List.getElem_toArray, List.getElem_cons_succ, List.getElem_cons_zero, Act.put, List.setIfInBounds_toArray, List.set_cons_zero, List.set_cons_succ]
            refine wpAnyH_take (i := 17) (oi := _) (v := ?_) rfl (by kernel_rfl) (by kernel_rfl) (by kernel_rfl) (fun _ _ _ h => h) (Or.inl ⟨by rfl, ?_⟩) (by assumption) ?_
            rotate_left
            · try simp only [List.getElem_toArray, List.getElem_cons_succ, List.getElem_cons_zero]
              intro w hSw
              (try dsimp only at hSw)
              go_simp
              (try with_reducible rfl)
            try simp only [List.getElem_toArray, List.getElem_cons_succ, List.getElem_cons_zero, Act.put, List.setIfInBounds_toArray, List.set_cons_zero, List.set_cons_succ]
            refine wpAnyH_ready (rs := [18]) (by kernel_rfl) (by simp) ?_
            refine AllReadyH.cons (o := _) rfl (fun K hK => ?_) ?_
            · try simp only [List.getElem_toArray, List.getElem_cons_succ, List.getElem_cons_zero, Act.put, List.setIfInBounds_toArray, List.set_cons_zero, List.set_cons_succ]
              have clv11 := (bv10.cell (p := ⟨R.gL, j, none⟩) hGl).trans cl
              have zzv11 : Blk v10 R.gL 45 _ := (bv10.block R.gL hGl).trans GB
              have zfv11 := zzv11.frozen j
              replace zzv11 := Lib.hid zzv11
              go_simp
              refine hK.out _ _ ((World.cell?_setCell_far _ _ _ _ hne).trans ((bv10.cell (p := ⟨R.b, 2, none⟩) hRb).trans c2)) (fun hHeld => ?_)
              clear hK K
              try simp only [List.getElem_toArray, List.getElem_cons_succ, List.getElem_cons_zero, Act.put, List.setIfInBounds_toArray, List.set_cons_zero, List.set_cons_succ]
              clear clv11 zfv11 zzv11
              refine wpAnyH_done (by kernel_rfl) ?_ _
              refine NoPanic.normal ?_
              have T := Lib.hid (fin.out v10 _ bv10 oAv10)
              go_wp2
              go_end0
              exact ⟨rfl, T.out⟩
            exact AllReadyH.nil
          exact AllReadyH.nil
        exact AllReadyH.nil
      exact AllReadyH.nil
    exact AllReadyH.nil
  exact AllReadyH.nil
end
end Go.Proofs.YtfjiphibalhcgaaGreat.Que
