/-
  The walks of is, handle, chunk and find.
-/
import Derived.Test.YtgodinapdahocaaClassWent
import Derived.Deep.QuietTactic
namespace Go.Proofs.Ytgodinapdahocaa.Cls
open Go.RowKit Base MapG
set_option linter.unusedVariables false

/-- The name of a chunk at a place, of a generation. -/
def hnd (p g : Nat) : Nat := g * 4294967296 + (p / 8 + 1)
theorem handleC (w : World) (p g : Nat) (hp : p ≤ 1073741824) (hg : g < 4294967296) : Calls Try.prog 52 #[.int .i64 (p : Int), .int .u32 (g : Int)] w fun e w' => e = .returned (.int .u64 (hnd p g : Int)) ∧ w = w' := by
  have q1 : ((p : Int)).tdiv 8 = ((p / 8 : Nat) : Int) := by rw [Int.tdiv_eq_ediv_of_nonneg (by omega)]; omega
  have q2 : IntKind.i64.wrap ((p / 8 : Nat) : Int) = ((p / 8 : Nat) : Int) := IntWalk.i64_in _ (by omega)
  have q3 : IntKind.i64.wrap (((p / 8 : Nat) : Int) + 1) = ((p / 8 : Nat) : Int) + 1 := IntWalk.i64_in _ (by omega)
  have q4 : IntKind.u64.wrap (((p / 8 : Nat) : Int) + 1) = ((p / 8 : Nat) : Int) + 1 := IntWalk.u64_in _ (by omega)
  have q5 : IntKind.u64.wrap (g : Int) = (g : Int) := IntWalk.u64_in _ (by omega)
  have q6 : IntKind.u64.wrap ((g : Int) * 4294967296) = (g : Int) * 4294967296 := IntWalk.u64_in _ (by omega)
  have q7 : IntKind.u64.wrap ((g : Int) * 4294967296 + (((p / 8 : Nat) : Int) + 1)) = (hnd p g : Int) := by rw [IntWalk.u64_in _ (by omega)]; unfold hnd; omega
  generalize hq : p / 8 = q at *
  generalize hnd p g = H at *
  clear hq
  go_enter Try.func52, Try.ntmps52
  go_wp2
  go_ret
  exact ⟨rfl, rfl⟩
section
variable {w : World} {L : Lay} {c : Conf} {s : St} {bs : List UInt8}
theorem isC (h : SetAt w L c s bs) (k : Int) : Calls Try.prog 47 #[.pointer (some ⟨L.g, 0, none⟩), .int .i64 k] w fun e w' => e = .returned (.bool (decide (0 ≤ k ∧ k < (c.nc : Int)))) ∧ w = w' := by
  have c8 := h.cSizes
  clear h
  by_cases h0 : 0 ≤ k
  · have d0 : decide (0 ≤ k) = true := decide_eq_true h0
    have e : decide (0 ≤ k ∧ k < (c.nc : Int)) = decide (k < (c.nc : Int)) := by simp [h0]
    rw [e]
    clear e
    go_enter Try.func47, Try.ntmps47
    go_wp2
    go_ret
    exact ⟨rfl, rfl⟩
  · have d0 : decide (0 ≤ k) = false := decide_eq_false h0
    have e : decide (0 ≤ k ∧ k < (c.nc : Int)) = false := by simp; omega
    rw [e]
    clear e
    go_enter Try.func47, Try.ntmps47
    go_wp2
    go_ret
    exact ⟨rfl, rfl⟩
end
theorem drew_here (w : World) : ∃ m, w.drewN m = w := ⟨0, rfl⟩
theorem drew_more {w w' : World} {k : Nat} (h : ∃ m, w.drewN m = w') : ∃ m, w.drewN m = w'.drewN k := by
  obtain ⟨m, rfl⟩ := h
  exact ⟨m + k, by simp [World.drewN, Nat.add_assoc]⟩
theorem tdivN (a b : Nat) : ((a : Int)).tdiv (b : Int) = ((a / b : Nat) : Int) := by rw [Int.tdiv_eq_ediv_of_nonneg (by omega)]; exact (Int.natCast_ediv _ _).symm
theorem tmodN (a b : Nat) : ((a : Int)).tmod (b : Int) = ((a % b : Nat) : Int) := by rw [Int.tmod_eq_emod_of_nonneg (by omega)]; exact (Int.natCast_emod _ _).symm
/-- What chunk answers: the page's pointer and the chunk's number; or none. -/
def chunkV (L : Lay) (r : Option (Nat × Nat)) : Value :=
  match r with
  | some (i, x) => .tuple #[.pointer (some ⟨L.gp, i * 7, none⟩), .int .i64 (x : Int), .bool true]
  | none => .tuple #[.pointer none, .int .i64 0, .bool false]
def chunkN (d : Cf) (s : St) (p : Int) : Option (Nat × Nat) :=
  if 0 ≤ p ∧ p < ((d.ps * d.np : Nat) : Int) then
    (if s.own (p.toNat / d.ps) = true ∧ p.toNat % d.ps % d.sz (s.cls (p.toNat / d.ps)) = 0 ∧ p.toNat % d.ps / d.sz (s.cls (p.toNat / d.ps)) < d.n (s.cls (p.toNat / d.ps)) then some (p.toNat / d.ps, p.toNat % d.ps / d.sz (s.cls (p.toNat / d.ps))) else none) else none
set_option maxRecDepth 100000 in
set_option maxHeartbeats 1600000 in
theorem chunkC (w : World) (L : Lay) (c : Conf) (s : St) (bs : List UInt8) (h : SetAt w L c s bs) (g : Good c.cf s) (p : Int) :
    Calls Try.prog 77 #[.pointer (some ⟨L.g, 0, none⟩), .int .i64 p] w fun e w' => e = .returned (chunkV L (chunkN c.cf s p)) ∧ ∃ m, w.drewN m = w' := by
  have ok := h.okc
  have A := h.arena ok
  have LC := Lib.hid (Arena.lenC w L.ga L.ha c.cf.ps bs A)
  rw [h.len] at LC
  have c0 := h.cPs
  have c7 := h.cArena
  have c8 := h.cSizes
  have c9 := h.cPages
  have H := Lib.hid h
  clear A h
  unfold chunkN
  by_cases h0 : 0 ≤ p
  · obtain ⟨p, rfl⟩ := Int.eq_ofNat_of_zero_le h0
    have d0 : decide ((p : Int) < 0) = false := by simp
    by_cases h1 : p < c.cf.ps * c.cf.np
    · have d1 : decide (((c.cf.ps * c.cf.np : Nat) : Int) ≤ (p : Int)) = false := by simp only [decide_eq_false_iff_not]; omega
      rw [if_pos ⟨h0, by omega⟩, Int.toNat_natCast]
      have d1' : decide (c.cf.ps * c.cf.np ≤ p) = false := by simp only [decide_eq_false_iff_not]; omega
      have b4 := ok.psb
      have b5 := ok.ps
      have b6 := ok.npb
      have hPb : c.cf.ps * c.cf.np ≤ 1048576 * 1024 := Nat.mul_le_mul b4 b6
      have hi : p / c.cf.ps < c.cf.np := by
        refine (Nat.div_lt_iff_lt_mul (by omega)).2 ?_
        rwa [Nat.mul_comm]
      have hr : p % c.cf.ps < c.cf.ps := Nat.mod_lt _ (by omega)
      have q1 := tdivN p c.cf.ps
      have q3 := tmodN p c.cf.ps
      have z0 : ¬ (c.cf.ps : Int) = 0 := by omega
      have p0 := H.out.p0 hi
      have p2 := H.out.p2 hi
      have p3 := fun ho => H.out.p3 hi ho
      have hcl := g.cls (p / c.cf.ps) hi
      have hsz := fun hk => H.out.sz (k := s.cls (p / c.cf.ps)) hk
      have hok := fun hk => ok.sz (s.cls (p / c.cf.ps)) hk
      generalize c.cf.ps * c.cf.np = T at *
      have hpT : p ≤ 1073741824 := by omega
      generalize p / c.cf.ps = i at *
      generalize p % c.cf.ps = r at *
      have q2 : IntKind.i64.wrap (i : Int) = (i : Int) := IntWalk.i64_in _ (by omega)
      have q2r : IntKind.i64.wrap (r : Int) = (r : Int) := IntWalk.i64_in _ (by omega)
      have i0 : (0 : Int) ≤ (i : Int) := by omega
      have i1 : (i : Int) < (c.cf.np : Int) := by omega
      replace ok := Lib.hid ok
      replace hi := Lib.hid hi
      by_cases ho : s.own i = true
      · have hk : s.cls i < c.cf.nc := hcl ho
        have hk' : s.cls i < c.nc := hk
        have dz := hsz hk'
        have p3 := p3 ho
        obtain ⟨e1, e2, e3⟩ := hok hk
        have hn := n_pos ok.out hk
        rw [ho] at p0
        clear hsz hok hcl p3
        have p3 := H.out.p3 hi.out ho
        have k0 : (0 : Int) ≤ (s.cls i : Int) := by omega
        have k1 : (s.cls i : Int) < (c.nc : Int) := by omega
        have hnd : c.cf.n (s.cls i) = c.cf.n (s.cls i) := rfl
        have esz : c.cf.sz (s.cls i) = c.sz (s.cls i) := rfl
        rw [esz] at e1 e2 e3 ⊢
        generalize s.cls i = k at *
        generalize c.sz k = z at *
        generalize c.cf.n k = n at *
        have z1 : ¬ (z : Int) = 0 := by omega
        have q4 := tmodN r z
        have q5 := tdivN r z
        have hd : r / z ≤ r := Nat.div_le_self r z
        have hm : r % z ≤ r := Nat.mod_le r z
        generalize r % z = rm at *
        generalize r / z = rd at *
        have q6 : IntKind.i64.wrap (rd : Int) = (rd : Int) := IntWalk.i64_in _ (by omega)
        have q7 : IntKind.i64.wrap (rm : Int) = (rm : Int) := IntWalk.i64_in _ (by omega)
        clear hnd esz hk hk' e3
        by_cases h2 : rm = 0
        · subst h2
          by_cases h3 : rd < n
          · rw [if_pos ⟨ho, rfl, h3⟩]
            have d3 : decide ((n : Int) ≤ (rd : Int)) = false := by simp; omega
            have d3' : decide (n ≤ rd) = false := by simp; omega
            unfold chunkV
            clear h1
            go_enter Try.func77, Try.ntmps77
            go_wp2_with fail
            refine LC.out.mono ?_
            rintro e w' ⟨rfl, _, rfl⟩
            go_wp2
            try (go_quiet (fail); go_wp2)
            try (go_quiet (fail); go_wp2)
            try (go_quiet (fail); go_wp2)
            try (go_quiet (fail); go_wp2)
            go_ret3
            exact ⟨rfl, by repeat (first | exact drew_here _ | refine drew_more ?_)⟩
          · rw [if_neg (fun e => h3 e.2.2)]
            have d3 : decide ((n : Int) ≤ (rd : Int)) = true := by simp; omega
            have d3' : decide (n ≤ rd) = true := by simp; omega
            unfold chunkV
            clear h1
            go_enter Try.func77, Try.ntmps77
            go_wp2_with fail
            refine LC.out.mono ?_
            rintro e w' ⟨rfl, _, rfl⟩
            go_wp2
            try (go_quiet (fail); go_wp2)
            try (go_quiet (fail); go_wp2)
            try (go_quiet (fail); go_wp2)
            try (go_quiet (fail); go_wp2)
            go_ret3
            exact ⟨rfl, by repeat (first | exact drew_here _ | refine drew_more ?_)⟩
        · rw [if_neg (fun e => h2 e.2.1)]
          have d2 : decide ((rm : Int) = 0) = false := by simp; omega
          have d2' : ((rm : Int) != 0) = true := by rw [bne_iff_ne]; omega
          unfold chunkV
          clear h1
          go_enter Try.func77, Try.ntmps77
          go_wp2_with fail
          refine LC.out.mono ?_
          rintro e w' ⟨rfl, _, rfl⟩
          go_wp2
          try (go_quiet (fail); go_wp2)
          try (go_quiet (fail); go_wp2)
          try (go_quiet (fail); go_wp2)
          try (go_quiet (fail); go_wp2)
          go_ret3
          exact ⟨rfl, by repeat (first | exact drew_here _ | refine drew_more ?_)⟩
      · rw [if_neg (fun e => ho e.1)]
        have ho' : s.own i = false := by simpa using ho
        rw [ho'] at p0
        unfold chunkV
        clear h1 hsz hok hcl p3
        go_enter Try.func77, Try.ntmps77
        go_wp2_with fail
        refine LC.out.mono ?_
        rintro e w' ⟨rfl, _, rfl⟩
        go_wp2
        try (go_quiet (fail); go_wp2)
        go_ret3
        exact ⟨rfl, by repeat (first | exact drew_here _ | refine drew_more ?_)⟩
    · rw [if_neg (fun e => h1 (by omega))]
      have d1 : decide (((c.cf.ps * c.cf.np : Nat) : Int) ≤ (p : Int)) = true := by simp only [decide_eq_true_eq]; omega
      have d1' : decide (c.cf.ps * c.cf.np ≤ p) = true := by simp only [decide_eq_true_eq]; omega
      unfold chunkV
      generalize c.cf.ps * c.cf.np = T at *
      go_enter Try.func77, Try.ntmps77
      go_wp2_with fail
      refine LC.out.mono ?_
      rintro e w' ⟨rfl, rfl⟩
      go_wp2
      go_ret3
      exact ⟨rfl, 0, rfl⟩
  · rw [if_neg (fun e => h0 e.1)]
    have d0 : decide (p < 0) = true := by simp; omega
    unfold chunkV
    go_enter Try.func77, Try.ntmps77
    go_wp2
    go_ret3
    exact ⟨rfl, 0, rfl⟩
theorem results_tmp4 {fn : Func} {t u v x : Tmp} (h : fn.results = #[.tmp t, .tmp u, .tmp v, .tmp x]) (tmps : Array Value) (P : Program) (w : World) :
    (results fn tmps).run P w = .ok (.tuple #[tmps.getD t undef, tmps.getD u undef, tmps.getD v undef, tmps.getD x undef]) w := by
  simp [results, h]
theorem mask (h : Nat) (hh : h < 18446744073709551616) : bits .and .u64 (h : Int) 4294967295 = ((h % 4294967296 : Nat) : Int) := by
  have := u64_and_nat h 4294967295 hh (by decide)
  rw [show ((4294967295 : Nat) : Int) = 4294967295 from rfl] at this
  rw [this, show (4294967295 : Nat) = 2 ^ 32 - 1 from rfl, Nat.and_two_pow_sub_one_eq_mod]
/-- What find answers: the page's pointer, the chunk's number, its place; or none. -/
def findV (L : Lay) (d : Cf) (r : Option (Nat × Nat × Nat)) : Value :=
  match r with
  | some (i, x, p) => .tuple #[.pointer (some ⟨L.gp, i * 7, none⟩), .int .i64 (x : Int), .int .i64 (p : Int), .bool true]
  | none => .tuple #[.pointer none, .int .i64 0, .int .i64 0, .bool false]
def findN (d : Cf) (s : St) (h : Nat) : Option (Nat × Nat × Nat) :=
  if h % 4294967296 = 0 ∨ d.ps * d.np / 8 < h % 4294967296 then none else
    match chunkN d s (((h % 4294967296 - 1) * 8 : Nat) : Int) with
    | some (i, x) => if s.tkn i x = true ∧ s.gens i x = h / 4294967296 then some (i, x, (h % 4294967296 - 1) * 8) else none
    | none => none
set_option maxRecDepth 100000 in
set_option maxHeartbeats 1600000 in
theorem findC (w : World) (L : Lay) (c : Conf) (s : St) (bs : List UInt8) (h : SetAt w L c s bs) (g : Good c.cf s) (H : Nat) (hH : H < 18446744073709551616) :
    Calls Try.prog 53 #[.pointer (some ⟨L.g, 0, none⟩), .int .u64 (H : Int)] w fun e w' => e = .returned (findV L c.cf (findN c.cf s H)) ∧ ∃ m, w.drewN m = w' := by
  have ok := h.okc
  have A := h.arena ok
  have LC := Lib.hid (Arena.lenC w L.ga L.ha c.cf.ps bs A)
  rw [h.len] at LC
  have CC := Lib.hid (chunkC w L c s bs h g)
  have c7 := h.cArena
  have hs := Lib.hid h
  clear A h
  have b4 := ok.psb
  have b5 := ok.ps
  have b6 := ok.npb
  have hPb : c.cf.ps * c.cf.np ≤ 1048576 * 1024 := Nat.mul_le_mul b4 b6
  have m1 := mask H hH
  have m2 : ((H : Int) / 4294967296) = ((H / 4294967296 : Nat) : Int) := by omega
  have m3 : H / 4294967296 < 4294967296 := by omega
  have m4 : H % 4294967296 < 4294967296 := by omega
  unfold findN
  have hcn : ∀ p i x, chunkN c.cf s p = some (i, x) → i < c.cf.np ∧ s.own i = true ∧ x < c.cf.n (s.cls i) := by
    intro p i x e
    unfold chunkN at e
    split at e
    · rename_i hp
      split at e
      · rename_i hh
        injection e with e
        injection e with e1 e2
        rw [e1] at hh e2
        rw [e2] at hh
        exact ⟨g.top i hh.1, hh.1, hh.2.2⟩
      · cases e
    · cases e
  generalize H % 4294967296 = n at *
  generalize H / 4294967296 = u at *
  have m5 : IntKind.u32.wrap (u : Int) = (u : Int) := IntWalk.u32_in _ (by omega)
  have q1 : (((c.cf.ps * c.cf.np : Nat) : Int)).tdiv 8 = ((c.cf.ps * c.cf.np / 8 : Nat) : Int) := by rw [Int.tdiv_eq_ediv_of_nonneg (by omega)]; omega
  generalize c.cf.ps * c.cf.np = T at *
  have q2 : IntKind.i64.wrap ((T / 8 : Nat) : Int) = ((T / 8 : Nat) : Int) := IntWalk.i64_in _ (by omega)
  have q3 : IntKind.u64.wrap ((T / 8 : Nat) : Int) = ((T / 8 : Nat) : Int) := IntWalk.u64_in _ (by omega)
  have hT8 : T / 8 ≤ 134217728 := by omega
  generalize T / 8 = t at *
  clear hPb
  replace ok := Lib.hid ok
  by_cases h0 : n = 0
  · rw [if_pos (.inl h0)]
    have d0 : decide ((n : Int) = 0) = true := by simp; omega
    have d0' : decide (n = 0) = true := by simp; omega
    unfold findV
    clear hcn
    go_enter Try.func53, Try.ntmps53
    go_wp2
    (try simp only [Exit.inBlock, Exit.then]); refine bodyPost_ret (results_tmp4 rfl _ _ _) rfl ?_
    exact ⟨rfl, 0, rfl⟩
  · have d0 : decide ((n : Int) = 0) = false := by simp; omega
    have d0' : decide (n = 0) = false := by simp; omega
    by_cases h1 : t < n
    · rw [if_pos (.inr h1)]
      have d1 : decide ((t : Int) < (n : Int)) = true := by simp; omega
      have d1' : decide (t < n) = true := by simp; omega
      unfold findV
      clear hcn
      go_enter Try.func53, Try.ntmps53
      go_wp2_with fail
      refine LC.out.mono ?_
      rintro e w' ⟨rfl, rfl⟩
      go_wp2
      (try simp only [Exit.inBlock, Exit.then]); refine bodyPost_ret (results_tmp4 rfl _ _ _) rfl ?_
      exact ⟨rfl, 0, rfl⟩
    · rw [if_neg (fun e => e.elim h0 h1)]
      have d1 : decide ((t : Int) < (n : Int)) = false := by simp; omega
      have d1' : decide (t < n) = false := by simp; omega
      have q4 : IntKind.u64.wrap ((n : Int) - 1) = (n : Int) - 1 := IntWalk.u64_in _ (by omega)
      have q5 : IntKind.i64.wrap ((n : Int) - 1) = (n : Int) - 1 := IntWalk.i64_in _ (by omega)
      have q6 : IntKind.i64.wrap (((n : Int) - 1) * 8) = (((n - 1) * 8 : Nat) : Int) := by rw [IntWalk.i64_in _ (by omega)]; omega
      have C1 := Lib.hid (CC.out (((n - 1) * 8 : Nat) : Int))
      have hcn := hcn (((n - 1) * 8 : Nat) : Int)
      clear CC
      generalize (n - 1) * 8 = P at *
      cases hch : chunkN c.cf s (P : Int) with
      | none =>
        rw [hch] at C1
        unfold chunkV at C1
        clear hcn hch
        simp only
        unfold findV
        go_enter Try.func53, Try.ntmps53
        go_wp2_with fail
        refine LC.out.mono ?_
        rintro e w' ⟨rfl, rfl⟩
        go_wp2_with fail
        refine C1.out.mono ?_
        rintro e w' ⟨rfl, m, rfl⟩
        go_wp2
        (try simp only [Exit.inBlock, Exit.then]); refine bodyPost_ret (results_tmp4 rfl _ _ _) rfl ?_
        exact ⟨rfl, by repeat (first | exact drew_here _ | refine drew_more ?_)⟩
      | some r =>
        obtain ⟨i, x⟩ := r
        rw [hch] at C1
        obtain ⟨hi, ho, hx⟩ := hcn i x hch
        unfold chunkV at C1
        clear hcn hch
        simp only at C1 ⊢
        have x0 : (0 : Int) ≤ (x : Int) := by omega
        have x1 : (x : Int) < (c.cf.n (s.cls i) : Int) := by omega
        have p3 := fun m => (hs.out.drewN m).p3 hi ho
        have p4 := fun m => (hs.out.drewN m).p4 hi ho
        have tk := fun m => (hs.out.drewN m).tk hi ho hx
        have gn := fun m => (hs.out.drewN m).gen hi ho hx
        have hgb := g.gen i x
        cases ht : s.tkn i x with
        | false =>
          rw [if_neg (fun e => by cases e.1)]
          unfold findV
          simp only [ht] at tk
          go_enter Try.func53, Try.ntmps53
          go_wp2_with fail
          refine LC.out.mono ?_
          rintro e w' ⟨rfl, rfl⟩
          go_wp2_with fail
          refine C1.out.mono ?_
          rintro e w' ⟨rfl, m, rfl⟩
          have p3 := p3 m
          have p4 := p4 m
          have tk := tk m
          have gn := gn m
          go_wp2
          (try simp only [Exit.inBlock, Exit.then]); refine bodyPost_ret (results_tmp4 rfl _ _ _) rfl ?_
          exact ⟨rfl, by repeat (first | exact drew_here _ | refine drew_more ?_)⟩
        | true =>
          simp only [ht] at tk
          by_cases hgu : s.gens i x = u
          · rw [if_pos ⟨rfl, hgu⟩]
            unfold findV
            have d2 : decide (s.gens i x = u) = true := by simp [hgu]
            have d2n : ((s.gens i x : Int) != (u : Int)) = false := by rw [bne_eq_false_iff_eq]; omega
            replace hgu := Lib.hid hgu
            go_enter Try.func53, Try.ntmps53
            go_wp2_with fail
            refine LC.out.mono ?_
            rintro e w' ⟨rfl, rfl⟩
            go_wp2_with fail
            refine C1.out.mono ?_
            rintro e w' ⟨rfl, m, rfl⟩
            have p3 := p3 m
            have p4 := p4 m
            have tk := tk m
            have gn := gn m
            go_wp2
            (try simp only [Exit.inBlock, Exit.then]); refine bodyPost_ret (results_tmp4 rfl _ _ _) rfl ?_
            exact ⟨rfl, by repeat (first | exact drew_here _ | refine drew_more ?_)⟩
          · rw [if_neg (fun e => hgu e.2)]
            unfold findV
            have d2n : ((s.gens i x : Int) != (u : Int)) = true := by rw [bne_iff_ne]; omega
            go_enter Try.func53, Try.ntmps53
            go_wp2_with fail
            refine LC.out.mono ?_
            rintro e w' ⟨rfl, rfl⟩
            go_wp2_with fail
            refine C1.out.mono ?_
            rintro e w' ⟨rfl, m, rfl⟩
            have p3 := p3 m
            have p4 := p4 m
            have tk := tk m
            have gn := gn m
            go_wp2
            (try simp only [Exit.inBlock, Exit.then]); refine bodyPost_ret (results_tmp4 rfl _ _ _) rfl ?_
            exact ⟨rfl, by repeat (first | exact drew_here _ | refine drew_more ?_)⟩
end Go.Proofs.Ytgodinapdahocaa.Cls
