/-
  Contracts and lemmas, joined: ItemLays, ItemSeg, ItemEnc, ClassFillPlain, ClassTook, ClassOf, ItemSets, ItemLink, Zed, QueueMem.
-/
import Derived.Test.YtngehaiigbbknaaGreatJ4
set_option linter.unusedSimpArgs false
set_option linter.unusedVariables false
set_option linter.unusedSectionVars false
set_option maxRecDepth 100000
/-
  item.Lay of an item that fits (printed by wip/gen_itemlay.py).
-/
namespace Go.Proofs.YtngehaiigbbknaaGreat.Itm
open Go.RowKit Base Arena Cls
structure It where
  key : List UInt8
  val : List UInt8
  fl : Nat
  ex : Nat
  tc : Nat
  tk : Nat
  st : Nat
  ms : Nat
structure It.Fine (t : It) : Prop where
  legal : legalN t.key = true
  fl : t.fl < 4294967296
  ex : t.ex < 9223372036854775808
  tc : t.tc < 9223372036854775808
  tk : t.tk < 18446744073709551616
  st1 : 1 <= t.st
  st4 : t.st <= 4
  ms : t.ms < 16
def It.cells (t : It) (Ak Av : Option Addr) (ck cv : Nat) : Array Value :=
  #[.slice Ak t.key.length ck, .slice Av t.val.length cv, .int .u64 (t.fl : Int), .int .i64 (t.ex : Int), .int .i64 (t.tc : Int), .int .u64 (t.tk : Int), .int .i64 (t.st : Int), .int .i64 (t.ms : Int)]
theorem It.cells_eq (t : It) (Ak Av : Option Addr) (ck cv : Nat) : t.cells Ak Av ck cv =
  #[.slice Ak t.key.length ck, .slice Av t.val.length cv, .int .u64 (t.fl : Int), .int .i64 (t.ex : Int), .int .i64 (t.tc : Int), .int .u64 (t.tk : Int), .int .i64 (t.st : Int), .int .i64 (t.ms : Int)] := rfl
theorem legal_len {l : List UInt8} (h : legalN l = true) : 1 <= l.length /\ l.length <= 250 := by
  unfold legalN at h
  simp at h
  omega
def links (l : List UInt8) (p : Nat) : Nat -> List UInt8
  | 0 => l
  | m + 1 => lay (links l p m) (p + 4 * m) (putB 4 0)
def h16 (l : List UInt8) (p : Nat) (t : It) : List UInt8 := lay (links l p 3) (p + 16) (putB 8 t.ex)
def h24 (l : List UInt8) (p : Nat) (t : It) : List UInt8 := lay (h16 l p t) (p + 24) (putB 8 t.tc)
def h32 (l : List UInt8) (p : Nat) (t : It) : List UInt8 := lay (h24 l p t) (p + 32) (putB 8 t.tk)
def h40 (l : List UInt8) (p : Nat) (t : It) : List UInt8 := lay (h32 l p t) (p + 40) (putB 4 t.fl)
def h44 (l : List UInt8) (p : Nat) (t : It) : List UInt8 := lay (h40 l p t) (p + 44) (putB 1 t.key.length)
def h45 (l : List UInt8) (p : Nat) (t : It) : List UInt8 := lay (h44 l p t) (p + 45) (putB 1 t.st)
def h46 (l : List UInt8) (p : Nat) (t : It) : List UInt8 := lay (h45 l p t) (p + 46) (putB 1 t.ms)
def h47 (l : List UInt8) (p k : Nat) (t : It) : List UInt8 := lay (h46 l p t) (p + 47) (putB 1 k)
def h52 (l : List UInt8) (p k : Nat) (t : It) : List UInt8 := lay (h47 l p k t) (p + 52) (putB 4 0)
def h56 (l : List UInt8) (p k : Nat) (t : It) : List UInt8 := lay (h52 l p k t) (p + 56) t.key
def itemB (l : List UInt8) (p k : Nat) (t : It) : List UInt8 := layV (h56 l p k t) p t.key.length t.val
section
variable (l : List UInt8) (p k : Nat) (t : It)
theorem links_len (h : p + 12 <= l.length) : ∀ m, m <= 3 -> (links l p m).length = l.length
  | 0, _ => rfl
  | m + 1, hm => by
    unfold links
    rw [putlen _ _ _ _ (by rw [links_len h m (by omega)]; omega), links_len h m (by omega)]
theorem h16_len (h : p + 56 <= l.length) : (h16 l p t).length = l.length := by unfold h16; rw [putlen _ _ _ _ (by rw [links_len l p (by omega) 3 (by omega)]; omega), links_len l p (by omega) 3 (by omega)]
theorem h24_len (h : p + 56 <= l.length) : (h24 l p t).length = l.length := by unfold h24; rw [putlen _ _ _ _ (by rw [h16_len l p t h]; omega), h16_len l p t h]
theorem h32_len (h : p + 56 <= l.length) : (h32 l p t).length = l.length := by unfold h32; rw [putlen _ _ _ _ (by rw [h24_len l p t h]; omega), h24_len l p t h]
theorem h40_len (h : p + 56 <= l.length) : (h40 l p t).length = l.length := by unfold h40; rw [putlen _ _ _ _ (by rw [h32_len l p t h]; omega), h32_len l p t h]
theorem h44_len (h : p + 56 <= l.length) : (h44 l p t).length = l.length := by unfold h44; rw [putlen _ _ _ _ (by rw [h40_len l p t h]; omega), h40_len l p t h]
theorem h45_len (h : p + 56 <= l.length) : (h45 l p t).length = l.length := by unfold h45; rw [putlen _ _ _ _ (by rw [h44_len l p t h]; omega), h44_len l p t h]
theorem h46_len (h : p + 56 <= l.length) : (h46 l p t).length = l.length := by unfold h46; rw [putlen _ _ _ _ (by rw [h45_len l p t h]; omega), h45_len l p t h]
theorem h47_len (h : p + 56 <= l.length) : (h47 l p k t).length = l.length := by unfold h47; rw [putlen _ _ _ _ (by rw [h46_len l p t h]; omega), h46_len l p t h]
theorem h52_len (h : p + 56 <= l.length) : (h52 l p k t).length = l.length := by unfold h52; rw [putlen _ _ _ _ (by rw [h47_len l p k t h]; omega), h47_len l p k t h]
theorem h56_len (h : p + 56 + t.key.length <= l.length) : (h56 l p k t).length = l.length := by unfold h56; rw [lay_len _ _ _ (by rw [h52_len l p k t (by omega)]; omega), h52_len l p k t (by omega)]
theorem layV_len (K : Nat) (v : List UInt8) (h : p + 56 + K + v.length + 2 <= l.length) : (layV l p K v).length = l.length := by
  have e1 : (lay l (p + 48) (putB 4 v.length)).length = l.length := putlen _ _ _ _ (by omega)
  have e2 : (lay (lay l (p + 48) (putB 4 v.length)) (p + (56 + K)) v).length = l.length := by rw [lay_len _ _ _ (by rw [e1]; omega), e1]
  unfold layV
  rw [lay_len _ _ _ (by rw [e2]; simp; omega), e2]
theorem itemB_len (h : p + 58 + t.key.length + t.val.length <= l.length) : (itemB l p k t).length = l.length := by
  unfold itemB
  rw [layV_len _ _ _ _ (by rw [h56_len l p k t (by omega)]; omega), h56_len l p k t (by omega)]
theorem h56_key (h : p + 56 + t.key.length <= l.length) (hk : t.key.length < 256) : rd (h56 l p k t) (p + 44) 1 = t.key.length := by
  have e := h40_len l p t (by omega)
  have e1 := h44_len l p t (by omega)
  have e2 := h45_len l p t (by omega)
  have e3 := h46_len l p t (by omega)
  have e4 := h47_len l p k t (by omega)
  have e5 := h52_len l p k t (by omega)
  unfold h56
  rw [rd_out _ _ _ _ _ (by omega) (by omega)]
  unfold h52
  rw [rd_out _ _ _ _ _ (by rw [putB_len]; omega) (by omega)]
  unfold h47
  rw [rd_out _ _ _ _ _ (by rw [putB_len]; omega) (by omega)]
  unfold h46
  rw [rd_out _ _ _ _ _ (by rw [putB_len]; omega) (by omega)]
  unfold h45
  rw [rd_out _ _ _ _ _ (by rw [putB_len]; omega) (by omega)]
  unfold h44
  exact rd_lay _ _ _ _ (by omega) (by omega)
end
structure LS (w0 w : World) (g h page N0 N1 : Nat) (c0 c1 : Array Value) (Ak Av : Option Addr) (B : Nat) (key val : List UInt8) (l : List UInt8) : Prop where
  at_ : At w g h page l
  b0 : Blk w N0 151 c0
  b1 : Blk w N1 200 c1
  k : Bytes w B Ak key
  v : Bytes w B Av val
  o : Only (· = h) w0 w
  n0 : N0 ≠ h
  n1 : N1 ≠ h
  ak : ∀ b off, Ak = some ⟨b, off, none⟩ -> b ≠ h
  av : val ≠ [] -> ∀ b off, Av = some ⟨b, off, none⟩ -> b ≠ h
theorem LS.step {w0 w w' : World} {g h page N0 N1 : Nat} {c0 c1 : Array Value} {Ak Av : Option Addr} {B : Nat} {key val l l' : List UInt8} (S : LS w0 w g h page N0 N1 c0 c1 Ak Av B key val l) (a : At w' g h page l') (o : Only (· = h) w w') :
    LS w0 w' g h page N0 N1 c0 c1 Ak Av B key val l' :=
  ⟨a, o.at_ S.b0 S.n0, o.at_ S.b1 S.n1, o.row S.k S.ak, only_bytes o S.v S.av, S.o.trans o fun _ _ h => h, S.n0, S.n1, S.ak, S.av⟩
theorem LS.cells {w0 w : World} {g h page N0 N1 p k n : Nat} {t : It} {Ak Av : Option Addr} {ck cv B : Nat} {key val l : List UInt8} (S : LS w0 w g h page N0 N1 (t.cells Ak Av ck cv) (kv g p k n) Ak Av B key val l) :
    w.cell? ⟨N1, 0, none⟩ = some (.pointer (some ⟨g, 0, none⟩)) /\ w.cell? ⟨N1, 1, none⟩ = some (.int .i64 (p : Int)) /\ w.cell? ⟨N1, 2, none⟩ = some (.int .i64 (k : Int)) /\ w.cell? ⟨N1, 3, none⟩ = some (.int .i64 (n : Int)) /\
    w.cell? ⟨N0, 0, none⟩ = some (.slice Ak t.key.length ck) /\ w.cell? ⟨N0, 1, none⟩ = some (.slice Av t.val.length cv) /\ w.cell? ⟨N0, 2, none⟩ = some (.int .u64 (t.fl : Int)) /\ w.cell? ⟨N0, 3, none⟩ = some (.int .i64 (t.ex : Int)) /\
    w.cell? ⟨N0, 4, none⟩ = some (.int .i64 (t.tc : Int)) /\ w.cell? ⟨N0, 5, none⟩ = some (.int .u64 (t.tk : Int)) /\ w.cell? ⟨N0, 6, none⟩ = some (.int .i64 (t.st : Int)) /\ w.cell? ⟨N0, 7, none⟩ = some (.int .i64 (t.ms : Int)) :=
  ⟨S.b1.cell 0, S.b1.cell 1, S.b1.cell 2, S.b1.cell 3, S.b0.cell 0, S.b0.cell 1, S.b0.cell 2, S.b0.cell 3, S.b0.cell 4, S.b0.cell 5, S.b0.cell 6, S.b0.cell 7⟩
set_option maxHeartbeats 4000000 in
theorem itemLayYes (w : World) (L : Lay) (c : Conf) (s : St) (bs : List UInt8) (h : SetAt w L c s bs) (g : Cls.Good c.cf s) (H : Nat) (hH : H < 18446744073709551616) (i x p : Nat) (hf : findN c.cf s H = some (i, x, p)) (hk : s.cls i < c.nc) (hnc : c.nc <= 256)
    (hc : Ck c.cf.ps bs.length p (c.sz (s.cls i))) (t : It) (F : t.Fine) (hn : 58 + t.key.length + t.val.length <= c.sz (s.cls i)) (Ak Av : Option Addr) (ck cv B : Nat) (hK : Bytes w B Ak t.key) (hV : Bytes w B Av t.val)
    (ak : ∀ b off, Ak = some ⟨b, off, none⟩ -> b ≠ L.ha) (av : t.val ≠ [] -> ∀ b off, Av = some ⟨b, off, none⟩ -> b ≠ L.ha) :
    Calls Tryz.prog 85 #[.pointer (some ⟨L.g, 0, none⟩), .int .u64 (H : Int), .agg (t.cells Ak Av ck cv)] w fun e w' => e = .returned (.int .i64 0) /\ SetAt w' L c s (itemB bs p (s.cls i) t) /\ Only (· = L.ha) w w' := by
  obtain ⟨w1, hw1⟩ : ∃ w1, w1 = w.alloc (.cells (t.cells Ak Av ck cv) 151) := ⟨_, rfl⟩
  have ok := h.okc
  have A0 := h.arena ok
  have h1 : SetAt w1 L c s bs := by rw [hw1]; exact h.alloc _
  have o1 : Only (· = L.ha) w w1 := by rw [hw1]; exact (Only.refl _ _).alloc _
  have B1 : Blk w1 w.heap.size 151 (t.cells Ak Av ck cv) := by rw [hw1]; exact Blk.new w _ _
  have s1 : w1.heap.size = w.heap.size + 1 := by rw [hw1]; exact World.size_alloc _ _
  have k1 : Bytes w1 B Ak t.key := o1.row hK ak
  have v1 : Bytes w1 B Av t.val := only_bytes o1 hV av
  have hN0 : w.heap.size ≠ L.ha := by have := A0.bytes.lt; omega
  have OC := openYes w1 L c s bs h1 g H hH i x p hf hk
  obtain ⟨hl1, hl2⟩ := legal_len F.legal
  have hst := F.st1
  have hst4 := F.st4
  have hmk := F.ms
  have hfl := F.fl
  have hex := F.ex
  have htc := F.tc
  have htk := F.tk
  have hall := hc.all
  have hsmall := A0.small
  have LC := Lib.hid (fun w B' (hB : Bytes w B' Ak t.key) => legalC Ak ck B' t.key w hB (by unfold maxLen; omega))
  rw [F.legal] at LC
  have MC := marksC
  have hm0 : marksN (t.ms : Int) = true := by unfold marksN; simp; omega
  have MC1 := Lib.hid (fun w => MC w (t.ms : Int))
  rw [hm0] at MC1
  clear MC hm0
  have hcls : s.cls i < 256 := by omega
  generalize hn0 : c.sz (s.cls i) = n at *
  generalize hk0 : s.cls i = k at *
  have d1 : decide ((n : Int) - 58 - (t.key.length : Int) < (t.val.length : Int)) = false := decide_eq_false (by omega)
  have q1 : IntKind.i64.wrap ((n : Int) - 58) = (n : Int) - 58 := IntWalk.i64_in _ (by omega)
  have q2 : IntKind.i64.wrap ((n : Int) - 58 - (t.key.length : Int)) = (n : Int) - 58 - (t.key.length : Int) := IntWalk.i64_in _ (by omega)
  have e1 : decide ((t.st : Int) < 1) = false := decide_eq_false (by omega)
  have e2 : decide (4 < (t.st : Int)) = false := decide_eq_false (by omega)
  have e3 : decide (4294967295 < (t.fl : Int)) = false := decide_eq_false (by omega)
  have e4 : decide ((t.ex : Int) < 0) = false := decide_eq_false (by omega)
  have e5 : decide ((t.tc : Int) < 0) = false := decide_eq_false (by omega)
  have r1 : IntKind.u64.wrap (t.ex : Int) = (t.ex : Int) := IntWalk.u64_in _ (by omega)
  have r2 : IntKind.u64.wrap (t.tc : Int) = (t.tc : Int) := IntWalk.u64_in _ (by omega)
  have r3 : IntKind.u32.wrap (t.fl : Int) = (t.fl : Int) := IntWalk.u32_in _ (by omega)
  have r4 : IntKind.u8.wrap (t.key.length : Int) = (t.key.length : Int) := IntWalk.u8_in _ (by omega)
  have r5 : IntKind.u8.wrap (t.st : Int) = (t.st : Int) := IntWalk.u8_in _ (by omega)
  have r6 : IntKind.u8.wrap (t.ms : Int) = (t.ms : Int) := IntWalk.u8_in _ (by omega)
  have r7 : IntKind.u8.wrap (k : Int) = (k : Int) := IntWalk.u8_in _ (by omega)
  have r8 : IntKind.i64.wrap ((p : Int) + 56) = ((p + 56 : Nat) : Int) := by rw [IntWalk.i64_in _ (by omega)]; omega
  rw [It.cells_eq] at hw1 ⊢
  rw [kv_eq] at OC
  obtain ⟨y0, y1, y2, y3, y4, y5, y6, y7⟩ : w1.cell? ⟨w.heap.size, 0, none⟩ = some (.slice Ak t.key.length ck) /\ w1.cell? ⟨w.heap.size, 1, none⟩ = some (.slice Av t.val.length cv) /\ w1.cell? ⟨w.heap.size, 2, none⟩ = some (.int .u64 (t.fl : Int)) /\ w1.cell? ⟨w.heap.size, 3, none⟩ = some (.int .i64 (t.ex : Int)) /\
    w1.cell? ⟨w.heap.size, 4, none⟩ = some (.int .i64 (t.tc : Int)) /\ w1.cell? ⟨w.heap.size, 5, none⟩ = some (.int .u64 (t.tk : Int)) /\ w1.cell? ⟨w.heap.size, 6, none⟩ = some (.int .i64 (t.st : Int)) /\ w1.cell? ⟨w.heap.size, 7, none⟩ = some (.int .i64 (t.ms : Int)) :=
    ⟨B1.cell 0, B1.cell 1, B1.cell 2, B1.cell 3, B1.cell 4, B1.cell 5, B1.cell 6, B1.cell 7⟩
  replace hw1 := Lib.hid hw1
  replace OC := Lib.hid OC
  replace o1 := Lib.hid o1
  replace h := Lib.hid h
  replace h1 := Lib.hid h1
  replace s1 := Lib.hid s1
  replace B1 := Lib.hid B1
  replace k1 := Lib.hid k1
  replace v1 := Lib.hid v1
  replace F := Lib.hid F
  have hn56 : 56 <= n := by omega
  have hpl : p + 56 <= bs.length := by omega
  have hkb : t.key.length < 256 := by omega
  replace hn := Lib.hid hn
  clear hst hst4 hmk hfl hex htc htk hK hV hf hk hn0 hnc
  generalize hN : w.heap.size = N at *
  replace hN := Lib.hid hN
  go_enter Tryz.func85, Tryz.ntmps85
  go_upto_region 1 with fail
  rw [hN.out, <- hw1.out]
  go_wp2_with fail
  refine OC.out.mono ?_
  rintro e w2 ⟨rfl, b2⟩
  have h2 : SetAt w2 L c s bs := h1.out.kept fun b hb => b2.block b (h1.out.lt hb)
  have A2 := h2.arena ok
  have o2 := o1.out.trans (Only.of_below b2 (Nat.le_refl _) (· = L.ha)) fun _ _ h => h
  have k2 : Bytes w2 B Ak t.key := (Only.of_below b2 (Nat.le_refl _) (· = L.ha)).row k1.out ak
  have v2 : Bytes w2 B Av t.val := only_bytes (Only.of_below b2 (Nat.le_refl _) (· = L.ha)) v1.out av
  have B2 := B1.out.below b2 (by have := s1.out; omega)
  obtain ⟨w3, hw3⟩ : ∃ w3, w3 = w2.alloc (.cells #[.pointer (some ⟨L.ga, 0, none⟩), .int .i64 (p : Int), .int .i64 (k : Int), .int .i64 (n : Int)] 200) := ⟨_, rfl⟩
  have hN1 : w2.heap.size ≠ L.ha := by have := A2.bytes.lt; omega
  have S : LS w w3 L.ga L.ha c.cf.ps N w2.heap.size (t.cells Ak Av ck cv) (kv L.ga p k n) Ak Av B t.key t.val bs := by
    have o23 : Only (· = L.ha) w2 w3 := by rw [hw3]; exact (Only.refl _ _).alloc _
    refine ⟨?_, o23.at_ B2 hN0, ?_, o23.row k2 ak, only_bytes o23 v2 av, o2.trans o23 fun _ _ h => h, hN0, hN1, ak, av⟩
    · rw [hw3]; exact A2.keep (Below.heap_alloc w2 _ _ (heap_lt A2.head)) (Below.heap_alloc w2 _ _ A2.bytes.lt)
    · rw [hw3, <- kv_eq]; exact Blk.new w2 _ _
  replace hw3 := Lib.hid hw3
  clear b2 h1 h2 A2 o2 k2 v2 B2 B1 OC o1 k1 v1 hw1 y0 y1 y2 y3 y4 y5 y6 y7 hN0 hN1 s1
  generalize hN2 : w2.heap.size = N1 at *
  replace hN2 := Lib.hid hN2
  obtain ⟨x0, x1, x2, x3, y0, y1, y2, y3, y4, y5, y6, y7⟩ := S.cells
  have LC3 := Lib.hid (LC.out w3 B S.k)
  replace S := Lib.hid S
  go_upto_region 2 with fail
  rw [hN2.out, <- hw3.out]
  clear LC hN2 hw3
  go_wp2_with fail
  refine LC3.out.mono ?_
  rintro e w' ⟨rfl, rfl⟩
  clear LC3
  go_wp2_with (first | (go_at_call 124; refine (MC1.out _).mono ?_; rintro e w' ⟨rfl, rfl⟩) | fail)
  clear MC1 d1 q1 q2 e1 e2 e3 e4 e5 x0 x1 x2 x3 y0 y1 y2 y3 y4 y5 y6 y7
  go_loopw [67] (fun v wr => ∃ m : Nat, m <= 3 /\ v = .int .i64 (m : Int) /\ Hid (LS w wr L.ga L.ha c.cf.ps N N1 (t.cells Ak Av ck cv) (kv L.ga p k n) Ak Av B t.key t.val (links bs p m))) (fun v _ => 3 - (intOf v).toNat)
  case atStart => exact ⟨0, by omega, rfl, S⟩
  case round =>
    obtain ⟨m, hm, rfl, S⟩ := hrel
    obtain ⟨x0, x1, x2, x3, y0, y1, y2, y3, y4, y5, y6, y7⟩ := S.out.cells
    by_cases hm3 : m < 3
    · have d1 : decide ((m : Int) < 3) = true := decide_eq_true (by omega)
      have P := put32C wr L.ga L.ha c.cf.ps _ S.out.at_ p (4 * m) k n 0 (by omega) (by rw [links_len bs p (by omega) m (by omega)]; exact hc.there (4 * m) 4 (by omega))
      have q1 : IntKind.i64.wrap (4 * (m : Int)) = ((4 * m : Nat) : Int) := by rw [IntWalk.i64_in _ (by omega)]; omega
      have q2 : IntKind.i64.wrap ((4 * m : Nat) : Int) = ((4 * m : Nat) : Int) := IntWalk.i64_in _ (by omega)
      have S2 := Lib.hid fun w' a o => S.out.step (w' := w') (l' := links bs p (m + 1)) a o
      have hl : links bs p (m + 1) = lay (links bs p m) (p + 4 * m) (putB 4 0) := rfl
      rw [<- hl] at P
      clear hl
      rw [kv_eq, show ((0 : Nat) : Int) = 0 from rfl] at P
      replace P := Lib.hid P
      generalize 4 * m = m4 at *
      clear S
      go_wp2_with fail
      refine P.out.mono ?_
      rintro e w' ⟨rfl, a, o⟩
      have S := Lib.hid (S2.out w' a o)
      clear a o P S2 x0 x1 x2 x3 y0 y1 y2 y3 y4 y5 y6 y7
      go_wp2
      go_roundw
      case rel => exact ⟨m + 1, by omega, by simp, S⟩
      case measure => simp [intOf] <;> omega
    · obtain rfl : m = 3 := by omega
      clear hm hm3
      rename World => w4
      have P := put64C w4 L.ga L.ha c.cf.ps _ S.out.at_ p 16 k n t.ex (by have := F.out.ex; omega) (by rw [links_len bs p (by omega) 3 (by omega)]; exact hc.there 16 8 (by omega))
      have hl : h16 bs p t = lay (links bs p 3) (p + 16) (putB 8 (t.ex)) := rfl
      rw [<- hl] at P
      clear hl
      rw [kv_eq, show ((16 : Nat) : Int) = 16 from rfl] at P
      have S2 := Lib.hid fun w' a o => S.out.step (w' := w') (l' := h16 bs p t) a o
      replace P := Lib.hid P
      clear S
      go_wp2_with fail
      refine P.out.mono ?_
      rintro e w5 ⟨rfl, a, o⟩
      have S := Lib.hid (S2.out w5 a o)
      clear a o P S2 x0 x1 x2 x3 y0 y1 y2 y3 y4 y5 y6 y7
      obtain ⟨x0, x1, x2, x3, y0, y1, y2, y3, y4, y5, y6, y7⟩ := S.out.cells
      have P := put64C w5 L.ga L.ha c.cf.ps _ S.out.at_ p 24 k n t.tc (by have := F.out.tc; omega) (by rw [h16_len bs p t hpl]; exact hc.there 24 8 (by omega))
      have hl : h24 bs p t = lay (h16 bs p t) (p + 24) (putB 8 (t.tc)) := rfl
      rw [<- hl] at P
      clear hl
      rw [kv_eq, show ((24 : Nat) : Int) = 24 from rfl] at P
      have S2 := Lib.hid fun w' a o => S.out.step (w' := w') (l' := h24 bs p t) a o
      replace P := Lib.hid P
      clear S
      go_wp2_with fail
      refine P.out.mono ?_
      rintro e w6 ⟨rfl, a, o⟩
      have S := Lib.hid (S2.out w6 a o)
      clear a o P S2 x0 x1 x2 x3 y0 y1 y2 y3 y4 y5 y6 y7
      obtain ⟨x0, x1, x2, x3, y0, y1, y2, y3, y4, y5, y6, y7⟩ := S.out.cells
      have P := put64C w6 L.ga L.ha c.cf.ps _ S.out.at_ p 32 k n t.tk F.out.tk (by rw [h24_len bs p t hpl]; exact hc.there 32 8 (by omega))
      have hl : h32 bs p t = lay (h24 bs p t) (p + 32) (putB 8 (t.tk)) := rfl
      rw [<- hl] at P
      clear hl
      rw [kv_eq, show ((32 : Nat) : Int) = 32 from rfl] at P
      have S2 := Lib.hid fun w' a o => S.out.step (w' := w') (l' := h32 bs p t) a o
      replace P := Lib.hid P
      clear S
      go_wp2_with fail
      refine P.out.mono ?_
      rintro e w7 ⟨rfl, a, o⟩
      have S := Lib.hid (S2.out w7 a o)
      clear a o P S2 x0 x1 x2 x3 y0 y1 y2 y3 y4 y5 y6 y7
      obtain ⟨x0, x1, x2, x3, y0, y1, y2, y3, y4, y5, y6, y7⟩ := S.out.cells
      have P := put32C w7 L.ga L.ha c.cf.ps _ S.out.at_ p 40 k n t.fl F.out.fl (by rw [h32_len bs p t hpl]; exact hc.there 40 4 (by omega))
      have hl : h40 bs p t = lay (h32 bs p t) (p + 40) (putB 4 (t.fl)) := rfl
      rw [<- hl] at P
      clear hl
      rw [kv_eq, show ((40 : Nat) : Int) = 40 from rfl] at P
      have S2 := Lib.hid fun w' a o => S.out.step (w' := w') (l' := h40 bs p t) a o
      replace P := Lib.hid P
      clear S
      go_wp2_with fail
      refine P.out.mono ?_
      rintro e w8 ⟨rfl, a, o⟩
      have S := Lib.hid (S2.out w8 a o)
      clear a o P S2 x0 x1 x2 x3 y0 y1 y2 y3 y4 y5 y6 y7
      obtain ⟨x0, x1, x2, x3, y0, y1, y2, y3, y4, y5, y6, y7⟩ := S.out.cells
      have P := put8C w8 L.ga L.ha c.cf.ps _ S.out.at_ p 44 k n t.key.length hkb (by rw [h40_len bs p t hpl]; exact hc.there 44 1 (by omega))
      have hl : h44 bs p t = lay (h40 bs p t) (p + 44) (putB 1 (t.key.length)) := rfl
      rw [<- hl] at P
      clear hl
      rw [kv_eq, show ((44 : Nat) : Int) = 44 from rfl] at P
      have S2 := Lib.hid fun w' a o => S.out.step (w' := w') (l' := h44 bs p t) a o
      replace P := Lib.hid P
      clear S
      go_wp2_with fail
      refine P.out.mono ?_
      rintro e w9 ⟨rfl, a, o⟩
      have S := Lib.hid (S2.out w9 a o)
      clear a o P S2 x0 x1 x2 x3 y0 y1 y2 y3 y4 y5 y6 y7
      obtain ⟨x0, x1, x2, x3, y0, y1, y2, y3, y4, y5, y6, y7⟩ := S.out.cells
      have P := put8C w9 L.ga L.ha c.cf.ps _ S.out.at_ p 45 k n t.st (by have := F.out.st4; omega) (by rw [h44_len bs p t hpl]; exact hc.there 45 1 (by omega))
      have hl : h45 bs p t = lay (h44 bs p t) (p + 45) (putB 1 (t.st)) := rfl
      rw [<- hl] at P
      clear hl
      rw [kv_eq, show ((45 : Nat) : Int) = 45 from rfl] at P
      have S2 := Lib.hid fun w' a o => S.out.step (w' := w') (l' := h45 bs p t) a o
      replace P := Lib.hid P
      clear S
      go_wp2_with fail
      refine P.out.mono ?_
      rintro e w10 ⟨rfl, a, o⟩
      have S := Lib.hid (S2.out w10 a o)
      clear a o P S2 x0 x1 x2 x3 y0 y1 y2 y3 y4 y5 y6 y7
      obtain ⟨x0, x1, x2, x3, y0, y1, y2, y3, y4, y5, y6, y7⟩ := S.out.cells
      have P := put8C w10 L.ga L.ha c.cf.ps _ S.out.at_ p 46 k n t.ms (by have := F.out.ms; omega) (by rw [h45_len bs p t hpl]; exact hc.there 46 1 (by omega))
      have hl : h46 bs p t = lay (h45 bs p t) (p + 46) (putB 1 (t.ms)) := rfl
      rw [<- hl] at P
      clear hl
      rw [kv_eq, show ((46 : Nat) : Int) = 46 from rfl] at P
      have S2 := Lib.hid fun w' a o => S.out.step (w' := w') (l' := h46 bs p t) a o
      replace P := Lib.hid P
      clear S
      go_wp2_with fail
      refine P.out.mono ?_
      rintro e w11 ⟨rfl, a, o⟩
      have S := Lib.hid (S2.out w11 a o)
      clear a o P S2 x0 x1 x2 x3 y0 y1 y2 y3 y4 y5 y6 y7
      obtain ⟨x0, x1, x2, x3, y0, y1, y2, y3, y4, y5, y6, y7⟩ := S.out.cells
      have P := put8C w11 L.ga L.ha c.cf.ps _ S.out.at_ p 47 k n k hcls (by rw [h46_len bs p t hpl]; exact hc.there 47 1 (by omega))
      have hl : h47 bs p k t = lay (h46 bs p t) (p + 47) (putB 1 (k)) := rfl
      rw [<- hl] at P
      clear hl
      rw [kv_eq, show ((47 : Nat) : Int) = 47 from rfl] at P
      have S2 := Lib.hid fun w' a o => S.out.step (w' := w') (l' := h47 bs p k t) a o
      replace P := Lib.hid P
      clear S
      go_wp2_with fail
      refine P.out.mono ?_
      rintro e w12 ⟨rfl, a, o⟩
      have S := Lib.hid (S2.out w12 a o)
      clear a o P S2 x0 x1 x2 x3 y0 y1 y2 y3 y4 y5 y6 y7
      obtain ⟨x0, x1, x2, x3, y0, y1, y2, y3, y4, y5, y6, y7⟩ := S.out.cells
      have P := put32C w12 L.ga L.ha c.cf.ps _ S.out.at_ p 52 k n 0 (by omega) (by rw [h47_len bs p k t hpl]; exact hc.there 52 4 (by omega))
      have hl : h52 bs p k t = lay (h47 bs p k t) (p + 52) (putB 4 (0)) := rfl
      rw [<- hl] at P
      clear hl
      rw [kv_eq, show ((52 : Nat) : Int) = 52 from rfl, show ((0 : Nat) : Int) = 0 from rfl] at P
      have S2 := Lib.hid fun w' a o => S.out.step (w' := w') (l' := h52 bs p k t) a o
      replace P := Lib.hid P
      clear S
      go_wp2_with fail
      refine P.out.mono ?_
      rintro e w13 ⟨rfl, a, o⟩
      have S := Lib.hid (S2.out w13 a o)
      clear a o P S2 x0 x1 x2 x3 y0 y1 y2 y3 y4 y5 y6 y7
      obtain ⟨x0, x1, x2, x3, y0, y1, y2, y3, y4, y5, y6, y7⟩ := S.out.cells
      have P := writeYes w13 L.ga L.ha c.cf.ps _ S.out.at_ ((p + 56 : Nat) : Int) Ak ck B t.key S.out.k (by rw [h52_len bs p k t hpl]; exact hc.there 56 t.key.length (by have := hn.out; omega))
      rw [Int.toNat_natCast] at P
      have hl : h56 bs p k t = lay (h52 bs p k t) (p + 56) t.key := rfl
      rw [<- hl] at P
      clear hl
      have S2 := Lib.hid fun w' a o => S.out.step (w' := w') (l' := h56 bs p k t) a o
      replace P := Lib.hid P
      clear S
      go_wp2_with fail
      refine P.out.mono ?_
      rintro e w15 ⟨rfl, a, o, -⟩
      have S := Lib.hid (S2.out w15 a o)
      clear a o P S2 x0 x1 x2 x3 y0 y1 y2 y3 y4 y5 y6 y7
      obtain ⟨x0, x1, x2, x3, y0, y1, y2, y3, y4, y5, y6, y7⟩ := S.out.cells
      have hal : p + 56 + t.key.length <= bs.length := by have := hn.out; omega
      have P := layC w15 L.ga L.ha c.cf.ps _ S.out.at_ p k n (by rw [h56_len bs p k t hal]; exact hc) Av cv B t.val S.out.v av t.key.length (h56_key bs p k t hal hkb) (by have := hn.out; omega)
      have hl : layV (h56 bs p k t) p t.key.length t.val = itemB bs p k t := rfl
      rw [hl] at P
      clear hl
      rw [kv_eq] at P
      have S2 := Lib.hid fun w' a o => S.out.step (w' := w') (l' := itemB bs p k t) a o
      replace P := Lib.hid P
      clear S
      go_wp2_with fail
      refine P.out.mono ?_
      rintro e w16 ⟨rfl, a, o⟩
      have S := Lib.hid (S2.out w16 a o)
      clear a o P S2 x0 x1 x2 x3 y0 y1 y2 y3 y4 y5 y6 y7
      go_wp2
      go_ret
      refine ⟨rfl, h.out.laid S.out.o S.out.at_.bytes ?_, S.out.o⟩
      exact itemB_len _ _ _ _ (by have := hn.out; omega)
end Go.Proofs.YtngehaiigbbknaaGreat.Itm
/-
  Bytes cut into pieces; an item's bytes as a whole.
-/
namespace Go.Proofs.YtngehaiigbbknaaGreat.Itm
open Go.RowKit Base Arena
theorem lay_get (l : List UInt8) (p : Nat) (q : List UInt8) (h : p + q.length <= l.length) (j : Nat) : (lay l p q)[j]? = if p <= j /\ j < p + q.length then q[j - p]? else l[j]? := by
 unfold lay
 rw [List.append_assoc]
 rcases Nat.lt_or_ge j p with h1 | h1
 ·rw [if_neg (by omega), List.getElem?_append_left (by simp; omega), List.getElem?_take, if_pos h1]
 ·rw [List.getElem?_append_right (by simp; omega)]
  have e : (l.take p).length = p := by simp; omega
  rw [e]
  rcases Nat.lt_or_ge j (p + q.length) with h2 | h2
  ·rw [if_pos ⟨h1, h2⟩, List.getElem?_append_left (by omega)]
  ·rw [if_neg (by omega), List.getElem?_append_right (by omega), List.getElem?_drop]
   congr 1
   omega
theorem piece_get (l : List UInt8) (p N j : Nat) : ((l.drop p).take N)[j]? = if j < N then l[p + j]? else none := by
 rw [List.getElem?_take]
 split
 ·rw [List.getElem?_drop]
 ·rfl
theorem piece_sub {l E : List UInt8} {p N o m : Nat} (h : (l.drop p).take N = E) (hm : o + m <= N) : (l.drop (p + o)).take m = (E.drop o).take m := by
 apply List.ext_getElem?
 intro j
 rw [<- h, piece_get, piece_get, piece_get]
 split
 ·rw [if_pos (by omega)]; congr 1; omega
 ·rfl
theorem piece_in (l : List UInt8) (p o N : Nat) (q : List UInt8) (h : o + q.length <= N) (hN : p + N <= l.length) : ((lay l (p + o) q).drop p).take N = lay ((l.drop p).take N) o q := by
 have e : ((l.drop p).take N).length = N := by simp; omega
 apply List.ext_getElem?
 intro j
 rw [piece_get, lay_get _ _ _ (by omega), lay_get _ _ _ (by omega), piece_get]
 split
 ·rcases Nat.lt_or_ge j o with h1 | h1
  ·rw [if_neg (by omega), if_neg (by omega)]
  ·rcases Nat.lt_or_ge j (o + q.length) with h2 | h2
   ·rw [if_pos (by omega), if_pos (by omega)]; congr 1; omega
   ·rw [if_neg (by omega), if_neg (by omega)]
 ·rw [if_neg (by omega)]
def off (lens : List Nat) (j : Nat) : Nat := (lens.take j).sum
structure Seg (l : List UInt8) (p : Nat) (lens : List Nat) (S : List (List UInt8)) : Prop where
 lenE : S.map List.length = lens
 fit : p + lens.sum <= l.length
 eq : (l.drop p).take lens.sum = S.flatten
theorem flat_at : ∀ (S : List (List UInt8)) (j : Nat) (q : List UInt8), S[j]? = some q -> (S.flatten.drop (off (S.map List.length) j)).take q.length = q /\ off (S.map List.length) j + q.length <= (S.map List.length).sum
 | [], j, q, h => by simp at h
 | s :: S, 0, q, h => by
  simp at h; subst h
  simp [off]
 | s :: S, j + 1, q, h => by
  have h' : S[j]? = some q := by simpa using h
  obtain ⟨a, b⟩ := flat_at S j q h'
  have e : off ((s :: S).map List.length) (j + 1) = s.length + off (S.map List.length) j := by simp [off]
  rw [e]
  refine ⟨?_, by simp only [List.map_cons, List.sum_cons]; omega⟩
  rw [List.flatten_cons, List.drop_append, List.drop_eq_nil_of_le (by omega), List.nil_append]
  rw [show s.length + off (S.map List.length) j - s.length = off (S.map List.length) j by omega]
  exact a
theorem flat_set : ∀ (S : List (List UInt8)) (j : Nat) (q q' : List UInt8), S[j]? = some q -> q'.length = q.length -> (S.set j q').flatten = lay S.flatten (off (S.map List.length) j) q'
 | [], j, q, q', h, hl => by simp at h
 | s :: S, 0, q, q', h, hl => by
  simp at h; subst h
  simp [off, lay, hl]
 | s :: S, j + 1, q, q', h, hl => by
  have h' : S[j]? = some q := by simpa using h
  have ih := flat_set S j q q' h' hl
  have e : off ((s :: S).map List.length) (j + 1) = s.length + off (S.map List.length) j := by simp [off]
  obtain ⟨-, b⟩ := flat_at S j q h'
  have hf : S.flatten.length = (S.map List.length).sum := List.length_flatten
  rw [e, qN, List.flatten_cons, ih, List.flatten_cons]
  apply List.ext_getElem?
  intro i
  rw [lay_get _ _ _ (by rw [List.length_append]; omega)]
  rcases Nat.lt_or_ge i s.length with h1 | h1
  ·rw [List.getElem?_append_left h1, if_neg (by omega), List.getElem?_append_left h1]
  ·rw [List.getElem?_append_right h1, lay_get _ _ _ (by omega), List.getElem?_append_right h1]
   rcases Nat.lt_or_ge (i - s.length) (off (S.map List.length) j) with h2 | h2
   ·rw [if_neg (by omega), if_neg (by omega)]
   ·rcases Nat.lt_or_ge (i - s.length) (off (S.map List.length) j + q'.length) with h3 | h3
    ·rw [if_pos (by omega), if_pos (by omega)]; congr 1; omega
    ·rw [if_neg (by omega), if_neg (by omega)]
section
variable {l : List UInt8} {p : Nat} {lens : List Nat} {S : List (List UInt8)}
theorem Seg.at_ (h : Seg l p lens S) (j : Nat) (q : List UInt8) (hj : S[j]? = some q) : (l.drop (p + off lens j)).take q.length = q /\ off lens j + q.length <= lens.sum := by
 obtain ⟨a, b⟩ := flat_at S j q hj
 rw [h.lenE] at a b
 exact ⟨by rw [piece_sub h.eq b]; exact a, b⟩
theorem Seg.set (h : Seg l p lens S) (j : Nat) (q q' : List UInt8) (hj : S[j]? = some q) (hl : q'.length = q.length) : Seg (lay l (p + off lens j) q') p lens (S.set j q') := by
 obtain ⟨a, b⟩ := flat_at S j q hj
 have c := flat_set S j q q' hj hl
 rw [h.lenE] at a b c
 have hf := h.fit
 refine ⟨?_, by rw [lay_len _ _ _ (by omega)]; exact hf, ?_⟩
 ·rw [List.map_set, h.lenE]
  apply List.ext_getElem?
  intro i
  rw [List.getElem?_set]
  split
  ·rename_i e; subst e
   have : lens[j]? = some q.length := by rw [<- h.lenE, List.getElem?_map, hj]; rfl
   rw [this]
   have hjl : j < lens.length := by have := List.getElem?_eq_some_iff.1 this; exact this.1
   rw [if_pos hjl, hl]
  ·rfl
 ·rw [piece_in _ _ _ _ _ (by omega) hf, h.eq, c]
end
def cut (l : List UInt8) (p : Nat) : List Nat -> List (List UInt8)
 | [] => []
 | m :: ms => (l.drop p).take m :: cut l (p + m) ms
theorem Seg.cut_ : ∀ (lens : List Nat) (l : List UInt8) (p : Nat), p + lens.sum <= l.length -> Seg l p lens (cut l p lens)
 | [], l, p, h => ⟨rfl, h, by simp [cut]⟩
 | m :: ms, l, p, h => by
  have h' : p + m + ms.sum <= l.length := by rw [List.sum_cons] at h; omega
  obtain ⟨a, b, c⟩ := Seg.cut_ ms l (p + m) h'
  refine ⟨?_, h, ?_⟩
  ·rw [cut, List.map_cons, a]
   congr 1
   simp
   omega
  ·rw [cut, List.flatten_cons, <- c, List.sum_cons]
   apply List.ext_getElem?
   intro j
   rw [piece_get]
   have e : ((l.drop p).take m).length = m := by simp; omega
   rcases Nat.lt_or_ge j m with h1 | h1
   ·rw [if_pos (by omega), List.getElem?_append_left (by omega), piece_get, if_pos h1]
   ·rw [List.getElem?_append_right (by omega), e, piece_get]
    rcases Nat.lt_or_ge j (m + ms.sum) with h2 | h2
    ·rw [if_pos h2, if_pos (by omega)]; congr 1; omega
    ·rw [if_neg (by omega), if_neg (by omega)]
structure But (l l' : List UInt8) (p n : Nat) : Prop where
 len : l'.length = l.length
 at_ : ∀ j, j < p \/ p + n <= j -> l'[j]? = l[j]?
theorem But.refl (l : List UInt8) (p n : Nat) : But l l p n := ⟨rfl, fun _ _ => rfl⟩
theorem But.lay {l l' : List UInt8} {p n : Nat} (h : But l l' p n) (o : Nat) (q : List UInt8) (ho : o + q.length <= n) (hn : p + n <= l.length) : But l (lay l' (p + o) q) p n :=
 have e := h.len
 ⟨by rw [lay_len _ _ _ (by omega), e], fun j hj => by rw [lay_get _ _ _ (by omega), if_neg (by omega), h.at_ j hj]⟩
theorem But.eq {l l' : List UInt8} {p n : Nat} (h : But l l' p n) (hn : p + n <= l.length) {E : List UInt8} (hE : (l'.drop p).take n = E) : l' = Base.lay l p E := by
 have e : E.length = n := by rw [<- hE]; have := h.len; simp; omega
 apply List.ext_getElem?
 intro j
 rw [lay_get _ _ _ (by omega)]
 split
 ·rw [<- hE, piece_get, if_pos (by omega)]; congr 1; omega
 ·exact h.at_ j (by omega)
structure Whole where
 l0 : Nat
 l1 : Nat
 l2 : Nat
 gen : Nat
 cl : Nat
 t : It
def Whole.segs (I : Whole) : List (List UInt8) :=
 [putB 4 I.l0, putB 4 I.l1, putB 4 I.l2, putB 4 I.gen, putB 8 I.t.ex, putB 8 I.t.tc, putB 8 I.t.tk, putB 4 I.t.fl, putB 1 I.t.key.length, putB 1 I.t.st, putB 1 I.t.ms, putB 1 I.cl, putB 4 I.t.val.length, putB 4 0, I.t.key, I.t.val, [13, 10]]
def lns (K V : Nat) : List Nat := [4, 4, 4, 4, 8, 8, 8, 4, 1, 1, 1, 1, 4, 4, K, V, 2]
def Whole.lens (I : Whole) : List Nat := lns I.t.key.length I.t.val.length
def Whole.enc (I : Whole) : List UInt8 := I.segs.flatten
theorem lns_sum (K V : Nat) : (lns K V).sum = 58 + K + V := by simp [lns]; omega
theorem Whole.map_len (I : Whole) : I.segs.map List.length = I.lens := by simp [Whole.segs, Whole.lens, lns, putB_len]
theorem Whole.enc_len (I : Whole) : I.enc.length = 58 + I.t.key.length + I.t.val.length := by
 rw [Whole.enc, List.length_flatten, I.map_len, Whole.lens, lns_sum]
def Has (l : List UInt8) (p : Nat) (I : Whole) : Prop := Seg l p I.lens I.segs
theorem off_15 (K V : Nat) : off (lns K V) 15 = 56 + K := by simp [off, lns]; omega
theorem off_16 (K V : Nat) : off (lns K V) 16 = 56 + K + V := by simp [off, lns]; omega
theorem Seg.rd_ {l : List UInt8} {p : Nat} {lens : List Nat} {S : List (List UInt8)} (h : Seg l p lens S) (j m v : Nat) (hj : S[j]? = some (putB m v)) (hv : v < 256 ^ m) : rd l (p + off lens j) m = v := by
 have := (h.at_ j _ hj).1
 rw [putB_len] at this
 unfold rd
 rw [this, beN_putB, Nat.mod_eq_of_lt hv]
theorem Has.eq {l : List UInt8} {p : Nat} {I : Whole} (h : Has l p I) : (l.drop p).take (58 + I.t.key.length + I.t.val.length) = I.enc := by
 have := Seg.eq h
 rw [Whole.lens, lns_sum] at this
 exact this
theorem Has.of {l : List UInt8} {p : Nat} {I : Whole} (h : p + (58 + I.t.key.length + I.t.val.length) <= l.length) (e : (l.drop p).take (58 + I.t.key.length + I.t.val.length) = I.enc) : Has l p I :=
 ⟨I.map_len, by rw [Whole.lens, lns_sum]; exact h, by rw [Whole.lens, lns_sum]; exact e⟩
theorem Has.lay_ (l : List UInt8) (p : Nat) (I : Whole) (h : p + (58 + I.t.key.length + I.t.val.length) <= l.length) : Has (lay l p I.enc) p I := by
 have e := I.enc_len
 refine Has.of (by rw [lay_len _ _ _ (by omega)]; exact h) ?_
 have := piece_lay l p I.enc (by omega)
 rw [e] at this
 exact this
section
variable {l : List UInt8} {p : Nat} {I : Whole} (h : Has l p I)
include h
theorem Has.key_len (hk : I.t.key.length < 256) : rd l (p + 44) 1 = I.t.key.length := Seg.rd_ h 8 1 _ rfl (by omega)
theorem Has.l1_ (hv : I.l1 < 4294967296) : rd l (p + 4) 4 = I.l1 := Seg.rd_ h 1 4 _ rfl (by omega)
theorem Has.l2_ (hv : I.l2 < 4294967296) : rd l (p + 8) 4 = I.l2 := Seg.rd_ h 2 4 _ rfl (by omega)
theorem Has.st (hv : I.t.st < 256) : rd l (p + 45) 1 = I.t.st := Seg.rd_ h 9 1 _ rfl (by omega)
theorem Has.ms (hv : I.t.ms < 256) : rd l (p + 46) 1 = I.t.ms := Seg.rd_ h 10 1 _ rfl (by omega)
end
theorem off_all (K V : Nat) : off (lns K V) 0 = 0 /\ off (lns K V) 1 = 4 /\ off (lns K V) 2 = 8 /\ off (lns K V) 3 = 12 /\ off (lns K V) 4 = 16 /\ off (lns K V) 5 = 24 /\ off (lns K V) 6 = 32 /\ off (lns K V) 7 = 40 /\ off (lns K V) 8 = 44 /\
  off (lns K V) 9 = 45 /\ off (lns K V) 10 = 46 /\ off (lns K V) 11 = 47 /\ off (lns K V) 12 = 48 /\ off (lns K V) 13 = 52 /\ off (lns K V) 14 = 56 := ⟨rfl, rfl, rfl, rfl, rfl, rfl, rfl, rfl, rfl, rfl, rfl, rfl, rfl, rfl, rfl⟩
theorem Seg.put {l : List UInt8} {p K V : Nat} {S : List (List UInt8)} (h : Seg l p (lns K V) S) (j o : Nat) (q q' : List UInt8) (hj : S[j]? = some q) (hl : q'.length = q.length) (ho : off (lns K V) j = o) : Seg (lay l (p + o) q') p (lns K V) (S.set j q') := by
 rw [<- ho]; exact h.set j q q' hj hl
theorem seg_names {l : List UInt8} {p K V : Nat} {S : List (List UInt8)} (h : Seg l p (lns K V) S) : ∃ q0 q1 q2 q3 q4 q5 q6 q7 q8 q9 q10 q11 q12 q13 q14 q15 q16 : List UInt8,
  S = [q0, q1, q2, q3, q4, q5, q6, q7, q8, q9, q10, q11, q12, q13, q14, q15, q16] /\ q0.length = 4 /\ q1.length = 4 /\ q2.length = 4 /\ q3.length = 4 /\ q4.length = 8 /\ q5.length = 8 /\ q6.length = 8 /\ q7.length = 4 /\ q8.length = 1 /\ q9.length = 1 /\ q10.length = 1 /\ q11.length = 1 /\
   q12.length = 4 /\ q13.length = 4 /\ q14.length = K /\ q15.length = V /\ q16.length = 2 := by
 have e := h.lenE
 obtain ⟨q0, S, rfl⟩ : ∃ q T, S = q :: T := by cases S with | nil => simp [lns] at e | cons q T => exact ⟨q, T, rfl⟩
 obtain ⟨q1, S, rfl⟩ : ∃ q T, S = q :: T := by cases S with | nil => simp [lns] at e | cons q T => exact ⟨q, T, rfl⟩
 obtain ⟨q2, S, rfl⟩ : ∃ q T, S = q :: T := by cases S with | nil => simp [lns] at e | cons q T => exact ⟨q, T, rfl⟩
 obtain ⟨q3, S, rfl⟩ : ∃ q T, S = q :: T := by cases S with | nil => simp [lns] at e | cons q T => exact ⟨q, T, rfl⟩
 obtain ⟨q4, S, rfl⟩ : ∃ q T, S = q :: T := by cases S with | nil => simp [lns] at e | cons q T => exact ⟨q, T, rfl⟩
 obtain ⟨q5, S, rfl⟩ : ∃ q T, S = q :: T := by cases S with | nil => simp [lns] at e | cons q T => exact ⟨q, T, rfl⟩
 obtain ⟨q6, S, rfl⟩ : ∃ q T, S = q :: T := by cases S with | nil => simp [lns] at e | cons q T => exact ⟨q, T, rfl⟩
 obtain ⟨q7, S, rfl⟩ : ∃ q T, S = q :: T := by cases S with | nil => simp [lns] at e | cons q T => exact ⟨q, T, rfl⟩
 obtain ⟨q8, S, rfl⟩ : ∃ q T, S = q :: T := by cases S with | nil => simp [lns] at e | cons q T => exact ⟨q, T, rfl⟩
 obtain ⟨q9, S, rfl⟩ : ∃ q T, S = q :: T := by cases S with | nil => simp [lns] at e | cons q T => exact ⟨q, T, rfl⟩
 obtain ⟨q10, S, rfl⟩ : ∃ q T, S = q :: T := by cases S with | nil => simp [lns] at e | cons q T => exact ⟨q, T, rfl⟩
 obtain ⟨q11, S, rfl⟩ : ∃ q T, S = q :: T := by cases S with | nil => simp [lns] at e | cons q T => exact ⟨q, T, rfl⟩
 obtain ⟨q12, S, rfl⟩ : ∃ q T, S = q :: T := by cases S with | nil => simp [lns] at e | cons q T => exact ⟨q, T, rfl⟩
 obtain ⟨q13, S, rfl⟩ : ∃ q T, S = q :: T := by cases S with | nil => simp [lns] at e | cons q T => exact ⟨q, T, rfl⟩
 obtain ⟨q14, S, rfl⟩ : ∃ q T, S = q :: T := by cases S with | nil => simp [lns] at e | cons q T => exact ⟨q, T, rfl⟩
 obtain ⟨q15, S, rfl⟩ : ∃ q T, S = q :: T := by cases S with | nil => simp [lns] at e | cons q T => exact ⟨q, T, rfl⟩
 obtain ⟨q16, S, rfl⟩ : ∃ q T, S = q :: T := by cases S with | nil => simp [lns] at e | cons q T => exact ⟨q, T, rfl⟩
 have e17 : S = [] := by cases S with | nil => rfl | cons q T => simp [lns] at e
 subst e17
 simp only [lns, List.map_cons, List.map_nil, List.cons.injEq, and_true] at e
 exact ⟨q0, q1, q2, q3, q4, q5, q6, q7, q8, q9, q10, q11, q12, q13, q14, q15, q16, rfl, e⟩
set_option maxHeartbeats 2000000 in
theorem itemB_enc (l : List UInt8) (p k gen : Nat) (t : It) (h : p + (58 + t.key.length + t.val.length) <= l.length) (hg : (l.drop (p + 12)).take 4 = putB 4 gen) :
  itemB l p k t = lay l p (Whole.enc ⟨0, 0, 0, gen, k, t⟩) := by
 obtain ⟨K, hK⟩ : ∃ K, K = t.key.length := ⟨_, rfl⟩
 obtain ⟨V, hV⟩ : ∃ V, V = t.val.length := ⟨_, rfl⟩
 rw [<- hK, <- hV] at h
 have hs : (lns K V).sum = 58 + K + V := lns_sum K V
 have S0 := Seg.cut_ (lns K V) l p (by omega)
 obtain ⟨q0, q1, q2, q3, q4, q5, q6, q7, q8, q9, q10, q11, q12, q13, q14, q15, q16, eS, e0, e1, e2, e3, e4, e5, e6, e7, e8, e9, e10, e11, e12, e13, e14, e15, e16⟩ := seg_names S0
 rw [eS] at S0
 obtain ⟨o0, o1, o2, o3, o4, o5, o6, o7, o8, o9, o10, o11, o12, o13, o14⟩ := off_all K V
 have h3 : q3 = putB 4 gen := by
  have := (S0.at_ 3 q3 rfl).1
  rw [o3, e3] at this
  rw [<- this, hg]
 subst h3
 have B0 := But.refl l p (58 + K + V)
 have hp := h
 have S1 := S0.put 0 (4 * 0) q0 (putB 4 0) rfl (by rw [putB_len, e0]) o0
 have B1 := B0.lay (4 * 0) (putB 4 0) (by rw [putB_len]; omega) hp
 have S2 := S1.put 1 (4 * 1) q1 (putB 4 0) rfl (by rw [putB_len, e1]) o1
 have B2 := B1.lay (4 * 1) (putB 4 0) (by rw [putB_len]; omega) hp
 have S3 := S2.put 2 (4 * 2) q2 (putB 4 0) rfl (by rw [putB_len, e2]) o2
 have B3 := B2.lay (4 * 2) (putB 4 0) (by rw [putB_len]; omega) hp
 have S4 := S3.put 4 16 q4 (putB 8 t.ex) rfl (by rw [putB_len, e4]) o4
 have B4 := B3.lay 16 (putB 8 t.ex) (by rw [putB_len]; omega) hp
 have S5 := S4.put 5 24 q5 (putB 8 t.tc) rfl (by rw [putB_len, e5]) o5
 have B5 := B4.lay 24 (putB 8 t.tc) (by rw [putB_len]; omega) hp
 have S6 := S5.put 6 32 q6 (putB 8 t.tk) rfl (by rw [putB_len, e6]) o6
 have B6 := B5.lay 32 (putB 8 t.tk) (by rw [putB_len]; omega) hp
 have S7 := S6.put 7 40 q7 (putB 4 t.fl) rfl (by rw [putB_len, e7]) o7
 have B7 := B6.lay 40 (putB 4 t.fl) (by rw [putB_len]; omega) hp
 have S8 := S7.put 8 44 q8 (putB 1 K) rfl (by rw [putB_len, e8]) o8
 have B8 := B7.lay 44 (putB 1 K) (by rw [putB_len]; omega) hp
 have S9 := S8.put 9 45 q9 (putB 1 t.st) rfl (by rw [putB_len, e9]) o9
 have B9 := B8.lay 45 (putB 1 t.st) (by rw [putB_len]; omega) hp
 have S10 := S9.put 10 46 q10 (putB 1 t.ms) rfl (by rw [putB_len, e10]) o10
 have B10 := B9.lay 46 (putB 1 t.ms) (by rw [putB_len]; omega) hp
 have S11 := S10.put 11 47 q11 (putB 1 k) rfl (by rw [putB_len, e11]) o11
 have B11 := B10.lay 47 (putB 1 k) (by rw [putB_len]; omega) hp
 have S12 := S11.put 13 52 q13 (putB 4 0) rfl (by rw [putB_len, e13]) o13
 have B12 := B11.lay 52 (putB 4 0) (by rw [putB_len]; omega) hp
 have S13 := S12.put 14 56 q14 t.key rfl (by rw [<- hK, e14]) o14
 have B13 := B12.lay 56 t.key (by rw [<- hK]; omega) hp
 have S14 := S13.put 12 48 q12 (putB 4 V) rfl (by rw [putB_len, e12]) o12
 have B14 := B13.lay 48 (putB 4 V) (by rw [putB_len]; omega) hp
 have S15 := S14.put 15 (56 + K) q15 t.val rfl (by rw [<- hV, e15]) (off_15 K V)
 have B15 := B14.lay (56 + K) t.val (by rw [<- hV]; omega) hp
 have S16 := S15.put 16 (56 + K + V) q16 [13, 10] rfl (by rw [e16]; rfl) (off_16 K V)
 have B16 := B15.lay (56 + K + V) [13, 10] (by simp only [List.length_cons, List.length_nil]; omega) hp
 have e := B16.eq hp (E := Whole.enc ⟨0, 0, 0, gen, k, t⟩) (by rw [<- hs, S16.eq]; simp only [Whole.enc, Whole.segs, <- hK, <- hV, qO, qN])
 rw [<- e]
 simp only [itemB, layV, h56, h52, h47, h46, h45, h44, h40, h32, h24, h16, links, <- hK, <- hV]
section
variable {l : List UInt8} {p : Nat} {I : Whole} (h : Has l p I) (v : Nat)
include h
omit v in
end
end Go.Proofs.YtngehaiigbbknaaGreat.Itm
/-
  A Set that one class fills: in plain numbers.
-/
namespace Go.Proofs.YtngehaiigbbknaaGreat.Cls
open Go.RowKit Base MapG
structure Fl (d : Cf) (k u t : Nat) (s : St) : Prop where
  good : Good d s
  own : ∀ i, i < d.np -> s.own i = decide (i * d.n k < u)
  cls : ∀ i, s.own i = true -> s.cls i = k
  lvs : ∀ i, s.lvs i = false
  tkn : ∀ i x, s.own i = true -> x < d.n k -> s.tkn i x = decide (i * d.n k + x < t)
  gens : ∀ i x, s.gens i x = 0
  old : ∀ i x, s.old i x = 0
  other : ∀ j, j ≠ k -> s.free j = []
  desc : (s.free k).Pairwise (· > ·)
  rt : s.rt k = t
theorem dm {n t i x : Nat} (hn : 1 <= n) (hx : x < n) (h : i * n + x = t) : i = t / n /\ x = t % n := by
  subst h
  rw [Nat.add_comm, Nat.add_mul_div_right _ _ (by omega), Nat.div_eq_of_lt hx, Nat.add_mul_mod_self_right, Nat.mod_eq_of_lt hx]
  exact ⟨(Nat.zero_add i).symm, rfl⟩
section
variable {d : Cf} (ok : d.Ok) {k u t : Nat} (hk : k < d.nc) {s : St}
include ok hk
end
theorem find_hnd {d : Cf} (ok : d.Ok) {s : St} {i x G : Nat} (hi : i < d.np) (ho : s.own i = true) (hc : s.cls i < d.nc) (hx : x < d.n (s.cls i)) (ht : s.tkn i x = true) (hg : s.gens i x = G) :
    findN d s (hnd (i * d.ps + x * d.sz (s.cls i)) G) = some (i, x, i * d.ps + x * d.sz (s.cls i)) := by
  obtain ⟨p1, p2, p3, p4, p5⟩ := place_of ok (i := i) hc hx
  have hz := ok.sz _ hc
  have h1 : (i + 1) * d.ps <= d.np * d.ps := Nat.mul_le_mul_right _ hi
  rw [Nat.succ_mul, Nat.mul_comm d.np] at h1
  have hps8 := ok.ps8
  have hps := ok.ps
  have hpsb : d.ps * d.np <= 1048576 * 1024 := Nat.mul_le_mul ok.psb ok.npb
  have h8 : (i * d.ps + x * d.sz (s.cls i)) % 8 = 0 := by
    rw [Nat.add_mod, Nat.mul_mod, hps8, Nat.mul_zero, Nat.zero_mod, p5]
  generalize hp : i * d.ps + x * d.sz (s.cls i) = p at *
  have hH : hnd p G % 4294967296 = p / 8 + 1 := by unfold hnd; omega
  have hD : hnd p G / 4294967296 = G := by unfold hnd; omega
  have hb : p + 8 <= d.ps * d.np := by omega
  unfold findN
  rw [hH, hD, if_neg (by omega), show (p / 8 + 1 - 1) * 8 = p by omega]
  have hch : chunkN d s (p : Int) = some (i, x) := by
    unfold chunkN
    rw [if_pos ⟨by omega, by omega⟩, Int.toNat_natCast, p1, p2, if_pos ⟨ho, Nat.mul_mod_left _ _, by rw [p3]; exact hx⟩, p3]
  rw [hch]
  simp only
  rw [if_pos ⟨ht, hg⟩]
end Go.Proofs.YtngehaiigbbknaaGreat.Cls
/-
  What a Take makes of the chunks, in plain numbers: the new one is found, the others stay; two chunks share no byte.
-/
namespace Go.Proofs.YtngehaiigbbknaaGreat.Cls
structure Tkn (d : Cf) (s : St) (i x p k G : Nat) : Prop where
 iN : i < d.np
 ow : s.own i = true
 cl : s.cls i = k
 kN : k < d.nc
 xN : x < d.n k
 tk : s.tkn i x = true
 ge : s.gens i x = G
 pE : p = i * d.ps + x * d.sz k
theorem Tkn.find {d : Cf} (ok : d.Ok) {s : St} {i x p k G : Nat} (h : Tkn d s i x p k G) : findN d s (hnd p G) = some (i, x, p) := by
 obtain ⟨h1, h2, h3, h4, h5, h6, h7, h8⟩ := h
 subst h3 h8
 exact find_hnd ok h1 h2 h4 h5 h6 h7
theorem Tkn.of {d : Cf} (ok : d.Ok) {s : St} (g : Good d s) {H i x p : Nat} (h : findN d s H = some (i, x, p)) : Tkn d s i x p (s.cls i) (H / 4294967296) /\ H = hnd p (H / 4294967296) := by
 obtain ⟨h1, h2, h3, h4, h5, h6, h7⟩ := findN_some g h
 refine ⟨⟨h1, h2, rfl, g.cls i h1 h2, h3, h4, h5, h6⟩, ?_⟩
 have hm : H % 4294967296 ≠ 0 := by
  intro e
  unfold findN at h
  rw [if_pos (.inl e)] at h
  cases h
 unfold hnd
 omega
theorem Tkn.fit {d : Cf} (ok : d.Ok) {s : St} {i x p k G : Nat} (h : Tkn d s i x p k G) : p + d.sz k <= (i + 1) * d.ps /\ i * d.ps <= p /\ (i + 1) * d.ps <= d.np * d.ps /\ p % 8 = 0 /\ p / d.ps = i /\ p % d.ps = x * d.sz k /\ x * d.sz k / d.sz k = x := by
 obtain ⟨p1, p2, p3, p4, p5⟩ := place_of ok (i := i) h.kN h.xN
 have hm : (i + 1) * d.ps <= d.np * d.ps := Nat.mul_le_mul_right _ h.iN
 have hps8 := ok.ps8
 have hp := h.pE
 rw [<- hp] at p1 p2
 have h8 : p % 8 = 0 := by rw [hp, Nat.add_mod, Nat.mul_mod, hps8, Nat.mul_zero, Nat.zero_mod, p5]
 refine ⟨?_, by omega, hm, h8, p1, p2, p3⟩
 rw [Nat.succ_mul]
 omega
theorem Tkn.hlt {d : Cf} (ok : d.Ok) {s : St} (g : Good d s) {i x p k G : Nat} (h : Tkn d s i x p k G) : hnd p G < 18446744073709551616 /\ hnd p G ≠ 0 /\ hnd p G % 4294967296 = p / 8 + 1 /\ hnd p G / 4294967296 = G /\ p < 1073741824 := by
 obtain ⟨f1, f2, f3, f4, -⟩ := h.fit ok
 have hg := g.gen i x
 rw [h.ge] at hg
 have hb : d.np * d.ps <= 1024 * 1048576 := Nat.mul_le_mul ok.npb ok.psb
 have hz := (ok.sz k h.kN).1
 unfold hnd
 omega
theorem Tkn.apart {d : Cf} (ok : d.Ok) {s : St} {i x p k G i' x' p' k' G' : Nat} (h : Tkn d s i x p k G) (h' : Tkn d s i' x' p' k' G') (hne : p ≠ p') : p + d.sz k <= p' \/ p' + d.sz k' <= p := by
 obtain ⟨f1, f2, f3, -⟩ := h.fit ok
 obtain ⟨e1, e2, e3, -⟩ := h'.fit ok
 rcases Nat.lt_trichotomy i i' with hi | hi | hi
 ·left
  have : (i + 1) * d.ps <= i' * d.ps := Nat.mul_le_mul_right _ hi
  omega
 ·subst hi
  have hk : k = k' := by rw [<- h.cl, h'.cl]
  subst hk
  have hp := h.pE
  have hp' := h'.pE
  rcases Nat.lt_trichotomy x x' with hx | hx | hx
  ·left
   have : (x + 1) * d.sz k <= x' * d.sz k := Nat.mul_le_mul_right _ hx
   rw [Nat.succ_mul] at this
   omega
  ·subst hx; omega
  ·right
   have : (x' + 1) * d.sz k <= x * d.sz k := Nat.mul_le_mul_right _ hx
   rw [Nat.succ_mul] at this
   omega
 ·right
  have : (i' + 1) * d.ps <= i * d.ps := Nat.mul_le_mul_right _ hi
  omega
theorem Tkn.same {d : Cf} (ok : d.Ok) {s : St} {i x p k G i' x' k' G' : Nat} (h : Tkn d s i x p k G) (h' : Tkn d s i' x' p k' G') : i = i' /\ x = x' /\ k = k' /\ G = G' := by
 obtain ⟨-, -, -, -, a1, a2, a3⟩ := h.fit ok
 obtain ⟨-, -, -, -, b1, b2, b3⟩ := h'.fit ok
 have hi : i = i' := by omega
 subst hi
 have hk : k = k' := by rw [<- h.cl, h'.cl]
 subst hk
 have hx : x = x' := by rw [<- a3, <- b3, <- a2, <- b2]
 subst hx
 exact ⟨rfl, rfl, rfl, by rw [<- h.ge, h'.ge]⟩
theorem Tkn.widen {d : Cf} {s : St} {i x p k G : Nat} (h : Tkn d s i x p k G) {c j : Nat} (hj : s.own j = false) : Tkn d (widenS d s c j) i x p k G := by
 have hij : i ≠ j := fun e => by rw [e] at h; rw [h.ow] at hj; cases hj
 refine ⟨h.iN, ?_, ?_, h.kN, h.xN, ?_, ?_, h.pE⟩
 ·simp only [widenS, joinS, widen1, upd, if_neg hij]; exact h.ow
 ·simp only [widenS, joinS, widen1, upd, if_neg hij]; exact h.cl
 ·simp only [widenS, joinS, widen1, upd, if_neg hij]; exact h.tk
 ·simp only [widenS, joinS, widen1, upd, if_neg hij]; exact h.ge
theorem Tkn.room {d : Cf} {s s1 : St} {i x p k G : Nat} (h : Tkn d s i x p k G) {c : Nat} (hr : roomS d s c = some s1) : Tkn d s1 i x p k G := by
 unfold roomS at hr
 split at hr
 ·split at hr
  ·rename_i j hj
   obtain ⟨-, h2, -⟩ := low_some hj
   cases hr
   exact h.widen h2
  ·cases hr
 ·cases hr
  exact h
theorem Tkn.take {d : Cf} {s : St} {i x p k G : Nat} (h : Tkn d s i x p k G) {c q : Nat} : Tkn d (takeS d s c q) i x p k G := by
 refine ⟨h.iN, h.ow, h.cl, h.kN, h.xN, ?_, h.ge, h.pE⟩
 simp only [takeS, upd]
 split
 ·rename_i e
  unfold upd
  split
  ·rfl
  ·rw [<- e]; exact h.tk
 ·exact h.tk
theorem took {d : Cf} (ok : d.Ok) {s s1 : St} (g : Good d s) {k : Nat} (hk : k < d.nc) (hr : roomS d s k = some s1) {l : List Nat} {p : Nat} (hp : s1.free k = l ++ [p]) :
  Good d (takeS d s1 k p) /\ Tkn d (takeS d s1 k p) (p / d.ps) (p % d.ps / d.sz k) p k (s1.gens (p / d.ps) (p % d.ps / d.sz k)) /\ s1.tkn (p / d.ps) (p % d.ps / d.sz k) = false /\
   ∀ {i x q c G : Nat}, Tkn d s i x q c G -> Tkn d (takeS d s1 k p) i x q c G /\ q ≠ p := by
 obtain ⟨g1, -⟩ := room_good ok g hk hr
 obtain ⟨i, x, h1, h2, h3, h4, h5, h6, h7, h8, h9⟩ := g1.last ok hk (show p ∈ s1.free k by rw [hp]; simp)
 rw [h8, h9]
 have T : Tkn d (takeS d s1 k p) i x p k (s1.gens i x) := by
  refine ⟨h1, h2, h3, hk, h5, ?_, rfl, h7⟩
  simp only [takeS, upd, h8, h9, if_true]
 refine ⟨g1.take ok hk hp, T, h6, fun {i' x' q c G} t => ?_⟩
 have t1 := t.room hr
 refine ⟨t1.take, fun e => ?_⟩
 subst e
 obtain ⟨e1, e2, -⟩ := Tkn.same ok t1.take T
 subst e1 e2
 rw [t1.tk] at h6
 cases h6
theorem room_new {d : Cf} (ok : d.Ok) (k : Nat) : roomS d (new0 d) k = some (widenS d (new0 d) k 0) := by
 have hn := ok.np
 have : low d (new0 d) = some 0 := by
  unfold low
  obtain ⟨n, hn'⟩ : ∃ n, d.np = n + 1 := ⟨d.np - 1, by omega⟩
  rw [hn']
  rfl
 unfold roomS
 have e : (new0 d).free k = [] := rfl
 rw [e, this]
end Go.Proofs.YtngehaiigbbknaaGreat.Cls
/-
  The walk of Of.
-/
namespace Go.Proofs.YtngehaiigbbknaaGreat.Cls
open Go.RowKit Base MapG
def ofN (d : Cf) (s : St) (p : Int) : Option Nat :=
 match chunkN d s p with
 | some (i, x) => if s.tkn i x = true then some (hnd p.toNat (s.gens i x)) else none
 | none => none
def ofV : Option Nat -> Value
 | some h => .tuple #[.int .u64 (h : Int), .bool true]
 | none => .tuple #[.int .u64 0, .bool false]
theorem chunkN_some {d : Cf} {s : St} (g : Good d s) {p : Int} {i x : Nat} (h : chunkN d s p = some (i, x)) : i < d.np /\ s.own i = true /\ x < d.n (s.cls i) /\ 0 <= p /\ p < ((d.ps * d.np : Nat) : Int) := by
 unfold chunkN at h
 split at h
 ·rename_i hp
  split at h
  ·rename_i hh
   injection h with h
   injection h with e1 e2
   rw [e1] at hh e2
   rw [e2] at hh
   exact ⟨g.top i hh.1, hh.1, hh.2.2, hp.1, hp.2⟩
  ·cases h
 ·cases h
theorem ofC (w : World) (L : Lay) (c : Conf) (s : St) (bs : List UInt8) (h : SetAt w L c s bs) (g : Good c.cf s) (p : Int) :
  Calls Tryz.prog 145 #[.pointer (some ⟨L.g, 0, none⟩), .int .i64 p] w fun e w' => e = .returned (ofV (ofN c.cf s p)) /\ ∃ m, w.drewN m = w' := by
 have CC := chunkC w L c s bs h g p
 unfold ofN
 cases hc : chunkN c.cf s p with
 | none =>
  rw [hc] at CC
  unfold chunkV at CC
  unfold ofV
  simp only at CC ⊢
  replace CC := Lib.hid CC
  clear h g hc
  go_enter Tryz.func145, Tryz.ntmps145
  go_wp2_with fail
  refine CC.out.mono ?_
  rintro e w' ⟨rfl, m, rfl⟩
  go_wp2
  go_ret2
  exact ⟨rfl, _, rfl⟩
 | some r =>
  obtain ⟨i, x⟩ := r
  obtain ⟨h1, h2, h3, h4, h5⟩ := chunkN_some g hc
  rw [hc] at CC
  unfold chunkV at CC
  simp only at CC ⊢
  have x0 : (0 : Int) <= (x : Int) := by omega
  have x1 : (x : Int) < (c.cf.n (s.cls i) : Int) := by omega
  have p4 := fun m => (h.drewN m).p4 h1 h2
  have tk := fun m => (h.drewN m).tk h1 h2 h3
  cases ht : s.tkn i x with
  | false =>
   rw [if_neg (by simp)]
   unfold ofV
   simp only [ht] at tk
   replace CC := Lib.hid CC
   clear h g hc
   go_enter Tryz.func145, Tryz.ntmps145
   go_wp2_with fail
   refine CC.out.mono ?_
   rintro e w' ⟨rfl, m, rfl⟩
   have p4 := p4 m
   have tk := tk m
   go_wp2
   go_ret2
   exact ⟨rfl, _, rfl⟩
  | true =>
   rw [if_pos rfl]
   unfold ofV
   simp only [ht] at tk
   have p3 := fun m => (h.drewN m).p3 h1 h2
   have gn := fun m => (h.drewN m).gen h1 h2 h3
   have hgb := g.gen i x
   have ok := h.okc
   have hpb : c.cf.ps * c.cf.np <= 1048576 * 1024 := Nat.mul_le_mul ok.psb ok.npb
   obtain ⟨P, rfl⟩ := Int.eq_ofNat_of_zero_le h4
   have HC := Lib.hid fun W => handleC W P (s.gens i x) (by omega) hgb
   rw [Int.toNat_natCast]
   replace CC := Lib.hid CC
   clear h g hc ok hpb h5
   go_enter Tryz.func145, Tryz.ntmps145
   go_wp2_with fail
   refine CC.out.mono ?_
   rintro e w' ⟨rfl, m, rfl⟩
   have p4 := p4 m
   have tk := tk m
   have p3 := p3 m
   have gn := gn m
   go_wp2_with fail
   refine (HC.out _).mono ?_
   rintro e w' ⟨rfl, rfl⟩
   go_wp2
   go_ret2
   exact ⟨rfl, _, rfl⟩
end Go.Proofs.YtngehaiigbbknaaGreat.Cls
/-
  The fields' stores of an item that there is.
-/
namespace Go.Proofs.YtngehaiigbbknaaGreat.Itm
open Go.RowKit Base Arena Cls
section
variable (w : World) (L : Lay) (c : Conf) (s : St) (bs : List UInt8) (h : SetAt w L c s bs) (g : Cls.Good c.cf s) {H i x p k n : Nat} (K : Chk c s bs.length H i x p k n) (h44 : rd bs (p + 44) 1 ≠ 0) (v : Nat)
include h g K h44
theorem setStC (h1 : 1 <= v) (h4 : v <= 4) : Calls Tryz.prog 110 #[.pointer (some ⟨L.g, 0, none⟩), .int .u64 (H : Int), .int .i64 (v : Int)] w fun e w' => e = .returned (.int .i64 0) /\ SetAt w' L c s (lay bs (p + 45) (putB 1 v)) /\ Only (· = L.ha) w w' := by
  have S := set8Yes w L c s bs h g K h44 45 v (by omega) (by omega)
  rw [show ((45 : Nat) : Int) = 45 from rfl] at S
  refine setStateW _ H (v : Int) w 0 _ ?_
  rw [IntWalk.u8_in _ (by omega), decide_eq_true (show (1 : Int) <= (v : Int) by omega), decide_eq_true (show (v : Int) <= 4 by omega)]
  exact S
theorem setMsC (hv : v < 16) : Calls Tryz.prog 111 #[.pointer (some ⟨L.g, 0, none⟩), .int .u64 (H : Int), .int .i64 (v : Int)] w fun e w' => e = .returned (.int .i64 0) /\ SetAt w' L c s (lay bs (p + 46) (putB 1 v)) /\ Only (· = L.ha) w w' := by
  have S := set8Yes w L c s bs h g K h44 46 v (by omega) (by omega)
  rw [show ((46 : Nat) : Int) = 46 from rfl] at S
  refine setMarksW _ H (v : Int) w 0 _ ?_
  rw [IntWalk.u8_in _ (by omega), show marksN (v : Int) = true by unfold marksN; simp; omega]
  exact S
end
end Go.Proofs.YtngehaiigbbknaaGreat.Itm
namespace Go.Proofs.YtngehaiigbbknaaGreat.Cls
theorem chunk_at {d : Cf} (ok : d.Ok) {s : St} {i x p k G : Nat} (t : Tkn d s i x p k G) : chunkN d s (p : Int) = some (i, x) := by
  obtain ⟨f1, f2, f3, f4, f5, f6, f7⟩ := t.fit ok
  have hz := (ok.sz k t.kN).1
  unfold chunkN
  rw [if_pos (by constructor; omega; rw [Nat.mul_comm]; omega)]
  rw [Int.toNat_natCast, f5, f6, if_pos ⟨t.ow, by rw [t.cl, Nat.mul_mod_left], by rw [t.cl, f7]; exact t.xN⟩, t.cl, f7]
theorem Tkn.of_ {d : Cf} (ok : d.Ok) {s : St} {i x p k G : Nat} (t : Tkn d s i x p k G) : ofN d s (p : Int) = some (hnd p G) := by
  unfold ofN
  rw [chunk_at ok t]
  simp only [if_pos t.tk, Int.toNat_natCast, t.ge]
end Go.Proofs.YtngehaiigbbknaaGreat.Cls
/-
  item's Link and SetLink (printed by wip/gen_link.py).
-/
namespace Go.Proofs.YtngehaiigbbknaaGreat.Itm
open Go.RowKit Base Arena Cls
section
variable (w : World) (L : Lay) (c : Conf) (s : St) (bs : List UInt8) (h : SetAt w L c s bs) (g : Cls.Good c.cf s)
include h g
theorem linkNone {H i x p k n : Nat} (K : Chk c s bs.length H i x p k n) (m : Nat) (hm : m <= 2) (h44 : rd bs (p + 44) 1 = 0) : Calls Tryz.prog 107 #[.pointer (some ⟨L.g, 0, none⟩), .int .u64 (H : Int), .int .i64 (m : Int)] w fun e w' => e = .returned (.tuple #[.int .u64 0, .int .i64 0]) /\ Below w.heap.size w w' := by
  have OC := openK w L c s bs h g K
  rw [kv_eq] at OC
  have k0 : decide ((m : Int) < 0) = false := decide_eq_false (by omega)
  have k1 : decide (2 < (m : Int)) = false := decide_eq_false (by omega)
  have k2 : decide (2 < m) = false := decide_eq_false (by omega)
  obtain ⟨V, hV⟩ : ∃ V, V = rd bs (p + 44) 1 := ⟨_, rfl⟩
  have d1 : decide ((V : Int) = 0) = true := decide_eq_true (by omega)
  have d2 : ((V : Int) == 0) = true := by rw [beq_iff_eq]; omega
  replace OC := Lib.hid OC
  replace hV := Lib.hid hV
  replace h := Lib.hid h
  replace K := Lib.hid K
  clear g h44 hm
  go_enter Tryz.func107, Tryz.ntmps107
  go_wp2_with fail
  refine OC.out.mono ?_
  rintro e w2 ⟨rfl, b2⟩
  obtain ⟨w3, hw3⟩ : ∃ w3, w3 = w2.alloc (.cells #[.pointer (some ⟨L.ga, 0, none⟩), .int .i64 (p : Int), .int .i64 (k : Int), .int .i64 (n : Int)] 200) := ⟨_, rfl⟩
  have S : OS w.heap.size w w3 L c s bs w2.heap.size p k n := by rw [hw3]; exact OS.op p k n h.out b2 b2 b2.size
  obtain ⟨y0, y1, y2, y3⟩ := S.cells
  have KC := Lib.hid (S.key K.out hV.out)
  replace S := Lib.hid S
  replace hw3 := Lib.hid hw3
  clear b2 OC
  generalize hN2 : w2.heap.size = N1 at *
  replace hN2 := Lib.hid hN2
  go_upto_region 2 with fail
  rw [hN2.out, <- hw3.out]
  clear hN2 hw3
  go_wp2_with fail
  refine KC.out.mono ?_
  rintro e w4 ⟨rfl, b4⟩
  replace S := S.out.step b4
  obtain ⟨y0, y1, y2, y3⟩ := S.cells
  replace S := Lib.hid S
  clear KC b4 K hV h
  go_wp2
  go_ret2
  exact ⟨rfl, S.out.below⟩
theorem linkZero {H i x p k n : Nat} (K : Chk c s bs.length H i x p k n) (m : Nat) (hm : m <= 2) (h44 : rd bs (p + 44) 1 ≠ 0) (hr : rd bs (p + 4 * m) 4 = 0) : Calls Tryz.prog 107 #[.pointer (some ⟨L.g, 0, none⟩), .int .u64 (H : Int), .int .i64 (m : Int)] w fun e w' => e = .returned (.tuple #[.int .u64 0, .int .i64 0]) /\ Below w.heap.size w w' := by
  have OC := openK w L c s bs h g K
  rw [kv_eq] at OC
  have k0 : decide ((m : Int) < 0) = false := decide_eq_false (by omega)
  have k1 : decide (2 < (m : Int)) = false := decide_eq_false (by omega)
  have k2 : decide (2 < m) = false := decide_eq_false (by omega)
  obtain ⟨V, hV⟩ : ∃ V, V = rd bs (p + 44) 1 := ⟨_, rfl⟩
  have d1 : decide ((V : Int) = 0) = false := decide_eq_false (by omega)
  have d2 : ((V : Int) == 0) = false := by rw [beq_eq_false_iff_ne]; omega
  have q1 : IntKind.i64.wrap (4 * (m : Int)) = ((4 * m : Nat) : Int) := by rw [IntWalk.i64_in _ (by omega)]; omega
  have q2 : IntKind.i64.wrap ((4 * m : Nat) : Int) = ((4 * m : Nat) : Int) := IntWalk.i64_in _ (by omega)
  have hm4 : 4 * m + 4 <= 12 := by omega
  obtain ⟨M, hM⟩ : ∃ M, M = rd bs (p + 4 * m) 4 := ⟨_, rfl⟩
  rw [<- hM] at hr
  have hlt := rd_lt bs (p + 4 * m) 4
  rw [<- hM] at hlt
  have e1 : decide ((M : Int) = 0) = true := decide_eq_true (by omega)
  have e2 : ((M : Int) == 0) = true := by rw [beq_iff_eq]; omega
  generalize 4 * m = m4 at *
  replace hM := Lib.hid hM
  clear hr hlt
  replace OC := Lib.hid OC
  replace hV := Lib.hid hV
  replace h := Lib.hid h
  replace K := Lib.hid K
  clear g h44 hm
  go_enter Tryz.func107, Tryz.ntmps107
  go_wp2_with fail
  refine OC.out.mono ?_
  rintro e w2 ⟨rfl, b2⟩
  obtain ⟨w3, hw3⟩ : ∃ w3, w3 = w2.alloc (.cells #[.pointer (some ⟨L.ga, 0, none⟩), .int .i64 (p : Int), .int .i64 (k : Int), .int .i64 (n : Int)] 200) := ⟨_, rfl⟩
  have S : OS w.heap.size w w3 L c s bs w2.heap.size p k n := by rw [hw3]; exact OS.op p k n h.out b2 b2 b2.size
  obtain ⟨y0, y1, y2, y3⟩ := S.cells
  have KC := Lib.hid (S.key K.out hV.out)
  replace S := Lib.hid S
  replace hw3 := Lib.hid hw3
  clear b2 OC
  generalize hN2 : w2.heap.size = N1 at *
  replace hN2 := Lib.hid hN2
  go_upto_region 2 with fail
  rw [hN2.out, <- hw3.out]
  clear hN2 hw3
  go_wp2_with fail
  refine KC.out.mono ?_
  rintro e w4 ⟨rfl, b4⟩
  replace S := S.out.step b4
  obtain ⟨y0, y1, y2, y3⟩ := S.cells
  have GC := get32C w4 L.ga L.ha c.cf.ps bs S.at_ p m4 k n (K.out.ck.there m4 4 (by have := K.out.n64; omega))
  rw [kv_eq, <- hM.out] at GC
  replace GC := Lib.hid GC
  replace S := Lib.hid S
  clear KC b4 K hV h
  go_wp2_with fail
  refine GC.out.mono ?_
  rintro e w5 ⟨rfl, b5⟩
  replace S := Lib.hid (S.out.step b5)
  clear GC b5 y0 y1 y2 y3 hM
  go_wp2
  go_ret2
  exact ⟨rfl, S.out.below⟩
theorem linkTo {H i x p k n : Nat} (K : Chk c s bs.length H i x p k n) (m : Nat) (hm : m <= 2) (h44 : rd bs (p + 44) 1 ≠ 0) (r : Nat) (hr : rd bs (p + 4 * m) 4 = r + 1) (T : Nat) (hT : ofN c.cf s ((8 * r : Nat) : Int) = some T) : Calls Tryz.prog 107 #[.pointer (some ⟨L.g, 0, none⟩), .int .u64 (H : Int), .int .i64 (m : Int)] w fun e w' => e = .returned (.tuple #[.int .u64 (T : Int), .int .i64 0]) /\ Below w.heap.size w w' := by
  have OC := openK w L c s bs h g K
  rw [kv_eq] at OC
  have k0 : decide ((m : Int) < 0) = false := decide_eq_false (by omega)
  have k1 : decide (2 < (m : Int)) = false := decide_eq_false (by omega)
  have k2 : decide (2 < m) = false := decide_eq_false (by omega)
  obtain ⟨V, hV⟩ : ∃ V, V = rd bs (p + 44) 1 := ⟨_, rfl⟩
  have d1 : decide ((V : Int) = 0) = false := decide_eq_false (by omega)
  have d2 : ((V : Int) == 0) = false := by rw [beq_eq_false_iff_ne]; omega
  have q1 : IntKind.i64.wrap (4 * (m : Int)) = ((4 * m : Nat) : Int) := by rw [IntWalk.i64_in _ (by omega)]; omega
  have q2 : IntKind.i64.wrap ((4 * m : Nat) : Int) = ((4 * m : Nat) : Int) := IntWalk.i64_in _ (by omega)
  have hm4 : 4 * m + 4 <= 12 := by omega
  obtain ⟨M, hM⟩ : ∃ M, M = rd bs (p + 4 * m) 4 := ⟨_, rfl⟩
  rw [<- hM] at hr
  have hlt := rd_lt bs (p + 4 * m) 4
  rw [<- hM] at hlt
  have e1 : decide ((M : Int) = 0) = false := decide_eq_false (by omega)
  have e2 : ((M : Int) == 0) = false := by rw [beq_eq_false_iff_ne]; omega
  have q3 : IntKind.i64.wrap (M : Int) = (M : Int) := IntWalk.i64_in _ (by omega)
  have q4 : IntKind.i64.wrap ((M : Int) - 1) = (r : Int) := by rw [IntWalk.i64_in _ (by omega)]; omega
  have q5 : IntKind.i64.wrap (8 * (r : Int)) = ((8 * r : Nat) : Int) := by rw [IntWalk.i64_in _ (by omega)]; omega
  have TC := fun w h => ofC w L c s bs h g ((8 * r : Nat) : Int)
  rw [hT] at TC
  unfold ofV at TC
  simp only at TC
  replace TC := Lib.hid TC
  generalize 8 * r = r8 at *
  generalize 4 * m = m4 at *
  replace hM := Lib.hid hM
  clear hr hlt
  replace OC := Lib.hid OC
  replace hV := Lib.hid hV
  replace h := Lib.hid h
  replace K := Lib.hid K
  clear g h44 hm
  go_enter Tryz.func107, Tryz.ntmps107
  go_wp2_with fail
  refine OC.out.mono ?_
  rintro e w2 ⟨rfl, b2⟩
  obtain ⟨w3, hw3⟩ : ∃ w3, w3 = w2.alloc (.cells #[.pointer (some ⟨L.ga, 0, none⟩), .int .i64 (p : Int), .int .i64 (k : Int), .int .i64 (n : Int)] 200) := ⟨_, rfl⟩
  have S : OS w.heap.size w w3 L c s bs w2.heap.size p k n := by rw [hw3]; exact OS.op p k n h.out b2 b2 b2.size
  obtain ⟨y0, y1, y2, y3⟩ := S.cells
  have KC := Lib.hid (S.key K.out hV.out)
  replace S := Lib.hid S
  replace hw3 := Lib.hid hw3
  clear b2 OC
  generalize hN2 : w2.heap.size = N1 at *
  replace hN2 := Lib.hid hN2
  go_upto_region 2 with fail
  rw [hN2.out, <- hw3.out]
  clear hN2 hw3
  go_wp2_with fail
  refine KC.out.mono ?_
  rintro e w4 ⟨rfl, b4⟩
  replace S := S.out.step b4
  obtain ⟨y0, y1, y2, y3⟩ := S.cells
  have GC := get32C w4 L.ga L.ha c.cf.ps bs S.at_ p m4 k n (K.out.ck.there m4 4 (by have := K.out.n64; omega))
  rw [kv_eq, <- hM.out] at GC
  replace GC := Lib.hid GC
  replace S := Lib.hid S
  clear KC b4 K hV h
  go_wp2_with fail
  refine GC.out.mono ?_
  rintro e w5 ⟨rfl, b5⟩
  replace S := Lib.hid (S.out.step b5)
  clear GC b5 y0 y1 y2 y3 hM
  have TC2 := Lib.hid (TC.out w5 S.out.set)
  clear TC
  go_wp2_with fail
  refine TC2.out.mono ?_
  rintro e w6 ⟨rfl, m6, rfl⟩
  clear TC2
  go_wp2
  go_ret2
  exact ⟨rfl, below_drew S.out.below _⟩
theorem setLinkBad {H i x p k n : Nat} (K : Chk c s bs.length H i x p k n) (h44 : rd bs (p + 44) 1 ≠ 0) (m : Nat) (hm : m <= 2) (T : Nat) (hT : T < 18446744073709551616) (hT0 : T ≠ 0) (hTf : findN c.cf s T = none) : Calls Tryz.prog 109 #[.pointer (some ⟨L.g, 0, none⟩), .int .u64 (H : Int), .int .i64 (m : Int), .int .u64 (T : Int)] w fun e w' => e = .returned (.int .i64 20) /\ Below w.heap.size w w' := by
  have OC := editYes w L c s bs h g K h44
  rw [kv_eq] at OC
  have k0 : decide ((m : Int) < 0) = false := decide_eq_false (by omega)
  have k1 : decide (2 < (m : Int)) = false := decide_eq_false (by omega)
  have k2 : decide (2 < m) = false := decide_eq_false (by omega)
  have q1 : IntKind.i64.wrap (4 * (m : Int)) = ((4 * m : Nat) : Int) := by rw [IntWalk.i64_in _ (by omega)]; omega
  have q2 : IntKind.i64.wrap ((4 * m : Nat) : Int) = ((4 * m : Nat) : Int) := IntWalk.i64_in _ (by omega)
  have hm4 : 4 * m + 4 <= 12 := by omega
  generalize 4 * m = m4 at *
  have e1 : decide ((T : Int) = 0) = false := decide_eq_false (by omega)
  have e2 : ((T : Int) != 0) = true := by rw [bne_iff_ne]; omega
  have e3 : decide (T = 0) = false := decide_eq_false (by omega)
  have TC := fun w h => atC w L c s bs h g T hT
  rw [hTf] at TC
  unfold atV at TC
  simp only at TC
  replace TC := Lib.hid TC
  replace OC := Lib.hid OC
  replace h := Lib.hid h
  replace K := Lib.hid K
  clear g h44 hm
  go_enter Tryz.func109, Tryz.ntmps109
  go_wp2_with fail
  refine OC.out.mono ?_
  rintro e w2 ⟨rfl, b2⟩
  obtain ⟨w3, hw3⟩ : ∃ w3, w3 = w2.alloc (.cells #[.pointer (some ⟨L.ga, 0, none⟩), .int .i64 (p : Int), .int .i64 (k : Int), .int .i64 (n : Int)] 200) := ⟨_, rfl⟩
  have S : OS w.heap.size w w3 L c s bs w2.heap.size p k n := by rw [hw3]; exact OS.op p k n h.out b2 b2 b2.size
  obtain ⟨y0, y1, y2, y3⟩ := S.cells
  replace S := Lib.hid S
  replace hw3 := Lib.hid hw3
  clear b2 OC
  generalize hN2 : w2.heap.size = N1 at *
  replace hN2 := Lib.hid hN2
  go_upto_region 2 with fail
  rw [hN2.out, <- hw3.out]
  clear hN2 hw3
  have TC2 := Lib.hid (TC.out w3 S.out.set)
  clear TC
  go_wp2_with fail
  refine TC2.out.mono ?_
  rintro e w4 ⟨rfl, m6, rfl⟩
  clear TC2
  replace S := S.out.drewN m6
  obtain ⟨y0, y1, y2, y3⟩ := S.cells
  replace S := Lib.hid S
  go_wp2
  go_ret
  exact ⟨rfl, S.out.below⟩
theorem setLinkZero {H i x p k n : Nat} (K : Chk c s bs.length H i x p k n) (h44 : rd bs (p + 44) 1 ≠ 0) (m : Nat) (hm : m <= 2)  : Calls Tryz.prog 109 #[.pointer (some ⟨L.g, 0, none⟩), .int .u64 (H : Int), .int .i64 (m : Int), .int .u64 0] w fun e w' => e = .returned (.int .i64 0) /\ SetAt w' L c s (lay bs (p + 4 * m) (putB 4 0)) /\ Only (· = L.ha) w w' := by
  have OC := editYes w L c s bs h g K h44
  rw [kv_eq] at OC
  have k0 : decide ((m : Int) < 0) = false := decide_eq_false (by omega)
  have k1 : decide (2 < (m : Int)) = false := decide_eq_false (by omega)
  have k2 : decide (2 < m) = false := decide_eq_false (by omega)
  have q1 : IntKind.i64.wrap (4 * (m : Int)) = ((4 * m : Nat) : Int) := by rw [IntWalk.i64_in _ (by omega)]; omega
  have q2 : IntKind.i64.wrap ((4 * m : Nat) : Int) = ((4 * m : Nat) : Int) := IntWalk.i64_in _ (by omega)
  have hm4 : 4 * m + 4 <= 12 := by omega
  generalize 4 * m = m4 at *
  replace OC := Lib.hid OC
  replace h := Lib.hid h
  replace K := Lib.hid K
  clear g h44 hm
  go_enter Tryz.func109, Tryz.ntmps109
  go_wp2_with fail
  refine OC.out.mono ?_
  rintro e w2 ⟨rfl, b2⟩
  obtain ⟨w3, hw3⟩ : ∃ w3, w3 = w2.alloc (.cells #[.pointer (some ⟨L.ga, 0, none⟩), .int .i64 (p : Int), .int .i64 (k : Int), .int .i64 (n : Int)] 200) := ⟨_, rfl⟩
  have S : OS w.heap.size w w3 L c s bs w2.heap.size p k n := by rw [hw3]; exact OS.op p k n h.out b2 b2 b2.size
  obtain ⟨y0, y1, y2, y3⟩ := S.cells
  replace S := Lib.hid S
  replace hw3 := Lib.hid hw3
  clear b2 OC
  generalize hN2 : w2.heap.size = N1 at *
  replace hN2 := Lib.hid hN2
  go_upto_region 2 with fail
  rw [hN2.out, <- hw3.out]
  clear hN2 hw3
  have PC := put32C w3 L.ga L.ha c.cf.ps bs S.out.at_ p m4 k n 0 (by omega) (K.out.ck.there m4 4 (by have := K.out.n64; omega))
  rw [kv_eq] at PC
  rw [show ((0 : Nat) : Int) = 0 from rfl] at PC
  replace PC := Lib.hid PC
  go_wp2_with fail
  refine PC.out.mono ?_
  rintro e w5 ⟨rfl, A, o5⟩
  clear PC y0 y1 y2 y3
  have T := Lib.hid (S.out.set.laid o5 A.bytes (putlen _ _ _ _ (by have h1 := K.out.ck.all; have h2 := K.out.n64; omega)))
  replace o5 := Lib.hid ((Only.of_below S.out.below (Nat.le_refl _) (· = L.ha)).trans o5 fun _ _ h => h)
  clear A S
  go_wp2
  go_ret
  exact ⟨rfl, T.out, o5.out⟩
theorem setLinkTo {H i x p k n : Nat} (K : Chk c s bs.length H i x p k n) (h44 : rd bs (p + 44) 1 ≠ 0) (m : Nat) (hm : m <= 2) (T : Nat) (hT : T < 18446744073709551616) (hT0 : T ≠ 0) {ti tx tp : Nat} (hTf : findN c.cf s T = some (ti, tx, tp)) : Calls Tryz.prog 109 #[.pointer (some ⟨L.g, 0, none⟩), .int .u64 (H : Int), .int .i64 (m : Int), .int .u64 (T : Int)] w fun e w' => e = .returned (.int .i64 0) /\ SetAt w' L c s (lay bs (p + 4 * m) (putB 4 (T % 4294967296))) /\ Only (· = L.ha) w w' := by
  have OC := editYes w L c s bs h g K h44
  rw [kv_eq] at OC
  have k0 : decide ((m : Int) < 0) = false := decide_eq_false (by omega)
  have k1 : decide (2 < (m : Int)) = false := decide_eq_false (by omega)
  have k2 : decide (2 < m) = false := decide_eq_false (by omega)
  have q1 : IntKind.i64.wrap (4 * (m : Int)) = ((4 * m : Nat) : Int) := by rw [IntWalk.i64_in _ (by omega)]; omega
  have q2 : IntKind.i64.wrap ((4 * m : Nat) : Int) = ((4 * m : Nat) : Int) := IntWalk.i64_in _ (by omega)
  have hm4 : 4 * m + 4 <= 12 := by omega
  generalize 4 * m = m4 at *
  have e1 : decide ((T : Int) = 0) = false := decide_eq_false (by omega)
  have e2 : ((T : Int) != 0) = true := by rw [bne_iff_ne]; omega
  have e3 : decide (T = 0) = false := decide_eq_false (by omega)
  have TC := fun w h => atC w L c s bs h g T hT
  rw [hTf] at TC
  unfold atV at TC
  simp only at TC
  replace TC := Lib.hid TC
  obtain ⟨T4, hT4⟩ : ∃ T4, T4 = T % 4294967296 := ⟨_, rfl⟩
  have q3 : IntKind.u32.wrap (T : Int) = (T4 : Int) := by rw [IntKind.wrap_u32]; omega
  have hv : T4 < 4294967296 := by omega
  rw [<- hT4]
  clear hT4 hTf
  replace OC := Lib.hid OC
  replace h := Lib.hid h
  replace K := Lib.hid K
  clear g h44 hm
  go_enter Tryz.func109, Tryz.ntmps109
  go_wp2_with fail
  refine OC.out.mono ?_
  rintro e w2 ⟨rfl, b2⟩
  obtain ⟨w3, hw3⟩ : ∃ w3, w3 = w2.alloc (.cells #[.pointer (some ⟨L.ga, 0, none⟩), .int .i64 (p : Int), .int .i64 (k : Int), .int .i64 (n : Int)] 200) := ⟨_, rfl⟩
  have S : OS w.heap.size w w3 L c s bs w2.heap.size p k n := by rw [hw3]; exact OS.op p k n h.out b2 b2 b2.size
  obtain ⟨y0, y1, y2, y3⟩ := S.cells
  replace S := Lib.hid S
  replace hw3 := Lib.hid hw3
  clear b2 OC
  generalize hN2 : w2.heap.size = N1 at *
  replace hN2 := Lib.hid hN2
  go_upto_region 2 with fail
  rw [hN2.out, <- hw3.out]
  clear hN2 hw3
  have TC2 := Lib.hid (TC.out w3 S.out.set)
  clear TC
  go_wp2_with fail
  refine TC2.out.mono ?_
  rintro e w4 ⟨rfl, m6, rfl⟩
  clear TC2
  replace S := S.out.drewN m6
  obtain ⟨y0, y1, y2, y3⟩ := S.cells
  replace S := Lib.hid S
  have PC := put32C (w3.drewN m6) L.ga L.ha c.cf.ps bs S.out.at_ p m4 k n T4 hv (K.out.ck.there m4 4 (by have := K.out.n64; omega))
  rw [kv_eq] at PC
  replace PC := Lib.hid PC
  go_wp2_with fail
  refine PC.out.mono ?_
  rintro e w5 ⟨rfl, A, o5⟩
  clear PC y0 y1 y2 y3
  have T := Lib.hid (S.out.set.laid o5 A.bytes (putlen _ _ _ _ (by have h1 := K.out.ck.all; have h2 := K.out.n64; omega)))
  replace o5 := Lib.hid ((Only.of_below S.out.below (Nat.le_refl _) (· = L.ha)).trans o5 fun _ _ h => h)
  clear A S
  go_wp2
  go_ret
  exact ⟨rfl, T.out, o5.out⟩
end
end Go.Proofs.YtngehaiigbbknaaGreat.Itm
/-
  Of each good handle's chunk: has it an item, its state, its links 1 and 2; in plain numbers, and what the stores make of them.
-/
namespace Go.Proofs.YtngehaiigbbknaaGreat.Que
open Go.RowKit Base Arena Cls Itm
section
variable {w : World} {L : Lay} {c : Conf} {s : St} {bs : List UInt8} (h : SetAt w L c s bs) (g : Cls.Good c.cf s) {H i x p k n : Nat} (K : Chk c s bs.length H i x p k n) (h44 : rd bs (p + 44) 1 ≠ 0) (j : Nat) (hj : j <= 2) (T : Nat)
include h g K h44 hj
theorem zSetLinkC (hT : T = 0 \/ T < 18446744073709551616 /\ T ≠ 0 /\ ∃ ti tx tp, findN c.cf s T = some (ti, tx, tp)) : Calls Tryz.prog 109 #[.pointer (some ⟨L.g, 0, none⟩), .int .u64 (H : Int), .int .i64 (j : Int), .int .u64 (T : Int)] w fun e w' => e = .returned (.int .i64 0) /\ SetAt w' L c s (lay bs (p + 4 * j) (putB 4 (T % 4294967296))) /\ Only (· = L.ha) w w' := by
  rcases hT with rfl | ⟨h1, h2, ti, tx, tp, h3⟩
  · exact setLinkZero w L c s bs h g K h44 j hj
  · exact setLinkTo w L c s bs h g K h44 j hj T h1 h2 h3
theorem zLinkC (hr : rd bs (p + 4 * j) 4 = T % 4294967296) (hT : T = 0 \/ ∃ r, T % 4294967296 = r + 1 /\ ofN c.cf s ((8 * r : Nat) : Int) = some T) : Calls Tryz.prog 107 #[.pointer (some ⟨L.g, 0, none⟩), .int .u64 (H : Int), .int .i64 (j : Int)] w fun e w' => e = .returned (.tuple #[.int .u64 (T : Int), .int .i64 0]) /\ Below w.heap.size w w' := by
  rcases hT with rfl | ⟨r, h1, h2⟩
  · exact linkZero w L c s bs h g K j hj h44 hr
  · exact linkTo w L c s bs h g K j hj h44 r (hr.trans h1) T h2
end
structure Zd where
  st : Nat
  a : Nat
  b : Nat
def ZAt (bs : List UInt8) (p : Nat) : Option Zd -> Prop
  | none => rd bs (p + 44) 1 = 0
  | some z => rd bs (p + 44) 1 ≠ 0 /\ rd bs (p + 45) 1 = z.st /\ rd bs (p + 4) 4 = z.a % 4294967296 /\ rd bs (p + 8) 4 = z.b % 4294967296
def GoodL (d : Cf) (s : St) (T : Nat) : Prop := T = 0 \/ T < 18446744073709551616 /\ ∃ i x p, findN d s T = some (i, x, p)
structure Lk (c : Conf) (s : St) (bs : List UInt8) (Z : Nat -> Option Zd) : Prop where
  at_ : ∀ H i x p, H < 18446744073709551616 -> findN c.cf s H = some (i, x, p) -> ZAt bs p (Z H)
  st : ∀ H z, Z H = some z -> z.st < 256
  lk : ∀ H z, (∃ i x p, findN c.cf s H = some (i, x, p)) -> Z H = some z -> GoodL c.cf s z.a /\ GoodL c.cf s z.b
theorem good_ne {d : Cf} {s : St} {T i x p : Nat} (h : findN d s T = some (i, x, p)) : T ≠ 0 := by
  rintro rfl
  unfold findN at h
  rw [if_pos (.inl rfl)] at h
  cases h
theorem GoodL.set {d : Cf} {s : St} {T : Nat} (h : GoodL d s T) : T = 0 \/ T < 18446744073709551616 /\ T ≠ 0 /\ ∃ ti tx tp, findN d s T = some (ti, tx, tp) := by
  rcases h with h | ⟨h1, i, x, p, h2⟩
  · exact .inl h
  · exact .inr ⟨h1, good_ne h2, i, x, p, h2⟩
theorem GoodL.of {d : Cf} (ok : d.Ok) {s : St} (g : Cls.Good d s) {T : Nat} (h : GoodL d s T) : T = 0 \/ ∃ r, T % 4294967296 = r + 1 /\ ofN d s ((8 * r : Nat) : Int) = some T := by
  rcases h with h | ⟨h1, i, x, p, h2⟩
  · exact .inl h
  · obtain ⟨t, hT⟩ := Tkn.of ok g h2
    obtain ⟨-, -, -, p8, -⟩ := t.fit ok
    obtain ⟨-, -, h3, -, -⟩ := t.hlt ok g
    rw [<- hT] at h3
    refine .inr ⟨p / 8, h3, ?_⟩
    rw [show 8 * (p / 8) = p by omega, t.of_ ok, <- hT]
theorem good_apart {d : Cf} (ok : d.Ok) {s : St} (g : Cls.Good d s) {H H' i x p i' x' p' : Nat} (h : findN d s H = some (i, x, p)) (h' : findN d s H' = some (i', x', p')) (hne : H ≠ H') : p + 64 <= p' \/ p' + 64 <= p := by
  obtain ⟨t, e⟩ := Tkn.of ok g h
  obtain ⟨t', e'⟩ := Tkn.of ok g h'
  have hp : p ≠ p' := by
    rintro rfl
    obtain ⟨-, -, -, eG⟩ := t.same ok t'
    apply hne
    rw [e, e', eG]
  have z := (ok.sz _ t.kN).1
  have z' := (ok.sz _ t'.kN).1
  rcases t.apart ok t' hp with h1 | h1
  · left; omega
  · right; omega
theorem zat_far {bs : List UInt8} {p q o n v : Nat} {Z : Option Zd} (h : ZAt bs q Z) (hb : p + o + n <= bs.length) (ho : o + n <= 64) (hd : p + 64 <= q \/ q + 64 <= p) : ZAt (lay bs (p + o) (putB n v)) q Z := by
  have key : ∀ a m, a + m <= 64 -> rd (lay bs (p + o) (putB n v)) (q + a) m = rd bs (q + a) m := fun a m ha => rd_out _ _ _ _ _ (by rw [putB_len]; exact hb) (by rw [putB_len]; omega)
  cases Z with
  | none => unfold ZAt at h ⊢; rw [key 44 1 (by omega)]; exact h
  | some z => unfold ZAt at h ⊢; rw [key 44 1 (by omega), key 45 1 (by omega), key 4 4 (by omega), key 8 4 (by omega)]; exact h
section
variable {c : Conf} {s : St} {bs : List UInt8} {Z : Nat -> Option Zd} (h : Lk c s bs Z) (ok : c.cf.Ok) (g : Cls.Good c.cf s) {H i x p k n : Nat} (K : Chk c s bs.length H i x p k n)
include h ok g K
theorem Lk.put {o m v : Nat} (ho : o + m <= 64) (z' : Zd) (hst : z'.st < 256) (hz : ZAt (lay bs (p + o) (putB m v)) p (some z')) (hl : GoodL c.cf s z'.a /\ GoodL c.cf s z'.b) : Lk c s (lay bs (p + o) (putB m v)) (upd Z H (some z')) := by
  have hall := K.ck.all
  have n64 := K.n64
  refine ⟨fun H' i' x' p' hH' hf => ?_, fun H' z hzz => ?_, fun H' z hf hzz => ?_⟩
  · by_cases e : H' = H
    · subst e
      have e2 : p' = p := by rw [K.hf] at hf; simp only [Option.some.injEq, Prod.mk.injEq] at hf; exact hf.2.2.symm
      subst e2
      rw [upd_at]; exact hz
    · rw [upd_ne _ _ e]
      exact zat_far (h.at_ H' i' x' p' hH' hf) (by omega) ho (good_apart ok g K.hf hf (fun e' => e e'.symm))
  · by_cases e : H' = H
    · subst e; rw [upd_at] at hzz; injection hzz with hzz; subst hzz; exact hst
    · rw [upd_ne _ _ e] at hzz; exact h.st H' z hzz
  · by_cases e : H' = H
    · subst e; rw [upd_at] at hzz; injection hzz with hzz; subst hzz; exact hl
    · rw [upd_ne _ _ e] at hzz; exact h.lk H' z hf hzz
theorem Lk.set_a {z : Zd} (hz : Z H = some z) {T : Nat} (hT : GoodL c.cf s T) : Lk c s (lay bs (p + 4) (putB 4 (T % 4294967296))) (upd Z H (some ⟨z.st, T, z.b⟩)) := by
  have hall := K.ck.all
  have n64 := K.n64
  have ha := h.at_ H i x p K.hH K.hf
  rw [hz] at ha
  obtain ⟨a1, a2, a3, a4⟩ := ha
  refine h.put ok g K (by omega) ⟨z.st, T, z.b⟩ (h.st H z hz) ⟨?_, ?_, ?_, ?_⟩ ⟨hT, (h.lk H z ⟨i, x, p, K.hf⟩ hz).2⟩
  · rw [rd_out _ _ _ _ _ (by rw [putB_len]; omega) (by rw [putB_len]; omega)]; exact a1
  · rw [rd_out _ _ _ _ _ (by rw [putB_len]; omega) (by rw [putB_len]; omega)]; exact a2
  · exact rd_lay _ _ _ _ (by omega) (Nat.mod_lt _ (by omega))
  · rw [rd_out _ _ _ _ _ (by rw [putB_len]; omega) (by rw [putB_len]; omega)]; exact a4
theorem Lk.set_b {z : Zd} (hz : Z H = some z) {T : Nat} (hT : GoodL c.cf s T) : Lk c s (lay bs (p + 8) (putB 4 (T % 4294967296))) (upd Z H (some ⟨z.st, z.a, T⟩)) := by
  have hall := K.ck.all
  have n64 := K.n64
  have ha := h.at_ H i x p K.hH K.hf
  rw [hz] at ha
  obtain ⟨a1, a2, a3, a4⟩ := ha
  refine h.put ok g K (by omega) ⟨z.st, z.a, T⟩ (h.st H z hz) ⟨?_, ?_, ?_, ?_⟩ ⟨(h.lk H z ⟨i, x, p, K.hf⟩ hz).1, hT⟩
  · rw [rd_out _ _ _ _ _ (by rw [putB_len]; omega) (by rw [putB_len]; omega)]; exact a1
  · rw [rd_out _ _ _ _ _ (by rw [putB_len]; omega) (by rw [putB_len]; omega)]; exact a2
  · rw [rd_out _ _ _ _ _ (by rw [putB_len]; omega) (by rw [putB_len]; omega)]; exact a3
  · exact rd_lay _ _ _ _ (by omega) (Nat.mod_lt _ (by omega))
theorem Lk.set_s {z : Zd} (hz : Z H = some z) {v : Nat} (hv : v < 256) : Lk c s (lay bs (p + 45) (putB 1 v)) (upd Z H (some ⟨v, z.a, z.b⟩)) := by
  have hall := K.ck.all
  have n64 := K.n64
  have ha := h.at_ H i x p K.hH K.hf
  rw [hz] at ha
  obtain ⟨a1, a2, a3, a4⟩ := ha
  refine h.put ok g K (by omega) ⟨v, z.a, z.b⟩ hv ⟨?_, ?_, ?_, ?_⟩ (h.lk H z ⟨i, x, p, K.hf⟩ hz)
  · rw [rd_out _ _ _ _ _ (by rw [putB_len]; omega) (by rw [putB_len]; omega)]; exact a1
  · exact rd_lay _ _ _ _ (by omega) (by omega)
  · rw [rd_out _ _ _ _ _ (by rw [putB_len]; omega) (by rw [putB_len]; omega)]; exact a3
  · rw [rd_out _ _ _ _ _ (by rw [putB_len]; omega) (by rw [putB_len]; omega)]; exact a4
end
def Ed (D : Nat -> Prop) (bs bs' : List UInt8) : Prop := bs'.length = bs.length /\ ∀ j : Nat, (∀ p, D p -> ¬ (p + 4 <= j /\ j < p + 12 \/ j = p + 45)) -> bs'[j]? = bs[j]?
def Itp (c : Conf) (s : St) (Z : Nat -> Option Zd) : Nat -> Prop := fun p => ∃ H i x, findN c.cf s H = some (i, x, p) /\ (Z H).isSome = true
theorem Ed.refl (D : Nat -> Prop) (bs : List UInt8) : Ed D bs bs := ⟨rfl, fun _ _ => rfl⟩
theorem Ed.trans {D : Nat -> Prop} {a b c : List UInt8} (h : Ed D a b) (k : Ed D b c) : Ed D a c := ⟨k.1.trans h.1, fun j hj => (k.2 j hj).trans (h.2 j hj)⟩
theorem itp_congr {c : Conf} {s : St} {Z Z' : Nat -> Option Zd} (h : ∀ H, (Z' H).isSome = (Z H).isSome) : Itp c s Z' = Itp c s Z := by
  funext p
  unfold Itp
  simp only [h]
theorem ed_put {D : Nat -> Prop} {bs : List UInt8} {p o n v : Nat} (hD : D p) (hb : p + o + n <= bs.length) (ho : 4 <= o /\ o + n <= 12 \/ o = 45 /\ n = 1) : Ed D bs (lay bs (p + o) (putB n v)) := by
  refine ⟨lay_len _ _ _ (by rw [putB_len]; exact hb), fun j hj => ?_⟩
  rw [lay_get _ _ _ (by rw [putB_len]; exact hb), putB_len, if_neg]
  intro h
  have := hj p hD
  omega
structure ZS (w : World) (L : Lay) (c : Conf) (s : St) (bs : List UInt8) (Z : Nat -> Option Zd) : Prop where
  set : SetAt w L c s bs
  good : Cls.Good c.cf s
  lk : Lk c s bs Z
theorem ZS.step {w w' : World} {L : Lay} {c : Conf} {s : St} {bs : List UInt8} {Z : Nat -> Option Zd} (h : ZS w L c s bs Z) (b : Below w.heap.size w w') : ZS w' L c s bs Z := ⟨h.set.kept fun d hd => b.block d (h.set.lt hd), h.good, h.lk⟩
theorem ZS.drewN {w : World} {L : Lay} {c : Conf} {s : St} {bs : List UInt8} {Z : Nat -> Option Zd} (h : ZS w L c s bs Z) (n : Nat) : ZS (w.drewN n) L c s bs Z := ⟨h.set.drewN n, h.good, h.lk⟩
theorem ZS.only {w w' : World} {L : Lay} {c : Conf} {s : St} {bs : List UInt8} {Z : Nat -> Option Zd} {S : Nat -> Prop} (h : ZS w L c s bs Z) (o : Only S w w') (hs : ∀ b, Foot L c s b -> ¬ S b) : ZS w' L c s bs Z := ⟨h.set.only o hs, h.good, h.lk⟩
section
variable {w : World} {L : Lay} {c : Conf} {s : St} {bs : List UInt8} {Z : Nat -> Option Zd} (h : ZS w L c s bs Z) {H i x p : Nat} (hH : H < 18446744073709551616)
include h hH
theorem zStateNo (hf : findN c.cf s H = none) : Calls Tryz.prog 74 #[.pointer (some ⟨L.g, 0, none⟩), .int .u64 (H : Int)] w fun e w' => e = .returned (.tuple #[.int .i64 0, .int .i64 20]) /\ Below w.heap.size w w' :=
  stateW _ H w 0 20 _ (by
    have := tell8No w L c s bs h.set h.good 45 H hH hf
    rw [show ((45 : Nat) : Int) = 45 from rfl] at this
    exact this) (by omega) (by omega)
def zst : Option Zd -> Nat
  | none => 0
  | some z => z.st
theorem zStateYes (hf : findN c.cf s H = some (i, x, p)) : Calls Tryz.prog 74 #[.pointer (some ⟨L.g, 0, none⟩), .int .u64 (H : Int)] w fun e w' => e = .returned (.tuple #[.int .i64 (zst (Z H) : Int), .int .i64 0]) /\ Below w.heap.size w w' := by
  have K := Chk.of h.set h.good hH hf
  have ha := h.lk.at_ H i x p hH hf
  cases hz : Z H with
  | none =>
    rw [hz] at ha
    refine stateW _ H w 0 0 _ ?_ (by omega) (by omega)
    have := tell8None w L c s bs h.set h.good K ha 45 (by omega)
    rw [show ((45 : Nat) : Int) = 45 from rfl] at this
    exact this
  | some z =>
    rw [hz] at ha
    obtain ⟨a1, a2, -⟩ := ha
    have hs := h.lk.st H z hz
    refine stateW _ H w (z.st : Int) 0 _ ?_ (by omega) (by omega)
    have := tell8Yes w L c s bs h.set h.good K a1 45 (by omega)
    rw [a2, show ((45 : Nat) : Int) = 45 from rfl] at this
    exact this
theorem zLinkYes (hf : findN c.cf s H = some (i, x, p)) (z : Zd) (hz : Z H = some z) :
    (Calls Tryz.prog 107 #[.pointer (some ⟨L.g, 0, none⟩), .int .u64 (H : Int), .int .i64 1] w fun e w' => e = .returned (.tuple #[.int .u64 (z.a : Int), .int .i64 0]) /\ Below w.heap.size w w') /\
    (Calls Tryz.prog 107 #[.pointer (some ⟨L.g, 0, none⟩), .int .u64 (H : Int), .int .i64 2] w fun e w' => e = .returned (.tuple #[.int .u64 (z.b : Int), .int .i64 0]) /\ Below w.heap.size w w') := by
  have K := Chk.of h.set h.good hH hf
  have ha := h.lk.at_ H i x p hH hf
  rw [hz] at ha
  obtain ⟨a1, a2, a3, a4⟩ := ha
  obtain ⟨l1, l2⟩ := h.lk.lk H z ⟨i, x, p, hf⟩ hz
  have ok := h.set.okc
  have r1 := zLinkC h.set h.good K a1 1 (by omega) z.a a3 (l1.of ok h.good)
  have r2 := zLinkC h.set h.good K a1 2 (by omega) z.b a4 (l2.of ok h.good)
  exact ⟨r1, r2⟩
theorem zSetA (hf : findN c.cf s H = some (i, x, p)) (z : Zd) (hz : Z H = some z) (T : Nat) (hT : GoodL c.cf s T) :
    Calls Tryz.prog 109 #[.pointer (some ⟨L.g, 0, none⟩), .int .u64 (H : Int), .int .i64 1, .int .u64 (T : Int)] w fun e w' => e = .returned (.int .i64 0) /\ Only (· = L.ha) w w' /\ ∃ bs', Ed (Itp c s Z) bs bs' /\ ZS w' L c s bs' (upd Z H (some ⟨z.st, T, z.b⟩)) := by
  have K := Chk.of h.set h.good hH hf
  have ha := h.lk.at_ H i x p hH hf
  rw [hz] at ha
  have := zSetLinkC h.set h.good K ha.1 1 (by omega) T hT.set
  exact this.mono fun e w' ⟨h1, h2, h3⟩ => ⟨h1, h3, _, ed_put ⟨H, i, x, hf, by rw [hz]; rfl⟩ (by have := K.ck.all; have := K.n64; omega) (by omega), h2, h.good, h.lk.set_a h.set.okc h.good K hz hT⟩
theorem zSetB (hf : findN c.cf s H = some (i, x, p)) (z : Zd) (hz : Z H = some z) (T : Nat) (hT : GoodL c.cf s T) :
    Calls Tryz.prog 109 #[.pointer (some ⟨L.g, 0, none⟩), .int .u64 (H : Int), .int .i64 2, .int .u64 (T : Int)] w fun e w' => e = .returned (.int .i64 0) /\ Only (· = L.ha) w w' /\ ∃ bs', Ed (Itp c s Z) bs bs' /\ ZS w' L c s bs' (upd Z H (some ⟨z.st, z.a, T⟩)) := by
  have K := Chk.of h.set h.good hH hf
  have ha := h.lk.at_ H i x p hH hf
  rw [hz] at ha
  have := zSetLinkC h.set h.good K ha.1 2 (by omega) T hT.set
  exact this.mono fun e w' ⟨h1, h2, h3⟩ => ⟨h1, h3, _, ed_put ⟨H, i, x, hf, by rw [hz]; rfl⟩ (by have := K.ck.all; have := K.n64; omega) (by omega), h2, h.good, h.lk.set_b h.set.okc h.good K hz hT⟩
theorem zSetS (hf : findN c.cf s H = some (i, x, p)) (z : Zd) (hz : Z H = some z) (v : Nat) (h1 : 1 <= v) (h4 : v <= 4) :
    Calls Tryz.prog 110 #[.pointer (some ⟨L.g, 0, none⟩), .int .u64 (H : Int), .int .i64 (v : Int)] w fun e w' => e = .returned (.int .i64 0) /\ Only (· = L.ha) w w' /\ ∃ bs', Ed (Itp c s Z) bs bs' /\ ZS w' L c s bs' (upd Z H (some ⟨v, z.a, z.b⟩)) := by
  have K := Chk.of h.set h.good hH hf
  have ha := h.lk.at_ H i x p hH hf
  rw [hz] at ha
  have := setStC w L c s bs h.set h.good K ha.1 v h1 h4
  exact this.mono fun e w' ⟨h1, h2, h3⟩ => ⟨h1, h3, _, ed_put ⟨H, i, x, hf, by rw [hz]; rfl⟩ (by have := K.ck.all; have := K.n64; omega) (by omega), h2, h.good, h.lk.set_s h.set.okc h.good K hz (by omega)⟩
end
structure QN where
 hd : Nat -> Nat -> Nat
 tl : Nat -> Nat -> Nat
 n : Nat -> Nat -> Nat
def qcv (F : QN) : Nat -> Nat -> Value
 | x, 0 => .int .u64 (F.hd x 0 : Int)
 | x, 1 => .int .u64 (F.tl x 0 : Int)
 | x, 2 => .int .i64 (F.n x 0 : Int)
 | x, 3 => .int .u64 (F.hd x 1 : Int)
 | x, 4 => .int .u64 (F.tl x 1 : Int)
 | x, 5 => .int .i64 (F.n x 1 : Int)
 | x, 6 => .int .u64 (F.hd x 2 : Int)
 | x, 7 => .int .u64 (F.tl x 2 : Int)
 | x, _ => .int .i64 (F.n x 2 : Int)
structure QAt (w : World) (L : Lay) (c : Conf) (gq gl : Nat) (F : QN) : Prop where
 head : Blk w gq 141 #[.pointer (some ⟨L.g, 0, none⟩), .slice (some ⟨gl, 0, none⟩) c.nc c.nc]
 grid : Grid w gl 159 c.nc 9 (qcv F)
def updF (f : Nat -> Nat -> Nat) (x k v : Nat) : Nat -> Nat -> Nat := fun a b => if a = x /\ b = k then v else f a b
def QN.setHd (F : QN) (x k v : Nat) : QN := { F with hd := updF F.hd x k v }
def QN.setTl (F : QN) (x k v : Nat) : QN := { F with tl := updF F.tl x k v }
def QN.setN (F : QN) (x k v : Nat) : QN := { F with n := updF F.n x k v }
section
variable {w w' : World} {L : Lay} {c : Conf} {gq gl : Nat} {F : QN} (q : QAt w L c gq gl F)
include q
theorem QAt.ltq : gq < w.heap.size := q.head.lt
theorem QAt.ltl : gl < w.heap.size := q.grid.lt
theorem QAt.c0 : w.cell? ⟨gq, 0, none⟩ = some (.pointer (some ⟨L.g, 0, none⟩)) := q.head.cell 0
theorem QAt.c1 : w.cell? ⟨gq, 1, none⟩ = some (.slice (some ⟨gl, 0, none⟩) c.nc c.nc) := q.head.cell 1
theorem QAt.kept (hb : ∀ b, b = gq \/ b = gl -> w'.heap[b]? = w.heap[b]?) : QAt w' L c gq gl F := ⟨(hb gq (.inl rfl)).trans q.head, q.grid.kept (hb gl (.inr rfl))⟩
theorem QAt.only {S : Nat -> Prop} (o : Only S w w') (h1 : ¬ S gq) (h2 : ¬ S gl) : QAt w' L c gq gl F :=
 q.kept fun b hb => by
  rcases hb with rfl | rfl
  ·exact o.block _ q.ltq h1
  ·exact o.block _ q.ltl h2
theorem QAt.below (b : Below w.heap.size w w') : QAt w' L c gq gl F := q.kept fun d hd => b.block d (by rcases hd with rfl | rfl; exact q.ltq; exact q.ltl)
theorem QAt.drewN (n : Nat) : QAt (w.drewN n) L c gq gl F := q.kept fun _ _ => rfl
theorem QAt.ne : gq ≠ gl := ne_ty ⟨_, q.head⟩ q.grid.blk (by decide)
theorem QAt.qhd {x k : Nat} (hx : x < c.nc) (hk : k < 3) : w.cell? ⟨gl, x * 9 + k * 3, none⟩ = some (.int .u64 (F.hd x k : Int)) := by
 have := q.grid.cell x (k * 3) hx (by omega)
 rw [this]
 obtain rfl | rfl | rfl : k = 0 \/ k = 1 \/ k = 2 := by omega
 all_goals rfl
theorem QAt.qtl {x k : Nat} (hx : x < c.nc) (hk : k < 3) : w.cell? ⟨gl, x * 9 + k * 3 + 1, none⟩ = some (.int .u64 (F.tl x k : Int)) := by
 have := q.grid.cell x (k * 3 + 1) hx (by omega)
 rw [Nat.add_assoc, this]
 obtain rfl | rfl | rfl : k = 0 \/ k = 1 \/ k = 2 := by omega
 all_goals rfl
theorem QAt.qn {x k : Nat} (hx : x < c.nc) (hk : k < 3) : w.cell? ⟨gl, x * 9 + k * 3 + 2, none⟩ = some (.int .i64 (F.n x k : Int)) := by
 have := q.grid.cell x (k * 3 + 2) hx (by omega)
 rw [Nat.add_assoc, this]
 obtain rfl | rfl | rfl : k = 0 \/ k = 1 \/ k = 2 := by omega
 all_goals rfl
theorem QAt.set_ (F' : QN) {x j : Nat} (hx : x < c.nc) (hj : j < 9) (v : Value) (he : ∀ a b, a < c.nc -> b < 9 -> put2 (qcv F) x j v a b = qcv F' a b) : QAt (w.setCell ⟨gl, x * 9 + j, none⟩ v) L c gq gl F' := by
 refine ⟨?_, (q.grid.set x j hx hj v).congr he⟩
 exact q.head.far (p := ⟨gl, x * 9 + j, none⟩) q.ne v
end
theorem qcv_hd (F : QN) (x k v : Nat) (hk : k < 3) : ∀ a b, b < 9 -> put2 (qcv F) x (k * 3) (.int .u64 (v : Int)) a b = qcv (F.setHd x k v) a b := by
 intro a b hb
 unfold put2
 obtain rfl | rfl | rfl : k = 0 \/ k = 1 \/ k = 2 := by omega
 all_goals
  obtain rfl | rfl | rfl | rfl | rfl | rfl | rfl | rfl | rfl : b = 0 \/ b = 1 \/ b = 2 \/ b = 3 \/ b = 4 \/ b = 5 \/ b = 6 \/ b = 7 \/ b = 8 := by omega
  all_goals
   by_cases ha : a = x <;> simp [qcv, QN.setHd, updF, ha]
theorem qcv_tl (F : QN) (x k v : Nat) (hk : k < 3) : ∀ a b, b < 9 -> put2 (qcv F) x (k * 3 + 1) (.int .u64 (v : Int)) a b = qcv (F.setTl x k v) a b := by
 intro a b hb
 unfold put2
 obtain rfl | rfl | rfl : k = 0 \/ k = 1 \/ k = 2 := by omega
 all_goals
  obtain rfl | rfl | rfl | rfl | rfl | rfl | rfl | rfl | rfl : b = 0 \/ b = 1 \/ b = 2 \/ b = 3 \/ b = 4 \/ b = 5 \/ b = 6 \/ b = 7 \/ b = 8 := by omega
  all_goals
   by_cases ha : a = x <;> simp [qcv, QN.setTl, updF, ha]
theorem qcv_n (F : QN) (x k v : Nat) (hk : k < 3) : ∀ a b, b < 9 -> put2 (qcv F) x (k * 3 + 2) (.int .i64 (v : Int)) a b = qcv (F.setN x k v) a b := by
 intro a b hb
 unfold put2
 obtain rfl | rfl | rfl : k = 0 \/ k = 1 \/ k = 2 := by omega
 all_goals
  obtain rfl | rfl | rfl | rfl | rfl | rfl | rfl | rfl | rfl : b = 0 \/ b = 1 \/ b = 2 \/ b = 3 \/ b = 4 \/ b = 5 \/ b = 6 \/ b = 7 \/ b = 8 := by omega
  all_goals
   by_cases ha : a = x <;> simp [qcv, QN.setN, updF, ha]
section
variable {w w' : World} {L : Lay} {c : Conf} {gq gl : Nat} {F : QN} (q : QAt w L c gq gl F) {x k : Nat} (hx : x < c.nc) (hk : k < 3) (v : Nat)
include q hx hk
theorem QAt.setHd : QAt (w.setCell ⟨gl, x * 9 + k * 3, none⟩ (.int .u64 (v : Int))) L c gq gl (F.setHd x k v) :=
 q.set_ _ hx (by omega) _ fun a b _ hb => qcv_hd F x k v hk a b hb
theorem QAt.setTl : QAt (w.setCell ⟨gl, x * 9 + k * 3 + 1, none⟩ (.int .u64 (v : Int))) L c gq gl (F.setTl x k v) := by
 rw [Nat.add_assoc]
 exact q.set_ _ hx (by omega) _ fun a b _ hb => qcv_tl F x k v hk a b hb
theorem QAt.setN : QAt (w.setCell ⟨gl, x * 9 + k * 3 + 2, none⟩ (.int .i64 (v : Int))) L c gq gl (F.setN x k v) := by
 rw [Nat.add_assoc]
 exact q.set_ _ hx (by omega) _ fun a b _ hb => qcv_n F x k v hk a b hb
end
end Go.Proofs.YtngehaiigbbknaaGreat.Que
