/-
  Contracts and lemmas, joined: Base, Frame, ClassPlain, ClassConf, ClassArg, Arena, ArenaThere, ClassAr, ItemAr, ItemGet.
-/
import Derived.WalkKit
import Derived.Lib.Hide
import Derived.Maps.AppendAt
import Derived.Deep.AppendLies
import Derived.Deep.Draws
import Derived.Deep.QuietTactic
import Derived.BigQuiet
import Derived.RegionTactic
import Derived.OwnWalk
import Derived.Deep.DeepFit
import Derived.Handy
import Derived.Deep.OwnRows
import Derived.Laws.BytesArg
import Derived.Laws.BytesString
import Derived.Laws.MakeOwn
import Derived.Laws.CopyOwn
import Derived.Test.YtfjiphibalhcgaaGreatRows
import Derived.ProofKit
import Derived.Carry
import Derived.ChangeSame
import Derived.Deep.Slices
import Derived.Deep.Fields
import Derived.Test.YtfjiphibalhcgaaGreatProg
import Derived.Deep.DeepCutAuto
import Derived.Lib.MinMax
import Derived.StillTailTactics
import Derived.Deep.RegionHeld3
import Derived.Laws.BitsAllLaws
import Derived.Laws.Bits64b
import Derived.Deep.RegionLaw
set_option linter.unusedSimpArgs false
set_option linter.unusedVariables false
set_option linter.unusedSectionVars false
set_option maxRecDepth 100000
/-
  Words for memory that the walks of all layers share: a slice that reads as a list of cells or of bytes, a block known whole, append onto a row of the call's own, frames. Nothing here names the program.
-/
namespace Go.Proofs.YtfjiphibalhcgaaGreat.Base
open Go.RowKit
theorem block_of_add (a:Addr) (n:Nat):(a.add n).block = a.block:=by unfold Addr.add; split <;> rfl
def Reads (w:World) (B size:Nat) (A:Option Addr) (n:Nat) (xs:List Value):Prop :=
  xs.length = n * size /\ (0 < n -> ∃ ad,A = some ad /\ ad.block < B /\ ∀ j u,xs[j]? = some u -> w.cell? (ad.add j) = some u)
section
variable {w w':World} {B B' size n:Nat} {A:Option Addr} {xs:List Value}
theorem Reads.keep (h:Reads w B size A n xs) (hk:∀ p:Addr,p.block < B -> w'.cell? p = w.cell? p):Reads w' B size A n xs :=
  ⟨h.1,fun hn => by
    obtain ⟨ad,e,hb,hc⟩:=h.2 hn
    exact ⟨ad,e,hb,fun j u hu => (hk _ (by rw [block_of_add]; exact hb)).trans (hc j u hu)⟩⟩
theorem Reads.below (h:Reads w B size A n xs) (hb:Below B w w'):Reads w' B size A n xs:=h.keep fun _ hp => hb.cell hp
end
def Blk (w:World) (g:Nat) (t:TypeId) (cs:Array Value):Prop:=w.heap[g]? = some (.cells cs t (0,0))
section
variable {w w':World} {g:Nat} {t:TypeId} {cs:Array Value}
theorem Blk.lt (h:Blk w g t cs):g < w.heap.size:=by
  rcases Nat.lt_or_ge g w.heap.size with hlt | hge
  · exact hlt
  · unfold Blk at h; rw [Array.getElem?_eq_none hge] at h; cases h
theorem Blk.cell (h:Blk w g t cs) (i:Nat):w.cell? ⟨g,i,none⟩ = cs[i]?:=cell_of_row w g i cs t (0,0) h
theorem Blk.frozen (h:Blk w g t cs) (i:Nat):w.frozen? ⟨g,i,none⟩ = false:=by
  unfold Blk at h
  simp [World.frozen?,h]
theorem Blk.new (w:World) (t:TypeId) (cs:Array Value):Blk (w.alloc (.cells cs t)) w.heap.size t cs:=heap_alloc_new w _
theorem Blk.drewN (h:Blk w g t cs) (n:Nat):Blk (w.drewN n) g t cs:=h
theorem Blk.alloc (h:Blk w g t cs) (o:Obj):Blk (w.alloc o) g t cs:=(Below.heap_alloc w o g h.lt).trans h
theorem Blk.set_ (h:Blk w g t cs) (i:Nat) (u:Value):Blk (w.setCell ⟨g,i,none⟩ u) g t (cs.setIfInBounds i u):=by
  unfold Blk at h ⊢
  simp [World.setCell,Array.getElem?_modify,h]
theorem Blk.far (h:Blk w g t cs) {p:Addr} (hp:g ≠ p.block) (u:Value):Blk (w.setCell p u) g t cs:=(Below.heap_setCell w p u g hp).trans h
theorem Blk.below {B:Nat} (h:Blk w g t cs) (hb:Below B w w') (hg:g < B):Blk w' g t cs:=(hb.block g hg).trans h
theorem Blk.ne_ {g':Nat} {t':TypeId} {cs':Array Value} (h:Blk w g t cs) (h':Blk w g' t' cs') (hne:t ≠ t'):g ≠ g':=by
  rintro rfl
  unfold Blk at h h'
  rw [h] at h'
  injection h' with h'
  injection h' with _ ht
  exact hne ht
end
section
variable {P:Program} (w:World)
theorem run_append_of_nil (base:Nat) (t ty e:TypeId) (i:TypeInfo) (size:Nat) (ht:P.underlying t = some (.slice e)) (hi:P.info? e = some i)
    (v:Value) (n:Nat) (xs:List Value) (hown:w.ownsRow base e size v n xs) (c:Nat):(Builtin.append_ #[t,t] ty #[v,.slice none 0 c]).run P w = .ok v w:=by
  rcases hown.2 with ⟨rfl,rfl⟩ | ⟨g,cap,cur,rfl,_,_,hnc,_⟩
  · simp [Builtin.append_,run_underlying ht,sizeOf,typeInfo,hi,Builtin.lenOf,Builtin.firstCells]
  · simp [Builtin.append_,run_underlying ht,sizeOf,typeInfo,hi,Builtin.lenOf,Builtin.firstCells,hnc,storeCells]
theorem run_append_any (base:Nat) (t ty e:TypeId) (i:TypeInfo) (z:Value) (size bytes:Nat) (ht:P.underlying t = some (.slice e)) (hi:P.info? e = some i) (hz:i.zero = some z)
    (hsize:i.size = size) (hby:i.bytes = bytes) (hzs:z.cells.size = size) (hsz : 0 < size)
    (v:Value) (n:Nat) (xs:List Value) (hown:w.ownsRow base e size v n xs)
    (B:Nat) (A:Option Addr) (m c:Nat) (news:List Value) (hr:Reads w B size A m news) (h1:∀ u ∈ news,u.oneCell' = true)
    (h63:n + m <= maxLen) (hbytes:(n + m) * bytes <= 140737488355328) (hbase:base <= w.heap.size) :
    ∃ v' w',(Builtin.append_ #[t,t] ty #[v,.slice A m c]).run P w = .ok v' w' /\ w'.ownsRow base e size v' (n + m) (xs ++ news) /\ w.grownBy w' v.ownBlock /\
      (v'.ownBlock = v.ownBlock \/ v'.ownBlock = some w.heap.size):=by
  rcases A with _ | ad
  · have hm:m = 0:=by
      rcases Nat.eq_zero_or_pos m with h0 | h0
      · exact h0
      · obtain ⟨ad,h,_⟩:=hr.2 h0
        cases h
    subst hm
    have hn:news = []:=List.eq_nil_of_length_eq_zero (by simpa using hr.1)
    subst hn
    exact ⟨v,w,run_append_of_nil w base t ty e i size ht hi v n xs hown c,by simpa using hown,World.grownBy.refl w _,.inl rfl⟩
  · have hcells:∀ j u,news[j]? = some u -> w.cell? (ad.add j) = some u:=by
      intro j u hu
      rcases Nat.eq_zero_or_pos m with h0 | h0
      · subst h0
        have hn:news = []:=List.eq_nil_of_length_eq_zero (by simpa using hr.1)
        subst hn
        simp at hu
      · obtain ⟨ad',h,_,hc⟩:=hr.2 h0
        injection h with h
        subst h
        exact hc j u hu
    obtain ⟨v',w',hrun,h2,h3,_,h5⟩:=run_append_own_at (P:=P) w base t ty e i z size bytes ht hi hz hsize hby hzs hsz v n xs hown ad m c news hr.1 hcells h1 h63 hbytes hbase
    exact ⟨v',w',hrun,h2,h3,h5⟩
theorem wp_append_any {o:Oper} {a:Act} {K:Act -> World -> Prop} {Q:Exit -> Act -> World -> Prop} (s x:Operand) (t:TypeId)
    (ho:o.op = .call { callee:=.builtin .append,args:=#[s,x],argTypes:=#[t,t] })
    (base:Nat) (e:TypeId) (i:TypeInfo) (z:Value) (size bytes:Nat) (ht:P.underlying t = some (.slice e)) (hi:P.info? e = some i) (hz:i.zero = some z)
    (hsize:i.size = size) (hby:i.bytes = bytes) (hzs:z.cells.size = size) (hsz : 0 < size)
    (v:Value) (n:Nat) (xs:List Value) (hs:a.eval s = v) (hown:w.ownsRow base e size v n xs)
    (B:Nat) (A:Option Addr) (m c:Nat) (news:List Value) (hx:a.eval x = .slice A m c) (hr:Reads w B size A m news) (h1:∀ u ∈ news,u.oneCell' = true)
    (h63:n + m <= maxLen) (hbytes:(n + m) * bytes <= 140737488355328) (hbase:base <= w.heap.size)
    (h:∀ v' w',w'.ownsRow base e size v' (n + m) (xs ++ news) -> w.grownBy w' v.ownBlock -> (v'.ownBlock = v.ownBlock \/ v'.ownBlock = some w.heap.size) -> K (a.put o.dst v') w'):o.wp P a w K Q:=by
  obtain ⟨v',w',hrun,h2,h3,h4⟩:=run_append_any (P:=P) w base t o.type e i z size bytes ht hi hz hsize hby hzs hsz v n xs hown B A m c news hr h1 h63 hbytes hbase
  unfold Oper.wp execOp
  simp only [ho,resolve,invoke,builtin,Sem.run_bind,Sem.run_pure,Result.andThen_ok,List.map_toArray,List.map_cons,List.map_nil,hs,hx,hrun]
  exact h v' w' h2 h3 h4
theorem wpList_append_any {ops:Array Oper} {rest:List Oper} {o:Oper} {a:Act} {Q:Exit -> Act -> World -> Prop} (hgd:o.guard = none) (s x:Operand) (t:TypeId)
    (ho:o.op = .call { callee:=.builtin .append,args:=#[s,x],argTypes:=#[t,t] })
    (base:Nat) (e:TypeId) (i:TypeInfo) (z:Value) (size bytes:Nat) (ht:P.underlying t = some (.slice e)) (hi:P.info? e = some i) (hz:i.zero = some z)
    (hsize:i.size = size) (hby:i.bytes = bytes) (hzs:z.cells.size = size) (hsz : 0 < size)
    (v:Value) (n:Nat) (xs:List Value) (hs:a.eval s = v) (hown:w.ownsRow base e size v n xs)
    (B:Nat) (A:Option Addr) (m c:Nat) (news:List Value) (hx:a.eval x = .slice A m c) (hr:Reads w B size A m news) (h1:∀ u ∈ news,u.oneCell' = true)
    (h63:n + m <= maxLen) (hbytes:(n + m) * bytes <= 140737488355328) (hbase:base <= w.heap.size)
    (h:∀ v' w',w'.ownsRow base e size v' (n + m) (xs ++ news) -> w.grownBy w' v.ownBlock -> (v'.ownBlock = v.ownBlock \/ v'.ownBlock = some w.heap.size) -> wpList P ops Q rest (a.put o.dst v') w'):wpList P ops Q (o :: rest) a w :=
  wpList_plain hgd fun _ hK => wp_append_any w s x t ho base e i z size bytes ht hi hz hsize hby hzs hsz v n xs hs hown B A m c news hx hr h1 h63 hbytes hbase fun v' w' h2 h3 h4 => hK _ _ (h v' w' h2 h3 h4)
theorem step_append_any {ops:Array Oper} {o:Oper} {a:Act} {K:Act -> World -> Prop} {Q:Exit -> Act -> World -> Prop} {E:Prop} (hgd:o.guard = none) (s x:Operand) (t:TypeId)
    (ho:o.op = .call { callee:=.builtin .append,args:=#[s,x],argTypes:=#[t,t] })
    (base:Nat) (e:TypeId) (i:TypeInfo) (z:Value) (size bytes:Nat) (ht:P.underlying t = some (.slice e)) (hi:P.info? e = some i) (hz:i.zero = some z)
    (hsize:i.size = size) (hby:i.bytes = bytes) (hzs:z.cells.size = size) (hsz : 0 < size)
    (v:Value) (n:Nat) (xs:List Value) (hs:a.eval s = v) (hown:w.ownsRow base e size v n xs)
    (B:Nat) (A:Option Addr) (m c:Nat) (news:List Value) (hx:a.eval x = .slice A m c) (hr:Reads w B size A m news) (h1:∀ u ∈ news,u.oneCell' = true)
    (h63:n + m <= maxLen) (hbytes:(n + m) * bytes <= 140737488355328) (hbase:base <= w.heap.size)
    (h:∀ v' w',w'.ownsRow base e size v' (n + m) (xs ++ news) -> w.grownBy w' v.ownBlock -> (v'.ownBlock = v.ownBlock \/ v'.ownBlock = some w.heap.size) -> K (a.put o.dst v') w') :
    if Region.wanted o (yielded ops a.tmps) = true then Oper.wp P o a w K Q else E:=by
  have hw:Region.wanted o (yielded ops a.tmps) = true:=by simp [Region.wanted,hgd]
  rw [if_pos hw]
  exact wp_append_any w s x t ho base e i z size bytes ht hi hz hsize hby hzs hsz v n xs hs hown B A m c news hx hr h1 h63 hbytes hbase h
theorem step_append_new {ops:Array Oper} {o:Oper} {a:Act} {K:Act -> World -> Prop} {Q:Exit -> Act -> World -> Prop} {E:Prop} (hgd:o.guard = none) (s x:Operand) (t:TypeId)
    (ho:o.op = .call { callee:=.builtin .append,args:=#[s,x],argTypes:=#[t,t] })
    (base:Nat) (e:TypeId) (i:TypeInfo) (z:Value) (size bytes:Nat) (ht:P.underlying t = some (.slice e)) (hi:P.info? e = some i) (hz:i.zero = some z)
    (hsize:i.size = size) (hby:i.bytes = bytes) (hzs:z.cells.size = size) (hsz : 0 < size)
    (v:Value) (n:Nat) (xs:List Value) (hs:a.eval s = v) (hown:w.ownsRow base e size v n xs)
    (B:Nat) (A:Option Addr) (m c:Nat) (news:List Value) (hx:a.eval x = .slice A m c) (hr:Reads w B size A m news) (h1:∀ u ∈ news,u.oneCell' = true)
    (h63:n + m <= maxLen) (hbytes:(n + m) * bytes <= 140737488355328) (hbase:base <= w.heap.size) (hm : 0 < n + m)
    (h:∀ b cap w',w'.ownsRow base e size (.slice (some ⟨b,0,none⟩) (n + m) cap) (n + m) (xs ++ news) -> w.grownBy w' v.ownBlock -> (v.ownBlock = some b \/ b = w.heap.size) -> b < w'.heap.size -> K (a.put o.dst (.slice (some ⟨b,0,none⟩) (n + m) cap)) w') :
    if Region.wanted o (yielded ops a.tmps) = true then Oper.wp P o a w K Q else E:=by
  refine step_append_any w hgd s x t ho base e i z size bytes ht hi hz hsize hby hzs hsz v n xs hs hown B A m c news hx hr h1 h63 hbytes hbase fun v' w' h2 h3 h4 => ?_
  obtain ⟨b,cap,rfl,_,hlt⟩:=h2.form hm
  refine h b cap w' h2 h3 ?_ hlt
  rcases h4 with h4 | h4
  · exact .inl h4.symm
  · refine .inr ?_
    simpa [Value.ownBlock] using h4
end
theorem quiet_left {P:Program} {f:FuncId} {args:Array Value} {w:World} {n:Nat} {v:Value}
    (h:Calls P f args (w.drewN n) fun e w' => e = .returned v /\ w.drewN n = w'):Calls P f args (w.drewN n) fun e w'' => e = .returned v /\ ∃ m,w'' = w.drewN m :=
  h.mono fun _ _ ⟨he,hm⟩ => ⟨he,n,hm.symm⟩
theorem below_drewN {B:Nat} {a w:World} (h:Below B a w) (n:Nat):Below B a (w.drewN n):=⟨h.os,h.tape,h.output,h.size,h.block⟩
structure EI (P:Program) (t e:TypeId) (z:Value) (size bytes:Nat):Prop where
  ht:P.underlying t = some (.slice e)
  info:∃ i,P.info? e = some i /\ i.zero = some z /\ i.size = size /\ i.bytes = bytes
  zs:z.cells.size = size
  pos : 0 < size
theorem EI.mk' {P:Program} {t e:TypeId} {z:Value} {size bytes:Nat} (ht:P.underlying t = some (.slice e)) (h:(P.info? e).map (fun i => (i.zero,i.size,i.bytes)) = some (some z,size,bytes))
    (hz:z.cells.size = size) (hp : 0 < size):EI P t e z size bytes:=by
  obtain ⟨i,h1,h2,h3,h4⟩:=info_parts h
  exact ⟨ht,⟨i,h1,h2,h3,h4⟩,hz,hp⟩
theorem wpList_app {P:Program} {w:World} {ops:Array Oper} {rest:List Oper} {o:Oper} {a:Act} {Q:Exit -> Act -> World -> Prop} (hgd:o.guard = none) (s x:Operand) (t:TypeId)
    (ho:o.op = .call { callee:=.builtin .append,args:=#[s,x],argTypes:=#[t,t] })
    {e:TypeId} {z:Value} {size bytes:Nat} (E:EI P t e z size bytes)
    (base:Nat) (v:Value) (n:Nat) (xs:List Value) (hs:a.eval s = v) (hown:w.ownsRow base e size v n xs)
    (B:Nat) (A:Option Addr) (m c:Nat) (news:List Value) (hx:a.eval x = .slice A m c) (hr:Reads w B size A m news) (h1:∀ u ∈ news,u.oneCell' = true)
    (h63:n + m <= maxLen) (hbytes:(n + m) * bytes <= 140737488355328) (hbase:base <= w.heap.size)
    (h:∀ v' w',w'.ownsRow base e size v' (n + m) (xs ++ news) -> w.grownBy w' v.ownBlock -> (v'.ownBlock = v.ownBlock \/ v'.ownBlock = some w.heap.size) -> wpList P ops Q rest (a.put o.dst v') w'):wpList P ops Q (o :: rest) a w:=by
  obtain ⟨i,hi,hz,hsi,hby⟩:=E.info
  exact wpList_append_any w hgd s x t ho base e i z size bytes E.ht hi hz hsi hby E.zs E.pos v n xs hs hown B A m c news hx hr h1 h63 hbytes hbase h
theorem EI.make {P:Program} {t e:TypeId} {z:Value} {size bytes:Nat} (E:EI P t e z size bytes) (kl kc:IntKind) (n c:Nat) (hnc:n <= c) (hb:bytes * c <= 281474976710656) (hc:c <= 9223372036854775807) (w:World) :
    (Instr.makeSlice t (.int kl (n:Int)) (.int kc (c:Int))).run P w = .ok (.slice (some ⟨w.heap.size,0,none⟩) n c) (w.alloc (.cells (madeCells z.cells (c * size)) e)):=by
  obtain ⟨i,hi,hz,hsi,hby⟩:=E.info
  have h':((i.bytes * c:Nat):Int) <= 281474976710656:=by rw [hby]; omega
  have hr:=run_make (P:=P) w t e i z E.ht hi hz kl kc n c (by omega) (by omega) (by rwa [Int.natCast_mul] at h') (by omega)
  simp only [Int.toNat_natCast,hsi] at hr
  exact hr
theorem spot_none {w:World} {a:Addr} {v:Value} (h:w.cell? a = some v):a = ⟨a.block,a.off,none⟩:=by
  have hs:a.spot = none:=by
    unfold World.cell? at h
    split at h
    · by_cases hs:a.spot.isSome = true
      · simp [hs] at h
      · simpa using hs
    · cases h
  cases a; simp_all
theorem add_explicit (b off j:Nat):(⟨b,off,none⟩:Addr).add j = ⟨b,off + j,none⟩:=by
  unfold Addr.add; split <;> simp_all
def Row (w:World) (B:Nat) (A:Option Addr) (xs:List Value):Prop:=0 < xs.length -> ∃ b off,A = some ⟨b,off,none⟩ /\ b < B /\ ∀ j v,xs[j]? = some v -> w.cell? ⟨b,off + j,none⟩ = some v
section
variable {w w':World} {B B':Nat} {A:Option Addr} {xs:List Value}
theorem Row.nil_ (w:World) (B:Nat) (A:Option Addr):Row w B A []:=fun h => absurd h (by simp)
theorem Row.keep (h:Row w B A xs) (hk:∀ p:Addr,p.block < B -> w'.cell? p = w.cell? p):Row w' B A xs:=fun hx =>
  let ⟨b,off,e,hb,hc⟩:=h hx
  ⟨b,off,e,hb,fun j v hv => (hk ⟨b,off + j,none⟩ hb).trans (hc j v hv)⟩
theorem Row.below (h:Row w B A xs) (hb:Below B w w'):Row w' B A xs:=h.keep fun _ hp => hb.cell hp
end
def bv (b:UInt8):Value:=.int .u8 (b.toNat:Int)
def Bytes (w:World) (B:Nat) (A:Option Addr) (l:List UInt8):Prop:=Row w B A (l.map bv)
theorem Bytes.at_ {w:World} {B:Nat} {A:Option Addr} {l:List UInt8} (h:Bytes w B A l) (k:Nat) (hk:k < l.length) :
    ∃ b off,A = some ⟨b,off,none⟩ /\ b < B /\ w.cell? ⟨b,off + k,none⟩ = some (.int .u8 ((l[k]).toNat:Int)):=by
  obtain ⟨b,off,rfl,hb,hc⟩:=h (by rw [List.length_map]; omega)
  exact ⟨b,off,rfl,hb,hc k _ (by rw [List.getElem?_map,List.getElem?_eq_getElem hk]; rfl)⟩
theorem bv_one (l:List UInt8):∀ u ∈ l.map bv,u.oneCell' = true:=by
  intro u hu
  obtain ⟨b, -,rfl⟩:=List.mem_map.1 hu
  rfl
theorem byte_lt (b:UInt8):b.toNat < 256:=b.toNat_lt
structure Only (S:Nat -> Prop) (w w':World):Prop where
  os:w'.os = w.os
  tape:w'.tape = w.tape
  output:w'.output = w.output
  size:w.heap.size <= w'.heap.size
  block:∀ k,k < w.heap.size -> ¬ S k -> w'.heap[k]? = w.heap[k]?
theorem Only.refl (S:Nat -> Prop) (w:World):Only S w w:=⟨rfl,rfl,rfl,Nat.le_refl _,fun _ _ _ => rfl⟩
theorem Only.trans {S T:Nat -> Prop} {a b c:World} (h:Only S a b) (k:Only T b c) (hT:∀ x,x < a.heap.size -> T x -> S x):Only S a c :=
  ⟨k.os.trans h.os,k.tape.trans h.tape,k.output.trans h.output,Nat.le_trans h.size k.size,fun i hi hs => (k.block i (Nat.lt_of_lt_of_le hi h.size) (fun t => hs (hT i hi t))).trans (h.block i hi hs)⟩
theorem Only.mono {S T:Nat -> Prop} {a b:World} (h:Only S a b) (hT:∀ x,x < a.heap.size -> S x -> T x):Only T a b :=
  ⟨h.os,h.tape,h.output,h.size,fun i hi hs => h.block i hi (fun t => hs (hT i hi t))⟩
theorem Only.drewN {S:Nat -> Prop} {a b:World} (h:Only S a b) (n:Nat):Only S a (b.drewN n):=⟨h.os,h.tape,h.output,h.size,h.block⟩
theorem Only.drew {S:Nat -> Prop} {a b:World} (h:Only S a b):Only S a b.drew:=⟨h.os,h.tape,h.output,h.size,h.block⟩
theorem Only.alloc {S:Nat -> Prop} {a b:World} (h:Only S a b) (o:Obj):Only S a (b.alloc o) :=
  ⟨h.os,h.tape,h.output,Nat.le_trans h.size (by simp),fun i hi hs => (Below.heap_alloc b o i (Nat.lt_of_lt_of_le hi h.size)).trans (h.block i hi hs)⟩
theorem Only.setCell {S:Nat -> Prop} {a b:World} (h:Only S a b) {p:Addr} (hp:p.block < a.heap.size -> S p.block) (u:Value):Only S a (b.setCell p u) :=
  ⟨h.os,h.tape,h.output,by simpa [World.setCell] using h.size,fun i hi hs => (Below.heap_setCell b p u i (by rintro rfl; exact hs (hp hi))).trans (h.block i hi hs)⟩
theorem Only.grown {S:Nat -> Prop} {a b c:World} {row:Option Nat} (h:Only S a b) (hg:b.grownBy c row) (hr:∀ k,row = some k -> k < a.heap.size -> S k):Only S a c :=
  ⟨hg.os.trans h.os,hg.tape.trans h.tape,hg.output.trans h.output,Nat.le_trans h.size hg.size,fun i hi hs => (hg.block i (Nat.lt_of_lt_of_le hi h.size) (fun e => hs (hr i e.symm hi))).trans (h.block i hi hs)⟩
theorem Only.below {S:Nat -> Prop} {a b c:World} {B:Nat} (h:Only S a b) (hb:Below B b c) (hB:a.heap.size <= B):Only S a c :=
  ⟨hb.os.trans h.os,hb.tape.trans h.tape,hb.output.trans h.output,Nat.le_trans h.size hb.size,fun i hi hs => (hb.block i (Nat.lt_of_lt_of_le hi hB)).trans (h.block i hi hs)⟩
theorem Only.of_below {w w':World} {B:Nat} (hb:Below B w w') (hB:w.heap.size <= B) (S:Nat -> Prop):Only S w w':=(Only.refl S w).below hb hB
theorem Only.toBelow {S:Nat -> Prop} {w w':World} {B:Nat} (h:Only S w w') (hB:∀ k,k < B -> k < w.heap.size /\ ¬ S k):Below B w w' :=
  ⟨h.os,h.tape,h.output,h.size,fun k hk => h.block k (hB k hk).1 (hB k hk).2⟩
theorem heap_lt {w:World} {g:Nat} {o:Obj} (h:w.heap[g]? = some o):g < w.heap.size:=(Array.getElem?_eq_some_iff.1 h).1
theorem Only.at_ {S:Nat -> Prop} {w w':World} (h:Only S w w') {g:Nat} {o:Obj} (hg:w.heap[g]? = some o) (hs:¬ S g):w'.heap[g]? = some o:=(h.block g (heap_lt hg) hs).trans hg
theorem Only.row {S:Nat -> Prop} {w w':World} (h:Only S w w') {B:Nat} {A:Option Addr} {xs:List Value} (hr:Row w B A xs) (hs:∀ b off,A = some ⟨b,off,none⟩ -> ¬ S b):Row w' B A xs:=fun hx => by
  obtain ⟨b,off,e,hb,hc⟩:=hr hx
  refine ⟨b,off,e,hb,fun j v hv => ?_⟩
  have h1:=hc j v hv
  have hlt:b < w.heap.size:=World.block_lt_of_cell? w ⟨b,off + j,none⟩ h1
  exact (World.cell?_of_block (a:=⟨b,off + j,none⟩) (h.block b hlt (hs b off e))).trans h1
def BB (w:World) (t:TypeId) (h:Nat) (l:List UInt8):Prop:=w.heap[h]? = some (.cells (l.map bv).toArray t (0,0))
theorem BB.lt {w:World} {t:TypeId} {h:Nat} {l:List UInt8} (hb:BB w t h l):h < w.heap.size:=heap_lt hb
theorem BB.cell {w:World} {t:TypeId} {h:Nat} {l:List UInt8} (hb:BB w t h l) (k:Nat) (hk:k < l.length):w.cell? ⟨h,k,none⟩ = some (.int .u8 ((l[k]).toNat:Int)):=by
  rw [cell_of_row w h k _ t (0,0) hb]
  simp [bv,hk]
theorem BB.cell' {w:World} {t:TypeId} {h:Nat} {l:List UInt8} (hb:BB w t h l) (k:Nat) (z:UInt8) (hk:l[k]? = some z):w.cell? ⟨h,k,none⟩ = some (.int .u8 (z.toNat:Int)):=by
  obtain ⟨hl,rfl⟩:=List.getElem?_eq_some_iff.1 hk
  exact hb.cell k hl
theorem BB.frozen {w:World} {t:TypeId} {h:Nat} {l:List UInt8} (hb:BB w t h l) (k:Nat):w.frozen? ⟨h,k,none⟩ = false:=by
  unfold BB at hb
  simp [World.frozen?,hb]
theorem BB.set {w:World} {t:TypeId} {h:Nat} {l:List UInt8} (hb:BB w t h l) (k:Nat) (b:UInt8):BB (w.setCell ⟨h,k,none⟩ (.int .u8 (b.toNat:Int))) t h (l.set k b):=by
  unfold BB at hb ⊢
  simp only [World.setCell,Array.getElem?_modify,if_pos,hb,Option.map_some]
  simp [bv,List.map_set]
def lay (l:List UInt8) (at_:Nat) (p:List UInt8):List UInt8:=l.take at_ ++ p ++ l.drop (at_ + p.length)
theorem lay_len (l:List UInt8) (at_:Nat) (p:List UInt8) (h:at_ + p.length <= l.length):(lay l at_ p).length = l.length:=by simp [lay]; omega
theorem lay_nil (l:List UInt8) (at_:Nat):lay l at_ [] = l:=by simp [lay]
theorem wpList_copyB {P:Program} {w:World} {ops:Array Oper} {rest:List Oper} {o:Oper} {a:Act} {Q:Exit -> Act -> World -> Prop} (hgd:o.guard = none) (d s:Operand) (dT sT:TypeId)
    (ho:o.op = .call { callee:=.builtin .copy,args:=#[d,s],argTypes:=#[dT,sT] }) (elem:TypeId) (hu:P.underlying dT = some (.slice elem)) (hsz:(P.info? elem).map (·.size) = some 1)
    (dp sp:Option Addr) (dLen dCap sLen sCap:Nat) (hd:a.eval d = .slice dp dLen dCap) (hs:a.eval s = .slice sp sLen sCap)
    (g off:Nat) (t:TypeId) (cur src:List UInt8) (hg:BB w t g cur) (hn:src.length = Nat.min sLen dLen) (hpos : 0 < src.length -> dp = some ⟨g,off,none⟩) {B:Nat} (hsrc:Bytes w B sp src)
    (hfit:off + src.length <= cur.length)
    (h:∀ w',BB w' t g (lay cur off src) -> Only (· = g) w w' -> w'.heap.size = w.heap.size -> wpList P ops Q rest (a.put o.dst (goInt src.length)) w'):wpList P ops Q (o :: rest) a w:=by
  rcases Nat.eq_zero_or_pos src.length with h0 | h0
  · obtain rfl:src = []:=List.eq_nil_of_length_eq_zero h0
    refine wpList_copy_nothing hgd d s dT sT ho elem hu hsz dp sp dLen dCap sLen sCap hd hs (by simpa using hn.symm) ?_
    exact h w (by rw [lay_nil]; exact hg) (Only.refl _ _) rfl
  · obtain ⟨b,so,rfl,hb,hc⟩:=hsrc (by simpa using h0)
    obtain rfl:=hpos h0
    refine wpList_copy_own hgd d s dT sT ho elem hu hsz g off dLen dCap ⟨b,so,none⟩ sLen sCap hd hs _ t hg (src.map bv) (by simpa using hn) (fun j v hv => by rw [add_explicit]; exact hc j v hv)
      (by simpa using hfit) (bv_one src) ?_
    have e:(((cur.map bv).toArray.toList.take off ++ (src.map bv ++ (cur.map bv).toArray.toList.drop (off + (src.map bv).length))).toArray) = ((lay cur off src).map bv).toArray:=by
      simp [lay,List.map_take,List.map_drop]
    rw [e]
    have hlen:(src.map bv).length = src.length:=List.length_map _
    rw [hlen]
    refine h _ (setRow_heap w g _ _ t _ hg) ⟨rfl,rfl,rfl,by simp [World.setRow],fun k hk hne => setRow_other w g k _ hne⟩ (by simp [World.setRow])
universe u
theorem qA {α:Type u} {xs:List α} {i:Nat} (h:i < xs.toArray.size):xs.toArray[i] = xs[i]'h:=rfl
theorem qS {α:Type u} (a : α) (l:List α) (i:Nat) (h:i + 1 < (a :: l).length):(a :: l)[i + 1] = l[i]'(Nat.lt_of_succ_lt_succ h):=rfl
theorem qZ {α:Type u} {a : α} {l:List α} (h : 0 < (a :: l).length):(a :: l)[0] = a:=rfl
theorem qT {α:Type u} (l:List α) (i:Nat) (a : α):l.toArray.setIfInBounds i a = (l.set i a).toArray:=List.setIfInBounds_toArray ..
theorem qO {α:Type u} {x a : α} {xs:List α}:(x :: xs).set 0 a = a :: xs:=rfl
theorem qN {α:Type u} {x a : α} {xs:List α} {i:Nat}:(x :: xs).set (i + 1) a = x :: xs.set i a:=rfl
theorem tkh {P:Program} {ops:Array Oper} {Q:Exit -> Act -> World -> Prop} {md:Region.Mode} {S:World -> Prop} {i:Nat} {oi:Oper} {v:Value} {fuel:Nat} {listed:Array Bool} {a:Act} {w:World} (hi:ops[i]? = some oi)
    (hy:∀ w,S w -> (execOp a.eval oi).run P w = .ok (.value v) w) (h:wpAnyH P md ops Q S fuel (listed.setIfInBounds i true) (a.put oi.dst v) w)
    (hs:Region.noSelect ops = true:=by kernel_rfl) (hf:Region.free md ops listed i = true:=by kernel_rfl) (hr:(Region.ready md ops listed).contains i = true:=by kernel_rfl)
    (hw:Region.wanted oi (yielded ops a.tmps) = true:=by rfl) (hS:S w:=by assumption) (hQ:∀ c a w,Q (.panic c) (a.put oi.dst v) w -> Q (.panic c) a w:=by exact fun _ _ _ h => h):wpAnyH P md ops Q S (fuel + 1) listed a w :=
  wpAnyH_take hi hs hf hr hQ (Or.inl ⟨hw,hy⟩) hS h
end Go.Proofs.YtfjiphibalhcgaaGreat.Base
/-
  The frame of a law's row: where a call returns true and nothing that was there before it has changed, the row's post holds. Nothing here names the program.
-/
namespace Go.Proofs.YtfjiphibalhcgaaGreat.LawFrame
open Go.ChangeShapes Go.WideShapes Go.ChangeAt Go.RowKit
theorem own:ownKnob Tryz.prog.godebug = none:=by kernel_rfl
theorem laid:laidOutB Tryz.prog = true:=by kernel_rfl
theorem list_of {α:Type} (P:Nat -> α -> Prop):∀ (n:Nat),(∀ i,i < n -> ∃ a,P i a) -> ∃ l:List α,l.length = n /\ ∀ i (hi:i < l.length),P i l[i]
  | 0,_ => ⟨[],rfl,fun i hi => absurd hi (by simp)⟩
  | n + 1,h => by
    obtain ⟨l,hl,hp⟩:=list_of P n (fun i hi => h i (by omega))
    obtain ⟨a,ha⟩:=h n (by omega)
    refine ⟨l ++ [a],by simp [hl],fun i hi => ?_⟩
    rcases Nat.lt_or_ge i n with h1 | h1
    · rw [List.getElem_append_left (by omega)]
      exact hp i (by omega)
    · have e:i = n:=by simp [hl] at hi; omega
      subst e
      rw [List.getElem_append_right (by omega)]
      simpa [hl] using ha
section
variable {H:Type} {enc:TypeId × Value -> H} {P:Program}
theorem trodAll_stays (hl:laidOutB P = true) {W W':World} (hb:Below W.heap.size W W'):∀ {ts:List TypeId} {vs:List Value} {ds:List (DataW H)} {ps:List MemPlace},
    ts.all (fun t => P.readableRec t && decide (t < P.types.size)) = true -> DataW.TrodAll enc P W 0 (fun _ => true) true ts vs ds ps -> (∀ x ∈ ps,x.block < W.heap.size) ->
    DataW.TrodAll enc P W' 0 (fun b => decide (b < W.heap.size)) true ts vs ds ps
  | [],_,_,_,_,h,_ => by
    obtain ⟨rfl,rfl,rfl⟩:=trodAll_nil h
    exact trodAll_mk0
  | t :: ts,_,_,_,ha,h,hlt => by
    obtain ⟨v,vs1,d,ds1,a,b,rfl,rfl,rfl,h1,h2⟩:=trodAll_cons h
    simp only [List.all_cons,Bool.and_eq_true,decide_eq_true_eq] at ha
    exact ⟨a,b,Below.trod hl ha.1.1 ha.1.2 h1 hb (fun x hx => hlt x (List.mem_append_left _ hx)),
      trodAll_stays hl hb ha.2 h2 (fun x hx => hlt x (List.mem_append_right _ hx)),rfl⟩
theorem trodAll_len {w:World} {base:Nat} {spare:Nat -> Bool} {held:Bool}:∀ {ts:List TypeId} {vs:List Value} {ds:List (DataW H)} {ps:List MemPlace},
    DataW.TrodAll enc P w base spare held ts vs ds ps -> ds.length = ts.length
  | [],_,_,_,h => by obtain ⟨rfl,rfl,rfl⟩:=trodAll_nil h; rfl
  | t :: ts,_,_,_,h => by
    obtain ⟨v,vs1,d,ds1,a,b,rfl,rfl,rfl,h1,h2⟩:=trodAll_cons h
    simp only [List.length_cons,trodAll_len h2]
theorem post_of_law {f:Func} {s:ChangeSpec} {fresh:Bool} {W W':World} {args:Array Value} {ds gs:List (DataW H)} {before:List MemPlace} {tb:TypeId} {n:Nat}
    (hl:laidOutB P = true) (hr:f.params.toList.all (fun t => P.readableRec t && decide (t < P.types.size)) = true) (hn:f.params.size = n) (htb:f.resultTypes = #[tb]) (hub:P.underlying tb = some .bool)
    (hv:s.vars = []) (hfn:∀ ds:List (DataW H),ds.length = n -> s.fn H ds = { results:=[.lit (.bool true)],args:=ds })
    (hW:DataW.Whole enc P f.params.toList s.vars false W args.toList ds gs before) (hb:Below W.heap.size W W') :
    s.post enc P f false fresh false false W args (.bool true) W':=by
  have hW':=hW
  obtain ⟨p,q,hA,hV,rfl,hfz,hnd⟩:=hW
  have hV':=hV
  rw [hv] at hV'
  obtain ⟨rfl,rfl⟩:=trodVars_none hV'
  have hlen:ds.length = n:=by rw [trodAll_len hA,Array.length_toList,hn]
  have e:=hfn (ds ++ []) (by simpa using hlen)
  refine ⟨ds,[],p ++ [],[],p,[],hW',?_,?_,?_,?_,fun h => by cases h⟩
  · rw [e,htb]
    exact trodAll_mk1 (shut_bool hub _)
  · rw [e]
    simp only [List.append_nil]
    exact trodAll_stays hl hb hr hA (fun x hx => hW'.lt x (by simpa using hx))
  · rw [e,hv]
    rfl
  · exact World.keptBut_mono (fun x hx => ⟨hx,.inr (.inl (by simpa using hx))⟩) (hb.frame (· ∈ p ++ []))
end
section
open Go.Deep
section
variable {H:Type} {enc:TypeId × Value -> H} {P:Program} {w:World} {base:Nat} {spare:Nat -> Bool} {held:Bool}
theorem open_slice_fields {t e:TypeId} {fs:Array Field} {fuel:Nat} {cs:List Value} {x:DataW H × List MemPlace} (ht:P.underlying t = some (.slice e)) (he:P.underlying e = some (.struct fs))
    (hone:oneCellFields P fs = true) (hC:P.cellsOf e = fs.size) (h:DataW.trod enc P w base spare held fuel t cs = some x) :
    (cs = [.slice none 0 0] /\ x = (.nil,[])) \/
    ∃ (a:Addr) (len cap m:Nat) (D:Nat -> DataW H) (Pl:Nat -> List MemPlace),cs = [.slice (some a) len cap] /\ base <= a.block /\ len <= cap /\ cap <= maxLen /\ m = (if spare a.block then cap else len) /\
      x = (.slice ((List.range len).map D) ((List.range (m - len)).map fun j => D (len + j)),MemPlace.row a (m * fs.size) ++ (List.range m).flatMap Pl) /\
      ∀ i,i < m -> ∃ (ys:List (DataW H × List MemPlace)) (n:Nat),D i = .agg (ys.map (·.1)) /\ Pl i = ys.flatMap (·.2) /\ ys.length = fs.size /\
        ∀ (j:Nat) (f:Field),fs[j]? = some f -> ∃ (v:Value) (y:DataW H × List MemPlace),w.cell? (a.add (i * fs.size + j)) = some v /\ ys[j]? = some y /\ DataW.trod enc P w base spare held n f.type [v] = some y:=by
  rcases open_slice ht h with h0 | ⟨a,len,cap,m,n,D,Pl,hcs,hb,hl,hm,hmm,hx,hi⟩
  · exact .inl h0
  · refine .inr ⟨a,len,cap,m,D,Pl,hcs,hb,hl,hm,hmm,by rw [hC] at hx; exact hx,fun i him => ?_⟩
    obtain ⟨cs',hc,ht'⟩:=hi i him
    rw [hC] at hc
    obtain ⟨ys,n',hn',hy,hlen,hyl,hf⟩:=DataW.trod_struct he ht'
    obtain ⟨_,hcl,hat⟩:=World.cells?_some hc
    simp only [Prod.mk.injEq] at hy
    refine ⟨ys,n',hy.1,hy.2,hyl,fun j f hj => ?_⟩
    obtain ⟨ho,hk⟩:=hone_of hone j f hj
    have hjl:j < fs.size:=(Array.getElem?_eq_some_iff.1 hj).1
    have hcell:=hat j hjl
    have hv:cs'[j]? = some (cs'[j]'(by omega)):=List.getElem?_eq_getElem (by omega)
    have h1:=hf j f hj
    rw [ho,hk] at h1
    have hone':(cs'.drop j).take 1 = [cs'[j]'(by omega)]:=by
      rw [List.drop_eq_getElem_cons (by omega)]
      rfl
    rw [hone'] at h1
    have hys:ys[j]? = some (ys[j]'(by omega)):=List.getElem?_eq_getElem (by omega)
    refine ⟨_,_,?_,hys,h1.trans hys⟩
    rw [<- Go.Deep.add_add,hcell,hv]
end
theorem u64_nat {n:Int} (w:(Lit.int .u64 n).wf = true):∃ h:Nat,n = (h:Int) /\ h < 18446744073709551616:=by
  simp [Lit.wf,IntKind.min,IntKind.max,IntKind.signed,IntKind.bits] at w
  exact ⟨n.toNat,by omega,by omega⟩
theorem i64_bd {n:Int} (w:(Lit.int .i64 n).wf = true) : -9223372036854775808 <= n /\ n < 9223372036854775808:=by
  simp [Lit.wf,IntKind.min,IntKind.max,IntKind.signed,IntKind.bits] at w
  omega
variable {H:Type} {enc:TypeId × Value -> H} {P:Program} {w:World}
theorem fields_at {t e:TypeId} {fs:Array Field} {fuel len cap:Nat} {A:Option Addr} {x:DataW H × List MemPlace} (ht:P.underlying t = some (.slice e)) (he:P.underlying e = some (.struct fs))
    (hone:oneCellFields P fs = true) (hC:P.cellsOf e = fs.size) (hpos : 0 < fs.size) (h:DataW.trod enc P w 0 (fun _ => true) true fuel t [.slice A len cap] = some x) :
    len <= cap /\ cap <= maxLen /\ ∀ k,k < len -> ∃ b off n,A = some ⟨b,off,none⟩ /\ b < w.heap.size /\
      ∀ (j:Nat) (f:Field),fs[j]? = some f -> ∃ v y,w.cell? ⟨b,off + (k * fs.size + j),none⟩ = some v /\ DataW.trod enc P w 0 (fun _ => true) true n f.type [v] = some y:=by
  rcases open_slice_fields ht he hone hC h with ⟨hcs, -⟩ | ⟨a,len',cap',m,D,Pl,hcs,hb,hl,hm,hmm,hx,hi⟩
  · simp only [List.cons.injEq,Value.slice.injEq,and_true] at hcs
    obtain ⟨rfl,rfl,rfl⟩:=hcs
    exact ⟨Nat.le_refl _,by simp [maxLen],fun k hk => absurd hk (by omega)⟩
  · simp only [List.cons.injEq,Value.slice.injEq,and_true] at hcs
    obtain ⟨rfl,rfl,rfl⟩:=hcs
    have hmc:m = cap:=by simpa using hmm
    subst hmc
    refine ⟨hl,hm,fun k hk => ?_⟩
    obtain ⟨ys0,n0, -, -, -,hf0⟩:=hi 0 (by omega)
    obtain ⟨v0,y0,hc0, -, -⟩:=hf0 0 fs[0] (Array.getElem?_eq_getElem hpos)
    have hsp:a = ⟨a.block,a.off,none⟩:=Base.spot_none (by simpa [Addr.add] using hc0)
    obtain ⟨ys,n, -, -, -,hfi⟩:=hi k (by omega)
    refine ⟨a.block,a.off,n,by rw [<- hsp],World.block_lt_of_cell? w a (by simpa [Addr.add] using hc0),fun j f hj => ?_⟩
    obtain ⟨v,y,hc, -,ht⟩:=hfi j f hj
    rw [hsp,Base.add_explicit] at hc
    exact ⟨v,y,hc,ht⟩
end
end Go.Proofs.YtfjiphibalhcgaaGreat.LawFrame
/-
  The chunks' sizes in plain numbers.
-/
namespace Go.Proofs.YtfjiphibalhcgaaGreat.Cls
def lim (item:Nat):Nat:=(item + 7) / 8 * 8
def tgt (F s:Nat):Nat:=(s * F + 799) / 800 * 8
def nxt (L F s:Nat):Nat:=min L (tgt F s)
def szs (L F m:Nat):Nat -> Nat
 | 0 => m
 | i + 1 => nxt L F (szs L F m i)
structure Cnt (L F m k:Nat):Prop where
 pos : 1 <= k
 le:k <= 63
 low:∀ j,j + 1 < k -> szs L F m j < L
 top:L <= szs L F m (k - 1) \/ k = 63
theorem Cnt.same {L F m k k':Nat} (h:Cnt L F m k) (h':Cnt L F m k'):k = k':=by
 have key:∀ {a b:Nat},Cnt L F m a -> Cnt L F m b -> ¬ a < b:=by
  intro a b ha hb hlt
  rcases ha.top with h1 | h1
  ·have:=hb.low (a - 1) (by have:=ha.pos; omega)
   omega
  ·have:=hb.le
   omega
 have h1:=key h h'
 have h2:=key h' h
 omega
def szL (L F m k:Nat):List Nat:=(List.range k).map (szs L F m)
theorem szL_succ (L F m k:Nat):szL L F m (k + 1) = szL L F m k ++ [szs L F m k]:=by simp [szL,List.range_succ]
theorem szL_at (L F m k i:Nat) (h:i < k):(szL L F m k)[i]? = some (szs L F m i):=by simp [szL,h]
structure Nice (L F m:Nat):Prop where
 L8:L % 8 = 0
 m8:m % 8 = 0
 mL:m <= L
 m64 : 64 <= m
 Lb:L <= 1048576
 F1 : 105 <= F
 F2:F <= 400
theorem lim8 (n:Nat):lim n % 8 = 0:=by unfold lim; omega
theorem lim_le (n:Nat):n <= lim n /\ lim n < n + 8:=by unfold lim; omega
theorem tgt8 (F s:Nat):tgt F s % 8 = 0:=by unfold tgt; omega
theorem tgt_ge (F s:Nat):s * F <= 100 * tgt F s /\ 100 * tgt F s < s * F + 800:=by unfold tgt; omega
variable {L F m:Nat}
theorem szs_nice (h:Nice L F m):∀ i,szs L F m i % 8 = 0 /\ 64 <= szs L F m i /\ szs L F m i <= L:=by
 intro i
 induction i with
 | zero => exact ⟨h.m8,h.m64,h.mL⟩
 | succ i ih =>
  obtain ⟨h1,h2,h3⟩:=ih
  have h4:=tgt8 F (szs L F m i)
  have h5:=tgt_ge F (szs L F m i)
  have h6:szs L F m i * 105 <= szs L F m i * F:=Nat.mul_le_mul_left _ h.F1
  have hL:=h.L8
  show nxt L F (szs L F m i) % 8 = 0 /\ 64 <= nxt L F (szs L F m i) /\ nxt L F (szs L F m i) <= L
  unfold nxt
  have hm:=h.m64
  have hmL:=h.mL
  rcases Nat.le_total L (tgt F (szs L F m i)) with h7 | h7
  ·rw [Nat.min_eq_left h7]; omega
  ·rw [Nat.min_eq_right h7]; omega
theorem tgt_more (h:Nice L F m) (i:Nat):szs L F m i + 8 <= tgt F (szs L F m i):=by
 obtain ⟨h1,h2,h3⟩:=szs_nice h i
 have h4:=tgt8 F (szs L F m i)
 have h5:=tgt_ge F (szs L F m i)
 have h6:szs L F m i * 105 <= szs L F m i * F:=Nat.mul_le_mul_left _ h.F1
 omega
theorem tgt_le (h:Nice L F m) (i:Nat):tgt F (szs L F m i) <= 4194320:=by
 obtain ⟨h1,h2,h3⟩:=szs_nice h i
 have h5:=tgt_ge F (szs L F m i)
 have h6:szs L F m i * F <= szs L F m i * 400:=Nat.mul_le_mul_left _ h.F2
 have hL:=h.Lb
 omega
def cntFrom (L F m:Nat):Nat -> Nat -> Nat
 | 0,k => k
 | fuel + 1,k => if L <= szs L F m (k - 1) then k else cntFrom L F m fuel (k + 1)
def cntN (L F m:Nat):Nat:=cntFrom L F m 62 1
theorem cntFrom_ok {L F m:Nat}:∀ (fuel k:Nat),fuel + k = 63 -> 1 <= k -> (∀ j,j + 1 < k -> szs L F m j < L) -> Cnt L F m (cntFrom L F m fuel k):=by
 intro fuel
 induction fuel with
 | zero => intro k h h1 h2; exact ⟨h1,by show k <= 63; omega,h2,.inr (by show k = 63; omega)⟩
 | succ fuel ih =>
  intro k h h1 h2
  unfold cntFrom
  split
  ·rename_i h3
   exact ⟨h1,by omega,h2,.inl h3⟩
  ·rename_i h3
   refine ih (k + 1) (by omega) (by omega) fun j hj => ?_
   rcases Nat.lt_or_ge (j + 1) k with h4 | h4
   ·exact h2 j h4
   ·have:j = k - 1:=by omega
    subst this
    omega
theorem cntN_ok (L F m:Nat):Cnt L F m (cntN L F m):=cntFrom_ok 62 1 rfl (Nat.le_refl _) (fun j h => absurd h (by omega))
theorem Cnt.eq {L F m k:Nat} (h:Cnt L F m k):k = cntN L F m:=h.same (cntN_ok L F m)
structure Conf where
 ps:Int
 np:Int
 fa:Int
 mc:Int
 il:Int
 hot:Int
 warm:Int
def Page9 (n:Int):Prop:=n = 4096 \/ n = 8192 \/ n = 16384 \/ n = 32768 \/ n = 65536 \/ n = 131072 \/ n = 262144 \/ n = 524288 \/ n = 1048576
instance (n:Int):Decidable (Page9 n):=by unfold Page9; infer_instance
structure Right (c:Conf):Prop where
 ps:Page9 c.ps
 np1 : 1 <= c.np
 np2:c.np <= 1024
 fa1 : 105 <= c.fa
 fa2:c.fa <= 400
 mc1 : 64 <= c.mc
 mc2:c.mc <= 512
 mc8:c.mc % 8 = 0
 il1:c.mc <= c.il
 il2:c.il <= c.ps
theorem right_iff (c:Conf):Right c ↔ Page9 c.ps /\ 1 <= c.np /\ c.np <= 1024 /\ 105 <= c.fa /\ c.fa <= 400 /\ 64 <= c.mc /\ c.mc <= 512 /\ c.mc % 8 = 0 /\ c.mc <= c.il /\ c.il <= c.ps :=
 ⟨fun h => ⟨h.ps,h.np1,h.np2,h.fa1,h.fa2,h.mc1,h.mc2,h.mc8,h.il1,h.il2⟩,fun ⟨h1,h2,h3,h4,h5,h6,h7,h8,h9,h10⟩ => ⟨h1,h2,h3,h4,h5,h6,h7,h8,h9,h10⟩⟩
instance (c:Conf):Decidable (Right c):=decidable_of_iff _ (right_iff c).symm
def Conf.nc (c:Conf):Nat:=cntN (lim c.il.toNat) c.fa.toNat c.mc.toNat
def Conf.sz (c:Conf):Nat -> Nat:=szs (lim c.il.toNat) c.fa.toNat c.mc.toNat
def refN (c:Conf):Int:=if Right c then (if 62 < c.nc then 2 else if c.np < c.nc then 3 else 0) else 1
theorem Right.nice {c:Conf} (h:Right c):Nice (lim c.il.toNat) c.fa.toNat c.mc.toNat:=by
 have h1:=lim_le c.il.toNat
 have h2:=lim8 c.il.toNat
 have a1:=h.fa1
 have a2:=h.fa2
 have a3:=h.mc1
 have a4:=h.mc8
 have a5:=h.il1
 have a6:=h.il2
 have a7:=h.ps
 unfold Page9 at a7
 exact ⟨h2,by omega,by omega,by omega,by unfold lim; omega,by omega,by omega⟩
theorem and_ne (n k:Nat) (h1:n / 2 ^ k % 2 = 1) (h2:(n - 1) / 2 ^ k % 2 = 1):n &&& (n - 1) ≠ 0:=by
 intro h
 have h3:(n &&& (n - 1)).testBit k = true:=by
  rw [Nat.testBit_and,Nat.testBit_eq_decide_div_mod_eq,Nat.testBit_eq_decide_div_mod_eq,h1,h2]
  rfl
 rw [h,Nat.zero_testBit] at h3
 cases h3
theorem and_pred (n:Nat) (h1 : 4096 <= n) (h2:n <= 1048576):n &&& (n - 1) = 0 ↔ Page9 (n:Int):=by
 constructor
 ·intro h
  unfold Page9
  have a12:¬ (4096 < n /\ n < 8192):=fun ⟨h3,h4⟩ => and_ne n 12 (by omega) (by omega) h
  have a13:¬ (8192 < n /\ n < 16384):=fun ⟨h3,h4⟩ => and_ne n 13 (by omega) (by omega) h
  have a14:¬ (16384 < n /\ n < 32768):=fun ⟨h3,h4⟩ => and_ne n 14 (by omega) (by omega) h
  have a15:¬ (32768 < n /\ n < 65536):=fun ⟨h3,h4⟩ => and_ne n 15 (by omega) (by omega) h
  have a16:¬ (65536 < n /\ n < 131072):=fun ⟨h3,h4⟩ => and_ne n 16 (by omega) (by omega) h
  have a17:¬ (131072 < n /\ n < 262144):=fun ⟨h3,h4⟩ => and_ne n 17 (by omega) (by omega) h
  have a18:¬ (262144 < n /\ n < 524288):=fun ⟨h3,h4⟩ => and_ne n 18 (by omega) (by omega) h
  have a19:¬ (524288 < n /\ n < 1048576):=fun ⟨h3,h4⟩ => and_ne n 19 (by omega) (by omega) h
  clear h
  omega
 ·intro h
  have:n = 4096 \/ n = 8192 \/ n = 16384 \/ n = 32768 \/ n = 65536 \/ n = 131072 \/ n = 262144 \/ n = 524288 \/ n = 1048576:=by unfold Page9 at h; omega
  rcases this with rfl | rfl | rfl | rfl | rfl | rfl | rfl | rfl | rfl <;> decide
theorem step_lt (i n:Nat) (h8:n % 8 = 0) (hn:n <= tgt F (szs L F m i)) : 100 * n < szs L F m i * F ↔ n < tgt F (szs L F m i):=by
 have h4:=tgt8 F (szs L F m i)
 have h5:=tgt_ge F (szs L F m i)
 constructor
 ·intro h6; omega
 ·intro h6; omega
end Go.Proofs.YtfjiphibalhcgaaGreat.Cls
/-
  The walks of what a config is asked: class.right, the document's right; the config as the document has it.
-/
namespace Go.Proofs.YtfjiphibalhcgaaGreat.Cls
open Go.RowKit Base
def Conf.cells (c:Conf):Array Value:=#[.int .i64 c.ps,.int .i64 c.np,.int .i64 c.fa,.int .i64 c.mc,.int .i64 c.il,.int .i64 c.hot,.int .i64 c.warm]
def Conf.rcells (c:Conf):Array Value:=#[.int .i64 c.ps,.int .i64 c.np,.int .i64 c.fa,.int .i64 c.mc,.int .i64 c.il]
def In (n:Int):Prop := -9223372036854775808 <= n /\ n < 9223372036854775808
structure Conf.In (c:Conf):Prop where
 ps:Cls.In c.ps
 np:Cls.In c.np
 fa:Cls.In c.fa
 mc:Cls.In c.mc
 il:Cls.In c.il
 hot:Cls.In c.hot
 warm:Cls.In c.warm
theorem boxedConf (w:World) (c:Conf):∃ w1,w1 = w.alloc (.cells c.cells 79) /\ Below w.heap.size w w1 /\ w1.heap.size = w.heap.size + 1 /\ w1.cell? ⟨w.heap.size,0,none⟩ = some (.int .i64 c.ps) /\ w1.cell? ⟨w.heap.size,1,none⟩ = some (.int .i64 c.np) /\
  w1.cell? ⟨w.heap.size,2,none⟩ = some (.int .i64 c.fa) /\ w1.cell? ⟨w.heap.size,3,none⟩ = some (.int .i64 c.mc) /\ w1.cell? ⟨w.heap.size,4,none⟩ = some (.int .i64 c.il) /\ w1.cell? ⟨w.heap.size,5,none⟩ = some (.int .i64 c.hot) /\ w1.cell? ⟨w.heap.size,6,none⟩ = some (.int .i64 c.warm):=by
 have hc:∀ i,(w.alloc (.cells c.cells 79)).cell? ⟨w.heap.size,i,none⟩ = c.cells[i]?:=fun i => cell_of_row _ _ i _ 79 (0,0) (heap_alloc_new w _)
 exact ⟨_,rfl,(Below.refl _ _).alloc (Nat.le_refl _) _,World.size_alloc _ _,hc 0,hc 1,hc 2,hc 3,hc 4,hc 5,hc 6⟩
theorem boxedRef (w:World) (c:Conf):∃ w1,w1 = w.alloc (.cells c.rcells 81) /\ Below w.heap.size w w1 /\ w1.heap.size = w.heap.size + 1 /\ w1.cell? ⟨w.heap.size,0,none⟩ = some (.int .i64 c.ps) /\ w1.cell? ⟨w.heap.size,1,none⟩ = some (.int .i64 c.np) /\
  w1.cell? ⟨w.heap.size,2,none⟩ = some (.int .i64 c.fa) /\ w1.cell? ⟨w.heap.size,3,none⟩ = some (.int .i64 c.mc) /\ w1.cell? ⟨w.heap.size,4,none⟩ = some (.int .i64 c.il):=by
 have hc:∀ i,(w.alloc (.cells c.rcells 81)).cell? ⟨w.heap.size,i,none⟩ = c.rcells[i]?:=fun i => cell_of_row _ _ i _ 81 (0,0) (heap_alloc_new w _)
 exact ⟨_,rfl,(Below.refl _ _).alloc (Nat.le_refl _) _,World.size_alloc _ _,hc 0,hc 1,hc 2,hc 3,hc 4⟩
theorem bits_and_pred (n:Nat) (h1 : 4096 <= n) (h2:n <= 1048576):bits .and .i64 (n:Int) ((n:Int) - 1) = ((n &&& (n - 1):Nat):Int):=by
 have e1:(BitVec.ofInt 64 (n:Int)).toNat = n:=by rw [BitVec.toNat_ofInt]; omega
 have e2:(BitVec.ofInt 64 ((n:Int) - 1)).toNat = n - 1:=by rw [BitVec.toNat_ofInt]; omega
 have h3:n &&& (n - 1) <= n:=Nat.and_le_left
 show IntKind.i64.wrap ((BitVec.ofInt 64 (n:Int) &&& BitVec.ofInt 64 ((n:Int) - 1)).toNat:Int) = _
 rw [BitVec.toNat_and,e1,e2]
 exact IntWalk.i64_in _ (by omega)
set_option maxHeartbeats 1600000 in
theorem rightC (c:Conf) (w:World):Calls Tryz.prog 87 #[.agg c.cells] w fun e w' => e = .returned (.bool (decide (Right c))) /\ Below w.heap.size w w':=by
 obtain ⟨ps,np,fa,mc,il,hot,warm⟩:=c
 obtain ⟨w1,hw1,b, -,x0,x1,x2,x3,x4, -, -⟩:=boxedConf w ⟨ps,np,fa,mc,il,hot,warm⟩
 unfold Conf.cells at hw1 ⊢
 simp only at hw1 x0 x1 x2 x3 x4 ⊢
 replace hw1:=Lib.hid hw1
 have no:¬ Right ⟨ps,np,fa,mc,il,hot,warm⟩ -> Hid (decide (Right ⟨ps,np,fa,mc,il,hot,warm⟩) = false):=fun h => Lib.hid (decide_eq_false h)
 go_enter Tryz.func87,Tryz.ntmps87
 go_upto_region 1 with fail
 rw [<- hw1.out]
 by_cases a1:ps < 4096
 ·have hr:=no (fun h => by have h1:=h.ps; unfold Page9 at h1; simp only at h1; omega)
  have b1:decide (ps < 4096) = true:=by simp; omega
  go_wp2
  go_ret
  exact ⟨by rw [hr.out]; rfl,b⟩
 have b1:decide (ps < 4096) = false:=by simp; omega
 by_cases a2 : 1048576 < ps
 ·have hr:=no (fun h => by have h1:=h.ps; unfold Page9 at h1; simp only at h1; omega)
  have b2:decide (1048576 < ps) = true:=by simp; omega
  go_wp2
  go_ret
  exact ⟨by rw [hr.out]; rfl,b⟩
 have b2:decide (1048576 < ps) = false:=by simp; omega
 obtain ⟨n,rfl⟩:∃ n:Nat,ps = (n:Int):=⟨ps.toNat,by omega⟩
 have wp:IntKind.i64.wrap ((n:Int) - 1) = (n:Int) - 1:=IntWalk.i64_in _ (by omega)
 have ba:=bits_and_pred n (by omega) (by omega)
 have bp:=and_pred n (by omega) (by omega)
 by_cases a3:¬ Page9 (n:Int)
 ·have hr:=no (fun h => a3 h.ps)
  have z0:¬ ((n &&& (n - 1):Nat):Int) = 0:=fun h => a3 (bp.1 (by omega))
  clear bp a3
  generalize ((n &&& (n - 1):Nat):Int) = z at *
  have b3:decide (z = 0) = false:=decide_eq_false z0
  have b3':(z == 0) = false:=beq_eq_false_iff_ne.2 z0
  have b3'':(z != 0) = true:=by simp [z0]
  go_wp2
  go_ret
  exact ⟨by rw [hr.out]; rfl,b⟩
 have ba0:bits .and .i64 (n:Int) ((n:Int) - 1) = 0:=by rw [ba,bp.2 (by simpa using a3)]; rfl
 clear ba bp
 by_cases a4:np < 1
 ·have hr:=no (fun h => by have h1:=h.np1; simp only at h1; omega)
  have b4:decide (np < 1) = true:=by simp; omega
  go_wp2
  go_ret
  exact ⟨by rw [hr.out]; rfl,b⟩
 have b4:decide (np < 1) = false:=by simp; omega
 by_cases a5 : 1024 < np
 ·have hr:=no (fun h => by have h1:=h.np2; simp only at h1; omega)
  have b5:decide (1024 < np) = true:=by simp; omega
  go_wp2
  go_ret
  exact ⟨by rw [hr.out]; rfl,b⟩
 have b5:decide (1024 < np) = false:=by simp; omega
 by_cases a6:fa < 105
 ·have hr:=no (fun h => by have h1:=h.fa1; simp only at h1; omega)
  have b6:decide (fa < 105) = true:=by simp; omega
  go_wp2
  go_ret
  exact ⟨by rw [hr.out]; rfl,b⟩
 have b6:decide (fa < 105) = false:=by simp; omega
 by_cases a7 : 400 < fa
 ·have hr:=no (fun h => by have h1:=h.fa2; simp only at h1; omega)
  have b7:decide (400 < fa) = true:=by simp; omega
  go_wp2
  go_ret
  exact ⟨by rw [hr.out]; rfl,b⟩
 have b7:decide (400 < fa) = false:=by simp; omega
 by_cases a8:mc < 64
 ·have hr:=no (fun h => by have h1:=h.mc1; simp only at h1; omega)
  have b8:decide (mc < 64) = true:=by simp; omega
  go_wp2
  go_ret
  exact ⟨by rw [hr.out]; rfl,b⟩
 have b8:decide (mc < 64) = false:=by simp; omega
 by_cases a9 : 512 < mc
 ·have hr:=no (fun h => by have h1:=h.mc2; simp only at h1; omega)
  have b9:decide (512 < mc) = true:=by simp; omega
  go_wp2
  go_ret
  exact ⟨by rw [hr.out]; rfl,b⟩
 have b9:decide (512 < mc) = false:=by simp; omega
 have t8:mc.tmod 8 = mc % 8:=Int.tmod_eq_emod_of_nonneg (by omega)
 by_cases a10:¬ mc % 8 = 0
 ·have hr:=no (fun h => a10 h.mc8)
  generalize mc % 8 = z at *
  have b10:decide (z = 0) = false:=decide_eq_false a10
  have b10':(z == 0) = false:=beq_eq_false_iff_ne.2 a10
  have b10'':(z != 0) = true:=by simp [a10]
  go_wp2
  go_ret
  exact ⟨by rw [hr.out]; rfl,b⟩
 have a10':mc % 8 = 0:=by simpa using a10
 have t80:mc.tmod 8 = 0:=by rw [t8,a10']
 clear t8
 by_cases a11:¬ mc <= il
 ·have hr:=no (fun h => by have h1:=h.il1; simp only at h1; omega)
  have b11:decide (mc <= il) = false:=by simp; omega
  go_wp2
  go_ret
  exact ⟨by rw [hr.out]; rfl,b⟩
 have b11:decide (mc <= il) = true:=by simp; omega
 by_cases a12:¬ il <= (n:Int)
 ·have hr:=no (fun h => by have h1:=h.il2; simp only at h1; omega)
  have b12:decide (il <= (n:Int)) = false:=by simp; omega
  go_wp2
  go_ret
  exact ⟨by rw [hr.out]; rfl,b⟩
 have b12:decide (il <= (n:Int)) = true:=by simp; omega
 have hr:Hid (decide (Right ⟨(n:Int),np,fa,mc,il,hot,warm⟩) = true):=Lib.hid (decide_eq_true ⟨by simpa using a3,by simp only; omega,by simp only; omega,by simp only; omega,by simp only; omega,by simp only; omega,by simp only; omega,a10',by simp only; omega,by simp only; omega⟩)
 go_wp2
 go_ret
 exact ⟨by rw [hr.out]; rfl,b⟩
end Go.Proofs.YtfjiphibalhcgaaGreat.Cls
/-
  What the arguments of the laws of classes are: a config, a list of numbers.
-/
namespace Go.Proofs.YtfjiphibalhcgaaGreat.ClsArg
open Go.ChangeShapes Go.WideShapes Go.ChangeAt Go.RowKit LawFrame Go.Deep
variable {H:Type} {enc:TypeId × Value -> H}
end Go.Proofs.YtfjiphibalhcgaaGreat.ClsArg
/-
  The arena: what its two blocks hold, and the walk of 'there'.
-/
namespace Go.Proofs.YtfjiphibalhcgaaGreat.Arena
open Go.RowKit Base
structure At (w:World) (g h page:Nat) (l:List UInt8):Prop where
  head:w.heap[g]? = some (.cells #[.int .i64 (page:Int),.slice (some ⟨h,0,none⟩) l.length l.length] 190 (0,0))
  bytes:BB w 5 h l
  pos : 0 < page
  small:l.length <= 1073741824
  psmall:page <= 1073741824
theorem At.ne {w:World} {g h page:Nat} {l:List UInt8} (a:At w g h page l):g ≠ h:=by
  rintro rfl
  have h1:=a.head
  have h2:=a.bytes
  unfold BB at h2
  rw [h1] at h2
  injection h2 with h2
  injection h2 with _ h3
  exact absurd h3 (by decide)
theorem At.cell0 {w:World} {g h page:Nat} {l:List UInt8} (a:At w g h page l):w.cell? ⟨g,0,none⟩ = some (.int .i64 (page:Int)):=by
  rw [cell_of_row w g 0 _ 190 (0,0) a.head]; rfl
theorem At.cell1 {w:World} {g h page:Nat} {l:List UInt8} (a:At w g h page l):w.cell? ⟨g,1,none⟩ = some (.slice (some ⟨h,0,none⟩) l.length l.length):=by
  rw [cell_of_row w g 1 _ 190 (0,0) a.head]; rfl
theorem At.keep {w w':World} {g h page:Nat} {l:List UInt8} (a:At w g h page l) (hg:w'.heap[g]? = w.heap[g]?) (hh:w'.heap[h]? = w.heap[h]?):At w' g h page l :=
  ⟨hg.trans a.head,hh.trans a.bytes,a.pos,a.small,a.psmall⟩
theorem At.only {w w':World} {S:Nat -> Prop} {g h page:Nat} {l:List UInt8} (a:At w g h page l) (o:Only S w w') (hg:¬ S g) (hh:¬ S h):At w' g h page l :=
  a.keep (o.block g (heap_lt a.head) hg) (o.block h a.bytes.lt hh)
theorem At.turn {w w':World} {g h page:Nat} {l l':List UInt8} (a:At w g h page l) (o:Only (· = h) w w') (hb:BB w' 5 h l') (hl:l'.length = l.length):At w' g h page l' :=
  ⟨by rw [hl]; exact o.at_ a.head a.ne,hb,a.pos,by rw [hl]; exact a.small,a.psmall⟩
def There (page len:Nat) (at_ n:Int):Prop:=0 <= at_ /\ 0 <= n /\ at_ + n <= len /\ (n = 0 \/ at_ % page + n <= page)
instance (page len:Nat) (at_ n:Int):Decidable (There page len at_ n):=by unfold There; infer_instance
def inI64 (n:Int):Prop := -9223372036854775808 <= n /\ n < 9223372036854775808
theorem no5 (w:World) (g h page:Nat) (l:List UInt8) (a:At w g h page l) (at_ n:Int) (ha:inI64 at_) (hn:inI64 n) (q1 : 0 <= at_) (q2 : 0 < n) (q3:at_ <= l.length) (q4:n <= (l.length:Int) - at_) (q5:(page:Int) - n < at_ % page) :
  Calls Tryz.prog 128 #[.pointer (some ⟨g,0,none⟩),.int .i64 at_,.int .i64 n] w fun e w' => e = .returned (.tuple #[.slice none 0 0,.bool false]) /\ ∃ k,w.drewN k = w':=by
 have c0:=a.cell0
 have c1:=a.cell1
 have hs:=a.small
 have hp:=a.pos
 have hps:=a.psmall
 obtain ⟨ha1,ha2⟩:=ha
 obtain ⟨hn1,hn2⟩:=hn
 have d1:decide (at_ < 0) = false:=by simp; omega
 have d2:decide (n < 0) = false:=by simp; omega
 have d3:decide ((l.length:Int) < at_) = false:=by simp; omega
 have d4:decide ((l.length:Int) - at_ < n) = false:=by simp; omega
 have d5:decide (0 < n) = true:=by simp; omega
 have w4:IntKind.i64.wrap ((l.length:Int) - at_) = (l.length:Int) - at_:=IntWalk.i64_in _ (by omega)
 have w5:IntKind.i64.wrap ((page:Int) - n) = (page:Int) - n:=IntWalk.i64_in _ (by omega)
 go_enter Tryz.func128,Tryz.ntmps128
 go_wp2_with fail
 go_quiet (fail)
 go_wp2
 go_ret2
 exact ⟨rfl,_,rfl⟩
set_option maxHeartbeats 800000 in
theorem yes0 (w:World) (g h page:Nat) (l:List UInt8) (a:At w g h page l) (at_ n:Int) (q1 : 0 <= at_) (q3:at_ <= l.length) (hz:n = 0) :
  Calls Tryz.prog 128 #[.pointer (some ⟨g,0,none⟩),.int .i64 at_,.int .i64 n] w fun e w' => ∃ A,e = .returned (.tuple #[.slice A n.toNat n.toNat,.bool true]) /\ (0 < n -> A = some ⟨h,at_.toNat,none⟩) /\ ∃ m,w.drewN m = w':=by
 have c0:=a.cell0
 have c1:=a.cell1
 have hs:=a.small
 have hp:=a.pos
 have hps:=a.psmall
 have d1:decide (at_ < 0) = false:=by simp; omega
 have d3:decide ((l.length:Int) < at_) = false:=by simp; omega
 have w4:IntKind.i64.wrap ((l.length:Int) - at_) = (l.length:Int) - at_:=IntWalk.i64_in _ (by omega)
 subst hz
 have d4:decide ((l.length:Int) - at_ < 0) = false:=by simp; omega
 go_enter Tryz.func128,Tryz.ntmps128
 go_wp2_with fail
 go_quiet (fail)
 go_wp2
 go_ret2
 exact ⟨_,rfl,by omega,_,rfl⟩
set_option maxHeartbeats 800000 in
theorem yes1 (w:World) (g h page:Nat) (l:List UInt8) (a:At w g h page l) (at_ n:Int) (q1 : 0 <= at_) (q2 : 0 < n) (q3:at_ + n <= l.length) (q5:at_ % page + n <= page) :
  Calls Tryz.prog 128 #[.pointer (some ⟨g,0,none⟩),.int .i64 at_,.int .i64 n] w fun e w' => ∃ A,e = .returned (.tuple #[.slice A n.toNat n.toNat,.bool true]) /\ (0 < n -> A = some ⟨h,at_.toNat,none⟩) /\ ∃ m,w.drewN m = w':=by
 have c0:=a.cell0
 have c1:=a.cell1
 have hs:=a.small
 have hp:=a.pos
 have hps:=a.psmall
 have d1:decide (at_ < 0) = false:=by simp; omega
 have d3:decide ((l.length:Int) < at_) = false:=by simp; omega
 have w4:IntKind.i64.wrap ((l.length:Int) - at_) = (l.length:Int) - at_:=IntWalk.i64_in _ (by omega)
 have t1:(at_ + n).toNat - at_.toNat = n.toNat:=by omega
 have d2:decide (n < 0) = false:=by simp; omega
 have d4:decide ((l.length:Int) - at_ < n) = false:=by simp; omega
 have d5:decide (0 < n) = true:=by simp; omega
 have w5:IntKind.i64.wrap ((page:Int) - n) = (page:Int) - n:=IntWalk.i64_in _ (by omega)
 have d6:decide ((page:Int) - n < at_ % (page:Int)) = false:=by simp; omega
 go_enter Tryz.func128,Tryz.ntmps128
 go_wp2_with fail
 go_quiet (fail)
 go_wp2
 go_ret2
 exact ⟨_,rfl,fun _ => rfl,_,rfl⟩
theorem thereYes (w:World) (g h page:Nat) (l:List UInt8) (a:At w g h page l) (at_ n:Int) (hy:There page l.length at_ n) :
  Calls Tryz.prog 128 #[.pointer (some ⟨g,0,none⟩),.int .i64 at_,.int .i64 n] w fun e w' => ∃ A,e = .returned (.tuple #[.slice A n.toNat n.toNat,.bool true]) /\ (0 < n -> A = some ⟨h,at_.toNat,none⟩) /\ ∃ m,w.drewN m = w':=by
 obtain ⟨q1,q2,q3,q4⟩:=hy
 by_cases hz:n = 0
 ·exact yes0 w g h page l a at_ n q1 (by omega) hz
 ·exact yes1 w g h page l a at_ n q1 (by omega) q3 (by omega)
theorem eiBytes:EI Tryz.prog 68 5 (.int .u8 0) 1 1:=EI.mk' Tryz.underlying68 (by kernel_rfl) rfl (by decide)
theorem u8size:(Tryz.prog.info? 5).map (·.size) = some 1:=by kernel_rfl
theorem made_one (z:Value) (n:Nat):madeCells #[z] n = Array.replicate n z:=by
  apply Array.ext
  · simp [madeCells]
  · intro i h1 h2
    simp [madeCells,Nat.mod_one]
theorem bb_made (w:World) (n:Nat):BB (w.alloc (.cells (madeCells (Value.int .u8 0).cells (n * 1)) 5)) 5 w.heap.size (List.replicate n 0):=by
  unfold BB
  rw [heap_alloc_new,show (Value.int .u8 0).cells = #[Value.int .u8 0] from rfl,made_one,Nat.mul_one]
  simp [bv]
theorem lenC (w:World) (g h page:Nat) (l:List UInt8) (a:At w g h page l) :
    Calls Tryz.prog 138 #[.pointer (some ⟨g,0,none⟩)] w fun e w' => e = .returned (.int .i64 (l.length:Int)) /\ w = w':=by
  have c1:=a.cell1
  have hs:=a.small
  go_enter Tryz.func138,Tryz.ntmps138
  go_wp2
  go_ret
  exact ⟨rfl,rfl⟩
theorem writeYes (w:World) (g h page:Nat) (l:List UInt8) (a:At w g h page l) (at_:Int) (A:Option Addr) (c B:Nat) (p:List UInt8) (hp:Bytes w B A p) (hy:There page l.length at_ p.length) :
    Calls Tryz.prog 110 #[.pointer (some ⟨g,0,none⟩),.int .i64 at_,.slice A p.length c] w fun e w' =>
      e = .returned (.int .i64 0) /\ At w' g h page (lay l at_.toNat p) /\ Only (· = h) w w' /\ w'.heap.size = w.heap.size:=by
  have C:=Lib.hid (thereYes w g h page l a at_ p.length hy)
  obtain ⟨q1,q2,q3,q4⟩:=hy
  have hs:=a.small
  have hb:=a.bytes
  go_enter Tryz.func110,Tryz.ntmps110
  go_wp2_with fail
  refine C.out.mono ?_
  rintro e w' ⟨A',rfl,hA,m,rfl⟩
  replace hA : 0 < p.length -> A' = some ⟨h,at_.toNat,none⟩:=fun h0 => hA (by omega)
  have hbm:BB (w.drewN m) 5 h l:=hb
  have hpm:Bytes (w.drewN m) B A p:=hp
  go_wp2_with ((refine wpList_copyB rfl _ _ _ _ rfl _ Tryz.underlying68 u8size _ _ _ _ _ _ rfl rfl h at_.toNat 5 l p hbm (by simp) hA hpm (by omega) ?_; intro w1 hb1 ho1 hs1))
  go_ret
  refine ⟨rfl,a.turn ⟨ho1.os,ho1.tape,ho1.output,ho1.size,ho1.block⟩ hb1 (lay_len _ _ _ (by omega)),⟨ho1.os,ho1.tape,ho1.output,ho1.size,ho1.block⟩,hs1⟩
theorem lay_rep (l:List UInt8) (p k:Nat) (b:UInt8) (h:p + k < l.length):(lay l p (List.replicate k b)).set (p + k) b = lay l p (List.replicate (k + 1) b):=by
  have hl:(l.take p ++ List.replicate k b).length = p + k:=by simp; omega
  simp only [lay,List.length_replicate]
  rw [List.drop_eq_getElem_cons h,List.set_append_right _ _ (by omega),hl,Nat.sub_self,qO,List.replicate_succ', <- List.append_assoc,List.append_assoc _ [b],Nat.add_assoc]
  rfl
theorem fillYes (w:World) (g h page:Nat) (l:List UInt8) (a:At w g h page l) (at_ n:Int) (b:UInt8) (hy:There page l.length at_ n) :
    Calls Tryz.prog 98 #[.pointer (some ⟨g,0,none⟩),.int .i64 at_,.int .i64 n,.int .u8 (b.toNat:Int)] w fun e w' =>
      e = .returned (.int .i64 0) /\ At w' g h page (lay l at_.toNat (List.replicate n.toNat b)) /\ Only (· = h) w w' /\ w'.heap.size = w.heap.size:=by
  have C:=Lib.hid (thereYes w g h page l a at_ n hy)
  obtain ⟨q1,q2,q3,q4⟩:=hy
  have hs:=a.small
  have hb:=a.bytes
  obtain ⟨p,rfl⟩:=Int.eq_ofNat_of_zero_le q1
  obtain ⟨N,rfl⟩:=Int.eq_ofNat_of_zero_le q2
  simp only [Int.toNat_natCast] at C ⊢
  go_enter Tryz.func98,Tryz.ntmps98
  go_wp2_with fail
  refine C.out.mono ?_
  rintro e w0 ⟨A',rfl,hA,m,hw0⟩
  have hb0:BB w0 5 h l:=by rw [<- hw0]; exact hb
  have ho0:Only (· = h) w w0:=by rw [<- hw0]; exact (Only.refl _ _).drewN m
  have hs0:w0.heap.size = w.heap.size:=by rw [<- hw0]; rfl
  replace hA : 0 < N -> A' = some ⟨h,p,none⟩:=fun h0 => hA (by omega)
  clear C hw0
  replace hs0:=Lib.hid hs0
  go_wp2
  go_loopw [23] (fun i wr => ∃ k:Nat,k <= N /\ i = .int .i64 k /\ BB wr 5 h (lay l p (List.replicate k b)) /\ Only (· = h) w wr /\ Hid (wr.heap.size = w.heap.size)) (fun i _ => N - (intOf i).toNat)
  case atStart => exact ⟨0,by omega,rfl,by simpa [lay] using hb0,ho0,hs0⟩
  case round =>
    obtain ⟨k,hk,rfl,hbk,hok,hsk⟩:=hrel
    by_cases hlt:k < N
    · obtain rfl:=hA (by omega)
      have hll:(lay l p (List.replicate k b)).length = l.length:=lay_len _ _ _ (by simp; omega)
      have c1:=hbk.cell (p + k) (by omega)
      have c2:=hbk.frozen (p + k)
      have hset:=hbk.set (p + k) b
      rw [lay_rep l p k b (by omega)] at hset
      generalize ((lay l p (List.replicate k b))[p + k]).toNat = z at c1
      have ho1:Only (· = h) w (wr.setCell ⟨h,p + k,none⟩ (.int .u8 (b.toNat:Int))):=hok.setCell (fun _ => rfl) _
      replace hll:=Lib.hid hll
      go_wp2
      go_roundw
      case rel => exact ⟨k + 1,by omega,by go_num,hset,ho1,Lib.hid ((World.size_setCell _ _ _).trans hsk.out)⟩
      case measure => simp [intOf]; omega
    · obtain rfl:k = N:=by omega
      go_wp2
      go_ret
      exact ⟨rfl,a.turn hok hbk (lay_len _ _ _ (by simp; omega)),hok,hsk.out⟩
theorem ones0 (w:World):Calls Tryz.prog 141 #[.int .u64 4096] w fun e w' => e = .returned (.int .i64 1) /\ w = w':=by
  have b0:bits .and .u64 2048 6148914691236517205 = 0:=by kernel_rfl
  have b1:bits .and .u64 4096 6148914691236517205 = 4096:=by kernel_rfl
  have b2:bits .and .u64 1024 3689348814741910323 = 0:=by kernel_rfl
  have b3:bits .and .u64 4096 3689348814741910323 = 4096:=by kernel_rfl
  have b4:bits .and .u64 4352 1085102592571150095 = 256:=by kernel_rfl
  have b5:bits .and .i64 257 127 = 1:=by kernel_rfl
  go_enter Tryz.func141,Tryz.ntmps141
  go_wp2
  go_ret
  exact ⟨rfl,rfl⟩
theorem ones1 (w:World):Calls Tryz.prog 141 #[.int .u64 8192] w fun e w' => e = .returned (.int .i64 1) /\ w = w':=by
  have b0:bits .and .u64 4096 6148914691236517205 = 4096:=by kernel_rfl
  have b1:bits .and .u64 8192 6148914691236517205 = 0:=by kernel_rfl
  have b2:bits .and .u64 1024 3689348814741910323 = 0:=by kernel_rfl
  have b3:bits .and .u64 4096 3689348814741910323 = 4096:=by kernel_rfl
  have b4:bits .and .u64 4352 1085102592571150095 = 256:=by kernel_rfl
  have b5:bits .and .i64 257 127 = 1:=by kernel_rfl
  go_enter Tryz.func141,Tryz.ntmps141
  go_wp2
  go_ret
  exact ⟨rfl,rfl⟩
theorem ones2 (w:World):Calls Tryz.prog 141 #[.int .u64 16384] w fun e w' => e = .returned (.int .i64 1) /\ w = w':=by
  have b0:bits .and .u64 8192 6148914691236517205 = 0:=by kernel_rfl
  have b1:bits .and .u64 16384 6148914691236517205 = 16384:=by kernel_rfl
  have b2:bits .and .u64 4096 3689348814741910323 = 4096:=by kernel_rfl
  have b3:bits .and .u64 16384 3689348814741910323 = 0:=by kernel_rfl
  have b4:bits .and .u64 4352 1085102592571150095 = 256:=by kernel_rfl
  have b5:bits .and .i64 257 127 = 1:=by kernel_rfl
  go_enter Tryz.func141,Tryz.ntmps141
  go_wp2
  go_ret
  exact ⟨rfl,rfl⟩
theorem ones3 (w:World):Calls Tryz.prog 141 #[.int .u64 32768] w fun e w' => e = .returned (.int .i64 1) /\ w = w':=by
  have b0:bits .and .u64 16384 6148914691236517205 = 16384:=by kernel_rfl
  have b1:bits .and .u64 32768 6148914691236517205 = 0:=by kernel_rfl
  have b2:bits .and .u64 4096 3689348814741910323 = 4096:=by kernel_rfl
  have b3:bits .and .u64 16384 3689348814741910323 = 0:=by kernel_rfl
  have b4:bits .and .u64 4352 1085102592571150095 = 256:=by kernel_rfl
  have b5:bits .and .i64 257 127 = 1:=by kernel_rfl
  go_enter Tryz.func141,Tryz.ntmps141
  go_wp2
  go_ret
  exact ⟨rfl,rfl⟩
theorem ones4 (w:World):Calls Tryz.prog 141 #[.int .u64 65536] w fun e w' => e = .returned (.int .i64 1) /\ w = w':=by
  have b0:bits .and .u64 32768 6148914691236517205 = 0:=by kernel_rfl
  have b1:bits .and .u64 65536 6148914691236517205 = 65536:=by kernel_rfl
  have b2:bits .and .u64 16384 3689348814741910323 = 0:=by kernel_rfl
  have b3:bits .and .u64 65536 3689348814741910323 = 65536:=by kernel_rfl
  have b4:bits .and .u64 69632 1085102592571150095 = 65536:=by kernel_rfl
  have b5:bits .and .i64 65793 127 = 1:=by kernel_rfl
  go_enter Tryz.func141,Tryz.ntmps141
  go_wp2
  go_ret
  exact ⟨rfl,rfl⟩
theorem ones5 (w:World):Calls Tryz.prog 141 #[.int .u64 131072] w fun e w' => e = .returned (.int .i64 1) /\ w = w':=by
  have b0:bits .and .u64 65536 6148914691236517205 = 65536:=by kernel_rfl
  have b1:bits .and .u64 131072 6148914691236517205 = 0:=by kernel_rfl
  have b2:bits .and .u64 16384 3689348814741910323 = 0:=by kernel_rfl
  have b3:bits .and .u64 65536 3689348814741910323 = 65536:=by kernel_rfl
  have b4:bits .and .u64 69632 1085102592571150095 = 65536:=by kernel_rfl
  have b5:bits .and .i64 65793 127 = 1:=by kernel_rfl
  go_enter Tryz.func141,Tryz.ntmps141
  go_wp2
  go_ret
  exact ⟨rfl,rfl⟩
theorem ones6 (w:World):Calls Tryz.prog 141 #[.int .u64 262144] w fun e w' => e = .returned (.int .i64 1) /\ w = w':=by
  have b0:bits .and .u64 131072 6148914691236517205 = 0:=by kernel_rfl
  have b1:bits .and .u64 262144 6148914691236517205 = 262144:=by kernel_rfl
  have b2:bits .and .u64 65536 3689348814741910323 = 65536:=by kernel_rfl
  have b3:bits .and .u64 262144 3689348814741910323 = 0:=by kernel_rfl
  have b4:bits .and .u64 69632 1085102592571150095 = 65536:=by kernel_rfl
  have b5:bits .and .i64 65793 127 = 1:=by kernel_rfl
  go_enter Tryz.func141,Tryz.ntmps141
  go_wp2
  go_ret
  exact ⟨rfl,rfl⟩
theorem ones7 (w:World):Calls Tryz.prog 141 #[.int .u64 524288] w fun e w' => e = .returned (.int .i64 1) /\ w = w':=by
  have b0:bits .and .u64 262144 6148914691236517205 = 262144:=by kernel_rfl
  have b1:bits .and .u64 524288 6148914691236517205 = 0:=by kernel_rfl
  have b2:bits .and .u64 65536 3689348814741910323 = 65536:=by kernel_rfl
  have b3:bits .and .u64 262144 3689348814741910323 = 0:=by kernel_rfl
  have b4:bits .and .u64 69632 1085102592571150095 = 65536:=by kernel_rfl
  have b5:bits .and .i64 65793 127 = 1:=by kernel_rfl
  go_enter Tryz.func141,Tryz.ntmps141
  go_wp2
  go_ret
  exact ⟨rfl,rfl⟩
theorem ones8 (w:World):Calls Tryz.prog 141 #[.int .u64 1048576] w fun e w' => e = .returned (.int .i64 1) /\ w = w':=by
  have b0:bits .and .u64 524288 6148914691236517205 = 0:=by kernel_rfl
  have b1:bits .and .u64 1048576 6148914691236517205 = 1048576:=by kernel_rfl
  have b2:bits .and .u64 262144 3689348814741910323 = 0:=by kernel_rfl
  have b3:bits .and .u64 1048576 3689348814741910323 = 1048576:=by kernel_rfl
  have b4:bits .and .u64 1114112 1085102592571150095 = 65536:=by kernel_rfl
  have b5:bits .and .i64 65793 127 = 1:=by kernel_rfl
  go_enter Tryz.func141,Tryz.ntmps141
  go_wp2
  go_ret
  exact ⟨rfl,rfl⟩
def RightPage (p:Nat):Prop:=p = 4096 \/ p = 8192 \/ p = 16384 \/ p = 32768 \/ p = 65536 \/ p = 131072 \/ p = 262144 \/ p = 524288 \/ p = 1048576
theorem ones64C (p:Nat) (hp:RightPage p) (w:World):Calls Tryz.prog 141 #[.int .u64 (p:Int)] w fun e w' => e = .returned (.int .i64 1) /\ w = w':=by
  rcases hp with rfl | rfl | rfl | rfl | rfl | rfl | rfl | rfl | rfl
  · exact ones0 w
  · exact ones1 w
  · exact ones2 w
  · exact ones3 w
  · exact ones4 w
  · exact ones5 w
  · exact ones6 w
  · exact ones7 w
  · exact ones8 w
theorem RightPage.bd {p:Nat} (h:RightPage p) : 4096 <= p /\ p <= 1048576:=by unfold RightPage at h; omega
theorem onesC (p:Nat) (hp:RightPage p) (w:World):Calls Tryz.prog 124 #[.int .u64 (p:Int)] w fun e w' => e = .returned (.int .i64 1) /\ w = w':=by
  have C:=Lib.hid (ones64C p hp w)
  have hb:=hp.bd
  clear hp
  go_enter Tryz.func124,Tryz.ntmps124
  go_wp2_with fail
  refine C.out.mono ?_
  rintro e w' ⟨rfl,rfl⟩
  go_wp2
  go_ret
  exact ⟨rfl,rfl⟩
theorem newYes (w:World) (p n:Nat) (hp:RightPage p) (h1 : 1 <= n) (h2:n <= 1024) :
    Calls Tryz.prog 89 #[.int .i64 (p:Int),.int .i64 (n:Int)] w fun e w' =>
      e = .returned (.tuple #[.pointer (some ⟨w.heap.size + 1,0,none⟩),.int .i64 0]) /\ At w' (w.heap.size + 1) w.heap.size p (List.replicate (p * n) 0) /\ Below w.heap.size w w' /\ w'.heap.size = w.heap.size + 2:=by
  have C:=Lib.hid (onesC p hp w)
  have hb:=hp.bd
  have hpn:p * n <= 1073741824:=by
    have:=Nat.mul_le_mul hb.2 h2
    omega
  have hmk:∀ w:World,(Instr.makeSlice 68 (.int .i64 ((p:Int) * (n:Int))) (.int .i64 ((p:Int) * (n:Int)))).run Tryz.prog w = .ok (.slice (some ⟨w.heap.size,0,none⟩) (p * n) (p * n)) (w.alloc (.cells (madeCells (Value.int .u8 0).cells (p * n * 1)) 5)):=by
    intro w
    have:=EI.make eiBytes .i64 .i64 (p * n) (p * n) (by omega) (by omega) (by omega) w
    rw [Int.natCast_mul] at this
    exact this
  have hm:=bb_made w (p * n)
  have hbel:Below w.heap.size w (w.alloc (.cells (madeCells (Value.int .u8 0).cells (p * n * 1)) 5)):=(Below.refl _ _).alloc (Nat.le_refl _) _
  have hsz:=Lib.hid (World.size_alloc w (.cells (madeCells (Value.int .u8 0).cells (p * n * 1)) 5))
  have hlt:=Lib.hid hm.lt
  have hq:((p:Int) * (n:Int)) <= 1073741824:=by rw [<- Int.natCast_mul]; omega
  have hq0 : 0 <= ((p:Int) * (n:Int)):=by rw [<- Int.natCast_mul]; omega
  have hat:At ((w.alloc (.cells (madeCells (Value.int .u8 0).cells (p * n * 1)) 5)).alloc (.cells #[.int .i64 (p:Int),.slice (some ⟨w.heap.size,0,none⟩) (p * n) (p * n)] 190)) (w.heap.size + 1) w.heap.size p (List.replicate (p * n) 0):=by
    refine ⟨?_,?_,by omega,by simpa using hpn,by omega⟩
    · have:=heap_alloc_new (w.alloc (.cells (madeCells (Value.int .u8 0).cells (p * n * 1)) 5)) (.cells #[.int .i64 (p:Int),.slice (some ⟨w.heap.size,0,none⟩) (p * n) (p * n)] 190)
      rw [World.size_alloc] at this
      rw [this]
      simp
    · exact (Below.heap_alloc _ _ _ (by simp)).trans hm
  replace hat:=Lib.hid hat
  generalize hO:Obj.cells (madeCells (Value.int .u8 0).cells (p * n * 1)) 5 = O at *
  clear hO hm
  go_enter Tryz.func89,Tryz.ntmps89
  go_wp2_with fail
  refine C.out.mono ?_
  rintro e w' ⟨rfl,rfl⟩
  go_wp2
  go_ret2
  exact ⟨rfl,hat.out,hbel.alloc (by rw [hsz.out]; exact Nat.le_succ _) _,by rw [World.size_alloc,hsz.out]⟩
theorem width_u32 (w:World):Calls Tryz.prog 129 #[] w fun e w' => e = .returned (.int .i64 4) /\ w = w':=by
  go_enter Tryz.func129,Tryz.ntmps129
  go_wp2
  go_rounds 5
  go_ret
  exact ⟨rfl,rfl⟩
def beN (l:List UInt8):Nat:=l.foldl (fun n c => n * 256 + c.toNat) 0
theorem beN_snoc (l:List UInt8) (c:UInt8):beN (l ++ [c]) = beN l * 256 + c.toNat:=by simp [beN,List.foldl_append]
theorem beN_take (l:List UInt8) (k:Nat) (hk:k < l.length):beN (l.take (k + 1)) = beN (l.take k) * 256 + (l[k]).toNat:=by rw [List.take_succ_eq_append_getElem hk,beN_snoc]
theorem beN_take' (l:List UInt8) (k:Nat) (z:UInt8) (hk:l[k]? = some z):beN (l.take (k + 1)) = beN (l.take k) * 256 + z.toNat:=by
  obtain ⟨hl,rfl⟩:=List.getElem?_eq_some_iff.1 hk
  exact beN_take l k hl
theorem beN_lt (l:List UInt8):beN l < 256 ^ l.length:=by
  rw [<- List.reverse_reverse l]
  induction l.reverse with
  | nil => decide
  | cons b r ih =>
    rw [List.reverse_cons,beN_snoc,List.length_append,List.length_singleton,Nat.pow_succ]
    have:=b.toNat_lt
    omega
def putB:Nat -> Nat -> List UInt8
  | 0,_ => []
  | w + 1,n => putB w (n / 256) ++ [UInt8.ofNat n]
theorem putB_succ (w n:Nat):putB (w + 1) n = putB w (n / 256) ++ [UInt8.ofNat n]:=rfl
theorem putB_len (w:Nat):∀ n,(putB w n).length = w:=by
  induction w with
  | zero => intro n; rfl
  | succ w ih => intro n; rw [putB_succ,List.length_append,ih]; rfl
theorem ofNat_toNat (n:Nat):(UInt8.ofNat n).toNat = n % 256:=by rw [UInt8.toNat_ofNat']
theorem beN_putB (w:Nat):∀ n,beN (putB w n) = n % 256 ^ w:=by
  induction w with
  | zero => intro n; simp [putB,beN,Nat.mod_one]
  | succ w ih =>
    intro n
    rw [putB_succ,beN_snoc,ih,ofNat_toNat,Nat.pow_succ,Nat.mul_comm (256 ^ w) 256,Nat.mod_mul]
    omega
theorem lay_cons (l:List UInt8) (p r:Nat) (done:List UInt8) (b:UInt8) (h:p + (r + 1) + done.length <= l.length):(lay l (p + (r + 1)) done).set (p + r) b = lay l (p + r) (b :: done):=by
  simp only [lay,List.length_cons]
  rw [show p + (r + 1) = p + r + 1 by omega,List.take_succ_eq_append_getElem (show p + r < l.length by omega),List.append_assoc,List.append_assoc,
    List.set_append_right _ _ (by simp; omega),List.singleton_append]
  have e:p + r - (l.take (p + r)).length = 0:=by simp; omega
  rw [e,qO,List.append_assoc,List.cons_append]
  congr 4
  omega
theorem step_mod (x c M:Nat):(x % M * 256 + c) % M = (x * 256 + c) % M:=by
  rw [Nat.add_mod,Nat.mul_mod,Nat.mod_mod, <- Nat.mul_mod, <- Nat.add_mod]
theorem or_low (q c:Nat) (hc:c < 256):(q * 256) ||| c = q * 256 + c:=by
  have:=Nat.two_pow_add_eq_or_of_lt (i:=8) (b:=c) hc q
  rw [Nat.mul_comm q 256]
  exact this.symm
theorem get_u8 (n c:Nat) (hn:n < 256) (hc:c < 256):bits .or .u8 (IntKind.u8.wrap (IntKind.u8.wrap ((n:Int) * 128) * 2)) (c:Int) = (((n * 256 + c) % 256:Nat):Int):=by
  have e:IntKind.u8.wrap (IntKind.u8.wrap ((n:Int) * 128) * 2) = ((0:Nat):Int):=by rw [IntKind.wrap_u8',IntKind.wrap_u8']; omega
  rw [e,u8_or_nat 0 c (by decide) hc,Nat.zero_or]
  congr 1
  omega
theorem get_u32 (n c:Nat) (hn:n < 4294967296) (hc:c < 256):bits .or .u32 (IntKind.u32.wrap (IntKind.u32.wrap ((n:Int) * 128) * 2)) (c:Int) = (((n * 256 + c) % 4294967296:Nat):Int):=by
  have e:IntKind.u32.wrap (IntKind.u32.wrap ((n:Int) * 128) * 2) = ((n % 16777216 * 256:Nat):Int):=by rw [IntKind.wrap_u32',IntKind.wrap_u32']; omega
  rw [e,u32_or_nat _ c (by omega) (by omega),or_low _ _ hc]
  congr 1
  omega
theorem get_u8e (n c:Nat) (hn:n < 256) (hc:c < 256):bits .or .u8 ((n:Int) * 128 % 256 * 2 % 256) (c:Int) = (((n * 256 + c) % 256:Nat):Int):=by
  have h:=get_u8 n c hn hc
  rwa [IntKind.wrap_u8',IntKind.wrap_u8'] at h
theorem get_u32e (n c:Nat) (hn:n < 4294967296) (hc:c < 256):bits .or .u32 ((n:Int) * 128 % 4294967296 * 2 % 4294967296) (c:Int) = (((n * 256 + c) % 4294967296:Nat):Int):=by
  have h:=get_u32 n c hn hc
  rwa [IntKind.wrap_u32',IntKind.wrap_u32'] at h
theorem byte_of (x:Nat):IntKind.u8.wrap (x:Int) = ((UInt8.ofNat x).toNat:Int):=by rw [IntKind.wrap_u8',ofNat_toNat]; omega
theorem div_lt (x M:Nat) (h:x < M):x / 256 < M:=Nat.lt_of_le_of_lt (Nat.div_le_self _ _) h
theorem div_any (x:Nat):(x:Int) / 128 / 2 = ((x / 256:Nat):Int):=by omega
theorem div_u8 (x:Nat) (_:x < 256):(x:Int) / 128 / 2 = ((x / 256:Nat):Int):=div_any x
theorem div_u32 (x:Nat) (_:x < 4294967296):(x:Int) / 128 / 2 = ((x / 256:Nat):Int):=div_any x
theorem div_u64 (x:Nat) (_:x < 18446744073709551616):(x:Int) / 128 / 2 = ((x / 256:Nat):Int):=div_any x
set_option maxHeartbeats 400000 in
theorem putYes_u32 (w:World) (g h page:Nat) (l:List UInt8) (a:At w g h page l) (at_:Int) (n:Nat) (hn:n < 4294967296) (hy:There page l.length at_ 4) :
    Calls Tryz.prog 99 #[.pointer (some ⟨g,0,none⟩),.int .i64 at_,.int .u32 (n:Int)] w fun e w' => e = .returned (.int .i64 0) /\ At w' g h page (lay l at_.toNat (putB 4 n)) /\ Only (· = h) w w' /\ w'.heap.size = w.heap.size:=by
  have C:=Lib.hid (thereYes w g h page l a at_ 4 hy)
  have E:=Lib.hid width_u32
  obtain ⟨q1,q2,q3,q4⟩:=hy
  have hs:=a.small
  have hb:=a.bytes
  obtain ⟨p,rfl⟩:=Int.eq_ofNat_of_zero_le q1
  simp only [Int.toNat_natCast] at C ⊢
  generalize hB:putB 4 n = fin at *
  have hfl:fin.length = 4:=by rw [<- hB,putB_len]
  replace hfl:=Lib.hid hfl
  go_enter Tryz.func99,Tryz.ntmps99
  go_wp2_with fail
  refine (E.out _).mono ?_
  rintro e w' ⟨rfl,rfl⟩
  go_wp2_with fail
  refine C.out.mono ?_
  rintro e w0 ⟨A,rfl,hA,m,hw0⟩
  obtain rfl:=hA (by omega)
  have hb0:BB w0 5 h l:=by rw [<- hw0]; exact hb
  have ho0:Only (· = h) w w0:=by rw [<- hw0]; exact (Only.refl _ _).drewN m
  have hs0:Hid (w0.heap.size = w.heap.size):=by rw [<- hw0]; rfl
  clear hw0 C E hA
  replace hB:=Lib.hid hB
  go_wp2
  go_loopw [2,9] (fun v i wr => ∃ (r x:Nat) (done:List UInt8),r + done.length = 4 /\ x < 4294967296 /\ i = .int .i64 ((r:Int) - 1) /\ v = .int .u32 (x:Int) /\ Hid (putB r x ++ done = fin) /\ BB wr 5 h (lay l (p + r) done) /\ Only (· = h) w wr /\ Hid (wr.heap.size = w.heap.size)) (fun _ i _ => (intOf i + 1).toNat)
  case atStart => exact ⟨4,n,[],rfl,hn,by go_num,rfl,by rw [List.append_nil]; exact hB,by rw [lay_nil]; exact hb0,ho0,hs0⟩
  case round =>
    obtain ⟨r,x,done,hr,hx,rfl,rfl,hfx,hbr,hor,hsr⟩:=hrel
    rcases Nat.eq_zero_or_pos r with hz | hz
    · subst hz
      have hd0:lay l (p + 0) done = lay l p fin:=by rw [<- hfx.out]; rfl
      rw [hd0] at hbr
      clear hd0
      go_wp2
      go_ret
      exact ⟨rfl,a.turn hor hbr (lay_len _ _ _ (by rw [hfl.out]; omega)),hor,hsr.out⟩
    · obtain ⟨r,rfl⟩:∃ r',r = r' + 1:=⟨r - 1,by omega⟩
      have hll:(lay l (p + (r + 1)) done).length = l.length:=lay_len _ _ _ (by omega)
      have c1:=hbr.cell (p + r) (by omega)
      have c2:=hbr.frozen (p + r)
      have hset:=hbr.set (p + r) (UInt8.ofNat x)
      rw [lay_cons l p r done _ (by omega)] at hset
      have hbyte:=byte_of x
      have hdiv:=div_u32 x hx
      have hlt2:=div_lt x 4294967296 hx
      have hor1:Only (· = h) w (wr.setCell ⟨h,p + r,none⟩ (.int .u8 ((UInt8.ofNat x).toNat:Int))):=hor.setCell (fun _ => rfl) _
      have hfx':Hid (putB r (x / 256) ++ (UInt8.ofNat x :: done) = fin):=Lib.hid (by rw [<- hfx.out,putB_succ]; simp)
      generalize ((lay l (p + (r + 1)) done)[p + r]).toNat = z at c1
      replace hll:=Lib.hid hll
      have hi1:((((r + 1:Nat):Int)) - 1) = (r:Int):=by omega
      rw [hi1]
      clear hi1
      generalize (UInt8.ofNat x).toNat = bb at *
      generalize hxd:x / 256 = xd at *
      replace hxd:=Lib.hid hxd
      go_wp2
      go_roundw
      case rel => exact ⟨r,xd,_,by simp only [List.length_cons]; omega,hlt2,by go_num,by go_num,hfx',hset,hor1,Lib.hid ((World.size_setCell _ _ _).trans hsr.out)⟩
      case measure => simp [intOf] <;> omega
theorem width_u8 (w:World):Calls Tryz.prog 143 #[] w fun e w' => e = .returned (.int .i64 1) /\ w = w':=by
  go_enter Tryz.func143,Tryz.ntmps143
  go_wp2
  go_rounds 2
  go_ret
  exact ⟨rfl,rfl⟩
theorem width_u64 (w:World):Calls Tryz.prog 142 #[] w fun e w' => e = .returned (.int .i64 8) /\ w = w':=by
  go_enter Tryz.func142,Tryz.ntmps142
  go_wp2
  go_rounds 9
  go_ret
  exact ⟨rfl,rfl⟩
set_option maxHeartbeats 400000 in
theorem putYes_u8 (w:World) (g h page:Nat) (l:List UInt8) (a:At w g h page l) (at_:Int) (n:Nat) (hn:n < 256) (hy:There page l.length at_ 1) :
    Calls Tryz.prog 133 #[.pointer (some ⟨g,0,none⟩),.int .i64 at_,.int .u8 (n:Int)] w fun e w' => e = .returned (.int .i64 0) /\ At w' g h page (lay l at_.toNat (putB 1 n)) /\ Only (· = h) w w' /\ w'.heap.size = w.heap.size:=by
  have C:=Lib.hid (thereYes w g h page l a at_ 1 hy)
  have E:=Lib.hid width_u8
  obtain ⟨q1,q2,q3,q4⟩:=hy
  have hs:=a.small
  have hb:=a.bytes
  obtain ⟨p,rfl⟩:=Int.eq_ofNat_of_zero_le q1
  simp only [Int.toNat_natCast] at C ⊢
  generalize hB:putB 1 n = fin at *
  have hfl:fin.length = 1:=by rw [<- hB,putB_len]
  replace hfl:=Lib.hid hfl
  go_enter Tryz.func133,Tryz.ntmps133
  go_wp2_with fail
  refine (E.out _).mono ?_
  rintro e w' ⟨rfl,rfl⟩
  go_wp2_with fail
  refine C.out.mono ?_
  rintro e w0 ⟨A,rfl,hA,m,hw0⟩
  obtain rfl:=hA (by omega)
  have hb0:BB w0 5 h l:=by rw [<- hw0]; exact hb
  have ho0:Only (· = h) w w0:=by rw [<- hw0]; exact (Only.refl _ _).drewN m
  have hs0:Hid (w0.heap.size = w.heap.size):=by rw [<- hw0]; rfl
  clear hw0 C E hA
  replace hB:=Lib.hid hB
  go_wp2
  go_loopw [2,9] (fun v i wr => ∃ (r x:Nat) (done:List UInt8),r + done.length = 1 /\ x < 256 /\ i = .int .i64 ((r:Int) - 1) /\ v = .int .u8 (x:Int) /\ Hid (putB r x ++ done = fin) /\ BB wr 5 h (lay l (p + r) done) /\ Only (· = h) w wr /\ Hid (wr.heap.size = w.heap.size)) (fun _ i _ => (intOf i + 1).toNat)
  case atStart => exact ⟨1,n,[],rfl,hn,by go_num,rfl,by rw [List.append_nil]; exact hB,by rw [lay_nil]; exact hb0,ho0,hs0⟩
  case round =>
    obtain ⟨r,x,done,hr,hx,rfl,rfl,hfx,hbr,hor,hsr⟩:=hrel
    rcases Nat.eq_zero_or_pos r with hz | hz
    · subst hz
      have hd0:lay l (p + 0) done = lay l p fin:=by rw [<- hfx.out]; rfl
      rw [hd0] at hbr
      clear hd0
      go_wp2
      go_ret
      exact ⟨rfl,a.turn hor hbr (lay_len _ _ _ (by rw [hfl.out]; omega)),hor,hsr.out⟩
    · obtain ⟨r,rfl⟩:∃ r',r = r' + 1:=⟨r - 1,by omega⟩
      have hll:(lay l (p + (r + 1)) done).length = l.length:=lay_len _ _ _ (by omega)
      have c1:=hbr.cell (p + r) (by omega)
      have c2:=hbr.frozen (p + r)
      have hset:=hbr.set (p + r) (UInt8.ofNat x)
      rw [lay_cons l p r done _ (by omega)] at hset
      have hbyte:=byte_of x
      have hdiv:=div_u8 x hx
      have hlt2:=div_lt x 256 hx
      have hor1:Only (· = h) w (wr.setCell ⟨h,p + r,none⟩ (.int .u8 ((UInt8.ofNat x).toNat:Int))):=hor.setCell (fun _ => rfl) _
      have hfx':Hid (putB r (x / 256) ++ (UInt8.ofNat x :: done) = fin):=Lib.hid (by rw [<- hfx.out,putB_succ]; simp)
      generalize ((lay l (p + (r + 1)) done)[p + r]).toNat = z at c1
      replace hll:=Lib.hid hll
      have hi1:((((r + 1:Nat):Int)) - 1) = (r:Int):=by omega
      rw [hi1]
      clear hi1
      rw [show (UInt8.ofNat x).toNat = x by rw [ofNat_toNat]; omega] at hset hor1
      clear hbyte
      generalize hxd:x / 256 = xd at *
      replace hxd:=Lib.hid hxd
      go_wp2
      go_roundw
      case rel => exact ⟨r,xd,_,by simp only [List.length_cons]; omega,hlt2,by go_num,by go_num,hfx',hset,hor1,Lib.hid ((World.size_setCell _ _ _).trans hsr.out)⟩
      case measure => simp [intOf] <;> omega
set_option maxHeartbeats 400000 in
theorem putYes_u64 (w:World) (g h page:Nat) (l:List UInt8) (a:At w g h page l) (at_:Int) (n:Nat) (hn:n < 18446744073709551616) (hy:There page l.length at_ 8) :
    Calls Tryz.prog 132 #[.pointer (some ⟨g,0,none⟩),.int .i64 at_,.int .u64 (n:Int)] w fun e w' => e = .returned (.int .i64 0) /\ At w' g h page (lay l at_.toNat (putB 8 n)) /\ Only (· = h) w w' /\ w'.heap.size = w.heap.size:=by
  have C:=Lib.hid (thereYes w g h page l a at_ 8 hy)
  have E:=Lib.hid width_u64
  obtain ⟨q1,q2,q3,q4⟩:=hy
  have hs:=a.small
  have hb:=a.bytes
  obtain ⟨p,rfl⟩:=Int.eq_ofNat_of_zero_le q1
  simp only [Int.toNat_natCast] at C ⊢
  generalize hB:putB 8 n = fin at *
  have hfl:fin.length = 8:=by rw [<- hB,putB_len]
  replace hfl:=Lib.hid hfl
  go_enter Tryz.func132,Tryz.ntmps132
  go_wp2_with fail
  refine (E.out _).mono ?_
  rintro e w' ⟨rfl,rfl⟩
  go_wp2_with fail
  refine C.out.mono ?_
  rintro e w0 ⟨A,rfl,hA,m,hw0⟩
  obtain rfl:=hA (by omega)
  have hb0:BB w0 5 h l:=by rw [<- hw0]; exact hb
  have ho0:Only (· = h) w w0:=by rw [<- hw0]; exact (Only.refl _ _).drewN m
  have hs0:Hid (w0.heap.size = w.heap.size):=by rw [<- hw0]; rfl
  clear hw0 C E hA
  replace hB:=Lib.hid hB
  go_wp2
  go_loopw [2,9] (fun v i wr => ∃ (r x:Nat) (done:List UInt8),r + done.length = 8 /\ x < 18446744073709551616 /\ i = .int .i64 ((r:Int) - 1) /\ v = .int .u64 (x:Int) /\ Hid (putB r x ++ done = fin) /\ BB wr 5 h (lay l (p + r) done) /\ Only (· = h) w wr /\ Hid (wr.heap.size = w.heap.size)) (fun _ i _ => (intOf i + 1).toNat)
  case atStart => exact ⟨8,n,[],rfl,hn,by go_num,rfl,by rw [List.append_nil]; exact hB,by rw [lay_nil]; exact hb0,ho0,hs0⟩
  case round =>
    obtain ⟨r,x,done,hr,hx,rfl,rfl,hfx,hbr,hor,hsr⟩:=hrel
    rcases Nat.eq_zero_or_pos r with hz | hz
    · subst hz
      have hd0:lay l (p + 0) done = lay l p fin:=by rw [<- hfx.out]; rfl
      rw [hd0] at hbr
      clear hd0
      go_wp2
      go_ret
      exact ⟨rfl,a.turn hor hbr (lay_len _ _ _ (by rw [hfl.out]; omega)),hor,hsr.out⟩
    · obtain ⟨r,rfl⟩:∃ r',r = r' + 1:=⟨r - 1,by omega⟩
      have hll:(lay l (p + (r + 1)) done).length = l.length:=lay_len _ _ _ (by omega)
      have c1:=hbr.cell (p + r) (by omega)
      have c2:=hbr.frozen (p + r)
      have hset:=hbr.set (p + r) (UInt8.ofNat x)
      rw [lay_cons l p r done _ (by omega)] at hset
      have hbyte:=byte_of x
      have hdiv:=div_u64 x hx
      have hlt2:=div_lt x 18446744073709551616 hx
      have hor1:Only (· = h) w (wr.setCell ⟨h,p + r,none⟩ (.int .u8 ((UInt8.ofNat x).toNat:Int))):=hor.setCell (fun _ => rfl) _
      have hfx':Hid (putB r (x / 256) ++ (UInt8.ofNat x :: done) = fin):=Lib.hid (by rw [<- hfx.out,putB_succ]; simp)
      generalize ((lay l (p + (r + 1)) done)[p + r]).toNat = z at c1
      replace hll:=Lib.hid hll
      have hi1:((((r + 1:Nat):Int)) - 1) = (r:Int):=by omega
      rw [hi1]
      clear hi1
      generalize (UInt8.ofNat x).toNat = bb at *
      generalize hxd:x / 256 = xd at *
      replace hxd:=Lib.hid hxd
      go_wp2
      go_roundw
      case rel => exact ⟨r,xd,_,by simp only [List.length_cons]; omega,hlt2,by go_num,by go_num,hfx',hset,hor1,Lib.hid ((World.size_setCell _ _ _).trans hsr.out)⟩
      case measure => simp [intOf] <;> omega
theorem getYes_u8 (w:World) (g h page:Nat) (l:List UInt8) (a:At w g h page l) (at_:Int) (hy:There page l.length at_ 1) :
    Calls Tryz.prog 144 #[.pointer (some ⟨g,0,none⟩),.int .i64 at_] w fun e w' => e = .returned (.tuple #[.int .u8 ((beN ((l.drop at_.toNat).take 1):Nat):Int),.int .i64 0]) /\ ∃ m,w.drewN m = w':=by
  have C:=Lib.hid (thereYes w g h page l a at_ 1 hy)
  have E:=Lib.hid width_u8
  obtain ⟨q1,q2,q3,q4⟩:=hy
  have hs:=a.small
  have hlen:((l.drop at_.toNat).take 1).length = 1:=by simp; omega
  have hb:=a.bytes
  obtain ⟨p,rfl⟩:=Int.eq_ofNat_of_zero_le q1
  simp only [Int.toNat_natCast] at C hlen ⊢
  have hfin:=beN_lt ((l.drop p).take 1)
  rw [hlen] at hfin
  have hat:∀ k,k < 1 -> ∃ z:UInt8,((l.drop p).take 1)[k]? = some z /\ l[p + k]? = some z:=fun k hk => by
    have hkl:k < ((l.drop p).take 1).length:=by omega
    have e:=List.getElem?_eq_getElem hkl
    refine ⟨_,e,?_⟩
    rw [<- e,List.getElem?_take,if_pos hk,List.getElem?_drop]
  generalize (l.drop p).take 1 = piece at *
  replace hlen:=Lib.hid hlen
  replace hat:=Lib.hid hat
  go_enter Tryz.func144,Tryz.ntmps144
  go_wp2_with fail
  refine (E.out _).mono ?_
  rintro e w' ⟨rfl,rfl⟩
  go_wp2_with fail
  refine C.out.mono ?_
  rintro e w0 ⟨A,rfl,hA,m,hw0⟩
  obtain rfl:=hA (by omega)
  have hb0:BB w0 5 h l:=by rw [<- hw0]; exact hb
  replace hw0:=Lib.hid hw0
  go_wp2
  go_loop [8,24] (fun n i => ∃ k:Nat,k <= 1 /\ i = .int .i64 k /\ n = .int .u8 ((beN (piece.take k) % 256:Nat):Int)) (fun _ i => 1 - (intOf i).toNat)
  case atStart => exact ⟨0,by omega,rfl,rfl⟩
  case round =>
    obtain ⟨k,hk,rfl,rfl⟩:=hrel
    by_cases hlt:k < 1
    · obtain ⟨z0,hpz,hlz⟩:=hat.out k hlt
      have hc:=hb0.cell' (p + k) z0 hlz
      have hs2:=Lib.hid (beN_take' piece k z0 hpz)
      have hx:=byte_lt z0
      have hm:=Nat.mod_lt (beN (piece.take k)) (show 0 < 256 by decide)
      have he:=get_u8 _ _ hm hx
      have he2:=get_u8e _ _ hm hx
      have hmm:=Lib.hid (Nat.mod_mod (beN (piece.take k)) 256)
      have hst:=Lib.hid (step_mod (beN (piece.take k)) z0.toNat 256)
      clear hpz hlz
      generalize beN (piece.take k) % 256 = x at *
      generalize z0.toNat = z at *
      go_wp2
      go_round
      case rel => exact ⟨k + 1,by omega,by go_num,by rw [hs2.out, <- hst.out]; go_num⟩
      case measure => simp [intOf]; omega
    · obtain rfl:k = 1:=by omega
      have e1:piece.take 1 = piece:=List.take_of_length_le (by rw [hlen.out]; omega)
      have e2:=Lib.hid (show beN (piece.take 1) % 256 = beN piece by rw [e1]; exact Nat.mod_eq_of_lt hfin)
      clear e1
      generalize beN (piece.take 1) % 256 = y at *
      go_wp2
      go_ret2
      exact ⟨by rw [e2.out]; rfl,m,hw0.out⟩
theorem getYes_u32 (w:World) (g h page:Nat) (l:List UInt8) (a:At w g h page l) (at_:Int) (hy:There page l.length at_ 4) :
    Calls Tryz.prog 136 #[.pointer (some ⟨g,0,none⟩),.int .i64 at_] w fun e w' => e = .returned (.tuple #[.int .u32 ((beN ((l.drop at_.toNat).take 4):Nat):Int),.int .i64 0]) /\ ∃ m,w.drewN m = w':=by
  have C:=Lib.hid (thereYes w g h page l a at_ 4 hy)
  have E:=Lib.hid width_u32
  obtain ⟨q1,q2,q3,q4⟩:=hy
  have hs:=a.small
  have hlen:((l.drop at_.toNat).take 4).length = 4:=by simp; omega
  have hb:=a.bytes
  obtain ⟨p,rfl⟩:=Int.eq_ofNat_of_zero_le q1
  simp only [Int.toNat_natCast] at C hlen ⊢
  have hfin:=beN_lt ((l.drop p).take 4)
  rw [hlen] at hfin
  have hat:∀ k,k < 4 -> ∃ z:UInt8,((l.drop p).take 4)[k]? = some z /\ l[p + k]? = some z:=fun k hk => by
    have hkl:k < ((l.drop p).take 4).length:=by omega
    have e:=List.getElem?_eq_getElem hkl
    refine ⟨_,e,?_⟩
    rw [<- e,List.getElem?_take,if_pos hk,List.getElem?_drop]
  generalize (l.drop p).take 4 = piece at *
  replace hlen:=Lib.hid hlen
  replace hat:=Lib.hid hat
  go_enter Tryz.func136,Tryz.ntmps136
  go_wp2_with fail
  refine (E.out _).mono ?_
  rintro e w' ⟨rfl,rfl⟩
  go_wp2_with fail
  refine C.out.mono ?_
  rintro e w0 ⟨A,rfl,hA,m,hw0⟩
  obtain rfl:=hA (by omega)
  have hb0:BB w0 5 h l:=by rw [<- hw0]; exact hb
  replace hw0:=Lib.hid hw0
  go_wp2
  go_loop [8,24] (fun n i => ∃ k:Nat,k <= 4 /\ i = .int .i64 k /\ n = .int .u32 ((beN (piece.take k) % 4294967296:Nat):Int)) (fun _ i => 4 - (intOf i).toNat)
  case atStart => exact ⟨0,by omega,rfl,rfl⟩
  case round =>
    obtain ⟨k,hk,rfl,rfl⟩:=hrel
    by_cases hlt:k < 4
    · obtain ⟨z0,hpz,hlz⟩:=hat.out k hlt
      have hc:=hb0.cell' (p + k) z0 hlz
      have hs2:=Lib.hid (beN_take' piece k z0 hpz)
      have hx:=byte_lt z0
      have hm:=Nat.mod_lt (beN (piece.take k)) (show 0 < 4294967296 by decide)
      have he:=get_u32 _ _ hm hx
      have he2:=get_u32e _ _ hm hx
      have hmm:=Lib.hid (Nat.mod_mod (beN (piece.take k)) 4294967296)
      have hst:=Lib.hid (step_mod (beN (piece.take k)) z0.toNat 4294967296)
      clear hpz hlz
      generalize beN (piece.take k) % 4294967296 = x at *
      generalize z0.toNat = z at *
      go_wp2
      go_round
      case rel => exact ⟨k + 1,by omega,by go_num,by rw [hs2.out, <- hst.out]; go_num⟩
      case measure => simp [intOf]; omega
    · obtain rfl:k = 4:=by omega
      have e1:piece.take 4 = piece:=List.take_of_length_le (by rw [hlen.out]; omega)
      have e2:=Lib.hid (show beN (piece.take 4) % 4294967296 = beN piece by rw [e1]; exact Nat.mod_eq_of_lt hfin)
      clear e1
      generalize beN (piece.take 4) % 4294967296 = y at *
      go_wp2
      go_ret2
      exact ⟨by rw [e2.out]; rfl,m,hw0.out⟩
end Go.Proofs.YtfjiphibalhcgaaGreat.Arena
/-
  item's get and put (printed by wip/gen_item.py).
-/
namespace Go.Proofs.YtfjiphibalhcgaaGreat.Itm
open Go.RowKit Base Arena
def rd (l:List UInt8) (p n:Nat):Nat:=beN ((l.drop p).take n)
def kv (g p k n:Nat):Array Value:=#[.pointer (some ⟨g,0,none⟩),.int .i64 (p:Int),.int .i64 (k:Int),.int .i64 (n:Int)]
theorem kv_eq (g p k n:Nat):kv g p k n = #[.pointer (some ⟨g,0,none⟩),.int .i64 (p:Int),.int .i64 (k:Int),.int .i64 (n:Int)]:=rfl
theorem below_drew {w w1:World} {N:Nat} (h:Below N w w1) (m:Nat):Below N w (w1.drewN m):=⟨h.os,h.tape,h.output,h.size,h.block⟩
theorem get8C (w:World) (g h page:Nat) (l:List UInt8) (a:At w g h page l) (p o k n:Nat) (hy:There page l.length ((p + o:Nat):Int) 1) :
  Calls Tryz.prog 135 #[.agg (kv g p k n),.int .i64 (o:Int)] w fun e w' => e = .returned (.int .u8 ((rd l (p + o) 1:Nat):Int)) /\ Below w.heap.size w w':=by
 obtain ⟨w1,hw1⟩:∃ w1,w1 = w.alloc (.cells (kv g p k n) 171):=⟨_,rfl⟩
 have B1:Blk w1 w.heap.size 171 (kv g p k n):=by rw [hw1]; exact Blk.new w _ _
 have b1:Below w.heap.size w w1:=by rw [hw1]; exact (Below.refl _ _).alloc (Nat.le_refl _) _
 have a1:At w1 g h page l:=by rw [hw1]; exact a.keep (Below.heap_alloc w _ _ (heap_lt a.head)) (Below.heap_alloc w _ _ a.bytes.lt)
 have x0:w1.cell? ⟨w.heap.size,0,none⟩ = some (.pointer (some ⟨g,0,none⟩)):=B1.cell 0
 have x1:w1.cell? ⟨w.heap.size,1,none⟩ = some (.int .i64 (p:Int)):=B1.cell 1
 have G:=getYes_u8 w1 g h page l a1 _ hy
 have q1:IntKind.i64.wrap ((p:Int) + (o:Int)) = ((p + o:Nat):Int):=by
  obtain ⟨q1,q2,q3,q4⟩:=hy
  have hs:=a.small
  rw [IntWalk.i64_in _ (by omega)]; omega
 rw [Int.toNat_natCast] at G
 rw [kv_eq] at hw1 ⊢
 replace hw1:=Lib.hid hw1
 replace b1:=Lib.hid b1
 replace G:=Lib.hid G
 clear a1 B1 a hy
 generalize hN:w.heap.size = N at *
 replace hN:=Lib.hid hN
 generalize hP:p + o = P at *
 clear hP
 go_enter Tryz.func135,Tryz.ntmps135
 go_upto_region 1 with fail
 rw [hN.out, <- hw1.out]
 go_wp2_with fail
 refine G.out.mono ?_
 rintro e w' ⟨rfl,m,rfl⟩
 go_wp2
 go_ret
 exact ⟨rfl,below_drew b1.out _⟩
theorem get32C (w:World) (g h page:Nat) (l:List UInt8) (a:At w g h page l) (p o k n:Nat) (hy:There page l.length ((p + o:Nat):Int) 4) :
  Calls Tryz.prog 115 #[.agg (kv g p k n),.int .i64 (o:Int)] w fun e w' => e = .returned (.int .u32 ((rd l (p + o) 4:Nat):Int)) /\ Below w.heap.size w w':=by
 obtain ⟨w1,hw1⟩:∃ w1,w1 = w.alloc (.cells (kv g p k n) 171):=⟨_,rfl⟩
 have B1:Blk w1 w.heap.size 171 (kv g p k n):=by rw [hw1]; exact Blk.new w _ _
 have b1:Below w.heap.size w w1:=by rw [hw1]; exact (Below.refl _ _).alloc (Nat.le_refl _) _
 have a1:At w1 g h page l:=by rw [hw1]; exact a.keep (Below.heap_alloc w _ _ (heap_lt a.head)) (Below.heap_alloc w _ _ a.bytes.lt)
 have x0:w1.cell? ⟨w.heap.size,0,none⟩ = some (.pointer (some ⟨g,0,none⟩)):=B1.cell 0
 have x1:w1.cell? ⟨w.heap.size,1,none⟩ = some (.int .i64 (p:Int)):=B1.cell 1
 have G:=getYes_u32 w1 g h page l a1 _ hy
 have q1:IntKind.i64.wrap ((p:Int) + (o:Int)) = ((p + o:Nat):Int):=by
  obtain ⟨q1,q2,q3,q4⟩:=hy
  have hs:=a.small
  rw [IntWalk.i64_in _ (by omega)]; omega
 rw [Int.toNat_natCast] at G
 rw [kv_eq] at hw1 ⊢
 replace hw1:=Lib.hid hw1
 replace b1:=Lib.hid b1
 replace G:=Lib.hid G
 clear a1 B1 a hy
 generalize hN:w.heap.size = N at *
 replace hN:=Lib.hid hN
 generalize hP:p + o = P at *
 clear hP
 go_enter Tryz.func115,Tryz.ntmps115
 go_upto_region 1 with fail
 rw [hN.out, <- hw1.out]
 go_wp2_with fail
 refine G.out.mono ?_
 rintro e w' ⟨rfl,m,rfl⟩
 go_wp2
 go_ret
 exact ⟨rfl,below_drew b1.out _⟩
end Go.Proofs.YtfjiphibalhcgaaGreat.Itm
