/-
  Contracts and lemmas, joined: Ref6Next, Ref6Row, Ref2At, Ref6Put, Ref6Drop.
-/
import Derived.Test.YtfjiphibalhcgaaGreatG7
set_option linter.unusedSimpArgs false
set_option linter.unusedVariables false
set_option linter.unusedSectionVars false
set_option maxRecDepth 100000
/-
  The document's queue: next, Ahead, Behind.
-/
namespace Go.Proofs.YtfjiphibalhcgaaGreat.Que
open Go.RowKit Base Arena Cls Itm
def At6 (c:Conf) (Ls:Nat -> Nat -> List Nat) (H X k:Nat) (l1 l2:List Nat):Prop:=X < c.nc /\ k < 3 /\ Ls X k = l1 ++ H :: l2 /\ H ∉ l1 /\ ∀ x j,x < c.nc -> j < 3 -> H ∈ Ls x j -> x = X /\ j = k
theorem QI.at6 {c:Conf} {s:St} {Z:Nat -> Option Zd} {F:QN} {Ls:Nat -> Nat -> List Nat} (q:QI c s Z F Ls) (ok:c.cf.Ok) (g:Cls.Good c.cf s) (H:Nat) :
  (stK (clsN c s H) Ls H = 0 /\ ∀ x k,x < c.nc -> k < 3 -> H ∉ Ls x k) \/ ∃ k l1 l2,stK (clsN c s H) Ls H = k + 1 /\ At6 c Ls H (clsN c s H) k l1 l2 /\ prevN c s Ls H = l1.getLast?.getD 0 /\ nextN c s Ls H = l2.head?.getD 0 /\ (∀ y ∈ l1 ++ l2,y ≠ 0) /\ Ls (clsN c s H) k = l1 ++ H :: l2:=by
 by_cases h0:stK (clsN c s H) Ls H = 0
 ·exact .inl ⟨h0,q.not_stK h0⟩
 ·obtain ⟨k,i,y,p,hk,e,hf,ec,hx,hm⟩:=q.of_stK ok g h0
  obtain ⟨l1,l2,hl, -, -⟩:=q.split hx hk hm
  have hnd:=q.nd _ _ hx hk
  rw [hl] at hnd
  have n1:H ∉ l1:=fun e => (List.nodup_append.1 hnd).2.2 H e H (List.mem_cons_self ..) rfl
  refine .inr ⟨k,l1,l2,e,⟨ec ▸ hx,hk,ec ▸ hl,n1,fun x j hx' hj hm' => ?_⟩,?_,?_,fun y hy => ?_,ec ▸ hl⟩
  ·have:=q.dj x j _ k H hx' hj hx hk hm' hm
   rw [ec]; exact this
  ·unfold prevN
   rw [if_neg h0,e,ec,Nat.add_sub_cancel,hl,ahead_split n1]
  ·unfold nextN
   rw [if_neg h0,e,ec,Nat.add_sub_cancel,hl,behind_split n1]
  ·refine q.ne0 hx hk (h:=y) ?_
   rw [hl]
   rcases List.mem_append.1 hy with hy | hy
   ·exact List.mem_append.2 (.inl hy)
   ·exact List.mem_append.2 (.inr (List.mem_cons_of_mem _ hy))
theorem rows6_at (Ls:Nat -> Nat -> List Nat) {X k:Nat} (hk:k < 3):rows6 Ls (3 * X + k) = Ls X k:=by
 show Ls ((3 * X + k) / 3) ((3 * X + k) % 3) = Ls X k
 rw [show (3 * X + k) / 3 = X by omega,show (3 * X + k) % 3 = k by omega]
section
variable (w:World) (R:R6) (mb:Nat) (c:Conf) (laid:List Nat) (Ls:Nat -> Nat -> List Nat) (h:R6At w R mb (3 * c.nc) laid (rows6 Ls)) (hnc:c.nc <= 62) (hll:∀ x k,x < c.nc -> k < 3 -> (Ls x k).length <= 1073741824) (H:Nat)
include h hnc hll
theorem where6 {X k:Nat} {l1 l2:List Nat} (ha:At6 c Ls H X k l1 l2):Calls Tryz.prog 77 #[.pointer (some ⟨R.b,0,none⟩),.int .u64 (H:Int)] w fun e w' => e = .returned (.tuple #[.int .i64 ((3 * X + k:Nat):Int),.int .i64 (l1.length:Int)]) /\ w = w':=by
 obtain ⟨hX,hk,hl,hn,hu⟩:=ha
 have hj : 3 * X + k < 3 * c.nc:=by omega
 have:=whereYes w R mb _ laid _ h (by omega) (fun i hi => hll _ _ (by omega) (by omega)) H (3 * X + k) hj (by rw [rows6_at Ls hk,hl]; simp) (fun j hj' hm => by
  have:=hu (j / 3) (j % 3) (by omega) (by omega) hm
  omega)
 rw [rows6_at Ls hk,hl,idx_split hn] at this
 exact this
theorem where6No (hb:∀ x k,x < c.nc -> k < 3 -> H ∉ Ls x k):Calls Tryz.prog 77 #[.pointer (some ⟨R.b,0,none⟩),.int .u64 (H:Int)] w fun e w' => e = .returned (.tuple #[.int .i64 (-1),.int .i64 (-1)]) /\ w = w' :=
 whereNo w R mb _ laid _ h (by omega) (fun i hi => hll _ _ (by omega) (by omega)) H fun j hj => hb _ _ (by omega) (by omega)
theorem next6No (hb:∀ x k,x < c.nc -> k < 3 -> H ∉ Ls x k) (b:Int):Calls Tryz.prog 123 #[.pointer (some ⟨R.b,0,none⟩),.int .u64 (H:Int),.int .i64 b] w fun e w' => e = .returned (.tuple #[.int .u64 0,.bool false]) /\ w = w':=by
 have WC:=where6No w R mb c laid Ls h hnc hll H hb
 replace WC:=Lib.hid WC
 clear h hll hb
 go_enter Tryz.func123,Tryz.ntmps123
 go_wp2_with fail
 refine WC.out.mono ?_
 rintro e w' ⟨rfl,rfl⟩
 go_wp2
 go_ret2
 exact ⟨rfl,rfl⟩
theorem next6 {X k:Nat} {l1 l2:List Nat} (ha:At6 c Ls H X k l1 l2) :
  (Calls Tryz.prog 123 #[.pointer (some ⟨R.b,0,none⟩),.int .u64 (H:Int),.int .i64 (-1)] w fun e w' => e = .returned (.tuple #[.int .u64 (l1.getLast?.getD 0:Int),.bool (decide (0 < l1.length))]) /\ w = w') /\
  (Calls Tryz.prog 123 #[.pointer (some ⟨R.b,0,none⟩),.int .u64 (H:Int),.int .i64 1] w fun e w' => e = .returned (.tuple #[.int .u64 (l2.head?.getD 0:Int),.bool (decide (0 < l2.length))]) /\ w = w'):=by
 have WC:=where6 w R mb c laid Ls h hnc hll H ha
 obtain ⟨hX,hk,hl,hn,hu⟩:=ha
 have hj : 3 * X + k < 3 * c.nc:=by omega
 obtain ⟨A,cp, -,cl,own⟩:=h.cell hj
 rw [rows6_at Ls hk] at cl own
 have hlb:=hll X k hX hk
 have c2:=h.c2
 generalize 3 * X + k = j at *
 generalize hn3 : 3 * c.nc = n at *
 obtain ⟨K,hK⟩:∃ K,K = (Ls X k).length:=⟨_,rfl⟩
 have hKl:K = l1.length + 1 + l2.length:=by rw [hK,hl,List.length_append,List.length_cons]; omega
 rw [<- hK] at cl own hlb
 have at_:∀ (i z:Nat),(l1 ++ H :: l2)[i]? = some z -> ∃ g,A = some ⟨g,0,none⟩ /\ w.cell? ⟨g,i,none⟩ = some (.int .u64 (z:Int)):=by
  intro i z hz
  rw [hl] at own
  obtain ⟨g,c',hv,u⟩:=own_uv own hz
  injection hv with hv1 hv2 hv3
  exact ⟨g,hv1,u⟩
 obtain ⟨m,hm⟩:∃ m,m = l1.length:=⟨_,rfl⟩
 have hm1:m <= 1073741824:=by omega
 rw [<- hm] at WC
 have j0:(0:Int) <= (j:Int):=by omega
 have j1:(j:Int) < (n:Int):=by omega
 have dj:decide ((j:Int) < 0) = false:=decide_eq_false (by omega)
 replace WC:=Lib.hid WC
 replace at_:=Lib.hid at_
 replace hK:=Lib.hid hK
 clear h hll hX hk hn hu own
 constructor
 ·cases hl1:l1 with
  | nil =>
   have m0:m = 0:=by rw [hm,hl1]; rfl
   subst m0
   have e1:(([]:List Nat).getLast?.getD 0) = 0:=rfl
   have e2:decide (0 < ([]:List Nat).length) = false:=rfl
   rw [e1,e2]
   clear hl1 hm hKl hl
   have q0:IntKind.i64.wrap (((0:Nat):Int) + -1) = -1:=by decide
   go_enter Tryz.func123,Tryz.ntmps123
   go_wp2_with fail
   refine WC.out.mono ?_
   rintro e w' ⟨rfl,rfl⟩
   go_wp2
   go_ret2
   exact ⟨rfl,rfl⟩
  | cons a t =>
   obtain ⟨z,hz⟩:∃ z,(a :: t).getLast? = some z:=⟨(a :: t).getLast (by simp),List.getLast?_eq_some_getLast (by simp)⟩
   have hzi:(l1 ++ H :: l2)[m - 1]? = some z:=by
    rw [List.getElem?_append_left (by rw [<- hm]; rw [hm,hl1]; simp),hm, <- List.getLast?_eq_getElem?,hl1]
    exact hz
   rw [hz,Option.getD_some,decide_eq_true (show 0 < (a :: t).length by simp)]
   obtain ⟨p,hp⟩:∃ p,m = p + 1:=⟨t.length,by rw [hm,hl1]; rfl⟩
   rw [hp,Nat.add_sub_cancel] at hzi
   obtain ⟨g,rfl,u⟩:=at_.out p z hzi
   have q0:IntKind.i64.wrap ((m:Int) + -1) = (p:Int):=by rw [IntWalk.i64_in _ (by omega)]; omega
   have p0:(0:Int) <= (p:Int):=by omega
   have p1:(p:Int) < (K:Int):=by omega
   replace hp:=Lib.hid hp
   have dp:decide ((p:Int) < 0) = false:=decide_eq_false (by omega)
   have dq:decide ((K:Int) <= (p:Int)) = false:=decide_eq_false (by omega)
   clear hl1 hm hKl hl hz hzi
   go_enter Tryz.func123,Tryz.ntmps123
   go_wp2_with fail
   refine WC.out.mono ?_
   rintro e w' ⟨rfl,rfl⟩
   go_wp2
   go_ret2
   exact ⟨rfl,rfl⟩
 ·have q0:IntKind.i64.wrap ((m:Int) + 1) = (m:Int) + 1:=IntWalk.i64_in _ (by omega)
  have dp:decide ((m:Int) + 1 < 0) = false:=decide_eq_false (by omega)
  cases hl2:l2 with
  | nil =>
   have e1:(([]:List Nat).head?.getD 0) = 0:=rfl
   have e2:decide (0 < ([]:List Nat).length) = false:=rfl
   rw [e1,e2]
   have dq:decide ((K:Int) <= (m:Int) + 1) = true:=decide_eq_true (by rw [hl2] at hKl; simp at hKl; omega)
   clear hl2 hm hKl hl e1 e2
   go_enter Tryz.func123,Tryz.ntmps123
   go_wp2_with fail
   refine WC.out.mono ?_
   rintro e w' ⟨rfl,rfl⟩
   go_wp2
   go_ret2
   exact ⟨rfl,rfl⟩
  | cons a t =>
   have hzi:(l1 ++ H :: l2)[m + 1]? = some a:=by
    rw [hl2,List.getElem?_append_right (by omega),hm,show l1.length + 1 - l1.length = 1 by omega]
    rfl
   have e1:((a :: t).head?.getD 0) = a:=rfl
   rw [e1,decide_eq_true (show 0 < (a :: t).length by simp)]
   obtain ⟨g,rfl,u⟩:=at_.out (m + 1) a hzi
   have hk2:m + 1 < K:=by rw [hl2] at hKl; simp at hKl; omega
   have p0:(0:Int) <= (m:Int) + 1:=by omega
   have p1:(m:Int) + 1 < (K:Int):=by omega
   have p2:((m:Int) + 1).toNat = m + 1:=by omega
   have dq:decide ((K:Int) <= (m:Int) + 1) = false:=decide_eq_false (by omega)
   clear hl2 hm hKl hl hzi e1
   go_enter Tryz.func123,Tryz.ntmps123
   go_wp2_with fail
   refine WC.out.mono ?_
   rintro e w' ⟨rfl,rfl⟩
   go_wp2
   go_ret2
   exact ⟨rfl,rfl⟩
end
theorem rows6_upd (Ls:Nat -> Nat -> List Nat) (X k:Nat) (hk:k < 3) (l:List Nat):upd (rows6 Ls) (3 * X + k) l = rows6 (updL Ls X k l):=by
  funext i
  unfold upd
  show (if i = 3 * X + k then l else Ls (i / 3) (i % 3)) = updL Ls X k l (i / 3) (i % 3)
  unfold updL
  by_cases h:i = 3 * X + k
  · rw [if_pos h,if_pos (by omega)]
  · rw [if_neg h,if_neg (by omega)]
theorem own_more0 {w:World} {B n:Nat} {e:TypeId} {v:Value} {xs:List Value} (h:w.ownsRow B e 1 v n xs):w.ownsRow 0 e 1 v n xs :=
  ⟨h.1,h.2.imp id fun ⟨g,cap,cur,e1,hB,hh⟩ => ⟨g,cap,cur,e1,Nat.zero_le _,hh⟩⟩
theorem R6At.setRow {w w6:World} {R:R6} {mb n:Nat} {laid:List Nat} {lists:Nat -> List Nat} (h:R6At w R mb n laid lists) {j:Nat} (hj:j < n) {V:Value} {l:List Nat} (b:Below w.heap.size w w6)
    (own:w6.ownsRow w.heap.size 26 1 V l.length (l.map uv)):R6At (w6.setCell ⟨R.gL,j,none⟩ V) { R with F:=upd R.F j V } mb n laid (upd lists j l) /\ Went6 w (w6.setCell ⟨R.gL,j,none⟩ V) R { R with F:=upd R.F j V } n:=by
  have gl:R.gL < w.heap.size:=h.grid.lt
  have far:∀ d,d < w6.heap.size -> d ≠ R.gL -> (w6.setCell ⟨R.gL,j,none⟩ V).heap[d]? = w6.heap[d]?:=fun d hd hne => (only_cell1 (S:=(· = R.gL)) w6 R.gL j V rfl).block d hd hne
  have kp:∀ p d,p ≠ .grid -> R.blk n p = some d -> (w6.setCell ⟨R.gL,j,none⟩ V).heap[d]? = w.heap[d]?:=fun p d hp hd => by
    have hl:=h.lt ⟨p,hd⟩
    exact (far d (Nat.lt_of_lt_of_le hl b.size) (fun e => hp (h.inj p .grid d hd (by rw [e]; rfl)))).trans (b.block d hl)
  have hbl:∀ p,p ≠ .row j -> R6.blk { R with F:=upd R.F j V } n p = R.blk n p:=fun p hp => by
    cases p with
    | row k =>
      have hk:k ≠ j:=fun e => hp (by rw [e])
      show (if k < n then (upd R.F j V k).ownBlock else none) = if k < n then (R.F k).ownBlock else none
      rw [upd_ne _ _ hk]
    | _ => rfl
  have hbj:R6.blk { R with F:=upd R.F j V } n (.row j) = V.ownBlock:=by
    show (if j < n then (upd R.F j V j).ownBlock else none) = _
    rw [if_pos hj,upd_at]
  have new:∀ d,V.ownBlock = some d -> w.heap.size <= d:=fun d e => own_base own e
  refine ⟨⟨fun p => ?_,fun p q d hp hq => ?_⟩,?_,fun d ⟨p,hp⟩ => ?_,rfl⟩
  · cases p with
    | head => exact (kp .head _ (by simp) rfl).trans h.head
    | laid => exact own_keptN h.laidR fun d e => kp .laid d (by simp) e
    | grid =>
      have g6:Grid w6 R.gL 45 n 1 (fun k _ => R.F k):=h.grid.kept (b.block _ gl)
      have:=(g6.set j 0 hj (by decide) V).congr (f':=fun k _ => upd R.F j V k) fun a c ha hc => by
        have hc0:c = 0:=by omega
        subst hc0
        show (if a = j /\ 0 = 0 then V else R.F a) = if a = j then V else R.F a
        by_cases e:a = j <;> simp [e]
      rw [Nat.mul_one,Nat.add_zero] at this
      exact this
    | row k =>
      intro hk
      show World.ownsRow _ 0 _ 1 (upd R.F j V k) (upd lists j l k).length ((upd lists j l k).map uv)
      by_cases e:k = j
      · subst e
        rw [upd_at,upd_at]
        exact own_keptN (own_more0 own) fun d hd => far d (own_blockN own hd) (fun e => by have:=new d hd; omega)
      · rw [upd_ne _ _ e,upd_ne _ _ e]
        exact own_keptN (h.row hk) fun d hd => kp (.row k) d (by simp) (by rw [R6.blk,if_pos hk]; exact hd)
  · by_cases ep:p = .row j
    · subst ep
      by_cases eq:q = .row j
      · exact eq.symm
      · rw [hbl q eq] at hq
        rw [hbj] at hp
        have:=new d hp
        have:=h.lt ⟨q,hq⟩
        omega
    · rw [hbl p ep] at hp
      by_cases eq:q = .row j
      · subst eq
        rw [hbj] at hq
        have:=new d hq
        have:=h.lt ⟨p,hp⟩
        omega
      · rw [hbl q eq] at hq
        exact h.inj p q d hp hq
  · exact (Only.of_below b (Nat.le_refl _) (F6 R n)).trans (only_cell1 (S:=F6 R n) w6 R.gL j V ⟨.grid,rfl⟩) fun _ _ h => h
  · by_cases ep:p = .row j
    · subst ep
      rw [hbj] at hp
      exact .inr (new d hp)
    · rw [hbl p ep] at hp
      exact .inl ⟨p,hp⟩
theorem wo_step (l:List Nat) (i k:Nat) {x:Nat} (hx:l[k]? = some x):(l.take (k + 1)).eraseIdx i = if k = i then (l.take k).eraseIdx i else (l.take k).eraseIdx i ++ [x]:=by
  have hk:k < l.length:=(List.getElem?_eq_some_iff.1 hx).1
  have hl:(l.take k).length = k:=by rw [List.length_take]; omega
  have e:l.take (k + 1) = l.take k ++ [x]:=by rw [List.take_add_one,hx]; rfl
  rw [e]
  rcases Nat.lt_trichotomy k i with h | h | h
  · rw [if_neg (by omega),List.eraseIdx_of_length_le (by rw [List.length_append,hl]; simp; omega),List.eraseIdx_of_length_le (by omega)]
  · subst h
    have h1:(l.take k ++ [x]).eraseIdx k = l.take k:=by
      rw [List.eraseIdx_append_of_length_le (by omega),hl,Nat.sub_self]
      simp
    have h2:(l.take k).eraseIdx k = l.take k:=List.eraseIdx_of_length_le (by omega)
    rw [if_pos rfl,h1,h2]
  · rw [if_neg (by omega),List.eraseIdx_append_of_lt_length (by omega)]
set_option maxHeartbeats 1000000 in
theorem withoutC (w:World) (N cp:Nat) (A:Option Addr) (l:List Nat) (own:w.ownsRow N 26 1 (.slice A l.length cp) l.length (l.map uv)) (hlen:l.length <= 1073741824) (i:Nat) :
    Calls Tryz.prog 79 #[.slice A l.length cp,.int .i64 (i:Int)] w fun e w' => ∃ A' cp',e = .returned (.slice A' (l.eraseIdx i).length cp') /\ Below w.heap.size w w' /\ w'.ownsRow w.heap.size 26 1 (.slice A' (l.eraseIdx i).length cp') (l.eraseIdx i).length ((l.eraseIdx i).map uv):=by
  obtain ⟨n,hn⟩:∃ n,n = l.length:=⟨_,rfl⟩
  rw [<- hn] at own ⊢
  have hn1:n <= 1073741824:=by omega
  replace hn:=Lib.hid hn
  have at_:∀ (k x:Nat),l[k]? = some x -> ∃ g,A = some ⟨g,0,none⟩ /\ g < w.heap.size /\ w.cell? ⟨g,k,none⟩ = some (.int .u64 (x:Int)):=by
    intro k x hx
    obtain ⟨g,c',hv,u⟩:=own_uv own hx
    injection hv with hv1 hv2 hv3
    exact ⟨g,hv1,own_blockN own (by rw [hv1]; rfl),u⟩
  replace at_:=Lib.hid at_
  clear own hlen
  go_enter Tryz.func79,Tryz.ntmps79
  go_wp2
  go_loopw [5,6] (fun vo vi wr => ∃ (k m cp':Nat) (A':Option Addr),vi = .int .i64 (k:Int) /\ vo = .slice A' m cp' /\ k <= n /\ Hid (m = ((l.take k).eraseIdx i).length) /\ Hid (Below w.heap.size w wr) /\ Hid (wr.ownsRow w.heap.size 26 1 (.slice A' m cp') m (((l.take k).eraseIdx i).map uv))) (fun _ vi _ => n - (intOf vi).toNat)
  case atStart => exact ⟨0,0,0,none,rfl,rfl,Nat.zero_le _,Lib.hid (by simp),Lib.hid (Below.refl _ _),Lib.hid (by simp; exact own_nil _ _ _)⟩
  case round =>
    obtain ⟨k,m,cp',A',rfl,rfl,hk,hm,hb,ho⟩:=hrel
    by_cases hkn:k < n
    · obtain ⟨x,hx⟩:∃ x,l[k]? = some x:=⟨l[k]'(by rw [<- hn.out]; exact hkn),List.getElem?_eq_getElem _⟩
      obtain ⟨g,rfl,hg,cl⟩:=at_.out k x hx
      have st:=wo_step l i k hx
      have clr:=(hb.out.cell (p:=⟨g,k,none⟩) hg).trans cl
      have k0:(0:Int) <= (k:Int):=by omega
      have k1:(k:Int) < (n:Int):=by omega
      have d1:decide ((k:Int) < (n:Int)) = true:=decide_eq_true k1
      have q1:IntKind.i64.wrap ((k:Int) + 1) = (k:Int) + 1:=IntWalk.i64_in _ (by omega)
      replace hx:=Lib.hid hx
      by_cases hki:k = i
      · have d2:((k:Int) == (i:Int)) = true:=by rw [beq_iff_eq]; omega
        have d3:((k:Int) != (i:Int)) = false:=by rw [bne_eq_false_iff_eq]; omega
        have d4:decide ((k:Int) = (i:Int)) = true:=decide_eq_true (by omega)
        rw [if_pos hki] at st
        rw [<- st] at hm ho
        replace st:=Lib.hid st
        replace hki:=Lib.hid hki
        go_wp2
        go_roundw
        case rel => exact ⟨k + 1,m,cp',A',by simp,rfl,by omega,hm,hb,ho⟩
        case measure => simp [intOf] <;> omega
      · have d2:((k:Int) == (i:Int)) = false:=by rw [beq_eq_false_iff_ne]; omega
        have d3:((k:Int) != (i:Int)) = true:=by rw [bne_iff_ne]; omega
        have d4:decide ((k:Int) = (i:Int)) = false:=decide_eq_false (by omega)
        rw [if_neg hki] at st
        have hml:m <= 1073741824:=by
          rw [hm.out]
          have:=List.length_eraseIdx_le (l:=l.take k) (i:=i)
          rw [List.length_take] at this
          omega
        have sz:=hb.out.size
        replace st:=Lib.hid st
        replace hki:=Lib.hid hki
        go_wp2_with (at_builtin; refine wpList_app rfl _ _ _ rfl eiL w.heap.size _ _ _ rfl (ho.out.alloc _) (wr.heap.size + 1) (some ⟨wr.heap.size,0,none⟩) 1 1 [.int .u64 (x:Int)] rfl ?c1 ?c2 ?c3 ?c4 ?c5 ?_)
        case c1 => exact reads_v wr _ _
        case c2 => intro u hu; rw [List.mem_singleton] at hu; subst hu; rfl
        case c3 => unfold maxLen; omega
        case c4 => omega
        case c5 => rw [World.size_alloc]; omega
        intro VV w6 own6 hg6 hat6
        obtain ⟨A6,cp6,rfl⟩:=own_is own6
        have b6:Below w.heap.size w w6:=(hb.out.alloc sz _).grown hg6 (by rw [World.size_alloc]; omega) (fun j e => own_base ho.out e)
        have om:((l.take (k + 1)).eraseIdx i).length = m + 1:=by rw [st.out,List.length_append,List.length_singleton, <- hm.out]
        have o6:w6.ownsRow w.heap.size 26 1 (.slice A6 (m + 1) cp6) (m + 1) (((l.take (k + 1)).eraseIdx i).map uv):=by rw [st.out,List.map_append]; exact own6
        replace om:=Lib.hid om
        replace o6:=Lib.hid o6
        replace b6:=Lib.hid b6
        clear own6 hg6 hat6 ho hb
        go_wp2
        go_roundw
        case rel => exact ⟨k + 1,m + 1,cp6,A6,by simp,rfl,by omega,Lib.hid om.out.symm,b6,o6⟩
        case measure => simp [intOf] <;> omega
    · obtain rfl:k = n:=by omega
      have d1:decide ((k:Int) < (k:Int)) = false:=by simp
      have et:l.take k = l:=List.take_of_length_le (by rw [<- hn.out]; exact Nat.le_refl _)
      rw [et] at hm ho
      replace et:=Lib.hid et
      go_wp2
      go_ret
      exact ⟨A',cp',by rw [<- hm.out]; rfl,hb.out,by rw [<- hm.out]; exact ho.out⟩
end Go.Proofs.YtfjiphibalhcgaaGreat.Que
/-
  The walks of the document's At, Of and gen.
-/
namespace Go.Proofs.YtfjiphibalhcgaaGreat.Cls
open Go.RowKit Base
theorem rfind_at {l:List RC} {H j:Nat} (h:rfind l H = some j):∃ x,l[j]? = some x /\ x.tk = true /\ x.name = H:=by
 unfold rfind at h
 rw [List.findIdx?_eq_some_iff_getElem] at h
 obtain ⟨hl,h1, -⟩:=h
 simp only [Bool.and_eq_true,beq_iff_eq] at h1
 exact ⟨_,List.getElem?_eq_getElem hl,h1.1,h1.2⟩
def ratV (l:List RC):Option Nat -> Value
 | some j => match l[j]? with
  | some x => .tuple #[.int .i64 (x.place:Int),.int .i64 (x.cls:Int),.int .i64 0]
  | none => .tuple #[.int .i64 0,.int .i64 0,.int .i64 20]
 | none => .tuple #[.int .i64 0,.int .i64 0,.int .i64 20]
theorem ratC (w:World) (M:RL) (c:Conf) (r:RS) (h:RSetAt w M c r) (fi:RFine r) (hlen:r.ch.length <= 1073741824) (H:Nat):Calls Tryz.prog 59 #[.pointer (some ⟨M.b,0,none⟩),.int .u64 (H:Int)] w fun e w' => e = .returned (ratV r.ch (rfind r.ch H)) /\ ∃ m,w.drewN m = w':=by
 have FC:=rfindC w M c r h fi hlen H
 cases hf:rfind r.ch H with
 | none =>
  rw [hf] at FC
  unfold findIV at FC
  unfold ratV
  simp only at FC ⊢
  replace FC:=Lib.hid FC
  clear h hf
  go_enter Tryz.func59,Tryz.ntmps59
  go_wp2_with fail
  refine FC.out.mono ?_
  rintro e w2 ⟨rfl,m,hm⟩
  replace hm:=Lib.hid hm
  clear FC
  go_wp2
  go_ret3
  exact ⟨rfl,m,hm.out⟩
 | some j =>
  obtain ⟨x,hx, -, -⟩:=rfind_at hf
  rw [hf] at FC
  unfold findIV at FC
  simp only [ratV,hx]
  simp only at FC
  replace FC:=Lib.hid FC
  replace h:=Lib.hid h
  replace hx:=Lib.hid hx
  clear hf
  go_enter Tryz.func59,Tryz.ntmps59
  go_wp2_with fail
  refine FC.out.mono ?_
  rintro e w2 ⟨rfl,m,hm⟩
  have h2:RSetAt w2 M c r:=by rw [<- hm]; exact h.out.drewN m
  have c8:=h2.cCh
  obtain ⟨g,cp,hv,y0,y1, -, -, -, -,hjl⟩:=h2.chAt hx.out
  rw [hv] at c8
  have k0:(0:Int) <= (j:Int):=by omega
  have k1:(j:Int) < (r.ch.length:Int):=by omega
  have d1:decide ((j:Int) < 0) = false:=decide_eq_false (by omega)
  replace hm:=Lib.hid hm
  replace hv:=Lib.hid hv
  clear FC h2
  go_wp2_with fail
  go_quiet (fail)
  rename Nat => nq
  go_wp2
  go_ret3
  exact ⟨rfl,m + nq,by rw [<- hm.out]; simp [World.drewN,Nat.add_assoc]⟩
set_option maxHeartbeats 1600000 in
theorem rgenC (w:World) (M:RL) (c:Conf) (r:RS) (h:RSetAt w M c r) (hlen:r.ch.length <= 1073741824) (p:Nat):Calls Tryz.prog 130 #[.pointer (some ⟨M.b,0,none⟩),.int .i64 (p:Int)] w fun e w' => e = .returned (.int .u64 (rgen r.ch p:Int)) /\ w = w':=by
 have c8:=h.cCh
 obtain ⟨A,cp,hv, -⟩:=h.chs
 rw [hv] at c8
 have q0:IntKind.i64.wrap ((r.ch.length:Int) - 1) = (r.ch.length:Int) - 1:=IntWalk.i64_in _ (by omega)
 replace hv:=Lib.hid hv
 replace h:=Lib.hid h
 go_enter Tryz.func130,Tryz.ntmps130
 go_wp2
 clear c8
 go_loopw [5] (fun v wr => ∃ k:Nat,v = .int .i64 ((k:Int) - 1) /\ k <= r.ch.length /\ w = wr /\ Hid (∀ j,k <= j -> ∀ y:RC,r.ch[j]? = some y -> y.place ≠ p)) (fun v _ => (intOf v + 1).toNat)
 case atStart => exact ⟨r.ch.length,rfl,Nat.le_refl _,rfl,Lib.hid (fun j hj y hy => by have:=(List.getElem?_eq_some_iff.1 hy).1; omega)⟩
 case round =>
  obtain ⟨k,rfl,hk,rfl,hno⟩:=hrel
  cases k with
  | zero =>
   have d1:decide ((0:Int) <= ((0:Nat):Int) - 1) = false:=by decide
   have hf:=Lib.hid (rgen_none (l:=r.ch) (p:=p) fun x hx => by
    obtain ⟨j,hj,rfl⟩:=List.getElem_of_mem hx
    exact hno.out j (Nat.zero_le _) _ (List.getElem?_eq_getElem hj))
   go_wp2
   go_ret
   exact ⟨by rw [hf.out]; rfl,rfl⟩
  | succ k =>
   have e1:((k + 1:Nat):Int) - 1 = (k:Int):=by omega
   rw [e1]
   have hx:r.ch[k]? = some r.ch[k]:=List.getElem?_eq_getElem (by omega)
   generalize r.ch[k] = x at *
   have c8:=h.out.cCh
   obtain ⟨g,cp2,hv2,y0, -,y2, -, -, -, -⟩:=h.out.chAt hx
   rw [hv2] at c8
   have k0:(0:Int) <= (k:Int):=by omega
   have k1:(k:Int) < (r.ch.length:Int):=by omega
   have d1:decide ((0:Int) <= (k:Int)) = true:=decide_eq_true (by omega)
   have qi:IntKind.i64.wrap ((k:Int) - 1) = (k:Int) - 1:=IntWalk.i64_in _ (by omega)
   replace hv2:=Lib.hid hv2
   by_cases hp:x.place = p
   ·have hf:=Lib.hid (show rgen r.ch p = x.gen by rw [<- hp]; exact rgen_last hx fun j hj y hy => by rw [hp]; exact hno.out j (by omega) y hy)
    have d2:((x.place:Int) == (p:Int)) = true:=by rw [beq_iff_eq]; omega
    have d3:decide ((x.place:Int) = (p:Int)) = true:=decide_eq_true (by omega)
    generalize (x.place:Int) = pp at *
    replace hx:=Lib.hid hx
    replace hp:=Lib.hid hp
    go_wp2
    go_ret
    exact ⟨by rw [hf.out]; rfl,rfl⟩
   ·have hno':=Lib.hid (show ∀ j,k <= j -> ∀ y:RC,r.ch[j]? = some y -> y.place ≠ p from fun j hj y hy => by
     rcases Nat.lt_or_ge k j with h1 | h1
     ·exact hno.out j (by omega) y hy
     ·obtain rfl:j = k:=by omega
      rw [hx] at hy
      injection hy with hy
      subst hy
      exact hp)
    have d2:((x.place:Int) == (p:Int)) = false:=by rw [beq_eq_false_iff_ne]; omega
    have d3:decide ((x.place:Int) = (p:Int)) = false:=decide_eq_false (by omega)
    generalize (x.place:Int) = pp at *
    replace hx:=Lib.hid hx
    clear hno hp
    go_wp2
    go_roundw
    case rel => exact ⟨k,rfl,by omega,trivial,hno'⟩
    case measure => simp [intOf] <;> omega
end Go.Proofs.YtfjiphibalhcgaaGreat.Cls
/-
  The document's queue: put.
-/
namespace Go.Proofs.YtfjiphibalhcgaaGreat.Que
open Go.RowKit Base Arena Cls Itm
theorem step_ap {P:Program} {w:World} {ops:Array Oper} {o:Oper} {a:Act} {K:Act -> World -> Prop} {Q:Exit -> Act -> World -> Prop} {X:Prop} (hgd:o.guard = none) (s x:Operand) (t:TypeId)
  (ho:o.op = .call { callee:=.builtin .append,args:=#[s,x],argTypes:=#[t,t] })
  {e:TypeId} {z:Value} {size bytes:Nat} (E:EI P t e z size bytes)
  (base:Nat) (v:Value) (n:Nat) (xs:List Value) (hs:a.eval s = v) (hown:w.ownsRow base e size v n xs)
  (B:Nat) (A:Option Addr) (m c:Nat) (news:List Value) (hx:a.eval x = .slice A m c) (hr:Reads w B size A m news) (h1:∀ u ∈ news,u.oneCell' = true)
  (h63:n + m <= maxLen) (hbytes:(n + m) * bytes <= 140737488355328) (hbase:base <= w.heap.size)
  (h:∀ v' w',w'.ownsRow base e size v' (n + m) (xs ++ news) -> w.grownBy w' v.ownBlock -> (v'.ownBlock = v.ownBlock \/ v'.ownBlock = some w.heap.size) -> K (a.put o.dst v') w'):if Region.wanted o (yielded ops a.tmps) = true then Oper.wp P o a w K Q else X:=by
 obtain ⟨i,hi,hz,hsi,hby⟩:=E.info
 exact step_append_any w hgd s x t ho base e i z size bytes E.ht hi hz hsi hby E.zs E.pos v n xs hs hown B A m c news hx hr h1 h63 hbytes hbase h
theorem ne_own {w:World} {N n:Nat} {e:TypeId} {v:Value} {xs:List Value} (h:w.ownsRow N e 1 v n xs):∀ b,v.ownBlock = some b -> b ≠ w.heap.size:=fun b e => Nat.ne_of_lt (own_blockN h e)
structure Reg6 (w:World) (R:R6) (mb n:Nat) (laid:List Nat) (lists:Nat -> List Nat) (j K cp:Nat) (A:Option Addr):Prop where
 at_:R6At w R mb n laid lists
 hj:j < n
 len:(lists j).length = K
 cl:w.cell? ⟨R.gL,j,none⟩ = some (.slice A K cp)
 own:w.ownsRow 0 26 1 (.slice A K cp) K ((lists j).map uv)
theorem Reg6.facts {w:World} {R:R6} {mb n:Nat} {laid:List Nat} {lists:Nat -> List Nat} {j K cp:Nat} {A:Option Addr} (h:Reg6 w R mb n laid lists j K cp A) :
  w.cell? ⟨R.b,2,none⟩ = some (.slice (some ⟨R.gL,0,none⟩) n n) /\ R.b < w.heap.size /\ (∃ cs,Blk w R.gL 45 cs) /\ R.gL < w.heap.size /\ R.gL ≠ R.b /\ Reads w w.heap.size 1 A K ((lists j).map uv) :=
 ⟨h.at_.c2,h.at_.head.lt,h.at_.grid.blk,h.at_.grid.lt,(fun e => (by have:=h.at_.inj .grid .head R.gL rfl (by rw [e]; rfl); cases this)),Reads.of_own h.own⟩
theorem R6At.reg {w:World} {R:R6} {mb n:Nat} {laid:List Nat} {lists:Nat -> List Nat} (h:R6At w R mb n laid lists) {j:Nat} (hj:j < n):∃ K cp A,Reg6 w R mb n laid lists j K cp A:=by
 obtain ⟨A,cp, -,cl,own⟩:=h.cell hj
 exact ⟨_,cp,A,h,hj,rfl,cl,own⟩
theorem R6At.drew {w:World} {R:R6} {mb n:Nat} {laid:List Nat} {lists:Nat -> List Nat} (h:R6At w R mb n laid lists):R6At w.drew R mb n laid lists:=h.kept fun _ _ => rfl
section
variable (w:World) (R:R6) (M:RL) (c:Conf) (r:RS) (laid:List Nat) (Ls:Nat -> Nat -> List Nat) (h:R6At w R M.b (3 * c.nc) laid (rows6 Ls)) (hr:RSetAt w M c r) (fi:RFine r) (hlen:r.ch.length <= 1073741824) (hnc:c.nc <= 62) (hll:∀ x k,x < c.nc -> k < 3 -> (Ls x k).length <= 1073741823) (H i:Nat) (x:RC) (hf:rfind r.ch H = some i) (hx:r.ch[i]? = some x) (hxc:x.cls < c.nc) (k:Nat) (hk:k < 3)
include h hr fi hlen hnc hll hf hx hxc hk
set_option maxHeartbeats 1600000 in
theorem putHead:Calls Tryz.prog 78 #[.pointer (some ⟨R.b,0,none⟩),.int .u64 (H:Int),.int .i64 ((k:Int) + 1),.bool false] w fun e w' => e = .returned (.tuple #[]) /\ ∃ R',R'.b = R.b /\ Went6 w w' R R' (3 * c.nc) /\ R6At w' R' M.b (3 * c.nc) laid (rows6 (updL Ls x.cls k (H :: Ls x.cls k))):=by
 have AC:=ratC w M c r hr fi hlen H
 rw [hf] at AC
 unfold ratV at AC
 simp only [hx] at AC
 have c0:=h.c0
 have LCm:∀ m,Calls Tryz.prog 54 #[.pointer (some ⟨R.b,0,none⟩),.int .i64 (x.cls:Int),.int .i64 ((k:Int) + 1)] (w.drewN m) fun e w' => e = .returned (.int .i64 ((3 * x.cls + k:Nat):Int)) /\ w.drewN m = w':=by
  intro m
  have:=listC6 (w.drewN m) R M c r _ laid _ (h.kept fun _ _ => rfl) (hr.kept fun _ _ => rfl) (by omega) (x.cls:Int) ((k:Int) + 1)
  unfold lsI at this
  rw [if_pos (by omega),show 3 * (x.cls:Int) + ((k:Int) + 1) - 1 = ((3 * x.cls + k:Nat):Int) by omega] at this
  exact this
 have hj : 3 * x.cls + k < 3 * c.nc:=by omega
 have rg:∀ m,R6At (w.drewN m) R M.b (3 * c.nc) laid (rows6 Ls):=fun m => h.kept fun _ _ => rfl
 have eL:=rows6_at Ls (X:=x.cls) hk
 have hlb:=hll x.cls k hxc hk
 have eU:=rows6_upd Ls x.cls k hk (H :: Ls x.cls k)
 rw [<- eU]
 rw [<- eL] at hlb ⊢
 generalize rows6 Ls = lists at *
 generalize 3 * x.cls + k = j at *
 generalize hn : 3 * c.nc = n at *
 generalize x.cls = X at *
 replace AC:=Lib.hid AC
 replace LCm:=Lib.hid LCm
 replace rg:=Lib.hid rg
 clear h hr fi hlen hll hf hx eL eU hxc
 go_enter Tryz.func78,Tryz.ntmps78
 go_wp2_with fail
 refine AC.out.mono ?_
 rintro e w1 ⟨rfl,m1,hw1⟩
 have LC:=LCm.out m1
 have rg1:=rg.out m1
 rw [hw1] at LC rg1
 have c0':=rg1.c0
 replace LC:=Lib.hid LC
 replace hw1:=Lib.hid hw1
 replace rg1:=Lib.hid rg1
 clear AC LCm rg
 go_wp2_with fail
 refine LC.out.mono ?_
 rintro e w' ⟨rfl,rfl⟩
 clear LC
 go_upto_region 4 with fail
 obtain ⟨w5,hw5⟩:∃ w5,w5 = w1.drew:=⟨_,rfl⟩
 have h5:R6At w5 R M.b n laid lists:=by rw [hw5]; exact rg1.out.drew
 obtain ⟨K,cp,A,r5⟩:=h5.reg hj
 obtain ⟨c2,hRb,⟨cs,GB⟩,hGl,hne,rd⟩:=r5.facts
 have cl:=r5.cl
 have hK':K <= 1073741823:=by rw [<- r5.len]; exact hlb
 have bw5:=Below.refl w5.heap.size w5
 have j0:(0:Int) <= (j:Int):=by omega
 have j1:(j:Int) < (n:Int):=by omega
 have fin:∀ w6 V,Below w5.heap.size w5 w6 -> w6.ownsRow w5.heap.size 26 1 V (1 + K) ([uv H] ++ (lists j).map uv) -> ∃ R',R'.b = R.b /\ Went6 w (w6.setCell ⟨R.gL,j,none⟩ V) R R' n /\ R6At (w6.setCell ⟨R.gL,j,none⟩ V) R' M.b n laid (upd lists j (H :: lists j)):=by
  intro w6 V b6 o6
  obtain ⟨a1,a2⟩:=h5.setRow hj (l:=H :: lists j) b6 (by rw [List.length_cons,r5.len,Nat.add_comm K 1]; exact o6)
  have hs:w5.heap.size = w.heap.size:=by rw [hw5, <- hw1.out]; rfl
  refine ⟨{ R with F:=upd R.F j V },rfl,⟨⟨a2.only.os.trans (by rw [hw5, <- hw1.out]; rfl),a2.only.tape.trans (by rw [hw5, <- hw1.out]; rfl),a2.only.output.trans (by rw [hw5, <- hw1.out]; rfl),hs ▸ a2.only.size,fun d hd hn => (a2.only.block d (by omega) hn).trans (by rw [hw5, <- hw1.out]; rfl)⟩,fun d hd => (a2.foot d hd).imp id fun h => by omega,rfl⟩,a1⟩
 replace rd:=Lib.hid rd
 replace fin:=Lib.hid fin
 clear r5 h5 rg1 c0'
 refine wp_region_noPanic ?_
 refine wp_region_held_drew (S:=fun w' => w'.cell? ⟨R.b,2,none⟩ = some (.slice (some ⟨R.gL,0,none⟩) n n)) (by kernel_rfl) (by rw [<- hw5]; exact c2) (fun hHeld => ?_)
 rw [<- hw5] at hHeld ⊢
 clear hw5
 refine tkh (i:=0) (v:=?_) rfl ?_ ?_
 rotate_left
 ·try simp only [qA,qS,qZ]
  intro w hSw
  (try dsimp only at hSw)
  go_simp
  (try with_reducible rfl)
 try simp only [qA,qS,qZ,Act.put,qT,qO,qN]
 refine tkh (i:=1) (v:=?_) rfl ?_ ?_
 rotate_left
 ·try simp only [qA,qS,qZ]
  intro w hSw
  (try dsimp only at hSw)
  go_simp
  (try with_reducible rfl)
 try simp only [qA,qS,qZ,Act.put,qT,qO,qN]
 refine tkh (i:=2) (v:=?_) rfl ?_ ?_
 rotate_left
 ·try simp only [qA,qS,qZ]
  intro w hSw
  (try dsimp only at hSw)
  go_simp
  (try with_reducible rfl)
 try simp only [qA,qS,qZ,Act.put,qT,qO,qN]
 refine tkh (i:=3) (v:=?_) rfl ?_ ?_
 rotate_left
 ·try simp only [qA,qS,qZ]
  intro w hSw
  (try dsimp only at hSw)
  go_simp
  (try with_reducible rfl)
 try simp only [qA,qS,qZ,Act.put,qT,qO,qN]
 refine tkh (i:=4) (v:=?_) rfl ?_ ?_
 rotate_left
 ·try simp only [qA,qS,qZ]
  intro w hSw
  (try dsimp only at hSw)
  go_simp
  (try with_reducible rfl)
 try simp only [qA,qS,qZ,Act.put,qT,qO,qN]
 refine tkh (i:=5) (v:=?_) rfl ?_ ?_
 rotate_left
 ·try simp only [qA,qS,qZ]
  intro w hSw
  (try dsimp only at hSw)
  go_simp
  (try with_reducible rfl)
 try simp only [qA,qS,qZ,Act.put,qT,qO,qN]
 refine tkh (i:=7) (v:=?_) rfl ?_ ?_
 rotate_left
 ·try simp only [qA,qS,qZ]
  intro w hSw
  (try dsimp only at hSw)
  go_simp
  (try with_reducible rfl)
 try simp only [qA,qS,qZ,Act.put,qT,qO,qN]
 refine tkh (i:=8) (v:=?_) rfl ?_ ?_
 rotate_left
 ·try simp only [qA,qS,qZ]
  intro w hSw
  (try dsimp only at hSw)
  go_simp
  (try with_reducible rfl)
 try simp only [qA,qS,qZ,Act.put,qT,qO,qN]
 refine tkh (i:=9) (v:=?_) rfl ?_ ?_
 rotate_left
 ·try simp only [qA,qS,qZ]
  intro w hSw
  (try dsimp only at hSw)
  go_simp
  (try with_reducible rfl)
 try simp only [qA,qS,qZ,Act.put,qT,qO,qN]
 refine tkh (i:=10) (v:=?_) rfl ?_ ?_
 rotate_left
 ·try simp only [qA,qS,qZ]
  intro w hSw
  (try dsimp only at hSw)
  go_simp
  (try with_reducible rfl)
 try simp only [qA,qS,qZ,Act.put,qT,qO,qN]
 refine tkh (i:=11) (v:=?_) rfl ?_ ?_
 rotate_left
 ·try simp only [qA,qS,qZ]
  intro w hSw
  (try dsimp only at hSw)
  go_simp
  (try with_reducible rfl)
 try simp only [qA,qS,qZ,Act.put,qT,qO,qN]
 refine tkh (i:=12) (v:=?_) rfl ?_ ?_
 rotate_left
 ·try simp only [qA,qS,qZ]
  intro w hSw
  (try dsimp only at hSw)
  go_simp
  (try with_reducible rfl)
 try simp only [qA,qS,qZ,Act.put,qT,qO,qN]
 refine wpAnyH_ready (rs:=[6,13]) (by kernel_rfl) (by simp) ?_
 refine AllReadyH.cons (o:=_) rfl (fun K hK => ?_) ?_
 ·try simp only [qA,qS,qZ,Act.put,qT,qO,qN]
  go_simp
  obtain ⟨v6,hv6⟩:∃ x,x = World.alloc w5 (.cells #[.int .u64 (H:Int)] 26):=⟨_,rfl⟩
  have bv6:Below w5.heap.size w5 v6:=by rw [hv6]; exact bw5.alloc bw5.size _
  have sv6:=Lib.hid (show v6.heap.size = w5.heap.size + 1 by rw [hv6]; exact World.size_alloc _ _)
  have oAv6:=own_one w5 w5.heap.size H bw5.size
  rw [<- hv6] at oAv6
  rw [<- hv6]
  clear hv6
  refine hK.out _ _ ((bv6.cell (p:=⟨R.b,2,none⟩) hRb).trans c2) (fun hHeld => ?_)
  clear hK K
  try simp only [qA,qS,qZ,Act.put,qT,qO,qN]
  refine wpAnyH_ready (rs:=[13]) (by kernel_rfl) (by simp) ?_
  refine AllReadyH.cons (o:=_) rfl (fun K hK => ?_) ?_
  ·try simp only [qA,qS,qZ,Act.put,qT,qO,qN]
   have clv7:=(bv6.cell (p:=⟨R.gL,j,none⟩) hGl).trans cl
   go_simp
   refine hK.out _ _ ((bv6.cell (p:=⟨R.b,2,none⟩) hRb).trans c2) (fun hHeld => ?_)
   clear hK K
   try simp only [qA,qS,qZ,Act.put,qT,qO,qN]
   clear clv7
   refine wpAnyH_ready (rs:=[14]) (by kernel_rfl) (by simp) ?_
   refine AllReadyH.cons (o:=_) rfl (fun K hK => ?_) ?_
   ·try simp only [qA,qS,qZ,Act.put,qT,qO,qN]
    refine step_ap (a:=⟨_,_⟩) (by rfl) (.tmp 51) (.tmp 58) 45 (by rfl) eiL w5.heap.size _ _ _ (by rfl) oAv6 _ _ _ _ _ (by rfl) (rd.out.below bv6) ?ga1 ?gb1 ?gc1 bv6.size ?_
    case ga1 => first | exact uvs_cells _ | (intro u hu; rw [List.mem_singleton] at hu; subst hu; rfl)
    case gb1 => unfold maxLen; omega
    case gc1 => omega
    intro V v8 oAv8 hgv8 hatv8
    (try rw [Nat.zero_add] at oAv8)
    obtain ⟨Av8,cv8,rfl⟩:=own_is oAv8
    have bv8:Below w5.heap.size w5 v8:=bv6.grown hgv8 bv6.size (fun k e => own_base oAv6 e)
    refine hK.out _ _ ((bv8.cell (p:=⟨R.b,2,none⟩) hRb).trans c2) (fun hHeld => ?_)
    clear hK K
    try simp only [qA,qS,qZ,Act.put,qT,qO,qN]
    refine tkh (i:=15) (v:=?_) rfl ?_ ?_
    rotate_left
    ·try simp only [qA,qS,qZ]
     intro w hSw
     (try dsimp only at hSw)
     go_simp
     (try with_reducible rfl)
    try simp only [qA,qS,qZ,Act.put,qT,qO,qN]
    refine wpAnyH_ready (rs:=[16]) (by kernel_rfl) (by simp) ?_
    refine AllReadyH.cons (o:=_) rfl (fun K hK => ?_) ?_
    ·try simp only [qA,qS,qZ,Act.put,qT,qO,qN]
     have clv9:=(bv8.cell (p:=⟨R.gL,j,none⟩) hGl).trans cl
     have zzv9:Blk v8 R.gL 45 _:=(bv8.block R.gL hGl).trans GB
     have zfv9:=zzv9.frozen j
     replace zzv9:=Lib.hid zzv9
     go_simp
     refine hK.out _ _ ((World.cell?_setCell_far _ _ _ _ hne).trans ((bv8.cell (p:=⟨R.b,2,none⟩) hRb).trans c2)) (fun hHeld => ?_)
     clear hK K
     try simp only [qA,qS,qZ,Act.put,qT,qO,qN]
     clear clv9 zfv9 zzv9
     refine wpAnyH_done (by kernel_rfl) ?_ _
     refine NoPanic.normal ?_
     have T:=Lib.hid (fin.out v8 _ bv8 oAv8)
     go_wp2
     go_end0
     exact ⟨rfl,T.out⟩
    exact AllReadyH.nil
   exact AllReadyH.nil
  exact AllReadyH.nil
 refine AllReadyH.cons (o:=_) rfl (fun K hK => ?_) ?_
 ·try simp only [qA,qS,qZ,Act.put,qT,qO,qN]
  have clv6:=(bw5.cell (p:=⟨R.gL,j,none⟩) hGl).trans cl
  go_simp
  refine hK.out _ _ ((bw5.cell (p:=⟨R.b,2,none⟩) hRb).trans c2) (fun hHeld => ?_)
  clear hK K
  try simp only [qA,qS,qZ,Act.put,qT,qO,qN]
  clear clv6
  refine wpAnyH_ready (rs:=[6]) (by kernel_rfl) (by simp) ?_
  refine AllReadyH.cons (o:=_) rfl (fun K hK => ?_) ?_
  ·try simp only [qA,qS,qZ,Act.put,qT,qO,qN]
   go_simp
   obtain ⟨v7,hv7⟩:∃ x,x = World.alloc w5 (.cells #[.int .u64 (H:Int)] 26):=⟨_,rfl⟩
   have bv7:Below w5.heap.size w5 v7:=by rw [hv7]; exact bw5.alloc bw5.size _
   have sv7:=Lib.hid (show v7.heap.size = w5.heap.size + 1 by rw [hv7]; exact World.size_alloc _ _)
   have oAv7:=own_one w5 w5.heap.size H bw5.size
   rw [<- hv7] at oAv7
   rw [<- hv7]
   clear hv7
   refine hK.out _ _ ((bv7.cell (p:=⟨R.b,2,none⟩) hRb).trans c2) (fun hHeld => ?_)
   clear hK K
   try simp only [qA,qS,qZ,Act.put,qT,qO,qN]
   refine wpAnyH_ready (rs:=[14]) (by kernel_rfl) (by simp) ?_
   refine AllReadyH.cons (o:=_) rfl (fun K hK => ?_) ?_
   ·try simp only [qA,qS,qZ,Act.put,qT,qO,qN]
    refine step_ap (a:=⟨_,_⟩) (by rfl) (.tmp 51) (.tmp 58) 45 (by rfl) eiL w5.heap.size _ _ _ (by rfl) oAv7 _ _ _ _ _ (by rfl) (rd.out.below bv7) ?ga2 ?gb2 ?gc2 bv7.size ?_
    case ga2 => first | exact uvs_cells _ | (intro u hu; rw [List.mem_singleton] at hu; subst hu; rfl)
    case gb2 => unfold maxLen; omega
    case gc2 => omega
    intro V v8 oAv8 hgv8 hatv8
    (try rw [Nat.zero_add] at oAv8)
    obtain ⟨Av8,cv8,rfl⟩:=own_is oAv8
    have bv8:Below w5.heap.size w5 v8:=bv7.grown hgv8 bv7.size (fun k e => own_base oAv7 e)
    refine hK.out _ _ ((bv8.cell (p:=⟨R.b,2,none⟩) hRb).trans c2) (fun hHeld => ?_)
    clear hK K
    try simp only [qA,qS,qZ,Act.put,qT,qO,qN]
    refine tkh (i:=15) (v:=?_) rfl ?_ ?_
    rotate_left
    ·try simp only [qA,qS,qZ]
     intro w hSw
     (try dsimp only at hSw)
     go_simp
     (try with_reducible rfl)
    try simp only [qA,qS,qZ,Act.put,qT,qO,qN]
    refine wpAnyH_ready (rs:=[16]) (by kernel_rfl) (by simp) ?_
    refine AllReadyH.cons (o:=_) rfl (fun K hK => ?_) ?_
    ·try simp only [qA,qS,qZ,Act.put,qT,qO,qN]
     have clv9:=(bv8.cell (p:=⟨R.gL,j,none⟩) hGl).trans cl
     have zzv9:Blk v8 R.gL 45 _:=(bv8.block R.gL hGl).trans GB
     have zfv9:=zzv9.frozen j
     replace zzv9:=Lib.hid zzv9
     go_simp
     refine hK.out _ _ ((World.cell?_setCell_far _ _ _ _ hne).trans ((bv8.cell (p:=⟨R.b,2,none⟩) hRb).trans c2)) (fun hHeld => ?_)
     clear hK K
     try simp only [qA,qS,qZ,Act.put,qT,qO,qN]
     clear clv9 zfv9 zzv9
     refine wpAnyH_done (by kernel_rfl) ?_ _
     refine NoPanic.normal ?_
     have T:=Lib.hid (fin.out v8 _ bv8 oAv8)
     go_wp2
     go_end0
     exact ⟨rfl,T.out⟩
    exact AllReadyH.nil
   exact AllReadyH.nil
  exact AllReadyH.nil
 exact AllReadyH.nil
set_option maxHeartbeats 1600000 in
theorem putTail:Calls Tryz.prog 78 #[.pointer (some ⟨R.b,0,none⟩),.int .u64 (H:Int),.int .i64 ((k:Int) + 1),.bool true] w fun e w' => e = .returned (.tuple #[]) /\ ∃ R',R'.b = R.b /\ Went6 w w' R R' (3 * c.nc) /\ R6At w' R' M.b (3 * c.nc) laid (rows6 (updL Ls x.cls k (Ls x.cls k ++ [H]))):=by
 have AC:=ratC w M c r hr fi hlen H
 rw [hf] at AC
 unfold ratV at AC
 simp only [hx] at AC
 have c0:=h.c0
 have LCm:∀ m,Calls Tryz.prog 54 #[.pointer (some ⟨R.b,0,none⟩),.int .i64 (x.cls:Int),.int .i64 ((k:Int) + 1)] (w.drewN m) fun e w' => e = .returned (.int .i64 ((3 * x.cls + k:Nat):Int)) /\ w.drewN m = w':=by
  intro m
  have:=listC6 (w.drewN m) R M c r _ laid _ (h.kept fun _ _ => rfl) (hr.kept fun _ _ => rfl) (by omega) (x.cls:Int) ((k:Int) + 1)
  unfold lsI at this
  rw [if_pos (by omega),show 3 * (x.cls:Int) + ((k:Int) + 1) - 1 = ((3 * x.cls + k:Nat):Int) by omega] at this
  exact this
 have hj : 3 * x.cls + k < 3 * c.nc:=by omega
 have rg:∀ m,R6At (w.drewN m) R M.b (3 * c.nc) laid (rows6 Ls):=fun m => h.kept fun _ _ => rfl
 have eL:=rows6_at Ls (X:=x.cls) hk
 have hlb:=hll x.cls k hxc hk
 have eU:=rows6_upd Ls x.cls k hk (Ls x.cls k ++ [H])
 rw [<- eU]
 rw [<- eL] at hlb ⊢
 generalize rows6 Ls = lists at *
 generalize 3 * x.cls + k = j at *
 generalize hn : 3 * c.nc = n at *
 generalize x.cls = X at *
 replace AC:=Lib.hid AC
 replace LCm:=Lib.hid LCm
 replace rg:=Lib.hid rg
 clear h hr fi hlen hll hf hx eL eU hxc
 go_enter Tryz.func78,Tryz.ntmps78
 go_wp2_with fail
 refine AC.out.mono ?_
 rintro e w1 ⟨rfl,m1,hw1⟩
 have LC:=LCm.out m1
 have rg1:=rg.out m1
 rw [hw1] at LC rg1
 have c0':=rg1.c0
 replace LC:=Lib.hid LC
 replace hw1:=Lib.hid hw1
 replace rg1:=Lib.hid rg1
 clear AC LCm rg
 go_wp2_with fail
 refine LC.out.mono ?_
 rintro e w' ⟨rfl,rfl⟩
 clear LC
 go_upto_region 3 with fail
 obtain ⟨w5,hw5⟩:∃ w5,w5 = w1.drew:=⟨_,rfl⟩
 have h5:R6At w5 R M.b n laid lists:=by rw [hw5]; exact rg1.out.drew
 obtain ⟨K,cp,A,r5⟩:=h5.reg hj
 obtain ⟨c2,hRb,⟨cs,GB⟩,hGl,hne,rd⟩:=r5.facts
 have cl:=r5.cl
 have hK':K <= 1073741823:=by rw [<- r5.len]; exact hlb
 have bw5:=Below.refl w5.heap.size w5
 have j0:(0:Int) <= (j:Int):=by omega
 have j1:(j:Int) < (n:Int):=by omega
 have fin:∀ w6 V,Below w5.heap.size w5 w6 -> w6.ownsRow w5.heap.size 26 1 V (K + 1) ([] ++ (lists j).map uv ++ [uv H]) -> ∃ R',R'.b = R.b /\ Went6 w (w6.setCell ⟨R.gL,j,none⟩ V) R R' n /\ R6At (w6.setCell ⟨R.gL,j,none⟩ V) R' M.b n laid (upd lists j (lists j ++ [H])):=by
  intro w6 V b6 o6
  obtain ⟨a1,a2⟩:=h5.setRow hj (l:=lists j ++ [H]) b6 (by rw [List.length_append,List.length_singleton,r5.len,List.map_append]; exact o6)
  have hs:w5.heap.size = w.heap.size:=by rw [hw5, <- hw1.out]; rfl
  refine ⟨{ R with F:=upd R.F j V },rfl,⟨⟨a2.only.os.trans (by rw [hw5, <- hw1.out]; rfl),a2.only.tape.trans (by rw [hw5, <- hw1.out]; rfl),a2.only.output.trans (by rw [hw5, <- hw1.out]; rfl),hs ▸ a2.only.size,fun d hd hn => (a2.only.block d (by omega) hn).trans (by rw [hw5, <- hw1.out]; rfl)⟩,fun d hd => (a2.foot d hd).imp id fun h => by omega,rfl⟩,a1⟩
 replace rd:=Lib.hid rd
 replace fin:=Lib.hid fin
 clear r5 h5 rg1 c0'
 refine wp_region_noPanic ?_
 refine wp_region_held_drew (S:=fun w' => w'.cell? ⟨R.b,2,none⟩ = some (.slice (some ⟨R.gL,0,none⟩) n n)) (by kernel_rfl) (by rw [<- hw5]; exact c2) (fun hHeld => ?_)
 rw [<- hw5] at hHeld ⊢
 clear hw5
 refine tkh (i:=0) (v:=?_) rfl ?_ ?_
 rotate_left
 ·try simp only [qA,qS,qZ]
  intro w hSw
  (try dsimp only at hSw)
  go_simp
  (try with_reducible rfl)
 try simp only [qA,qS,qZ,Act.put,qT,qO,qN]
 refine tkh (i:=1) (v:=?_) rfl ?_ ?_
 rotate_left
 ·try simp only [qA,qS,qZ]
  intro w hSw
  (try dsimp only at hSw)
  go_simp
  (try with_reducible rfl)
 try simp only [qA,qS,qZ,Act.put,qT,qO,qN]
 refine tkh (i:=2) (v:=?_) rfl ?_ ?_
 rotate_left
 ·try simp only [qA,qS,qZ]
  intro w hSw
  (try dsimp only at hSw)
  go_simp
  (try with_reducible rfl)
 try simp only [qA,qS,qZ,Act.put,qT,qO,qN]
 refine tkh (i:=3) (v:=?_) rfl ?_ ?_
 rotate_left
 ·try simp only [qA,qS,qZ]
  intro w hSw
  (try dsimp only at hSw)
  go_simp
  (try with_reducible rfl)
 try simp only [qA,qS,qZ,Act.put,qT,qO,qN]
 refine tkh (i:=4) (v:=?_) rfl ?_ ?_
 rotate_left
 ·try simp only [qA,qS,qZ]
  intro w hSw
  (try dsimp only at hSw)
  go_simp
  (try with_reducible rfl)
 try simp only [qA,qS,qZ,Act.put,qT,qO,qN]
 refine tkh (i:=6) (v:=?_) rfl ?_ ?_
 rotate_left
 ·try simp only [qA,qS,qZ]
  intro w hSw
  (try dsimp only at hSw)
  go_simp
  (try with_reducible rfl)
 try simp only [qA,qS,qZ,Act.put,qT,qO,qN]
 refine tkh (i:=7) (v:=?_) rfl ?_ ?_
 rotate_left
 ·try simp only [qA,qS,qZ]
  intro w hSw
  (try dsimp only at hSw)
  go_simp
  (try with_reducible rfl)
 try simp only [qA,qS,qZ,Act.put,qT,qO,qN]
 refine tkh (i:=8) (v:=?_) rfl ?_ ?_
 rotate_left
 ·try simp only [qA,qS,qZ]
  intro w hSw
  (try dsimp only at hSw)
  go_simp
  (try with_reducible rfl)
 try simp only [qA,qS,qZ,Act.put,qT,qO,qN]
 refine tkh (i:=9) (v:=?_) rfl ?_ ?_
 rotate_left
 ·try simp only [qA,qS,qZ]
  intro w hSw
  (try dsimp only at hSw)
  go_simp
  (try with_reducible rfl)
 try simp only [qA,qS,qZ,Act.put,qT,qO,qN]
 refine tkh (i:=10) (v:=?_) rfl ?_ ?_
 rotate_left
 ·try simp only [qA,qS,qZ]
  intro w hSw
  (try dsimp only at hSw)
  go_simp
  (try with_reducible rfl)
 try simp only [qA,qS,qZ,Act.put,qT,qO,qN]
 refine tkh (i:=11) (v:=?_) rfl ?_ ?_
 rotate_left
 ·try simp only [qA,qS,qZ]
  intro w hSw
  (try dsimp only at hSw)
  go_simp
  (try with_reducible rfl)
 try simp only [qA,qS,qZ,Act.put,qT,qO,qN]
 refine tkh (i:=14) (v:=?_) rfl ?_ ?_
 rotate_left
 ·try simp only [qA,qS,qZ]
  intro w hSw
  (try dsimp only at hSw)
  go_simp
  (try with_reducible rfl)
 try simp only [qA,qS,qZ,Act.put,qT,qO,qN]
 refine wpAnyH_ready (rs:=[5,12,15]) (by kernel_rfl) (by simp) ?_
 refine AllReadyH.cons (o:=_) rfl (fun K hK => ?_) ?_
 ·try simp only [qA,qS,qZ,Act.put,qT,qO,qN]
  go_simp
  obtain ⟨v6,hv6⟩:∃ x,x = World.alloc w5 (.cells #[] 26):=⟨_,rfl⟩
  have bv6:Below w5.heap.size w5 v6:=by rw [hv6]; exact bw5.alloc bw5.size _
  have sv6:=Lib.hid (show v6.heap.size = w5.heap.size + 1 by rw [hv6]; exact World.size_alloc _ _)
  have oAv6:=own_zero w5 w5.heap.size bw5.size
  rw [<- hv6] at oAv6
  rw [<- hv6]
  clear hv6
  refine hK.out _ _ ((bv6.cell (p:=⟨R.b,2,none⟩) hRb).trans c2) (fun hHeld => ?_)
  clear hK K
  try simp only [qA,qS,qZ,Act.put,qT,qO,qN]
  refine wpAnyH_ready (rs:=[12,15]) (by kernel_rfl) (by simp) ?_
  refine AllReadyH.cons (o:=_) rfl (fun K hK => ?_) ?_
  ·try simp only [qA,qS,qZ,Act.put,qT,qO,qN]
   have clv7:=(bv6.cell (p:=⟨R.gL,j,none⟩) hGl).trans cl
   go_simp
   refine hK.out _ _ ((bv6.cell (p:=⟨R.b,2,none⟩) hRb).trans c2) (fun hHeld => ?_)
   clear hK K
   try simp only [qA,qS,qZ,Act.put,qT,qO,qN]
   clear clv7
   refine wpAnyH_ready (rs:=[13,15]) (by kernel_rfl) (by simp) ?_
   refine AllReadyH.cons (o:=_) rfl (fun K hK => ?_) ?_
   ·try simp only [qA,qS,qZ,Act.put,qT,qO,qN]
    refine step_ap (a:=⟨_,_⟩) (by rfl) (.tmp 32) (.tmp 39) 45 (by rfl) eiL w5.heap.size _ _ _ (by rfl) oAv6 _ _ _ _ _ (by rfl) (rd.out.below bv6) ?ga3 ?gb3 ?gc3 bv6.size ?_
    case ga3 => first | exact uvs_cells _ | (intro u hu; rw [List.mem_singleton] at hu; subst hu; rfl)
    case gb3 => unfold maxLen; omega
    case gc3 => omega
    intro V v8 oAv8 hgv8 hatv8
    (try rw [Nat.zero_add] at oAv8)
    obtain ⟨Av8,cv8,rfl⟩:=own_is oAv8
    have bv8:Below w5.heap.size w5 v8:=bv6.grown hgv8 bv6.size (fun k e => own_base oAv6 e)
    refine hK.out _ _ ((bv8.cell (p:=⟨R.b,2,none⟩) hRb).trans c2) (fun hHeld => ?_)
    clear hK K
    try simp only [qA,qS,qZ,Act.put,qT,qO,qN]
    refine wpAnyH_ready (rs:=[15]) (by kernel_rfl) (by simp) ?_
    refine AllReadyH.cons (o:=_) rfl (fun K hK => ?_) ?_
    ·try simp only [qA,qS,qZ,Act.put,qT,qO,qN]
     go_simp
     obtain ⟨v9,hv9⟩:∃ x,x = World.alloc v8 (.cells #[.int .u64 (H:Int)] 26):=⟨_,rfl⟩
     have bv9:Below w5.heap.size w5 v9:=by rw [hv9]; exact bv8.alloc bv8.size _
     have sv9:=Lib.hid (show v9.heap.size = v8.heap.size + 1 by rw [hv9]; exact World.size_alloc _ _)
     have oLv9:=own_one v8 w5.heap.size H bv8.size
     rw [<- hv9] at oLv9
     have oAv9:=World.ownsRow.alloc oAv8 (.cells #[.int .u64 (H:Int)] 26)
     rw [<- hv9] at oAv9
     have nev9:=ne_own oAv8
     rw [<- hv9]
     clear hv9
     refine hK.out _ _ ((bv9.cell (p:=⟨R.b,2,none⟩) hRb).trans c2) (fun hHeld => ?_)
     clear hK K
     try simp only [qA,qS,qZ,Act.put,qT,qO,qN]
     refine wpAnyH_ready (rs:=[16]) (by kernel_rfl) (by simp) ?_
     refine AllReadyH.cons (o:=_) rfl (fun K hK => ?_) ?_
     ·try simp only [qA,qS,qZ,Act.put,qT,qO,qN]
      refine step_ap (a:=⟨_,_⟩) (by rfl) (.tmp 40) (.tmp 42) 45 (by rfl) eiL w5.heap.size _ _ _ (by rfl) oAv9 _ _ _ _ _ (by rfl) (Reads.of_own oLv9) ?ga4 ?gb4 ?gc4 bv9.size ?_
      case ga4 => first | exact uvs_cells _ | (intro u hu; rw [List.mem_singleton] at hu; subst hu; rfl)
      case gb4 => unfold maxLen; omega
      case gc4 => omega
      intro V v10 oAv10 hgv10 hatv10
      (try rw [Nat.zero_add] at oAv10)
      obtain ⟨Av10,cv10,rfl⟩:=own_is oAv10
      have bv10:Below w5.heap.size w5 v10:=bv9.grown hgv10 bv9.size (fun k e => own_base oAv9 e)
      refine hK.out _ _ ((bv10.cell (p:=⟨R.b,2,none⟩) hRb).trans c2) (fun hHeld => ?_)
      clear hK K
      try simp only [qA,qS,qZ,Act.put,qT,qO,qN]
      refine tkh (i:=17) (v:=?_) rfl ?_ ?_
      rotate_left
      ·try simp only [qA,qS,qZ]
       intro w hSw
       (try dsimp only at hSw)
       go_simp
       (try with_reducible rfl)
      try simp only [qA,qS,qZ,Act.put,qT,qO,qN]
      refine wpAnyH_ready (rs:=[18]) (by kernel_rfl) (by simp) ?_
      refine AllReadyH.cons (o:=_) rfl (fun K hK => ?_) ?_
      ·try simp only [qA,qS,qZ,Act.put,qT,qO,qN]
       have clv11:=(bv10.cell (p:=⟨R.gL,j,none⟩) hGl).trans cl
       have zzv11:Blk v10 R.gL 45 _:=(bv10.block R.gL hGl).trans GB
       have zfv11:=zzv11.frozen j
       replace zzv11:=Lib.hid zzv11
       go_simp
       refine hK.out _ _ ((World.cell?_setCell_far _ _ _ _ hne).trans ((bv10.cell (p:=⟨R.b,2,none⟩) hRb).trans c2)) (fun hHeld => ?_)
       clear hK K
       try simp only [qA,qS,qZ,Act.put,qT,qO,qN]
       clear clv11 zfv11 zzv11
       refine wpAnyH_done (by kernel_rfl) ?_ _
       refine NoPanic.normal ?_
       have T:=Lib.hid (fin.out v10 _ bv10 oAv10)
       go_wp2
       go_end0
       exact ⟨rfl,T.out⟩
      exact AllReadyH.nil
     exact AllReadyH.nil
    exact AllReadyH.nil
   refine AllReadyH.cons (o:=_) rfl (fun K hK => ?_) ?_
   ·try simp only [qA,qS,qZ,Act.put,qT,qO,qN]
    go_simp
    obtain ⟨v8,hv8⟩:∃ x,x = World.alloc v6 (.cells #[.int .u64 (H:Int)] 26):=⟨_,rfl⟩
    have bv8:Below w5.heap.size w5 v8:=by rw [hv8]; exact bv6.alloc bv6.size _
    have sv8:=Lib.hid (show v8.heap.size = v6.heap.size + 1 by rw [hv8]; exact World.size_alloc _ _)
    have oLv8:=own_one v6 w5.heap.size H bv6.size
    rw [<- hv8] at oLv8
    have oAv8:=World.ownsRow.alloc oAv6 (.cells #[.int .u64 (H:Int)] 26)
    rw [<- hv8] at oAv8
    have nev8:=ne_own oAv6
    rw [<- hv8]
    clear hv8
    refine hK.out _ _ ((bv8.cell (p:=⟨R.b,2,none⟩) hRb).trans c2) (fun hHeld => ?_)
    clear hK K
    try simp only [qA,qS,qZ,Act.put,qT,qO,qN]
    refine wpAnyH_ready (rs:=[13]) (by kernel_rfl) (by simp) ?_
    refine AllReadyH.cons (o:=_) rfl (fun K hK => ?_) ?_
    ·try simp only [qA,qS,qZ,Act.put,qT,qO,qN]
     refine step_ap (a:=⟨_,_⟩) (by rfl) (.tmp 32) (.tmp 39) 45 (by rfl) eiL w5.heap.size _ _ _ (by rfl) oAv8 _ _ _ _ _ (by rfl) (rd.out.below bv8) ?ga5 ?gb5 ?gc5 bv8.size ?_
     case ga5 => first | exact uvs_cells _ | (intro u hu; rw [List.mem_singleton] at hu; subst hu; rfl)
     case gb5 => unfold maxLen; omega
     case gc5 => omega
     intro V v9 oAv9 hgv9 hatv9
     (try rw [Nat.zero_add] at oAv9)
     obtain ⟨Av9,cv9,rfl⟩:=own_is oAv9
     have bv9:Below w5.heap.size w5 v9:=bv8.grown hgv9 bv8.size (fun k e => own_base oAv8 e)
     have oLv9:=own_keptN oLv8 fun b e => hgv9.block b (own_blockN oLv8 e) fun e2 => nev8 b e2.symm (by have e:some v6.heap.size = some b:=e; injection e with e; exact e.symm)
     have nev9:∀ b,(Value.slice Av9 _ cv9).ownBlock = some b -> b ≠ v6.heap.size:=fun b e => by
      rcases hatv9 with h6 | h6
      ·exact nev8 b (h6 ▸ e)
      ·rw [h6] at e
       injection e with e
       have e9:v6.heap.size < v8.heap.size:=own_blockN (b:=v6.heap.size) oLv8 rfl
       omega
     refine hK.out _ _ ((bv9.cell (p:=⟨R.b,2,none⟩) hRb).trans c2) (fun hHeld => ?_)
     clear hK K
     try simp only [qA,qS,qZ,Act.put,qT,qO,qN]
     refine wpAnyH_ready (rs:=[16]) (by kernel_rfl) (by simp) ?_
     refine AllReadyH.cons (o:=_) rfl (fun K hK => ?_) ?_
     ·try simp only [qA,qS,qZ,Act.put,qT,qO,qN]
      refine step_ap (a:=⟨_,_⟩) (by rfl) (.tmp 40) (.tmp 42) 45 (by rfl) eiL w5.heap.size _ _ _ (by rfl) oAv9 _ _ _ _ _ (by rfl) (Reads.of_own oLv9) ?ga6 ?gb6 ?gc6 bv9.size ?_
      case ga6 => first | exact uvs_cells _ | (intro u hu; rw [List.mem_singleton] at hu; subst hu; rfl)
      case gb6 => unfold maxLen; omega
      case gc6 => omega
      intro V v10 oAv10 hgv10 hatv10
      (try rw [Nat.zero_add] at oAv10)
      obtain ⟨Av10,cv10,rfl⟩:=own_is oAv10
      have bv10:Below w5.heap.size w5 v10:=bv9.grown hgv10 bv9.size (fun k e => own_base oAv9 e)
      refine hK.out _ _ ((bv10.cell (p:=⟨R.b,2,none⟩) hRb).trans c2) (fun hHeld => ?_)
      clear hK K
      try simp only [qA,qS,qZ,Act.put,qT,qO,qN]
      refine tkh (i:=17) (v:=?_) rfl ?_ ?_
      rotate_left
      ·try simp only [qA,qS,qZ]
       intro w hSw
       (try dsimp only at hSw)
       go_simp
       (try with_reducible rfl)
      try simp only [qA,qS,qZ,Act.put,qT,qO,qN]
      refine wpAnyH_ready (rs:=[18]) (by kernel_rfl) (by simp) ?_
      refine AllReadyH.cons (o:=_) rfl (fun K hK => ?_) ?_
      ·try simp only [qA,qS,qZ,Act.put,qT,qO,qN]
       have clv11:=(bv10.cell (p:=⟨R.gL,j,none⟩) hGl).trans cl
       have zzv11:Blk v10 R.gL 45 _:=(bv10.block R.gL hGl).trans GB
       have zfv11:=zzv11.frozen j
       replace zzv11:=Lib.hid zzv11
       go_simp
       refine hK.out _ _ ((World.cell?_setCell_far _ _ _ _ hne).trans ((bv10.cell (p:=⟨R.b,2,none⟩) hRb).trans c2)) (fun hHeld => ?_)
       clear hK K
       try simp only [qA,qS,qZ,Act.put,qT,qO,qN]
       clear clv11 zfv11 zzv11
       refine wpAnyH_done (by kernel_rfl) ?_ _
       refine NoPanic.normal ?_
       have T:=Lib.hid (fin.out v10 _ bv10 oAv10)
       go_wp2
       go_end0
       exact ⟨rfl,T.out⟩
      exact AllReadyH.nil
     exact AllReadyH.nil
    exact AllReadyH.nil
   exact AllReadyH.nil
  refine AllReadyH.cons (o:=_) rfl (fun K hK => ?_) ?_
  ·try simp only [qA,qS,qZ,Act.put,qT,qO,qN]
   go_simp
   obtain ⟨v7,hv7⟩:∃ x,x = World.alloc v6 (.cells #[.int .u64 (H:Int)] 26):=⟨_,rfl⟩
   have bv7:Below w5.heap.size w5 v7:=by rw [hv7]; exact bv6.alloc bv6.size _
   have sv7:=Lib.hid (show v7.heap.size = v6.heap.size + 1 by rw [hv7]; exact World.size_alloc _ _)
   have oLv7:=own_one v6 w5.heap.size H bv6.size
   rw [<- hv7] at oLv7
   have oAv7:=World.ownsRow.alloc oAv6 (.cells #[.int .u64 (H:Int)] 26)
   rw [<- hv7] at oAv7
   have nev7:=ne_own oAv6
   rw [<- hv7]
   clear hv7
   refine hK.out _ _ ((bv7.cell (p:=⟨R.b,2,none⟩) hRb).trans c2) (fun hHeld => ?_)
   clear hK K
   try simp only [qA,qS,qZ,Act.put,qT,qO,qN]
   refine wpAnyH_ready (rs:=[12]) (by kernel_rfl) (by simp) ?_
   refine AllReadyH.cons (o:=_) rfl (fun K hK => ?_) ?_
   ·try simp only [qA,qS,qZ,Act.put,qT,qO,qN]
    have clv8:=(bv7.cell (p:=⟨R.gL,j,none⟩) hGl).trans cl
    go_simp
    refine hK.out _ _ ((bv7.cell (p:=⟨R.b,2,none⟩) hRb).trans c2) (fun hHeld => ?_)
    clear hK K
    try simp only [qA,qS,qZ,Act.put,qT,qO,qN]
    clear clv8
    refine wpAnyH_ready (rs:=[13]) (by kernel_rfl) (by simp) ?_
    refine AllReadyH.cons (o:=_) rfl (fun K hK => ?_) ?_
    ·try simp only [qA,qS,qZ,Act.put,qT,qO,qN]
     refine step_ap (a:=⟨_,_⟩) (by rfl) (.tmp 32) (.tmp 39) 45 (by rfl) eiL w5.heap.size _ _ _ (by rfl) oAv7 _ _ _ _ _ (by rfl) (rd.out.below bv7) ?ga7 ?gb7 ?gc7 bv7.size ?_
     case ga7 => first | exact uvs_cells _ | (intro u hu; rw [List.mem_singleton] at hu; subst hu; rfl)
     case gb7 => unfold maxLen; omega
     case gc7 => omega
     intro V v9 oAv9 hgv9 hatv9
     (try rw [Nat.zero_add] at oAv9)
     obtain ⟨Av9,cv9,rfl⟩:=own_is oAv9
     have bv9:Below w5.heap.size w5 v9:=bv7.grown hgv9 bv7.size (fun k e => own_base oAv7 e)
     have oLv9:=own_keptN oLv7 fun b e => hgv9.block b (own_blockN oLv7 e) fun e2 => nev7 b e2.symm (by have e:some v6.heap.size = some b:=e; injection e with e; exact e.symm)
     have nev9:∀ b,(Value.slice Av9 _ cv9).ownBlock = some b -> b ≠ v6.heap.size:=fun b e => by
      rcases hatv9 with h6 | h6
      ·exact nev7 b (h6 ▸ e)
      ·rw [h6] at e
       injection e with e
       have e9:v6.heap.size < v7.heap.size:=own_blockN (b:=v6.heap.size) oLv7 rfl
       omega
     refine hK.out _ _ ((bv9.cell (p:=⟨R.b,2,none⟩) hRb).trans c2) (fun hHeld => ?_)
     clear hK K
     try simp only [qA,qS,qZ,Act.put,qT,qO,qN]
     refine wpAnyH_ready (rs:=[16]) (by kernel_rfl) (by simp) ?_
     refine AllReadyH.cons (o:=_) rfl (fun K hK => ?_) ?_
     ·try simp only [qA,qS,qZ,Act.put,qT,qO,qN]
      refine step_ap (a:=⟨_,_⟩) (by rfl) (.tmp 40) (.tmp 42) 45 (by rfl) eiL w5.heap.size _ _ _ (by rfl) oAv9 _ _ _ _ _ (by rfl) (Reads.of_own oLv9) ?ga8 ?gb8 ?gc8 bv9.size ?_
      case ga8 => first | exact uvs_cells _ | (intro u hu; rw [List.mem_singleton] at hu; subst hu; rfl)
      case gb8 => unfold maxLen; omega
      case gc8 => omega
      intro V v10 oAv10 hgv10 hatv10
      (try rw [Nat.zero_add] at oAv10)
      obtain ⟨Av10,cv10,rfl⟩:=own_is oAv10
      have bv10:Below w5.heap.size w5 v10:=bv9.grown hgv10 bv9.size (fun k e => own_base oAv9 e)
      refine hK.out _ _ ((bv10.cell (p:=⟨R.b,2,none⟩) hRb).trans c2) (fun hHeld => ?_)
      clear hK K
      try simp only [qA,qS,qZ,Act.put,qT,qO,qN]
      refine tkh (i:=17) (v:=?_) rfl ?_ ?_
      rotate_left
      ·try simp only [qA,qS,qZ]
       intro w hSw
       (try dsimp only at hSw)
       go_simp
       (try with_reducible rfl)
      try simp only [qA,qS,qZ,Act.put,qT,qO,qN]
      refine wpAnyH_ready (rs:=[18]) (by kernel_rfl) (by simp) ?_
      refine AllReadyH.cons (o:=_) rfl (fun K hK => ?_) ?_
      ·try simp only [qA,qS,qZ,Act.put,qT,qO,qN]
       have clv11:=(bv10.cell (p:=⟨R.gL,j,none⟩) hGl).trans cl
       have zzv11:Blk v10 R.gL 45 _:=(bv10.block R.gL hGl).trans GB
       have zfv11:=zzv11.frozen j
       replace zzv11:=Lib.hid zzv11
       go_simp
       refine hK.out _ _ ((World.cell?_setCell_far _ _ _ _ hne).trans ((bv10.cell (p:=⟨R.b,2,none⟩) hRb).trans c2)) (fun hHeld => ?_)
       clear hK K
       try simp only [qA,qS,qZ,Act.put,qT,qO,qN]
       clear clv11 zfv11 zzv11
       refine wpAnyH_done (by kernel_rfl) ?_ _
       refine NoPanic.normal ?_
       have T:=Lib.hid (fin.out v10 _ bv10 oAv10)
       go_wp2
       go_end0
       exact ⟨rfl,T.out⟩
      exact AllReadyH.nil
     exact AllReadyH.nil
    exact AllReadyH.nil
   exact AllReadyH.nil
  exact AllReadyH.nil
 refine AllReadyH.cons (o:=_) rfl (fun K hK => ?_) ?_
 ·try simp only [qA,qS,qZ,Act.put,qT,qO,qN]
  have clv6:=(bw5.cell (p:=⟨R.gL,j,none⟩) hGl).trans cl
  go_simp
  refine hK.out _ _ ((bw5.cell (p:=⟨R.b,2,none⟩) hRb).trans c2) (fun hHeld => ?_)
  clear hK K
  try simp only [qA,qS,qZ,Act.put,qT,qO,qN]
  clear clv6
  refine wpAnyH_ready (rs:=[5,15]) (by kernel_rfl) (by simp) ?_
  refine AllReadyH.cons (o:=_) rfl (fun K hK => ?_) ?_
  ·try simp only [qA,qS,qZ,Act.put,qT,qO,qN]
   go_simp
   obtain ⟨v7,hv7⟩:∃ x,x = World.alloc w5 (.cells #[] 26):=⟨_,rfl⟩
   have bv7:Below w5.heap.size w5 v7:=by rw [hv7]; exact bw5.alloc bw5.size _
   have sv7:=Lib.hid (show v7.heap.size = w5.heap.size + 1 by rw [hv7]; exact World.size_alloc _ _)
   have oAv7:=own_zero w5 w5.heap.size bw5.size
   rw [<- hv7] at oAv7
   rw [<- hv7]
   clear hv7
   refine hK.out _ _ ((bv7.cell (p:=⟨R.b,2,none⟩) hRb).trans c2) (fun hHeld => ?_)
   clear hK K
   try simp only [qA,qS,qZ,Act.put,qT,qO,qN]
   refine wpAnyH_ready (rs:=[13,15]) (by kernel_rfl) (by simp) ?_
   refine AllReadyH.cons (o:=_) rfl (fun K hK => ?_) ?_
   ·try simp only [qA,qS,qZ,Act.put,qT,qO,qN]
    refine step_ap (a:=⟨_,_⟩) (by rfl) (.tmp 32) (.tmp 39) 45 (by rfl) eiL w5.heap.size _ _ _ (by rfl) oAv7 _ _ _ _ _ (by rfl) (rd.out.below bv7) ?ga9 ?gb9 ?gc9 bv7.size ?_
    case ga9 => first | exact uvs_cells _ | (intro u hu; rw [List.mem_singleton] at hu; subst hu; rfl)
    case gb9 => unfold maxLen; omega
    case gc9 => omega
    intro V v8 oAv8 hgv8 hatv8
    (try rw [Nat.zero_add] at oAv8)
    obtain ⟨Av8,cv8,rfl⟩:=own_is oAv8
    have bv8:Below w5.heap.size w5 v8:=bv7.grown hgv8 bv7.size (fun k e => own_base oAv7 e)
    refine hK.out _ _ ((bv8.cell (p:=⟨R.b,2,none⟩) hRb).trans c2) (fun hHeld => ?_)
    clear hK K
    try simp only [qA,qS,qZ,Act.put,qT,qO,qN]
    refine wpAnyH_ready (rs:=[15]) (by kernel_rfl) (by simp) ?_
    refine AllReadyH.cons (o:=_) rfl (fun K hK => ?_) ?_
    ·try simp only [qA,qS,qZ,Act.put,qT,qO,qN]
     go_simp
     obtain ⟨v9,hv9⟩:∃ x,x = World.alloc v8 (.cells #[.int .u64 (H:Int)] 26):=⟨_,rfl⟩
     have bv9:Below w5.heap.size w5 v9:=by rw [hv9]; exact bv8.alloc bv8.size _
     have sv9:=Lib.hid (show v9.heap.size = v8.heap.size + 1 by rw [hv9]; exact World.size_alloc _ _)
     have oLv9:=own_one v8 w5.heap.size H bv8.size
     rw [<- hv9] at oLv9
     have oAv9:=World.ownsRow.alloc oAv8 (.cells #[.int .u64 (H:Int)] 26)
     rw [<- hv9] at oAv9
     have nev9:=ne_own oAv8
     rw [<- hv9]
     clear hv9
     refine hK.out _ _ ((bv9.cell (p:=⟨R.b,2,none⟩) hRb).trans c2) (fun hHeld => ?_)
     clear hK K
     try simp only [qA,qS,qZ,Act.put,qT,qO,qN]
     refine wpAnyH_ready (rs:=[16]) (by kernel_rfl) (by simp) ?_
     refine AllReadyH.cons (o:=_) rfl (fun K hK => ?_) ?_
     ·try simp only [qA,qS,qZ,Act.put,qT,qO,qN]
      refine step_ap (a:=⟨_,_⟩) (by rfl) (.tmp 40) (.tmp 42) 45 (by rfl) eiL w5.heap.size _ _ _ (by rfl) oAv9 _ _ _ _ _ (by rfl) (Reads.of_own oLv9) ?ga10 ?gb10 ?gc10 bv9.size ?_
      case ga10 => first | exact uvs_cells _ | (intro u hu; rw [List.mem_singleton] at hu; subst hu; rfl)
      case gb10 => unfold maxLen; omega
      case gc10 => omega
      intro V v10 oAv10 hgv10 hatv10
      (try rw [Nat.zero_add] at oAv10)
      obtain ⟨Av10,cv10,rfl⟩:=own_is oAv10
      have bv10:Below w5.heap.size w5 v10:=bv9.grown hgv10 bv9.size (fun k e => own_base oAv9 e)
      refine hK.out _ _ ((bv10.cell (p:=⟨R.b,2,none⟩) hRb).trans c2) (fun hHeld => ?_)
      clear hK K
      try simp only [qA,qS,qZ,Act.put,qT,qO,qN]
      refine tkh (i:=17) (v:=?_) rfl ?_ ?_
      rotate_left
      ·try simp only [qA,qS,qZ]
       intro w hSw
       (try dsimp only at hSw)
       go_simp
       (try with_reducible rfl)
      try simp only [qA,qS,qZ,Act.put,qT,qO,qN]
      refine wpAnyH_ready (rs:=[18]) (by kernel_rfl) (by simp) ?_
      refine AllReadyH.cons (o:=_) rfl (fun K hK => ?_) ?_
      ·try simp only [qA,qS,qZ,Act.put,qT,qO,qN]
       have clv11:=(bv10.cell (p:=⟨R.gL,j,none⟩) hGl).trans cl
       have zzv11:Blk v10 R.gL 45 _:=(bv10.block R.gL hGl).trans GB
       have zfv11:=zzv11.frozen j
       replace zzv11:=Lib.hid zzv11
       go_simp
       refine hK.out _ _ ((World.cell?_setCell_far _ _ _ _ hne).trans ((bv10.cell (p:=⟨R.b,2,none⟩) hRb).trans c2)) (fun hHeld => ?_)
       clear hK K
       try simp only [qA,qS,qZ,Act.put,qT,qO,qN]
       clear clv11 zfv11 zzv11
       refine wpAnyH_done (by kernel_rfl) ?_ _
       refine NoPanic.normal ?_
       have T:=Lib.hid (fin.out v10 _ bv10 oAv10)
       go_wp2
       go_end0
       exact ⟨rfl,T.out⟩
      exact AllReadyH.nil
     exact AllReadyH.nil
    exact AllReadyH.nil
   refine AllReadyH.cons (o:=_) rfl (fun K hK => ?_) ?_
   ·try simp only [qA,qS,qZ,Act.put,qT,qO,qN]
    go_simp
    obtain ⟨v8,hv8⟩:∃ x,x = World.alloc v7 (.cells #[.int .u64 (H:Int)] 26):=⟨_,rfl⟩
    have bv8:Below w5.heap.size w5 v8:=by rw [hv8]; exact bv7.alloc bv7.size _
    have sv8:=Lib.hid (show v8.heap.size = v7.heap.size + 1 by rw [hv8]; exact World.size_alloc _ _)
    have oLv8:=own_one v7 w5.heap.size H bv7.size
    rw [<- hv8] at oLv8
    have oAv8:=World.ownsRow.alloc oAv7 (.cells #[.int .u64 (H:Int)] 26)
    rw [<- hv8] at oAv8
    have nev8:=ne_own oAv7
    rw [<- hv8]
    clear hv8
    refine hK.out _ _ ((bv8.cell (p:=⟨R.b,2,none⟩) hRb).trans c2) (fun hHeld => ?_)
    clear hK K
    try simp only [qA,qS,qZ,Act.put,qT,qO,qN]
    refine wpAnyH_ready (rs:=[13]) (by kernel_rfl) (by simp) ?_
    refine AllReadyH.cons (o:=_) rfl (fun K hK => ?_) ?_
    ·try simp only [qA,qS,qZ,Act.put,qT,qO,qN]
     refine step_ap (a:=⟨_,_⟩) (by rfl) (.tmp 32) (.tmp 39) 45 (by rfl) eiL w5.heap.size _ _ _ (by rfl) oAv8 _ _ _ _ _ (by rfl) (rd.out.below bv8) ?ga11 ?gb11 ?gc11 bv8.size ?_
     case ga11 => first | exact uvs_cells _ | (intro u hu; rw [List.mem_singleton] at hu; subst hu; rfl)
     case gb11 => unfold maxLen; omega
     case gc11 => omega
     intro V v9 oAv9 hgv9 hatv9
     (try rw [Nat.zero_add] at oAv9)
     obtain ⟨Av9,cv9,rfl⟩:=own_is oAv9
     have bv9:Below w5.heap.size w5 v9:=bv8.grown hgv9 bv8.size (fun k e => own_base oAv8 e)
     have oLv9:=own_keptN oLv8 fun b e => hgv9.block b (own_blockN oLv8 e) fun e2 => nev8 b e2.symm (by have e:some v7.heap.size = some b:=e; injection e with e; exact e.symm)
     have nev9:∀ b,(Value.slice Av9 _ cv9).ownBlock = some b -> b ≠ v7.heap.size:=fun b e => by
      rcases hatv9 with h6 | h6
      ·exact nev8 b (h6 ▸ e)
      ·rw [h6] at e
       injection e with e
       have e9:v7.heap.size < v8.heap.size:=own_blockN (b:=v7.heap.size) oLv8 rfl
       omega
     refine hK.out _ _ ((bv9.cell (p:=⟨R.b,2,none⟩) hRb).trans c2) (fun hHeld => ?_)
     clear hK K
     try simp only [qA,qS,qZ,Act.put,qT,qO,qN]
     refine wpAnyH_ready (rs:=[16]) (by kernel_rfl) (by simp) ?_
     refine AllReadyH.cons (o:=_) rfl (fun K hK => ?_) ?_
     ·try simp only [qA,qS,qZ,Act.put,qT,qO,qN]
      refine step_ap (a:=⟨_,_⟩) (by rfl) (.tmp 40) (.tmp 42) 45 (by rfl) eiL w5.heap.size _ _ _ (by rfl) oAv9 _ _ _ _ _ (by rfl) (Reads.of_own oLv9) ?ga12 ?gb12 ?gc12 bv9.size ?_
      case ga12 => first | exact uvs_cells _ | (intro u hu; rw [List.mem_singleton] at hu; subst hu; rfl)
      case gb12 => unfold maxLen; omega
      case gc12 => omega
      intro V v10 oAv10 hgv10 hatv10
      (try rw [Nat.zero_add] at oAv10)
      obtain ⟨Av10,cv10,rfl⟩:=own_is oAv10
      have bv10:Below w5.heap.size w5 v10:=bv9.grown hgv10 bv9.size (fun k e => own_base oAv9 e)
      refine hK.out _ _ ((bv10.cell (p:=⟨R.b,2,none⟩) hRb).trans c2) (fun hHeld => ?_)
      clear hK K
      try simp only [qA,qS,qZ,Act.put,qT,qO,qN]
      refine tkh (i:=17) (v:=?_) rfl ?_ ?_
      rotate_left
      ·try simp only [qA,qS,qZ]
       intro w hSw
       (try dsimp only at hSw)
       go_simp
       (try with_reducible rfl)
      try simp only [qA,qS,qZ,Act.put,qT,qO,qN]
      refine wpAnyH_ready (rs:=[18]) (by kernel_rfl) (by simp) ?_
      refine AllReadyH.cons (o:=_) rfl (fun K hK => ?_) ?_
      ·try simp only [qA,qS,qZ,Act.put,qT,qO,qN]
       have clv11:=(bv10.cell (p:=⟨R.gL,j,none⟩) hGl).trans cl
       have zzv11:Blk v10 R.gL 45 _:=(bv10.block R.gL hGl).trans GB
       have zfv11:=zzv11.frozen j
       replace zzv11:=Lib.hid zzv11
       go_simp
       refine hK.out _ _ ((World.cell?_setCell_far _ _ _ _ hne).trans ((bv10.cell (p:=⟨R.b,2,none⟩) hRb).trans c2)) (fun hHeld => ?_)
       clear hK K
       try simp only [qA,qS,qZ,Act.put,qT,qO,qN]
       clear clv11 zfv11 zzv11
       refine wpAnyH_done (by kernel_rfl) ?_ _
       refine NoPanic.normal ?_
       have T:=Lib.hid (fin.out v10 _ bv10 oAv10)
       go_wp2
       go_end0
       exact ⟨rfl,T.out⟩
      exact AllReadyH.nil
     exact AllReadyH.nil
    exact AllReadyH.nil
   exact AllReadyH.nil
  refine AllReadyH.cons (o:=_) rfl (fun K hK => ?_) ?_
  ·try simp only [qA,qS,qZ,Act.put,qT,qO,qN]
   go_simp
   obtain ⟨v7,hv7⟩:∃ x,x = World.alloc w5 (.cells #[.int .u64 (H:Int)] 26):=⟨_,rfl⟩
   have bv7:Below w5.heap.size w5 v7:=by rw [hv7]; exact bw5.alloc bw5.size _
   have sv7:=Lib.hid (show v7.heap.size = w5.heap.size + 1 by rw [hv7]; exact World.size_alloc _ _)
   have oLv7:=own_one w5 w5.heap.size H bw5.size
   rw [<- hv7] at oLv7
   rw [<- hv7]
   clear hv7
   refine hK.out _ _ ((bv7.cell (p:=⟨R.b,2,none⟩) hRb).trans c2) (fun hHeld => ?_)
   clear hK K
   try simp only [qA,qS,qZ,Act.put,qT,qO,qN]
   refine wpAnyH_ready (rs:=[5]) (by kernel_rfl) (by simp) ?_
   refine AllReadyH.cons (o:=_) rfl (fun K hK => ?_) ?_
   ·try simp only [qA,qS,qZ,Act.put,qT,qO,qN]
    go_simp
    obtain ⟨v8,hv8⟩:∃ x,x = World.alloc v7 (.cells #[] 26):=⟨_,rfl⟩
    have bv8:Below w5.heap.size w5 v8:=by rw [hv8]; exact bv7.alloc bv7.size _
    have sv8:=Lib.hid (show v8.heap.size = v7.heap.size + 1 by rw [hv8]; exact World.size_alloc _ _)
    have oAv8:=own_zero v7 w5.heap.size bv7.size
    rw [<- hv8] at oAv8
    have oLv8:=World.ownsRow.alloc oLv7 (.cells #[] 26)
    rw [<- hv8] at oLv8
    have nev8:∀ b,(Value.slice (some ⟨v7.heap.size,0,none⟩) 0 0).ownBlock = some b -> b ≠ w5.heap.size:=fun b e => by
     have e:some v7.heap.size = some b:=e
     injection e with e
     have e9:w5.heap.size < v7.heap.size:=own_blockN (b:=w5.heap.size) oLv7 rfl
     omega
    rw [<- hv8]
    clear hv8
    refine hK.out _ _ ((bv8.cell (p:=⟨R.b,2,none⟩) hRb).trans c2) (fun hHeld => ?_)
    clear hK K
    try simp only [qA,qS,qZ,Act.put,qT,qO,qN]
    refine wpAnyH_ready (rs:=[13]) (by kernel_rfl) (by simp) ?_
    refine AllReadyH.cons (o:=_) rfl (fun K hK => ?_) ?_
    ·try simp only [qA,qS,qZ,Act.put,qT,qO,qN]
     refine step_ap (a:=⟨_,_⟩) (by rfl) (.tmp 32) (.tmp 39) 45 (by rfl) eiL w5.heap.size _ _ _ (by rfl) oAv8 _ _ _ _ _ (by rfl) (rd.out.below bv8) ?ga13 ?gb13 ?gc13 bv8.size ?_
     case ga13 => first | exact uvs_cells _ | (intro u hu; rw [List.mem_singleton] at hu; subst hu; rfl)
     case gb13 => unfold maxLen; omega
     case gc13 => omega
     intro V v9 oAv9 hgv9 hatv9
     (try rw [Nat.zero_add] at oAv9)
     obtain ⟨Av9,cv9,rfl⟩:=own_is oAv9
     have bv9:Below w5.heap.size w5 v9:=bv8.grown hgv9 bv8.size (fun k e => own_base oAv8 e)
     have oLv9:=own_keptN oLv8 fun b e => hgv9.block b (own_blockN oLv8 e) fun e2 => nev8 b e2.symm (by have e:some w5.heap.size = some b:=e; injection e with e; exact e.symm)
     have nev9:∀ b,(Value.slice Av9 _ cv9).ownBlock = some b -> b ≠ w5.heap.size:=fun b e => by
      rcases hatv9 with h6 | h6
      ·exact nev8 b (h6 ▸ e)
      ·rw [h6] at e
       injection e with e
       have e9:w5.heap.size < v8.heap.size:=own_blockN (b:=w5.heap.size) oLv8 rfl
       omega
     refine hK.out _ _ ((bv9.cell (p:=⟨R.b,2,none⟩) hRb).trans c2) (fun hHeld => ?_)
     clear hK K
     try simp only [qA,qS,qZ,Act.put,qT,qO,qN]
     refine wpAnyH_ready (rs:=[16]) (by kernel_rfl) (by simp) ?_
     refine AllReadyH.cons (o:=_) rfl (fun K hK => ?_) ?_
     ·try simp only [qA,qS,qZ,Act.put,qT,qO,qN]
      refine step_ap (a:=⟨_,_⟩) (by rfl) (.tmp 40) (.tmp 42) 45 (by rfl) eiL w5.heap.size _ _ _ (by rfl) oAv9 _ _ _ _ _ (by rfl) (Reads.of_own oLv9) ?ga14 ?gb14 ?gc14 bv9.size ?_
      case ga14 => first | exact uvs_cells _ | (intro u hu; rw [List.mem_singleton] at hu; subst hu; rfl)
      case gb14 => unfold maxLen; omega
      case gc14 => omega
      intro V v10 oAv10 hgv10 hatv10
      (try rw [Nat.zero_add] at oAv10)
      obtain ⟨Av10,cv10,rfl⟩:=own_is oAv10
      have bv10:Below w5.heap.size w5 v10:=bv9.grown hgv10 bv9.size (fun k e => own_base oAv9 e)
      refine hK.out _ _ ((bv10.cell (p:=⟨R.b,2,none⟩) hRb).trans c2) (fun hHeld => ?_)
      clear hK K
      try simp only [qA,qS,qZ,Act.put,qT,qO,qN]
      refine tkh (i:=17) (v:=?_) rfl ?_ ?_
      rotate_left
      ·try simp only [qA,qS,qZ]
       intro w hSw
       (try dsimp only at hSw)
       go_simp
       (try with_reducible rfl)
      try simp only [qA,qS,qZ,Act.put,qT,qO,qN]
      refine wpAnyH_ready (rs:=[18]) (by kernel_rfl) (by simp) ?_
      refine AllReadyH.cons (o:=_) rfl (fun K hK => ?_) ?_
      ·try simp only [qA,qS,qZ,Act.put,qT,qO,qN]
       have clv11:=(bv10.cell (p:=⟨R.gL,j,none⟩) hGl).trans cl
       have zzv11:Blk v10 R.gL 45 _:=(bv10.block R.gL hGl).trans GB
       have zfv11:=zzv11.frozen j
       replace zzv11:=Lib.hid zzv11
       go_simp
       refine hK.out _ _ ((World.cell?_setCell_far _ _ _ _ hne).trans ((bv10.cell (p:=⟨R.b,2,none⟩) hRb).trans c2)) (fun hHeld => ?_)
       clear hK K
       try simp only [qA,qS,qZ,Act.put,qT,qO,qN]
       clear clv11 zfv11 zzv11
       refine wpAnyH_done (by kernel_rfl) ?_ _
       refine NoPanic.normal ?_
       have T:=Lib.hid (fin.out v10 _ bv10 oAv10)
       go_wp2
       go_end0
       exact ⟨rfl,T.out⟩
      exact AllReadyH.nil
     exact AllReadyH.nil
    exact AllReadyH.nil
   exact AllReadyH.nil
  exact AllReadyH.nil
 refine AllReadyH.cons (o:=_) rfl (fun K hK => ?_) ?_
 ·try simp only [qA,qS,qZ,Act.put,qT,qO,qN]
  go_simp
  obtain ⟨v6,hv6⟩:∃ x,x = World.alloc w5 (.cells #[.int .u64 (H:Int)] 26):=⟨_,rfl⟩
  have bv6:Below w5.heap.size w5 v6:=by rw [hv6]; exact bw5.alloc bw5.size _
  have sv6:=Lib.hid (show v6.heap.size = w5.heap.size + 1 by rw [hv6]; exact World.size_alloc _ _)
  have oLv6:=own_one w5 w5.heap.size H bw5.size
  rw [<- hv6] at oLv6
  rw [<- hv6]
  clear hv6
  refine hK.out _ _ ((bv6.cell (p:=⟨R.b,2,none⟩) hRb).trans c2) (fun hHeld => ?_)
  clear hK K
  try simp only [qA,qS,qZ,Act.put,qT,qO,qN]
  refine wpAnyH_ready (rs:=[5,12]) (by kernel_rfl) (by simp) ?_
  refine AllReadyH.cons (o:=_) rfl (fun K hK => ?_) ?_
  ·try simp only [qA,qS,qZ,Act.put,qT,qO,qN]
   go_simp
   obtain ⟨v7,hv7⟩:∃ x,x = World.alloc v6 (.cells #[] 26):=⟨_,rfl⟩
   have bv7:Below w5.heap.size w5 v7:=by rw [hv7]; exact bv6.alloc bv6.size _
   have sv7:=Lib.hid (show v7.heap.size = v6.heap.size + 1 by rw [hv7]; exact World.size_alloc _ _)
   have oAv7:=own_zero v6 w5.heap.size bv6.size
   rw [<- hv7] at oAv7
   have oLv7:=World.ownsRow.alloc oLv6 (.cells #[] 26)
   rw [<- hv7] at oLv7
   have nev7:∀ b,(Value.slice (some ⟨v6.heap.size,0,none⟩) 0 0).ownBlock = some b -> b ≠ w5.heap.size:=fun b e => by
    have e:some v6.heap.size = some b:=e
    injection e with e
    have e9:w5.heap.size < v6.heap.size:=own_blockN (b:=w5.heap.size) oLv6 rfl
    omega
   rw [<- hv7]
   clear hv7
   refine hK.out _ _ ((bv7.cell (p:=⟨R.b,2,none⟩) hRb).trans c2) (fun hHeld => ?_)
   clear hK K
   try simp only [qA,qS,qZ,Act.put,qT,qO,qN]
   refine wpAnyH_ready (rs:=[12]) (by kernel_rfl) (by simp) ?_
   refine AllReadyH.cons (o:=_) rfl (fun K hK => ?_) ?_
   ·try simp only [qA,qS,qZ,Act.put,qT,qO,qN]
    have clv8:=(bv7.cell (p:=⟨R.gL,j,none⟩) hGl).trans cl
    go_simp
    refine hK.out _ _ ((bv7.cell (p:=⟨R.b,2,none⟩) hRb).trans c2) (fun hHeld => ?_)
    clear hK K
    try simp only [qA,qS,qZ,Act.put,qT,qO,qN]
    clear clv8
    refine wpAnyH_ready (rs:=[13]) (by kernel_rfl) (by simp) ?_
    refine AllReadyH.cons (o:=_) rfl (fun K hK => ?_) ?_
    ·try simp only [qA,qS,qZ,Act.put,qT,qO,qN]
     refine step_ap (a:=⟨_,_⟩) (by rfl) (.tmp 32) (.tmp 39) 45 (by rfl) eiL w5.heap.size _ _ _ (by rfl) oAv7 _ _ _ _ _ (by rfl) (rd.out.below bv7) ?ga15 ?gb15 ?gc15 bv7.size ?_
     case ga15 => first | exact uvs_cells _ | (intro u hu; rw [List.mem_singleton] at hu; subst hu; rfl)
     case gb15 => unfold maxLen; omega
     case gc15 => omega
     intro V v9 oAv9 hgv9 hatv9
     (try rw [Nat.zero_add] at oAv9)
     obtain ⟨Av9,cv9,rfl⟩:=own_is oAv9
     have bv9:Below w5.heap.size w5 v9:=bv7.grown hgv9 bv7.size (fun k e => own_base oAv7 e)
     have oLv9:=own_keptN oLv7 fun b e => hgv9.block b (own_blockN oLv7 e) fun e2 => nev7 b e2.symm (by have e:some w5.heap.size = some b:=e; injection e with e; exact e.symm)
     have nev9:∀ b,(Value.slice Av9 _ cv9).ownBlock = some b -> b ≠ w5.heap.size:=fun b e => by
      rcases hatv9 with h6 | h6
      ·exact nev7 b (h6 ▸ e)
      ·rw [h6] at e
       injection e with e
       have e9:w5.heap.size < v7.heap.size:=own_blockN (b:=w5.heap.size) oLv7 rfl
       omega
     refine hK.out _ _ ((bv9.cell (p:=⟨R.b,2,none⟩) hRb).trans c2) (fun hHeld => ?_)
     clear hK K
     try simp only [qA,qS,qZ,Act.put,qT,qO,qN]
     refine wpAnyH_ready (rs:=[16]) (by kernel_rfl) (by simp) ?_
     refine AllReadyH.cons (o:=_) rfl (fun K hK => ?_) ?_
     ·try simp only [qA,qS,qZ,Act.put,qT,qO,qN]
      refine step_ap (a:=⟨_,_⟩) (by rfl) (.tmp 40) (.tmp 42) 45 (by rfl) eiL w5.heap.size _ _ _ (by rfl) oAv9 _ _ _ _ _ (by rfl) (Reads.of_own oLv9) ?ga16 ?gb16 ?gc16 bv9.size ?_
      case ga16 => first | exact uvs_cells _ | (intro u hu; rw [List.mem_singleton] at hu; subst hu; rfl)
      case gb16 => unfold maxLen; omega
      case gc16 => omega
      intro V v10 oAv10 hgv10 hatv10
      (try rw [Nat.zero_add] at oAv10)
      obtain ⟨Av10,cv10,rfl⟩:=own_is oAv10
      have bv10:Below w5.heap.size w5 v10:=bv9.grown hgv10 bv9.size (fun k e => own_base oAv9 e)
      refine hK.out _ _ ((bv10.cell (p:=⟨R.b,2,none⟩) hRb).trans c2) (fun hHeld => ?_)
      clear hK K
      try simp only [qA,qS,qZ,Act.put,qT,qO,qN]
      refine tkh (i:=17) (v:=?_) rfl ?_ ?_
      rotate_left
      ·try simp only [qA,qS,qZ]
       intro w hSw
       (try dsimp only at hSw)
       go_simp
       (try with_reducible rfl)
      try simp only [qA,qS,qZ,Act.put,qT,qO,qN]
      refine wpAnyH_ready (rs:=[18]) (by kernel_rfl) (by simp) ?_
      refine AllReadyH.cons (o:=_) rfl (fun K hK => ?_) ?_
      ·try simp only [qA,qS,qZ,Act.put,qT,qO,qN]
       have clv11:=(bv10.cell (p:=⟨R.gL,j,none⟩) hGl).trans cl
       have zzv11:Blk v10 R.gL 45 _:=(bv10.block R.gL hGl).trans GB
       have zfv11:=zzv11.frozen j
       replace zzv11:=Lib.hid zzv11
       go_simp
       refine hK.out _ _ ((World.cell?_setCell_far _ _ _ _ hne).trans ((bv10.cell (p:=⟨R.b,2,none⟩) hRb).trans c2)) (fun hHeld => ?_)
       clear hK K
       try simp only [qA,qS,qZ,Act.put,qT,qO,qN]
       clear clv11 zfv11 zzv11
       refine wpAnyH_done (by kernel_rfl) ?_ _
       refine NoPanic.normal ?_
       have T:=Lib.hid (fin.out v10 _ bv10 oAv10)
       go_wp2
       go_end0
       exact ⟨rfl,T.out⟩
      exact AllReadyH.nil
     exact AllReadyH.nil
    exact AllReadyH.nil
   exact AllReadyH.nil
  refine AllReadyH.cons (o:=_) rfl (fun K hK => ?_) ?_
  ·try simp only [qA,qS,qZ,Act.put,qT,qO,qN]
   have clv7:=(bv6.cell (p:=⟨R.gL,j,none⟩) hGl).trans cl
   go_simp
   refine hK.out _ _ ((bv6.cell (p:=⟨R.b,2,none⟩) hRb).trans c2) (fun hHeld => ?_)
   clear hK K
   try simp only [qA,qS,qZ,Act.put,qT,qO,qN]
   clear clv7
   refine wpAnyH_ready (rs:=[5]) (by kernel_rfl) (by simp) ?_
   refine AllReadyH.cons (o:=_) rfl (fun K hK => ?_) ?_
   ·try simp only [qA,qS,qZ,Act.put,qT,qO,qN]
    go_simp
    obtain ⟨v8,hv8⟩:∃ x,x = World.alloc v6 (.cells #[] 26):=⟨_,rfl⟩
    have bv8:Below w5.heap.size w5 v8:=by rw [hv8]; exact bv6.alloc bv6.size _
    have sv8:=Lib.hid (show v8.heap.size = v6.heap.size + 1 by rw [hv8]; exact World.size_alloc _ _)
    have oAv8:=own_zero v6 w5.heap.size bv6.size
    rw [<- hv8] at oAv8
    have oLv8:=World.ownsRow.alloc oLv6 (.cells #[] 26)
    rw [<- hv8] at oLv8
    have nev8:∀ b,(Value.slice (some ⟨v6.heap.size,0,none⟩) 0 0).ownBlock = some b -> b ≠ w5.heap.size:=fun b e => by
     have e:some v6.heap.size = some b:=e
     injection e with e
     have e9:w5.heap.size < v6.heap.size:=own_blockN (b:=w5.heap.size) oLv6 rfl
     omega
    rw [<- hv8]
    clear hv8
    refine hK.out _ _ ((bv8.cell (p:=⟨R.b,2,none⟩) hRb).trans c2) (fun hHeld => ?_)
    clear hK K
    try simp only [qA,qS,qZ,Act.put,qT,qO,qN]
    refine wpAnyH_ready (rs:=[13]) (by kernel_rfl) (by simp) ?_
    refine AllReadyH.cons (o:=_) rfl (fun K hK => ?_) ?_
    ·try simp only [qA,qS,qZ,Act.put,qT,qO,qN]
     refine step_ap (a:=⟨_,_⟩) (by rfl) (.tmp 32) (.tmp 39) 45 (by rfl) eiL w5.heap.size _ _ _ (by rfl) oAv8 _ _ _ _ _ (by rfl) (rd.out.below bv8) ?ga17 ?gb17 ?gc17 bv8.size ?_
     case ga17 => first | exact uvs_cells _ | (intro u hu; rw [List.mem_singleton] at hu; subst hu; rfl)
     case gb17 => unfold maxLen; omega
     case gc17 => omega
     intro V v9 oAv9 hgv9 hatv9
     (try rw [Nat.zero_add] at oAv9)
     obtain ⟨Av9,cv9,rfl⟩:=own_is oAv9
     have bv9:Below w5.heap.size w5 v9:=bv8.grown hgv9 bv8.size (fun k e => own_base oAv8 e)
     have oLv9:=own_keptN oLv8 fun b e => hgv9.block b (own_blockN oLv8 e) fun e2 => nev8 b e2.symm (by have e:some w5.heap.size = some b:=e; injection e with e; exact e.symm)
     have nev9:∀ b,(Value.slice Av9 _ cv9).ownBlock = some b -> b ≠ w5.heap.size:=fun b e => by
      rcases hatv9 with h6 | h6
      ·exact nev8 b (h6 ▸ e)
      ·rw [h6] at e
       injection e with e
       have e9:w5.heap.size < v8.heap.size:=own_blockN (b:=w5.heap.size) oLv8 rfl
       omega
     refine hK.out _ _ ((bv9.cell (p:=⟨R.b,2,none⟩) hRb).trans c2) (fun hHeld => ?_)
     clear hK K
     try simp only [qA,qS,qZ,Act.put,qT,qO,qN]
     refine wpAnyH_ready (rs:=[16]) (by kernel_rfl) (by simp) ?_
     refine AllReadyH.cons (o:=_) rfl (fun K hK => ?_) ?_
     ·try simp only [qA,qS,qZ,Act.put,qT,qO,qN]
      refine step_ap (a:=⟨_,_⟩) (by rfl) (.tmp 40) (.tmp 42) 45 (by rfl) eiL w5.heap.size _ _ _ (by rfl) oAv9 _ _ _ _ _ (by rfl) (Reads.of_own oLv9) ?ga18 ?gb18 ?gc18 bv9.size ?_
      case ga18 => first | exact uvs_cells _ | (intro u hu; rw [List.mem_singleton] at hu; subst hu; rfl)
      case gb18 => unfold maxLen; omega
      case gc18 => omega
      intro V v10 oAv10 hgv10 hatv10
      (try rw [Nat.zero_add] at oAv10)
      obtain ⟨Av10,cv10,rfl⟩:=own_is oAv10
      have bv10:Below w5.heap.size w5 v10:=bv9.grown hgv10 bv9.size (fun k e => own_base oAv9 e)
      refine hK.out _ _ ((bv10.cell (p:=⟨R.b,2,none⟩) hRb).trans c2) (fun hHeld => ?_)
      clear hK K
      try simp only [qA,qS,qZ,Act.put,qT,qO,qN]
      refine tkh (i:=17) (v:=?_) rfl ?_ ?_
      rotate_left
      ·try simp only [qA,qS,qZ]
       intro w hSw
       (try dsimp only at hSw)
       go_simp
       (try with_reducible rfl)
      try simp only [qA,qS,qZ,Act.put,qT,qO,qN]
      refine wpAnyH_ready (rs:=[18]) (by kernel_rfl) (by simp) ?_
      refine AllReadyH.cons (o:=_) rfl (fun K hK => ?_) ?_
      ·try simp only [qA,qS,qZ,Act.put,qT,qO,qN]
       have clv11:=(bv10.cell (p:=⟨R.gL,j,none⟩) hGl).trans cl
       have zzv11:Blk v10 R.gL 45 _:=(bv10.block R.gL hGl).trans GB
       have zfv11:=zzv11.frozen j
       replace zzv11:=Lib.hid zzv11
       go_simp
       refine hK.out _ _ ((World.cell?_setCell_far _ _ _ _ hne).trans ((bv10.cell (p:=⟨R.b,2,none⟩) hRb).trans c2)) (fun hHeld => ?_)
       clear hK K
       try simp only [qA,qS,qZ,Act.put,qT,qO,qN]
       clear clv11 zfv11 zzv11
       refine wpAnyH_done (by kernel_rfl) ?_ _
       refine NoPanic.normal ?_
       have T:=Lib.hid (fin.out v10 _ bv10 oAv10)
       go_wp2
       go_end0
       exact ⟨rfl,T.out⟩
      exact AllReadyH.nil
     exact AllReadyH.nil
    exact AllReadyH.nil
   exact AllReadyH.nil
  exact AllReadyH.nil
 exact AllReadyH.nil
end
theorem own_down {w:World} {N B n:Nat} {e:TypeId} {v:Value} {xs:List Value} (h:w.ownsRow B e 1 v n xs) (hN:N <= B):w.ownsRow N e 1 v n xs :=
 ⟨h.1,h.2.imp id fun ⟨g,cap,cur,e1,hB,hh⟩ => ⟨g,cap,cur,e1,by omega,hh⟩⟩
theorem went6_draw {w w5 w':World} {R R':R6} {n:Nat} (m:Nat) (e:w5 = w.drewN m) (h:Went6 w5 w' R R' n):Went6 w w' R R' n:=by
 subst e
 exact ⟨⟨h.only.os,h.only.tape,h.only.output,h.only.size,h.only.block⟩,h.foot,h.gl⟩
theorem went6_refl {w:World} {R:R6} {n:Nat} (m:Nat):Went6 w (w.drewN m) R R n:=⟨⟨rfl,rfl,rfl,Nat.le_refl _,fun _ _ _ => rfl⟩,fun b h => .inl h,rfl⟩
theorem went6_trans {w w1 w2:World} {R R1 R2:R6} {n:Nat} (h:Went6 w w1 R R1 n) (k:Went6 w1 w2 R1 R2 n):Went6 w w2 R R2 n :=
 ⟨h.only.trans k.only fun x hx hf => (h.foot x hf).resolve_right (by omega),fun b hb => (k.foot b hb).elim (h.foot b) fun hb => .inr (Nat.le_trans h.only.size hb),k.gl.trans h.gl⟩
theorem erase_at (l1 l2:List Nat) (H:Nat):(l1 ++ H :: l2).eraseIdx l1.length = l1 ++ l2:=by
 rw [List.eraseIdx_append_of_length_le (Nat.le_refl _),Nat.sub_self]
 rfl
section
variable (w:World) (R:R6) (mb:Nat) (c:Conf) (laid:List Nat) (Ls:Nat -> Nat -> List Nat) (h:R6At w R mb (3 * c.nc) laid (rows6 Ls)) (hnc:c.nc <= 62) (hll:∀ x k,x < c.nc -> k < 3 -> (Ls x k).length <= 1073741823) (H:Nat)
include h hnc hll
theorem drop6No (hb:∀ x k,x < c.nc -> k < 3 -> H ∉ Ls x k):Calls Tryz.prog 33 #[.pointer (some ⟨R.b,0,none⟩),.int .u64 (H:Int)] w fun e w' => e = .returned (.int .i64 20) /\ w = w':=by
 have WC:=Lib.hid (where6No w R mb c laid Ls h hnc (fun x k hx hk => Nat.le_succ_of_le (hll x k hx hk)) H hb)
 clear h hll hb
 go_enter Tryz.func33,Tryz.ntmps33
 go_wp2_with fail
 refine WC.out.mono ?_
 rintro e w' ⟨rfl,rfl⟩
 go_wp2
 go_ret
 exact ⟨rfl,rfl⟩
set_option maxHeartbeats 1600000 in
theorem drop6Yes {X k:Nat} {l1 l2:List Nat} (ha:At6 c Ls H X k l1 l2):Calls Tryz.prog 33 #[.pointer (some ⟨R.b,0,none⟩),.int .u64 (H:Int)] w fun e w' => e = .returned (.int .i64 0) /\ ∃ R',R'.b = R.b /\ Went6 w w' R R' (3 * c.nc) /\ R6At w' R' mb (3 * c.nc) laid (rows6 (updL Ls X k (l1 ++ l2))):=by
 have WC:=where6 w R mb c laid Ls h hnc (fun x k hx hk => Nat.le_succ_of_le (hll x k hx hk)) H ha
 obtain ⟨hX,hk,hl,hn1,hu⟩:=ha
 have hj : 3 * X + k < 3 * c.nc:=by omega
 have eL:=rows6_at Ls (X:=X) hk
 have hlb:=hll X k hX hk
 have eU:=rows6_upd Ls X k hk (l1 ++ l2)
 rw [<- eU]
 rw [<- eL] at hlb hl
 generalize rows6 Ls = lists at *
 generalize 3 * X + k = j at *
 generalize hn : 3 * c.nc = n at *
 obtain ⟨q,hq⟩:∃ q,q = l1.length:=⟨_,rfl⟩
 rw [<- hq] at WC
 have hq1:q <= 1073741823:=by rw [hq]; rw [hl,List.length_append] at hlb; omega
 have dj:decide ((j:Int) < 0) = false:=decide_eq_false (by omega)
 have el:(lists j).eraseIdx q = l1 ++ l2:=by rw [hl,hq]; exact erase_at l1 l2 H
 clear hq hl
 generalize l1 ++ l2 = l at *
 replace WC:=Lib.hid WC
 replace h:=Lib.hid h
 replace el:=Lib.hid el
 clear hll eL eU hX hu hn1
 go_enter Tryz.func33,Tryz.ntmps33
 go_wp2_with fail
 refine WC.out.mono ?_
 rintro e w' ⟨rfl,rfl⟩
 go_upto_region 4 with fail
 obtain ⟨w5,hw5⟩:∃ w5,w5 = w.drew:=⟨_,rfl⟩
 have h5:R6At w5 R mb n laid lists:=by rw [hw5]; exact h.out.drew
 obtain ⟨K,cp,A,r5⟩:=h5.reg hj
 obtain ⟨c2,hRb,⟨cs,GB⟩,hGl,hne,rd⟩:=r5.facts
 have cl:=r5.cl
 have hK':K <= 1073741823:=by rw [<- r5.len]; exact hlb
 have bw5:=Below.refl w5.heap.size w5
 have j0:(0:Int) <= (j:Int):=by omega
 have j1:(j:Int) < (n:Int):=by omega
 have wo:∀ v,Below w5.heap.size w5 v -> Calls Tryz.prog 79 #[.slice A K cp,.int .i64 (q:Int)] v fun e w' => ∃ A' cp',e = .returned (.slice A' l.length cp') /\ Below v.heap.size v w' /\ w'.ownsRow v.heap.size 26 1 (.slice A' l.length cp') l.length (l.map uv):=by
  intro v hv
  have o:=own_keptN r5.own fun b e => hv.block b (own_blockN r5.own e)
  have:=withoutC v 0 cp A (lists j) (by rw [r5.len]; exact o) (by rw [r5.len]; omega) q
  rw [el.out,r5.len] at this
  exact this
 have fin:∀ w6 V,Below w5.heap.size w5 w6 -> w6.ownsRow w5.heap.size 26 1 V l.length (l.map uv) -> ∃ R',R'.b = R.b /\ Went6 w (w6.setCell ⟨R.gL,j,none⟩ V) R R' n /\ R6At (w6.setCell ⟨R.gL,j,none⟩ V) R' mb n laid (upd lists j l):=by
  intro w6 V b6 o6
  obtain ⟨a1,a2⟩:=h5.setRow hj (l:=l) b6 o6
  exact ⟨{ R with F:=upd R.F j V },rfl,went6_draw 1 hw5 a2,a1⟩
 replace rd:=Lib.hid rd
 replace fin:=Lib.hid fin
 replace wo:=Lib.hid wo
 clear r5 h5 h
 refine wp_region_noPanic ?_
 refine wp_region_held_drew (S:=fun w' => w'.cell? ⟨R.b,2,none⟩ = some (.slice (some ⟨R.gL,0,none⟩) n n)) (by kernel_rfl) (by rw [<- hw5]; exact c2) (fun hHeld => ?_)
 rw [<- hw5] at hHeld ⊢
 clear hw5
 refine tkh (i:=0) (v:=?_) rfl ?_ ?_
 rotate_left
 ·try simp only [qA,qS,qZ]
  intro w hSw
  (try dsimp only at hSw)
  go_simp
  (try with_reducible rfl)
 try simp only [qA,qS,qZ,Act.put,qT,qO,qN]
 refine tkh (i:=1) (v:=?_) rfl ?_ ?_
 rotate_left
 ·try simp only [qA,qS,qZ]
  intro w hSw
  (try dsimp only at hSw)
  go_simp
  (try with_reducible rfl)
 try simp only [qA,qS,qZ,Act.put,qT,qO,qN]
 refine tkh (i:=2) (v:=?_) rfl ?_ ?_
 rotate_left
 ·try simp only [qA,qS,qZ]
  intro w hSw
  (try dsimp only at hSw)
  go_simp
  (try with_reducible rfl)
 try simp only [qA,qS,qZ,Act.put,qT,qO,qN]
 refine tkh (i:=3) (v:=?_) rfl ?_ ?_
 rotate_left
 ·try simp only [qA,qS,qZ]
  intro w hSw
  (try dsimp only at hSw)
  go_simp
  (try with_reducible rfl)
 try simp only [qA,qS,qZ,Act.put,qT,qO,qN]
 refine tkh (i:=4) (v:=?_) rfl ?_ ?_
 rotate_left
 ·try simp only [qA,qS,qZ]
  intro w hSw
  (try dsimp only at hSw)
  go_simp
  (try with_reducible rfl)
 try simp only [qA,qS,qZ,Act.put,qT,qO,qN]
 refine tkh (i:=5) (v:=?_) rfl ?_ ?_
 rotate_left
 ·try simp only [qA,qS,qZ]
  intro w hSw
  (try dsimp only at hSw)
  go_simp
  (try with_reducible rfl)
 try simp only [qA,qS,qZ,Act.put,qT,qO,qN]
 refine tkh (i:=6) (v:=?_) rfl ?_ ?_
 rotate_left
 ·try simp only [qA,qS,qZ]
  intro w hSw
  (try dsimp only at hSw)
  go_simp
  (try with_reducible rfl)
 try simp only [qA,qS,qZ,Act.put,qT,qO,qN]
 refine tkh (i:=7) (v:=?_) rfl ?_ ?_
 rotate_left
 ·try simp only [qA,qS,qZ]
  intro w hSw
  (try dsimp only at hSw)
  go_simp
  (try with_reducible rfl)
 try simp only [qA,qS,qZ,Act.put,qT,qO,qN]
 refine tkh (i:=8) (v:=?_) rfl ?_ ?_
 rotate_left
 ·try simp only [qA,qS,qZ]
  intro w hSw
  (try dsimp only at hSw)
  go_simp
  (try with_reducible rfl)
 try simp only [qA,qS,qZ,Act.put,qT,qO,qN]
 refine tkh (i:=9) (v:=?_) rfl ?_ ?_
 rotate_left
 ·try simp only [qA,qS,qZ]
  intro w hSw
  (try dsimp only at hSw)
  go_simp
  (try with_reducible rfl)
 try simp only [qA,qS,qZ,Act.put,qT,qO,qN]
 refine tkh (i:=10) (v:=?_) rfl ?_ ?_
 rotate_left
 ·try simp only [qA,qS,qZ]
  intro w hSw
  (try dsimp only at hSw)
  go_simp
  (try with_reducible rfl)
 try simp only [qA,qS,qZ,Act.put,qT,qO,qN]
 refine tkh (i:=12) (v:=?_) rfl ?_ ?_
 rotate_left
 ·try simp only [qA,qS,qZ]
  intro w hSw
  (try dsimp only at hSw)
  go_simp
  (try with_reducible rfl)
 try simp only [qA,qS,qZ,Act.put,qT,qO,qN]
 refine wpAnyH_ready (rs:=[11]) (by kernel_rfl) (by simp) ?_
 refine AllReadyH.cons (o:=_) rfl (fun K hK => ?_) ?_
 ·try simp only [qA,qS,qZ,Act.put,qT,qO,qN]
  have clv6:=(bw5.cell (p:=⟨R.gL,j,none⟩) hGl).trans cl
  go_simp
  refine hK.out _ _ ((bw5.cell (p:=⟨R.b,2,none⟩) hRb).trans c2) (fun hHeld => ?_)
  clear hK K
  try simp only [qA,qS,qZ,Act.put,qT,qO,qN]
  clear clv6
  refine wpAnyH_ready (rs:=[13]) (by kernel_rfl) (by simp) ?_
  refine AllReadyH.cons (o:=_) rfl (fun K hK => ?_) ?_
  ·try simp only [qA,qS,qZ,Act.put,qT,qO,qN]
   go_simp
   go_at_call 79
   refine (wo.out w5 bw5).mono ?_
   rintro e v7 ⟨Av7,cv7,rfl,bbv7,oov7⟩
   have bv7:Below w5.heap.size w5 v7:=bw5.trans (bbv7.mono bw5.size)
   have oAv7:=own_down oov7 bw5.size
   clear bbv7 oov7
   go_wp2_with fail
   refine hK.out _ _ ((bv7.cell (p:=⟨R.b,2,none⟩) hRb).trans c2) (fun hHeld => ?_)
   clear hK K
   try simp only [qA,qS,qZ,Act.put,qT,qO,qN]
   refine tkh (i:=14) (v:=?_) rfl ?_ ?_
   rotate_left
   ·try simp only [qA,qS,qZ]
    intro w hSw
    (try dsimp only at hSw)
    go_simp
    (try with_reducible rfl)
   try simp only [qA,qS,qZ,Act.put,qT,qO,qN]
   refine wpAnyH_ready (rs:=[15]) (by kernel_rfl) (by simp) ?_
   refine AllReadyH.cons (o:=_) rfl (fun K hK => ?_) ?_
   ·try simp only [qA,qS,qZ,Act.put,qT,qO,qN]
    have clv8:=(bv7.cell (p:=⟨R.gL,j,none⟩) hGl).trans cl
    have zzv8:Blk v7 R.gL 45 _:=(bv7.block R.gL hGl).trans GB
    have zfv8:=zzv8.frozen j
    replace zzv8:=Lib.hid zzv8
    go_simp
    refine hK.out _ _ ((World.cell?_setCell_far _ _ _ _ hne).trans ((bv7.cell (p:=⟨R.b,2,none⟩) hRb).trans c2)) (fun hHeld => ?_)
    clear hK K
    try simp only [qA,qS,qZ,Act.put,qT,qO,qN]
    clear clv8 zfv8 zzv8
    refine wpAnyH_done (by kernel_rfl) ?_ _
    refine NoPanic.normal ?_
    have T:=Lib.hid (fin.out v7 _ bv7 oAv7)
    go_wp2
    go_ret
    exact ⟨rfl,T.out⟩
   exact AllReadyH.nil
  exact AllReadyH.nil
 exact AllReadyH.nil
end
end Go.Proofs.YtfjiphibalhcgaaGreat.Que
