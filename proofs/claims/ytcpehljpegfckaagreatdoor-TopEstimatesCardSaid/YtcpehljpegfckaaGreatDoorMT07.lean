/- Texts of this claim,joined: KB,KG,JB. -/
import Derived.Test.YtcpehljpegfckaaGreatDoorChecked
import Derived.Test.YtcpehljpegfckaaGreatDoorMT05
import Derived.Test.YtcpehljpegfckaaGreatDoorMT06
import Derived.Lib.Hide
import Derived.Handy
import Derived.Deep.LoopGhost
import Derived.WalkLawsBesides
import Derived.WalkSpells
/- The ground for the chapter on sums: contracts,lists in memory,rows of one's own. -/
namespace Go.Proofs.YtcpehljpegfckaaGreatDoor
section
open Go.RowKit
def AtN (N:Nat) (w:World) (a:Option Addr) (xs:List Value):Prop:=∀ i v,xs[i]?=some v→∃ b o,b<N∧a=some ⟨b,o,none⟩∧w.cell? ⟨b,o+i,none⟩=some v
theorem AtN.below {N M:Nat} {w w':World} {a:Option Addr} {xs:List Value} (h:AtN N w a xs) (hb:Below M w w') (hM:N≤M):AtN N w' a xs:=fun i v hi=>by
 obtain ⟨b,o,h1,ha,hc⟩:=h i v hi
 exact ⟨b,o,h1,ha,Q8 hb (by omega) hc⟩
theorem AtN.mono {N M:Nat} {w:World} {a:Option Addr} {xs:List Value} (h:AtN N w a xs) (hM:N≤M):AtN M w a xs:=fun i v hi=>by
 obtain ⟨b,o,h1,ha,hc⟩:=h i v hi
 exact ⟨b,o,by omega,ha,hc⟩
theorem AtN.base {N:Nat} {w:World} {a:Option Addr} {xs:List Value} (h:AtN N w a xs) (h0:0<xs.length):∃ b o,b<N∧a=some ⟨b,o,none⟩∧∀ i v,xs[i]?=some v→w.cell? ⟨b,o+i,none⟩=some v:=by
 obtain ⟨b,o,h1,ha,_⟩:=h 0 xs[0] (List.getElem?_eq_getElem h0)
 refine ⟨b,o,h1,ha,fun i v hi=>?_⟩
 obtain ⟨b',o',_,ha',hc⟩:=h i v hi
 rw [ha] at ha'
 cases ha'
 exact hc
theorem Kl {B:Nat} {w x:World} (h:Below B w x) {b o:Nat} {v:Value} (hc:w.cell? ⟨b,o,none⟩=some v) (hb:b<B) (p:Extra):(plus x p).cell? ⟨b,o,none⟩=some v :=
 Ou (Q8 h hb hc) (block_lt_of_cell (Q8 h hb hc)) p
def inW (w:World):Blocks:=fun g=>w.heap[g]?
theorem RowB.of {B B':Blocks} {E:TypeId} {size g n cap:Nat} {xs:List Value} {cur:Array Value} (h:RowB B E size g n cap xs cur) (hb:B' g=some (.cells cur E (0,0))):RowB B' E size g n cap xs cur:=⟨hb,h.le,h.mx,h.sz,h.tk,h.len⟩
theorem Q4 {w x:World} (h:Below w.heap.size w x):Behind w [] x:=⟨h.os,h.tape,h.output,h.size,fun k hk _=>h.block k hk⟩
theorem Behind.mono {w x:World} {Wr Wr':List Nat} (h:Behind w Wr x) (hW:∀ k∈Wr,k∈Wr'):Behind w Wr' x:=⟨h.os,h.tape,h.output,h.size,fun k hk hn=>h.block k hk fun hm=>hn (hW k hm)⟩
theorem RowV.own {w:World} {base:Nat} {E:TypeId} {size:Nat} {v:Value} {n:Nat} {xs:List Value} (h:RowV (inW w) E size v n xs) (hb:∀ g∈Q7 v,base≤g):w.ownsRow base E size v n xs:=by
 cases h with
 | nil=>exact ⟨by simp,.inl ⟨rfl,rfl⟩⟩
 | row h=>exact ⟨h.len,.inr ⟨_,_,_,rfl,hb _ (by simp [Q7]),h.blk,h.le,h.mx,h.sz,h.tk⟩⟩
theorem RowV.of_own {w:World} {base:Nat} {E:TypeId} {size:Nat} {v:Value} {n:Nat} {xs:List Value} (h:w.ownsRow base E size v n xs):RowV (inW w) E size v n xs∧∀ g∈Q7 v,base≤g:=by
 obtain ⟨h0,⟨rfl,rfl⟩ | ⟨g,cap,cur,rfl,h1,h2,h3,h4,h5,h6⟩⟩:=h
 ·obtain rfl:xs=[]:=by simpa using h0
  exact ⟨.nil,by simp [Q7]⟩
 ·exact ⟨.row ⟨h2,h3,h4,h5,h6,h0⟩,by simpa [Q7] using h1⟩
theorem RowV.keep {w w':World} {E:TypeId} {size:Nat} {v:Value} {n:Nat} {xs:List Value} {M:List Nat} (h:RowV (inW w) E size v n xs) (hb:Behind w M w') (hd:∀ g∈Q7 v,g∉M):RowV (inW w') E size v n xs:=by
 cases h with
 | nil=>exact .nil
 | row h=>exact .row (h.of (B':=inW w') (hb.keep h.blk (hd _ (by simp [Q7]))))
theorem RowV.lt {w:World} {E:TypeId} {size:Nat} {v:Value} {n:Nat} {xs:List Value} (h:RowV (inW w) E size v n xs):∀ g∈Q7 v,g<w.heap.size:=by
 cases h with
 | nil=>simp [Q7]
 | row h =>
  intro g hg
  obtain rfl:g=_:=by simpa [Q7] using hg
  exact Q9 (show w.heap[_]?=_ from h.blk)
theorem RowV.slice {B:Blocks} {E:TypeId} {size:Nat} {v:Value} {n:Nat} {xs:List Value} (h:RowV B E size v n xs):∃ p c,v = .slice p n c:=by
 cases h with
 | nil=>exact ⟨_,_,rfl⟩
 | row h=>exact ⟨_,_,rfl⟩
theorem RowV.length {B:Blocks} {E:TypeId} {size:Nat} {v:Value} {n:Nat} {xs:List Value} (h:RowV B E size v n xs):xs.length=n*size:=by
 cases h with
 | nil=>simp
 | row h=>exact h.len
structure OwnI (w:World) (b:Nat) (M:List Nat) (v:Value) (xs:List Int):Prop where
 row:RowV (inW w) 3 1 v xs.length (Qm xs)
 ge:∀ g∈Q7 v,b≤g
 out:∀ g∈Q7 v,g∉M
structure Step (M:List Nat) (w:World) (M':List Nat) (w':World):Prop where
 beh:Behind w M w'
 new:∀ g∈M',g∈M∨w.heap.size≤g
theorem Step.refl (M:List Nat) (w:World):Step M w M w:=⟨Behind.refl _ _,fun _ h=>.inl h⟩
theorem Step.trans {M M' M'':List Nat} {w w' w'':World} (h:Step M w M' w') (k:Step M' w' M'' w''):Step M w M'' w'' :=
 ⟨h.beh.trans k.beh h.new,fun g hg=>(k.new g hg).elim (h.new g) (fun e=>.inr (Nat.le_trans h.beh.size e))⟩
theorem Step.keep {M M':List Nat} {w w':World} (h:Step M w M' w') {g:Nat} {o:Obj} (hg:w.heap[g]?=some o) (hn:g∉M):w'.heap[g]?=some o:=h.beh.keep hg hn
theorem Step.out {M M':List Nat} {w w':World} (h:Step M w M' w') {g:Nat} (hg:g<w.heap.size) (hn:g∉M):g∉M':=fun hm=>(h.new g hm).elim hn (fun e=>by omega)
theorem Step.below {M M':List Nat} {w w':World} (h:Step M w M' w') {b:Nat} (hM:∀ g∈M,b≤g) (hb:b≤w.heap.size):Below b w w':=h.beh.below_of hM hb
theorem OwnI.step {M M':List Nat} {w w':World} {b:Nat} {v:Value} {xs:List Int} (h:OwnI w b M v xs) (k:Step M w M' w'):OwnI w' b M' v xs :=
 ⟨h.row.keep k.beh h.out,h.ge,fun g hg=>k.out (h.row.lt g hg) (h.out g hg)⟩
theorem Q2a {P:Program} (w:World) (t ty E:TypeId) (i:TypeInfo) (z:Value) (size bytes:Nat) (ht:P.underlying t=some (.slice E)) (hi:P.info? E=some i) (hz:i.zero=some z) (hsize:i.size=size) (hby:i.bytes=bytes) (hzs:z.cells.size=size)
  (v:Value) (n:Nat) (xs:List Value) (hrow:RowV (inW w) E size v n xs) (g2 m c2:Nat) (news:List Value) (E2:TypeId) (hn2:w.heap[g2]?=some (.cells news.toArray E2 (0,0))) (hl:news.length=m*size) (h1:∀ u∈news,u.oneCell'=true) (h0:0<m)
  (h63:n+m≤maxLen) (hbytes:(n+m)*bytes≤140737488355328) :
  ∃ v' w',(Builtin.append_ #[t,t] ty #[v,.slice (some ⟨g2,0,none⟩) m c2]).run P w = .ok v' w'∧RowV (inW w') E size v' (n+m) (xs++news)∧Behind w (Q7 v) w'∧∀ g∈Q7 v',g∈Q7 v∨w.heap.size≤g:=by
 subst hsize hby
 have hnews:∀ j u,news[j]?=some u→w.cell? ((⟨g2,0,none⟩:Addr).add j)=some u:=fun j u hj=>by
  rw [Addr.add_lit,Nat.zero_add]
  exact Q5 hn2 j (v:=u) (by simpa using hj)
 cases hrow with
 | nil =>
  have hr:=run_append_nil (P:=P) w t ty E i z ht hi hz ⟨g2,0,none⟩ m c2 news hl hnews h0 (by simp only [maxLen] at h63;omega) (by rw [Nat.zero_add] at hbytes;omega)
  have hge:=grownCap_ge w m 0 E
  simp only [Nat.zero_add,List.nil_append] at *
  refine ⟨_,_,hr,.row ⟨heap_alloc_new w.drew _,hge,grownCap_le_maxLen w m 0 E h63,?_,?_,hl⟩,Q4 ((Below.refl _ w).drew.alloc (by simp) _),fun g hg=>.inr ?_⟩
  ·simp only [Array.size_append,List.size_toArray,size_zeroCells,hzs,hl,←Nat.add_mul]
   congr 1
   omega
  ·simp only [Array.toList_append]
   rw [←hl]
   exact List.take_left
  ·have:g=w.heap.size:=by simpa [Q7] using hg
   omega
 | @row g n cap xs cur hrow =>
  have hb:=hrow.blk
  have holds:∀ j u,xs[j]?=some u→w.cell? ((⟨g,0,none⟩:Addr).add j)=some u:=fun j u hj=>by
   have hj':cur[j]?=some u:=by
    rw [←hrow.tk,List.getElem?_take] at hj
    split at hj
    ·simpa using hj
    ·cases hj
   rw [Addr.add_lit,Nat.zero_add]
   exact Q5 hb j hj'
  have hlen:(xs++news).length=(n+m)*i.size:=by rw [List.length_append,hrow.len,hl,Nat.add_mul]
  by_cases hroom:n+m≤cap
  ·have hfit:n*i.size+news.length≤cur.size:=by rw [hl,hrow.sz,←Nat.add_mul];exact Nat.mul_le_mul_right _ hroom
   have hr:=run_append_room (P:=P) w t ty E i ht hi g n cap cur hb ⟨g2,0,none⟩ m c2 news hl hnews h1 hroom hfit
   refine ⟨_,_,hr,.row ⟨setRow_heap w g cur _ E _ hb,hroom,hrow.mx,?_,?_,hlen⟩,⟨rfl,rfl,rfl,by simp,fun k' _ hk'=>setRow_other w g k' _ (by simpa [Q7] using hk')⟩,fun g' hg=>.inl (by simpa [Q7] using hg)⟩
   ·simp only [List.size_toArray,List.length_append,List.length_take,List.length_drop,Array.length_toList]
    have:=hrow.sz
    omega
   ·simp only 
    rw [hrow.tk,←hlen]
    exact List.take_left
  ·have hr:=run_append_grow (P:=P) w t ty E i z ht hi hz ⟨g,0,none⟩ n cap xs hrow.len holds ⟨g2,0,none⟩ m c2 news hl hnews (by omega) (by simp only [maxLen] at h63;omega) (growslice_fits (by omega) hbytes)
   refine ⟨_,_,hr,.row ⟨heap_alloc_new w.drew _,grownCap_ge w (n+m) cap E,grownCap_le_maxLen w (n+m) cap E h63,?_,?_,hlen⟩,(Q4 ((Below.refl _ w).drew.alloc (by simp) _)).mono (by simp),fun g' hg=>.inr ?_⟩
   ·have:=grownCap_ge w (n+m) cap E
    simp only [Array.size_append,List.size_toArray,size_zeroCells,hzs,hrow.len,hl,←Nat.add_mul]
    congr 1
    omega
   ·simp only [Array.toList_append,List.append_assoc]
    rw [←List.append_assoc,←hlen]
    exact List.take_left
   ·have:g'=w.heap.size:=by simpa [Q7] using hg
    omega
theorem Jp {P:Program} {ops:Array Oper} {rest:List Oper} {o:Oper} {a:Act} {Q:Exit→Act→World→Prop} (w:World) (hgd:o.guard=none) (s x:Operand) (t:TypeId) (ho:o.op = .call { callee:=.builtin .append,args:=#[s,x],argTypes:=#[t,t] })
  (E:TypeId) (i:TypeInfo) (z:Value) (size bytes:Nat) (ht:P.underlying t=some (.slice E)) (hi:P.info? E=some i) (hz:i.zero=some z) (hsize:i.size=size) (hby:i.bytes=bytes) (hzs:z.cells.size=size)
  (v:Value) (n:Nat) (xs:List Value) (hs:a.eval s=v) (hrow:RowV (inW w) E size v n xs) (g2 m c2:Nat) (news:List Value) (E2:TypeId) (hx:a.eval x = .slice (some ⟨g2,0,none⟩) m c2) (hn2:w.heap[g2]?=some (.cells news.toArray E2 (0,0))) (hl:news.length=m*size) (h1:∀ u∈news,u.oneCell'=true) (h0:0<m)
  (h63:n+m≤maxLen) (hbytes:(n+m)*bytes≤140737488355328)
  (h:∀ v' w',RowV (inW w') E size v' (n+m) (xs++news)→Behind w (Q7 v) w'→(∀ g∈Q7 v',g∈Q7 v∨w.heap.size≤g)→wpList P ops Q rest (a.put o.dst v') w'):wpList P ops Q (o::rest) a w:=by
 refine wpList_plain hgd fun _ hK=>?_
 obtain ⟨v',w',hr,h2,h3,h4⟩:=Q2a (P:=P) w t o.type E i z size bytes ht hi hz hsize hby hzs v n xs hrow g2 m c2 news E2 hn2 hl h1 h0 h63 hbytes
 unfold Oper.wp execOp
 simp only [ho,resolve,invoke,builtin,Sem.run_bind,Sem.run_pure,Result.andThen_ok,List.map_toArray,List.map_cons,List.map_nil,hs,hx,hr]
 exact hK _ _ (h v' w' h2 h3 h4)
theorem OwnI.mono {w:World} {b b':Nat} {M:List Nat} {v:Value} {xs:List Int} (h:OwnI w b M v xs) (hb:b'≤b):OwnI w b' M v xs:=⟨h.row,fun g hg=>Nat.le_trans hb (h.ge g hg),h.out⟩
theorem OwnI.grown {w w':World} {b:Nat} {M:List Nat} {v v':Value} {xs:List Int} {d:Int} (h:OwnI w b M v xs) (hb:b≤w.heap.size) (hM:∀ g∈M,g<w.heap.size)
  (hr:RowV (inW w') 3 1 v' (xs.length+1) (Qm xs++[.int .i64 d])) (hn:∀ g∈Q7 v',g∈Q7 v∨w.heap.size≤g):OwnI w' b M v' (xs++[d]):=by
 refine ⟨?_,fun g hg=>(hn g hg).elim (h.ge g) (fun e=>by omega),fun g hg hm=>(hn g hg).elim (fun e=>h.out g e hm) (fun e=>by have:=hM g hm;omega)⟩
 have e:Qm (xs++[d])=Qm xs++[.int .i64 d]:=by simp [Qm]
 rw [e,List.length_append]
 exact hr
theorem OwnI.new {w:World} {b:Nat} {M:List Nat} (xs:List Int) (hb:b≤w.heap.size) (hM:∀ g∈M,g<w.heap.size) (hl:xs.length≤1000) :
  OwnI (w.alloc (.cells (Qm xs).toArray 3 (0,0))) b M (.slice (some ⟨w.heap.size,0,none⟩) xs.length xs.length) xs:=by
 refine ⟨.row (cur:=(Qm xs).toArray) ⟨heap_alloc_new w _,Nat.le_refl _,by unfold maxLen;omega,by simp [Qm],List.take_of_length_le (by simp [Qm]),by simp [Qm]⟩,fun g hg=>?_,fun g hg hm=>?_⟩
 ·have:g=w.heap.size:=by simpa [Q7] using hg
  omega
 ·have h1:g=w.heap.size:=by simpa [Q7] using hg
  have:=hM g hm
  omega
def RowI (w:World) (g o:Nat) (ys:List Int):Prop:=∃ cur,w.heap[g]?=some (.cells cur 3 (0,0))∧∀ i y,ys[i]?=some y→cur[o+i]?=some (.int .i64 y)
theorem RowI.lt {w:World} {g o:Nat} {ys:List Int} (h:RowI w g o ys):g<w.heap.size:=by
 obtain ⟨_,h,_⟩:=h
 exact Q9 h
theorem RowI.step {M M':List Nat} {w w':World} {g o:Nat} {ys:List Int} (h:RowI w g o ys) (k:Step M w M' w') (hn:g∉M):RowI w' g o ys:=by
 obtain ⟨cur,h1,h2⟩:=h
 exact ⟨cur,k.keep h1 hn,h2⟩
theorem RowI.cell {w:World} {g o:Nat} {ys:List Int} (h:RowI w g o ys) {i:Nat} {y:Int} (hi:ys[i]?=some y):w.cell? ⟨g,o+i,none⟩=some (.int .i64 y):=by
 obtain ⟨cur,h1,h2⟩:=h
 exact Q5 h1 _ (h2 i y hi)
theorem RowI.drop {w:World} {g o:Nat} {ys:List Int} (h:RowI w g o ys) (k:Nat):RowI w g (o+k) (ys.drop k):=by
 obtain ⟨cur,h1,h2⟩:=h
 refine ⟨cur,h1,fun i y hi=>?_⟩
 rw [List.getElem?_drop] at hi
 rw [Nat.add_assoc]
 exact h2 _ _ hi
structure Two (w:World) (b:Nat) (v1:Value) (X:List Int) (v2:Value) (Y:List Int):Prop where
 o1:OwnI w b [] v1 X
 o2:OwnI w b [] v2 Y
 dis:∀ g∈Q7 v1,g∉Q7 v2
theorem Two.app {w w':World} {b:Nat} {v1 v2 v1':Value} {X Y:List Int} {y:Int} (h:Two w b v1 X v2 Y) (hb:b≤w.heap.size) (hB:Behind w (Q7 v1) w')
  (hr:RowV (inW w') 3 1 v1' (X.length+1) (Qm X++[.int .i64 y])) (hn:∀ g∈Q7 v1',g∈Q7 v1∨w.heap.size≤g):Two w' b v1' (X++[y]) v2 Y :=
 ⟨h.o1.grown hb (by simp) hr hn,⟨h.o2.row.keep hB (fun g hg hm=>h.dis g hm hg),h.o2.ge,by simp⟩,
  fun g hg hm=>(hn g hg).elim (fun e=>h.dis g e hm) (fun e=>by have:=h.o2.row.lt g hm;omega)⟩
theorem Uj {P:Program} {f:FuncId} {args:Array Value} {w:World} {Q:Ending→World→Prop} (h:∀ w1,w1=w→Calls P f args w1 Q):Calls P f args w Q:=h _ rfl
theorem Qg {P:Program} {c:Code} {Q:Exit→Act→World→Prop} {a:Act} {w:World} (h:∀ w1,w1=w→c.wp P Q a w1):c.wp P Q a w:=h _ rfl
theorem Qe (w:World) (o:Obj):Below w.heap.size w (w.alloc o):=(Below.refl _ _).alloc (Nat.le_refl _) _
theorem Jy (w:World) (o u:Obj):Below w.heap.size w ((w.alloc o).alloc u):=((Below.refl _ _).alloc (Nat.le_refl _) _).alloc (by simp) _
theorem Qn (w:World) (o:Obj):(w.alloc o).heap[w.heap.size]?=some o:=heap_alloc_new w o
theorem Yp (w:World) (o u:Obj):((w.alloc o).alloc u).heap[w.heap.size]?=some o:=(heap_alloc_old _ _ (by simp)).trans (heap_alloc_new w o)
theorem Yn (w:World) (o u:Obj):((w.alloc o).alloc u).heap[w.heap.size+1]?=some u:=by
 have:=heap_alloc_new (w.alloc o) u
 simpa using this
theorem tb_eq (a u:Nat):(((a:Int)/2^u).tmod 2 == 1)=a.testBit u:=by
 have e:(a:Int)/2^u=((a/2^u:Nat):Int):=by rw [Int.natCast_ediv];simp
 rw [e,Int.tmod_eq_emod_of_nonneg (Int.natCast_nonneg _),Nat.testBit_eq_decide_div_mod_eq]
 generalize a/2^u=q
 by_cases h:q%2=1
 ·rw [decide_eq_true h,beq_iff_eq];omega
 ·rw [decide_eq_false h]
  exact J7 (by omega)
def Ot (a0 a1:Nat) (v:Int):Bool:=if v≤64 then a0.testBit (v-1).toNat else a1.testBit (v-65).toNat
def Jz (a0 a1:Nat):Value:=.agg #[.int .u64 (a0:Nat),.int .u64 (a1:Nat)]
def litB (p:Int→Bool) (y:Int):Bool:=if 0<y then p y else !p (-y)
theorem own_at {w:World} {b:Nat} {M:List Nat} {v:Value} {xs:List Int} (h:OwnI w b M v xs):∃ a c,v = .slice a xs.length c∧AtN w.heap.size w a (Qm xs):=by
 have hr:=h.row
 generalize hn:xs.length=n at hr
 generalize hz:Qm xs=zs at hr
 cases hr with
 | nil=>exact ⟨none,0,rfl,fun i v hi=>by simp at hi⟩
 | @row g n cap ys cur hr =>
  refine ⟨some ⟨g,0,none⟩,cap,rfl,fun i v hi=>⟨g,0,Q9 hr.blk,rfl,?_⟩⟩
  have h2:=hr.tk
  rw [←h2,List.getElem?_take] at hi
  split at hi
  ·rw [Nat.zero_add]
   exact Q5 hr.blk i (by simpa using hi)
  ·cases hi
end
/- append in a region that draws its order,whatever the row. -/
section
open Go.RowKit
def kA (v:Value) (n m:Nat):Nat:=match v with
 | .slice (some _) _ cap=>if n+m≤cap then 2 else 5
 | _=>5
theorem Q18 (v:Value) (n m:Nat):kA v n m=2∨kA v n m=5:=by
 unfold kA
 split
 ·split
  ·exact .inl rfl
  ·exact .inr rfl
 ·exact .inr rfl
def Q3l (w:World) (v:Value):Blocks:=fun g=>if g∈Q7 v then w.heap[g]? else none
theorem Ap (w:World) (v:Value):Has (Q3l w v) w:=fun b o h=>by
 unfold Q3l at h
 split at h
 ·exact h
 ·cases h
theorem Ai (w:World) (v:Value):Fin (Q3l w v):=⟨w.heap.size,fun b hb=>by
 unfold Q3l
 split
 ·exact Array.getElem?_eq_none hb
 ·rfl⟩
theorem Uh {w:World} {E:TypeId} {size:Nat} {v:Value} {n:Nat} {xs:List Value} (h:RowV (inW w) E size v n xs):RowV (Q3l w v) E size v n xs:=by
 cases h with
 | nil=>exact .nil
 | @row g n cap xs cur h=>exact .row (h.of (by unfold Q3l;rw [if_pos (by simp [Q7])];exact h.blk))
theorem RowV.of_put {B:Blocks} {E:TypeId} {size:Nat} {v:Value} {n:Nat} {xs:List Value} {b:Nat} {ob:Obj} (h:RowV B E size v n xs) (hb:b∉Q7 v):RowV (B.put b ob) E size v n xs:=by
 cases h with
 | nil=>exact .nil
 | @row g n cap xs cur h=>exact .row (h.of ((Blocks.put_other _ _ (fun e=>hb (by simp [Q7,e]))).trans h.blk))
theorem RowV.of_has {B:Blocks} {x:World} {E:TypeId} {size:Nat} {v:Value} {n:Nat} {xs:List Value} (h:RowV B E size v n xs) (hx:Has B x):RowV (inW x) E size v n xs:=by
 cases h with
 | nil=>exact .nil
 | @row g n cap xs cur h=>exact .row (h.of (hx _ _ h.blk))
section
variable {P:Program} {ops:Array Oper} {w:World} {Wr:List Nat}
theorem Yu {kd:Nat→Nat} {Q:Act→Blocks→Prop} {B:Blocks} {rest:List Oper} {k d:Nat} {ty:TypeId} {pos:String} {after:Array Edge} {a:Act} (s y:Operand) (t E:TypeId) (i:TypeInfo) (z:Value) (size bytes:Nat)
  (ht:P.underlying t=some (.slice E)) (hi:P.info? E=some i) (hz:i.zero=some z) (hsize:i.size=size) (hby:i.bytes=bytes) (hzs:z.cells.size=size)
  (v:Value) (n:Nat) (xs:List Value) (hrow:RowV B E size v n xs) (hs:a.eval s=v)
  (g2 m c2:Nat) (news:List Value) (E2:TypeId) (hy:a.eval y = .slice (some ⟨g2,0,none⟩) m c2) (hn2:B g2=some (.cells news.toArray E2 (0,0))) (hl:news.length=m*size) (h1:∀ u∈news,u.oneCell'=true) (h0:0<m)
  (h63:n+m≤maxLen) (hbytes:(n+m)*bytes≤140737488355328) (hW:∀ g∈Q7 v,g∈Wr∨w.heap.size≤g) (hk:kd k=kA v n m)
  (h:∀ (g' cap':Nat) (ob:Obj),RowV (B.put g' ob) E size (.slice (some ⟨g',0,none⟩) (n+m) cap') (n+m) (xs++news)→(g'∈Q7 v∨(w.heap.size≤g'∧B g'=none)) →
   Qk P ops d ty pos (.slice (some ⟨g',0,none⟩) (n+m) cap') (fun a'=>Jh P ops w Wr kd Q rest (k+1) a' (B.put g' ob)) a) :
  Jh P ops w Wr kd Q (⟨some d,.call { callee:=.builtin .append,args:=#[s,y],argTypes:=#[t,t] },ty,pos,after,none⟩::rest) k a B:=by
 cases hrow with
 | nil =>
  refine Q2g s y t E i z size bytes ht hi hz hsize hby hzs hs g2 m c2 news E2 hy hn2 hl h0 (by omega) (by rw [Nat.zero_add] at hbytes;exact hbytes) hk (fun g' cap' cur' hr hg hn=>?_)
  have:=h g' cap' (.cells cur' E (0,0)) (by rw [Nat.zero_add,List.nil_append];exact .row hr) (.inr ⟨hg,hn⟩)
  rw [Nat.zero_add] at this
  exact this
 | @row g n cap xs cur hr =>
  refine Q8e s y t E i z size bytes ht hi hz hsize hby hzs g n cap xs cur hr hs g2 m c2 news E2 hy hn2 hl h1 h63 hbytes (hW g (by simp [Q7])) hk (fun g' cap' cur' hr' hg=>?_)
  exact h g' cap' (.cells cur' E (0,0)) (.row hr') (hg.imp (fun e=>by simp [Q7,e]) id)
end
end
/- Ground of chapter 08: bytes,rows. -/
section
open Go.RowKit
theorem Jn {w x:World} {Wr:List Nat} (h:Behind w Wr x) {b o:Nat} {v:Value} (hc:w.cell? ⟨b,o,none⟩=some v) (hn:b∉Wr):x.cell? ⟨b,o,none⟩=some v :=
 (World.cell?_of_block (a:=⟨b,o,none⟩) (h.block b (block_lt_of_cell hc) hn)).trans hc
theorem Q6 {w x:World} {Wr:List Nat} (h:Behind w Wr x) {b o:Nat} {v:Value} (hc:w.cell? ⟨b,o,none⟩=some v) (hn:b∉Wr) (p:Extra):(plus x p).cell? ⟨b,o,none⟩=some v :=
 Ou (Jn h hc hn) (block_lt_of_cell (Jn h hc hn)) p
end
end Go.Proofs.YtcpehljpegfckaaGreatDoor
