/- Texts of this claim,joined: DA1,DAa,DA2,DA3,DB1,DB2. -/
import Derived.Test.YtcpehljpegfckaaGreatDoorMT20
import Derived.Test.YtcpehljpegfckaaGreatDoorMT21
import Derived.Test.YtcpehljpegfckaaGreatDoorMT22
import Derived.Deep.DeepCutAuto
/- The compiler in maps of blocks;what fit and its sides are asked for. -/
namespace Go.Proofs.YtcpehljpegfckaaGreatDoor
section
open Go.RowKit Go.Maps Go.MapKept
theorem RowV.move {B B':Blocks} {E:TypeId} {size:Nat} {v:Value} {n:Nat} {xs:List Value} (h:RowV B E size v n xs) (hb:∀ g∈Q7 v,B' g=B g):RowV B' E size v n xs:=by
 cases h with
 | nil=>exact .nil
 | @row g n cap xs cur h=>exact .row (h.of (by rw [hb g (by simp [Q7])];exact h.blk))
theorem Kb {w x:World} {b o:Nat} (h:x.heap[b]?=w.heap[b]?):x.cell? ⟨b,o,none⟩=w.cell? ⟨b,o,none⟩:=by simp only [World.cell?,h]
theorem InsP.move {ok ok':Nat→Prop} {w x:World} {p:Option Addr} {xs:List Int} (h:InsP ok w p xs) (hb:∀ b,b<w.heap.size→ok b→x.heap[b]?=w.heap[b]?∧ok' b):InsP ok' x p xs:=fun k y hy=>by
 obtain ⟨b,o,h1,h2,h3,h4⟩:=h k y hy
 obtain ⟨e,h5⟩:=hb b h1 h2
 refine ⟨b,o,?_,h5,h3,by rw [Kb e];exact h4⟩
 rw [Array.getElem?_eq_getElem h1] at e
 exact Q9 e
theorem MapAll.move {w x:World} {g:Nat} {P:Value→Value→Prop} (h:MapAll w g P) (hb:x.heap[g]?=w.heap[g]?):MapAll x g P:=by
 obtain ⟨es,clock,h1,h2⟩:=h
 exact ⟨es,clock,hb.trans h1,h2⟩
theorem CS.move {F F2:Nat→Prop} {N:Nat} {w x:World} {gc n gl gd:Nat} {cache:Bool} {v u:Value} {ns:List Nd} (h:CS F N w gc n gl gd cache v u ns) (hm:∀ g∈Jc gc gl gd v u,x.heap[g]?=w.heap[g]?) (hb:∀ b,b<w.heap.size→¬ F b→b∉Jc gc gl gd v u→x.heap[b]?=w.heap[b]?∧¬ F2 b)
  (hF2:∀ b,F2 b→b<x.heap.size) (hN:N≤x.heap.size):CS F2 N x gc n gl gd cache v u ns:=by
 obtain ⟨cl,h1,h2⟩:=h.nodes
 obtain ⟨cl2,h3⟩:=h.claims
 refine ⟨(hm gc (Qv.2 (.inl rfl))).trans h.blk,⟨cl,h1.move (fun g hg=>hm g (Qv.2 (.inr (.inr (.inr (.inl hg)))))),fun i y hy=>?_⟩,⟨cl2,h3.move (fun g hg=>hm g (Qv.2 (.inr (.inr (.inr (.inr hg))))))⟩,h.lits.move (hm gl (Qv.2 (.inr (.inl rfl)))),h.done.move (hm gd (Qv.2 (.inr (.inr (.inl rfl))))),h.d1,h.d2,h.d3,h.ge,h.net,hN,hF2⟩
 obtain ⟨p,c,k1,k2,k3,k4⟩:=h2 i y hy
 exact ⟨p,c,k1,k2,k3,k4.move (fun b hb1 hk=>⟨(hb b hb1 hk.2 hk.1).1,hk.1,(hb b hb1 hk.2 hk.1).2⟩)⟩
def Q8b (w:World) (B:Blocks) (x:World) (b:Nat):Prop:=w.heap.size≤b∧b<x.heap.size∧B b=none
def CSin (F:Nat→Prop) (N:Nat) (w:World) (Wr:List Nat) (B:Blocks) (gc n gl gd:Nat) (cache:Bool) (v u:Value) (ns:List Nd):Prop :=
 ∀ x,Behind w Wr x→Has B x→CS (fun b=>F b∨Q8b w B x b) N x gc n gl gd cache v u ns
theorem CS.mono {F F2:Nat→Prop} {N:Nat} {w:World} {gc n gl gd:Nat} {cache:Bool} {v u:Value} {ns:List Nd} (h:CS F N w gc n gl gd cache v u ns) (hb:∀ b,b<w.heap.size→¬ F b→¬ F2 b) (hF2:∀ b,F2 b→b<w.heap.size):CS F2 N w gc n gl gd cache v u ns :=
 h.move (fun _ _=>rfl) (fun b h1 h2 _=>⟨rfl,hb b h1 h2⟩) hF2 h.bas
theorem CSin.more {F:Nat→Prop} {N:Nat} {w:World} {Wr:List Nat} {B B':Blocks} {gc n gl gd:Nat} {cache:Bool} {v u:Value} {ns:List Nd} (h:CSin F N w Wr B gc n gl gd cache v u ns) (hB:∀ x,Has B' x→Has B x) (hd:∀ b,B' b=none→B b=none):CSin F N w Wr B' gc n gl gd cache v u ns:=fun x hx hH =>
 (h x hx (hB x hH)).mono (fun b _ hk hk2=>hk (hk2.imp id fun hj=>⟨hj.1,hj.2.1,hd b hj.2.2⟩)) (fun b hb=>hb.elim (fun h1=>(h x hx (hB x hH)).hF b (.inl h1)) (fun h1=>h1.2.1))
theorem Q4u {F:Nat→Prop} {N:Nat} {w x0 w':World} {Wr W2:List Nat} {B:Blocks} {gc n gl gd:Nat} {cache:Bool} {v u:Value} {ns:List Nd} (hWr:∀ g∈Wr,g<w.heap.size) (hW2:∀ g∈W2,w.heap.size≤g∧B g≠none) (hx0:Behind w Wr x0) (hB0:Has B x0) (hbe:Behind x0 (Wr++W2) w')
  (h:CS (fun b=>F b∨Q8b w B x0 b) N w' gc n gl gd cache v u ns) (hF:∀ b,F b→b<w.heap.size) (hsub:∀ g∈Jc gc gl gd v u,g∈Wr++W2∨x0.heap.size≤g) (hNw:N≤w.heap.size):CSin F N w Wr (B.over (Od (Wr++W2) x0 w')) gc n gl gd cache v u ns:=by
 intro x hx hH
 have hs0:=hx0.size
 have hs1:=hbe.size
 have agN:∀ b,(b∈Wr++W2∨x0.heap.size≤b)→b<w'.heap.size→x.heap[b]?=w'.heap[b]?:=fun b hb hl=>by
  have e:Od (Wr++W2) x0 w' b=w'.heap[b]?:=Yv hb
  rw [Array.getElem?_eq_getElem hl] at e ⊢
  exact hH b _ (Blocks.over_some e)
 have agO:∀ b,b<w.heap.size→b∉Wr→x.heap[b]?=w'.heap[b]?:=fun b hb hn=>by
  have hn2:b∉Wr++W2:=fun hm=>(List.mem_append.1 hm).elim hn (fun h=>by have:=(hW2 b h).1;omega)
  rw [hx.block b hb hn,hbe.block b (by omega) hn2,hx0.block b hb hn]
 have agB:∀ b,B b≠none→x.heap[b]?=w'.heap[b]?:=fun b hb=>by
  cases hb2:B b with
  | none=>exact (hb hb2).elim
  | some o =>
   have h1:=hB0 b o hb2
   by_cases hm:b∈Wr++W2
   ·exact agN b (.inl hm) (by have:=Q9 h1;omega)
   ·have h2:=hbe.block b (Q9 h1) hm
    have e:Od (Wr++W2) x0 w' b=none:=by
     unfold Od
     rw [if_neg]
     rintro (h | h)
     ·exact hm h
     ·have:=Q9 h1;omega
    rw [h2,h1]
    exact hH b o (by rw [Blocks.over_none e];exact hb2)
 have hmut:∀ g∈Jc gc gl gd v u,g<w'.heap.size:=h.lt
 refine h.move (fun g hg=>agN g (hsub g hg) (hmut g hg)) (fun b hb hnF hnm=>?_) (fun b hb=>hb.elim (fun h1=>Nat.lt_of_lt_of_le (hF b h1) hx.size) (fun h1=>h1.2.1)) ?_
 ·have hFb:¬ F b:=fun h1=>hnF (.inl h1)
  by_cases h1:b<w.heap.size
  ·refine ⟨?_,fun hk=>hk.elim hFb (fun hj=>by have:=hj.1;omega)⟩
   by_cases h2:b∈Wr
   ·exact agN b (.inl (List.mem_append_left _ h2)) hb
   ·exact agO b h1 h2
  ·by_cases h2:b<x0.heap.size
   ·have hBb:B b≠none:=fun e=>hnF (.inr ⟨by omega,h2,e⟩)
    refine ⟨agB b hBb,fun hk=>hk.elim hFb (fun hj=>?_)⟩
    cases e:Od (Wr++W2) x0 w' b with
    | none=>have:=hj.2.2;rw [Blocks.over_none e] at this;exact hBb this
    | some o=>have:=hj.2.2;rw [Blocks.over_some e] at this;cases this
   ·refine ⟨agN b (.inr (by omega)) hb,fun hk=>hk.elim hFb (fun hj=>?_)⟩
    have e:Od (Wr++W2) x0 w' b=w'.heap[b]?:=Yv (.inr (by omega))
    rw [Array.getElem?_eq_getElem hb] at e
    have:=hj.2.2
    rw [Blocks.over_some e] at this
    cases this
 ·exact Nat.le_trans hNw hx.size
end
/- append in a region walked in another order. -/
section
open Go.RowKit
section
variable {P:Program} {ops:Array Oper} {w:World} {Wr:List Nat}
theorem U5 {B Bn:Blocks} {W2:List Nat} (h:∀ g o,B g=some o→g∈Wr∨w.heap.size≤g) (hW2:∀ g∈W2,w.heap.size≤g) (hn:∀ g o,Bn g=some o→g∈Wr++W2∨(w.heap.size≤g∧B g=none)):∀ g o,(B.over Bn) g=some o→g∈Wr∨w.heap.size≤g:=fun g o hg=>by
 cases hb:Bn g with
 | none=>rw [Blocks.over_none hb] at hg;exact h g o hg
 | some o'=>exact (hn g o' hb).elim (fun e=>(List.mem_append.1 e).imp id (hW2 g)) (fun e=>.inr e.1)
theorem put_wr {B:Blocks} {b:Nat} {ob:Obj} (h:∀ g o,B g=some o→g∈Wr∨w.heap.size≤g) (hb:w.heap.size≤b):∀ g o,(B.put b ob) g=some o→g∈Wr∨w.heap.size≤g:=fun g o hg=>by
 by_cases e:g=b
 ·subst e;exact .inr hb
 ·rw [Blocks.put_other _ _ e] at hg;exact h g o hg
theorem Wo {B Bn:Blocks} {b:Nat} (h:B.over Bn b=none):Bn b=none∧B b=none:=by
 cases e:Bn b with
 | none=>rw [Blocks.over_none e] at h;exact ⟨rfl,h⟩
 | some o=>rw [Blocks.over_some e] at h;cases h
theorem Q0x {kd:Nat→Nat} {Q:Act→Blocks→Prop} {B:Blocks} {rest:List Oper} {k d:Nat} {ty:TypeId} {pos:String} {after:Array Edge} {a:Act} (s y:Operand) (t E:TypeId) (i:TypeInfo) (z:Value) (size bytes:Nat)
  (ht:P.underlying t=some (.slice E)) (hi:P.info? E=some i) (hz:i.zero=some z) (hsize:i.size=size) (hby:i.bytes=bytes) (hzs:z.cells.size=size)
  (v:Value) (n:Nat) (xs:List Value) (hrow:RowV B E size v n xs) (hs:a.eval s=v) (g2 m c2:Nat) (news:List Value) (hy:a.eval y = .slice (some ⟨g2,0,none⟩) m c2)
  (hn2:∀ x,Behind w Wr x→Has B x→∀ (j:Nat) (u:Value),news[j]?=some u→x.cell? ⟨g2,j,none⟩=some u) (hl:news.length=m*size) (h1:∀ u∈news,u.oneCell'=true) (h0:0<m) (h63:n+m≤maxLen) (hbytes:(n+m)*bytes≤140737488355328)
  (hWv:∀ g∈Q7 v,w.heap.size≤g) (hk:kd k=6) (hWr:∀ g∈Wr,g<w.heap.size) (hf:Fin B) (hBn:∀ g o,B g=some o→g∈Wr∨w.heap.size≤g)
  (h:∀ v' Bn,RowV Bn E size v' (n+m) (xs++news)→(∀ b∈Q7 v',w.heap.size≤b∧(b∈Q7 v∨B b=none))→(∀ g o,B g=some o→g∉Q7 v→Bn g=none∨Bn g=some o)→Fin (B.over Bn)→(∀ g o,(B.over Bn) g=some o→g∈Wr∨w.heap.size≤g) →
   Qk P ops d ty pos v' (fun a'=>Kc P ops w Wr kd Q rest (k+1) a' (B.over Bn)) a) :
  Kc P ops w Wr kd Q (⟨some d,.call { callee:=.builtin .append,args:=#[s,y],argTypes:=#[t,t] },ty,pos,after,none⟩::rest) k a B:=by
 have hW2:∀ g∈Q7 v,w.heap.size≤g∧B g≠none:=fun g hg=>⟨hWv g hg,fun hb=>by
  cases hrow with
  | nil=>simp [Q7] at hg
  | @row g3 n cap xs cur hr =>
   obtain rfl:g=g3:=by simpa [Q7] using hg
   have:=hr.blk
   rw [hb] at this;cases this⟩
 refine Q98 (Q7 v) (fun v' Bn=>RowV Bn E size v' (n+m) (xs++news)∧(∀ b∈Q7 v',w.heap.size≤b∧(b∈Q7 v∨B b=none))∧(∀ g o,B g=some o→g∉Q7 v→Bn g=none∨Bn g=some o)) hk hWr hf hBn hW2 (fun x hx hB=>?_) (fun v' Bn hR hfn hn=>?_)
 ·obtain ⟨v',w',hr,h2,h3,h4⟩:=V1 (P:=P) x t ty E i z size bytes ht hi hz hsize hby hzs v n xs (hrow.of_has hB) g2 m c2 news (hn2 x hx hB) hl h1 h0 h63 hbytes
  have hb':∀ b∈Q7 v',b<w'.heap.size:=h2.lt
  refine ⟨v',w',?_,h3.mono (fun g hg=>List.mem_append_right _ hg),h2.move (fun g hg=>?_),fun b hb=>?_,fun g o hg hn=>?_⟩
  ·unfold execOp
   simp only [resolve,invoke,builtin,Sem.run_bind,Sem.run_pure,Result.andThen_ok,List.map_toArray,List.map_cons,List.map_nil,hs,hy,hr]
  ·exact Yv ((h4 g hg).imp (fun e=>List.mem_append_right _ e) id)
  ·rcases h4 b hb with e | e
   ·exact ⟨hWv b e,.inl e⟩
   ·refine ⟨Nat.le_trans hx.size e,.inr ?_⟩
    cases hbb:B b with
    | none=>rfl
    | some o=>have:=Q9 (hB b o hbb);omega
  ·have h5:=hB g o hg
   by_cases hm:g∈Wr
   ·right
    rw [Yv (.inl (List.mem_append_left _ hm)),h3.block g (Q9 h5) hn]
    exact h5
   ·left
    unfold Od
    rw [if_neg]
    rintro (e | e)
    ·rcases List.mem_append.1 e with e | e
     ·exact hm e
     ·exact hn e
    ·have:=Q9 h5;omega
 ·exact h v' Bn hR.1 hR.2.1 hR.2.2 (hf.over hfn) (U5 hBn hWv hn)
end
end
/- One side of a decision. -/
section
open Go.RowKit Go.Maps Go.MapKept
structure FitI (F:Nat→Prop) (N gc n gl gd:Nat) (cache:Bool) (v u:Value) (ns:List Nd) (L:List Ce) (p:Option Addr) (q:Option Addr) (term:List Int) (w:World):Prop where
 pow:Pow10 N w
 cs:CS F N w gc n gl gd cache v u ns
 cls:ClsP (okC F gc gl gd v u) w p L
 ce:∀ e∈L,CeOk (okC F gc gl gd v u) w e
 ok:Hl n (lcs L)
 by':ByLen (lcs L)
 l20:L.length<20
 ne:L≠[]
 tm:InsP (okC F gc gl gd v u) w q term
 tl:term.length+nvI n (lcs L)≤1000
 sz:ns.length+fbI (nvI n (lcs L))≤65536
 hn:n≤128
structure FitP (F:Nat→Prop) (N gc n gl gd:Nat) (cache:Bool) (v u:Value) (ns:List Nd) (L:List Ce) (w:World) (v7:Value) (ks:List Int) (v' u':Value) (ns':List Nd) (w':World):Prop where
 cs:CS F N w' gc n gl gd cache v' u' ns'
 la:Later w w' gc gl gd v u v' u' ns ns'
 row:RowV (inW w') 3 1 v7 ks.length (Qm ks)
 fr:∀ b∈Q7 v7,w.heap.size≤b∧b∉Jc gc gl gd v' u'
 part:Part ns' ks [] (lcs L)
 len:ns'.length≤ns.length+fbI (nvI n (lcs L))
 one:∀ k,ks=[k]→k.toNat<ns.length∨k.toNat+1=ns'.length
 ne:ks≠[]
 kl:ks.length≤200
def Q8r (N gc n gl gd:Nat) (cache:Bool) (V:Nat):Prop:=∀ (F:Nat→Prop) (v u:Value) (ns:List Nd) (L:List Ce) (p:Option Addr) (cap:Nat) (q:Option Addr) (term:List Int) (cq:Nat) (w:World),nvI n (lcs L)≤V→FitI F N gc n gl gd cache v u ns L p q term w →
 Calls Tryz.prog 41 #[.pointer (some ⟨gc,0,none⟩),.slice p L.length cap,.slice q term.length cq] w fun e w'=>∃ v7 ks v' u' ns',e = .returned v7∧FitP F N gc n gl gd cache v u ns L w v7 ks v' u' ns' w'
structure SideP (F:Nat→Prop) (N gc n gl gd:Nat) (cache:Bool) (v u:Value) (ns:List Nd) (L:List (List Int)) (x:Int) (B:Nat) (w:World) (i:Nat) (v' u':Value) (ns':List Nd) (w':World):Prop where
 cs:CS F N w' gc n gl gd cache v' u' ns'
 la:Later w w' gc gl gd v u v' u' ns ns'
 sd:Side ns' i x L
 len:ns'.length≤ns.length+B
def LitR (F:Nat→Prop) (N:Nat) (w:World) (Wr:List Nat) (B:Blocks) (gc n gl gd:Nat) (cache:Bool) (ns:List Nd) (x:Int) (val:Value) (Bn:Blocks):Prop:=∃ (i:Nat) (v1 u1:Value) (ns1:List Nd),val = .int .i64 i∧CSin F N w Wr (B.over Bn) gc n gl gd cache v1 u1 ns1∧(∀ g∈Jc gc gl gd v1 u1,g∈Wr∨(w.heap.size≤g∧Bn g≠none))∧(∃ ms,ns1=ns++ms)∧IsLit n ns1 i x∧ns1.length≤ns.length+1
def CloneR (w:World) (B:Blocks) (xs:List Int) (val:Value) (Bn:Blocks):Prop:=RowV Bn 3 1 val xs.length (Qm xs)∧(∀ b∈Q7 val,w.heap.size≤b∧B b=none)∧∀ g o,B g=some o→Bn g=none∨Bn g=some o
def FitR (F:Nat→Prop) (N:Nat) (w:World) (Wr:List Nat) (B:Blocks) (gc n gl gd:Nat) (cache:Bool) (ns:List Nd) (L:List Ce) (val:Value) (Bn:Blocks):Prop:=∃ (ks:List Int) (v2 u2:Value) (ns2:List Nd),CSin F N w Wr (B.over Bn) gc n gl gd cache v2 u2 ns2∧(∀ g∈Jc gc gl gd v2 u2,g∈Wr∨(w.heap.size≤g∧B.over Bn g≠none))∧(∃ ms,ns2=ns++ms)∧RowV Bn 3 1 val ks.length (Qm ks)∧(∀ b∈Q7 val,w.heap.size≤b)∧Part ns2 ks [] (lcs L)∧ns2.length≤ns.length+fbI (nvI n (lcs L))∧ks≠[]∧ks.length≤200
theorem Zx {B:Blocks} {E:TypeId} {size:Nat} {v:Value} {n:Nat} {xs:List Value} (h:RowV B E size v n xs):∀ g∈Q7 v,B g≠none:=fun g hg hb=>by
 cases h with
 | nil=>simp [Q7] at hg
 | @row g3 n3 cap3 xs3 cur3 hr3 =>
  obtain rfl:g=g3:=by simpa [Q7] using hg
  rw [hr3.blk] at hb;cases hb
theorem CSin.sub {F:Nat→Prop} {N:Nat} {w:World} {Wr:List Nat} {B B':Blocks} {gc n gl gd:Nat} {cache:Bool} {v u:Value} {ns:List Nd} (h:CSin F N w Wr B gc n gl gd cache v u ns) (hs:∀ g o,B g=some o→B' g=some o):CSin F N w Wr B' gc n gl gd cache v u ns :=
 h.more (fun x hx g o hg=>hx g o (hs g o hg)) (fun b hb=>by
  cases e:B b with
  | none=>rfl
  | some o=>rw [hs b o e] at hb;cases hb)
theorem RowV.insF {x:World} {p:Option Addr} {n m c:Nat} {xs:List Int} (h:RowV (inW x) 3 1 (.slice p m c) n (Qm xs)):InsP (fun b=>b∈Q7 (.slice p m c)) x p xs:=fun k y hy=>by
 rcases h.two with ⟨_,h1,h2⟩ | ⟨g,cap,e⟩
 ·rw [h2] at hy;simp at hy
 ·cases e
  have hc:=h.cell hy
  exact ⟨g,0,Q9 (Q0q h).choose_spec.1,by simp [Q7],rfl,by simpa using hc⟩
set_option maxRecDepth 100000 in
theorem fitCall {N gc n gl gd:Nat} {cache:Bool} {V:Nat} (IH:∀ V',V'<V→Q8r N gc n gl gd cache V') {F:Nat→Prop} {v u v1 u1:Value} {ns ns1:List Nd} {L K:List Ce} {pg:Option Addr} {cg:Nat} {x:Int} {w w1:World} {B:Blocks} {term:List Int} {p8:Option Addr} {c8:Nat}
  (hT:Pow10 N w) (hS:CS F N w gc n gl gd cache v u ns) (hG:GivenP w w1 (.slice pg K.length cg) K x L) (hO:Hl n (lcs L)) (hV:nvI n (lcs L)≤V) (hnv:nvI n (lcs K)<nvI n (lcs L)) (hK:K≠[]) (hl:L.length<20) (htl:term.length+nvI n (lcs L)≤1000) (hsz:ns.length+2+fbI (nvI n (lcs L)-1)≤65536) (hn:n≤128)
  (hC:CSin F N w1 (Jc gc gl gd v u) B gc n gl gd cache v1 u1 ns1) (hm1:∀ g∈Jc gc gl gd v1 u1,g∈Jc gc gl gd v u∨(w1.heap.size≤g∧B g≠none)) (hl1:ns1.length≤ns.length+1)
  (hr8:RowV B 3 1 (.slice p8 (term.length+1) c8) (term.length+1) (Qm (term++[x]))) (hf8:∀ b∈Q7 (.slice p8 (term.length+1) c8),w1.heap.size≤b∧b∉Jc gc gl gd v1 u1) (y:World) (hy:Behind w1 (Jc gc gl gd v u) y) (hB:Has B y) :
  Calls Tryz.prog 41 #[.pointer (some ⟨gc,0,none⟩),.slice pg K.length cg,.slice p8 (term.length+1) c8] y fun e w'=>∃ val,e = .returned val∧Behind y (Jc gc gl gd v u++(Jc gc gl gd v1 u1).filter fun g=>!(Jc gc gl gd v u).contains g) w' ∧
   FitR F N w1 (Jc gc gl gd v u) B gc n gl gd cache ns1 K val (Od (Jc gc gl gd v u++(Jc gc gl gd v1 u1).filter fun g=>!(Jc gc gl gd v u).contains g) y w'):=by
 have hmw:∀ g∈Jc gc gl gd v u,g<w.heap.size:=hS.lt
 have hw1:=hG.be.size
 have hys:=hy.size
 have hcs:=hC y hy hB
 have hm2:∀ b,w.heap.size≤b→b<w1.heap.size→b∉Jc gc gl gd v1 u1:=fun b h1 h2 h3=>(hm1 b h3).elim (fun h4=>by have:=hmw b h4;omega) (fun h4=>by have:=h4.1;omega)
 have hok:∀ b,w.heap.size≤b→b<w1.heap.size→okC (fun b=>F b∨Q8b w1 B y b) gc gl gd v1 u1 b:=fun b h1 h2=>⟨hm2 b h1 h2,fun hk=>hk.elim (fun h3=>by have:=hS.hF b h3;omega) (fun h3=>by have:=h3.1;omega)⟩
 have hU:∀ g∈Jc gc gl gd v u,w.heap.size≤g→w1.heap.size≤g:=fun g hg h1=>by have:=hmw g hg;omega
 have hfb:fbI (nvI n (lcs K))≤fbI (nvI n (lcs L)-1):=Ab (by omega)
 have hI:FitI (fun b=>F b∨Q8b w1 B y b) N gc n gl gd cache v1 u1 ns1 K pg p8 (term++[x]) y:=by
  refine ⟨hT.on (hG.be.mono hS.bas |>.trans (hy.below_of (fun k hk=>hS.ge k hk) (Nat.le_trans hS.bas hw1))) (Nat.le_refl _),hcs,?_,fun e he=>?_,hG.same.ok (giv_ok hO),hG.by',by have:=hG.len;omega,hK,?_,by rw [List.length_append];simp only [List.length_cons,List.length_nil];omega,by omega,hn⟩
  ·exact (((hG.row.cls rfl).imp (fun g hg hk=>(⟨hG.fresh g hk,hg⟩:w.heap.size≤g∧g<w1.heap.size))).keep hy (fun g hg hk=>by have:=hmw g hg;omega)).imp (fun g _ hk=>hok g hk.1 hk.2)
  ·have hc:=hG.ces e he
   exact ⟨((hc.ins.imp (fun g hg hk=>(⟨hk.1,hg⟩:w.heap.size≤g∧g<w1.heap.size))).keep hy (fun g hg hk=>by have:=hmw g hg;omega)).imp (fun g _ hk=>hok g hk.1 hk.2),hc.sm,hc.len⟩
  ·refine (hr8.of_has hB).insF.imp (fun g hg hk=>⟨(hf8 g hk).2,fun hk2=>hk2.elim (fun h3=>by have:=hS.hF g h3;have:=(hf8 g hk).1;omega) (fun h3=>Zx hr8 g hk h3.2.2)⟩)
 have hlen:(term++[x]).length=term.length+1:=by simp
 have hc0:=IH (nvI n (lcs K)) (by omega) (fun b=>F b∨Q8b w1 B y b) v1 u1 ns1 K pg cg p8 (term++[x]) c8 y (Nat.le_refl _) hI
 rw [hlen] at hc0
 refine hc0.mono ?_
 ·rintro e w' ⟨v7,ks,v2,u2,ns2,rfl,h⟩
  have hW2:∀ g∈(Jc gc gl gd v1 u1).filter fun g=>!(Jc gc gl gd v u).contains g,w1.heap.size≤g∧B g≠none:=fun g hg=>by
   obtain ⟨h1,h2⟩:=List.mem_filter.1 hg
   have h3:g∉Jc gc gl gd v u:=by simpa using h2
   exact (hm1 g h1).elim (fun h4=>(h3 h4).elim) id
  have hin:∀ g∈Jc gc gl gd v1 u1,g∈Jc gc gl gd v u++(Jc gc gl gd v1 u1).filter fun g=>!(Jc gc gl gd v u).contains g:=fun g hg=>by
   by_cases h1:g∈Jc gc gl gd v u
   ·exact List.mem_append_left _ h1
   ·exact List.mem_append_right _ (List.mem_filter.2 ⟨hg,by simpa using h1⟩)
  have hbe:=h.la.be.mono hin
  refine ⟨v7,rfl,hbe,ks,v2,u2,ns2,Q4u (fun g hg=>Nat.lt_of_lt_of_le (hmw g hg) hw1) hW2 hy hB hbe h.cs (fun b hb=>Nat.lt_of_lt_of_le (hS.hF b hb) hw1) (fun g hg=>(h.la.sub g hg).imp (hin g) id) (Nat.le_trans hS.bas hw1),fun g hg=>?_,h.la.ext,h.row.move (fun g hg=>Yv (.inr (h.fr g hg).1)),fun b hb=>Nat.le_trans hys (h.fr b hb).1,h.part,by have:=h.len;omega,h.ne,h.kl⟩
  rcases h.la.sub g hg with h1 | h1
  ·refine (hm1 g h1).imp id (fun h2=>⟨h2.1,fun h3=>h2.2 (Wo h3).2⟩)
  ·refine .inr ⟨Nat.le_trans hys h1,fun h3=>?_⟩
   have h4:=(Wo h3).1
   rw [Yv (.inr h1),Array.getElem?_eq_getElem (h.cs.lt g hg)] at h4
   cases h4
end
/- One side of a decision. -/
section
open Go.RowKit Go.Maps Go.MapKept
set_option maxHeartbeats 12800000 in
set_option maxRecDepth 100000 in
theorem gSide (N gc n gl gd:Nat) (cache:Bool) (V:Nat) (IH:∀ V',V'<V→Q8r N gc n gl gd cache V') (F:Nat→Prop) (v u:Value) (ns:List Nd) (L:List Ce) (p:Option Addr) (cap:Nat) (q:Option Addr) (term:List Int) (cq:Nat) (x:Int) (b1 b2 b3:Nat) (w:World) (hV:nvI n (lcs L)≤V) (hx0:x≠0) (hxn:x.natAbs≤n) (hxv:clV (lcs L) x.natAbs=true)
  (hT:Pow10 N w) (hS:CS F N w gc n gl gd cache v u ns) (hA:ClsP (okC F gc gl gd v u) w p L) (hI:∀ e∈L,CeOk (okC F gc gl gd v u) w e) (hO:Hl n (lcs L)) (hne:∀ e∈L,e.xs≠[]) (hl:L.length<20) (hq:InsP (okC F gc gl gd v u) w q term) (htl:term.length+nvI n (lcs L)≤1000) (hsz:ns.length+2+fbI (nvI n (lcs L)-1)≤65536) (hn:n≤128)
  (hb1:w.heap[b1]?=some (.cells #[.slice p L.length cap] 98 (0,0))) (hb2:w.heap[b2]?=some (.cells #[.pointer (some ⟨gc,0,none⟩)] 92 (0,0))) (hb3:w.heap[b3]?=some (.cells #[.slice q term.length cq] 51 (0,0)))
  (hm:∀ b,b=b1∨b=b2∨b=b3→b∉Jc gc gl gd v u) :
  Calls Tryz.prog 116 #[.int .i64 x,.pointer (some ⟨b1,0,none⟩),.pointer (some ⟨b2,0,none⟩),.pointer (some ⟨b3,0,none⟩)] w fun e w'=>∃ i v' u' ns',e = .returned (.int .i64 (i:Nat))∧SideP F N gc n gl gd cache v u ns (lcs L) x (2+fbI (nvI n (lcs L)-1)) w i v' u' ns' w':=by
 obtain ⟨Post,hPost⟩:∃ P:Ending→World→Prop,P=fun e w'=>∃ i v' u' ns',e = .returned (.int .i64 (i:Nat))∧SideP F N gc n gl gd cache v u ns (lcs L) x (2+fbI (nvI n (lcs L)-1)) w i v' u' ns' w':=⟨_,rfl⟩
 rw [←hPost]
 have HP:=Lib.hid (show ∀ (i:Nat) (v' u':Value) (ns':List Nd) (w':World),SideP F N gc n gl gd cache v u ns (lcs L) x (2+fbI (nvI n (lcs L)-1)) w i v' u' ns' w'→Post (.returned (.int .i64 (i:Nat))) w' from fun i v' u' ns' w' h=>by rw [hPost];exact ⟨i,v',u',ns',rfl,h⟩)
 have HS:=Lib.hid hS
 have HT:=Lib.hid hT
 have HQ:=Lib.hid hq
 have HM:=Lib.hid hm
 have HO:=Lib.hid hO
 have HB1:=Lib.hid hb1
 have HB2:=Lib.hid hb2
 have HB3:=Lib.hid hb3
 have HXV:=Lib.hid hxv
 have KG:=Lib.hid (gGiven _ L p cap x (by omega) w hA hI hne hl)
 have c1:=Q5 hb1 0 rfl
 have HTL:=Lib.hid htl
 have HVV:=Lib.hid hV
 have HSZ:=Lib.hid hsz
 have HLL:=Lib.hid hl
 clear hPost hS hT hq hm hO hb1 hb2 hb3 hxv hA hI hne htl hV hsz
 go_enter Tryz.func116,Tryz.ntmps116
 go_wp2_with fail
 refine KG.out.mono ?_
 rintro e w1 ⟨vg,K,rfl,hg⟩
 obtain ⟨pg,cg,hvg⟩:=hg.row.slice
 subst hvg
 have HG:=Lib.hid hg
 have HGV:=Lib.hid (Q92 hx0 hg.same)
 have HS1:=Lib.hid (HS.out.below hg.be)
 have HLA1:=Lib.hid (show Later w w1 gc gl gd v u v u ns ns from Later.of_below hg.be)
 have HB21:=Lib.hid ((Q4 hg.be).keep HB2.out (by simp))
 have HB31:=Lib.hid ((Q4 hg.be).keep HB3.out (by simp))
 clear hg KG c1 HB1
 by_cases hK:K=[]
 ·subst hK
  have KL:=Lib.hid (gLitC F N gc n gl gd cache v u ns x w1 HS1.out (by have:=HSZ.out;omega) hn hx0 hxn)
  have c2:=Q5 HB21.out 0 rfl
  go_wp2_with fail
  refine KL.out.mono ?_
  rintro e w2 ⟨i,v2,u2,ns2,rfl,hs2,hl2,hi2,hn2,_⟩
  have HF:=Lib.hid (HP.out i v2 u2 ns2 w2 ⟨hs2,HLA1.out.trans hl2,side_lit hi2 HGV.out HXV.out,by omega⟩)
  clear hs2 hl2 hi2 hn2 KL
  go_wp2_with fail
  exact HF.out
 ·have hKl:0<K.length:=List.length_pos_iff.2 hK
  have hd:decide ((K.length:Int)=0)=false:=decide_eq_false (by omega)
  have hd2:((K.length:Int) == 0)=false:=J7 (by omega)
  have HKN:=Lib.hid hK
  clear hK
  have HWr:=Lib.hid (show ∀ g∈Jc gc gl gd v u,g<w1.heap.size from HS1.out.lt)
  have HMW:=Lib.hid (show ∀ g∈Jc gc gl gd v u,g<w.heap.size from HS.out.lt)
  have X2:=Lib.hid (Q5 HB21.out 0 rfl)
  have X3:=Lib.hid (Q5 HB31.out 0 rfl)
  have HNV:=Lib.hid (show nvI n (lcs K)<nvI n (lcs L) from Q8u HGV.out HXV.out hx0 hxn)
  have HW1:=Lib.hid (show Below w.heap.size w w1 from HG.out.be)
  obtain ⟨i1,ji,jz0,jz1,jz2⟩:=info_parts Tryz.infoIntK
  have JI:=Lib.hid ji
  have JZ0:=Lib.hid jz0
  have JZ1:=Lib.hid jz1
  have JZ2:=Lib.hid jz2
  clear ji jz0 jz1 jz2
  have KLIT:=Lib.hid (show ∀ x0,Behind w1 (Jc gc gl gd v u) x0→Has (Zo (Jc gc gl gd v u) w1) x0→Calls Tryz.prog 72 #[.pointer (some ⟨gc,0,none⟩),.int .i64 x] x0 fun e w'=>∃ val,e = .returned val∧Behind x0 (Jc gc gl gd v u++[]) w' ∧
    LitR F N w1 (Jc gc gl gd v u) (Zo (Jc gc gl gd v u) w1) gc n gl gd cache ns x val (Od (Jc gc gl gd v u++[]) x0 w') from fun x0 hx0' hB0=>by
   have hcs:CS (fun b=>F b∨Q8b w1 (Zo (Jc gc gl gd v u) w1) x0 b) N x0 gc n gl gd cache v u ns:=HS1.out.move (fun g hg=>by
     have h1:=HWr.out g hg
     have e:Zo (Jc gc gl gd v u) w1 g=w1.heap[g]?:=Hq hg
     rw [Array.getElem?_eq_getElem h1] at e ⊢
     exact hB0 g _ e) (fun b hb hF hnm=>⟨hx0'.block b hb hnm,fun hk=>hk.elim hF (fun hj=>by have:=hj.1;omega)⟩) (fun b hb=>hb.elim (fun h1=>Nat.lt_of_lt_of_le (HS1.out.hF b h1) hx0'.size) (fun h1=>h1.2.1)) (Nat.le_trans HS1.out.bas hx0'.size)
   refine (gLitC _ N gc n gl gd cache v u ns x x0 hcs (by have:=HSZ.out;omega) hn hx0 hxn).mono ?_
   rintro e w' ⟨i,v1,u1,ns1,rfl,hs1,hl1,hi1,hn1,_⟩
   refine ⟨_,rfl,hl1.be.mono (fun g hg=>List.mem_append_left _ hg),i,v1,u1,ns1,rfl,?_,fun g hg=>?_,hl1.ext,hi1,hn1⟩
   ·exact Q4u HWr.out (fun g hg=>by cases hg) hx0' hB0 (hl1.be.mono (fun g hg=>List.mem_append_left _ hg)) hs1 HS1.out.hF (fun g hg=>(hl1.sub g hg).imp (fun e=>List.mem_append_left _ e) id) HS1.out.bas
   ·refine (hl1.sub g hg).imp id (fun e=>⟨Nat.le_trans hx0'.size e,?_⟩)
    rw [Yv (.inr e),Array.getElem?_eq_getElem (hs1.lt g hg)]
    simp)
  go_upto_region 4 with fail
  refine U2 [0,0,6,3,0,0,0,6,0,3,6,6,6,0] (Jc gc gl gd v u) (Zo (Jc gc gl gd v u) w1) [0,1,4,5,6,8,2,7,9,10,11,3,12,13] (Ki _) (Hx _) (by kernel_rfl) (by kernel_rfl) ?_
  simp only [Vv,List.filterMap_cons,List.filterMap_nil,List.getElem?_cons_zero,List.getElem?_cons_succ]
  refine Yh 6 (by decide) (by rfl) ?_
  simp only [List.take_succ_cons,List.take_zero,List.drop_succ_cons,List.drop_zero]
  refine Qb 6 (by kernel_rfl) (by rfl) ?_
  apply Exists.intro
  refine ⟨fun z hz=>?_,?_⟩
  ·have f2:=Q6 hz X2.out (HM.out b2 (.inr (.inl rfl)))
   have f3:=Q6 hz X3.out (HM.out b3 (.inr (.inr rfl)))
   clear hz
   simp only [List.take_succ_cons,List.take_zero]
   unfold Cx
   repeat (go_big_quiet_step (fail))
   exact wpQuiet_nil rfl
  simp only [List.drop_succ_cons,List.drop_zero]
  refine Qf ?_
  refine Xw (f:=72) (vs:=#[.pointer (some ⟨gc,0,none⟩),.int .i64 x]) [] (LitR F N w1 (Jc gc gl gd v u) (Zo (Jc gc gl gd v u) w1) gc n gl gd cache ns x) (by rfl) HWr.out (Ki _) (fun g o h=>V5 h) (fun g hg=>by cases hg) (fun x=>by go_simp) (fun x hx hB=>KLIT.out x hx hB) (fun val1 Bn1 hR1 hf1 hn1=>?_)
  obtain ⟨i,v1,u1,ns1,rfl,hcs1,hmu1,hex1,hli1,hln1⟩:=hR1
  unfold Qk
  go_big_quiet_step (fail)
  refine wpQuiet_nil ?_
  obtain ⟨B1,hB1⟩:∃ B,B=(Zo (Jc gc gl gd v u) w1).over Bn1:=⟨_,rfl⟩
  have HF1:=Lib.hid (show Fin B1 by rw [hB1];exact (Ki _).over hf1)
  have HB1W:=Lib.hid (show ∀ g o,B1 g=some o→g∈Jc gc gl gd v u∨w1.heap.size≤g by rw [hB1];exact U5 (fun g o h=>V5 h) (fun g hg=>by cases hg) hn1)
  have HMU1:=Lib.hid (show ∀ g∈Jc gc gl gd v1 u1,g∈Jc gc gl gd v u∨(w1.heap.size≤g∧B1 g≠none) from fun g hg=>(hmu1 g hg).imp id (fun e=>⟨e.1,fun h=>e.2 (by rw [hB1] at h;exact (Wo h).1)⟩))
  rw [←hB1] at hcs1 ⊢
  have HCS1:=Lib.hid hcs1
  have HEX1:=Lib.hid hex1
  have HLI1:=Lib.hid hli1
  have HLN1:=Lib.hid hln1
  clear hB1 hf1 hn1 hcs1 hmu1 hex1 hli1 hln1 KLIT
  refine Xw (f:=73) (vs:=#[.slice q term.length cq]) [] (CloneR w1 B1 term) (by rfl) HWr.out HF1.out HB1W.out (fun g hg=>by cases hg) (fun x=>by go_simp) (fun y hy hB=>?_) (fun v7 Bn2 hR2 hf2 hn2=>?_)
  ·have hat:AtN y.heap.size y q (Qm term):=((HQ.out.imp (fun b hb hk=>(⟨hk.1,hb⟩:b∉Jc gc gl gd v u∧b<w.heap.size))).move (ok':=fun _=>True) (x:=y) (fun b hb hk=>⟨by rw [hy.block b (by have:=HW1.out.size;omega) hk.1,HW1.out.block b hk.2],trivial⟩)).at
   refine (Q1m term q cq y hat (by have:=HTL.out;omega)).mono ?_
   rintro e w' ⟨v7,rfl,hr7,hf7,hb7⟩
   refine ⟨v7,rfl,(Q4 hb7).mono (by simp),hr7.move (fun g hg=>Yv (.inr (hf7 g hg))),fun b hb=>⟨Nat.le_trans hy.size (hf7 b hb),?_⟩,fun g o hg=>?_⟩
   ·cases e:B1 b with
    | none=>rfl
    | some o=>have:=Q9 (hB b o e);have:=hf7 b hb;omega
   ·have h5:=hB g o hg
    by_cases hm:g∈Jc gc gl gd v u
    ·right
     rw [Yv (.inl (List.mem_append_left _ hm)),hb7.block g (Q9 h5)]
     exact h5
    ·left
     unfold Od
     rw [if_neg]
     rintro (e | e)
     ·exact hm (by simpa using e)
     ·have:=Q9 h5;omega
  obtain ⟨hr7,hg7,hk7⟩:=hR2
  unfold Qk
  go_big_quiet_step (fail)
  refine wpQuiet_nil ?_
  have HF2:=Lib.hid (HF1.out.over hf2)
  have HB2W:=Lib.hid (U5 (W2:=[]) HB1W.out (fun g hg=>by cases hg) hn2)
  have HK2:=Lib.hid (show ∀ g o,B1 g=some o→B1.over Bn2 g=some o from fun g o hg=>(hk7 g o hg).elim (fun e=>by rw [Blocks.over_none e];exact hg) (fun e=>Blocks.over_some e))
  have HR7:=Lib.hid (show RowV (B1.over Bn2) 3 1 v7 term.length (Qm term) from hr7.move (fun g hg=>by
   have:Bn2 g≠none:=Zx hr7 g hg
   cases e:Bn2 g with
   | none=>exact (this e).elim
   | some o=>rw [Blocks.over_some e]))
  have HG7:=Lib.hid hg7
  clear hr7 hg7 hk7 hf2 hn2
  generalize B1.over Bn2=B2 at *
  refine Yh 1 (by decide) (by rfl) ?_
  simp only [List.take_succ_cons,List.take_zero,List.drop_succ_cons,List.drop_zero]
  refine Kw 1 (.cells #[.int .i64 x] 3) (by rfl) (fun x=>by go_simp) (fun g26 q26 hn26=>?_)
  unfold Qk
  go_big_quiet_step (fail)
  refine wpQuiet_nil ?_
  refine Qf ?_
  have h7n:g26∉Q7 v7:=fun h=>Zx HR7.out g26 h hn26
  refine Q0x (.tmp 24) (.tmp 26) 51 3 i1 (.int .i64 0) 1 8 Tryz.underlying51 JI.out JZ0.out JZ1.out JZ2.out rfl v7 term.length (Qm term) (HR7.out.of_put h7n) (by rfl) g26 1 1 [.int .i64 x] (by rfl) (fun y hy hB j w0 hj=>Q5 (hB g26 _ (Blocks.put_same _ _ _)) j (by simpa using hj)) rfl (by simp [Value.oneCell']) (by omega) (by unfold maxLen;have:=HTL.out;omega) (by have:=HTL.out;omega) (fun g hg=>(HG7.out g hg).1) (by rfl) HWr.out (HF2.out.put _ _) (put_wr HB2W.out q26) (fun v8 Bn3 hr8 hg8 hk8 hf3 hw3=>?_)
  unfold Qk
  go_big_quiet_step (fail)
  refine wpQuiet_nil ?_
  obtain ⟨p8,c8,h8⟩:=hr8.slice
  subst h8
  have HK3:=Lib.hid (show ∀ g o,B1 g=some o→((B2.put g26 (.cells #[.int .i64 x] 3 (0,0))).over Bn3) g=some o from fun g o hg=>by
   have h2:=HK2.out g o hg
   have hne:g≠g26:=fun e=>by rw [e,hn26] at h2;cases h2
   have h3:(B2.put g26 (.cells #[.int .i64 x] 3 (0,0))) g=some o:=by rw [Blocks.put_other _ _ hne];exact h2
   have h4:g∉Q7 v7:=fun h=>by have:=(HG7.out g h).2;rw [hg] at this;cases this
   exact (hk8 g o h3 h4).elim (fun e=>by rw [Blocks.over_none e];exact h3) (fun e=>Blocks.over_some e))
  have HG8:=Lib.hid (show ∀ b∈Q7 (.slice p8 (term.length+1) c8),w1.heap.size≤b∧b∉Jc gc gl gd v1 u1 from fun b hb=>by
   have h1:=hg8 b hb
   refine ⟨h1.1,fun h2=>?_⟩
   have h3:B1 b=none:=h1.2.elim (fun h=>(HG7.out b h).2) (fun h=>by
    cases e:B1 b with
    | none=>rfl
    | some o =>
     have h4:=HK2.out b o e
     have hne:b≠g26:=fun e'=>by rw [e',hn26] at h4;cases h4
     rw [Blocks.put_other _ _ hne,h4] at h;cases h)
   exact (HMU1.out b h2).elim (fun h=>by have:=HWr.out b h;omega) (fun h=>h.2 h3))
  have HR8:=Lib.hid (show RowV ((B2.put g26 (.cells #[.int .i64 x] 3 (0,0))).over Bn3) 3 1 (.slice p8 (term.length+1) c8) (term.length+1) (Qm (term++[x])) from by
   have e:Qm (term++[x])=Qm term++[.int .i64 x]:=by simp [Qm]
   rw [e]
   exact hr8.move (fun g hg=>by
    cases e:Bn3 g with
    | none=>exact (Zx hr8 g hg e).elim
    | some o=>rw [Blocks.over_some e]))
  have HF3:=Lib.hid hf3
  have HW3:=Lib.hid hw3
  clear hr8 hg8 hk8 hf3 hw3 h7n HR7 HG7 HF2 HB2W
  generalize (B2.put g26 (.cells #[.int .i64 x] 3 (0,0))).over Bn3=B3 at *
  have HC3:=Lib.hid (HCS1.out.sub HK3.out)
  have HM3:=Lib.hid (show ∀ g∈Jc gc gl gd v1 u1,g∈Jc gc gl gd v u∨(w1.heap.size≤g∧B3 g≠none) from fun g hg=>(HMU1.out g hg).imp id (fun h=>⟨h.1,fun e=>by
   cases e2:B1 g with
   | none=>exact h.2 e2
   | some o=>rw [HK3.out g o e2] at e;cases e⟩))
  clear HK2 HK3 HF1 HB1W HCS1 HMU1
  refine Xw (f:=41) (vs:=#[.pointer (some ⟨gc,0,none⟩),.slice pg K.length cg,.slice p8 (term.length+1) c8]) ((Jc gc gl gd v1 u1).filter fun g=>!(Jc gc gl gd v u).contains g) (FitR F N w1 (Jc gc gl gd v u) B3 gc n gl gd cache ns1 K) (by rfl) HWr.out HF3.out HW3.out (fun g hg=>by
   obtain ⟨h1,h2⟩:=List.mem_filter.1 hg
   have h3:g∉Jc gc gl gd v u:=by simpa using h2
   exact (HM3.out g h1).elim (fun h4=>(h3 h4).elim) id) (fun x=>by go_simp) (fun y hy hB=>fitCall IH HT.out HS.out HG.out HO.out HVV.out HNV.out HKN.out HLL.out HTL.out HSZ.out hn HC3.out HM3.out HLN1.out HR8.out HG8.out y hy hB) (fun v9 Bn4 hR4 hf4 hn4=>?_)
  obtain ⟨ks,v2,u2,ns2,hcs2,hmu2,hex2,hr9,hg9,hpt,hln2,hks,hkl⟩:=hR4
  have hk0:0<ks.length:=List.length_pos_iff.2 hks
  obtain ⟨g9,c9,h9⟩:∃ g9 c9,v9 = .slice (some ⟨g9,0,none⟩) ks.length c9:=by
   rcases hr9.two with ⟨_,h,_⟩ | h
   ·omega
   ·exact h
  subst h9
  unfold Qk
  go_big_quiet_step (fail)
  refine wpQuiet_nil ?_
  have HF4:=Lib.hid (HF3.out.over hf4)
  have HB4W:=Lib.hid (U5 HW3.out (fun g hg=>by
   obtain ⟨h1,h2⟩:=List.mem_filter.1 hg
   have h3:g∉Jc gc gl gd v u:=by simpa using h2
   exact ((HM3.out g h1).elim (fun h4=>(h3 h4).elim) id).1) hn4)
  have HCS2:=Lib.hid hcs2
  have HMU2:=Lib.hid hmu2
  have HEX2:=Lib.hid hex2
  have HR9:=Lib.hid (show RowV (B3.over Bn4) 3 1 (.slice (some ⟨g9,0,none⟩) ks.length c9) ks.length (Qm ks) from hr9.move (fun g hg=>by
    cases e:Bn4 g with
    | none=>exact (Zx hr9 g hg e).elim
    | some o=>rw [Blocks.over_some e]))
  have HG9:=Lib.hid hg9
  have HPT:=Lib.hid hpt
  have HLN2:=Lib.hid hln2
  have HKS:=Lib.hid hks
  have HKL:=Lib.hid hkl
  clear hcs2 hmu2 hex2 hr9 hg9 hpt hln2 hks hkl hf4 hn4 HC3 HM3 HR8 HG8 HF3 HW3
  generalize B3.over Bn4=B4 at *
  refine Yh 1 (by decide) (by rfl) ?_
  simp only [List.take_succ_cons,List.take_zero,List.drop_succ_cons,List.drop_zero]
  refine Kw 1 (.cells #[.int .i64 i] 3) (by rfl) (fun x=>by go_simp) (fun g20 q20 hn20=>?_)
  unfold Qk
  go_big_quiet_step (fail)
  refine wpQuiet_nil ?_
  refine Qf ?_
  have HR20:=Lib.hid (show RowV (B4.put g20 (.cells #[.int .i64 (i:Nat)] 3 (0,0))) 3 1 (.slice (some ⟨g20,0,none⟩) 1 1) 1 (Qm [(i:Int)]) from .row ⟨Blocks.put_same _ _ _,by omega,by decide,rfl,rfl,rfl⟩)
  have h9n:g9≠g20:=fun e=>Zx HR9.out g9 (by simp [Q7]) (e▸hn20)
  have HP9:=Lib.hid (show RowV (B4.put g20 (.cells #[.int .i64 (i:Nat)] 3 (0,0))) 3 1 (.slice (some ⟨g9,0,none⟩) ks.length c9) ks.length (Qm ks) from HR9.out.of_put (by simpa [Q7] using fun e=>h9n e.symm))
  refine Q0x (.tmp 20) (.tmp 28) 51 3 i1 (.int .i64 0) 1 8 Tryz.underlying51 JI.out JZ0.out JZ1.out JZ2.out rfl (.slice (some ⟨g20,0,none⟩) 1 1) 1 (Qm [(i:Int)]) HR20.out (by rfl) g9 ks.length c9 (Qm ks) (by rfl) (fun y hy hB j w0 hj=>(HP9.out.of_has hB).cell hj) (by simp [Qm]) (by simp [Qm,Value.oneCell']) hk0 (by unfold maxLen;have:=HKL.out;omega) (by have:=HKL.out;omega) (fun g hg=>by
   obtain rfl:g=g20:=by simpa [Q7] using hg
   exact q20) (by rfl) HWr.out (HF4.out.put _ _) (put_wr HB4W.out q20) (fun v10 Bn5 hr10 hg10 hk10 hf5 hw5=>?_)
  unfold Qk
  go_big_quiet_step (fail)
  refine wpQuiet_nil ?_
  refine Yh 1 (by decide) (by rfl) ?_
  simp only [List.take_succ_cons,List.take_zero,List.drop_succ_cons,List.drop_zero]
  refine Qb 1 (by kernel_rfl) (by rfl) ?_
  apply Exists.intro
  refine ⟨fun z hz=>?_,?_⟩
  ·clear hz
   simp only [List.take_succ_cons,List.take_zero]
   unfold Cx
   repeat (go_big_quiet_step (fail))
   exact wpQuiet_nil rfl
  simp only [List.drop_succ_cons,List.drop_zero]
  refine Qf ?_
  unfold Kc
  intro y hy hBy
  obtain ⟨p10,c10,h10⟩:=hr10.slice
  subst h10
  have HN:=Lib.hid (show ∀ b,w1.heap.size≤b→B4 b=none→b∉Jc gc gl gd v2 u2 from fun b h1 h2 h3=>(HMU2.out b h3).elim (fun h4=>by have:=HWr.out b h4;omega) (fun h4=>h4.2 h2))
  have hK5:∀ g o,B4 g=some o→((B4.put g20 (.cells #[.int .i64 (i:Nat)] 3 (0,0))).over Bn5) g=some o:=fun g o hg=>by
   have hne:g≠g20:=fun e=>by rw [e,hn20] at hg;cases hg
   have h3:(B4.put g20 (.cells #[.int .i64 (i:Nat)] 3 (0,0))) g=some o:=by rw [Blocks.put_other _ _ hne];exact hg
   exact (hk10 g o h3 (by simpa [Q7] using hne)).elim (fun e=>by rw [Blocks.over_none e];exact h3) (fun e=>Blocks.over_some e)
  have hr11:RowV ((B4.put g20 (.cells #[.int .i64 (i:Nat)] 3 (0,0))).over Bn5) 3 1 (.slice p10 (1+ks.length) c10) (1+ks.length) (Qm ((i:Int)::ks)):=by
   have e:Qm ((i:Int)::ks)=Qm [(i:Int)]++Qm ks:=by simp [Qm]
   rw [e]
   exact hr10.move (fun g hg=>by
    cases e:Bn5 g with
    | none=>exact (Zx hr10 g hg e).elim
    | some o=>rw [Blocks.over_some e])
  have hcs:=(HCS2.out.sub hK5) y hy hBy
  have hins:InsP (okC (fun b=>F b∨Q8b w1 ((B4.put g20 (.cells #[.int .i64 (i:Nat)] 3 (0,0))).over Bn5) y b) gc gl gd v2 u2) y p10 ((i:Int)::ks) :=
   (hr11.of_has hBy).insF.imp (fun g hg hk=>⟨HN.out g (hg10 g hk).1 ((hg10 g hk).2.elim (fun e=>by
    obtain rfl:g=g20:=by simpa [Q7] using e
    exact hn20) (fun e=>by
    by_cases hne:g=g20
    ·rw [hne];exact hn20
    ·rw [Blocks.put_other _ _ hne] at e;exact e)),fun hk2=>hk2.elim (fun h3=>by have:=HS.out.hF g h3;have:=(hg10 g hk).1;have:=HW1.out.size;omega) (fun h3=>Zx hr11 g hk h3.2.2)⟩)
  obtain ⟨hng,hsd⟩:=side_and hcs.net (by obtain ⟨ms,e⟩:=HEX2.out;rw [e];exact HLI1.out.app ms) HPT.out HGV.out HXV.out (by have:=HKL.out;omega)
  have hfb:fbI (nvI n (lcs K))≤fbI (nvI n (lcs L)-1):=Ab (by have:=HNV.out;omega)
  have KA:=Q4f _ N gc n gl gd cache v2 u2 ns2 ⟨3,0,(i:Int)::ks⟩ p10 c10 none 0 0 none 0 0 y hcs hins (by have:=HSZ.out;have:=HLN1.out;have:=HLN2.out;omega) hng
  have HNG:=Lib.hid hng
  have HSD:=Lib.hid hsd
  have HLY:=Lib.hid (show Later w1 y gc gl gd v u v2 u2 ns ns2 from ⟨hy,fun g hg=>(HMU2.out g hg).imp id (fun h=>h.1),by
   obtain ⟨m1,e1⟩:=HEX1.out
   obtain ⟨m2,e2⟩:=HEX2.out
   exact ⟨m1++m2,by rw [e2,e1,List.append_assoc]⟩⟩)
  have HFB:=Lib.hid (show ns2.length+1≤ns.length+(2+fbI (nvI n (lcs L)-1)) by have:=HLN1.out;have:=HLN2.out;omega)
  have HYS:=Lib.hid hy.size
  have e11:((i:Int)::ks).length=1+ks.length:=by simp;omega
  simp only [e11] at KA
  have HKB:=Lib.hid KA
  have f2:y.cell? ⟨b2,0,none⟩=some (.pointer (some ⟨gc,0,none⟩)):=Jn hy X2.out (HM.out b2 (.inr (.inl rfl)))
  have HFF:=Lib.hid (show ∀ (w':World) (v' u':Value),y.heap.size≤w'.heap.size→CS (fun b=>F b∨Q8b w1 ((B4.put g20 (.cells #[.int .i64 (i:Nat)] 3 (0,0))).over Bn5) y b) N w' gc n gl gd cache v' u' (ns2++[⟨3,0,(i:Int)::ks⟩])→CS F N w' gc n gl gd cache v' u' (ns2++[⟨3,0,(i:Int)::ks⟩]) from fun w' v' u' hs h=>h.mono (fun b _ hk hk2=>hk (.inl hk2)) (fun b hb=>by have:=HS.out.hF b hb;have:=HW1.out.size;have:=HYS.out;omega))
  clear KA hfb hng hsd hins hcs hr11 hK5 hr10 hg10 hk10 hf5 hw5 HR20 HP9 hBy hy e11
  go_wp2_with fail
  refine HKB.out.mono ?_
  rintro e w' ⟨v',u',rfl,hs',hl'⟩
  have HF:=Lib.hid (HP.out ns2.length v' u' _ w' ⟨HFF.out w' v' u' hl'.be.size hs',(HLA1.out.trans HLY.out).trans hl',HSD.out,by rw [List.length_append];exact HFB.out⟩)
  clear hs' hl' HKB
  go_wp2_with fail
  exact HF.out
end
/- A node False for clauses one of which is empty. -/
section
open Go.RowKit Go.Maps Go.MapKept
theorem Yx {w:World} {b:Nat} {o ob:Obj} (h:w.heap[b]?=some o):(w.alloc ob).heap[b]?=some o:=(((Below.refl w.heap.size w).alloc (Nat.le_refl _) ob).block b (Q9 h)).trans h
theorem Q3w (w:World) (o0 o1 o2 o3:Obj):((((w.alloc o0).alloc o1).alloc o2).alloc o3).heap[w.heap.size]?=some o0∧((((w.alloc o0).alloc o1).alloc o2).alloc o3).heap[w.heap.size+1]?=some o1∧((((w.alloc o0).alloc o1).alloc o2).alloc o3).heap[w.heap.size+2]?=some o2∧((((w.alloc o0).alloc o1).alloc o2).alloc o3).heap[w.heap.size+3]?=some o3∧Below w.heap.size w ((((w.alloc o0).alloc o1).alloc o2).alloc o3)∧((((w.alloc o0).alloc o1).alloc o2).alloc o3).heap.size=w.heap.size+4:=by
 have h0:=heap_alloc_new w o0
 have h1:=heap_alloc_new (w.alloc o0) o1
 have h2:=heap_alloc_new ((w.alloc o0).alloc o1) o2
 have h3:=heap_alloc_new (((w.alloc o0).alloc o1).alloc o2) o3
 have s0:(w.alloc o0).heap.size=w.heap.size+1:=by simp
 have s1:((w.alloc o0).alloc o1).heap.size=w.heap.size+2:=by simp
 have s2:(((w.alloc o0).alloc o1).alloc o2).heap.size=w.heap.size+3:=by simp
 rw [s0] at h1;rw [s1] at h2;rw [s2] at h3
 exact ⟨Yx (Yx (Yx h0)),Yx (Yx h1),Yx h2,h3,((((Below.refl _ _).alloc (Nat.le_refl _) _).alloc (by omega) _).alloc (by omega) _).alloc (by omega) _,by simp⟩
theorem Q41 {w:World} {g:Nat} {a b c x y z:Value} {T:TypeId} (h:w.heap[g]?=some (.cells #[a,b,c] T (0,0))):(((w.setCell ⟨g,0,none⟩ x).setCell ⟨g,1,none⟩ y).setCell ⟨g,2,none⟩ z).heap[g]?=some (.cells #[x,y,z] T (0,0)) :=
 heap_setCell_same _ g 2 _ _ _ (heap_setCell_same _ g 1 _ _ _ (heap_setCell_same _ g 0 _ _ _ h))
theorem U8 (w:World) (g:Nat) (x y z:Value):Behind w [g] (((w.setCell ⟨g,0,none⟩ x).setCell ⟨g,1,none⟩ y).setCell ⟨g,2,none⟩ z):=(Wv w g x y).trans (Zs _ g 2 z) (fun _ hk=>.inl hk)
theorem Tryz.sizeNodeD:(Tryz.prog.info? 102).map (·.size)=some 3:=by kernel_rfl
set_option maxHeartbeats 6400000 in
set_option maxRecDepth 100000 in
theorem gFalse (F:Nat→Prop) (N gc n gl gd:Nat) (cache:Bool) (v u:Value) (ns:List Nd) (L:List (List Int)) (B:Nat) (w:World) (hS:CS F N w gc n gl gd cache v u ns) (hL:[]∈L) (hB:1≤B) :
  Calls Tryz.prog 76 #[] w (Made F N gc n gl gd cache v u ns L B w):=by
 obtain ⟨Post,hPost⟩:∃ P:Ending→World→Prop,P=Made F N gc n gl gd cache v u ns L B w:=⟨_,rfl⟩
 rw [←hPost]
 have HP:=Lib.hid (show ∀ (w':World),Below w.heap.size w w'→Post (.returned (.agg #[.int .i64 0,.int .i64 0,.slice none 0 0])) w' from fun w' h=>by
  rw [hPost]
  have hf:=add_false hS.net hL
  exact ⟨⟨0,0,[]⟩,none,0,v,u,ns,rfl,hS.below h,Later.of_below h,InsP.nil _ _ _,hf.1,hf.2,by omega⟩)
 clear hPost hS
 go_enter Tryz.func76,Tryz.ntmps76
 go_wp2_with fail
 refine bodyPost_ret (Qs (p:=0) rfl _ _ w.heap.size _ _ (0,0) _ rfl (heap_alloc_new w _) Tryz.underlying102 rfl Tryz.sizeNodeD) rfl ?_
 exact HP.out _ ((Below.refl _ _).alloc (Nat.le_refl _) _)
end
/- A decision on one variable. -/
section
open Go.RowKit Go.Maps Go.MapKept
set_option maxHeartbeats 12800000 in
set_option maxRecDepth 100000 in
theorem gDecide (N gc n gl gd:Nat) (cache:Bool) (V:Nat) (IH:∀ V',V'<V→Q8r N gc n gl gd cache V') (F:Nat→Prop) (v u:Value) (ns:List Nd) (L:List Ce) (p:Option Addr) (cap:Nat) (q:Option Addr) (term:List Int) (cq:Nat) (w:World) (hV:nvI n (lcs L)≤V)
  (hT:Pow10 N w) (hS:CS F N w gc n gl gd cache v u ns) (hA:ClsP (okC F gc gl gd v u) w p L) (hI:∀ e∈L,CeOk (okC F gc gl gd v u) w e) (hO:Hl n (lcs L)) (hne:∀ e∈L,e.xs≠[]) (hl:L.length<20) (hl0:L≠[]) (hq:InsP (okC F gc gl gd v u) w q term) (htl:term.length+nvI n (lcs L)≤1000) (hsz:ns.length+fbI (nvI n (lcs L))≤65536) (hn:n≤128) :
  Calls Tryz.prog 79 #[.pointer (some ⟨gc,0,none⟩),.slice p L.length cap,.slice q term.length cq] w (Made F N gc n gl gd cache v u ns (lcs L) (fbI (nvI n (lcs L))) w):=by
 obtain ⟨Post,hPost⟩:∃ P:Ending→World→Prop,P=Made F N gc n gl gd cache v u ns (lcs L) (fbI (nvI n (lcs L))) w:=⟨_,rfl⟩
 rw [←hPost]
 have HPM:=Lib.hid hPost
 have HS:=Lib.hid hS
 have HT:=Lib.hid hT
 have HA:=Lib.hid hA
 have HI:=Lib.hid hI
 have HO:=Lib.hid hO
 have HNE:=Lib.hid hne
 have HQ:=Lib.hid hq
 have HTL:=Lib.hid htl
 have HVV:=Lib.hid hV
 have HSZ:=Lib.hid hsz
 have HLL:=Lib.hid hl
 have HL0:=Lib.hid hl0
 have HMW:=Lib.hid (show ∀ g∈Jc gc gl gd v u,g<w.heap.size from HS.out.lt)
 clear hPost hS hT hA hI hO hne hq htl hV hsz hl hl0
 go_enter Tryz.func79,Tryz.ntmps79
 go_upto_region 1 with fail
 refine Qg ?_
 intro w1 hw1
 obtain ⟨A0,A1,A2,A3,A4,A5⟩:=Q3w w (Obj.cells #[Value.pointer (some { block:=gc,off:=0 })] 92) (Obj.cells #[Value.slice p L.length cap] 98) (Obj.cells #[Value.slice q term.length cq] 51) (Obj.cells #[Value.int IntKind.i64 0,Value.int IntKind.i64 0,Value.slice none 0 0] 102)
 rw [←hw1] at A0 A1 A2 A3 A4 A5
 obtain ⟨F',hF'⟩:∃ F':Nat→Prop,F'=fun b=>F b∨b=w.heap.size+1+1+1:=⟨_,rfl⟩
 have HFD:=Lib.hid hF'
 have HFF:=Lib.hid (show ∀ g,g<w.heap.size→okC F gc gl gd v u g→okC F' gc gl gd v u g from fun g hg hk=>⟨hk.1,fun h=>by rw [hF'] at h;exact h.elim hk.2 (fun e=>by omega)⟩)
 have HS1:=Lib.hid (show CS F' N w1 gc n gl gd cache v u ns from HS.out.move (fun g hg=>A4.block g (HMW.out g hg)) (fun b hb hk _=>⟨A4.block b hb,fun h=>by rw [hF'] at h;exact h.elim hk (fun e=>by omega)⟩) (fun b hb=>by rw [hF'] at hb;exact hb.elim (fun h=>by have:=HS.out.hF b h;omega) (fun e=>by omega)) (by have:=HS.out.bas;omega))
 have HA1:=Lib.hid ((((HA.out.imp (fun g hg hk=>(⟨HFF.out g hg hk,hg⟩:okC F' gc gl gd v u g∧g<w.heap.size))).keep (Q4 A4) (by simp)).imp (fun g _ hk=>hk.1)))
 have HQ1:=Lib.hid ((((HQ.out.imp (fun g hg hk=>(⟨HFF.out g hg hk,hg⟩:okC F' gc gl gd v u g∧g<w.heap.size))).keep (Q4 A4) (by simp)).imp (fun g _ hk=>hk.1)))
 have HI1:=Lib.hid (show ∀ e∈L,CeOk (okC F' gc gl gd v u) w1 e from fun e he=>by
  have hc:=HI.out e he
  exact ⟨((hc.ins.imp (fun g hg hk=>(⟨HFF.out g hg hk,hg⟩:okC F' gc gl gd v u g∧g<w.heap.size))).keep (Q4 A4) (by simp)).imp (fun g _ hk=>hk.1),hc.sm,hc.len⟩)
 have KC:=Lib.hid (gChoose _ n gc gl gd cache v u L p cap w1 HS1.out.blk hn HA1.out HI1.out HO.out HNE.out HLL.out HL0.out)
 have X0:=Lib.hid A0
 have X1:=Lib.hid A1
 have X2:=Lib.hid A2
 have X3:=Lib.hid A3
 have X4:=Lib.hid A4
 have X5:=Lib.hid A5
 have c0:=Q5 A0 0 rfl
 have c1:=Q5 A1 0 rfl
 clear A0 A1 A2 A3 A4 A5 hw1 hF' HA HI HQ
 go_wp2_with fail
 refine KC.out.mono ?_
 rintro e w2 ⟨x,rfl,hxv,hbe2⟩
 have HB2:=Lib.hid hbe2
 have HXV:=Lib.hid hxv
 obtain ⟨hx1,hx2⟩:0<x∧x≤n:=by
  obtain ⟨c,hc,y,hy,rfl⟩:=Yk.1 hxv
  have:=HO.out c hc y hy
  omega
 have HNV:=Lib.hid (show 1≤nvI n (lcs L) by
  obtain ⟨c,hc,y,hy,_⟩:=Yk.1 hxv
  exact Q8l HO.out hc (fun e=>by rw [e] at hy;cases hy))
 have HFB:=Lib.hid (show 1+2*(2+fbI (nvI n (lcs L)-1))≤fbI (nvI n (lcs L)) from fb_side (by have:=HNV.out;omega))
 have hbh:=Q4 hbe2
 have KS:=Lib.hid (gSide N gc n gl gd cache V IH F' v u ns L p cap q term cq (-(x:Int)) (w.heap.size+1) w.heap.size (w.heap.size+1+1) w2 HVV.out (by omega) (by omega) (by rw [Int.natAbs_neg];exact hxv)
  (HT.out.on ((X4.out.mono HS.out.bas).trans (hbe2.mono (by have:=HS1.out.bas;omega))) (Nat.le_refl _)) (HS1.out.below hbe2) (HA1.out.keep hbh (by simp)) (fun e he=>(HI1.out e he).keep hbh (by simp)) HO.out HNE.out HLL.out (HQ1.out.keep hbh (by simp)) HTL.out (by have:=HFB.out;have:=HSZ.out;omega) hn
  (hbh.keep X1.out (by simp)) (hbh.keep X0.out (by simp)) (hbh.keep X2.out (by simp)) (fun b hb hm=>by have:=HMW.out b hm;omega))
 clear hxv hbe2 hbh KC c0 c1
 go_wp2_with fail
 refine KS.out.mono ?_
 rintro e w3 ⟨i,v1,u1,ns1,rfl,hs1,hl1,hd1,hn1⟩
 have HB1W:=Lib.hid (show ∀ b,b<w.heap.size+4→b∉Jc gc gl gd v u→b∉Jc gc gl gd v1 u1 from fun b hb hm h=>(hl1.sub b h).elim hm (fun h2=>by have:=HB2.out.size;have:=X5.out;omega))
 have HB3:=Lib.hid (show ∀ b o,b<w.heap.size+4→w.heap.size≤b→w1.heap[b]?=some o→w3.heap[b]?=some o from fun b o hb hb2 h=>by
  have h2:w2.heap[b]?=some o:=((Q4 HB2.out).keep h (by simp))
  exact hl1.be.keep h2 (fun hm=>by have:=HMW.out b hm;omega))
 have hbh:=Q4 HB2.out
 have KS2:=Lib.hid (gSide N gc n gl gd cache V IH F' v1 u1 ns1 L p cap q term cq (x:Int) (w.heap.size+1) w.heap.size (w.heap.size+1+1) w3 HVV.out (by omega) (by omega) (by rw [Int.natAbs_natCast];exact HXV.out)
  ((HT.out.on ((X4.out.mono HS.out.bas).trans (HB2.out.mono (by have:=HS1.out.bas;omega))) (Nat.le_refl _)).on (hl1.be.below_of (fun k hk=>HS.out.ge k hk) (by have:=HS1.out.bas;have:=HB2.out.size;omega)) (Nat.le_refl _)) hs1 (hl1.cls (HA1.out.keep hbh (by simp))) (fun e he=>hl1.ce ((HI1.out e he).keep hbh (by simp))) HO.out HNE.out HLL.out (hl1.ins (HQ1.out.keep hbh (by simp))) HTL.out (by have:=HFB.out;have:=HSZ.out;omega) hn
  (HB3.out _ _ (by omega) (by omega) X1.out) (HB3.out _ _ (by omega) (by omega) X0.out) (HB3.out _ _ (by omega) (by omega) X2.out) (fun b hb=>HB1W.out b (by omega) (fun hm=>by have:=HMW.out b hm;omega)))
 have HS3:=Lib.hid hs1
 have HL3:=Lib.hid hl1
 have HD3:=Lib.hid hd1
 have HN3:=Lib.hid hn1
 clear hs1 hl1 hd1 hn1 hbh KS
 go_wp2_with fail
 refine KS2.out.mono ?_
 rintro e w4 ⟨j,v2,u2,ns2,rfl,hs2,hl2,hd2,hn2⟩
 have h6:w4.heap[w.heap.size+1+1+1]?=some (Obj.cells #[Value.int IntKind.i64 0,Value.int IntKind.i64 0,Value.slice none 0 0] 102):=hl2.be.keep (HB3.out _ _ (by omega) (by omega) X3.out) (HB1W.out _ (by omega) (fun hm=>by have:=HMW.out _ hm;omega))
 have H6:=Lib.hid h6
 have HS4:=Lib.hid hs2
 have HL4:=Lib.hid hl2
 have HD4:=Lib.hid hd2
 have HN4:=Lib.hid hn2
 have H6A:=Lib.hid (Yx (ob:=Obj.cells #[Value.int IntKind.i64 (i:Nat),Value.int IntKind.i64 (j:Nat)] 3) h6)
 have z0:=Q5 H6A.out 0 rfl
 have z1:=Q5 H6A.out 1 rfl
 have z2:=Q5 H6A.out 2 rfl
 have f0:=Qd H6A.out 0
 have f1:=Qd H6A.out 1
 have f2:=Qd H6A.out 2
 clear hs2 hl2 hd2 hn2 KS2 h6
 go_wp2_with fail
 refine bodyPost_ret (Qs (p:=6) rfl _ _ (w.heap.size+1+1+1) _ _ (0,0) _ rfl (Q41 H6A.out) Tryz.underlying102 rfl Tryz.sizeNodeD) rfl ?_
 clear z0 z1 z2 f0 f1 f2
 obtain ⟨w5,hw5⟩:∃ w5,w5=((((w4.alloc (Obj.cells #[Value.int IntKind.i64 (i:Nat),Value.int IntKind.i64 (j:Nat)] 3)).setCell ⟨w.heap.size+1+1+1,0,none⟩ (Value.int IntKind.i64 4)).setCell ⟨w.heap.size+1+1+1,1,none⟩ (Value.int IntKind.i64 0)).setCell ⟨w.heap.size+1+1+1,2,none⟩ (Value.slice (some ⟨w4.heap.size,0,none⟩) 2 2)):=⟨_,rfl⟩
 rw [←hw5]
 have hbe5:Behind w4 [w.heap.size+1+1+1] w5:=by
  rw [hw5]
  exact ((Q4 ((Below.refl w4.heap.size w4).alloc (Nat.le_refl _) _)).mono (by simp)).trans (U8 _ _ _ _ _) (fun _ hk=>.inl hk)
 have h4s:w.heap.size+4≤w4.heap.size:=by have:=HL4.out.be.size;have:=HL3.out.be.size;have:=HB2.out.size;have:=X5.out;omega
 have hnew:w5.heap[w4.heap.size]?=some (Obj.cells #[Value.int IntKind.i64 (i:Nat),Value.int IntKind.i64 (j:Nat)] 3 (0,0)):=by
  rw [hw5]
  exact (U8 _ _ _ _ _).keep (heap_alloc_new w4 _) (by simp;omega)
 have hla4:Later w w4 gc gl gd v u v2 u2 ns ns2:=((Later.of_below (X4.out.trans (HB2.out.mono (by have:=X5.out;omega)))).trans HL3.out).trans HL4.out
 have hg6:w.heap.size+1+1+1∉Jc gc gl gd v2 u2:=fun h=>(HL4.out.sub _ h).elim (HB1W.out _ (by omega) (fun hm=>by have:=HMW.out _ hm;omega)) (fun h2=>by have:=HL3.out.be.size;have:=HB2.out.size;have:=X5.out;omega)
 have hcs5:CS F N w5 gc n gl gd cache v2 u2 ns2:=HS4.out.move (fun g hg=>hbe5.block g (HS4.out.lt g hg) (by simp;exact fun e=>hg6 (e▸hg))) (fun b hb hk _=>⟨hbe5.block b hb (by simp;exact fun e=>hk (by rw [HFD.out];exact .inr e)),fun h=>hk (by rw [HFD.out];exact .inl h)⟩) (fun b hb=>by have:=HS.out.hF b hb;have:=hbe5.size;omega) (by have:=HS4.out.bas;have:=hbe5.size;omega)
 have hla5:Later w w5 gc gl gd v u v2 u2 ns ns2:=⟨hla4.be.trans hbe5 (fun b hb=>.inr (by simp at hb;omega)),hla4.sub,hla4.ext⟩
 obtain ⟨ms,hms⟩:=HL4.out.ext
 obtain ⟨hng,hme⟩:=add_or HS4.out.net (x:=(x:Int)) (by omega) (by rw [hms];exact HD3.out.app ms) HD4.out
 rw [HPM.out]
 refine ⟨⟨4,0,[(i:Int),(j:Int)]⟩,some ⟨w4.heap.size,0,none⟩,2,v2,u2,ns2,rfl,hcs5,hla5,?_,hng,hme,by have:=HN3.out;have:=HN4.out;have:=HFB.out;omega⟩
 intro k y hy
 refine ⟨w4.heap.size,0,Q9 hnew,⟨fun h=>by have:=HS4.out.lt _ h;omega,fun h=>by have:=HS.out.hF _ h;omega⟩,rfl,?_⟩
 rw [Nat.zero_add]
 exact Q5 hnew k (by simpa [Qm] using hy)
end
end Go.Proofs.YtcpehljpegfckaaGreatDoor
