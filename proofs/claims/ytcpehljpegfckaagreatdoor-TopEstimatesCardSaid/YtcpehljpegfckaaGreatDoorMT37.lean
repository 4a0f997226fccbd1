/- Texts of this claim,joined: DB3,DC1,DC2,DC3,DC4. -/
import Derived.Test.YtcpehljpegfckaaGreatDoorMT23
import Derived.Deep.DeepCutAuto
/- The closure that makes a decision's node. -/
namespace Go.Proofs.YtcpehljpegfckaaGreatDoor
section
open Go.RowKit Go.Maps Go.MapKept
set_option maxHeartbeats 12800000 in
set_option maxRecDepth 100000 in
theorem gMake (N gc n gl gd:Nat) (cache:Bool) (V:Nat) (IH:∀ V',V'<V→Q8r N gc n gl gd cache V') (F:Nat→Prop) (v u:Value) (ns:List Nd) (L:List Ce) (p:Option Addr) (cap:Nat) (q:Option Addr) (term:List Int) (cq:Nat) (b0 b1 b2:Nat) (w:World) (hV:nvI n (lcs L)≤V)
  (hT:Pow10 N w) (hS:CS F N w gc n gl gd cache v u ns) (hA:ClsP (okC F gc gl gd v u) w p L) (hI:∀ e∈L,CeOk (okC F gc gl gd v u) w e) (hO:Hl n (lcs L)) (hne:∀ e∈L,e.xs≠[]) (hl:L.length<20) (hl0:L≠[]) (hq:InsP (okC F gc gl gd v u) w q term) (htl:term.length+nvI n (lcs L)≤1000) (hsz:ns.length+fbI (nvI n (lcs L))≤65536) (hn:n≤128)
  (hb0:w.heap[b0]?=some (.cells #[.pointer (some ⟨gc,0,none⟩)] 92 (0,0))) (hb1:w.heap[b1]?=some (.cells #[.slice p L.length cap] 98 (0,0))) (hb2:w.heap[b2]?=some (.cells #[.slice q term.length cq] 51 (0,0))) :
  Calls Tryz.prog 78 #[.pointer (some ⟨b0,0,none⟩),.pointer (some ⟨b1,0,none⟩),.pointer (some ⟨b2,0,none⟩)] w (Made F N gc n gl gd cache v u ns (lcs L) (fbI (nvI n (lcs L))) w):=by
 obtain ⟨Post,hPost⟩:∃ P:Ending→World→Prop,P=Made F N gc n gl gd cache v u ns (lcs L) (fbI (nvI n (lcs L))) w:=⟨_,rfl⟩
 rw [←hPost]
 have HPM:=Lib.hid hPost
 have HS:=Lib.hid hS
 have HMW:=Lib.hid (show ∀ g∈Jc gc gl gd v u,g<w.heap.size from HS.out.lt)
 obtain ⟨w1,hw1⟩:∃ w1,w1=w.alloc (Obj.cells #[Value.int IntKind.i64 0,Value.int IntKind.i64 0,Value.slice none 0 0] 102):=⟨_,rfl⟩
 have A4:Below w.heap.size w w1:=by rw [hw1];exact (Below.refl _ _).alloc (Nat.le_refl _) _
 have A5:w1.heap.size=w.heap.size+1:=by rw [hw1];simp
 have A3:w1.heap[w.heap.size]?=some (Obj.cells #[Value.int IntKind.i64 0,Value.int IntKind.i64 0,Value.slice none 0 0] 102 (0,0)):=by rw [hw1];exact heap_alloc_new w _
 have hbh:=Q4 A4
 obtain ⟨F',hF'⟩:∃ F':Nat→Prop,F'=fun b=>F b∨b=w.heap.size:=⟨_,rfl⟩
 have hff:∀ g,g<w.heap.size→okC F gc gl gd v u g→okC F' gc gl gd v u g:=fun g hg hk=>⟨hk.1,fun h=>by rw [hF'] at h;exact h.elim hk.2 (fun e=>by omega)⟩
 have hs1:CS F' N w1 gc n gl gd cache v u ns:=hS.move (fun g hg=>A4.block g (HMW.out g hg)) (fun b hb hk _=>⟨A4.block b hb,fun h=>by rw [hF'] at h;exact h.elim hk (fun e=>by omega)⟩) (fun b hb=>by rw [hF'] at hb;exact hb.elim (fun h=>by have:=hS.hF b h;omega) (fun e=>by omega)) (by have:=hS.bas;omega)
 have KD:=Lib.hid (gDecide N gc n gl gd cache V IH F' v u ns L p cap q term cq w1 hV (hT.on (A4.mono hS.bas) (Nat.le_refl _)) hs1
  ((((hA.imp (fun g hg hk=>(⟨hff g hg hk,hg⟩:okC F' gc gl gd v u g∧g<w.heap.size))).keep hbh (by simp)).imp (fun g _ hk=>hk.1)))
  (fun e he=>⟨((((hI e he).ins.imp (fun g hg hk=>(⟨hff g hg hk,hg⟩:okC F' gc gl gd v u g∧g<w.heap.size))).keep hbh (by simp)).imp (fun g _ hk=>hk.1)),(hI e he).sm,(hI e he).len⟩) hO hne hl hl0
  ((((hq.imp (fun g hg hk=>(⟨hff g hg hk,hg⟩:okC F' gc gl gd v u g∧g<w.heap.size))).keep hbh (by simp)).imp (fun g _ hk=>hk.1))) htl hsz hn)
 have X4:=Lib.hid A4
 have X5:=Lib.hid A5
 have X3:=Lib.hid A3
 have HFD:=Lib.hid hF'
 have c0:w1.cell? ⟨b0,0,none⟩=some (.pointer (some ⟨gc,0,none⟩)):=Q5 (hbh.keep hb0 (by simp)) 0 rfl
 have c1:w1.cell? ⟨b1,0,none⟩=some (.slice p L.length cap):=Q5 (hbh.keep hb1 (by simp)) 0 rfl
 have c2:w1.cell? ⟨b2,0,none⟩=some (.slice q term.length cq):=Q5 (hbh.keep hb2 (by simp)) 0 rfl
 have HW1:=Lib.hid hw1
 clear hPost hS hT hA hI hO hne hl hl0 hq htl hsz hb0 hb1 hb2 hbh hff hs1 A3 A4 A5 hF' hw1
 go_enter Tryz.func78,Tryz.ntmps78
 go_upto_region 1 with fail
 refine Qg ?_
 intro w1' hw1'
 rw [←HW1.out] at hw1'
 subst hw1'
 go_wp2_with fail
 refine KD.out.mono ?_
 rintro e w4 ⟨g,p4,c4,v2,u2,ns2,rfl,hs4,hl4,hi4,hng,hme,hln⟩
 have hg6:w.heap.size∉Jc gc gl gd v u:=fun h=>by have:=HMW.out _ h;omega
 have H6:=Lib.hid (hl4.be.keep X3.out hg6)
 have z0:=Q5 H6.out 0 rfl
 have z1:=Q5 H6.out 1 rfl
 have z2:=Q5 H6.out 2 rfl
 have f0:=Qd H6.out 0
 have f1:=Qd H6.out 1
 have f2:=Qd H6.out 2
 have HS4:=Lib.hid hs4
 have HL4:=Lib.hid hl4
 have HI4:=Lib.hid hi4
 have HNG:=Lib.hid hng
 have HME:=Lib.hid hme
 have HLN:=Lib.hid hln
 clear hs4 hl4 hi4 hng hme hln KD
 go_wp2_with fail
 refine bodyPost_ret (Qs (p:=3) rfl _ _ w.heap.size _ _ (0,0) _ rfl (Q41 H6.out) Tryz.underlying102 rfl Tryz.sizeNodeD) rfl ?_
 clear z0 z1 z2 f0 f1 f2
 generalize hw5:((w4.setCell ⟨w.heap.size,0,none⟩ (Value.int IntKind.i64 g.k)).setCell ⟨w.heap.size,1,none⟩ (Value.int IntKind.i64 g.lit)).setCell ⟨w.heap.size,2,none⟩ (Value.slice p4 g.ins.length c4)=w5
 have hbe5:Behind w4 [w.heap.size] w5:=by
  rw [←hw5]
  exact U8 _ _ _ _ _
 have h4s:w.heap.size+1≤w4.heap.size:=by have:=HL4.out.be.size;have:=X5.out;omega
 have hla4:Later w w4 gc gl gd v u v2 u2 ns ns2:=(Later.of_below X4.out).trans HL4.out
 have hg7:w.heap.size∉Jc gc gl gd v2 u2:=fun h=>(HL4.out.sub _ h).elim hg6 (fun h2=>by have:=X5.out;omega)
 have hcs5:CS F N w5 gc n gl gd cache v2 u2 ns2:=HS4.out.move (fun g hg=>hbe5.block g (HS4.out.lt g hg) (by simp;exact fun e=>hg7 (e▸hg))) (fun b hb hk _=>⟨hbe5.block b hb (by simp;exact fun e=>hk (by rw [HFD.out];exact .inr e)),fun h=>hk (by rw [HFD.out];exact .inl h)⟩) (fun b hb=>by have:=HS.out.hF b hb;have:=hbe5.size;omega) (by have:=HS4.out.bas;have:=hbe5.size;omega)
 have hla5:Later w w5 gc gl gd v u v2 u2 ns ns2:=⟨hla4.be.trans hbe5 (fun b hb=>.inr (by simp at hb;omega)),hla4.sub,hla4.ext⟩
 rw [HPM.out]
 refine ⟨g,p4,c4,v2,u2,ns2,rfl,hcs5,hla5,?_,HNG.out,HME.out,HLN.out⟩
 refine HI4.out.move (fun b hb hk=>?_)
 rw [HFD.out] at hk
 exact ⟨hbe5.block b hb (by simp;exact fun e=>hk.2 (.inr e)),hk.1,fun h=>hk.2 (.inl h)⟩
end
/- What the loops of fit hold. -/
section
open Go.RowKit Go.Maps Go.MapKept
theorem ClsP.move {ok ok':Nat→Prop} {w x:World} {p:Option Addr} {L:List Ce} (h:ClsP ok w p L) (hb:∀ b,b<w.heap.size→ok b→x.heap[b]?=w.heap[b]?∧ok' b):ClsP ok' x p L:=fun i e he=>by
 obtain ⟨b,o,h1,h2,h3,h4,h5⟩:=h i e he
 obtain ⟨e1,h6⟩:=hb b h1 h2
 refine ⟨b,o,?_,h6,h3,by rw [Kb e1];exact h4,by rw [Kb e1];exact h5⟩
 rw [Array.getElem?_eq_getElem h1] at e1
 exact Q9 e1
theorem CeOk.move {ok ok':Nat→Prop} {w x:World} {e:Ce} (h:CeOk ok w e) (hb:∀ b,b<w.heap.size→ok b→x.heap[b]?=w.heap[b]?∧ok' b):CeOk ok' x e:=⟨h.ins.move hb,h.sm,h.len⟩
def Fr (w:World) (ok:Nat→Prop) (x:World) (ok':Nat→Prop):Prop:=∀ b,b<w.heap.size→ok b→x.heap[b]?=w.heap[b]?∧ok' b
theorem Fr.trans {w x y:World} {ok ok' ok'':Nat→Prop} (h:Fr w ok x ok') (k:Fr x ok' y ok''):Fr w ok y ok'':=fun b hb hk=>by
 obtain ⟨h1,h2⟩:=h b hb hk
 have hx:b<x.heap.size:=by
  rw [Array.getElem?_eq_getElem hb] at h1
  exact Q9 h1
 obtain ⟨h3,h4⟩:=k b hx h2
 exact ⟨h3.trans h1,h4⟩
theorem Fr.below {w x:World} {ok:Nat→Prop} (h:Below w.heap.size w x):Fr w ok x ok:=fun b hb hk=>⟨h.block b hb,hk⟩
structure FM (F F':Nat→Prop) (N gc n gl gd:Nat) (cache:Bool) (w wr:World) (v u:Value) (ns:List Nd) (B3 B5:Nat) (v7:Value) (ks term:List Int) (q:Option Addr) (cq:Nat) (v' u':Value) (ns':List Nd):Prop where
 cs:CS F' N wr gc n gl gd cache v' u' ns'
 la:Later w wr gc gl gd v u v' u' ns ns'
 sub:∀ b,F b→F' b
 b5:F' B5∧w.heap.size≤B5∧B5∉Jc gc gl gd v' u'
 h5:wr.heap[B5]?=some (.cells #[.slice q term.length cq] 51 (0,0))
 b3:B3∉Jc gc gl gd v' u'∧B3≠B5
 h3:wr.heap[B3]?=some (.cells #[.pointer (some ⟨gc,0,none⟩)] 92 (0,0))
 row:RowV (inW wr) 3 1 v7 ks.length (Qm ks)
 rowF:∀ b∈Q7 v7,F' b∧w.heap.size≤b∧b∉Jc gc gl gd v' u'∧b≠B3∧b≠B5
 tm:InsP (okC F' gc gl gd v' u') wr q term
section
variable {F F':Nat→Prop} {N gc n gl gd:Nat} {cache:Bool} {w wr:World} {v u:Value} {ns:List Nd} {B3 B5:Nat} {v7:Value} {ks term:List Int} {q:Option Addr} {cq:Nat} {v' u':Value} {ns':List Nd}
theorem FM.push (h:FM F F' N gc n gl gd cache w wr v u ns B3 B5 v7 ks term q cq v' u' ns') {wa wb:World} {v2 u2 v8:Value} {ns2:List Nd} {i:Int} (hs:CS F' N wa gc n gl gd cache v2 u2 ns2) (hl:Later wr wa gc gl gd v' u' v2 u2 ns' ns2) (hr:RowV (inW wb) 3 1 v8 (ks.length+1) (Qm ks++[.int .i64 i])) (hb:Behind wa (Q7 v7) wb) (hf:∀ b∈Q7 v8,b∈Q7 v7∨wa.heap.size≤b) :
  FM F (fun b=>F' b∨b∈Q7 v8) N gc n gl gd cache w wb v u ns B3 B5 v8 (ks++[i]) term q cq v2 u2 ns2∧Fr wr (okC F' gc gl gd v' u') wb (okC (fun b=>F' b∨b∈Q7 v8) gc gl gd v2 u2):=by
 have hlt7:=h.row.lt
 have hsz:=hl.be.size
 have h3l:=Q9 h.h3
 have h5l:=Q9 h.h5
 have hn2:∀ b,b<wr.heap.size→b∉Jc gc gl gd v' u'→b∉Jc gc gl gd v2 u2:=fun b h1 h2 h4=>(hl.sub b h4).elim h2 (fun h5=>by omega)
 have hm7:∀ b∈Q7 v7,b∉Jc gc gl gd v2 u2:=fun b h1=>hn2 b (hlt7 b h1) (h.rowF b h1).2.2.1
 have hwb:wa.heap.size≤wb.heap.size:=hb.size
 have fr:Fr wr (okC F' gc gl gd v' u') wb (okC (fun b=>F' b∨b∈Q7 v8) gc gl gd v2 u2):=fun b h1 hk=>by
  have h7:b∉Q7 v7:=fun h2=>hk.2 (h.rowF b h2).1
  refine ⟨(hb.block b (by omega) h7).trans (hl.be.block b h1 hk.1),hn2 b h1 hk.1,fun h2=>h2.elim hk.2 (fun h4=>(hf b h4).elim h7 (fun h5=>by omega))⟩
 have hlen:Qm (ks++[i])=Qm ks++[.int .i64 i]:=by simp [Qm]
 refine ⟨⟨hs.move (fun g hg=>hb.block g (hs.lt g hg) (fun h2=>hm7 g h2 hg)) (fun b h1 hk _=>?_) (fun b h2=>h2.elim (fun h4=>by have:=hs.hF b h4;omega) (fun h4=>hr.lt b h4)) (by have:=hs.bas;omega),
  ⟨(h.la.trans hl).be.trans hb (fun b h2=>.inr (h.rowF b h2).2.1),(h.la.trans hl).sub,(h.la.trans hl).ext⟩,fun b h2=>.inl (h.sub b h2),⟨.inl h.b5.1,h.b5.2.1,hn2 B5 h5l h.b5.2.2⟩,hb.keep (hl.be.keep h.h5 h.b5.2.2) (fun h2=>(h.rowF B5 h2).2.2.2.2 rfl),⟨hn2 B3 h3l h.b3.1,h.b3.2⟩,hb.keep (hl.be.keep h.h3 h.b3.1) (fun h2=>(h.rowF B3 h2).2.2.2.1 rfl),?_,fun b h2=>?_,h.tm.move fr⟩,fr⟩
 ·have h7:b∉Q7 v7:=fun h2=>hk (h.rowF b h2).1
  exact ⟨hb.block b h1 h7,fun h2=>h2.elim hk (fun h4=>(hf b h4).elim h7 (fun h5=>by omega))⟩
 ·rw [List.length_append,hlen];exact hr
 ·rcases hf b h2 with h4 | h4
  ·exact ⟨.inr h2,(h.rowF b h4).2.1,hm7 b h4,(h.rowF b h4).2.2.2⟩
  ·have hw:=h.la.be.size
   exact ⟨.inr h2,by omega,fun h5=>by have:=hs.lt b h5;omega,by omega,by omega⟩
theorem FM.below (h:FM F F' N gc n gl gd cache w wr v u ns B3 B5 v7 ks term q cq v' u' ns') {x:World} (hb:Below wr.heap.size wr x):FM F F' N gc n gl gd cache w x v u ns B3 B5 v7 ks term q cq v' u' ns':=by
 have hB:=Q4 hb
 exact ⟨h.cs.below hb,h.la.trans (Later.of_below hb),h.sub,h.b5,hB.keep h.h5 (by simp),h.b3,hB.keep h.h3 (by simp),h.row.keep hB (by simp),h.rowF,h.tm.move (Fr.below hb)⟩
theorem FM.longer (h:FM F F' N gc n gl gd cache w wr v u ns B3 B5 v7 ks term q cq v' u' ns') {x:World} (hb:Below wr.heap.size wr x) {term2:List Int} {q2:Option Addr} {cq2:Nat} (ht:InsP (fun b=>wr.heap.size≤b) x q2 term2) :
  FM F F' N gc n gl gd cache w (x.setCell ⟨B5,0,none⟩ (.slice q2 term2.length cq2)) v u ns B3 B5 v7 ks term2 q2 cq2 v' u' ns'∧Fr wr (okC F' gc gl gd v' u') (x.setCell ⟨B5,0,none⟩ (.slice q2 term2.length cq2)) (okC F' gc gl gd v' u'):=by
 have h1:=h.below hb
 have hB:=Zs x B5 0 (.slice q2 term2.length cq2)
 have h5l:=Q9 h.h5
 have hsz:=hb.size
 have fr:Fr wr (okC F' gc gl gd v' u') (x.setCell ⟨B5,0,none⟩ (.slice q2 term2.length cq2)) (okC F' gc gl gd v' u'):=fun b h2 hk=>by
  have h6:b≠B5:=fun e=>hk.2 (e▸h.b5.1)
  exact ⟨(hB.block b (by omega) (by simpa using h6)).trans (hb.block b h2),hk⟩
 refine ⟨⟨h1.cs.move (fun g hg=>hB.block g (h1.cs.lt g hg) (by simp;exact fun e=>h.b5.2.2 (e▸hg))) (fun b h2 hk _=>⟨hB.block b h2 (by simp;exact fun e=>hk (e▸h.b5.1)),hk⟩) (fun b h2=>by have:=h1.cs.hF b h2;simpa using this) (by simpa using h1.cs.bas),
  ⟨h1.la.be.trans hB (fun b h2=>.inr (by simp at h2;rw [h2];exact h.b5.2.1)),h1.la.sub,h1.la.ext⟩,h.sub,h.b5,heap_setCell_same _ B5 0 _ _ _ h1.h5,h.b3,hB.keep h1.h3 (by simpa using h.b3.2),h1.row.keep hB (fun g hg=>by simp;exact fun e=>(h.rowF g hg).2.2.2.2 e),h.rowF,?_⟩,fr⟩
 refine ht.move (fun b h2 h4=>⟨hB.block b h2 (by simp;omega),fun h6=>by have:=h.cs.lt b h6;omega,fun h6=>by have:=h.cs.hF b h6;omega⟩)
end
/-! ### What the numbers say -/
structure FS (n:Nat) (ns ns':List Nd) (L M:List (List Int)) (ks term:List Int):Prop where
 part:Part ns' ks M L
 bud:ns'.length+fbI (nvI n M)≤ns.length+fbI (nvI n L)
 tl:term.length+nvI n M≤1000
 ksl:ks.length+nvI n M≤128
 one:∀ k,ks=[k]→k.toNat<ns.length∨k.toNat+1=ns'.length
 nil:ks=[]→ns'=ns∧M≠[]
 ok:Hl n M
theorem Q2x {ks:List Int} {i:Nat} {a b:Nat} {ns ns':List Nd} (h:ks=[]→ns'=ns) (hb:ns'.length=b) (hi:i<b∨i+1=a):∀ k,ks++[(i:Int)]=[k]→k.toNat<ns.length∨k.toNat+1=a:=fun k hk=>by
 cases ks with
 | nil =>
  obtain rfl:(i:Int)=k:=by simpa using hk
  rw [←h rfl,hb];simpa using hi
 | cons a r=>simp at hk
theorem FS.unit {n:Nat} {ns ns' ns2:List Nd} {L M M':List (List Int)} {ks term:List Int} (h:FS n ns ns' L M ks term) {i:Nat} {x:Int} (hi:IsLit n ns2 i x) (hx:[x]∈M) (hx2:∃ ms,ns2=ns'++ms) (hl:ns2.length≤ns'.length+1) (ha:i<ns'.length∨i+1=ns2.length) (hg:SameC M' (Q0o x M)) :
  FS n ns ns2 L M' (ks++[(i:Int)]) (term++[x]):=by
 obtain ⟨h0,hn⟩:=h.ok [x] hx x (by simp)
 have hv:clV M x.natAbs=true:=Yk.2 ⟨[x],hx,x,by simp,rfl⟩
 have hG:=Q92 h0 hg
 have hnv:=Q8u hG hv h0 hn
 have hfb:=fb_unit hnv
 obtain ⟨ms,e⟩:=hx2
 have h1:=h.bud
 have h2:=h.tl
 have h3:=h.ksl
 refine ⟨Part.unit (n:=n) (by rw [e];exact h.part.app ms) hi hx hG,by omega,by rw [List.length_append];simp;omega,by rw [List.length_append];simp;omega,Q2x (fun e=>(h.nil e).1) rfl ha,fun e=>by simp at e,hg.ok (giv_ok h.ok)⟩
theorem FS.all {n:Nat} {ns ns' ns2:List Nd} {L M:List (List Int)} {ks term:List Int} (h:FS n ns ns' L M ks term) {i:Nat} (hi:Means ns2 i M) (hx2:∃ ms,ns2=ns'++ms):Part ns2 (ks++[(i:Int)]) [] L:=by
 obtain ⟨ms,e⟩:=hx2
 exact Part.group (L:=M) (by rw [e];exact h.part.app ms) hi (fun a=>by simp [thB]) (fun v hv=>⟨hv,by simp [clV]⟩) (fun v hv=>by simp [clV] at hv)
structure FT (n:Nat) (ns ns':List Nd) (L:List (List Int)) (R:List (List (List Int))) (ks:List Int):Prop where
 part:Part ns' ks R.flatten L
 bud:ns'.length+(if R=[] then 0 else fbI (nvI n R.flatten))≤ns.length+fbI (nvI n L)
 ksl:ks.length+nvI n R.flatten≤128
 one:∀ k,ks=[k]→k.toNat<ns.length∨k.toNat+1=ns'.length
 nil:ks=[]→ns'=ns∧R≠[]
 apa:R.Pairwise fun g h=>∀ v,clV g v=true→clV h v=false
 pos:∀ g∈R,∃ c∈g,c≠[]
 ok:∀ g∈R,Hl n g
theorem clV_flat {R:List (List (List Int))} {v:Nat} (h:clV R.flatten v=true):∃ g∈R,clV g v=true:=by
 obtain ⟨c,hc,x,hx,e⟩:=Yk.1 h
 obtain ⟨g,hg,hc2⟩:=List.mem_flatten.1 hc
 exact ⟨g,hg,Yk.2 ⟨c,hc2,x,hx,e⟩⟩
theorem Q2d (L M:List (List Int)) (v:Nat):clV (L++M) v=(clV L v||clV M v):=by unfold clV;rw [List.any_append]
theorem FT.group {n:Nat} {ns ns' ns2:List Nd} {L:List (List Int)} {g:List (List Int)} {R:List (List (List Int))} {ks:List Int} (h:FT n ns ns' L (g::R) ks) {i:Nat} (hi:Means ns2 i g) (hx2:∃ ms,ns2=ns'++ms) (hl:ns2.length≤ns'.length+fbI (nvI n g)) (ha:i<ns'.length∨i+1=ns2.length):FT n ns ns2 L R (ks++[(i:Int)]):=by
 obtain ⟨ms,e⟩:=hx2
 have h1:=h.bud
 have h3:=h.ksl
 rw [if_neg (by simp)] at h1
 obtain ⟨hap,hapR⟩:=List.pairwise_cons.1 h.apa
 have hdis:∀ v,clV g v=true→clV R.flatten v=false:=fun v hv=>by
  cases e:clV R.flatten v with
  | false=>rfl
  | true =>
   obtain ⟨g2,hg2,h5⟩:=clV_flat e
   rw [hap g2 hg2 v hv] at h5;cases h5
 have hgv:∀ v,clV g v=true→clV (g::R).flatten v=true∧clV R.flatten v=false:=fun v hv=>⟨by rw [List.flatten_cons,Q2d,hv];rfl,hdis v hv⟩
 have hrv:∀ v,clV R.flatten v=true→clV (g::R).flatten v=true:=fun v hv=>by rw [List.flatten_cons,Q2d,hv];simp
 have hnp:nvI n g+nvI n R.flatten≤nvI n (g::R).flatten:=nv_parts hgv hrv
 obtain ⟨c,hc,hcn⟩:=h.pos g (by simp)
 have hg1:1≤nvI n g:=Q8l (h.ok g (by simp)) hc hcn
 refine ⟨Part.group (by rw [e];exact h.part.app ms) hi (fun a=>?_) hgv hrv,?_,by rw [List.length_append];simp;omega,Q2x (fun e=>(h.nil e).1) rfl ha,fun e=>by simp at e,hapR,fun g2 hg2=>h.pos g2 (List.mem_cons_of_mem _ hg2),fun g2 hg2=>h.ok g2 (List.mem_cons_of_mem _ hg2)⟩
 ·rw [List.flatten_cons];unfold thB;rw [List.all_append]
 ·by_cases hR:R=[]
  ·rw [if_pos hR]
   have:=Ab (show nvI n g≤nvI n (g::R).flatten by omega)
   omega
  ·rw [if_neg hR]
   obtain ⟨g2,r2,rfl⟩:=List.exists_cons_of_ne_nil hR
   obtain ⟨c2,hc2,hcn2⟩:=h.pos g2 (by simp)
   have hR1:1≤nvI n (g2::r2).flatten:=Q8l (fun c hc=>by
    obtain ⟨g3,hg3,hc3⟩:=List.mem_flatten.1 hc
    exact h.ok g3 (List.mem_cons_of_mem _ hg3) c hc3) (List.mem_flatten.2 ⟨g2,by simp,hc2⟩) hcn2
   have:=fb_add hg1 hR1 hnp
   omega
theorem FS.split {n:Nat} {ns ns':List Nd} {L M:List (List Int)} {ks term:List Int} (h:FS n ns ns' L M ks term) {R:List (List (List Int))} (hm:∀ c,c∈M↔∃ g∈R,c∈g) (hap:R.Pairwise fun g h=>∀ v,clV g v=true→clV h v=false) (hne:∀ g∈R,g≠[]) (hM:∀ c∈M,c≠[]):FT n ns ns' L R ks:=by
 have hs:SameC R.flatten M:=fun c=>by rw [List.mem_flatten,hm c]
 have hnv:nvI n R.flatten=nvI n M:=nv_same hs
 have hf:=h.bud
 refine ⟨⟨h.part.lt,fun a=>by rw [hs.thB];exact h.part.sem a,h.part.dis,fun k hk v hv=>by rw [hs.clV];exact h.part.own k hk v hv,fun v hv=>by rw [hs.clV] at hv;exact h.part.sub v hv⟩,?_,by rw [hnv];exact h.ksl,h.one,fun e=>⟨(h.nil e).1,fun e2=>(h.nil e).2 ?_⟩,hap,fun g hg=>?_,fun g hg=>fun c hc=>h.ok c ((hm c).2 ⟨g,hg,hc⟩)⟩
 ·split
  ·omega
  ·rw [hnv];exact hf
 ·cases M with
  | nil=>rfl
  | cons c r =>
   obtain ⟨g,hg,_⟩:=(hm c).1 (by simp)
   rw [e2] at hg;cases hg
 ·cases hgg:g with
  | nil=>exact (hne g hg hgg).elim
  | cons c r=>exact ⟨c,by simp,hM c ((hm c).2 ⟨g,hg,by rw [hgg];simp⟩)⟩
end
/- Small laws for the loops of fit. -/
section
open Go.RowKit Go.Maps Go.MapKept
theorem Q9d {n:Nat} {L M:List (List Int)} (h:∀ v,clV M v=true→clV L v=true):nvI n M≤nvI n L:=Ho fun v _ hv=>h v hv
theorem clV_mem {M:List (List Int)} {g:List (List Int)} (h:∀ c∈g,c∈M) {v:Nat} (hv:clV g v=true):clV M v=true:=by
 obtain ⟨c,hc,x,hx,e⟩:=Yk.1 hv
 exact Yk.2 ⟨c,h c hc,x,hx,e⟩
theorem FT.head {n:Nat} {ns ns':List Nd} {L:List (List Int)} {g:List (List Int)} {R:List (List (List Int))} {ks:List Int} (h:FT n ns ns' L (g::R) ks):ns'.length+fbI (nvI n g)≤ns.length+fbI (nvI n L):=by
 have h1:=h.bud
 rw [if_neg (by simp)] at h1
 have:=Ab (Q9d (n:=n) (L:=(g::R).flatten) (M:=g) (fun v hv=>by rw [List.flatten_cons,Q2d,hv];rfl))
 omega
theorem Au (w:World) (o0 o1:Obj):((w.alloc o0).alloc o1).heap[w.heap.size]?=some o0∧((w.alloc o0).alloc o1).heap[w.heap.size+1]?=some o1∧Below w.heap.size w ((w.alloc o0).alloc o1)∧((w.alloc o0).alloc o1).heap.size=w.heap.size+2:=by
 have h0:=heap_alloc_new w o0
 have h1:=heap_alloc_new (w.alloc o0) o1
 have s0:(w.alloc o0).heap.size=w.heap.size+1:=by simp
 rw [s0] at h1
 exact ⟨Yx h0,h1,((Below.refl _ _).alloc (Nat.le_refl _) _).alloc (by simp) _,by simp⟩
theorem FM.start {F:Nat→Prop} {N gc n gl gd:Nat} {cache:Bool} {v u:Value} {ns:List Nd} {q:Option Addr} {term:List Int} {cq:Nat} {w w1:World} (hS:CS F N w gc n gl gd cache v u ns) (hq:InsP (okC F gc gl gd v u) w q term) (h3:w1.heap[w.heap.size]?=some (.cells #[.pointer (some ⟨gc,0,none⟩)] 92 (0,0))) (h5:w1.heap[w.heap.size+1]?=some (.cells #[.slice q term.length cq] 51 (0,0))) (hb:Below w.heap.size w w1) :
  FM F (fun b=>F b∨b=w.heap.size+1) N gc n gl gd cache w w1 v u ns w.heap.size (w.heap.size+1) (.slice none 0 0) [] term q cq v u ns∧Fr w (okC F gc gl gd v u) w1 (okC (fun b=>F b∨b=w.heap.size+1) gc gl gd v u):=by
 have h5l:=Q9 h5
 have fr:Fr w (okC F gc gl gd v u) w1 (okC (fun b=>F b∨b=w.heap.size+1) gc gl gd v u):=fun b h1 hk=>⟨hb.block b h1,hk.1,fun h2=>h2.elim hk.2 (fun e=>by omega)⟩
 refine ⟨⟨hS.move (fun g hg=>hb.block g (hS.lt g hg)) (fun b h1 hk _=>⟨hb.block b h1,fun h2=>h2.elim hk (fun e=>by omega)⟩) (fun b h2=>h2.elim (fun h4=>by have:=hS.hF b h4;omega) (fun e=>by omega)) (Nat.le_trans hS.bas hb.size),Later.of_below hb,fun b h1=>.inl h1,⟨.inr rfl,by omega,fun h=>by have:=hS.lt _ h;omega⟩,h5,⟨fun h=>by have:=hS.lt _ h;omega,by omega⟩,h3,.nil,fun b h=>(by simp [Q7] at h),hq.move fr⟩,fr⟩
theorem FS.start {n:Nat} {ns:List Nd} {L:List (List Int)} {term:List Int} (h1:term.length+nvI n L≤1000) (hn:n≤128) (hL:L≠[]) (hO:Hl n L):FS n ns ns L L [] term :=
 ⟨Part.start ns L,Nat.le_refl _,h1,by have:=nv_le n L;simp;omega,fun k hk=>(by cases hk),fun _=>⟨rfl,hL⟩,hO⟩
theorem FS.groups {n:Nat} {ns ns':List Nd} {L:List (List Int)} {K:List Ce} {ks term:List Int} {w w2:World} {vg:Value} {Gs:List Gp} (h:FS n ns ns' L (lcs K) ks term) (hsp:SplitP w w2 vg Gs K) (hne:∀ e∈K,e.xs≠[]):FT n ns ns' L (Gs.map fun x=>lcs x.2) ks:=by
 refine h.split (fun c=>?_) (List.pairwise_map.2 (hsp.apa.imp (fun {a b} h v hv=>h v hv))) (fun g hg=>?_) (fun c hc=>?_)
 ·rw [hsp.mem c]
  constructor
  ·rintro ⟨x,hx,hc⟩;exact ⟨_,List.mem_map.2 ⟨x,hx,rfl⟩,hc⟩
  ·rintro ⟨g,hg,hc⟩
   obtain ⟨x,hx,rfl⟩:=List.mem_map.1 hg
   exact ⟨x,hx,hc⟩
 ·obtain ⟨x,hx,rfl⟩:=List.mem_map.1 hg
  have:=(hsp.grp x hx).2.1
  simpa [lcs] using this
 ·obtain ⟨e2,he2,rfl⟩:=List.mem_map.1 hc
  exact hne e2 he2
section
variable {F F':Nat→Prop} {N gc n gl gd:Nat} {cache:Bool} {w wr:World} {v u:Value} {ns:List Nd} {B3 B5:Nat} {v7:Value} {ks term:List Int} {q:Option Addr} {cq:Nat} {v' u':Value} {ns':List Nd}
theorem FM.pow (h:FM F F' N gc n gl gd cache w wr v u ns B3 B5 v7 ks term q cq v' u' ns') (hT:Pow10 N w) (hS:CS F N w gc n gl gd cache v u ns):Pow10 N wr:=hT.on (h.la.be.below_of (fun k hk=>hS.ge k hk) hS.bas) (Nat.le_refl _)
theorem FM.rowFr (h:FM F F' N gc n gl gd cache w wr v u ns B3 B5 v7 ks term q cq v' u' ns') {x:World} (hb:Below wr.heap.size wr x) {p:Option Addr} {K:List Ce} {vK:Value} {m c:Nat} (hr:RowV (inW x) 138 2 vK K.length (Jj K)) (hv:vK = .slice p m c) (hf:∀ b∈Q7 vK,wr.heap.size≤b):ClsP (okC F' gc gl gd v' u') x p K :=
 (hr.cls hv).imp fun g hg hk=>⟨fun h1=>by have:=h.cs.lt g h1;have:=hf g hk;omega,fun h1=>by have:=h.cs.hF g h1;have:=hf g hk;omega⟩
theorem FM.ceFr (h:FM F F' N gc n gl gd cache w wr v u ns B3 B5 v7 ks term q cq v' u' ns') {x:World} {e:Ce} {ok:Nat→Prop} (hc:CeOk ok x e) (hk:∀ b,ok b→wr.heap.size≤b):CeOk (okC F' gc gl gd v' u') x e :=
 hc.imp fun g _ h2=>⟨fun h1=>by have:=h.cs.lt g h1;have:=hk g h2;omega,fun h1=>by have:=h.cs.hF g h1;have:=hk g h2;omega⟩
theorem FM.done (h:FM F F' N gc n gl gd cache w wr v u ns B3 B5 v7 ks term q cq v' u' ns') (hS:CS F N w gc n gl gd cache v u ns) {L:List Ce} (hp:Part ns' ks [] (lcs L)) (hl:ns'.length≤ns.length+fbI (nvI n (lcs L))) (h1:∀ k,ks=[k]→k.toNat<ns.length∨k.toNat+1=ns'.length) (h2:ks≠[]) (h3:ks.length≤200):FitP F N gc n gl gd cache v u ns L w v7 ks v' u' ns' wr :=
 ⟨h.cs.mono (fun b _ hk h4=>hk (h.sub b h4)) (fun b hb=>Nat.lt_of_lt_of_le (hS.hF b hb) h.la.be.size),h.la,h.row,fun b hb=>⟨(h.rowF b hb).2.1,(h.rowF b hb).2.2.1⟩,hp,hl,h1,h2,h3⟩
end
end
/- The parts of clauses. -/
section
open Go.RowKit Go.Maps Go.MapKept
set_option maxHeartbeats 25600000 in
set_option maxRecDepth 100000 in
theorem gFitS (N gc n gl gd:Nat) (cache:Bool) (V:Nat) (IH:∀ V',V'<V→Q8r N gc n gl gd cache V'):Q8r N gc n gl gd cache V:=by
 intro F v u ns L p cap q term cq w hV hFI
 obtain ⟨Post,hPost⟩:∃ P:Ending→World→Prop,P=fun e w'=>∃ v7 ks v' u' ns',e = .returned v7∧FitP F N gc n gl gd cache v u ns L w v7 ks v' u' ns' w':=⟨_,rfl⟩
 rw [←hPost]
 have HP:=Lib.hid (show ∀ (v7:Value) (ks:List Int) (v' u':Value) (ns':List Nd) (w':World),FitP F N gc n gl gd cache v u ns L w v7 ks v' u' ns' w'→Post (.returned v7) w' from fun v7 ks v' u' ns' w' h=>by rw [hPost];exact ⟨v7,ks,v',u',ns',rfl,h⟩)
 have HFI:=Lib.hid hFI
 have HV:=Lib.hid hV
 have hn:=hFI.hn
 obtain ⟨i1,ji,jz0,jz1,jz2⟩:=info_parts Tryz.infoIntK
 have JI:=Lib.hid ji
 have JZ0:=Lib.hid jz0
 have JZ1:=Lib.hid jz1
 have JZ2:=Lib.hid jz2
 clear ji jz0 jz1 jz2 hPost hV hFI
 go_enter Tryz.func41,Tryz.ntmps41
 go_upto_region 1 with fail
 refine Qg ?_
 intro w1 hw1
 obtain ⟨A0,A1,A2,A3⟩:=Au w (Obj.cells #[Value.pointer (some { block:=gc,off:=0 })] 92) (Obj.cells #[Value.slice q term.length cq] 51)
 rw [←hw1] at A0 A1 A2 A3
 obtain ⟨hfm,hfr⟩:=FM.start HFI.out.cs HFI.out.tm A0 A1 A2
 have HFM:=Lib.hid hfm
 have HK0:=Lib.hid (show ClsP (okC (fun b=>F b∨b=w.heap.size+1) gc gl gd v u) w1 p L∧(∀ e∈L,CeOk (okC (fun b=>F b∨b=w.heap.size+1) gc gl gd v u) w1 e)∧ByLen (lcs L) from ⟨HFI.out.cls.move hfr,fun e he=>(HFI.out.ce e he).move hfr,HFI.out.by'⟩)
 have HFS:=Lib.hid (FS.start (ns:=ns) HFI.out.tl hn (by simpa [lcs] using HFI.out.ne) HFI.out.ok)
 have HL20:=HFI.out.l20
 clear A0 A1 A2 A3 hw1 hfm hfr
 generalize hB3:w.heap.size=B3 at *
 generalize hB5:B3+1=B5 at *
 have HB3:=Lib.hid hB3
 clear hB3 hB5
 go_wp2_with fail
 go_loopg [1,7] (nvI n (lcs L)) (fun k t1 t7 wr=>∃ (K:List Ce) (pK:Option Addr) (cK:Nat) (ks tm:List Int) (q':Option Addr) (cq':Nat) (v' u':Value) (ns':List Nd) (F':Nat→Prop),nvI n (lcs K)≤k∧t1 = .slice pK K.length cK∧K.length<20∧Hid (FM F F' N gc n gl gd cache w wr v u ns B3 B5 t7 ks tm q' cq' v' u' ns')∧Hid (ClsP (okC F' gc gl gd v' u') wr pK K∧(∀ e∈K,CeOk (okC F' gc gl gd v' u') wr e)∧ByLen (lcs K))∧Hid (FS n ns ns' (lcs L) (lcs K) ks tm))
 case atStart=>exact ⟨L,p,cap,[],term,q,cq,v,u,ns,_,Nat.le_refl _,rfl,HL20,HFM.out,HK0.out,HFS.out⟩
 case round =>
  clear HFM HK0 HFS HL20
  obtain ⟨K,pK,cK,ks,tm,q',cq',v',u',ns',F',hk,rfl,hK20,HM,HK,HS⟩:=hrel
  have z3:wr.cell? ⟨B3,0,none⟩=some (.pointer (some ⟨gc,0,none⟩)):=Q5 HM.out.h3 0 rfl
  have Z3:=Lib.hid z3
  by_cases hu:∃ e R,K=e::R∧e.xs.length=1
  ·obtain ⟨e,R,hKe,hx1⟩:=hu
   obtain ⟨x,hex⟩:∃ x,e.xs=[x]:=List.length_eq_one_iff.1 hx1
   obtain ⟨be,oe,hbe,_,hpK,k1,_⟩:=HK.out.1 0 e (by rw [hKe];rfl)
   obtain ⟨bi,oi,_,_,hpe,k3⟩:=(HK.out.2.1 e (by simp [hKe])).ins 0 (.int .i64 x) (by simp [hex,Qm])
   rw [Nat.zero_mul,Nat.add_zero,hx1,hpe] at k1
   rw [Nat.add_zero] at k3
   have hK1:0<K.length:=by rw [hKe];simp
   have hd1:decide ((0:Int)<(K.length:Int))=true:=decide_eq_true (by omega)
   have hd2:decide (0<K.length)=true:=decide_eq_true hK1
   have HX:=Lib.hid (show [x]∈lcs K by rw [hKe,←hex];simp [lcs])
   have HNE:=Lib.hid (show ∀ e∈K,e.xs≠[] from fun e2 he2 h=>by
    have h1:=HK.out.2.2
    rw [hKe] at h1
    have h3:=h1.head e2.xs (by rw [←List.map_cons (f:=Ce.xs),←hKe];exact List.mem_map.2 ⟨e2,he2,rfl⟩)
    rw [h,hx1] at h3;simp at h3)
   obtain ⟨hx0,hxn⟩:=HS.out.ok [x] HX.out x (by simp)
   have HB:=Lib.hid HS.out.bud
   have hns:ns'.length<65536:=by have:=HB.out;have:=HFI.out.sz;have:=Q55 (nvI n (lcs K));omega
   have KL:=Lib.hid (gLitC F' N gc n gl gd cache v' u' ns' x wr HM.out.cs hns hn hx0 hxn)
   subst hpK
   clear hKe hex hx1 hpe hns
   go_wp2_with fail
   refine KL.out.mono ?_
   rintro e2 w2 ⟨i,v2,u2,ns2,rfl,hs2,hl2,hi2,hn2,ha2⟩
   obtain ⟨wa,hwa⟩:∃ wa,wa=w2.alloc (Obj.cells #[Value.int IntKind.i64 (i:Nat)] 3):=⟨_,rfl⟩
   have hba:Below w2.heap.size w2 wa:=by rw [hwa];exact (Below.refl _ _).alloc (Nat.le_refl _) _
   have hna:wa.heap[w2.heap.size]?=some (Obj.cells #[Value.int IntKind.i64 (i:Nat)] 3 (0,0)):=by rw [hwa];exact heap_alloc_new w2 _
   have hsa:=hs2.below hba
   have hla:=hl2.trans (Later.of_below (ns:=ns2) (gc:=gc) (gl:=gl) (gd:=gd) (v:=v2) (u:=u2) hba)
   have hra:=(HM.out.row.keep hl2.be (fun g hg=>(HM.out.rowF g hg).2.2.1)).keep (Q4 hba) (by simp)
   have HSA:=Lib.hid hsa
   have HLA:=Lib.hid hla
   have HRA:=Lib.hid hra
   have HNA:=Lib.hid (Q5 hna 0 rfl)
   have HWA:=Lib.hid hwa
   have HFS:=Lib.hid (fun (M':List (List Int)) (h:SameC M' (Q0o x (lcs K)))=>HS.out.unit hi2 HX.out hl2.ext hn2 ha2 h)
   have hks:ks.length≤128:=by have:=HS.out.ksl;omega
   have htm:tm.length≤1000:=by have:=HS.out.tl;omega
   clear hba hna hsa hla hra hwa hs2 hl2 hi2 hn2 ha2 KL k1 k3 z3
   go_wp2_with (at_builtin;rw [←HWA.out];refine Jw _ rfl _ _ 51 rfl 3 i1 (.int .i64 0) 1 8 Tryz.underlying51 JI.out JZ0.out JZ1.out JZ2.out rfl _ _ _ rfl HRA.out w2.heap.size 1 1 [.int .i64 (i:Nat)] rfl (fun j y hj=>by
    cases j with
    | zero=>obtain rfl:Value.int IntKind.i64 (i:Nat)=y:=by simpa using hj
            exact HNA.out
    | succ j=>simp at hj) rfl (by simp [Value.oneCell']) (by omega) (by unfold maxLen;omega) (by omega) ?_)
   intro v8 w3 hr8 hb8 hf8
   obtain ⟨hm3,hfr3⟩:=HM.out.push HSA.out HLA.out hr8 hb8 hf8
   obtain ⟨F3,hF3⟩:∃ F3:Nat→Prop,F3=fun b=>F' b∨b∈Q7 v8:=⟨_,rfl⟩
   rw [←hF3] at hm3 hfr3
   have HM3:=Lib.hid hm3
   have HFR3:=Lib.hid hfr3
   have KC:=Lib.hid (Q1m tm q' cq' w3 hm3.tm.at (by omega))
   have z5:w3.cell? ⟨B5,0,none⟩=some (.slice q' tm.length cq'):=Q5 hm3.h5 0 rfl
   clear hr8 hb8 hf8 hm3 hfr3 hF3 HSA HLA HRA HNA HWA
   go_wp2_with fail
   refine KC.out.mono ?_
   rintro e2 w4 ⟨v9,rfl,hr9,hf9,hb9⟩
   obtain ⟨wa,hwa⟩:∃ wa,wa=w4.alloc (Obj.cells #[Value.int IntKind.i64 x] 3):=⟨_,rfl⟩
   have hba:Below w4.heap.size w4 wa:=by rw [hwa];exact (Below.refl _ _).alloc (Nat.le_refl _) _
   have hna:wa.heap[w4.heap.size]?=some (Obj.cells #[Value.int IntKind.i64 x] 3 (0,0)):=by rw [hwa];exact heap_alloc_new w4 _
   have HBA:=Lib.hid (show Below w3.heap.size w3 wa from hb9.trans (hba.mono hb9.size))
   have HRA:=Lib.hid (hr9.keep (Q4 hba) (by simp))
   have HNA:=Lib.hid (Q5 hna 0 rfl)
   have HWA:=Lib.hid hwa
   have HF9:=Lib.hid hf9
   clear hba hna hwa hr9 hf9 hb9 KC z5
   go_wp2_with (at_builtin;rw [←HWA.out];refine Jw _ rfl _ _ 51 rfl 3 i1 (.int .i64 0) 1 8 Tryz.underlying51 JI.out JZ0.out JZ1.out JZ2.out rfl _ _ _ rfl HRA.out w4.heap.size 1 1 [.int .i64 x] rfl (fun j y hj=>by
    cases j with
    | zero=>obtain rfl:Value.int IntKind.i64 x=y:=by simpa using hj
            exact HNA.out
    | succ j=>simp at hj) rfl (by simp [Value.oneCell']) (by omega) (by unfold maxLen;omega) (by omega) ?_)
   intro v10 w5 hr10 hb10 hf10
   have hB5:Below w3.heap.size w3 w5:=HBA.out.trans (hb10.below_of (fun b hb=>HF9.out b hb) HBA.out.size)
   obtain ⟨p10,c10,h10⟩:=hr10.slice
   subst h10
   have hl10:(tm++[x]).length=tm.length+1:=by simp
   have hin:InsP (fun b=>w3.heap.size≤b) w5 p10 (tm++[x]):=by
    have e:Qm (tm++[x])=Qm tm++[.int .i64 x]:=by simp [Qm]
    have hr11:RowV (inW w5) 3 1 (.slice p10 (tm.length+1) c10) (tm.length+1) (Qm (tm++[x])):=by rw [e];exact hr10
    exact hr11.insF.imp (fun g _ hk=>(hf10 g hk).elim (fun h=>HF9.out g h) (fun h=>by have:=HBA.out.size;omega))
   obtain ⟨hm6,hfr6⟩:=HM3.out.longer hB5 (cq2:=c10) hin
   rw [hl10] at hm6 hfr6
   have h5:=(HM3.out.below hB5).h5
   have z5:=Q5 h5 0 rfl
   have f5:=Qd h5 0
   obtain ⟨w6,hw6⟩:∃ w6,w6=w5.setCell ⟨B5,0,none⟩ (.slice p10 (tm.length+1) c10):=⟨_,rfl⟩
   rw [←hw6] at hm6 hfr6
   have HM6:=Lib.hid hm6
   have HFR6:=Lib.hid (HFR3.out.trans hfr6)
   have HW6:=Lib.hid hw6
   have KG:=Lib.hid (gGiven _ K (some ⟨be,oe,none⟩) cK x (by omega) w6 (HK.out.1.move HFR6.out) (fun e he=>(HK.out.2.1 e he).move HFR6.out) HNE.out hK20)
   clear hr10 hb10 hf10 hB5 hin hm6 hfr6 h5 hw6 HBA HRA HNA HWA HF9 HM3 HFR3
   go_wp2_with fail
   rw [←HW6.out]
   refine KG.out.mono ?_
   rintro e2 w7 ⟨vK,K2,rfl,hg⟩
   obtain ⟨pG,cG,hvG⟩:=hg.row.slice
   subst hvG
   have HM7:=Lib.hid (HM6.out.below hg.be)
   have HK7:=Lib.hid (show ClsP (okC F3 gc gl gd v2 u2) w7 pG K2∧(∀ e∈K2,CeOk (okC F3 gc gl gd v2 u2) w7 e)∧ByLen (lcs K2) from ⟨HM6.out.rowFr hg.be hg.row rfl hg.fresh,fun e he=>HM6.out.ceFr (hg.ces e he) (fun b hb=>hb.1),hg.by'⟩)
   have HS7:=Lib.hid (HFS.out (lcs K2) hg.same)
   have hK2:K2.length<20:=by have:=hg.len;omega
   have HNV:=Lib.hid (show nvI n (lcs K2)<nvI n (lcs K) from Q8u (Q92 hx0 hg.same) (Yk.2 ⟨[x],HX.out,x,by simp,rfl⟩) hx0 hxn)
   clear hg KG HM6 HW6 HFR6 HFS f5 z5
   go_wp2_with fail
   go_roundg (nvI n (lcs K2))
   case measure=>have:=HNV.out;omega
   case rel=>exact ⟨K2,pG,cG,_,_,p10,c10,v2,u2,ns2,F3,Nat.le_refl _,rfl,hK2,HM7.out,HK7.out,HS7.out⟩
  ·have z5:wr.cell? ⟨B5,0,none⟩=some (.slice q' tm.length cq'):=Q5 HM.out.h5 0 rfl
   by_cases he:∃ e R,K=e::R∧e.xs.length=0
   ·obtain ⟨e,R,hKe,hx1⟩:=he
    obtain ⟨be,oe,hbe,_,hpK,k1,_⟩:=HK.out.1 0 e (by rw [hKe];rfl)
    rw [Nat.zero_mul,Nat.add_zero,hx1] at k1
    have hK1:0<K.length:=by rw [hKe];simp
    have hd1:decide ((0:Int)<(K.length:Int))=true:=decide_eq_true (by omega)
    have hd2:decide (0<K.length)=true:=decide_eq_true hK1
    have HX:=Lib.hid (show []∈lcs K by rw [hKe];simp [lcs,List.length_eq_zero_iff.1 hx1])
    have HB:=Lib.hid HS.out.bud
    have HB2:=Lib.hid (show ns'.length+fbI (nvI n (lcs K))≤65536 by have:=HB.out;have:=HFI.out.sz;omega)
    have hks:ks.length≤128:=by have:=HS.out.ksl;omega
    have htm:tm.length≤1000:=by have:=HS.out.tl;omega
    have KN:=Lib.hid (gNeeded F' N gc n gl gd cache v' u' ns' K pK cK q' tm cq' (fbI (nvI n (lcs K))) 76 #[] wr (HM.out.pow HFI.out.pow HFI.out.cs) HM.out.cs HK.out.1 HK.out.2.1 HS.out.ok hK20 HM.out.tm (by omega) (Q55 _) HB2.out (fun args w=>by kernel_rfl) (fun w1 hb1=>gFalse F' N gc n gl gd cache v' u' ns' (lcs K) _ w1 (HM.out.cs.below hb1) HX.out (Q55 _)))
    subst hpK
    clear hKe hx1 hu
    go_wp2_with fail
    refine KN.out.mono ?_
    rintro e2 w2 ⟨i,v2,u2,ns2,rfl,hN⟩
    obtain ⟨wa,hwa⟩:∃ wa,wa=w2.alloc (Obj.cells #[Value.int IntKind.i64 (i:Nat)] 3):=⟨_,rfl⟩
    have hba:Below w2.heap.size w2 wa:=by rw [hwa];exact (Below.refl _ _).alloc (Nat.le_refl _) _
    have hna:wa.heap[w2.heap.size]?=some (Obj.cells #[Value.int IntKind.i64 (i:Nat)] 3 (0,0)):=by rw [hwa];exact heap_alloc_new w2 _
    have HSA:=Lib.hid (hN.cs.below hba)
    have HLA:=Lib.hid (hN.la.trans (Later.of_below (ns:=ns2) (gc:=gc) (gl:=gl) (gd:=gd) (v:=v2) (u:=u2) hba))
    have HRA:=Lib.hid ((HM.out.row.keep hN.la.be (fun g hg=>(HM.out.rowF g hg).2.2.1)).keep (Q4 hba) (by simp))
    have HNA:=Lib.hid (Q5 hna 0 rfl)
    have HWA:=Lib.hid hwa
    have HN:=Lib.hid hN
    clear hba hna hwa hN KN k1 z3 z5
    go_wp2_with (at_builtin;rw [←HWA.out];refine Jw _ rfl _ _ 51 rfl 3 i1 (.int .i64 0) 1 8 Tryz.underlying51 JI.out JZ0.out JZ1.out JZ2.out rfl _ _ _ rfl HRA.out w2.heap.size 1 1 [.int .i64 (i:Nat)] rfl (fun j y hj=>by
     cases j with
     | zero=>obtain rfl:Value.int IntKind.i64 (i:Nat)=y:=by simpa using hj
             exact HNA.out
     | succ j=>simp at hj) rfl (by simp [Value.oneCell']) (by omega) (by unfold maxLen;omega) (by omega) ?_)
    intro v8 w3 hr8 hb8 hf8
    obtain ⟨hm3,_⟩:=HM.out.push HSA.out HLA.out hr8 hb8 hf8
    have HF:=Lib.hid (HP.out v8 _ v2 u2 ns2 w3 (hm3.done HFI.out.cs (HS.out.all HN.out.me HN.out.la.ext) (by have:=HN.out.len;have:=HB.out;omega) (Q2x (fun e=>(HS.out.nil e).1) rfl HN.out.at') (by simp) (by rw [List.length_append];simp;omega)))
    clear hr8 hb8 hf8 hm3 HSA HLA HRA HNA HWA
    go_wp2_with fail
    exact HF.out
   ·have HNE:=Lib.hid (show ∀ e∈K,e.xs≠[] from fun e2 he2 h=>by
     cases hKe:K with
     | nil=>rw [hKe] at he2;cases he2
     | cons e R =>
      have h1:=HK.out.2.2
      rw [hKe] at h1
      have h3:=h1.head e2.xs (by rw [←List.map_cons (f:=Ce.xs),←hKe];exact List.mem_map.2 ⟨e2,he2,rfl⟩)
      rw [h] at h3
      exact he ⟨e,R,hKe,by simpa using h3⟩)
    have KS:=Lib.hid (gSplit (fun b=>okC F' gc gl gd v' u' b∧b<wr.heap.size) n K pK cK wr (HK.out.1.imp (fun g hg hk=>⟨hk,hg⟩)) (fun e he=>(HK.out.2.1 e he).imp (fun g hg hk=>⟨hk,hg⟩)) (fun b hb=>hb.2) HS.out.ok hn hK20)
    obtain hKn | ⟨e,R,hKe⟩:K=[]∨∃ e R,K=e::R:=by
     cases K with
     | nil=>exact .inl rfl
     | cons e R=>exact .inr ⟨e,R,rfl⟩
    case' inl =>
     have hd0:K.length=0:=by rw [hKn];rfl
     have hd1:decide ((0:Int)<(K.length:Int))=false:=decide_eq_false (by omega)
     have hd2:decide (0<K.length)=false:=decide_eq_false (by omega)
     clear hKn hd0 hu he
    case' inr =>
     obtain ⟨be,oe,hbe,_,hpK,k1,_⟩:=HK.out.1 0 e (by rw [hKe];rfl)
     rw [Nat.zero_mul,Nat.add_zero] at k1
     have hK1:0<K.length:=by rw [hKe];simp
     have hd1:decide ((0:Int)<(K.length:Int))=true:=decide_eq_true (by omega)
     have hd2:decide (0<K.length)=true:=decide_eq_true hK1
     have hx1:e.xs.length≠1:=fun h=>hu ⟨e,R,hKe,h⟩
     have hx0:e.xs.length≠0:=fun h=>he ⟨e,R,hKe,h⟩
     have hq1:decide ((e.xs.length:Int)=1)=false:=decide_eq_false (by omega)
     have hq2:((e.xs.length:Int) == 1)=false:=J7 (by omega)
     have hq3:decide ((e.xs.length:Int)=0)=false:=decide_eq_false (by omega)
     have hq4:((e.xs.length:Int) == 0)=false:=J7 (by omega)
     subst hpK
     clear hKe hu he
    all_goals
     go_wp2_with fail
     refine KS.out.mono ?_
     rintro e2 w2 ⟨vg,Gs,rfl,hsp⟩
     obtain ⟨pg,cg,hvg⟩:=hsp.row.slice
     subst hvg
     have HM2:=Lib.hid (HM.out.below hsp.be)
     have HFT:=Lib.hid (HS.out.groups hsp HNE.out)
     have HG:=Lib.hid (show ∀ x∈Gs,∃ px cx,x.1 = .slice px x.2.length cx∧ClsP (okC F' gc gl gd v' u') w2 px x.2∧(∀ e∈x.2,CeOk (okC F' gc gl gd v' u') w2 e)∧x.2.length<20∧x.2≠[]∧(∀ e∈x.2,e.xs≠[])∧nvI n (lcs x.2)≤nvI n (lcs K) from fun x hx=>by
      obtain ⟨h1,h2,h3,h4,_,h6⟩:=hsp.grp x hx
      obtain ⟨px,cx,hpx⟩:=h1.slice
      exact ⟨px,cx,hpx,HM.out.rowFr hsp.be h1 hpx h3,fun e he=>(HK.out.2.1 e (h4 e he)).move (Fr.below hsp.be),by omega,h2,fun e he=>HNE.out e (h4 e he),Q9d (fun v hv=>clV_mem (fun c hc=>by
       obtain ⟨e2,he2,rfl⟩:=List.mem_map.1 hc
       exact List.mem_map.2 ⟨e2,h4 e2 he2,rfl⟩) hv)⟩)
     have HRG:=Lib.hid (show ∀ (j:Nat) (x:Gp),Gs[j]?=some x→∃ g,pg=some ⟨g,0,none⟩∧okC F' gc gl gd v' u' g∧g<w2.heap.size∧w2.cell? ⟨g,j,none⟩=some x.1 from fun j x hx=>by
      rcases hsp.row.two with ⟨_,h1,h2⟩ | ⟨g,cap,e⟩
      ·have:=(List.getElem?_eq_some_iff.1 hx).1;omega
      ·cases e
       have hf:=hsp.fr g (by simp [Q7])
       exact ⟨g,rfl,⟨fun h=>by have:=HM.out.cs.lt g h;omega,fun h=>by have:=HM.out.cs.hF g h;omega⟩,Q9 (Q0q hsp.row).choose_spec.1,hsp.row.cell (by rw [List.getElem?_map,hx];rfl)⟩)
     have hGL:Gs.length≤9223372036854775807:=by
      rcases hsp.row.two with ⟨_,h1,_⟩ | ⟨g,cap,e⟩
      ·omega
      ·cases e
       obtain ⟨tl,_,_,h3,h4,_⟩:=Q0q hsp.row
       unfold maxLen at h4
       omega
     have HNK:=Lib.hid (show tm.length+nvI n (lcs K)≤1000 from HS.out.tl)
     have HNL:=Lib.hid (show nvI n (lcs K)≤nvI n (lcs L) from Q9d HS.out.part.sub)
     have HFR:=Lib.hid (show Fr w2 (okC F' gc gl gd v' u') w2 (okC F' gc gl gd v' u') from Fr.below (Below.refl _ _))
     clear hsp KS HM HK HS HNE z3 z5
     go_wp2_with fail
     go_loopw [7,63] (fun t7 t63 wr2=>∃ (j:Nat) (R:List Gp) (v7:Value) (ks2:List Int) (v2 u2:Value) (ns2:List Nd) (F2:Nat→Prop),t7=v7∧t63 = .int .i64 (j:Nat)∧j≤Gs.length∧Hid (R=Gs.drop j)∧Hid (FM F F2 N gc n gl gd cache w wr2 v u ns B3 B5 v7 ks2 tm q' cq' v2 u2 ns2)∧Hid (Fr w2 (okC F' gc gl gd v' u') wr2 (okC F2 gc gl gd v2 u2))∧Hid (FT n ns ns2 (lcs L) (R.map fun x=>lcs x.2) ks2)) (fun _ t _=>Gs.length-(intOf t).toNat)
     case atStart=>exact ⟨0,Gs,_,ks,v',u',ns',F',rfl,rfl,Nat.zero_le _,rfl,HM2.out,HFR.out,HFT.out⟩
     case round =>
      clear HM2 HFR HFT
      obtain ⟨j,R,v7,ks2,v2,u2,ns2,F2,hv7,rfl,hj,HR,HM3,HFR,HFT⟩:=hrel
      have hv7:=hv7.symm
      subst hv7
      by_cases hlt:j<Gs.length
      ·have hd1:decide (j<Gs.length)=true:=decide_eq_true hlt
       have hd2:decide ((j:Int)<(Gs.length:Int))=true:=decide_eq_true (by omega)
       obtain ⟨x,hx⟩:∃ x,Gs[j]?=some x:=⟨_,List.getElem?_eq_getElem hlt⟩
       have hdrop:Gs.drop j=x::Gs.drop (j+1):=by
        rw [List.drop_eq_getElem_cons hlt]
        rw [List.getElem?_eq_getElem hlt] at hx
        cases hx;rfl
       rw [HR.out,hdrop] at HFT
       obtain ⟨g,hpg,hokg,hgl,hcell⟩:=HRG.out j x hx
       obtain ⟨px,cx,hpx,hcl,hce,hl20,hxn,hne,hnv⟩:=HG.out x (List.mem_of_getElem? hx)
       obtain ⟨x1,lx⟩:=x
       dsimp only at hpx hcl hce hl20 hxn hne hnv hcell
       subst hpx
       have z1:wr.cell? ⟨g,j,none⟩=some (.slice px lx.length cx):=(Kb (HFR.out g hgl hokg).1).trans hcell
       obtain ⟨w3,hw3⟩:∃ w3,w3=wr.alloc (Obj.cells #[Value.slice px lx.length cx] 98):=⟨_,rfl⟩
       have hb3:Below wr.heap.size wr w3:=by rw [hw3];exact (Below.refl _ _).alloc (Nat.le_refl _) _
       have hn3:w3.heap[wr.heap.size]?=some (Obj.cells #[Value.slice px lx.length cx] 98 (0,0)):=by rw [hw3];exact heap_alloc_new wr _
       have hm4:=HM3.out.below hb3
       have hfr3:=HFR.out.trans (Fr.below hb3)
       have hft:=HFT.out
       have hhd:ns2.length+fbI (nvI n (lcs lx))≤ns.length+fbI (nvI n (lcs L)):=hft.head
       have hks:ks2.length≤128:=by have:=hft.ksl;omega
       have htm:tm.length≤1000:=by have:=HNK.out;omega
       have hsz:ns2.length+fbI (nvI n (lcs lx))≤65536:=by have:=HFI.out.sz;omega
       have hV2:nvI n (lcs lx)≤V:=by have:=HNL.out;have:=HV.out;omega
       have htl:tm.length+nvI n (lcs lx)≤1000:=by have:=HNK.out;omega
       have hO:Hl n (lcs lx):=hft.ok _ (by simp)
       have KN:=Lib.hid (gNeeded F2 N gc n gl gd cache v2 u2 ns2 lx px cx q' tm cq' (fbI (nvI n (lcs lx))) 78 #[.pointer (some ⟨B3,0,none⟩),.pointer (some ⟨wr.heap.size,0,none⟩),.pointer (some ⟨B5,0,none⟩)] w3 (hm4.pow HFI.out.pow HFI.out.cs) hm4.cs (hcl.move hfr3) (fun e he=>(hce e he).move hfr3) hO hl20 hm4.tm (by omega) (Q55 _) hsz (fun args w=>by kernel_rfl) (fun w5 hb5=>by
        have hm5:=hm4.below hb5
        have hfr5:=hfr3.trans (Fr.below hb5)
        exact gMake N gc n gl gd cache V IH F2 v2 u2 ns2 lx px cx q' tm cq' B3 wr.heap.size B5 w5 hV2 (hm5.pow HFI.out.pow HFI.out.cs) hm5.cs (hcl.move hfr5) (fun e he=>(hce e he).move hfr5) hO hne hl20 hxn hm5.tm htl hsz hn hm5.h3 ((Q4 hb5).keep hn3 (by simp)) hm5.h5))
       have HM4:=Lib.hid hm4
       have HFR3:=Lib.hid hfr3
       have HW3:=Lib.hid hw3
       have HDR:=Lib.hid hdrop
       have y3:w3.cell? ⟨B3,0,none⟩=some (.pointer (some ⟨gc,0,none⟩)):=Q5 hm4.h3 0 rfl
       have y5:w3.cell? ⟨B5,0,none⟩=some (.slice q' tm.length cq'):=Q5 hm4.h5 0 rfl
       have y10:w3.cell? ⟨wr.heap.size,0,none⟩=some (.slice px lx.length cx):=Q5 hn3 0 rfl
       rw [hw3] at y3 y5 y10
       subst hpg
       clear hb3 hn3 hm4 hfr3 hft hhd hsz hV2 htl hO hcl hce hl20 hxn hne hnv hcell hokg hgl hw3 hdrop hx
       go_wp2_with fail
       rw [←HW3.out]
       refine KN.out.mono ?_
       rintro e2 w4 ⟨i,v3,u3,ns3,rfl,hN⟩
       obtain ⟨wa,hwa⟩:∃ wa,wa=w4.alloc (Obj.cells #[Value.int IntKind.i64 (i:Nat)] 3):=⟨_,rfl⟩
       have hba:Below w4.heap.size w4 wa:=by rw [hwa];exact (Below.refl _ _).alloc (Nat.le_refl _) _
       have hna:wa.heap[w4.heap.size]?=some (Obj.cells #[Value.int IntKind.i64 (i:Nat)] 3 (0,0)):=by rw [hwa];exact heap_alloc_new w4 _
       have HSA:=Lib.hid (hN.cs.below hba)
       have HLA:=Lib.hid (hN.la.trans (Later.of_below (ns:=ns3) (gc:=gc) (gl:=gl) (gd:=gd) (v:=v3) (u:=u3) hba))
       have HRA:=Lib.hid ((HM4.out.row.keep hN.la.be (fun g hg=>(HM4.out.rowF g hg).2.2.1)).keep (Q4 hba) (by simp))
       have HNA:=Lib.hid (Q5 hna 0 rfl)
       have HWA:=Lib.hid hwa
       have HF2:=Lib.hid (show FT n ns ns3 (lcs L) ((Gs.drop (j+1)).map fun x=>lcs x.2) (ks2++[(i:Int)]) from HFT.out.group hN.me hN.la.ext hN.len hN.at')
       clear hba hna hwa hN KN y3 y5 y10 z1 HW3 HFT HR HDR
       go_wp2_with (at_builtin;rw [←HWA.out];refine Jw _ rfl _ _ 51 rfl 3 i1 (.int .i64 0) 1 8 Tryz.underlying51 JI.out JZ0.out JZ1.out JZ2.out rfl _ _ _ rfl HRA.out w4.heap.size 1 1 [.int .i64 (i:Nat)] rfl (fun j y hj=>by
        cases j with
        | zero=>obtain rfl:Value.int IntKind.i64 (i:Nat)=y:=by simpa using hj
                exact HNA.out
        | succ j=>simp at hj) rfl (by simp [Value.oneCell']) (by omega) (by unfold maxLen;omega) (by omega) ?_)
       intro v8 w5 hr8 hb8 hf8
       obtain ⟨hm6,hfr6⟩:=HM4.out.push HSA.out HLA.out hr8 hb8 hf8
       have HM6:=Lib.hid hm6
       have HFR6:=Lib.hid (HFR3.out.trans hfr6)
       clear hr8 hb8 hf8 hm6 hfr6 HSA HLA HRA HNA HWA HM4 HFR3 HM3 HFR
       go_wp2_with fail
       go_roundw
       case rel=>exact ⟨j+1,Gs.drop (j+1),v8,ks2++[(i:Int)],v3,u3,ns3,_,rfl,by go_num,by omega,rfl,HM6.out,HFR6.out,HF2.out⟩
       case measure=>simp [intOf];omega
      ·have hd1:decide (j<Gs.length)=false:=decide_eq_false hlt
       have hd2:decide ((j:Int)<(Gs.length:Int))=false:=decide_eq_false (by omega)
       have hR0:R=[]:=by rw [HR.out];exact List.drop_eq_nil_of_le (by omega)
       have hft:=HFT.out
       rw [hR0] at hft
       have h1:=hft.bud
       rw [List.map_nil,if_pos rfl] at h1
       have hks:ks2.length≤128:=by have:=hft.ksl;omega
       have HF:=Lib.hid (HP.out v7 ks2 v2 u2 ns2 wr (HM3.out.done HFI.out.cs hft.part (by omega) hft.one (fun e=>(hft.nil e).2 rfl) (by omega)))
       clear hR0 hft h1 HM3 HFR HFT HR
       go_wp2_with fail
       exact HF.out
end
/- fit,by induction on the number of variables. -/
section
open Go.RowKit Go.Maps Go.MapKept
theorem gFit (N gc n gl gd:Nat) (cache:Bool) (V:Nat):Q8r N gc n gl gd cache V:=Nat.strongRecOn V fun V IH=>gFitS N gc n gl gd cache V IH
end
end Go.Proofs.YtcpehljpegfckaaGreatDoor
