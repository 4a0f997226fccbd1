/- Texts of this claim,joined: CZ5,CZ6,CZ7,CZ8. -/
import Derived.Test.YtcpehljpegfckaaGreatDoorMT19
import Derived.MapFrom
import Derived.Deep.DeepCutAuto
/- Maps;the node of a literal. -/
namespace Go.Proofs.YtcpehljpegfckaaGreatDoor
section
open Go.RowKit Go.Maps Go.MapKept
section
variable {P:Program} {ops:Array Oper} {rest:List Oper} {o:Oper} {a:Act} {Q:Exit→Act→World→Prop}
theorem Kd (w:World) (hg:o.guard=none) (m x:Operand) (t:TypeId) (hop:o.op=Op.lookup t m x true) (mv key v:Value) (hm:a.eval m=mv) (hx:a.eval x=key) (hrun:(Instr.lookup t mv key true).run P w = .ok v w)
  (hK:wpList P ops Q rest (a.put o.dst v) w):wpList P ops Q (o::rest) a w:=by
 refine wpList_plain hg fun K' hK'=>?_
 unfold Oper.wp
 simp [execOp,hop,hm,hx,hrun,Result.andThen]
 exact hK' _ _ hK
theorem Ol (w w':World) (hg:o.guard=none) (m x v:Operand) (t:TypeId) (hop:o.op=Op.mapUpdate t m x v) (mv key val:Value) (hm:a.eval m=mv) (hx:a.eval x=key) (hv:a.eval v=val) (hrun:(Instr.mapUpdate t mv key val).run P w = .ok () w')
  (hK:wpList P ops Q rest (a.put o.dst undef) w'):wpList P ops Q (o::rest) a w:=by
 refine wpList_plain hg fun K' hK'=>?_
 unfold Oper.wp
 simp [execOp,hop,hm,hx,hv,hrun,Result.andThen]
 exact hK' _ _ hK
theorem Q7g {R:Value→Value→Prop} {w:World} {g:Nat} {t kt et:TypeId} {x z:Value} {lx:Lit} (K:Keyed P kt) (ht:P.underlying t=some (.map kt et)) (h:MapAll w g R) (hR:∀ k v,R k v→∃ l,keyOf P kt k=some l) (hx:keyOf P kt x=some lx) (hz:(zeroValue et).run P w = .ok z w) :
  ∃ r b,(Instr.lookup t (.map (some g)) x true).run P w = .ok (.tuple #[r,.bool b]) w∧((b=false∧r=z)∨(b=true∧R x r)):=by
 obtain ⟨es,clock,hb,hp⟩:=h
 rcases K.find w hx es.toList (fun e he=>hR _ _ (hp e he)) with ⟨hf,_⟩ | ⟨j,e,hf,hj,hk⟩
 ·refine ⟨z,false,?_,.inl ⟨rfl,rfl⟩⟩
  simp [Instr.lookup,run_underlying ht,Go.MapKept.run_getObj_map hb,K.check w _ hx,hf,hz,Result.andThen]
 ·refine ⟨e.val,true,?_,.inr ⟨rfl,?_⟩⟩
  ·simp [Instr.lookup,run_underlying ht,Go.MapKept.run_getObj_map hb,K.check w _ hx,hf,Result.andThen]
  ·have:=hp e (List.mem_of_getElem? hj)
   rwa [hk] at this
theorem Q56 {R:Value→Value→Prop} {w:World} {g:Nat} {t kt et:TypeId} {x v:Value} {lx:Lit} (K:Keyed P kt) (ht:P.underlying t=some (.map kt et)) (h:MapAll w g R) (hR:∀ k v,R k v→∃ l,keyOf P kt k=some l) (hx:keyOf P kt x=some lx) (hv:R x v) :
  ∃ w',(Instr.mapUpdate t (.map (some g)) x v).run P w = .ok () w'∧MapAll w' g R∧Behind w [g] w':=by
 obtain ⟨es,clock,hb,hp⟩:=h
 have hlt:g<w.heap.size:=Q9 hb
 have hbe:∀ o':Obj,Behind w [g] { w with heap:=w.heap.setIfInBounds g o' }:=fun o'=>⟨rfl,rfl,rfl,by simp,fun k hk' hn'=>by
  have hne:g≠k:=fun e=>hn' (by simp [e])
  show (w.heap.setIfInBounds g _)[k]?=_
  rw [Array.getElem?_setIfInBounds_ne hne]⟩
 rcases K.find w hx es.toList (fun e he=>hR _ _ (hp e he)) with ⟨hf,_⟩ | ⟨j,e,hf,hj,hk⟩
 ·refine ⟨{ w with heap:=w.heap.setIfInBounds g (.map (es.push ⟨x,v,clock⟩) (clock+1)) },?_,⟨es.push ⟨x,v,clock⟩,clock+1,by simp [hlt],fun e he=>?_⟩,hbe _⟩
  ·simp [Instr.mapUpdate,run_underlying ht,Go.MapKept.run_getObj_map hb,K.check w _ hx,hf,Go.MapKept.run_setObj_map _ hb,Result.andThen]
  ·simp only [Array.toList_push,List.mem_append,List.mem_singleton] at he
   rcases he with he | he
   ·exact hp e he
   ·subst he;exact hv
 ·have hj2:es[j]?=some e:=by simpa using hj
  have hk2:((es[j]?).map (·.key)).getD x=x:=by rw [hj2];exact hk
  refine ⟨{ w with heap:=w.heap.setIfInBounds g (.map (es.modify j fun e=>{ e with key:=x,val:=v }) clock) },?_,⟨es.modify j fun e=>{ e with key:=x,val:=v },clock,by simp [hlt],fun e he=>?_⟩,hbe _⟩
  ·simp [Instr.mapUpdate,run_underlying ht,Go.MapKept.run_getObj_map hb,K.check w _ hx,hf,hk2,K.stays w hx,Go.MapKept.run_setObj_map _ hb,Result.andThen]
  ·obtain ⟨i,hi,rfl⟩:=List.mem_iff_getElem.1 he
   have hi2:i<es.size:=by simpa using hi
   by_cases hij:j=i
   ·subst hij
    simpa [Array.getElem_modify] using hv
   ·have:(es.modify j fun e=>{ e with key:=x,val:=v }).toList[i]=es.toList[i]'(by simpa using hi2):=by simp [Array.getElem_modify,hij]
    rw [this]
    exact hp _ (List.getElem_mem _)
end
theorem Tryz.keyInt:Keyed Tryz.prog 3:=int_keyed Tryz.underlying3
theorem Tryz.keyStr:Keyed Tryz.prog 9:=string_keyed Tryz.underlying9
theorem key_str {s:ByteArray} (h:s.size≤maxLen):∃ l,keyOf Tryz.prog 9 (.string s)=some l:=⟨.string s.data.toList,by simp [keyOf,Tryz.underlying9,mapKey,h]⟩
theorem key_int {l:Int} (h:-9223372036854775808≤l∧l≤9223372036854775807):keyOf Tryz.prog 3 (.int .i64 l)=some (.int .i64 l):=keyOf_int_mk Tryz.underlying3 (WalkArith.wf_i64 h)
theorem Q87 {n:Nat} {ns:List Nd} {k v:Value} (h:litP n ns k v):∃ l,keyOf Tryz.prog 3 k=some l:=by
 obtain ⟨l,i,rfl,h0,rfl,h3⟩:=h
 exact ⟨_,key_int (by omega)⟩
theorem Q0k {ns:List Nd} {k v:Value} (h:doneP ns k v):∃ l,keyOf Tryz.prog 9 k=some l:=by
 obtain ⟨s,i,rfl,h0,_⟩:=h
 exact key_str h0
theorem CS.lits_put {F:Nat→Prop} {N:Nat} {w w':World} {gc n gl gd:Nat} {cache:Bool} {v u:Value} {ns:List Nd} (h:CS F N w gc n gl gd cache v u ns) (hB:Behind w [gl] w') (hm:MapAll w' gl (litP n ns)):CS F N w' gc n gl gd cache v u ns∧Later w w' gc gl gd v u v u ns ns:=by
 obtain ⟨cl2,h2⟩:=h.claims
 obtain ⟨d1,d2,d3⟩:=h.d1
 refine ⟨⟨hB.keep h.blk (by simp;exact d1),h.nodes.keep hB (fun k hk=>?_),⟨cl2,h2.keep hB (fun k hk e=>?_)⟩,hm,h.done.keep hB (by simp;exact fun e=>d3 e.symm),h.d1,h.d2,h.d3,h.ge,h.net,Nat.le_trans h.bas hB.size,fun b hb=>Nat.lt_of_lt_of_le (h.hF b hb) hB.size⟩,⟨hB.mono (fun k hk=>?_),fun k hk=>.inl hk,[],by simp⟩⟩
 ·obtain rfl:k=gl:=by simpa using hk
  exact ⟨fun e=>(h.d2 k e).2.1 rfl,fun e=>(e.1 (Qv.2 (.inr (.inl rfl)))).elim⟩
 ·obtain rfl:k=gl:=by simpa using e
  exact (h.d3 k hk).2.1 rfl
 ·obtain rfl:k=gl:=by simpa using hk
  exact Qv.2 (.inr (.inl rfl))
theorem CS.done_put {F:Nat→Prop} {N:Nat} {w w':World} {gc n gl gd:Nat} {cache:Bool} {v u:Value} {ns:List Nd} (h:CS F N w gc n gl gd cache v u ns) (hB:Behind w [gd] w') (hm:MapAll w' gd (doneP ns)):CS F N w' gc n gl gd cache v u ns∧Later w w' gc gl gd v u v u ns ns:=by
 obtain ⟨cl2,h2⟩:=h.claims
 obtain ⟨d1,d2,d3⟩:=h.d1
 refine ⟨⟨hB.keep h.blk (by simp;exact d2),h.nodes.keep hB (fun k hk=>?_),⟨cl2,h2.keep hB (fun k hk e=>?_)⟩,h.lits.keep hB (by simp;exact d3),hm,h.d1,h.d2,h.d3,h.ge,h.net,Nat.le_trans h.bas hB.size,fun b hb=>Nat.lt_of_lt_of_le (h.hF b hb) hB.size⟩,⟨hB.mono (fun k hk=>?_),fun k hk=>.inl hk,[],by simp⟩⟩
 ·obtain rfl:k=gd:=by simpa using hk
  exact ⟨fun e=>(h.d2 k e).2.2.1 rfl,fun e=>(e.1 (Qv.2 (.inr (.inr (.inl rfl))))).elim⟩
 ·obtain rfl:k=gd:=by simpa using e
  exact (h.d3 k hk).2.2 rfl
 ·obtain rfl:k=gd:=by simpa using hk
  exact Qv.2 (.inr (.inr (.inl rfl)))
set_option maxHeartbeats 3200000 in
set_option maxRecDepth 100000 in
theorem gLitC (F:Nat→Prop) (N gc n gl gd:Nat) (cache:Bool) (v u:Value) (ns:List Nd) (l:Int) (w:World) (hS:CS F N w gc n gl gd cache v u ns) (hl:ns.length<65536) (hn:n≤128) (h0:l≠0) (h1:l.natAbs≤n) :
  Calls Tryz.prog 72 #[.pointer (some ⟨gc,0,none⟩),.int .i64 l] w fun e w'=>∃ (i:Nat) (v' u':Value) (ns':List Nd),e = .returned (.int .i64 i)∧CS F N w' gc n gl gd cache v' u' ns'∧Later w w' gc gl gd v u v' u' ns ns'∧IsLit n ns' i l∧ns'.length≤ns.length+1∧(i<ns.length∨i+1=ns'.length):=by
 obtain ⟨Post,hPost⟩:∃ P:Ending→World→Prop,P=fun e w'=>∃ (i:Nat) (v' u':Value) (ns':List Nd),e = .returned (.int .i64 i)∧CS F N w' gc n gl gd cache v' u' ns'∧Later w w' gc gl gd v u v' u' ns ns'∧IsLit n ns' i l∧ns'.length≤ns.length+1∧(i<ns.length∨i+1=ns'.length):=⟨_,rfl⟩
 rw [←hPost]
 have HP:=Lib.hid (show ∀ (i:Nat) (v' u':Value) (ns':List Nd) (w':World),CS F N w' gc n gl gd cache v' u' ns'→Later w w' gc gl gd v u v' u' ns ns'→IsLit n ns' i l→ns'.length≤ns.length+1→(i<ns.length∨i+1=ns'.length)→Post (.returned (.int .i64 i)) w' from fun i v' u' ns' w' h1 h2 h3 h4 h5=>by rw [hPost];exact ⟨i,v',u',ns',rfl,h1,h2,h3,h4,h5⟩)
 have hki:keyOf Tryz.prog 3 (.int .i64 l)=some (.int .i64 l):=key_int (by omega)
 obtain ⟨r,b,hrun,hcase⟩:=Q7g Tryz.keyInt Tryz.underlying93 hS.lits (fun k v h=>Q87 h) hki (show (zeroValue 3).run Tryz.prog w = .ok (.int .i64 0) w by kernel_rfl)
 have HL:=Lib.hid hrun
 have c6:=Q5 hS.blk 6 rfl
 have HS:=Lib.hid hS
 have HKI:=Lib.hid hki
 rcases hcase with ⟨rfl,rfl⟩ | ⟨rfl,l2,i,hk2,_,rfl,hil⟩
 ·have hadd:=add_lit hS.net h0 h1
  have KA:=Lib.hid (Q4f F N gc n gl gd cache v u ns ⟨2,l,[]⟩ none 0 none 0 0 none 0 0 w hS (InsP.nil _ _ _) hl hadd.1)
  have HIL:=Lib.hid hadd.2
  clear hPost hS hrun hadd hki
  go_enter Tryz.func72,Tryz.ntmps72
  go_wp2_with (at_lookup;refine Kd _ rfl _ _ _ rfl _ _ _ rfl rfl HL.out ?_)
  refine KA.out.mono ?_
  rintro e w2 ⟨v2,u2,rfl,hS2,hL2⟩
  obtain ⟨w3,hrun3,hm3,hb3⟩:=Q56 Tryz.keyInt Tryz.underlying93 hS2.lits (fun k v h=>Q87 h) HKI.out (v:=.int .i64 (ns.length:Nat)) ⟨l,ns.length,rfl,by omega,rfl,HIL.out⟩
  obtain ⟨hS3,hL3⟩:=hS2.lits_put hb3 hm3
  have HR3:=Lib.hid hrun3
  have HF:=Lib.hid (HP.out ns.length v2 u2 _ w3 hS3 (hL2.trans hL3) HIL.out (by simp) (.inr (by simp)))
  have c6:=Q5 hS2.blk 6 rfl
  clear KA hS2 hL2 hm3 hb3 hS3 hL3 hrun3
  go_wp2_with (at_mapUpdate;refine Ol _ w3 rfl _ _ _ _ rfl _ _ _ rfl rfl rfl HR3.out ?_)
  exact HF.out
 ·obtain rfl:l=l2:=by cases hk2;rfl
  have HF:=Lib.hid (HP.out i v u ns w hS (Later.refl _ _ _ _ _ _ _) hil (by omega) (.inl hil.lt))
  clear hPost hS hrun hki hil hk2
  go_enter Tryz.func72,Tryz.ntmps72
  go_wp2_with (at_lookup;refine Kd _ rfl _ _ _ rfl _ _ _ rfl rfl HL.out ?_)
  exact HF.out
end
/- The node of clauses. -/
section
open Go.RowKit Go.Maps Go.MapKept
theorem keyC_len {c:List Int} (h:SmC c):(Vw c).length≤5*c.length+1:=by
 rw [keyC_P]
 have:=keyP_len h
 simp;omega
theorem keyL_len {L:List (List Int)} (h:∀ c∈L,SmC c∧c.length≤1000000):(O7 L).length≤L.length*5000001:=by
 induction L with
 | nil=>simp [O7]
 | cons c L ih =>
  have h1:=keyC_len (h c (by simp)).1
  have h2:=(h c (by simp)).2
  have h3:=ih fun d hd=>h d (by simp [hd])
  have e:O7 (c::L)=Vw c++O7 L:=rfl
  rw [e,List.length_append,List.length_cons];omega
structure Made (F:Nat→Prop) (N gc n gl gd:Nat) (cache:Bool) (v u:Value) (ns:List Nd) (L:List (List Int)) (B:Nat) (w:World) (e:Ending) (w2:World):Prop where
 ex:∃ (g:Nd) (p:Option Addr) (c:Nat) (v' u':Value) (ns':List Nd),e = .returned (.agg #[.int .i64 g.k,.int .i64 g.lit,.slice p g.ins.length c])∧CS F N w2 gc n gl gd cache v' u' ns'∧Later w w2 gc gl gd v u v' u' ns ns'∧InsP (okC F gc gl gd v' u') w2 p g.ins∧NetG n (ns'++[g])∧Means (ns'++[g]) ns'.length L∧ns'.length+1≤ns.length+B
structure NeedP (F:Nat→Prop) (N gc n gl gd:Nat) (cache:Bool) (v u:Value) (ns:List Nd) (L:List (List Int)) (B:Nat) (w:World) (i:Nat) (v' u':Value) (ns':List Nd) (w':World):Prop where
 cs:CS F N w' gc n gl gd cache v' u' ns'
 la:Later w w' gc gl gd v u v' u' ns ns'
 me:Means ns' i L
 len:ns'.length≤ns.length+B
 at':i<ns.length∨i+1=ns'.length
theorem Q38 (l:List UInt8):(ByteArray.mk l.toArray).size=l.length:=by simp [ByteArray.size]
set_option maxHeartbeats 6400000 in
set_option maxRecDepth 100000 in
theorem gNeeded (F:Nat→Prop) (N gc n gl gd:Nat) (cache:Bool) (v u:Value) (ns:List Nd) (L:List Ce) (p:Option Addr) (cap:Nat) (q:Option Addr) (term:List Int) (cq B:Nat) (mf:Nat) (margs:Array Value) (w:World) (hT:Pow10 N w) (hS:CS F N w gc n gl gd cache v u ns) (hA:ClsP (okC F gc gl gd v u) w p L) (hI:∀ e∈L,CeOk (okC F gc gl gd v u) w e) (hO:Hl n (lcs L)) (hl:L.length<20)
  (hq:InsP (okC F gc gl gd v u) w q term) (hql:term.length≤1000000) (hB:1≤B) (hl2:ns.length+B≤65536)
  (eg:∀ args w,(callFunc mf args).run Tryz.prog w = .ok (.enter mf args) w)
  (KM:∀ w1,Below w.heap.size w w1→Calls Tryz.prog mf margs w1 (Made F N gc n gl gd cache v u ns (lcs L) B w1)) :
  Calls Tryz.prog 75 #[.pointer (some ⟨gc,0,none⟩),.slice p L.length cap,.slice q term.length cq,.func (.func mf) #[] margs] w fun e w'=>∃ (i:Nat) (v' u':Value) (ns':List Nd),e = .returned (.int .i64 i)∧NeedP F N gc n gl gd cache v u ns (lcs L) B w i v' u' ns' w':=by
 obtain ⟨Post,hPost⟩:∃ P:Ending→World→Prop,P=fun e w'=>∃ (i:Nat) (v' u':Value) (ns':List Nd),e = .returned (.int .i64 i)∧NeedP F N gc n gl gd cache v u ns (lcs L) B w i v' u' ns' w':=⟨_,rfl⟩
 rw [←hPost]
 have HP:=Lib.hid (show ∀ (i:Nat) (v' u':Value) (ns':List Nd) (w':World),NeedP F N gc n gl gd cache v u ns (lcs L) B w i v' u' ns' w'→Post (.returned (.int .i64 i)) w' from fun i v' u' ns' w' h=>by rw [hPost];exact ⟨i,v',u',ns',rfl,h⟩)
 have HS:=Lib.hid hS
 have HA:=Lib.hid hA
 have HI:=Lib.hid hI
 have HO:=Lib.hid hO
 have HQ:=Lib.hid hq
 have HKM:=Lib.hid KM
 have HL:=Lib.hid hl
 have KK:=Lib.hid (gKey N _ L p cap w hT hS.bas hA hI hl)
 have hnz:∀ c∈lcs L,∀ x∈c,x≠0:=fun c hc x hx=>(hO c hc x hx).1
 have HNZ:=Lib.hid hnz
 have hsz:(ByteArray.mk (O7 (lcs L)).toArray).size≤maxLen:=by
  rw [Q38]
  have h1:=keyL_len (L:=lcs L) (fun c hc=>by
   obtain ⟨e,he,rfl⟩:=List.mem_map.1 hc
   exact ⟨(hI e he).sm,(hI e he).len⟩)
  have h2:(lcs L).length=L.length:=by simp [lcs]
  unfold maxLen;omega
 obtain ⟨s,hs⟩:∃ s,s=ByteArray.mk (O7 (lcs L)).toArray:=⟨_,rfl⟩
 rw [←hs] at KK hsz
 have HSS:=Lib.hid hs
 have HSZ:=Lib.hid hsz
 clear hPost hS hA hI hO hq KM hT hnz hs hsz hl
 go_enter Tryz.func75,Tryz.ntmps75
 go_wp2_with fail
 refine KK.out.mono ?_
 rintro e w1 ⟨rfl,hb1⟩
 have HB1:=Lib.hid hb1
 have HS1:=Lib.hid (HS.out.below hb1)
 have HLA1:=Lib.hid (show Later w w1 gc gl gd v u v u ns ns from Later.of_below hb1)
 obtain ⟨lk,hlk⟩:=key_str HSZ.out
 have HLK:=Lib.hid hlk
 obtain ⟨r,b,hrun,hcase⟩:=Q7g Tryz.keyStr Tryz.underlying94 HS1.out.done (fun k v h=>Q0k h) hlk (show (zeroValue 3).run Tryz.prog w1 = .ok (.int .i64 0) w1 by kernel_rfl)
 have HR1:=Lib.hid hrun
 have HC1:=Lib.hid hcase
 have c7:=Q5 HS1.out.blk 7 rfl
 have c3:=Q5 HS1.out.blk 3 rfl
 clear hb1 KK hlk hrun hcase
 rcases HC1.out with ⟨rfl,rfl⟩ | ⟨rfl,s2,i,hk2,_,rfl,hi,hd⟩
 ·clear HC1
  iterate 1
   go_wp2_with (at_lookup;refine Kd _ rfl _ _ _ rfl _ _ _ rfl rfl HR1.out ?_)
   refine (HKM.out w1 HB1.out).mono ?_
   rintro e w2 ⟨⟨g,gp,gcp,v2,u2,ns2,rfl,hs2,hl2a,hi2,hn2,hm2,hb2⟩⟩
   have HS2:=Lib.hid hs2
   have HL2:=Lib.hid (HLA1.out.trans hl2a)
   have HI2:=Lib.hid hi2
   have HN2:=Lib.hid hn2
   have HM2:=Lib.hid hm2
   have HB2:=Lib.hid hb2
   have KC:=Lib.hid (gClaim _ L p cap q term cq w2 (HL2.out.cls HA.out) (HL2.out.ins HQ.out).at HL.out hql)
   clear hs2 hl2a hi2 hn2 hm2 hb2 c7 c3
   go_wp2_with fail
   refine KC.out.mono ?_
   rintro e w3 ⟨p1,n1,c1,p2,n2,c2,rfl,hb3⟩
   have HS3:=Lib.hid (HS2.out.below hb3)
   have HLA3:=Lib.hid (show Later w2 w3 gc gl gd v2 u2 v2 u2 ns2 ns2 from Later.of_below hb3)
   have KA:=Lib.hid (Q4f F N gc n gl gd _ v2 u2 ns2 g gp gcp p1 n1 c1 p2 n2 c2 w3 HS3.out (HLA3.out.ins HI2.out) (by have:=HB2.out;omega) HN2.out)
   clear hb3 KC
   go_wp2_with fail
   refine KA.out.mono ?_
   rintro e w4 ⟨v4,u4,rfl,hs4,hl4⟩
   obtain ⟨w5,hrun5,hm5,hb5⟩:=Q56 Tryz.keyStr Tryz.underlying94 hs4.done (fun k v h=>Q0k h) HLK.out (v:=.int .i64 (ns2.length:Nat)) ⟨s,ns2.length,rfl,HSZ.out,rfl,by simp,fun M hM he=>by
    have e1:O7 (lcs L)=O7 M:=by
     rw [HSS.out] at he
     have:=congrArg (fun b=>b.data.toList) he
     simpa using this
    rw [←Q5v HNZ.out hM e1]
    exact HM2.out⟩
   obtain ⟨hs5,hl5⟩:=hs4.done_put hb5 hm5
   have HR5:=Lib.hid hrun5
   have HF:=Lib.hid (HP.out ns2.length v4 u4 _ w5 ⟨hs5,((HL2.out.trans HLA3.out).trans hl4).trans hl5,HM2.out,by have:=HB2.out;simp;omega,.inr (by simp)⟩)
   have c7:=Q5 hs4.blk 7 rfl
   clear KA hs4 hl4 hm5 hb5 hs5 hl5 hrun5
   go_wp2_with (at_mapUpdate;refine Ol _ w5 rfl _ _ _ _ rfl _ _ _ rfl rfl rfl HR5.out ?_)
   exact HF.out
 ·cases cache with
  | false =>
   clear hk2 hi hd HC1
   go_wp2_with (at_lookup;refine Kd _ rfl _ _ _ rfl _ _ _ rfl rfl HR1.out ?_)
   refine (HKM.out w1 HB1.out).mono ?_
   rintro e w2 ⟨⟨g,gp,gcp,v2,u2,ns2,rfl,hs2,hl2a,hi2,hn2,hm2,hb2⟩⟩
   have HS2:=Lib.hid hs2
   have HL2:=Lib.hid (HLA1.out.trans hl2a)
   have HI2:=Lib.hid hi2
   have HN2:=Lib.hid hn2
   have HM2:=Lib.hid hm2
   have HB2:=Lib.hid hb2
   have KC:=Lib.hid (gClaim _ L p cap q term cq w2 (HL2.out.cls HA.out) (HL2.out.ins HQ.out).at HL.out hql)
   clear hs2 hl2a hi2 hn2 hm2 hb2 c7 c3
   go_wp2_with fail
   refine KC.out.mono ?_
   rintro e w3 ⟨p1,n1,c1,p2,n2,c2,rfl,hb3⟩
   have HS3:=Lib.hid (HS2.out.below hb3)
   have HLA3:=Lib.hid (show Later w2 w3 gc gl gd v2 u2 v2 u2 ns2 ns2 from Later.of_below hb3)
   have KA:=Lib.hid (Q4f F N gc n gl gd _ v2 u2 ns2 g gp gcp p1 n1 c1 p2 n2 c2 w3 HS3.out (HLA3.out.ins HI2.out) (by have:=HB2.out;omega) HN2.out)
   clear hb3 KC
   go_wp2_with fail
   refine KA.out.mono ?_
   rintro e w4 ⟨v4,u4,rfl,hs4,hl4⟩
   obtain ⟨w5,hrun5,hm5,hb5⟩:=Q56 Tryz.keyStr Tryz.underlying94 hs4.done (fun k v h=>Q0k h) HLK.out (v:=.int .i64 (ns2.length:Nat)) ⟨s,ns2.length,rfl,HSZ.out,rfl,by simp,fun M hM he=>by
    have e1:O7 (lcs L)=O7 M:=by
     rw [HSS.out] at he
     have:=congrArg (fun b=>b.data.toList) he
     simpa using this
    rw [←Q5v HNZ.out hM e1]
    exact HM2.out⟩
   obtain ⟨hs5,hl5⟩:=hs4.done_put hb5 hm5
   have HR5:=Lib.hid hrun5
   have HF:=Lib.hid (HP.out ns2.length v4 u4 _ w5 ⟨hs5,((HL2.out.trans HLA3.out).trans hl4).trans hl5,HM2.out,by have:=HB2.out;simp;omega,.inr (by simp)⟩)
   have c7:=Q5 hs4.blk 7 rfl
   clear KA hs4 hl4 hm5 hb5 hs5 hl5 hrun5
   go_wp2_with (at_mapUpdate;refine Ol _ w5 rfl _ _ _ _ rfl _ _ _ rfl rfl rfl HR5.out ?_)
   exact HF.out
  | true =>
   have HF:=Lib.hid (HP.out i v u ns w1 ⟨HS1.out,HLA1.out,hd _ HNZ.out (by cases hk2;exact HSS.out),by omega,.inl hi⟩)
   clear hk2 hi hd HC1
   go_wp2_with (at_lookup;refine Kd _ rfl _ _ _ rfl _ _ _ rfl rfl HR1.out ?_)
   exact HF.out
end
/- Components of clauses: what lies in memory. -/
section
open Go.RowKit
theorem V1 {P:Program} (w:World) (t ty E:TypeId) (i:TypeInfo) (z:Value) (size bytes:Nat) (ht:P.underlying t=some (.slice E)) (hi:P.info? E=some i) (hz:i.zero=some z) (hsize:i.size=size) (hby:i.bytes=bytes) (hzs:z.cells.size=size)
  (v:Value) (n:Nat) (xs:List Value) (hrow:RowV (inW w) E size v n xs) (g2 m c2:Nat) (news:List Value) (hn2:∀ (j:Nat) (u:Value),news[j]?=some u→w.cell? ⟨g2,j,none⟩=some u) (hl:news.length=m*size) (h1:∀ u∈news,u.oneCell'=true) (h0:0<m)
  (h63:n+m≤maxLen) (hbytes:(n+m)*bytes≤140737488355328) :
  ∃ v' w',(Builtin.append_ #[t,t] ty #[v,.slice (some ⟨g2,0,none⟩) m c2]).run P w = .ok v' w'∧RowV (inW w') E size v' (n+m) (xs++news)∧Behind w (Q7 v) w'∧∀ g∈Q7 v',g∈Q7 v∨w.heap.size≤g:=by
 subst hsize hby
 have hnews:∀ j u,news[j]?=some u→w.cell? ((⟨g2,0,none⟩:Addr).add j)=some u:=fun j u hj=>by
  rw [Addr.add_lit,Nat.zero_add]
  exact hn2 j u hj
 cases hrow with
 | nil =>
  have hr:=run_append_nil (P:=P) w t ty E i z ht hi hz ⟨g2,0,none⟩ m c2 news hl hnews h0 (by simp only [maxLen] at h63;omega) (by rw [Nat.zero_add] at hbytes;omega)
  have hge:=grownCap_ge w m 0 E
  simp only [Nat.zero_add,List.nil_append] at *
  refine ⟨_,_,hr,.row ⟨heap_alloc_new w.drew _,hge,grownCap_le_maxLen w m 0 E h63,?_,?_,hl⟩,Q4 ((Below.refl _ w).drew.alloc (by simp) _),fun g hg=>.inr ?_⟩
  ·simp only [Array.size_append,List.size_toArray,size_zeroCells,hzs,hl,←Nat.add_mul]
   congr 1
   omega
  ·simp only [Array.toList_append]
   rw [←hl]
   exact List.take_left
  ·have:g=w.heap.size:=by simpa [Q7] using hg
   omega
 | @row g n cap xs cur hrow =>
  have hb:=hrow.blk
  have holds:∀ j u,xs[j]?=some u→w.cell? ((⟨g,0,none⟩:Addr).add j)=some u:=fun j u hj=>by
   have hj':cur[j]?=some u:=by
    rw [←hrow.tk,List.getElem?_take] at hj
    split at hj
    ·simpa using hj
    ·cases hj
   rw [Addr.add_lit,Nat.zero_add]
   exact Q5 hb j hj'
  have hlen:(xs++news).length=(n+m)*i.size:=by rw [List.length_append,hrow.len,hl,Nat.add_mul]
  by_cases hroom:n+m≤cap
  ·have hfit:n*i.size+news.length≤cur.size:=by rw [hl,hrow.sz,←Nat.add_mul];exact Nat.mul_le_mul_right _ hroom
   have hr:=run_append_room (P:=P) w t ty E i ht hi g n cap cur hb ⟨g2,0,none⟩ m c2 news hl hnews h1 hroom hfit
   refine ⟨_,_,hr,.row ⟨setRow_heap w g cur _ E _ hb,hroom,hrow.mx,?_,?_,hlen⟩,⟨rfl,rfl,rfl,by simp,fun k' _ hk'=>setRow_other w g k' _ (by simpa [Q7] using hk')⟩,fun g' hg=>.inl (by simpa [Q7] using hg)⟩
   ·simp only [List.size_toArray,List.length_append,List.length_take,List.length_drop,Array.length_toList]
    have:=hrow.sz
    omega
   ·simp only 
    rw [hrow.tk,←hlen]
    exact List.take_left
  ·have hr:=run_append_grow (P:=P) w t ty E i z ht hi hz ⟨g,0,none⟩ n cap xs hrow.len holds ⟨g2,0,none⟩ m c2 news hl hnews (by omega) (by simp only [maxLen] at h63;omega) (growslice_fits (by omega) hbytes)
   refine ⟨_,_,hr,.row ⟨heap_alloc_new w.drew _,grownCap_ge w (n+m) cap E,grownCap_le_maxLen w (n+m) cap E h63,?_,?_,hlen⟩,(Q4 ((Below.refl _ w).drew.alloc (by simp) _)).mono (by simp),fun g' hg=>.inr ?_⟩
   ·have:=grownCap_ge w (n+m) cap E
    simp only [Array.size_append,List.size_toArray,size_zeroCells,hzs,hrow.len,hl,←Nat.add_mul]
    congr 1
    omega
   ·simp only [Array.toList_append,List.append_assoc]
    rw [←List.append_assoc,←hlen]
    exact List.take_left
   ·have:g'=w.heap.size:=by simpa [Q7] using hg
    omega
theorem Jw {P:Program} {ops:Array Oper} {rest:List Oper} {o:Oper} {a:Act} {Q:Exit→Act→World→Prop} (w:World) (hgd:o.guard=none) (s x:Operand) (t:TypeId) (ho:o.op = .call { callee:=.builtin .append,args:=#[s,x],argTypes:=#[t,t] })
  (E:TypeId) (i:TypeInfo) (z:Value) (size bytes:Nat) (ht:P.underlying t=some (.slice E)) (hi:P.info? E=some i) (hz:i.zero=some z) (hsize:i.size=size) (hby:i.bytes=bytes) (hzs:z.cells.size=size)
  (v:Value) (n:Nat) (xs:List Value) (hs:a.eval s=v) (hrow:RowV (inW w) E size v n xs) (g2 m c2:Nat) (news:List Value) (hx:a.eval x = .slice (some ⟨g2,0,none⟩) m c2) (hn2:∀ (j:Nat) (u:Value),news[j]?=some u→w.cell? ⟨g2,j,none⟩=some u) (hl:news.length=m*size) (h1:∀ u∈news,u.oneCell'=true) (h0:0<m)
  (h63:n+m≤maxLen) (hbytes:(n+m)*bytes≤140737488355328)
  (h:∀ v' w',RowV (inW w') E size v' (n+m) (xs++news)→Behind w (Q7 v) w'→(∀ g∈Q7 v',g∈Q7 v∨w.heap.size≤g)→wpList P ops Q rest (a.put o.dst v') w'):wpList P ops Q (o::rest) a w:=by
 refine wpList_plain hgd fun _ hK=>?_
 obtain ⟨v',w',hr,h2,h3,h4⟩:=V1 (P:=P) w t o.type E i z size bytes ht hi hz hsize hby hzs v n xs hrow g2 m c2 news hn2 hl h1 h0 h63 hbytes
 unfold Oper.wp execOp
 simp only [ho,resolve,invoke,builtin,Sem.run_bind,Sem.run_pure,Result.andThen_ok,List.map_toArray,List.map_cons,List.map_nil,hs,hx,hr]
 exact hK _ _ (h v' w' h2 h3 h4)
/-! ### Groups -/
abbrev Gp:=Value × List Ce
def clO (L:List Ce):Nat→Bool:=clV (lcs L)
def Q0f (o:Nat→Bool):List Value:=[.int .u64 (loW o:Nat),.int .u64 (hiW o:Nat)]
def Ju (K:List Gp):List Value:=K.flatMap fun x=>Q0f (clO x.2)
theorem V8 (K:List Gp):(Ju K).length=K.length*2:=by
 induction K with
 | nil=>rfl
 | cons x K ih=>rw [show Ju (x::K)=Q0f (clO x.2)++Ju K from rfl,List.length_append,ih,List.length_cons];show 2+_=_;omega
theorem O8 (K D:List Gp):Ju (K++D)=Ju K++Ju D:=by unfold Ju;rw [List.flatMap_append]
structure SpM (B:Nat) (w:World) (v3 v4:Value) (K:List Gp) (J3 J4:List Value) (D:List Gp):Prop where
 rows:RowV (inW w) 98 1 v3 (K.length+J3.length+D.length) (K.map (·.1)++(J3++D.map (·.1)))
 sets:RowV (inW w) 55 2 v4 (K.length+J3.length+D.length) (Ju K++(J4++Ju D))
 j4:J4.length=J3.length*2
 grp:∀ x∈K++D,RowV (inW w) 138 2 x.1 x.2.length (Jj x.2)∧x.2≠[]∧∀ g∈Q7 x.1,B≤g∧g∉Q7 v3∧g∉Q7 v4
 fr3:∀ g∈Q7 v3,B≤g∧g∉Q7 v4
 fr4:∀ g∈Q7 v4,B≤g
 dis:(K++D).Pairwise fun x y=>∀ g∈Q7 x.1,g∉Q7 y.1
theorem SpM.keep {B:Nat} {w w':World} {v3 v4:Value} {K:List Gp} {J3 J4:List Value} {D:List Gp} {U:List Nat} (h:SpM B w v3 v4 K J3 J4 D) (hB:Behind w U w') (h3:∀ g∈U,g∉Q7 v3∧g∉Q7 v4) (hg:∀ x∈K++D,∀ g∈Q7 x.1,g∉U):SpM B w' v3 v4 K J3 J4 D :=
 ⟨h.rows.keep hB (fun g hg hu=>(h3 g hu).1 hg),h.sets.keep hB (fun g hg hu=>(h3 g hu).2 hg),h.j4,fun x hx=>⟨(h.grp x hx).1.keep hB (hg x hx),(h.grp x hx).2⟩,h.fr3,h.fr4,h.dis⟩
theorem SpM.dis2 {B:Nat} {w:World} {v3 v4:Value} {K:List Gp} {J3 J4:List Value} (h:SpM B w v3 v4 K J3 J4 []):K.Pairwise fun x y=>∀ g∈Q7 x.1,g∉Q7 y.1:=by have:=h.dis;rwa [List.append_nil] at this
theorem SpM.below {B:Nat} {w w':World} {v3 v4:Value} {K:List Gp} {J3 J4:List Value} {D:List Gp} (h:SpM B w v3 v4 K J3 J4 D) (hB:Below w.heap.size w w'):SpM B w' v3 v4 K J3 J4 D :=
 h.keep (Q4 hB) (by simp) (by simp)
def Apa (g h:List Ce):Prop:=∀ v,clO g v=true→clO h v=false
end
/- Components of clauses: the plain part. -/
section
open Go.RowKit
def flG (K:List Gp):List Ce:=K.flatMap (·.2)
theorem Q1o (K D:List Gp):flG (K++D)=flG K++flG D:=by unfold flG;rw [List.flatMap_append]
theorem Xm (x:Gp) (D:List Gp):flG (x::D)=x.2++flG D:=rfl
theorem Q5r {K:List Gp} {e:Ce}:e∈flG K↔∃ x∈K,e∈x.2:=by unfold flG;rw [List.mem_flatMap]
structure Sp (K:List Gp) (g:List Ce) (D:List Gp) (M:List Ce):Prop where
 mem:∀ e,(e∈flG K∨e∈g∨e∈flG D)↔e∈M
 apa:(K++D).Pairwise fun x y=>Apa x.2 y.2
 cnt:(flG K).length+g.length+(flG D).length=M.length
theorem Q1e (L M:List Ce) (v:Nat):clO (L++M) v=(clO L v||clO M v):=by unfold clO lcs clV;rw [List.map_append,List.any_append]
theorem Sp.take {K D:List Gp} {g M:List Ce} {x:Gp} (h:Sp K g (x::D) M):Sp K (g++x.2) D M:=by
 refine ⟨fun e=>?_,h.apa.sublist ((List.Sublist.refl K).append (List.sublist_cons_self x D)),by have:=h.cnt;rw [Xm] at this;simp at *;omega⟩
 rw [←h.mem e,Xm,List.mem_append,List.mem_append]
 constructor
 ·rintro (h | (h | h) | h)
  ·exact .inl h
  ·exact .inr (.inl h)
  ·exact .inr (.inr (.inl h))
  ·exact .inr (.inr (.inr h))
 ·rintro (h | h | h | h)
  ·exact .inl h
  ·exact .inr (.inl (.inl h))
  ·exact .inr (.inl (.inr h))
  ·exact .inr (.inr h)
theorem Sp.stay {K D:List Gp} {g M:List Ce} {x:Gp} (h:Sp K g (x::D) M):Sp (K++[x]) g D M:=by
 refine ⟨fun e=>?_,by rw [List.append_assoc];exact h.apa,by have:=h.cnt;rw [Xm] at this;rw [Q1o,Xm];simp [flG] at *;omega⟩
 rw [←h.mem e,Q1o,Xm,Xm,List.mem_append,List.mem_append,List.mem_append]
 simp only [flG,List.flatMap_nil,List.not_mem_nil,or_false]
 constructor
 ·rintro ((h | h) | h | h)
  ·exact .inl h
  ·exact .inr (.inr (.inl h))
  ·exact .inr (.inl h)
  ·exact .inr (.inr (.inr h))
 ·rintro (h | h | h | h)
  ·exact .inl (.inl h)
  ·exact .inr (.inl h)
  ·exact .inl (.inr h)
  ·exact .inr (.inr h)
def NoMeet (K:List Gp) (s:Nat→Bool):Prop:=∀ x∈K,∀ v,clO x.2 v=true→s v=false
theorem NoMeet.take {K D:List Gp} {g M:List Ce} {x:Gp} {s:Nat→Bool} (h:NoMeet K s) (hs:Sp K g (x::D) M):NoMeet K (fun v=>s v||clO x.2 v):=fun y hy v hv=>by
 have h1:=h y hy v hv
 have h2:=(List.pairwise_append.1 hs.apa).2.2 y hy x (by simp) v hv
 show (s v||clO x.2 v)=false
 rw [h1,h2];rfl
theorem NoMeet.stay {K:List Gp} {x:Gp} {s:Nat→Bool} (h:NoMeet K s) (hx:∀ v,clO x.2 v=true→s v=false):NoMeet (K++[x]) s:=fun y hy v hv=>by
 rcases List.mem_append.1 hy with hy | hy
 ·exact h y hy v hv
 ·rw [show y=x by simpa using hy] at hv;exact hx v hv
theorem Sp.done {K:List Gp} {g M:List Ce} {c:Ce} {s:Nat→Bool} {v0:Value} (h:Sp K g [] M) (hm:NoMeet K s) (hs:∀ v,s v=(clO g v||clO [c] v)):Sp (K++[(v0,g++[c])]) [] [] (M++[c]):=by
 refine ⟨fun e=>?_,?_,by have:=h.cnt;rw [Q1o,Xm];simp [flG] at *;omega⟩
 ·have:=h.mem e
  rw [Q1o,Xm,List.mem_append,List.mem_append,List.mem_append,List.mem_append,←this]
  simp only [flG,List.flatMap_nil,List.not_mem_nil,or_false]
  rw [or_assoc]
 ·rw [List.append_nil,List.pairwise_append]
  refine ⟨by have:=h.apa;rwa [List.append_nil] at this,by simp,fun x hx y hy v hv=>?_⟩
  obtain rfl:y=(v0,g++[c]):=by simpa using hy
  have h1:=hm x hx v hv
  rw [hs] at h1
  show clO (g++[c]) v=false
  rw [Q1e];exact h1
theorem clO_rng {n:Nat} {L M:List Ce} (hO:Hl n (lcs L)) (hM:∀ e∈M,e∈L) {v:Nat} (h:clO M v=true):1≤v∧v≤n:=by
 obtain ⟨c,hc,x,hx,e⟩:=Yk.1 h
 obtain ⟨d,hd,rfl⟩:=List.mem_map.1 hc
 have:=hO d.xs (List.mem_map.2 ⟨d,hM d hd,rfl⟩) x hx
 omega
def Hp (xs:List Int):Nat→Bool:=fun v=>xs.any fun x=>decide (v=x.natAbs)
theorem preO_snoc (xs:List Int) (x:Int):Hp (xs++[x])=Kj (Hp xs) (x.natAbs:Int):=funext fun v=>by
 unfold Hp Kj
 rw [List.any_append]
 simp only [List.any_cons,List.any_nil,Bool.or_false]
 congr 1
 exact decide_eq_decide.2 (by omega)
theorem Q1i (c:Ce):clO [c]=Hp c.xs:=funext fun v=>by
 unfold clO lcs clV Hp
 simp
def SetAt (w:World) (g:Nat) (o:Nat→Bool):Prop:=w.heap[g]?=some (.cells #[.int .u64 (loW o:Nat),.int .u64 (hiW o:Nat)] 55 (0,0))
theorem SetAt.congr {w:World} {g:Nat} {o p:Nat→Bool} (h:SetAt w g o) (he:o=p):SetAt w g p:=he▸h
theorem Wv (w:World) (g:Nat) (x y:Value):Behind w [g] ((w.setCell ⟨g,0,none⟩ x).setCell ⟨g,1,none⟩ y):=(Zs w g 0 x).trans (Zs _ g 1 y) (fun k hk=>.inl hk)
theorem RowV.cell {w:World} {E:TypeId} {size g n cap:Nat} {xs:List Value} (h:RowV (inW w) E size (.slice (some ⟨g,0,none⟩) n cap) n xs) {k:Nat} {x:Value} (hk:xs[k]?=some x):w.cell? ⟨g,k,none⟩=some x:=by
 cases h with
 | @row _ _ _ _ cur hr =>
  have h2:=hr.tk
  rw [←h2,List.getElem?_take] at hk
  split at hk
  ·exact Q5 hr.blk k (by simpa using hk)
  ·cases hk
theorem RowV.inr {w:World} {E:TypeId} {size n m:Nat} {xs:List Value} {p:Option Addr} {c:Nat} (h:RowV (inW w) E size (.slice p n c) m xs) (h0:0<m):∃ g,p=some ⟨g,0,none⟩∧n=m:=by
 rcases h.two with ⟨_,h1,_⟩ | ⟨g,cap,e⟩
 ·omega
 ·cases e;exact ⟨g,rfl,rfl⟩
theorem Q0q {w:World} {E:TypeId} {size g n cap:Nat} {xs:List Value} (h:RowV (inW w) E size (.slice (some ⟨g,0,none⟩) n cap) n xs):∃ tl,w.heap[g]?=some (.cells (xs++tl).toArray E (0,0))∧(xs++tl).length=cap*size∧n≤cap∧cap≤maxLen∧xs.length=n*size:=by
 cases h with
 | @row _ _ _ _ cur hr =>
  refine ⟨cur.toList.drop (n*size),?_,?_,hr.le,hr.mx,hr.len⟩
  ·rw [←hr.tk,List.take_append_drop];exact hr.blk
  ·rw [←hr.tk,List.take_append_drop];simpa using hr.sz
theorem Ak {w:World} {E:TypeId} {size g n cap:Nat} {xs tl:List Value} (h:w.heap[g]?=some (.cells (xs++tl).toArray E (0,0))) (h1:(xs++tl).length=cap*size) (h2:n≤cap) (h3:cap≤maxLen) (h4:xs.length=n*size):RowV (inW w) E size (.slice (some ⟨g,0,none⟩) n cap) n xs :=
 .row ⟨h,h2,h3,by simpa using h1,by rw [←h4];exact List.take_left' rfl,h4⟩
theorem RowV.cut {w:World} {E:TypeId} {size g n cap k:Nat} {xs ys:List Value} (h:RowV (inW w) E size (.slice (some ⟨g,0,none⟩) n cap) n (xs++ys)) (hx:xs.length=k*size) (hk:k≤n):RowV (inW w) E size (.slice (some ⟨g,0,none⟩) k cap) k xs:=by
 obtain ⟨tl,h1,h2,h3,h4,_⟩:=Q0q h
 exact Ak (tl:=ys++tl) (by rw [h1,List.append_assoc]) (by rw [←h2,List.append_assoc]) (by omega) h4 hx
section
variable {P:Program} {ops:Array Oper} {w:World} {Wr:List Nat}
theorem mid_get (A C:List Value) {u v:List Value} (h:u.length=v.length) (i:Nat):(A++v++C).toArray[i]?=if A.length≤i∧i<A.length+v.length then v.toArray[i-A.length]? else (A++u++C).toArray[i]?:=by
 simp only [List.append_assoc,List.getElem?_toArray]
 by_cases h1:i<A.length
 ·rw [if_neg (by omega),List.getElem?_append_left h1,List.getElem?_append_left h1]
 ·rw [List.getElem?_append_right (l₁:=A) (by omega)]
  by_cases h2:i<A.length+v.length
  ·rw [if_pos ⟨by omega,h2⟩,List.getElem?_append_left (by omega)]
  ·rw [if_neg (by omega),List.getElem?_append_right (l₁:=A) (by omega),List.getElem?_append_right (l₁:=v) (by omega),List.getElem?_append_right (l₁:=u) (by omega),h]
theorem Zp {kd:Nat→Nat} {Q:Act→Blocks→Prop} {B:Blocks} {rest:List Oper} {k:Nat} {T ty:TypeId} {p v:Operand} {pos:String} {after:Array Edge} {a:Act} (g o:Nat) (A C U V:List Value) (val:Value) (E:TypeId) (hk:kd k=2) (hp:a.eval p = .pointer (some ⟨g,o,none⟩)) (ho:o=A.length) (hv:a.eval v=val) (hV:val.cells=V.toArray) (hUV:U.length=V.length)
  (hB:B g=some (.cells (A++U++C).toArray E (0,0))) (hW:g∈Wr∨w.heap.size≤g) (hi:(P.info? T).map (·.size)=some V.length) (h1:V.all (·.oneCell')=true)
  (h:Jh P ops w Wr kd Q rest (k+1) a (B.put g (.cells (A++V++C).toArray E (0,0)))) :
  Jh P ops w Wr kd Q (⟨none,.store T p v,ty,pos,after,none⟩::rest) k a B:=by
 subst ho
 have hs:val.cells.size=V.length:=by rw [hV];simp
 refine Qx g A.length val _ (A++V++C).toArray E hk hp hv hB ?_ ?_ ?_ hW (by rw [hs];exact hi) (by rw [hV];simpa using h1) h
 ·rw [hs];simp;omega
 ·simp [hUV]
 ·intro i _
  rw [hs,hV]
  exact mid_get A C hUV i
end
theorem RowV.set1 {w:World} {E:TypeId} {g n cap k:Nat} {A D:List Value} {y z:Value} (h:RowV (inW w) E 1 (.slice (some ⟨g,0,none⟩) n cap) n (A++y::D)) (hk:A.length=k):RowV (inW (w.setCell ⟨g,k,none⟩ z)) E 1 (.slice (some ⟨g,0,none⟩) n cap) n (A++z::D):=by
 obtain ⟨tl,h1,h2,h3,h4,h5⟩:=Q0q h
 have hs:=heap_setCell_same w g k _ _ z h1
 have e:((A++y::D)++tl).toArray.setIfInBounds k z=((A++z::D)++tl).toArray:=by
  rw [List.setIfInBounds_toArray,List.append_assoc,List.append_assoc,←hk,List.set_append_right _ _ (Nat.le_refl _),Nat.sub_self];rfl
 rw [e] at hs
 exact Ak hs (by simp at h2 ⊢;omega) h3 h4 (by simp at h5 ⊢;omega)
theorem pw_mid {α:Type} {R:α→α→Prop} {A D:List α} {x:α} (h:(A++x::D).Pairwise R):(∀ y∈A,R y x)∧∀ y∈D,R x y:=by
 rw [List.pairwise_append,List.pairwise_cons] at h
 exact ⟨fun y hy=>h.2.2 y hy x (by simp),h.2.1.1⟩
theorem pw_swap {α:Type} {R:α→α→Prop} {A D:List α} {x x':α} (h:(A++x::D).Pairwise R) (h1:∀ y∈A,R y x→R y x') (h2:∀ y∈D,R x y→R x' y):(A++x'::D).Pairwise R:=by
 rw [List.pairwise_append,List.pairwise_cons] at h ⊢
 refine ⟨h.1,⟨fun y hy=>h2 y hy (h.2.1.1 y hy),h.2.1.2⟩,fun y hy z hz=>?_⟩
 rcases List.mem_cons.1 hz with rfl | hz
 ·exact h1 y hy (h.2.2 y hy x (by simp))
 ·exact h.2.2 y hy z (by simp [hz])
def U7 (w:World) (bs:List Nat):Blocks:=fun g=>if g∈bs then w.heap[g]? else none
theorem Q30 (w:World) (bs:List Nat):Has (U7 w bs) w:=fun b o h=>by
 unfold U7 at h
 split at h
 ·exact h
 ·cases h
theorem Q1t (w:World) (bs:List Nat):Fin (U7 w bs):=⟨w.heap.size,fun b hb=>by
 unfold U7
 split
 ·exact Array.getElem?_eq_none hb
 ·rfl⟩
theorem He {w:World} {bs:List Nat} {E:TypeId} {size:Nat} {v:Value} {n:Nat} {xs:List Value} (h:RowV (inW w) E size v n xs) (hs:∀ g∈Q7 v,g∈bs):RowV (U7 w bs) E size v n xs:=by
 cases h with
 | nil=>exact .nil
 | @row g n cap xs cur h=>exact .row (h.of (by unfold U7;rw [if_pos (hs g (by simp [Q7]))];exact h.blk))
structure SplitP (w w':World) (v:Value) (Gs:List Gp) (L:List Ce):Prop where
 row:RowV (inW w') 98 1 v Gs.length (Gs.map (·.1))
 fr:∀ g∈Q7 v,w.heap.size≤g
 grp:∀ x∈Gs,RowV (inW w') 138 2 x.1 x.2.length (Jj x.2)∧x.2≠[]∧(∀ g∈Q7 x.1,w.heap.size≤g)∧(∀ e∈x.2,e∈L)∧ByLen (lcs x.2)∧x.2.length≤L.length
 mem:∀ c,c∈lcs L↔∃ x∈Gs,c∈lcs x.2
 apa:Gs.Pairwise fun x y=>Apa x.2 y.2
 be:Below w.heap.size w w'
theorem Tryz.infoCls:(Tryz.prog.info? 98).map (fun i=>(i.zero,i.size,i.bytes))=some (some (.slice none 0 0),1,24):=by kernel_rfl
theorem Tryz.infoSetS:(Tryz.prog.info? 55).map (fun i=>(i.zero,i.size,i.bytes))=some (some (.agg #[.int .u64 0,.int .u64 0]),2,16):=by kernel_rfl
end
end Go.Proofs.YtcpehljpegfckaaGreatDoor
