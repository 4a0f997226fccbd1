/- Texts of this claim,joined: CZ9. -/
import Derived.Test.YtcpehljpegfckaaGreatDoorMT20
import Derived.Deep.DeepCutAuto
/- Components of clauses: the walk. -/
namespace Go.Proofs.YtcpehljpegfckaaGreatDoor
open Go.RowKit
set_option maxHeartbeats 12800000 in
set_option maxRecDepth 100000 in
theorem gSplit (ok:Nat→Prop) (n:Nat) (L:List Ce) (p:Option Addr) (cap:Nat) (w:World) (hA:ClsP ok w p L) (hI:∀ e∈L,CeOk ok w e) (hok:∀ b,ok b→b<w.heap.size) (hO:Hl n (lcs L)) (hn:n≤128) (hl:L.length<20) :
  Calls Tryz.prog 77 #[.slice p L.length cap] w fun e w'=>∃ v Gs,e = .returned v∧SplitP w w' v Gs L:=by
 obtain ⟨Post,hPost⟩:∃ P:Ending→World→Prop,P=fun e w'=>∃ v Gs,e = .returned v∧SplitP w w' v Gs L:=⟨_,rfl⟩
 rw [←hPost]
 have HP:=Lib.hid (show ∀ (v:Value) (Gs:List Gp) (w':World),SplitP w w' v Gs L→Post (.returned v) w' from fun v Gs w' h=>by rw [hPost];exact ⟨v,Gs,rfl,h⟩)
 have HA:=Lib.hid hA
 have HI:=Lib.hid hI
 have HO:=Lib.hid hO
 have HOK:=Lib.hid hok
 obtain ⟨i0,ii,iz0,iz1,iz2⟩:=info_parts Tryz.infoClause
 have II:=Lib.hid ii
 have IZ0:=Lib.hid iz0
 have IZ1:=Lib.hid iz1
 have IZ2:=Lib.hid iz2
 clear ii iz0 iz1 iz2
 obtain ⟨j0,ii,iz0,iz1,iz2⟩:=info_parts Tryz.infoCls
 have JI:=Lib.hid ii
 have JZ0:=Lib.hid iz0
 have JZ1:=Lib.hid iz1
 have JZ2:=Lib.hid iz2
 clear ii iz0 iz1 iz2
 obtain ⟨k0,ii,iz0,iz1,iz2⟩:=info_parts Tryz.infoSetS
 have KI:=Lib.hid ii
 have KZ0:=Lib.hid iz0
 have KZ1:=Lib.hid iz1
 have KZ2:=Lib.hid iz2
 clear ii iz0 iz1 iz2
 obtain ⟨m,hm⟩:∃ m,m=L.length:=⟨_,rfl⟩
 rw [←hm] at hl ⊢
 have HM:=Lib.hid hm
 clear hPost hA hI hO hm hok
 go_enter Tryz.func77,Tryz.ntmps77
 go_wp2_with fail
 go_loopw [3,4,16] (fun t3 t4 t16 wr=>∃ (i:Nat) (v3 v4:Value) (K:List Gp),t3=v3∧t4=v4∧t16 = .int .i64 i∧i≤m∧K.length≤i∧Hid (K=[]→v3 = .slice none 0 0∧v4 = .slice none 0 0)∧Hid (SpM w.heap.size wr v3 v4 K [] [] [])∧Hid (Sp K [] [] (L.take i))∧Hid (Below w.heap.size w wr)) (fun _ _ t _=>m-(intOf t).toNat)
 case atStart=>exact ⟨0,.slice none 0 0,.slice none 0 0,[],rfl,rfl,rfl,Nat.zero_le _,Nat.le_refl _,(fun _=>⟨rfl,rfl⟩),⟨.nil,.nil,rfl,(fun x hx=>by cases hx),(fun g hg=>by simp [Q7] at hg),(fun g hg=>by simp [Q7] at hg),List.Pairwise.nil⟩,⟨fun e=>by simp [flG],List.Pairwise.nil,rfl⟩,Below.refl _ _⟩
 case round =>
  obtain ⟨i,v3,v4,K,hv3,hv4,rfl,him,hKi,HNIL,HSM,HSP,HW⟩:=hrel
  have hv3:=hv3.symm
  have hv4:=hv4.symm
  subst hv3 hv4
  obtain ⟨w2,hw2⟩:∃ w2,w2=wr:=⟨_,rfl⟩
  rw [←hw2] at HSM HW ⊢
  clear hw2
  by_cases hlt:i<m
  ·have hd:decide (i<m)=true:=decide_eq_true hlt
   have hd2:decide ((i:Int)<(m:Int))=true:=decide_eq_true (by omega)
   obtain ⟨e,he⟩:∃ e,L[i]?=some e:=⟨_,List.getElem?_eq_getElem (by rw [←HM.out];exact hlt)⟩
   obtain ⟨b,o,hb,_,hp,k1,k2⟩:=HA.out i e he
   have c1:=Q8 HW.out hb k1
   have c2:=Q8 HW.out hb k2
   have HIE:=Lib.hid (HI.out e (List.mem_of_getElem? he))
   have HEL:=Lib.hid (List.mem_of_getElem? he)
   have HTT:=Lib.hid (show L.take (i+1)=L.take i++[e] by rw [List.take_add_one,he];rfl)
   obtain ⟨ep,ec,xs,at'⟩:=e
   subst hp
   dsimp only at *
   have C1:=Lib.hid c1
   have C2:=Lib.hid c2
   clear he hb k1 k2 c1 c2
   go_upto_region 5 with fail
   refine wp_region_lit (J6 [0,0,3,2] [] B0 (Qi _) ?_)
   refine Qb 2 (by kernel_rfl) (by rfl) ?_
   apply Exists.intro
   refine ⟨fun z hz=>?_,?_⟩
   ·have f0:=Q6 hz C1.out (by simp)
    have f1:=Q6 hz C2.out (by simp)
    clear hz
    simp only [List.take_succ_cons,List.take_zero]
    unfold Cx
    repeat (go_big_quiet_step (fail))
    exact wpQuiet_nil rfl
   simp only [List.drop_succ_cons,List.drop_zero]
   refine Jm (.agg #[.slice none 0 0,.int .i64 0]) (by rfl) (fun x=>by kernel_rfl) (fun g6 q6 hn6=>?_)
   unfold Qk
   go_big_quiet_step (fail)
   refine wpQuiet_nil ?_
   refine Qh g6 #[.slice ep xs.length ec,.int .i64 at'] #[.slice none 0 0,.int .i64 0] 138 (by rfl) (by rfl) (by rfl) (Blocks.put_same _ _ _) rfl (.inr q6) (by kernel_rfl) (by simp [Value.oneCell']) ?_
   refine Qf ?_
   intro w3 hx3 hH
   have HC3:=Lib.hid (hH g6 _ (Blocks.put_same _ _ _))
   have HG6:=Lib.hid (show (∀ g∈Q7 v3,g<g6)∧(∀ g∈Q7 v4,g<g6)∧w.heap.size≤g6 from ⟨fun g hg=>by have:=HSM.out.rows.lt g hg;omega,fun g hg=>by have:=HSM.out.sets.lt g hg;omega,by have:=HW.out.size;omega⟩)
   have HB3:=Lib.hid (show Below w2.heap.size w2 w3 from hx3.below_of (by simp) (Nat.le_refl _))
   clear hx3 hH hn6 q6 C1 C2
   have HW3:=Lib.hid (HW.out.trans (HB3.out.mono HW.out.size))
   have HSM3:=Lib.hid (HSM.out.below HB3.out)
   clear HSM HW
   go_upto_region 7 with fail
   refine Qg ?_
   intro w4 hw4
   have HS4:=Lib.hid (show SetAt w4 w3.heap.size Yr by
    have h0:loW Yr=0∧hiW Yr=0:=by decide
    unfold SetAt
    rw [h0.1,h0.2,hw4]
    exact heap_alloc_new w3 _)
   have HB4:=Lib.hid (show Below w3.heap.size w3 w4 by rw [hw4];exact (Below.refl _ _).alloc (Nat.le_refl _) _)
   clear hw4
   have HW4:=Lib.hid (HW3.out.trans (HB4.out.mono HW3.out.size))
   have HSM4:=Lib.hid (HSM3.out.below HB4.out)
   have HC4:=Lib.hid ((Q4 HB4.out).keep HC3.out (by simp))
   have HLT6:=Lib.hid (Q9 HC3.out)
   obtain ⟨g7,hg7⟩:∃ g,g=w3.heap.size:=⟨_,rfl⟩
   rw [←hg7] at HS4 HLT6 ⊢
   have HG7:=Lib.hid (show (∀ g∈Q7 v3,g<g7)∧(∀ g∈Q7 v4,g<g7)∧(∀ x∈K,∀ g∈Q7 x.1,g<g7)∧g6<g7∧w.heap.size≤g7 from by
    rw [hg7]
    exact ⟨HSM3.out.rows.lt,HSM3.out.sets.lt,fun x hx=>(HSM3.out.grp x (by simpa using hx)).1.lt,Q9 HC3.out,HW3.out.size⟩)
   clear hg7 HSM3 HC3 HW3 HB3 HB4
   obtain ⟨q,hq⟩:∃ q,q=xs.length:=⟨_,rfl⟩
   have hq1:q≤1000000:=by rw [hq];exact HIE.out.len
   rw [←hq] at HC4 ⊢
   have HQ:=Lib.hid hq
   clear hq
   have c1:=Q5 HC4.out 0 rfl
   go_wp2_with fail
   clear c1
   go_loopw [23] (fun t wr=>∃ k:Nat,t = .int .i64 k∧k≤q∧Hid (SetAt wr g7 (Hp (xs.take k)))∧Hid (wr.heap[g6]?=some (.cells #[.slice ep q ec,.int .i64 at'] 138 (0,0)))∧Hid (SpM w.heap.size wr v3 v4 K [] [] [])∧Hid (Below w.heap.size w wr)) (fun t _=>q-(intOf t).toNat)
   case atStart=>exact ⟨0,rfl,Nat.zero_le _,HS4.out,HC4.out,HSM4.out,HW4.out⟩
   case round =>
    clear HS4 HC4 HSM4 HW4
    obtain ⟨k,rfl,hkq,HST,HC,HSM,HW⟩:=hrel
    obtain ⟨w5,hw5⟩:∃ w5,w5=wr:=⟨_,rfl⟩
    rw [←hw5] at HST HC HSM HW ⊢
    clear hw5
    by_cases hlk:k<q
    ·have hd3:decide (k<q)=true:=decide_eq_true hlk
     have hd4:decide ((k:Int)<(q:Int))=true:=decide_eq_true (by omega)
     obtain ⟨y,hy⟩:∃ y,xs[k]?=some y:=⟨_,List.getElem?_eq_getElem (by rw [←HQ.out];exact hlk)⟩
     obtain ⟨b2,o2,hb2,_,hp2,kx⟩:=HIE.out.ins k _ (Jb xs k y hy)
     dsimp only at hp2
     subst hp2
     have cx:=Q8 HW.out hb2 kx
     have hyr:=HO.out xs (List.mem_map.2 ⟨_,HEL.out,rfl⟩) y (List.mem_of_getElem? hy)
     have KV:=gVar y
     rw [Q6c hyr.1 (by omega)] at KV
     have KW:=gWith (Hp (xs.take k)) (y.natAbs:Int)
     have HPN:=Lib.hid (show Kj (Hp (xs.take k)) (y.natAbs:Int)=Hp (xs.take (k+1)) by rw [Xj hy,preO_snoc])
     rw [HPN.out] at KW
     unfold Qt Jz at KW
     have KVH:=Lib.hid KV
     have KWH:=Lib.hid KW
     have X0:=Lib.hid (Q5 HST.out 0 rfl)
     have X1:=Lib.hid (Q5 HST.out 1 rfl)
     clear hy hb2 kx hyr KV KW
     go_upto_region 10 with fail
     refine Zi 4 [0,0,0,0,0] [] B0 Qu (Qi _) (by kernel_rfl) (by kernel_rfl) ?_
     simp only [List.take_succ_cons,List.take_zero]
     refine Qb 4 (by kernel_rfl) (by rfl) ?_
     apply Exists.intro
     refine ⟨fun z hz=>?_,?_⟩
     ·have f0:=Q6 hz X0.out (by simp)
      have f1:=Q6 hz X1.out (by simp)
      clear hz
      simp only [List.take_succ_cons,List.take_zero]
      unfold Cx
      repeat (go_big_quiet_step (first | with_reducible exact KVH.out.at _ _ | with_reducible exact KWH.out.at _ _))
      exact wpQuiet_nil rfl
     simp only [List.drop_succ_cons,List.drop_zero]
     refine Qf ?_
     intro x6 hx6 _
     have hst6:SetAt x6 g7 (Hp (xs.take k)):=hx6.keep HST.out (by simp)
     have hc6:x6.heap[g6]?=_:=hx6.keep HC.out (by simp)
     have hb6:Below w5.heap.size w5 x6:=hx6.below_of (by simp) (Nat.le_refl _)
     have hsm6:=HSM.out.below hb6
     have hw6:=HW.out.trans (hb6.mono HW.out.size)
     have z0:=Q5 hst6 0 rfl
     have z1:=Q5 hst6 1 rfl
     have f0:=Qd hst6 0
     have f1:=Qd hst6 1
     have hbe:=Wv x6 g7 (.int .u64 (loW (Hp (xs.take (k+1))):Nat)) (.int .u64 (hiW (Hp (xs.take (k+1))):Nat))
     have HST7:=Lib.hid (show SetAt ((x6.setCell ⟨g7,0,none⟩ (.int .u64 (loW (Hp (xs.take (k+1))):Nat))).setCell ⟨g7,1,none⟩ (.int .u64 (hiW (Hp (xs.take (k+1))):Nat))) g7 (Hp (xs.take (k+1))) from Zg hst6)
     have HC7:=Lib.hid (hbe.keep hc6 (by have:=HG7.out.2.2.2.1;simp;omega))
     have HSM7:=Lib.hid (hsm6.keep hbe (fun g hg=>by
      obtain rfl:g=g7:=by simpa using hg
      exact ⟨fun h=>by have:=HG7.out.1 g h;omega,fun h=>by have:=HG7.out.2.1 g h;omega⟩) (fun x hx g hg hu=>by
      obtain rfl:g=g7:=by simpa using hu
      have:=HG7.out.2.2.1 x (by simpa using hx) g hg;omega))
     have HW7:=Lib.hid (hw6.trans (hbe.below_of (b:=w.heap.size) (by have:=HG7.out.2.2.2.2;simp;omega) hw6.size))
     clear hx6 hst6 hc6 hb6 hsm6 hw6 hbe HST HC HSM HW X0 X1 KVH KWH cx HPN
     go_wp2_with fail
     go_roundw
     case rel=>exact ⟨k+1,by go_num,by omega,HST7.out,HC7.out,HSM7.out,HW7.out⟩
     case measure=>simp [intOf];omega
    ·have hd3:decide (k<q)=false:=decide_eq_false hlk
     have hd4:decide ((k:Int)<(q:Int))=false:=decide_eq_false (by omega)
     have HST2:=Lib.hid (show SetAt w5 g7 (Hp xs) by
      have:=HST.out
      rwa [List.take_of_length_le (by have:=HQ.out;omega)] at this)
     clear HST hlk hkq
     obtain ⟨r,hr⟩:∃ r,r=K.length:=⟨_,rfl⟩
     have hrows:=HSM.out.rows
     have hsets:=HSM.out.sets
     simp only [List.length_nil,Nat.add_zero,←hr] at hrows hsets
     obtain ⟨p3,c3,hv3⟩:=hrows.slice
     obtain ⟨p4,c4,hv4⟩:=hsets.slice
     have HRK:=Lib.hid hr
     have hri:r≤i:=by omega
     subst hv3 hv4
     clear hrows hsets hr
     go_upto_region 14 with fail
     refine Qg ?_
     intro w6 hw6
     have HT6:=Lib.hid (show RowV (inW w6) 138 2 (.slice (some ⟨w5.heap.size,0,none⟩) 0 0) 0 (Jj []) from .row (cur:=#[]) ⟨by rw [hw6];exact heap_alloc_new w5 _,Nat.le_refl _,Nat.zero_le _,rfl,rfl,rfl⟩)
     have hb6:Below w5.heap.size w5 w6:=by rw [hw6];exact (Below.refl _ _).alloc (Nat.le_refl _) _
     have HSM6:=Lib.hid (HSM.out.below hb6)
     have HW6:=Lib.hid (HW.out.trans (hb6.mono HW.out.size))
     have HC6:=Lib.hid ((Q4 hb6).keep HC.out (by simp))
     have HST6:=Lib.hid (show SetAt w6 g7 (Hp xs) from (Q4 hb6).keep HST2.out (by simp))
     have HF6:=Lib.hid (show ∀ b∈Q7 (.slice (some ⟨w5.heap.size,0,none⟩) 0 0),g7<b from fun b hb=>by
      have h1:=Q9 HST2.out
      have:b=w5.heap.size:=by simpa [Q7] using hb
      omega)
     clear hw6 hb6 HSM HW HC HST2
     go_wp2_with fail
     go_loopw [10,11,35] (fun t10 t11 t35 wr=>∃ (j kp:Nat) (v10:Value) (K1 D1:List Gp) (J3 J4:List Value) (g:List Ce) (s:Nat→Bool),t10=v10∧t11 = .int .i64 kp∧t35 = .int .i64 j∧j≤r∧kp≤j∧Hid (K1.length=kp)∧Hid (j+D1.length=r)∧Hid (K1.length+J3.length=j)∧Hid (SpM w.heap.size wr (.slice p3 r c3) (.slice p4 r c4) K1 J3 J4 D1)∧Hid (RowV (inW wr) 138 2 v10 g.length (Jj g))∧Hid (∀ b∈Q7 v10,g7<b)∧g.length≤i∧Hid (SetAt wr g7 s)∧Hid (wr.heap[g6]?=some (.cells #[.slice ep q ec,.int .i64 at'] 138 (0,0)))∧Hid (Sp K1 g D1 (L.take i))∧Hid (NoMeet K1 s)∧Hid (∀ v,s v=(clO g v||Hp xs v))∧Hid (∀ x∈K1++D1,∀ b∈Q7 x.1,b<g7)∧Hid (Below w.heap.size w wr)) (fun _ _ t _=>r-(intOf t).toNat)
     case atStart=>exact ⟨0,0,.slice (some ⟨w5.heap.size,0,none⟩) 0 0,[],K,[],[],[],Hp xs,rfl,rfl,rfl,Nat.zero_le _,Nat.le_refl _,rfl,by rw [HRK.out];simp [Hid],rfl,by
      have h:=HSM6.out
      exact ⟨by have:=h.rows;simpa using this,by have:=h.sets;simpa [Ju] using this,rfl,by simpa using h.grp,h.fr3,h.fr4,by simpa using h.dis⟩,HT6.out,HF6.out,Nat.zero_le _,HST6.out,HC6.out,by
      have h:=HSP.out
      exact ⟨fun e=>by have:=h.mem e;simpa [flG] using this,by simpa using h.apa,by have:=h.cnt;simp [flG] at *;omega⟩,(fun x hx=>by cases hx),(fun v=>by simp [clO,lcs,clV]),(fun x hx b hb=>HG7.out.2.2.1 x (by simpa using hx) b hb),HW6.out⟩
     case round =>
      clear HSM6 HT6 HF6 HST6 HC6 HW6 HSP
      obtain ⟨j,kp,v10,K1,D1,J3,J4,g,s,hv10,rfl,rfl,hjr,hkj,HK1,HD1,HJ1,HSM,HV10,HF10,hgi,HST,HC,HSP,HNM,HSV,HBL,HW⟩:=hrel
      have hv10:=hv10.symm
      subst hv10
      obtain ⟨w7,hw7⟩:∃ w7,w7=wr:=⟨_,rfl⟩
      rw [←hw7] at HSM HV10 HST HC HW ⊢
      clear hw7
      cases D1 with
      | nil =>
       have hjr2:j=r:=by have:=HD1.out;simpa using this
       have hd3:decide (j<r)=false:=decide_eq_false (by omega)
       have hd4:decide ((j:Int)<(r:Int))=false:=decide_eq_false (by omega)
       have hkr:kp≤r:=by omega
       have HJR:=Lib.hid hjr2
       clear hjr2
       by_cases hr0:r=0
       ·obtain ⟨e3,e4⟩:=HNIL.out (List.length_eq_zero_iff.1 (by rw [←HRK.out,hr0]))
        cases e3
        cases e4
        obtain rfl:kp=0:=by omega
        have hK10:K1=[]:=List.length_eq_zero_iff.1 HK1.out
        have HV3:=Lib.hid (show RowV (inW w7) 98 1 (.slice none 0 0) 0 (K1.map (·.1)) from by rw [hK10];exact .nil)
        have HV4:=Lib.hid (show RowV (inW w7) 55 2 (.slice none 0 0) 0 (Ju K1) from by rw [hK10];exact .nil)
        have HG37:=Lib.hid (show ∀ b∈Q7 (Value.slice none 0 0),b<g7 from fun b hb=>by simp [Q7] at hb)
        have HG36:=Lib.hid (show ∀ b∈Q7 (Value.slice none 0 0),b<g6 from fun b hb=>by simp [Q7] at hb)
        have HG47:=Lib.hid (show ∀ b∈Q7 (Value.slice none 0 0),b<g7 from fun b hb=>by simp [Q7] at hb)
        have HG34:=Lib.hid (show ∀ b∈Q7 (Value.slice none 0 0),b∉Q7 (Value.slice none 0 0) from fun b hb=>by simp [Q7] at hb)
        have HSUB:=Lib.hid (show ∀ b∈Q7 (Value.slice none 0 0),b∈Q7 (Value.slice none 0 0) from fun b hb=>hb)
        have HSUB4:=Lib.hid (show ∀ b∈Q7 (Value.slice none 0 0),b∈Q7 (Value.slice none 0 0) from fun b hb=>hb)
        clear hK10 hr0
        obtain ⟨kF1,hkF1⟩:∃ k,k=kA v10 g.length 1:=⟨_,rfl⟩
        have hkF1':kF1=2∨kF1=5:=by rw [hkF1];exact Q18 _ _ _
        obtain ⟨kF2,hkF2⟩:∃ k,k=kA (Value.slice none 0 0) 0 1:=⟨_,rfl⟩
        have hkF2':kF2=2∨kF2=5:=by rw [hkF2];exact Q18 _ _ _
        have HK1':=Lib.hid hkF1
        have HK2':=Lib.hid hkF2
        clear hkF1 hkF2
        have HLT1:=Lib.hid HV10.out.lt
        have HLT2:=Lib.hid HV3.out.lt
        have X0:=Lib.hid (Q5 HC.out 0 rfl)
        have X1:=Lib.hid (Q5 HC.out 1 rfl)
        have HDJ:=Lib.hid (show ∀ b∈Q7 v10,b∉Q7 (Value.slice none 0 0) from fun b hb hb2=>by have a1:=HF10.out b hb;have a2:=HG37.out b hb2;omega)
        go_upto_region 23 with fail
        refine Qo [0,0,0,0,0,3,kF1,3,kF2,0] (Q7 v10++Q7 (Value.slice none 0 0)) (U7 w7 (Q7 v10++Q7 (Value.slice none 0 0))) (Q1t _ _) (Q30 _ _) (by kernel_rfl) (by rcases hkF1' with h | h<;>rcases hkF2' with h' | h'<;>rw [h,h']<;>kernel_rfl) ?_
        refine Qb 5 (by kernel_rfl) (by rfl) ?_
        apply Exists.intro
        refine ⟨fun z hz=>?_,?_⟩
        ·have hg6n:g6∉Q7 v10++Q7 (Value.slice none 0 0):=fun h=>by
          rcases List.mem_append.1 h with h | h
          ·have a1:=HF10.out g6 h;have a2:=HG7.out.2.2.2.1;omega
          ·have:=HG36.out g6 h;omega
         have f0:=Q6 hz X0.out hg6n
         have f1:=Q6 hz X1.out hg6n
         clear hz hg6n
         simp only [List.take_succ_cons,List.take_zero]
         unfold Cx
         repeat (go_big_quiet_step (fail))
         exact wpQuiet_nil rfl
        simp only [List.drop_succ_cons,List.drop_zero]
        refine Kw 1 (.cells #[.slice ep q ec,.int .i64 at'] 138) (by rfl) (fun x=>by go_simp) (fun g21 q21 hn21=>?_)
        unfold Qk
        go_big_quiet_step (fail)
        refine wpQuiet_nil ?_
        have n21v:g21∉Q7 v10:=fun h=>by have:=HLT1.out g21 h;omega
        have n21w:g21∉Q7 (Value.slice none 0 0):=fun h=>by have:=HLT2.out g21 h;omega
        clear hn21
        refine Yu (.tmp 78) (.tmp 80) 98 138 i0 _ 2 32 Tryz.underlying98 II.out IZ0.out IZ1.out IZ2.out (by rfl) v10 g.length (Jj g) ((He HV10.out (fun b hb=>List.mem_append_left _ hb)).of_put n21v) (by rfl) g21 1 1 [.slice ep q ec,.int .i64 at'] 138 (by rfl) (Blocks.put_same _ _ _) rfl (by simp [Value.oneCell']) (by omega) (by unfold maxLen;omega) (by omega) (fun b hb=>.inl (List.mem_append_left _ hb)) HK1'.out (fun g22 c22 ob22 hr22 hg22=>?_)
        unfold Qk
        go_big_quiet_step (fail)
        refine wpQuiet_nil ?_
        have n22w:g22∉Q7 (Value.slice none 0 0):=fun e=>hg22.elim (fun h=>HDJ.out g22 h e) (fun h=>by have:=HLT2.out g22 e;omega)
        have hn22:g22∈Q7 v10∨w7.heap.size≤g22:=hg22.imp id (fun h=>h.1)
        clear hg22
        refine Kw 1 (.cells #[.slice (some ⟨g22,0,none⟩) (g.length+1) c22] 98) (by rfl) (fun x=>by go_simp) (fun g23 q23 hn23=>?_)
        unfold Qk
        go_big_quiet_step (fail)
        refine wpQuiet_nil ?_
        have n23w:g23∉Q7 (Value.slice none 0 0):=fun h=>by have:=HLT2.out g23 h;omega
        have n2322:g23≠g22:=O6 hn23
        clear hn23
        refine Yu (.tmp 77) (.tmp 82) 145 98 j0 _ 1 24 Tryz.underlying145 JI.out JZ0.out JZ1.out JZ2.out (by rfl) (Value.slice none 0 0) 0 (K1.map (·.1)) ((((He HV3.out (fun b hb=>List.mem_append_right _ hb)).of_put n21w).of_put n22w).of_put n23w) (by rfl) g23 1 1 [.slice (some ⟨g22,0,none⟩) (g.length+1) c22] 98 (by rfl) (Blocks.put_same _ _ _) rfl (by simp [Value.oneCell']) (by omega) (by unfold maxLen;omega) (by omega) (fun b hb=>.inl (List.mem_append_right _ hb)) HK2'.out (fun g24 c24 ob24 hr24 hg24=>?_)
        unfold Qk
        go_big_quiet_step (fail)
        refine wpQuiet_nil ?_
        have n2422:g24≠g22:=hg24.elim (fun h e=>n22w (e▸h)) (fun h=>O6 (Q0w h.2))
        have hn24:g24∈Q7 (Value.slice none 0 0)∨w7.heap.size≤g24:=hg24.imp id (fun h=>h.1)
        clear hg24
        refine Qb 1 (by kernel_rfl) (by rfl) ?_
        apply Exists.intro
        refine ⟨fun z hz=>?_,?_⟩
        ·clear hz
         simp only [List.take_succ_cons,List.take_zero]
         unfold Cx
         repeat (go_big_quiet_step (fail))
         exact wpQuiet_nil rfl
        simp only [List.drop_succ_cons,List.drop_zero]
        refine Qf ?_
        intro x2 hx2 hH2
        have hr25:=((hr22.of_put (b:=g23) (ob:=.cells #[.slice (some ⟨g22,0,none⟩) (g.length+1) c22] 98 (0,0)) (fun h=>n2322 (by simpa [Q7] using h))).of_put (b:=g24) (ob:=ob24) (fun h=>n2422 (by simpa [Q7] using h))).of_has hH2
        have hr26:=hr24.of_has hH2
        have HR25:=Lib.hid (show RowV (inW x2) 138 2 (.slice (some ⟨g22,0,none⟩) (g.length+1) c22) (g++[(⟨ep,ec,xs,at'⟩:Ce)]).length (Jj (g++[(⟨ep,ec,xs,at'⟩:Ce)])) from by
         rw [Yo,List.length_append]
         have e:Jj [(⟨ep,ec,xs,at'⟩:Ce)]=[.slice ep q ec,.int .i64 at']:=by rw [HQ.out];rfl
         rw [e];exact hr25)
        have HR26:=Lib.hid hr26
        have HX2:=Lib.hid hx2
        have HU2:=Lib.hid (show ∀ b,b<g7→b∉Q7 (Value.slice none 0 0)→b∉Q7 v10++Q7 (Value.slice none 0 0) from fun b h1 h2 h=>by
         rcases List.mem_append.1 h with h | h
         ·have:=HF10.out b h;omega
         ·exact h2 h)
        have HB22:=Lib.hid (show g7<g22 from hn22.elim (HF10.out g22) (fun h=>by have:=Q9 HST.out;omega))
        have HN24:=Lib.hid (And.intro hn24 n2422)
        have HST2:=Lib.hid (show SetAt x2 g7 s from hx2.keep HST.out (fun h=>by
         rcases List.mem_append.1 h with h | h
         ·have:=HF10.out g7 h;omega
         ·have:=HG37.out g7 h;omega))
        have HV42:=Lib.hid (HV4.out.keep hx2 (fun b hb=>HU2.out b (HG47.out b hb) (HG34.out b hb)))
        clear hr22 hr24 hr25 hr26 hx2 hH2 n21v n21w n22w n23w n2322 n2422 hn22 hn24 q21 q23 hkF1' hkF2' HLT1 HLT2 HK1' HK2' X0 X1 HDJ
        obtain ⟨kF3,hkF3⟩:∃ k,k=kA (Value.slice none 0 0) 0 1:=⟨_,rfl⟩
        have hkF3':kF3=2∨kF3=5:=by rw [hkF3];exact Q18 _ _ _
        have HK3':=Lib.hid hkF3
        clear hkF3
        have HLT3:=Lib.hid HV42.out.lt
        have X0:=Lib.hid (Q5 HST2.out 0 rfl)
        have X1:=Lib.hid (Q5 HST2.out 1 rfl)
        go_upto_region 24 with fail
        refine Qo [0,0,0,0,3,kF3,0] (Q7 (Value.slice none 0 0)) (Q3l x2 (Value.slice none 0 0)) (Ai _ _) (Ap _ _) (by kernel_rfl) (by rcases hkF3' with h | h<;>rw [h]<;>kernel_rfl) ?_
        refine Qb 4 (by kernel_rfl) (by rfl) ?_
        apply Exists.intro
        refine ⟨fun z hz=>?_,?_⟩
        ·have hg7n:g7∉Q7 (Value.slice none 0 0):=fun h=>by have:=HG47.out g7 h;omega
         have f0:=Q6 hz X0.out hg7n
         have f1:=Q6 hz X1.out hg7n
         clear hz hg7n
         simp only [List.take_succ_cons,List.take_zero]
         unfold Cx
         repeat (go_big_quiet_step (fail))
         exact wpQuiet_nil rfl
        simp only [List.drop_succ_cons,List.drop_zero]
        refine Kw 1 (.cells #[.int .u64 (loW s:Nat),.int .u64 (hiW s:Nat)] 55) (by rfl) (fun x=>by go_simp) (fun g31 q31 hn31=>?_)
        unfold Qk
        go_big_quiet_step (fail)
        refine wpQuiet_nil ?_
        have n31v:g31∉Q7 (Value.slice none 0 0):=fun h=>by have:=HLT3.out g31 h;omega
        clear hn31
        refine Yu (.tmp 86) (.tmp 88) 29 55 k0 _ 2 16 Tryz.underlying29 KI.out KZ0.out KZ1.out KZ2.out (by rfl) (Value.slice none 0 0) 0 (Ju K1) ((Uh HV42.out).of_put n31v) (by rfl) g31 1 1 [.int .u64 (loW s:Nat),.int .u64 (hiW s:Nat)] 55 (by rfl) (Blocks.put_same _ _ _) rfl (by simp [Value.oneCell']) (by omega) (by unfold maxLen;omega) (by omega) (fun b hb=>.inl hb) HK3'.out (fun g32 c32 ob32 hr32 hg32=>?_)
        unfold Qk
        go_big_quiet_step (fail)
        refine wpQuiet_nil ?_
        have HN32:=Lib.hid (show g32∈Q7 (Value.slice none 0 0)∨x2.heap.size≤g32 from hg32.imp id (fun h=>h.1))
        clear hg32
        refine Qb 1 (by kernel_rfl) (by rfl) ?_
        apply Exists.intro
        refine ⟨fun z hz=>?_,?_⟩
        ·clear hz
         simp only [List.take_succ_cons,List.take_zero]
         unfold Cx
         repeat (go_big_quiet_step (fail))
         exact wpQuiet_nil rfl
        simp only [List.drop_succ_cons,List.drop_zero]
        refine Qf ?_
        intro x4 hx4 hH4
        have HR36:=Lib.hid (hr32.of_has hH4)
        have HX4:=Lib.hid hx4
        clear hr32 hH4 hx4 n31v q31 hkF3' HLT3 HK3' X0 X1
        have hsEq:s=clO (g++[(⟨ep,ec,xs,at'⟩:Ce)]):=funext fun v=>by rw [HSV.out v,Q1e,Q1i]
        have HE1:=Lib.hid (show ∀ b∈Q7 (Value.slice none 0 0),b≠g22∧b≠g24 from fun b hb=>by
         have a1:=HG47.out b hb
         have a2:=HB22.out
         refine ⟨by omega,fun e=>HN24.out.1.elim (fun h=>HG34.out b hb (e▸h)) (fun h=>by have:=Q9 HST.out;omega)⟩)
        have HE2:=Lib.hid (show g32≠g22∧g32≠g24 from HN32.out.elim (fun h=>HE1.out g32 h) (fun h=>by
         have a1:=HR25.out.lt g22 (by simp [Q7])
         have a2:=HR26.out.lt g24 (by simp [Q7])
         exact ⟨by omega,by omega⟩))
        have HSMF:=Lib.hid (show SpM w.heap.size x4 (.slice (some ⟨g24,0,none⟩) (0+1) c24) (.slice (some ⟨g32,0,none⟩) (0+1) c32) (K1++[((.slice (some ⟨g22,0,none⟩) (g.length+1) c22,g++[(⟨ep,ec,xs,at'⟩:Ce)]):Gp)]) [] [] [] from by
         have h:=HSM.out
         have hkl:K1.length=0:=HK1.out
         have hln:(K1++[((.slice (some ⟨g22,0,none⟩) (g.length+1) c22,g++[(⟨ep,ec,xs,at'⟩:Ce)]):Gp)]).length+([]:List Value).length+([]:List Gp).length=0+1:=by simp [hkl]
         have s7:=Q9 HST.out
         have hgw:w.heap.size≤g7:=HG7.out.2.2.2.2
         refine ⟨?_,?_,rfl,fun x hx=>?_,fun b hb=>?_,fun b hb=>?_,?_⟩
         ·rw [hln]
          have:=HR26.out.keep HX4.out (fun b hb hb2=>by
           obtain rfl:b=g24:=by simpa [Q7] using hb
           exact (HE1.out b hb2).2 rfl)
          simpa using this
         ·rw [hln,O8]
          have:=HR36.out
          rw [show Ju [((.slice (some ⟨g22,0,none⟩) (g.length+1) c22,g++[(⟨ep,ec,xs,at'⟩:Ce)]):Gp)]=[.int .u64 (loW s:Nat),.int .u64 (hiW s:Nat)] by rw [hsEq];rfl]
          simpa [Ju] using this
         ·rw [List.append_nil] at hx
          rcases List.mem_append.1 hx with hx | hx
          ·obtain ⟨a1,a2,a3⟩:=h.grp x (by simpa using hx)
           have hbl:=HBL.out x (by simpa using hx)
           refine ⟨(a1.keep HX2.out (fun b hb=>HU2.out b (hbl b hb) (fun h3=>(a3 b hb).2.1 (HSUB.out b h3)))).keep HX4.out (fun b hb h4=>(a3 b hb).2.2 (HSUB4.out b h4)),a2,fun b hb=>⟨(a3 b hb).1,fun h3=>?_,fun h4=>?_⟩⟩
           ·obtain rfl:b=g24:=by simpa [Q7] using h3
            exact HN24.out.1.elim (fun h5=>(a3 b hb).2.1 (HSUB.out b h5)) (fun h5=>by have:=hbl b hb;omega)
           ·obtain rfl:b=g32:=by simpa [Q7] using h4
            exact HN32.out.elim (fun h5=>(a3 b hb).2.2 (HSUB4.out b h5)) (fun h5=>by have:=hbl b hb;have:=HX2.out.size;omega)
          ·obtain rfl:x=((.slice (some ⟨g22,0,none⟩) (g.length+1) c22,g++[(⟨ep,ec,xs,at'⟩:Ce)]):Gp):=by simpa using hx
           refine ⟨HR25.out.keep HX4.out (fun b hb hb2=>?_),by simp,fun b hb=>?_⟩
           ·obtain rfl:b=g22:=by simpa [Q7] using hb
            exact (HE1.out b hb2).1 rfl
           ·obtain rfl:b=g22:=by simpa [Q7] using hb
            have:=HB22.out
            exact ⟨by omega,fun h3=>HN24.out.2 (Eq.symm (by simpa [Q7] using h3)),fun h4=>HE2.out.1 (Eq.symm (by simpa [Q7] using h4))⟩
         ·obtain rfl:b=g24:=by simpa [Q7] using hb
          refine ⟨HN24.out.1.elim (fun h3=>(h.fr3 b (HSUB.out b h3)).1) (fun h3=>by omega),fun h4=>HE2.out.2 (Eq.symm (by simpa [Q7] using h4))⟩
         ·obtain rfl:b=g32:=by simpa [Q7] using hb
          exact HN32.out.elim (fun h3=>h.fr4 b (HSUB4.out b h3)) (fun h3=>by have:=HX2.out.size;omega)
         ·rw [List.append_nil,List.pairwise_append]
          refine ⟨by have:=h.dis;rwa [List.append_nil] at this,by simp,fun x hx y hy b hb hb2=>?_⟩
          obtain rfl:y=((.slice (some ⟨g22,0,none⟩) (g.length+1) c22,g++[(⟨ep,ec,xs,at'⟩:Ce)]):Gp):=by simpa using hy
          obtain rfl:b=g22:=by simpa [Q7] using hb2
          have a1:=HBL.out x (by simpa using hx) b hb
          have a2:=HB22.out
          omega)
        have HSP2:=Lib.hid (show Sp (K1++[((.slice (some ⟨g22,0,none⟩) (g.length+1) c22,g++[(⟨ep,ec,xs,at'⟩:Ce)]):Gp)]) [] [] (L.take (i+1)) from by
         rw [HTT.out]
         exact HSP.out.done HNM.out (fun v=>by rw [HSV.out v,Q1i]))
        have HW9:=Lib.hid (show Below w.heap.size w x4 from by
         have s7:=HG7.out.2.2.2.2
         have b1:=HX2.out.below_of (b:=w.heap.size) (fun b hb=>by
          rcases List.mem_append.1 hb with hb | hb
          ·have:=HF10.out b hb;omega
          ·exact (HSM.out.fr3 b (HSUB.out b hb)).1) HW.out.size
         have b2:=HX4.out.below_of (b:=w.heap.size) (fun b hb=>HSM.out.fr4 b (HSUB4.out b hb)) (HW.out.trans b1).size
         exact (HW.out.trans b1).trans b2)
        have HKL:=Lib.hid (show (K1++[((.slice (some ⟨g22,0,none⟩) (g.length+1) c22,g++[(⟨ep,ec,xs,at'⟩:Ce)]):Gp)]).length≤i+1 from by
         have:=HK1.out
         rw [List.length_append];simp;omega)
        have HNN:=Lib.hid (show (K1++[((.slice (some ⟨g22,0,none⟩) (g.length+1) c22,g++[(⟨ep,ec,xs,at'⟩:Ce)]):Gp)])=[]→(Value.slice (some ⟨g24,0,none⟩) (0+1) c24) = .slice none 0 0∧(Value.slice (some ⟨g32,0,none⟩) (0+1) c32) = .slice none 0 0 from fun h=>by simp at h)
        clear hsEq HE1 HE2 HR25 HR26 HR36 HX2 HX4 HSM HV10 HST HST2 HC HW HV42 HN24 HN32 HB22 HU2 HSP HNM HSV HBL HV3 HV4
        go_wp2_with fail
        go_roundw
        case rel=>exact ⟨i+1,_,_,K1++[((.slice (some ⟨g22,0,none⟩) (g.length+1) c22,g++[(⟨ep,ec,xs,at'⟩:Ce)]):Gp)],rfl,rfl,by go_num,by omega,HKL.out,HNN.out,HSMF.out,HSP2.out,HW9.out⟩
        case measure=>simp [intOf];omega
       ·obtain ⟨g3,hp3,hrr⟩:=HSM.out.rows.inr (by have:=HJR.out;have:=HJ1.out;simp;omega)
        clear hrr
        obtain ⟨g4,hp4,hrr⟩:=HSM.out.sets.inr (by have:=HJR.out;have:=HJ1.out;simp;omega)
        clear hrr
        subst hp3 hp4
        have hjc:K1.length+J3.length+([]:List Gp).length=r:=by have:=HJR.out;have:=HJ1.out;simp;omega
        have hrw:=HSM.out.rows
        have hst:=HSM.out.sets
        rw [hjc] at hrw hst
        have HV3:=Lib.hid (hrw.cut (k:=kp) (by rw [List.length_map,HK1.out,Nat.mul_one]) hkr)
        have HV4:=Lib.hid (hst.cut (k:=kp) (by rw [V8,HK1.out]) hkr)
        have hc3:kp≤c3:=by obtain ⟨_,_,_,h,_⟩:=Q0q hrw;omega
        have hc4:kp≤c4:=by obtain ⟨_,_,_,h,_⟩:=Q0q hst;omega
        have HG37:=Lib.hid (show ∀ b∈Q7 (Value.slice (some ⟨g3,0,none⟩) kp c3),b<g7 from fun b hb=>HG7.out.1 b hb)
        have HG36:=Lib.hid (show ∀ b∈Q7 (Value.slice (some ⟨g3,0,none⟩) kp c3),b<g6 from fun b hb=>HG6.out.1 b hb)
        have HG47:=Lib.hid (show ∀ b∈Q7 (Value.slice (some ⟨g4,0,none⟩) kp c4),b<g7 from fun b hb=>HG7.out.2.1 b hb)
        have HG34:=Lib.hid (show ∀ b∈Q7 (Value.slice (some ⟨g4,0,none⟩) kp c4),b∉Q7 (Value.slice (some ⟨g3,0,none⟩) kp c3) from fun b hb hb2=>(HSM.out.fr3 b hb2).2 hb)
        have HSUB:=Lib.hid (show ∀ b∈Q7 (Value.slice (some ⟨g3,0,none⟩) kp c3),b∈Q7 (Value.slice (some ⟨g3,0,none⟩) r c3) from fun b hb=>hb)
        have HSUB4:=Lib.hid (show ∀ b∈Q7 (Value.slice (some ⟨g4,0,none⟩) kp c4),b∈Q7 (Value.slice (some ⟨g4,0,none⟩) r c4) from fun b hb=>hb)
        clear hrw hst hjc
        obtain ⟨kF1,hkF1⟩:∃ k,k=kA v10 g.length 1:=⟨_,rfl⟩
        have hkF1':kF1=2∨kF1=5:=by rw [hkF1];exact Q18 _ _ _
        obtain ⟨kF2,hkF2⟩:∃ k,k=kA (Value.slice (some ⟨g3,0,none⟩) kp c3) kp 1:=⟨_,rfl⟩
        have hkF2':kF2=2∨kF2=5:=by rw [hkF2];exact Q18 _ _ _
        have HK1':=Lib.hid hkF1
        have HK2':=Lib.hid hkF2
        clear hkF1 hkF2
        have HLT1:=Lib.hid HV10.out.lt
        have HLT2:=Lib.hid HV3.out.lt
        have X0:=Lib.hid (Q5 HC.out 0 rfl)
        have X1:=Lib.hid (Q5 HC.out 1 rfl)
        have HDJ:=Lib.hid (show ∀ b∈Q7 v10,b∉Q7 (Value.slice (some ⟨g3,0,none⟩) kp c3) from fun b hb hb2=>by have a1:=HF10.out b hb;have a2:=HG37.out b hb2;omega)
        go_upto_region 23 with fail
        refine Qo [0,0,0,0,0,3,kF1,3,kF2,0] (Q7 v10++Q7 (Value.slice (some ⟨g3,0,none⟩) kp c3)) (U7 w7 (Q7 v10++Q7 (Value.slice (some ⟨g3,0,none⟩) kp c3))) (Q1t _ _) (Q30 _ _) (by kernel_rfl) (by rcases hkF1' with h | h<;>rcases hkF2' with h' | h'<;>rw [h,h']<;>kernel_rfl) ?_
        refine Qb 5 (by kernel_rfl) (by rfl) ?_
        apply Exists.intro
        refine ⟨fun z hz=>?_,?_⟩
        ·have hg6n:g6∉Q7 v10++Q7 (Value.slice (some ⟨g3,0,none⟩) kp c3):=fun h=>by
          rcases List.mem_append.1 h with h | h
          ·have a1:=HF10.out g6 h;have a2:=HG7.out.2.2.2.1;omega
          ·have:=HG36.out g6 h;omega
         have f0:=Q6 hz X0.out hg6n
         have f1:=Q6 hz X1.out hg6n
         clear hz hg6n
         simp only [List.take_succ_cons,List.take_zero]
         unfold Cx
         repeat (go_big_quiet_step (fail))
         exact wpQuiet_nil rfl
        simp only [List.drop_succ_cons,List.drop_zero]
        refine Kw 1 (.cells #[.slice ep q ec,.int .i64 at'] 138) (by rfl) (fun x=>by go_simp) (fun g21 q21 hn21=>?_)
        unfold Qk
        go_big_quiet_step (fail)
        refine wpQuiet_nil ?_
        have n21v:g21∉Q7 v10:=fun h=>by have:=HLT1.out g21 h;omega
        have n21w:g21∉Q7 (Value.slice (some ⟨g3,0,none⟩) kp c3):=fun h=>by have:=HLT2.out g21 h;omega
        clear hn21
        refine Yu (.tmp 78) (.tmp 80) 98 138 i0 _ 2 32 Tryz.underlying98 II.out IZ0.out IZ1.out IZ2.out (by rfl) v10 g.length (Jj g) ((He HV10.out (fun b hb=>List.mem_append_left _ hb)).of_put n21v) (by rfl) g21 1 1 [.slice ep q ec,.int .i64 at'] 138 (by rfl) (Blocks.put_same _ _ _) rfl (by simp [Value.oneCell']) (by omega) (by unfold maxLen;omega) (by omega) (fun b hb=>.inl (List.mem_append_left _ hb)) HK1'.out (fun g22 c22 ob22 hr22 hg22=>?_)
        unfold Qk
        go_big_quiet_step (fail)
        refine wpQuiet_nil ?_
        have n22w:g22∉Q7 (Value.slice (some ⟨g3,0,none⟩) kp c3):=fun e=>hg22.elim (fun h=>HDJ.out g22 h e) (fun h=>by have:=HLT2.out g22 e;omega)
        have hn22:g22∈Q7 v10∨w7.heap.size≤g22:=hg22.imp id (fun h=>h.1)
        clear hg22
        refine Kw 1 (.cells #[.slice (some ⟨g22,0,none⟩) (g.length+1) c22] 98) (by rfl) (fun x=>by go_simp) (fun g23 q23 hn23=>?_)
        unfold Qk
        go_big_quiet_step (fail)
        refine wpQuiet_nil ?_
        have n23w:g23∉Q7 (Value.slice (some ⟨g3,0,none⟩) kp c3):=fun h=>by have:=HLT2.out g23 h;omega
        have n2322:g23≠g22:=O6 hn23
        clear hn23
        refine Yu (.tmp 77) (.tmp 82) 145 98 j0 _ 1 24 Tryz.underlying145 JI.out JZ0.out JZ1.out JZ2.out (by rfl) (Value.slice (some ⟨g3,0,none⟩) kp c3) kp (K1.map (·.1)) ((((He HV3.out (fun b hb=>List.mem_append_right _ hb)).of_put n21w).of_put n22w).of_put n23w) (by rfl) g23 1 1 [.slice (some ⟨g22,0,none⟩) (g.length+1) c22] 98 (by rfl) (Blocks.put_same _ _ _) rfl (by simp [Value.oneCell']) (by omega) (by unfold maxLen;omega) (by omega) (fun b hb=>.inl (List.mem_append_right _ hb)) HK2'.out (fun g24 c24 ob24 hr24 hg24=>?_)
        unfold Qk
        go_big_quiet_step (fail)
        refine wpQuiet_nil ?_
        have n2422:g24≠g22:=hg24.elim (fun h e=>n22w (e▸h)) (fun h=>O6 (Q0w h.2))
        have hn24:g24∈Q7 (Value.slice (some ⟨g3,0,none⟩) kp c3)∨w7.heap.size≤g24:=hg24.imp id (fun h=>h.1)
        clear hg24
        refine Qb 1 (by kernel_rfl) (by rfl) ?_
        apply Exists.intro
        refine ⟨fun z hz=>?_,?_⟩
        ·clear hz
         simp only [List.take_succ_cons,List.take_zero]
         unfold Cx
         repeat (go_big_quiet_step (fail))
         exact wpQuiet_nil rfl
        simp only [List.drop_succ_cons,List.drop_zero]
        refine Qf ?_
        intro x2 hx2 hH2
        have hr25:=((hr22.of_put (b:=g23) (ob:=.cells #[.slice (some ⟨g22,0,none⟩) (g.length+1) c22] 98 (0,0)) (fun h=>n2322 (by simpa [Q7] using h))).of_put (b:=g24) (ob:=ob24) (fun h=>n2422 (by simpa [Q7] using h))).of_has hH2
        have hr26:=hr24.of_has hH2
        have HR25:=Lib.hid (show RowV (inW x2) 138 2 (.slice (some ⟨g22,0,none⟩) (g.length+1) c22) (g++[(⟨ep,ec,xs,at'⟩:Ce)]).length (Jj (g++[(⟨ep,ec,xs,at'⟩:Ce)])) from by
         rw [Yo,List.length_append]
         have e:Jj [(⟨ep,ec,xs,at'⟩:Ce)]=[.slice ep q ec,.int .i64 at']:=by rw [HQ.out];rfl
         rw [e];exact hr25)
        have HR26:=Lib.hid hr26
        have HX2:=Lib.hid hx2
        have HU2:=Lib.hid (show ∀ b,b<g7→b∉Q7 (Value.slice (some ⟨g3,0,none⟩) kp c3)→b∉Q7 v10++Q7 (Value.slice (some ⟨g3,0,none⟩) kp c3) from fun b h1 h2 h=>by
         rcases List.mem_append.1 h with h | h
         ·have:=HF10.out b h;omega
         ·exact h2 h)
        have HB22:=Lib.hid (show g7<g22 from hn22.elim (HF10.out g22) (fun h=>by have:=Q9 HST.out;omega))
        have HN24:=Lib.hid (And.intro hn24 n2422)
        have HST2:=Lib.hid (show SetAt x2 g7 s from hx2.keep HST.out (fun h=>by
         rcases List.mem_append.1 h with h | h
         ·have:=HF10.out g7 h;omega
         ·have:=HG37.out g7 h;omega))
        have HV42:=Lib.hid (HV4.out.keep hx2 (fun b hb=>HU2.out b (HG47.out b hb) (HG34.out b hb)))
        clear hr22 hr24 hr25 hr26 hx2 hH2 n21v n21w n22w n23w n2322 n2422 hn22 hn24 q21 q23 hkF1' hkF2' HLT1 HLT2 HK1' HK2' X0 X1 HDJ
        obtain ⟨kF3,hkF3⟩:∃ k,k=kA (Value.slice (some ⟨g4,0,none⟩) kp c4) kp 1:=⟨_,rfl⟩
        have hkF3':kF3=2∨kF3=5:=by rw [hkF3];exact Q18 _ _ _
        have HK3':=Lib.hid hkF3
        clear hkF3
        have HLT3:=Lib.hid HV42.out.lt
        have X0:=Lib.hid (Q5 HST2.out 0 rfl)
        have X1:=Lib.hid (Q5 HST2.out 1 rfl)
        go_upto_region 24 with fail
        refine Qo [0,0,0,0,3,kF3,0] (Q7 (Value.slice (some ⟨g4,0,none⟩) kp c4)) (Q3l x2 (Value.slice (some ⟨g4,0,none⟩) kp c4)) (Ai _ _) (Ap _ _) (by kernel_rfl) (by rcases hkF3' with h | h<;>rw [h]<;>kernel_rfl) ?_
        refine Qb 4 (by kernel_rfl) (by rfl) ?_
        apply Exists.intro
        refine ⟨fun z hz=>?_,?_⟩
        ·have hg7n:g7∉Q7 (Value.slice (some ⟨g4,0,none⟩) kp c4):=fun h=>by have:=HG47.out g7 h;omega
         have f0:=Q6 hz X0.out hg7n
         have f1:=Q6 hz X1.out hg7n
         clear hz hg7n
         simp only [List.take_succ_cons,List.take_zero]
         unfold Cx
         repeat (go_big_quiet_step (fail))
         exact wpQuiet_nil rfl
        simp only [List.drop_succ_cons,List.drop_zero]
        refine Kw 1 (.cells #[.int .u64 (loW s:Nat),.int .u64 (hiW s:Nat)] 55) (by rfl) (fun x=>by go_simp) (fun g31 q31 hn31=>?_)
        unfold Qk
        go_big_quiet_step (fail)
        refine wpQuiet_nil ?_
        have n31v:g31∉Q7 (Value.slice (some ⟨g4,0,none⟩) kp c4):=fun h=>by have:=HLT3.out g31 h;omega
        clear hn31
        refine Yu (.tmp 86) (.tmp 88) 29 55 k0 _ 2 16 Tryz.underlying29 KI.out KZ0.out KZ1.out KZ2.out (by rfl) (Value.slice (some ⟨g4,0,none⟩) kp c4) kp (Ju K1) ((Uh HV42.out).of_put n31v) (by rfl) g31 1 1 [.int .u64 (loW s:Nat),.int .u64 (hiW s:Nat)] 55 (by rfl) (Blocks.put_same _ _ _) rfl (by simp [Value.oneCell']) (by omega) (by unfold maxLen;omega) (by omega) (fun b hb=>.inl hb) HK3'.out (fun g32 c32 ob32 hr32 hg32=>?_)
        unfold Qk
        go_big_quiet_step (fail)
        refine wpQuiet_nil ?_
        have HN32:=Lib.hid (show g32∈Q7 (Value.slice (some ⟨g4,0,none⟩) kp c4)∨x2.heap.size≤g32 from hg32.imp id (fun h=>h.1))
        clear hg32
        refine Qb 1 (by kernel_rfl) (by rfl) ?_
        apply Exists.intro
        refine ⟨fun z hz=>?_,?_⟩
        ·clear hz
         simp only [List.take_succ_cons,List.take_zero]
         unfold Cx
         repeat (go_big_quiet_step (fail))
         exact wpQuiet_nil rfl
        simp only [List.drop_succ_cons,List.drop_zero]
        refine Qf ?_
        intro x4 hx4 hH4
        have HR36:=Lib.hid (hr32.of_has hH4)
        have HX4:=Lib.hid hx4
        clear hr32 hH4 hx4 n31v q31 hkF3' HLT3 HK3' X0 X1
        have hsEq:s=clO (g++[(⟨ep,ec,xs,at'⟩:Ce)]):=funext fun v=>by rw [HSV.out v,Q1e,Q1i]
        have HE1:=Lib.hid (show ∀ b∈Q7 (Value.slice (some ⟨g4,0,none⟩) kp c4),b≠g22∧b≠g24 from fun b hb=>by
         have a1:=HG47.out b hb
         have a2:=HB22.out
         refine ⟨by omega,fun e=>HN24.out.1.elim (fun h=>HG34.out b hb (e▸h)) (fun h=>by have:=Q9 HST.out;omega)⟩)
        have HE2:=Lib.hid (show g32≠g22∧g32≠g24 from HN32.out.elim (fun h=>HE1.out g32 h) (fun h=>by
         have a1:=HR25.out.lt g22 (by simp [Q7])
         have a2:=HR26.out.lt g24 (by simp [Q7])
         exact ⟨by omega,by omega⟩))
        have HSMF:=Lib.hid (show SpM w.heap.size x4 (.slice (some ⟨g24,0,none⟩) (kp+1) c24) (.slice (some ⟨g32,0,none⟩) (kp+1) c32) (K1++[((.slice (some ⟨g22,0,none⟩) (g.length+1) c22,g++[(⟨ep,ec,xs,at'⟩:Ce)]):Gp)]) [] [] [] from by
         have h:=HSM.out
         have hkl:K1.length=kp:=HK1.out
         have hln:(K1++[((.slice (some ⟨g22,0,none⟩) (g.length+1) c22,g++[(⟨ep,ec,xs,at'⟩:Ce)]):Gp)]).length+([]:List Value).length+([]:List Gp).length=kp+1:=by simp [hkl]
         have s7:=Q9 HST.out
         have hgw:w.heap.size≤g7:=HG7.out.2.2.2.2
         refine ⟨?_,?_,rfl,fun x hx=>?_,fun b hb=>?_,fun b hb=>?_,?_⟩
         ·rw [hln]
          have:=HR26.out.keep HX4.out (fun b hb hb2=>by
           obtain rfl:b=g24:=by simpa [Q7] using hb
           exact (HE1.out b hb2).2 rfl)
          simpa using this
         ·rw [hln,O8]
          have:=HR36.out
          rw [show Ju [((.slice (some ⟨g22,0,none⟩) (g.length+1) c22,g++[(⟨ep,ec,xs,at'⟩:Ce)]):Gp)]=[.int .u64 (loW s:Nat),.int .u64 (hiW s:Nat)] by rw [hsEq];rfl]
          simpa [Ju] using this
         ·rw [List.append_nil] at hx
          rcases List.mem_append.1 hx with hx | hx
          ·obtain ⟨a1,a2,a3⟩:=h.grp x (by simpa using hx)
           have hbl:=HBL.out x (by simpa using hx)
           refine ⟨(a1.keep HX2.out (fun b hb=>HU2.out b (hbl b hb) (fun h3=>(a3 b hb).2.1 (HSUB.out b h3)))).keep HX4.out (fun b hb h4=>(a3 b hb).2.2 (HSUB4.out b h4)),a2,fun b hb=>⟨(a3 b hb).1,fun h3=>?_,fun h4=>?_⟩⟩
           ·obtain rfl:b=g24:=by simpa [Q7] using h3
            exact HN24.out.1.elim (fun h5=>(a3 b hb).2.1 (HSUB.out b h5)) (fun h5=>by have:=hbl b hb;omega)
           ·obtain rfl:b=g32:=by simpa [Q7] using h4
            exact HN32.out.elim (fun h5=>(a3 b hb).2.2 (HSUB4.out b h5)) (fun h5=>by have:=hbl b hb;have:=HX2.out.size;omega)
          ·obtain rfl:x=((.slice (some ⟨g22,0,none⟩) (g.length+1) c22,g++[(⟨ep,ec,xs,at'⟩:Ce)]):Gp):=by simpa using hx
           refine ⟨HR25.out.keep HX4.out (fun b hb hb2=>?_),by simp,fun b hb=>?_⟩
           ·obtain rfl:b=g22:=by simpa [Q7] using hb
            exact (HE1.out b hb2).1 rfl
           ·obtain rfl:b=g22:=by simpa [Q7] using hb
            have:=HB22.out
            exact ⟨by omega,fun h3=>HN24.out.2 (Eq.symm (by simpa [Q7] using h3)),fun h4=>HE2.out.1 (Eq.symm (by simpa [Q7] using h4))⟩
         ·obtain rfl:b=g24:=by simpa [Q7] using hb
          refine ⟨HN24.out.1.elim (fun h3=>(h.fr3 b (HSUB.out b h3)).1) (fun h3=>by omega),fun h4=>HE2.out.2 (Eq.symm (by simpa [Q7] using h4))⟩
         ·obtain rfl:b=g32:=by simpa [Q7] using hb
          exact HN32.out.elim (fun h3=>h.fr4 b (HSUB4.out b h3)) (fun h3=>by have:=HX2.out.size;omega)
         ·rw [List.append_nil,List.pairwise_append]
          refine ⟨by have:=h.dis;rwa [List.append_nil] at this,by simp,fun x hx y hy b hb hb2=>?_⟩
          obtain rfl:y=((.slice (some ⟨g22,0,none⟩) (g.length+1) c22,g++[(⟨ep,ec,xs,at'⟩:Ce)]):Gp):=by simpa using hy
          obtain rfl:b=g22:=by simpa [Q7] using hb2
          have a1:=HBL.out x (by simpa using hx) b hb
          have a2:=HB22.out
          omega)
        have HSP2:=Lib.hid (show Sp (K1++[((.slice (some ⟨g22,0,none⟩) (g.length+1) c22,g++[(⟨ep,ec,xs,at'⟩:Ce)]):Gp)]) [] [] (L.take (i+1)) from by
         rw [HTT.out]
         exact HSP.out.done HNM.out (fun v=>by rw [HSV.out v,Q1i]))
        have HW9:=Lib.hid (show Below w.heap.size w x4 from by
         have s7:=HG7.out.2.2.2.2
         have b1:=HX2.out.below_of (b:=w.heap.size) (fun b hb=>by
          rcases List.mem_append.1 hb with hb | hb
          ·have:=HF10.out b hb;omega
          ·exact (HSM.out.fr3 b (HSUB.out b hb)).1) HW.out.size
         have b2:=HX4.out.below_of (b:=w.heap.size) (fun b hb=>HSM.out.fr4 b (HSUB4.out b hb)) (HW.out.trans b1).size
         exact (HW.out.trans b1).trans b2)
        have HKL:=Lib.hid (show (K1++[((.slice (some ⟨g22,0,none⟩) (g.length+1) c22,g++[(⟨ep,ec,xs,at'⟩:Ce)]):Gp)]).length≤i+1 from by
         have:=HK1.out
         rw [List.length_append];simp;omega)
        have HNN:=Lib.hid (show (K1++[((.slice (some ⟨g22,0,none⟩) (g.length+1) c22,g++[(⟨ep,ec,xs,at'⟩:Ce)]):Gp)])=[]→(Value.slice (some ⟨g24,0,none⟩) (kp+1) c24) = .slice none 0 0∧(Value.slice (some ⟨g32,0,none⟩) (kp+1) c32) = .slice none 0 0 from fun h=>by simp at h)
        clear hsEq HE1 HE2 HR25 HR26 HR36 HX2 HX4 HSM HV10 HST HST2 HC HW HV42 HN24 HN32 HB22 HU2 HSP HNM HSV HBL HV3 HV4
        go_wp2_with fail
        go_roundw
        case rel=>exact ⟨i+1,_,_,K1++[((.slice (some ⟨g22,0,none⟩) (g.length+1) c22,g++[(⟨ep,ec,xs,at'⟩:Ce)]):Gp)],rfl,rfl,by go_num,by omega,HKL.out,HNN.out,HSMF.out,HSP2.out,HW9.out⟩
        case measure=>simp [intOf];omega
      | cons x D1 =>
       have hlt2:j<r:=by have:=HD1.out;simp at this;omega
       have hd3:decide (j<r)=true:=decide_eq_true hlt2
       have hd4:decide ((j:Int)<(r:Int))=true:=decide_eq_true (by omega)
       obtain ⟨g3,hp3,hrr⟩:=HSM.out.rows.inr (by simp;omega)
       clear hrr
       obtain ⟨g4,hp4,hrr⟩:=HSM.out.sets.inr (by simp;omega)
       clear hrr
       subst hp3 hp4
       obtain ⟨vx,lx⟩:=x
       have hgx:=HSM.out.grp (vx,lx) (by simp)
       dsimp only at hgx
       obtain ⟨gx,cx,hvx⟩:∃ g c,vx = .slice (some ⟨g,0,none⟩) lx.length c:=by
        rcases hgx.1.two with ⟨_,h0,_⟩ | h
        ·exact (hgx.2.1 (List.length_eq_zero_iff.1 h0)).elim
        ·exact h
       subst hvx
       have HGXR:=Lib.hid hgx.1
       have HGXN:=Lib.hid hgx.2.1
       clear hgx
       have hrw:=HSM.out.rows
       have hst:=HSM.out.sets
       rw [show K1.length+J3.length+(((.slice (some ⟨gx,0,none⟩) lx.length cx,lx):Gp)::D1).length=r by have h1:=HJ1.out;have h2:=HD1.out;simp at *;omega] at hrw hst
       have X3:=Lib.hid (hrw.cell (k:=j) (x:=.slice (some ⟨gx,0,none⟩) lx.length cx) (by
        have h1:=HJ1.out
        rw [List.getElem?_append_right (by simp;omega),List.getElem?_append_right (by simp;omega),List.length_map,show j-K1.length-J3.length=0 by omega];rfl))
       have hsl:(Ju K1).length=K1.length*2:=V8 K1
       have X4:=Lib.hid (hst.cell (k:=j*2) (x:=.int .u64 (loW (clO lx):Nat)) (by
        have h1:=HJ1.out
        have h2:=HSM.out.j4
        rw [List.getElem?_append_right (by omega),List.getElem?_append_right (by omega),show j*2-(Ju K1).length-J4.length=0 by omega];rfl))
       have X5:=Lib.hid (hst.cell (k:=j*2+1) (x:=.int .u64 (hiW (clO lx):Nat)) (by
        have h1:=HJ1.out
        have h2:=HSM.out.j4
        rw [List.getElem?_append_right (by omega),List.getElem?_append_right (by omega),show j*2+1-(Ju K1).length-J4.length=1 by omega];rfl))
       have X0:=Lib.hid (Q5 HST.out 0 rfl)
       have X1:=Lib.hid (Q5 HST.out 1 rfl)
       have KC:=gCut (clO lx) s
       have hes:=fun w=>Q26 (fun v=>clO lx v&&s v) w
       obtain ⟨bq,hbq⟩:∃ b,b=eqO (fun v=>clO lx v&&s v) Yr:=⟨_,rfl⟩
       rw [←hbq] at hes
       have HBQ:=Lib.hid hbq
       unfold Qt Jz at KC hes
       have HKC:=Lib.hid KC
       clear hbq KC hsl hrw hst
       go_upto_region 17 with fail
       refine Qo [0,0,0,0,0,0,0,0] [] B0 Qu (Qi _) (by kernel_rfl) (by kernel_rfl) ?_
       refine Qb 8 (by kernel_rfl) (by rfl) ?_
       apply Exists.intro
       refine ⟨fun z hz=>?_,?_⟩
       ·have f0:=Q6 hz X0.out (by simp)
        have f1:=Q6 hz X1.out (by simp)
        have f4:=Q6 hz X4.out (by simp)
        have f5:=Q6 hz X5.out (by simp)
        clear hz
        simp only [List.take_succ_cons,List.take_zero]
        unfold Cx
        repeat (go_big_quiet_step (with_reducible exact HKC.out.at _ _))
        exact wpQuiet_nil rfl
       simp only [List.drop_succ_cons,List.drop_zero]
       refine Qf ?_
       intro w8 hx8 _
       have hb8:Below w7.heap.size w7 w8:=hx8.below_of (by simp) (Nat.le_refl _)
       have HSM8:=Lib.hid (HSM.out.below hb8)
       have HV8:=Lib.hid (HV10.out.keep (Q4 hb8) (by simp))
       have HST8:=Lib.hid (show SetAt w8 g7 s from (Q4 hb8).keep HST.out (by simp))
       have HC8:=Lib.hid ((Q4 hb8).keep HC.out (by simp))
       have HW8:=Lib.hid (HW.out.trans (hb8.mono HW.out.size))
       have HX3:=Lib.hid (Jn hx8 X3.out (by simp))
       have HX4:=Lib.hid (Jn hx8 X4.out (by simp))
       have HX5:=Lib.hid (Jn hx8 X5.out (by simp))
       have HGX8:=Lib.hid (HGXR.out.keep (Q4 hb8) (by simp))
       clear hx8 hb8 HSM HV10 HST HC HW X0 X1 X3 X4 X5 hes HKC HGXR
       cases bq with
       | false =>
        have hlx:0<lx.length:=List.length_pos_iff.2 HGXN.out
        have HSP2:=Lib.hid HSP.out.take
        have hgl:g.length+lx.length≤i:=by
         have h1:=HSP2.out.cnt
         have h2:(L.take i).length≤i:=by simp;omega
         simp at h1 h2;omega
        have hc3b:=HX3.out
        go_wp2_with (at_builtin;refine Jw _ rfl _ _ 98 rfl 138 i0 (.agg #[.slice none 0 0,.int .i64 0]) 2 32 Tryz.underlying98 II.out IZ0.out IZ1.out IZ2.out rfl _ _ _ rfl HV8.out gx lx.length cx (Jj lx) rfl (fun j u hj=>HGX8.out.cell hj) (Yw lx) (cesV_one lx) hlx (by unfold maxLen;omega) (by omega) ?_)
        intro v11 w9 hr9 hB9 hn9
        clear hc3b
        have HN9:=Lib.hid (show ∀ b∈Q7 v11,g7<b from fun b hb=>(hn9 b hb).elim (HF10.out b) (fun h=>by have:=Q9 HST8.out;omega))
        have hr9':RowV (inW w9) 138 2 v11 (g++lx).length (Jj (g++lx)):=by rw [Yo,List.length_append];exact hr9
        have HSM9:=Lib.hid (HSM8.out.keep hB9 (fun b hb=>⟨fun h=>by have:=HF10.out b hb;have:=HG7.out.1 b h;omega,fun h=>by have:=HF10.out b hb;have:=HG7.out.2.1 b h;omega⟩) (fun y hy b hb hu=>by have:=HF10.out b hu;have:=HBL.out y hy b hb;omega))
        have HST9:=Lib.hid (show SetAt w9 g7 s from hB9.keep HST8.out (fun h=>by have:=HF10.out g7 h;omega))
        have HC9:=Lib.hid (hB9.keep HC8.out (fun h=>by have:=HF10.out g6 h;have:=HG7.out.2.2.2.1;omega))
        have HW9:=Lib.hid (HW8.out.trans (hB9.below_of (b:=w.heap.size) (fun b hb=>by have:=HF10.out b hb;have:=HG7.out.2.2.2.2;omega) HW8.out.size))
        have HX4b:=Lib.hid (Jn hB9 HX4.out (fun h=>by have:=HF10.out g4 h;have:=HG7.out.2.1 g4 (by simp [Q7]);omega))
        have HX5b:=Lib.hid (Jn hB9 HX5.out (fun h=>by have:=HF10.out g4 h;have:=HG7.out.2.1 g4 (by simp [Q7]);omega))
        have HV9:=Lib.hid hr9'
        clear hr9 hr9' hB9 hn9 HSM8 HV8 HST8 HC8 HW8 HX3 HX4 HX5 HGX8
        have KU:=Q9l s (clO lx)
        unfold Qt Jz at KU
        have HKU:=Lib.hid KU
        have X0:=Lib.hid (Q5 HST9.out 0 rfl)
        have X1:=Lib.hid (Q5 HST9.out 1 rfl)
        clear KU
        go_upto_region 19 with fail
        refine Zi 6 [0,0,0,0,0,0,0] [] B0 Qu (Qi _) (by kernel_rfl) (by kernel_rfl) ?_
        simp only [List.take_succ_cons,List.take_zero]
        refine Qb 6 (by kernel_rfl) (by rfl) ?_
        apply Exists.intro
        refine ⟨fun z hz=>?_,?_⟩
        ·have f0:=Q6 hz X0.out (by simp)
         have f1:=Q6 hz X1.out (by simp)
         have f4:=Q6 hz HX4b.out (by simp)
         have f5:=Q6 hz HX5b.out (by simp)
         clear hz
         simp only [List.take_succ_cons,List.take_zero]
         unfold Cx
         repeat (go_big_quiet_step (with_reducible exact HKU.out.at _ _))
         exact wpQuiet_nil rfl
        simp only [List.drop_succ_cons,List.drop_zero]
        refine Qf ?_
        intro x6 hx6 _
        have hb6:Below w9.heap.size w9 x6:=hx6.below_of (by simp) (Nat.le_refl _)
        have hst6:SetAt x6 g7 s:=(Q4 hb6).keep HST9.out (by simp)
        have hc6:x6.heap[g6]?=_:=(Q4 hb6).keep HC9.out (by simp)
        have hsm6:=HSM9.out.below hb6
        have hv6:=HV9.out.keep (Q4 hb6) (by simp)
        have hw6:=HW9.out.trans (hb6.mono HW9.out.size)
        have z0:=Q5 hst6 0 rfl
        have z1:=Q5 hst6 1 rfl
        have f0:=Qd hst6 0
        have f1:=Qd hst6 1
        have hbe:=Wv x6 g7 (.int .u64 (loW (fun v=>s v||clO lx v):Nat)) (.int .u64 (hiW (fun v=>s v||clO lx v):Nat))
        have HST7:=Lib.hid (show SetAt ((x6.setCell ⟨g7,0,none⟩ (.int .u64 (loW (fun v=>s v||clO lx v):Nat))).setCell ⟨g7,1,none⟩ (.int .u64 (hiW (fun v=>s v||clO lx v):Nat))) g7 (fun v=>s v||clO lx v) from Zg hst6)
        have HC7:=Lib.hid (hbe.keep hc6 (by have:=HG7.out.2.2.2.1;simp;omega))
        have HSM7:=Lib.hid (hsm6.keep hbe (fun b hb=>by
         obtain rfl:b=g7:=by simpa using hb
         exact ⟨fun h=>by have:=HG7.out.1 b h;omega,fun h=>by have:=HG7.out.2.1 b h;omega⟩) (fun y hy b hb hu=>by
         obtain rfl:b=g7:=by simpa using hu
         have:=HBL.out y hy b hb;omega))
        have HV7:=Lib.hid (hv6.keep hbe (fun b hb hu=>by
         obtain rfl:b=g7:=by simpa using hu
         have:=HN9.out b hb;omega))
        have HW7:=Lib.hid (hw6.trans (hbe.below_of (b:=w.heap.size) (by have:=HG7.out.2.2.2.2;simp;omega) hw6.size))
        have HSMF:=Lib.hid (show SpM w.heap.size ((x6.setCell ⟨g7,0,none⟩ (.int .u64 (loW (fun v=>s v||clO lx v):Nat))).setCell ⟨g7,1,none⟩ (.int .u64 (hiW (fun v=>s v||clO lx v):Nat))) (.slice (some ⟨g3,0,none⟩) r c3) (.slice (some ⟨g4,0,none⟩) r c4) K1 (J3++[.slice (some ⟨gx,0,none⟩) lx.length cx]) (J4++Q0f (clO lx)) D1 from by
         have h:=HSM7.out
         refine ⟨?_,?_,?_,fun y hy=>h.grp y (by rcases List.mem_append.1 hy with hy | hy<;>simp [hy]),h.fr3,h.fr4,h.dis.sublist ((List.Sublist.refl K1).append (List.sublist_cons_self _ _))⟩
         ·have:=h.rows
          rw [show K1.length+(J3++[Value.slice (some ⟨gx,0,none⟩) lx.length cx]).length+D1.length=K1.length+J3.length+(((.slice (some ⟨gx,0,none⟩) lx.length cx,lx):Gp)::D1).length by simp;omega]
          simpa using this
         ·have:=h.sets
          rw [show K1.length+(J3++[Value.slice (some ⟨gx,0,none⟩) lx.length cx]).length+D1.length=K1.length+J3.length+(((.slice (some ⟨gx,0,none⟩) lx.length cx,lx):Gp)::D1).length by simp;omega]
          simpa [Ju] using this
         ·have:=h.j4
          simp [Q0f];omega)
        have HNM2:=Lib.hid (HNM.out.take HSP.out)
        have HSV2:=Lib.hid (show ∀ v,(s v||clO lx v)=(clO (g++lx) v||Hp xs v) from fun v=>by
         rw [HSV.out v,Q1e]
         cases clO g v<;>cases Hp xs v<;>cases clO lx v<;>rfl)
        have HBL2:=Lib.hid (show ∀ x∈K1++D1,∀ b∈Q7 x.1,b<g7 from fun y hy=>HBL.out y (by rcases List.mem_append.1 hy with hy | hy<;>simp [hy]))
        have HJ2:=Lib.hid (show K1.length+(J3++[Value.slice (some ⟨gx,0,none⟩) lx.length cx]).length=j+1 by have:=HJ1.out;simp;omega)
        have HD2:=Lib.hid (show j+1+D1.length=r by have:=HD1.out;simp at this;omega)
        have hgl2:(g++lx).length≤i:=by rw [List.length_append];exact hgl
        clear hx6 hb6 hst6 hc6 hsm6 hv6 hw6 hbe HSM7 HX4b HX5b X0 X1 HKU HST9 HC9 HSM9 HV9 HW9 hgl hlx
        go_wp2_with fail
        go_roundw
        case rel=>exact ⟨j+1,kp,v11,K1,D1,J3++[Value.slice (some ⟨gx,0,none⟩) lx.length cx],J4++Q0f (clO lx),g++lx,fun v=>s v||clO lx v,rfl,rfl,by go_num,by omega,by omega,HK1.out,HD2.out,HJ2.out,HSMF.out,HV7.out,HN9.out,hgl2,HST7.out,HC7.out,HSP2.out,HNM2.out,HSV2.out,HBL2.out,HW7.out⟩
        case measure=>simp [intOf];omega
       | true =>
        have hjc:K1.length+J3.length+(((.slice (some ⟨gx,0,none⟩) lx.length cx,lx):Gp)::D1).length=r:=by have h1:=HJ1.out;have h2:=HD1.out;simp at *;omega
        have hrw:=HSM8.out.rows
        have hst:=HSM8.out.sets
        rw [hjc] at hrw hst
        obtain ⟨t3,hb3,hl3,hn3,hm3,_⟩:=Q0q hrw
        obtain ⟨t4,hb4,hl4,hn4,hm4,_⟩:=Q0q hst
        obtain ⟨u,J3n,hu⟩:=List.exists_cons_of_ne_nil (show J3++[Value.slice (some ⟨gx,0,none⟩) lx.length cx]≠[] by simp)
        have hJ3n:J3n.length=J3.length:=by have:=congrArg List.length hu;simp at this;omega
        obtain ⟨a1,J4a,hu4⟩:=List.exists_cons_of_ne_nil (show J4++Q0f (clO lx)≠[] by simp [Q0f])
        obtain ⟨a2,J4n,hu5⟩:=List.exists_cons_of_ne_nil (show J4a≠[] by
         intro h
         have:=congrArg List.length hu4
         rw [h] at this
         simp [Q0f] at this)
        subst hu5
        have hJ4n:J4n.length=J4.length:=by have:=congrArg List.length hu4;simp [Q0f] at this;omega
        have hsl:(Ju K1).length=K1.length*2:=V8 K1
        have e3:K1.map (·.1)++(J3++(((.slice (some ⟨gx,0,none⟩) lx.length cx,lx):Gp)::D1).map (·.1))++t3=K1.map (·.1)++[u]++(J3n++D1.map (·.1)++t3):=by
         have h:=congrArg (fun l=>K1.map (·.1)++l++(D1.map (·.1)++t3)) hu
         simpa using h
        have e4:Ju K1++(J4++Ju (((.slice (some ⟨gx,0,none⟩) lx.length cx,lx):Gp)::D1))++t4=Ju K1++[a1,a2]++(J4n++Ju D1++t4):=by
         have h:=congrArg (fun l=>Ju K1++l++(Ju D1++t4)) hu4
         simpa [Ju] using h
        rw [e3] at hb3 hl3
        rw [e4] at hb4 hl4
        have HB3:=Lib.hid hb3
        have HB4:=Lib.hid hb4
        have HL3:=Lib.hid hl3
        have HL4:=Lib.hid hl4
        have HJ3N:=Lib.hid hJ3n
        have HJ4N:=Lib.hid hJ4n
        have hg34:g3≠g4:=fun e=>(HSM8.out.fr3 g3 (by simp [Q7])).2 (by simp [Q7,e])
        have HG34:=Lib.hid hg34
        have HMC:=Lib.hid (And.intro hm3 hm4)
        have hkr:kp<r:=by omega
        have HSL:=Lib.hid hsl
        clear hrw hst hb3 hb4 hl3 hl4 hJ3n hJ4n hsl e3 e4 hu hu4 hg34 hm3 hm4 hjc
        go_upto_region 20 with fail
        refine Qo [0,0,0,0,0,0,0,1,0,0,0,1,0,2,0,2] [g3,g4] ((B0.put g3 (.cells (K1.map (·.1)++[u]++(J3n++D1.map (·.1)++t3)).toArray 98 (0,0))).put g4 (.cells (Ju K1++[a1,a2]++(J4n++Ju D1++t4)).toArray 55 (0,0))) (Fin.put (Fin.put Qu _ _) _ _) (Qr (Qr (Qi _) HB3.out) HB4.out) (by kernel_rfl) (by kernel_rfl) ?_
        refine Qb 7 (by kernel_rfl) (by rfl) ?_
        apply Exists.intro
        refine ⟨fun z hz=>?_,?_⟩
        ·clear hz
         simp only [List.take_succ_cons,List.take_zero]
         unfold Cx
         repeat (go_big_quiet_step (fail))
         exact wpQuiet_nil rfl
        simp only [List.drop_succ_cons,List.drop_zero]
        refine Jq 1 w8 (Behind.refl _ _) (Qr (Qr (Qi _) HB3.out) HB4.out) (by kernel_rfl) (by rfl) ?_
        apply Exists.intro
        refine ⟨fun z hz hzB=>?_,?_⟩
        ·have hz3:=hzB g3 _ ((Blocks.put_other _ _ HG34.out).trans (Blocks.put_same _ _ _))
         have f0:=H8 (hz3.trans HB3.out.symm) HX3.out
         clear hz hzB hz3
         simp only [List.take_succ_cons,List.take_zero]
         unfold Cx
         repeat (go_big_quiet_step (fail))
         exact wpQuiet_nil rfl
        simp only [List.drop_succ_cons,List.drop_zero]
        refine Qb 3 (by kernel_rfl) (by rfl) ?_
        apply Exists.intro
        refine ⟨fun z hz=>?_,?_⟩
        ·clear hz
         simp only [List.take_succ_cons,List.take_zero]
         unfold Cx
         repeat (go_big_quiet_step (fail))
         exact wpQuiet_nil rfl
        simp only [List.drop_succ_cons,List.drop_zero]
        refine Jq 1 w8 (Behind.refl _ _) (Qr (Qr (Qi _) HB3.out) HB4.out) (by kernel_rfl) (by rfl) ?_
        apply Exists.intro
        refine ⟨fun z hz hzB=>?_,?_⟩
        ·have hz4:=hzB g4 _ (Blocks.put_same _ _ _)
         have f0:=H8 (hz4.trans HB4.out.symm) HX4.out
         have f1:=H8 (hz4.trans HB4.out.symm) HX5.out
         clear hz hzB hz4
         simp only [List.take_succ_cons,List.take_zero]
         unfold Cx
         repeat (go_big_quiet_step (fail))
         exact wpQuiet_nil rfl
        simp only [List.drop_succ_cons,List.drop_zero]
        refine Qb 1 (by kernel_rfl) (by rfl) ?_
        apply Exists.intro
        refine ⟨fun z hz=>?_,?_⟩
        ·clear hz
         simp only [List.take_succ_cons,List.take_zero]
         unfold Cx
         repeat (go_big_quiet_step (fail))
         exact wpQuiet_nil rfl
        simp only [List.drop_succ_cons,List.drop_zero]
        refine Zp g3 kp (K1.map (·.1)) (J3n++D1.map (·.1)++t3) [u] [.slice (some ⟨gx,0,none⟩) lx.length cx] (.slice (some ⟨gx,0,none⟩) lx.length cx) 98 (by rfl) (by rfl) (by rw [List.length_map];exact HK1.out.symm) (by rfl) rfl rfl ((Blocks.put_other _ _ HG34.out).trans (Blocks.put_same _ _ _)) (.inl (by simp)) (by kernel_rfl) rfl ?_
        refine Qb 1 (by kernel_rfl) (by rfl) ?_
        apply Exists.intro
        refine ⟨fun z hz=>?_,?_⟩
        ·clear hz
         simp only [List.take_succ_cons,List.take_zero]
         unfold Cx
         repeat (go_big_quiet_step (fail))
         exact wpQuiet_nil rfl
        simp only [List.drop_succ_cons,List.drop_zero]
        refine Zp g4 (kp*2) (Ju K1) (J4n++Ju D1++t4) [a1,a2] (Q0f (clO lx)) (.agg #[.int .u64 (loW (clO lx):Nat),.int .u64 (hiW (clO lx):Nat)]) 55 (by rfl) (by rfl) (by rw [HSL.out,HK1.out]) (by rfl) rfl rfl ((Blocks.put_other _ _ (fun e=>HG34.out e.symm)).trans (Blocks.put_same _ _ _)) (.inl (by simp)) (by kernel_rfl) rfl ?_
        refine Qf ?_
        intro y hy hH
        have hy3:=hH g3 _ ((Blocks.put_other _ _ HG34.out).trans (Blocks.put_same _ _ _))
        have hy4:=hH g4 _ (Blocks.put_same _ _ _)
        have hcnt:(K1++[((.slice (some ⟨gx,0,none⟩) lx.length cx,lx):Gp)]).length+J3n.length+D1.length=r:=by have h1:=HJ1.out;have h2:=HD1.out;have h3:=HJ3N.out;simp at *;omega
        have HSMF:=Lib.hid (show SpM w.heap.size y (.slice (some ⟨g3,0,none⟩) r c3) (.slice (some ⟨g4,0,none⟩) r c4) (K1++[((.slice (some ⟨gx,0,none⟩) lx.length cx,lx):Gp)]) J3n J4n D1 from by
         have h:=HSM8.out
         refine ⟨?_,?_,?_,fun x hx=>?_,h.fr3,h.fr4,by rw [List.append_assoc];exact h.dis⟩
         ·rw [hcnt]
          refine Ak (tl:=t3) ?_ ?_ hn3 HMC.out.1 ?_
          ·rw [hy3];simp
          ·have:=HL3.out;simp at this ⊢;omega
          ·have:=hcnt;simp at this ⊢;omega
         ·rw [hcnt]
          refine Ak (tl:=t4) ?_ ?_ hn4 HMC.out.2 ?_
          ·rw [hy4,O8];simp [Ju,Q0f]
          ·have:=HL4.out;rw [O8];simp [V8] at this ⊢;omega
          ·have:=hcnt;have h1:=HJ4N.out;have h2:=HSM8.out.j4;have h3:=HJ3N.out;rw [O8];simp [V8] at this ⊢;omega
         ·have h1:=HJ4N.out;have h2:=HSM8.out.j4;have h3:=HJ3N.out;omega
         ·obtain ⟨a1,a2,a3⟩:=h.grp x (by rw [List.append_assoc] at hx;exact hx)
          exact ⟨a1.keep hy (fun b hb hu=>by
           have:=a3 b hb
           rcases List.mem_cons.1 hu with rfl | hu
           ·exact this.2.1 (by simp [Q7])
           ·obtain rfl:b=g4:=by simpa using hu
            exact this.2.2 (by simp [Q7])),a2,a3⟩)
        have HSP2:=Lib.hid HSP.out.stay
        have HNM2:=Lib.hid (HNM.out.stay (x:=((.slice (some ⟨gx,0,none⟩) lx.length cx,lx):Gp)) (fun v hv=>by
         have h1:=Uq.1 HBQ.out.symm v
         have h2:=clO_rng (n:=n) (L:=L) (M:=lx) HO.out (fun e he=>List.mem_of_mem_take ((HSP.out.mem e).1 (.inr (.inr (by rw [Xm];exact List.mem_append_left _ he))))) hv
         have h3:=h1 h2.1 (by omega)
         rw [hv] at h3
         simpa [Yr] using h3))
        have HST9:=Lib.hid (show SetAt y g7 s from hy.keep HST8.out (fun hu=>by
         have a1:=HG7.out.1 g3 (by simp [Q7])
         have a2:=HG7.out.2.1 g4 (by simp [Q7])
         rcases List.mem_cons.1 hu with e | hu
         ·omega
         ·have:g7=g4:=by simpa using hu
          omega))
        have HC9:=Lib.hid (hy.keep HC8.out (fun hu=>by
         have a1:=HG6.out.1 g3 (by simp [Q7])
         have a2:=HG6.out.2.1 g4 (by simp [Q7])
         rcases List.mem_cons.1 hu with e | hu
         ·omega
         ·have:g6=g4:=by simpa using hu
          omega))
        have HV9:=Lib.hid (HV8.out.keep hy (fun b hb hu=>by
         have a1:=HG7.out.1 g3 (by simp [Q7])
         have a2:=HG7.out.2.1 g4 (by simp [Q7])
         have a3:=HF10.out b hb
         rcases List.mem_cons.1 hu with e | hu
         ·omega
         ·have:b=g4:=by simpa using hu
          omega))
        have HW9:=Lib.hid (HW8.out.trans (hy.below_of (b:=w.heap.size) (fun b hb=>by
         have a1:=(HSM8.out.fr3 g3 (by simp [Q7])).1
         have a2:=HSM8.out.fr4 g4 (by simp [Q7])
         rcases List.mem_cons.1 hb with e | hb
         ·omega
         ·have:b=g4:=by simpa using hb
          omega) HW8.out.size))
        have HBL2:=Lib.hid (show ∀ x∈(K1++[((.slice (some ⟨gx,0,none⟩) lx.length cx,lx):Gp)])++D1,∀ b∈Q7 x.1,b<g7 from fun x hx=>HBL.out x (by rw [List.append_assoc] at hx;exact hx))
        have HK2:=Lib.hid (show (K1++[((.slice (some ⟨gx,0,none⟩) lx.length cx,lx):Gp)]).length=kp+1 by rw [List.length_append,HK1.out];rfl)
        have HJ2:=Lib.hid (show (K1++[((.slice (some ⟨gx,0,none⟩) lx.length cx,lx):Gp)]).length+J3n.length=j+1 by have h1:=HJ1.out;have h3:=HJ3N.out;simp;omega)
        have HD2:=Lib.hid (show j+1+D1.length=r by have:=HD1.out;simp at this;omega)
        clear hy hH hy3 hy4 hcnt HSM8 HST8 HC8 HV8 HW8 HX3 HX4 HX5 HGX8 HB3 HB4 HL3 HL4 HJ3N HJ4N HSP HNM HBL
        go_wp2_with fail
        go_roundw
        case rel=>exact ⟨j+1,kp+1,v10,K1++[((.slice (some ⟨gx,0,none⟩) lx.length cx,lx):Gp)],D1,J3n,J4n,g,s,rfl,by go_num,by go_num,by omega,by omega,HK2.out,HD2.out,HJ2.out,HSMF.out,HV9.out,HF10.out,hgi,HST9.out,HC9.out,HSP2.out,HNM2.out,HSV.out,HBL2.out,HW9.out⟩
        case measure=>simp [intOf];omega
  ·have hd:decide (i<m)=false:=decide_eq_false hlt
   have hd2:decide ((i:Int)<(m:Int))=false:=decide_eq_false (by omega)
   have HSP2:=Lib.hid (show Sp K [] [] L from by
    have h:=HSP.out
    rwa [List.take_of_length_le (by have:=HM.out;omega)] at h)
   have HMEM:=Lib.hid (show ∀ c,c∈lcs L↔∃ x∈K,c∈lcs x.2 from fun c=>by
    constructor
    ·intro hc
     obtain ⟨e,he,rfl⟩:=List.mem_map.1 hc
     have h1:e∈flG K:=by have:=(HSP2.out.mem e).2 he;simpa [flG] using this
     obtain ⟨x,hx,h2⟩:=Q5r.1 h1
     exact ⟨x,hx,List.mem_map.2 ⟨e,h2,rfl⟩⟩
    ·rintro ⟨x,hx,hc⟩
     obtain ⟨e,he,rfl⟩:=List.mem_map.1 hc
     exact List.mem_map.2 ⟨e,(HSP2.out.mem e).1 (.inl (Q5r.2 ⟨x,hx,he⟩)),rfl⟩)
   have HDL:=Lib.hid (show ∀ x∈K,(∀ e∈x.2,e∈L)∧x.2.length≤L.length from fun x hx=>by
    refine ⟨fun e he=>(HSP2.out.mem e).1 (.inl (Q5r.2 ⟨x,hx,he⟩)),?_⟩
    have h1:=HSP2.out.cnt
    have h2:x.2.length≤(flG K).length:=(List.sublist_flatten_of_mem (L:=K.map (·.2)) (List.mem_map.2 ⟨x,hx,rfl⟩)).length_le |> fun h=>by simpa [flG,List.flatMap] using h
    simp [flG] at h1 h2 ⊢;omega)
   have HAP:=Lib.hid (show K.Pairwise (fun x y=>Apa x.2 y.2) from by have:=HSP2.out.apa;simpa using this)
   obtain ⟨r,hr⟩:∃ r,r=K.length:=⟨_,rfl⟩
   have hrows:=HSM.out.rows
   simp only [List.length_nil,Nat.add_zero,←hr] at hrows
   obtain ⟨p3,c3,hv3⟩:=hrows.slice
   have HRK:=Lib.hid hr
   have hri:r≤i:=by omega
   subst hv3
   clear hrows hr HSP HSP2 hlt
   go_wp2_with fail
   go_loopw [93] (fun t wr=>∃ (j:Nat) (A D:List Gp),t = .int .i64 j∧j≤r∧Hid (A.length=j)∧Hid (j+D.length=r)∧Hid (SpM w.heap.size wr (.slice p3 r c3) v4 (A++D) [] [] [])∧Hid (∀ x∈A,ByLen (lcs x.2))∧Hid (∀ x∈A++D,(∀ e∈x.2,e∈L)∧x.2.length≤L.length)∧Hid (∀ c,c∈lcs L↔∃ x∈A++D,c∈lcs x.2)∧Hid ((A++D).Pairwise fun x y=>Apa x.2 y.2)∧Hid (Below w.heap.size w wr)) (fun t _=>r-(intOf t).toNat)
   case atStart=>exact ⟨0,[],K,rfl,Nat.zero_le _,rfl,by rw [HRK.out];simp [Hid],HSM.out,(fun x hx=>by cases hx),HDL.out,HMEM.out,HAP.out,HW.out⟩
   case round =>
    clear HSM HMEM HDL HAP HW
    obtain ⟨j,A,D,rfl,hjr,HAL,HDL,HSM,HBY,HLL,HMEM,HAP,HW⟩:=hrel
    obtain ⟨w3,hw3⟩:∃ w3,w3=wr:=⟨_,rfl⟩
    rw [←hw3] at HSM HW ⊢
    clear hw3
    cases D with
    | nil =>
     have hjr2:r≤j:=by have:=HDL.out;simp at this;omega
     have hd3:decide (j<r)=false:=decide_eq_false (by omega)
     have hd4:decide ((j:Int)<(r:Int))=false:=decide_eq_false (by omega)
     have HF:=Lib.hid (HP.out (.slice p3 r c3) A w3 (by
      have h:=HSM.out
      simp only [List.append_nil] at h
      have hl:A.length=r:=by have:=HAL.out;omega
      refine ⟨?_,fun b hb=>(h.fr3 b hb).1,fun x hx=>?_,?_,?_,HW.out⟩
      ·have:=h.rows
       simpa [hl] using this
      ·obtain ⟨a1,a2,a3⟩:=h.grp x (by simpa using hx)
       obtain ⟨b1,b2⟩:=HLL.out x (by simpa using hx)
       exact ⟨a1,a2,fun b hb=>(a3 b hb).1,b1,HBY.out x hx,b2⟩
      ·have:=HMEM.out;simpa using this
      ·have:=HAP.out;simpa using this))
     go_wp2_with fail
     exact HF.out
    | cons x D =>
     have hlt2:j<r:=by have:=HDL.out;simp at this;omega
     have hd3:decide (j<r)=true:=decide_eq_true hlt2
     have hd4:decide ((j:Int)<(r:Int))=true:=decide_eq_true (by omega)
     obtain ⟨g3,hp3,hrr⟩:=HSM.out.rows.inr (by simp;omega)
     clear hrr
     subst hp3
     obtain ⟨vx,lx⟩:=x
     have hgx:=HSM.out.grp (vx,lx) (by simp)
     dsimp only at hgx
     obtain ⟨gx,cx,hvx⟩:∃ g c,vx = .slice (some ⟨g,0,none⟩) lx.length c:=by
      rcases hgx.1.two with ⟨_,h0,_⟩ | h
      ·exact (hgx.2.1 (List.length_eq_zero_iff.1 h0)).elim
      ·exact h
     subst hvx
     have HGX:=Lib.hid hgx
     have hcnt:(A++((.slice (some ⟨gx,0,none⟩) lx.length cx,lx):Gp)::D).length+([]:List Value).length+([]:List Gp).length=r:=by have h1:=HAL.out;have h2:=HDL.out;simp at *;omega
     have hrw:=HSM.out.rows
     rw [hcnt] at hrw
     simp only [List.map_nil,List.append_nil,List.map_append,List.map_cons] at hrw
     have c0:=hrw.cell (k:=j) (x:=.slice (some ⟨gx,0,none⟩) lx.length cx) (by
      have h1:=HAL.out
      rw [List.getElem?_append_right (by simp;omega),List.length_map,h1,Nat.sub_self];rfl)
     have hlx:=HLL.out ((.slice (some ⟨gx,0,none⟩) lx.length cx,lx):Gp) (by simp)
     have KO:=Lib.hid (Q5t ok lx (.slice (some ⟨gx,0,none⟩) lx.length cx) w3 hgx.1 (fun e he=>(HI.out e (hlx.1 e he)).keep (Q4 HW.out) (by simp)) (fun b hb h=>by have h1:=HOK.out b h;have h2:=(hgx.2.2 b hb).1;omega) (by have h1:=hlx.2;have h2:=HM.out;dsimp only at h1;omega))
     have HCNT:=Lib.hid hcnt
     clear hgx hrw hlx hcnt
     go_wp2_with fail
     refine KO.out.mono ?_
     rintro e w5 ⟨v5,K5,rfl,ho⟩
     have hne:K5≠[]:=fun h=>by
      obtain ⟨e,l2,hl2⟩:=List.exists_cons_of_ne_nil HGX.out.2.1
      have h1:=(ho.same e.xs).2 (by rw [hl2];exact List.mem_map.2 ⟨e,by simp,rfl⟩)
      rw [h] at h1
      cases h1
     obtain ⟨g5,c5,hv5⟩:∃ g c,v5 = .slice (some ⟨g,0,none⟩) K5.length c:=by
      rcases ho.row.two with ⟨_,h0,_⟩ | h
      ·exact (hne (List.length_eq_zero_iff.1 h0)).elim
      ·exact h
     subst hv5
     have hg5:g5=gx:=by have:=ho.blk;simpa [Q7] using this
     subst hg5
     have h3n:g3≠g5:=fun e=>(HGX.out.2.2 g5 (by simp [Q7])).2.1 (by simp [Q7,e])
     have hrw:=HSM.out.rows
     rw [HCNT.out] at hrw
     simp only [List.map_nil,List.append_nil,List.map_append,List.map_cons] at hrw
     have hrw5:=hrw.keep ho.be (fun b hb hu=>by
      have e1:b=g3:=by simpa [Q7] using hb
      have e2:b=g5:=by simpa [Q7] using hu
      omega)
     have hbe:=Zs w5 g3 j (.slice (some ⟨g5,0,none⟩) K5.length c5)
     have hset:=hrw5.set1 (k:=j) (z:=.slice (some ⟨g5,0,none⟩) K5.length c5) (by rw [List.length_map];exact HAL.out)
     have hclO:clO K5=clO lx:=funext fun v=>ho.same.clV v
     have hdis:=pw_mid HSM.out.dis2
     have hU:∀ y∈A++D,∀ b∈Q7 y.1,b≠g5:=fun y hy b hb e=>by
      subst e
      rcases List.mem_append.1 hy with hy | hy
      ·exact hdis.1 y hy b hb (by simp [Q7])
      ·exact hdis.2 y hy b (by simp [Q7]) hb
     have HSMF:=Lib.hid (show SpM w.heap.size (w5.setCell ⟨g3,j,none⟩ (.slice (some ⟨g5,0,none⟩) K5.length c5)) (.slice (some ⟨g3,0,none⟩) r c3) v4 ((A++[((.slice (some ⟨g5,0,none⟩) K5.length c5,K5):Gp)])++D) [] [] [] from by
      have h:=HSM.out
      have e1:(A++[((.slice (some ⟨g5,0,none⟩) K5.length c5,K5):Gp)])++D=A++((.slice (some ⟨g5,0,none⟩) K5.length c5,K5):Gp)::D:=by simp
      rw [e1]
      have hc2:(A++((.slice (some ⟨g5,0,none⟩) K5.length c5,K5):Gp)::D).length+([]:List Value).length+([]:List Gp).length=r:=by have:=HCNT.out;simp at *;omega
      refine ⟨?_,?_,rfl,fun x hx=>?_,h.fr3,h.fr4,?_⟩
      ·rw [hc2]
       simpa using hset
      ·have h4:=h.sets
       rw [HCNT.out] at h4
       rw [hc2]
       have e2:Ju (A++((.slice (some ⟨g5,0,none⟩) K5.length c5,K5):Gp)::D)=Ju (A++((.slice (some ⟨g5,0,none⟩) lx.length cx,lx):Gp)::D):=by
        rw [O8,O8]
        show Ju A++(Q0f (clO K5)++Ju D)=Ju A++(Q0f (clO lx)++Ju D)
        rw [hclO]
       rw [e2]
       exact (h4.keep ho.be (fun b hb hu=>by
        have e3:b=g5:=by simpa [Q7] using hu
        exact (HGX.out.2.2 b (by simp [Q7,e3])).2.2 hb)).keep hbe (fun b hb hu=>by
        have e3:b=g3:=by simpa using hu
        exact (h.fr3 b (by simp [Q7,e3])).2 hb)
      ·rw [List.append_nil] at hx
       have hx2:x∈A++D∨x=((.slice (some ⟨g5,0,none⟩) K5.length c5,K5):Gp):=by
        rcases List.mem_append.1 hx with h1 | h1
        ·exact .inl (List.mem_append_left _ h1)
        ·rcases List.mem_cons.1 h1 with h1 | h1
         ·exact .inr h1
         ·exact .inl (List.mem_append_right _ h1)
       rcases hx2 with hx2 | rfl
       ·obtain ⟨a1,a2,a3⟩:=h.grp x (by rcases List.mem_append.1 hx2 with h1 | h1<;>simp [h1])
        exact ⟨(a1.keep ho.be (fun b hb hu=>hU x hx2 b hb (by simpa [Q7] using hu))).keep hbe (fun b hb hu=>(a3 b hb).2.1 (by
         have e3:b=g3:=by simpa using hu
         simp [Q7,e3])),a2,a3⟩
       ·refine ⟨ho.row.keep hbe (fun b hb hu=>?_),hne,fun b hb=>HGX.out.2.2 b (by simpa [Q7] using hb)⟩
        have e3:b=g3:=by simpa using hu
        have e4:b=g5:=by simpa [Q7] using hb
        omega
      ·rw [List.append_nil]
       exact pw_swap HSM.out.dis2 (fun y _ h1 b hb hb2=>h1 b hb (by simpa [Q7] using hb2)) (fun y _ h1 b hb hb2=>h1 b (by simpa [Q7] using hb) hb2))
     have HBY2:=Lib.hid (show ∀ x∈A++[((.slice (some ⟨g5,0,none⟩) K5.length c5,K5):Gp)],ByLen (lcs x.2) from fun x hx=>by
      rcases List.mem_append.1 hx with h1 | h1
      ·exact HBY.out x h1
      ·rw [show x=((.slice (some ⟨g5,0,none⟩) K5.length c5,K5):Gp) by simpa using h1];exact ho.by')
     have HLL2:=Lib.hid (show ∀ x∈(A++[((.slice (some ⟨g5,0,none⟩) K5.length c5,K5):Gp)])++D,(∀ e∈x.2,e∈L)∧x.2.length≤L.length from fun x hx=>by
      rw [List.append_assoc] at hx
      have hl:=HLL.out ((.slice (some ⟨g5,0,none⟩) lx.length cx,lx):Gp) (by simp)
      rcases List.mem_append.1 hx with h1 | h1
      ·exact HLL.out x (by simp [h1])
      ·rcases List.mem_cons.1 h1 with rfl | h1
       ·exact ⟨fun e he=>hl.1 e (ho.mem e he),Nat.le_trans ho.len hl.2⟩
       ·exact HLL.out x (by simp at h1;simp [h1]))
     have HMEM2:=Lib.hid (show ∀ c,c∈lcs L↔∃ x∈(A++[((.slice (some ⟨g5,0,none⟩) K5.length c5,K5):Gp)])++D,c∈lcs x.2 from fun c=>by
      rw [HMEM.out c]
      simp only [List.mem_append,List.mem_cons,List.mem_singleton,List.not_mem_nil,or_false]
      constructor
      ·rintro ⟨x,h1 | rfl | h1,h2⟩
       ·exact ⟨x,.inl (.inl h1),h2⟩
       ·exact ⟨_,.inl (.inr rfl),(ho.same c).2 h2⟩
       ·exact ⟨x,.inr h1,h2⟩
      ·rintro ⟨x,(h1 | rfl) | h1,h2⟩
       ·exact ⟨x,.inl h1,h2⟩
       ·exact ⟨_,.inr (.inl rfl),(ho.same c).1 h2⟩
       ·exact ⟨x,.inr (.inr h1),h2⟩)
     have HAP2:=Lib.hid (show ((A++[((.slice (some ⟨g5,0,none⟩) K5.length c5,K5):Gp)])++D).Pairwise (fun x y=>Apa x.2 y.2) from by
      rw [List.append_assoc]
      refine pw_swap HAP.out (fun y _ h1 v hv=>?_) (fun y _ h1 v hv=>?_)
      ·show clO K5 v=false
       rw [hclO];exact h1 v hv
      ·have hv2:clO K5 v=true:=hv
       rw [hclO] at hv2
       exact h1 v hv2)
     have HW5:=Lib.hid (show Below w.heap.size w (w5.setCell ⟨g3,j,none⟩ (.slice (some ⟨g5,0,none⟩) K5.length c5)) from by
      have b1:=HW.out.trans (ho.be.below_of (b:=w.heap.size) (fun b hb=>(HGX.out.2.2 b (by simpa [Q7] using hb)).1) HW.out.size)
      exact b1.trans (hbe.below_of (b:=w.heap.size) (fun b hb=>by
       have e3:b=g3:=by simpa using hb
       exact (HSM.out.fr3 b (by simp [Q7,e3])).1) b1.size))
     have HAL2:=Lib.hid (show (A++[((.slice (some ⟨g5,0,none⟩) K5.length c5,K5):Gp)]).length=j+1 by rw [List.length_append,HAL.out];rfl)
     have HDL2:=Lib.hid (show j+1+D.length=r by have:=HDL.out;simp at this;omega)
     have c1:=hrw5.cell (k:=j) (x:=.slice (some ⟨g5,0,none⟩) lx.length cx) (by
      have h1:=HAL.out
      rw [List.getElem?_append_right (by simp;omega),List.length_map,h1,Nat.sub_self];rfl)
     obtain ⟨tl3,hb3,_⟩:=Q0q hrw5
     have f1:=Qd hb3 j
     clear ho hne h3n hrw hrw5 hbe hset hclO hdis hU hb3 HSM HW HMEM HAP HLL HBY KO c0
     go_wp2_with fail
     go_roundw
     case rel=>exact ⟨j+1,A++[((.slice (some ⟨g5,0,none⟩) K5.length c5,K5):Gp)],D,by go_num,by omega,HAL2.out,HDL2.out,HSMF.out,HBY2.out,HLL2.out,HMEM2.out,HAP2.out,HW5.out⟩
     case measure=>simp [intOf];omega
end Go.Proofs.YtcpehljpegfckaaGreatDoor
