/- Texts of this claim,joined: CY5,CY6. -/
import Derived.Test.YtcpehljpegfckaaGreatDoorMT12
import Derived.Deep.DeepCutAuto
/- slices.CompactFunc over clauses. -/
namespace Go.Proofs.YtcpehljpegfckaaGreatDoor
section
open Go.RowKit
def Ks:Ce→List Ce→List Ce
 | _,[]=>[]
 | l,c::cs=>if c.xs=l.xs then Ks c cs else c::Ks c cs
def Ys:List Ce→List Ce
 | []=>[]
 | c::cs=>c::Ks c cs
theorem Wx:∀ (l:Ce) (cs:List Ce),(Ks l cs).map (fun e=>(e.xs,e.at'))=Ad (l.xs,l.at') (cs.map fun e=>(e.xs,e.at'))
 | _,[]=>rfl
 | l,c::cs=>by
  rw [Ks,List.map_cons,Ad]
  split
  ·exact Wx c cs
  ·rw [List.map_cons,Wx c cs]
theorem Wq:∀ (l:Ce) (cs:List Ce),(Ks l cs).Sublist cs
 | _,[]=>List.Sublist.refl _
 | l,c::cs=>by
  rw [Ks]
  split
  ·exact (Wq c cs).cons _
  ·exact (Wq c cs).cons_cons _
theorem Wm (cs:List Ce):(Ys cs).Sublist cs:=by
 cases cs with
 | nil=>exact List.Sublist.refl _
 | cons c cs=>exact (Wq c cs).cons_cons _
theorem Q7k (L:List Ce):lcs L=litsC (L.map fun e=>(e.xs,e.at')):=by unfold lcs litsC;rw [List.map_map];rfl
theorem Q84 (L:List Ce):SameC (lcs (Ys L)) (lcs L):=by
 rw [Q7k,Q7k,show (Ys L).map (fun e=>(e.xs,e.at'))=Q45 (L.map fun e=>(e.xs,e.at')) from ?_]
 ·exact Q9e _
 ·cases L with
  | nil=>rfl
  | cons c cs=>rw [Ys,List.map_cons,Wx];rfl
theorem H8 {z w:World} {g q:Nat} {v:Value} (h:z.heap[g]?=w.heap[g]?) (hc:w.cell? ⟨g,q,none⟩=some v) (p:Extra):(plus z p).cell? ⟨g,q,none⟩=some v:=by
 have hb:g<w.heap.size:=block_lt_of_cell hc
 have h2:z.cell? ⟨g,q,none⟩=some v:=by
  simp only [World.cell?,h] at hc ⊢
  exact hc
 exact Ou h2 (block_lt_of_cell h2) p
set_option maxHeartbeats 6400000 in
set_option maxRecDepth 100000 in
theorem gCompactC (ok:Nat→Prop) (L:List Ce) (g cap:Nat) (tl:List Value) (w:World) (hR:RowC w g L tl) (hI:∀ e∈L,CeOk ok w e) (hg:¬ ok g) (hl:L.length≤1000) (hcap:L.length≤cap) (hcap2:cap≤9223372036854775807) :
  Calls Tryz.prog 108 #[.slice (some ⟨g,0,none⟩) L.length cap,.func (.func 109) #[] #[]] w
   fun e w'=>e = .returned (.slice (some ⟨g,0,none⟩) (Ys L).length cap)∧(∃ Z,RowC w' g (Ys L) Z∧(Jj (Ys L)++Z).length=(Jj L++tl).length)∧Behind w [g] w':=by
 obtain ⟨Post,hPost⟩:∃ P:Ending→World→Prop,P=fun e w'=>e = .returned (.slice (some ⟨g,0,none⟩) (Ys L).length cap)∧(∃ Z,RowC w' g (Ys L) Z∧(Jj (Ys L)++Z).length=(Jj L++tl).length)∧Behind w [g] w':=⟨_,rfl⟩
 rw [←hPost]
 have HP:=Lib.hid (show ∀ (K:List Ce) (Z:List Value) (w':World),Ys L=K→RowC w' g K Z→(Jj K++Z).length=(Jj L++tl).length→Behind w [g] w'→Post (.returned (.slice (some ⟨g,0,none⟩) K.length cap)) w' from fun K Z w' h1 h2 h3 h4=>by rw [hPost,h1];exact ⟨rfl,⟨Z,h2,h3⟩,h4⟩)
 have HR:=Lib.hid hR
 have HI:=Lib.hid hI
 have HG:=Lib.hid hg
 have hgl:=Q9 hR
 obtain ⟨n,hn⟩:∃ n,n=L.length:=⟨_,rfl⟩
 have HN:=Lib.hid hn
 rw [←hn] at hl hcap ⊢
 clear hPost hR hI hg hn
 go_enter Tryz.func108,Tryz.ntmps108
 by_cases hn2:n<2
 ·have hd:decide (n<2)=true:=decide_eq_true hn2
  have hd2:decide ((n:Int)<2)=true:=decide_eq_true (by omega)
  have HF:=Lib.hid (show Ys L=L by
   have:=HN.out
   match L,this with
   | [],_=>rfl
   | [c],_=>rfl
   | _::_::_,h=>simp at h;omega)
  have HF2:=Lib.hid (HP.out L tl w HF.out HR.out rfl (Behind.refl _ _))
  have h3:=HF2.out
  rw [←HN.out] at h3
  have HF3:=Lib.hid h3
  clear h3 HF2
  go_wp2_with fail
  exact HF3.out
 have hd:decide (n<2)=false:=decide_eq_false hn2
 have hd2:decide ((n:Int)<2)=false:=decide_eq_false (by omega)
 have hn3:2≤n:=by omega
 clear hn2
 go_wp2_with fail
 go_loopw [5] (fun t wr=>∃ (k:Nat) (A D:List Ce) (l:Ce),A.length+1=k∧k≤n∧t = .int .i64 k∧Hid (L=A++l::D)∧Hid (Ys L=A++l::Ks l D)∧Hid (Behind w [] wr)) (fun t _=>n-(intOf t).toNat)
 case atStart =>
  obtain ⟨l,D,e⟩:=List.exists_cons_of_ne_nil (show L≠[] by intro h;have:=HN.out;rw [h] at this;simp at this;omega)
  exact ⟨1,[],D,l,rfl,by omega,rfl,e,by rw [e];rfl,Behind.refl _ _⟩
 case round =>
  obtain ⟨k,A,D,l,hAk,hkn,rfl,HL,HC,HB⟩:=hrel
  obtain ⟨w1,hw1⟩:∃ w1,w1=wr:=⟨_,rfl⟩
  rw [←hw1] at HB ⊢
  clear hw1
  have HRW:=Lib.hid (show RowC w1 g L tl from HB.out.keep HR.out (by simp))
  cases D with
  | nil =>
   have hkn2:n≤k:=by have:=HN.out;rw [HL.out] at this;simp at this;omega
   have hd3:decide (k<n)=false:=decide_eq_false (by omega)
   have hd4:decide ((k:Int)<(n:Int))=false:=decide_eq_false (by omega)
   have HF:=Lib.hid (HP.out L tl w1 (by rw [HC.out];exact HL.out.symm) HRW.out rfl (HB.out.mono (by simp)))
   have h3:=HF.out
   rw [←HN.out] at h3
   have HF3:=Lib.hid h3
   clear h3 HF HL HC
   go_wp2_with fail
   exact HF3.out
  | cons d D =>
   have hlt:k<n:=by have:=HN.out;rw [HL.out] at this;simp at this;omega
   have hd3:decide (k<n)=true:=decide_eq_true (by omega)
   have hd4:decide ((k:Int)<(n:Int))=true:=decide_eq_true (by omega)
   obtain ⟨j,rfl⟩:∃ j,k=j+1:=⟨A.length,by omega⟩
   have hAj:A.length=j:=by omega
   have HAJ:=Lib.hid hAj
   have e1:(((j+1:Nat):Int)-1)=(j:Int):=by omega
   have e2:((j:Int)+1-1)=(j:Int):=by omega
   have HD:=Lib.hid (HRW.out.get (i:=j+1) (e:=d) (by rw [HL.out,List.getElem?_append_right (by omega),hAj,show j+1-j=1 by omega];rfl))
   have HDQ:=Lib.hid (HRW.out.get (i:=j) (e:=l) (by rw [HL.out,List.getElem?_append_right (by omega),hAj,Nat.sub_self];rfl))
   have HI1:=Lib.hid ((HI.out d (by rw [HL.out];simp)).keep HB.out (by simp))
   have HI2:=Lib.hid ((HI.out l (by rw [HL.out];simp)).keep HB.out (by simp))
   have KC:=Lib.hid (gEqC d l w1 HI1.out.ins.at HI2.out.ins.at (by have:=HI1.out.len;omega) (by have:=HI2.out.len;omega))
   have HE1:=Lib.hid (show d.xs=l.xs→Ys L=A++[l]++Ks d D from fun h=>by rw [HC.out,Ks,if_pos h];simp)
   have HE2:=Lib.hid (show ¬ d.xs=l.xs→Ys L=A++[l]++d::Ks d D from fun h=>by rw [HC.out,Ks,if_neg h];simp)
   have HL2:=Lib.hid (show L=(A++[l])++d::D by rw [HL.out];simp)
   obtain ⟨bq,hbq⟩:∃ b,b=decide (d.xs=l.xs):=⟨_,rfl⟩
   unfold ceA at KC
   rw [←hbq] at KC
   have HBQ:=Lib.hid hbq
   clear hbq hAk hAj HC HL
   go_upto_region 6 with fail
   refine Qo [0,0,0,0,0,0,0,0,0,0,0] [] B0 Qu (Qi _) (by kernel_rfl) (by kernel_rfl) ?_
   refine Qb 11 (by kernel_rfl) (by rfl) ?_
   apply Exists.intro
   refine ⟨fun z hz=>?_,?_⟩
   ·have f0:=Q6 hz HD.out.1 (by simp)
    have f1:=Q6 hz HD.out.2 (by simp)
    have f2:=Q6 hz HDQ.out.1 (by simp)
    have f3:=Q6 hz HDQ.out.2 (by simp)
    have HZ:=Lib.hid (hz.below_of (b:=w1.heap.size) (by simp) (Nat.le_refl _))
    clear hz
    simp only [List.take_succ_cons,List.take_zero]
    unfold Cx
    repeat (go_big_quiet_step (with_reducible exact KC.out.at2 HZ.out _))
    exact wpQuiet_nil rfl
   simp only [List.drop_succ_cons,List.drop_zero]
   refine Qf ?_
   intro w5 hx5 _
   have HB5:=Lib.hid (HB.out.trans hx5 (by simp))
   clear hx5 HB KC HD HDQ HI1 HI2 HRW
   cases bq with
   | false =>
    have HC2:=Lib.hid (HE2.out (of_decide_eq_false HBQ.out.symm))
    have HLN:=Lib.hid (show (A++[l]).length+1=j+1+1 by rw [List.length_append,HAJ.out];rfl)
    clear HE1 HE2
    go_wp2_with fail
    go_roundw
    case rel=>exact ⟨j+1+1,A++[l],D,d,HLN.out,by omega,by go_num,HL2.out,HC2.out,HB5.out⟩
    case measure=>simp [intOf];omega
   | true =>
    have HC2:=Lib.hid (HE1.out (of_decide_eq_true HBQ.out.symm))
    have HLN:=Lib.hid (show (A++[l]).length=j+1 by rw [List.length_append,HAJ.out];rfl)
    have HND:=Lib.hid (show n=j+1+1+D.length by rw [HN.out,HL2.out,List.length_append,HLN.out];simp;omega)
    clear HE1 HE2
    have HR5:=Lib.hid (show RowC w5 g L tl from HB5.out.keep HR.out (by simp))
    have hc1:j+1≤cap:=by omega
    have hc2:j+1≤n:=by omega
    go_wp2_with fail
    generalize hm:n-(j+1)=m
    generalize hc3:cap-(j+1)=c3
    have hmn:j+1+m=n:=by omega
    have HO:=Lib.hid (show (j+1)*2=2*j+2 by omega)
    have HM:=Lib.hid hmn
    have HC3:=Lib.hid hc3
    have HLM:=Lib.hid (show ∃ (A0 D0:List Ce),A0.length=j+1∧L=A0++([]++d::D)∧Ys L=A0++Ks d D from ⟨A++[l],D,HLN.out,by rw [HL2.out];rfl,HC2.out⟩)
    have hm1:1≤m:=by omega
    have hm2:m≤1000:=by omega
    have hjm:j+1+m≤1000:=by omega
    have hjc:j+1+m≤cap:=by omega
    have HDM:=Lib.hid (show m=1+D.length by have:=HND.out;omega)
    clear hm hc3 hmn hlt hkn hc1 hc2 HND hd3 hd4 e1 e2
    go_loopw [5,7] (fun t5 t7 wr=>∃ (kk c:Nat) (K J D':List Ce) (l':Ce),t5 = .int .i64 kk∧t7 = .int .i64 (c+1:Nat)∧K.length=kk∧kk≤j+1+c∧c+1≤m∧Hid (K.length+J.length=j+1+c)∧Hid (m=c+1+D'.length)∧Hid (Ys L=K++Ks l' D')∧Hid (RowC wr g (K++(J++l'::D')) tl)∧Hid (∀ e∈l'::D',e∈L)∧Hid (Behind w [g] wr)) (fun _ t7 _=>m-(intOf t7).toNat)
    case atStart =>
     exact ⟨j+1,0,A++[l],[],D,d,rfl,rfl,HLN.out,Nat.le_refl _,hm1,HLN.out,HDM.out,HC2.out,by rw [List.nil_append,←HL2.out];exact HR5.out,fun e he=>by rw [HL2.out];exact List.mem_append_right _ he,HB5.out.mono (by simp)⟩
    case round =>
     clear HB5 HR5 HC2 HLN HL2 HBQ HDM HLM HAJ
     obtain ⟨kk,c,K,J,D',l',rfl,rfl,hKk,hkj,hcm,HKJ,HDM,HC,HRW,HE,HB⟩:=hrel
     obtain ⟨w1,hw1⟩:∃ w1,w1=wr:=⟨_,rfl⟩
     rw [←hw1] at HRW HB ⊢
     clear hw1
     have HKK:=Lib.hid hKk
     clear hKk
     cases D' with
     | nil =>
      have hmc:m=c+1:=HDM.out
      have hd3:decide (c+1<m)=false:=decide_eq_false (by omega)
      have hd4:decide (((c+1:Nat):Int)<(m:Int))=false:=decide_eq_false (by omega)
      have hd5:decide ((c:Int)+1<(m:Int))=false:=decide_eq_false (by omega)
      have HX:=Lib.hid (show w1.heap[g]?=some (.cells (Jj K++Jj (J++[l'])++tl).toArray 138 (0,0)) by
       rw [←Yo];exact HRW.out)
      have HLK:=Lib.hid (show kk*2=(Jj K).length by rw [Yw,HKK.out])
      have HLZ:=Lib.hid (show (Jj (J++[l'])).length=(n-kk)*2 by
       rw [Yw]
       have h1:=HKJ.out
       have h2:=HKK.out
       have h3:=HM.out
       simp only [List.length_append,List.length_cons,List.length_nil]
       congr 1;omega)
      have hk1:kk≤n:=by have:=HM.out;omega
      have hk2:kk≤cap:=by omega
      have hk3:0<n-kk:=by have:=HM.out;omega
      have HCF:=Lib.hid (show Ys L=K by rw [HC.out,Ks,List.append_nil])
      go_wp2_with (refine Am _ rfl (.tmp 61) 98 rfl 138 (.agg #[.slice none 0 0,.int .i64 0]) Tryz.underlying98 (fun w=>by kernel_rfl) (by simp [Value.cells,Value.oneCell']) g (kk*2) (n-kk) (cap-kk) (Jj K) (Jj (J++[l'])) tl 138 rfl HLK.out HX.out HLZ.out hk3 ?_)
      intro w7 Z7 hb7 hz7 hB7
      have HR7:=Lib.hid (show RowC w7 g K (Z7++tl) by
       show w7.heap[g]?=_
       rw [hb7])
      have HB7:=Lib.hid (HB.out.trans hB7 (by simp))
      have HS7:=Lib.hid (show (Jj K++(Z7++tl)).length=(Jj L++tl).length by
       have h1:Z7.length=(n-kk)*2:=hz7
       have h2:=HKK.out
       have h3:=HN.out
       rw [List.length_append,List.length_append,List.length_append,Yw,Yw,h1,h2,←h3]
       omega)
      have HFF:=Lib.hid (HP.out K _ w7 HCF.out HR7.out HS7.out HB7.out)
      have hff:=HFF.out
      rw [HKK.out] at hff
      have HF3:=Lib.hid hff
      clear hb7 hz7 hB7 hff HFF
      go_wp2_with fail
      exact HF3.out
     | cons d' D' =>
      have hlt:c+1<m:=by have:=HDM.out;simp at this;omega
      have hd3:decide (c+1<m)=true:=decide_eq_true hlt
      have hd4:decide (((c+1:Nat):Int)<(m:Int))=true:=decide_eq_true (by omega)
      have hd5:decide ((c:Int)+1<(m:Int))=true:=decide_eq_true (by omega)
      have e1:(((c+1:Nat):Int)-1)=(c:Int):=by omega
      have e2:((c:Int)+1-1)=(c:Int):=by omega
      have hD:=HRW.out.get (i:=j+1+(c+1)) (e:=d') (by
       have h1:=HKJ.out
       rw [List.getElem?_append_right (by omega),List.getElem?_append_right (by omega),show j+1+(c+1)-K.length-J.length=1 by omega];rfl)
      have hDQ:=HRW.out.get (i:=j+1+c) (e:=l') (by
       have h1:=HKJ.out
       rw [List.getElem?_append_right (by omega),List.getElem?_append_right (by omega),show j+1+c-K.length-J.length=0 by omega];rfl)
      rw [Nat.add_mul (j+1)] at hD hDQ
      have HD:=Lib.hid hD
      have HDQ:=Lib.hid hDQ
      clear hD hDQ
      have HI1:=Lib.hid ((HI.out d' (HE.out d' (by simp))).keep HB.out (Q2f HG.out))
      have HI2:=Lib.hid ((HI.out l' (HE.out l' (by simp))).keep HB.out (Q2f HG.out))
      have KC:=Lib.hid (gEqC d' l' w1 HI1.out.ins.at HI2.out.ins.at (by have:=HI1.out.len;omega) (by have:=HI2.out.len;omega))
      have HE1:=Lib.hid (show d'.xs=l'.xs→Ys L=K++Ks d' D' from fun h=>by rw [HC.out,Ks,if_pos h])
      have HE2:=Lib.hid (show ¬ d'.xs=l'.xs→Ys L=(K++[d'])++Ks d' D' from fun h=>by rw [HC.out,Ks,if_neg h];simp)
      obtain ⟨bq,hbq⟩:∃ b,b=decide (d'.xs=l'.xs):=⟨_,rfl⟩
      unfold ceA at KC
      rw [←hbq] at KC
      have HBQ:=Lib.hid hbq
      clear hbq HC
      generalize (j+1)*2=o at *
      go_upto_region 11 with fail
      refine Qo [0,0,0,0,0,0,0,0,0,0,0,0] [] B0 Qu (Qi _) (by kernel_rfl) (by kernel_rfl) ?_
      refine Qb 12 (by kernel_rfl) (by rfl) ?_
      apply Exists.intro
      refine ⟨fun z hz=>?_,?_⟩
      ·have f0:=Q6 hz HD.out.1 (by simp)
       have f1:=Q6 hz HD.out.2 (by simp)
       have f2:=Q6 hz HDQ.out.1 (by simp)
       have f3:=Q6 hz HDQ.out.2 (by simp)
       have HZ:=Lib.hid (hz.below_of (b:=w1.heap.size) (by simp) (Nat.le_refl _))
       clear hz
       simp only [List.take_succ_cons,List.take_zero]
       unfold Cx
       repeat (go_big_quiet_step (with_reducible exact KC.out.at2 HZ.out _))
       exact wpQuiet_nil rfl
      simp only [List.drop_succ_cons,List.drop_zero]
      refine Qf ?_
      intro w5 hx5 _
      have HB5:=Lib.hid (HB.out.trans hx5 (by simp))
      have HR5:=Lib.hid (show RowC w5 g (K++(J++l'::d'::D')) tl from hx5.keep HRW.out (by simp))
      have HD5:=Lib.hid (show w5.cell? ⟨g,o+(c+1)*2,none⟩=some (.slice d'.p d'.xs.length d'.c) from Jn hx5 HD.out.1 (by simp))
      have HD6:=Lib.hid (show w5.cell? ⟨g,o+(c+1)*2+1,none⟩=some (.int .i64 d'.at') from Jn hx5 HD.out.2 (by simp))
      clear hx5 HB KC HD HDQ HI1 HI2 HRW
      cases bq with
      | true =>
       have HC2:=Lib.hid (HE1.out (of_decide_eq_true HBQ.out.symm))
       have HR6:=Lib.hid (show RowC w5 g (K++((J++[l'])++d'::D')) tl by
        have:=HR5.out
        rw [show J++l'::d'::D'=(J++[l'])++d'::D' by simp] at this
        exact this)
       have HL6:=Lib.hid (show K.length+(J++[l']).length=j+1+(c+1) by have:=HKJ.out;simp;omega)
       have HM6:=Lib.hid (show m=c+1+1+D'.length by have:=HDM.out;simp at this;omega)
       clear HE1 HE2
       go_wp2_with fail
       go_roundw
       case rel=>exact ⟨kk,c+1,K,J++[l'],D',d',rfl,by go_num,HKK.out,by omega,by omega,HL6.out,HM6.out,HC2.out,HR6.out,fun e he=>HE.out e (List.mem_cons_of_mem _ he),HB5.out⟩
       case measure=>simp [intOf];omega
      | false =>
       have HC2:=Lib.hid (HE2.out (of_decide_eq_false HBQ.out.symm))
       clear HE1 HE2
       obtain ⟨u,J0,hu⟩:=List.exists_cons_of_ne_nil (show J++[l']≠[] by simp)
       have hJ0:J0.length=J.length:=by have:=congrArg List.length hu;simp at this;omega
       have HXE:=Lib.hid (show Jj K++ceV u++(Jj (J0++d'::D')++tl)=Jj (K++(J++l'::d'::D'))++tl by
        rw [show J++l'::d'::D'=(J++[l'])++d'::D' by simp,hu,Yo]
        simp [O0,Yo,ceV])
       have HX:=Lib.hid (show w5.heap[g]?=some (.cells (Jj K++ceV u++(Jj (J0++d'::D')++tl)).toArray 138 (0,0)) by
        rw [HXE.out];exact HR5.out)
       have HLK:=Lib.hid (show (Jj K).length=kk*2 by rw [Yw,HKK.out])
       have HL6:=Lib.hid (show (K++[d']).length+J0.length=j+1+(c+1) by have:=HKJ.out;simp;omega)
       have HM6:=Lib.hid (show m=c+1+1+D'.length by have:=HDM.out;simp at this;omega)
       have HK6:=Lib.hid (show (K++[d']).length=kk+1 by rw [List.length_append,HKK.out];rfl)
       have hkn:kk<n:=by have:=HM.out;omega
       clear hu hJ0
       go_upto_region 12 with fail
       refine wp_region_lit (J6 [0,0,0,0,0,1,0,2] [g] _ (Qr (Qi _) HX.out) ?_)
       refine Qb 5 (by kernel_rfl) (by rfl) ?_
       apply Exists.intro
       refine ⟨fun z hz=>?_,?_⟩
       ·clear hz
        simp only [List.take_succ_cons,List.take_zero]
        unfold Cx
        repeat (go_big_quiet_step (fail))
        exact wpQuiet_nil rfl
       simp only [List.drop_succ_cons,List.drop_zero]
       refine Jq 1 w5 (Behind.refl _ _) (Qr (Qi _) HX.out) (by kernel_rfl) (by rfl) ?_
       apply Exists.intro
       refine ⟨fun z hz hzB=>?_,?_⟩
       ·have hz2:=hzB g _ (Blocks.put_same _ _ _)
        have f0:=H8 (hz2.trans HX.out.symm) HD5.out
        have f1:=H8 (hz2.trans HX.out.symm) HD6.out
        clear hz hzB hz2
        simp only [List.take_succ_cons,List.take_zero]
        unfold Cx
        repeat (go_big_quiet_step (fail))
        exact wpQuiet_nil rfl
       simp only [List.drop_succ_cons,List.drop_zero]
       refine Qb 1 (by kernel_rfl) (by rfl) ?_
       apply Exists.intro
       refine ⟨fun z hz=>?_,?_⟩
       ·clear hz
        simp only [List.take_succ_cons,List.take_zero]
        unfold Cx
        repeat (go_big_quiet_step (fail))
        exact wpQuiet_nil rfl
       simp only [List.drop_succ_cons,List.drop_zero]
       refine Vg g (kk*2) (Jj K) (Jj (J0++d'::D')++tl) u d' 138 (by rfl) (by rfl) (by rw [HLK.out]) (by rfl) (Blocks.put_same _ _ _) (.inl (by simp)) (by kernel_rfl) ?_
       refine Qf ?_
       intro y hy hH
       have HR6:=Lib.hid (show RowC y g ((K++[d'])++(J0++d'::D')) tl by
        have:=hH g _ (Blocks.put_same _ _ _)
        show y.heap[g]?=_
        rw [this,Yo,Yo]
        simp [O0,Yo,ceV,Jj])
       have HB6:=Lib.hid (HB5.out.trans hy (by simp))
       clear hH hy
       go_wp2_with fail
       go_roundw
       case rel=>exact ⟨kk+1,c+1,K++[d'],J0,D',d',by go_num,by go_num,HK6.out,by omega,by omega,HL6.out,HM6.out,HC2.out,HR6.out,fun e he=>HE.out e (List.mem_cons_of_mem _ he),HB6.out⟩
       case measure=>simp [intOf];omega
end
/- Clauses put in order. -/
section
open Go.RowKit
theorem rowC_of {w:World} {g n cap:Nat} {L:List Ce} (h:RowV (inW w) 138 2 (.slice (some ⟨g,0,none⟩) n cap) n (Jj L)):∃ tl,RowC w g L tl∧n=L.length∧n≤cap∧cap≤maxLen∧(Jj L++tl).length=cap*2:=by
 cases h with
 | @row g n cap xs cur hr =>
  have hl:=hr.len
  rw [Yw] at hl
  refine ⟨cur.toList.drop (n*2),?_,by omega,hr.le,hr.mx,?_⟩
  ·show w.heap[g]?=_
   rw [←hr.tk,List.take_append_drop]
   exact hr.blk
  ·rw [←hr.tk,List.take_append_drop]
   have:=hr.sz
   simpa using this
theorem rowV_of {w:World} {g cap:Nat} {L:List Ce} {tl:List Value} (h:RowC w g L tl) (h1:L.length≤cap) (h2:cap≤maxLen) (h3:(Jj L++tl).length=cap*2):RowV (inW w) 138 2 (.slice (some ⟨g,0,none⟩) L.length cap) L.length (Jj L) :=
 .row ⟨h,h1,h2,by simpa using h3,by rw [←Yw];exact List.take_left' rfl,Yw L⟩
theorem lcs_perm {L M:List Ce} (h:L.Perm M):SameC (lcs L) (lcs M):=fun c=>by
 unfold lcs
 constructor
 ·intro hc
  obtain ⟨e,he,rfl⟩:=List.mem_map.1 hc
  exact List.mem_map.2 ⟨e,h.mem_iff.1 he,rfl⟩
 ·intro hc
  obtain ⟨e,he,rfl⟩:=List.mem_map.1 hc
  exact List.mem_map.2 ⟨e,h.mem_iff.2 he,rfl⟩
theorem SameC.trans {L M N:List (List Int)} (h:SameC L M) (k:SameC M N):SameC L N:=fun c=>(h c).trans (k c)
set_option maxHeartbeats 1600000 in
set_option maxRecDepth 100000 in
theorem Q95 (w:World):Calls Tryz.prog 151 #[.slice none 0 0,.int .i64 0,.int .i64 0,.func (.func 105) #[] #[]] w
   fun e w'=>e = .returned (.tuple #[])∧w'=w:=by
 obtain ⟨Post,hPost⟩:∃ P:Ending→World→Prop,P=fun e w'=>e = .returned (.tuple #[])∧w'=w:=⟨_,rfl⟩
 rw [←hPost]
 have HP:=Lib.hid hPost
 clear hPost
 go_enter Tryz.func151,Tryz.ntmps151
 go_wp2_with fail
 go_loopw [8] (fun t wr=>t = .int .i64 1∧wr=w) (fun t _=>0)
 case atStart=>exact ⟨rfl,rfl⟩
 case round =>
  obtain ⟨rfl,rfl⟩:=hrel
  go_wp2_with fail
  go_end0
  rw [HP.out]
  exact ⟨rfl,rfl⟩
set_option maxHeartbeats 3200000 in
set_option maxRecDepth 100000 in
theorem gStable (v:Value) (n:Nat) (p:Option Addr) (cap:Nat) (hv:v = .slice p n cap) (hn:n<20) (w:World) (R:World→Prop)
  (K:Calls Tryz.prog 151 #[v,.int .i64 0,.int .i64 n,.func (.func 105) #[] #[]] w fun e w'=>e = .returned (.tuple #[])∧R w') :
  Calls Tryz.prog 134 #[v,.int .i64 n,.func (.func 105) #[] #[]] w fun e w'=>e = .returned (.tuple #[])∧R w':=by
 obtain ⟨Post,hPost⟩:∃ P:Ending→World→Prop,P=fun e w'=>e = .returned (.tuple #[])∧R w':=⟨_,rfl⟩
 rw [←hPost]
 have HP:=Lib.hid hPost
 have HK:=Lib.hid K
 have hd:decide (20≤n)=false:=decide_eq_false (by omega)
 have hd2:decide ((20:Int)≤(n:Int))=false:=decide_eq_false (by omega)
 have hd3:decide (20<n)=false:=decide_eq_false (by omega)
 have hd4:decide ((20:Int)<(n:Int))=false:=decide_eq_false (by omega)
 have hn2:¬ (20:Int)≤(n:Int):=by omega
 have hn3:¬ (20:Int)<(n:Int):=by omega
 clear hPost K
 subst hv
 go_enter Tryz.func134,Tryz.ntmps134
 go_wp2_with fail
 go_loopw [7,8] (fun t7 t8 wr=>t7 = .int .i64 0∧t8 = .int .i64 20∧wr=w) (fun _ t _=>0)
 case atStart=>exact ⟨rfl,rfl,rfl⟩
 case round =>
  obtain ⟨rfl,rfl,rfl⟩:=hrel
  go_wp2_with fail
  refine HK.out.mono ?_
  rintro e w2 ⟨rfl,h2⟩
  have H2:=Lib.hid h2
  clear h2 HK
  go_wp2_with fail
  go_loopw [6] (fun t6 wr=>t6 = .int .i64 20∧wr=w2) (fun t _=>0)
  case atStart=>exact ⟨rfl,rfl⟩
  case round =>
   obtain ⟨rfl,rfl⟩:=hrel
   go_wp2_with fail
   go_end0
   rw [HP.out]
   exact ⟨rfl,H2.out⟩
set_option maxHeartbeats 1600000 in
set_option maxRecDepth 100000 in
theorem Q12 (v:Value) (n:Nat) (p:Option Addr) (cap:Nat) (hv:v = .slice p n cap) (hn:n<20) (w:World) (R:World→Prop)
  (K:Calls Tryz.prog 151 #[v,.int .i64 0,.int .i64 n,.func (.func 105) #[] #[]] w fun e w'=>e = .returned (.tuple #[])∧R w') :
  Calls Tryz.prog 104 #[v,.func (.func 105) #[] #[]] w fun e w'=>e = .returned (.tuple #[])∧R w':=by
 have KS:=gStable v n p cap hv hn w R K
 obtain ⟨Post,hPost⟩:∃ P:Ending→World→Prop,P=fun e w'=>e = .returned (.tuple #[])∧R w':=⟨_,rfl⟩
 rw [←hPost]
 have HP:=Lib.hid hPost
 have HK:=Lib.hid KS
 clear hPost K KS
 subst hv
 go_enter Tryz.func104,Tryz.ntmps104
 go_wp2_with fail
 refine HK.out.mono ?_
 rintro e w2 ⟨rfl,h2⟩
 have H2:=Lib.hid h2
 clear h2 HK
 go_wp2_with fail
 go_end0
 rw [HP.out]
 exact ⟨rfl,H2.out⟩
set_option maxHeartbeats 1600000 in
set_option maxRecDepth 100000 in
theorem Q7r (w:World):Calls Tryz.prog 108 #[.slice none 0 0,.func (.func 109) #[] #[]] w fun e w'=>e = .returned (.slice none 0 0)∧w'=w:=by
 obtain ⟨Post,hPost⟩:∃ P:Ending→World→Prop,P=fun e w'=>e = .returned (.slice none 0 0)∧w'=w:=⟨_,rfl⟩
 rw [←hPost]
 have HP:=Lib.hid hPost
 clear hPost
 go_enter Tryz.func108,Tryz.ntmps108
 go_wp2_with fail
 rw [HP.out]
 exact ⟨rfl,rfl⟩
theorem RowV.two {B:Blocks} {E:TypeId} {size m:Nat} {v:Value} {xs:List Value} (h:RowV B E size v m xs):(v = .slice none 0 0∧m=0∧xs=[])∨∃ g cap,v = .slice (some ⟨g,0,none⟩) m cap:=by
 cases h with
 | nil=>exact .inl ⟨rfl,rfl,rfl⟩
 | @row g n cap xs cur hr=>exact .inr ⟨g,cap,rfl⟩
structure Ordered (w w':World) (v v':Value) (L K:List Ce):Prop where
 row:RowV (inW w') 138 2 v' K.length (Jj K)
 blk:Q7 v'=Q7 v
 mem:∀ e∈K,e∈L
 same:SameC (lcs K) (lcs L)
 by':ByLen (lcs K)
 be:Behind w (Q7 v) w'
 len:K.length≤L.length
set_option maxHeartbeats 3200000 in
set_option maxRecDepth 100000 in
theorem Q5t (ok:Nat→Prop) (L:List Ce) (v:Value) (w:World) (hR:RowV (inW w) 138 2 v L.length (Jj L)) (hI:∀ e∈L,CeOk ok w e) (hg:∀ g∈Q7 v,¬ ok g) (hl:L.length<20) :
  Calls Tryz.prog 71 #[v] w fun e w'=>∃ v' K,e = .returned v'∧Ordered w w' v v' L K:=by
 obtain ⟨Post,hPost⟩:∃ P:Ending→World→Prop,P=fun e w'=>∃ v' K,e = .returned v'∧Ordered w w' v v' L K:=⟨_,rfl⟩
 rw [←hPost]
 have HP:=Lib.hid (show ∀ (v':Value) (K:List Ce) (w':World),Ordered w w' v v' L K→Post (.returned v') w' from fun v' K w' h=>by rw [hPost];exact ⟨v',K,rfl,h⟩)
 clear hPost
 rcases hR.two with ⟨rfl,hL,_⟩ | ⟨g,cap,rfl⟩
 ·obtain rfl:=List.length_eq_zero_iff.1 hL
  have KS:=Lib.hid (Q12 (.slice none 0 0) 0 none 0 rfl (by omega) w (fun w'=>w'=w) (Q95 w))
  have KC:=Lib.hid (Q7r w)
  have HF:=Lib.hid (HP.out (.slice none 0 0) [] w ⟨.nil,rfl,fun e he=>he,fun c=>Iff.rfl,List.Pairwise.nil,Behind.refl _ _,Nat.le_refl _⟩)
  clear hR hI hg hL hl HP
  go_enter Tryz.func71,Tryz.ntmps71
  go_wp2_with fail
  refine KS.out.mono ?_
  rintro e w1 ⟨rfl,rfl⟩
  go_wp2_with fail
  refine KC.out.mono ?_
  rintro e w2 ⟨rfl,rfl⟩
  go_wp2_with fail
  exact HF.out
 ·obtain ⟨tl,hC,_,hcap,hcm,hlen⟩:=rowC_of hR
  have hgl:=Q9 hC
  have hng:¬ ok g:=hg g (by simp [Q7])
  have KS:=Lib.hid (Q12 (.slice (some ⟨g,0,none⟩) L.length cap) L.length _ cap rfl hl w _ (gInsert ok L g cap tl w hC hI hng (by omega)))
  have HI:=Lib.hid hI
  have HL:=Lib.hid hlen
  have HM:=Lib.hid hcm
  have HN:=Lib.hid hng
  obtain ⟨n,hn⟩:∃ n,n=L.length:=⟨_,rfl⟩
  rw [←hn] at hcap hl KS ⊢
  have HLN:=Lib.hid hn
  clear hR hI hg hn hC hlen hcm hng
  go_enter Tryz.func71,Tryz.ntmps71
  go_wp2_with fail
  refine KS.out.mono ?_
  rintro e w1 ⟨rfl,L1,hp1,hb1,hr1,hbe1⟩
  have hl1:L1.length=n:=by rw [HLN.out];exact hp1.length_eq
  have KC:=gCompactC ok L1 g cap tl w1 hr1 (fun e he=>(HI.out e (hp1.mem_iff.1 he)).keep hbe1 (Q2f HN.out)) HN.out (by omega) (by omega) (by have:=HM.out;unfold maxLen at this;omega)
  rw [hl1] at KC
  have HC:=Lib.hid KC
  have HP1:=Lib.hid hp1
  have HB1:=Lib.hid hb1
  have HE1:=Lib.hid hbe1
  have HL1:=Lib.hid hl1
  clear KC KS hp1 hb1 hr1 hbe1 hl1
  go_wp2_with fail
  refine HC.out.mono ?_
  rintro e w2 ⟨rfl,⟨Z,hZ,hZl⟩,hbe2⟩
  have hkl:=(Wm L1).length_le
  have HF:=Lib.hid (HP.out (.slice (some ⟨g,0,none⟩) (Ys L1).length cap) (Ys L1) w2 ⟨rowV_of hZ (by have:=HL1.out;omega) HM.out (by
    rw [hZl,←HL.out,List.length_append,List.length_append,Yw,Yw,HL1.out,HLN.out]),rfl,fun e he=>HP1.out.mem_iff.1 ((Wm L1).subset he),(Q84 L1).trans (lcs_perm HP1.out),HB1.out.sublist ((Wm L1).map _),HE1.out.trans hbe2 (fun k hk=>.inl hk),by have:=HL1.out;have:=HLN.out;omega⟩)
  clear hZ hZl hbe2 hkl HC
  go_wp2_with fail
  exact HF.out
end
end Go.Proofs.YtcpehljpegfckaaGreatDoor
