/- Texts of this claim,joined: DD1,DD2,DD3,DD4,DDa,DD5,DE1,DE2. -/
import Derived.Test.YtcpehljpegfckaaGreatDoorMT37
import Derived.Test.YtcpehljpegfckaaGreatDoorMT39
import Derived.Test.YtcpehljpegfckaaGreatDoorMT11
import Derived.Deep.DeepCutAuto
import Derived.Recover
import Derived.Tactics2
import Derived.Laws.Pointers
/- One clause in order. -/
namespace Go.Proofs.YtcpehljpegfckaaGreatDoor
section
open Go.RowKit
structure ClauseP (xs:List Int) (w w':World) (v:Value) (zs:List Int):Prop where
 row:RowV (inW w') 3 1 v zs.length (Qm zs)
 fr:∀ g∈Q7 v,w.heap.size≤g
 mem:∀ x,x∈zs↔x∈xs
 len:zs.length≤12
 opp:Q23 zs=true→(∀ x∈xs,x≠0)→∃ x,x∈xs∧-x∈xs∧x≠0
 be:Below w.heap.size w w'
theorem opp_has {zs:List Int} (h:Q23 zs=true):∃ x,x∈zs∧-x∈zs:=by
 obtain ⟨i,h0,hi,h⟩:=Q2c.1 h
 have e:∀ k (hk:k<zs.length),zs.getD k 0∈zs:=fun k hk=>by
  rw [List.getD,List.getElem?_eq_getElem hk];simp
 exact ⟨zs.getD (i-1) 0,e _ (by omega),h▸e i hi⟩
set_option maxHeartbeats 3200000 in
set_option maxRecDepth 100000 in
theorem gClauseL (xs:List Int) (n:Int) (hn:n≤128) (p:Option Addr) (c:Nat) (w:World) (hA:AtN w.heap.size w p (Qm xs)) (hv:xs.all (fun x=>Jk x n)=true) (hl:xs.length≤12) :
  Calls Tryz.prog 70 #[.slice p xs.length c,.int .i64 n] w fun e w'=>∃ v zs,e = .returned (.tuple #[v,.bool (Q23 zs),.int .i64 0])∧ClauseP xs w w' v zs:=by
 have K1:=gValidL xs n hn w.heap.size p c w hA (by omega) (Nat.le_refl _)
 rw [hv] at K1
 have hlit:∀ x∈xs,x≠0∧-n≤x∧x≤n:=fun x hx=>Kf.1 (List.all_eq_true.1 hv x hx)
 obtain ⟨Post,hPost⟩:∃ P:Ending→World→Prop,P=fun e w'=>∃ v zs,e = .returned (.tuple #[v,.bool (Q23 zs),.int .i64 0])∧ClauseP xs w w' v zs:=⟨_,rfl⟩
 rw [←hPost]
 have HP:=Lib.hid hPost
 have HK:=Lib.hid (fun (w1:World) (hb:Below w.heap.size w w1)=>gOrder xs (fun x hx=>by have:=hlit x hx;omega) w.heap.size p c w1 (hA.below hb (Nat.le_refl _)) hl hb.size)
 have HL:=Lib.hid hlit
 clear hA hv hPost hlit
 go_enter Tryz.func70,Tryz.ntmps70
 go_wp2_with fail
 refine K1.mono ?_
 rintro e w1 ⟨rfl,hb⟩
 have HB:=Lib.hid hb
 clear hb K1
 go_wp2_with fail
 refine (HK.out w1 HB.out).mono ?_
 rintro e w2 ⟨v,zs,rfl,z1,z2,z3,z4⟩
 have HB2:=Lib.hid (HB.out.trans (z4.mono HB.out.size))
 obtain ⟨zz,hzz⟩:∃ zz,zz=Lib.compact zs:=⟨_,rfl⟩
 rw [←hzz] at z3
 have hlen:zz.length≤12:=by
  have h1:=Lib.compact_length_le zs
  have h2:=z1.length_eq
  rw [hzz];omega
 have HMEM:=Lib.hid (show ∀ x,x∈zz↔x∈xs from fun x=>by rw [hzz,Q8a];exact z1.mem_iff)
 obtain ⟨a,c2,hva,hA⟩:=own_at z3
 subst hva
 have HZ:=Lib.hid z3
 have KO:=gOpposite zz w2.heap.size a c2 w2 hA (by omega) (Nat.le_refl _) (fun x hx=>by have:=HL.out x ((HMEM.out x).1 hx);omega)
 clear z1 z2 z3 z4 hA hzz
 go_wp2_with fail
 refine KO.mono ?_
 rintro e w3 ⟨rfl,hb3⟩
 have HF:=Lib.hid (show ClauseP xs w w3 (.slice a zz.length c2) zz from ⟨HZ.out.row.keep (Q4 hb3) (by simp),fun g hg=>by have:=HZ.out.ge g hg;have:=HB.out.size;omega,HMEM.out,hlen,fun h h0=>by
  obtain ⟨x,hx,hy⟩:=opp_has h
  exact ⟨x,(HMEM.out x).1 hx,(HMEM.out _).1 hy,h0 x ((HMEM.out x).1 hx)⟩,HB2.out.trans (hb3.mono HB2.out.size)⟩)
 clear hb3 KO
 go_wp2_with fail
 rw [HP.out]
 exact ⟨_,zz,rfl,HF.out⟩
end
/- A theory in normal form. -/
section
open Go.RowKit
structure NormalP (w w':World) (v:Value) (K:List Ce) (L:List (List Int)):Prop where
 row:RowV (inW w') 138 2 v K.length (Jj K)
 fr:∀ g∈Q7 v,w.heap.size≤g
 ces:∀ e∈K,CeOk (fun b=>w.heap.size≤b∧b∉Q7 v) w' e
 norm:NormOf L (lcs K)
 by':ByLen (lcs K)
 len:K.length≤L.length
 be:Below w.heap.size w w'
set_option maxHeartbeats 6400000 in
set_option maxRecDepth 100000 in
theorem gNormal (n:Int) (hn:n≤128) (L:List (List Int)) (a:Option Addr) (c:Nat) (w:World) (hA:ThAt w.heap.size w a L) (hL:∀ xs∈L,xs.all (fun x=>Jk x n)=true∧xs.length≤12) (hl:L.length<20) :
  Calls Tryz.prog 39 #[.agg #[.int .i64 n,.slice a L.length c]] w fun e w'=>∃ v K,e = .returned v∧NormalP w w' v K L:=by
 obtain ⟨Post,hPost⟩:∃ P:Ending→World→Prop,P=fun e w'=>∃ v K,e = .returned v∧NormalP w w' v K L:=⟨_,rfl⟩
 rw [←hPost]
 have HP:=Lib.hid (show ∀ (v:Value) (K:List Ce) (w':World),NormalP w w' v K L→Post (.returned v) w' from fun v K w' h=>by rw [hPost];exact ⟨v,K,rfl,h⟩)
 have HA:=Lib.hid hA
 have HLV:=Lib.hid hL
 obtain ⟨i0,ii,iz0,iz1,iz2⟩:=info_parts Tryz.infoClause
 have II:=Lib.hid ii
 have IZ0:=Lib.hid iz0
 have IZ1:=Lib.hid iz1
 have IZ2:=Lib.hid iz2
 obtain ⟨m,hm⟩:∃ m,m=L.length:=⟨_,rfl⟩
 rw [←hm] at hl ⊢
 have HN:=Lib.hid hm
 clear hPost hA hL hm ii iz0 iz1 iz2
 go_enter Tryz.func39,Tryz.ntmps39
 go_upto_region 1 with fail
 refine Qg ?_
 intro w1 hw1
 have S1:=Lib.hid (show w1.heap[w.heap.size]?=some (.cells #[.int .i64 n,.slice a m c] 24 (0,0)) by rw [hw1];exact Qn _ _)
 have HL1:=Lib.hid (show Below w.heap.size w w1 by rw [hw1];exact Qe _ _)
 have HS1:=Lib.hid (show w1.heap.size=w.heap.size+1 by rw [hw1];simp)
 clear hw1
 have q0:=Q5 S1.out 0 rfl
 have q1:=Q5 S1.out 1 rfl
 go_wp2_with fail
 go_loopw [3,12] (fun t3 t12 wr=>∃ (i:Nat) (v:Value) (K:List Ce),t3=v∧t12 = .int .i64 i∧i≤m∧K.length≤i∧Hid (RowV (inW wr) 138 2 v K.length (Jj K))∧Hid (∀ g∈Q7 v,w.heap.size<g)∧Hid (∀ e∈K,CeOk (fun b=>w.heap.size≤b∧b∉Q7 v) wr e)∧Hid (NormOf (L.take i) (lcs K))∧Hid (Below w1.heap.size w1 wr)) (fun _ t _=>m-(intOf t).toNat)
 case atStart=>exact ⟨0,.slice none 0 0,[],rfl,rfl,Nat.zero_le _,Nat.le_refl _,.nil,fun g hg=>(by simp [Q7] at hg),fun e he=>(by cases he),⟨fun d hd=>(by simp [lcs] at hd),fun c hc=>(by simp at hc)⟩,Below.refl _ _⟩
 case round =>
  obtain ⟨i,v,K,hv,rfl,hin,hKi,HRW,HFR,HCE,HNO,HW⟩:=hrel
  have hv:=hv.symm
  subst hv
  obtain ⟨w2,hw2⟩:∃ w2,w2=wr:=⟨_,rfl⟩
  rw [←hw2] at HRW HCE HW ⊢
  clear hw2 q0 q1
  by_cases hlt:i<m
  ·have hd:decide (i<m)=true:=decide_eq_true hlt
   have hd2:decide ((i:Int)<(m:Int))=true:=decide_eq_true (by omega)
   obtain ⟨xs,hxs⟩:∃ xs,L[i]?=some xs:=⟨_,List.getElem?_eq_getElem (by rw [←HN.out];exact hlt)⟩
   have HWW:=Lib.hid (show Below w.heap.size w w2 from HL1.out.trans (HW.out.mono HL1.out.size))
   obtain ⟨b,o,p,cx,hb,hp,k1,hx⟩:=HA.out i xs hxs
   have c1:=Q8 HWW.out hb k1
   obtain ⟨hval,hx12⟩:=HLV.out xs (List.mem_of_getElem? hxs)
   have HT:=Lib.hid (show L.take (i+1)=L.take i++[xs] by rw [List.take_add_one,hxs];simp)
   have HX0:=Lib.hid (show ∀ x∈xs,(x≠0∧-n≤x∧x≤n) from fun x hx=>Kf.1 (List.all_eq_true.1 hval x hx))
   have KC:=Lib.hid (gClauseL xs n hn p cx w2 ((hx.below HWW.out (Nat.le_refl _)).mono HWW.out.size) hval hx12)
   have q0:w2.cell? ⟨w.heap.size,0,none⟩=some (.int .i64 n):=Q5 ((Q4 HW.out).keep S1.out (by simp)) 0 rfl
   subst hp
   clear hxs hb k1 hx hval
   go_wp2_with fail
   refine KC.out.mono ?_
   rintro e w3 ⟨v3,zs,rfl,hcl⟩
   obtain ⟨p3,c3,hv3⟩:=hcl.row.slice
   subst hv3
   have HCL:=Lib.hid hcl
   have HW3:=Lib.hid (HW.out.trans (hcl.be.mono HW.out.size))
   have HR3:=Lib.hid (HRW.out.keep (Q4 hcl.be) (by simp))
   have HK3:=Lib.hid (show ∀ e∈K,CeOk (fun b=>w.heap.size≤b∧b∉Q7 v) w3 e from fun e he=>(HCE.out e he).keep (Q4 hcl.be) (by simp))
   have HLR:=Lib.hid HRW.out.lt
   have HWS:=Lib.hid HWW.out.size
   have HB3:=Lib.hid hcl.be.size
   clear hcl KC c1 q0 HRW HCE HW HWW
   generalize hq:Q23 zs=q at *
   have HQ:=Lib.hid hq
   clear hq
   cases q with
   | true =>
    have HN3:=Lib.hid (show NormOf (L.take (i+1)) (lcs K) by
     obtain ⟨x,h1,h2,h3⟩:=HCL.out.opp HQ.out (fun x hx=>(HX0.out x hx).1)
     rw [HT.out]
     exact HNO.out.skip h1 h2 h3)
    clear HNO HT HCL HQ
    go_wp2_with fail
    go_roundw
    case rel=>exact ⟨i+1,v,K,rfl,by go_num,by omega,by omega,HR3.out,HFR.out,HK3.out,HN3.out,HW3.out⟩
    case measure=>simp [intOf];omega
   | false =>
    have hK20:K.length≤20:=by omega
    go_wp2_with (at_builtin;refine Jp _ rfl _ _ 98 rfl 138 i0 (.agg #[.slice none 0 0,.int .i64 0]) 2 32 Tryz.underlying98 II.out IZ0.out IZ1.out IZ2.out rfl _ _ _ rfl (HR3.out.keep (Q4 ((Below.refl _ _).alloc (Nat.le_refl _) _)) (by simp)) w3.heap.size 1 1 [.slice p3 zs.length c3,.int .i64 (i:Nat)] 138 rfl (heap_alloc_new w3 _) rfl (by intro u hu;simp at hu;rcases hu with rfl | rfl<;>rfl) (by omega) (by unfold maxLen;omega) (by omega) ?_)
    intro v9 w9 hr9 hB9 hn9
    obtain ⟨E,hE⟩:∃ E:Ce,E=⟨p3,c3,zs,(i:Nat)⟩:=⟨_,rfl⟩
    have h09:Behind w3 (Q7 v) w9:=((Q4 ((Below.refl _ _).alloc (Nat.le_refl _) _)).mono (by simp)).trans hB9 (fun k hk=>.inl hk)
    have hn9':∀ g∈Q7 v9,g∈Q7 v∨w3.heap.size≤g:=fun g hg=>(hn9 g hg).imp id (fun h=>by omega)
    have hsz:w.heap.size+1≤w3.heap.size:=by have:=HW3.out.size;have:=HS1.out;omega
    have HR9:=Lib.hid (show RowV (inW w9) 138 2 v9 (K++[E]).length (Jj (K++[E])) by
     rw [Yo,List.length_append,hE];exact hr9)
    have HF9:=Lib.hid (show ∀ g∈Q7 v9,w.heap.size<g from fun g hg=>(hn9' g hg).elim (HFR.out g) (fun h=>by omega))
    have HCE3:=Lib.hid (show CeOk (fun b=>(w.heap.size≤b∧b∉Q7 v)) w3 E by
     rw [hE]
     refine ⟨HCL.out.row.insF.imp (fun g hg hk=>⟨Nat.le_trans HWS.out (HCL.out.fr g hk),fun h=>by have:=HLR.out g h;have:=HCL.out.fr g hk;omega⟩),fun x hx=>by have:=HX0.out x ((HCL.out.mem x).1 hx);omega,by have:=HCL.out.len;dsimp only;omega⟩)
    have HK9:=Lib.hid (show ∀ e∈K++[E],CeOk (fun b=>w.heap.size≤b∧b∉Q7 v9) w9 e from fun e he=>by
     have h3:CeOk (fun b=>(w.heap.size≤b∧b∉Q7 v)) w3 e:=by
      rcases List.mem_append.1 he with he | he
      ·exact HK3.out e he
      ·obtain rfl:e=E:=by simpa using he
       exact HCE3.out
     exact ((h3.imp (fun g hg h=>(⟨h,hg⟩:(w.heap.size≤g∧g∉Q7 v)∧g<w3.heap.size))).keep h09 (fun g hg hk=>(hk.1.2 hg).elim)).imp (fun g _ h=>⟨h.1.1,fun hg=>(hn9' g hg).elim h.1.2 (fun h2=>by omega)⟩))
    have HN9:=Lib.hid (show NormOf (L.take (i+1)) (lcs (K++[E])) by
     have e:lcs (K++[E])=lcs K++[zs]:=by rw [hE];simp [lcs]
     rw [HT.out,e]
     exact HNO.out.add HCL.out.mem)
    have HW9:=Lib.hid (HW3.out.trans (h09.below_of (b:=w1.heap.size) (fun k hk=>by have:=HFR.out k hk;have:=HS1.out;omega) HW3.out.size))
    have HL9:=Lib.hid (show (K++[E]).length≤i+1 by rw [List.length_append];simp;omega)
    generalize K++[E]=K9 at *
    clear h09 hn9' hr9 hB9 hn9 hsz hE HCE3 HCL HQ HT HNO HR3 HK3 HLR
    go_wp2_with fail
    go_roundw
    case rel=>exact ⟨i+1,v9,K9,rfl,by go_num,by omega,HL9.out,HR9.out,HF9.out,HK9.out,HN9.out,HW9.out⟩
    case measure=>simp [intOf];omega
  ·have hd:decide (i<m)=false:=decide_eq_false hlt
   have hd2:decide ((i:Int)<(m:Int))=false:=decide_eq_false (by omega)
   have hie:i=m:=by omega
   have HNF:=Lib.hid (show NormOf L (lcs K) by
    have h1:=HNO.out
    rw [hie,HN.out,List.take_length] at h1
    exact h1)
   have KO:=Lib.hid (Q5t (fun b=>w.heap.size≤b∧b∉Q7 v) K v w2 HRW.out HCE.out (fun g hg hk=>hk.2 hg) (by omega))
   clear HNO
   go_wp2_with fail
   refine KO.out.mono ?_
   rintro e w3 ⟨v',K',rfl,ho⟩
   have hww:Below w.heap.size w w2:=HL1.out.trans (HW.out.mono HL1.out.size)
   have HF:=Lib.hid (HP.out v' K' w3 ⟨ho.row,fun g hg=>by rw [ho.blk] at hg;exact Nat.le_of_lt (HFR.out g hg),fun e he=>by
    rw [ho.blk]
    exact (HCE.out e (ho.mem e he)).keep ho.be (fun g hg hk=>(hk.2 hg).elim),HNF.out.same ho.same,ho.by',by have:=ho.len;have:=HN.out;omega,hww.trans (ho.be.below_of (fun k hk=>Nat.le_of_lt (HFR.out k hk)) hww.size)⟩)
   clear ho KO hww HRW HCE HW
   go_wp2_with fail
   exact HF.out
end
/- What Compile looks at first. -/
section
open Go.RowKit
theorem ThAt.mono {N M:Nat} {w:World} {a:Option Addr} {L:List (List Int)} (h:ThAt N w a L) (hM:N≤M):ThAt M w a L:=fun i xs hi=>by
 obtain ⟨b,o,p,c,h1,ha,hc,hx⟩:=h i xs hi
 exact ⟨b,o,p,c,Nat.lt_of_lt_of_le h1 hM,ha,hc,hx.mono hM⟩
set_option maxHeartbeats 6400000 in
set_option maxRecDepth 100000 in
theorem gCheckC (n:Int) (L:List (List Int)) (a:Option Addr) (c:Nat) (w:World) (hA:ThAt w.heap.size w a L) (hl:L.length≤140737488355328) (h0:Kz n L=0) :
  Calls Tryz.prog 37 #[.agg #[.int .i64 n,.slice a L.length c],.slice none 0 0] w fun e w'=>e = .returned (.int .i64 0)∧Below w.heap.size w w':=by
 obtain ⟨Post,hPost⟩:∃ P:Ending→World→Prop,P=fun e w'=>e = .returned (.int .i64 0)∧Below w.heap.size w w':=⟨_,rfl⟩
 rw [←hPost]
 have HP:=Lib.hid (show ∀ (w':World),Below w.heap.size w w'→Post (.returned (.int .i64 0)) w' from fun w' h=>by rw [hPost];exact ⟨rfl,h⟩)
 have HA:=Lib.hid hA
 have H0:=Lib.hid h0
 clear hPost hA h0
 go_enter Tryz.func37,Tryz.ntmps37
 go_upto_region 1 with fail
 refine Qg ?_
 intro w1 hw1
 have S1:=Lib.hid (show w1.heap[w.heap.size]?=some (.cells #[.int .i64 n,.slice a L.length c] 24 (0,0)) by rw [hw1];exact Qn _ _)
 have HB1:=Lib.hid (show Below w.heap.size w w1 by rw [hw1];exact Qe _ _)
 clear hw1
 have q0:=Q5 S1.out 0 rfl
 have q1:=Q5 S1.out 1 rfl
 have KT:=Q62 n L a c w1 ((HA.out.below HB1.out (Nat.le_refl _)).mono HB1.out.size) hl
 rw [H0.out] at KT
 have HKT:=Lib.hid KT
 clear KT
 go_wp2_with fail
 refine HKT.out.mono ?_
 rintro e w2 ⟨rfl,hb2⟩
 have HB2:=Lib.hid (HB1.out.trans (hb2.mono HB1.out.size))
 clear hb2 q0 q1
 go_upto_region 4 with fail
 refine Qo [0,0,0,0,0,0,0,0,0,0,0,0,0,0,0,0,0,0] [] B0 Qu (Qi _) (by kernel_rfl) (by kernel_rfl) ?_
 refine Qb 18 (by kernel_rfl) (by rfl) ?_
 apply Exists.intro
 refine ⟨fun z hz=>?_,?_⟩
 ·clear hz
  simp only [List.take_succ_cons,List.take_zero]
  unfold Cx
  repeat (go_big_quiet_step (fail))
  exact wpQuiet_nil rfl
 simp only [List.drop_succ_cons,List.drop_zero]
 refine Qf ?_
 intro x hx _
 have HB3:=Lib.hid (HB2.out.trans (hx.below.mono HB2.out.size))
 clear hx
 go_wp2_with fail
 exact HP.out _ HB3.out
end
/- Compile: its way out. -/
section
open Go.RowKit
set_option maxHeartbeats 3200000 in
set_option maxRecDepth 100000 in
theorem catchC (bc ba be:Nat) (w:World) :
  CallsD Tryz.prog 38 #[.pointer (some ⟨bc,0,none⟩),.pointer (some ⟨ba,0,none⟩),.pointer (some ⟨be,0,none⟩)] .returning w fun e u' w'=>e = .returned (.tuple #[])∧u' = .returning∧w'=w:=by
 refine callsD_of_wpS Tryz.func38 rfl fun c₀ cs hu=>?_
 simp only [Tryz.ntmps38,List.size_toArray,List.length_cons,List.length_nil,Nat.reduceAdd,Nat.reduceSub,Array.replicate_succ,Array.replicate_zero,List.push_toArray,List.append_toArray,List.nil_append,List.cons_append]
 apply wpS_seq
 apply wpS_region
 simp [wpOpsS,go_sem,recoverD,hu,Exit.thenS]
 refine wpS_of_wp ?_
 go_wp2_with fail
 exact ⟨rfl,_,rfl,_,by simp [results,Tryz.results38],rfl,by cases c₀;simp_all,rfl⟩
theorem Vd {P:Program} (w:World) (ty:TypeId) (b o:Nat) (v:Value) (ha:(isAgg ty).run P w = .ok false w) (hc:w.cell? ⟨b,o,none⟩=some v):(loadVar ty ⟨b,o,none⟩).run P w = .ok v w:=by
 simp [loadVar,Sem.run_bind,ha,hc]
theorem Q2j {P:Program} {fn:Func} {p q r:Tmp} {ty tq tr:TypeId} (h:fn.results=#[.cell p ty,.cell q tq,.cell r tr]) (tmps:Array Value) (w:World) (g k m:Nat) (t:TypeId) (cs:Array Value) (fr:Nat × Nat) (d:TypeDesc)
  (hp:tmps.getD p undef = .pointer (some ⟨g,0,none⟩)) (hg:w.heap[g]?=some (.cells cs t fr))
  (hu:P.underlying ty=some d) (hd:(match d with | .struct _ | .array _ _=>true | _=>false)=true) (hi:(P.info? ty).map (·.size)=some cs.size) (v:Value) (hv:tmps.getD q undef = .pointer (some ⟨k,0,none⟩)) (ha:(isAgg tq).run P w = .ok false w) (hc:w.cell? ⟨k,0,none⟩=some v)
  (x:Value) (hx:tmps.getD r undef = .pointer (some ⟨m,0,none⟩)) (hb:(isAgg tr).run P w = .ok false w) (hm:w.cell? ⟨m,0,none⟩=some x) :
  (results fn tmps).run P w = .ok (.tuple #[.agg cs,v,x]) w:=by
 have hp':tmps[p]?.getD undef = .pointer (some ⟨g,0,none⟩):=by simpa using hp
 have hv':tmps[q]?.getD undef = .pointer (some ⟨k,0,none⟩):=by simpa using hv
 have hx':tmps[r]?.getD undef = .pointer (some ⟨m,0,none⟩):=by simpa using hx
 have e1:=run_loadVar_row (P:=P) w g t ty cs fr d hg hu hd hi
 have e2:=Vd (P:=P) w tq k 0 v ha hc
 have e3:=Vd (P:=P) w tr m 0 x hb hm
 simp [results,h,hp',hv',hx',asAddr,e1,e2,e3]
theorem Tryz.sizeNetD:(Tryz.prog.info? 33).map (·.size)=some 2:=by kernel_rfl
set_option maxRecDepth 100000 in
theorem comp_ends (bc ba be:Nat) (T:Array Value) (R:Ending→World→Prop) (x:World) (a b y z:Value) (t4:T.getD 4 undef = .pointer (some ⟨bc,0,none⟩)) (t5:T.getD 5 undef = .pointer (some ⟨ba,0,none⟩)) (t6:T.getD 6 undef = .pointer (some ⟨be,0,none⟩))
  (h1:x.heap[bc]?=some (.cells #[a,b] 33 (0,0))) (h2:x.heap[ba]?=some (.cells #[y] 34 (0,0))) (h3:x.heap[be]?=some (.cells #[z] 39 (0,0)))
  (hR:R (.returned (.tuple #[.agg #[a,b],y,z])) x) :
  bodyPostD Tryz.prog Tryz.f20 R Exit.ret { tmps:=T,defers:=[{ target:=Target.fn (Fn.func 38) #[.pointer (some ⟨bc,0,none⟩),.pointer (some ⟨ba,0,none⟩),.pointer (some ⟨be,0,none⟩)],args:=#[] }] } x:=by
 refine leaves_cons (f:=38) (args:=#[.pointer (some ⟨bc,0,none⟩),.pointer (some ⟨ba,0,none⟩),.pointer (some ⟨be,0,none⟩)]) (by simp) (by simp [go_sem]) ?_
 refine (catchC bc ba be x).mono ?_
 rintro e u' w'' ⟨rfl,rfl,rfl⟩
 exact ⟨_,Q2j (p:=4) (q:=5) (r:=6) rfl _ _ bc ba be _ _ (0,0) _ t4 h1 Tryz.underlying33 rfl Tryz.sizeNetD y t5 (Tryz.isAgg34 _) (Q5 h2 0 rfl) z t6 (Tryz.isAgg39 _) (Q5 h3 0 rfl),hR⟩
end
/- Compile: its start,and what it hands back. -/
section
open Go.RowKit Go.Maps Go.MapKept
theorem Q2s (w:World) (o0 o1 o2:Obj):(((w.alloc o0).alloc o1).alloc o2).heap[w.heap.size]?=some o0∧(((w.alloc o0).alloc o1).alloc o2).heap[w.heap.size+1]?=some o1∧(((w.alloc o0).alloc o1).alloc o2).heap[w.heap.size+1+1]?=some o2∧Below w.heap.size w (((w.alloc o0).alloc o1).alloc o2)∧(((w.alloc o0).alloc o1).alloc o2).heap.size=w.heap.size+3:=by
 obtain ⟨a0,a1,a2,a3⟩:=Au w o0 o1
 have h2:=heap_alloc_new ((w.alloc o0).alloc o1) o2
 rw [a3] at h2
 exact ⟨Yx a0,Yx a1,h2,a2.alloc (by omega) _,by simp⟩
theorem allocFive (w:World) (o0 o1 o2 o3 o4:Obj):∀ w5,w5=(((((w.alloc o0).alloc o1).alloc o2).alloc o3).alloc o4)→w5.heap[w.heap.size]?=some o0∧w5.heap[w.heap.size+1]?=some o1∧w5.heap[w.heap.size+1+1]?=some o2∧w5.heap[w.heap.size+1+1+1]?=some o3∧w5.heap[w.heap.size+1+1+1+1]?=some o4∧Below w.heap.size w w5∧w5.heap.size=w.heap.size+5:=by
 rintro w5 rfl
 obtain ⟨a0,a1,a2,a3,a4,a5⟩:=Q3w w o0 o1 o2 o3
 have h2:=heap_alloc_new ((((w.alloc o0).alloc o1).alloc o2).alloc o3) o4
 rw [a5] at h2
 exact ⟨Yx a0,Yx a1,Yx a2,Yx a3,h2,a4.alloc (by omega) _,by simp⟩
theorem NetG.nil (n:Nat):NetG n []:=⟨fun i x h=>by simp at h,fun i x h=>by simp at h,fun i x h=>by simp at h⟩
theorem CS.start {F:Nat→Prop} {N:Nat} {w:World} {gc n gl gd:Nat} {cache:Bool} (h:Q19 w gc n cache (.slice none 0 0) (.slice none 0 0) gl gd) (hl:w.heap[gl]?=some (.map #[] 0)) (hd:w.heap[gd]?=some (.map #[] 0)) (h1:gc≠gl) (h2:gc≠gd) (h3:gl≠gd) (hN:N≤gc∧N≤gl∧N≤gd) (hF:∀ b,F b→b<w.heap.size):CS F N w gc n gl gd cache (.slice none 0 0) (.slice none 0 0) [] :=
 ⟨h,⟨[],.nil,fun i g hg=>by simp at hg⟩,⟨[],.nil⟩,⟨#[],0,hl,fun e he=>by simp at he⟩,⟨#[],0,hd,fun e he=>by simp at he⟩,⟨h1,h2,h3⟩,fun g hg=>by simp [Q7] at hg,fun g hg=>by simp [Q7] at hg,fun g hg=>by
  rcases Qv.1 hg with rfl | rfl | rfl | hg | hg
  ·exact hN.1
  ·exact hN.2.1
  ·exact hN.2.2
  ·simp [Q7] at hg
  ·simp [Q7] at hg,NetG.nil n,Nat.le_trans hN.1 (Nat.le_of_lt (Q9 h)),hF⟩
theorem theo_ok {n:Nat} {L:List (List Int)} (hL:∀ xs∈L,xs.all (fun x=>Jk x (n:Int))=true):Hl n L:=fun c hc x hx=>by
 have:=Kf.1 (List.all_eq_true.1 (hL c hc) x hx)
 omega
structure RootP (ns:List Nd) (L:List (List Int)):Prop where
 pos:0<ns.length
 len:ns.length≤65536
 sem:∀ a,Yf ns (ns.length-1) a=thB a L
 own:∀ v,Ql ns (ns.length-1) v=true→clV L v=true
theorem RootP.of {ns:List Nd} {i:Nat} {M L:List (List Int)} (h:Means ns i M) (hi:i+1=ns.length) (hl:ns.length≤65536) (hN:NormOf L M):RootP ns L:=by
 obtain rfl:i=ns.length-1:=by omega
 refine ⟨by omega,hl,fun a=>by rw [h.sem a,hN.th a],fun v hv=>?_⟩
 obtain ⟨c,hc,x,hx,e⟩:=Yk.1 (h.own v hv)
 obtain ⟨c2,hc2,k⟩:=hN.from' c hc
 exact Yk.2 ⟨c2,hc2,x,(k x).1 hx,e⟩
theorem last_two {xs:List Value} {n:Nat} (h:xs.length=n*2) (h0:0<n):∃ A a1 a2,xs=A++[a1,a2]∧A.length=(n-1)*2:=by
 have h1:(xs.drop ((n-1)*2)).length=2:=by rw [List.length_drop];omega
 match hd:xs.drop ((n-1)*2),h1 with
 | [a1,a2],_ =>
  refine ⟨xs.take ((n-1)*2),a1,a2,?_,by rw [List.length_take];omega⟩
  rw [←hd,List.take_append_drop]
theorem CS.claims_set {F:Nat→Prop} {N:Nat} {w x:World} {gc n gl gd:Nat} {cache:Bool} {v u:Value} {ns:List Nd} {g:Nat} (h:CS F N w gc n gl gd cache v u ns) (hB:Behind w [g] x) (hg:g∈Q7 u) {cl:List Value} (hr:RowV (inW x) 104 2 u ns.length cl):CS F N x gc n gl gd cache v u ns:=by
 have hd:=h.d3 g hg
 have hgu:g∈Jc gc gl gd v u:=Qv.2 (.inr (.inr (.inr (.inr hg))))
 refine ⟨hB.keep h.blk (by simpa using hd.1.symm),h.nodes.keep hB (fun b hb=>?_),⟨cl,hr⟩,h.lits.keep hB (by simpa using hd.2.1.symm),h.done.keep hB (by simpa using hd.2.2.symm),h.d1,h.d2,h.d3,h.ge,h.net,Nat.le_trans h.bas hB.size,fun b hk=>Nat.lt_of_lt_of_le (h.hF b hk) hB.size⟩
 obtain rfl:b=g:=by simpa using hb
 exact ⟨fun e=>(h.d2 b e).2.2.2 hg,fun e=>(e.1 hgu).elim⟩
structure CompP (n:Nat) (L:List (List Int)) (w:World) (vN uN:Value) (ns:List Nd) (w':World):Prop where
 nodes:NodeRow (fun b=>w.heap.size≤b) w' vN ns
 claims:∃ cl,RowV (inW w') 104 2 uN ns.length cl
 net:NetG n ns
 pos:0<ns.length
 root:∀ a,Yf ns (ns.length-1) a=thB a L
 own:∀ v,Ql ns (ns.length-1) v=true→clV L v=true
 len:ns.length≤65536
 be:Below w.heap.size w w'
end
/- Compile. -/
section
open Go.RowKit Go.Maps Go.MapKept
set_option maxHeartbeats 12800000 in
set_option maxRecDepth 100000 in
theorem Q82 (N n:Nat) (hn:n≤12) (cache:Bool) (L:List (List Int)) (a:Option Addr) (c:Nat) (w:World) (hT:Pow10 N w) (hN:N≤w.heap.size) (hA:ThAt w.heap.size w a L) (hL:∀ xs∈L,xs.all (fun x=>Jk x n)=true∧xs.length≤12) (hl:L.length<20) (h0:Kz n L=0) :
  Calls Tryz.prog 20 #[.agg #[.int .i64 n,.slice a L.length c],.agg #[.slice none 0 0,.bool false,.bool cache]] w fun e w'=>∃ vN uN ns,e = .returned (.tuple #[.agg #[.int .i64 n,vN],uN,.int .i64 0])∧CompP n L w vN uN ns w':=by
 have hmf:∀ (fn:Fn) (first cap:Array Value) (w:World),(Instr.makeFunc fn first cap).run Tryz.prog w = .ok (.func fn first cap) w:=fun _ _ _ _=>rfl
 have hmm:∀ (ty:TypeId) (w:World),(Instr.makeMap ty none).run Tryz.prog w = .ok (.map (some w.heap.size)) (w.alloc (.map #[] 0)):=fun _ _=>rfl
 obtain ⟨Post,hPost⟩:∃ P:Ending→World→Prop,P=fun e w'=>∃ vN uN ns,e = .returned (.tuple #[.agg #[.int .i64 n,vN],uN,.int .i64 0])∧CompP n L w vN uN ns w':=⟨_,rfl⟩
 rw [←hPost]
 have HP:=Lib.hid (show ∀ (vN uN:Value) (ns:List Nd) (w':World),CompP n L w vN uN ns w'→Post (.returned (.tuple #[.agg #[.int .i64 n,vN],uN,.int .i64 0])) w' from fun vN uN ns w' h=>by rw [hPost];exact ⟨vN,uN,ns,rfl,h⟩)
 have HA:=Lib.hid hA
 have HLV:=Lib.hid hL
 have H0:=Lib.hid h0
 have HT:=Lib.hid hT
 have HN:=Lib.hid hN
 have HLL:=Lib.hid hl
 clear hPost hA hL h0 hT hN hl
 go_enter_defers Tryz.func20,Tryz.ntmps20
 go_upto_region 1 with fail
 refine Qg ?_
 intro w1 hw1
 obtain ⟨A0,A1,A2,A3,A4,A5,A6⟩:=allocFive w _ _ _ _ _ w1 hw1
 have q0:=Q5 A0 0 rfl
 have q1:=Q5 A0 1 rfl
 have q2:=Q5 A1 0 rfl
 have KC:=Lib.hid (gCheckC n L a c w1 ((HA.out.below A5 (Nat.le_refl _)).mono A5.size) (by have:=HLL.out;omega) H0.out)
 have X0:=Lib.hid A0
 have X1:=Lib.hid A1
 have X2:=Lib.hid A2
 have X3:=Lib.hid A3
 have X4:=Lib.hid A4
 have X5:=Lib.hid A5
 have X6:=Lib.hid A6
 clear A0 A1 A2 A3 A4 A5 A6 hw1
 go_wp2_with fail
 refine KC.out.mono ?_
 rintro e w2 ⟨rfl,hb2⟩
 have hbh:=Q4 hb2
 have Y0:=Lib.hid (hbh.keep X0.out (by simp))
 have Y1:=Lib.hid (hbh.keep X1.out (by simp))
 have Y2:=Lib.hid (hbh.keep X2.out (by simp))
 have Y3:=Lib.hid (hbh.keep X3.out (by simp))
 have Y4:=Lib.hid (hbh.keep X4.out (by simp))
 have HB2:=Lib.hid (X5.out.trans (hb2.mono X5.out.size))
 have HZ2:=Lib.hid (show w.heap.size+5≤w2.heap.size by have:=hb2.size;have:=X6.out;omega)
 have c0:=Q5 Y0.out 0 rfl
 have c1:=Q5 Y0.out 1 rfl
 have d0:=Q5 Y1.out 0 rfl
 have d1:=Q5 Y1.out 1 rfl
 have d2:=Q5 Y1.out 2 rfl
 clear hb2 hbh KC q0 q1 q2 X0 X1 X2 X3 X4 X5 X6
 go_upto_region 6 with fail
 refine Qg ?_
 intro w3 hw3
 obtain ⟨m0,m1,m2,m3,m4⟩:=Q2s w2 (Obj.map #[] 0) (Obj.map #[] 0) (Obj.cells #[Value.int IntKind.i64 (n:Nat),Value.slice none 0 0,Value.bool false,Value.bool cache,Value.slice none 0 0,Value.slice none 0 0,Value.map (some w2.heap.size),Value.map (some (w2.heap.size+1))] 96)
 rw [←hw3] at m0 m1 m2 m3 m4
 obtain ⟨gl,hgl⟩:∃ g,g=w2.heap.size:=⟨_,rfl⟩
 rw [←hgl] at m0 m1 m2 m4 ⊢
 obtain ⟨gd,hgd⟩:∃ g,g=gl+1:=⟨_,rfl⟩
 rw [←hgd] at m1 m2 ⊢
 obtain ⟨gc,hgc⟩:∃ g,g=gd+1:=⟨_,rfl⟩
 rw [←hgc] at m2 ⊢
 obtain ⟨F,hF⟩:∃ F:Nat→Prop,F=fun b=>b<w.heap.size+5:=⟨_,rfl⟩
 have hz2:=HZ2.out
 have hcs:CS F N w3 gc n gl gd cache (.slice none 0 0) (.slice none 0 0) []:=CS.start m2 m0 m1 (by omega) (by omega) (by omega) (by have:=HN.out;omega) (fun b hb=>by rw [hF] at hb;omega)
 have hbh:=Q4 m3
 have HCS3:=Lib.hid hcs
 have HFD:=Lib.hid hF
 have HGE:=Lib.hid (show w.heap.size+5≤gl∧gd=gl+1∧gc=gd+1∧gl+3=w3.heap.size from ⟨by omega,by omega,by omega,by omega⟩)
 have HB3:=Lib.hid (HB2.out.trans (m3.mono HB2.out.size))
 have V0:=Lib.hid (hbh.keep Y0.out (by simp))
 have V2:=Lib.hid (hbh.keep Y2.out (by simp))
 have V3:=Lib.hid (hbh.keep Y3.out (by simp))
 have V4:=Lib.hid (hbh.keep Y4.out (by simp))
 have c0:=Q5 V0.out 0 rfl
 have c1:=Q5 V0.out 1 rfl
 have KN:=Lib.hid (gNormal n (by omega) L a c w3 ((HA.out.below HB3.out (Nat.le_refl _)).mono HB3.out.size) HLV.out HLL.out)
 have HOK:=Lib.hid (theo_ok (n:=n) (L:=L) (fun xs hx=>(HLV.out xs hx).1))
 clear m0 m1 m2 m3 m4 hgl hgd hgc hF hz2 hcs hbh hw3 Y0 Y1 Y2 Y3 Y4 d0 d1 d2 HZ2
 go_wp2_with fail
 refine KN.out.mono ?_
 rintro e w4 ⟨vK,K,rfl,hK⟩
 obtain ⟨pK,cK,hvK⟩:=hK.row.slice
 subst hvK
 have HK:=Lib.hid hK
 clear hK KN
 go_upto_if 31 with fail
 go_cut [] from 29 (fun wx=>∃ (v u:Value) (ns:List Nd),Hid (CS F N wx gc n gl gd cache v u ns)∧Hid (Later w4 wx gc gl gd (.slice none 0 0) (.slice none 0 0) v u [] ns)∧Hid (RootP ns L))
 case rest =>
  obtain ⟨v2,u2,ns2,HS6,HL6,HRT⟩:=hcut
  obtain ⟨w6,hw6⟩:∃ w6,w6=wc:=⟨_,rfl⟩
  rw [←hw6] at HS6 HL6 ⊢
  clear hw6
  have hpos:=HRT.out.pos
  have hnl:=HRT.out.len
  obtain ⟨kn,hkn⟩:∃ kn,ns2.length=kn+1:=⟨ns2.length-1,by omega⟩
  have HLK:=Lib.hid hkn
  have hkb:kn≤65536:=by omega
  clear hnl hkn
  obtain ⟨clu,hru⟩:=HS6.out.claims
  obtain ⟨gu,cu,hu2⟩:∃ gu cu,u2 = .slice (some ⟨gu,0,none⟩) ns2.length cu:=by
   rcases hru.two with ⟨_,h,_⟩ | h
   ·omega
   ·exact h
  rw [HLK.out] at hu2
  subst hu2
  have hru':RowV (inW w6) 104 2 (.slice (some ⟨gu,0,none⟩) (kn+1) cu) (kn+1) clu:=by have:=HLK.out;rw [this] at hru;exact hru
  obtain ⟨tl,t1,t2,t3,t4,t5⟩:=Q0q hru'
  obtain ⟨A,a1,a2,hA2,hAl⟩:=last_two t5 (by omega)
  subst hA2
  have HT1:=Lib.hid t1
  have HAL:=Lib.hid (show kn*2=A.length by rw [hAl,Nat.add_sub_cancel])
  have HT2:=Lib.hid t2
  have HT3:=Lib.hid t3
  have HT4:=Lib.hid t4
  have A5:=Lib.hid (Q5 HS6.out.blk 5 rfl)
  have HGU:=Lib.hid (HS6.out.d3 gu (by simp [Q7]))
  have HGU4:=Lib.hid (show gu∉Q7 (.slice pK K.length cK) from fun h=>by
   have h1:=HK.out.fr gu h
   have h2:=HK.out.row.lt gu h
   rcases HL6.out.sub gu (Qv.2 (.inr (.inr (.inr (.inr (by simp [Q7])))))) with h3 | h3
   ·have:=HCS3.out.lt gu h3;omega
   ·omega)
  have HGC:=Lib.hid (show ¬ gc=gu from fun e=>HGU.out.1 e.symm)
  have HLU:=Lib.hid (Q9 t1)
  have KCL:=Lib.hid (fun (x:World) (hx:Behind w6 [gu] x)=>gClaim (fun _=>True) K pK cK none [] 0 x (((((HK.out.row.keep HL6.out.be (fun g hg h=>by have:=HCS3.out.lt g h;have:=HK.out.fr g hg;omega))).keep hx (fun g hg h=>HGU4.out (by simp at h;exact h▸hg))).cls rfl).imp (fun _ _ _=>trivial)) (InsP.nil (fun _=>True) x none).at (by have:=HK.out.len;have:=HLL.out;omega) (by simp))
  clear hru hru' t1 t2 t3 t4 t5 hAl
  go_upto_region 12 with fail
  refine U2 [0,0,0,0,0,0,0,0,0,0,0,6,0,2] [gu] (Zo [gu] w6) [0,1,2,3,4,5,6,7,8,9,10,11,12,13] (Ki _) (Hx _) (by kernel_rfl) (by kernel_rfl) ?_
  simp only [Vv,List.filterMap_cons,List.filterMap_nil,List.getElem?_cons_zero,List.getElem?_cons_succ]
  refine Yh 11 (by decide) (by rfl) ?_
  simp only [List.take_succ_cons,List.take_zero,List.drop_succ_cons,List.drop_zero]
  refine Qb 11 (by kernel_rfl) (by rfl) ?_
  apply Exists.intro
  refine ⟨fun z hz=>?_,?_⟩
  ·have f0:=Q6 hz A5.out (by simpa using HGC.out)
   clear hz
   simp only [List.take_succ_cons,List.take_zero]
   unfold Cx
   repeat (go_big_quiet_step (fail))
   exact wpQuiet_nil rfl
  simp only [List.drop_succ_cons,List.drop_zero]
  refine Qf ?_
  refine Xw (f:=42) (vs:=#[.slice pK K.length cK,.slice none 0 0]) [] (fun val Bn=>(∃ p1 n1 c1 p2 n2 c2,val = .agg #[.slice p1 n1 c1,.slice p2 n2 c2])∧Bn gu=some (.cells (A++[a1,a2]++tl).toArray 104 (0,0))) (by rfl) (fun g hg=>by simp at hg;rw [hg];exact HLU.out) (Ki _) (fun g o h=>V5 h) (fun g hg=>by cases hg) (fun x=>by go_simp) (fun x hx hB=>(KCL.out x hx).mono (fun e w' ⟨p1,n1,c1,p2,n2,c2,he,hb⟩=>⟨_,he,(Q4 hb).mono (by simp),⟨p1,n1,c1,p2,n2,c2,rfl⟩,by
   have h1:x.heap[gu]?=some (.cells (A++[a1,a2]++tl).toArray 104 (0,0)):=hB gu _ (by rw [Hq (by simp)];exact HT1.out)
   rw [Yv (.inl (by simp))]
   exact (Q4 hb).keep h1 (by simp)⟩)) (fun val Bn hR hf hn=>?_)
  obtain ⟨⟨p1,n1,c1,p2,n2,c2,rfl⟩,hbn⟩:=hR
  unfold Qk
  go_big_quiet_step (fail)
  refine wpQuiet_nil ?_
  have g1:decide (kn<kn+1)=true:=decide_eq_true (by omega)
  have g2:decide ((kn:Int)<(kn:Int)+1)=true:=decide_eq_true (by omega)
  refine Yh 2 (by decide) (by rfl) ?_
  simp only [List.take_succ_cons,List.take_zero,List.drop_succ_cons,List.drop_zero]
  refine Qb 1 (by kernel_rfl) (by rfl) ?_
  apply Exists.intro
  refine ⟨fun z hz=>?_,?_⟩
  ·clear hz
   simp only [List.take_succ_cons,List.take_zero]
   unfold Cx
   repeat (go_big_quiet_step (fail))
   exact wpQuiet_nil rfl
  simp only [List.drop_succ_cons,List.drop_zero]
  refine Zp gu (kn*2) A tl [a1,a2] [.slice p1 n1 c1,.slice p2 n2 c2] (.agg #[.slice p1 n1 c1,.slice p2 n2 c2]) 104 (by rfl) (by rfl) HAL.out (by rfl) rfl rfl (Blocks.over_some hbn) (.inl (by simp)) (by kernel_rfl) rfl ?_
  refine Qf ?_
  unfold Kc
  intro w7 hx7 hB7
  have hn7:=hB7 gu _ (Blocks.put_same _ _ _)
  have HS7:=Lib.hid (HS6.out.claims_set hx7 (by simp [Q7]) (cl:=A++[.slice p1 n1 c1,.slice p2 n2 c2]) (by
   rw [HLK.out]
   exact Ak hn7 (by have:=HT2.out;simp at this ⊢;omega) HT3.out HT4.out (by simp;have:=HAL.out;omega)))
  have HGE2:=HGE.out
  have HW4:=HK.out.be.size
  have HLB:=Lib.hid (show ∀ b∈Jc gc gl gd v2 (.slice (some ⟨gu,0,none⟩) (kn+1) cu),w.heap.size+5≤b from fun b hb=>by
   rcases HL6.out.sub b hb with h | h
   ·rcases Qv.1 h with rfl | rfl | rfl | h | h
    ·omega
    ·omega
    ·omega
    ·simp [Q7] at h
    ·simp [Q7] at h
   ·omega)
  have HGUL:=Lib.hid (show w.heap.size+5≤gu from HLB.out gu (Qv.2 (.inr (.inr (.inr (.inr (by simp [Q7])))))))
  have HLOW:=Lib.hid (show ∀ b o,b<w.heap.size+5→w3.heap[b]?=some o→w7.heap[b]?=some o from fun b o hb h=>by
   have h4:=(Q4 HK.out.be).keep h (by simp)
   have h6:=HL6.out.be.keep h4 (fun h=>by
    rcases Qv.1 h with rfl | rfl | rfl | h | h
    ·omega
    ·omega
    ·omega
    ·simp [Q7] at h
    ·simp [Q7] at h)
   exact hx7.keep h6 (by have:=HGUL.out;simp;omega))
  have Z0:=Lib.hid (Q5 (HLOW.out _ _ (by omega) V0.out) 0 rfl)
  have Z2:=Lib.hid (HLOW.out _ _ (by omega) V2.out)
  have Z3:=Lib.hid (HLOW.out _ _ (by omega) V3.out)
  have Z4:=Lib.hid (HLOW.out _ _ (by omega) V4.out)
  have HB7:=Lib.hid (show Below w.heap.size w w7 from ((HB3.out.trans (HK.out.be.mono HB3.out.size)).trans (HL6.out.be.below_of (b:=w.heap.size) (fun b h=>by
    rcases Qv.1 h with rfl | rfl | rfl | h | h
    ·omega
    ·omega
    ·omega
    ·simp [Q7] at h
    ·simp [Q7] at h) (by omega))).trans (hx7.below_of (b:=w.heap.size) (by have:=HGUL.out;simp;omega) (by have:=HL6.out.be.size;omega)))
  obtain ⟨pv,cv,hv2⟩:=HS7.out.sv.1
  rw [HLK.out] at hv2
  subst hv2
  have G4:=Lib.hid (Q5 HS7.out.blk 4 rfl)
  have G5:=Lib.hid (Q5 HS7.out.blk 5 rfl)
  have HGCL:=Lib.hid (show w.heap.size+5≤gc by omega)
  have n23:w.heap.size+1+1≠w.heap.size+1+1+1:=by omega
  have n24:w.heap.size+1+1≠w.heap.size+1+1+1+1:=by omega
  have n34:w.heap.size+1+1+1≠w.heap.size+1+1+1+1:=by omega
  have N23:=Lib.hid n23
  have N24:=Lib.hid n24
  have N34:=Lib.hid n34
  clear n23 n24 n34 HGE2 HW4 hx7 hB7 hn7 hbn hn hf
  go_upto_region 13 with fail
  refine Qo [0,0,0,0,0,0,0,0,0,0,0,2,2,2] [w.heap.size+1+1,w.heap.size+1+1+1,w.heap.size+1+1+1+1] (Zo [w.heap.size+1+1,w.heap.size+1+1+1,w.heap.size+1+1+1+1] w7) (Ki _) (Hx _) (by kernel_rfl) (by kernel_rfl) ?_
  refine Qb 11 (by kernel_rfl) (by rfl) ?_
  apply Exists.intro
  refine ⟨fun z hz=>?_,?_⟩
  ·have f0:=Q6 hz Z0.out (by simp;omega)
   have f1:=Q6 hz G4.out (by have:=HGCL.out;simp;omega)
   have f2:=Q6 hz G5.out (by have:=HGCL.out;simp;omega)
   clear hz
   simp only [List.take_succ_cons,List.take_zero]
   unfold Cx
   repeat (go_big_quiet_step (fail))
   exact wpQuiet_nil rfl
  simp only [List.drop_succ_cons,List.drop_zero]
  refine Qh (w.heap.size+1+1) #[.int .i64 (n:Nat),.slice pv (kn+1) cv] #[.int .i64 0,.slice none 0 0] 33 (by rfl) (by rfl) (by rfl) (by rw [Hq (by simp)];exact Z2.out) rfl (.inl (by simp)) (by kernel_rfl) (by simp [Value.oneCell']) ?_
  refine Zp (w.heap.size+1+1+1) 0 [] [] [.slice none 0 0] [.slice (some ⟨gu,0,none⟩) (kn+1) cu] (.slice (some ⟨gu,0,none⟩) (kn+1) cu) 34 (by rfl) (by rfl) rfl (by rfl) rfl rfl ((Blocks.put_other _ _ N23.out.symm).trans (by rw [Hq (by simp)];exact Z3.out)) (.inl (by simp)) (by kernel_rfl) rfl ?_
  refine Zp (w.heap.size+1+1+1+1) 0 [] [] [.int .i64 0] [.int .i64 0] (.int .i64 0) 39 (by rfl) (by rfl) rfl (by rfl) rfl rfl ((Blocks.put_other _ _ N34.out.symm).trans ((Blocks.put_other _ _ N24.out.symm).trans (by rw [Hq (by simp)];exact Z4.out))) (.inl (by simp)) (by kernel_rfl) rfl ?_
  refine Qf ?_
  intro w8 hx8 hB8
  have K4:=Lib.hid (hB8 _ _ (Blocks.put_same _ _ _))
  have K3:=Lib.hid (hB8 _ _ ((Blocks.put_other _ _ N34.out).trans (Blocks.put_same _ _ _)))
  have K2:=Lib.hid (hB8 _ _ ((Blocks.put_other _ _ N24.out).trans ((Blocks.put_other _ _ N23.out).trans (Blocks.put_same _ _ _))))
  have hout:∀ b,w.heap.size+5≤b→b∉[w.heap.size+1+1,w.heap.size+1+1+1,w.heap.size+1+1+1+1]:=fun b hb=>by simp;omega
  have HF:=Lib.hid (HP.out (.slice pv (kn+1) cv) (.slice (some ⟨gu,0,none⟩) (kn+1) cu) ns2 w8 ⟨(HS7.out.nodes.keep hx8 (fun b hb=>⟨fun h=>hout b (HLB.out b (Qv.2 (.inr (.inr (.inr (.inl h)))))) hb,fun h=>(h.2 (by rw [HFD.out];simp at hb;omega)).elim⟩)).imp (fun b _ h=>by have h2:=h.2;rw [HFD.out] at h2;omega),by
   obtain ⟨cl,hcl⟩:=HS7.out.claims
   exact ⟨cl,hcl.keep hx8 (fun b hb h=>hout b (HLB.out b (Qv.2 (.inr (.inr (.inr (.inr hb)))))) h)⟩,HS7.out.net,HRT.out.pos,HRT.out.sem,HRT.out.own,HRT.out.len,HB7.out.trans (hx8.below_of (b:=w.heap.size) (by simp;omega) HB7.out.size)⟩)
  clear hx8 hB8 hout
  go_wp2_with fail
  exact comp_ends (w.heap.size+1+1) (w.heap.size+1+1+1) (w.heap.size+1+1+1+1) _ Post w8 _ _ _ _ rfl rfl rfl K2.out K3.out K4.out HF.out
 case first =>
  by_cases hK:K=[]
  ·have hd0:K.length=0:=by rw [hK];rfl
   have hd1:decide ((K.length:Int)=0)=true:=decide_eq_true (by omega)
   have hd2:((K.length:Int) == 0)=true:=by simp [hd0]
   have hd3:decide (K.length=0)=true:=decide_eq_true hd0
   obtain ⟨hng,hme⟩:=add_true (NetG.nil n)
   have hcs:=HCS3.out.below HK.out.be
   have KA:=Lib.hid (Q4f F N gc n gl gd cache (.slice none 0 0) (.slice none 0 0) [] ⟨1,0,[]⟩ none 0 none 0 0 none 0 0 w4 hcs (InsP.nil _ _ _) (by simp) hng)
   have HRT:=Lib.hid (show RootP [⟨1,0,[]⟩] L from RootP.of (M:=lcs K) (by rw [hK];exact hme) (by simp) (by simp) HK.out.norm)
   clear hng hme hcs hK hd0
   go_wp2_with fail
   refine KA.out.mono ?_
   rintro e w5 ⟨v',u',rfl,hs5,hl5⟩
   have HS5:=Lib.hid hs5
   have HB5:=Lib.hid hl5
   clear hs5 hl5 KA
   go_wp2_with fail
   go_meet
   case rel=>exact ⟨v',u',_,HS5.out,HB5.out,HRT.out⟩
  ·have hK0:0<K.length:=List.length_pos_iff.2 hK
   have hd1:decide ((K.length:Int)=0)=false:=decide_eq_false (by omega)
   have hd2:((K.length:Int) == 0)=false:=J7 (by omega)
   have hd3:decide (K.length=0)=false:=decide_eq_false (by omega)
   have hcs:=HCS3.out.below HK.out.be
   have hge:=HGE.out
   have hok:∀ b,w3.heap.size≤b→okC F gc gl gd (.slice none 0 0) (.slice none 0 0) b:=fun b hb=>⟨fun h=>by have:=HCS3.out.lt b h;omega,fun h=>by rw [HFD.out] at h;omega⟩
   have hnv:=nv_le n (lcs K)
   have hfb:fbI (nvI n (lcs K))≤fbI 12:=Ab (by omega)
   have hfb2:fbI 12=24571:=by decide
   have KF:=Lib.hid (gFit N gc n gl gd cache (nvI n (lcs K)) F (.slice none 0 0) (.slice none 0 0) [] K pK cK none [] 0 w4 (Nat.le_refl _) ⟨HT.out.on ((HB3.out.trans (HK.out.be.mono HB3.out.size)).mono HN.out) (Nat.le_refl _),hcs,(HK.out.row.cls rfl).imp (fun g _ hk=>hok g (HK.out.fr g hk)),fun e he=>(HK.out.ces e he).imp (fun g _ hk=>hok g hk.1),HK.out.norm.ok HOK.out,HK.out.by',by have:=HK.out.len;have:=HLL.out;omega,hK,InsP.nil _ _ _,by simp only [List.length_nil];omega,by simp only [List.length_nil];omega,by omega⟩)
   have HFB:=Lib.hid (show fbI (nvI n (lcs K))≤24571 by omega)
   clear hcs hge hok hnv hfb hfb2 hK
   go_wp2_with fail
   refine KF.out.mono ?_
   rintro e w5 ⟨v7,ks,v2,u2,ns2,rfl,hfp⟩
   obtain ⟨g7,c7,hv7⟩:∃ g7 c7,v7 = .slice (some ⟨g7,0,none⟩) ks.length c7:=by
    rcases hfp.row.two with ⟨_,h,_⟩ | h
    ·have:=List.length_pos_iff.2 hfp.ne;omega
    ·exact h
   subst hv7
   have HFP:=Lib.hid hfp
   have hns:ns2.length≤24571:=by
    have h:=hfp.len
    rw [List.length_nil,Nat.zero_add] at h
    exact Nat.le_trans h HFB.out
   have hk0:0<ks.length:=List.length_pos_iff.2 hfp.ne
   have HB5:=Lib.hid (((Q4 HK.out.be).mono (by simp)).trans hfp.la.be (fun b hb=>.inl hb))
   have A0:=Lib.hid (Q5 hfp.cs.blk 4 rfl)
   obtain ⟨cl,hrw,hnd⟩:=hfp.cs.nodes
   have HRW:=Lib.hid hrw
   have HND:=Lib.hid hnd
   clear hfp KF hrw hnd
   have HSUB:=Lib.hid (show ∀ b∈Jc gc gl gd v2 u2,b∈Jc gc gl gd (.slice none 0 0) (.slice none 0 0)∨w3.heap.size≤b from fun b hb=>(HFP.out.la.sub b hb).imp id (fun h=>by have:=HK.out.be.size;omega))
   obtain ⟨hng,hme⟩:=Part.and HFP.out.cs.net HFP.out.part (by have:=HFP.out.kl;omega)
   have HRA:=Lib.hid (show RootP (ns2++[⟨3,0,ks⟩]) L from RootP.of hme (by simp) (by simp;omega) HK.out.norm)
   have HAND:=Lib.hid (fun (w6:World) (hb:Below w5.heap.size w5 w6)=>Q4f F N gc n gl gd cache v2 u2 ns2 ⟨3,0,ks⟩ (some ⟨g7,0,none⟩) c7 none 0 0 none 0 0 w6 (HFP.out.cs.below hb) ((HFP.out.row.keep (Q4 hb) (by simp)).insF.imp (fun g _ hk=>⟨(HFP.out.fr g hk).2,fun h=>by
    rw [HFD.out] at h
    have:=(HFP.out.fr g hk).1;have:=HGE.out;have:=HK.out.be.size;omega⟩)) (by omega) hng)
   clear hng hme
   by_cases h1:1<ks.length
   ·have e1:decide ((1:Int)<(ks.length:Int))=true:=decide_eq_true (by omega)
    have e2:decide (1<ks.length)=true:=decide_eq_true h1
    go_upto_region 10 with fail
    refine Qo [0,0,0,0,0,0,0,0,0,0,0,0,0,0,0,0,0,0,0,0,0] [] B0 Qu (Qi _) (by kernel_rfl) (by kernel_rfl) ?_
    refine Qb 21 (by kernel_rfl) (by rfl) ?_
    apply Exists.intro
    refine ⟨fun z hz=>?_,?_⟩
    ·clear hz
     simp only [List.take_succ_cons,List.take_zero]
     unfold Cx
     repeat (go_big_quiet_step (fail))
     exact wpQuiet_nil rfl
    simp only [List.drop_succ_cons,List.drop_zero]
    refine Qf ?_
    intro w6 hx6 _
    have HB6:=Lib.hid hx6.below
    clear hx6
    have KA:=Lib.hid (HAND.out w6 HB6.out)
    go_wp2_with fail
    refine KA.out.mono ?_
    rintro e w7 ⟨v',u',rfl,hs7,hl7⟩
    have HS7:=Lib.hid hs7
    have HB7:=Lib.hid ((HFP.out.la.trans (Later.of_below HB6.out)).trans hl7)
    clear hs7 hl7 KA
    go_wp2_with fail
    go_meet
    case rel=>exact ⟨v',u',_,HS7.out,HB7.out,HRA.out⟩
   ·obtain ⟨k,hks⟩:∃ k,ks=[k]:=List.length_eq_one_iff.1 (by omega)
    have hone:=HFP.out.one k hks
    have hkl:=HFP.out.part.lt k (by rw [hks];simp)
    obtain ⟨kn,rfl⟩:∃ kn:Nat,k=kn:=⟨k.toNat,by omega⟩
    rw [Int.toNat_natCast] at hone hkl
    obtain ⟨g,hg⟩:∃ g,ns2[kn]?=some g:=⟨_,List.getElem?_eq_getElem hkl.2⟩
    obtain ⟨pg,cg,n1,_⟩:=HND.out kn g hg
    obtain ⟨gv,cv,hv2⟩:∃ gv cv,v2 = .slice (some ⟨gv,0,none⟩) ns2.length cv:=by
     rcases HRW.out.two with ⟨_,h,_⟩ | h
     ·omega
     ·exact h
    subst hv2
    have HKC:=Lib.hid (show w5.cell? ⟨g7,0,none⟩=some (.int .i64 (kn:Nat)) from HFP.out.row.cell (k:=0) (by rw [hks];rfl))
    have HNC:=Lib.hid (show w5.cell? ⟨gv,kn*3,none⟩=some (.int .i64 g.k) from HRW.out.cell n1)
    have e1:decide ((1:Int)<(ks.length:Int))=false:=decide_eq_false (by omega)
    have e2:decide (1<ks.length)=false:=decide_eq_false (by omega)
    have e3:decide (kn<ns2.length)=true:=decide_eq_true hkl.2
    have e4:decide ((kn:Int)<(ns2.length:Int))=true:=decide_eq_true (by omega)
    have hkn:=hkl.2
    have HRC:=Lib.hid (show RootP ns2 L from RootP.of (i:=kn) (M:=lcs K) ⟨hkl.2,fun a=>by have:=HFP.out.part.sem a;rw [hks] at this;simpa [thB] using this.symm,fun v hv=>(HFP.out.part.own (kn:Int) (by rw [hks];simp) v (by simpa using hv)).1⟩ (by simp at hone;omega) (by omega) HK.out.norm)
    have HLK:=Lib.hid (show ns2.length=kn+1 by simp at hone;omega)
    have hkb:kn≤24571:=by have:=HLK.out;omega
    clear hks hone hkl hg n1
    by_cases h2:1<K.length
    ·have e5:decide ((1:Int)<(K.length:Int))=true:=decide_eq_true (by omega)
     have e6:decide (1<K.length)=true:=decide_eq_true h2
     by_cases h3:g.k=2
     ·have e7:decide (g.k=2)=true:=decide_eq_true h3
      have e8:(g.k == 2)=true:=by simp [h3]
      clear h3
      go_upto_region 10 with fail
      refine Qo [0,0,0,0,0,0,0,0,0,0,0,0,0,0,0,0,0,0,0,0,0] [] B0 Qu (Qi _) (by kernel_rfl) (by kernel_rfl) ?_
      refine Qb 21 (by kernel_rfl) (by rfl) ?_
      apply Exists.intro
      refine ⟨fun z hz=>?_,?_⟩
      ·have f0:=Q6 hz A0.out (by simp)
       have f1:=Q6 hz HKC.out (by simp)
       have f2:=Q6 hz HNC.out (by simp)
       clear hz
       simp only [List.take_succ_cons,List.take_zero]
       unfold Cx
       repeat (go_big_quiet_step (fail))
       exact wpQuiet_nil rfl
      simp only [List.drop_succ_cons,List.drop_zero]
      refine Qf ?_
      intro w6 hx6 _
      have HB6:=Lib.hid hx6.below
      clear hx6
      have KA:=Lib.hid (HAND.out w6 HB6.out)
      go_wp2_with fail
      refine KA.out.mono ?_
      rintro e w7 ⟨v',u',rfl,hs7,hl7⟩
      have HS7:=Lib.hid hs7
      have HB7:=Lib.hid ((HFP.out.la.trans (Later.of_below HB6.out)).trans hl7)
      clear hs7 hl7 KA
      go_wp2_with fail
      go_meet
      case rel=>exact ⟨v',u',_,HS7.out,HB7.out,HRA.out⟩
     ·have e7:decide (g.k=2)=false:=decide_eq_false h3
      have e8:(g.k == 2)=false:=J7 h3
      go_upto_region 10 with fail
      refine Qo [0,0,0,0,0,0,0,0,0,0,0,0,0,0,0,0,0,0,0,0,0] [] B0 Qu (Qi _) (by kernel_rfl) (by kernel_rfl) ?_
      refine Qb 21 (by kernel_rfl) (by rfl) ?_
      apply Exists.intro
      refine ⟨fun z hz=>?_,?_⟩
      ·have f0:=Q6 hz A0.out (by simp)
       have f1:=Q6 hz HKC.out (by simp)
       have f2:=Q6 hz HNC.out (by simp)
       clear hz
       simp only [List.take_succ_cons,List.take_zero]
       unfold Cx
       repeat (go_big_quiet_step (fail))
       exact wpQuiet_nil rfl
      simp only [List.drop_succ_cons,List.drop_zero]
      refine Qf ?_
      intro w6 hx6 _
      have HB6:=Lib.hid hx6.below
      clear hx6
      have HS6:=Lib.hid (HFP.out.cs.below HB6.out)
      have HL6:=Lib.hid (HFP.out.la.trans (Later.of_below HB6.out))
      go_wp2_with fail
      go_meet
      case rel=>exact ⟨_,u2,ns2,HS6.out,HL6.out,HRC.out⟩
    ·have e5:decide ((1:Int)<(K.length:Int))=false:=decide_eq_false (by omega)
     have e6:decide (1<K.length)=false:=decide_eq_false h2
     go_upto_region 10 with fail
     refine Qo [0,0,0,0,0,0,0,0,0,0,0,0,0,0,0,0,0,0,0,0,0] [] B0 Qu (Qi _) (by kernel_rfl) (by kernel_rfl) ?_
     refine Qb 21 (by kernel_rfl) (by rfl) ?_
     apply Exists.intro
     refine ⟨fun z hz=>?_,?_⟩
     ·clear hz
      simp only [List.take_succ_cons,List.take_zero]
      unfold Cx
      repeat (go_big_quiet_step (fail))
      exact wpQuiet_nil rfl
     simp only [List.drop_succ_cons,List.drop_zero]
     refine Qf ?_
     intro w6 hx6 _
     have HB6:=Lib.hid hx6.below
     clear hx6
     have HS6:=Lib.hid (HFP.out.cs.below HB6.out)
     have HL6:=Lib.hid (HFP.out.la.trans (Later.of_below HB6.out))
     go_wp2_with fail
     go_meet
     case rel=>exact ⟨_,u2,ns2,HS6.out,HL6.out,HRC.out⟩
end
/- A node of a net is well formed. -/
section
open Go.RowKit Go.Sort
def NetAt (N:Nat) (w:World) (p:Option Addr) (ns:List Nd):Prop:=∀ i g,ns[i]?=some g→∃ b o q c,b<N∧p=some ⟨b,o,none⟩∧w.cell? ⟨b,o+i*3,none⟩=some (.int .i64 g.k)∧w.cell? ⟨b,o+i*3+1,none⟩=some (.int .i64 g.lit)∧w.cell? ⟨b,o+i*3+2,none⟩=some (.slice q g.ins.length c)∧AtN N w q (Qm g.ins)
theorem NetAt.below {N M:Nat} {w w':World} {p:Option Addr} {ns:List Nd} (h:NetAt N w p ns) (hb:Below M w w') (hM:N≤M):NetAt N w' p ns:=fun i g hg=>by
 obtain ⟨b,o,q,c,h1,h2,h3,h4,h5,h6⟩:=h i g hg
 exact ⟨b,o,q,c,h1,h2,Q8 hb (by omega) h3,Q8 hb (by omega) h4,Q8 hb (by omega) h5,h6.below hb hM⟩
theorem NetAt.mono {N M:Nat} {w:World} {p:Option Addr} {ns:List Nd} (h:NetAt N w p ns) (hM:N≤M):NetAt M w p ns:=fun i g hg=>by
 obtain ⟨b,o,q,c,h1,h2,h3,h4,h5,h6⟩:=h i g hg
 exact ⟨b,o,q,c,Nat.lt_of_lt_of_le h1 hM,h2,h3,h4,h5,h6.mono hM⟩
theorem NodeRow.net {ok:Nat→Prop} {w:World} {p:Option Addr} {m c:Nat} {ns:List Nd} (h:NodeRow ok w (.slice p m c) ns):NetAt w.heap.size w p ns:=fun i g hg=>by
 obtain ⟨cl,h1,h2⟩:=h
 obtain ⟨q,c2,k1,k2,k3,k4⟩:=h2 i g hg
 have hi:=(List.getElem?_eq_some_iff.1 hg).1
 rcases h1.two with ⟨_,h3,_⟩ | ⟨b,cap,e⟩
 ·omega
 ·cases e
  refine ⟨b,0,q,c2,Q9 (Q0q h1).choose_spec.1,rfl,?_,?_,?_,k4.at⟩
  ·rw [Nat.zero_add];exact h1.cell k1
  ·rw [Nat.zero_add];exact h1.cell k2
  ·rw [Nat.zero_add];exact h1.cell k3
set_option maxHeartbeats 1600000 in
set_option maxRecDepth 100000 in
theorem sFormed1 (x i:Int) (b:Nat) (w:World) (hc:w.cell? ⟨b,0,none⟩=some (.int .i64 i)):Calls Tryz.prog 120 #[.int .i64 x,.pointer (some ⟨b,0,none⟩)] w fun e w'=>e = .returned (.bool (decide (x<0)||decide (i≤x)))∧w'=w:=by
 by_cases h1:x<0
 ·have hd:decide (x<0)=true:=decide_eq_true h1
  go_enter Tryz.func120,Tryz.ntmps120
  go_wp2_with fail
  go_ret
  exact ⟨by rw [hd,Bool.true_or];rfl,rfl⟩
 ·have hd:decide (x<0)=false:=decide_eq_false h1
  by_cases h2:i≤x
  ·have hd2:decide (i≤x)=true:=decide_eq_true h2
   go_enter Tryz.func120,Tryz.ntmps120
   go_wp2_with fail
   go_ret
   exact ⟨rfl,rfl⟩
  ·have hd2:decide (i≤x)=false:=decide_eq_false h2
   go_enter Tryz.func120,Tryz.ntmps120
   go_wp2_with fail
   go_ret
   exact ⟨rfl,rfl⟩
theorem Q5z (t:List Int) (i:Int) (b:Nat) (N:Nat) (ta:Option Addr) (tc:Nat) (w:World) (hT:AtN N w ta (Qm t)) (hl:t.length≤100000000000000) (hb:b<w.heap.size) (hc:w.cell? ⟨b,0,none⟩=some (.int .i64 i)) :
  Calls Tryz.prog 119 #[.slice ta t.length tc,.func (.func 120) #[] #[.pointer (some ⟨b,0,none⟩)]] w fun e w'=>e = .returned (.bool (t.any fun x=>decide (x<0)||decide (i≤x)))∧∃ q,w'=w.drewN q:=by
 by_cases h0:t.length=0
 ·obtain rfl:t=[]:=List.length_eq_zero_iff.1 h0
  exact (Tryz.slices_ContainsFunc_empty (α:=Int) ta tc (.func (.func 120) #[] #[.pointer (some ⟨b,0,none⟩)]) w).mono fun e w' ⟨he,hw⟩=>⟨he,0,hw⟩
 ·obtain ⟨g,o,_,rfl,hcell⟩:=hT.base (by rw [show (Qm t).length=t.length by simp [Qm]];omega)
  have eg:∀ args w,(callFunc 120 args).run Tryz.prog w = .ok (.enter 120 args) w:=enters_of Tryz.func120 (by kernel_rfl) rfl
  have hp:PredAt Tryz.prog 120 #[.pointer (some ⟨b,0,none⟩)] (Value.int .i64) (fun x=>decide (x<0)||decide (i≤x)) w:=fun W x hW=>(sFormed1 x i b W (Q8 hW hb hc)).mono fun e w' ⟨he,hw⟩=>⟨he,0,hw⟩
  have h:=Tryz.slices_ContainsFunc (α:=Int) (Value.int .i64) (fun x=>decide (x<0)||decide (i≤x)) 120 #[.pointer (some ⟨b,0,none⟩)] eg g o t.length tc t w hp (Nat.le_refl _) (by omega) (fun j hj=>by
   have:=hcell j (.int .i64 (t.getD j 0)) (Jb _ _ _ (by simp [List.getD,hj]))
   rw [this]
   congr 2
   simp [List.getD,hj])
  rw [List.take_length] at h
  exact h
end
/- A node of a net is well formed: the walk. -/
section
open Go.RowKit Go.Sort
set_option maxHeartbeats 6400000 in
set_option maxRecDepth 100000 in
theorem gFormed (n i:Nat) (hn:n≤128) (g:Nd) (h:NdOk n i g) (q:Option Addr) (c:Nat) (w:World) (hA:AtN w.heap.size w q (Qm g.ins)) (hl:g.ins.length≤1000000000) :
  Calls Tryz.prog 81 #[.agg #[.int .i64 g.k,.int .i64 g.lit,.slice q g.ins.length c],.int .i64 n,.int .i64 i] w fun e w'=>e = .returned (.bool true)∧Below w.heap.size w w':=by
 obtain ⟨Post,hPost⟩:∃ P:Ending→World→Prop,P=fun e w'=>e = .returned (.bool true)∧Below w.heap.size w w':=⟨_,rfl⟩
 rw [←hPost]
 have HP:=Lib.hid (show ∀ (w':World),Below w.heap.size w w'→Post (.returned (.bool true)) w' from fun w' h=>by rw [hPost];exact ⟨rfl,h⟩)
 have HA:=Lib.hid hA
 have hany:(g.ins.any fun x=>decide (x<0)||decide ((i:Int)≤x))=false:=by
  rw [List.any_eq_false]
  intro x hx
  have:=h.ins x hx
  simp;omega
 obtain ⟨gk,gl,gi⟩:=g
 dsimp only at *
 have hk:=h.kind
 have HZ:=Lib.hid h.zero
 have HLF:=Lib.hid h.leaf
 have HLT:=Lib.hid h.lit
 dsimp only at hk
 have HANY:=Lib.hid hany
 clear hPost hA h hany
 have hcase:gk=0∨gk=1∨gk=2∨gk=3∨gk=4:=by omega
 clear hk
 go_enter Tryz.func81,Tryz.ntmps81
 go_upto_region 1 with fail
 refine Qg ?_
 intro w1 hw1
 obtain ⟨A0,A1,A2,A3⟩:=Au w (Obj.cells #[Value.int IntKind.i64 gk,Value.int IntKind.i64 gl,Value.slice q gi.length c] 102) (Obj.cells #[Value.int IntKind.i64 (i:Nat)] 3)
 rw [←hw1] at A0 A1 A2 A3
 have KC:=Q5z gi (i:Int) (w.heap.size+1) w.heap.size q c w1 (HA.out.below A2 (Nat.le_refl _)) (by omega) (by omega) (Q5 A1 0 rfl)
 rw [HANY.out] at KC
 have HKC:=Lib.hid KC
 have H0:=Lib.hid A0
 have HB:=Lib.hid A2
 have c2:=Q5 A0 2 rfl
 clear A0 A1 A2 A3 hw1 KC
 go_wp2_with fail
 refine HKC.out.mono ?_
 rintro e w2 ⟨rfl,k,hk⟩
 have hb2:Below w1.heap.size w1 w2:=by rw [hk];exact Q6p k
 have HB2:=Lib.hid (HB.out.trans (hb2.mono HB.out.size))
 have H2:=Lib.hid ((Q4 hb2).keep H0.out (by simp))
 have d0:=Q5 H2.out 0 rfl
 have d1:=Q5 H2.out 1 rfl
 have d2:=Q5 H2.out 2 rfl
 clear hk hb2 c2 HKC
 rcases hcase with rfl | rfl | rfl | rfl | rfl
 ·obtain rfl:gl=0:=HZ.out (by decide)
  obtain rfl:gi=[]:=HLF.out (by decide) (by decide)
  go_wp2_with fail
  exact HP.out _ HB2.out
 ·obtain rfl:gl=0:=HZ.out (by decide)
  obtain rfl:gi=[]:=HLF.out (by decide) (by decide)
  go_wp2_with fail
  exact HP.out _ HB2.out
 ·obtain rfl:gi=[]:=HLF.out (by decide) (by decide)
  have KV:=sValid gl n (by omega) w2
  have hlit:Jk gl (n:Int)=true:=Kf.2 (by have:=HLT.out rfl;omega)
  rw [hlit] at KV
  go_wp2_with fail
  refine KV.mono ?_
  rintro e w3 ⟨rfl,rfl⟩
  go_wp2_with fail
  exact HP.out _ HB2.out
 ·obtain rfl:gl=0:=HZ.out (by decide)
  go_wp2_with fail
  exact HP.out _ HB2.out
 ·obtain rfl:gl=0:=HZ.out (by decide)
  go_wp2_with fail
  exact HP.out _ HB2.out
end
end Go.Proofs.YtcpehljpegfckaaGreatDoor
