/- Texts of this claim,joined: EC5,EB2. -/
import Derived.Test.YtcpehljpegfckaaGreatDoorMT45
import Derived.Test.YtcpehljpegfckaaGreatDoorMT47
import Derived.Deep.DeepCutAuto
import Derived.Test.YtcpehljpegfckaaGreatDoorMT43
/- hash.Cell. -/
namespace Go.Proofs.YtcpehljpegfckaaGreatDoor
section
open Go.RowKit Go.Sort Num
theorem pas_of {w:World} {v:Value} {l:List Pa} (h:RowV (inW w) 116 3 v l.length (Yd l)):∃ p c,v = .slice p l.length c∧PasAt w.heap.size w p l:=by
 by_cases h0:l.length=0
 ·obtain ⟨p,c,hv⟩:=h.slice
  refine ⟨p,c,hv,fun i q hq=>?_⟩
  rw [List.length_eq_zero_iff.1 h0] at hq
  simp at hq
 ·obtain ⟨g,cap,xs,rfl,hB,_,hr⟩:=row3_of h (by omega)
  refine ⟨_,_,rfl,fun i q hq=>?_⟩
  have hi:=(List.getElem?_eq_some_iff.1 hq).1
  have:=hr.2 i hi
  dsimp only at this
  rw [List.getD_eq_getElem?_getD,hq] at this
  refine ⟨g,0,Q9 hB,rfl,?_,?_,?_⟩
  ·rw [Nat.zero_add];exact Q5 hB _ this.1
  ·rw [Nat.zero_add];exact Q5 hB _ this.2.1
  ·rw [Nat.zero_add];exact Q5 hB _ this.2.2
theorem sub_in {n:Nat} {p:Pa} (h:inP n p):Q0b p.vs (Qy n)=true:=by
 unfold Q0b
 rw [List.all_eq_true]
 intro v _
 cases hv:p.vs v with
 | false=>rfl
 | true =>
  have:=h v hv
  show (!true||Qy n v)=true
  unfold Qy
  simp;omega
theorem far_in {n:Nat} (hn:n≤12) {p:Pa} (h:inP n p):Q0c p:=fun v hv=>by
 cases hb:p.vs v with
 | false=>rfl
 | true=>have:=h v hb;omega
theorem Q03:Qj 0 = .agg #[.string ⟨#[]⟩]:=by unfold Qj;rw [Num.nb_zero];rfl
def bI (b:Bool):Int:=if b then 1 else 0
theorem bit_and {s i:Nat} (hs:s<4) (hi:i<2):bits BinOp.and IntKind.i64 ((s:Int)/2^i) 1=bI (s.testBit i):=by
 have h1:s=0∨s=1∨s=2∨s=3:=by omega
 have h2:i=0∨i=1:=by omega
 rcases h1 with rfl | rfl | rfl | rfl<;>rcases h2 with rfl | rfl<;>rfl
theorem wrap_pow4 {r:Nat} (h:r≤2):wrap64 ((2:Int)^r)=((2^r:Nat):Int):=by
 have:r=0∨r=1∨r=2:=by omega
 rcases this with rfl | rfl | rfl<;>exact Go.IntWalk.wrap64_in _ (by decide)
theorem inV_upto (n:Nat) (o:Nat→Bool):inV n (fun v=>Qy n v&&!o v)=inV n (fun v=>!o v):=by
 unfold inV
 refine List.filter_congr fun v hv=>?_
 simp only [List.mem_range'_1] at hv
 rw [show Qy n v=true by unfold Qy;simp;omega,Bool.true_and]
theorem Q33 {n:Nat} {ns:List Nd} (hN:Ze n ns) (hpos:0<ns.length) {f:Asg→Bool} (hf:∀ a,Yf ns (ns.length-1) a=f a):Dep f (fun v=>decide (1≤v∧v≤n)):=fun a b h=>by
 rw [←hf,←hf]
 exact Wy hN _ (by omega) a b fun v hv=>h v (decide_eq_true (Uw hN _ (by omega) v hv))
theorem cnt_pair {n:Nat} (hn:n≤128) {ns:List Nd} (hN:Ze n ns) (hD:Zm ns) (hT:Xq ns) (hpos:0<ns.length) {f:Asg→Bool} (hf:∀ a,Yf ns (ns.length-1) a=f a) {p:Pa} (hp:inP n p) :
  pairS.mul (pV p.vs n ns (ns.length-1)) (Kh pairS (Yl p.vs) (inV n fun v=>Qy n v&&!Ql ns (ns.length-1) v))=if p.odd then (lsN f n p,mrN f n p) else (mrN f n p,lsN f n p):=by
 rw [inV_upto,root_pair p.vs hN hD hT hpos (fun _=>false),←pair_cnt hn (Q33 hN hpos hf) hp (fun _=>false)]
 simp only [hf]
set_option maxHeartbeats 1600000 in
set_option maxRecDepth 100000 in
theorem gCell (n:Nat) (h4:n≤4) (L:List (List Int)) (aL:Option Addr) (cL:Nat) (l:List Pa) (hpos:0<l.length) (hl2:l.length≤2) (hin:∀ q∈l,inP n q) (gl c:Nat) {N:Nat} (w:World) (hP:Pow10 N w) (hZ:TzTab N w) (hN:N≤w.heap.size) (hA:ThAt w.heap.size w aL L) (hL:∀ xs∈L,xs.all (fun x=>Jk x n)=true∧xs.length≤12) (hLl:L.length<20) (h0:Kz n L=0) (hPA:PasAt w.heap.size w (some ⟨gl,0,none⟩) l) :
  Calls Tryz.prog 27 #[.agg #[.int .i64 n,.slice aL L.length cL],.slice (some ⟨gl,0,none⟩) l.length c] w fun e w'=>e = .returned (.tuple #[Qj (Om (fun a=>thB a L) n l),.int .i64 0])∧Below w.heap.size w w':=by
 obtain ⟨Post,hPost⟩:∃ P:Ending→World→Prop,P=fun e w'=>e = .returned (.tuple #[Qj (Om (fun a=>thB a L) n l),.int .i64 0])∧Below w.heap.size w w':=⟨_,rfl⟩
 rw [←hPost]
 obtain ⟨R,hR⟩:∃ R,R=Om (fun a=>thB a L) n l:=⟨_,rfl⟩
 rw [←hR] at hPost
 have HP:=Lib.hid (show ∀ w',Below w.heap.size w w'→Post (.returned (.tuple #[Qj R,.int .i64 0])) w' from fun w' h=>by rw [hPost];exact ⟨rfl,h⟩)
 have HR:=Lib.hid hR
 have HTH:=Lib.hid (fun (x:World) (hb:Below w.heap.size w x)=>Q62 n L aL cL x ((hA.below hb (Nat.le_refl _)).mono hb.size) (by omega))
 rw [h0] at HTH
 have HCP:=Lib.hid (fun (x:World) (hb:Below w.heap.size w x)=>Q82 N n (by omega) false L aL cL x (hP.on (hb.mono hN) (Nat.le_refl _)) (Nat.le_trans hN hb.size) ((hA.below hb (Nat.le_refl _)).mono hb.size) hL hLl h0)
 have HCO:=Lib.hid (fun (x:World) (hb:Below w.heap.size w x) (b:Nat) (hbx:b<x.heap.size) (hc:x.cell? ⟨b,0,none⟩=some (.int .i64 n))=>Q9a l (by omega) (some ⟨gl,0,none⟩) c n (by omega) b (fun q hq=>sub_in (hin q hq)) x ((hPA.below hb (Nat.le_refl _)).mono hb.size) hbx hc)
 have HRE:=Lib.hid (fun (x:World) (hb:Below w.heap.size w x)=>gReduced l hpos (by omega) (fun q hq=>far_in (by omega) (hin q hq)) gl c x ((hPA.below hb (Nat.le_refl _)).mono hb.size) (hZ.on (hb.mono hN) (Nat.le_refl _)) (Nat.le_trans hN hb.size))
 have HIN:=Lib.hid (show ∀ o,Zl l.length l []=some o→(∀ q∈o,inP n q)∧o.length≤2 from fun o ho=>by
  have:=redI_in l.length l [] hin (by simp) o ho
  exact ⟨this.1,by have:=this.2;simp at this;omega⟩)
 have HCN:=Lib.hid (fun (h:Zl l.length l []=none)=>cell_none (f:=fun a=>thB a L) (n:=n) h)
 have HCS:=Lib.hid (fun (o:List Pa) (h:Zl l.length l []=some o)=>cell_some (f:=fun a=>thB a L) (n:=n) h)
 rw [←hR] at HCN HCS
 obtain ⟨RED,hRED⟩:∃ RED,RED=Zl l.length l []:=⟨_,rfl⟩
 rw [←hRED] at HRE HIN HCN HCS
 have hmf:∀ (fn:Fn) (first cap:Array Value) (w:World),(Instr.makeFunc fn first cap).run Tryz.prog w = .ok (.func fn first cap) w:=fun _ _ _ _=>rfl
 have hm16:decide (16<l.length)=false:=decide_eq_false (by omega)
 have hm16':decide ((16:Int)<(l.length:Int))=false:=decide_eq_false (by omega)
 generalize l.length=m at *
 generalize L.length=ml at *
 clear hPost hR hRED hA hPA hP hZ hL hLl h0 hin hN
 go_enter Tryz.func27,Tryz.ntmps27
 go_upto_region 1 with fail
 refine Qg ?_
 intro w1 hw1
 have S1:=Lib.hid (show w1.heap[w.heap.size]?=some (.cells #[.int .i64 n,.slice aL ml cL] 24 (0,0)) by rw [hw1];exact Yp _ _ _)
 have R1:=Lib.hid (show w1.heap[w.heap.size+1]?=some (.cells #[.string ⟨#[]⟩] 38 (0,0)) by rw [hw1];exact Yn _ _ _)
 have HL1:=Lib.hid (show Below w.heap.size w w1 by rw [hw1];exact Jy _ _ _)
 clear hw1
 have q0:=Q5 S1.out 0 rfl
 have q1:=Q5 S1.out 1 rfl
 go_wp2_with fail
 refine (HTH.out w1 HL1.out).mono ?_
 rintro e w2 ⟨rfl,hb2⟩
 have S2:=Lib.hid ((Q4 hb2).keep S1.out (by simp))
 have R2:=Lib.hid ((Q4 hb2).keep R1.out (by simp))
 have HL2:=Lib.hid (HL1.out.trans (hb2.mono HL1.out.size))
 clear hb2 S1 R1 HL1 HTH q0 q1
 have KCO:=HCO.out w2 HL2.out w.heap.size (Q9 S2.out) (Q5 S2.out 0 rfl)
 go_wp2_with fail
 refine KCO.mono ?_
 rintro e w3 ⟨rfl,hb3⟩
 have S3:=Lib.hid ((Q4 hb3).keep S2.out (by simp))
 have R3:=Lib.hid ((Q4 hb3).keep R2.out (by simp))
 have HL3:=Lib.hid (HL2.out.trans (hb3.mono HL2.out.size))
 clear hb3 S2 R2 HL2 HCO KCO
 have q0:=Q5 S3.out 0 rfl
 have q1:=Q5 S3.out 1 rfl
 go_wp2_with fail
 refine (HCP.out w3 HL3.out).mono ?_
 rintro e w4 ⟨vN,uN,ns,rfl,hc4⟩
 obtain ⟨cl,hrow,hxx⟩:=hc4.nodes
 obtain ⟨pN,cN,hvN⟩:=hrow.slice
 subst hvN
 have HNA4:=Lib.hid hc4.nodes.net
 have HNG:=Lib.hid hc4.net
 have hkpos:=hc4.pos
 have hklen:=hc4.len
 have HROOT:=Lib.hid hc4.root
 have HL4:=Lib.hid (HL3.out.trans (hc4.be.mono HL3.out.size))
 have S4:=Lib.hid ((Q4 hc4.be).keep S3.out (by simp))
 have R4:=Lib.hid ((Q4 hc4.be).keep R3.out (by simp))
 have HVA:=Lib.hid (fun (x:World) (hb:Below w4.heap.size w4 x)=>Q5h n (by omega) ns HNG.out.ok hkpos hklen pN cN x ((HNA4.out.below hb (Nat.le_refl _)).mono hb.size))
 have HCH:=Lib.hid (fun (x:World) (hb:Below w4.heap.size w4 x) gc g (p:Pa) (hp:inP n p) h1 h2=>by
  have h:=gCountH n h4 ns HNG.out.ok HNG.out.de HNG.out.dt hkpos hklen pN cN gc g p.vs x h1 h2 ((HNA4.out.below hb (Nat.le_refl _)).mono hb.size)
  rw [cnt_pair (by omega) HNG.out.ok HNG.out.de HNG.out.dt hkpos HROOT.out hp] at h
  exact h)
 clear hc4 hrow hxx S3 R3 HL3 HCP q0 q1
 have HK:=Lib.hid (show ∃ k,k=ns.length from ⟨_,rfl⟩)
 obtain ⟨k,hk⟩:∃ k,k=ns.length:=⟨_,rfl⟩
 rw [←hk] at hkpos hklen HVA HCH ⊢
 have HKK:=Lib.hid hk
 clear hk HK
 go_upto_region 7 with fail
 refine Qg ?_
 intro w5 hw5
 obtain ⟨gn,hgn⟩:∃ gn,gn=w4.heap.size:=⟨_,rfl⟩
 have N5:=Lib.hid (show w5.heap[gn]?=some (.cells #[.int .i64 n,.slice pN k cN] 33 (0,0)) by rw [hw5,hgn];exact Qn _ _)
 have hb5:Below w4.heap.size w4 w5:=by rw [hw5];exact Qe _ _
 have S5:=Lib.hid ((Q4 hb5).keep S4.out (by simp))
 have R5:=Lib.hid ((Q4 hb5).keep R4.out (by simp))
 have HL5:=Lib.hid (HL4.out.trans (hb5.mono HL4.out.size))
 have HV5:=Lib.hid hb5
 rw [←hgn]
 have HGN:=Lib.hid hgn
 clear hw5 hb5 S4 R4 hgn
 go_wp2_with fail
 refine (HRE.out w5 HL5.out).mono ?_
 rintro e w6 ⟨hs6,hn6,hb6⟩
 have HL6:=Lib.hid (HL5.out.trans (hb6.mono HL5.out.size))
 have HV6:=Lib.hid (HV5.out.trans (hb6.mono HV5.out.size))
 have N6:=Lib.hid ((Q4 hb6).keep N5.out (by simp))
 have S6:=Lib.hid ((Q4 hb6).keep S5.out (by simp))
 have R6:=Lib.hid ((Q4 hb6).keep R5.out (by simp))
 clear hb6 N5 S5 R5 HL5 HV5 HRE HL4
 cases RED with
 | none =>
  obtain rfl:=hn6 rfl
  obtain rfl:=HCN.out rfl
  clear hs6 hn6 HIN HCN HCS
  have f0:=Qd R6.out 0
  have c0:=Q5 R6.out 0 rfl
  go_wp2_with fail
  refine bodyPost_ret (Or (p:=4) (u:=5) rfl _ _ (w.heap.size+1) _ _ (0,0) _ _ rfl (heap_setCell_same _ _ 0 _ _ _ R6.out) Tryz.underlying38 rfl Tryz.sizeNatE rfl) rfl ?_
  have HF:=HP.out _ (HL6.out.setCell (show w.heap.size≤(⟨w.heap.size+1,0,none⟩:Addr).block from Nat.le_succ _) (.string ⟨#[]⟩))
  rw [Q03] at HF
  exact HF
 | some o =>
  obtain ⟨v6,rfl,hr6,hg6⟩:=hs6 o rfl
  obtain ⟨pR,cR,hv6,hpas⟩:=pas_of hr6
  subst hv6
  have HPA6:=Lib.hid hpas
  obtain ⟨hino,hlo⟩:=HIN.out o rfl
  obtain ⟨hdiv,hle⟩:=HCS.out o rfl
  have HINO:=Lib.hid hino
  have hbm:Oc (fun a=>thB a L) n o (2^o.length)≤2^o.length*2^n:=Q1d (fun s=>mrN_le _ _ _) _
  obtain ⟨r,hr⟩:∃ r,r=o.length:=⟨_,rfl⟩
  rw [←hr] at hlo hdiv hle hbm ⊢
  have HRR:=Lib.hid hr
  have HDIV:=Lib.hid hdiv
  have HLE:=Lib.hid hle
  clear hs6 hn6 hr6 hg6 hpas hino hdiv hle HIN HCN HCS hr
  go_upto_region 12 with fail
  have Q0:=Lib.hid (Q5 N6.out 0 rfl)
  have Q1:=Lib.hid (Q5 N6.out 1 rfl)
  refine U2 [0,0,6,0,3,0] [] (Zo [] w6) [0,1,2,3,4,5] (Ki _) (Hx _) (by kernel_rfl) (by kernel_rfl) ?_
  simp only [Vv,List.filterMap_cons,List.filterMap_nil,List.getElem?_cons_zero,List.getElem?_cons_succ]
  refine Yh 2 (by decide) (by rfl) ?_
  simp only [List.take_succ_cons,List.take_zero,List.drop_succ_cons,List.drop_zero]
  refine Qb 2 (by kernel_rfl) (by rfl) ?_
  apply Exists.intro
  refine ⟨fun z hz=>?_,?_⟩
  ·have f0:=Q6 hz Q0.out (by simp)
   have f1:=Q6 hz Q1.out (by simp)
   clear hz
   simp only [List.take_succ_cons,List.take_zero]
   unfold Cx
   repeat (go_big_quiet_step (fail))
   exact wpQuiet_nil rfl
  simp only [List.drop_succ_cons,List.drop_zero]
  refine Qf ?_
  refine Xw (f:=46) (vs:=#[.agg #[.int .i64 n,.slice pN k cN]]) [] (fun val Bn=>∃ g,val = .slice (some ⟨g,0,none⟩) k k∧w6.heap.size≤g∧∀ y,Has Bn y→SetsAt y.heap.size y g k (Ql ns)) (by rfl) (fun g hg=>by cases hg) (Ki _) (fun g o h=>V5 h) (fun g hg=>by cases hg) (fun x=>by go_simp) (fun x hx hB=>(HVA.out x (HV6.out.trans (hx.below.mono HV6.out.size))).mono (fun e w' ⟨g,he,hg,hs,hb⟩=>⟨_,he,(Q4 hb).mono (by simp),g,rfl,Nat.le_trans hx.size hg,fun y hy=>by
   obtain ⟨o1,ho1⟩:∃ o1,w'.heap[g]?=some o1:=⟨_,Array.getElem?_eq_getElem hs.1⟩
   have hyg:=hy g o1 (by rw [Yv (.inr hg)];exact ho1)
   exact ⟨Q9 hyg,fun i hi=>⟨by rw [←(hs.2 i hi).1];exact Kb (hyg.trans ho1.symm),by rw [←(hs.2 i hi).2];exact Kb (hyg.trans ho1.symm)⟩⟩⟩)) (fun val Bn hR hf hn=>?_)
  obtain ⟨gv,rfl,hgv,hsets⟩:=hR
  unfold Qk
  go_big_quiet_step (fail)
  refine wpQuiet_nil ?_
  refine Yh 3 (by decide) (by rfl) ?_
  simp only [List.take_succ_cons,List.take_zero,List.drop_succ_cons,List.drop_zero]
  refine Qb 1 (by kernel_rfl) (by rfl) ?_
  apply Exists.intro
  refine ⟨fun z hz=>?_,?_⟩
  ·clear hz
   simp only [List.take_succ_cons,List.take_zero]
   unfold Cx
   repeat (go_big_quiet_step (fail))
   exact wpQuiet_nil rfl
  simp only [List.drop_succ_cons,List.drop_zero]
  refine Q7p #[.int .i64 n,.slice pN k cN,.slice (some ⟨gv,0,none⟩) k k] (by rfl) (by rfl) (fun gc q12 hn12=>?_)
  unfold Qk
  go_big_quiet_step (fail)
  refine wpQuiet_nil ?_
  refine Qb 1 (by kernel_rfl) (by rfl) ?_
  apply Exists.intro
  refine ⟨fun z hz=>?_,?_⟩
  ·clear hz
   simp only [List.take_succ_cons,List.take_zero]
   unfold Cx
   repeat (go_big_quiet_step (fail))
   exact wpQuiet_nil rfl
  simp only [List.drop_succ_cons,List.drop_zero]
  refine Qf ?_
  unfold Kc
  intro w7 hx7 hB7
  have C7:=Lib.hid (hB7 gc _ (Blocks.put_same _ _ _))
  have SE7:=Lib.hid (hsets w7 fun g o hg=>hB7 g o (by
   have hgc:g≠gc:=fun e=>by
    subst e
    rw [Blocks.over_some hg] at hn12
    cases hn12
   rw [Blocks.put_other _ _ hgc,Blocks.over_some hg]))
  have HL7:=Lib.hid (HL6.out.trans (hx7.below.mono HL6.out.size))
  have HV7:=Lib.hid (HV6.out.trans (hx7.below.mono HV6.out.size))
  have R7:=Lib.hid (hx7.keep R6.out (by simp))
  have PA7:=Lib.hid ((HPA6.out.below (hx7.below) (Nat.le_refl _)).mono hx7.size)
  clear hx7 hB7 hsets hn12 hf hn hgv q12 Q0 Q1 N6 S6 R6 HL6 HV6 HPA6 HVA
  go_upto_region 14 with fail
  refine Qg ?_
  intro w8 hw8
  obtain ⟨g3,hg3⟩:∃ g3,g3=w7.heap.size:=⟨_,rfl⟩
  have A8:=Lib.hid (show w8.heap[g3]?=some (.cells #[Y6 (Oc (fun a=>thB a L) n o 0)] 38 (0,0)) by rw [hw8,hg3,show Oc (fun a=>thB a L) n o 0=0 from rfl,Q0l];exact Yp _ _ _)
  have B8:=Lib.hid (show w8.heap[g3+1]?=some (.cells #[Y6 (On (fun a=>thB a L) n o 0)] 38 (0,0)) by rw [hw8,hg3,show On (fun a=>thB a L) n o 0=0 from rfl,Q0l];exact Yn _ _ _)
  have HL8:=Lib.hid (show Below w7.heap.size w7 w8 by rw [hw8];exact Jy _ _ _)
  have e8:w7.heap.size+1=g3+1:=by rw [hg3]
  rw [e8,←hg3]
  have HG3:=Lib.hid hg3
  clear hw8 hg3 e8
  go_upto_region 15 with fail
  rw [wrap_pow4 hlo]
  obtain ⟨K,hK⟩:∃ K,K=2^r:=⟨_,rfl⟩
  rw [←hK]
  have HKE:=Lib.hid hK
  rw [←hK] at HDIV HLE hbm
  obtain ⟨f,hf⟩:∃ f:Asg→Bool,f=fun a=>thB a L:=⟨_,rfl⟩
  rw [←hf] at HDIV HLE hbm A8 B8 HCH
  have hK4:K≤4:=by rw [hK];exact Nat.le_trans (Nat.pow_le_pow_right (by omega) hlo) (Nat.le_refl 4)
  clear hK hf
  go_wp2_with fail
  go_loopw [68] (fun t68 wr=>∃ s:Nat,t68 = .int .i64 s∧s≤K∧Hid (wr.heap[g3]?=some (.cells #[Y6 (Oc f n o s)] 38 (0,0)))∧Hid (wr.heap[g3+1]?=some (.cells #[Y6 (On f n o s)] 38 (0,0)))∧Hid (Below w7.heap.size w7 wr)) (fun t _=>K-(intOf t).toNat)
  case atStart=>exact ⟨0,rfl,Nat.zero_le _,A8.out,B8.out,HL8.out⟩
  case round =>
   obtain ⟨s,rfl,hsK,HA9,HB9,HW9⟩:=hrel
   obtain ⟨w9,hw9⟩:∃ w9,w9=wr:=⟨_,rfl⟩
   rw [←hw9] at HA9 HB9 HW9 ⊢
   clear hw9 A8 B8 HL8
   by_cases hlt:s<K
   ·have hd:decide (s<K)=true:=decide_eq_true hlt
    have hd2:decide ((s:Int)<(K:Int))=true:=decide_eq_true (by omega)
    go_upto_region 18 with fail
    refine Qg ?_
    intro w10 hw10
    obtain ⟨gp,hgp⟩:∃ gp,gp=w9.heap.size:=⟨_,rfl⟩
    have P10:=Lib.hid (show w10.heap[gp]?=some (.cells #[.int .u64 (loW (Zb o s 0).vs:Nat),.int .u64 (hiW (Zb o s 0).vs:Nat),.bool (Zb o s 0).odd] 116 (0,0)) by rw [hw10,hgp];exact Qn _ _)
    have hb10:Below w9.heap.size w9 w10:=by rw [hw10];exact Qe _ _
    have HA10:=Lib.hid ((Q4 hb10).keep HA9.out (by simp))
    have HB10:=Lib.hid ((Q4 hb10).keep HB9.out (by simp))
    have HW10:=Lib.hid (HW9.out.trans (hb10.mono HW9.out.size))
    have hg3p:g3+1<gp:=by have:=Q9 HB9.out;omega
    have hwp:w7.heap.size≤gp:=by rw [hgp];exact HW9.out.size
    rw [←hgp]
    clear hw10 hb10 hgp HA9 HB9 HW9
    go_wp2_with fail
    go_loopw [73] (fun t73 wv=>∃ i:Nat,t73 = .int .i64 i∧i≤r∧Hid (wv.heap[gp]?=some (.cells #[.int .u64 (loW (Zb o s i).vs:Nat),.int .u64 (hiW (Zb o s i).vs:Nat),.bool (Zb o s i).odd] 116 (0,0)))∧Hid (Behind w10 [gp] wv)) (fun t _=>r-(intOf t).toNat)
    case atStart=>exact ⟨0,rfl,Nat.zero_le _,P10.out,Behind.refl _ _⟩
    case round =>
     obtain ⟨i,rfl,hir,HPi,HWi⟩:=hrel
     obtain ⟨w11,hw11⟩:∃ w11,w11=wr:=⟨_,rfl⟩
     rw [←hw11] at HPi HWi ⊢
     clear hw11 P10
     by_cases hil:i<r
     ·have hdi:decide (i<r)=true:=decide_eq_true hil
      have hdi2:decide ((i:Int)<(r:Int))=true:=decide_eq_true (by omega)
      obtain ⟨q,hq⟩:∃ q,o[i]?=some q:=⟨_,List.getElem?_eq_getElem (by rw [←HRR.out];exact hil)⟩
      have HGD:=Lib.hid (show Zb o s (i+1)=if s.testBit i=true then Yy (Zb o s i) q else Zb o s i by
       rw [Zb,List.getD_eq_getElem?_getD,hq];rfl)
      have hBw:Below w7.heap.size w7 w11:=HW10.out.trans (HWi.out.below_of (b:=w7.heap.size) (fun k hk=>by simp at hk;omega) HW10.out.size)
      obtain ⟨b1,o1,hb1,hp,k1,k2,k3⟩:=PA7.out i q hq
      have c1:=Q8 hBw hb1 k1
      have c2:=Q8 hBw hb1 k2
      have c3:=Q8 hBw hb1 k3
      have hand:=bit_and (show s<4 by omega) (show i<2 by omega)
      have hi64:i<64:=by omega
      subst hp
      clear hb1 k1 k2 k3 hq hBw
      have KSU:=gSumP (Zb o s i) q
      generalize hbit:s.testBit i=bit at *
      clear hbit
      cases bit with
      | false =>
       have hand0:bits BinOp.and IntKind.i64 ((s:Int)/2^i) 1=0:=hand
       clear hand
       have HPn:=Lib.hid (show w11.heap[gp]?=some (.cells #[.int .u64 (loW (Zb o s (i+1)).vs:Nat),.int .u64 (hiW (Zb o s (i+1)).vs:Nat),.bool (Zb o s (i+1)).odd] 116 (0,0)) by rw [HGD.out,if_neg (by simp)];exact HPi.out)
       clear KSU HPi
       go_upto_region 23 with fail
       refine Qg ?_
       intro w12 hw12
       have hb12:Below w11.heap.size w11 w12:=by rw [hw12];exact Qe _ _
       have HP12:=Lib.hid ((Q4 hb12).keep HPn.out (by simp))
       have HW12:=Lib.hid (HWi.out.trans (Q4 hb12) (fun k hk=>by simp at hk))
       clear hw12 hb12 HPn HWi
       go_wp2_with fail
       go_roundw
       case rel=>exact ⟨i+1,by go_num,by omega,HP12.out,HW12.out⟩
       case measure=>simp [intOf];omega
      | true =>
       have hand0:bits BinOp.and IntKind.i64 ((s:Int)/2^i) 1=1:=hand
       clear hand
       rw [if_pos rfl] at HGD
       go_upto_region 22 with fail
       refine Qg ?_
       intro w12 hw12
       have hb12:Below w11.heap.size w11 w12:=by rw [hw12];exact Qe _ _
       have N12:=Lib.hid (show w12.heap[w11.heap.size]?=some (.cells #[.int .u64 (loW q.vs:Nat),.int .u64 (hiW q.vs:Nat),.bool q.odd] 116 (0,0)) by rw [hw12];exact Qn _ _)
       have HP12:=Lib.hid ((Q4 hb12).keep HPi.out (by simp))
       have HW12:=Lib.hid (HWi.out.trans (Q4 hb12) (fun k hk=>by simp at hk))
       clear hw12 hb12 HPi HWi
       have m0:=Q5 HP12.out 0 rfl
       have m1:=Q5 HP12.out 1 rfl
       have m2:=Q5 HP12.out 2 rfl
       have n0:=Q5 N12.out 0 rfl
       have n1:=Q5 N12.out 1 rfl
       have n2:=Q5 N12.out 2 rfl
       unfold Uz at KSU
       rw [←HGD.out] at KSU
       go_wp2_with fail
       refine (KSU _).mono ?_
       rintro e w13 ⟨rfl,hb13⟩
       have HP13:=Lib.hid ((Q4 hb13).keep HP12.out (by simp))
       have HW13:=Lib.hid (HW12.out.trans (Q4 hb13) (fun k hk=>by simp at hk))
       clear hb13 KSU m0 m1 m2 n0 n1 n2 N12 HP12 HW12
       have e0:=Q5 HP13.out 0 rfl
       have e1:=Q5 HP13.out 1 rfl
       have e2:=Q5 HP13.out 2 rfl
       have f0:=Qd HP13.out 0
       have f1:=Qd HP13.out 1
       have f2:=Qd HP13.out 2
       go_upto_region 23 with fail
       refine Qg ?_
       intro w14 hw14
       have HP14:=Lib.hid (show w14.heap[gp]?=some (.cells #[.int .u64 (loW (Zb o s (i+1)).vs:Nat),.int .u64 (hiW (Zb o s (i+1)).vs:Nat),.bool (Zb o s (i+1)).odd] 116 (0,0)) by rw [hw14];exact heap_setCell_same _ gp _ _ _ _ (heap_setCell_same _ gp _ _ _ _ (heap_setCell_same _ gp _ _ _ _ HP13.out)))
       have hB14:Behind w13 [gp] w14:=by rw [hw14];exact ((behindSet.trans behindSet (fun _ hk=>.inl hk)).trans behindSet (fun _ hk=>.inl hk))
       have HW14:=Lib.hid (HW13.out.trans hB14 (fun k hk=>.inl hk))
       clear hw14 hB14 e0 e1 e2 f0 f1 f2 HP13 HW13
       go_wp2_with fail
       go_roundw
       case rel=>exact ⟨i+1,by go_num,by omega,HP14.out,HW14.out⟩
       case measure=>simp [intOf];omega
     ·obtain rfl:i=r:=by omega
      have hdi:decide (i<i)=false:=decide_eq_false (by omega)
      have hdi2:decide ((i:Int)<(i:Int))=false:=decide_eq_false (by omega)
      have HW11:=Lib.hid (show Below w7.heap.size w7 w11 from HW10.out.trans (HWi.out.below_of (b:=w7.heap.size) (fun k hk=>by simp at hk;omega) HW10.out.size))
      have HA11:=Lib.hid (HWi.out.keep HA10.out (by simp;omega))
      have HB11:=Lib.hid (HWi.out.keep HB10.out (by simp;omega))
      have hinp:inP n (Zb o s i):=Q50 HINO.out s i
      have hma:Oc f n o (s+1)=Oc f n o s+mrN f n (Zb o s i):=by rw [HRR.out];rfl
      have hlb:On f n o (s+1)=On f n o s+lsN f n (Zb o s i):=by rw [HRR.out];rfl
      have HMA:=Lib.hid hma
      have HLB:=Lib.hid hlb
      have hm1:=mrN_le f n (Zb o s i)
      have hm2:=lsN_le f n (Zb o s i)
      have hm3:Oc f n o s≤s*2^n:=Q1d (fun s=>mrN_le _ _ _) _
      have hm4:On f n o s≤s*2^n:=Q1d (fun s=>lsN_le _ _ _) _
      have hm5:2^n≤16:=Nat.le_trans (Nat.pow_le_pow_right (by omega) h4) (Nat.le_refl 16)
      have hm6:s*2^n≤4*16:=Nat.mul_le_mul (by omega) hm5
      have KC:=HCH.out w11 (HV7.out.trans (HW11.out.mono HV7.out.size)) gc gv (Zb o s i) hinp ((Q4 HW11.out).keep C7.out (by simp)) ((SE7.out.below HW11.out (Nat.le_refl _)).mono HW11.out.size)
      generalize Oc f n o s=M at *
      generalize On f n o s=E at *
      obtain ⟨M1,hM1⟩:∃ M1,M1=Oc f n o (s+1):=⟨_,rfl⟩
      obtain ⟨E1,hE1⟩:∃ E1,E1=On f n o (s+1):=⟨_,rfl⟩
      rw [←hM1] at HMA
      rw [←hE1] at HLB
      have HM1:=Lib.hid hM1
      have HE1:=Lib.hid hE1
      have hg3w:w7.heap.size≤g3:=Nat.le_of_eq HG3.out.symm
      clear hM1 hE1
      generalize mrN f n (Zb o s i)=y0 at *
      generalize lsN f n (Zb o s i)=y1 at *
      obtain ⟨ps,hps⟩:∃ ps,ps=Zb o s i:=⟨_,rfl⟩
      rw [←hps] at HPi KC
      unfold Qt Jz at KC
      generalize loW ps.vs=a0 at *
      generalize hiW ps.vs=a1 at *
      generalize ps.odd=bo at *
      clear hps hinp hma hlb HWi HA10 HB10 HW10
      have m0:=Q5 HPi.out 0 rfl
      have m1:=Q5 HPi.out 1 rfl
      go_wp2_with fail
      refine KC.mono ?_
      rintro e w12 ⟨rfl,hb12⟩
      have HW12:=Lib.hid (HW11.out.trans (hb12.mono HW11.out.size))
      have HA12:=Lib.hid ((Q4 hb12).keep HA11.out (by simp))
      have HB12:=Lib.hid ((Q4 hb12).keep HB11.out (by simp))
      have HP12:=Lib.hid ((Q4 hb12).keep HPi.out (by simp))
      have hs12:g3+1<w12.heap.size:=Q9 HB12.out
      clear hb12 KC m0 m1 HW11 HA11 HB11 HPi
      unfold cV Q2p
      cases bo with
      | false =>
       rw [if_neg (by simp)]
       dsimp only
       go_upto_region 25 with fail
       refine Qg ?_
       intro w14 hw14
       obtain ⟨g19,hg19⟩:∃ g19,g19=w12.heap.size:=⟨_,rfl⟩
       have hb14:Below w12.heap.size w12 w14:=by rw [hw14];exact Qe _ _
       have M14:=Lib.hid (show w14.heap[g19]?=some (.cells #[.string (nb y0),.string (nb y1)] 127 (0,0)) by rw [hw14,hg19];exact Qn _ _)
       have HA14:=Lib.hid ((Q4 hb14).keep HA12.out (by simp))
       have HB14:=Lib.hid ((Q4 hb14).keep HB12.out (by simp))
       have HW14:=Lib.hid (HW12.out.trans (hb14.mono HW12.out.size))
       have p2:=Q5 ((Q4 hb14).keep HP12.out (by simp)) 2 rfl
       rw [←hg19] at hs12 ⊢
       clear hw14 hb14 hg19 HA12 HB12 HW12 HP12
       go_upto_region 27 with fail
       unfold Y6 at HA14 HB14
       have R0:=Lib.hid (Q5 M14.out 0 rfl)
       have R1:=Lib.hid (Q5 M14.out 1 rfl)
       have B0:=Lib.hid (Q5 HB14.out 0 rfl)
       have KA1:=Q2n M y0 (Qq (by omega)) (Qq (by omega))
       have KA2:=Q2n E y1 (Qq (by omega)) (Qq (by omega))
       unfold Qj at KA1 KA2
       rw [←HMA.out] at KA1
       rw [←HLB.out] at KA2
       have HKA:=Lib.hid KA1
       have HKB:=Lib.hid KA2
       have hne19:g19≠g3:=by omega
       have hne20:g19≠g3+1:=by omega
       clear KA1 KA2
       refine Zi 9 [1,0,0,0,0,0,0,0,2] [g3] _ (Fin.put Qu _ _) (Qr (Qi _) HA14.out) (by kernel_rfl) (by kernel_rfl) ?_
       simp only [List.take_succ_cons,List.take_zero]
       refine Jq 1 w14 (Behind.refl _ _) (Qr (Qi _) HA14.out) (by kernel_rfl) (by rfl) ?_
       apply Exists.intro
       refine ⟨fun z hz hH=>?_,?_⟩
       ·have g0:=Jg (hH g3 _ (Blocks.put_same _ _ _)) 0 rfl
        clear hz hH
        simp only [List.take_succ_cons,List.take_zero]
        unfold Cx
        repeat (go_big_quiet_step (fail))
        exact wpQuiet_nil rfl
       simp only [List.drop_succ_cons,List.drop_zero]
       refine Qb 7 (by kernel_rfl) (by rfl) ?_
       apply Exists.intro
       refine ⟨fun z hz=>?_,?_⟩
       ·have f0:=Q6 hz R0.out (by simp;omega)
        have f1:=Q6 hz R1.out (by simp;omega)
        have f2:=Q6 hz B0.out (by simp)
        clear hz
        simp only [List.take_succ_cons,List.take_zero]
        unfold Cx
        repeat (go_big_quiet_step (first | with_reducible exact HKA.out.at _ _ | with_reducible exact HKB.out.at _ _))
        exact wpQuiet_nil rfl
       simp only [List.drop_succ_cons,List.drop_zero]
       refine Qh g3 #[.string (nb M1)] #[.string (nb M)] 38 (by rfl) (by rfl) (by rfl) (Blocks.put_same _ _ _) rfl (.inl (by simp)) (by kernel_rfl) (by simp [Value.oneCell']) ?_
       refine Qf ?_
       intro w15 hx15 hH15
       have HA15:=Lib.hid (hH15 g3 _ (Blocks.put_same _ _ _))
       have HB15:=Lib.hid (hx15.keep HB14.out (by simp))
       have HW15:=Lib.hid (HW14.out.trans (hx15.below_of (b:=w7.heap.size) (fun k hk=>by simp at hk;omega) HW14.out.size))
       clear hx15 hH15 R0 R1 B0 M14 HA14 HB14 HW14
       have e0:=Q5 HB15.out 0 rfl
       have f0:=Qd HB15.out 0
       go_upto_region 28 with fail
       refine Qg ?_
       intro w16 hw16
       have HA16:=Lib.hid (show w16.heap[g3]?=some (.cells #[Y6 M1] 38 (0,0)) by rw [hw16];exact (show Behind w15 [g3+1] _ from behindSet).keep HA15.out (by simp))
       have HB16:=Lib.hid (show w16.heap[g3+1]?=some (.cells #[Y6 E1] 38 (0,0)) by rw [hw16];exact heap_setCell_same _ _ 0 _ _ _ HB15.out)
       have HW16:=Lib.hid (show Below w7.heap.size w7 w16 by rw [hw16];exact HW15.out.trans ((show Behind w15 [g3+1] _ from behindSet).below_of (b:=w7.heap.size) (fun k hk=>by simp at hk;omega) HW15.out.size))
       clear hw16 e0 f0 HA15 HB15 HW15
       go_wp2_with fail
       go_roundw
       case rel=>exact ⟨s+1,by go_num,by omega,by rw [←HM1.out];exact HA16.out,by rw [←HE1.out];exact HB16.out,HW16.out⟩
       case measure=>simp [intOf];omega
      | true =>
       rw [if_pos rfl]
       dsimp only
       go_upto_region 25 with fail
       refine Qg ?_
       intro w13 hw13
       obtain ⟨g19,hg19⟩:∃ g19,g19=w12.heap.size:=⟨_,rfl⟩
       have hb13:Below w12.heap.size w12 w13:=by rw [hw13];exact Qe _ _
       have M13:=Lib.hid (show w13.heap[g19]?=some (.cells #[.string (nb y1),.string (nb y0)] 127 (0,0)) by rw [hw13,hg19];exact Qn _ _)
       have HA13:=Lib.hid ((Q4 hb13).keep HA12.out (by simp))
       have HB13:=Lib.hid ((Q4 hb13).keep HB12.out (by simp))
       have HW13:=Lib.hid (HW12.out.trans (hb13.mono HW12.out.size))
       have p2:=Q5 ((Q4 hb13).keep HP12.out (by simp)) 2 rfl
       rw [←hg19] at hs12 ⊢
       clear hw13 hb13 hg19 HA12 HB12 HW12 HP12
       have e0:=Q5 M13.out 0 rfl
       have e1:=Q5 M13.out 1 rfl
       have f0:=Qd M13.out 0
       have f1:=Qd M13.out 1
       go_upto_region 27 with fail
       refine Qg ?_
       intro w14 hw14
       have M14:=Lib.hid (show w14.heap[g19]?=some (.cells #[.string (nb y0),.string (nb y1)] 127 (0,0)) by rw [hw14];exact heap_setCell_same _ g19 _ _ _ _ (heap_setCell_same _ g19 _ _ _ _ M13.out))
       have hB14:Behind w13 [g19] w14:=by rw [hw14];exact behindSet.trans behindSet (fun _ hk=>.inl hk)
       have HA14:=Lib.hid (hB14.keep HA13.out (by simp;omega))
       have HB14:=Lib.hid (hB14.keep HB13.out (by simp;omega))
       have HW14:=Lib.hid (HW13.out.trans (hB14.below_of (b:=w7.heap.size) (fun k hk=>by simp at hk;have:=HG3.out;omega) HW13.out.size))
       clear hw14 hB14 e0 e1 f0 f1 M13 HA13 HB13 HW13
       unfold Y6 at HA14 HB14
       have R0:=Lib.hid (Q5 M14.out 0 rfl)
       have R1:=Lib.hid (Q5 M14.out 1 rfl)
       have B0:=Lib.hid (Q5 HB14.out 0 rfl)
       have KA1:=Q2n M y0 (Qq (by omega)) (Qq (by omega))
       have KA2:=Q2n E y1 (Qq (by omega)) (Qq (by omega))
       unfold Qj at KA1 KA2
       rw [←HMA.out] at KA1
       rw [←HLB.out] at KA2
       have HKA:=Lib.hid KA1
       have HKB:=Lib.hid KA2
       have hne19:g19≠g3:=by omega
       have hne20:g19≠g3+1:=by omega
       clear KA1 KA2
       refine Zi 9 [1,0,0,0,0,0,0,0,2] [g3] _ (Fin.put Qu _ _) (Qr (Qi _) HA14.out) (by kernel_rfl) (by kernel_rfl) ?_
       simp only [List.take_succ_cons,List.take_zero]
       refine Jq 1 w14 (Behind.refl _ _) (Qr (Qi _) HA14.out) (by kernel_rfl) (by rfl) ?_
       apply Exists.intro
       refine ⟨fun z hz hH=>?_,?_⟩
       ·have g0:=Jg (hH g3 _ (Blocks.put_same _ _ _)) 0 rfl
        clear hz hH
        simp only [List.take_succ_cons,List.take_zero]
        unfold Cx
        repeat (go_big_quiet_step (fail))
        exact wpQuiet_nil rfl
       simp only [List.drop_succ_cons,List.drop_zero]
       refine Qb 7 (by kernel_rfl) (by rfl) ?_
       apply Exists.intro
       refine ⟨fun z hz=>?_,?_⟩
       ·have f0:=Q6 hz R0.out (by simp;omega)
        have f1:=Q6 hz R1.out (by simp;omega)
        have f2:=Q6 hz B0.out (by simp)
        clear hz
        simp only [List.take_succ_cons,List.take_zero]
        unfold Cx
        repeat (go_big_quiet_step (first | with_reducible exact HKA.out.at _ _ | with_reducible exact HKB.out.at _ _))
        exact wpQuiet_nil rfl
       simp only [List.drop_succ_cons,List.drop_zero]
       refine Qh g3 #[.string (nb M1)] #[.string (nb M)] 38 (by rfl) (by rfl) (by rfl) (Blocks.put_same _ _ _) rfl (.inl (by simp)) (by kernel_rfl) (by simp [Value.oneCell']) ?_
       refine Qf ?_
       intro w15 hx15 hH15
       have HA15:=Lib.hid (hH15 g3 _ (Blocks.put_same _ _ _))
       have HB15:=Lib.hid (hx15.keep HB14.out (by simp))
       have HW15:=Lib.hid (HW14.out.trans (hx15.below_of (b:=w7.heap.size) (fun k hk=>by simp at hk;omega) HW14.out.size))
       clear hx15 hH15 R0 R1 B0 M14 HA14 HB14 HW14
       have e0:=Q5 HB15.out 0 rfl
       have f0:=Qd HB15.out 0
       go_upto_region 28 with fail
       refine Qg ?_
       intro w16 hw16
       have HA16:=Lib.hid (show w16.heap[g3]?=some (.cells #[Y6 M1] 38 (0,0)) by rw [hw16];exact (show Behind w15 [g3+1] _ from behindSet).keep HA15.out (by simp))
       have HB16:=Lib.hid (show w16.heap[g3+1]?=some (.cells #[Y6 E1] 38 (0,0)) by rw [hw16];exact heap_setCell_same _ _ 0 _ _ _ HB15.out)
       have HW16:=Lib.hid (show Below w7.heap.size w7 w16 by rw [hw16];exact HW15.out.trans ((show Behind w15 [g3+1] _ from behindSet).below_of (b:=w7.heap.size) (fun k hk=>by simp at hk;omega) HW15.out.size))
       clear hw16 e0 f0 HA15 HB15 HW15
       go_wp2_with fail
       go_roundw
       case rel=>exact ⟨s+1,by go_num,by omega,by rw [←HM1.out];exact HA16.out,by rw [←HE1.out];exact HB16.out,HW16.out⟩
       case measure=>simp [intOf];omega
   ·obtain rfl:s=K:=by omega
    have hd:decide (s<s)=false:=decide_eq_false (by omega)
    have hd2:decide ((s:Int)<(s:Int))=false:=decide_eq_false (by omega)
    have c0:=Q5 HA9.out 0 rfl
    have c1:=Q5 HB9.out 0 rfl
    have hm5:2^n≤16:=Nat.le_trans (Nat.pow_le_pow_right (by omega) h4) (Nat.le_refl 16)
    have hm6:s*2^n≤4*16:=Nat.mul_le_mul (by omega) hm5
    have hle:=HLE.out
    have KS:=gSub (Oc f n o s) (On f n o s) (Qq (by omega)) (Qq (by omega)) hle
    have KD:=gDiv (Oc f n o s-On f n o s) (2^r) (Nat.le_trans (Ub (by omega)) (by omega)) (Nat.le_trans (Ub (by have:=HKE.out;omega)) (by omega)) (by have:=Ah r;omega)
    rw [←HKE.out,HDIV.out] at KD
    have KP:=gPow r (by omega)
    rw [←HKE.out] at KP
    generalize Oc f n o s=M at *
    generalize On f n o s=E at *
    generalize (M-E)%s=rest at *
    unfold Qj at KS KD KP
    unfold Y6 at c0 c1
    clear hle hm5 hm6
    go_wp2_with fail
    refine (KS w9).mono ?_
    rintro e w10 ⟨rfl,hb10⟩
    have HW10:=Lib.hid (HL7.out.trans ((HW9.out.trans (hb10.mono HW9.out.size)).mono HL7.out.size))
    have RB10:=Lib.hid ((Q4 (HW9.out.trans (hb10.mono HW9.out.size))).keep R7.out (by simp))
    clear hb10 KS c0 c1 HA9 HB9 HW9
    go_upto_region 30 with fail
    refine Qg ?_
    intro w11 hw11
    obtain ⟨g20,hg20⟩:∃ g20,g20=w10.heap.size:=⟨_,rfl⟩
    have M11:=Lib.hid (show w11.heap[g20]?=some (.cells #[.string (nb (M-E))] 38 (0,0)) by rw [hw11,hg20];exact Qn _ _)
    have hb11:Below w10.heap.size w10 w11:=by rw [hw11];exact Qe _ _
    have RB11:=Lib.hid ((Q4 hb11).keep RB10.out (by simp))
    have HW11:=Lib.hid (HW10.out.trans (hb11.mono HW10.out.size))
    rw [←hg20]
    have HKD:=Lib.hid KD
    have HKP:=Lib.hid KP
    have M0:=Lib.hid (Q5 M11.out 0 rfl)
    clear hw11 hb11 hg20 KD KP RB10 HW10
    refine Qo [0,0,0,0,0,0,0,0,0,3,3,2,2,0] [] B0 Qu (Qi _) (by kernel_rfl) (by kernel_rfl) ?_
    refine Qb 9 (by kernel_rfl) (by rfl) ?_
    apply Exists.intro
    refine ⟨fun z hz=>?_,?_⟩
    ·have g0:=Q6 hz M0.out (by simp)
     clear hz
     simp only [List.take_succ_cons,List.take_zero]
     unfold Cx
     repeat (go_big_quiet_step (first | with_reducible exact HKD.out.at _ _ | with_reducible exact HKP.out.at _ _))
     exact wpQuiet_nil rfl
    simp only [List.drop_succ_cons,List.drop_zero]
    refine Jm (.agg #[.string ⟨#[]⟩]) (by rfl) (fun x=>by kernel_rfl) (fun g22 q22 hn22=>?_)
    unfold Qk
    go_big_quiet_step (fail)
    refine wpQuiet_nil ?_
    refine Jm (.agg #[.string ⟨#[]⟩]) (by rfl) (fun x=>by kernel_rfl) (fun g23 q23 hn23=>?_)
    unfold Qk
    go_big_quiet_step (fail)
    refine wpQuiet_nil ?_
    have n23:g22≠g23:=(O6 hn23).symm
    refine Qh g22 #[.string (nb R)] #[.string ⟨#[]⟩] 38 (by rfl) (by rfl) (by rfl) ((Blocks.put_other _ _ n23).trans (Blocks.put_same _ _ _)) rfl (.inr q22) (by kernel_rfl) (by simp [Value.oneCell']) ?_
    refine Qh g23 #[.string (nb rest)] #[.string ⟨#[]⟩] 38 (by rfl) (by rfl) (by rfl) ((Blocks.put_other _ _ n23.symm).trans (Blocks.put_same _ _ _)) rfl (.inr q23) (by kernel_rfl) (by simp [Value.oneCell']) ?_
    refine Qb 1 (by kernel_rfl) (by rfl) ?_
    apply Exists.intro
    refine ⟨fun z hz=>?_,?_⟩
    ·clear hz
     simp only [List.take_succ_cons,List.take_zero]
     unfold Cx
     repeat (go_big_quiet_step (fail))
     exact wpQuiet_nil rfl
    simp only [List.drop_succ_cons,List.drop_zero]
    refine Qf ?_
    intro w12 hx12 hB12
    have A12:=Lib.hid (hB12 g22 _ ((Blocks.put_other _ _ n23).trans (Blocks.put_same _ _ _)))
    have RB12:=Lib.hid (hx12.keep RB11.out (by simp))
    have HW12:=Lib.hid (HW11.out.trans (hx12.below.mono HW11.out.size))
    clear hx12 hB12 hn22 hn23 q22 q23
    have c0:=Q5 A12.out 0 rfl
    have e0:=Q5 RB12.out 0 rfl
    have f0:=Qd RB12.out 0
    go_wp2_with fail
    refine bodyPost_ret (Or (p:=4) (u:=5) rfl _ _ (w.heap.size+1) _ _ (0,0) _ _ rfl (heap_setCell_same _ _ 0 _ _ _ RB12.out) Tryz.underlying38 rfl Tryz.sizeNatE rfl) rfl ?_
    exact HP.out _ (HW12.out.setCell (show w.heap.size≤(⟨w.heap.size+1,0,none⟩:Addr).block from Nat.le_succ _) _)
end
/- hash.Parities: the walk. -/
section
open Go.RowKit
theorem Row3.congrP {xs:Array Value} {n:Nat} {f g:Nat→Pa} (h:Row3 xs n f) (hfg:∀ j,j<n→Z6 (f j).vs=Z6 (g j).vs∧(f j).odd=(g j).odd):Row3 xs n g:=⟨h.1,fun j hj=>by
 obtain ⟨e1,e2⟩:=hfg j hj
 have:=h.2 j hj
 unfold Z6 at e1
 injection e1 with e3 e4
 rw [e3,e4,e2] at this
 exact this⟩
set_option maxHeartbeats 1600000 in
set_option maxRecDepth 100000 in
theorem gParities (n m z:Nat) (hn:n≤7) (hm:m≤8) (hm0:0<m) (hnm:m*(n+1)≤8) (hz:z<256) (gb os c:Nat) (w:World) (hZ:w.cell? ⟨gb,os,none⟩=some (.int .u8 (z:Int))) :
  Calls Tryz.prog 26 #[.slice (some ⟨gb,os,none⟩) 1 c,.int .i64 (n:Int),.int .i64 (m:Int)] w fun e w'=>∃ g xs,e = .returned (.tuple #[.slice (some ⟨g,0,none⟩) m m,.int .i64 0])∧w.heap.size≤g∧w'.heap[g]?=some (.cells xs 116 (0,0))∧Row3 xs m (Kv n z)∧Below w.heap.size w w':=by
 obtain ⟨Post,hPost⟩:∃ P:Ending→World→Prop,P=fun e w'=>∃ g xs,e = .returned (.tuple #[.slice (some ⟨g,0,none⟩) m m,.int .i64 0])∧w.heap.size≤g∧w'.heap[g]?=some (.cells xs 116 (0,0))∧Row3 xs m (Kv n z)∧Below w.heap.size w w':=⟨_,rfl⟩
 rw [←hPost]
 have HP:=Lib.hid (show ∀ g xs w',w.heap.size≤g→w'.heap[g]?=some (.cells xs 116 (0,0))→Row3 xs m (Kv n z)→Below w.heap.size w w'→Post (.returned (.tuple #[.slice (some ⟨g,0,none⟩) m m,.int .i64 0])) w' from fun g xs w' h1 h2 h3 h4=>by rw [hPost];exact ⟨g,xs,rfl,h1,h2,h3,h4⟩)
 have HZ:=Lib.hid hZ
 have hbl:gb<w.heap.size:=by
  rcases Nat.lt_or_ge gb w.heap.size with h1 | h1
  ·exact h1
  ·rw [World.cell?,Array.getElem?_eq_none (by simpa using h1)] at hZ;cases hZ
 have a1:decide ((n:Int)<0)=false:=decide_eq_false (by omega)
 have a2:decide ((128:Int)<(n:Int))=false:=decide_eq_false (by omega)
 have a3:decide (128<n)=false:=decide_eq_false (by omega)
 have a4:decide ((m:Int)<0)=false:=decide_eq_false (by omega)
 have a5:decide ((16:Int)<(m:Int))=false:=decide_eq_false (by omega)
 have a6:decide (16<m)=false:=decide_eq_false (by omega)
 have KS:=gSeeds n m (by omega) (by omega)
 obtain ⟨T,hT⟩:∃ T,T=m*(n+1):=⟨_,rfl⟩
 rw [←hT] at KS hnm
 have HTT:=Lib.hid hT
 have a7:decide ((8:Int)<(T:Int))=false:=decide_eq_false (by omega)
 have a8:decide (8<T)=false:=decide_eq_false (by omega)
 have HKS:=Lib.hid KS
 clear hPost hZ KS hT
 go_enter Tryz.func26,Tryz.ntmps26
 go_upto_region 1 with fail
 refine Qg ?_
 intro w1 hw1
 have S1:=Lib.hid (show w1.heap[w.heap.size]?=some (.cells #[.slice (some ⟨gb,os,none⟩) 1 c] 46 (0,0)) by rw [hw1];exact Qn _ _)
 have HL1:=Lib.hid (show Below w.heap.size w w1 by rw [hw1];exact Qe _ _)
 clear hw1
 have Q0:=Lib.hid (Q5 S1.out 0 rfl)
 refine Qo [0,0,0,0,0,0,0,0,0,0,0,0,0,0,0,0,0,0,0,0,0,0,0] [] B0 Qu (Qi _) (by kernel_rfl) (by kernel_rfl) ?_
 refine Qb 23 (by kernel_rfl) (by rfl) ?_
 apply Exists.intro
 refine ⟨fun y hy=>?_,?_⟩
 ·have g0:=Q6 hy Q0.out (by simp)
  clear hy
  simp only [List.take_succ_cons,List.take_zero]
  unfold Cx
  repeat (go_big_quiet_step (first | with_reducible exact HKS.out.at _ _))
  exact wpQuiet_nil rfl
 simp only [List.drop_succ_cons,List.drop_zero]
 refine Qf ?_
 intro w2 hx2 _
 have S2:=Lib.hid (hx2.keep S1.out (by simp))
 have HL2:=Lib.hid (HL1.out.trans (hx2.below.mono HL1.out.size))
 clear hx2 S1 HL1 Q0
 go_upto_region 4 with fail
 refine Qg ?_
 intro w3 hw3
 obtain ⟨ga,hga⟩:∃ ga,ga=w2.heap.size:=⟨_,rfl⟩
 have hb3:Below w2.heap.size w2 w3:=by rw [hw3];exact Qe _ _
 have A3:=Lib.hid (show w3.heap[ga]?=some (.cells #[.int .i64 (-1)] 3 (0,0)) by rw [hw3,hga];exact Qn _ _)
 have S3:=Lib.hid ((Q4 hb3).keep S2.out (by simp))
 have HL3:=Lib.hid (HL2.out.trans (hb3.mono HL2.out.size))
 have hgs:w.heap.size<ga:=by have:=Q9 S2.out;omega
 rw [←hga]
 clear hw3 hb3 hga S2 HL2
 have hmk:=makePars m (by omega) w3
 go_upto_region 6 with fail
 refine Qg ?_
 intro w4 hw4
 obtain ⟨g,hg⟩:∃ g,g=w3.heap.size:=⟨_,rfl⟩
 have hb4:Below w3.heap.size w3 w4:=by rw [hw4];exact Qe _ _
 have X4:=Lib.hid (show ∃ xs,w4.heap[g]?=some (.cells xs 116 (0,0))∧Row3 xs m (fun j=>if j<0 then Kv n z j else noneP) from ⟨_,by rw [hw4,hg];exact Qn _ _,(Row3.made m).congr fun j hj=>by rw [if_neg (by omega)]⟩)
 have A4:=Lib.hid (show w4.heap[ga]?=some (.cells #[.int .i64 (((0:Nat):Int)-1)] 3 (0,0)) from (Q4 hb4).keep A3.out (by simp))
 have S4:=Lib.hid ((Q4 hb4).keep S3.out (by simp))
 have HL4:=Lib.hid (HL3.out.trans (hb4.mono HL3.out.size))
 have hgg:ga<g:=by have:=Q9 A3.out;omega
 rw [←hg]
 clear hw4 hb4 hg hmk A3 S3 HL3
 go_wp2_with fail
 go_loopw [41] (fun t41 wr=>∃ i a:Nat,t41 = .int .i64 i∧i≤m∧Hid (a=i*(n+1))∧Hid (wr.heap[ga]?=some (.cells #[.int .i64 ((a:Int)-1)] 3 (0,0)))∧Hid (∃ xs,wr.heap[g]?=some (.cells xs 116 (0,0))∧Row3 xs m (fun j=>if j<i then Kv n z j else noneP))∧Hid (Behind w4 [ga,g] wr)) (fun t _=>m-(intOf t).toNat)
 case atStart=>exact ⟨0,0,rfl,Nat.zero_le _,(Nat.zero_mul _).symm,A4.out,X4.out,Behind.refl _ _⟩
 case round =>
  obtain ⟨i,a,rfl,hin,HA,HGA,HX,HW⟩:=hrel
  obtain ⟨w5,hw5⟩:∃ w5,w5=wr:=⟨_,rfl⟩
  rw [←hw5] at HGA HX HW ⊢
  clear hw5 A4 X4
  by_cases hlt:i<m
  ·have hd:decide (i<m)=true:=decide_eq_true hlt
   have hd2:decide ((i:Int)<(m:Int))=true:=decide_eq_true (by omega)
   have hT8:(i+1)*(n+1)≤8:=Nat.le_trans (Nat.mul_le_mul_right _ hlt) (by rw [←HTT.out];exact hnm)
   rw [Nat.add_mul,Nat.one_mul,←HA.out] at hT8
   have HX5:=Lib.hid (show ∃ xs,w5.heap[g]?=some (.cells xs 116 (0,0))∧Row3 xs m (fun j=>if j<i then Kv n z j else if j=i then ⟨Xb n z i 1,false⟩ else noneP) from by
    obtain ⟨xs,h1,h2⟩:=HX.out
    refine ⟨xs,h1,h2.congrP fun j hj=>?_⟩
    by_cases e:j<i
    ·rw [if_pos e,if_pos e];exact ⟨rfl,rfl⟩
    ·rw [if_neg e,if_neg e]
     by_cases e2:j=i
     ·rw [if_pos e2];exact ⟨(partP_one n z i).symm,rfl⟩
     ·rw [if_neg e2];exact ⟨rfl,rfl⟩)
   clear HX
   go_wp2_with fail
   go_loopw [12] (fun t12 wv=>∃ v b:Nat,t12 = .int .i64 v∧1≤v∧v≤n+1∧b=a+(v-1)∧Hid (wv.heap[ga]?=some (.cells #[.int .i64 ((b:Int)-1)] 3 (0,0)))∧Hid (∃ xs,wv.heap[g]?=some (.cells xs 116 (0,0))∧Row3 xs m (fun j=>if j<i then Kv n z j else if j=i then ⟨Xb n z i v,false⟩ else noneP))∧Hid (Behind w4 [ga,g] wv)) (fun t _=>n+1-(intOf t).toNat)
   case atStart=>exact ⟨1,a,rfl,by omega,by omega,by omega,HGA.out,HX5.out,HW.out⟩
   case round =>
    obtain ⟨v,b,rfl,hv1,hvn,hb,HGB,HXv,HWv⟩:=hrel
    obtain ⟨w6,hw6⟩:∃ w6,w6=wr:=⟨_,rfl⟩
    rw [←hw6] at HGB HXv HWv ⊢
    clear hw6 HGA HX5 HW
    have HB:=Lib.hid hb
    have hb8:b<8:=by omega
    have KN:=gNext z hz b hb8 ga w.heap.size gb os c w6 (by omega) (by omega) HGB.out (Vm (Q5 S4.out 0 rfl) HWv.out (by simp;omega)) (Vm (Q8 HL4.out hbl HZ.out) HWv.out (by simp;omega))
    rw [show z.testBit (7-b)=Q0h z b from rfl] at KN
    clear hb
    by_cases hvl:v≤n
    ·have hdv:decide (v≤n)=true:=decide_eq_true hvl
     have hdv2:decide ((v:Int)≤(n:Int))=true:=decide_eq_true (by omega)
     have HSTEP:=Lib.hid (show Z6 (Xb n z i (v+1))=if Q0h z b=true then Z6 (Kj (Xb n z i v) (v:Int)) else Z6 (Xb n z i v) by
      rw [Q8w n z i v hv1,HB.out,HA.out])
     generalize Q0h z b=bit at *
     go_wp2_with fail
     refine KN.mono ?_
     rintro e w7 ⟨rfl,hA7,hB7⟩
     have A7:=Lib.hid hA7
     have HW7:=Lib.hid (HWv.out.trans hB7 (fun k hk=>.inl (by simp at hk;simp [hk])))
     obtain ⟨xs,h1,h2⟩:=HXv.out
     have X7:=Lib.hid (hB7.keep h1 (by simp;omega))
     have R7:=Lib.hid h2
     clear hA7 hB7 h1 h2 KN HGB HXv HWv
     cases bit
     case false =>
      have RN:=Lib.hid (show Row3 xs m (fun j=>if j<i then Kv n z j else if j=i then ⟨Xb n z i (v+1),false⟩ else noneP) from R7.out.congrP fun j hj=>by
       by_cases e:j<i
       ·rw [if_pos e,if_pos e];exact ⟨rfl,rfl⟩
       ·rw [if_neg e,if_neg e]
        by_cases e2:j=i
        ·rw [if_pos e2,if_pos e2];exact ⟨by rw [HSTEP.out,if_neg (by simp)],rfl⟩
        ·rw [if_neg e2,if_neg e2];exact ⟨rfl,rfl⟩)
      go_wp2_with fail
      go_roundw
      case rel=>exact ⟨v+1,b+1,by go_num,by omega,by omega,by have:=HB.out;omega,by rw [show ((b+1:Nat):Int)-1=(b:Int) by omega];exact A7.out,⟨xs,X7.out,RN.out⟩,HW7.out⟩
      case measure=>simp [intOf];omega
     case true =>
      have hr:=R7.out.2 i hlt
      dsimp only at hr
      rw [if_neg (by omega),if_pos rfl] at hr
      have c0:=Q5 X7.out _ hr.1
      have c1:=Q5 X7.out _ hr.2.1
      dsimp only at c0 c1
      have KW:=gWith (Xb n z i v) (v:Int) w7
      unfold Qt Jz at KW
      clear hr
      go_wp2_with fail
      refine KW.mono ?_
      rintro e w8 ⟨rfl,hb8'⟩
      have A8:=Lib.hid ((Q4 hb8').keep A7.out (by simp))
      have X8:=Lib.hid ((Q4 hb8').keep X7.out (by simp))
      have HW8:=Lib.hid (HW7.out.trans (Q4 hb8') (fun k hk=>by simp at hk))
      clear hb8' KW A7 X7 HW7 c0 c1
      have hr:=R7.out.2 i hlt
      have c0:=Q5 X8.out _ hr.1
      have c1:=Q5 X8.out _ hr.2.1
      have f0:=Qd X8.out (i*3)
      have f1:=Qd X8.out (i*3+1)
      clear hr
      go_upto_region 11 with fail
      refine Qg ?_
      intro w9 hw9
      have X9:=Lib.hid (show w9.heap[g]?=some (.cells ((xs.setIfInBounds (i*3) (.int .u64 (loW (Kj (Xb n z i v) (v:Int)):Nat))).setIfInBounds (i*3+1) (.int .u64 (hiW (Kj (Xb n z i v) (v:Int)):Nat))) 116 (0,0)) by rw [hw9];exact heap_setCell_same _ g _ _ _ _ (heap_setCell_same _ g _ _ _ _ X8.out))
      have hB9:Behind w8 [g] w9:=by rw [hw9];exact behindSet.trans behindSet (fun _ hk=>.inl hk)
      have A9:=Lib.hid (hB9.keep A8.out (by simp;omega))
      have HW9:=Lib.hid (HW8.out.trans hB9 (fun k hk=>.inl (by simp at hk;simp [hk])))
      have RN:=Lib.hid ((R7.out.putS hlt (Kj (Xb n z i v) (v:Int))).congrP (g:=fun j=>if j<i then Kv n z j else if j=i then ⟨Xb n z i (v+1),false⟩ else noneP) fun j hj=>by
       by_cases e:j<i
       ·rw [if_neg (by omega),if_pos e,if_pos e];exact ⟨rfl,rfl⟩
       ·by_cases e2:j=i
        ·rw [if_pos e2,if_neg e,if_neg e,if_pos e2,if_pos e2];exact ⟨by rw [HSTEP.out];simp,rfl⟩
        ·rw [if_neg e2,if_neg e,if_neg e,if_neg e2,if_neg e2];exact ⟨rfl,rfl⟩)
      clear hw9 hB9 c0 c1 f0 f1 A8 X8 HW8
      go_wp2_with fail
      go_roundw
      case rel=>exact ⟨v+1,b+1,by go_num,by omega,by omega,by have:=HB.out;omega,by rw [show ((b+1:Nat):Int)-1=(b:Int) by omega];exact A9.out,⟨_,X9.out,RN.out⟩,HW9.out⟩
      case measure=>simp [intOf];omega
    ·obtain rfl:v=n+1:=by omega
     have hdv:decide (n+1≤n)=false:=decide_eq_false (by omega)
     have hdv2:decide (((n+1:Nat):Int)≤(n:Int))=false:=decide_eq_false (by omega)
     have hdv3:decide (((n:Int)+1)≤(n:Int))=false:=decide_eq_false (by omega)
     have HOD:=Lib.hid (show (⟨Xb n z i (n+1),Q0h z b⟩:Pa)=Kv n z i by
      unfold Kv
      rw [HB.out,HA.out,Nat.add_sub_cancel])
     generalize Q0h z b=bit at *
     go_wp2_with fail
     refine KN.mono ?_
     rintro e w7 ⟨rfl,hA7,hB7⟩
     have A7:=Lib.hid hA7
     have HW7:=Lib.hid (HWv.out.trans hB7 (fun k hk=>.inl (by simp at hk;simp [hk])))
     obtain ⟨xs,h1,h2⟩:=HXv.out
     have X7:=Lib.hid (hB7.keep h1 (by simp;omega))
     have R7:=Lib.hid h2
     clear hA7 hB7 h1 h2 KN HGB HXv HWv
     have hr:=R7.out.2 i hlt
     have c2:=Q5 X7.out _ hr.2.2
     have f2:=Qd X7.out (i*3+2)
     clear hr
     go_upto_region 15 with fail
     refine Qg ?_
     intro w9 hw9
     have X9:=Lib.hid (show w9.heap[g]?=some (.cells (xs.setIfInBounds (i*3+2) (.bool bit)) 116 (0,0)) by rw [hw9];exact heap_setCell_same _ g _ _ _ _ X7.out)
     have hB9:Behind w7 [g] w9:=by rw [hw9];exact behindSet
     have A9:=Lib.hid (hB9.keep A7.out (by simp;omega))
     have HW9:=Lib.hid (HW7.out.trans hB9 (fun k hk=>.inl (by simp at hk;simp [hk])))
     have RN:=Lib.hid ((R7.out.putB hlt bit).congr (g:=fun j=>if j<i+1 then Kv n z j else noneP) fun j hj=>by
      by_cases e:j<i
      ·rw [if_neg (by omega),if_pos e,if_pos (by omega)]
      ·by_cases e2:j=i
       ·rw [if_pos e2,if_neg e,if_pos e2,if_pos (by omega),e2,←HOD.out]
       ·rw [if_neg e2,if_neg e,if_neg e2,if_neg (by omega)])
     have HAN:=Lib.hid (show b+1=(i+1)*(n+1) by rw [Nat.add_mul,Nat.one_mul,←HA.out];have:=HB.out;omega)
     clear hw9 hB9 c2 f2 A7 X7 HW7
     go_wp2_with fail
     go_roundw
     case rel=>exact ⟨i+1,b+1,by go_num,by omega,HAN.out,by rw [show ((b+1:Nat):Int)-1=(b:Int) by omega];exact A9.out,⟨_,X9.out,RN.out⟩,HW9.out⟩
     case measure=>simp [intOf];omega
  ·obtain rfl:i=m:=by omega
   have hd:decide (i<i)=false:=decide_eq_false (by omega)
   have hd2:decide ((i:Int)<(i:Int))=false:=decide_eq_false (by omega)
   obtain ⟨xs,h1,h2⟩:=HX.out
   have HE:=Lib.hid (HP.out g xs w5 (by omega) h1 (h2.congr fun j hj=>by rw [if_pos hj]) (HL4.out.trans (HW.out.below_of (b:=w.heap.size) (fun k hk=>by simp at hk;omega) HL4.out.size)))
   go_wp2_with fail
   exact HE.out
end
end Go.Proofs.YtcpehljpegfckaaGreatDoor
