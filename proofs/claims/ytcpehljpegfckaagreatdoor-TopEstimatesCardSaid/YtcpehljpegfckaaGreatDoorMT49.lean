/- Texts of this claim,joined: EC6,ED1,EC7,EC8,EC9,ED3. -/
import Derived.Test.YtcpehljpegfckaaGreatDoorMT48
import Derived.Deep.DeepCutAuto
import Derived.Test.YtcpehljpegfckaaGreatDoorMT42
import Derived.Test.YtcpehljpegfckaaGreatDoorMT35
/- hash.Estimate. -/
namespace Go.Proofs.YtcpehljpegfckaaGreatDoor
section
open Go.RowKit Go.Sort Num
theorem pas_row {w:World} {g m:Nat} {xs:Array Value} {T:TypeId} {f:Nat→Pa} (h:Row3 xs m f) (hg:w.heap[g]?=some (.cells xs T (0,0))):PasAt w.heap.size w (some ⟨g,0,none⟩) ((List.range m).map f):=fun i q hq=>by
 have hi:=(List.getElem?_eq_some_iff.1 hq).1
 rw [List.length_map,List.length_range] at hi
 rw [List.getElem?_map,List.getElem?_range hi] at hq
 obtain rfl:f i=q:=by simpa using hq
 have:=h.2 i hi
 refine ⟨g,0,Q9 hg,rfl,?_,?_,?_⟩
 ·rw [Nat.zero_add];exact Q5 hg _ this.1
 ·rw [Nat.zero_add];exact Q5 hg _ this.2.1
 ·rw [Nat.zero_add];exact Q5 hg _ this.2.2
set_option maxHeartbeats 1600000 in
set_option maxRecDepth 100000 in
theorem Q40 (n:Nat) (h4:n≤4) (m:Nat) (hm0:0<m) (hm2:m≤2) (hT:m*(n+1)≤8) (z:Nat) (hz:z<256) (L:List (List Int)) (aL:Option Addr) (cL:Nat) (gb os c:Nat) {N:Nat} (w:World) (hP:Pow10 N w) (hZ:TzTab N w) (hN:N≤w.heap.size) (hA:ThAt w.heap.size w aL L) (hL:∀ xs∈L,xs.all (fun x=>Jk x n)=true∧xs.length≤12) (hLl:L.length<20) (h0:Kz n L=0) (hS:w.cell? ⟨gb,os,none⟩=some (.int .u8 (z:Int))) :
  Calls Tryz.prog 12 #[.agg #[.int .i64 n,.slice aL L.length cL],.slice (some ⟨gb,os,none⟩) 1 c,.int .i64 (m:Int)] w fun e w'=>e = .returned (.tuple #[Qj (Om (fun a=>thB a L) n ((List.range m).map (Kv n z))*2^m),.int .i64 0])∧Below w.heap.size w w':=by
 obtain ⟨Post,hPost⟩:∃ P:Ending→World→Prop,P=fun e w'=>e = .returned (.tuple #[Qj (Om (fun a=>thB a L) n ((List.range m).map (Kv n z))*2^m),.int .i64 0])∧Below w.heap.size w w':=⟨_,rfl⟩
 rw [←hPost]
 obtain ⟨R,hR⟩:∃ R,R=Om (fun a=>thB a L) n ((List.range m).map (Kv n z)):=⟨_,rfl⟩
 rw [←hR] at hPost
 have hR16:R≤16:=by
  rw [hR]
  exact Nat.le_trans (Q6r _ _ _) (Nat.le_trans (Nat.pow_le_pow_right (by omega) h4) (Nat.le_refl 16))
 have hM4:2^m≤4:=Nat.le_trans (Nat.pow_le_pow_right (by omega) hm2) (Nat.le_refl 4)
 have HP:=Lib.hid (show ∀ w',Below w.heap.size w w'→Post (.returned (.tuple #[Qj (R*2^m),.int .i64 0])) w' from fun w' h=>by rw [hPost];exact ⟨rfl,h⟩)
 have HTH:=Lib.hid (fun (x:World) (hb:Below w.heap.size w x)=>Q62 n L aL cL x ((hA.below hb (Nat.le_refl _)).mono hb.size) (by omega))
 rw [h0] at HTH
 have hgb:gb<w.heap.size:=Jd hS
 have HPA:=Lib.hid (fun (x:World) (hb:Below w.heap.size w x)=>gParities n m z (by omega) (by omega) hm0 hT hz gb os c x (Q8 hb hgb hS))
 have HCE:=Lib.hid (fun (x:World) (hb:Below w.heap.size w x) (gl cc:Nat) (hp:PasAt x.heap.size x (some ⟨gl,0,none⟩) ((List.range m).map (Kv n z)))=>by
  have h:=gCell n h4 L aL cL ((List.range m).map (Kv n z)) (by rw [List.length_map,List.length_range];exact hm0) (by rw [List.length_map,List.length_range];exact hm2) (fun q hq=>by
   obtain ⟨i,_,rfl⟩:=List.mem_map.1 hq
   exact Q6a n z i) gl cc x (hP.on (hb.mono hN) (Nat.le_refl _)) (hZ.on (hb.mono hN) (Nat.le_refl _)) (Nat.le_trans hN hb.size) ((hA.below hb (Nat.le_refl _)).mono hb.size) hL hLl h0 hp
  rw [←hR,List.length_map,List.length_range] at h
  exact h)
 have KP:=gPow m (by omega)
 have KM:=Q64 R (2^m) (Qq (by omega)) (Qq (by omega))
 unfold Qj at KP KM HCE
 have HKP:=Lib.hid KP
 have HKM:=Lib.hid KM
 unfold Qj at HP
 generalize L.length=ml at *
 generalize 2^m=pw at *
 clear hPost hR hA hP hZ hL hLl h0 hN hS KP KM hgb
 go_enter Tryz.func12,Tryz.ntmps12
 go_upto_region 1 with fail
 refine Qg ?_
 intro w1 hw1
 have S1:=Lib.hid (show w1.heap[w.heap.size]?=some (.cells #[.int .i64 n,.slice aL ml cL] 24 (0,0)) by rw [hw1];exact Yp _ _ _)
 have R1:=Lib.hid (show w1.heap[w.heap.size+1]?=some (.cells #[.string ⟨#[]⟩] 38 (0,0)) by rw [hw1];exact Yn _ _ _)
 have HL1:=Lib.hid (show Below w.heap.size w w1 by rw [hw1];exact Jy _ _ _)
 clear hw1
 have q0:=Q5 S1.out 0 rfl
 have q1:=Q5 S1.out 1 rfl
 go_wp2_with fail
 refine (HTH.out w1 HL1.out).mono ?_
 rintro e w2 ⟨rfl,hb2⟩
 have S2:=Lib.hid ((Q4 hb2).keep S1.out (by simp))
 have R2:=Lib.hid ((Q4 hb2).keep R1.out (by simp))
 have HL2:=Lib.hid (HL1.out.trans (hb2.mono HL1.out.size))
 clear hb2 S1 R1 HL1 HTH q0 q1
 have q0:=Q5 S2.out 0 rfl
 have q1:=Q5 S2.out 1 rfl
 go_wp2_with fail
 refine (HPA.out w2 HL2.out).mono ?_
 rintro e w3 ⟨g,xs,rfl,hg,hxs,hrow,hb3⟩
 have S3:=Lib.hid ((Q4 hb3).keep S2.out (by simp))
 have R3:=Lib.hid ((Q4 hb3).keep R2.out (by simp))
 have HL3:=Lib.hid (HL2.out.trans (hb3.mono HL2.out.size))
 have HPA3:=Lib.hid (pas_row hrow hxs)
 clear hb3 S2 R2 HL2 HPA hg hxs hrow q0 q1
 have q0:=Q5 S3.out 0 rfl
 have q1:=Q5 S3.out 1 rfl
 go_wp2_with fail
 refine (HCE.out w3 HL3.out g m HPA3.out).mono ?_
 rintro e w4 ⟨rfl,hb4⟩
 have R4:=Lib.hid ((Q4 hb4).keep R3.out (by simp))
 have HL4:=Lib.hid (HL3.out.trans (hb4.mono HL3.out.size))
 clear hb4 S3 R3 HL3 HCE HPA3 q0 q1
 go_upto_region 8 with fail
 refine Qg ?_
 intro w5 hw5
 obtain ⟨g11,hg11⟩:∃ g11,g11=w4.heap.size:=⟨_,rfl⟩
 have M5:=Lib.hid (show w5.heap[g11]?=some (.cells #[.string (nb R)] 38 (0,0)) by rw [hw5,hg11];exact Qn _ _)
 have hb5:Below w4.heap.size w4 w5:=by rw [hw5];exact Qe _ _
 have R5:=Lib.hid ((Q4 hb5).keep R4.out (by simp))
 have HL5:=Lib.hid (HL4.out.trans (hb5.mono HL4.out.size))
 have hne:g11≠w.heap.size+1:=by have:=Q9 R4.out;omega
 rw [←hg11]
 have M0:=Lib.hid (Q5 M5.out 0 rfl)
 clear hw5 hb5 hg11 R4 HL4
 refine Qo [0,0,0,0,0,2,0] [w.heap.size+1] _ (Fin.put Qu _ _) (Qr (Qi _) R5.out) (by kernel_rfl) (by kernel_rfl) ?_
 refine Qb 5 (by kernel_rfl) (by rfl) ?_
 apply Exists.intro
 refine ⟨fun z hz=>?_,?_⟩
 ·have g0:=Q6 hz M0.out (by simp;omega)
  clear hz
  simp only [List.take_succ_cons,List.take_zero]
  unfold Cx
  repeat (go_big_quiet_step (first | with_reducible exact HKP.out.at _ _ | with_reducible exact HKM.out.at _ _))
  exact wpQuiet_nil rfl
 simp only [List.drop_succ_cons,List.drop_zero]
 refine Qh (w.heap.size+1) #[.string (nb (R*pw))] #[.string ⟨#[]⟩] 38 (by rfl) (by rfl) (by rfl) (Blocks.put_same _ _ _) rfl (.inl (by simp)) (by kernel_rfl) (by simp [Value.oneCell']) ?_
 refine Qb 1 (by kernel_rfl) (by rfl) ?_
 apply Exists.intro
 refine ⟨fun z hz=>?_,?_⟩
 ·clear hz
  simp only [List.take_succ_cons,List.take_zero]
  unfold Cx
  repeat (go_big_quiet_step (fail))
  exact wpQuiet_nil rfl
 simp only [List.drop_succ_cons,List.drop_zero]
 refine Qf ?_
 intro w6 hx6 hB6
 have R6:=Lib.hid (hB6 (w.heap.size+1) _ (Blocks.put_same _ _ _))
 have HF:=Lib.hid (HP.out w6 (HL5.out.trans (hx6.below_of (b:=w.heap.size) (fun k hk=>by simp at hk;omega) HL5.out.size)))
 clear hx6 hB6
 go_wp2_with fail
 refine bodyPost_ret (Or (p:=6) (u:=7) rfl _ _ (w.heap.size+1) _ _ (0,0) _ _ rfl R6.out Tryz.underlying38 rfl Tryz.sizeNatE rfl) rfl ?_
 exact HF.out
end
/- censustop.compiled. -/
section
open Go.RowKit Go.Sort Num
theorem Tryz.sizeNet:(Tryz.prog.info? 33).map (·.size)=some 2:=by kernel_rfl
theorem Q3q {P:Program} {fn:Func} {p u u2:Tmp} {ty:TypeId} (h:fn.results=#[.cell p ty,.tmp u,.tmp u2]) (tmps:Array Value) (w:World) (g:Nat) (t:TypeId) (cs:Array Value) (fr:Nat × Nat) (d:TypeDesc) (v v2:Value)
  (hp:tmps.getD p undef = .pointer (some ⟨g,0,none⟩)) (hg:w.heap[g]?=some (.cells cs t fr))
  (hu:P.underlying ty=some d) (hd:(match d with | .struct _ | .array _ _=>true | _=>false)=true) (hi:(P.info? ty).map (·.size)=some cs.size) (hv:tmps.getD u undef=v) (hv2:tmps.getD u2 undef=v2) :
  (results fn tmps).run P w = .ok (.tuple #[.agg cs,v,v2]) w:=by
 have hp':tmps[p]?.getD undef = .pointer (some ⟨g,0,none⟩):=by simpa using hp
 have hv':tmps[u]?.getD undef=v:=by simpa using hv
 have hv2':tmps[u2]?.getD undef=v2:=by simpa using hv2
 simp [results,h,hp',hv',hv2',asAddr,run_loadVar_row w g t ty cs fr d hg hu hd hi]
set_option maxHeartbeats 1600000 in
set_option maxRecDepth 100000 in
theorem gCompiled (N n:Nat) (hn:n≤12) (L:List (List Int)) (a:Option Addr) (c:Nat) (w:World) (hT:Pow10 N w) (hN:N≤w.heap.size) (hA:ThAt w.heap.size w a L) (hL:∀ xs∈L,xs.all (fun x=>Jk x n)=true∧xs.length≤12) (hl:L.length<20) (h0:Kz n L=0) :
  Calls Tryz.prog 8 #[.agg #[.int .i64 n,.slice a L.length c],.slice none 0 0,.bool false] w fun e w'=>∃ p cp uN ns,e = .returned (.tuple #[.agg #[.int .i64 n,.slice p (ns:List Nd).length cp],uN,.bool true])∧NetAt w'.heap.size w' p ns∧NetG n ns∧0<ns.length∧(∀ a,Yf ns (ns.length-1) a=thB a L)∧ns.length≤65536∧Below w.heap.size w w':=by
 obtain ⟨Post,hPost⟩:∃ P:Ending→World→Prop,P=fun e w'=>∃ p cp uN ns,e = .returned (.tuple #[.agg #[.int .i64 n,.slice p (ns:List Nd).length cp],uN,.bool true])∧NetAt w'.heap.size w' p ns∧NetG n ns∧0<ns.length∧(∀ a,Yf ns (ns.length-1) a=thB a L)∧ns.length≤65536∧Below w.heap.size w w':=⟨_,rfl⟩
 rw [←hPost]
 have HP:=Lib.hid (show ∀ p cp uN (ns:List Nd) w',NetAt w'.heap.size w' p ns→NetG n ns→0<ns.length→(∀ a,Yf ns (ns.length-1) a=thB a L)→ns.length≤65536→Below w.heap.size w w'→Post (.returned (.tuple #[.agg #[.int .i64 n,.slice p ns.length cp],uN,.bool true])) w' from fun p cp uN ns w' h1 h2 h3 h4 h5 h6=>by rw [hPost];exact ⟨p,cp,uN,ns,rfl,h1,h2,h3,h4,h5,h6⟩)
 have HCP:=Lib.hid (fun (x:World) (hb:Below w.heap.size w x)=>Q82 N n hn true L a c x (hT.on (hb.mono hN) (Nat.le_refl _)) (Nat.le_trans hN hb.size) ((hA.below hb (Nat.le_refl _)).mono hb.size) hL hl h0)
 generalize L.length=ml at *
 clear hPost hA hT hN hL hl h0
 go_enter Tryz.func8,Tryz.ntmps8
 go_upto_region 1 with fail
 refine Qg ?_
 intro w1 hw1
 have S1:=Lib.hid (show w1.heap[w.heap.size]?=some (.cells #[.int .i64 n,.slice a ml c] 24 (0,0)) by rw [hw1];exact Yp _ _ _)
 have R1:=Lib.hid (show w1.heap[w.heap.size+1]?=some (.cells #[.int .i64 0,.slice none 0 0] 33 (0,0)) by rw [hw1];exact Yn _ _ _)
 have HL1:=Lib.hid (show Below w.heap.size w w1 by rw [hw1];exact Jy _ _ _)
 clear hw1
 go_upto_region 2 with fail
 refine Qg ?_
 intro w2 hw2
 obtain ⟨go,hgo⟩:∃ go,go=w1.heap.size:=⟨_,rfl⟩
 have O2:=Lib.hid (show w2.heap[go]?=some (.cells #[.slice none 0 0,.bool false,.bool true] 59 (0,0)) by rw [hw2,hgo];exact Qn _ _)
 have hb2:Below w1.heap.size w1 w2:=by rw [hw2];exact Qe _ _
 have S2:=Lib.hid ((Q4 hb2).keep S1.out (by simp))
 have R2:=Lib.hid ((Q4 hb2).keep R1.out (by simp))
 have HL2:=Lib.hid (HL1.out.trans (hb2.mono HL1.out.size))
 rw [←hgo]
 clear hw2 hb2 S1 R1 HL1 hgo
 have q0:=Q5 S2.out 0 rfl
 have q1:=Q5 S2.out 1 rfl
 have o0:=Q5 O2.out 0 rfl
 have o1:=Q5 O2.out 1 rfl
 have o2:=Q5 O2.out 2 rfl
 go_wp2_with fail
 refine (HCP.out w2 HL2.out).mono ?_
 rintro e w3 ⟨vN,uN,ns,rfl,hc3⟩
 obtain ⟨cl,hrow,hxx⟩:=hc3.nodes
 obtain ⟨pN,cN,hvN⟩:=hrow.slice
 obtain ⟨cl2,hrow2⟩:=hc3.claims
 obtain ⟨pU,cU,hvU⟩:=hrow2.slice
 subst hvN
 subst hvU
 have hR2:w.heap.size+1<w2.heap.size:=Q9 R2.out
 have hRB:w.heap.size+1∉Q7 (.slice pN ns.length cN):=fun hm=>by
  rcases hrow.two with ⟨h3,_,_⟩ | ⟨b,cap,e⟩
  ·rw [h3] at hm;simp [Q7] at hm
  ·rw [e] at hrow hm
   obtain ⟨tl,t1,_⟩:=Q0q hrow
   simp only [Q7,List.mem_singleton] at hm
   rw [←hm,(Q4 hc3.be).keep R2.out (by simp)] at t1
   have t2:=Option.some.inj t1
   injection t2 with t3 t4 t5
   exact absurd t4 (by decide)
 have HNR3:=Lib.hid hc3.nodes
 have HRB:=Lib.hid hRB
 have HR2:=Lib.hid hR2
 have HNG:=Lib.hid hc3.net
 have HKP:=Lib.hid hc3.pos
 have HKL:=Lib.hid hc3.len
 have HROOT:=Lib.hid hc3.root
 have HL3:=Lib.hid (HL2.out.trans (hc3.be.mono HL2.out.size))
 have hc3s:=hc3.be.size
 have S3:=Lib.hid ((Q4 hc3.be).keep S2.out (by simp))
 have R3:=Lib.hid ((Q4 hc3.be).keep R2.out (by simp))
 clear hc3 hrow hrow2 hxx hR2 hRB S2 R2 HL2 HCP q0 q1 o0 o1 o2 O2
 have HPK:=Lib.hid (HP.out pN cN (.slice pU ns.length cU) ns)
 obtain ⟨k,hk⟩:∃ k,k=ns.length:=⟨_,rfl⟩
 rw [←hk] at HPK HKP HKL HROOT ⊢
 clear hk HP
 go_upto_region 5 with fail
 refine Qg ?_
 intro w4 hw4
 obtain ⟨gn,hgn⟩:∃ gn,gn=w3.heap.size:=⟨_,rfl⟩
 have N4:=Lib.hid (show w4.heap[gn]?=some (.cells #[.int .i64 n,.slice pN k cN] 33 (0,0)) by rw [hw4,hgn];exact Qn _ _)
 have hb4:Below w3.heap.size w3 w4:=by rw [hw4];exact Qe _ _
 have S4:=Lib.hid ((Q4 hb4).keep S3.out (by simp))
 have R4:=Lib.hid ((Q4 hb4).keep R3.out (by simp))
 have HNR4:=Lib.hid (HNR3.out.keep (Q4 hb4) (fun g hg=>by simp at hg))
 have hs4:w2.heap.size≤w4.heap.size:=Nat.le_trans hc3s hb4.size
 have HS4:=Lib.hid hs4
 have HL4:=Lib.hid (HL3.out.trans (hb4.mono HL3.out.size))
 have hne:gn≠w.heap.size+1:=by have:=Q9 R3.out;omega
 have hne2:w.heap.size≠w.heap.size+1:=by omega
 rw [←hgn]
 have N0:=Lib.hid (Q5 N4.out 0 rfl)
 have N1:=Lib.hid (Q5 N4.out 1 rfl)
 have S0:=Lib.hid (Q5 S4.out 0 rfl)
 clear hw4 hb4 hgn S3 R3 HL3 HNR3 hs4 hc3s
 refine Qo [0,0,0,0,0,0,0,0,0,0,0,0,0,0,0,0,0,0,0,2,0,0] [w.heap.size+1] _ (Fin.put Qu _ _) (Qr (Qi _) R4.out) (by kernel_rfl) (by kernel_rfl) ?_
 refine Qb 19 (by kernel_rfl) (by rfl) ?_
 apply Exists.intro
 refine ⟨fun z hz=>?_,?_⟩
 ·have g0:=Q6 hz N0.out (by simp;omega)
  have g1:=Q6 hz N1.out (by simp;omega)
  have g2:=Q6 hz S0.out (by simp)
  clear hz
  simp only [List.take_succ_cons,List.take_zero]
  unfold Cx
  repeat (go_big_quiet_step (fail))
  exact wpQuiet_nil rfl
 simp only [List.drop_succ_cons,List.drop_zero]
 refine Qh (w.heap.size+1) #[.int .i64 n,.slice pN k cN] #[.int .i64 0,.slice none 0 0] 33 (by rfl) (by rfl) (by rfl) (Blocks.put_same _ _ _) rfl (.inl (by simp)) (by kernel_rfl) (by simp [Value.oneCell']) ?_
 refine Qb 2 (by kernel_rfl) (by rfl) ?_
 apply Exists.intro
 refine ⟨fun z hz=>?_,?_⟩
 ·clear hz
  simp only [List.take_succ_cons,List.take_zero]
  unfold Cx
  repeat (go_big_quiet_step (fail))
  exact wpQuiet_nil rfl
 simp only [List.drop_succ_cons,List.drop_zero]
 refine Qf ?_
 intro w5 hx5 hB5
 have R5:=Lib.hid (hB5 (w.heap.size+1) _ (Blocks.put_same _ _ _))
 have HL5:=Lib.hid (HL4.out.trans (hx5.below_of (b:=w.heap.size) (fun k hk=>by simp at hk;omega) HL4.out.size))
 have HNR5:=Lib.hid (HNR4.out.keep hx5 (fun g hg=>by
  simp only [List.mem_singleton] at hg
  subst hg
  exact ⟨HRB.out,fun h=>by have:=HR2.out;have:=HS4.out;omega⟩))
 have HK2:=HPK.out
 have HF:=Lib.hid (HK2 w5 HNR5.out.net HNG.out HKP.out HROOT.out HKL.out HL5.out)
 clear hx5 hB5 HK2 HNR5 HNR4 HPK
 go_wp2_with fail
 refine bodyPost_ret (Q3q (p:=6) (u:=7) (u2:=8) rfl _ _ (w.heap.size+1) _ _ (0,0) _ _ _ rfl R5.out Tryz.underlying33 rfl Tryz.sizeNet rfl rfl) rfl ?_
 exact HF.out
end
/- The reference's Assignment and Eval. -/
section
open Go.RowKit
theorem Q2e (o:Nat→Bool) {v:Nat} (h1:1≤v) (h2:v≤128):Ot (loW o) (hiW o) (v:Int)=o v:=by
 unfold Ot
 by_cases h:(v:Int)≤64
 ·rw [if_pos h,show ((v:Int)-1).toNat=v-1 by omega,Q8y o h1 (by omega)]
 ·rw [if_neg h,show ((v:Int)-65).toNat=v-65 by omega,hi_bit o (by omega) h2]
theorem xHasO (o:Nat→Bool) (v:Nat) (h1:1≤v) (h2:v≤128):Gives 68 #[Qt o,.int .i64 (v:Int)] (.bool (o v)):=by
 have h:=xHas (loW o) (hiW o) (v:Int) (by omega) (by omega)
 rw [Q2e o h1 h2] at h
 exact h
theorem xHoldsO (o:Nat→Bool) (y:Int) (h0:y≠0) (h1:-128≤y) (h2:y≤128):Gives 36 #[Qt o,.int .i64 y] (.bool (liB o y)):=by
 have h:=xHolds (loW o) (hiW o) y h0 h1 h2
 have e:litB (Ot (loW o) (hiW o)) y=liB o y:=by
  unfold litB liB
  by_cases hp:0<y
  ·rw [if_pos hp,if_pos hp,show y=((y.natAbs:Nat):Int) by omega,Q2e o (by omega) (by omega)]
   rfl
  ·rw [if_neg hp,if_neg hp,show -y=((y.natAbs:Nat):Int) by omega,Q2e o (by omega) (by omega)]
 rw [e] at h
 exact h
set_option maxHeartbeats 1600000 in
set_option maxRecDepth 100000 in
theorem Q7x (o:Nat→Bool) (n:Nat) (hn:n≤128) (ho:∀ v,n<v→o v=false):Gives 35 #[Qt o,.int .i64 (n:Int)] (.bool true):=by
 intro w
 have KH:=Lib.hid (fun v h1 h2=>xHasO o v h1 h2)
 have HO:=Lib.hid ho
 clear ho
 unfold Qt Jz at *
 generalize loW o=a0 at *
 generalize hiW o=a1 at *
 go_enter Tryz.func35,Tryz.ntmps35
 go_wp2_with fail
 refine Qg ?_
 intro w1 hw1
 have HB1:=Lib.hid (show Below w.heap.size w w1 by rw [hw1];exact Qe _ _)
 have M2:=Lib.hid (show w1.heap[w.heap.size]?=some (.cells #[.int .u64 (a0:Nat),.int .u64 (a1:Nat)] 55 (0,0)) by rw [hw1];exact Qn _ _)
 clear hw1
 go_loopw [5] (fun t5 wr=>∃ v:Nat,n≤v∧v≤128∧t5 = .int .i64 ((v:Int)+1)∧Hid (Below w1.heap.size w1 wr)) (fun t5 _=>129-(intOf t5).toNat)
 case atStart=>exact ⟨n,Nat.le_refl _,hn,rfl,Below.refl _ _⟩
 case round =>
  obtain ⟨v,hv1,hv2,rfl,HB⟩:=hrel
  by_cases hlt:v<128
  ·have hd:decide ((v:Int)+1≤128)=true:=by simp;omega
   have KI:=KH.out (v+1) (by omega) (by omega)
   rw [HO.out (v+1) (by omega)] at KI
   have m3:=(Q4 HB.out).keep M2.out (by simp)
   have c0:=Q5 m3 0 rfl
   have c1:=Q5 m3 1 rfl
   clear m3
   go_wp2_with fail
   refine (KI _).mono ?_
   rintro r3 w3 ⟨rfl,hB3⟩
   have HB3:=Lib.hid (HB.out.trans (hB3.mono HB.out.size))
   clear hB3 c0 c1 HB KI
   go_wp2_with fail
   go_roundw
   case rel=>exact ⟨v+1,by omega,by omega,by go_num,HB3⟩
   case measure=>simp [intOf];omega
  ·obtain rfl:v=128:=by omega
   have hd:decide (((128:Nat):Int)+1≤128)=false:=by decide
   go_wp2_with fail
   go_ret
   exact ⟨rfl,HB1.out.trans (HB.out.mono HB1.out.size)⟩
set_option maxHeartbeats 3200000 in
set_option maxRecDepth 100000 in
theorem xEval (n:Nat) (hn:n≤128) (L:List (List Int)) (hL:∀ xs∈L,xs.all (fun x=>Jk x n)=true) (h0:Kz n L=0) (o:Nat→Bool) (ho:∀ v,n<v→o v=false) (aL:Option Addr) (cL:Nat) (w:World) (hA:ThAt w.heap.size w aL L) (hl:L.length≤1000000) (hl2:∀ xs∈L,xs.length≤1000000) :
  Calls Tryz.prog 18 #[.agg #[.int .i64 n,.slice aL L.length cL],Qt o] w fun e w'=>e = .returned (.bool (thB o L))∧Below w.heap.size w w':=by
 obtain ⟨Post,hPost⟩:∃ P:Ending→World→Prop,P=fun e w'=>e = .returned (.bool (thB o L))∧Below w.heap.size w w':=⟨_,rfl⟩
 rw [←hPost]
 have HP:=Lib.hid (show ∀ (b:Bool) w',thB o L=b→Below w.heap.size w w'→Post (.returned (.bool b)) w' from fun b w' hb h=>by rw [hPost,hb];exact ⟨rfl,h⟩)
 have HTH:=Lib.hid (fun (x:World) (hb:Below w.heap.size w x)=>xTheo n L aL cL x ((hA.below hb (Nat.le_refl _)).mono hb.size))
 rw [h0] at HTH
 have KAS:=Q7x o n hn ho
 have KH:=Lib.hid (fun y h1 h2 h3=>xHoldsO o y h1 h2 h3)
 have HLI:=Lib.hid (show ∀ c∈L,∀ x∈c,x≠0∧-128≤x∧x≤128 from fun c hc x hx=>by
  have:=Kf.1 (List.all_eq_true.1 (hL c hc) x hx)
  omega)
 have HA:=Lib.hid hA
 have HL2:=Lib.hid hl2
 obtain ⟨m,hm⟩:∃ m,m=L.length:=⟨_,rfl⟩
 rw [←hm] at HTH hl ⊢
 have HM:=Lib.hid hm
 clear hPost hA hL h0 ho hm hl2
 unfold Qt Jz at *
 generalize loW o=a0 at *
 generalize hiW o=a1 at *
 go_enter Tryz.func18,Tryz.ntmps18
 go_upto_region 1 with fail
 refine Qg ?_
 intro w1 hw1
 have S1:=Lib.hid (show w1.heap[w.heap.size]?=some (.cells #[.int .i64 n,.slice aL m cL] 24 (0,0)) by rw [hw1];exact Yp _ _ _)
 have O1:=Lib.hid (show w1.heap[w.heap.size+1]?=some (.cells #[.int .u64 (a0:Nat),.int .u64 (a1:Nat)] 55 (0,0)) by rw [hw1];exact Yn _ _ _)
 have HL1:=Lib.hid (show Below w.heap.size w w1 by rw [hw1];exact Jy _ _ _)
 clear hw1
 have q0:=Q5 S1.out 0 rfl
 have q1:=Q5 S1.out 1 rfl
 go_wp2_with fail
 refine (HTH.out w1 HL1.out).mono ?_
 rintro e w2 ⟨rfl,hb2⟩
 have S2:=Lib.hid ((Q4 hb2).keep S1.out (by simp))
 have O2:=Lib.hid ((Q4 hb2).keep O1.out (by simp))
 have HL2b:=Lib.hid (HL1.out.trans (hb2.mono HL1.out.size))
 clear hb2 S1 O1 HL1 HTH q0 q1
 have q0:=Q5 S2.out 0 rfl
 have p0:=Q5 O2.out 0 rfl
 have p1:=Q5 O2.out 1 rfl
 go_wp2_with fail
 refine (KAS w2).mono ?_
 rintro e w3 ⟨rfl,hb3⟩
 have S3:=Lib.hid ((Q4 hb3).keep S2.out (by simp))
 have O3:=Lib.hid ((Q4 hb3).keep O2.out (by simp))
 have HL3:=Lib.hid (HL2b.out.trans (hb3.mono HL2b.out.size))
 clear hb3 S2 O2 HL2b KAS q0 p0 p1
 go_wp2_with fail
 go_loopw [5] (fun t5 wr=>∃ i:Nat,t5 = .int .i64 i∧i≤m∧Hid (thB o (L.take i)=true)∧Hid (Below w3.heap.size w3 wr)) (fun t _=>m-(intOf t).toNat)
 case atStart=>exact ⟨0,rfl,Nat.zero_le _,rfl,Below.refl _ _⟩
 case round =>
  obtain ⟨i,rfl,him,HT,HW⟩:=hrel
  obtain ⟨w4,hw4⟩:∃ w4,w4=wr:=⟨_,rfl⟩
  rw [←hw4] at HW ⊢
  clear hw4
  have S4:=Lib.hid ((Q4 HW.out).keep S3.out (by simp))
  have q0:=Q5 S4.out 0 rfl
  have q1:=Q5 S4.out 1 rfl
  by_cases hlt:i<m
  ·have hd:decide (i<m)=true:=decide_eq_true hlt
   have hd2:decide ((i:Int)<(m:Int))=true:=decide_eq_true (by omega)
   obtain ⟨c,hc⟩:∃ c,L[i]?=some c:=⟨_,List.getElem?_eq_getElem (by rw [←HM.out];exact hlt)⟩
   obtain ⟨b,ob,p,cc,hb,hp,hcell,hcl⟩:=HA.out i c hc
   subst hp
   have HC:=Lib.hid hc
   have HCE:=Lib.hid (Q8 HL3.out hb hcell)
   have HCL:=Lib.hid (hcl.below HL3.out (Nat.le_refl _))
   have HBS:=Lib.hid (show b<w3.heap.size from Nat.lt_of_lt_of_le hb HL3.out.size)
   have hcn:=HL2.out c (List.mem_of_getElem? hc)
   have HMEM:=Lib.hid (HLI.out c (List.mem_of_getElem? hc))
   clear hc hb hcell hcl
   go_wp2_with fail
   go_loopw [6,7] (fun t6 t7 wv=>∃ (bb:Bool) (j:Nat),t6 = .bool bb∧t7 = .int .i64 j∧j≤c.length∧Hid (bb=(c.take j).any (liB o))∧Hid (Below w3.heap.size w3 wv)) (fun _ t _=>c.length-(intOf t).toNat)
   case atStart=>exact ⟨false,0,rfl,rfl,Nat.zero_le _,rfl,HW.out⟩
   case round =>
    obtain ⟨bb,j,rfl,rfl,hjn,HBB,HWv⟩:=hrel
    obtain ⟨w5,hw5⟩:∃ w5,w5=wr:=⟨_,rfl⟩
    rw [←hw5] at HWv ⊢
    clear hw5 q0 q1 S4 HW
    have S5:=Lib.hid ((Q4 HWv.out).keep S3.out (by simp))
    have O5:=Lib.hid ((Q4 HWv.out).keep O3.out (by simp))
    have k0:=Q8 HWv.out HBS.out HCE.out
    have q1:=Q5 S5.out 1 rfl
    by_cases hjl:j<c.length
    ·have hdj:decide (j<c.length)=true:=decide_eq_true hjl
     have hdj2:decide ((j:Int)<(c.length:Int))=true:=decide_eq_true (by omega)
     obtain ⟨x,hx⟩:∃ x,c[j]?=some x:=⟨_,List.getElem?_eq_getElem hjl⟩
     obtain ⟨b2,o2,hb2,ea,kx⟩:=(HCL.out.below HWv.out (Nat.le_trans (Nat.le_refl _) HL3.out.size)) j _ (Jb c j _ hx)
     subst ea
     have hxr:=HMEM.out x (List.mem_of_getElem? hx)
     have KX:=KH.out x hxr.1 hxr.2.1 hxr.2.2
     have HBN:=Lib.hid (show (bb||liB o x)=(c.take (j+1)).any (liB o) by rw [Xj hx,List.any_append,←HBB.out];simp)
     generalize liB o x=lx at *
     have K0:=Lib.hid k0
     have Q1:=Lib.hid q1
     have P0:=Lib.hid (Q5 O5.out 0 rfl)
     have P1:=Lib.hid (Q5 O5.out 1 rfl)
     have X0:=Lib.hid kx
     have HKX:=Lib.hid KX
     clear hx kx KX HBB
     go_upto_region 10 with fail
     clear k0 q1
     cases bb with
     | true =>
      refine Qo [0,0,0,0,0,0,0,0,0,0,0,0,0,0] [] B0 Qu (Qi _) (by kernel_rfl) (by kernel_rfl) ?_
      refine Qb 14 (by kernel_rfl) (by rfl) ?_
      apply Exists.intro
      refine ⟨fun z hz=>?_,?_⟩
      ·clear hz
       simp only [List.take_succ_cons,List.take_zero]
       unfold Cx
       repeat (go_big_quiet_step (fail))
       exact wpQuiet_nil rfl
      simp only [List.drop_succ_cons,List.drop_zero]
      refine Qf ?_
      intro w6 hx6 _
      have HW6:=Lib.hid (HWv.out.trans (hx6.below.mono HWv.out.size))
      clear hx6
      go_wp2_with fail
      go_roundw
      case rel=>exact ⟨true,j+1,rfl,by go_num,by omega,HBN.out,HW6.out⟩
      case measure=>simp [intOf];omega
     | false =>
      rw [Bool.false_or] at HBN
      refine Qo [0,0,0,0,0,0,0,0,0,0,0,0,0,0] [] B0 Qu (Qi _) (by kernel_rfl) (by kernel_rfl) ?_
      refine Qb 14 (by kernel_rfl) (by rfl) ?_
      apply Exists.intro
      refine ⟨fun z hz=>?_,?_⟩
      ·have f0:=Q6 hz P0.out (by simp)
       have f1:=Q6 hz P1.out (by simp)
       have f2:=Q6 hz Q1.out (by simp)
       have f3:=Q6 hz K0.out (by simp)
       have f4:=Q6 hz X0.out (by simp)
       clear hz
       simp only [List.take_succ_cons,List.take_zero]
       unfold Cx
       repeat (go_big_quiet_step (first | with_reducible exact HKX.out.at _ _))
       exact wpQuiet_nil rfl
      simp only [List.drop_succ_cons,List.drop_zero]
      refine Qf ?_
      intro w6 hx6 _
      have HW6:=Lib.hid (HWv.out.trans (hx6.below.mono HWv.out.size))
      clear hx6
      go_wp2_with fail
      go_roundw
      case rel=>exact ⟨lx,j+1,rfl,by go_num,by omega,HBN.out,HW6.out⟩
      case measure=>simp [intOf];omega
    ·obtain rfl:j=c.length:=by omega
     have hdj:decide (c.length<c.length)=false:=decide_eq_false (by omega)
     have hdj2:decide ((c.length:Int)<(c.length:Int))=false:=decide_eq_false (by omega)
     have HCB:=Lib.hid (show clB o c=bb by have:=HBB.out;rw [List.take_length] at this;rw [this];rfl)
     clear HBB
     cases bb with
     | true =>
      have HTN:=Lib.hid (show thB o (L.take (i+1))=true by
       have h1:=HT.out
       have h2:=HCB.out
       unfold thB at h1 ⊢
       rw [List.take_add_one,HC.out,Option.toList_some,List.all_append,h1]
       simpa using h2)
      go_wp2_with fail
      go_roundw
      case rel=>exact ⟨i+1,by go_num,by omega,HTN.out,HWv.out⟩
      case measure=>simp [intOf];omega
     | false =>
      have HF:=Lib.hid (HP.out false w5 (by
       cases h:thB o L with
       | false=>rfl
       | true =>
        unfold thB at h
        rw [←HCB.out]
        exact (List.all_eq_true.1 h c (List.mem_of_getElem? HC.out)).symm) (HL3.out.trans (HWv.out.mono HL3.out.size)))
      go_wp2_with fail
      exact HF.out
  ·obtain rfl:i=m:=by omega
   have hd:decide (i<i)=false:=decide_eq_false (by omega)
   have hd2:decide ((i:Int)<(i:Int))=false:=decide_eq_false (by omega)
   have HF:=Lib.hid (HP.out true w4 (by have:=HT.out;rw [HM.out,List.take_length] at this;exact this) (HL3.out.trans (HW.out.mono HL3.out.size)))
   go_wp2_with fail
   exact HF.out
end
/- The reference's Assign. -/
section
open Go.RowKit
def Kr (n k v:Nat):Nat→Bool:=fun u=>decide (v<u∧u≤n)&&k.testBit (n-u)
theorem Q6f {f g:Nat→Bool} {u:Nat} (hg:g u=false) (hf:f u=true) (he:∀ i,i≠u→f i=g i):∀ K,Ji f K=Ji g K+(if u<K then 2^u else 0)
 | 0=>rfl
 | K+1=>by
  have ih:=Q6f hg hf he K
  show Ji f K+(if f K=true then 2^K else 0)=(Ji g K+(if g K=true then 2^K else 0))+(if u<K+1 then 2^u else 0)
  by_cases e:K=u
  ·subst e
   rw [ih,hg,hf,if_neg (show ¬ K<K by omega),if_pos (show K<K+1 by omega)]
   simp
  ·rw [ih,he K e]
   generalize (if g K=true then 2^K else 0)=z
   by_cases h:u<K
   ·rw [if_pos h,if_pos (show u<K+1 by omega)];omega
   ·rw [if_neg h,if_neg (show ¬ u<K+1 by omega)];omega
theorem rev_lo {n k u:Nat} (hu:u<n) (h64:n≤64):loW (Kr n k u)=loW (Kr n k (u+1))+(if k.testBit (n-(u+1))=true then 2^u else 0):=by
 have key:∀ i,i≠u→Kr n k u (i+1)=Kr n k (u+1) (i+1):=fun i hi=>by
  unfold Kr
  congr 1
  exact decide_eq_decide.2 (by omega)
 have h0:Kr n k (u+1) (u+1)=false:=by unfold Kr;rw [decide_eq_false (by omega)];rfl
 have h1:Kr n k u (u+1)=k.testBit (n-(u+1)):=by unfold Kr;rw [decide_eq_true (by omega)];simp
 cases hb:k.testBit (n-(u+1)) with
 | true =>
  rw [if_pos rfl]
  unfold loW
  rw [Q6f (f:=fun i=>Kr n k u (i+1)) (g:=fun i=>Kr n k (u+1) (i+1)) h0 (by rw [h1,hb]) key 64,if_pos (by omega)]
 | false =>
  rw [if_neg (by simp),Nat.add_zero]
  unfold loW
  refine Za fun i hi=>?_
  by_cases e:i=u
  ·rw [e,h1,hb,h0]
  ·exact key i e
theorem rev_hi {n k u:Nat} (h64:n≤64):hiW (Kr n k u)=0:=by
 have:∀ K,Ji (fun i=>Kr n k u (i+65)) K=0:=fun K=>by
  induction K with
  | zero=>rfl
  | succ K ih =>
   rw [Ji,ih,show Kr n k u (K+65)=false by unfold Kr;rw [decide_eq_false (by omega)];rfl];rfl
 exact this 64
theorem rev_start {n k:Nat}:loW (Kr n k n)=0:=by
 have:∀ K,Ji (fun i=>Kr n k n (i+1)) K=0:=fun K=>by
  induction K with
  | zero=>rfl
  | succ K ih =>
   rw [Ji,ih,show Kr n k n (K+1)=false by unfold Kr;rw [decide_eq_false (by omega)];rfl];rfl
 exact this 64
set_option maxHeartbeats 1600000 in
set_option maxRecDepth 100000 in
theorem xAssign (k n:Nat) (hn:n≤12) (hk:k<4096):Gives 17 #[.int .i64 (k:Int),.int .i64 (n:Int)] (Qt (Kr n k 0)):=by
 intro w
 obtain ⟨Post,hPost⟩:∃ P:Ending→World→Prop,P=fun e w'=>e = .returned (Qt (Kr n k 0))∧Below w.heap.size w w':=⟨_,rfl⟩
 rw [←hPost]
 have HP:=Lib.hid (show ∀ w',Below w.heap.size w w'→Post (.returned (Qt (Kr n k 0))) w' from fun w' h=>by rw [hPost];exact ⟨rfl,h⟩)
 clear hPost
 unfold Qt Jz at HP
 rw [rev_hi (by omega)] at HP
 go_enter Tryz.func17,Tryz.ntmps17
 go_upto_region 2 with fail
 refine Qg ?_
 intro w1 hw1
 have R1:=Lib.hid (show w1.heap[w.heap.size]?=some (.cells #[.int .u64 0,.int .u64 0] 55 (0,0)) by rw [hw1];exact Yp _ _ _)
 have S1:=Lib.hid (show w1.heap[w.heap.size+1]?=some (.cells #[.int .u64 (loW (Kr n k n):Nat),.int .u64 0] 55 (0,0)) by rw [hw1,rev_start];exact Yn _ _ _)
 have HL1:=Lib.hid (show Below w.heap.size w w1 by rw [hw1];exact Jy _ _ _)
 clear hw1
 go_wp2_with fail
 go_loopw [6,0] (fun t6 t0 wr=>∃ v kk:Nat,t6 = .int .i64 v∧t0 = .int .i64 kk∧v≤n∧Hid (kk=k/2^(n-v))∧kk<4096∧Hid (wr.heap[w.heap.size+1]?=some (.cells #[.int .u64 (loW (Kr n k v):Nat),.int .u64 0] 55 (0,0)))∧Hid (Behind w1 [w.heap.size+1] wr)) (fun t _ _=>(intOf t).toNat)
 case atStart=>exact ⟨n,k,rfl,rfl,Nat.le_refl _,by show k=k/2^(n-n);simp,hk,S1.out,Behind.refl _ _⟩
 case round =>
  obtain ⟨v,kk,rfl,rfl,hvn,HK,hkk,HS,HW⟩:=hrel
  obtain ⟨w2,hw2⟩:∃ w2,w2=wr:=⟨_,rfl⟩
  rw [←hw2] at HS HW ⊢
  clear hw2 S1
  by_cases h1:1≤v
  ·obtain ⟨u,rfl⟩:∃ u,v=u+1:=⟨v-1,by omega⟩
   have hd:decide ((1:Int)≤((u+1:Nat):Int))=true:=decide_eq_true (by omega)
   have hd2:decide (1≤u+1)=true:=decide_eq_true (by omega)
   have hd3:decide ((1:Int)≤((u:Int)+1))=true:=decide_eq_true (by omega)
   have HKN:=Lib.hid (show kk/2=k/2^(n-u) by rw [HK.out,show n-u=n-(u+1)+1 by omega,Nat.pow_succ,Nat.div_div_eq_div_mul])
   have HBT:=Lib.hid (show k.testBit (n-(u+1))=decide (kk%2=1) by rw [Nat.testBit_eq_decide_div_mod_eq,←HK.out])
   have hlo:=rev_lo (k:=k) (show u<n by omega) (show n≤64 by omega)
   rw [HBT.out] at hlo
   have hlt:=Vu (Kr n k u)
   have hwp:=Aq (show u<64 by omega)
   have hu:u<64:=by omega
   have hum:u%64=u:=Nat.mod_eq_of_lt hu
   have e1:((u+1:Nat):Int)-1=(u:Int):=by omega
   have e1':((u:Int)+1)-1=(u:Int):=by omega
   have e2:(u:Int)/64=0:=by omega
   have HLO:=Lib.hid hlo
   clear hlo
   have hkq:((kk:Int)/2)=((kk/2:Nat):Int):=by omega
   obtain ⟨q,hq⟩:∃ q,q=kk/2:=⟨_,rfl⟩
   rw [←hq] at hkq HKN
   have hql:q<4096:=by omega
   by_cases hb:kk%2=1
   ·rw [decide_eq_true hb,if_pos rfl] at HLO
    have hm1:(kk:Int).tmod 2=1:=by rw [Int.tmod_eq_emod_of_nonneg (Int.natCast_nonneg _)];omega
    have hm2:(kk:Int)%2=1:=by omega
    have hm3:((kk:Int).tmod 2 == 1)=true:=by rw [hm1];rfl
    obtain ⟨p2,hp2⟩:∃ p2,p2=2^u:=⟨_,rfl⟩
    rw [←hp2] at hwp HLO
    obtain ⟨x0,hx0⟩:∃ x0,x0=loW (Kr n k (u+1)):=⟨_,rfl⟩
    rw [←hx0] at HS HLO
    rw [HLO.out] at hlt
    have e0:=Q5 HS.out 0 rfl
    have f0:=Qd HS.out 0
    clear hp2 hx0 hq
    go_upto_region 7 with fail
    refine Qg ?_
    intro w3 hw3
    have S3:=Lib.hid (show w3.heap[w.heap.size+1]?=some (.cells #[.int .u64 (loW (Kr n k u):Nat),.int .u64 0] 55 (0,0)) by rw [hw3,HLO.out,Int.natCast_add];exact heap_setCell_same _ _ _ _ _ _ HS.out)
    have HW3:=Lib.hid (show Behind w1 [w.heap.size+1] w3 by rw [hw3];exact HW.out.trans (show Behind w2 [w.heap.size+1] _ from behindSet) (fun k hk=>.inl hk))
    clear hw3 e0 f0 HS HW hm1 hm2 hm3 hb hwp e1 e2 e1' hum
    go_wp2_with fail
    go_roundw
    case rel=>exact ⟨u,q,by go_num,by go_num,by omega,HKN.out,hql,S3.out,HW3.out⟩
    case measure=>simp [intOf]
   ·have hb0:kk%2=0:=by omega
    rw [decide_eq_false hb,if_neg (by simp),Nat.add_zero] at HLO
    have hm1:(kk:Int).tmod 2=0:=by rw [Int.tmod_eq_emod_of_nonneg (Int.natCast_nonneg _)];omega
    have hm2:(kk:Int)%2=0:=by omega
    have hm3:((kk:Int).tmod 2 == 1)=false:=by rw [hm1];rfl
    have S3:=Lib.hid (show w2.heap[w.heap.size+1]?=some (.cells #[.int .u64 (loW (Kr n k u):Nat),.int .u64 0] 55 (0,0)) by rw [HLO.out];exact HS.out)
    clear HS hq hwp hb hb0
    go_wp2_with fail
    go_roundw
    case rel=>exact ⟨u,q,by go_num,by go_num,by omega,HKN.out,hql,S3.out,HW.out⟩
    case measure=>simp [intOf]
  ·obtain rfl:v=0:=by omega
   have hd:decide (1≤0)=false:=rfl
   have R2:=Lib.hid (HW.out.keep R1.out (by simp))
   have c0:=Q5 HS.out 0 rfl
   have c1:=Q5 HS.out 1 rfl
   have e0:=Q5 R2.out 0 rfl
   have e1:=Q5 R2.out 1 rfl
   have f0:=Qd R2.out 0
   have f1:=Qd R2.out 1
   have HF:=Lib.hid (HP.out _ ((HL1.out.trans (HW.out.below_of (b:=w.heap.size) (fun k hk=>by simp at hk;omega) HL1.out.size)).trans (show Below w.heap.size w2 ((w2.setCell ⟨w.heap.size,0,none⟩ (.int .u64 (loW (Kr n k 0):Nat))).setCell ⟨w.heap.size,1,none⟩ (.int .u64 0)) from Kt (Nat.le_refl _))))
   go_wp2_with fail
   refine bodyPost_ret (Qs (p:=4) rfl _ _ w.heap.size _ _ (0,0) _ rfl (Zg R2.out) Tryz.underlying55 rfl Tryz.sizeSetO) rfl ?_
   exact HF.out
end
/- The reference's Models: how many there are. -/
section
open Go.RowKit
theorem wrapP {r:Nat} (h:r≤8):wrap64 ((2:Int)^r)=((2^r:Nat):Int):=by
 have h1:2^r≤2^8:=Nat.pow_le_pow_right (by omega) h
 have e:(2:Int)^r=((2^r:Nat):Int):=by rw [Int.natCast_pow];rfl
 rw [e]
 generalize 2^r=x at h1
 exact Go.IntWalk.wrap64_in _ ⟨by omega,by omega⟩
def ovA (a:Asg) (s m k:Nat):Asg:=fun v=>if s<v∧v≤s+m then k.testBit (s+m-v) else a v
theorem Q2h (f:Asg→Bool):∀ (m s:Nat) (a:Asg),cntT (List.range' (s+1) m) f a=Je (fun k=>f (ovA a s m k)) (2^m)
 | 0,s,a=>by
  show Ok natS (f a)=0+(if f (ovA a s 0 0) then 1 else 0)
  have e:ovA a s 0 0=a:=funext fun v=>by unfold ovA;rw [if_neg (by omega)]
  rw [e,Nat.zero_add]
  rfl
 | m+1,s,a=>by
  rw [List.range'_succ,Zy,Q2h f m (s+1),Q2h f m (s+1),Nat.pow_succ,Nat.mul_two,Q2r]
  congr 1
  ·refine Zc fun k hk=>?_
   congr 1
   funext v
   unfold ovA upd
   by_cases h1:s+1<v∧v≤s+1+m
   ·rw [if_pos h1,if_pos (by omega),show s+1+m-v=s+(m+1)-v by omega]
   ·rw [if_neg h1]
    by_cases h2:v=s+1
    ·rw [if_pos h2,if_pos (by omega),h2,show s+(m+1)-(s+1)=m by omega,Nat.testBit_lt_two_pow hk]
    ·rw [if_neg h2,if_neg (by omega)]
  ·refine Zc fun k hk=>?_
   congr 1
   funext v
   unfold ovA upd
   by_cases h1:s+1<v∧v≤s+1+m
   ·rw [if_pos h1,if_pos (by omega),show s+1+m-v=s+(m+1)-v by omega,Nat.testBit_two_pow_add_gt (by omega)]
   ·rw [if_neg h1]
    by_cases h2:v=s+1
    ·rw [if_pos h2,if_pos (by omega),h2,show s+(m+1)-(s+1)=m by omega,Nat.testBit_two_pow_add_eq,Nat.testBit_lt_two_pow hk];rfl
    ·rw [if_neg h2,if_neg (by omega)]
theorem cnt_rev {f:Asg→Bool} {n:Nat} (hf:Dep f (fun v=>decide (1≤v∧v≤n))):Je (fun k=>f (Kr n k 0)) (2^n)=Je (fun q=>f (Y5 q)) (2^n):=by
 rw [←Zz n f (fun _=>false) hf,Q2h f n 0]
 refine Zc fun k _=>hf _ _ fun v hv=>?_
 have hv:=of_decide_eq_true hv
 unfold Kr ovA
 rw [decide_eq_true (by omega),if_pos (by omega),Bool.true_and,Nat.zero_add]
set_option maxHeartbeats 1600000 in
set_option maxRecDepth 100000 in
theorem xModels (n:Nat) (hn:n≤4) (L:List (List Int)) (hL:∀ xs∈L,xs.all (fun x=>Jk x n)=true) (h0:Kz n L=0) (aL:Option Addr) (cL:Nat) (w:World) (hA:ThAt w.heap.size w aL L) (hl:L.length≤1000000) (hl2:∀ xs∈L,xs.length≤1000000) :
  Calls Tryz.prog 7 #[.agg #[.int .i64 n,.slice aL L.length cL]] w fun e w'=>∃ p c,e = .returned (.slice p (Je (fun k=>thB (Kr n k 0) L) (2^n)) c)∧Below w.heap.size w w':=by
 obtain ⟨Post,hPost⟩:∃ P:Ending→World→Prop,P=fun e w'=>∃ p c,e = .returned (.slice p (Je (fun k=>thB (Kr n k 0) L) (2^n)) c)∧Below w.heap.size w w':=⟨_,rfl⟩
 rw [←hPost]
 obtain ⟨F,hF⟩:∃ F:Nat→Bool,F=fun k=>thB (Kr n k 0) L:=⟨_,rfl⟩
 rw [←hF] at hPost
 have HP:=Lib.hid (show ∀ (v:Value) (m:Nat) w',(∃ vals,RowV (inW w') 55 2 v m vals)→m=Je F (2^n)→Below w.heap.size w w'→Post (.returned v) w' from fun v m w' ⟨vals,hv⟩ hm h=>by
  obtain ⟨p,c,e⟩:=hv.slice
  rw [hPost,e,hm];exact ⟨p,c,rfl,h⟩)
 have HTH:=Lib.hid (fun (x:World) (hb:Below w.heap.size w x)=>xTheo n L aL cL x ((hA.below hb (Nat.le_refl _)).mono hb.size))
 rw [h0] at HTH
 have HEV:=Lib.hid (fun (k:Nat) (x:World) (hb:Below w.heap.size w x)=>xEval n (by omega) L hL h0 (Kr n k 0) (fun v hv=>by unfold Kr;rw [decide_eq_false (by omega)];rfl) aL cL x ((hA.below hb (Nat.le_refl _)).mono hb.size) hl hl2)
 have HFE:=Lib.hid (fun k=>congrFun hF k)
 obtain ⟨i0,ii,iz0,iz1,iz2⟩:=info_parts Tryz.infoSetX
 have II:=Lib.hid ii
 have IZ0:=Lib.hid iz0
 have IZ1:=Lib.hid iz1
 have IZ2:=Lib.hid iz2
 obtain ⟨K,hK⟩:∃ K,K=2^n:=⟨_,rfl⟩
 have hwn:=wrapP (show n≤8 by omega)
 rw [←hK] at hwn HP
 have hK16:K≤16:=by rw [hK];exact Nat.le_trans (Nat.pow_le_pow_right (by omega) hn) (Nat.le_refl 16)
 have hd12:decide ((12:Int)<(n:Int))=false:=decide_eq_false (by omega)
 have hd12':decide (12<n)=false:=decide_eq_false (by omega)
 generalize L.length=m at *
 clear hPost hA hL h0 hl2 ii iz0 iz1 iz2 hF hK
 go_enter Tryz.func7,Tryz.ntmps7
 go_upto_region 1 with fail
 refine Qg ?_
 intro w1 hw1
 have S1:=Lib.hid (show w1.heap[w.heap.size]?=some (.cells #[.int .i64 n,.slice aL m cL] 24 (0,0)) by rw [hw1];exact Qn _ _)
 have HL1:=Lib.hid (show Below w.heap.size w w1 by rw [hw1];exact Qe _ _)
 clear hw1
 have q0:=Q5 S1.out 0 rfl
 have q1:=Q5 S1.out 1 rfl
 go_wp2_with fail
 refine (HTH.out w1 HL1.out).mono ?_
 rintro e w2 ⟨rfl,hb2⟩
 have S2:=Lib.hid ((Q4 hb2).keep S1.out (by simp))
 have HL2:=Lib.hid (HL1.out.trans (hb2.mono HL1.out.size))
 clear hb2 S1 HL1 HTH q0 q1
 have q0:=Q5 S2.out 0 rfl
 go_wp2_with fail
 go_loopw [4,3] (fun t4 t3 wr=>∃ (k:Nat) (v:Value),v=t3∧t4 = .int .i64 k∧k≤K∧Hid (∃ vals,RowV (inW wr) 55 2 v (Je F k) vals)∧Hid (∀ g∈Q7 v,w2.heap.size≤g)∧Hid (Below w2.heap.size w2 wr)) (fun t _ _=>K-(intOf t).toNat)
 case atStart=>exact ⟨0,_,rfl,rfl,Nat.zero_le _,⟨[],.nil⟩,fun g hg=>by simp [Q7] at hg,Below.refl _ _⟩
 case round =>
  obtain ⟨k,v,rfl,rfl,hkK,HR,HG,HW⟩:=hrel
  obtain ⟨w3,hw3⟩:∃ w3,w3=wr:=⟨_,rfl⟩
  rw [←hw3] at HR HW ⊢
  clear hw3 q0
  have S3:=Lib.hid ((Q4 HW.out).keep S2.out (by simp))
  have q0:=Q5 S3.out 0 rfl
  by_cases hlt:k<K
  ·have hd:decide (k<K)=true:=decide_eq_true hlt
   have hd2:decide ((k:Int)<(K:Int))=true:=decide_eq_true (by omega)
   have KA:=xAssign k n (by omega) (by omega)
   have KE:=Lib.hid (fun (x:World) (hb:Below w.heap.size w x)=>HEV.out k x hb)
   rw [←HFE.out k] at KE
   have hck:Je F k≤k:=Vt _ _
   have HCN:=Lib.hid (show Je F (k+1)=Je F k+(if F k then 1 else 0) from rfl)
   generalize F k=bb at *
   unfold Qt Jz at *
   generalize loW (Kr n k 0)=a0 at *
   generalize hiW (Kr n k 0)=a1 at *
   go_wp2_with fail
   refine (KA w3).mono ?_
   rintro e w4 ⟨rfl,hb4⟩
   have S4:=Lib.hid ((Q4 hb4).keep S3.out (by simp))
   have HW4:=Lib.hid (HW.out.trans (hb4.mono HW.out.size))
   have HR4:=Lib.hid (show ∃ vals,RowV (inW w4) 55 2 v (Je F k) vals from by obtain ⟨vals,h⟩:=HR.out;exact ⟨vals,h.keep (Q4 hb4) (by simp)⟩)
   clear hb4 KA S3 HR HW q0
   go_upto_region 8 with fail
   refine Qg ?_
   intro w5 hw5
   obtain ⟨g5,hg5⟩:∃ g5,g5=w4.heap.size:=⟨_,rfl⟩
   have hb5:Below w4.heap.size w4 w5:=by rw [hw5];exact Qe _ _
   have N5:=Lib.hid (show w5.heap[g5]?=some (.cells #[.int .u64 (a0:Nat),.int .u64 (a1:Nat)] 55 (0,0)) by rw [hw5,hg5];exact Qn _ _)
   have S5:=Lib.hid ((Q4 hb5).keep S4.out (by simp))
   have HW5:=Lib.hid (HW4.out.trans (hb5.mono HW4.out.size))
   have HR5:=Lib.hid (show ∃ vals,RowV (inW w5) 55 2 v (Je F k) vals from by obtain ⟨vals,h⟩:=HR4.out;exact ⟨vals,h.keep (Q4 hb5) (by simp)⟩)
   rw [←hg5]
   clear hw5 hb5 hg5 S4 HR4 HW4
   have q0:=Q5 S5.out 0 rfl
   have q1:=Q5 S5.out 1 rfl
   have n0:=Q5 N5.out 0 rfl
   have n1:=Q5 N5.out 1 rfl
   go_wp2_with fail
   refine (KE.out w5 (HL2.out.trans (HW5.out.mono HL2.out.size))).mono ?_
   rintro e w6 ⟨rfl,hb6⟩
   have N6:=Lib.hid ((Q4 hb6).keep N5.out (by simp))
   have S6:=Lib.hid ((Q4 hb6).keep S5.out (by simp))
   have HW6:=Lib.hid (HW5.out.trans (hb6.mono HW5.out.size))
   have HR6:=Lib.hid (show ∃ vals,RowV (inW w6) 55 2 v (Je F k) vals from by obtain ⟨vals,h⟩:=HR5.out;exact ⟨vals,h.keep (Q4 hb6) (by simp)⟩)
   clear hb6 KE N5 S5 HR5 HW5 q0 q1 n0 n1
   cases bb with
   | false =>
    have HCN2:=Lib.hid (show Je F k=Je F (k+1) from HCN.out.symm)
    rw [HCN2.out] at HR6
    have q0:=Q5 S6.out 0 rfl
    clear HCN HCN2
    go_wp2_with fail
    go_roundw
    case rel=>exact ⟨k+1,v,rfl,by go_num,by omega,HR6.out,HG.out,HW6.out⟩
    case measure=>simp [intOf];omega
   | true =>
    rw [if_pos rfl] at HCN
    obtain ⟨vals,hr6⟩:=HR6.out
    have HR7:=Lib.hid hr6
    have c0:=Q5 N6.out 0 rfl
    have c1:=Q5 N6.out 1 rfl
    generalize Je F k=ck at *
    clear hr6 HR6
    go_wp2_with (at_builtin;refine Jp _ rfl _ _ 29 rfl 55 i0 (.agg #[.int .u64 0,.int .u64 0]) 2 16 Tryz.underlying29 II.out IZ0.out IZ1.out IZ2.out rfl _ _ _ rfl (HR7.out.keep (Q4 ((Below.refl _ _).alloc (Nat.le_refl _) _)) (by simp)) w6.heap.size 1 1 [.int .u64 (a0:Nat),.int .u64 (a1:Nat)] 55 rfl (heap_alloc_new w6 _) rfl (by intro u hu;simp at hu;rcases hu with rfl | rfl<;>rfl) (by omega) (by unfold maxLen;omega) (by omega) ?_)
    intro v9 w9 hr9 hB9 hn9
    have h09:Behind w6 (Q7 v) w9:=((Q4 ((Below.refl _ _).alloc (Nat.le_refl _) _)).mono (by simp)).trans hB9 (fun k hk=>.inl hk)
    have hn9':∀ g∈Q7 v9,g∈Q7 v∨w6.heap.size≤g:=fun g hg=>(hn9 g hg).imp id (fun h=>by omega)
    have HR9:=Lib.hid (show ∃ vals,RowV (inW w9) 55 2 v9 (Je F (k+1)) vals from ⟨_,by rw [HCN.out];exact hr9⟩)
    have HG9:=Lib.hid (show ∀ g∈Q7 v9,w2.heap.size≤g from fun g hg=>(hn9' g hg).elim (HG.out g) (fun h=>by have:=HW6.out.size;omega))
    have HW9:=Lib.hid (HW6.out.trans (h09.below_of (b:=w2.heap.size) (fun k hk=>HG.out k hk) HW6.out.size))
    clear h09 hn9' hr9 hB9 hn9 c0 c1 HR7 HW6 N6
    go_wp2_with fail
    go_roundw
    case rel=>exact ⟨k+1,v9,rfl,by go_num,by omega,HR9.out,HG9.out,HW9.out⟩
    case measure=>simp [intOf];omega
  ·obtain rfl:k=K:=by omega
   have hd:decide (k<k)=false:=decide_eq_false (by omega)
   have hd2:decide ((k:Int)<(k:Int))=false:=decide_eq_false (by omega)
   have HE:=Lib.hid (HP.out v (Je F k) w3 HR.out rfl (HL2.out.trans (HW.out.mono HL2.out.size)))
   go_wp2_with fail
   exact HE.out
end
/- The law of the statement,over what the walks hand back. -/
section
open Num
def Q7j (n m:Nat) (L:List (List Int)) (s:Nat):Nat:=Om (fun a=>thB a L) n ((List.range m).map (Kv n (s*2^(8-m*(n+1)))))*2^m
def Vx (n:Nat) (L:List (List Int)):Nat:=Je (fun k=>thB (Kr n k 0) L) (2^n)
theorem modC_le {n:Nat} (h:n≤4) (L:List (List Int)):Vx n L≤16 :=
 Nat.le_trans (Vt _ _) (Nat.le_trans (Nat.pow_le_pow_right (by omega) h) (Nat.le_refl 16))
theorem estU_le {n m:Nat} (h:n≤4) (hm:m≤2) (L:List (List Int)) (s:Nat):Q7j n m L s≤64 :=
 Nat.le_trans (Nat.mul_le_mul (Nat.le_trans (Q6r _ _ _) (Nat.pow_le_pow_right (by omega) h)) (Nat.pow_le_pow_right (by omega) hm)) (Nat.le_refl 64)
theorem Ox {n m:Nat} (h:Q2i n m):n≤4∧0<m∧m≤2∧m*(n+1)≤8:=by
 rcases h with ⟨rfl,h⟩ | ⟨rfl,h⟩<;>omega
theorem Q48 {B s:Nat} (hB:B≤8) (h:s<2^B):s*2^(8-B)<256:=by
 have h1:(s+1)*2^(8-B)≤2^B*2^(8-B):=Nat.mul_le_mul_right _ h
 rw [←Nat.pow_add,show B+(8-B)=8 by omega] at h1
 have h2:=Nat.pow_pos (n:=8-B) (show 0<2 by omega)
 rw [Nat.add_mul] at h1
 omega
def Q2y (n m:Nat) (L:List (List Int)) (a b:Nat) (k:Nat):Nat:=Je (fun s=>decide (Vx n L*a≤Q37 (Q7j n m L s) (Vx n L)*b)) k
theorem top_law {n m:Nat} (h:Q2i n m) (L:List (List Int)) (hd:Dep (fun a=>thB a L) (fun v=>decide (1≤v∧v≤n))) (a b:Nat) :
  Q3d (Q7j n m L) (2^(m*(n+1)))=Vx n L*2^(m*(n+1)) ∧
  (Vx n L=0∨Q2y n m L a b (2^(m*(n+1)))*a*a*Vx n L≤2^(m*(n+1))*(2^m-1)*b*b):=by
 obtain ⟨h4,h0,h2,hT⟩:=Ox h
 refine est_final h (fun p=>thB (Y5 p) L) (Q7j n m L) (fun s _=>?_) a b (Vx n L) (cnt_rev hd)
 unfold Q7j
 rw [cell_seed (fun a=>thB a L) (by omega) hT,Nat.mul_comm]
theorem top_count {n:Nat} {L:List (List Int)} (hd:Dep (fun a=>thB a L) (fun v=>decide (1≤v∧v≤n))) (a:Asg):cntT (List.range' 1 n) (fun a=>thB a L) a=Vx n L:=by
 rw [Zz n _ a hd]
 exact (cnt_rev hd).symm
theorem Km {x:Nat} (h:x<18446744073709551616):IntKind.u64.wrap (x:Int)=(x:Int):=by
 rw [IntKind.wrap_u64];omega
theorem clsT_ok {n:Int}:∀ {L:List (List Int)},Q3m n L=0→∀ xs∈L,xs.all (fun x=>Jk x n)=true
 | [],_=>fun xs h=>by simp at h
 | c::L,h=>fun xs hx=>by
  unfold Q3m at h
  split at h
  ·simp at h
  ·split at h
   case isTrue hc =>
    rcases List.mem_cons.1 hx with rfl | hx
    ·exact hc
    ·exact clsT_ok h xs hx
   case isFalse=>simp at h
theorem light_ok {n:Int} {L:List (List Int)} (h:Xp n L=true) (h4:n≤4):∃ k:Nat,n=k∧k≤4∧Kz n L=0∧(∀ xs∈L,xs.all (fun x=>Jk x n)=true∧xs.length≤10)∧L.length≤12:=by
 unfold Xp at h
 simp only [Bool.and_eq_true,decide_eq_true_eq,List.all_eq_true] at h
 obtain ⟨⟨⟨_,h12⟩,h0⟩,h10⟩:=h
 have hc:¬ (n<0∨128<n)∧Q3m n L=0:=by
  unfold Kz at h0
  split at h0
  ·simp at h0
  ·rename_i hn
   split at h0
   ·simp at h0
   ·exact ⟨hn,h0⟩
 obtain ⟨k,rfl⟩:=Int.eq_ofNat_of_zero_le (show 0≤n by omega)
 exact ⟨k,rfl,by omega,h0,fun xs hx=>⟨clsT_ok hc.2 xs hx,h10 xs hx⟩,h12⟩
theorem Q47 {r:Nat} (h:r≤8):IntKind.u64.wrap ((2:Int)^r)=((2^r:Nat):Int):=by
 have h1:2^r≤2^8:=Nat.pow_le_pow_right (by omega) h
 have e:(2:Int)^r=((2^r:Nat):Int):=by rw [Int.natCast_pow];rfl
 rw [e]
 generalize 2^r=x at h1
 exact Km (by omega)
end
end Go.Proofs.YtcpehljpegfckaaGreatDoor
