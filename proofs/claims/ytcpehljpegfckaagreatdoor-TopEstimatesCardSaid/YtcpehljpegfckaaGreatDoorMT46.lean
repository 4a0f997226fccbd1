/- Texts of this claim,joined: DG4,DG5,EB0. -/
import Derived.Test.YtcpehljpegfckaaGreatDoorMT45
import Derived.Deep.DeepCutAuto
import Derived.Test.YtcpehljpegfckaaGreatDoorMT36
import Derived.Test.YtcpehljpegfckaaGreatDoorMT44
/- count.sum over the natural numbers. -/
namespace Go.Proofs.YtcpehljpegfckaaGreatDoor
section
open Go.RowKit Go.Sort Num
structure SumS (n m:Nat) (ns:List Nd) (p:Option Addr) (c:Nat) (gn gr g4 go g6 g g2 b1 b3 N:Nat) (w:World):Prop where
 net:w.heap[gn]?=some (.cells #[.int .i64 n,.slice p m c] 33 (0,0))
 ring:w.heap[gr]?=some (.cells (W6 b1 b3) 69 (0,0))
 res:w.heap[g4]?=some (.cells #[.string ⟨#[]⟩] 38 (0,0))
 own:w.heap[go]?=some (.cells #[.slice (some ⟨g,0,none⟩) m m] 29 (0,0))
 out:w.heap[g6]?=some (.cells #[.slice (some ⟨g2,0,none⟩) m m] 109 (0,0))
 one:w.cell? ⟨b1,0,none⟩=some (.int .i64 0)
 wt:w.cell? ⟨b3,0,none⟩=some (K7 b1)
 sets:SetsAt w.heap.size w g m (Ql ns)
 at':NetAt g2 w p ns
 tz:TzTab N w
 le:N≤g2∧g2<w.heap.size
 ne:gn≠g2∧gr≠g2∧g4≠g2∧go≠g2∧g6≠g2∧g≠g2∧b1≠g2∧b3≠g2
theorem Jl {w x:World} {Wr:List Nat} {b o:Nat} {v:Value} (h:w.cell? ⟨b,o,none⟩=some v) (hx:Behind w Wr x) (hb:b∉Wr):x.cell? ⟨b,o,none⟩=some v:=by
 rw [←h];exact Kb (hx.block b (Jd h) hb)
theorem Behind.wider {w x:World} {Wr Wr':List Nat} (h:Behind w Wr x) (hW:∀ b∈Wr,b∈Wr'):Behind w Wr' x:=⟨h.os,h.tape,h.output,h.size,fun k hk hn=>h.block k hk (fun hm=>hn (hW k hm))⟩
theorem NetAt.lower {N:Nat} {w w':World} {p:Option Addr} {ns:List Nd} {M:Nat} (h:NetAt N w p ns) (hb:Below M w w') (hM:N≤M):NetAt N w' p ns:=fun i x hx=>by
 obtain ⟨b,o,q,cg,hb1,hp,k1,k2,k3,hxs⟩:=h i x hx
 exact ⟨b,o,q,cg,hb1,hp,Q8 hb (by omega) k1,Q8 hb (by omega) k2,Q8 hb (by omega) k3,hxs.below hb hM⟩
theorem SumS.keep {n m:Nat} {ns:List Nd} {p:Option Addr} {c gn gr g4 go g6 g g2 b1 b3 N:Nat} {w x:World} (h:SumS n m ns p c gn gr g4 go g6 g g2 b1 b3 N w) (hx:Behind w [g2] x):SumS n m ns p c gn gr g4 go g6 g g2 b1 b3 N x where
 net:=hx.keep h.net (by simp;exact h.ne.1)
 ring:=hx.keep h.ring (by simp;exact h.ne.2.1)
 res:=hx.keep h.res (by simp;exact h.ne.2.2.1)
 own:=hx.keep h.own (by simp;exact h.ne.2.2.2.1)
 out:=hx.keep h.out (by simp;exact h.ne.2.2.2.2.1)
 one:=Jl h.one hx (by simp;exact h.ne.2.2.2.2.2.2.1)
 wt:=Jl h.wt hx (by simp;exact h.ne.2.2.2.2.2.2.2)
 sets:=⟨Nat.lt_of_lt_of_le h.sets.1 hx.size,fun i hi=>⟨Jl (h.sets.2 i hi).1 hx (by simp;exact h.ne.2.2.2.2.2.1),Jl (h.sets.2 i hi).2 hx (by simp;exact h.ne.2.2.2.2.2.1)⟩⟩
 at':=h.at'.lower (hx.below_of (b:=g2) (fun k hk=>by simp at hk;omega) (Nat.le_of_lt h.le.2)) (Nat.le_refl _)
 tz:=h.tz.on (hx.below_of (b:=N) (fun k hk=>by simp at hk;have:=h.le.1;omega) (by have:=h.le;omega)) (Nat.le_refl _)
 le:=⟨h.le.1,Nat.lt_of_lt_of_le h.le.2 hx.size⟩
 ne:=h.ne
theorem Q4s (k m v:Nat) (hk:k<m) (hv:v≤4096) (all own:Nat→Bool) (hfar:∀ u,13≤u→(all u&&!own u)=false) (gout gown go gw gr b1 b3:Nat) {N:Nat} (w:World)
  (ho:w.cell? ⟨go,0,none⟩=some (.slice (some ⟨gout,0,none⟩) m m)) (hw:w.cell? ⟨gw,0,none⟩=some (.slice (some ⟨gown,0,none⟩) m m)) (hr3:w.cell? ⟨gr,3,none⟩=some (.func (.func 28) #[] #[])) (hr5:w.cell? ⟨gr,5,none⟩=some (.func (.func 55) #[] #[.pointer (some ⟨b3,0,none⟩)]))
  (h1:w.cell? ⟨b1,0,none⟩=some (.int .i64 0)) (h3:w.cell? ⟨b3,0,none⟩=some (K7 b1)) (hx:w.cell? ⟨gout,k,none⟩=some (Y6 v)) (hs0:w.cell? ⟨gown,k*2,none⟩=some (.int .u64 (loW own:Nat))) (hs1:w.cell? ⟨gown,k*2+1,none⟩=some (.int .u64 (hiW own:Nat)))
  (hTz:TzTab N w) (hN:N≤w.heap.size) :
  GivesFrom w 47 #[.int .i64 (k:Int),Qt all,.pointer (some ⟨go,0,none⟩),.pointer (some ⟨gw,0,none⟩),.pointer (some ⟨gr,0,none⟩)] (Qj (v*2^(Jt fun u=>all u&&!own u).length)):=fun x hb =>
 gWide k m v hk hv all own hfar gout gown go gw gr b1 b3 x (Q8 hb (Jd ho) ho) (Q8 hb (Jd hw) hw) (Q8 hb (Jd hr3) hr3) (Q8 hb (Jd hr5) hr5) (Q8 hb (Jd h1) h1) (Q8 hb (Jd h3) h3) (Q8 hb (Jd hx) hx) (Q8 hb (Jd hs0) hs0) (Q8 hb (Jd hs1) hs1) (hTz.on (hb.mono hN) (Nat.le_refl _)) (Nat.le_trans hN hb.size)
set_option maxHeartbeats 1600000 in
set_option maxRecDepth 100000 in
theorem gSumN (n:Nat) (h12:n≤12) (ns:List Nd) (hN:Ze n ns) (hD:Zm ns) (hT:Xq ns) (hpos:0<ns.length) (hlen:ns.length≤65536) (p:Option Addr) (c b1 b3:Nat) {N:Nat} (w:World) (hA:NetAt w.heap.size w p ns) (hTz:TzTab N w) (hNw:N≤w.heap.size) (h1:w.cell? ⟨b1,0,none⟩=some (.int .i64 0)) (h3:w.cell? ⟨b3,0,none⟩=some (K7 b1)) :
  Calls Tryz.prog 22 #[.agg #[.int .i64 n,.slice p ns.length c],.agg (W6 b1 b3)] w fun e w'=>e = .returned (Qj (nV n ns (ns.length-1)*2^(Jt fun v=>Qy n v&&!Ql ns (ns.length-1) v).length))∧Below w.heap.size w w':=by
 obtain ⟨R,hR⟩:∃ R,R=nV n ns (ns.length-1)*2^(Jt fun v=>Qy n v&&!Ql ns (ns.length-1) v).length:=⟨_,rfl⟩
 rw [←hR]
 obtain ⟨Post,hPost⟩:∃ P:Ending→World→Prop,P=fun e w'=>e = .returned (Qj R)∧Below w.heap.size w w':=⟨_,rfl⟩
 rw [←hPost]
 have HP:=Lib.hid (show ∀ (w':World),Below w.heap.size w w'→Post (.returned (Qj R)) w' from fun w' h=>by rw [hPost];exact ⟨rfl,h⟩)
 have HA:=Lib.hid hA
 have HN:=Lib.hid hN
 have HTZ:=Lib.hid hTz
 obtain ⟨m,hm⟩:∃ m,m=ns.length:=⟨_,rfl⟩
 have HSM:=Lib.hid (fun i x (hx:ns[i]?=some x) t=>Q3u hN hx h12 hD hT t)
 have HAL:=Lib.hid (fun i x (hx:ns[i]?=some x)=>smN_all hN hx h12)
 have HVS:=Lib.hid (fun i (hi:i<m)=>Q6e hN (List.getElem?_eq_getElem (show i<ns.length by omega)) h12 hD hT)
 have HGF:=Lib.hid (fun i k (hi:i<m)=>gap_far (k:=k) hN h12 (show i<ns.length by omega))
 have HCV:=Lib.hid (fun (w1:World) (h:NetAt w1.heap.size w1 p ns)=>Q5h n (by omega) ns hN hpos hlen p c w1 h)
 rw [←hm] at hpos hlen HCV hR ⊢
 have HM:=Lib.hid hm
 have HR:=Lib.hid hR
 have H1:=Lib.hid h1
 have H3:=Lib.hid h3
 clear hPost hA hN hm hD hT hTz hR h1 h3
 obtain ⟨RN,hRN⟩:∃ RN,RN=W6 b1 b3:=⟨_,rfl⟩
 rw [←hRN]
 have HRN:=Lib.hid hRN
 clear hRN
 go_enter Tryz.func22,Tryz.ntmps22
 go_upto_region 1 with fail
 refine Qg ?_
 intro w1 hw1
 obtain ⟨a0,a1,a2,a3,a4⟩:=Q2s w (Obj.cells #[Value.int .i64 n,Value.slice p m c] 33) (Obj.cells RN 69) (Obj.cells #[Value.string ⟨#[]⟩] 38)
 rw [←hw1] at a0 a1 a2 a3 a4
 have S1:=Lib.hid a0
 have G1:=Lib.hid a1
 have T1:=Lib.hid a2
 have HL1:=Lib.hid a3
 clear hw1 a0 a1 a2 a3
 have q0:=Q5 S1.out 0 rfl
 have q1:=Q5 S1.out 1 rfl
 go_wp2_with fail
 refine (HCV.out w1 ((HA.out.below HL1.out (Nat.le_refl _)).mono HL1.out.size)).mono ?_
 rintro e w2 ⟨g,rfl,hg3,hs3,hb3⟩
 have S2:=Lib.hid ((Q4 hb3).keep S1.out (by simp))
 have G2:=Lib.hid ((Q4 hb3).keep G1.out (by simp))
 have T2:=Lib.hid ((Q4 hb3).keep T1.out (by simp))
 have HL2:=Lib.hid (HL1.out.trans (hb3.mono HL1.out.size))
 have HS2:=Lib.hid hs3
 have hgw:w.heap.size+3≤g:=by omega
 have hgs:g<w2.heap.size:=hs3.1
 clear hb3 S1 G1 T1 HL1 HCV q0 q1 hs3 hg3 a4
 go_upto_region 2 with fail
 refine Qg ?_
 intro w3 hw3
 obtain ⟨go,hgo⟩:∃ go,go=w2.heap.size:=⟨_,rfl⟩
 have O3:=Lib.hid (show w3.heap[go]?=some (.cells #[.slice (some ⟨g,0,none⟩) m m] 29 (0,0)) by rw [hw3,hgo];exact Qn _ _)
 have hb3:Below w2.heap.size w2 w3:=by rw [hw3];exact Qe _ _
 have S3:=Lib.hid ((Q4 hb3).keep S2.out (by simp))
 have G3:=Lib.hid ((Q4 hb3).keep G2.out (by simp))
 have T3:=Lib.hid ((Q4 hb3).keep T2.out (by simp))
 have HL3:=Lib.hid (HL2.out.trans (hb3.mono HL2.out.size))
 have HS3:=Lib.hid ((HS2.out.below hb3 (Nat.le_refl _)).mono hb3.size)
 have hgo2:g<go:=by omega
 rw [←hgo]
 clear hw3 hb3 S2 G2 T2 HL2 HS2 hgo hgs
 have hgo3:go<w3.heap.size:=Q9 O3.out
 have q0:=Q5 S3.out 0 rfl
 have q1:=Q5 S3.out 1 rfl
 have hmk:=Q7u m hlen w3
 go_upto_region 3 with fail
 refine Qg ?_
 intro w4 hw4
 obtain ⟨g2,hg2⟩:∃ g2,g2=w3.heap.size:=⟨_,rfl⟩
 obtain ⟨e1,e2,e3,e4⟩:=Au w3 (Obj.cells (madeCells #[Value.string ⟨#[]⟩] m) 38) (Obj.cells #[Value.slice (some ⟨w3.heap.size,0,none⟩) m m] 109)
 rw [←hw4] at e1 e2 e3 e4
 rw [←hg2] at e1 e2
 have SS:=Lib.hid (show SumS n m ns p c w.heap.size (w.heap.size+1) (w.heap.size+1+1) go (g2+1) g g2 b1 b3 N w4 from by
  have hb4:=HL3.out.trans (e3.mono HL3.out.size)
  have k0:=HL3.out.size
  exact ⟨(Q4 e3).keep S3.out (by simp),by have:=(Q4 e3).keep G3.out (by simp);rw [HRN.out] at this;exact this,(Q4 e3).keep T3.out (by simp),(Q4 e3).keep O3.out (by simp),by rw [hg2];rw [hg2] at e2;exact e2,
   Q8 hb4 (Jd H1.out) H1.out,Q8 hb4 (Jd H3.out) H3.out,((HS3.out.below e3 (Nat.le_refl _)).mono e3.size),(HA.out.below hb4 (Nat.le_refl _)).mono (by omega),HTZ.out.on (hb4.mono hNw) (Nat.le_refl _),⟨by omega,by omega⟩,
   by have:=Jd H1.out;have:=Jd H3.out;omega⟩)
 have HB4:=Lib.hid (HL3.out.trans (e3.mono HL3.out.size))
 have R4:=Lib.hid (show ∃ xs,w4.heap[g2]?=some (.cells xs 38 (0,0))∧Row1 xs m 0 fun j=>Y6 (nV n ns j) from ⟨_,e1,Row1.made m _ _⟩)
 have hgg:w.heap.size<g2:=by have:=HL3.out.size;omega
 have hww:w.heap.size+1+1<g2:=by omega
 have hgf:w.heap.size+1+1<g∧w.heap.size+1+1<go:=by omega
 rw [←hg2]
 clear hw4 hmk hg2 e1 e2 e3 e4 S3 G3 T3 O3 HL3 HS3 q0 q1 hgo2 hgo3 hgw HRN
 obtain ⟨gn,hgn⟩:∃ gn,gn=w.heap.size:=⟨_,rfl⟩
 rw [←hgn] at SS hgg hww hgf HB4 ⊢
 have hgn2:w.heap.size≤gn:=by omega
 clear hgn
 have q0:=Q5 SS.out.net 0 rfl
 have q1:=Q5 SS.out.net 1 rfl
 go_wp2_with fail
 go_loopw [24] (fun t24 wr=>∃ i:Nat,t24 = .int .i64 i∧i≤m∧Hid (∃ xs,wr.heap[g2]?=some (.cells xs 38 (0,0))∧Row1 xs m i fun j=>Y6 (nV n ns j))∧Hid (Behind w4 [g2] wr)) (fun t _=>m-(intOf t).toNat)
 case atStart=>exact ⟨0,rfl,Nat.zero_le _,R4.out,Behind.refl _ _⟩
 case round =>
  obtain ⟨i,rfl,hin,HR5,HW5⟩:=hrel
  obtain ⟨w5,hw5⟩:∃ w5,w5=wr:=⟨_,rfl⟩
  rw [←hw5] at HR5 HW5 ⊢
  clear hw5 R4 q0 q1
  have S5:=Lib.hid (SS.out.keep HW5.out)
  by_cases hlt:i<m
  ·have hd:decide (i<m)=true:=decide_eq_true hlt
   have hd2:decide ((i:Int)<(m:Int))=true:=decide_eq_true (by omega)
   obtain ⟨x,hx⟩:∃ x,ns[i]?=some x:=⟨_,List.getElem?_eq_getElem (by rw [←HM.out];exact hlt)⟩
   obtain ⟨b,o,q,cg,hb,hp,x1,x2,x3,hxs⟩:=SS.out.at' i x hx
   have hbw:=HW5.out.below_of (b:=g2) (fun k hk=>by simp at hk;omega) (Nat.le_of_lt SS.out.le.2)
   have x1:=Q8 hbw hb x1
   have x2:=Q8 hbw hb x2
   have x3:=Q8 hbw hb x3
   have HOK:=Lib.hid (HN.out i x hx)
   have HX:=Lib.hid hxs
   have HXX:=Lib.hid hx
   have C1:=Lib.hid x1
   have C2:=Lib.hid x2
   have C3:=Lib.hid x3
   subst hp
   clear hb hxs hx x1 x2 x3 hbw
   go_upto_region 6 with fail
   refine wp_region_lit (J6 [0,0,0,3,0,2] [] B0 (Qi _) ?_)
   refine Qb 3 (by kernel_rfl) (by rfl) ?_
   apply Exists.intro
   refine ⟨fun z hz=>?_,?_⟩
   ·have f0:=Q6 hz C1.out (by simp)
    have f1:=Q6 hz C2.out (by simp)
    have f2:=Q6 hz C3.out (by simp)
    clear hz
    simp only [List.take_succ_cons,List.take_zero]
    unfold Cx
    repeat (go_big_quiet_step (fail))
    exact wpQuiet_nil rfl
   simp only [List.drop_succ_cons,List.drop_zero]
   refine Jm (.agg #[.int .i64 0,.int .i64 0,.slice none 0 0]) (by rfl) (fun x=>by kernel_rfl) (fun g9 q9 hn9=>?_)
   unfold Qk
   go_big_quiet_step (fail)
   refine wpQuiet_nil ?_
   refine Qb 1 (by kernel_rfl) (by rfl) ?_
   apply Exists.intro
   refine ⟨fun z hz=>?_,?_⟩
   ·clear hz
    simp only [List.take_succ_cons,List.take_zero]
    unfold Cx
    repeat (go_big_quiet_step (fail))
    exact wpQuiet_nil rfl
   simp only [List.drop_succ_cons,List.drop_zero]
   refine Qh g9 #[.int .i64 x.k,.int .i64 x.lit,.slice q x.ins.length cg] #[.int .i64 0,.int .i64 0,.slice none 0 0] 102 (by rfl) (by rfl) (by rfl) (Blocks.put_same _ _ _) rfl (.inr q9) (by kernel_rfl) (by simp [Value.oneCell']) ?_
   refine Qf ?_
   intro w6 hx6 hH
   have N6:=Lib.hid (hH g9 _ (Blocks.put_same _ _ _))
   have HW6:=Lib.hid (HW5.out.trans (hx6.wider (Wr':=[g2]) (by simp)) (fun b hb=>.inl hb))
   have HR6:=Lib.hid (show ∃ xs,w6.heap[g2]?=some (.cells xs 38 (0,0))∧Row1 xs m i fun j=>Y6 (nV n ns j) from by
    obtain ⟨xs,h1,h2⟩:=HR5.out
    exact ⟨xs,hx6.keep h1 (by simp),h2⟩)
   have hg29:g2<g9:=by have:=S5.out.le.2;omega
   have S6:=Lib.hid (SS.out.keep HW6.out)
   have hfew:=HOK.out.few
   clear hx6 hH hn9 HR5 HW5 C1 C2 C3 S5
   have y0:=Q5 N6.out 0 rfl
   have hk5:x.k=2∨(x.k=1∨x.k=3)∨(x.k=0∨x.k=4):=by have:=HOK.out.kind;omega
   rcases hk5 with hk2 | hk13 | hk04
   case inl =>
    have e2:(x.k == 2)=true:=by rw [hk2];rfl
    have hl0:=(HOK.out.lit hk2).1
    have KW:∀ z:World,Behind w6 [g2] z→GivesFrom z 51 #[.int .i64 x.lit,.pointer (some ⟨b1,0,none⟩)] (Qj 1):=fun z hz y hy=>gWeight x.lit hl0 b1 y (Q8 hy (Jd (Jl S6.out.one hz (by simp;exact S6.out.ne.2.2.2.2.2.2.1))) (Jl S6.out.one hz (by simp;exact S6.out.ne.2.2.2.2.2.2.1)))
    have HKW:=Lib.hid KW
    have HV:=Lib.hid (show nV n ns i=1 from by
     have h:=HAL.out i x HXX.out
     rw [←h]
     unfold smN
     rw [if_neg (by omega),if_neg (by omega),if_neg (by omega)])
    have y1:=Q5 N6.out 1 rfl
    have Y1:=Lib.hid y1
    clear KW hl0 hk2 y1
    obtain ⟨xs,hxs,hrow⟩:=HR6.out
    have hsz:xs.size=m:=hrow.1
    have HXS:=Lib.hid hxs
    have HRW:=Lib.hid hrow
    have HWc:=Lib.hid HW6.out
    have HNc:=Lib.hid N6.out
    have SC:=Lib.hid (SS.out.keep HWc.out)
    clear hxs hrow HR6
    unfold Qj at HKW
    go_upto_region 15 with fail
    refine Qo [0,0,0,0,0,0,0,0,2] [g2] _ (Fin.put Qu _ _) (Qr (Qi _) HXS.out) (by kernel_rfl) (by kernel_rfl) ?_
    refine Qb 8 (by kernel_rfl) (by rfl) ?_
    apply Exists.intro
    refine ⟨fun z hz=>?_,?_⟩
    ·have f0:=Q6 hz (Q5 SC.out.out 0 rfl) (by simp<;>omega)
     have f1:=Q6 hz (Q5 (v:=K7 b1) SC.out.ring 4 rfl) (by simp<;>omega)
     have f2:=Q6 hz Y1.out (by simp;omega)
     have J:=fun pp=>(HKW.out z hz).at pp
     unfold K7 at f1
     clear hz
     simp only [List.take_succ_cons,List.take_zero]
     unfold Cx
     repeat (go_big_quiet_step (first | with_reducible exact J _))
     exact wpQuiet_nil rfl
    simp only [List.drop_succ_cons,List.drop_zero]
    refine Qx g2 i (.agg #[.string (nb 1)]) xs (xs.setIfInBounds i (.string (nb 1))) 38 (by rfl) (by rfl) (by rfl) (Blocks.put_same _ _ _) (by show i+1≤xs.size;omega) (by simp) (Zq hsz hlt _) (.inl (by simp)) (by kernel_rfl) (by simp [Value.oneCell',Value.cells]) ?_
    refine Qf ?_
    intro w7 hxw7 hH
    have Xw7:=Lib.hid (hH g2 _ (Blocks.put_same _ _ _))
    have HWw7:=Lib.hid (HWc.out.trans hxw7 (fun b hb=>.inl hb))
    have Nw7:=Lib.hid (hxw7.keep HNc.out (by simp;omega))
    have R7:=Lib.hid (show ∃ xs,w7.heap[g2]?=some (.cells xs 38 (0,0))∧Row1 xs m (i+1) fun j=>Y6 (nV n ns j) from
     ⟨_,Xw7.out,(HRW.out.put hlt (i2:=i+1) (fun j hj=>by omega) _).congr fun j hj=>by
      by_cases e:j=i
      ·rw [if_pos e,e,HV.out];rfl
      ·rw [if_neg e]⟩)
    clear hxw7 hH HRW HXS Xw7
    go_wp2_with fail
    go_roundw
    case rel=>exact ⟨i+1,by go_num,by omega,R7.out,HWw7.out⟩
    case measure=>simp [intOf];omega
   case inr.inl =>
    have HV0:=Lib.hid (show smN n ns i x 0=1 by rw [Q0i,if_neg (by omega)])
    have KO:=gOneN
    unfold Qj at KO
    have HKO:=Lib.hid KO
    clear KO
    have e2:(x.k == 2)=false:=J7 (by omega)
    have e13:(x.k == 1)=true∨((x.k == 1)=false∧(x.k == 3)=true):=by
     rcases hk13 with h | h
     ·exact .inl (by rw [h];rfl)
     ·exact .inr ⟨by rw [h];rfl,by rw [h];rfl⟩
    have HK13:=Lib.hid hk13
    clear hk13
    obtain ⟨xs,hxs,hrow⟩:=HR6.out
    have hsz:xs.size=m:=hrow.1
    have HXS:=Lib.hid hxs
    have HRW:=Lib.hid hrow
    have HWc:=Lib.hid HW6.out
    have HNc:=Lib.hid N6.out
    have SC:=Lib.hid (SS.out.keep HWc.out)
    clear hxs hrow HR6
    rcases e13 with e1 | ⟨e1,e3⟩
    all_goals
     go_upto_region 18 with fail
     refine Qo [0,0,0,0,0,0,2] [g2] _ (Fin.put Qu _ _) (Qr (Qi _) HXS.out) (by kernel_rfl) (by kernel_rfl) ?_
     refine Qb 6 (by kernel_rfl) (by rfl) ?_
     apply Exists.intro
     refine ⟨fun z hz=>?_,?_⟩
     ·have f0:=Q6 hz (Q5 SC.out.out 0 rfl) (by simp<;>omega)
      have f1r:=Q6 hz (Q5 (v:=.func (.func 53) #[] #[]) SC.out.ring 1 rfl) (by simp<;>omega)
      clear hz
      simp only [List.take_succ_cons,List.take_zero]
      unfold Cx
      repeat (go_big_quiet_step (first | with_reducible exact HKO.out.at _ _))
      exact wpQuiet_nil rfl
     simp only [List.drop_succ_cons,List.drop_zero]
     refine Qx g2 i (.agg #[.string (nb 1)]) xs (xs.setIfInBounds i (.string (nb 1))) 38 (by rfl) (by rfl) (by rfl) (Blocks.put_same _ _ _) (by show i+1≤xs.size;omega) (by simp) (Zq hsz hlt _) (.inl (by simp)) (by kernel_rfl) (by simp [Value.oneCell',Value.cells]) ?_
     refine Qf ?_
     intro w7 hxw7 hH
     have Xw7:=Lib.hid (hH g2 _ (Blocks.put_same _ _ _))
     have HWw7:=Lib.hid (HWc.out.trans hxw7 (fun b hb=>.inl hb))
     have Nw7:=Lib.hid (hxw7.keep HNc.out (by simp;omega))
     have R7:=Lib.hid (show ∃ xs,w7.heap[g2]?=some (.cells xs 38 (0,0))∧Row1 xs m (i+1) fun j=>if j=i then Y6 (smN n ns i x 0) else Y6 (nV n ns j) from
      ⟨_,Xw7.out,(HRW.out.put hlt (i2:=i+1) (fun j hj=>by omega) _).congr fun j hj=>by
       by_cases e:j=i
       ·rw [if_pos e,if_pos e,HV0.out];rfl
       ·rw [if_neg e,if_neg e]⟩)
     clear hxw7 hH HRW HXS Xw7 HWc HNc SC hsz HW6 N6 S6 y0 HV0
     have y2:=Q5 Nw7.out 2 rfl
     go_wp2_with fail
     go_loopw [84] (fun tt wv=>∃ t:Nat,tt = .int .i64 t∧t≤x.ins.length∧Hid (wv.heap[g9]?=some (.cells #[.int .i64 x.k,.int .i64 x.lit,.slice q x.ins.length cg] 102 (0,0)))∧Hid (∃ xs,wv.heap[g2]?=some (.cells xs 38 (0,0))∧Row1 xs m (i+1) fun j=>if j=i then Y6 (smN n ns i x t) else Y6 (nV n ns j))∧Hid (Behind w4 [g2] wv)) (fun t _=>x.ins.length-(intOf t).toNat)
     case atStart=>exact ⟨0,rfl,Nat.zero_le _,Nw7.out,R7.out,HWw7.out⟩
     case round =>
      obtain ⟨t,rfl,htn,HNt,HRt,HWt⟩:=hrel
      obtain ⟨w9,hw9⟩:∃ w9,w9=wr:=⟨_,rfl⟩
      rw [←hw9] at HNt HRt HWt ⊢
      clear hw9 Nw7 R7 HWw7 y2
      by_cases htl:t<x.ins.length
      ·have hdt:decide (t<x.ins.length)=true:=decide_eq_true htl
       have hdt2:decide ((t:Int)<(x.ins.length:Int))=true:=decide_eq_true (by omega)
       obtain ⟨k,hk⟩:∃ k,x.ins[t]?=some k:=⟨_,List.getElem?_eq_getElem htl⟩
       have hki:=HOK.out.ins k (List.mem_of_getElem? hk)
       obtain ⟨kn,rfl⟩:∃ kn:Nat,k=kn:=⟨k.toNat,by omega⟩
       have hkn:kn<i:=by simpa using hki.2
       have h34:x.k=3∨x.k=4:=by
        by_cases h3:x.k=3
        ·exact .inl h3
        ·by_cases h4:x.k=4
         ·exact .inr h4
         ·have:=HOK.out.leaf h3 h4
          rw [this] at htl;simp at htl
       obtain ⟨b',o',_,ea,kx⟩:=(HX.out.below (HWt.out.below_of (b:=g2) (fun k hk=>by simp at hk;omega) (Nat.le_of_lt SS.out.le.2)) (Nat.le_refl _)) t _ (Jb x.ins t _ hk)
       subst ea
       have HSTEP:=Lib.hid (Q2w (n:=n) (ns:=ns) (i:=i) hk h34)
       have hs1:=HSM.out i x HXX.out t
       have hs2:=HSM.out i x HXX.out (t+1)
       have hs3:=HVS.out kn (by omega)
       have h3:x.k=3:=by have:=HK13.out;omega
       rw [if_pos h3] at HSTEP
       have H3:=Lib.hid h3
       clear h3
       obtain ⟨xs,hxs,hrow⟩:=HRt.out
       have hsz:xs.size=m:=hrow.1
       have HXS:=Lib.hid hxs
       have HRW:=Lib.hid hrow
       have HWc:=Lib.hid HWt.out
       have HNc:=Lib.hid HNt.out
       have SC:=Lib.hid (SS.out.keep HWc.out)
       clear hxs hrow HRt
       have r1:=HRW.out.2 i (by omega)
       dsimp only at r1
       rw [if_pos rfl] at r1
       have r2:=HRW.out.2 kn (by omega)
       dsimp only at r2
       rw [if_neg (by omega)] at r2
       unfold Y6 at r1 r2
       have KM:=Q64 (smN n ns i x t) (nV n ns kn) (Qq (by omega)) (Qq (by omega))
       rw [←HSTEP.out] at KM
       unfold Qj at KM
       obtain ⟨s2,hs2e⟩:∃ s2,s2=smN n ns i x (t+1):=⟨_,rfl⟩
       rw [←hs2e] at KM
       have HS2E:=Lib.hid hs2e
       generalize smN n ns i x t=s1 at *
       generalize nV n ns kn=vk at *
       have HKM:=Lib.hid KM
       have RR1:=Lib.hid r1
       have RR2:=Lib.hid r2
       clear hs2e HSTEP KM hk hki h34 r1 r2
       go_upto_region 22 with fail
       refine Qo [1,1,1,1,1,1,1,1,1,1,1,1,1,1,2] [g2] _ (Fin.put Qu _ _) (Qr (Qi _) HXS.out) (by kernel_rfl) (by kernel_rfl) ?_
       refine Jq 14 w9 (Behind.refl _ _) (Qr (Qi _) HXS.out) (by kernel_rfl) (by rfl) ?_
       apply Exists.intro
       refine ⟨fun z hz hH=>?_,?_⟩
       ·have g0:=Jg (hH g2 _ (Blocks.put_same _ _ _)) i RR1.out
        have g1:=Jg (hH g2 _ (Blocks.put_same _ _ _)) kn RR2.out
        have f0:=Q6 hz (Q5 SC.out.out 0 rfl) (by simp<;>omega)
        have f3r:=Q6 hz (Q5 (v:=.func (.func 28) #[] #[]) SC.out.ring 3 rfl) (by simp<;>omega)
        clear hz hH
        simp only [List.take_succ_cons,List.take_zero]
        unfold Cx
        repeat (go_big_quiet_step (first | with_reducible exact HKM.out.at _ _))
        exact wpQuiet_nil rfl
       simp only [List.drop_succ_cons,List.drop_zero]
       refine Qx g2 i (.agg #[.string (nb s2)]) xs (xs.setIfInBounds i (.string (nb s2))) 38 (by rfl) (by rfl) (by rfl) (Blocks.put_same _ _ _) (by show i+1≤xs.size;omega) (by simp) (Zq hsz hlt _) (.inl (by simp)) (by kernel_rfl) (by simp [Value.oneCell',Value.cells]) ?_
       refine Qf ?_
       intro w10 hxw10 hH
       have Xw10:=Lib.hid (hH g2 _ (Blocks.put_same _ _ _))
       have HWw10:=Lib.hid (HWc.out.trans hxw10 (fun b hb=>.inl hb))
       have Nw10:=Lib.hid (hxw10.keep HNc.out (by simp;omega))
       have R10:=Lib.hid (show ∃ xs,w10.heap[g2]?=some (.cells xs 38 (0,0))∧Row1 xs m (i+1) fun j=>if j=i then Y6 (smN n ns i x (t+1)) else Y6 (nV n ns j) from
        ⟨_,Xw10.out,(HRW.out.put hlt (i2:=i+1) (fun j hj=>by omega) _).congr fun j hj=>by
         by_cases e:j=i
         ·rw [if_pos e,if_pos e,←HS2E.out];rfl
         ·rw [if_neg e,if_neg e,if_neg e]⟩)
       clear hxw10 hH HRW HXS Xw10
       go_wp2_with fail
       go_roundw
       case rel=>exact ⟨t+1,by go_num,by omega,Nw10.out,R10.out,HWw10.out⟩
       case measure=>simp [intOf];omega
      ·obtain rfl:t=x.ins.length:=by omega
       have hdt:decide (x.ins.length<x.ins.length)=false:=decide_eq_false (by omega)
       have hdt2:decide ((x.ins.length:Int)<(x.ins.length:Int))=false:=decide_eq_false (by omega)
       have R10:=Lib.hid (show ∃ xs,w9.heap[g2]?=some (.cells xs 38 (0,0))∧Row1 xs m (i+1) fun j=>Y6 (nV n ns j) from by
        obtain ⟨xs,h1,h2⟩:=HRt.out
        refine ⟨xs,h1,h2.congr fun j hj=>?_⟩
        by_cases e:j=i
        ·rw [if_pos e,HAL.out i x HXX.out,e]
        ·rw [if_neg e])
       clear HRt
       go_wp2_with fail
       go_roundw
       case rel=>exact ⟨i+1,by go_num,by omega,R10.out,HWt.out⟩
       case measure=>simp [intOf];omega
   case inr.inr =>
    have HV0:=Lib.hid (show smN n ns i x 0=0 by rw [Q0i,if_pos (by omega)])
    have KO:=gZeroN
    unfold Qj at KO
    have HKO:=Lib.hid KO
    clear KO
    have e2:(x.k == 2)=false:=J7 (by omega)
    have e1:(x.k == 1)=false:=J7 (by omega)
    have e3:(x.k == 3)=false:=J7 (by omega)
    have HK04:=Lib.hid hk04
    clear hk04
    obtain ⟨xs,hxs,hrow⟩:=HR6.out
    have hsz:xs.size=m:=hrow.1
    have HXS:=Lib.hid hxs
    have HRW:=Lib.hid hrow
    have HWc:=Lib.hid HW6.out
    have HNc:=Lib.hid N6.out
    have SC:=Lib.hid (SS.out.keep HWc.out)
    clear hxs hrow HR6
    all_goals
     go_upto_region 8 with fail
     refine Qo [0,0,0,0,0,0,2] [g2] _ (Fin.put Qu _ _) (Qr (Qi _) HXS.out) (by kernel_rfl) (by kernel_rfl) ?_
     refine Qb 6 (by kernel_rfl) (by rfl) ?_
     apply Exists.intro
     refine ⟨fun z hz=>?_,?_⟩
     ·have f0:=Q6 hz (Q5 SC.out.out 0 rfl) (by simp<;>omega)
      have f0r:=Q6 hz (Q5 (v:=.func (.func 52) #[] #[]) SC.out.ring 0 rfl) (by simp<;>omega)
      clear hz
      simp only [List.take_succ_cons,List.take_zero]
      unfold Cx
      repeat (go_big_quiet_step (first | with_reducible exact HKO.out.at _ _))
      exact wpQuiet_nil rfl
     simp only [List.drop_succ_cons,List.drop_zero]
     refine Qx g2 i (.agg #[.string (nb 0)]) xs (xs.setIfInBounds i (.string (nb 0))) 38 (by rfl) (by rfl) (by rfl) (Blocks.put_same _ _ _) (by show i+1≤xs.size;omega) (by simp) (Zq hsz hlt _) (.inl (by simp)) (by kernel_rfl) (by simp [Value.oneCell',Value.cells]) ?_
     refine Qf ?_
     intro w7 hxw7 hH
     have Xw7:=Lib.hid (hH g2 _ (Blocks.put_same _ _ _))
     have HWw7:=Lib.hid (HWc.out.trans hxw7 (fun b hb=>.inl hb))
     have Nw7:=Lib.hid (hxw7.keep HNc.out (by simp;omega))
     have R7:=Lib.hid (show ∃ xs,w7.heap[g2]?=some (.cells xs 38 (0,0))∧Row1 xs m (i+1) fun j=>if j=i then Y6 (smN n ns i x 0) else Y6 (nV n ns j) from
      ⟨_,Xw7.out,(HRW.out.put hlt (i2:=i+1) (fun j hj=>by omega) _).congr fun j hj=>by
       by_cases e:j=i
       ·rw [if_pos e,if_pos e,HV0.out];rfl
       ·rw [if_neg e,if_neg e]⟩)
     clear hxw7 hH HRW HXS Xw7 HWc HNc SC hsz HW6 N6 S6 y0 HV0
     have y2:=Q5 Nw7.out 2 rfl
     go_wp2_with fail
     go_loopw [40] (fun tt wv=>∃ t:Nat,tt = .int .i64 t∧t≤x.ins.length∧Hid (wv.heap[g9]?=some (.cells #[.int .i64 x.k,.int .i64 x.lit,.slice q x.ins.length cg] 102 (0,0)))∧Hid (∃ xs,wv.heap[g2]?=some (.cells xs 38 (0,0))∧Row1 xs m (i+1) fun j=>if j=i then Y6 (smN n ns i x t) else Y6 (nV n ns j))∧Hid (Behind w4 [g2] wv)) (fun t _=>x.ins.length-(intOf t).toNat)
     case atStart=>exact ⟨0,rfl,Nat.zero_le _,Nw7.out,R7.out,HWw7.out⟩
     case round =>
      obtain ⟨t,rfl,htn,HNt,HRt,HWt⟩:=hrel
      obtain ⟨w9,hw9⟩:∃ w9,w9=wr:=⟨_,rfl⟩
      rw [←hw9] at HNt HRt HWt ⊢
      clear hw9 Nw7 R7 HWw7 y2
      by_cases htl:t<x.ins.length
      ·have hdt:decide (t<x.ins.length)=true:=decide_eq_true htl
       have hdt2:decide ((t:Int)<(x.ins.length:Int))=true:=decide_eq_true (by omega)
       obtain ⟨k,hk⟩:∃ k,x.ins[t]?=some k:=⟨_,List.getElem?_eq_getElem htl⟩
       have hki:=HOK.out.ins k (List.mem_of_getElem? hk)
       obtain ⟨kn,rfl⟩:∃ kn:Nat,k=kn:=⟨k.toNat,by omega⟩
       have hkn:kn<i:=by simpa using hki.2
       have h34:x.k=3∨x.k=4:=by
        by_cases h3:x.k=3
        ·exact .inl h3
        ·by_cases h4:x.k=4
         ·exact .inr h4
         ·have:=HOK.out.leaf h3 h4
          rw [this] at htl;simp at htl
       obtain ⟨b',o',_,ea,kx⟩:=(HX.out.below (HWt.out.below_of (b:=g2) (fun k hk=>by simp at hk;omega) (Nat.le_of_lt SS.out.le.2)) (Nat.le_refl _)) t _ (Jb x.ins t _ hk)
       subst ea
       have HSTEP:=Lib.hid (Q2w (n:=n) (ns:=ns) (i:=i) hk h34)
       have hs1:=HSM.out i x HXX.out t
       have hs2:=HSM.out i x HXX.out (t+1)
       have hs3:=HVS.out kn (by omega)
       have h4:x.k=4:=by have:=HK04.out;omega
       rw [if_neg (by omega)] at HSTEP
       have H4:=Lib.hid h4
       clear h4
       obtain ⟨xs,hxs,hrow⟩:=HRt.out
       have hsz:xs.size=m:=hrow.1
       have HXS:=Lib.hid hxs
       have HRW:=Lib.hid hrow
       have HWc:=Lib.hid HWt.out
       have HNc:=Lib.hid HNt.out
       have SC:=Lib.hid (SS.out.keep HWc.out)
       clear hxs hrow HRt
       have r1:=HRW.out.2 i (by omega)
       dsimp only at r1
       rw [if_pos rfl] at r1
       have r2:=HRW.out.2 kn (by omega)
       dsimp only at r2
       rw [if_neg (by omega)] at r2
       unfold Y6 at r1 r2
       have hp2:=Q07 (Q1s (Zn ns i kn))
       have hmul:nV n ns kn*2^(Jt (Zn ns i kn)).length≤16777216:=Nat.le_trans (Nat.mul_le_mul hs3 hp2) (by omega)
       have KM:=Q2n (smN n ns i x t) (nV n ns kn*2^(Jt (Zn ns i kn)).length) (Qq (by omega)) (Qq (by omega))
       rw [←HSTEP.out] at KM
       have KWI:∀ z:World,Behind w9 [g2] z→z.cell? ⟨g2,kn,none⟩=some (Y6 (nV n ns kn))→GivesFrom z 47 #[.int .i64 (kn:Int),Qt (Ql ns i),.pointer (some ⟨g2+1,0,none⟩),.pointer (some ⟨go,0,none⟩),.pointer (some ⟨gn+1,0,none⟩)] (Qj (nV n ns kn*2^(Jt (Zn ns i kn)).length)):=fun z hz hc=>by
        have SZ:=SC.out.keep hz
        exact Q4s kn m (nV n ns kn) (by omega) hs3 (Ql ns i) (Ql ns kn) (HGF.out i kn (by omega)) g2 g (g2+1) go (gn+1) b1 b3 z (Q5 SZ.out 0 rfl) (Q5 SZ.own 0 rfl) (Q5 SZ.ring 3 rfl) (Q5 SZ.ring 5 rfl) SZ.one SZ.wt hc (SZ.sets.2 kn (by omega)).1 (SZ.sets.2 kn (by omega)).2 SZ.tz (by have:=SZ.le;omega)
       unfold Qj Qt Jz at KWI
       unfold Qj at KM
       obtain ⟨pv,hpv⟩:∃ pv,pv=nV n ns kn*2^(Jt (Zn ns i kn)).length:=⟨_,rfl⟩
       rw [←hpv] at KM KWI
       unfold Y6 at KWI
       have HKWI:=Lib.hid KWI
       clear KWI hpv hp2 hmul
       obtain ⟨s2,hs2e⟩:∃ s2,s2=smN n ns i x (t+1):=⟨_,rfl⟩
       rw [←hs2e] at KM
       have HS2E:=Lib.hid hs2e
       generalize smN n ns i x t=s1 at *
       generalize nV n ns kn=vk at *
       have HKM:=Lib.hid KM
       have RR1:=Lib.hid r1
       have RR2:=Lib.hid r2
       clear hs2e HSTEP KM hk hki h34 r1 r2
       go_upto_region 12 with fail
       refine Qo [1,1,1,1,1,1,1,1,1,1,1,1,1,1,1,1,1,2] [g2] _ (Fin.put Qu _ _) (Qr (Qi _) HXS.out) (by kernel_rfl) (by kernel_rfl) ?_
       refine Jq 17 w9 (Behind.refl _ _) (Qr (Qi _) HXS.out) (by kernel_rfl) (by rfl) ?_
       apply Exists.intro
       refine ⟨fun z hz hH=>?_,?_⟩
       ·have g0:=Jg (hH g2 _ (Blocks.put_same _ _ _)) i RR1.out
        have g1:=Jg (hH g2 _ (Blocks.put_same _ _ _)) kn RR2.out
        have f0:=Q6 hz (Q5 SC.out.out 0 rfl) (by simp<;>omega)
        have f2r:=Q6 hz (Q5 (v:=.func (.func 54) #[] #[]) SC.out.ring 2 rfl) (by simp<;>omega)
        have fo:=Q6 hz (Q5 SC.out.own 0 rfl) (by simp;exact SC.out.ne.2.2.2.1)
        have fs0:=Q6 hz (SC.out.sets.2 i hlt).1 (by simp;exact SC.out.ne.2.2.2.2.2.1)
        have fs1:=Q6 hz (SC.out.sets.2 i hlt).2 (by simp;exact SC.out.ne.2.2.2.2.2.1)
        unfold Z6 at fs0 fs1
        dsimp only at fs0 fs1
        have J:=fun pp=>(HKWI.out z hz (Q5 (hH g2 _ (Blocks.put_same _ _ _)) kn RR2.out)).at pp
        clear hz hH
        simp only [List.take_succ_cons,List.take_zero]
        unfold Cx
        repeat (go_big_quiet_step (first | with_reducible exact J _ | with_reducible exact HKM.out.at _ _))
        exact wpQuiet_nil rfl
       simp only [List.drop_succ_cons,List.drop_zero]
       refine Qx g2 i (.agg #[.string (nb s2)]) xs (xs.setIfInBounds i (.string (nb s2))) 38 (by rfl) (by rfl) (by rfl) (Blocks.put_same _ _ _) (by show i+1≤xs.size;omega) (by simp) (Zq hsz hlt _) (.inl (by simp)) (by kernel_rfl) (by simp [Value.oneCell',Value.cells]) ?_
       refine Qf ?_
       intro w10 hxw10 hH
       have Xw10:=Lib.hid (hH g2 _ (Blocks.put_same _ _ _))
       have HWw10:=Lib.hid (HWc.out.trans hxw10 (fun b hb=>.inl hb))
       have Nw10:=Lib.hid (hxw10.keep HNc.out (by simp;omega))
       have R10:=Lib.hid (show ∃ xs,w10.heap[g2]?=some (.cells xs 38 (0,0))∧Row1 xs m (i+1) fun j=>if j=i then Y6 (smN n ns i x (t+1)) else Y6 (nV n ns j) from
        ⟨_,Xw10.out,(HRW.out.put hlt (i2:=i+1) (fun j hj=>by omega) _).congr fun j hj=>by
         by_cases e:j=i
         ·rw [if_pos e,if_pos e,←HS2E.out];rfl
         ·rw [if_neg e,if_neg e,if_neg e]⟩)
       clear hxw10 hH HRW HXS Xw10
       go_wp2_with fail
       go_roundw
       case rel=>exact ⟨t+1,by go_num,by omega,Nw10.out,R10.out,HWw10.out⟩
       case measure=>simp [intOf];omega
      ·obtain rfl:t=x.ins.length:=by omega
       have hdt:decide (x.ins.length<x.ins.length)=false:=decide_eq_false (by omega)
       have hdt2:decide ((x.ins.length:Int)<(x.ins.length:Int))=false:=decide_eq_false (by omega)
       have R10:=Lib.hid (show ∃ xs,w9.heap[g2]?=some (.cells xs 38 (0,0))∧Row1 xs m (i+1) fun j=>Y6 (nV n ns j) from by
        obtain ⟨xs,h1,h2⟩:=HRt.out
        refine ⟨xs,h1,h2.congr fun j hj=>?_⟩
        by_cases e:j=i
        ·rw [if_pos e,HAL.out i x HXX.out,e]
        ·rw [if_neg e])
       clear HRt
       go_wp2_with fail
       go_roundw
       case rel=>exact ⟨i+1,by go_num,by omega,R10.out,HWt.out⟩
       case measure=>simp [intOf];omega
  ·obtain rfl:i=m:=by omega
   have hd:decide (i<i)=false:=decide_eq_false (by omega)
   have hd2:decide ((i:Int)<(i:Int))=false:=decide_eq_false (by omega)
   obtain ⟨j,rfl⟩:∃ j,i=j+1:=⟨i-1,by omega⟩
   have E1:=Lib.hid (show (((j+1:Nat):Int)-1)=(j:Int) by omega)
   have E2:=Lib.hid (show ((j:Int)+1-1)=(j:Int) by omega)
   obtain ⟨xs,hxs,hrow⟩:=HR5.out
   have X0:=Lib.hid (Q5 hxs j (hrow.2 j (by omega)))
   have hv4:=HVS.out j (by omega)
   have hb1l:=Jd H1.out
   have hb3l:=Jd H3.out
   have hfarU:∀ u,13≤u→(Qy n u&&!Ql ns j u)=false:=fun u hu=>by
    rw [show Qy n u=false by unfold Qy;simp;omega,Bool.false_and]
   have KA:=gAll n (by omega)
   have HEQ:=Lib.hid HR.out
   rw [Nat.add_sub_cancel] at HEQ
   have KWI:∀ z:World,Behind w5 [gn+1+1] z→GivesFrom z 47 #[.int .i64 (j:Int),Qt (Qy n),.pointer (some ⟨g2+1,0,none⟩),.pointer (some ⟨go,0,none⟩),.pointer (some ⟨gn+1,0,none⟩)] (Qj R):=fun z hz=>by
    rw [HEQ.out]
    exact Q4s j (j+1) (nV n ns j) (by omega) hv4 (Qy n) (Ql ns j) hfarU g2 g (g2+1) go (gn+1) b1 b3 (N:=N) z (Jl (Q5 S5.out.out 0 rfl) hz (by simp;omega)) (Jl (Q5 S5.out.own 0 rfl) hz (by simp;omega)) (Jl (Q5 S5.out.ring 3 rfl) hz (by simp)) (Jl (Q5 S5.out.ring 5 rfl) hz (by simp)) (Jl S5.out.one hz (by simp;omega)) (Jl S5.out.wt hz (by simp;omega)) (Jl X0.out hz (by simp;omega)) (Jl (S5.out.sets.2 j (by omega)).1 hz (by simp;omega)) (Jl (S5.out.sets.2 j (by omega)).2 hz (by simp;omega)) (S5.out.tz.on (hz.below_of (b:=N) (fun k hk=>by simp at hk;omega) (by have:=S5.out.le;omega)) (Nat.le_refl _)) (by have:=S5.out.le;have:=hz.size;omega)
   unfold Qj Qt Jz at KWI
   unfold Qt Jz at KA
   generalize loW (Qy n)=a0 at *
   generalize hiW (Qy n)=a1 at *
   have HKWI:=Lib.hid KWI
   have HKA:=Lib.hid KA
   have R5:=Lib.hid S5.out.res
   clear KWI KA hxs hrow hfarU HR5
   have e1:=E1.out
   have e2:=E2.out
   go_upto_region 25 with fail
   refine Qo [0,0,0,0,0,0,0,0,2] [gn+1+1] _ (Fin.put Qu _ _) (Qr (Qi _) R5.out) (by kernel_rfl) (by kernel_rfl) ?_
   refine Qb 8 (by kernel_rfl) (by rfl) ?_
   apply Exists.intro
   refine ⟨fun z hz=>?_,?_⟩
   ·have f0:=Q6 hz (Q5 S5.out.out 0 rfl) (by simp;omega)
    have f1:=Q6 hz (Q5 S5.out.net 0 rfl) (by simp;omega)
    have J:=fun pp=>(HKWI.out z hz).at pp
    clear hz
    simp only [List.take_succ_cons,List.take_zero]
    unfold Cx
    repeat (go_big_quiet_step (first | with_reducible exact J _ | with_reducible exact HKA.out.at _ _))
    exact wpQuiet_nil rfl
   simp only [List.drop_succ_cons,List.drop_zero]
   refine Qh (gn+1+1) #[.string (nb R)] #[.string ⟨#[]⟩] 38 (by rfl) (by rfl) (by rfl) (Blocks.put_same _ _ _) rfl (.inl (by simp)) (by kernel_rfl) (by simp [Value.oneCell']) ?_
   refine Qf ?_
   intro w6 hx6 hH
   have R6:=Lib.hid (hH (gn+1+1) _ (Blocks.put_same _ _ _))
   have hgs4:gn≤w4.heap.size:=by have:=SS.out.le;omega
   have HF:=Lib.hid (HP.out w6 ((HB4.out.trans ((HW5.out.below_of (b:=gn) (fun k hk=>by simp at hk;omega) hgs4).trans (hx6.below_of (b:=gn) (fun k hk=>by simp at hk;omega) (Nat.le_trans hgs4 HW5.out.size)))).mono hgn2))
   clear hx6 hH
   go_wp2_with fail
   refine bodyPost_ret (Qs (p:=4) rfl _ _ (gn+1+1) _ _ (0,0) _ rfl R6.out Tryz.underlying38 rfl Tryz.sizeNatE) rfl ?_
   exact HF.out
end
/- count.Check,count.Count. -/
section
open Go.RowKit Go.Sort Num
theorem Or {P:Program} {fn:Func} {p u:Tmp} {ty:TypeId} (h:fn.results=#[.cell p ty,.tmp u]) (tmps:Array Value) (w:World) (g:Nat) (t:TypeId) (cs:Array Value) (fr:Nat × Nat) (d:TypeDesc) (v:Value)
  (hp:tmps.getD p undef = .pointer (some ⟨g,0,none⟩)) (hg:w.heap[g]?=some (.cells cs t fr))
  (hu:P.underlying ty=some d) (hd:(match d with | .struct _ | .array _ _=>true | _=>false)=true) (hi:(P.info? ty).map (·.size)=some cs.size) (hv:tmps.getD u undef=v) :
  (results fn tmps).run P w = .ok (.tuple #[.agg cs,v]) w:=by
 have hp':tmps[p]?.getD undef = .pointer (some ⟨g,0,none⟩):=by simpa using hp
 have hv':tmps[u]?.getD undef=v:=by simpa using hv
 simp [results,h,hp',hv',asAddr,run_loadVar_row w g t ty cs fr d hg hu hd hi]
theorem root_cnt {n:Nat} (h12:n≤12) {ns:List Nd} (hN:Ze n ns) (hD:Zm ns) (hT:Xq ns) (hpos:0<ns.length) (a:Asg) :
  nV n ns (ns.length-1)*2^(Jt fun v=>Qy n v&&!Ql ns (ns.length-1) v).length=cntT (List.range' 1 n) (Yf ns (ns.length-1)) a:=by
 have h:=Q72 natS w1 hN hD hT (Ow natS w1 hN) (show ns.length-1<ns.length by omega) a
 have e:inV n (fun v=>!Ql ns (ns.length-1) v)=Jt fun v=>Qy n v&&!Ql ns (ns.length-1) v:=by
  rw [←inV_mem h12 (fun v hv=>by simp [Qy] at hv;omega)]
  unfold inV
  refine List.filter_congr fun v hv=>?_
  simp only [List.mem_range'_1] at hv
  rw [show Qy n v=true by unfold Qy;simp;omega,Bool.true_and]
 rw [e,Q1r] at h
 exact h
set_option maxHeartbeats 1600000 in
set_option maxRecDepth 100000 in
theorem gCheckN (n:Nat) (h12:n≤12) (ns:List Nd) (hN:Ze n ns) (hD:Zm ns) (hT:Xq ns) (hpos:0<ns.length) (hlen:ns.length≤65536) (p:Option Addr) (c:Nat) {N:Nat} (w:World) (hA:NetAt w.heap.size w p ns) (hTz:TzTab N w) (hNw:N≤w.heap.size) :
  Calls Tryz.prog 21 #[.agg #[.int .i64 n,.slice p ns.length c]] w fun e w'=>e = .returned (.int .i64 0)∧Below w.heap.size w w':=by
 obtain ⟨Post,hPost⟩:∃ P:Ending→World→Prop,P=fun e w'=>e = .returned (.int .i64 0)∧Below w.heap.size w w':=⟨_,rfl⟩
 rw [←hPost]
 have HP:=Lib.hid (show ∀ (w':World),Below w.heap.size w w'→Post (.returned (.int .i64 0)) w' from fun w' h=>by rw [hPost];exact ⟨rfl,h⟩)
 have HA:=Lib.hid (fun (x:World) (hb:Below w.heap.size w x)=>(hA.below hb (Nat.le_refl _)).mono hb.size)
 have K1:=Lib.hid (fun (x:World) (hb:Below w.heap.size w x)=>Wp n (by omega) ns hN hpos hlen p c x ((hA.below hb (Nat.le_refl _)).mono hb.size))
 have K2:=Lib.hid (fun (x:World) (hb:Below w.heap.size w x)=>gDecomp n (by omega) ns hN hD hpos hlen p c x ((hA.below hb (Nat.le_refl _)).mono hb.size))
 have K3:=Lib.hid (fun (x:World) (hb:Below w.heap.size w x)=>gShort n h12 ns hN hD hT hpos hlen p c x ((hA.below hb (Nat.le_refl _)).mono hb.size) (hTz.on (hb.mono hNw) (Nat.le_refl _)) (Nat.le_trans hNw hb.size))
 generalize ns.length=m at *
 clear hPost hA hN hD hT hTz hpos hlen
 go_enter Tryz.func21,Tryz.ntmps21
 go_upto_region 1 with fail
 refine Qg ?_
 intro w1 hw1
 have S1:=Lib.hid (show w1.heap[w.heap.size]?=some (.cells #[.int .i64 n,.slice p m c] 33 (0,0)) by rw [hw1];exact Qn _ _)
 have HL1:=Lib.hid (show Below w.heap.size w w1 by rw [hw1];exact Qe _ _)
 clear hw1
 have q0:=Q5 S1.out 0 rfl
 have q1:=Q5 S1.out 1 rfl
 go_wp2_with fail
 refine (K1.out w1 HL1.out).mono ?_
 rintro e w2 ⟨rfl,hb2⟩
 have S2:=Lib.hid ((Q4 hb2).keep S1.out (by simp))
 have HL2:=Lib.hid (HL1.out.trans (hb2.mono HL1.out.size))
 clear hb2 S1 HL1 K1 q0 q1
 have q0:=Q5 S2.out 0 rfl
 have q1:=Q5 S2.out 1 rfl
 go_wp2_with fail
 refine (K2.out w2 HL2.out).mono ?_
 rintro e w3 ⟨rfl,hb3⟩
 have S3:=Lib.hid ((Q4 hb3).keep S2.out (by simp))
 have HL3:=Lib.hid (HL2.out.trans (hb3.mono HL2.out.size))
 clear hb3 S2 HL2 K2 q0 q1
 have q0:=Q5 S3.out 0 rfl
 have q1:=Q5 S3.out 1 rfl
 go_wp2_with fail
 refine (K3.out w3 HL3.out).mono ?_
 rintro e w4 ⟨rfl,hb4⟩
 have HF:=Lib.hid (HP.out w4 (HL3.out.trans (hb4.mono HL3.out.size)))
 clear hb4 S3 HL3 K3 q0 q1
 go_wp2_with fail
 exact HF.out
set_option maxHeartbeats 1600000 in
set_option maxRecDepth 100000 in
theorem gCount (n:Nat) (h12:n≤12) (ns:List Nd) (hN:Ze n ns) (hD:Zm ns) (hT:Xq ns) (hpos:0<ns.length) (hlen:ns.length≤65536) (p:Option Addr) (c:Nat) {N:Nat} (w:World) (hA:NetAt w.heap.size w p ns) (hTz:TzTab N w) (hNw:N≤w.heap.size) (a:Asg) :
  Calls Tryz.prog 9 #[.agg #[.int .i64 n,.slice p ns.length c]] w fun e w'=>e = .returned (.tuple #[Qj (cntT (List.range' 1 n) (Yf ns (ns.length-1)) a),.int .i64 0])∧Below w.heap.size w w':=by
 rw [←root_cnt h12 hN hD hT hpos a]
 obtain ⟨R,hR⟩:∃ R,R=nV n ns (ns.length-1)*2^(Jt fun v=>Qy n v&&!Ql ns (ns.length-1) v).length:=⟨_,rfl⟩
 rw [←hR]
 obtain ⟨Post,hPost⟩:∃ P:Ending→World→Prop,P=fun e w'=>e = .returned (.tuple #[Qj R,.int .i64 0])∧Below w.heap.size w w':=⟨_,rfl⟩
 rw [←hPost]
 have HP:=Lib.hid (show ∀ (w':World),Below w.heap.size w w'→Post (.returned (.tuple #[Qj R,.int .i64 0])) w' from fun w' h=>by rw [hPost];exact ⟨rfl,h⟩)
 have K1:=Lib.hid (fun (x:World) (hb:Below w.heap.size w x)=>gCheckN n h12 ns hN hD hT hpos hlen p c x ((hA.below hb (Nat.le_refl _)).mono hb.size) (hTz.on (hb.mono hNw) (Nat.le_refl _)) (Nat.le_trans hNw hb.size))
 have K2:=Lib.hid (fun (x:World) (hb:Below w.heap.size w x) b1 b3 h1 h3=>gSumN n h12 ns hN hD hT hpos hlen p c b1 b3 x ((hA.below hb (Nat.le_refl _)).mono hb.size) (hTz.on (hb.mono hNw) (Nat.le_refl _)) (Nat.le_trans hNw hb.size) h1 h3)
 rw [←hR] at K2
 generalize ns.length=m at *
 clear hPost hA hN hD hT hTz hpos hlen hR
 go_enter Tryz.func9,Tryz.ntmps9
 go_upto_region 1 with fail
 refine Qg ?_
 intro w1 hw1
 have S1:=Lib.hid (show w1.heap[w.heap.size]?=some (.cells #[.int .i64 n,.slice p m c] 33 (0,0)) by rw [hw1];exact Yp _ _ _)
 have R1:=Lib.hid (show w1.heap[w.heap.size+1]?=some (.cells #[.string ⟨#[]⟩] 38 (0,0)) by rw [hw1];exact Yn _ _ _)
 have HL1:=Lib.hid (show Below w.heap.size w w1 by rw [hw1];exact Jy _ _ _)
 clear hw1
 have q0:=Q5 S1.out 0 rfl
 have q1:=Q5 S1.out 1 rfl
 go_wp2_with fail
 refine (K1.out w1 HL1.out).mono ?_
 rintro e w2 ⟨rfl,hb2⟩
 have S2:=Lib.hid ((Q4 hb2).keep S1.out (by simp))
 have R2:=Lib.hid ((Q4 hb2).keep R1.out (by simp))
 have HL2:=Lib.hid (HL1.out.trans (hb2.mono HL1.out.size))
 clear hb2 S1 R1 HL1 K1 q0 q1
 go_upto_region 4 with fail
 have Q0:=Lib.hid (Q5 S2.out 0 rfl)
 have Q1:=Lib.hid (Q5 S2.out 1 rfl)
 have hg1:w.heap.size+1<w2.heap.size:=Q9 R2.out
 refine U2 [0,6,1,2,0] [w.heap.size+1] (Zo [w.heap.size+1] w2) [0,1,2,3,4] (Ki _) (Hx _) (by kernel_rfl) (by kernel_rfl) ?_
 simp only [Vv,List.filterMap_cons,List.filterMap_nil,List.getElem?_cons_zero,List.getElem?_cons_succ]
 refine Yh 1 (by decide) (by rfl) ?_
 simp only [List.take_succ_cons,List.take_zero,List.drop_succ_cons,List.drop_zero]
 refine Qb 1 (by kernel_rfl) (by rfl) ?_
 apply Exists.intro
 refine ⟨fun z hz=>?_,?_⟩
 ·have f0:=Q6 hz Q0.out (by simp)
  have f1:=Q6 hz Q1.out (by simp)
  clear hz
  simp only [List.take_succ_cons,List.take_zero]
  unfold Cx
  repeat (go_big_quiet_step (fail))
  exact wpQuiet_nil rfl
 simp only [List.drop_succ_cons,List.drop_zero]
 refine Qf ?_
 refine Xw (f:=23) (vs:=#[.int .i64 0]) [] (fun val Bn=>∃ b1 b3,val = .agg (W6 b1 b3)∧Bn (w.heap.size+1)=some (.cells #[.string ⟨#[]⟩] 38 (0,0))∧∀ y,Has Bn y→y.cell? ⟨b1,0,none⟩=some (.int .i64 0)∧y.cell? ⟨b3,0,none⟩=some (K7 b1)) (by rfl) (fun g hg=>by simp at hg;omega) (Ki _) (fun g o h=>V5 h) (fun g hg=>by cases hg) (fun x=>by go_simp) (fun x hx hB=>(gNumbers x).mono (fun e w' ⟨b1,b3,he,h1,h3,hg1,hg3,hb⟩=>⟨_,he,(Q4 hb).mono (by simp),b1,b3,rfl,by
   rw [Yv (.inl (by simp))]
   exact (Q4 hb).keep (hB (w.heap.size+1) _ (by rw [Hq (by simp)];exact R2.out)) (by simp),fun y hy=>by
   obtain ⟨o1,ho1⟩:∃ o1,w'.heap[b1]?=some o1:=⟨_,Array.getElem?_eq_getElem (Jd h1)⟩
   obtain ⟨o3,ho3⟩:∃ o3,w'.heap[b3]?=some o3:=⟨_,Array.getElem?_eq_getElem (Jd h3)⟩
   refine ⟨?_,?_⟩
   ·rw [←h1];exact Kb ((hy b1 o1 (by rw [Yv (.inr hg1)];exact ho1)).trans ho1.symm)
   ·rw [←h3];exact Kb ((hy b3 o3 (by rw [Yv (.inr hg3)];exact ho3)).trans ho3.symm)⟩)) (fun val Bn hR hf hn=>?_)
 obtain ⟨b1,b3,rfl,hbn,hcell⟩:=hR
 have HCELL:=Lib.hid hcell
 unfold Qk
 go_big_quiet_step (fail)
 refine wpQuiet_nil ?_
 have hov:∀ y,Has ((Zo [w.heap.size+1] w2).over Bn) y→Has Bn y:=fun y hy g o hg=>hy g o (Blocks.over_some hg)
 have HOV:=Lib.hid hov
 obtain ⟨RN,hRN⟩:∃ RN,RN=W6 b1 b3:=⟨_,rfl⟩
 rw [←hRN]
 have KS:=Lib.hid (show ∀ z:World,Behind w2 [w.heap.size+1] z→Has ((Zo [w.heap.size+1] w2).over Bn) z→GivesFrom z 22 #[.agg #[.int .i64 n,.slice p m c],.agg RN] (Qj R) from fun z hz hH y hy=>by
  rw [hRN]
  have hc:=HCELL.out z (HOV.out z hH)
  exact K2.out y (HL2.out.trans ((hz.below_of (b:=w.heap.size) (fun k hk=>by simp at hk;omega) HL2.out.size).trans (hy.mono (Nat.le_trans HL2.out.size hz.size)))) b1 b3 (Q8 hy (Jd hc.1) hc.1) (Q8 hy (Jd hc.2) hc.2))
 unfold Qj at KS
 clear hcell hov hRN
 obtain ⟨x0,hx0,hB0,_⟩:=Vf (w:=w2) (Wr:=[w.heap.size+1]) (B:=(Zo [w.heap.size+1] w2).over Bn) ((Ki _).over hf) (U5 (fun g o h=>V5 h) (fun g hg=>by cases hg) hn) 0
 refine Yh 3 (by decide) (by rfl) ?_
 simp only [List.take_succ_cons,List.take_zero,List.drop_succ_cons,List.drop_zero]
 refine Jq 1 x0 hx0 hB0 (by kernel_rfl) (by rfl) ?_
 apply Exists.intro
 refine ⟨fun z hz hH=>?_,?_⟩
 ·have J:=fun pp=>(KS.out z hz hH).at pp
  clear hz hH
  simp only [List.take_succ_cons,List.take_zero]
  unfold Cx
  repeat (go_big_quiet_step (first | with_reducible exact J _))
  exact wpQuiet_nil rfl
 simp only [List.drop_succ_cons,List.drop_zero]
 refine Qh (w.heap.size+1) #[.string (nb R)] #[.string ⟨#[]⟩] 38 (by rfl) (by rfl) (by rfl) (Blocks.over_some hbn) rfl (.inl (by simp)) (by kernel_rfl) (by simp [Value.oneCell']) ?_
 refine Qb 1 (by kernel_rfl) (by rfl) ?_
 apply Exists.intro
 refine ⟨fun z hz=>?_,?_⟩
 ·clear hz
  simp only [List.take_succ_cons,List.take_zero]
  unfold Cx
  repeat (go_big_quiet_step (fail))
  exact wpQuiet_nil rfl
 simp only [List.drop_succ_cons,List.drop_zero]
 refine Qf ?_
 unfold Kc
 intro w3 hx3 hB3
 have R3:=Lib.hid (hB3 (w.heap.size+1) _ (Blocks.put_same _ _ _))
 have HF:=Lib.hid (HP.out w3 (HL2.out.trans (hx3.below_of (b:=w.heap.size) (fun k hk=>by simp at hk;omega) HL2.out.size)))
 clear hx3 hB3 hx0 hB0 hbn hf hn
 go_wp2_with fail
 refine bodyPost_ret (Or (p:=2) (u:=3) rfl _ _ (w.heap.size+1) _ _ (0,0) _ _ rfl R3.out Tryz.underlying38 rfl Tryz.sizeNatE rfl) rfl ?_
 exact HF.out
end
/- Pairs of numbers: both,free. -/
section
open Go.RowKit Go.Sort Num
def cV (x:Nat × Nat):Value:=Q2p x.1 x.2
def cP (x:Nat × Nat):Value × Value:=(Y6 x.1,Y6 x.2)
theorem gBoth (a b:Nat × Nat) (ha:a.1≤4096∧a.2≤4096) (hb:b.1≤4096∧b.2≤4096):Gives 95 #[cV a,cV b] (cV (pairS.mul a b)):=by
 have hm:∀ x y:Nat,x≤4096→y≤4096→x*y≤16777216:=fun x y h1 h2=>Nat.le_trans (Nat.mul_le_mul h1 h2) (by omega)
 have h1:=hm _ _ ha.1 hb.1
 have h2:=hm _ _ ha.2 hb.2
 have h3:=hm _ _ ha.1 hb.2
 have h4:=hm _ _ ha.2 hb.1
 exact w_both (nb a.1) (nb a.2) (nb b.1) (nb b.2) (nb (a.1*b.1)) (nb (a.2*b.2)) (nb (a.1*b.2)) (nb (a.2*b.1)) (nb (a.1*b.1+a.2*b.2)) (nb (a.1*b.2+a.2*b.1))
  (Q64 _ _ (Qq (by omega)) (Qq (by omega))) (Q64 _ _ (Qq (by omega)) (Qq (by omega))) (Q2n _ _ (Qq h1) (Qq h2))
  (Q64 _ _ (Qq (by omega)) (Qq (by omega))) (Q64 _ _ (Qq (by omega)) (Qq (by omega))) (Q2n _ _ (Qq h3) (Qq h4))
theorem inV_four {n:Nat} (hn:n≤4) {o:Nat→Bool} (ho:∀ v,o v=true→v≤n):inV n o=[1,2,3,4].filter o:=by
 unfold inV
 have e:[1,2,3,4]=List.range' 1 n++List.range' (1+n) (4-n):=by
  have:=List.range'_append_1 (s:=1) (m:=n) (n:=4-n)
  rw [this,show n+(4-n)=4 by omega];rfl
 have e2:List.filter o (List.range' (1+n) (4-n))=[]:=List.filter_eq_nil_iff.2 (fun x hx=>by
  simp only [List.mem_range'_1] at hx
  intro h
  have:=ho x h
  omega)
 rw [e,List.filter_append,e2,List.append_nil]
theorem cnt_four (o:Nat→Bool):([1,2,3,4].filter o).length=Hy o:=by
 unfold Hy
 cases h1:o 1<;>cases h2:o 2<;>cases h3:o 3<;>cases h4:o 4<;>simp [h1,h2,h3,h4]
theorem free_eq {n:Nat} (hn:n≤4) {o:Nat→Bool} (ho:∀ v,o v=true→1≤v∧v≤n) (odd:Nat→Bool):Q13 o odd=Kh pairS (Yl odd) (inV n o):=by
 rw [Uo,inV_four hn (fun v h=>(ho v h).2),cnt_four]
 unfold Q13
 have e:([1,2,3,4].filter o).any odd=!eqO (fun v=>o v&&odd v) Yr:=by
  cases h:([1,2,3,4].filter o).any odd
  ·rw [show eqO (fun v=>o v&&odd v) Yr=true from Uq.2 fun v h1 h2=>by
    show (o v&&odd v)=false
    cases hov:o v
    ·rfl
    ·have hv:=ho v hov
     have hm:v∈[1,2,3,4].filter o:=List.mem_filter.2 ⟨by simp;omega,hov⟩
     have:=List.any_eq_false.1 h v hm
     simpa using this]
   rfl
  ·obtain ⟨v,hm,hv⟩:=List.any_eq_true.1 h
   have hov:=(List.mem_filter.1 hm).2
   have hvr:=ho v hov
   cases he:eqO (fun v=>o v&&odd v) Yr
   ·rfl
   ·have h1:=Uq.1 he v hvr.1 (by omega)
    rw [hov,hv] at h1
    cases h1
 rw [e]
 cases eqO (fun v=>o v&&odd v) Yr<;>rfl
theorem Tryz.infoCntX:(Tryz.prog.info? 127).map (fun i=>(i.zero,i.size,i.bytes))=some (some (.agg #[.string ⟨#[]⟩,.string ⟨#[]⟩]),2,32):=by kernel_rfl
theorem makeCnts (m:Nat) (hm:m≤65536) (x:World):(Instr.makeSlice 161 (.int .i64 (m:Int)) (.int .i64 (m:Int))).run Tryz.prog x = .ok (.slice (some ⟨x.heap.size,0,none⟩) m m) (x.alloc (.cells (madeCells #[.string ⟨#[]⟩,.string ⟨#[]⟩] (m*2)) 127)):=by
 obtain ⟨i0,ii,iz0,iz1,iz2⟩:=info_parts Tryz.infoCntX
 have h:=run_makeSlice (P:=Tryz.prog) (w:=x) 161 127 i0 _ Tryz.underlying161 ii iz0 .i64 .i64 m m (by omega) (by omega) (by rw [iz1];omega) (by rw [iz2];omega) (by omega)
 rw [iz1] at h
 exact h
theorem Q6u (z:Array Value) (n j:Nat) (hj:j<n):(madeCells z n)[j]?=some (z[j%z.size]!):=by
 unfold madeCells
 simp [hj]
theorem Q0l:Y6 0 = .string ⟨#[]⟩:=by unfold Y6;rw [Num.nb_zero];rfl
theorem Row2.zero (m:Nat):Row2 (madeCells #[.string ⟨#[]⟩,.string ⟨#[]⟩] (m*2)) m m (fun _=>cP (0,0)):=⟨size_madeCells _ _,fun j hj=>by
 rw [Q6u _ _ _ (by omega),Q6u _ _ _ (by omega)]
 have e1:j*2%2=0:=by omega
 have e2:(j*2+1)%2=1:=by omega
 unfold cP
 rw [Q0l]
 refine ⟨?_,?_⟩
 ·show some ((#[Value.string ⟨#[]⟩,Value.string ⟨#[]⟩]:Array Value)[j*2%2]!)=_
  rw [e1];rfl
 ·show some ((#[Value.string ⟨#[]⟩,Value.string ⟨#[]⟩]:Array Value)[(j*2+1)%2]!)=_
  rw [e2];rfl⟩
end
end Go.Proofs.YtcpehljpegfckaaGreatDoor
