/- Texts of this claim,joined: EB1. -/
import Derived.Test.YtcpehljpegfckaaGreatDoorMT46
import Derived.Deep.DeepCutAuto
/- hash's counter: the even models of a net and the odd ones (printed by EB1.gen.py). -/
namespace Go.Proofs.YtcpehljpegfckaaGreatDoor
open Go.RowKit Go.Sort Num
theorem Row2.fst {xs:Array Value} {m i:Nat} {f:Nat→Value × Value} (h:Row2 xs m i f) {k:Nat} (hk:k<m) (a:Value):Row2 (xs.setIfInBounds (k*2) a) m i (fun j=>if j=k then (a,(f j).2) else f j):=by
 obtain ⟨h1,h2⟩:=h
 refine ⟨by simpa using h1,fun j hj=>?_⟩
 dsimp only
 by_cases e:j=k
 ·subst e
  rw [if_pos rfl]
  refine ⟨?_,?_⟩
  ·rw [Array.getElem?_setIfInBounds,if_pos rfl,if_pos (by omega)]
  ·rw [Array.getElem?_setIfInBounds,if_neg (by omega)];exact (h2 j hj).2
 ·rw [if_neg e]
  refine ⟨?_,?_⟩
  ·rw [Array.getElem?_setIfInBounds,if_neg (by omega)];exact (h2 j hj).1
  ·rw [Array.getElem?_setIfInBounds,if_neg (by omega)];exact (h2 j hj).2
theorem Row2.snd {xs:Array Value} {m i:Nat} {f:Nat→Value × Value} (h:Row2 xs m i f) {k:Nat} (hk:k<m) (a:Value):Row2 (xs.setIfInBounds (k*2+1) a) m i (fun j=>if j=k then ((f j).1,a) else f j):=by
 obtain ⟨h1,h2⟩:=h
 refine ⟨by simpa using h1,fun j hj=>?_⟩
 dsimp only
 by_cases e:j=k
 ·subst e
  rw [if_pos rfl]
  refine ⟨?_,?_⟩
  ·rw [Array.getElem?_setIfInBounds,if_neg (by omega)];exact (h2 j hj).1
  ·rw [Array.getElem?_setIfInBounds,if_pos rfl,if_pos (by omega)]
 ·rw [if_neg e]
  refine ⟨?_,?_⟩
  ·rw [Array.getElem?_setIfInBounds,if_neg (by omega)];exact (h2 j hj).1
  ·rw [Array.getElem?_setIfInBounds,if_neg (by omega)];exact (h2 j hj).2
structure CntS (n m:Nat) (ns:List Nd) (p:Option Addr) (c gc go g4 g5 g g2:Nat) (odd:Nat→Bool) (w:World):Prop where
 ctr:w.heap[gc]?=some (.cells #[.int .i64 n,.slice p m c,.slice (some ⟨g,0,none⟩) m m] 124 (0,0))
 oddb:w.heap[go]?=some (.cells #[.int .u64 (loW odd:Nat),.int .u64 (hiW odd:Nat)] 55 (0,0))
 res:w.heap[g4]?=some (.cells #[.string ⟨#[]⟩,.string ⟨#[]⟩] 127 (0,0))
 one:w.heap[g5]?=some (.cells #[.string (nb 1)] 38 (0,0))
 sets:SetsAt w.heap.size w g m (Ql ns)
 at':NetAt g2 w p ns
 le:g2<w.heap.size
 ne:gc≠g2∧go≠g2∧g4≠g2∧g5≠g2∧g≠g2
theorem CntS.keep {n m:Nat} {ns:List Nd} {p:Option Addr} {c gc go g4 g5 g g2:Nat} {odd:Nat→Bool} {w x:World} (h:CntS n m ns p c gc go g4 g5 g g2 odd w) (hx:Behind w [g2] x):CntS n m ns p c gc go g4 g5 g g2 odd x where
 ctr:=hx.keep h.ctr (by simp;exact h.ne.1)
 oddb:=hx.keep h.oddb (by simp;exact h.ne.2.1)
 res:=hx.keep h.res (by simp;exact h.ne.2.2.1)
 one:=hx.keep h.one (by simp;exact h.ne.2.2.2.1)
 sets:=⟨Nat.lt_of_lt_of_le h.sets.1 hx.size,fun i hi=>⟨Jl (h.sets.2 i hi).1 hx (by simp;exact h.ne.2.2.2.2),Jl (h.sets.2 i hi).2 hx (by simp;exact h.ne.2.2.2.2)⟩⟩
 at':=h.at'.lower (hx.below_of (b:=g2) (fun k hk=>by simp at hk;omega) (Nat.le_of_lt h.le)) (Nat.le_refl _)
 le:=Nat.lt_of_lt_of_le h.le hx.size
 ne:=h.ne
def rowF (odd:Nat→Bool) (n:Nat) (ns:List Nd) (i:Nat) (cur:Nat × Nat):Nat→Value × Value:=fun j=>if j<i then cP (pV odd n ns j) else if j=i then cP cur else cP (0,0)
theorem Xu {odd:Nat→Bool} {n:Nat} {ns:List Nd} {i:Nat} {cur:Nat × Nat} (h:cur=pV odd n ns i):rowF odd n ns i cur=rowF odd n ns (i+1) (0,0):=funext fun j=>by
 unfold rowF
 by_cases h1:j<i
 ·rw [if_pos h1,if_pos (by omega)]
 ·rw [if_neg h1]
  by_cases h2:j=i
  ·rw [if_pos h2,if_pos (by omega),h,h2]
  ·rw [if_neg h2,if_neg (by omega)]
   split<;>rfl
set_option maxHeartbeats 1600000 in
set_option maxRecDepth 100000 in
theorem gCountH (n:Nat) (h4n:n≤4) (ns:List Nd) (hN:Ze n ns) (hD:Zm ns) (hT:Xq ns) (hpos:0<ns.length) (hlen:ns.length≤65536) (p:Option Addr) (c gc g:Nat) (odd:Nat→Bool) (w:World)
  (hC:w.heap[gc]?=some (.cells #[.int .i64 n,.slice p ns.length c,.slice (some ⟨g,0,none⟩) ns.length ns.length] 124 (0,0))) (hS:SetsAt w.heap.size w g ns.length (Ql ns)) (hA:NetAt w.heap.size w p ns) :
  Calls Tryz.prog 64 #[.pointer (some ⟨gc,0,none⟩),Qt odd] w fun e w'=>e = .returned (cV (pairS.mul (pV odd n ns (ns.length-1)) (Kh pairS (Yl odd) (inV n fun v=>Qy n v&&!Ql ns (ns.length-1) v))))∧Below w.heap.size w w':=by
 obtain ⟨R,hR⟩:∃ R,R=pairS.mul (pV odd n ns (ns.length-1)) (Kh pairS (Yl odd) (inV n fun v=>Qy n v&&!Ql ns (ns.length-1) v)):=⟨_,rfl⟩
 rw [←hR]
 obtain ⟨Post,hPost⟩:∃ P:Ending→World→Prop,P=fun e w'=>e = .returned (cV R)∧Below w.heap.size w w':=⟨_,rfl⟩
 rw [←hPost]
 have HP:=Lib.hid (show ∀ (w':World),Below w.heap.size w w'→Post (.returned (cV R)) w' from fun w' h=>by rw [hPost];exact ⟨rfl,h⟩)
 have HA:=Lib.hid hA
 have HN:=Lib.hid hN
 obtain ⟨m,hm⟩:∃ m,m=ns.length:=⟨_,rfl⟩
 have HAL:=Lib.hid (fun i x (hx:ns[i]?=some x)=>smP_all odd hN hx)
 have HSM:=Lib.hid (fun i x (hx:ns[i]?=some x) t=>smP_small odd hN hx hD hT (show n≤12 by omega) t)
 have HVS:=Lib.hid (fun i (hi:i<m)=>pV_small odd hN (List.getElem?_eq_getElem (show i<ns.length by omega)) hD hT (show n≤12 by omega))
 have HOR:=Lib.hid (fun i (hi:i<m)=>Uw hN i (show i<ns.length by omega))
 have HFS:=Lib.hid (fun i k=>fP_small (odd:=odd) (ns:=ns) (show n≤12 by omega) i k)
 rw [←hm] at hpos hlen hR hC hS
 have HM:=Lib.hid hm
 have HR:=Lib.hid hR
 have HC:=Lib.hid hC
 have HS:=Lib.hid hS
 clear hPost hA hN hm hD hT hR hC hS
 obtain ⟨o0,ho0⟩:∃ o0,o0=loW odd:=⟨_,rfl⟩
 obtain ⟨o1,ho1⟩:∃ o1,o1=hiW odd:=⟨_,rfl⟩
 have HO:=Lib.hid (show Qt odd = .agg #[.int .u64 (o0:Nat),.int .u64 (o1:Nat)] by rw [ho0,ho1];rfl)
 have HO0:=Lib.hid ho0
 have HO1:=Lib.hid ho1
 clear ho0 ho1
 rw [HO.out]
 go_enter Tryz.func64,Tryz.ntmps64
 go_upto_region 1 with fail
 refine Qg ?_
 intro w1 hw1
 have B1:=Lib.hid (show w1.heap[w.heap.size]?=some (.cells #[.int .u64 (o0:Nat),.int .u64 (o1:Nat)] 55 (0,0)) by rw [hw1];exact Yp _ _ _)
 have T1:=Lib.hid (show w1.heap[w.heap.size+1]?=some (.cells #[.string ⟨#[]⟩,.string ⟨#[]⟩] 127 (0,0)) by rw [hw1];exact Yn _ _ _)
 have HL1:=Lib.hid (show Below w.heap.size w w1 by rw [hw1];exact Jy _ _ _)
 clear hw1
 have KO:=gOf 1 (by omega) w1
 unfold Qj at KO
 go_wp2_with fail
 refine KO.mono ?_
 rintro e w2 ⟨rfl,hb2⟩
 have B2:=Lib.hid ((Q4 hb2).keep B1.out (by simp))
 have T2:=Lib.hid ((Q4 hb2).keep T1.out (by simp))
 have HL2:=Lib.hid (HL1.out.trans (hb2.mono HL1.out.size))
 clear hb2 KO B1 T1 HL1
 go_upto_region 2 with fail
 refine Qg ?_
 intro w3 hw3
 obtain ⟨g5,hg5⟩:∃ g5,g5=w2.heap.size:=⟨_,rfl⟩
 have O3:=Lib.hid (show w3.heap[g5]?=some (.cells #[.string (nb 1)] 38 (0,0)) by rw [hw3,hg5];exact Qn _ _)
 have hb3:Below w2.heap.size w2 w3:=by rw [hw3];exact Qe _ _
 have B3:=Lib.hid ((Q4 hb3).keep B2.out (by simp))
 have T3:=Lib.hid ((Q4 hb3).keep T2.out (by simp))
 have HL3:=Lib.hid (HL2.out.trans (hb3.mono HL2.out.size))
 have h15:w.heap.size+1<g5:=by have:=Q9 T2.out;omega
 rw [←hg5]
 clear hw3 hb3 hg5 B2 T2 HL2
 have q0:=Q5 (Below.heap HL3.out HC.out (Q9 HC.out)) 0 rfl
 have q1:=Q5 (Below.heap HL3.out HC.out (Q9 HC.out)) 1 rfl
 have q2:=Q5 (Below.heap HL3.out HC.out (Q9 HC.out)) 2 rfl
 have hmk:=makeCnts m hlen w3
 go_upto_region 3 with fail
 refine Qg ?_
 intro w4 hw4
 obtain ⟨g2,hg2⟩:∃ g2,g2=w3.heap.size:=⟨_,rfl⟩
 have hb4:Below w3.heap.size w3 w4:=by rw [hw4];exact Qe _ _
 have R4:=Lib.hid (show ∃ xs,w4.heap[g2]?=some (.cells xs 127 (0,0))∧Row2 xs m m (rowF odd n ns 0 (0,0)) from ⟨_,by rw [hw4,hg2];exact Qn _ _,(Row2.zero m).congr fun j hj=>by unfold rowF;rw [if_neg (by omega)];split<;>rfl⟩)
 have HL4:=Lib.hid (HL3.out.trans (hb4.mono HL3.out.size))
 have h25:g5<g2:=by have:=Q9 O3.out;omega
 have SS:=Lib.hid (show CntS n m ns p c gc w.heap.size (w.heap.size+1) g5 g g2 odd w4 from by
  have hcl:=Q9 HC.out
  have hgl:=HS.out.1
  exact ⟨Below.heap HL4.out HC.out hcl,by rw [←HO0.out,←HO1.out];exact (Q4 hb4).keep B3.out (by simp),(Q4 hb4).keep T3.out (by simp),(Q4 hb4).keep O3.out (by simp),(HS.out.below HL4.out (Nat.le_refl _)).mono HL4.out.size,(HA.out.below HL4.out (Nat.le_refl _)).mono (by omega),by have:=hb4.size;rw [hw4];simp;omega,by omega⟩)
 obtain ⟨gn,hgn⟩:∃ gn,gn=w.heap.size:=⟨_,rfl⟩
 rw [←hgn] at SS h15 ⊢
 rw [←hg2]
 have hgn2:w.heap.size≤gn:=by omega
 have HB4:=Lib.hid (show Below gn w w4 by rw [hgn];exact HL4.out)
 clear hw4 hb4 hmk hg2 hgn O3 B3 T3 HL3 HL4 q0 q1 q2
 have q0:=Q5 SS.out.ctr 0 rfl
 have q1:=Q5 SS.out.ctr 1 rfl
 have q2:=Q5 SS.out.ctr 2 rfl
 go_wp2_with fail
 go_loopw [29] (fun t29 wr=>∃ i:Nat,t29 = .int .i64 i∧i≤m∧Hid (∃ xs,wr.heap[g2]?=some (.cells xs 127 (0,0))∧Row2 xs m m (rowF odd n ns i (0,0)))∧Hid (Behind w4 [g2] wr)) (fun t _=>m-(intOf t).toNat)
 case atStart=>exact ⟨0,rfl,Nat.zero_le _,R4.out,Behind.refl _ _⟩
 case round =>
  obtain ⟨i,rfl,hin,HR5,HW5⟩:=hrel
  obtain ⟨w5,hw5⟩:∃ w5,w5=wr:=⟨_,rfl⟩
  rw [←hw5] at HR5 HW5 ⊢
  clear hw5 R4 q0 q1 q2
  by_cases hlt:i<m
  ·have hd:decide (i<m)=true:=decide_eq_true hlt
   have hd2:decide ((i:Int)<(m:Int))=true:=decide_eq_true (by omega)
   obtain ⟨x,hx⟩:∃ x,ns[i]?=some x:=⟨_,List.getElem?_eq_getElem (by rw [←HM.out];exact hlt)⟩
   obtain ⟨b,o,q,cg,hb,hp,x1,x2,x3,hxs⟩:=SS.out.at' i x hx
   have hbw:=HW5.out.below_of (b:=g2) (fun k hk=>by simp at hk;omega) (Nat.le_of_lt SS.out.le)
   have x1:=Q8 hbw hb x1
   have x2:=Q8 hbw hb x2
   have x3:=Q8 hbw hb x3
   have HOK:=Lib.hid (HN.out i x hx)
   have HX:=Lib.hid hxs
   have HXX:=Lib.hid hx
   have C1:=Lib.hid x1
   have C2:=Lib.hid x2
   have C3:=Lib.hid x3
   subst hp
   clear hb hxs hx x1 x2 x3 hbw
   go_upto_region 5 with fail
   refine wp_region_lit (J6 [0,0,0,3,0,2] [] B0 (Qi _) ?_)
   refine Qb 3 (by kernel_rfl) (by rfl) ?_
   apply Exists.intro
   refine ⟨fun z hz=>?_,?_⟩
   ·have f0:=Q6 hz C1.out (by simp)
    have f1:=Q6 hz C2.out (by simp)
    have f2:=Q6 hz C3.out (by simp)
    clear hz
    simp only [List.take_succ_cons,List.take_zero]
    unfold Cx
    repeat (go_big_quiet_step (fail))
    exact wpQuiet_nil rfl
   simp only [List.drop_succ_cons,List.drop_zero]
   refine Jm (.agg #[.int .i64 0,.int .i64 0,.slice none 0 0]) (by rfl) (fun x=>by kernel_rfl) (fun g9 q9 hn9=>?_)
   unfold Qk
   go_big_quiet_step (fail)
   refine wpQuiet_nil ?_
   refine Qb 1 (by kernel_rfl) (by rfl) ?_
   apply Exists.intro
   refine ⟨fun z hz=>?_,?_⟩
   ·clear hz
    simp only [List.take_succ_cons,List.take_zero]
    unfold Cx
    repeat (go_big_quiet_step (fail))
    exact wpQuiet_nil rfl
   simp only [List.drop_succ_cons,List.drop_zero]
   refine Qh g9 #[.int .i64 x.k,.int .i64 x.lit,.slice q x.ins.length cg] #[.int .i64 0,.int .i64 0,.slice none 0 0] 102 (by rfl) (by rfl) (by rfl) (Blocks.put_same _ _ _) rfl (.inr q9) (by kernel_rfl) (by simp [Value.oneCell']) ?_
   refine Qf ?_
   intro w6 hx6 hH
   have N6:=Lib.hid (hH g9 _ (Blocks.put_same _ _ _))
   have HW6:=Lib.hid (HW5.out.trans (hx6.wider (Wr':=[g2]) (by simp)) (fun b hb=>.inl hb))
   have HR6:=Lib.hid (show ∃ xs,w6.heap[g2]?=some (.cells xs 127 (0,0))∧Row2 xs m m (rowF odd n ns i (0,0)) from by
    obtain ⟨xs,h1,h2⟩:=HR5.out
    exact ⟨xs,hx6.keep h1 (by simp),h2⟩)
   have hg29:g2<g9:=by have:=(SS.out.keep HW5.out).le;omega
   have hfew:=HOK.out.few
   clear hx6 hH hn9 HR5 HW5 C1 C2 C3
   have y0:=Q5 N6.out 0 rfl
   have hk5:x.k=0∨x.k=1∨x.k=2∨x.k=3∨x.k=4:=by have:=HOK.out.kind;omega
   rcases hk5 with hk | hk | hk | hk | hk
   case inl =>
    have e1:(x.k == 1)=false:=J7 (by omega)
    have e2:(x.k == 2)=false:=J7 (by omega)
    have e3:(x.k == 3)=false:=J7 (by omega)
    have e4:(x.k == 4)=false:=J7 (by omega)
    have HCUR:=Lib.hid (show ((0,0):Nat × Nat)=pV odd n ns i from by
     rw [←HAL.out i x HXX.out]
     unfold smP
     rw [if_neg (by omega),if_neg (by omega),if_pos hk])
    rw [Xu HCUR.out] at HR6
    clear hk
    go_wp2_with fail
    go_roundw
    case rel=>exact ⟨i+1,by go_num,by omega,HR6.out,HW6.out⟩
    case measure=>simp [intOf];omega
   case inr.inl =>
    have e1:(x.k == 1)=true:=by rw [hk];rfl
    have HCUR:=Lib.hid (show ((1,0):Nat × Nat)=pV odd n ns i from by
     rw [←HAL.out i x HXX.out]
     unfold smP
     rw [if_neg (by omega),if_neg (by omega),if_neg (by omega),if_neg (by omega)])
    clear hk
    obtain ⟨xs,hxs,hrow⟩:=HR6.out
    have hsz:xs.size=m*2:=hrow.1
    have HXS:=Lib.hid hxs
    have HRW:=Lib.hid hrow
    have HWc:=Lib.hid HW6.out
    have HNc:=Lib.hid N6.out
    have SC:=Lib.hid (SS.out.keep HWc.out)
    clear hxs hrow HR6
    go_upto_region 8 with fail
    refine Qo [0,0,0,0,0,2] [g2] _ (Fin.put Qu _ _) (Qr (Qi _) HXS.out) (by kernel_rfl) (by kernel_rfl) ?_
    refine Qb 5 (by kernel_rfl) (by rfl) ?_
    apply Exists.intro
    refine ⟨fun z hz=>?_,?_⟩
    ·have f0:=Q6 hz (Q5 SC.out.one 0 rfl) (by simp;omega)
     clear hz
     simp only [List.take_succ_cons,List.take_zero]
     unfold Cx
     repeat (go_big_quiet_step (fail))
     exact wpQuiet_nil rfl
    simp only [List.drop_succ_cons,List.drop_zero]
    refine Qx g2 (i*2) (.agg #[.string (nb 1)]) xs (xs.setIfInBounds (i*2) (.string (nb 1))) 127 (by rfl) (by rfl) (by rfl) (Blocks.put_same _ _ _) (by show i*2+1≤xs.size;omega) (by simp) (Zq (m:=xs.size) rfl (by omega) _) (.inl (by simp)) (by kernel_rfl) (by simp [Value.oneCell',Value.cells]) ?_
    refine Qf ?_
    intro w7 hxw7 hH
    have Xw7:=Lib.hid (hH g2 _ (Blocks.put_same _ _ _))
    have HWw7:=Lib.hid (HWc.out.trans hxw7 (fun b hb=>.inl hb))
    have Nw7:=Lib.hid (hxw7.keep HNc.out (by simp;omega))
    have R7:=Lib.hid (show ∃ xs,w7.heap[g2]?=some (.cells xs 127 (0,0))∧Row2 xs m m (rowF odd n ns (i+1) (0,0)) from
     ⟨_,Xw7.out,(HRW.out.fst hlt _).congr fun j hj=>by
      rw [←Xu HCUR.out]
      unfold rowF
      by_cases e:j=i
      ·rw [if_pos e,if_neg (by omega),if_pos e,if_neg (by omega),if_pos e];rfl
      ·rw [if_neg e,if_neg e]
       split
       ·rfl
       ·first
        | rfl
        | (rw [if_neg e])⟩)
    clear hxw7 hH HRW HXS Xw7
    go_wp2_with fail
    go_roundw
    case rel=>exact ⟨i+1,by go_num,by omega,R7.out,HWw7.out⟩
    case measure=>simp [intOf];omega
   case inr.inr.inl =>
    have e1:(x.k == 1)=false:=J7 (by omega)
    have e2:(x.k == 2)=true:=by rw [hk];rfl
    obtain ⟨hl0,hln⟩:=HOK.out.lit hk
    have HV:=Lib.hid (show Yl odd x.lit.natAbs (decide (0<x.lit))=pV odd n ns i from by
     rw [←HAL.out i x HXX.out]
     unfold smP
     rw [if_neg (by omega),if_neg (by omega),if_neg (by omega),if_pos hk])
    clear hk
    have S6:=Lib.hid (SS.out.keep HW6.out)
    have y1:=Q5 N6.out 1 rfl
    have o0c:=Q5 S6.out.oddb 0 rfl
    have o1c:=Q5 S6.out.oddb 1 rfl
    by_cases hpos2:0<x.lit
    case pos =>
     have hd0:decide (0<x.lit)=true:=decide_eq_true hpos2
     have KH:=gHas (loW odd) (hiW odd) (Vu odd) (U1 odd) x.lit (by omega) (by omega) w6
     have hbit:Ot (loW odd) (hiW odd) x.lit=odd x.lit.natAbs:=by
      unfold Ot
      rw [if_pos (by omega),←Q8y odd (v:=x.lit.natAbs) (by omega) (by omega)]
      congr 1;omega
     rw [hbit] at KH
     unfold Jz at KH
     have HCU:=Lib.hid (show (if odd x.lit.natAbs then ((0,1):Nat × Nat) else (1,0))=pV odd n ns i from by rw [←HV.out];unfold Yl;rw [hd0,Bool.true_and])
     generalize odd x.lit.natAbs=ob at *
     clear hbit HV
     go_wp2_with fail
     refine KH.mono ?_
     rintro e w6b ⟨rfl,hb6⟩
     have Nb:=Lib.hid ((Q4 hb6).keep N6.out (by simp))
     have HWb:=Lib.hid (HW6.out.trans ((Q4 hb6).wider (Wr':=[g2]) (by simp)) (fun b hb=>.inl hb))
     have HRb:=Lib.hid (show ∃ xs,w6b.heap[g2]?=some (.cells xs 127 (0,0))∧Row2 xs m m (rowF odd n ns i (0,0)) from by
      obtain ⟨xs,h1,h2⟩:=HR6.out
      exact ⟨xs,(Q4 hb6).keep h1 (by simp),h2⟩)
     clear hb6 KH N6 HW6 HR6 S6 y1 o0c o1c y0
     obtain ⟨xs,hxs,hrow⟩:=HRb.out
     have hsz:xs.size=m*2:=hrow.1
     have HXS:=Lib.hid hxs
     have HRW:=Lib.hid hrow
     have HWc:=Lib.hid HWb.out
     have HNc:=Lib.hid Nb.out
     have SC:=Lib.hid (SS.out.keep HWc.out)
     clear hxs hrow HRb
     cases ob
     case false =>
      have HCUR:=Lib.hid (show ((1,0):Nat × Nat)=pV odd n ns i from HCU.out)
      go_upto_region 12 with fail
      refine Qo [0,0,0,0,0,2] [g2] _ (Fin.put Qu _ _) (Qr (Qi _) HXS.out) (by kernel_rfl) (by kernel_rfl) ?_
      refine Qb 5 (by kernel_rfl) (by rfl) ?_
      apply Exists.intro
      refine ⟨fun z hz=>?_,?_⟩
      ·have f0:=Q6 hz (Q5 SC.out.one 0 rfl) (by simp;omega)
       clear hz
       simp only [List.take_succ_cons,List.take_zero]
       unfold Cx
       repeat (go_big_quiet_step (fail))
       exact wpQuiet_nil rfl
      simp only [List.drop_succ_cons,List.drop_zero]
      refine Qx g2 (i*2) (.agg #[.string (nb 1)]) xs (xs.setIfInBounds (i*2) (.string (nb 1))) 127 (by rfl) (by rfl) (by rfl) (Blocks.put_same _ _ _) (by show i*2+1≤xs.size;omega) (by simp) (Zq (m:=xs.size) rfl (by omega) _) (.inl (by simp)) (by kernel_rfl) (by simp [Value.oneCell',Value.cells]) ?_
      refine Qf ?_
      intro w7 hxw7 hH
      have Xw7:=Lib.hid (hH g2 _ (Blocks.put_same _ _ _))
      have HWw7:=Lib.hid (HWc.out.trans hxw7 (fun b hb=>.inl hb))
      have Nw7:=Lib.hid (hxw7.keep HNc.out (by simp;omega))
      have R7:=Lib.hid (show ∃ xs,w7.heap[g2]?=some (.cells xs 127 (0,0))∧Row2 xs m m (rowF odd n ns (i+1) (0,0)) from
       ⟨_,Xw7.out,(HRW.out.fst hlt _).congr fun j hj=>by
        rw [←Xu HCUR.out]
        unfold rowF
        by_cases e:j=i
        ·rw [if_pos e,if_neg (by omega),if_pos e,if_neg (by omega),if_pos e];rfl
        ·rw [if_neg e,if_neg e]
         split
         ·rfl
         ·first
          | rfl
          | (rw [if_neg e])⟩)
      clear hxw7 hH HRW HXS Xw7
      go_wp2_with fail
      go_roundw
      case rel=>exact ⟨i+1,by go_num,by omega,R7.out,HWw7.out⟩
      case measure=>simp [intOf];omega
     case true =>
      have HCUR:=Lib.hid (show ((0,1):Nat × Nat)=pV odd n ns i from HCU.out)
      go_upto_region 11 with fail
      refine Qo [0,0,0,0,0,2] [g2] _ (Fin.put Qu _ _) (Qr (Qi _) HXS.out) (by kernel_rfl) (by kernel_rfl) ?_
      refine Qb 5 (by kernel_rfl) (by rfl) ?_
      apply Exists.intro
      refine ⟨fun z hz=>?_,?_⟩
      ·have f0:=Q6 hz (Q5 SC.out.one 0 rfl) (by simp;omega)
       clear hz
       simp only [List.take_succ_cons,List.take_zero]
       unfold Cx
       repeat (go_big_quiet_step (fail))
       exact wpQuiet_nil rfl
      simp only [List.drop_succ_cons,List.drop_zero]
      refine Qx g2 (i*2+1) (.agg #[.string (nb 1)]) xs (xs.setIfInBounds (i*2+1) (.string (nb 1))) 127 (by rfl) (by rfl) (by rfl) (Blocks.put_same _ _ _) (by show i*2+1+1≤xs.size;omega) (by simp) (Zq (m:=xs.size) rfl (by omega) _) (.inl (by simp)) (by kernel_rfl) (by simp [Value.oneCell',Value.cells]) ?_
      refine Qf ?_
      intro w7 hxw7 hH
      have Xw7:=Lib.hid (hH g2 _ (Blocks.put_same _ _ _))
      have HWw7:=Lib.hid (HWc.out.trans hxw7 (fun b hb=>.inl hb))
      have Nw7:=Lib.hid (hxw7.keep HNc.out (by simp;omega))
      have R7:=Lib.hid (show ∃ xs,w7.heap[g2]?=some (.cells xs 127 (0,0))∧Row2 xs m m (rowF odd n ns (i+1) (0,0)) from
       ⟨_,Xw7.out,(HRW.out.snd hlt _).congr fun j hj=>by
        rw [←Xu HCUR.out]
        unfold rowF
        by_cases e:j=i
        ·rw [if_pos e,if_neg (by omega),if_pos e,if_neg (by omega),if_pos e];rfl
        ·rw [if_neg e,if_neg e]
         split
         ·rfl
         ·first
          | rfl
          | (rw [if_neg e])⟩)
      clear hxw7 hH HRW HXS Xw7
      go_wp2_with fail
      go_roundw
      case rel=>exact ⟨i+1,by go_num,by omega,R7.out,HWw7.out⟩
      case measure=>simp [intOf];omega
    case neg =>
     have hd0:decide (0<x.lit)=false:=decide_eq_false hpos2
     have HCUR:=Lib.hid (show ((1,0):Nat × Nat)=pV odd n ns i from by rw [←HV.out];unfold Yl;rw [hd0];simp)
     obtain ⟨xs,hxs,hrow⟩:=HR6.out
     have hsz:xs.size=m*2:=hrow.1
     have HXS:=Lib.hid hxs
     have HRW:=Lib.hid hrow
     have HWc:=Lib.hid HW6.out
     have HNc:=Lib.hid N6.out
     have SC:=Lib.hid (SS.out.keep HWc.out)
     clear hxs hrow HR6
     go_upto_region 12 with fail
     refine Qo [0,0,0,0,0,2] [g2] _ (Fin.put Qu _ _) (Qr (Qi _) HXS.out) (by kernel_rfl) (by kernel_rfl) ?_
     refine Qb 5 (by kernel_rfl) (by rfl) ?_
     apply Exists.intro
     refine ⟨fun z hz=>?_,?_⟩
     ·have f0:=Q6 hz (Q5 SC.out.one 0 rfl) (by simp;omega)
      clear hz
      simp only [List.take_succ_cons,List.take_zero]
      unfold Cx
      repeat (go_big_quiet_step (fail))
      exact wpQuiet_nil rfl
     simp only [List.drop_succ_cons,List.drop_zero]
     refine Qx g2 (i*2) (.agg #[.string (nb 1)]) xs (xs.setIfInBounds (i*2) (.string (nb 1))) 127 (by rfl) (by rfl) (by rfl) (Blocks.put_same _ _ _) (by show i*2+1≤xs.size;omega) (by simp) (Zq (m:=xs.size) rfl (by omega) _) (.inl (by simp)) (by kernel_rfl) (by simp [Value.oneCell',Value.cells]) ?_
     refine Qf ?_
     intro w7 hxw7 hH
     have Xw7:=Lib.hid (hH g2 _ (Blocks.put_same _ _ _))
     have HWw7:=Lib.hid (HWc.out.trans hxw7 (fun b hb=>.inl hb))
     have Nw7:=Lib.hid (hxw7.keep HNc.out (by simp;omega))
     have R7:=Lib.hid (show ∃ xs,w7.heap[g2]?=some (.cells xs 127 (0,0))∧Row2 xs m m (rowF odd n ns (i+1) (0,0)) from
      ⟨_,Xw7.out,(HRW.out.fst hlt _).congr fun j hj=>by
       rw [←Xu HCUR.out]
       unfold rowF
       by_cases e:j=i
       ·rw [if_pos e,if_neg (by omega),if_pos e,if_neg (by omega),if_pos e];rfl
       ·rw [if_neg e,if_neg e]
        split
        ·rfl
        ·first
         | rfl
         | (rw [if_neg e])⟩)
     clear hxw7 hH HRW HXS Xw7
     go_wp2_with fail
     go_roundw
     case rel=>exact ⟨i+1,by go_num,by omega,R7.out,HWw7.out⟩
     case measure=>simp [intOf];omega
   case inr.inr.inr.inl =>
    have e1:(x.k == 1)=false:=J7 (by omega)
    have e2:(x.k == 2)=false:=J7 (by omega)
    have e3:(x.k == 3)=true:=by rw [hk];rfl
    have HKK:=Lib.hid (show x.k=3∨x.k=4 from .inl hk)
    have H3:=Lib.hid hk
    have HV0:=Lib.hid (show smP odd n ns i x 0=(1,0) by rw [Q49,if_neg (by omega),if_neg (by omega)])
    clear hk
    obtain ⟨xs,hxs,hrow⟩:=HR6.out
    have hsz:xs.size=m*2:=hrow.1
    have HXS:=Lib.hid hxs
    have HRW:=Lib.hid hrow
    have HWc:=Lib.hid HW6.out
    have HNc:=Lib.hid N6.out
    have SC:=Lib.hid (SS.out.keep HWc.out)
    clear hxs hrow HR6
    go_upto_region 14 with fail
    refine Qo [0,0,0,0,0,2] [g2] _ (Fin.put Qu _ _) (Qr (Qi _) HXS.out) (by kernel_rfl) (by kernel_rfl) ?_
    refine Qb 5 (by kernel_rfl) (by rfl) ?_
    apply Exists.intro
    refine ⟨fun z hz=>?_,?_⟩
    ·have f0:=Q6 hz (Q5 SC.out.one 0 rfl) (by simp;omega)
     clear hz
     simp only [List.take_succ_cons,List.take_zero]
     unfold Cx
     repeat (go_big_quiet_step (fail))
     exact wpQuiet_nil rfl
    simp only [List.drop_succ_cons,List.drop_zero]
    refine Qx g2 (i*2) (.agg #[.string (nb 1)]) xs (xs.setIfInBounds (i*2) (.string (nb 1))) 127 (by rfl) (by rfl) (by rfl) (Blocks.put_same _ _ _) (by show i*2+1≤xs.size;omega) (by simp) (Zq (m:=xs.size) rfl (by omega) _) (.inl (by simp)) (by kernel_rfl) (by simp [Value.oneCell',Value.cells]) ?_
    refine Qf ?_
    intro w7 hxw7 hH
    have Xw7:=Lib.hid (hH g2 _ (Blocks.put_same _ _ _))
    have HWw7:=Lib.hid (HWc.out.trans hxw7 (fun b hb=>.inl hb))
    have Nw7:=Lib.hid (hxw7.keep HNc.out (by simp;omega))
    have R7:=Lib.hid (show ∃ xs,w7.heap[g2]?=some (.cells xs 127 (0,0))∧Row2 xs m m (rowF odd n ns i (smP odd n ns i x 0)) from
     ⟨_,Xw7.out,(HRW.out.fst hlt _).congr fun j hj=>by
      rw [HV0.out]
      unfold rowF
      by_cases e:j=i
      ·rw [if_pos e,if_neg (by omega),if_pos e,if_neg (by omega),if_pos e];rfl
      ·rw [if_neg e]
       split
       ·rfl
       ·first
        | rfl
        | (rw [if_neg e])
        | (rw [if_neg e,if_neg e])⟩)
    clear hxw7 hH HRW HXS Xw7 HWc HNc SC hsz HW6 N6 y0 HV0
    have y2:=Q5 Nw7.out 2 rfl
    go_wp2_with fail
    go_loopw [74] (fun tt wv=>∃ t:Nat,tt = .int .i64 t∧t≤x.ins.length∧Hid (wv.heap[g9]?=some (.cells #[.int .i64 x.k,.int .i64 x.lit,.slice q x.ins.length cg] 102 (0,0)))∧Hid (∃ xs,wv.heap[g2]?=some (.cells xs 127 (0,0))∧Row2 xs m m (rowF odd n ns i (smP odd n ns i x t)))∧Hid (Behind w4 [g2] wv)) (fun t _=>x.ins.length-(intOf t).toNat)
    case atStart=>exact ⟨0,rfl,Nat.zero_le _,Nw7.out,R7.out,HWw7.out⟩
    case round =>
    obtain ⟨t,rfl,htn,HNt,HRt,HWt⟩:=hrel
    obtain ⟨w9,hw9⟩:∃ w9,w9=wr:=⟨_,rfl⟩
    rw [←hw9] at HNt HRt HWt ⊢
    clear hw9 Nw7 R7 HWw7 y2
    by_cases htl:t<x.ins.length
    ·have hdt:decide (t<x.ins.length)=true:=decide_eq_true htl
     have hdt2:decide ((t:Int)<(x.ins.length:Int))=true:=decide_eq_true (by omega)
     obtain ⟨k,hk⟩:∃ k,x.ins[t]?=some k:=⟨_,List.getElem?_eq_getElem htl⟩
     have hki:=HOK.out.ins k (List.mem_of_getElem? hk)
     obtain ⟨kn,rfl⟩:∃ kn:Nat,k=kn:=⟨k.toNat,by omega⟩
     have hkn:kn<i:=by simpa using hki.2
     obtain ⟨b',o',_,ea,kx⟩:=(HX.out.below (HWt.out.below_of (b:=g2) (fun k hk=>by simp at hk;omega) (Nat.le_of_lt SS.out.le)) (Nat.le_refl _)) t _ (Jb x.ins t _ hk)
     subst ea
     have HSTEP:=Lib.hid (Q7e odd (n:=n) (ns:=ns) (i:=i) hk HKK.out)
     have hs1:=HSM.out i x HXX.out t
     have hs2:=HSM.out i x HXX.out (t+1)
     have hs3:=HVS.out kn (by omega)
     rw [if_pos H3.out] at HSTEP
     obtain ⟨xs,hxs,hrow⟩:=HRt.out
     have hsz:xs.size=m*2:=hrow.1
     have HXS:=Lib.hid hxs
     have HRW:=Lib.hid hrow
     have HWc:=Lib.hid HWt.out
     have HNc:=Lib.hid HNt.out
     have SC:=Lib.hid (SS.out.keep HWc.out)
     clear hxs hrow HRt
     have r1:=HRW.out.2 i (by omega)
     unfold rowF at r1
     rw [if_neg (by omega),if_pos rfl] at r1
     have r2:=HRW.out.2 kn (by omega)
     unfold rowF at r2
     rw [if_pos hkn] at r2
     unfold cP Y6 at r1 r2
     dsimp only at r1 r2
     have KB:=gBoth (smP odd n ns i x t) (pV odd n ns kn) hs1 hs3
     rw [←HSTEP.out] at KB
     unfold cV Q2p at KB
     obtain ⟨s2,hs2e⟩:∃ s2,s2=smP odd n ns i x (t+1):=⟨_,rfl⟩
     rw [←hs2e] at KB
     have HS2E:=Lib.hid hs2e
     generalize smP odd n ns i x t=s1 at *
     generalize pV odd n ns kn=vk at *
     have HKB:=Lib.hid KB
     have RR1:=Lib.hid r1
     have RR2:=Lib.hid r2
     clear hs2e HSTEP KB hk hki r1 r2
     go_upto_region 18 with fail
     refine Qo [1,1,1,1,1,1,1,1,1,1,1,1,2] [g2] _ (Fin.put Qu _ _) (Qr (Qi _) HXS.out) (by kernel_rfl) (by kernel_rfl) ?_
     refine Jq 12 w9 (Behind.refl _ _) (Qr (Qi _) HXS.out) (by kernel_rfl) (by rfl) ?_
     apply Exists.intro
     refine ⟨fun z hz hH=>?_,?_⟩
     ·have g0:=Jg (hH g2 _ (Blocks.put_same _ _ _)) (i*2) RR1.out.1
      have g0b:=Jg (hH g2 _ (Blocks.put_same _ _ _)) (i*2+1) RR1.out.2
      have g1:=Jg (hH g2 _ (Blocks.put_same _ _ _)) (kn*2) RR2.out.1
      have g1b:=Jg (hH g2 _ (Blocks.put_same _ _ _)) (kn*2+1) RR2.out.2
      clear hz hH
      simp only [List.take_succ_cons,List.take_zero]
      unfold Cx
      repeat (go_big_quiet_step (first | with_reducible exact HKB.out.at _ _))
      exact wpQuiet_nil rfl
     simp only [List.drop_succ_cons,List.drop_zero]
     refine Qx g2 (i*2) (.agg #[.string (nb s2.1),.string (nb s2.2)]) xs (Ag xs i (.string (nb s2.1)) (.string (nb s2.2))) 127 (by rfl) (by rfl) (by rfl) (Blocks.put_same _ _ _) (by rw [hsz];show i*2+2≤m*2;omega) (Uu _ _ _ _) (put2_at hsz hlt _ _) (.inl (by simp)) (by kernel_rfl) (by simp [Value.oneCell',Value.cells]) ?_
     refine Qf ?_
     intro w10 hxw10 hH
     have Xw10:=Lib.hid (hH g2 _ (Blocks.put_same _ _ _))
     have HWw10:=Lib.hid (HWc.out.trans hxw10 (fun b hb=>.inl hb))
     have Nw10:=Lib.hid (hxw10.keep HNc.out (by simp;omega))
     have R10:=Lib.hid (show ∃ xs,w10.heap[g2]?=some (.cells xs 127 (0,0))∧Row2 xs m m (rowF odd n ns i (smP odd n ns i x (t+1))) from
      ⟨_,Xw10.out,(HRW.out.put hlt (i2:=m) (fun j hj=>.inr hj) _ _).congr fun j hj=>by
       rw [←HS2E.out]
       unfold rowF
       by_cases e:j=i
       ·rw [if_pos e,if_neg (by omega),if_pos e];rfl
       ·rw [if_neg e]
        split
        ·rfl
        ·first
         | rfl
         | (rw [if_neg e])
         | (rw [if_neg e,if_neg e])⟩)
     clear hxw10 hH HRW HXS Xw10
     go_wp2_with fail
     go_roundw
     case rel=>exact ⟨t+1,by go_num,by omega,Nw10.out,R10.out,HWw10.out⟩
     case measure=>simp [intOf];omega
    ·obtain rfl:t=x.ins.length:=by omega
     have hdt:decide (x.ins.length<x.ins.length)=false:=decide_eq_false (by omega)
     have hdt2:decide ((x.ins.length:Int)<(x.ins.length:Int))=false:=decide_eq_false (by omega)
     rw [Xu (HAL.out i x HXX.out)] at HRt
     go_wp2_with fail
     go_roundw
     case rel=>exact ⟨i+1,by go_num,by omega,HRt.out,HWt.out⟩
     case measure=>simp [intOf];omega
   case inr.inr.inr.inr =>
    have e1:(x.k == 1)=false:=J7 (by omega)
    have e2:(x.k == 2)=false:=J7 (by omega)
    have e3:(x.k == 3)=false:=J7 (by omega)
    have e4:(x.k == 4)=true:=by rw [hk];rfl
    have HKK:=Lib.hid (show x.k=3∨x.k=4 from .inr hk)
    have H4:=Lib.hid hk
    have R7:=Lib.hid (show ∃ xs,w6.heap[g2]?=some (.cells xs 127 (0,0))∧Row2 xs m m (rowF odd n ns i (smP odd n ns i x 0)) from by
     rw [Q49,if_pos (by omega)];exact HR6.out)
    have Nw7:=Lib.hid N6.out
    have HWw7:=Lib.hid HW6.out
    clear hk N6 HW6 HR6
    have y2:=Q5 Nw7.out 2 rfl
    go_wp2_with fail
    clear y0
    go_loopw [96] (fun tt wv=>∃ t:Nat,tt = .int .i64 t∧t≤x.ins.length∧Hid (wv.heap[g9]?=some (.cells #[.int .i64 x.k,.int .i64 x.lit,.slice q x.ins.length cg] 102 (0,0)))∧Hid (∃ xs,wv.heap[g2]?=some (.cells xs 127 (0,0))∧Row2 xs m m (rowF odd n ns i (smP odd n ns i x t)))∧Hid (Behind w4 [g2] wv)) (fun t _=>x.ins.length-(intOf t).toNat)
    case atStart=>exact ⟨0,rfl,Nat.zero_le _,Nw7.out,R7.out,HWw7.out⟩
    case round =>
    obtain ⟨t,rfl,htn,HNt,HRt,HWt⟩:=hrel
    obtain ⟨w9,hw9⟩:∃ w9,w9=wr:=⟨_,rfl⟩
    rw [←hw9] at HNt HRt HWt ⊢
    clear hw9 Nw7 R7 HWw7 y2
    by_cases htl:t<x.ins.length
    ·have hdt:decide (t<x.ins.length)=true:=decide_eq_true htl
     have hdt2:decide ((t:Int)<(x.ins.length:Int))=true:=decide_eq_true (by omega)
     obtain ⟨k,hk⟩:∃ k,x.ins[t]?=some k:=⟨_,List.getElem?_eq_getElem htl⟩
     have hki:=HOK.out.ins k (List.mem_of_getElem? hk)
     obtain ⟨kn,rfl⟩:∃ kn:Nat,k=kn:=⟨k.toNat,by omega⟩
     have hkn:kn<i:=by simpa using hki.2
     obtain ⟨b',o',_,ea,kx⟩:=(HX.out.below (HWt.out.below_of (b:=g2) (fun k hk=>by simp at hk;omega) (Nat.le_of_lt SS.out.le)) (Nat.le_refl _)) t _ (Jb x.ins t _ hk)
     subst ea
     have HSTEP:=Lib.hid (Q7e odd (n:=n) (ns:=ns) (i:=i) hk HKK.out)
     have hs1:=HSM.out i x HXX.out t
     have hs2:=HSM.out i x HXX.out (t+1)
     have hs3:=HVS.out kn (by omega)
     have h4k:=H4.out
     rw [if_neg (by omega)] at HSTEP
     clear h4k
     obtain ⟨xs,hxs,hrow⟩:=HRt.out
     have hsz:xs.size=m*2:=hrow.1
     have HXS:=Lib.hid hxs
     have HRW:=Lib.hid hrow
     have HWc:=Lib.hid HWt.out
     have HNc:=Lib.hid HNt.out
     have SC:=Lib.hid (SS.out.keep HWc.out)
     clear hxs hrow HRt
     have r1:=HRW.out.2 i (by omega)
     unfold rowF at r1
     rw [if_neg (by omega),if_pos rfl] at r1
     have r2:=HRW.out.2 kn (by omega)
     unfold rowF at r2
     rw [if_pos hkn] at r2
     unfold cP Y6 at r1 r2
     dsimp only at r1 r2
     have hfs:=HFS.out i kn
     have hor:=HOR.out i (by omega)
     have hgap:∀ v,Zn ns i kn v=true→1≤v∧v≤n:=fun v hv=>hor v (by unfold Zn at hv;simp at hv;exact hv.1)
     have KF:=gFreeH (Zn ns i kn) odd (fun v hv=>by
      cases h:Zn ns i kn v
      ·rfl
      ·have:=hgap v h;omega)
     rw [free_eq h4n hgap odd] at KF
     have KB:=gBoth (pV odd n ns kn) (fP odd n ns i kn) hs3 hfs
     have KMI:=Q2m (Ql ns i) (Ql ns kn)
     obtain ⟨y,hy⟩:∃ y,y=pairS.mul (pV odd n ns kn) (fP odd n ns i kn):=⟨_,rfl⟩
     rw [←hy] at KB HSTEP
     have hyb:y.1≤33554432∧y.2≤33554432:=by
      have hm:∀ a b:Nat,a≤4096→b≤4096→a*b≤16777216:=fun a b h1 h2=>Nat.le_trans (Nat.mul_le_mul h1 h2) (by omega)
      have h1:=hm _ _ hs3.1 hfs.1
      have h2:=hm _ _ hs3.2 hfs.2
      have h3:=hm _ _ hs3.1 hfs.2
      have h4:=hm _ _ hs3.2 hfs.1
      rw [hy]
      show _*_+_*_≤_∧_*_+_*_≤_
      omega
     have KA1:=Q2n (smP odd n ns i x t).1 y.1 (Qq (by omega)) (Nat.le_trans (Ub (by omega)) (by omega))
     have KA2:=Q2n (smP odd n ns i x t).2 y.2 (Qq (by omega)) (Nat.le_trans (Ub (by omega)) (by omega))
     obtain ⟨s2,hs2e⟩:∃ s2,s2=smP odd n ns i x (t+1):=⟨_,rfl⟩
     have hsa:(smP odd n ns i x t).1+y.1=s2.1∧(smP odd n ns i x t).2+y.2=s2.2:=by rw [hs2e,HSTEP.out];exact ⟨rfl,rfl⟩
     rw [hsa.1] at KA1
     rw [hsa.2] at KA2
     have HS2E:=Lib.hid hs2e
     rw [show Kh pairS (Yl odd) (inV n (Zn ns i kn))=fP odd n ns i kn from rfl] at KF
     unfold Qj at KA1 KA2
     unfold cV Q2p at KB
     unfold Q2p Qt Jz at KF
     unfold Qt Jz at KMI
     obtain ⟨u0,hu0⟩:∃ u0,u0=loW (Zn ns i kn):=⟨_,rfl⟩
     obtain ⟨u1,hu1⟩:∃ u1,u1=hiW (Zn ns i kn):=⟨_,rfl⟩
     rw [show (loW fun v=>Ql ns i v&&!Ql ns kn v)=u0 from hu0.symm,show (hiW fun v=>Ql ns i v&&!Ql ns kn v)=u1 from hu1.symm] at KMI
     rw [←hu0,←hu1] at KF
     have HSK:=Lib.hid (show ∀ j,j<m→∀ wz,Behind w9 [] wz→wz.cell? ⟨g,j*2,none⟩=some (.int .u64 (loW (Ql ns j):Nat))∧wz.cell? ⟨g,j*2+1,none⟩=some (.int .u64 (hiW (Ql ns j):Nat)) from fun j hj wz hz=>⟨Jl (SC.out.sets.2 j hj).1 hz (by simp),Jl (SC.out.sets.2 j hj).2 hz (by simp)⟩)
     have HSI:=Lib.hid (HSK.out i hlt w9 (Behind.refl _ _))
     have HSK2:=Lib.hid (HSK.out kn (by omega) w9 (Behind.refl _ _))
     have HOD:=Lib.hid SC.out.oddb
     have HL1:=Lib.hid (show w9.cell? ⟨g2,kn*2,none⟩=some (.string (nb (pV odd n ns kn).1)) from Q5 HXS.out _ r2.1)
     have HL2:=Lib.hid (show w9.cell? ⟨g2,kn*2+1,none⟩=some (.string (nb (pV odd n ns kn).2)) from Q5 HXS.out _ r2.2)
     clear hu0 hu1 hs2e HSTEP hor hgap hy hsa
     generalize smP odd n ns i x t=s1 at *
     generalize pV odd n ns kn=vk at *
     generalize fP odd n ns i kn=fk at *
     generalize loW (Ql ns i)=a0' at *
     generalize hiW (Ql ns i)=a1' at *
     generalize loW (Ql ns kn)=b0' at *
     generalize hiW (Ql ns kn)=b1' at *
     generalize loW odd=od0 at *
     generalize hiW odd=od1 at *
     have HKB:=Lib.hid KB
     have HKF:=Lib.hid KF
     have HKI:=Lib.hid KMI
     have HKA1:=Lib.hid KA1
     have HKA2:=Lib.hid KA2
     have RR1:=Lib.hid r1
     clear KB KF KMI KA1 KA2 hk hki r1 r2
     go_upto_region 24 with fail
     refine Qo [0,0,0,0,0,0,0,0,0,0,0,0,0,0,0,0,0,0,0,0,0,0,3,2] [] B0 Qu (Qi _) (by kernel_rfl) (by kernel_rfl) ?_
     refine Qb 22 (by kernel_rfl) (by rfl) ?_
     apply Exists.intro
     refine ⟨fun z hz=>?_,?_⟩
     ·have f0:=Q6 hz HL1.out (by simp)
      have f1:=Q6 hz HL2.out (by simp)
      have f2:=Q6 hz (Q5 SC.out.ctr 2 rfl) (by simp)
      have f3:=Q6 hz HSI.out.1 (by simp)
      have f4:=Q6 hz HSI.out.2 (by simp)
      have f5:=Q6 hz HSK2.out.1 (by simp)
      have f6:=Q6 hz HSK2.out.2 (by simp)
      have f7:=Q6 hz (Q5 HOD.out 0 rfl) (by simp)
      have f8:=Q6 hz (Q5 HOD.out 1 rfl) (by simp)
      clear hz
      simp only [List.take_succ_cons,List.take_zero]
      unfold Cx
      repeat (go_big_quiet_step (first | with_reducible exact HKI.out.at _ _ | with_reducible exact HKF.out.at _ _ | with_reducible exact HKB.out.at _ _))
      exact wpQuiet_nil rfl
     simp only [List.drop_succ_cons,List.drop_zero]
     refine Jm (.agg #[.string ⟨#[]⟩,.string ⟨#[]⟩]) (by rfl) (fun x=>by kernel_rfl) (fun g13 q13 hn13=>?_)
     unfold Qk
     go_big_quiet_step (fail)
     refine wpQuiet_nil ?_
     refine Qh g13 #[.string (nb y.1),.string (nb y.2)] #[.string ⟨#[]⟩,.string ⟨#[]⟩] 127 (by rfl) (by rfl) (by rfl) (Blocks.put_same _ _ _) rfl (.inr q13) (by kernel_rfl) (by simp [Value.oneCell']) ?_
     refine Qf ?_
     intro w9b hx9 hH9
     have Y9:=Lib.hid (hH9 g13 _ (Blocks.put_same _ _ _))
     have XS9:=Lib.hid (hx9.keep HXS.out (by simp))
     have N9:=Lib.hid (hx9.keep HNc.out (by simp))
     have W9:=Lib.hid (HWc.out.trans (hx9.wider (Wr':=[g2]) (by simp)) (fun b hb=>.inl hb))
     have h13:g2<g13:=by have:=Q9 HXS.out;omega
     clear hx9 hH9 hn13 HXS HNc HWc HL1 HL2 HSI HSK2 HSK HOD SC
     go_upto_region 25 with fail
     refine Qo [0,0,0,0,0,0,0,0,1,0,0,0,0,0,0,0,1,0,0,0,0,0,2,0,0,2] [g2] _ (Fin.put Qu _ _) (Qr (Qi _) XS9.out) (by kernel_rfl) (by kernel_rfl) ?_
     refine Qb 8 (by kernel_rfl) (by rfl) ?_
     apply Exists.intro
     refine ⟨fun z hz=>?_,?_⟩
     ·clear hz
      simp only [List.take_succ_cons,List.take_zero]
      unfold Cx
      repeat (go_big_quiet_step (first | with_reducible exact HKA1.out.at _ _ | with_reducible exact HKA2.out.at _ _))
      exact wpQuiet_nil rfl
     simp only [List.drop_succ_cons,List.drop_zero]
     refine Jq 1 w9b (Behind.refl _ _) (Qr (Qi _) XS9.out) (by kernel_rfl) (by rfl) ?_
     apply Exists.intro
     refine ⟨fun z hz hH=>?_,?_⟩
     ·have g0:=Jg (hH g2 _ (Blocks.put_same _ _ _)) (i*2) RR1.out.1
      clear hz hH
      simp only [List.take_succ_cons,List.take_zero]
      unfold Cx
      repeat (go_big_quiet_step (fail))
      exact wpQuiet_nil rfl
     simp only [List.drop_succ_cons,List.drop_zero]
     refine Qb 7 (by kernel_rfl) (by rfl) ?_
     apply Exists.intro
     refine ⟨fun z hz=>?_,?_⟩
     ·have f0:=Q6 hz (Q5 Y9.out 0 rfl) (by simp;omega)
      clear hz
      simp only [List.take_succ_cons,List.take_zero]
      unfold Cx
      repeat (go_big_quiet_step (first | with_reducible exact HKA1.out.at _ _ | with_reducible exact HKA2.out.at _ _))
      exact wpQuiet_nil rfl
     simp only [List.drop_succ_cons,List.drop_zero]
     refine Jq 1 w9b (Behind.refl _ _) (Qr (Qi _) XS9.out) (by kernel_rfl) (by rfl) ?_
     apply Exists.intro
     refine ⟨fun z hz hH=>?_,?_⟩
     ·have g0b:=Jg (hH g2 _ (Blocks.put_same _ _ _)) (i*2+1) RR1.out.2
      clear hz hH
      simp only [List.take_succ_cons,List.take_zero]
      unfold Cx
      repeat (go_big_quiet_step (fail))
      exact wpQuiet_nil rfl
     simp only [List.drop_succ_cons,List.drop_zero]
     refine Qb 5 (by kernel_rfl) (by rfl) ?_
     apply Exists.intro
     refine ⟨fun z hz=>?_,?_⟩
     ·have f1:=Q6 hz (Q5 Y9.out 1 rfl) (by simp;omega)
      clear hz
      simp only [List.take_succ_cons,List.take_zero]
      unfold Cx
      repeat (go_big_quiet_step (first | with_reducible exact HKA1.out.at _ _ | with_reducible exact HKA2.out.at _ _))
      exact wpQuiet_nil rfl
     simp only [List.drop_succ_cons,List.drop_zero]
     refine Qx g2 (i*2) (.agg #[.string (nb s2.1)]) xs (xs.setIfInBounds (i*2) (.string (nb s2.1))) 127 (by rfl) (by rfl) (by rfl) (Blocks.put_same _ _ _) (by show i*2+1≤xs.size;omega) (by simp) (Zq (m:=xs.size) rfl (by omega) _) (.inl (by simp)) (by kernel_rfl) (by simp [Value.oneCell',Value.cells]) ?_
     refine Qb 2 (by kernel_rfl) (by rfl) ?_
     apply Exists.intro
     refine ⟨fun z hz=>?_,?_⟩
     ·clear hz
      simp only [List.take_succ_cons,List.take_zero]
      unfold Cx
      repeat (go_big_quiet_step (fail))
      exact wpQuiet_nil rfl
     simp only [List.drop_succ_cons,List.drop_zero]
     refine Qx g2 (i*2+1) (.agg #[.string (nb s2.2)]) (xs.setIfInBounds (i*2) (.string (nb s2.1))) ((xs.setIfInBounds (i*2) (.string (nb s2.1))).setIfInBounds (i*2+1) (.string (nb s2.2))) 127 (by rfl) (by rfl) (by rfl) (Blocks.put_same _ _ _) (by show i*2+1+1≤(xs.setIfInBounds (i*2) _).size;simp;omega) (by simp) (Zq (m:=(xs.setIfInBounds (i*2) (.string (nb s2.1))).size) rfl (by simp;omega) _) (.inl (by simp)) (by kernel_rfl) (by simp [Value.oneCell',Value.cells]) ?_
     refine Qf ?_
     intro w10 hxw10 hH
     have Xw10:=Lib.hid (hH g2 _ (Blocks.put_same _ _ _))
     have HWw10:=Lib.hid (W9.out.trans hxw10 (fun b hb=>.inl hb))
     have Nw10:=Lib.hid (hxw10.keep N9.out (by simp;omega))
     have HXS:=Lib.hid True.intro
     have R10:=Lib.hid (show ∃ xs,w10.heap[g2]?=some (.cells xs 127 (0,0))∧Row2 xs m m (rowF odd n ns i (smP odd n ns i x (t+1))) from
      ⟨_,Xw10.out,((HRW.out.fst hlt (.string (nb s2.1))).snd hlt (.string (nb s2.2))).congr fun j hj=>by
       rw [←HS2E.out]
       unfold rowF
       by_cases e:j=i
       ·subst e
        rw [if_pos rfl,if_pos rfl]
        show (Y6 s2.1,Y6 s2.2)=(if j<j then _ else if j=j then cP s2 else _)
        rw [if_neg (Nat.lt_irrefl _),if_pos rfl];rfl
       ·rw [if_neg e,if_neg e]
        split
        ·rfl
        ·first
         | rfl
         | (rw [if_neg e])
         | (rw [if_neg e,if_neg e])⟩)
     clear hxw10 hH HRW HXS Xw10
     go_wp2_with fail
     go_roundw
     case rel=>exact ⟨t+1,by go_num,by omega,Nw10.out,R10.out,HWw10.out⟩
     case measure=>simp [intOf];omega
    ·obtain rfl:t=x.ins.length:=by omega
     have hdt:decide (x.ins.length<x.ins.length)=false:=decide_eq_false (by omega)
     have hdt2:decide ((x.ins.length:Int)<(x.ins.length:Int))=false:=decide_eq_false (by omega)
     rw [Xu (HAL.out i x HXX.out)] at HRt
     go_wp2_with fail
     go_roundw
     case rel=>exact ⟨i+1,by go_num,by omega,HRt.out,HWt.out⟩
     case measure=>simp [intOf];omega
  ·obtain rfl:i=m:=by omega
   have hd:decide (i<i)=false:=decide_eq_false (by omega)
   have hd2:decide ((i:Int)<(i:Int))=false:=decide_eq_false (by omega)
   obtain ⟨j,rfl⟩:∃ j,i=j+1:=⟨i-1,by omega⟩
   have S5:=Lib.hid (SS.out.keep HW5.out)
   obtain ⟨xs,hxs,hrow⟩:=HR5.out
   have hj:=hrow.2 j (by omega)
   unfold rowF at hj
   rw [if_pos (by omega)] at hj
   unfold cP Y6 at hj
   dsimp only at hj
   have hv4:=HVS.out j (by omega)
   have HL1:=Lib.hid (Q5 hxs _ hj.1)
   have HL2:=Lib.hid (Q5 hxs _ hj.2)
   have hgap:∀ v,(Qy n v&&!Ql ns j v)=true→1≤v∧v≤n:=fun v hv=>by unfold Qy at hv;simp at hv;omega
   have KF:=gFreeH (fun v=>Qy n v&&!Ql ns j v) odd (fun v hv=>by
    cases h:(Qy n v&&!Ql ns j v)
    ·rfl
    ·have:=hgap v h;omega)
   rw [free_eq h4n hgap odd] at KF
   have KA:=gAll n (by omega)
   have KMI:=Q2m (Qy n) (Ql ns j)
   have HEQ:=Lib.hid HR.out
   rw [Nat.add_sub_cancel] at HEQ
   have hfb:(Kh pairS (Yl odd) (inV n fun v=>Qy n v&&!Ql ns j v)).1≤4096∧(Kh pairS (Yl odd) (inV n fun v=>Qy n v&&!Ql ns j v)).2≤4096:=by
    rw [Uo]
    have h:=Wz n (fun v=>Qy n v&&!Ql ns j v)
    have h4:∀ m:Nat,m≤n→2^m≤2^12:=fun m h=>Nat.pow_le_pow_right (by omega) (by omega)
    split
    ·have:=h4 ((inV n fun v=>Qy n v&&!Ql ns j v).length-1) (by omega)
     exact ⟨by omega,by omega⟩
    ·have:=h4 ((inV n fun v=>Qy n v&&!Ql ns j v).length) (by omega)
     exact ⟨by omega,by omega⟩
   have KB:=gBoth (pV odd n ns j) (Kh pairS (Yl odd) (inV n fun v=>Qy n v&&!Ql ns j v)) hv4 hfb
   rw [←HEQ.out] at KB
   unfold cV Q2p at KB
   unfold Q2p Qt Jz at KF
   unfold Qt Jz at KMI KA
   have HSK:=Lib.hid (S5.out.sets.2 j (by omega))
   unfold Z6 at HSK
   have HOD:=Lib.hid S5.out.oddb
   have hgs:gn+1<g5:=h15
   generalize Kh pairS (Yl odd) (inV n fun v=>Qy n v&&!Ql ns j v)=fk at *
   generalize (loW fun v=>Qy n v&&!Ql ns j v)=u0 at *
   generalize (hiW fun v=>Qy n v&&!Ql ns j v)=u1 at *
   generalize pV odd n ns j=vk at *
   generalize loW (Qy n)=a0' at *
   generalize hiW (Qy n)=a1' at *
   generalize loW (Ql ns j)=b0' at *
   generalize hiW (Ql ns j)=b1' at *
   generalize loW odd=od0 at *
   generalize hiW odd=od1 at *
   have HKA:=Lib.hid KA
   have HKB:=Lib.hid KB
   have HKF:=Lib.hid KF
   have HKI:=Lib.hid KMI
   have R5:=Lib.hid S5.out.res
   have hgc:gc≠gn+1:=by have:=Q9 HC.out;omega
   have hgg:g≠gn+1:=by have:=HS.out.1;omega
   clear KA KB KF KMI hxs hrow hj HR5 hgap hfb hv4
   have e1:(((j+1:Nat):Int)-1)=(j:Int):=by omega
   have e2:((j:Int)+1-1)=(j:Int):=by omega
   go_upto_region 29 with fail
   refine Qo [0,0,0,0,0,0,0,0,0,0,0,0,0,0,0,0,0,0,0,0,0,2] [gn+1] _ (Fin.put Qu _ _) (Qr (Qi _) R5.out) (by kernel_rfl) (by kernel_rfl) ?_
   refine Qb 21 (by kernel_rfl) (by rfl) ?_
   apply Exists.intro
   refine ⟨fun z hz=>?_,?_⟩
   ·have f0:=Q6 hz HL1.out (by simp;omega)
    have f1:=Q6 hz HL2.out (by simp;omega)
    have f2:=Q6 hz (Q5 S5.out.ctr 2 rfl) (by simp;omega)
    have f2b:=Q6 hz (Q5 S5.out.ctr 0 rfl) (by simp;omega)
    have f5:=Q6 hz HSK.out.1 (by simp;omega)
    have f6:=Q6 hz HSK.out.2 (by simp;omega)
    have f7:=Q6 hz (Q5 HOD.out 0 rfl) (by simp)
    have f8:=Q6 hz (Q5 HOD.out 1 rfl) (by simp)
    clear hz
    simp only [List.take_succ_cons,List.take_zero]
    unfold Cx
    repeat (go_big_quiet_step (first | with_reducible exact HKA.out.at _ _ | with_reducible exact HKI.out.at _ _ | with_reducible exact HKF.out.at _ _ | with_reducible exact HKB.out.at _ _))
    exact wpQuiet_nil rfl
   simp only [List.drop_succ_cons,List.drop_zero]
   refine Qh (gn+1) #[.string (nb R.1),.string (nb R.2)] #[.string ⟨#[]⟩,.string ⟨#[]⟩] 127 (by rfl) (by rfl) (by rfl) (Blocks.put_same _ _ _) rfl (.inl (by simp)) (by kernel_rfl) (by simp [Value.oneCell']) ?_
   refine Qf ?_
   intro w6 hx6 hH
   have R6:=Lib.hid (hH (gn+1) _ (Blocks.put_same _ _ _))
   have hgs4:gn≤w4.heap.size:=by have:=SS.out.le;omega
   have HF:=Lib.hid (HP.out w6 ((HB4.out.trans ((HW5.out.below_of (b:=gn) (fun k hk=>by simp at hk;omega) hgs4).trans (hx6.below_of (b:=gn) (fun k hk=>by simp at hk;omega) (Nat.le_trans hgs4 HW5.out.size)))).mono hgn2))
   clear hx6 hH
   go_wp2_with fail
   refine bodyPost_ret (Qs (p:=4) rfl _ _ (gn+1) _ _ (0,0) _ rfl R6.out Tryz.underlying127 rfl Tryz.sizeCnt) rfl ?_
   exact HF.out
end Go.Proofs.YtcpehljpegfckaaGreatDoor
