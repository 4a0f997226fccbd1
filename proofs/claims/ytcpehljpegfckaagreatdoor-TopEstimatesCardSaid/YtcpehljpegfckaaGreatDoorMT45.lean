/- Texts of this claim,joined: EC4,DG1,DG2,DG3. -/
import Derived.Test.YtcpehljpegfckaaGreatDoorMT43
import Derived.Test.YtcpehljpegfckaaGreatDoorMT44
import Derived.Test.YtcpehljpegfckaaGreatDoorMT42
import Derived.Test.YtcpehljpegfckaaGreatDoorMT24
import Derived.Test.YtcpehljpegfckaaGreatDoorMT33
import Derived.Deep.DeepCutAuto
/- The parities of a seed are those of the plain law. -/
namespace Go.Proofs.YtcpehljpegfckaaGreatDoor
section
theorem Q4i {T s a:Nat} (hT:T≤8) (ha:a<T):Q0h (s*2^(8-T)) a=Q6g T s a:=by
 unfold Q0h Q6g
 rw [Nat.testBit_mul_two_pow,decide_eq_true (show 8-T≤7-a by omega),Bool.true_and,show 7-a-(8-T)=T-1-a by omega]
theorem Q4x (o:Nat→Bool) (a:Asg):∀ k,Kx o (List.range' 1 k) a=(List.range k).foldl (fun r v=>r != (o (v+1)&&a (v+1))) false
 | 0=>rfl
 | k+1=>by
  have e:List.range' 1 (k+1)=List.range' 1 k++[k+1]:=by
   rw [List.range'_1_concat,Nat.add_comm 1 k]
  rw [e,Q20,Q4x o a k,List.range_succ,List.foldl_append]
  simp [Kx]
theorem Q6a (n z i:Nat):inP n (Kv n z i):=fun v h=>by
 have h1:(decide (1≤v∧v<n+1)&&Q0h z (i*(n+1)+(v-1)))=true:=h
 have:=of_decide_eq_true (Bool.and_eq_true_iff.1 h1).1
 omega
theorem Q2k {f g:Bool→Nat→Bool}:∀ (vs:List Nat) (r:Bool),(∀ v∈vs,∀ r,f r v=g r v)→vs.foldl f r=vs.foldl g r
 | [],_,_=>rfl
 | v::vs,r,h=>by
  rw [List.foldl_cons,List.foldl_cons,h v (by simp),Q2k vs _ fun u hu=>h u (by simp [hu])]
theorem un_seed {n m s i:Nat} (hn:n≤128) (hT:m*(n+1)≤8) (hi:i<m) (p:Nat):(!unP (Y5 p) (Kv n (s*2^(8-m*(n+1))) i))=(parI n (m*(n+1)) s i p == Q6g (m*(n+1)) s (i*(n+1)+n)):=by
 have hmi:i*(n+1)+(n+1)≤m*(n+1):=by
  have:=Nat.mul_le_mul_right (n+1) (show i+1≤m by omega)
  rw [Nat.succ_mul] at this
  exact this
 have e1:Kx (Kv n (s*2^(8-m*(n+1))) i).vs (List.range' 1 128) (Y5 p)=parI n (m*(n+1)) s i p:=by
  rw [Q2l (Q6a n _ i) hn,Q4x]
  unfold parI
  refine Q2k _ _ fun v hv r=>?_
  have hv:=List.mem_range.1 hv
  have e2:(Kv n (s*2^(8-m*(n+1))) i).vs (v+1)=Q6g (m*(n+1)) s (i*(n+1)+v):=by
   show (decide (1≤v+1∧v+1<n+1)&&Q0h _ (i*(n+1)+(v+1-1)))=_
   rw [decide_eq_true (show 1≤v+1∧v+1<n+1 by omega),Bool.true_and,Nat.add_sub_cancel,Q4i hT (by omega)]
  rw [e2]
  rfl
 unfold unP
 rw [e1]
 have e3:(Kv n (s*2^(8-m*(n+1))) i).odd=Q6g (m*(n+1)) s (i*(n+1)+n):=Q4i hT (by omega)
 rw [e3]
 cases parI n (m*(n+1)) s i p<;>cases Q6g (m*(n+1)) s (i*(n+1)+n)<;>rfl
theorem cell_seed (f:Asg→Bool) {n m s:Nat} (hn:n≤128) (hT:m*(n+1)≤8):Om f n ((List.range m).map (Kv n (s*2^(8-m*(n+1)))))=Je (fun p=>f (Y5 p)&&Va n m s p) (2^n):=by
 unfold Om
 refine Zc fun p _=>?_
 congr 1
 unfold Va
 rw [List.all_map,Bool.eq_iff_iff,List.all_eq_true,List.all_eq_true]
 constructor
 ·intro h i hi
  have:=h i hi
  rw [←un_seed hn hT (List.mem_range.1 hi)]
  exact this
 ·intro h i hi
  have:=h i hi
  rw [←un_seed hn hT (List.mem_range.1 hi)] at this
  exact this
end
/- count.short: rows of numbers. -/
section
open Go.RowKit Go.Sort Num
theorem Tryz.infoNatX:(Tryz.prog.info? 38).map (fun i=>(i.zero,i.size,i.bytes))=some (some (.agg #[.string ⟨#[]⟩]),1,16):=by kernel_rfl
theorem Q7u (m:Nat) (hm:m≤65536) (x:World):(Instr.makeSlice 109 (.int .i64 (m:Int)) (.int .i64 (m:Int))).run Tryz.prog x = .ok (.slice (some ⟨x.heap.size,0,none⟩) m m) (x.alloc (.cells (madeCells #[.string ⟨#[]⟩] m) 38)):=by
 obtain ⟨i0,ii,iz0,iz1,iz2⟩:=info_parts Tryz.infoNatX
 have h:=run_makeSlice (P:=Tryz.prog) (w:=x) 109 38 i0 _ Tryz.underlying109 ii iz0 .i64 .i64 m m (by omega) (by omega) (by rw [iz1];omega) (by rw [iz2];omega) (by omega)
 rw [iz1,Nat.mul_one] at h
 exact h
def Y6 (v:Nat):Value:=.string (nb v)
theorem nb_zero:nb 0=⟨#[]⟩:=by decide
theorem Q9f {a:Nat} (h:a≤4096):Xd a≤4096:=Nat.le_trans (Qz (B:=2) (by omega) 13 a (show a<2^13 by omega)) (by omega)
theorem Qq {a:Nat} (h:a≤16777216):nl a≤1073741824:=Nat.le_trans (Ub (by omega)) (by omega)
theorem Q07 {k:Nat} (h:k≤12):2^k≤4096:=Nat.le_trans (Nat.pow_le_pow_right (by omega) h) (by omega)
theorem Q1s (o:Nat→Bool):(Jt o).length≤12:=by
 have h:=List.length_filter_le o (List.range' 1 12)
 rw [List.length_range'] at h
 exact h
theorem Q0i (n:Nat) (ns:List Nd) (i:Nat) (x:Nd):smN n ns i x 0=if x.k=0∨x.k=4 then 0 else 1:=by
 unfold smN
 rw [List.take_zero,List.foldl_nil,List.foldl_nil]
 by_cases h3:x.k=3
 ·rw [if_pos h3,if_neg (by omega)]
 ·rw [if_neg h3]
  by_cases h4:x.k=4
  ·rw [if_pos h4,if_pos (by omega)]
  ·rw [if_neg h4]
   by_cases h0:x.k=0
   ·rw [if_pos h0,if_pos (by omega)]
   ·rw [if_neg h0,if_neg (by omega)]
theorem Q2w {n:Nat} {ns:List Nd} {i t:Nat} {x:Nd} {k:Nat} (h:x.ins[t]?=some (k:Int)) (h34:x.k=3∨x.k=4) :
  smN n ns i x (t+1)=if x.k=3 then smN n ns i x t*nV n ns k else smN n ns i x t+nV n ns k*2^(Jt (Zn ns i k)).length:=by
 by_cases h3:x.k=3
 ·rw [if_pos h3,smN_and h3 h];rfl
 ·rw [if_neg h3,smN_or (h34.resolve_left h3) h];rfl
set_option maxHeartbeats 6400000 in
set_option maxRecDepth 100000 in
theorem gShort (n:Nat) (h12:n≤12) (ns:List Nd) (hN:Ze n ns) (hD:Zm ns) (hT:Xq ns) (hpos:0<ns.length) (hlen:ns.length≤65536) (p:Option Addr) (c:Nat) {N:Nat} (w:World) (hA:NetAt w.heap.size w p ns) (hTz:TzTab N w) (hNw:N≤w.heap.size) :
  Calls Tryz.prog 45 #[.agg #[.int .i64 n,.slice p ns.length c]] w fun e w'=>e = .returned (.bool true)∧Below w.heap.size w w':=by
 obtain ⟨Post,hPost⟩:∃ P:Ending→World→Prop,P=fun e w'=>e = .returned (.bool true)∧Below w.heap.size w w':=⟨_,rfl⟩
 rw [←hPost]
 have HP:=Lib.hid (show ∀ (w':World),Below w.heap.size w w'→Post (.returned (.bool true)) w' from fun w' h=>by rw [hPost];exact ⟨rfl,h⟩)
 have HA:=Lib.hid hA
 have HN:=Lib.hid hN
 have HTZ:=Lib.hid hTz
 obtain ⟨m,hm⟩:∃ m,m=ns.length:=⟨_,rfl⟩
 have HSM:=Lib.hid (fun i x (hx:ns[i]?=some x) t=>Q3u hN hx h12 hD hT t)
 have HAL:=Lib.hid (fun i x (hx:ns[i]?=some x)=>smN_all hN hx h12)
 have HVS:=Lib.hid (fun i (hi:i<m)=>Q6e hN (List.getElem?_eq_getElem (show i<ns.length by omega)) h12 hD hT)
 have HGF:=Lib.hid (fun i k (hi:i<m)=>gap_far (k:=k) hN h12 (show i<ns.length by omega))
 have HCV:=Lib.hid (fun (w1:World) (h:NetAt w1.heap.size w1 p ns)=>Q5h n (by omega) ns hN hpos hlen p c w1 h)
 rw [←hm] at hpos hlen HCV ⊢
 have HM:=Lib.hid hm
 clear hPost hA hN hm hD hT hTz
 go_enter Tryz.func45,Tryz.ntmps45
 go_upto_region 1 with fail
 refine Qg ?_
 intro w1 hw1
 have S1:=Lib.hid (show w1.heap[w.heap.size]?=some (.cells #[.int .i64 n,.slice p m c] 33 (0,0)) by rw [hw1];exact Qn _ _)
 have HL1:=Lib.hid (show Below w.heap.size w w1 by rw [hw1];exact Qe _ _)
 clear hw1
 have q0:=Q5 S1.out 0 rfl
 have q1:=Q5 S1.out 1 rfl
 go_wp2_with fail
 refine (HCV.out w1 ((HA.out.below HL1.out (Nat.le_refl _)).mono HL1.out.size)).mono ?_
 rintro e w2 ⟨g,rfl,hg3,hs3,hb3⟩
 have S2:=Lib.hid ((Q4 hb3).keep S1.out (by simp))
 have HL2:=Lib.hid (HL1.out.trans (hb3.mono HL1.out.size))
 have HS2:=Lib.hid hs3
 have hg2s:g<w2.heap.size:=hs3.1
 have hgw:w.heap.size<g:=by have:=Q9 S1.out;omega
 clear hb3 S1 HL1 HCV q0 q1 hs3 hg3
 have q0:=Q5 S2.out 0 rfl
 have q1:=Q5 S2.out 1 rfl
 have hmk:=Q7u m hlen w2
 go_upto_region 3 with fail
 refine Qg ?_
 intro w3 hw3
 obtain ⟨g2,hg2⟩:∃ g2,g2=w2.heap.size:=⟨_,rfl⟩
 have R3:=Lib.hid (show ∃ xs,w3.heap[g2]?=some (.cells xs 38 (0,0))∧Row1 xs m 0 fun j=>Y6 (nV n ns j) from ⟨_,by rw [hw3,hg2];exact Qn _ _,Row1.made m _ _⟩)
 have hb3:Below w2.heap.size w2 w3:=by rw [hw3];exact Qe _ _
 have HL3:=Lib.hid hb3
 have S3:=Lib.hid ((Q4 hb3).keep S2.out (by simp))
 have hg22:w2.heap.size≤g2:=by omega
 rw [←hg2]
 clear hw3 hg2 hb3 hmk q0 q1
 have q0:=Q5 S3.out 0 rfl
 have q1:=Q5 S3.out 1 rfl
 go_wp2_with fail
 go_loopw [19] (fun t19 wr=>∃ i:Nat,t19 = .int .i64 i∧i≤m∧Hid (∃ xs,wr.heap[g2]?=some (.cells xs 38 (0,0))∧Row1 xs m i fun j=>Y6 (nV n ns j))∧Hid (Below w2.heap.size w2 wr)) (fun t _=>m-(intOf t).toNat)
 case atStart=>exact ⟨0,rfl,Nat.zero_le _,R3.out,HL3.out⟩
 case round =>
  obtain ⟨i,rfl,hin,HR,HW⟩:=hrel
  obtain ⟨w4,hw4⟩:∃ w4,w4=wr:=⟨_,rfl⟩
  rw [←hw4] at HR HW ⊢
  clear hw4 R3 HL3 S3 q0 q1
  by_cases hlt:i<m
  ·have hd:decide (i<m)=true:=decide_eq_true hlt
   have hd2:decide ((i:Int)<(m:Int))=true:=decide_eq_true (by omega)
   obtain ⟨x,hx⟩:∃ x,ns[i]?=some x:=⟨_,List.getElem?_eq_getElem (by rw [←HM.out];exact hlt)⟩
   obtain ⟨b,o,q,cg,hb,hp,k1,k2,k3,hxs⟩:=HA.out i x hx
   have HOK:=Lib.hid (HN.out i x hx)
   have HWW:=Lib.hid (HL2.out.trans (HW.out.mono HL2.out.size))
   have x1:=Q8 HWW.out hb k1
   have x2:=Q8 HWW.out hb k2
   have x3:=Q8 HWW.out hb k3
   have HX:=Lib.hid hxs
   have HXX:=Lib.hid hx
   have C1:=Lib.hid x1
   have C2:=Lib.hid x2
   have C3:=Lib.hid x3
   subst hp
   clear hb k1 k2 k3 hxs hx x1 x2 x3
   go_upto_region 5 with fail
   refine wp_region_lit (J6 [0,0,0,3,0,2] [] B0 (Qi _) ?_)
   refine Qb 3 (by kernel_rfl) (by rfl) ?_
   apply Exists.intro
   refine ⟨fun z hz=>?_,?_⟩
   ·have f0:=Q6 hz C1.out (by simp)
    have f1:=Q6 hz C2.out (by simp)
    have f2:=Q6 hz C3.out (by simp)
    clear hz
    simp only [List.take_succ_cons,List.take_zero]
    unfold Cx
    repeat (go_big_quiet_step (fail))
    exact wpQuiet_nil rfl
   simp only [List.drop_succ_cons,List.drop_zero]
   refine Jm (.agg #[.int .i64 0,.int .i64 0,.slice none 0 0]) (by rfl) (fun x=>by kernel_rfl) (fun g4 q4 hn4=>?_)
   unfold Qk
   go_big_quiet_step (fail)
   refine wpQuiet_nil ?_
   refine Qb 1 (by kernel_rfl) (by rfl) ?_
   apply Exists.intro
   refine ⟨fun z hz=>?_,?_⟩
   ·clear hz
    simp only [List.take_succ_cons,List.take_zero]
    unfold Cx
    repeat (go_big_quiet_step (fail))
    exact wpQuiet_nil rfl
   simp only [List.drop_succ_cons,List.drop_zero]
   refine Qh g4 #[.int .i64 x.k,.int .i64 x.lit,.slice q x.ins.length cg] #[.int .i64 0,.int .i64 0,.slice none 0 0] 102 (by rfl) (by rfl) (by rfl) (Blocks.put_same _ _ _) rfl (.inr q4) (by kernel_rfl) (by simp [Value.oneCell']) ?_
   refine Qf ?_
   intro w5 hx5 hH
   have N5:=Lib.hid (hH g4 _ (Blocks.put_same _ _ _))
   have hb5:Below w4.heap.size w4 w5:=hx5.below_of (by simp) (Nat.le_refl _)
   have HW5:=Lib.hid (HW.out.trans (hb5.mono HW.out.size))
   have HR5:=Lib.hid (show ∃ xs,w5.heap[g2]?=some (.cells xs 38 (0,0))∧Row1 xs m i fun j=>Y6 (nV n ns j) from by
    obtain ⟨xs,h1,h2⟩:=HR.out
    exact ⟨xs,hx5.keep h1 (by simp),h2⟩)
   have hgl:g2<w4.heap.size:=by obtain ⟨xs,h1,h2⟩:=HR.out;exact Q9 h1
   have hfew:=HOK.out.few
   clear hx5 hH hb5 hn4 HR HW HWW C1 C2 C3
   have KO:=gOf 1 (by omega) w5
   unfold Qj at KO
   go_wp2_with fail
   refine KO.mono ?_
   rintro e w6 ⟨rfl,hb6⟩
   have N6:=Lib.hid ((Q4 hb6).keep N5.out (by simp))
   have HW6:=Lib.hid (HW5.out.trans (hb6.mono HW5.out.size))
   have HR6:=Lib.hid (show ∃ xs,w6.heap[g2]?=some (.cells xs 38 (0,0))∧Row1 xs m i fun j=>Y6 (nV n ns j) from by
    obtain ⟨xs,h1,h2⟩:=HR5.out
    exact ⟨xs,(Q4 hb6).keep h1 (by simp),h2⟩)
   have hgs:g4<w6.heap.size:=Q9 N6.out
   clear hb6 KO N5 HW5 HR5
   go_upto_region 7 with fail
   refine Qg ?_
   intro w7 hw7
   obtain ⟨g7,hg7⟩:∃ g7,g7=w6.heap.size:=⟨_,rfl⟩
   have A7:=Lib.hid (show w7.heap[g7]?=some (.cells #[.string (nb 1)] 38 (0,0)) by rw [hw7,hg7];exact Qn w6 _)
   have hb7:Below w6.heap.size w6 w7:=by rw [hw7];exact Qe w6 _
   rw [←hg7]
   have N7:=Lib.hid ((Q4 hb7).keep N6.out (by simp))
   have HW7:=Lib.hid (HW6.out.trans (hb7.mono HW6.out.size))
   have HR7:=Lib.hid (show ∃ xs,w7.heap[g2]?=some (.cells xs 38 (0,0))∧Row1 xs m i fun j=>Y6 (nV n ns j) from by
    obtain ⟨xs,h1,h2⟩:=HR6.out
    exact ⟨xs,(Q4 hb7).keep h1 (by simp),h2⟩)
   have h67:g2<g7∧g4<g7∧w2.heap.size≤g7:=by have:=HW6.out.size;have h:=Q9 (HR6.out.choose_spec.1);omega
   clear hw7 hb7 hg7 HR6 HW6 N6
   have HST:=Lib.hid (Q0i n ns i x)
   have y0:=Q5 N7.out 0 rfl
   have hcase:(x.k == 0)=true∨((x.k == 0)=false∧(x.k == 4)=true)∨((x.k == 0)=false∧(x.k == 4)=false):=by
    cases h0:x.k == 0<;>cases h4:x.k == 4<;>simp
   have f7:=Qd A7.out 0
   have a7:=Q5 A7.out 0 rfl
   have hgg:g7≠g4∧g7≠g2∧g4≠g2:=by omega
   rcases hcase with h0 | ⟨h0,h4⟩ | ⟨h0,h4⟩
   all_goals
    go_upto_region 9 with fail
    refine Qg ?_
    intro w8 hw8
    have T8:w8.heap[g7]?=some (.cells #[.string (nb (smN n ns i x 0))] 38 (0,0))∧Behind w7 [g7] w8:=by
     first
      | (rw [HST.out,if_pos (by first | exact .inl (by simpa using h0) | exact .inr (by simpa using h4)),hw8,Num.nb_zero];exact ⟨heap_setCell_same _ g7 0 _ _ _ A7.out,behindSet⟩)
      | (rw [HST.out,if_neg (by simp at h0 h4;omega),hw8];exact ⟨A7.out,Behind.refl _ _⟩)
    have A8:=Lib.hid T8.1
    have N8:=Lib.hid (T8.2.keep N7.out (by simp;omega))
    have R8:=Lib.hid (show ∃ xs,w8.heap[g2]?=some (.cells xs 38 (0,0))∧Row1 xs m i fun j=>Y6 (nV n ns j) from by
     obtain ⟨xs,h1,h2⟩:=HR7.out
     exact ⟨xs,T8.2.keep h1 (by simp;omega),h2⟩)
    have W8:=Lib.hid (HW7.out.trans (T8.2.below_of (b:=w2.heap.size) (fun k hk=>by simp at hk;omega) HW7.out.size))
    clear hw8 T8 A7 N7 HR7 HW7 y0 f7 a7
    have y2:=Q5 N8.out 2 rfl
    go_wp2_with fail
    go_loopw [37] (fun t37 wv=>∃ t:Nat,t37 = .int .i64 t∧t≤x.ins.length∧Hid (wv.heap[g7]?=some (.cells #[.string (nb (smN n ns i x t))] 38 (0,0)))∧Hid (wv.heap[g4]?=some (.cells #[.int .i64 x.k,.int .i64 x.lit,.slice q x.ins.length cg] 102 (0,0)))∧Hid (∃ xs,wv.heap[g2]?=some (.cells xs 38 (0,0))∧Row1 xs m i fun j=>Y6 (nV n ns j))∧Hid (Below w2.heap.size w2 wv)) (fun t _=>x.ins.length-(intOf t).toNat)
    case atStart=>exact ⟨0,rfl,Nat.zero_le _,A8.out,N8.out,R8.out,W8.out⟩
    case round =>
     obtain ⟨t,rfl,htn,HAt,HNt,HRt,HWt⟩:=hrel
     obtain ⟨w9,hw9⟩:∃ w9,w9=wr:=⟨_,rfl⟩
     rw [←hw9] at HAt HNt HRt HWt ⊢
     clear hw9 A8 N8 R8 W8 y2
     by_cases htl:t<x.ins.length
     ·have hdt:decide (t<x.ins.length)=true:=decide_eq_true htl
      have hdt2:decide ((t:Int)<(x.ins.length:Int))=true:=decide_eq_true (by omega)
      obtain ⟨k,hk⟩:∃ k,x.ins[t]?=some k:=⟨_,List.getElem?_eq_getElem htl⟩
      have hki:=HOK.out.ins k (List.mem_of_getElem? hk)
      obtain ⟨kn,rfl⟩:∃ kn:Nat,k=kn:=⟨k.toNat,by omega⟩
      have hkn:kn<i:=by simpa using hki.2
      have h34:x.k=3∨x.k=4:=by
       by_cases h3:x.k=3
       ·exact .inl h3
       ·by_cases h4:x.k=4
        ·exact .inr h4
        ·have:=HOK.out.leaf h3 h4
         rw [this] at htl;simp at htl
      obtain ⟨b1,o1,_,ea,kx⟩:=(HX.out.below (HL2.out.trans (HWt.out.mono HL2.out.size)) (Nat.le_refl _)) t _ (Jb x.ins t _ hk)
      subst ea
      have HSTEP:=Lib.hid (Q2w (n:=n) (ns:=ns) (i:=i) hk h34)
      have hs1:=HSM.out i x HXX.out t
      have hs2:=HSM.out i x HXX.out (t+1)
      have hs3:=HVS.out kn (by omega)
      have HRK:=Lib.hid (show w9.cell? ⟨g2,kn,none⟩=some (.string (nb (nV n ns kn))) from by
       obtain ⟨xs,h1,h2⟩:=HRt.out
       exact Q5 h1 kn (h2.2 kn hkn))
      have KL:=gLen (smN n ns i x (t+1)) (Nat.le_trans (Qq (by omega)) (by omega))
      have hbl:=Q9f hs2
      have z0:=Q5 HNt.out 0 rfl
      have hfre:=HGF.out i kn (by omega)
      by_cases h3:x.k=3
      ·have hk3:(x.k == 3)=true:=by rw [h3];rfl
       rw [if_pos h3] at HSTEP
       have KM:=Q64 (smN n ns i x t) (nV n ns kn) (Qq (by omega)) (Qq (by omega))
       rw [←HSTEP.out] at KM
       unfold Qj at KM KL
       obtain ⟨s2,hs2e⟩:∃ s2,s2=smN n ns i x (t+1):=⟨_,rfl⟩
       rw [←hs2e] at KM KL hbl hs2
       have HS2E:=Lib.hid hs2e
       clear hs2e HSTEP
       generalize smN n ns i x t=s1 at *
       generalize nV n ns kn=vk at *
       have KKM:=Lib.hid KM
       have HKL:=Lib.hid KL
       have H3:=Lib.hid h3
       clear KM KL hk hki h3 h34
       go_upto_region 13 with fail
       refine Qo [1,1,1,1,1,1,2] [g7] _ (Fin.put Qu _ _) (Qr (Qi _) HAt.out) (by kernel_rfl) (by kernel_rfl) ?_
       refine Jq 6 w9 (Behind.refl _ _) (Qr (Qi _) HAt.out) (by kernel_rfl) (by rfl) ?_
       apply Exists.intro
       refine ⟨fun z hz hH=>?_,?_⟩
       ·have g0:=Jg (hH g7 _ (Blocks.put_same _ _ _)) 0 rfl
        have g1:=Q6 hz HRK.out (by simp;omega)
        clear hz hH
        simp only [List.take_succ_cons,List.take_zero]
        unfold Cx
        repeat (go_big_quiet_step (first | with_reducible exact KKM.out.at _ _))
        exact wpQuiet_nil rfl
       simp only [List.drop_succ_cons,List.drop_zero]
       refine Qh g7 #[.string (nb s2)] #[.string (nb s1)] 38 (by rfl) (by rfl) (by rfl) (Blocks.put_same _ _ _) rfl (.inl (by simp)) (by kernel_rfl) (by simp [Value.oneCell']) ?_
       refine Qf ?_
       intro w11 hx11 hH
       have A11:=Lib.hid (hH g7 _ (Blocks.put_same _ _ _))
       have N11:=Lib.hid (hx11.keep HNt.out (by simp;omega))
       have HR11:=Lib.hid (show ∃ xs,w11.heap[g2]?=some (.cells xs 38 (0,0))∧Row1 xs m i fun j=>Y6 (nV n ns j) from by
        obtain ⟨xs,h1,h2⟩:=HRt.out
        exact ⟨xs,hx11.keep h1 (by simp;omega),h2⟩)
       have HW11:=Lib.hid (HWt.out.trans (hx11.below_of (b:=w2.heap.size) (fun k hk=>by simp at hk;omega) HWt.out.size))
       have KL2:=HKL.out w11
       clear hx11 hH HAt HNt HRt HWt HRK KKM z0 HKL
       have a0:=Q5 A11.out 0 rfl
       go_wp2_with fail
       refine KL2.mono ?_
       rintro e w12 ⟨rfl,hb12⟩
       have A12:=Lib.hid ((Q4 hb12).keep A11.out (by simp))
       have N12:=Lib.hid ((Q4 hb12).keep N11.out (by simp))
       have HR12:=Lib.hid (show ∃ xs,w12.heap[g2]?=some (.cells xs 38 (0,0))∧Row1 xs m i fun j=>Y6 (nV n ns j) from by
        obtain ⟨xs,h1,h2⟩:=HR11.out
        exact ⟨xs,(Q4 hb12).keep h1 (by simp),h2⟩)
       have HW12:=Lib.hid (HW11.out.trans (hb12.mono HW11.out.size))
       clear hb12 KL2 A11 N11 HR11 HW11 a0
       have hbd:decide ((4096:Int)<((Xd s2:Nat):Int))=false:=decide_eq_false (by omega)
       have hbd2:decide (4096<Xd s2)=false:=decide_eq_false (by omega)
       generalize Xd s2=bl at *
       go_wp2_with fail
       go_roundw
       case rel=>exact ⟨t+1,by go_num,by omega,by rw [←HS2E.out];exact A12.out,N12.out,HR12.out,HW12.out⟩
       case measure=>simp [intOf];omega
      ·have h4:x.k=4:=h34.resolve_left h3
       have hk3:(x.k == 3)=false:=J7 h3
       rw [if_neg h3] at HSTEP
       have hL:=Q1s (Zn ns i kn)
       have hp:=Q07 hL
       have hmul:nV n ns kn*2^(Jt (Zn ns i kn)).length≤16777216:=Nat.le_trans (Nat.mul_le_mul hs3 hp) (by omega)
       have KP:=gPow (Jt (Zn ns i kn)).length (by omega)
       have KM:=Q64 (nV n ns kn) (2^(Jt (Zn ns i kn)).length) (Qq (by omega)) (Qq (by omega))
       have KA:=Q2n (smN n ns i x t) (nV n ns kn*2^(Jt (Zn ns i kn)).length) (Qq (by omega)) (Qq (by omega))
       rw [←HSTEP.out] at KA
       have KMI:=Q2m (Ql ns i) (Ql ns kn)
       have KLI:=Lib.hid hfre
       have HSK:=Lib.hid (show ∀ j,j<m→∀ wz,Below w2.heap.size w2 wz→wz.cell? ⟨g,j*2,none⟩=some (.int .u64 (loW (Ql ns j):Nat))∧wz.cell? ⟨g,j*2+1,none⟩=some (.int .u64 (hiW (Ql ns j):Nat)) from fun j hj wz hz=>(HS2.out.below hz (Nat.le_refl _)).2 j hj)
       have R1:=Lib.hid (HSK.out i hlt w9 HWt.out)
       have R2:=Lib.hid (HSK.out kn (by omega) w9 HWt.out)
       unfold Qj at KM KL KA KP
       unfold Qt Jz at KMI
       obtain ⟨s2,hs2e⟩:∃ s2,s2=smN n ns i x (t+1):=⟨_,rfl⟩
       rw [←hs2e] at KA KL hbl hs2
       have HS2E:=Lib.hid hs2e
       obtain ⟨u0,hu0⟩:∃ u0,u0=loW (Zn ns i kn):=⟨_,rfl⟩
       obtain ⟨u1,hu1⟩:∃ u1,u1=hiW (Zn ns i kn):=⟨_,rfl⟩
       rw [show (loW fun v=>Ql ns i v&&!Ql ns kn v)=u0 from hu0.symm,show (hiW fun v=>Ql ns i v&&!Ql ns kn v)=u1 from hu1.symm] at KMI
       have HU:=Lib.hid (show (Value.agg #[.int .u64 (u0:Nat),.int .u64 (u1:Nat)])=Qt (Zn ns i kn) by rw [hu0,hu1];rfl)
       clear hs2e HSTEP hu0 hu1
       generalize smN n ns i x t=s1 at *
       generalize nV n ns kn=vk at *
       generalize loW (Ql ns i)=a0' at *
       generalize hiW (Ql ns i)=a1' at *
       generalize loW (Ql ns kn)=b0' at *
       generalize hiW (Ql ns kn)=b1' at *
       have KKM:=Lib.hid KM
       have KKP:=Lib.hid KP
       have KKA:=Lib.hid KA
       have KKI:=Lib.hid KMI
       have HKL:=Lib.hid KL
       clear KM KL KP KA KMI hk hki h3 h4 h34
       go_upto_region 14 with fail
       refine Qo [1,1,1,1,1,1,1,1,1,1,1,1,1,1,5,0,0,0,0,2] [g7] _ (Fin.put Qu _ _) (Qr (Qi _) HAt.out) (by kernel_rfl) (by kernel_rfl) ?_
       refine Jq 14 w9 (Behind.refl _ _) (Qr (Qi _) HAt.out) (by kernel_rfl) (by rfl) ?_
       apply Exists.intro
       refine ⟨fun z hz hH=>?_,?_⟩
       ·have g0:=Jg (hH g7 _ (Blocks.put_same _ _ _)) 0 rfl
        have g1:=Q6 hz HRK.out (by simp;omega)
        have g3:=Q6 hz R1.out.1 (by simp;omega)
        have g4:=Q6 hz R1.out.2 (by simp;omega)
        have g5:=Q6 hz R2.out.1 (by simp;omega)
        have g6:=Q6 hz R2.out.2 (by simp;omega)
        clear hz hH
        simp only [List.take_succ_cons,List.take_zero]
        unfold Cx
        repeat (go_big_quiet_step (first | with_reducible exact KKI.out.at _ _))
        exact wpQuiet_nil rfl
       simp only [List.drop_succ_cons,List.drop_zero]
       refine lex_list (Zn ns i kn) KLI.out (N:=N) (by rfl) (by rw [←HU.out];rfl) (HTZ.out.on ((HL2.out.trans (HWt.out.mono HL2.out.size)).mono hNw) (Nat.le_refl _)) (by have:=HL2.out.size;have:=HWt.out.size;omega) (fun g hg=>by simp at hg;have:=HL2.out.size;omega) (fun pl cl gl obl hgl2 hnl=>?_)
       unfold Qk
       go_big_quiet_step (fail)
       refine wpQuiet_nil ?_
       refine Qb 4 (by kernel_rfl) (by rfl) ?_
       apply Exists.intro
       refine ⟨fun z hz=>?_,?_⟩
       ·clear hz
        simp only [List.take_succ_cons,List.take_zero]
        unfold Cx
        repeat (go_big_quiet_step (first | with_reducible exact KKP.out.at _ _ | with_reducible exact KKM.out.at _ _ | with_reducible exact KKA.out.at _ _))
        exact wpQuiet_nil rfl
       simp only [List.drop_succ_cons,List.drop_zero]
       refine Qh g7 #[.string (nb s2)] #[.string (nb s1)] 38 (by rfl) (by rfl) (by rfl) ((Blocks.put_other _ _ (O6 hnl).symm).trans (Blocks.put_same _ _ _)) rfl (.inl (by simp)) (by kernel_rfl) (by simp [Value.oneCell']) ?_
       refine Qf ?_
       intro w11 hx11 hH
       have A11:=Lib.hid (hH g7 _ (Blocks.put_same _ _ _))
       have N11:=Lib.hid (hx11.keep HNt.out (by simp;omega))
       have HR11:=Lib.hid (show ∃ xs,w11.heap[g2]?=some (.cells xs 38 (0,0))∧Row1 xs m i fun j=>Y6 (nV n ns j) from by
        obtain ⟨xs,h1,h2⟩:=HRt.out
        exact ⟨xs,hx11.keep h1 (by simp;omega),h2⟩)
       have HW11:=Lib.hid (HWt.out.trans (hx11.below_of (b:=w2.heap.size) (fun k hk=>by simp at hk;omega) HWt.out.size))
       have KL2:=HKL.out w11
       clear hx11 hH HAt HNt HRt HWt HRK KKM KKA KKP KKI z0 HKL HSK R1 R2 HU KLI hgl2 hnl
       have a0:=Q5 A11.out 0 rfl
       go_wp2_with fail
       refine KL2.mono ?_
       rintro e w12 ⟨rfl,hb12⟩
       have A12:=Lib.hid ((Q4 hb12).keep A11.out (by simp))
       have N12:=Lib.hid ((Q4 hb12).keep N11.out (by simp))
       have HR12:=Lib.hid (show ∃ xs,w12.heap[g2]?=some (.cells xs 38 (0,0))∧Row1 xs m i fun j=>Y6 (nV n ns j) from by
        obtain ⟨xs,h1,h2⟩:=HR11.out
        exact ⟨xs,(Q4 hb12).keep h1 (by simp),h2⟩)
       have HW12:=Lib.hid (HW11.out.trans (hb12.mono HW11.out.size))
       clear hb12 KL2 A11 N11 HR11 HW11 a0
       have hbd:decide ((4096:Int)<((Xd s2:Nat):Int))=false:=decide_eq_false (by omega)
       have hbd2:decide (4096<Xd s2)=false:=decide_eq_false (by omega)
       generalize Xd s2=bl at *
       go_wp2_with fail
       go_roundw
       case rel=>exact ⟨t+1,by go_num,by omega,by rw [←HS2E.out];exact A12.out,N12.out,HR12.out,HW12.out⟩
       case measure=>simp [intOf];omega
     ·obtain rfl:t=x.ins.length:=by omega
      have hdt:decide (x.ins.length<x.ins.length)=false:=decide_eq_false (by omega)
      have hdt2:decide ((x.ins.length:Int)<(x.ins.length:Int))=false:=decide_eq_false (by omega)
      rw [HAL.out i x HXX.out] at HAt
      obtain ⟨xs,hxs,hrow⟩:=HRt.out
      have hsz:xs.size=m:=hrow.1
      have HXS:=Lib.hid hxs
      have HRW:=Lib.hid hrow
      have HVI:=Lib.hid (show ∃ v,v=nV n ns i from ⟨_,rfl⟩)
      obtain ⟨v,hv⟩:=HVI.out
      rw [←hv] at HAt
      have HV:=Lib.hid hv
      have a0:=Q5 HAt.out 0 rfl
      have f0:=Qd hxs i
      obtain ⟨xi,hxi⟩:∃ xi,xs[i]?=some xi:=⟨_,Array.getElem?_eq_getElem (by omega)⟩
      have e0:=Q5 hxs i hxi
      clear hv hxs hrow HVI HRt HNt hsz hxi
      go_wp2_with fail
      have hb:Behind w9 [g2] (w9.setCell ⟨g2,i,none⟩ (.string (nb v))):=behindSet
      have R12:=Lib.hid (show ∃ xs,(w9.setCell ⟨g2,i,none⟩ (.string (nb v))).heap[g2]?=some (.cells xs 38 (0,0))∧Row1 xs m (i+1) fun j=>Y6 (nV n ns j) from
       ⟨_,heap_setCell_same _ g2 i _ _ _ HXS.out,(HRW.out.put hlt (i2:=i+1) (fun j hj=>by omega) _).congr fun j hj=>by
        by_cases e:j=i
        ·rw [if_pos e,HV.out,e];rfl
        ·rw [if_neg e]⟩)
      have W12:=Lib.hid (HWt.out.trans (hb.below_of (b:=w2.heap.size) (fun k hk=>by simp at hk;omega) HWt.out.size))
      clear hb
      go_roundw
      case rel=>exact ⟨i+1,by go_num,by omega,R12.out,W12.out⟩
      case measure=>simp [intOf];omega
  ·obtain rfl:i=m:=by omega
   have hd:decide (i<i)=false:=decide_eq_false (by omega)
   have hd2:decide ((i:Int)<(i:Int))=false:=decide_eq_false (by omega)
   have HF:=Lib.hid (HP.out w4 (HL2.out.trans (HW.out.mono HL2.out.size)))
   go_wp2_with fail
   exact HF.out
end
/- count.numbers: how natural numbers are summed. -/
section
open Go.RowKit Go.Sort Num
theorem Tryz.sizeNatE:(Tryz.prog.info? 38).map (·.size)=some 1:=by kernel_rfl
theorem Tryz.sizeRing:(Tryz.prog.info? 69).map (·.size)=some 6:=by kernel_rfl
set_option maxHeartbeats 1600000 in
set_option maxRecDepth 100000 in
theorem gWeight (l:Int) (hl:l≠0) (b1:Nat) (w:World) (hb:w.cell? ⟨b1,0,none⟩=some (.int .i64 0)):Calls Tryz.prog 51 #[.int .i64 l,.pointer (some ⟨b1,0,none⟩)] w fun e w'=>e = .returned (Qj 1)∧Below w.heap.size w w':=by
 obtain ⟨Post,hPost⟩:∃ P:Ending→World→Prop,P=fun e w'=>e = .returned (Qj 1)∧Below w.heap.size w w':=⟨_,rfl⟩
 rw [←hPost]
 have HP:=Lib.hid hPost
 have hne:(l == 0)=false:=J7 hl
 have KO:=Lib.hid (fun w=>gOf 1 (by omega) w)
 clear hPost hl
 go_enter Tryz.func51,Tryz.ntmps51
 go_upto_region 1 with fail
 refine Qg ?_
 intro w1 hw1
 have S1:=Lib.hid (show w1.heap[w.heap.size]?=some (.cells #[.string ⟨#[]⟩] 38 (0,0)) by rw [hw1];exact Qn _ _)
 have HL1:=Lib.hid (show Below w.heap.size w w1 by rw [hw1];exact Qe _ _)
 have q0:w1.cell? ⟨b1,0,none⟩=some (.int .i64 0):=by
  rw [hw1]
  exact Q8 (Qe _ _) (by
   rcases Nat.lt_or_ge b1 w.heap.size with h | h
   ·exact h
   ·rw [World.cell?,Array.getElem?_eq_none (by simpa using h)] at hb;cases hb) hb
 clear hw1 hb
 go_wp2_with fail
 have K:=KO.out w1
 refine K.mono ?_
 rintro e w2 ⟨rfl,hb2⟩
 have S2:=Lib.hid ((Q4 hb2).keep S1.out (by simp))
 have HL2:=Lib.hid (HL1.out.trans (hb2.mono HL1.out.size))
 clear hb2 S1 HL1 q0 K KO
 have z0:=Q5 S2.out 0 rfl
 have f0:=Qd S2.out 0
 unfold Qj at *
 go_wp2_with fail
 refine bodyPost_ret (Qs (p:=3) rfl _ _ w.heap.size _ _ (0,0) _ rfl (heap_setCell_same _ _ 0 _ _ _ S2.out) Tryz.underlying38 rfl Tryz.sizeNatE) rfl ?_
 rw [HP.out]
 exact ⟨rfl,HL2.out.trans ((Below.refl _ w2).setCell (p:=⟨w.heap.size,0,none⟩) (Nat.le_refl _) _)⟩
set_option maxHeartbeats 1600000 in
set_option maxRecDepth 100000 in
theorem gZeroN:Gives 52 #[] (Qj 0):=by
 intro w
 go_enter Tryz.func52,Tryz.ntmps52
 go_wp2_with fail
 refine bodyPost_ret (Qs (p:=0) rfl _ _ w.heap.size _ _ (0,0) _ rfl (Qn _ _) Tryz.underlying38 rfl Tryz.sizeNatE) rfl ?_
 exact ⟨by unfold Qj;rw [Num.nb_zero];rfl,Qe _ _⟩
set_option maxHeartbeats 1600000 in
set_option maxRecDepth 100000 in
theorem gOneN:Gives 53 #[] (Qj 1):=by
 intro w
 obtain ⟨Post,hPost⟩:∃ P:Ending→World→Prop,P=fun e w'=>e = .returned (Qj 1)∧Below w.heap.size w w':=⟨_,rfl⟩
 rw [←hPost]
 have HP:=Lib.hid hPost
 have KO:=Lib.hid (fun w=>gOf 1 (by omega) w)
 clear hPost
 go_enter Tryz.func53,Tryz.ntmps53
 go_upto_region 1 with fail
 refine Qg ?_
 intro w1 hw1
 have S1:=Lib.hid (show w1.heap[w.heap.size]?=some (.cells #[.string ⟨#[]⟩] 38 (0,0)) by rw [hw1];exact Qn _ _)
 have HL1:=Lib.hid (show Below w.heap.size w w1 by rw [hw1];exact Qe _ _)
 clear hw1
 go_wp2_with fail
 have K:=KO.out w1
 refine K.mono ?_
 rintro e w2 ⟨rfl,hb2⟩
 have S2:=Lib.hid ((Q4 hb2).keep S1.out (by simp))
 have HL2:=Lib.hid (HL1.out.trans (hb2.mono HL1.out.size))
 clear hb2 S1 HL1 K KO
 have z0:=Q5 S2.out 0 rfl
 have f0:=Qd S2.out 0
 unfold Qj at *
 go_wp2_with fail
 refine bodyPost_ret (Qs (p:=0) rfl _ _ w.heap.size _ _ (0,0) _ rfl (heap_setCell_same _ _ 0 _ _ _ S2.out) Tryz.underlying38 rfl Tryz.sizeNatE) rfl ?_
 rw [HP.out]
 exact ⟨rfl,HL2.out.trans ((Below.refl _ w2).setCell (p:=⟨w.heap.size,0,none⟩) (Nat.le_refl _) _)⟩
def K7 (b1:Nat):Value:=.func (.func 51) #[] #[.pointer (some ⟨b1,0,none⟩)]
theorem Jd {w:World} {b o:Nat} {v:Value} (h:w.cell? ⟨b,o,none⟩=some v):b<w.heap.size:=by
 rcases Nat.lt_or_ge b w.heap.size with h1 | h1
 ·exact h1
 ·rw [World.cell?,Array.getElem?_eq_none (by simpa using h1)] at h;cases h
set_option maxHeartbeats 1600000 in
set_option maxRecDepth 100000 in
theorem gBothN (v:Nat) (hv:1≤v) (hv2:v≤128) (b1 b3:Nat) (w:World) (h1:w.cell? ⟨b1,0,none⟩=some (.int .i64 0)) (h3:w.cell? ⟨b3,0,none⟩=some (K7 b1)) :
  Calls Tryz.prog 55 #[.int .i64 (v:Int),.pointer (some ⟨b3,0,none⟩)] w fun e w'=>e = .returned (Qj 2)∧Below w.heap.size w w':=by
 obtain ⟨Post,hPost⟩:∃ P:Ending→World→Prop,P=fun e w'=>e = .returned (Qj 2)∧Below w.heap.size w w':=⟨_,rfl⟩
 rw [←hPost]
 have HP:=Lib.hid hPost
 have KW:∀ l:Int,l≠0→GivesFrom w 51 #[.int .i64 l,.pointer (some ⟨b1,0,none⟩)] (Qj 1):=fun l hl x hx=>gWeight l hl b1 x (Q8 hx (Jd h1) h1)
 have KA:=Q2n 1 1 (Qq (by omega)) (Qq (by omega))
 have K1:=KW (v:Int) (by omega)
 have K2:=KW (-(v:Int)) (by omega)
 unfold Qj at *
 have HKA:=Lib.hid KA
 have HK1:=Lib.hid K1
 have HK2:=Lib.hid K2
 have H3:=Lib.hid h3
 have hw:-(v:Int) = -(v:Int):=rfl
 clear hPost KW KA K1 K2 h1 h3 hw
 unfold K7 at *
 go_enter Tryz.func55,Tryz.ntmps55
 go_upto_region 1 with fail
 refine Qg ?_
 intro w1 hw1
 have S1:=Lib.hid (show w1.heap[w.heap.size]?=some (.cells #[.string ⟨#[]⟩] 38 (0,0)) by rw [hw1];exact Qn _ _)
 have HL1:=Lib.hid (show Below w.heap.size w w1 by rw [hw1];exact Qe _ _)
 clear hw1
 refine Qo [0,0,0,0,0,0,0,0,2] [w.heap.size] _ (Fin.put Qu _ _) (Qr (Qi _) S1.out) (by kernel_rfl) (by kernel_rfl) ?_
 refine Qb 8 (by kernel_rfl) (by rfl) ?_
 apply Exists.intro
 refine ⟨fun z hz=>?_,?_⟩
 ·have hbz:Below w.heap.size w z:=HL1.out.trans (hz.below_of (b:=w.heap.size) (fun k hk=>by simp at hk;omega) HL1.out.size)
  have g0:=fun pp=>Kl hbz H3.out (Jd H3.out) pp
  have J1:=fun pp=>HK1.out.at2 hbz pp
  have J2:=fun pp=>HK2.out.at2 hbz pp
  clear hz
  simp only [List.take_succ_cons,List.take_zero]
  unfold Cx
  repeat (go_big_quiet_step (first | with_reducible exact J1 _ | with_reducible exact J2 _ | with_reducible exact HKA.out.at _ _))
  exact wpQuiet_nil rfl
 simp only [List.drop_succ_cons,List.drop_zero]
 refine Qh w.heap.size #[.string (nb 2)] #[.string ⟨#[]⟩] 38 (by rfl) (by rfl) (by rfl) (Blocks.put_same _ _ _) rfl (.inl (by simp)) (by kernel_rfl) (by simp [Value.oneCell']) ?_
 refine Qf ?_
 intro w2 hx2 hH
 have S2:=Lib.hid (hH w.heap.size _ (Blocks.put_same _ _ _))
 have HL2:=Lib.hid (HL1.out.trans (hx2.below_of (b:=w.heap.size) (fun k hk=>by simp at hk;omega) HL1.out.size))
 clear hx2 hH
 go_wp2_with fail
 refine bodyPost_ret (Qs (p:=3) rfl _ _ w.heap.size _ _ (0,0) _ rfl S2.out Tryz.underlying38 rfl Tryz.sizeNatE) rfl ?_
 rw [HP.out]
 exact ⟨rfl,HL2.out⟩
def W6 (b1 b3:Nat):Array Value:=#[.func (.func 52) #[] #[],.func (.func 53) #[] #[],.func (.func 54) #[] #[],.func (.func 28) #[] #[],K7 b1,.func (.func 55) #[] #[.pointer (some ⟨b3,0,none⟩)]]
set_option maxHeartbeats 1600000 in
set_option maxRecDepth 100000 in
theorem gNumbers (w:World):Calls Tryz.prog 23 #[.int .i64 0] w fun e w'=>∃ b1 b3,e = .returned (.agg (W6 b1 b3))∧w'.cell? ⟨b1,0,none⟩=some (.int .i64 0)∧w'.cell? ⟨b3,0,none⟩=some (K7 b1)∧w.heap.size≤b1∧w.heap.size≤b3∧Below w.heap.size w w':=by
 obtain ⟨Post,hPost⟩:∃ P:Ending→World→Prop,P=fun e w'=>∃ b1 b3,e = .returned (.agg (W6 b1 b3))∧w'.cell? ⟨b1,0,none⟩=some (.int .i64 0)∧w'.cell? ⟨b3,0,none⟩=some (K7 b1)∧w.heap.size≤b1∧w.heap.size≤b3∧Below w.heap.size w w':=⟨_,rfl⟩
 rw [←hPost]
 have HP:=Lib.hid (show ∀ w' b1 b3,w'.cell? ⟨b1,0,none⟩=some (.int .i64 0)→w'.cell? ⟨b3,0,none⟩=some (K7 b1)→w.heap.size≤b1→w.heap.size≤b3→Below w.heap.size w w'→Post (.returned (.agg (W6 b1 b3))) w' from fun w' b1 b3 h1 h2 h3 h4 h5=>by rw [hPost];exact ⟨b1,b3,rfl,h1,h2,h3,h4,h5⟩)
 clear hPost
 go_enter Tryz.func23,Tryz.ntmps23
 go_upto_region 1 with fail
 refine Qg ?_
 intro w1 hw1
 have S1:=Lib.hid (show w1.heap[w.heap.size]?=some (.cells #[.int .i64 0] 3 (0,0)) by rw [hw1];exact Yp _ _ _)
 have R1:=Lib.hid (show w1.heap[w.heap.size+1]?=some (.cells #[.nilFunc,.nilFunc,.nilFunc,.nilFunc,.nilFunc,.nilFunc] 69 (0,0)) by rw [hw1];exact Yn _ _ _)
 have HL1:=Lib.hid (show Below w.heap.size w w1 by rw [hw1];exact Jy _ _ _)
 clear hw1
 refine wp_region_lit (J6 [0,3,2] [] B0 (Qi _) ?_)
 refine Qb 1 (by kernel_rfl) (by rfl) ?_
 apply Exists.intro
 refine ⟨fun z hz=>?_,?_⟩
 ·clear hz
  simp only [List.take_succ_cons,List.take_zero]
  unfold Cx
  repeat (go_big_quiet_step (fail))
  exact wpQuiet_nil rfl
 simp only [List.drop_succ_cons,List.drop_zero]
 refine Jm .nilFunc (by rfl) (fun x=>by kernel_rfl) (fun g4 q4 hn4=>?_)
 unfold Qk
 go_big_quiet_step (fail)
 refine wpQuiet_nil ?_
 refine Q3j g4 (K7 w.heap.size) .nilFunc 67 (by rfl) (by rfl) (by rfl) (Blocks.put_same _ _ _) rfl (.inr q4) (by kernel_rfl) rfl ?_
 refine Qf ?_
 intro w2 hx2 hH
 have hb2:Below w1.heap.size w1 w2:=hx2.below_of (by simp) (Nat.le_refl _)
 have F2:=Lib.hid (hH g4 _ (Blocks.put_same _ _ _))
 have S2:=Lib.hid ((Q4 hb2).keep S1.out (by simp))
 have R2:=Lib.hid ((Q4 hb2).keep R1.out (by simp))
 have HL2:=Lib.hid (HL1.out.trans (hb2.mono HL1.out.size))
 have hlt:w.heap.size+1<g4:=Nat.lt_of_lt_of_le (Q9 R1.out) q4
 clear hx2 hH hb2 S1 R1
 have f0:=Q5 F2.out 0 rfl
 unfold K7 at f0
 go_upto_region 2 with fail
 refine wp_region_lit (J6 [0,0,0,2] [w.heap.size+1] _ (Qr (Qi _) R2.out) ?_)
 refine Qb 3 (by kernel_rfl) (by rfl) ?_
 apply Exists.intro
 refine ⟨fun z hz=>?_,?_⟩
 ·have g0:=Q6 hz f0 (by simp;omega)
  clear hz
  simp only [List.take_succ_cons,List.take_zero]
  unfold Cx
  repeat (go_big_quiet_step (fail))
  exact wpQuiet_nil rfl
 simp only [List.drop_succ_cons,List.drop_zero]
 refine Qh (w.heap.size+1) (W6 w.heap.size g4) #[.nilFunc,.nilFunc,.nilFunc,.nilFunc,.nilFunc,.nilFunc] 69 (by rfl) (by rfl) (by rfl) (Blocks.put_same _ _ _) rfl (.inl (by simp)) (by kernel_rfl) (by simp [W6,K7,Value.oneCell']) ?_
 refine Qf ?_
 intro w3 hx3 hH
 have R3:=Lib.hid (hH (w.heap.size+1) _ (Blocks.put_same _ _ _))
 have HF:=Lib.hid (HP.out w3 w.heap.size g4 (Q5 (hx3.keep S2.out (by simp)) 0 rfl) (Q5 (hx3.keep F2.out (by simp;omega)) 0 rfl) (Nat.le_refl _) (by omega) (HL2.out.trans (hx3.below_of (b:=w.heap.size) (fun k hk=>by simp at hk;omega) HL2.out.size)))
 clear hx3 hH
 go_wp2_with fail
 refine bodyPost_ret (Qs (p:=2) rfl _ _ (w.heap.size+1) _ _ (0,0) _ rfl R3.out Tryz.underlying69 rfl Tryz.sizeRing) rfl ?_
 exact HF.out
end
/- count.sum's closure: the variables that are left out. -/
section
open Go.RowKit Go.Sort Num
def ListAt (lo:Nat) (w:World) (p:Option Addr) (l:List Nat):Prop:=∀ (i:Nat) (v:Value),(W1 l)[i]?=some v→∃ g:Nat,p=some ⟨g,0,none⟩∧lo≤g∧g<w.heap.size∧w.cell? ⟨g,i,none⟩=some v
theorem ListAt.keep {lo:Nat} {w x:World} {Wr:List Nat} {p:Option Addr} {l:List Nat} (h:ListAt lo w p l) (hx:Behind w Wr x) (hW:∀ g∈Wr,g<lo):ListAt lo x p l:=fun i v hv=>by
 obtain ⟨g,h1,h2,h3,h4⟩:=h i v hv
 refine ⟨g,h1,h2,Nat.lt_of_lt_of_le h3 hx.size,?_⟩
 rw [←h4]
 exact Kb (hx.block g h3 (fun hm=>by have:=hW g hm;omega))
def ListIn (lo:Nat) (B:Blocks) (p:Option Addr) (l:List Nat):Prop:=∀ (i:Nat) (v:Value),(W1 l)[i]?=some v→∃ (g:Nat) (cs:Array Value) (T:TypeId),p=some ⟨g,0,none⟩∧lo≤g∧B g=some (.cells cs T (0,0))∧cs[i]?=some v
theorem ListIn.at {lo:Nat} {B:Blocks} {p:Option Addr} {l:List Nat} {x:World} (h:ListIn lo B p l) (hB:Has B x):ListAt lo x p l:=fun i v hv=>by
 obtain ⟨g,cs,T,hp,hlo,hb,hc⟩:=h i v hv
 exact ⟨g,hp,hlo,Q9 (hB g _ hb),Q5 (hB g _ hb) i hc⟩
theorem Q8z {lo:Nat} {w x:World} {base:Nat} {v:Value} {l:List Nat} (h:x.ownsRow base 3 1 v l.length (W1 l)) (hb:w.heap.size≤base) (hlo:lo≤w.heap.size):∃ p c,v = .slice p l.length c∧ListIn lo (Od [] w x) p l:=by
 rcases h.2 with ⟨rfl,h0⟩ | ⟨g,cap,cur,rfl,hgb,hg,_,_,h3,h4⟩
 ·have:l=[]:=List.length_eq_zero_iff.1 h0
  subst this
  exact ⟨none,0,rfl,fun i v hv=>by simp [W1] at hv⟩
 ·refine ⟨_,cap,rfl,fun i v hv=>⟨g,cur,_,rfl,by omega,by rw [Yv (.inr (by omega))];exact hg,?_⟩⟩
  rw [←h4,List.getElem?_take] at hv
  split at hv
  ·simpa using hv
  ·cases hv
theorem ListIn.over {lo:Nat} {B Bn:Blocks} {p:Option Addr} {l:List Nat} (h:ListIn lo Bn p l):ListIn lo (B.over Bn) p l:=fun i v hv=>by
 obtain ⟨g,cs,T,hp,hlo,hb,hc⟩:=h i v hv
 exact ⟨g,cs,T,hp,hlo,Blocks.over_some hb,hc⟩
set_option maxHeartbeats 1600000 in
set_option maxRecDepth 100000 in
theorem gWide (k m v:Nat) (hk:k<m) (hv:v≤4096) (all own:Nat→Bool) (hfar:∀ u,13≤u→(all u&&!own u)=false) (gout gown go gw gr b1 b3:Nat) {N:Nat} (w:World)
  (ho:w.cell? ⟨go,0,none⟩=some (.slice (some ⟨gout,0,none⟩) m m)) (hw:w.cell? ⟨gw,0,none⟩=some (.slice (some ⟨gown,0,none⟩) m m)) (hr3:w.cell? ⟨gr,3,none⟩=some (.func (.func 28) #[] #[])) (hr5:w.cell? ⟨gr,5,none⟩=some (.func (.func 55) #[] #[.pointer (some ⟨b3,0,none⟩)]))
  (h1:w.cell? ⟨b1,0,none⟩=some (.int .i64 0)) (h3:w.cell? ⟨b3,0,none⟩=some (K7 b1)) (hx:w.cell? ⟨gout,k,none⟩=some (Y6 v)) (hs0:w.cell? ⟨gown,k*2,none⟩=some (.int .u64 (loW own:Nat))) (hs1:w.cell? ⟨gown,k*2+1,none⟩=some (.int .u64 (hiW own:Nat)))
  (hTz:TzTab N w) (hN:N≤w.heap.size) :
  Calls Tryz.prog 47 #[.int .i64 (k:Int),Qt all,.pointer (some ⟨go,0,none⟩),.pointer (some ⟨gw,0,none⟩),.pointer (some ⟨gr,0,none⟩)] w fun e w'=>e = .returned (Qj (v*2^(Jt fun u=>all u&&!own u).length))∧Below w.heap.size w w':=by
 obtain ⟨Post,hPost⟩:∃ P:Ending→World→Prop,P=fun e w'=>e = .returned (Qj (v*2^(Jt fun u=>all u&&!own u).length))∧Below w.heap.size w w':=⟨_,rfl⟩
 rw [←hPost]
 obtain ⟨L,hL⟩:∃ L,L=Jt fun u=>all u&&!own u:=⟨_,rfl⟩
 have hL12:L.length≤12:=by rw [hL];exact Q1s _
 have hLv:∀ u∈L,1≤u∧u≤128:=fun u hu=>by
  rw [hL] at hu
  have:=(List.mem_filter.1 hu).1
  simp [List.mem_range'_1] at this;omega
 have HLV:=Lib.hid hLv
 have HP:=Lib.hid (show ∀ w',Below w.heap.size w w'→Post (.returned (Qj (v*2^L.length))) w' from fun w' h=>by rw [hPost,hL];exact ⟨rfl,h⟩)
 have KMI:=Q2m all own
 have KLI:=Lib.hid (fun (x:World) (hb:Below w.heap.size w x)=>gListV (fun u=>all u&&!own u) hfar x (hTz.on (hb.mono hN) (Nat.le_refl _)) (Nat.le_trans hN hb.size))
 rw [←hL] at KLI
 have KB:∀ u:Nat,1≤u→u≤128→GivesFrom w 55 #[.int .i64 (u:Int),.pointer (some ⟨b3,0,none⟩)] (Qj 2):=fun u a b x hb=>gBothN u a b b1 b3 x (Q8 hb (Jd h1) h1) (Q8 hb (Jd h3) h3)
 have HKB:=Lib.hid KB
 have HO:=Lib.hid ho
 have HW:=Lib.hid hw
 have HR3:=Lib.hid hr3
 have HR5:=Lib.hid hr5
 have HXX:=Lib.hid hx
 have HS0:=Lib.hid hs0
 have HS1:=Lib.hid hs1
 have HL:=Lib.hid hL
 unfold Qt Jz at *
 generalize (loW fun u=>all u&&!own u)=u0 at *
 generalize (hiW fun u=>all u&&!own u)=u1 at *
 generalize loW all=a0 at *
 generalize hiW all=a1 at *
 generalize loW own=b0' at *
 generalize hiW own=b1' at *
 have HKI:=Lib.hid KMI
 clear hPost hL hLv KMI KB ho hw hr3 hr5 h1 h3 hx hs0 hs1 hfar hTz
 go_enter Tryz.func47,Tryz.ntmps47
 go_upto_region 1 with fail
 refine Qg ?_
 intro w1 hw1
 have S1:=Lib.hid (show w1.heap[w.heap.size]?=some (.cells #[.int .u64 (a0:Nat),.int .u64 (a1:Nat)] 55 (0,0)) by rw [hw1];exact Yp _ _ _)
 have R1:=Lib.hid (show w1.heap[w.heap.size+1]?=some (.cells #[.string ⟨#[]⟩] 38 (0,0)) by rw [hw1];exact Yn _ _ _)
 have HL1:=Lib.hid (show Below w.heap.size w w1 by rw [hw1];exact Jy _ _ _)
 clear hw1
 have q0:=Q8 HL1.out (Jd HO.out) HO.out
 have q1:=Q8 HL1.out (Jd HXX.out) HXX.out
 unfold Y6 at q1
 go_upto_region 2 with fail
 refine Qg ?_
 intro w2 hw2
 obtain ⟨g8,hg8⟩:∃ g8,g8=w1.heap.size:=⟨_,rfl⟩
 have A2:=Lib.hid (show w2.heap[g8]?=some (.cells #[.string (nb (v*2^0))] 38 (0,0)) by rw [hw2,hg8,Nat.pow_zero,Nat.mul_one];exact Qn _ _)
 have hb2:Below w1.heap.size w1 w2:=by rw [hw2];exact Qe _ _
 have S2:=Lib.hid ((Q4 hb2).keep S1.out (by simp))
 have R2:=Lib.hid ((Q4 hb2).keep R1.out (by simp))
 have HL2:=Lib.hid (HL1.out.trans (hb2.mono HL1.out.size))
 have h78:w.heap.size+1<g8:=by have:=Q9 R1.out;omega
 rw [←hg8]
 clear hw2 hg8 hb2 S1 R1 HL1 q0 q1
 have Z0:=Lib.hid (Q5 S2.out 0 rfl)
 have Z1:=Lib.hid (Q5 S2.out 1 rfl)
 refine U2 [0,0,0,0,0,0,6,0,0] [] B0 [0,1,2,3,4,5,6,7,8] Qu (Qi _) (by kernel_rfl) (by kernel_rfl) ?_
 simp only [Vv,List.filterMap_cons,List.filterMap_nil,List.getElem?_cons_zero,List.getElem?_cons_succ]
 refine Yh 6 (by decide) (by rfl) ?_
 simp only [List.take_succ_cons,List.take_zero,List.drop_succ_cons,List.drop_zero]
 refine Qb 6 (by kernel_rfl) (by rfl) ?_
 apply Exists.intro
 refine ⟨fun z hz=>?_,?_⟩
 ·have hbz:Below w.heap.size w z:=HL2.out.trans (hz.below.mono HL2.out.size)
  have f0:=Q6 hz Z0.out (by simp)
  have f1:=Q6 hz Z1.out (by simp)
  have f2:=fun pp=>Kl hbz HW.out (Jd HW.out) pp
  have f3:=fun pp=>Kl hbz HS0.out (Jd HS0.out) pp
  have f4:=fun pp=>Kl hbz HS1.out (Jd HS1.out) pp
  clear hz
  simp only [List.take_succ_cons,List.take_zero]
  unfold Cx
  repeat (go_big_quiet_step (first | with_reducible exact HKI.out.at _ _))
  exact wpQuiet_nil rfl
 simp only [List.drop_succ_cons,List.drop_zero]
 refine Qf ?_
 refine Xw (f:=48) (vs:=#[.agg #[.int .u64 (u0:Nat),.int .u64 (u1:Nat)]]) [] (fun val Bn=>∃ p c,val = .slice p L.length c∧ListIn w2.heap.size Bn p L) (by rfl) (fun g hg=>by cases hg) Qu (fun g o h=>by cases h) (fun g hg=>by cases hg) (fun x=>by go_simp) (fun x hx hB=>(KLI.out x (HL2.out.trans (hx.below.mono HL2.out.size))).mono (fun e w' ⟨vv,he,hr,_,hb⟩=>⟨vv,he,(Q4 hb).mono (by simp),Q8z hr (Nat.le_refl _) hx.size⟩)) (fun val Bn hR hf hn=>?_)
 obtain ⟨pl,cl,rfl,hli⟩:=hR
 unfold Qk
 go_big_quiet_step (fail)
 refine wpQuiet_nil ?_
 refine Yh 2 (by decide) (by rfl) ?_
 simp only [List.take_succ_cons,List.take_zero,List.drop_succ_cons,List.drop_zero]
 refine Qb 2 (by kernel_rfl) (by rfl) ?_
 apply Exists.intro
 refine ⟨fun z hz=>?_,?_⟩
 ·clear hz
  simp only [List.take_succ_cons,List.take_zero]
  unfold Cx
  repeat (go_big_quiet_step (fail))
  exact wpQuiet_nil rfl
 simp only [List.drop_succ_cons,List.drop_zero]
 refine Qf ?_
 unfold Kc
 intro w3 hx3 hB3
 have LI:=Lib.hid (hli.over (B:=B0).at hB3)
 have hg82:g8<w2.heap.size:=Q9 A2.out
 have A3:=Lib.hid (hx3.keep A2.out (by simp))
 have R3:=Lib.hid (hx3.keep R2.out (by simp))
 have HL3:=Lib.hid (HL2.out.trans (hx3.below.mono HL2.out.size))
 clear hx3 hB3 hli hf hn A2 R2 S2 HL2 Z0 Z1 KLI HKI HW HS0 HS1
 have hg83:g8<w3.heap.size:=Q9 A3.out
 obtain ⟨lo,hlo⟩:∃ lo,lo=w2.heap.size:=⟨_,rfl⟩
 rw [←hlo] at LI hg82
 clear hlo
 go_wp2_with fail
 go_loopw [23] (fun t23 wr=>∃ j:Nat,t23 = .int .i64 j∧j≤L.length∧Hid (wr.heap[g8]?=some (.cells #[.string (nb (v*2^j))] 38 (0,0)))∧Hid (wr.heap[w.heap.size+1]?=some (.cells #[.string ⟨#[]⟩] 38 (0,0)))∧Hid (ListAt lo wr pl L)∧Hid (Below w.heap.size w wr)) (fun t _=>L.length-(intOf t).toNat)
 case atStart=>exact ⟨0,rfl,Nat.zero_le _,A3.out,R3.out,LI.out,HL3.out⟩
 case round =>
  obtain ⟨j,rfl,hj,HAj,HRj,HLj,HWj⟩:=hrel
  obtain ⟨w4,hw4⟩:∃ w4,w4=wr:=⟨_,rfl⟩
  rw [←hw4] at HAj HRj HLj HWj ⊢
  clear hw4 A3 R3 LI HL3
  by_cases hlt:j<L.length
  ·have hd:decide (j<L.length)=true:=decide_eq_true hlt
   have hd2:decide ((j:Int)<(L.length:Int))=true:=decide_eq_true (by omega)
   obtain ⟨u,hu⟩:∃ u,L[j]?=some u:=⟨_,List.getElem?_eq_getElem hlt⟩
   have hub:=HLV.out u (List.mem_of_getElem? hu)
   obtain ⟨gl,ea,hgl1,hgl2,kx⟩:=HLj.out j (.int .i64 (u:Int)) (by unfold W1;rw [List.getElem?_map,hu];rfl)
   have KB:=HKB.out u hub.1 hub.2
   have h2j:v*2^j≤16777216:=Nat.le_trans (Nat.mul_le_mul hv (Q07 (k:=j) (by omega))) (by omega)
   have KM:=Q64 (v*2^j) 2 (Qq h2j) (Qq (by omega))
   have HE:=Lib.hid (show v*2^j*2=v*2^(j+1) by rw [Nat.pow_succ,Nat.mul_assoc])
   rw [HE.out] at KM
   unfold Qj at KM KB
   obtain ⟨s2,hs2⟩:∃ s2,s2=v*2^(j+1):=⟨_,rfl⟩
   rw [←hs2] at KM
   have HS2:=Lib.hid hs2
   generalize v*2^j=s1 at *
   have HKM:=Lib.hid KM
   have HKBu:=Lib.hid KB
   subst ea
   clear hs2 KM KB hu HE
   go_upto_region 5 with fail
   refine Qo [1,1,1,1,1,1,1,1,2] [g8] _ (Fin.put Qu _ _) (Qr (Qi _) HAj.out) (by kernel_rfl) (by kernel_rfl) ?_
   refine Jq 8 w4 (Behind.refl _ _) (Qr (Qi _) HAj.out) (by kernel_rfl) (by rfl) ?_
   apply Exists.intro
   refine ⟨fun z hz hH=>?_,?_⟩
   ·have hbz:Below w.heap.size w z:=HWj.out.trans (hz.below_of (b:=w.heap.size) (fun k hk=>by simp at hk;omega) HWj.out.size)
    have g0:=Jg (hH g8 _ (Blocks.put_same _ _ _)) 0 rfl
    have g1:=fun pp=>Kl hbz HR3.out (Jd HR3.out) pp
    have g2:=fun pp=>Kl hbz HR5.out (Jd HR5.out) pp
    have J1:=fun pp=>HKBu.out.at2 hbz pp
    clear hz hH
    simp only [List.take_succ_cons,List.take_zero]
    unfold Cx
    repeat (go_big_quiet_step (first | with_reducible exact J1 _ | with_reducible exact HKM.out.at _ _))
    exact wpQuiet_nil rfl
   simp only [List.drop_succ_cons,List.drop_zero]
   refine Qh g8 #[.string (nb s2)] #[.string (nb s1)] 38 (by rfl) (by rfl) (by rfl) (Blocks.put_same _ _ _) rfl (.inl (by simp)) (by kernel_rfl) (by simp [Value.oneCell']) ?_
   refine Qf ?_
   intro w5 hx5 hH
   have A5:=Lib.hid (hH g8 _ (Blocks.put_same _ _ _))
   have R5:=Lib.hid (hx5.keep HRj.out (by simp;omega))
   have L5:=Lib.hid (HLj.out.keep hx5 (fun g hg=>by simp at hg;omega))
   have W5:=Lib.hid (HWj.out.trans (hx5.below_of (b:=w.heap.size) (fun k hk=>by simp at hk;omega) HWj.out.size))
   clear hx5 hH HAj HRj HLj HWj HKM HKBu kx
   go_wp2_with fail
   go_roundw
   case rel=>exact ⟨j+1,by go_num,by omega,by rw [←HS2.out];exact A5.out,R5.out,L5.out,W5.out⟩
   case measure=>simp [intOf];omega
  ·obtain rfl:j=L.length:=by omega
   have hd:decide (L.length<L.length)=false:=decide_eq_false (by omega)
   have hd2:decide ((L.length:Int)<(L.length:Int))=false:=decide_eq_false (by omega)
   obtain ⟨s1,hs1⟩:∃ s1,s1=v*2^L.length:=⟨_,rfl⟩
   rw [←hs1] at HAj
   have HS1:=Lib.hid hs1
   have a0:=Q5 HAj.out 0 rfl
   have r0:=Q5 HRj.out 0 rfl
   have f0:=Qd HRj.out 0
   clear hs1
   go_wp2_with fail
   refine bodyPost_ret (Qs (p:=7) rfl _ _ (w.heap.size+1) _ _ (0,0) _ rfl (heap_setCell_same _ _ 0 _ _ _ HRj.out) Tryz.underlying38 rfl Tryz.sizeNatE) rfl ?_
   have:=HP.out _ (HWj.out.trans ((Below.refl w.heap.size w4).setCell (p:=⟨w.heap.size+1,0,none⟩) (by simp) (.string (nb s1))))
   unfold Qj at this
   rw [←HS1.out] at this
   exact this
end
end Go.Proofs.YtcpehljpegfckaaGreatDoor
