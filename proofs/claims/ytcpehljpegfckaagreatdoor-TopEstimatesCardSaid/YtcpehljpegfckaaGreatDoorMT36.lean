/- Texts of this claim,joined: EA1,EA2,EA3,EA4,EA5. -/
import Derived.Test.YtcpehljpegfckaaGreatDoorMT24
import Derived.Test.YtcpehljpegfckaaGreatDoorMT33
import Derived.Test.YtcpehljpegfckaaGreatDoorMT35
import Derived.Deep.DeepCutAuto
import Derived.Test.YtcpehljpegfckaaGreatDoorMT11
import Derived.Test.YtcpehljpegfckaaGreatDoorMT17
import Derived.Test.YtcpehljpegfckaaGreatDoorMT14
import Derived.Test.YtcpehljpegfckaaGreatDoorMT20
import Derived.Laws.Cover3
/- Parities: their sums. -/
namespace Go.Proofs.YtcpehljpegfckaaGreatDoor
section
open Go.RowKit
def Uz (p:Pa):Value:=.agg #[.int .u64 (loW p.vs:Nat),.int .u64 (hiW p.vs:Nat),.bool p.odd]
theorem Tryz.sizePar:(Tryz.prog.info? 116).map (·.size)=some 3:=by kernel_rfl
theorem Q83 (f g:Nat→Bool) (k:Nat):Ji f k ^^^ Ji g k=Ji (fun i=>f i != g i) k :=
 Hz (Nat.xor_lt_two_pow (Z5 f k) (Z5 g k)) fun i hi=>by
  rw [Nat.testBit_xor,Y7,Y7,decide_eq_true hi];simp
set_option maxHeartbeats 1600000 in
set_option maxRecDepth 100000 in
theorem gSumP (p q:Pa):Gives 63 #[Uz p,Uz q] (Uz (Yy p q)):=by
 intro w
 obtain ⟨Post,hPost⟩:∃ P:Ending→World→Prop,P=fun e w'=>e = .returned (Uz (Yy p q))∧Below w.heap.size w w':=⟨_,rfl⟩
 rw [←hPost]
 have HP:=Lib.hid hPost
 have E0:=Lib.hid (show bits BinOp.xor IntKind.u64 (loW p.vs:Int) (loW q.vs:Int)=((loW (Yy p q).vs:Nat):Int) by
  rw [u64_xor_nat _ _ (Vu _) (Vu _)];congr 1;exact Q83 _ _ 64)
 have E1:=Lib.hid (show bits BinOp.xor IntKind.u64 (hiW p.vs:Int) (hiW q.vs:Int)=((hiW (Yy p q).vs:Nat):Int) by
  rw [u64_xor_nat _ _ (U1 _) (U1 _)];congr 1;exact Q83 _ _ 64)
 have E2:=Lib.hid (show (p.odd != q.odd)=(Yy p q).odd from rfl)
 unfold Uz at *
 generalize loW (Yy p q).vs=q0 at *
 generalize hiW (Yy p q).vs=q1 at *
 generalize (Yy p q).odd=qo at *
 generalize loW p.vs=a0 at *
 generalize hiW p.vs=a1 at *
 generalize p.odd=ao at *
 generalize loW q.vs=b0 at *
 generalize hiW q.vs=b1 at *
 generalize q.odd=bo at *
 clear hPost
 go_enter Tryz.func63,Tryz.ntmps63
 go_upto_region 1 with fail
 refine Qg ?_
 intro w1 hw1
 have HA:=Lib.hid (show w1.heap[w.heap.size]?=some (.cells #[.int .u64 (a0:Nat),.int .u64 (a1:Nat),.bool ao] 116 (0,0)) by rw [hw1];exact (Yg w _ _ _).1)
 have HB:=Lib.hid (show w1.heap[w.heap.size+1]?=some (.cells #[.int .u64 (b0:Nat),.int .u64 (b1:Nat),.bool bo] 116 (0,0)) by rw [hw1];exact (Yg w _ _ _).2.1)
 have HC:=Lib.hid (show w1.heap[w.heap.size+1+1]?=some (.cells #[.int .u64 0,.int .u64 0,.bool false] 116 (0,0)) by rw [hw1];exact (Yg w _ _ _).2.2)
 have HL:=Lib.hid (show Below w.heap.size w w1 by rw [hw1];exact Yq w _ _ _)
 clear hw1
 have x0:=Q5 HA.out 0 rfl
 have x1:=Q5 HA.out 1 rfl
 have x2:=Q5 HA.out 2 rfl
 have y0:=Q5 HB.out 0 rfl
 have y1:=Q5 HB.out 1 rfl
 have y2:=Q5 HB.out 2 rfl
 have z0:=Q5 HC.out 0 rfl
 have z1:=Q5 HC.out 1 rfl
 have z2:=Q5 HC.out 2 rfl
 have f0:=Qd HC.out 0
 have f1:=Qd HC.out 1
 have f2:=Qd HC.out 2
 go_wp2_with fail
 refine bodyPost_ret (Qs (p:=4) rfl _ _ (w.heap.size+1+1) _ _ (0,0) _ rfl (heap_setCell_same _ _ 2 _ _ _ (heap_setCell_same _ _ 1 _ _ _ (heap_setCell_same _ _ 0 _ _ _ HC.out))) Tryz.underlying116 rfl Tryz.sizePar) rfl ?_
 rw [HP.out,←E0.out,←E1.out,←E2.out]
 exact ⟨rfl,HL.out.trans ((((Below.refl w.heap.size w1).setCell (p:=⟨w.heap.size+1+1,0,none⟩) (by simp;omega) _).setCell (p:=⟨w.heap.size+1+1,1,none⟩) (by simp;omega) _).setCell (p:=⟨w.heap.size+1+1,2,none⟩) (by simp;omega) _)⟩
end
/- Parities compared,and told from the empty one. -/
section
open Go.RowKit
theorem eq_setF (k:Nat) (a b c d:Int) (w:World):(Op.equalIn (k+1+1) 55 (.agg #[.int .u64 a,.int .u64 b]) (.agg #[.int .u64 c,.int .u64 d])).run Tryz.prog w = .ok (a == c&&b == d) w:=by
 rw [Op.equalIn]
 have h1:∀ x y:Int,(Op.equalIn (k+1) 28 (.int .u64 x) (.int .u64 y)).run Tryz.prog w = .ok (x == y) w:=fun x y=>run_equalIn_int w k 28 .u64 .u64 x y Tryz.underlying28
 have p1:∀ (x y:Value) (w:World),(part 28 #[x,y] 0).run Tryz.prog w = .ok x w:=fun x y w=>by go_simp
 have p2:∀ (x y:Value) (w:World),(part 28 #[x,y] 1).run Tryz.prog w = .ok y w:=fun x y w=>by go_simp
 simp [run_underlying Tryz.underlying55,h1,p1,p2,forIn,List.range',Sem.run_bind,Sem.run_ite]
 by_cases h2:a=c<;>by_cases h3:b=d<;>simp [h2,h3]
theorem eq_par (a b c d:Int) (x y:Bool) (w:World):(Op.equalIn 10000 116 (.agg #[.int .u64 a,.int .u64 b,.bool x]) (.agg #[.int .u64 c,.int .u64 d,.bool y])).run Tryz.prog w = .ok ((a == c&&b == d)&&x == y) w:=by
 rw [show (10000:Nat)=9997+1+1+1 from rfl,Op.equalIn]
 have h1:=fun a b c d=>eq_setF 9997 a b c d w
 have h2:∀ x y:Bool,(Op.equalIn (9997+1+1) 4 (.bool x) (.bool y)).run Tryz.prog w = .ok (x == y) w:=fun x y=>run_equalIn_bool w (9997+1) 4 x y Tryz.underlying4
 have p1:∀ (x y z:Value) (w:World),(part 55 #[x,y,z] 0).run Tryz.prog w = .ok (.agg #[x,y]) w:=fun x y z w=>by go_simp
 have p2:∀ (x y z:Value) (w:World),(part 4 #[x,y,z] 2).run Tryz.prog w = .ok z w:=fun x y z w=>by go_simp
 simp [run_underlying Tryz.underlying116,h1,h2,p1,p2,forIn,List.range',Sem.run_bind,Sem.run_ite]
 by_cases h3:a=c<;>by_cases h4:b=d<;>by_cases h5:x=y<;>simp [h3,h4,h5]
theorem zero_par (q:Pa):((((loW q.vs:Nat):Int) == 0&&((hiW q.vs:Nat):Int) == 0)&&q.odd == false)=Oq q:=by
 have e:((((loW q.vs:Nat):Int) == 0&&((hiW q.vs:Nat):Int) == 0))=(J9 q == 0):=by
  apply Bool.eq_iff_iff.2
  have h:=@Az q.vs (fun _=>false)
  have l0:loW (fun _=>false)=0:=Hw 64
  have h0:hiW (fun _=>false)=0:=Hw 64
  rw [l0,h0] at h
  simp only [Bool.and_eq_true,beq_iff_eq]
  constructor
  ·rintro ⟨a,b⟩
   have hv:=h.1 ⟨by omega,by omega⟩
   unfold J9
   rw [List.find?_eq_none.2 (fun v hv2=>by
    simp only [List.mem_range'_1] at hv2
    rw [hv v hv2.1 (by omega)];simp)]
   rfl
  ·intro hf
   have hz:=Q1x hf
   have:=h.2 (fun v h1 h2=>hz v (by simp only [List.mem_range'_1];omega))
   omega
 rw [e]
 unfold Oq
 cases q.odd<;>rfl
theorem eql_par (q:Pa) (w:World):(Op.equalIn 10000 116 (Uz q) (.agg #[.int .u64 0,.int .u64 0,.bool false])).run Tryz.prog w = .ok (Oq q) w:=by
 unfold Uz
 rw [eq_par,zero_par]
set_option maxHeartbeats 1600000 in
set_option maxRecDepth 100000 in
theorem gRed1 (q:Pa):Gives 94 #[Uz q] (.bool (!Oq q)):=by
 intro w
 have hes:=fun w=>eql_par q w
 unfold Uz at *
 generalize loW q.vs=a0 at *
 generalize hiW q.vs=a1 at *
 generalize q.odd=ao at *
 generalize Oq q=z at *
 cases z
 all_goals
  go_enter Tryz.func94,Tryz.ntmps94
  go_wp2_with fail
  go_ret
  exact ⟨rfl,Qe _ _⟩
end
/- Lists of parities: filter. -/
section
open Go.RowKit
def Q0e (q:Pa):List Value:=[.int .u64 (loW q.vs:Nat),.int .u64 (hiW q.vs:Nat),.bool q.odd]
def Yd (l:List Pa):List Value:=l.flatMap Q0e
theorem Q4l (l m:List Pa):Yd (l++m)=Yd l++Yd m:=by unfold Yd;rw [List.flatMap_append]
theorem Q4y (l:List Pa):(Yd l).length=l.length*3:=by
 induction l with
 | nil=>rfl
 | cons q l ih=>simp only [Yd,List.flatMap_cons,List.length_append,List.length_cons] at ih ⊢;rw [ih];simp [Q0e];omega
theorem Q3z {l:List Pa} {i:Nat} {q:Pa} (h:l[i]?=some q):(Yd l)[i*3]?=some (.int .u64 (loW q.vs:Nat))∧(Yd l)[i*3+1]?=some (.int .u64 (hiW q.vs:Nat))∧(Yd l)[i*3+2]?=some (.bool q.odd):=by
 induction l generalizing i with
 | nil=>simp at h
 | cons x l ih =>
  cases i with
  | zero =>
   obtain rfl:x=q:=by simpa using h
   exact ⟨rfl,rfl,rfl⟩
  | succ i =>
   have:=ih (i:=i) (by simpa using h)
   have e:Yd (x::l)=Q0e x++Yd l:=by simp [Yd]
   rw [e]
   refine ⟨?_,?_,?_⟩
   ·rw [List.getElem?_append_right (by simp [Q0e];omega),show (i+1)*3-(Q0e x).length=i*3 by simp [Q0e];omega];exact this.1
   ·rw [List.getElem?_append_right (by simp [Q0e];omega),show (i+1)*3+1-(Q0e x).length=i*3+1 by simp [Q0e];omega];exact this.2.1
   ·rw [List.getElem?_append_right (by simp [Q0e];omega),show (i+1)*3+2-(Q0e x).length=i*3+2 by simp [Q0e];omega];exact this.2.2
def PasAt (N:Nat) (w:World) (p:Option Addr) (l:List Pa):Prop:=∀ i q,l[i]?=some q→∃ b o,b<N∧p=some ⟨b,o,none⟩∧w.cell? ⟨b,o+i*3,none⟩=some (.int .u64 (loW q.vs:Nat))∧w.cell? ⟨b,o+i*3+1,none⟩=some (.int .u64 (hiW q.vs:Nat))∧w.cell? ⟨b,o+i*3+2,none⟩=some (.bool q.odd)
theorem PasAt.below {N M:Nat} {w w':World} {p:Option Addr} {l:List Pa} (h:PasAt N w p l) (hb:Below M w w') (hM:N≤M):PasAt N w' p l:=fun i q hq=>by
 obtain ⟨b,o,h1,h2,h3,h4,h5⟩:=h i q hq
 exact ⟨b,o,h1,h2,Q8 hb (by omega) h3,Q8 hb (by omega) h4,Q8 hb (by omega) h5⟩
theorem PasAt.mono {N M:Nat} {w:World} {p:Option Addr} {l:List Pa} (h:PasAt N w p l) (hM:N≤M):PasAt M w p l:=fun i q hq=>by
 obtain ⟨b,o,h1,h2,h3⟩:=h i q hq
 exact ⟨b,o,Nat.lt_of_lt_of_le h1 hM,h2,h3⟩
theorem Tryz.infoParX:(Tryz.prog.info? 116).map (fun i=>(i.zero,i.size,i.bytes))=some (some (.agg #[.int .u64 0,.int .u64 0,.bool false]),3,24):=by kernel_rfl
def Kk (l:List Pa):List Pa:=l.filter fun q=>!Oq q
theorem Q8o {l:List Pa} {i:Nat} {q:Pa} (h:l[i]?=some q):Kk (l.take (i+1))=Kk (l.take i)++(if Oq q then [] else [q]):=by
 obtain ⟨hi,rfl⟩:=List.getElem?_eq_some_iff.1 h
 unfold Kk
 rw [List.take_succ_eq_append_getElem hi,List.filter_append]
 congr 1
 cases hz:Oq l[i]<;>simp [hz]
set_option maxHeartbeats 1600000 in
set_option maxRecDepth 100000 in
theorem Q6j (l:List Pa) (hl:l.length≤1000) (p:Option Addr) (c:Nat) (w:World) (hA:PasAt w.heap.size w p l) :
  Calls Tryz.prog 93 #[.slice p l.length c,.func (.func 94) #[] #[]] w fun e w'=>∃ v,e = .returned v∧RowV (inW w') 116 3 v (Kk l).length (Yd (Kk l))∧(∀ g∈Q7 v,w.heap.size≤g)∧Below w.heap.size w w':=by
 obtain ⟨Post,hPost⟩:∃ P:Ending→World→Prop,P=fun e w'=>∃ v,e = .returned v∧RowV (inW w') 116 3 v (Kk l).length (Yd (Kk l))∧(∀ g∈Q7 v,w.heap.size≤g)∧Below w.heap.size w w':=⟨_,rfl⟩
 rw [←hPost]
 have HP:=Lib.hid (show ∀ v w',RowV (inW w') 116 3 v (Kk l).length (Yd (Kk l))→(∀ g∈Q7 v,w.heap.size≤g)→Below w.heap.size w w'→Post (.returned v) w' from fun v w' h1 h2 h3=>by rw [hPost];exact ⟨v,rfl,h1,h2,h3⟩)
 have HA:=Lib.hid hA
 obtain ⟨i0,ii,iz0,iz1,iz2⟩:=info_parts Tryz.infoParX
 have II:=Lib.hid ii
 have IZ0:=Lib.hid iz0
 have IZ1:=Lib.hid iz1
 have IZ2:=Lib.hid iz2
 obtain ⟨n,hn⟩:∃ n,n=l.length:=⟨_,rfl⟩
 rw [←hn] at hl ⊢
 have HN:=Lib.hid hn
 clear hPost hA ii iz0 iz1 iz2 hn
 go_enter Tryz.func93,Tryz.ntmps93
 go_wp2_with fail
 go_loopw [5,10] (fun t5 t10 wr=>∃ (i:Nat) (v:Value),v=t5∧t10 = .int .i64 i∧i≤n∧Hid (RowV (inW wr) 116 3 v (Kk (l.take i)).length (Yd (Kk (l.take i))))∧Hid (∀ g∈Q7 v,w.heap.size≤g)∧Hid (Below w.heap.size w wr)) (fun _ t _=>n-(intOf t).toNat)
 case atStart=>exact ⟨0,_,rfl,rfl,Nat.zero_le _,.nil,fun g hg=>by simp [Q7] at hg,Below.refl _ _⟩
 case round =>
  obtain ⟨i,v,rfl,rfl,hin,HR,HF,HW⟩:=hrel
  obtain ⟨w2,hw2⟩:∃ w2,w2=wr:=⟨_,rfl⟩
  rw [←hw2] at HR HW ⊢
  clear hw2
  by_cases hlt:i<n
  ·have hd:decide (i<n)=true:=decide_eq_true hlt
   have hd2:decide ((i:Int)<(n:Int))=true:=decide_eq_true (by omega)
   obtain ⟨q,hq⟩:∃ q,l[i]?=some q:=⟨_,List.getElem?_eq_getElem (by rw [←HN.out];exact hlt)⟩
   obtain ⟨b,o,hb,hp,k1,k2,k3⟩:=HA.out i q hq
   have C1:=Lib.hid (Q8 HW.out hb k1)
   have C2:=Lib.hid (Q8 HW.out hb k2)
   have C3:=Lib.hid (Q8 HW.out hb k3)
   have HSN:=Lib.hid (Q8o hq)
   have KR:=gRed1 q
   have hkl:(Kk (l.take i)).length≤i:=Nat.le_trans (List.length_filter_le _ _) (by rw [List.length_take];omega)
   unfold Uz at KR
   subst hp
   clear hb k1 k2 k3 hq
   obtain ⟨a0,ha0⟩:∃ a0,a0=loW q.vs:=⟨_,rfl⟩
   obtain ⟨a1,ha1⟩:∃ a1,a1=hiW q.vs:=⟨_,rfl⟩
   obtain ⟨ao,hao⟩:∃ ao,ao=q.odd:=⟨_,rfl⟩
   rw [←ha0,←ha1,←hao] at KR
   rw [←ha0] at C1
   rw [←ha1] at C2
   rw [←hao] at C3
   have HPC:=Lib.hid (show Yd [q]=[.int .u64 (a0:Nat),.int .u64 (a1:Nat),.bool ao] by rw [ha0,ha1,hao];rfl)
   clear ha0 ha1 hao
   go_upto_region 4 with fail
   refine wp_region_lit (J6 [0,0,3,2] [] B0 (Qi _) ?_)
   refine Qb 2 (by kernel_rfl) (by rfl) ?_
   apply Exists.intro
   refine ⟨fun z hz=>?_,?_⟩
   ·have f0:=Q6 hz C1.out (by simp)
    have f1:=Q6 hz C2.out (by simp)
    have f2:=Q6 hz C3.out (by simp)
    clear hz
    simp only [List.take_succ_cons,List.take_zero]
    unfold Cx
    repeat (go_big_quiet_step (fail))
    exact wpQuiet_nil rfl
   simp only [List.drop_succ_cons,List.drop_zero]
   refine Jm (.agg #[.int .u64 0,.int .u64 0,.bool false]) (by rfl) (fun x=>by kernel_rfl) (fun g7 q7 hn7=>?_)
   unfold Qk
   go_big_quiet_step (fail)
   refine wpQuiet_nil ?_
   refine Qh g7 #[.int .u64 (a0:Nat),.int .u64 (a1:Nat),.bool ao] #[.int .u64 0,.int .u64 0,.bool false] 116 (by rfl) (by rfl) (by rfl) (Blocks.put_same _ _ _) rfl (.inr q7) (by kernel_rfl) (by simp [Value.oneCell']) ?_
   refine Qf ?_
   intro w5 hx5 hH
   have N5:=Lib.hid (hH g7 _ (Blocks.put_same _ _ _))
   have hb5:Below w2.heap.size w2 w5:=hx5.below_of (by simp) (Nat.le_refl _)
   have HW5:=Lib.hid (HW.out.trans (hb5.mono HW.out.size))
   have HR5:=Lib.hid (HR.out.keep (Q4 hb5) (by simp))
   clear hx5 hH hb5 hn7 q7 HR HW C1 C2 C3
   have y0:=Q5 N5.out 0 rfl
   have y1:=Q5 N5.out 1 rfl
   have y2:=Q5 N5.out 2 rfl
   have KR5:=KR w5
   clear KR
   generalize Oq q=z at *
   go_wp2_with fail
   refine KR5.mono ?_
   rintro e w6 ⟨rfl,hb6⟩
   have N6:=Lib.hid ((Q4 hb6).keep N5.out (by simp))
   have HW6:=Lib.hid (HW5.out.trans (hb6.mono HW5.out.size))
   have HR6:=Lib.hid (HR5.out.keep (Q4 hb6) (by simp))
   clear hb6 KR5 y0 y1 y2 N5 HW5 HR5
   cases z with
   | true =>
    rw [if_pos rfl,List.append_nil] at HSN
    rw [←HSN.out] at HR6
    clear HSN
    go_wp2_with fail
    go_roundw
    case rel=>exact ⟨i+1,v,rfl,by go_num,by omega,HR6.out,HF.out,HW6.out⟩
    case measure=>simp [intOf];omega
   | false =>
    rw [if_neg (by simp)] at HSN
    obtain ⟨K,hK⟩:∃ K,K=Kk (l.take i):=⟨_,rfl⟩
    rw [←hK] at HR6 HSN hkl
    have HSN2:=Lib.hid HSN.out
    have c0:=Q5 N6.out 0 rfl
    have c1:=Q5 N6.out 1 rfl
    have c2:=Q5 N6.out 2 rfl
    clear hK HSN
    go_wp2_with (at_builtin;refine Jp _ rfl _ _ 74 rfl 116 i0 (.agg #[.int .u64 0,.int .u64 0,.bool false]) 3 24 Tryz.underlying74 II.out IZ0.out IZ1.out IZ2.out rfl _ _ _ rfl (HR6.out.keep (Q4 ((Below.refl _ _).alloc (Nat.le_refl _) _)) (by simp)) w6.heap.size 1 1 [.int .u64 (a0:Nat),.int .u64 (a1:Nat),.bool ao] 116 rfl (heap_alloc_new w6 _) rfl (by intro u hu;simp at hu;rcases hu with rfl | rfl | rfl<;>rfl) (by omega) (by unfold maxLen;omega) (by omega) ?_)
    intro v9 w9 hr9 hB9 hn9
    have h09:Behind w6 (Q7 v) w9:=((Q4 ((Below.refl _ _).alloc (Nat.le_refl _) _)).mono (by simp)).trans hB9 (fun k hk=>.inl hk)
    have hn9':∀ g∈Q7 v9,g∈Q7 v∨w6.heap.size≤g:=fun g hg=>(hn9 g hg).imp id (fun h=>by omega)
    have HR9:=Lib.hid (show RowV (inW w9) 116 3 v9 (Kk (l.take (i+1))).length (Yd (Kk (l.take (i+1)))) by
     rw [HSN2.out,Q4l,List.length_append,HPC.out];exact hr9)
    have HF9:=Lib.hid (show ∀ g∈Q7 v9,w.heap.size≤g from fun g hg=>(hn9' g hg).elim (HF.out g) (fun h=>by have:=HW6.out.size;omega))
    have HW9:=Lib.hid (HW6.out.trans (h09.below_of (b:=w.heap.size) (fun k hk=>HF.out k hk) HW6.out.size))
    clear h09 hn9' hr9 hB9 hn9 c0 c1 c2 HR6 HW6 N6
    go_wp2_with fail
    go_roundw
    case rel=>exact ⟨i+1,v9,rfl,by go_num,by omega,HR9.out,HF9.out,HW9.out⟩
    case measure=>simp [intOf];omega
  ·obtain rfl:i=n:=by omega
   have hd:decide (i<i)=false:=decide_eq_false (by omega)
   have hd2:decide ((i:Int)<(i:Int))=false:=decide_eq_false (by omega)
   have HE:=Lib.hid (HP.out v w2 (by have:=HR.out;rwa [HN.out,List.take_length] at this) HF.out HW.out)
   go_wp2_with fail
   exact HE.out
end
/- Lists of parities: Clone. -/
section
open Go.RowKit
theorem Q53 (a:Option Addr) (m c:Nat) (w:World):(binOp .eql 74 (.slice a m c) (.slice none 0 0)).run Tryz.prog w = .ok (.bool a.isNone) w:=by
 simp only [binOp]
 simp [run_equal_slice_nil w 74 116 a m c Tryz.underlying74]
set_option maxHeartbeats 1600000 in
set_option maxRecDepth 100000 in
theorem gCloneP (l:List Pa) (hpos:0<l.length) (hl:l.length≤1000) (gl c:Nat) (w:World) (hA:PasAt w.heap.size w (some ⟨gl,0,none⟩) l) :
  Calls Tryz.prog 90 #[.slice (some ⟨gl,0,none⟩) l.length c] w fun e w'=>∃ v,e = .returned v∧RowV (inW w') 116 3 v l.length (Yd l)∧(∀ g∈Q7 v,w.heap.size≤g)∧Below w.heap.size w w':=by
 obtain ⟨Post,hPost⟩:∃ P:Ending→World→Prop,P=fun e w'=>∃ v,e = .returned v∧RowV (inW w') 116 3 v l.length (Yd l)∧(∀ g∈Q7 v,w.heap.size≤g)∧Below w.heap.size w w':=⟨_,rfl⟩
 rw [←hPost]
 have HP:=Lib.hid (show ∀ v w',RowV (inW w') 116 3 v l.length (Yd l)→(∀ g∈Q7 v,w.heap.size≤g)→Below w.heap.size w w'→Post (.returned v) w' from fun v w' h1 h2 h3=>by rw [hPost];exact ⟨v,rfl,h1,h2,h3⟩)
 have HA:=Lib.hid hA
 obtain ⟨i0,ii,iz0,iz1,iz2⟩:=info_parts Tryz.infoParX
 have II:=Lib.hid ii
 have IZ0:=Lib.hid iz0
 have IZ1:=Lib.hid iz1
 have IZ2:=Lib.hid iz2
 have hcells:∀ (j:Nat) (u:Value),(Yd l)[j]?=some u→(w.alloc (.cells #[] 116)).cell? ⟨gl,j,none⟩=some u:=fun j u hj=>by
  have hjl:=(List.getElem?_eq_some_iff.1 hj).1
  rw [Q4y] at hjl
  obtain ⟨q,hq⟩:∃ q,l[j/3]?=some q:=⟨_,List.getElem?_eq_getElem (by omega)⟩
  obtain ⟨b,o,hb,e,k1,k2,k3⟩:=hA _ q hq
  cases e
  obtain ⟨m1,m2,m3⟩:=Q3z hq
  rw [Nat.zero_add] at k1 k2 k3
  have hbl:=Qe w (.cells #[] 116)
  rcases (show j=j/3*3∨j=j/3*3+1∨j=j/3*3+2 by omega) with h | h | h
  ·rw [h] at hj ⊢
   rw [m1] at hj;cases hj
   exact Q8 hbl hb k1
  ·rw [h] at hj ⊢
   rw [m2] at hj;cases hj
   exact Q8 hbl hb k2
  ·rw [h] at hj ⊢
   rw [m3] at hj;cases hj
   exact Q8 hbl hb k3
 have hone:∀ u∈Yd l,u.oneCell'=true:=fun u hu=>by
  unfold Yd at hu
  obtain ⟨q,_,hq⟩:=List.mem_flatMap.1 hu
  unfold Q0e at hq
  simp at hq
  rcases hq with rfl | rfl | rfl<;>rfl
 have HC:=Lib.hid hcells
 have HO:=Lib.hid hone
 have HPL:=Lib.hid (Q4y l)
 have HR0:=Lib.hid (show RowV (inW (w.alloc (.cells #[] 116))) 116 3 (.slice (some ⟨w.heap.size,0,none⟩) 0 0) 0 [] from .row ⟨Qn w _,Nat.le_refl _,Nat.zero_le _,rfl,rfl,rfl⟩)
 have hnil:=fun w:World=>Q53 (some ⟨gl,0,none⟩) l.length c w
 generalize hm:l.length=m at *
 have HM:=Lib.hid hm
 clear hPost hA ii iz0 iz1 iz2 hcells hone hm
 go_enter Tryz.func90,Tryz.ntmps90
 go_wp2_with (at_builtin;refine Jw _ rfl _ _ 74 rfl 116 i0 (.agg #[.int .u64 0,.int .u64 0,.bool false]) 3 24 Tryz.underlying74 II.out IZ0.out IZ1.out IZ2.out rfl _ _ _ rfl HR0.out gl m c (Yd l) rfl HC.out HPL.out HO.out hpos (by unfold maxLen;omega) (by omega) ?_)
 intro v9 w9 hr9 hB9 hn9
 have HF:=Lib.hid (HP.out v9 w9 hr9 (fun g hg=>(hn9 g hg).elim (fun h=>by simp [Q7] at h;omega) (fun h=>by omega)) ((Qe w _).trans (hB9.below_of (fun k hk=>by simp [Q7] at hk;omega) (by simp))))
 clear hr9 hB9 hn9
 go_wp2_with fail
 exact HF.out
end
/- Parities of variables beyond a theory's: Cell's test. -/
section
open Go.RowKit
set_option maxHeartbeats 1600000 in
set_option maxRecDepth 100000 in
theorem gCell1 (q:Pa) (n:Nat) (hn:n≤128) (b:Nat) (w:World) (hc:w.cell? ⟨b,0,none⟩=some (.int .i64 n)):Calls Tryz.prog 60 #[Uz q,.pointer (some ⟨b,0,none⟩)] w fun e w'=>e = .returned (.bool (!Q0b q.vs (Qy n)))∧Below w.heap.size w w':=by
 obtain ⟨Post,hPost⟩:∃ P:Ending→World→Prop,P=fun e w'=>e = .returned (.bool (!Q0b q.vs (Qy n)))∧Below w.heap.size w w':=⟨_,rfl⟩
 rw [←hPost]
 have HP:=Lib.hid (show ∀ w',Below w.heap.size w w'→Post (.returned (.bool (!Q0b q.vs (Qy n)))) w' from fun w' h=>by rw [hPost];exact ⟨rfl,h⟩)
 have KA:=gAll n hn
 have KS:=gSubO q.vs (Qy n)
 have HC:=Lib.hid hc
 unfold Uz
 unfold Qt Jz at *
 generalize loW (Qy n)=u0 at *
 generalize hiW (Qy n)=u1 at *
 generalize Q0b q.vs (Qy n)=z at *
 generalize loW q.vs=a0 at *
 generalize hiW q.vs=a1 at *
 generalize q.odd=ao at *
 have HKA:=Lib.hid KA
 have HKS:=Lib.hid KS
 clear hPost KA KS hc
 go_enter Tryz.func60,Tryz.ntmps60
 go_upto_region 1 with fail
 refine Qg ?_
 intro w1 hw1
 have S1:=Lib.hid (show w1.heap[w.heap.size]?=some (.cells #[.int .u64 (a0:Nat),.int .u64 (a1:Nat),.bool ao] 116 (0,0)) by rw [hw1];exact Qn _ _)
 have HL1:=Lib.hid (show Below w.heap.size w w1 by rw [hw1];exact Qe _ _)
 clear hw1
 have Q0:=Lib.hid (Q5 S1.out 0 rfl)
 have Q1:=Lib.hid (Q5 S1.out 1 rfl)
 have Q2:=Lib.hid (Q5 S1.out 2 rfl)
 have C1:=Lib.hid (Q8 HL1.out (by
  rcases Nat.lt_or_ge b w.heap.size with h1 | h1
  ·exact h1
  ·have:=HC.out;rw [World.cell?,Array.getElem?_eq_none (by simpa using h1)] at this;cases this) HC.out)
 refine Qo [0,0,0,0,0,0,0,0] [] B0 Qu (Qi _) (by kernel_rfl) (by kernel_rfl) ?_
 refine Qb 8 (by kernel_rfl) (by rfl) ?_
 apply Exists.intro
 refine ⟨fun z hz=>?_,?_⟩
 ·have f0:=Q6 hz Q0.out (by simp)
  have f1:=Q6 hz Q1.out (by simp)
  have f3:=Q6 hz C1.out (by simp)
  clear hz
  simp only [List.take_succ_cons,List.take_zero]
  unfold Cx
  repeat (go_big_quiet_step (first | with_reducible exact HKA.out.at _ _ | with_reducible exact HKS.out.at _ _))
  exact wpQuiet_nil rfl
 simp only [List.drop_succ_cons,List.drop_zero]
 refine Qf ?_
 intro w2 hx2 _
 have HF:=Lib.hid (HP.out w2 (HL1.out.trans (hx2.below.mono HL1.out.size)))
 clear hx2
 go_wp2_with fail
 exact HF.out
set_option maxHeartbeats 1600000 in
set_option maxRecDepth 100000 in
theorem gIndexP (l:List Pa) (hl:l.length≤1000) (p:Option Addr) (c:Nat) (n:Nat) (hn:n≤128) (b:Nat) (hs:∀ q∈l,Q0b q.vs (Qy n)=true) (w:World) (hA:PasAt w.heap.size w p l) (hb:b<w.heap.size) (hc:w.cell? ⟨b,0,none⟩=some (.int .i64 n)) :
  Calls Tryz.prog 89 #[.slice p l.length c,.func (.func 60) #[] #[.pointer (some ⟨b,0,none⟩)]] w fun e w'=>e = .returned (.int .i64 (-1))∧Below w.heap.size w w':=by
 obtain ⟨Post,hPost⟩:∃ P:Ending→World→Prop,P=fun e w'=>e = .returned (.int .i64 (-1))∧Below w.heap.size w w':=⟨_,rfl⟩
 rw [←hPost]
 have HP:=Lib.hid (show ∀ w',Below w.heap.size w w'→Post (.returned (.int .i64 (-1))) w' from fun w' h=>by rw [hPost];exact ⟨rfl,h⟩)
 have HA:=Lib.hid hA
 have HC:=Lib.hid hc
 have HS:=Lib.hid hs
 obtain ⟨m,hm⟩:∃ m,m=l.length:=⟨_,rfl⟩
 rw [←hm] at hl ⊢
 have HM:=Lib.hid hm
 clear hPost hA hc hs hm
 go_enter Tryz.func89,Tryz.ntmps89
 go_wp2_with fail
 go_loopw [8] (fun t8 wr=>∃ i:Nat,t8 = .int .i64 i∧i≤m∧Hid (Below w.heap.size w wr)) (fun t _=>m-(intOf t).toNat)
 case atStart=>exact ⟨0,rfl,Nat.zero_le _,Below.refl _ _⟩
 case round =>
  obtain ⟨i,rfl,hin,HW⟩:=hrel
  obtain ⟨w2,hw2⟩:∃ w2,w2=wr:=⟨_,rfl⟩
  rw [←hw2] at HW ⊢
  clear hw2
  by_cases hlt:i<m
  ·have hd:decide (i<m)=true:=decide_eq_true hlt
   have hd2:decide ((i:Int)<(m:Int))=true:=decide_eq_true (by omega)
   obtain ⟨q,hq⟩:∃ q,l[i]?=some q:=⟨_,List.getElem?_eq_getElem (by rw [←HM.out];exact hlt)⟩
   obtain ⟨b1,o,hb1,hp,k1,k2,k3⟩:=HA.out i q hq
   have c1:=Q8 HW.out hb1 k1
   have c2:=Q8 HW.out hb1 k2
   have c3:=Q8 HW.out hb1 k3
   have KC:=gCell1 q n hn b w2 (Q8 HW.out hb HC.out)
   rw [HS.out q (List.mem_of_getElem? hq)] at KC
   unfold Uz at KC
   subst hp
   clear hb1 k1 k2 k3 hq
   generalize loW q.vs=a0 at *
   generalize hiW q.vs=a1 at *
   generalize q.odd=ao at *
   go_wp2_with fail
   refine KC.mono ?_
   rintro e w3 ⟨rfl,hb3⟩
   have HW3:=Lib.hid (HW.out.trans (hb3.mono HW.out.size))
   clear hb3 KC c1 c2 c3
   go_wp2_with fail
   go_roundw
   case rel=>exact ⟨i+1,by go_num,by omega,HW3.out⟩
   case measure=>simp [intOf];omega
  ·obtain rfl:i=m:=by omega
   have hd:decide (i<i)=false:=decide_eq_false (by omega)
   have hd2:decide ((i:Int)<(i:Int))=false:=decide_eq_false (by omega)
   have HF:=Lib.hid (HP.out w2 HW.out)
   go_wp2_with fail
   exact HF.out
theorem Q9a (l:List Pa) (hl:l.length≤1000) (p:Option Addr) (c:Nat) (n:Nat) (hn:n≤128) (b:Nat) (hs:∀ q∈l,Q0b q.vs (Qy n)=true) (w:World) (hA:PasAt w.heap.size w p l) (hb:b<w.heap.size) (hc:w.cell? ⟨b,0,none⟩=some (.int .i64 n)) :
  Calls Tryz.prog 59 #[.slice p l.length c,.func (.func 60) #[] #[.pointer (some ⟨b,0,none⟩)]] w fun e w'=>e = .returned (.bool false)∧Below w.heap.size w w':=by
 have KI:=gIndexP l hl p c n hn b hs w hA hb hc
 generalize l.length=m at *
 go_enter Tryz.func59,Tryz.ntmps59
 go_wp2_with fail
 refine KI.mono ?_
 rintro e w' ⟨rfl,hbw⟩
 have HB:=Lib.hid hbw
 clear hbw KI hs hA hc
 go_wp2_with fail
 go_ret
 exact ⟨rfl,HB.out⟩
end
end Go.Proofs.YtcpehljpegfckaaGreatDoor
