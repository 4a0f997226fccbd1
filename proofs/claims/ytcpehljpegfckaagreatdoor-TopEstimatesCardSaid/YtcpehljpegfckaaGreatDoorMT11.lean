/- Texts of this claim,joined: CW1,CW2,CW3,CWe,CW4,CT,CW5,CW6. -/
import Derived.Test.YtcpehljpegfckaaGreatDoorMT07
import Derived.Test.YtcpehljpegfckaaGreatDoorMT09
import Derived.Test.YtcpehljpegfckaaGreatDoorMT10
import Derived.Laws.BitsAllLaws
import Derived.Deep.DeepCutAuto
import Derived.Laws.StructEq
/- Sets of variables: Union,Cut,Minus,Sub,With. -/
namespace Go.Proofs.YtcpehljpegfckaaGreatDoor
section
open Go.RowKit
def Qt (o:Nat→Bool):Value:=Jz (loW o) (hiW o)
theorem Qs {P:Program} {fn:Func} {p:Tmp} {ty:TypeId} (h:fn.results=#[.cell p ty]) (tmps:Array Value) (w:World) (g:Nat) (t:TypeId) (cs:Array Value) (fr:Nat × Nat) (d:TypeDesc)
  (hp:tmps.getD p undef = .pointer (some ⟨g,0,none⟩)) (hg:w.heap[g]?=some (.cells cs t fr))
  (hu:P.underlying ty=some d) (hd:(match d with | .struct _ | .array _ _=>true | _=>false)=true) (hi:(P.info? ty).map (·.size)=some cs.size) :
  (results fn tmps).run P w = .ok (.agg cs) w:=by
 have hp':tmps[p]?.getD undef = .pointer (some ⟨g,0,none⟩):=by simpa using hp
 simp [results,h,hp',asAddr,run_loadVar_row w g t ty cs fr d hg hu hd hi]
theorem Tryz.sizeSetO:(Tryz.prog.info? 55).map (·.size)=some 2:=by kernel_rfl
theorem Zg {w:World} {g:Nat} {a b x y:Value} {T:TypeId} (h:w.heap[g]?=some (.cells #[a,b] T (0,0))):((w.setCell ⟨g,0,none⟩ x).setCell ⟨g,1,none⟩ y).heap[g]?=some (.cells #[x,y] T (0,0)) :=
 heap_setCell_same _ g 1 _ _ _ (heap_setCell_same _ g 0 _ _ _ h)
theorem Kt {w:World} {g B:Nat} {x y:Value} (h:B≤g):Below B w ((w.setCell ⟨g,0,none⟩ x).setCell ⟨g,1,none⟩ y) :=
 ((Below.refl _ w).setCell (by exact h) _).setCell (by exact h) _
theorem Yq (w:World) (b1 b2 b3:Obj):Below w.heap.size w (((w.alloc b1).alloc b2).alloc b3):=((Qe w b1).trans ((Qe _ b2).mono (by simp))).trans ((Qe _ b3).mono (by simp;omega))
theorem Yg (w:World) (b1 b2 b3:Obj):(((w.alloc b1).alloc b2).alloc b3).heap[w.heap.size]?=some b1∧(((w.alloc b1).alloc b2).alloc b3).heap[w.heap.size+1]?=some b2∧(((w.alloc b1).alloc b2).alloc b3).heap[w.heap.size+1+1]?=some b3:=by
 have h1:=heap_alloc_new w b1
 have h2:=heap_alloc_new (w.alloc b1) b2
 have h3:=heap_alloc_new ((w.alloc b1).alloc b2) b3
 have s1:(w.alloc b1).heap.size=w.heap.size+1:=by simp
 have s2:((w.alloc b1).alloc b2).heap.size=w.heap.size+1+1:=by simp
 rw [s1] at h2
 rw [s2] at h3
 refine ⟨(Q4 (Qe _ b3)).keep ((Q4 (Qe _ b2)).keep h1 (by simp)) (by simp),(Q4 (Qe _ b3)).keep h2 (by simp),h3⟩
theorem Q0z (f g:Nat→Bool):Ji f 64 &&& (18446744073709551615-Ji g 64)=Ji (fun i=>f i&&!g i) 64 :=
 Hz (Nat.lt_of_le_of_lt Nat.and_le_left (Z5 f 64)) fun i hi=>by
  have h:=Nat.testBit_two_pow_sub_succ (Z5 g 64) i
  rw [Nat.testBit_and,Y7,show (18446744073709551615:Nat)-Ji g 64=2^64-(Ji g 64+1) by have:=Z5 g 64;omega,h,Y7,decide_eq_true hi];simp
set_option maxHeartbeats 1600000 in
set_option maxRecDepth 100000 in
theorem Q9l (o p:Nat→Bool):Gives 83 #[Qt o,Qt p] (Qt fun v=>o v||p v):=by
 intro w
 obtain ⟨Post,hPost⟩:∃ P:Ending→World→Prop,P=fun e w'=>e = .returned (Qt fun v=>o v||p v)∧Below w.heap.size w w':=⟨_,rfl⟩
 rw [←hPost]
 have HP:=Lib.hid hPost
 have E0:=Lib.hid (show bits BinOp.or IntKind.u64 (loW o:Int) (loW p:Int)=((loW fun v=>o v||p v:Nat):Int) by
  rw [u64_or_nat _ _ (Vu o) (Vu p)];congr 1;exact Q1j _ _ 64)
 have E1:=Lib.hid (show bits BinOp.or IntKind.u64 (hiW o:Int) (hiW p:Int)=((hiW fun v=>o v||p v:Nat):Int) by
  rw [u64_or_nat _ _ (U1 o) (U1 p)];congr 1;exact Q1j _ _ 64)
 unfold Qt Jz at *
 generalize (loW fun v=>o v||p v)=q0 at *
 generalize (hiW fun v=>o v||p v)=q1 at *
 generalize loW o=a0 at *
 generalize hiW o=a1 at *
 generalize loW p=b0 at *
 generalize hiW p=b1 at *
 clear hPost
 go_enter Tryz.func83,Tryz.ntmps83
 go_upto_region 1 with fail
 refine Qg ?_
 intro w1 hw1
 have HA:=Lib.hid (show w1.heap[w.heap.size]?=some (.cells #[.int .u64 (a0:Nat),.int .u64 (a1:Nat)] 55 (0,0)) by rw [hw1];exact (Yg w _ _ _).1)
 have HB:=Lib.hid (show w1.heap[w.heap.size+1]?=some (.cells #[.int .u64 (b0:Nat),.int .u64 (b1:Nat)] 55 (0,0)) by rw [hw1];exact (Yg w _ _ _).2.1)
 have HC:=Lib.hid (show w1.heap[w.heap.size+1+1]?=some (.cells #[.int .u64 0,.int .u64 0] 55 (0,0)) by rw [hw1];exact (Yg w _ _ _).2.2)
 have HL:=Lib.hid (show Below w.heap.size w w1 by rw [hw1];exact Yq w _ _ _)
 clear hw1
 have x0:=Q5 HA.out 0 rfl
 have x1:=Q5 HA.out 1 rfl
 have y0:=Q5 HB.out 0 rfl
 have y1:=Q5 HB.out 1 rfl
 have z0:=Q5 HC.out 0 rfl
 have z1:=Q5 HC.out 1 rfl
 have f0:=Qd HC.out 0
 have f1:=Qd HC.out 1
 go_wp2_with fail
 refine bodyPost_ret (Qs (p:=4) rfl _ _ (w.heap.size+1+1) _ _ (0,0) _ rfl (Zg HC.out) Tryz.underlying55 rfl Tryz.sizeSetO) rfl ?_
 rw [HP.out,←E0.out,←E1.out]
 exact ⟨rfl,HL.out.trans (Kt (by omega))⟩
set_option maxHeartbeats 1600000 in
set_option maxRecDepth 100000 in
theorem gCut (o p:Nat→Bool):Gives 82 #[Qt o,Qt p] (Qt fun v=>o v&&p v):=by
 intro w
 obtain ⟨Post,hPost⟩:∃ P:Ending→World→Prop,P=fun e w'=>e = .returned (Qt fun v=>o v&&p v)∧Below w.heap.size w w':=⟨_,rfl⟩
 rw [←hPost]
 have HP:=Lib.hid hPost
 have E0:=Lib.hid (show bits BinOp.and IntKind.u64 (loW o:Int) (loW p:Int)=((loW fun v=>o v&&p v:Nat):Int) by
  rw [u64_and_nat _ _ (Vu o) (Vu p)];congr 1;exact Q6x _ _ 64)
 have E1:=Lib.hid (show bits BinOp.and IntKind.u64 (hiW o:Int) (hiW p:Int)=((hiW fun v=>o v&&p v:Nat):Int) by
  rw [u64_and_nat _ _ (U1 o) (U1 p)];congr 1;exact Q6x _ _ 64)
 unfold Qt Jz at *
 generalize (loW fun v=>o v&&p v)=q0 at *
 generalize (hiW fun v=>o v&&p v)=q1 at *
 generalize loW o=a0 at *
 generalize hiW o=a1 at *
 generalize loW p=b0 at *
 generalize hiW p=b1 at *
 clear hPost
 go_enter Tryz.func82,Tryz.ntmps82
 go_upto_region 1 with fail
 refine Qg ?_
 intro w1 hw1
 have HA:=Lib.hid (show w1.heap[w.heap.size]?=some (.cells #[.int .u64 (a0:Nat),.int .u64 (a1:Nat)] 55 (0,0)) by rw [hw1];exact (Yg w _ _ _).1)
 have HB:=Lib.hid (show w1.heap[w.heap.size+1]?=some (.cells #[.int .u64 (b0:Nat),.int .u64 (b1:Nat)] 55 (0,0)) by rw [hw1];exact (Yg w _ _ _).2.1)
 have HC:=Lib.hid (show w1.heap[w.heap.size+1+1]?=some (.cells #[.int .u64 0,.int .u64 0] 55 (0,0)) by rw [hw1];exact (Yg w _ _ _).2.2)
 have HL:=Lib.hid (show Below w.heap.size w w1 by rw [hw1];exact Yq w _ _ _)
 clear hw1
 have x0:=Q5 HA.out 0 rfl
 have x1:=Q5 HA.out 1 rfl
 have y0:=Q5 HB.out 0 rfl
 have y1:=Q5 HB.out 1 rfl
 have z0:=Q5 HC.out 0 rfl
 have z1:=Q5 HC.out 1 rfl
 have f0:=Qd HC.out 0
 have f1:=Qd HC.out 1
 go_wp2_with fail
 refine bodyPost_ret (Qs (p:=4) rfl _ _ (w.heap.size+1+1) _ _ (0,0) _ rfl (Zg HC.out) Tryz.underlying55 rfl Tryz.sizeSetO) rfl ?_
 rw [HP.out,←E0.out,←E1.out]
 exact ⟨rfl,HL.out.trans (Kt (by omega))⟩
set_option maxHeartbeats 1600000 in
set_option maxRecDepth 100000 in
theorem Q2m (o p:Nat→Bool):Gives 49 #[Qt o,Qt p] (Qt fun v=>o v&&!p v):=by
 intro w
 obtain ⟨Post,hPost⟩:∃ P:Ending→World→Prop,P=fun e w'=>e = .returned (Qt fun v=>o v&&!p v)∧Below w.heap.size w w':=⟨_,rfl⟩
 rw [←hPost]
 have HP:=Lib.hid hPost
 have E0:=Lib.hid (show bits BinOp.andNot IntKind.u64 (loW o:Int) (loW p:Int)=((loW fun v=>o v&&!p v:Nat):Int) by
  rw [u64_andNot_nat _ _ (Vu o) (Vu p)];congr 1;exact Q0z _ _)
 have E1:=Lib.hid (show bits BinOp.andNot IntKind.u64 (hiW o:Int) (hiW p:Int)=((hiW fun v=>o v&&!p v:Nat):Int) by
  rw [u64_andNot_nat _ _ (U1 o) (U1 p)];congr 1;exact Q0z _ _)
 unfold Qt Jz at *
 generalize (loW fun v=>o v&&!p v)=q0 at *
 generalize (hiW fun v=>o v&&!p v)=q1 at *
 generalize loW o=a0 at *
 generalize hiW o=a1 at *
 generalize loW p=b0 at *
 generalize hiW p=b1 at *
 clear hPost
 go_enter Tryz.func49,Tryz.ntmps49
 go_upto_region 1 with fail
 refine Qg ?_
 intro w1 hw1
 have HA:=Lib.hid (show w1.heap[w.heap.size]?=some (.cells #[.int .u64 (a0:Nat),.int .u64 (a1:Nat)] 55 (0,0)) by rw [hw1];exact (Yg w _ _ _).1)
 have HB:=Lib.hid (show w1.heap[w.heap.size+1]?=some (.cells #[.int .u64 (b0:Nat),.int .u64 (b1:Nat)] 55 (0,0)) by rw [hw1];exact (Yg w _ _ _).2.1)
 have HC:=Lib.hid (show w1.heap[w.heap.size+1+1]?=some (.cells #[.int .u64 0,.int .u64 0] 55 (0,0)) by rw [hw1];exact (Yg w _ _ _).2.2)
 have HL:=Lib.hid (show Below w.heap.size w w1 by rw [hw1];exact Yq w _ _ _)
 clear hw1
 have x0:=Q5 HA.out 0 rfl
 have x1:=Q5 HA.out 1 rfl
 have y0:=Q5 HB.out 0 rfl
 have y1:=Q5 HB.out 1 rfl
 have z0:=Q5 HC.out 0 rfl
 have z1:=Q5 HC.out 1 rfl
 have f0:=Qd HC.out 0
 have f1:=Qd HC.out 1
 go_wp2_with fail
 refine bodyPost_ret (Qs (p:=4) rfl _ _ (w.heap.size+1+1) _ _ (0,0) _ rfl (Zg HC.out) Tryz.underlying55 rfl Tryz.sizeSetO) rfl ?_
 rw [HP.out,←E0.out,←E1.out]
 exact ⟨rfl,HL.out.trans (Kt (by omega))⟩
end
/- Sets of variables: With,Of,All,Sub. -/
section
open Go.RowKit
set_option maxHeartbeats 1600000 in
set_option maxRecDepth 100000 in
theorem Q4r (v:Int) (h:v<1∨128<v):Gives 88 #[.int .i64 v] (.tuple #[.int .i64 0,.int .u64 0,.bool false]):=by
 intro w
 by_cases h1:v<1
 ·have d1:decide (v<1)=true:=decide_eq_true h1
  clear h
  go_enter Tryz.func88,Tryz.ntmps88
  go_wp2_with fail
  go_ret3
  exact ⟨rfl,Below.refl _ _⟩
 ·have h2:128<v:=by omega
  have d1:decide (v<1)=false:=decide_eq_false h1
  have d2:decide (128<v)=true:=decide_eq_true h2
  clear h
  go_enter Tryz.func88,Tryz.ntmps88
  go_wp2_with fail
  go_ret3
  exact ⟨rfl,Below.refl _ _⟩
theorem behindSet {w:World} {b o:Nat} {v:Value}:Behind w [b] (w.setCell ⟨b,o,none⟩ v):=⟨rfl,rfl,rfl,by simp,fun k _ hk=>heap_setCell_other _ _ _ _ (by simpa using hk)⟩
def Kj (o:Nat→Bool) (v:Int):Nat→Bool:=fun u=>o u||decide ((u:Int)=v)
theorem lo_with (o:Nat→Bool) (u:Nat) (hu:u<64):loW (Kj o ((u:Int)+1))=loW o ||| 2^u:=by
 unfold loW
 symm
 refine Hz (Nat.or_lt_two_pow (Z5 _ 64) (Nat.pow_lt_pow_right (by omega) hu)) fun i hi=>?_
 rw [Nat.testBit_or,Y7,decide_eq_true hi,Bool.true_and,Nat.testBit_two_pow]
 unfold Kj
 congr 1
 exact decide_eq_decide.2 (by omega)
theorem hi_with (o:Nat→Bool) (u:Nat) (hu:u<64):hiW (Kj o ((u:Int)+65))=hiW o ||| 2^u:=by
 unfold hiW
 symm
 refine Hz (Nat.or_lt_two_pow (Z5 _ 64) (Nat.pow_lt_pow_right (by omega) hu)) fun i hi=>?_
 rw [Nat.testBit_or,Y7,decide_eq_true hi,Bool.true_and,Nat.testBit_two_pow]
 unfold Kj
 congr 1
 exact decide_eq_decide.2 (by omega)
theorem lo_same (o:Nat→Bool) (v:Int) (h:v<1∨64<v):loW (Kj o v)=loW o:=Za fun i hi=>by
 unfold Kj
 rw [decide_eq_false (by omega),Bool.or_false]
theorem hi_same (o:Nat→Bool) (v:Int) (h:v<65∨128<v):hiW (Kj o v)=hiW o:=Za fun i hi=>by
 unfold Kj
 rw [decide_eq_false (by omega),Bool.or_false]
set_option maxHeartbeats 1600000 in
set_option maxRecDepth 100000 in
theorem gWith (o:Nat→Bool) (v:Int):Gives 58 #[Qt o,.int .i64 v] (Qt (Kj o v)):=by
 intro w
 obtain ⟨Post,hPost⟩:∃ P:Ending→World→Prop,P=fun e w'=>e = .returned (Qt (Kj o v))∧Below w.heap.size w w':=⟨_,rfl⟩
 rw [←hPost]
 have HP:=Lib.hid hPost
 have L0:=Vu o
 have L1:=U1 o
 by_cases hin:v<1∨128<v
 ·have KP:=Q4r v hin
  have E:=Lib.hid (show Qt (Kj o v)=Qt o by unfold Qt;rw [lo_same o v (by omega),hi_same o v (by omega)])
  unfold Qt Jz at *
  generalize loW o=a0 at *
  generalize hiW o=a1 at *
  clear hPost hin
  go_enter Tryz.func58,Tryz.ntmps58
  go_upto_region 1 with fail
  refine Qg ?_
  intro w1 hw1
  have HA:=Lib.hid (show w1.heap[w.heap.size]?=some (.cells #[.int .u64 (a0:Nat),.int .u64 (a1:Nat)] 55 (0,0)) by rw [hw1];exact Yp _ _ _)
  have HC:=Lib.hid (show w1.heap[w.heap.size+1]?=some (.cells #[.int .u64 0,.int .u64 0] 55 (0,0)) by rw [hw1];exact Yn _ _ _)
  have HL:=Lib.hid (show Below w.heap.size w w1 by rw [hw1];exact Jy _ _ _)
  clear hw1
  go_wp2_with fail
  refine (KP w1).mono ?_
  rintro e w2 ⟨rfl,hb⟩
  have HA2:=Lib.hid ((Q4 hb).keep HA.out (by simp))
  have HC2:=Lib.hid ((Q4 hb).keep HC.out (by simp))
  have HL2:=Lib.hid (HL.out.trans (hb.mono HL.out.size))
  clear hb HA HC HL KP
  have x0:=Q5 HA2.out 0 rfl
  have x1:=Q5 HA2.out 1 rfl
  have z0:=Q5 HC2.out 0 rfl
  have z1:=Q5 HC2.out 1 rfl
  have f0:=Qd HC2.out 0
  have f1:=Qd HC2.out 1
  go_wp2_with fail
  refine bodyPost_ret (Qs (p:=4) rfl _ _ (w.heap.size+1) _ _ (0,0) _ rfl (Zg HC2.out) Tryz.underlying55 rfl Tryz.sizeSetO) rfl ?_
  rw [HP.out,E.out]
  exact ⟨rfl,HL2.out.trans (Kt (by omega))⟩
 ·have KP:=gPlace v (by omega) (by omega)
  by_cases h:v≤64
  ·obtain ⟨u,hu1⟩:∃ u:Nat,v=(u:Int)+1:=⟨(v-1).toNat,by omega⟩
   have hu:u<64:=by omega
   have E:=Lib.hid (show Qt (Kj o v) = .agg #[.int .u64 (bits BinOp.or IntKind.u64 (loW o:Int) (IntKind.u64.wrap (2^u))),.int .u64 (hiW o:Nat)] by
    unfold Qt Jz
    rw [hu1,lo_with o u hu,hi_same o _ (by omega),Aq hu,u64_or_nat _ _ L0 (show 2^u<2^64 from Nat.pow_lt_pow_right (by omega) hu)])
   rw [if_pos h,if_pos h,show (v-1).toNat=u by omega] at KP
   generalize IntKind.u64.wrap (2^u)=mm at *
   unfold Qt Jz at *
   generalize loW o=a0 at *
   generalize hiW o=a1 at *
   clear hPost hin h hu1
   go_enter Tryz.func58,Tryz.ntmps58
   go_upto_region 1 with fail
   refine Qg ?_
   intro w1 hw1
   have HA:=Lib.hid (show w1.heap[w.heap.size]?=some (.cells #[.int .u64 (a0:Nat),.int .u64 (a1:Nat)] 55 (0,0)) by rw [hw1];exact Yp _ _ _)
   have HC:=Lib.hid (show w1.heap[w.heap.size+1]?=some (.cells #[.int .u64 0,.int .u64 0] 55 (0,0)) by rw [hw1];exact Yn _ _ _)
   have HL:=Lib.hid (show Below w.heap.size w w1 by rw [hw1];exact Jy _ _ _)
   clear hw1
   go_wp2_with fail
   refine (KP w1).mono ?_
   rintro e w2 ⟨rfl,hb⟩
   have HA2:=Lib.hid ((Q4 hb).keep HA.out (by simp))
   have HC2:=Lib.hid ((Q4 hb).keep HC.out (by simp))
   have HL2:=Lib.hid (HL.out.trans (hb.mono HL.out.size))
   clear hb HA HC HL KP
   have x0:=Q5 HA2.out 0 rfl
   have fx:=Qd HA2.out 0
   go_upto_region 4 with fail
   refine Qg ?_
   intro w3 hw3
   have HQ:Behind w2 [w.heap.size] w3:=by rw [hw3];exact behindSet
   have HA3:=Lib.hid (show w3.heap[w.heap.size]?=some (.cells #[.int .u64 (bits BinOp.or IntKind.u64 (a0:Int) mm),.int .u64 (a1:Nat)] 55 (0,0)) by
    rw [hw3];exact heap_setCell_same w2 w.heap.size 0 _ _ _ HA2.out)
   have HC3:=Lib.hid (HQ.keep HC2.out (by simp))
   have HL3:=Lib.hid (HL2.out.trans (HQ.below_of (fun k hk=>by simp at hk;omega) HL2.out.size))
   clear hw3 HQ x0 fx HA2 HC2 HL2
   have x0:=Q5 HA3.out 0 rfl
   have x1:=Q5 HA3.out 1 rfl
   have z0:=Q5 HC3.out 0 rfl
   have z1:=Q5 HC3.out 1 rfl
   have f0:=Qd HC3.out 0
   have f1:=Qd HC3.out 1
   go_wp2_with fail
   refine bodyPost_ret (Qs (p:=4) rfl _ _ (w.heap.size+1) _ _ (0,0) _ rfl (Zg HC3.out) Tryz.underlying55 rfl Tryz.sizeSetO) rfl ?_
   rw [HP.out,E.out]
   exact ⟨rfl,HL3.out.trans (Kt (by omega))⟩
  ·obtain ⟨u,hu1⟩:∃ u:Nat,v=(u:Int)+65:=⟨(v-65).toNat,by omega⟩
   have hu:u<64:=by omega
   have E:=Lib.hid (show Qt (Kj o v) = .agg #[.int .u64 (loW o:Nat),.int .u64 (bits BinOp.or IntKind.u64 (hiW o:Int) (IntKind.u64.wrap (2^u)))] by
    unfold Qt Jz
    rw [hu1,hi_with o u hu,lo_same o _ (by omega),Aq hu,u64_or_nat _ _ L1 (show 2^u<2^64 from Nat.pow_lt_pow_right (by omega) hu)])
   rw [if_neg h,if_neg h,show (v-65).toNat=u by omega] at KP
   generalize IntKind.u64.wrap (2^u)=mm at *
   unfold Qt Jz at *
   generalize loW o=a0 at *
   generalize hiW o=a1 at *
   clear hPost hin h hu1
   go_enter Tryz.func58,Tryz.ntmps58
   go_upto_region 1 with fail
   refine Qg ?_
   intro w1 hw1
   have HA:=Lib.hid (show w1.heap[w.heap.size]?=some (.cells #[.int .u64 (a0:Nat),.int .u64 (a1:Nat)] 55 (0,0)) by rw [hw1];exact Yp _ _ _)
   have HC:=Lib.hid (show w1.heap[w.heap.size+1]?=some (.cells #[.int .u64 0,.int .u64 0] 55 (0,0)) by rw [hw1];exact Yn _ _ _)
   have HL:=Lib.hid (show Below w.heap.size w w1 by rw [hw1];exact Jy _ _ _)
   clear hw1
   go_wp2_with fail
   refine (KP w1).mono ?_
   rintro e w2 ⟨rfl,hb⟩
   have HA2:=Lib.hid ((Q4 hb).keep HA.out (by simp))
   have HC2:=Lib.hid ((Q4 hb).keep HC.out (by simp))
   have HL2:=Lib.hid (HL.out.trans (hb.mono HL.out.size))
   clear hb HA HC HL KP
   have x0:=Q5 HA2.out 1 rfl
   have fx:=Qd HA2.out 1
   go_upto_region 4 with fail
   refine Qg ?_
   intro w3 hw3
   have HQ:Behind w2 [w.heap.size] w3:=by rw [hw3];exact behindSet
   have HA3:=Lib.hid (show w3.heap[w.heap.size]?=some (.cells #[.int .u64 (a0:Nat),.int .u64 (bits BinOp.or IntKind.u64 (a1:Int) mm)] 55 (0,0)) by
    rw [hw3];exact heap_setCell_same w2 w.heap.size 1 _ _ _ HA2.out)
   have HC3:=Lib.hid (HQ.keep HC2.out (by simp))
   have HL3:=Lib.hid (HL2.out.trans (HQ.below_of (fun k hk=>by simp at hk;omega) HL2.out.size))
   clear hw3 HQ x0 fx HA2 HC2 HL2
   have x0:=Q5 HA3.out 0 rfl
   have x1:=Q5 HA3.out 1 rfl
   have z0:=Q5 HC3.out 0 rfl
   have z1:=Q5 HC3.out 1 rfl
   have f0:=Qd HC3.out 0
   have f1:=Qd HC3.out 1
   go_wp2_with fail
   refine bodyPost_ret (Qs (p:=4) rfl _ _ (w.heap.size+1) _ _ (0,0) _ rfl (Zg HC3.out) Tryz.underlying55 rfl Tryz.sizeSetO) rfl ?_
   rw [HP.out,E.out]
   exact ⟨rfl,HL3.out.trans (Kt (by omega))⟩
end
/- Sets of variables: All,Of,Sub. -/
section
open Go.RowKit
theorem O4 {o p:Nat→Bool} (h:∀ v,1≤v→v≤128→o v=p v):Qt o=Qt p:=by
 obtain ⟨h1,h2⟩:=Az.2 h
 unfold Qt
 rw [h1,h2]
def Yr:Nat→Bool:=fun _=>false
theorem Q0s:∀ k,Ji (fun _=>false) k=0
 | 0=>rfl
 | k+1=>by rw [Ji,Q0s k];rfl
theorem V9:Qt Yr = .agg #[.int .u64 0,.int .u64 0]:=by
 unfold Qt Jz loW hiW Yr
 rw [Q0s];rfl
def Qy (k:Nat):Nat→Bool:=fun v=>decide (1≤v∧v≤k)
set_option maxHeartbeats 1600000 in
set_option maxRecDepth 100000 in
theorem gAll (n:Nat) (hn:n≤128):Gives 50 #[.int .i64 (n:Int)] (Qt (Qy n)):=by
 intro w
 obtain ⟨Post,hPost⟩:∃ P:Ending→World→Prop,P=fun e w'=>e = .returned (Qt (Qy n))∧Below w.heap.size w w':=⟨_,rfl⟩
 rw [←hPost]
 have HP:=Lib.hid hPost
 have hmin:min (n:Int) 128=(n:Int):=by omega
 clear hPost
 go_enter Tryz.func50,Tryz.ntmps50
 go_upto_region 2 with fail
 refine Qg ?_
 intro w1 hw1
 have HC:=Lib.hid (show w1.heap[w.heap.size]?=some (.cells #[.int .u64 0,.int .u64 0] 55 (0,0)) by rw [hw1];exact Yp _ _ _)
 have HS:=Lib.hid (show w1.heap[w.heap.size+1]?=some (.cells #[.int .u64 (loW (Qy 0):Nat),.int .u64 (hiW (Qy 0):Nat)] 55 (0,0)) by
  have e:Qt (Qy 0)=Qt Yr:=O4 fun v h1 h2=>by unfold Qy Yr;exact decide_eq_false (by omega)
  rw [V9] at e
  unfold Qt Jz at e
  have e1:(#[.int .u64 (loW (Qy 0):Nat),.int .u64 (hiW (Qy 0):Nat)]:Array Value)=#[.int .u64 0,.int .u64 0]:=by injection e
  rw [e1,hw1];exact Yn _ _ _)
 have HL:=Lib.hid (show Below w.heap.size w w1 by rw [hw1];exact Jy _ _ _)
 clear hw1
 go_wp2_with fail
 go_loopw [4] (fun t4 wr=>∃ v:Nat,v≤n∧t4 = .int .i64 ((v:Int)+1)∧Hid (wr.heap[w.heap.size+1]?=some (.cells #[.int .u64 (loW (Qy v):Nat),.int .u64 (hiW (Qy v):Nat)] 55 (0,0)))∧Hid (wr.heap[w.heap.size]?=some (.cells #[.int .u64 0,.int .u64 0] 55 (0,0)))∧Hid (Below w.heap.size w wr)) (fun t4 _=>n+1-(intOf t4).toNat)
 case atStart=>exact ⟨0,Nat.zero_le _,rfl,HS.out,HC.out,HL.out⟩
 case round =>
  obtain ⟨v,hv,rfl,HSr,HCr,HLr⟩:=hrel
  clear HS HC HL
  obtain ⟨wq,hwq⟩:∃ wq,wq=wr:=⟨_,rfl⟩
  rw [←hwq] at HSr HCr HLr ⊢
  clear hwq
  by_cases hlt:v<n
  ·have d1:decide ((v:Int)+1≤(n:Int))=true:=decide_eq_true (by omega)
   have d2:decide ((v:Int)<(n:Int))=true:=decide_eq_true (by omega)
   have d3:decide (v<n)=true:=decide_eq_true hlt
   have d4:decide (v+1≤n)=true:=decide_eq_true hlt
   have KW:=gWith (Qy v) ((v:Int)+1)
   rw [show Qt (Kj (Qy v) ((v:Int)+1))=Qt (Qy (v+1)) from O4 fun u h1 h2=>by
    unfold Kj Qy
    by_cases e:u=v+1
    ·subst e;simp
    ·rw [decide_eq_false (show ¬ (u:Int)=(v:Int)+1 by omega),Bool.or_false];exact decide_eq_decide.2 (by omega)] at KW
   unfold Qt Jz at KW
   generalize loW (Qy v)=x0 at *
   generalize hiW (Qy v)=x1 at *
   obtain ⟨y0,hy0⟩:∃ y0,y0=loW (Qy (v+1)):=⟨_,rfl⟩
   obtain ⟨y1,hy1⟩:∃ y1,y1=hiW (Qy (v+1)):=⟨_,rfl⟩
   rw [←hy0,←hy1] at KW
   have Y0:=Lib.hid hy0
   have Y1:=Lib.hid hy1
   have s0:=Q5 HSr.out 0 rfl
   have s1:=Q5 HSr.out 1 rfl
   clear hy0 hy1
   go_wp2_with fail
   refine (KW wq).mono ?_
   rintro e w2 ⟨rfl,hb⟩
   have HS2:=Lib.hid ((Q4 hb).keep HSr.out (by simp))
   have HC2:=Lib.hid ((Q4 hb).keep HCr.out (by simp))
   have HL2:=Lib.hid (HLr.out.trans (hb.mono HLr.out.size))
   clear hb KW s0 s1 HSr HCr HLr
   have s0:=Q5 HS2.out 0 rfl
   have s1:=Q5 HS2.out 1 rfl
   have f0:=Qd HS2.out 0
   have f1:=Qd HS2.out 1
   have HQ:=Lib.hid (show Behind w2 [w.heap.size+1] ((w2.setCell ⟨w.heap.size+1,0,none⟩ (.int .u64 (y0:Nat))).setCell ⟨w.heap.size+1,1,none⟩ (.int .u64 (y1:Nat))) from behindSet.trans behindSet (fun k hk=>.inl hk))
   have HT:=Lib.hid (Zg (x:=.int .u64 (y0:Nat)) (y:=.int .u64 (y1:Nat)) HS2.out)
   go_wp2_with fail
   go_roundw
   case rel=>exact ⟨v+1,by omega,by go_num,by rw [←Y0.out,←Y1.out];exact HT.out,HQ.out.keep HC2.out (by simp),HL2.out.trans (HQ.out.below_of (fun k hk=>by simp at hk;omega) HL2.out.size)⟩
   case measure=>simp [intOf];omega
  ·obtain rfl:v=n:=by omega
   have d1:decide ((v:Int)+1≤(v:Int))=false:=decide_eq_false (by omega)
   have d2:decide ((v:Int)<(v:Int))=false:=decide_eq_false (by omega)
   have s0:=Q5 HSr.out 0 rfl
   have s1:=Q5 HSr.out 1 rfl
   have z0:=Q5 HCr.out 0 rfl
   have z1:=Q5 HCr.out 1 rfl
   have f0:=Qd HCr.out 0
   have f1:=Qd HCr.out 1
   go_wp2_with fail
   refine bodyPost_ret (Qs (p:=2) rfl _ _ w.heap.size _ _ (0,0) _ rfl (Zg HCr.out) Tryz.underlying55 rfl Tryz.sizeSetO) rfl ?_
   rw [HP.out]
   exact ⟨rfl,HLr.out.trans (Kt (Nat.le_refl _))⟩
end
/- Two sets are compared. -/
section
open Go.RowKit
theorem Q8m (a b c d:Int) (w:World):(Op.equalIn 10000 55 (.agg #[.int .u64 a,.int .u64 b]) (.agg #[.int .u64 c,.int .u64 d])).run Tryz.prog w = .ok (a == c&&b == d) w:=by
 rw [show (10000:Nat)=9998+1+1 from rfl,Op.equalIn]
 have h1:∀ x y:Int,(Op.equalIn 9999 28 (.int .u64 x) (.int .u64 y)).run Tryz.prog w = .ok (x == y) w:=fun x y=>run_equalIn_int w 9998 28 .u64 .u64 x y Tryz.underlying28
 have p1:∀ (x y:Value) (w:World),(part 28 #[x,y] 0).run Tryz.prog w = .ok x w:=fun x y w=>by go_simp
 have p2:∀ (x y:Value) (w:World),(part 28 #[x,y] 1).run Tryz.prog w = .ok y w:=fun x y w=>by go_simp
 simp [run_underlying Tryz.underlying55,h1,p1,p2,forIn,List.range',Sem.run_bind,Sem.run_ite]
 by_cases h2:a=c<;>by_cases h3:b=d<;>simp [h2,h3]
end
/- Sets of variables: Of,Sub. -/
section
open Go.RowKit
def Zk (l:List Int):Nat→Bool:=fun u=>l.any fun x=>decide ((u:Int)=x)
theorem Xj {l:List Int} {i:Nat} {x:Int} (h:l[i]?=some x):l.take (i+1)=l.take i++[x]:=by
 obtain ⟨hi,rfl⟩:=List.getElem?_eq_some_iff.1 h
 rw [List.take_succ_eq_append_getElem hi]
set_option maxHeartbeats 1600000 in
set_option maxRecDepth 100000 in
theorem gOfS (l:List Int) (p:Option Addr) (c:Nat) (w:World) (hA:AtN w.heap.size w p (Qm l)) (hl:l.length≤140737488355328):Calls Tryz.prog 69 #[.slice p l.length c] w fun e w'=>e = .returned (Qt (Zk l))∧Below w.heap.size w w':=by
 obtain ⟨Post,hPost⟩:∃ P:Ending→World→Prop,P=fun e w'=>e = .returned (Qt (Zk l))∧Below w.heap.size w w':=⟨_,rfl⟩
 rw [←hPost]
 have HP:=Lib.hid hPost
 have HAT:=Lib.hid hA
 clear hPost hA
 go_enter Tryz.func69,Tryz.ntmps69
 go_upto_region 2 with fail
 refine Qg ?_
 intro w1 hw1
 have HC:=Lib.hid (show w1.heap[w.heap.size]?=some (.cells #[.int .u64 0,.int .u64 0] 55 (0,0)) by rw [hw1];exact Yp _ _ _)
 have HS:=Lib.hid (show w1.heap[w.heap.size+1]?=some (.cells #[.int .u64 (loW (Zk (l.take 0)):Nat),.int .u64 (hiW (Zk (l.take 0)):Nat)] 55 (0,0)) by
  have e:Qt (Zk (l.take 0))=Qt Yr:=O4 fun v h1 h2=>by simp [Zk,Yr]
  rw [V9] at e
  unfold Qt Jz at e
  have e1:(#[.int .u64 (loW (Zk (l.take 0)):Nat),.int .u64 (hiW (Zk (l.take 0)):Nat)]:Array Value)=#[.int .u64 0,.int .u64 0]:=by injection e
  rw [e1,hw1];exact Yn _ _ _)
 have HL:=Lib.hid (show Below w.heap.size w w1 by rw [hw1];exact Jy _ _ _)
 clear hw1
 go_wp2_with fail
 go_loopw [8] (fun t8 wr=>∃ i:Nat,i≤l.length∧t8 = .int .i64 i∧Hid (wr.heap[w.heap.size+1]?=some (.cells #[.int .u64 (loW (Zk (l.take i)):Nat),.int .u64 (hiW (Zk (l.take i)):Nat)] 55 (0,0)))∧Hid (wr.heap[w.heap.size]?=some (.cells #[.int .u64 0,.int .u64 0] 55 (0,0)))∧Hid (Below w.heap.size w wr)) (fun t8 _=>l.length-(intOf t8).toNat)
 case atStart=>exact ⟨0,Nat.zero_le _,rfl,HS.out,HC.out,HL.out⟩
 case round =>
  obtain ⟨i,hi,rfl,HSr,HCr,HLr⟩:=hrel
  clear HS HC HL
  obtain ⟨wq,hwq⟩:∃ wq,wq=wr:=⟨_,rfl⟩
  rw [←hwq] at HSr HCr HLr ⊢
  clear hwq
  by_cases hlt:i<l.length
  ·have d1:decide ((i:Int)<(l.length:Int))=true:=decide_eq_true (by omega)
   have d2:decide (i<l.length)=true:=decide_eq_true hlt
   obtain ⟨x,hx⟩:∃ x,l[i]?=some x:=⟨_,List.getElem?_eq_getElem hlt⟩
   obtain ⟨b1,o1,_,ea,kx⟩:=(HAT.out.below HLr.out (Nat.le_refl _)) i _ (Jb l i x hx)
   have KW:=gWith (Zk (l.take i)) x
   rw [show Qt (Kj (Zk (l.take i)) x)=Qt (Zk (l.take (i+1))) from O4 fun u h1 h2=>by
    unfold Kj Zk
    rw [Xj hx,List.any_append]
    simp] at KW
   unfold Qt Jz at KW
   generalize loW (Zk (l.take i))=x0 at *
   generalize hiW (Zk (l.take i))=x1 at *
   obtain ⟨y0,hy0⟩:∃ y0,y0=loW (Zk (l.take (i+1))):=⟨_,rfl⟩
   obtain ⟨y1,hy1⟩:∃ y1,y1=hiW (Zk (l.take (i+1))):=⟨_,rfl⟩
   rw [←hy0,←hy1] at KW
   have Y0:=Lib.hid hy0
   have Y1:=Lib.hid hy1
   have s0:=Q5 HSr.out 0 rfl
   have s1:=Q5 HSr.out 1 rfl
   subst ea
   clear hy0 hy1 hx
   go_wp2_with fail
   refine (KW wq).mono ?_
   rintro e w2 ⟨rfl,hb⟩
   have HS2:=Lib.hid ((Q4 hb).keep HSr.out (by simp))
   have HC2:=Lib.hid ((Q4 hb).keep HCr.out (by simp))
   have HL2:=Lib.hid (HLr.out.trans (hb.mono HLr.out.size))
   clear hb KW s0 s1 HSr HCr HLr kx
   have s0:=Q5 HS2.out 0 rfl
   have s1:=Q5 HS2.out 1 rfl
   have f0:=Qd HS2.out 0
   have f1:=Qd HS2.out 1
   have HQ:=Lib.hid (show Behind w2 [w.heap.size+1] ((w2.setCell ⟨w.heap.size+1,0,none⟩ (.int .u64 (y0:Nat))).setCell ⟨w.heap.size+1,1,none⟩ (.int .u64 (y1:Nat))) from behindSet.trans behindSet (fun k hk=>.inl hk))
   have HT:=Lib.hid (Zg (x:=.int .u64 (y0:Nat)) (y:=.int .u64 (y1:Nat)) HS2.out)
   go_wp2_with fail
   go_roundw
   case rel=>exact ⟨i+1,by omega,by go_num,by rw [←Y0.out,←Y1.out];exact HT.out,HQ.out.keep HC2.out (by simp),HL2.out.trans (HQ.out.below_of (fun k hk=>by simp at hk;omega) HL2.out.size)⟩
   case measure=>simp [intOf];omega
  ·obtain rfl:i=l.length:=by omega
   have d1:decide ((l.length:Int)<(l.length:Int))=false:=decide_eq_false (by omega)
   rw [List.take_length] at HSr
   have s0:=Q5 HSr.out 0 rfl
   have s1:=Q5 HSr.out 1 rfl
   have z0:=Q5 HCr.out 0 rfl
   have z1:=Q5 HCr.out 1 rfl
   have f0:=Qd HCr.out 0
   have f1:=Qd HCr.out 1
   go_wp2_with fail
   refine bodyPost_ret (Qs (p:=2) rfl _ _ w.heap.size _ _ (0,0) _ rfl (Zg HCr.out) Tryz.underlying55 rfl Tryz.sizeSetO) rfl ?_
   rw [HP.out]
   exact ⟨rfl,HLr.out.trans (Kt (Nat.le_refl _))⟩
def Q0b (o p:Nat→Bool):Bool:=(List.range' 1 128).all fun v=>!o v||p v
theorem sub_none (o p:Nat→Bool):Q0b o p=true↔Qt (fun v=>o v&&!p v)=Qt Yr:=by
 unfold Q0b
 rw [List.all_eq_true]
 constructor
 ·intro h
  refine O4 fun v h1 h2=>?_
  have:=h v (by simp [List.mem_range'_1];omega)
  unfold Yr
  cases ho:o v<;>cases hp:p v<;>simp [ho,hp] at this ⊢
 ·intro h v hv
  unfold Qt Jz at h
  have h2:loW (fun v=>o v&&!p v)=loW Yr∧hiW (fun v=>o v&&!p v)=hiW Yr:=by
   injection h with h3
   have h4:=congrArg Array.toList h3
   simp only [List.cons.injEq,Value.int.injEq,true_and,and_true] at h4
   omega
  have:=Az.1 h2 v (by simp [List.mem_range'_1] at hv;omega) (by simp [List.mem_range'_1] at hv;omega)
  unfold Yr at this
  cases ho:o v<;>cases hp:p v<;>simp [ho,hp] at this ⊢
set_option maxHeartbeats 1600000 in
set_option maxRecDepth 100000 in
theorem gSubO (o p:Nat→Bool):Gives 61 #[Qt o,Qt p] (.bool (Q0b o p)):=by
 intro w
 obtain ⟨Post,hPost⟩:∃ P:Ending→World→Prop,P=fun e w'=>e = .returned (.bool (Q0b o p))∧Below w.heap.size w w':=⟨_,rfl⟩
 rw [←hPost]
 have HP:=Lib.hid hPost
 have KM:=Q2m o p
 have HSN:=Lib.hid (sub_none o p)
 rw [V9] at HSN
 generalize Q0b o p=r at *
 unfold Qt Jz at *
 generalize (loW fun v=>o v&&!p v)=q0 at *
 generalize (hiW fun v=>o v&&!p v)=q1 at *
 generalize loW o=a0 at *
 generalize hiW o=a1 at *
 generalize loW p=b0 at *
 generalize hiW p=b1 at *
 clear hPost
 have hq:(Value.agg #[.int .u64 (q0:Nat),.int .u64 (q1:Nat)]=Value.agg #[.int .u64 0,.int .u64 0])↔(q0=0∧q1=0):=by
  constructor
  ·intro h
   injection h with h3
   have h4:=congrArg Array.toList h3
   simp only [List.cons.injEq,Value.int.injEq,true_and,and_true] at h4
   omega
  ·rintro ⟨rfl,rfl⟩;rfl
 have HR:=Lib.hid (HSN.out.trans hq)
 clear hq HSN
 go_enter Tryz.func61,Tryz.ntmps61
 go_wp2_with fail
 refine Uj fun w1 hw1=>?_
 have HB1:=Lib.hid (show Below w.heap.size w w1 by rw [hw1];exact Jy _ _ _)
 clear hw1
 refine (KM w1).mono ?_
 rintro e w2 ⟨rfl,hb⟩
 have HB2:=Lib.hid (HB1.out.trans (hb.mono HB1.out.size))
 clear hb KM HB1
 cases r with
 | true =>
  obtain ⟨rfl,rfl⟩:=HR.out.1 rfl
  have hes:∀ w,(Op.equalIn 10000 55 (.agg #[.int .u64 0,.int .u64 0]) (.agg #[.int .u64 0,.int .u64 0])).run Tryz.prog w = .ok true w:=fun w=>Q8m 0 0 0 0 w
  go_wp2_with fail
  rw [HP.out]
  exact ⟨rfl,HB2.out⟩
 | false =>
  have hn:¬ (q0=0∧q1=0):=fun h=>by have:=HR.out.2 h;cases this
  have hes:∀ w,(Op.equalIn 10000 55 (.agg #[.int .u64 (q0:Nat),.int .u64 (q1:Nat)]) (.agg #[.int .u64 0,.int .u64 0])).run Tryz.prog w = .ok false w:=fun w=>by
   rw [Q8m]
   congr 1
   by_cases h0:q0=0
   ·have h1:q1≠0:=fun h=>hn ⟨h0,h⟩
    rw [Bool.and_eq_false_iff]
    exact .inr (J7 (by omega))
   ·rw [Bool.and_eq_false_iff]
    exact .inl (J7 (by omega))
  clear hn
  go_wp2_with fail
  rw [HP.out]
  exact ⟨rfl,HB2.out⟩
end
/- Theories in memory,and when they are valid. -/
section
open Go.RowKit
def ThAt (N:Nat) (w:World) (a:Option Addr) (L:List (List Int)):Prop:=∀ i xs,L[i]?=some xs→∃ b o p c,b<N∧a=some ⟨b,o,none⟩∧w.cell? ⟨b,o+i,none⟩=some (.slice p xs.length c)∧AtN N w p (Qm xs)
theorem ThAt.below {N M:Nat} {w w':World} {a:Option Addr} {L:List (List Int)} (h:ThAt N w a L) (hb:Below M w w') (hM:N≤M):ThAt N w' a L:=fun i xs hi=>by
 obtain ⟨b,o,p,c,h1,ha,hc,hx⟩:=h i xs hi
 exact ⟨b,o,p,c,h1,ha,Q8 hb (by omega) hc,hx.below hb hM⟩
def Q3m (n:Int):List (List Int)→Int
 | []=>0
 | c::L=>if 128<c.length then 2 else if c.all (fun x=>Jk x n) then Q3m n L else 1
def Kz (n:Int) (L:List (List Int)):Int:=if n<0∨128<n then 6 else if 4096<L.length then 2 else Q3m n L
theorem all_take {l:List Int} {p:Int→Bool} {i:Nat} {x:Int} (h:l[i]?=some x):(l.take (i+1)).all p=((l.take i).all p&&p x):=by
 rw [Xj h,List.all_append];simp
set_option maxHeartbeats 3200000 in
set_option maxRecDepth 100000 in
theorem Q62 (n:Int) (L:List (List Int)) (aL:Option Addr) (cL:Nat) (w:World) (hA:ThAt w.heap.size w aL L) (hl:L.length≤140737488355328) :
  Calls Tryz.prog 25 #[.agg #[.int .i64 n,.slice aL L.length cL]] w fun e w'=>e = .returned (.int .i64 (Kz n L))∧Below w.heap.size w w':=by
 obtain ⟨Post,hPost⟩:∃ P:Ending→World→Prop,P=fun e w'=>e = .returned (.int .i64 (Kz n L))∧Below w.heap.size w w':=⟨_,rfl⟩
 rw [←hPost]
 have HP:=Lib.hid (show ∀ (r:Int) (w':World),Kz n L=r→Below w.heap.size w w'→Post (.returned (.int .i64 r)) w' from fun r w' h hb=>by rw [hPost];exact ⟨by rw [h],hb⟩)
 have HA:=Lib.hid hA
 have HR:=Lib.hid (show Kz n L=if n<0∨128<n then 6 else if 4096<L.length then 2 else Q3m n L from rfl)
 clear hPost hA
 go_enter Tryz.func25,Tryz.ntmps25
 go_upto_region 1 with fail
 refine Qg ?_
 intro w1 hw1
 have S1:=Lib.hid (show w1.heap[w.heap.size]?=some (.cells #[.int .i64 n,.slice aL L.length cL] 24 (0,0)) by rw [hw1];exact Qn _ _)
 have HB1:=Lib.hid (show Below w.heap.size w w1 by rw [hw1];exact Qe _ _)
 clear hw1
 have q0:=Q5 S1.out 0 rfl
 have q1:=Q5 S1.out 1 rfl
 by_cases hneg:n<0
 ·have hd:decide (n<0)=true:=decide_eq_true hneg
  have HF:=Lib.hid (HR.out.trans (if_pos (.inl hneg)))
  go_wp2_with fail
  exact HP.out _ _ HF.out HB1.out
 have hd:decide (n<0)=false:=decide_eq_false hneg
 by_cases hbig:128<n
 ·have hd2:decide (128<n)=true:=decide_eq_true hbig
  have HF:=Lib.hid (HR.out.trans (if_pos (.inr hbig)))
  go_wp2_with fail
  exact HP.out _ _ HF.out HB1.out
 have hd2:decide (128<n)=false:=decide_eq_false hbig
 have HR2:=Lib.hid (HR.out.trans (if_neg (by omega)))
 by_cases hlong:4096<L.length
 ·have hd4:decide (4096<L.length)=true:=decide_eq_true hlong
  have hd5:decide ((4096:Int)<(L.length:Int))=true:=decide_eq_true (by omega)
  have HF:=Lib.hid (HR2.out.trans (if_pos hlong))
  go_wp2_with fail
  exact HP.out _ _ HF.out HB1.out
 have hd4:decide (4096<L.length)=false:=decide_eq_false hlong
 have hd5:decide ((4096:Int)<(L.length:Int))=false:=decide_eq_false (by omega)
 have HR3:=Lib.hid (HR2.out.trans (if_neg hlong))
 have hL4:L.length≤4096:=by omega
 have hn8:n≤128:=by omega
 clear HR HR2 hneg hbig hlong
 go_wp2_with fail
 go_loopw [22] (fun t22 wr=>∃ j:Nat,j≤L.length∧t22 = .int .i64 j∧Hid (Kz n L=Q3m n (L.drop j))∧Hid (Below w1.heap.size w1 wr)) (fun t22 _=>L.length-(intOf t22).toNat)
 case atStart=>exact ⟨0,Nat.zero_le _,rfl,HR3.out,Below.refl _ _⟩
 case round =>
  obtain ⟨j,hj,rfl,HG,HB⟩:=hrel
  obtain ⟨wq,hwq⟩:∃ wq,wq=wr:=⟨_,rfl⟩
  rw [←hwq] at HB ⊢
  clear hwq q0 q1
  by_cases hlt:j<L.length
  ·have hdd:decide (j<L.length)=true:=decide_eq_true hlt
   have hdd2:decide ((j:Int)<(L.length:Int))=true:=decide_eq_true (by omega)
   obtain ⟨xs,hxs⟩:∃ xs,L[j]?=some xs:=⟨_,List.getElem?_eq_getElem hlt⟩
   have hdr:L.drop j=xs::L.drop (j+1):=by
    obtain ⟨h1,h2⟩:=List.getElem?_eq_some_iff.1 hxs
    rw [List.drop_eq_getElem_cons hlt,h2]
   obtain ⟨b1,o1,p1,c1,hb1,e1,k0,hat⟩:=(HA.out.below HB1.out (Nat.le_refl _)) j xs hxs
   have k1:=Q8 HB.out (Nat.lt_of_lt_of_le hb1 HB1.out.size) k0
   have HAT:=Lib.hid hat
   have HG2:=Lib.hid (show Kz n L=if 128<xs.length then 2 else if xs.all (fun x=>Jk x n) then Q3m n (L.drop (j+1)) else 1 from HG.out.trans (by rw [hdr];rfl))
   subst e1
   clear hxs hdr hat
   by_cases h128:128<xs.length
   ·have h1:decide (128<xs.length)=true:=decide_eq_true h128
    have h2:decide ((128:Int)<(xs.length:Int))=true:=decide_eq_true (by omega)
    have HF:=Lib.hid (HG2.out.trans (if_pos h128))
    go_wp2_with fail
    exact HP.out _ _ HF.out (HB1.out.trans (HB.out.mono HB1.out.size))
   have h1:decide (128<xs.length)=false:=decide_eq_false h128
   have h2:decide ((128:Int)<(xs.length:Int))=false:=decide_eq_false (by omega)
   have HG3:=Lib.hid (HG2.out.trans (if_neg h128))
   have hx8:xs.length≤128:=by omega
   clear HG2 HG h128
   go_wp2_with fail
   go_loopw [31] (fun t31 wy=>∃ k:Nat,k≤xs.length∧t31 = .int .i64 k∧Hid ((xs.take k).all (fun x=>Jk x n)=true)∧Hid (Below w1.heap.size w1 wy)) (fun t31 _=>xs.length-(intOf t31).toNat)
   case atStart=>exact ⟨0,Nat.zero_le _,rfl,rfl,HB.out⟩
   case round =>
    obtain ⟨k,hk,rfl,HZ,HBk⟩:=hrel
    obtain ⟨wz,hwz⟩:∃ wz,wz=wr:=⟨_,rfl⟩
    rw [←hwz] at HBk ⊢
    clear hwz
    have SK:=Lib.hid ((Q4 HBk.out).keep S1.out (by simp))
    have q0:=Q5 SK.out 0 rfl
    have q1:=Q5 SK.out 1 rfl
    by_cases hlk:k<xs.length
    ·have hdk:decide (k<xs.length)=true:=decide_eq_true hlk
     have hdk2:decide ((k:Int)<(xs.length:Int))=true:=decide_eq_true (by omega)
     obtain ⟨z,hz⟩:∃ z,xs[k]?=some z:=⟨_,List.getElem?_eq_getElem hlk⟩
     obtain ⟨b2,o2,hb2,e2,k2⟩:=HAT.out k _ (Jb xs k z hz)
     have HT:=Lib.hid (all_take (p:=fun x=>Jk x n) hz)
     have HMM:=Lib.hid (List.mem_of_getElem? hz)
     have KV:=gValid z n hn8
     obtain ⟨vb,hvb⟩:∃ vb,vb=Jk z n:=⟨_,rfl⟩
     rw [←hvb] at KV HT
     have HVB:=Lib.hid hvb
     subst e2
     have d2:=Q8 HBk.out (Nat.lt_of_lt_of_le hb2 HB1.out.size) k2
     clear hz hvb k2
     go_wp2_with fail
     refine (KV wz).mono ?_
     rintro e w4 ⟨rfl,hb⟩
     have HB4:=Lib.hid (HBk.out.trans (hb.mono HBk.out.size))
     clear hb KV d2 q0 q1
     cases vb with
     | false =>
      have hno:¬ xs.all (fun x=>Jk x n)=true:=fun h=>by
       have:=List.all_eq_true.1 h z HMM.out
       rw [←HVB.out] at this;cases this
      have HF:=Lib.hid (HG3.out.trans (if_neg hno))
      clear hno
      go_wp2_with fail
      exact HP.out _ _ HF.out (HB1.out.trans (HB4.out.mono HB1.out.size))
     | true =>
      have HZ2:=Lib.hid (show (xs.take (k+1)).all (fun x=>Jk x n)=true by rw [HT.out,HZ.out];rfl)
      go_wp2_with fail
      go_roundw
      case rel=>exact ⟨k+1,by omega,by go_num,HZ2.out,HB4.out⟩
      case measure=>simp [intOf];omega
    ·have hdk:decide (k<xs.length)=false:=decide_eq_false hlk
     have hdk2:decide ((k:Int)<(xs.length:Int))=false:=decide_eq_false (by omega)
     have hke:k=xs.length:=by omega
     have hz:=HZ.out
     rw [hke,List.take_length] at hz
     have HG4:=Lib.hid (HG3.out.trans (if_pos hz))
     clear hz hke
     go_wp2_with fail
     go_roundw
     case rel=>exact ⟨j+1,by omega,by go_num,HG4.out,HBk.out⟩
     case measure=>simp [intOf];omega
  ·have hdd:decide (j<L.length)=false:=decide_eq_false hlt
   have hdd2:decide ((j:Int)<(L.length:Int))=false:=decide_eq_false (by omega)
   have HF:=Lib.hid (show Kz n L=0 by rw [HG.out,List.drop_of_length_le (by omega)];rfl)
   go_wp2_with fail
   exact HP.out _ _ HF.out (HB1.out.trans (HB.out.mono HB1.out.size))
end
/- Small words: their ones are counted. -/
section
open Go.RowKit
set_option maxHeartbeats 1600000 in
set_option maxRecDepth 100000 in
theorem ones0:Gives 149 #[.int .u64 0] (.int .i64 0):=by
 intro w
 go_enter Tryz.func149,Tryz.ntmps149
 go_wp2_with fail
 go_ret
 exact ⟨by kernel_rfl,Below.refl _ _⟩
set_option maxHeartbeats 1600000 in
set_option maxRecDepth 100000 in
theorem ones1:Gives 149 #[.int .u64 1] (.int .i64 1):=by
 intro w
 go_enter Tryz.func149,Tryz.ntmps149
 go_wp2_with fail
 go_ret
 exact ⟨by kernel_rfl,Below.refl _ _⟩
set_option maxHeartbeats 1600000 in
set_option maxRecDepth 100000 in
theorem ones2:Gives 149 #[.int .u64 2] (.int .i64 1):=by
 intro w
 go_enter Tryz.func149,Tryz.ntmps149
 go_wp2_with fail
 go_ret
 exact ⟨by kernel_rfl,Below.refl _ _⟩
set_option maxHeartbeats 1600000 in
set_option maxRecDepth 100000 in
theorem ones3:Gives 149 #[.int .u64 3] (.int .i64 2):=by
 intro w
 go_enter Tryz.func149,Tryz.ntmps149
 go_wp2_with fail
 go_ret
 exact ⟨by kernel_rfl,Below.refl _ _⟩
set_option maxHeartbeats 1600000 in
set_option maxRecDepth 100000 in
theorem ones4:Gives 149 #[.int .u64 4] (.int .i64 1):=by
 intro w
 go_enter Tryz.func149,Tryz.ntmps149
 go_wp2_with fail
 go_ret
 exact ⟨by kernel_rfl,Below.refl _ _⟩
set_option maxHeartbeats 1600000 in
set_option maxRecDepth 100000 in
theorem ones5:Gives 149 #[.int .u64 5] (.int .i64 2):=by
 intro w
 go_enter Tryz.func149,Tryz.ntmps149
 go_wp2_with fail
 go_ret
 exact ⟨by kernel_rfl,Below.refl _ _⟩
set_option maxHeartbeats 1600000 in
set_option maxRecDepth 100000 in
theorem ones6:Gives 149 #[.int .u64 6] (.int .i64 2):=by
 intro w
 go_enter Tryz.func149,Tryz.ntmps149
 go_wp2_with fail
 go_ret
 exact ⟨by kernel_rfl,Below.refl _ _⟩
set_option maxHeartbeats 1600000 in
set_option maxRecDepth 100000 in
theorem ones7:Gives 149 #[.int .u64 7] (.int .i64 3):=by
 intro w
 go_enter Tryz.func149,Tryz.ntmps149
 go_wp2_with fail
 go_ret
 exact ⟨by kernel_rfl,Below.refl _ _⟩
set_option maxHeartbeats 1600000 in
set_option maxRecDepth 100000 in
theorem ones8:Gives 149 #[.int .u64 8] (.int .i64 1):=by
 intro w
 go_enter Tryz.func149,Tryz.ntmps149
 go_wp2_with fail
 go_ret
 exact ⟨by kernel_rfl,Below.refl _ _⟩
set_option maxHeartbeats 1600000 in
set_option maxRecDepth 100000 in
theorem ones9:Gives 149 #[.int .u64 9] (.int .i64 2):=by
 intro w
 go_enter Tryz.func149,Tryz.ntmps149
 go_wp2_with fail
 go_ret
 exact ⟨by kernel_rfl,Below.refl _ _⟩
set_option maxHeartbeats 1600000 in
set_option maxRecDepth 100000 in
theorem ones10:Gives 149 #[.int .u64 10] (.int .i64 2):=by
 intro w
 go_enter Tryz.func149,Tryz.ntmps149
 go_wp2_with fail
 go_ret
 exact ⟨by kernel_rfl,Below.refl _ _⟩
set_option maxHeartbeats 1600000 in
set_option maxRecDepth 100000 in
theorem ones11:Gives 149 #[.int .u64 11] (.int .i64 3):=by
 intro w
 go_enter Tryz.func149,Tryz.ntmps149
 go_wp2_with fail
 go_ret
 exact ⟨by kernel_rfl,Below.refl _ _⟩
set_option maxHeartbeats 1600000 in
set_option maxRecDepth 100000 in
theorem ones12:Gives 149 #[.int .u64 12] (.int .i64 2):=by
 intro w
 go_enter Tryz.func149,Tryz.ntmps149
 go_wp2_with fail
 go_ret
 exact ⟨by kernel_rfl,Below.refl _ _⟩
set_option maxHeartbeats 1600000 in
set_option maxRecDepth 100000 in
theorem ones13:Gives 149 #[.int .u64 13] (.int .i64 3):=by
 intro w
 go_enter Tryz.func149,Tryz.ntmps149
 go_wp2_with fail
 go_ret
 exact ⟨by kernel_rfl,Below.refl _ _⟩
set_option maxHeartbeats 1600000 in
set_option maxRecDepth 100000 in
theorem ones14:Gives 149 #[.int .u64 14] (.int .i64 3):=by
 intro w
 go_enter Tryz.func149,Tryz.ntmps149
 go_wp2_with fail
 go_ret
 exact ⟨by kernel_rfl,Below.refl _ _⟩
set_option maxHeartbeats 1600000 in
set_option maxRecDepth 100000 in
theorem ones15:Gives 149 #[.int .u64 15] (.int .i64 4):=by
 intro w
 go_enter Tryz.func149,Tryz.ntmps149
 go_wp2_with fail
 go_ret
 exact ⟨by kernel_rfl,Below.refl _ _⟩
def Hy (o:Nat→Bool):Nat:=(if o 1 then 1 else 0)+(if o 2 then 1 else 0)+(if o 3 then 1 else 0)+(if o 4 then 1 else 0)
theorem gOnes:∀ b1 b2 b3 b4:Bool,Gives 149 #[.int .u64 ((if b1 then 1 else 0)+(if b2 then 2 else 0)+(if b3 then 4 else 0)+(if b4 then 8 else 0):Int)] (.int .i64 ((if b1 then 1 else 0)+(if b2 then 1 else 0)+(if b3 then 1 else 0)+(if b4 then 1 else 0):Int))
 | false,false,false,false=>ones0
 | true,false,false,false=>ones1
 | false,true,false,false=>ones2
 | true,true,false,false=>ones3
 | false,false,true,false=>ones4
 | true,false,true,false=>ones5
 | false,true,true,false=>ones6
 | true,true,true,false=>ones7
 | false,false,false,true=>ones8
 | true,false,false,true=>ones9
 | false,true,false,true=>ones10
 | true,true,false,true=>ones11
 | false,false,true,true=>ones12
 | true,false,true,true=>ones13
 | false,true,true,true=>ones14
 | true,true,true,true=>ones15
theorem lo_four {o:Nat→Bool} (h:∀ v,5≤v→o v=false):((loW o:Nat):Int)=(if o 1 then 1 else 0)+(if o 2 then 2 else 0)+(if o 3 then 4 else 0)+(if o 4 then 8 else 0):=by
 have e:∀ k,4≤k→Ji (fun i=>o (i+1)) k=Ji (fun i=>o (i+1)) 4:=fun k hk=>by
  induction k with
  | zero=>omega
  | succ k ih =>
   by_cases h4:k+1=4
   ·rw [h4]
   ·rw [Ji,ih (by omega),h (k+1) (by omega)];simp
 unfold loW
 rw [e 64 (by omega)]
 simp only [Ji]
 cases o 1<;>cases o 2<;>cases o 3<;>cases o 4<;>simp
theorem hi_four {o:Nat→Bool} (h:∀ v,5≤v→o v=false):hiW o=0:=by
 unfold hiW
 rw [Za (g:=fun _=>false) fun i _=>h (i+65) (by omega),Q0s]
set_option maxHeartbeats 1600000 in
set_option maxRecDepth 100000 in
theorem gLen4 (o:Nat→Bool) (h:∀ v,5≤v→o v=false):Gives 125 #[Qt o] (.int .i64 (Hy o:Nat)):=by
 intro w
 obtain ⟨Post,hPost⟩:∃ P:Ending→World→Prop,P=fun e w'=>e = .returned (.int .i64 (Hy o:Nat))∧Below w.heap.size w w':=⟨_,rfl⟩
 rw [←hPost]
 have HP:=Lib.hid hPost
 have K1:=gOnes (o 1) (o 2) (o 3) (o 4)
 rw [←lo_four h] at K1
 have K0:=ones0
 have HC:=Lib.hid (show ((if o 1 then 1 else 0)+(if o 2 then 1 else 0)+(if o 3 then 1 else 0)+(if o 4 then 1 else 0):Int)=(Hy o:Nat) by
  unfold Hy
  cases o 1<;>cases o 2<;>cases o 3<;>cases o 4<;>rfl)
 rw [HC.out] at K1
 have hb:Hy o≤4:=by unfold Hy;cases o 1<;>cases o 2<;>cases o 3<;>cases o 4<;>decide
 unfold Qt Jz
 rw [hi_four h]
 generalize Hy o=c at *
 generalize loW o=x0 at *
 clear hPost HC h
 go_enter Tryz.func125,Tryz.ntmps125
 go_upto_region 1 with fail
 refine Qg ?_
 intro w1 hw1
 have HA:=Lib.hid (show w1.heap[w.heap.size]?=some (.cells #[.int .u64 (x0:Nat),.int .u64 0] 55 (0,0)) by rw [hw1];exact Qn _ _)
 have HL:=Lib.hid (show Below w.heap.size w w1 by rw [hw1];exact Qe _ _)
 clear hw1
 have X0:=Lib.hid (Q5 HA.out 0 rfl)
 have X1:=Lib.hid (Q5 HA.out 1 rfl)
 have KK1:=Lib.hid K1
 have KK0:=Lib.hid K0
 clear K1 K0
 refine Qo (List.replicate 8 0) [] B0 Qu (Qi _) (by kernel_rfl) (by kernel_rfl) ?_
 refine Qb 8 (by kernel_rfl) (by rfl) ?_
 apply Exists.intro
 refine ⟨fun z hz=>?_,?_⟩
 ·have f0:=Q6 hz X0.out (by simp)
  have f1:=Q6 hz X1.out (by simp)
  clear hz
  simp only [List.take_succ_cons,List.take_zero]
  unfold Cx
  repeat (go_big_quiet_step (first | with_reducible exact KK1.out.at _ _ | with_reducible exact KK0.out.at _ _))
  exact wpQuiet_nil rfl
 simp only [List.drop_succ_cons,List.drop_zero]
 refine Qf ?_
 intro z hz _
 have HB:=Lib.hid (HL.out.trans (hz.below.mono HL.out.size))
 clear hz
 go_wp2_with fail
 rw [HP.out]
 refine ⟨?_,HB.out⟩
 simp
end
/- Sets of variables compared. -/
section
open Go.RowKit
def eqO (o p:Nat→Bool):Bool:=(List.range' 1 128).all fun v=>o v == p v
theorem Uq {o p:Nat→Bool}:eqO o p=true↔∀ v,1≤v→v≤128→o v=p v:=by
 unfold eqO
 rw [List.all_eq_true]
 constructor
 ·intro h v h1 h2
  simpa using h v (by simp [List.mem_range'_1];omega)
 ·intro h v hv
  have:=h v (by simp [List.mem_range'_1] at hv;omega) (by simp [List.mem_range'_1] at hv;omega)
  simpa using this
theorem eql_setO (o p:Nat→Bool) (w:World):(Op.equalIn 10000 55 (Qt o) (Qt p)).run Tryz.prog w = .ok (eqO o p) w:=by
 unfold Qt Jz
 rw [Q8m]
 congr 1
 apply Bool.eq_iff_iff.2
 rw [Uq,←Az,Bool.and_eq_true]
 constructor
 ·rintro ⟨h1,h2⟩
  have h1:=eq_of_beq h1
  have h2:=eq_of_beq h2
  exact ⟨by omega,by omega⟩
 ·rintro ⟨h1,h2⟩
  rw [h1,h2]
  exact ⟨by simp,by simp⟩
theorem Q26 (o:Nat→Bool) (w:World):(Op.equalIn 10000 55 (Qt o) (.agg #[.int .u64 0,.int .u64 0])).run Tryz.prog w = .ok (eqO o Yr) w:=by
 rw [←V9]
 exact eql_setO o Yr w
end
end Go.Proofs.YtcpehljpegfckaaGreatDoor
