/- Texts of this claim,joined: DE3,DE4,DE5,DE6,EC1,EC2. -/
import Derived.Test.YtcpehljpegfckaaGreatDoorMT40
import Derived.Deep.DeepCutAuto
import Derived.Test.YtcpehljpegfckaaGreatDoorMT35
import Derived.Laws.MakeOwn
import Derived.Test.YtcpehljpegfckaaGreatDoorMT11
/- node.Check. -/
namespace Go.Proofs.YtcpehljpegfckaaGreatDoor
section
open Go.RowKit Go.Sort
set_option maxHeartbeats 6400000 in
set_option maxRecDepth 100000 in
theorem Wp (n:Nat) (hn:n≤128) (ns:List Nd) (hN:Ze n ns) (hpos:0<ns.length) (hlen:ns.length≤65536) (p:Option Addr) (c:Nat) (w:World) (hA:NetAt w.heap.size w p ns) :
  Calls Tryz.prog 43 #[.agg #[.int .i64 n,.slice p ns.length c]] w fun e w'=>e = .returned (.int .i64 0)∧Below w.heap.size w w':=by
 obtain ⟨Post,hPost⟩:∃ P:Ending→World→Prop,P=fun e w'=>e = .returned (.int .i64 0)∧Below w.heap.size w w':=⟨_,rfl⟩
 rw [←hPost]
 have HP:=Lib.hid (show ∀ (w':World),Below w.heap.size w w'→Post (.returned (.int .i64 0)) w' from fun w' h=>by rw [hPost];exact ⟨rfl,h⟩)
 have HA:=Lib.hid hA
 have HN:=Lib.hid hN
 obtain ⟨m,hm⟩:∃ m,m=ns.length:=⟨_,rfl⟩
 rw [←hm] at hpos hlen ⊢
 have HM:=Lib.hid hm
 have a1:decide ((n:Int)<0)=false:=decide_eq_false (by omega)
 have a2:decide ((128:Int)<(n:Int))=false:=decide_eq_false (by omega)
 have a3:decide (128<n)=false:=decide_eq_false (by omega)
 have a4:decide ((m:Int)<1)=false:=decide_eq_false (by omega)
 have a5:decide (m<1)=false:=decide_eq_false (by omega)
 have a6:decide ((65536:Int)<(m:Int))=false:=decide_eq_false (by omega)
 have a7:decide (65536<m)=false:=decide_eq_false (by omega)
 clear hPost hA hN hm
 go_enter Tryz.func43,Tryz.ntmps43
 go_upto_region 1 with fail
 refine Qg ?_
 intro w1 hw1
 have S1:=Lib.hid (show w1.heap[w.heap.size]?=some (.cells #[.int .i64 n,.slice p m c] 33 (0,0)) by rw [hw1];exact Qn _ _)
 have HL1:=Lib.hid (show Below w.heap.size w w1 by rw [hw1];exact Qe _ _)
 clear hw1
 have q0:=Q5 S1.out 0 rfl
 have q1:=Q5 S1.out 1 rfl
 go_wp2_with fail
 go_loopw [28] (fun t28 wr=>∃ i:Nat,t28 = .int .i64 i∧i≤m∧Hid (Below w1.heap.size w1 wr)) (fun t _=>m-(intOf t).toNat)
 case atStart=>exact ⟨0,rfl,Nat.zero_le _,Below.refl _ _⟩
 case round =>
  obtain ⟨i,rfl,hin,HW⟩:=hrel
  by_cases hlt:i<m
  ·have hd:decide (i<m)=true:=decide_eq_true hlt
   have hd2:decide ((i:Int)<(m:Int))=true:=decide_eq_true (by omega)
   obtain ⟨g,hg⟩:∃ g,ns[i]?=some g:=⟨_,List.getElem?_eq_getElem (by rw [←HM.out];exact hlt)⟩
   have HWW:=Lib.hid (show Below w.heap.size w wr from HL1.out.trans (HW.out.mono HL1.out.size))
   obtain ⟨b,o,q,cg,hb,hp,k1,k2,k3,hx⟩:=HA.out i g hg
   have hok:=HN.out i g hg
   have x1:=Q8 HWW.out hb k1
   have x2:=Q8 HWW.out hb k2
   have x3:=Q8 HWW.out hb k3
   have x0:wr.cell? ⟨w.heap.size,0,none⟩=some (.int .i64 n):=Q5 ((Q4 HW.out).keep S1.out (by simp)) 0 rfl
   have HOK:=Lib.hid hok
   have HX:=Lib.hid hx
   have C1:=Lib.hid x1
   have C2:=Lib.hid x2
   have C3:=Lib.hid x3
   have C0:=Lib.hid x0
   subst hp
   clear hg hb k1 k2 k3 hx hok x0 x1 x2 x3
   go_upto_region 5 with fail
   refine wp_region_lit (J6 [0,0,0,3,0,2] [] B0 (Qi _) ?_)
   refine Qb 3 (by kernel_rfl) (by rfl) ?_
   apply Exists.intro
   refine ⟨fun z hz=>?_,?_⟩
   ·have f0:=Q6 hz C1.out (by simp)
    have f1:=Q6 hz C2.out (by simp)
    have f2:=Q6 hz C3.out (by simp)
    clear hz
    simp only [List.take_succ_cons,List.take_zero]
    unfold Cx
    repeat (go_big_quiet_step (fail))
    exact wpQuiet_nil rfl
   simp only [List.drop_succ_cons,List.drop_zero]
   refine Jm (.agg #[.int .i64 0,.int .i64 0,.slice none 0 0]) (by rfl) (fun x=>by kernel_rfl) (fun g4 q4 hn4=>?_)
   unfold Qk
   go_big_quiet_step (fail)
   refine wpQuiet_nil ?_
   refine Qb 1 (by kernel_rfl) (by rfl) ?_
   apply Exists.intro
   refine ⟨fun z hz=>?_,?_⟩
   ·clear hz
    simp only [List.take_succ_cons,List.take_zero]
    unfold Cx
    repeat (go_big_quiet_step (fail))
    exact wpQuiet_nil rfl
   simp only [List.drop_succ_cons,List.drop_zero]
   refine Qh g4 #[.int .i64 g.k,.int .i64 g.lit,.slice q g.ins.length cg] #[.int .i64 0,.int .i64 0,.slice none 0 0] 102 (by rfl) (by rfl) (by rfl) (Blocks.put_same _ _ _) rfl (.inr q4) (by kernel_rfl) (by simp [Value.oneCell']) ?_
   refine Qf ?_
   intro w5 hx5 hH
   have hC5:=hH g4 _ (Blocks.put_same _ _ _)
   have hb5:Below wr.heap.size wr w5:=hx5.below_of (by simp) (Nat.le_refl _)
   have HB5:=Lib.hid (HWW.out.trans (hb5.mono HWW.out.size))
   have HW5:=Lib.hid (HW.out.trans (hb5.mono HW.out.size))
   have KF:=Lib.hid (gFormed n i hn g HOK.out q cg w5 ((HX.out.below HB5.out (Nat.le_refl _)).mono HB5.out.size) (by have:=HOK.out.few;omega))
   have y0:=Q5 hC5 0 rfl
   have y1:=Q5 hC5 1 rfl
   have y2:=Q5 hC5 2 rfl
   have x0:w5.cell? ⟨w.heap.size,0,none⟩=some (.int .i64 n):=Q5 ((Q4 HW5.out).keep S1.out (by simp)) 0 rfl
   clear hx5 hH hC5 hb5 hn4 q4
   go_wp2_with fail
   refine KF.out.mono ?_
   rintro e w6 ⟨rfl,hb6⟩
   have HW6:=Lib.hid (HW5.out.trans (hb6.mono HW5.out.size))
   clear hb6 KF y0 y1 y2 x0
   go_wp2_with fail
   go_roundw
   case rel=>exact ⟨i+1,by go_num,by omega,HW6.out⟩
   case measure=>simp [intOf];omega
  ·have hd:decide (i<m)=false:=decide_eq_false hlt
   have hd2:decide ((i:Int)<(m:Int))=false:=decide_eq_false (by omega)
   have HF:=Lib.hid (HP.out _ (HL1.out.trans (HW.out.mono HL1.out.size)))
   go_wp2_with fail
   exact HF.out
end
/- Rows of elements of one cell and of two,written one by one. -/
section
open Go.RowKit Go.Sort
def Row2 (xs:Array Value) (m i:Nat) (f:Nat→Value × Value):Prop:=xs.size=m*2∧∀ j,j<i→xs[j*2]?=some (f j).1∧xs[j*2+1]?=some (f j).2
def Ag (xs:Array Value) (k:Nat) (a b:Value):Array Value:=(xs.setIfInBounds (k*2) a).setIfInBounds (k*2+1) b
theorem Uu (xs:Array Value) (k:Nat) (a b:Value):(Ag xs k a b).size=xs.size:=by simp [Ag]
theorem Row2.put {xs:Array Value} {m i:Nat} {f:Nat→Value × Value} (h:Row2 xs m i f) {k i2:Nat} (hk:k<m) (hi:∀ j,j<i2→j=k∨j<i) (a b:Value):Row2 (Ag xs k a b) m i2 (fun j=>if j=k then (a,b) else f j):=by
 obtain ⟨h1,h2⟩:=h
 refine ⟨by rw [Uu,h1],fun j hj=>?_⟩
 unfold Ag
 dsimp only
 by_cases e:j=k
 ·subst e
  rw [if_pos rfl]
  refine ⟨?_,?_⟩
  ·rw [Array.getElem?_setIfInBounds,if_neg (by omega),Array.getElem?_setIfInBounds,if_pos rfl,if_pos (by omega)]
  ·rw [Array.getElem?_setIfInBounds,if_pos rfl,if_pos (by simp;omega)]
 ·rw [if_neg e]
  have:=h2 j ((hi j hj).resolve_left e)
  refine ⟨?_,?_⟩
  ·rw [Array.getElem?_setIfInBounds,if_neg (by omega),Array.getElem?_setIfInBounds,if_neg (by omega)];exact this.1
  ·rw [Array.getElem?_setIfInBounds,if_neg (by omega),Array.getElem?_setIfInBounds,if_neg (by omega)];exact this.2
theorem Row2.congr {xs:Array Value} {m i:Nat} {f g:Nat→Value × Value} (h:Row2 xs m i f) (hfg:∀ j,j<i→f j=g j):Row2 xs m i g :=
 ⟨h.1,fun j hj=>by rw [←hfg j hj];exact h.2 j hj⟩
theorem put2_at {xs:Array Value} {m k:Nat} (h1:xs.size=m*2) (hk:k<m) (a b:Value):∀ i,i<(Ag xs k a b).size→(Ag xs k a b)[i]?=if k*2≤i∧i<k*2+(Value.agg #[a,b]).cells.size then (Value.agg #[a,b]).cells[i-k*2]? else xs[i]?:=by
 intro i hi
 rw [Uu] at hi
 show _=if k*2≤i∧i<k*2+2 then (#[a,b]:Array Value)[i-k*2]? else xs[i]?
 unfold Ag
 by_cases e:k*2≤i∧i<k*2+2
 ·rw [if_pos e]
  rcases (show i=k*2∨i=k*2+1 by omega) with rfl | rfl
  ·rw [Array.getElem?_setIfInBounds,if_neg (by omega),Array.getElem?_setIfInBounds,if_pos rfl,if_pos (by omega),Nat.sub_self];rfl
  ·rw [Array.getElem?_setIfInBounds,if_pos rfl,if_pos (by simp;omega),Nat.add_sub_cancel_left];rfl
 ·rw [if_neg e,Array.getElem?_setIfInBounds,if_neg (by omega),Array.getElem?_setIfInBounds,if_neg (by omega)]
theorem put2_heap {w:World} {g k:Nat} {xs:Array Value} {T:TypeId} {a b:Value} (h:w.heap[g]?=some (.cells xs T (0,0))):((w.setCell ⟨g,k*2,none⟩ a).setCell ⟨g,k*2+1,none⟩ b).heap[g]?=some (.cells (Ag xs k a b) T (0,0)) :=
 heap_setCell_same _ g _ _ _ _ (heap_setCell_same _ g _ _ _ _ h)
def Row1 (xs:Array Value) (m i:Nat) (f:Nat→Value):Prop:=xs.size=m∧∀ j,j<i→xs[j]?=some (f j)
theorem Row1.put {xs:Array Value} {m i:Nat} {f:Nat→Value} (h:Row1 xs m i f) {k i2:Nat} (hk:k<m) (hi:∀ j,j<i2→j=k∨j<i) (a:Value):Row1 (xs.setIfInBounds k a) m i2 (fun j=>if j=k then a else f j):=by
 obtain ⟨h1,h2⟩:=h
 refine ⟨by simpa using h1,fun j hj=>?_⟩
 dsimp only
 by_cases e:j=k
 ·subst e
  rw [if_pos rfl,Array.getElem?_setIfInBounds,if_pos rfl,if_pos (by omega)]
 ·rw [if_neg e,Array.getElem?_setIfInBounds,if_neg (fun h=>e h.symm)]
  exact h2 j ((hi j hj).resolve_left e)
theorem Row1.congr {xs:Array Value} {m i:Nat} {f g:Nat→Value} (h:Row1 xs m i f) (hfg:∀ j,j<i→f j=g j):Row1 xs m i g :=
 ⟨h.1,fun j hj=>by rw [←hfg j hj];exact h.2 j hj⟩
theorem Zq {xs:Array Value} {m k:Nat} (h1:xs.size=m) (hk:k<m) (a:Value):∀ i,i<(xs.setIfInBounds k a).size→(xs.setIfInBounds k a)[i]?=if k≤i∧i<k+(Value.agg #[a]).cells.size then (Value.agg #[a]).cells[i-k]? else xs[i]?:=by
 intro i hi
 show _=if k≤i∧i<k+1 then (#[a]:Array Value)[i-k]? else xs[i]?
 by_cases e:k≤i∧i<k+1
 ·obtain rfl:i=k:=by omega
  rw [if_pos e,Array.getElem?_setIfInBounds,if_pos rfl,if_pos (by omega),Nat.sub_self];rfl
 ·rw [if_neg e,Array.getElem?_setIfInBounds,if_neg (by omega)]
theorem Row2.made (m:Nat) (z:Array Value) (hz:z.size=2) (f:Nat→Value × Value):Row2 (madeCells z (m*2)) m 0 f:=⟨size_madeCells _ _,fun j hj=>by omega⟩
theorem Row1.made (m:Nat) (z:Array Value) (f:Nat→Value):Row1 (madeCells z m) m 0 f:=⟨size_madeCells _ _,fun j hj=>by omega⟩
/-! ### Rows of sets -/
def Z6 (o:Nat→Bool):Value × Value:=(.int .u64 (loW o:Nat),.int .u64 (hiW o:Nat))
theorem Vh {o p:Nat→Bool} (h:∀ v,1≤v→v≤128→o v=p v):Z6 o=Z6 p:=by
 have e:=O4 h
 unfold Qt Jz at e
 injection e with e
 have e:=Array.toList_inj.2 e
 unfold Z6
 injection e with e1 e2
 injection e2 with e2 e3
 rw [e1,e2]
def SetsAt (N:Nat) (w:World) (g:Nat) (m:Nat) (f:Nat→Nat→Bool):Prop:=g<N∧∀ i,i<m→w.cell? ⟨g,i*2,none⟩=some (Z6 (f i)).1∧w.cell? ⟨g,i*2+1,none⟩=some (Z6 (f i)).2
theorem SetsAt.below {N M:Nat} {w w':World} {g m:Nat} {f:Nat→Nat→Bool} (h:SetsAt N w g m f) (hb:Below M w w') (hM:N≤M):SetsAt N w' g m f :=
 ⟨h.1,fun i hi=>⟨Q8 hb (by have:=h.1;omega) (h.2 i hi).1,Q8 hb (by have:=h.1;omega) (h.2 i hi).2⟩⟩
theorem SetsAt.mono {N M:Nat} {w:World} {g m:Nat} {f:Nat→Nat→Bool} (h:SetsAt N w g m f) (hM:N≤M):SetsAt M w g m f:=⟨Nat.lt_of_lt_of_le h.1 hM,h.2⟩
theorem Row2.sets {w:World} {g m:Nat} {xs:Array Value} {T:TypeId} {f:Nat→Nat→Bool} (h:Row2 xs m m fun j=>Z6 (f j)) (hg:w.heap[g]?=some (.cells xs T (0,0))):SetsAt w.heap.size w g m f :=
 ⟨Q9 hg,fun i hi=>⟨Q5 hg _ (h.2 i hi).1,Q5 hg _ (h.2 i hi).2⟩⟩
theorem Tryz.infoSetX:(Tryz.prog.info? 55).map (fun i=>(i.zero,i.size,i.bytes))=some (some (.agg #[.int .u64 0,.int .u64 0]),2,16):=by kernel_rfl
theorem makeSets (m:Nat) (hm:m≤65536) (x:World):(Instr.makeSlice 29 (.int .i64 (m:Int)) (.int .i64 (m:Int))).run Tryz.prog x = .ok (.slice (some ⟨x.heap.size,0,none⟩) m m) (x.alloc (.cells (madeCells #[.int .u64 0,.int .u64 0] (m*2)) 55)):=by
 obtain ⟨i0,ii,iz0,iz1,iz2⟩:=info_parts Tryz.infoSetX
 have h:=run_makeSlice (P:=Tryz.prog) (w:=x) 29 55 i0 _ Tryz.underlying29 ii iz0 .i64 .i64 m m (by omega) (by omega) (by rw [iz1];omega) (by rw [iz2];omega) (by omega)
 rw [iz1] at h
 exact h
end
/- node.Vars. -/
section
open Go.RowKit Go.Sort
def Oe (ns:List Nd) (x:Nd) (t:Nat):Nat→Bool:=fun v=>(decide (x.k=2)&&decide (v=x.lit.natAbs))||(x.ins.take t).any fun k=>Ql ns k.toNat v
theorem partO_all {n i:Nat} {ns:List Nd} {x:Nd} (hx:ns[i]?=some x) (hk:NdOk n i x):Oe ns x x.ins.length=Ql ns i:=funext fun v=>by
 rw [U3 hx hk,Oe,List.take_length]
theorem Q9k {ns:List Nd} {x:Nd} {t:Nat} {k:Int} (h:x.ins[t]?=some k):Oe ns x (t+1)=fun v=>Oe ns x t v||Ql ns k.toNat v:=funext fun v=>by
 unfold Oe
 rw [Xj h,List.any_append,←Bool.or_assoc]
 simp
theorem partO_none {n i:Nat} {ns:List Nd} {x:Nd} (hn:n≤128) (hk:NdOk n i x):Z6 (Zk [Y8 x.lit])=Z6 (Oe ns x 0):=Vh fun v h1 h2=>by
 unfold Oe Zk
 rw [List.take_zero,List.any_nil,Bool.or_false,List.any_cons,List.any_nil,Bool.or_false]
 by_cases h:x.k=2
 ·have hl:=hk.lit h
  rw [decide_eq_true h,Bool.true_and]
  apply Bool.eq_iff_iff.2
  rw [decide_eq_true_iff,decide_eq_true_iff]
  unfold Y8
  split
  ·omega
  ·split<;>omega
 ·rw [decide_eq_false h,Bool.false_and,hk.zero h]
  simp [Y8];omega
theorem Q99 (w:World) (l:Int):AtN (w.alloc (.cells #[.int .i64 l] 3)).heap.size (w.alloc (.cells #[.int .i64 l] 3)) (some ⟨w.heap.size,0,none⟩) (Qm [l]):=fun i v hv=>by
 have hi:i=0:=by
  have:=(List.getElem?_eq_some_iff.1 hv).1
  simp [Qm] at this;omega
 subst hi
 obtain rfl:v = .int .i64 l:=by simpa [Qm] using hv.symm
 exact ⟨w.heap.size,0,by simp,rfl,Q5 (Qn w _) 0 rfl⟩
set_option maxHeartbeats 6400000 in
set_option maxRecDepth 100000 in
theorem Q5h (n:Nat) (hn:n≤128) (ns:List Nd) (hN:Ze n ns) (hpos:0<ns.length) (hlen:ns.length≤65536) (p:Option Addr) (c:Nat) (w:World) (hA:NetAt w.heap.size w p ns) :
  Calls Tryz.prog 46 #[.agg #[.int .i64 n,.slice p ns.length c]] w fun e w'=>∃ g,e = .returned (.slice (some ⟨g,0,none⟩) ns.length ns.length)∧w.heap.size≤g∧SetsAt w'.heap.size w' g ns.length (Ql ns)∧Below w.heap.size w w':=by
 obtain ⟨Post,hPost⟩:∃ P:Ending→World→Prop,P=fun e w'=>∃ g,e = .returned (.slice (some ⟨g,0,none⟩) ns.length ns.length)∧w.heap.size≤g∧SetsAt w'.heap.size w' g ns.length (Ql ns)∧Below w.heap.size w w':=⟨_,rfl⟩
 rw [←hPost]
 obtain ⟨m,hm⟩:∃ m,m=ns.length:=⟨_,rfl⟩
 rw [←hm] at hpos hlen hPost ⊢
 have HP:=Lib.hid (show ∀ (g:Nat) (w':World),w.heap.size≤g→SetsAt w'.heap.size w' g m (Ql ns)→Below w.heap.size w w'→Post (.returned (.slice (some ⟨g,0,none⟩) m m)) w' from fun g w' h1 h2 h3=>by rw [hPost];exact ⟨g,rfl,h1,h2,h3⟩)
 have HA:=Lib.hid hA
 have HN:=Lib.hid hN
 have HM:=Lib.hid hm
 have HCK:=Lib.hid (fun (w1:World) (h:NetAt w1.heap.size w1 p ns)=>Wp n hn ns hN (by omega) (by omega) p c w1 h)
 rw [←hm] at HCK
 clear hPost hA hN hm
 go_enter Tryz.func46,Tryz.ntmps46
 go_upto_region 1 with fail
 refine Qg ?_
 intro w1 hw1
 have S1:=Lib.hid (show w1.heap[w.heap.size]?=some (.cells #[.int .i64 n,.slice p m c] 33 (0,0)) by rw [hw1];exact Qn _ _)
 have HL1:=Lib.hid (show Below w.heap.size w w1 by rw [hw1];exact Qe _ _)
 clear hw1
 have q0:=Q5 S1.out 0 rfl
 have q1:=Q5 S1.out 1 rfl
 go_wp2_with fail
 refine (HCK.out w1 ((HA.out.below HL1.out (Nat.le_refl _)).mono HL1.out.size)).mono ?_
 rintro e w2 ⟨rfl,hb2⟩
 have S2:=Lib.hid ((Q4 hb2).keep S1.out (by simp))
 have HL2:=Lib.hid (HL1.out.trans (hb2.mono HL1.out.size))
 clear hb2 S1 HL1 HCK q0 q1
 have q0:=Q5 S2.out 0 rfl
 have q1:=Q5 S2.out 1 rfl
 have hmk:=makeSets m hlen w2
 go_upto_region 4 with fail
 refine Qg ?_
 intro w3 hw3
 obtain ⟨g,hg⟩:∃ g,g=w2.heap.size:=⟨_,rfl⟩
 have S3:=Lib.hid (show ∃ xs,w3.heap[g]?=some (.cells xs 55 (0,0))∧Row2 xs m 0 fun j=>Z6 (Ql ns j) from ⟨_,by rw [hw3,hg];exact Qn _ _,Row2.made m _ rfl _⟩)
 have HL3:=Lib.hid (show Below w2.heap.size w2 w3 by rw [hw3];exact Qe _ _)
 have N3:=Lib.hid ((Q4 HL3.out).keep S2.out (by simp))
 have HB3:=Lib.hid (HL2.out.trans (HL3.out.mono HL2.out.size))
 have hgw:w.heap.size<g:=by have:=Q9 S2.out;omega
 rw [←hg]
 clear hw3 hmk hg q0 q1 S2 HL2 HL3
 have q0:=Q5 N3.out 0 rfl
 have q1:=Q5 N3.out 1 rfl
 go_wp2_with fail
 go_loopw [18] (fun t18 wr=>∃ i:Nat,t18 = .int .i64 i∧i≤m∧Hid (∃ xs,wr.heap[g]?=some (.cells xs 55 (0,0))∧Row2 xs m i fun j=>Z6 (Ql ns j))∧Hid (Below w.heap.size w wr)) (fun t _=>m-(intOf t).toNat)
 case atStart=>exact ⟨0,rfl,Nat.zero_le _,S3.out,HB3.out⟩
 case round =>
  obtain ⟨i,rfl,hin,HS,HW⟩:=hrel
  obtain ⟨w4,hw4⟩:∃ w4,w4=wr:=⟨_,rfl⟩
  rw [←hw4] at HS HW ⊢
  clear hw4 S3 N3 HB3
  by_cases hlt:i<m
  ·have hd:decide (i<m)=true:=decide_eq_true hlt
   have hd2:decide ((i:Int)<(m:Int))=true:=decide_eq_true (by omega)
   obtain ⟨x,hx⟩:∃ x,ns[i]?=some x:=⟨_,List.getElem?_eq_getElem (by rw [←HM.out];exact hlt)⟩
   obtain ⟨b,o,q,cg,hb,hp,k1,k2,k3,hxs⟩:=HA.out i x hx
   have HOK:=Lib.hid (HN.out i x hx)
   have x1:=Q8 HW.out hb k1
   have x2:=Q8 HW.out hb k2
   have x3:=Q8 HW.out hb k3
   have HX:=Lib.hid hxs
   have HXX:=Lib.hid hx
   have C1:=Lib.hid x1
   have C2:=Lib.hid x2
   have C3:=Lib.hid x3
   subst hp
   clear hb k1 k2 k3 hxs hx x1 x2 x3
   go_upto_region 6 with fail
   refine wp_region_lit (J6 [0,0,0,3,0,2] [] B0 (Qi _) ?_)
   refine Qb 3 (by kernel_rfl) (by rfl) ?_
   apply Exists.intro
   refine ⟨fun z hz=>?_,?_⟩
   ·have f0:=Q6 hz C1.out (by simp)
    have f1:=Q6 hz C2.out (by simp)
    have f2:=Q6 hz C3.out (by simp)
    clear hz
    simp only [List.take_succ_cons,List.take_zero]
    unfold Cx
    repeat (go_big_quiet_step (fail))
    exact wpQuiet_nil rfl
   simp only [List.drop_succ_cons,List.drop_zero]
   refine Jm (.agg #[.int .i64 0,.int .i64 0,.slice none 0 0]) (by rfl) (fun x=>by kernel_rfl) (fun g4 q4 hn4=>?_)
   unfold Qk
   go_big_quiet_step (fail)
   refine wpQuiet_nil ?_
   refine Qb 1 (by kernel_rfl) (by rfl) ?_
   apply Exists.intro
   refine ⟨fun z hz=>?_,?_⟩
   ·clear hz
    simp only [List.take_succ_cons,List.take_zero]
    unfold Cx
    repeat (go_big_quiet_step (fail))
    exact wpQuiet_nil rfl
   simp only [List.drop_succ_cons,List.drop_zero]
   refine Qh g4 #[.int .i64 x.k,.int .i64 x.lit,.slice q x.ins.length cg] #[.int .i64 0,.int .i64 0,.slice none 0 0] 102 (by rfl) (by rfl) (by rfl) (Blocks.put_same _ _ _) rfl (.inr q4) (by kernel_rfl) (by simp [Value.oneCell']) ?_
   refine Qf ?_
   intro w5 hx5 hH
   have N5:=Lib.hid (hH g4 _ (Blocks.put_same _ _ _))
   have hb5:Below w4.heap.size w4 w5:=hx5.below_of (by simp) (Nat.le_refl _)
   have HW5:=Lib.hid (HW.out.trans (hb5.mono HW.out.size))
   have HS5:=Lib.hid (show ∃ xs,w5.heap[g]?=some (.cells xs 55 (0,0))∧Row2 xs m i fun j=>Z6 (Ql ns j) from by
    obtain ⟨xs,h1,h2⟩:=HS.out
    exact ⟨xs,hx5.keep h1 (by simp),h2⟩)
   have hgl:g<w4.heap.size:=by obtain ⟨xs,h1,h2⟩:=HS.out;exact Q9 h1
   clear hx5 hH hb5 hn4 HS HW
   have KV:=gVar x.lit w5
   have y0:=Q5 N5.out 0 rfl
   have y1:=Q5 N5.out 1 rfl
   have y2:=Q5 N5.out 2 rfl
   go_wp2_with fail
   refine KV.mono ?_
   rintro e w6 ⟨rfl,hb6⟩
   have N6:=Lib.hid ((Q4 hb6).keep N5.out (by simp))
   have HW6:=Lib.hid (HW5.out.trans (hb6.mono HW5.out.size))
   have HS6:=Lib.hid (show ∃ xs,w6.heap[g]?=some (.cells xs 55 (0,0))∧Row2 xs m i fun j=>Z6 (Ql ns j) from by
    obtain ⟨xs,h1,h2⟩:=HS5.out
    exact ⟨xs,(Q4 hb6).keep h1 (by simp),h2⟩)
   clear hb6 KV y0 y1 y2 N5 HW5 HS5
   go_wp2_with fail
   have HAl:=Q99 w6 (Y8 x.lit)
   refine (gOfS [Y8 x.lit] (some ⟨w6.heap.size,0,none⟩) 1 _ HAl (by simp)).mono ?_
   rintro e w7 ⟨rfl,hb7⟩
   have hb7:Below w6.heap.size w6 w7:=(Qe w6 _).trans (hb7.mono (by simp))
   have N7:=Lib.hid ((Q4 hb7).keep N6.out (by simp))
   have HW7:=Lib.hid (HW6.out.trans (hb7.mono HW6.out.size))
   obtain ⟨xs,hxs,hrow⟩:∃ xs,w7.heap[g]?=some (.cells xs 55 (0,0))∧Row2 xs m i fun j=>Z6 (Ql ns j):=by
    obtain ⟨xs,h1,h2⟩:=HS6.out
    exact ⟨xs,(Q4 hb7).keep h1 (by simp),h2⟩
   have hsz:xs.size=m*2:=hrow.1
   have HPN:=Lib.hid (partO_none (ns:=ns) hn HOK.out)
   have HR7:=Lib.hid hrow
   have HX7:=Lib.hid hxs
   clear hb7 HAl N6 HW6 HS6 hrow hxs
   unfold Qt Jz
   obtain ⟨y0,hy0⟩:∃ y0,y0=loW (Zk [Y8 x.lit]):=⟨_,rfl⟩
   obtain ⟨y1,hy1⟩:∃ y1,y1=hiW (Zk [Y8 x.lit]):=⟨_,rfl⟩
   rw [←hy0,←hy1]
   have HY:=Lib.hid (show ((Value.int .u64 (y0:Nat),Value.int .u64 (y1:Nat)):Value × Value)=Z6 (Oe ns x 0) by rw [hy0,hy1,←HPN.out];rfl)
   clear hy0 hy1 HPN
   have f0:=Qd HX7.out (i*2)
   have f1:=Qd HX7.out (i*2+1)
   have e0:=Q5 HX7.out (i*2) (Array.getElem?_eq_getElem (by omega))
   have e1:=Q5 HX7.out (i*2+1) (Array.getElem?_eq_getElem (by omega))
   go_upto_region 8 with fail
   refine Qg ?_
   intro w8 hw8
   have X8:=Lib.hid (show w8.heap[g]?=some (.cells (Ag xs i (.int .u64 (y0:Nat)) (.int .u64 (y1:Nat))) 55 (0,0)) by rw [hw8];exact put2_heap HX7.out)
   have hb8:Behind w7 [g] w8:=by rw [hw8];exact behindSet.trans behindSet (fun k hk=>.inl hk)
   have hg4:g4≠g:=by omega
   have N8:=Lib.hid (hb8.keep N7.out (by simpa using hg4))
   have HW8:=Lib.hid (HW7.out.trans (hb8.below_of (b:=w.heap.size) (fun k hk=>by simp at hk;omega) HW7.out.size))
   have R8:=Lib.hid (show Row2 (Ag xs i (.int .u64 (y0:Nat)) (.int .u64 (y1:Nat))) m (i+1) (fun j=>if j=i then Z6 (Oe ns x 0) else Z6 (Ql ns j)) from (HR7.out.put hlt (i2:=i+1) (fun j hj=>by omega) _ _).congr fun j hj=>by
    by_cases e:j=i
    ·rw [if_pos e,if_pos e,HY.out]
    ·rw [if_neg e,if_neg e])
   have hfew:=HOK.out.few
   generalize Ag xs i (.int .u64 (y0:Nat)) (.int .u64 (y1:Nat))=xs8 at *
   clear hw8 hb8 f0 f1 e0 e1 N7 HW7 HR7 HX7 HY hsz
   have n2:=Q5 N8.out 2 rfl
   go_wp2_with fail
   go_loopw [34] (fun t34 wv=>∃ t:Nat,t34 = .int .i64 t∧t≤x.ins.length∧Hid (∃ xs,wv.heap[g]?=some (.cells xs 55 (0,0))∧Row2 xs m (i+1) fun j=>if j=i then Z6 (Oe ns x t) else Z6 (Ql ns j))∧Hid (Below w.heap.size w wv)) (fun t _=>x.ins.length-(intOf t).toNat)
   case atStart=>exact ⟨0,rfl,Nat.zero_le _,⟨_,X8.out,R8.out⟩,HW8.out⟩
   case round =>
    obtain ⟨t,rfl,htn,HSt,HWt⟩:=hrel
    obtain ⟨w9,hw9⟩:∃ w9,w9=wr:=⟨_,rfl⟩
    rw [←hw9] at HSt HWt ⊢
    clear hw9 X8 R8 HW8 N8 n2
    by_cases htl:t<x.ins.length
    ·have hdt:decide (t<x.ins.length)=true:=decide_eq_true htl
     have hdt2:decide ((t:Int)<(x.ins.length:Int))=true:=decide_eq_true (by omega)
     obtain ⟨k,hk⟩:∃ k,x.ins[t]?=some k:=⟨_,List.getElem?_eq_getElem htl⟩
     have hki:=HOK.out.ins k (List.mem_of_getElem? hk)
     obtain ⟨kn,rfl⟩:∃ kn:Nat,k=kn:=⟨k.toNat,by omega⟩
     have hkn:kn<i:=by simpa using hki.2
     obtain ⟨b1,o1,_,ea,kx⟩:=(HX.out.below HWt.out (Nat.le_refl _)) t _ (Jb x.ins t _ hk)
     subst ea
     obtain ⟨xs,hxs,hrow⟩:=HSt.out
     have HSTEP:=Lib.hid (Q9k (ns:=ns) hk)
     have KU:=Q9l (Oe ns x t) (Ql ns kn)
     have hsz:xs.size=m*2:=hrow.1
     have r1:=hrow.2 i (by omega)
     dsimp only at r1
     rw [if_pos rfl] at r1
     have r2:=hrow.2 kn (by omega)
     dsimp only at r2
     rw [if_neg (by omega)] at r2
     unfold Qt Jz at KU
     unfold Z6 at r1 r2
     obtain ⟨q0,hq0⟩:∃ q0,q0=loW (fun v=>Oe ns x t v||Ql ns kn v):=⟨_,rfl⟩
     obtain ⟨q1,hq1⟩:∃ q1,q1=hiW (fun v=>Oe ns x t v||Ql ns kn v):=⟨_,rfl⟩
     rw [←hq0,←hq1] at KU
     have HQ:=Lib.hid (show ((Value.int .u64 (q0:Nat),Value.int .u64 (q1:Nat)):Value × Value)=Z6 (Oe ns x (t+1)) by rw [hq0,hq1,HSTEP.out];rfl)
     dsimp only at r1 r2
     generalize loW (Oe ns x t)=a0 at *
     generalize hiW (Oe ns x t)=a1 at *
     generalize loW (Ql ns kn)=b0 at *
     generalize hiW (Ql ns kn)=b1' at *
     have HR:=Lib.hid hrow
     have HXS:=Lib.hid hxs
     have R1:=Lib.hid r1
     have R2:=Lib.hid r2
     have KKU:=Lib.hid KU
     clear hq0 hq1 hk hki hrow hxs HSt r1 r2 KU HSTEP
     go_upto_region 11 with fail
     refine Qo [1,1,1,1,1,1,1,1,1,1,1,1,2] [g] _ (Fin.put Qu _ _) (Qr (Qi _) HXS.out) (by kernel_rfl) (by kernel_rfl) ?_
     refine Jq 12 w9 (Behind.refl _ _) (Qr (Qi _) HXS.out) (by kernel_rfl) (by rfl) ?_
     apply Exists.intro
     refine ⟨fun z hz hH=>?_,?_⟩
     ·have g0:=Jg (hH g _ (Blocks.put_same _ _ _)) (i*2) R1.out.1
      have g1:=Jg (hH g _ (Blocks.put_same _ _ _)) (i*2+1) R1.out.2
      have g2:=Jg (hH g _ (Blocks.put_same _ _ _)) (kn*2) R2.out.1
      have g3:=Jg (hH g _ (Blocks.put_same _ _ _)) (kn*2+1) R2.out.2
      clear hz hH
      simp only [List.take_succ_cons,List.take_zero]
      unfold Cx
      repeat (go_big_quiet_step (first | with_reducible exact KKU.out.at _ _))
      exact wpQuiet_nil rfl
     simp only [List.drop_succ_cons,List.drop_zero]
     refine Qx g (i*2) (.agg #[.int .u64 (q0:Nat),.int .u64 (q1:Nat)]) xs (Ag xs i (.int .u64 (q0:Nat)) (.int .u64 (q1:Nat))) 55 (by rfl) (by rfl) (by rfl) (Blocks.put_same _ _ _) (by rw [hsz];show i*2+2≤m*2;omega) (Uu _ _ _ _) (put2_at hsz hlt _ _) (.inl (by simp)) (by kernel_rfl) (by simp [Value.oneCell',Value.cells]) ?_
     refine Qf ?_
     intro w10 hx10 hH
     have X10:=Lib.hid (hH g _ (Blocks.put_same _ _ _))
     have HW10:=Lib.hid (HWt.out.trans (hx10.below_of (b:=w.heap.size) (fun k hk=>by simp at hk;omega) HWt.out.size))
     have R10:=Lib.hid (show Row2 (Ag xs i (.int .u64 (q0:Nat)) (.int .u64 (q1:Nat))) m (i+1) (fun j=>if j=i then Z6 (Oe ns x (t+1)) else Z6 (Ql ns j)) from (HR.out.put hlt (i2:=i+1) (fun j hj=>by omega) _ _).congr fun j hj=>by
      by_cases e:j=i
      ·rw [if_pos e,if_pos e,HQ.out]
      ·rw [if_neg e,if_neg e,if_neg e])
     clear hx10 hH
     go_wp2_with fail
     go_roundw
     case rel=>exact ⟨t+1,by go_num,by omega,⟨_,X10.out,R10.out⟩,HW10.out⟩
     case measure=>simp [intOf];omega
    ·obtain rfl:t=x.ins.length:=by omega
     have hdt:decide (x.ins.length<x.ins.length)=false:=decide_eq_false (by omega)
     have hdt2:decide ((x.ins.length:Int)<(x.ins.length:Int))=false:=decide_eq_false (by omega)
     have HSE:=Lib.hid (show ∃ xs,w9.heap[g]?=some (.cells xs 55 (0,0))∧Row2 xs m (i+1) fun j=>Z6 (Ql ns j) from by
      obtain ⟨xs,h1,h2⟩:=HSt.out
      refine ⟨xs,h1,h2.congr fun j hj=>?_⟩
      by_cases e:j=i
      ·rw [if_pos e,partO_all HXX.out HOK.out,e]
      ·rw [if_neg e])
     clear HSt
     go_wp2_with fail
     go_roundw
     case rel=>exact ⟨i+1,by go_num,by omega,HSE.out,HWt.out⟩
     case measure=>simp [intOf];omega
  ·obtain rfl:i=m:=by omega
   have hd:decide (i<i)=false:=decide_eq_false (by omega)
   have hd2:decide ((i:Int)<(i:Int))=false:=decide_eq_false (by omega)
   have HF:=Lib.hid (HP.out g w4 (by omega) (by obtain ⟨xs,h1,h2⟩:=HS.out;exact h2.sets h1) HW.out)
   go_wp2_with fail
   exact HF.out
end
/- shape.Decomposable. -/
section
open Go.RowKit Go.Sort
def Xx (ns:List Nd) (x:Nd) (t:Nat):Nat→Bool:=fun v=>(x.ins.take t).any fun k=>Ql ns k.toNat v
theorem allO_step {ns:List Nd} {x:Nd} {t:Nat} {k:Int} (h:x.ins[t]?=some k):Xx ns x (t+1)=fun v=>Xx ns x t v||Ql ns k.toNat v:=funext fun v=>by
 unfold Xx
 rw [Xj h,List.any_append]
 simp
theorem allO_none (ns:List Nd) (x:Nd):Xx ns x 0=Yr:=funext fun v=>by
 unfold Xx Yr
 rw [List.take_zero,List.any_nil]
theorem decomp_at {ns:List Nd} (hD:Zm ns) {i t:Nat} {x:Nd} {k:Int} (hx:ns[i]?=some x) (h3:x.k=3) (hk:x.ins[t]?=some k):eqO (fun v=>Xx ns x t v&&Ql ns k.toNat v) Yr=true:=Uq.2 fun v _ _=>by
 show (_&&_)=false
 cases ha:Xx ns x t v
 ·rfl
 ·rw [Bool.true_and]
  unfold Xx at ha
  obtain ⟨l,hl,hv⟩:=List.any_eq_true.1 ha
  obtain ⟨j,hj⟩:=List.mem_iff_getElem?.1 hl
  have hjt:j<t:=by
   have:=(List.getElem?_eq_some_iff.1 hj).1
   rw [List.length_take] at this;omega
  rw [List.getElem?_take,if_pos hjt] at hj
  obtain ⟨h1,e1⟩:=List.getElem?_eq_some_iff.1 hj
  obtain ⟨h2,e2⟩:=List.getElem?_eq_some_iff.1 hk
  have hp:=List.pairwise_iff_getElem.1 (hD i x hx h3) j t h1 h2 hjt
  rw [e1,e2] at hp
  exact hp v hv
set_option maxHeartbeats 6400000 in
set_option maxRecDepth 100000 in
theorem gDecomp (n:Nat) (hn:n≤128) (ns:List Nd) (hN:Ze n ns) (hD:Zm ns) (hpos:0<ns.length) (hlen:ns.length≤65536) (p:Option Addr) (c:Nat) (w:World) (hA:NetAt w.heap.size w p ns) :
  Calls Tryz.prog 44 #[.agg #[.int .i64 n,.slice p ns.length c]] w fun e w'=>e = .returned (.bool true)∧Below w.heap.size w w':=by
 obtain ⟨Post,hPost⟩:∃ P:Ending→World→Prop,P=fun e w'=>e = .returned (.bool true)∧Below w.heap.size w w':=⟨_,rfl⟩
 rw [←hPost]
 have HP:=Lib.hid (show ∀ (w':World),Below w.heap.size w w'→Post (.returned (.bool true)) w' from fun w' h=>by rw [hPost];exact ⟨rfl,h⟩)
 have HA:=Lib.hid hA
 have HN:=Lib.hid hN
 have HD:=Lib.hid hD
 obtain ⟨m,hm⟩:∃ m,m=ns.length:=⟨_,rfl⟩
 have HCK:=Lib.hid (fun (w1:World) (h:NetAt w1.heap.size w1 p ns)=>Wp n hn ns hN hpos hlen p c w1 h)
 have HCV:=Lib.hid (fun (w1:World) (h:NetAt w1.heap.size w1 p ns)=>Q5h n hn ns hN hpos hlen p c w1 h)
 rw [←hm] at hpos hlen HCK HCV ⊢
 have HM:=Lib.hid hm
 clear hPost hA hN hm hD
 go_enter Tryz.func44,Tryz.ntmps44
 go_upto_region 1 with fail
 refine Qg ?_
 intro w1 hw1
 have S1:=Lib.hid (show w1.heap[w.heap.size]?=some (.cells #[.int .i64 n,.slice p m c] 33 (0,0)) by rw [hw1];exact Qn _ _)
 have HL1:=Lib.hid (show Below w.heap.size w w1 by rw [hw1];exact Qe _ _)
 clear hw1
 have q0:=Q5 S1.out 0 rfl
 have q1:=Q5 S1.out 1 rfl
 go_wp2_with fail
 refine (HCK.out w1 ((HA.out.below HL1.out (Nat.le_refl _)).mono HL1.out.size)).mono ?_
 rintro e w2 ⟨rfl,hb2⟩
 have S2:=Lib.hid ((Q4 hb2).keep S1.out (by simp))
 have HL2:=Lib.hid (HL1.out.trans (hb2.mono HL1.out.size))
 clear hb2 S1 HL1 HCK q0 q1
 have q0:=Q5 S2.out 0 rfl
 have q1:=Q5 S2.out 1 rfl
 go_wp2_with fail
 refine (HCV.out w2 ((HA.out.below HL2.out (Nat.le_refl _)).mono HL2.out.size)).mono ?_
 rintro e w3 ⟨g,rfl,hg3,hs3,hb3⟩
 have S3:=Lib.hid ((Q4 hb3).keep S2.out (by simp))
 have HL3:=Lib.hid (HL2.out.trans (hb3.mono HL2.out.size))
 have HS3:=Lib.hid hs3
 have hg3s:g<w3.heap.size:=hs3.1
 have hgw:w.heap.size<g:=by have:=Q9 S2.out;omega
 clear hb3 S2 HL2 HCV q0 q1 hs3 hg3
 have q0:=Q5 S3.out 0 rfl
 have q1:=Q5 S3.out 1 rfl
 go_wp2_with fail
 go_loopw [17] (fun t17 wr=>∃ i:Nat,t17 = .int .i64 i∧i≤m∧Hid (Below w3.heap.size w3 wr)) (fun t _=>m-(intOf t).toNat)
 case atStart=>exact ⟨0,rfl,Nat.zero_le _,Below.refl _ _⟩
 case round =>
  obtain ⟨i,rfl,hin,HW⟩:=hrel
  obtain ⟨w4,hw4⟩:∃ w4,w4=wr:=⟨_,rfl⟩
  rw [←hw4] at HW ⊢
  clear hw4
  by_cases hlt:i<m
  ·have hd:decide (i<m)=true:=decide_eq_true hlt
   have hd2:decide ((i:Int)<(m:Int))=true:=decide_eq_true (by omega)
   obtain ⟨x,hx⟩:∃ x,ns[i]?=some x:=⟨_,List.getElem?_eq_getElem (by rw [←HM.out];exact hlt)⟩
   obtain ⟨b,o,q,cg,hb,hp,k1,k2,k3,hxs⟩:=HA.out i x hx
   have HOK:=Lib.hid (HN.out i x hx)
   have HWW:=Lib.hid (HL3.out.trans (HW.out.mono HL3.out.size))
   have x1:=Q8 HWW.out hb k1
   have x2:=Q8 HWW.out hb k2
   have x3:=Q8 HWW.out hb k3
   have HX:=Lib.hid hxs
   have HXX:=Lib.hid hx
   have C1:=Lib.hid x1
   have C2:=Lib.hid x2
   have C3:=Lib.hid x3
   subst hp
   clear hb k1 k2 k3 hxs hx x1 x2 x3
   go_upto_region 6 with fail
   refine wp_region_lit (J6 [0,0,3,2] [] B0 (Qi _) ?_)
   refine Qb 2 (by kernel_rfl) (by rfl) ?_
   apply Exists.intro
   refine ⟨fun z hz=>?_,?_⟩
   ·have f0:=Q6 hz C1.out (by simp)
    have f1:=Q6 hz C2.out (by simp)
    have f2:=Q6 hz C3.out (by simp)
    clear hz
    simp only [List.take_succ_cons,List.take_zero]
    unfold Cx
    repeat (go_big_quiet_step (fail))
    exact wpQuiet_nil rfl
   simp only [List.drop_succ_cons,List.drop_zero]
   refine Jm (.agg #[.int .i64 0,.int .i64 0,.slice none 0 0]) (by rfl) (fun x=>by kernel_rfl) (fun g4 q4 hn4=>?_)
   unfold Qk
   go_big_quiet_step (fail)
   refine wpQuiet_nil ?_
   refine Qh g4 #[.int .i64 x.k,.int .i64 x.lit,.slice q x.ins.length cg] #[.int .i64 0,.int .i64 0,.slice none 0 0] 102 (by rfl) (by rfl) (by rfl) (Blocks.put_same _ _ _) rfl (.inr q4) (by kernel_rfl) (by simp [Value.oneCell']) ?_
   refine Qf ?_
   intro w5 hx5 hH
   have N5:=Lib.hid (hH g4 _ (Blocks.put_same _ _ _))
   have hb5:Below w4.heap.size w4 w5:=hx5.below_of (by simp) (Nat.le_refl _)
   have HW5:=Lib.hid (HW.out.trans (hb5.mono HW.out.size))
   have hfew:=HOK.out.few
   clear hx5 hH hb5 hn4 C1 C2 C3
   have y0:=Q5 N5.out 0 rfl
   by_cases h3:x.k=3
   ·rw [h3] at y0
    go_upto_region 9 with fail
    refine Qg ?_
    intro w6 hw6
    obtain ⟨g6,hg6⟩:∃ g6,g6=w5.heap.size:=⟨_,rfl⟩
    have A6:=Lib.hid (show w6.heap[g6]?=some (.cells #[.int .u64 (loW (Xx ns x 0):Nat),.int .u64 (hiW (Xx ns x 0):Nat)] 55 (0,0)) by
     have e:=V9
     rw [←allO_none ns x] at e
     unfold Qt Jz at e
     have e1:(#[.int .u64 (loW (Xx ns x 0):Nat),.int .u64 (hiW (Xx ns x 0):Nat)]:Array Value)=#[.int .u64 0,.int .u64 0]:=by injection e
     rw [e1,hw6,hg6];exact Qn _ _)
    have hb6:Below w5.heap.size w5 w6:=by rw [hw6];exact Qe _ _
    have N6:=Lib.hid ((Q4 hb6).keep N5.out (by simp))
    have HW6:=Lib.hid (HW5.out.trans (hb6.mono HW5.out.size))
    have h36:w3.heap.size≤g6:=by have:=HW5.out.size;omega
    rw [←hg6]
    clear hw6 hg6 hb6 N5 HW5 y0
    have y2:=Q5 N6.out 2 rfl
    go_wp2_with fail
    go_loopw [27] (fun t27 wv=>∃ t:Nat,t27 = .int .i64 t∧t≤x.ins.length∧Hid (wv.heap[g6]?=some (.cells #[.int .u64 (loW (Xx ns x t):Nat),.int .u64 (hiW (Xx ns x t):Nat)] 55 (0,0)))∧Hid (Below w3.heap.size w3 wv)) (fun t _=>x.ins.length-(intOf t).toNat)
    case atStart=>exact ⟨0,rfl,Nat.zero_le _,A6.out,HW6.out⟩
    case round =>
     obtain ⟨t,rfl,htn,HAt,HWt⟩:=hrel
     obtain ⟨w9,hw9⟩:∃ w9,w9=wr:=⟨_,rfl⟩
     rw [←hw9] at HAt HWt ⊢
     clear hw9 A6 HW6 N6 y2
     by_cases htl:t<x.ins.length
     ·have hdt:decide (t<x.ins.length)=true:=decide_eq_true htl
      have hdt2:decide ((t:Int)<(x.ins.length:Int))=true:=decide_eq_true (by omega)
      obtain ⟨k,hk⟩:∃ k,x.ins[t]?=some k:=⟨_,List.getElem?_eq_getElem htl⟩
      have hki:=HOK.out.ins k (List.mem_of_getElem? hk)
      obtain ⟨kn,rfl⟩:∃ kn:Nat,k=kn:=⟨k.toNat,by omega⟩
      have hkn:kn<i:=by simpa using hki.2
      obtain ⟨b1,o1,_,ea,kx⟩:=(HX.out.below (HL3.out.trans (HWt.out.mono HL3.out.size)) (Nat.le_refl _)) t _ (Jb x.ins t _ hk)
      subst ea
      have HSTEP:=Lib.hid (allO_step (ns:=ns) hk)
      have KU:=Q9l (Xx ns x t) (Ql ns kn)
      have KC:=gCut (Xx ns x t) (Ql ns kn)
      have hes:=fun w=>Q26 (fun v=>Xx ns x t v&&Ql ns kn v) w
      have hdec:=decomp_at HD.out HXX.out h3 hk
      rw [show (fun v=>Xx ns x t v&&Ql ns ((kn:Nat):Int).toNat v)=fun v=>Xx ns x t v&&Ql ns kn v from rfl] at hdec
      rw [hdec] at hes
      have HSK:=Lib.hid (show ∀ wz,Below w3.heap.size w3 wz→wz.cell? ⟨g,kn*2,none⟩=some (.int .u64 (loW (Ql ns kn):Nat))∧wz.cell? ⟨g,kn*2+1,none⟩=some (.int .u64 (hiW (Ql ns kn):Nat)) from fun wz hz=>(HS3.out.below hz (Nat.le_refl _)).2 kn (by omega))
      unfold Qt Jz at KU KC hes
      obtain ⟨q0,hq0⟩:∃ q0,q0=loW (fun v=>Xx ns x t v||Ql ns kn v):=⟨_,rfl⟩
      obtain ⟨q1,hq1⟩:∃ q1,q1=hiW (fun v=>Xx ns x t v||Ql ns kn v):=⟨_,rfl⟩
      rw [←hq0,←hq1] at KU
      have HQ0:=Lib.hid (show q0=loW (Xx ns x (t+1)) by rw [hq0,HSTEP.out];rfl)
      have HQ1:=Lib.hid (show q1=hiW (Xx ns x (t+1)) by rw [hq1,HSTEP.out];rfl)
      have HAA:=Lib.hid (HAt.out)
      generalize (loW fun v=>Xx ns x t v&&Ql ns kn v)=p0 at *
      generalize (hiW fun v=>Xx ns x t v&&Ql ns kn v)=p1 at *
      generalize loW (Xx ns x t)=a0 at *
      generalize hiW (Xx ns x t)=a1 at *
      generalize loW (Ql ns kn)=b0 at *
      generalize hiW (Ql ns kn)=b1' at *
      have R1:=Lib.hid (HSK.out w9 HWt.out).1
      have R2:=Lib.hid (HSK.out w9 HWt.out).2
      have KKU:=Lib.hid KU
      have KKC:=Lib.hid KC
      have z0:=Q5 HAt.out 0 rfl
      have z1:=Q5 HAt.out 1 rfl
      have Z0:=Lib.hid z0
      have Z1:=Lib.hid z1
      clear hq0 hq1 hk hki KU KC HSTEP z0 z1 hdec
      go_upto_region 12 with fail
      refine Qo [0,0,0,0,0,0,0,0] [] B0 Qu (Qi _) (by kernel_rfl) (by kernel_rfl) ?_
      refine Qb 8 (by kernel_rfl) (by rfl) ?_
      apply Exists.intro
      refine ⟨fun z hz=>?_,?_⟩
      ·have g0:=Q6 hz Z0.out (by simp)
       have g1:=Q6 hz Z1.out (by simp)
       have g2:=Q6 hz R1.out (by simp)
       have g3:=Q6 hz R2.out (by simp)
       clear hz
       simp only [List.take_succ_cons,List.take_zero]
       unfold Cx
       repeat (go_big_quiet_step (first | with_reducible exact KKC.out.at _ _))
       exact wpQuiet_nil rfl
      simp only [List.drop_succ_cons,List.drop_zero]
      refine Qf ?_
      intro w10 hx10 _
      have HA10:=Lib.hid (hx10.keep HAt.out (by simp))
      have HW10:=Lib.hid (HWt.out.trans (hx10.below.mono HWt.out.size))
      have R10:=Lib.hid (HSK.out w10 HW10.out).1
      have R11:=Lib.hid (HSK.out w10 HW10.out).2
      clear hx10 hes KKC Z0 Z1 R1 R2 HAA
      go_upto_region 14 with fail
      refine Qo [1,1,1,1,1,1,2] [g6] _ (Fin.put Qu _ _) (Qr (Qi _) HA10.out) (by kernel_rfl) (by kernel_rfl) ?_
      refine Jq 6 w10 (Behind.refl _ _) (Qr (Qi _) HA10.out) (by kernel_rfl) (by rfl) ?_
      apply Exists.intro
      refine ⟨fun z hz hH=>?_,?_⟩
      ·have g0:=Jg (hH g6 _ (Blocks.put_same _ _ _)) 0 rfl
       have g1:=Jg (hH g6 _ (Blocks.put_same _ _ _)) 1 rfl
       have g2:=Q6 hz R10.out (by simp;omega)
       have g3:=Q6 hz R11.out (by simp;omega)
       clear hz hH
       simp only [List.take_succ_cons,List.take_zero]
       unfold Cx
       repeat (go_big_quiet_step (first | with_reducible exact KKU.out.at _ _))
       exact wpQuiet_nil rfl
      simp only [List.drop_succ_cons,List.drop_zero]
      refine Qh g6 #[.int .u64 (q0:Nat),.int .u64 (q1:Nat)] #[.int .u64 (a0:Nat),.int .u64 (a1:Nat)] 55 (by rfl) (by rfl) (by rfl) (Blocks.put_same _ _ _) rfl (.inl (by simp)) (by kernel_rfl) (by simp [Value.oneCell']) ?_
      refine Qf ?_
      intro w11 hx11 hH
      have A11:=Lib.hid (hH g6 _ (Blocks.put_same _ _ _))
      have HW11:=Lib.hid (HW10.out.trans (hx11.below_of (b:=w3.heap.size) (fun k hk=>by simp at hk;omega) HW10.out.size))
      clear hx11 hH
      go_wp2_with fail
      go_roundw
      case rel=>exact ⟨t+1,by go_num,by omega,by rw [←HQ0.out,←HQ1.out];exact A11.out,HW11.out⟩
      case measure=>simp [intOf];omega
     ·obtain rfl:t=x.ins.length:=by omega
      have hdt:decide (x.ins.length<x.ins.length)=false:=decide_eq_false (by omega)
      have hdt2:decide ((x.ins.length:Int)<(x.ins.length:Int))=false:=decide_eq_false (by omega)
      go_wp2_with fail
      go_roundw
      case rel=>exact ⟨i+1,by go_num,by omega,HWt.out⟩
      case measure=>simp [intOf];omega
   ·have hk3:(x.k == 3)=false:=J7 h3
    go_wp2_with fail
    go_roundw
    case rel=>exact ⟨i+1,by go_num,by omega,HW5.out⟩
    case measure=>simp [intOf];omega
  ·obtain rfl:i=m:=by omega
   have hd:decide (i<i)=false:=decide_eq_false (by omega)
   have hd2:decide ((i:Int)<(i:Int))=false:=decide_eq_false (by omega)
   have HF:=Lib.hid (HP.out w4 (HL3.out.trans (HW.out.mono HL3.out.size)))
   go_wp2_with fail
   exact HF.out
end
/- The reference's check of a theory. -/
section
open Go.RowKit
set_option maxHeartbeats 6400000 in
set_option maxRecDepth 100000 in
theorem xTheo (n:Int) (L:List (List Int)) (aL:Option Addr) (cL:Nat) (w:World) (hA:ThAt w.heap.size w aL L) :
  Calls Tryz.prog 14 #[.agg #[.int .i64 n,.slice aL L.length cL]] w fun e w'=>e = .returned (.int .i64 (Kz n L))∧Below w.heap.size w w':=by
 obtain ⟨R,hR⟩:∃ R,R=Kz n L:=⟨_,rfl⟩
 rw [←hR]
 have HR:=Lib.hid (show R=if n<0∨128<n then 6 else if 4096<L.length then 2 else Q3m n L from hR)
 have HA:=Lib.hid hA
 clear hR hA
 go_enter Tryz.func14,Tryz.ntmps14
 go_upto_region 1 with fail
 refine Qg ?_
 intro w1 hw1
 have S1:=Lib.hid (show w1.heap[w.heap.size]?=some (.cells #[.int .i64 n,.slice aL L.length cL] 24 (0,0)) by rw [hw1];exact Qn _ _)
 have HB1:=Lib.hid (show Below w.heap.size w w1 by rw [hw1];exact Qe _ _)
 have hs1:w1.heap.size=w.heap.size+1:=by rw [hw1];simp
 clear hw1
 have q0:=Q5 S1.out 0 rfl
 have q1:=Q5 S1.out 1 rfl
 by_cases hneg:n<0
 ·have hd:decide (n<0)=true:=decide_eq_true hneg
  have HF:=Lib.hid (HR.out.trans (if_pos (.inl hneg)))
  go_wp2_with fail
  go_ret
  exact ⟨by rw [HF.out];rfl,HB1.out⟩
 have hd:decide (n<0)=false:=decide_eq_false hneg
 by_cases hbig:128<n
 ·have hd2:decide (128<n)=true:=decide_eq_true hbig
  have hd3:decide (n > 128)=true:=hd2
  have HF:=Lib.hid (HR.out.trans (if_pos (.inr hbig)))
  go_wp2_with fail
  go_ret
  exact ⟨by rw [HF.out];rfl,HB1.out⟩
 have hd2:decide (128<n)=false:=decide_eq_false hbig
 have hd3:decide (n > 128)=false:=hd2
 have HR2:=Lib.hid (HR.out.trans (if_neg (by omega)))
 by_cases hlong:4096<L.length
 ·have hd4:decide (4096<L.length)=true:=decide_eq_true hlong
  have hd5:decide ((4096:Int)<(L.length:Int))=true:=decide_eq_true (by omega)
  have HF:=Lib.hid (HR2.out.trans (if_pos hlong))
  go_wp2_with fail
  go_ret
  exact ⟨by rw [HF.out];rfl,HB1.out⟩
 have hd4:decide (4096<L.length)=false:=decide_eq_false hlong
 have hd5:decide ((4096:Int)<(L.length:Int))=false:=decide_eq_false (by omega)
 have HR3:=Lib.hid (HR2.out.trans (if_neg hlong))
 have hL4:L.length≤4096:=by omega
 have hn8:0≤n∧n≤128:=by omega
 clear HR HR2 hneg hbig hlong
 go_wp2_with fail
 clear q0 q1
 go_loopw [3] (fun t3 wr=>∃ j:Nat,j≤L.length∧t3 = .int .i64 j∧Hid (R=Q3m n (L.drop j))∧Hid (Below w1.heap.size w1 wr)) (fun t3 _=>L.length-(intOf t3).toNat)
 case atStart=>exact ⟨0,Nat.zero_le _,rfl,HR3.out,Below.refl _ _⟩
 case round =>
  obtain ⟨j,hj,rfl,HG,HB⟩:=hrel
  have SJ:=Lib.hid ((Q4 HB.out).keep S1.out (by simp))
  have q0:=Q5 SJ.out 0 rfl
  have q1:=Q5 SJ.out 1 rfl
  by_cases hlt:j<L.length
  ·have hdd:decide (j<L.length)=true:=decide_eq_true hlt
   have hxx:L[j]?=some (L.getD j []):=by simp [List.getD,hlt]
   have hdr:L.drop j=L.getD j []::L.drop (j+1):=by rw [List.drop_eq_getElem_cons hlt];simp [List.getD,hlt]
   obtain ⟨b1,o1,p1,c1,hb1,e1,k1,hat⟩:=HA.out j _ hxx
   subst e1
   have D0:=Lib.hid (Q8 HB1.out hb1 k1)
   have d1:=Q8 HB.out (show b1<w1.heap.size by omega) D0.out
   have HAT:=Lib.hid hat
   have HG2:=Lib.hid (show R=_ from HG.out.trans (by rw [hdr]))
   generalize L.getD j []=xs at *
   clear k1 hxx hdr hat
   by_cases h128:128<xs.length
   ·have h1:decide (128<xs.length)=true:=decide_eq_true h128
    have h2:decide ((128:Int)<(xs.length:Int))=true:=decide_eq_true (by omega)
    have HF:=Lib.hid (HG2.out.trans (if_pos h128))
    go_wp2_with fail
    go_ret
    exact ⟨by rw [HF.out];rfl,HB1.out.trans (HB.out.mono (by omega))⟩
   have h1:decide (128<xs.length)=false:=decide_eq_false h128
   have h2:decide ((128:Int)<(xs.length:Int))=false:=decide_eq_false (by omega)
   have HG3:=Lib.hid (HG2.out.trans (if_neg h128))
   clear HG2 HG
   go_wp2_with fail
   clear q0 q1 d1 SJ
   obtain ⟨wz,hwz⟩:∃ wz,wz=wr:=⟨_,rfl⟩
   subst hwz
   go_loopw [4] (fun t4 wr=>∃ k:Nat,k≤xs.length∧t4 = .int .i64 k∧Hid (∀ z∈xs.take k,Jk z n=true)∧Hid (Below w1.heap.size w1 wr)) (fun t4 _=>xs.length-(intOf t4).toNat)
   case atStart=>exact ⟨0,Nat.zero_le _,rfl,by simp [Hid],HB.out⟩
   case round =>
    obtain ⟨k,hk,rfl,HZ,HBk⟩:=hrel
    have SK:=Lib.hid ((Q4 HBk.out).keep S1.out (by simp))
    have q0:=Q5 SK.out 0 rfl
    have q1:=Q5 SK.out 1 rfl
    have d1:=Q8 HBk.out (show b1<w1.heap.size by omega) D0.out
    by_cases hlk:k<xs.length
    ·have hdk:decide (k<xs.length)=true:=decide_eq_true hlk
     have hzz:xs[k]?=some (xs.getD k 0):=by simp [List.getD,hlk]
     obtain ⟨b2,o2,hb2,e2,k2⟩:=HAT.out k _ (Jb _ _ _ hzz)
     subst e2
     have D2:=Lib.hid (Q8 HBk.out (show b2<w1.heap.size by omega) (Q8 HB1.out hb2 k2))
     have D1:=Lib.hid d1
     have HT:=Lib.hid (Xj hzz)
     have HM:=Lib.hid (List.mem_of_getElem? hzz)
     generalize xs.getD k 0=z at *
     have KV:=Lib.hid (xValid z n (by omega) (by omega))
     obtain ⟨vb,hvb⟩:∃ vb,vb=Jk z n:=⟨_,rfl⟩
     rw [←hvb] at KV
     have HVB:=Lib.hid hvb
     clear k2 hzz hvb
     go_wp2_with fail
     refine Qo [0,0,0,0,0,0,0,0,0,0,0,0] [] B0 Qu (Qi _) (by kernel_rfl) (by kernel_rfl) ?_
     refine Qb 12 (by kernel_rfl) (by rfl) ?_
     apply Exists.intro
     refine ⟨fun y hy=>?_,?_⟩
     ·have g0:=Q6 hy (Q5 SK.out 0 rfl) (by simp)
      have g1:=Q6 hy (Q5 SK.out 1 rfl) (by simp)
      have g2:=Q6 hy D1.out (by simp)
      have g3:=Q6 hy D2.out (by simp)
      clear hy
      simp only [List.take_succ_cons,List.take_zero]
      unfold Cx
      repeat (go_big_quiet_step (first | with_reducible exact KV.out.at _ _))
      exact wpQuiet_nil rfl
     simp only [List.drop_succ_cons,List.drop_zero]
     refine Qf ?_
     intro x2 hx2 _
     have HB2:=Lib.hid (HBk.out.trans (hx2.below.mono HBk.out.size))
     clear hx2 q0 q1 d1
     cases vb with
     | false =>
      have HF:=Lib.hid (HG3.out.trans (if_neg (fun h=>by have:=List.all_eq_true.1 h z HM.out;rw [←HVB.out] at this;cases this)))
      go_wp2_with fail
      go_ret
      exact ⟨by rw [HF.out];rfl,HB1.out.trans (HB2.out.mono (by omega))⟩
     | true =>
      go_wp2_with fail
      go_roundw
      case rel=>exact ⟨k+1,by omega,by go_num,fun u hu=>by
       rw [HT.out] at hu
       rcases List.mem_append.1 hu with hu | hu
       ·exact HZ.out u hu
       ·rw [List.mem_singleton.1 hu];exact HVB.out.symm,HB2.out⟩
      case measure=>simp [intOf];omega
    ·obtain rfl:k=xs.length:=by omega
     have hdk:decide (xs.length<xs.length)=false:=by simp
     have HG4:=Lib.hid (HG3.out.trans (if_pos (List.all_eq_true.2 fun z hz=>HZ.out z (by rw [List.take_length];exact hz))))
     go_wp2_with fail
     go_roundw
     case rel=>exact ⟨j+1,by omega,by go_num,HG4.out,HBk.out⟩
     case measure=>simp [intOf];omega
  ·obtain rfl:j=L.length:=by omega
   have hdd:decide (L.length<L.length)=false:=by simp
   have HF:=Lib.hid (show R=0 by rw [HG.out,List.drop_length];rfl)
   go_wp2_with fail
   go_ret
   exact ⟨by rw [HF.out];rfl,HB1.out.trans (HB.out.mono (by omega))⟩
end
/- censustop.light,chapter. -/
section
open Go.RowKit
def Xp (n:Int) (L:List (List Int)):Bool:=decide (n≤7)&&decide (L.length≤12)&&decide (Kz n L=0)&&L.all fun c=>decide (c.length≤10)
set_option maxHeartbeats 3200000 in
set_option maxRecDepth 100000 in
theorem gLight (n:Int) (L:List (List Int)) (aL:Option Addr) (cL:Nat) (w:World) (hA:ThAt w.heap.size w aL L) :
  Calls Tryz.prog 4 #[.agg #[.int .i64 n,.slice aL L.length cL]] w fun e w'=>e = .returned (.bool (Xp n L))∧Below w.heap.size w w':=by
 obtain ⟨Post,hPost⟩:∃ P:Ending→World→Prop,P=fun e w'=>e = .returned (.bool (Xp n L))∧Below w.heap.size w w':=⟨_,rfl⟩
 rw [←hPost]
 have HP:=Lib.hid (show ∀ (b:Bool) (w':World),Xp n L=b→Below w.heap.size w w'→Post (.returned (.bool b)) w' from fun b w' h hb=>by rw [hPost];exact ⟨by rw [h],hb⟩)
 have HA:=Lib.hid (fun (x:World) (hb:Below w.heap.size w x)=>(show ThAt w.heap.size x aL L from hA.below hb (Nat.le_refl _)))
 have KC:=Lib.hid (fun (x:World) (hb:Below w.heap.size w x)=>xTheo n L aL cL x ((hA.below hb (Nat.le_refl _)).mono hb.size))
 have HDEF:=Lib.hid (show Xp n L=(decide (n≤7)&&decide (L.length≤12)&&decide (Kz n L=0)&&L.all fun c=>decide (c.length≤10)) from rfl)
 obtain ⟨m,hm⟩:∃ m,m=L.length:=⟨_,rfl⟩
 rw [←hm] at KC HDEF ⊢
 have HM:=Lib.hid hm
 clear hPost hA hm
 go_enter Tryz.func4,Tryz.ntmps4
 go_upto_region 1 with fail
 refine Qg ?_
 intro w1 hw1
 have S1:=Lib.hid (show w1.heap[w.heap.size]?=some (.cells #[.int .i64 n,.slice aL m cL] 24 (0,0)) by rw [hw1];exact Qn _ _)
 have HL1:=Lib.hid (show Below w.heap.size w w1 by rw [hw1];exact Qe _ _)
 clear hw1
 have q0:=Q5 S1.out 0 rfl
 have q1:=Q5 S1.out 1 rfl
 by_cases h7:7<n
 ·have hd:decide (7<n)=true:=decide_eq_true h7
  have HF:=Lib.hid (HP.out false w1 (by rw [HDEF.out,decide_eq_false (show ¬ n≤7 by omega)];rfl) HL1.out)
  go_wp2_with fail
  exact HF.out
 have hd7:decide (7<n)=false:=decide_eq_false h7
 by_cases h12:12<m
 ·have hd:decide (12<m)=true:=decide_eq_true h12
  have hd2:decide ((12:Int)<(m:Int))=true:=decide_eq_true (by omega)
  have HF:=Lib.hid (HP.out false w1 (by rw [HDEF.out,decide_eq_false (show ¬ m≤12 by omega)];simp) HL1.out)
  go_wp2_with fail
  exact HF.out
 have hd12:decide (12<m)=false:=decide_eq_false h12
 have hd122:decide ((12:Int)<(m:Int))=false:=decide_eq_false (by omega)
 have HDEF2:=Lib.hid (show Xp n L=(decide (Kz n L=0)&&L.all fun c=>decide (c.length≤10)) by rw [HDEF.out,decide_eq_true (show n≤7 by omega),decide_eq_true (show m≤12 by omega)];rfl)
 have K1:=KC.out w1 HL1.out
 clear HDEF
 generalize Kz n L=T at *
 go_wp2_with fail
 refine K1.mono ?_
 rintro e w2 ⟨rfl,hb2⟩
 have S2:=Lib.hid ((Q4 hb2).keep S1.out (by simp))
 have HL2:=Lib.hid (HL1.out.trans (hb2.mono HL1.out.size))
 clear hb2 K1 KC S1 HL1 q0 q1
 by_cases hT:T=0
 case neg =>
  have hTn:(T == 0)=false:=J7 hT
  have HF:=Lib.hid (HP.out false w2 (by rw [HDEF2.out,decide_eq_false hT];rfl) HL2.out)
  clear hT
  go_wp2_with fail
  exact HF.out
 case pos =>
  have hTn:(T == 0)=true:=by rw [hT];rfl
  have HDEF3:=Lib.hid (show Xp n L=L.all fun c=>decide (c.length≤10) by rw [HDEF2.out,decide_eq_true hT];rfl)
  clear hT HDEF2
  go_wp2_with fail
  go_loopw [3] (fun t3 wr=>∃ j:Nat,j≤m∧t3 = .int .i64 j∧Hid ((L.take j).all (fun c=>decide (c.length≤10))=true)∧Hid (Below w2.heap.size w2 wr)) (fun t3 _=>m-(intOf t3).toNat)
  case atStart=>exact ⟨0,Nat.zero_le _,rfl,rfl,Below.refl _ _⟩
  case round =>
   obtain ⟨j,hj,rfl,HG,HB⟩:=hrel
   have SJ:=Lib.hid ((Q4 HB.out).keep S2.out (by simp))
   have q0:=Q5 SJ.out 0 rfl
   have q1:=Q5 SJ.out 1 rfl
   have HWJ:=Lib.hid (HL2.out.trans (HB.out.mono HL2.out.size))
   by_cases hlt:j<m
   ·have hdd:decide (j<m)=true:=decide_eq_true hlt
    have hdd2:decide ((j:Int)<(m:Int))=true:=decide_eq_true (by omega)
    obtain ⟨xs,hx⟩:∃ xs,L[j]?=some xs:=⟨_,List.getElem?_eq_getElem (by rw [←HM.out];exact hlt)⟩
    obtain ⟨b1,o1,p1,c1,hb1,e1,k1,_⟩:=HA.out _ HWJ.out j _ hx
    subst e1
    have HTK:=Lib.hid (show (L.take (j+1)).all (fun c=>decide (c.length≤10))=((L.take j).all (fun c=>decide (c.length≤10))&&decide (xs.length≤10)) by
     obtain ⟨hi,rfl⟩:=List.getElem?_eq_some_iff.1 hx
     rw [List.take_succ_eq_append_getElem hi,List.all_append];simp)
    have HXM:=Lib.hid (List.mem_of_getElem? hx)
    clear hx
    by_cases h10:10<xs.length
    ·have h1:decide (10<xs.length)=true:=decide_eq_true h10
     have h2:decide ((10:Int)<(xs.length:Int))=true:=decide_eq_true (by omega)
     have HF:=Lib.hid (HP.out false _ (by
      rw [HDEF3.out]
      apply Bool.eq_false_iff.2
      intro h
      have:=List.all_eq_true.1 h xs HXM.out
      simp at this;omega) HWJ.out)
     go_wp2_with fail
     exact HF.out
    ·have h1:decide (10<xs.length)=false:=decide_eq_false h10
     have h2:decide ((10:Int)<(xs.length:Int))=false:=decide_eq_false (by omega)
     have HGN:=Lib.hid (show (L.take (j+1)).all (fun c=>decide (c.length≤10))=true by rw [HTK.out,HG.out,decide_eq_true (show xs.length≤10 by omega)];rfl)
     clear HTK
     go_wp2_with fail
     go_roundw
     case rel=>exact ⟨j+1,by omega,by go_num,HGN.out,HB.out⟩
     case measure=>simp [intOf];omega
   ·obtain rfl:j=m:=by omega
    have hdd:decide (j<j)=false:=by simp
    have hdd2:decide ((j:Int)<(j:Int))=false:=by simp
    have HF:=Lib.hid (HP.out true _ (by rw [HDEF3.out,←HG.out,HM.out,List.take_length]) HWJ.out)
    go_wp2_with fail
    exact HF.out
end
end Go.Proofs.YtcpehljpegfckaaGreatDoor
