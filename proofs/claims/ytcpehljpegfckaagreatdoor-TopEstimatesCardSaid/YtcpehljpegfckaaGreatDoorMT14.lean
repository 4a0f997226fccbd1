/- Texts of this claim,joined: CY7,CY8,CY9,CZ1. -/
import Derived.Test.YtcpehljpegfckaaGreatDoorMTS
import Derived.Test.YtcpehljpegfckaaGreatDoorMT13
import Derived.Lib.RowBridge
import Derived.Lib.OwnBridge
import Derived.Deep.DeepCutAuto
import Derived.Lib.AppendIntMem
/- Clause lists: Contains,Clone,DeleteFunc. -/
namespace Go.Proofs.YtcpehljpegfckaaGreatDoor
section
open Go.RowKit
theorem getD_of {xs:List Int} {j:Nat} (h:j<xs.length):(Qm xs)[j]?=some (.int .i64 (xs.getD j 0)):=by
 refine Jb xs j _ ?_
 rw [List.getD_eq_getElem?_getD,List.getElem?_eq_getElem h];rfl
theorem Q91 (xs:List Int) (p:Option Addr) (c:Nat) (x:Int) (w:World) (hA:AtN w.heap.size w p (Qm xs)) (hl:xs.length≤1000000000):GivesFrom w 111 #[.slice p xs.length c,.int .i64 x] (.bool (xs.contains x)):=by
 intro w' hb
 have hA':=(hA.below hb (Nat.le_refl _)).mono hb.size
 cases xs with
 | nil =>
  refine (Tryz.slices_Contains_int_empty p c x w').mono ?_
  rintro e w2 ⟨rfl,rfl⟩
  exact ⟨rfl,Below.refl _ _⟩
 | cons y ys =>
  obtain ⟨b,o,hbl,rfl,hc⟩:=hA'.base (by simp [Qm])
  refine (Tryz.slices_Contains_int b o (y::ys).length c (y::ys) x w' (Nat.le_refl _) (by omega) (fun j hj=>hc j _ (getD_of hj))).mono ?_
  rintro e w2 ⟨rfl,rfl⟩
  rw [List.take_length]
  exact ⟨rfl,Below.refl _ _⟩
theorem Q1m (xs:List Int) (p:Option Addr) (c:Nat) (w:World) (hA:AtN w.heap.size w p (Qm xs)) (hl:xs.length≤1000000000) :
  Calls Tryz.prog 73 #[.slice p xs.length c] w fun e w'=>∃ v',e = .returned v'∧RowV (inW w') 3 1 v' xs.length (Qm xs)∧(∀ g∈Q7 v',w.heap.size≤g)∧Below w.heap.size w w':=by
 cases xs with
 | nil =>
  cases p with
  | none =>
   refine (Tryz.slices_Clone_int_nil 0 c w).mono ?_
   rintro e w2 ⟨rfl,rfl⟩
   exact ⟨_,rfl,.nil,fun g hg=>(by simp [Q7] at hg),Below.refl _ _⟩
  | some a =>
   refine (Tryz.slices_Clone_int_zero a c w).mono ?_
   rintro e w2 ⟨v',rfl,ho,_,hb⟩
   obtain ⟨h1,h2⟩:=RowV.of_own ho
   exact ⟨v',rfl,h1,h2,hb⟩
 | cons y ys =>
  obtain ⟨b,o,hbl,rfl,hc⟩:=hA.base (by simp [Qm])
  refine (Tryz.slices_Clone_int b o (y::ys).length c (y::ys) w (Nat.le_refl _) (by omega) (fun j hj=>hc j _ (getD_of hj))).mono ?_
  rintro e w2 ⟨v',rfl,ho,_,hb⟩
  obtain ⟨h1,h2⟩:=RowV.of_own ho
  rw [List.take_length] at h1
  exact ⟨v',rfl,h1,h2,hb⟩
/-! ### One literal taken out -/
def Q3k (w:World) (g:Nat) (v:Int):Prop:=w.heap[g]?=some (.cells #[.int .i64 v] 3 (0,0))
def delF (gx:Nat):Value:=.func (.func 113) #[] #[.pointer (some ⟨gx,0,none⟩)]
set_option maxHeartbeats 1600000 in
set_option maxRecDepth 100000 in
theorem gDel (x y:Int) (gx:Nat) (hx:-128≤x∧x≤128) (w:World) (hb:Q3k w gx x):GivesFrom w 113 #[.int .i64 y,.pointer (some ⟨gx,0,none⟩)] (.bool (y == -x)):=by
 intro w' hbe
 have hb2:Q3k w' gx x:=(Q4 hbe).keep hb (by simp)
 have c0:=Q5 hb2 0 rfl
 obtain ⟨Post,hPost⟩:∃ P:Ending→World→Prop,P=fun e w2=>e = .returned (.bool (y == -x))∧Below w'.heap.size w' w2:=⟨_,rfl⟩
 rw [←hPost]
 have HP:=Lib.hid hPost
 clear hPost hb hbe hb2
 go_enter Tryz.func113,Tryz.ntmps113
 go_wp2_with fail
 rw [HP.out]
 exact ⟨rfl,Below.refl _ _⟩
def RowJ (w:World) (g:Nat) (xs:List Int) (tl:List Value):Prop:=w.heap[g]?=some (.cells (Qm xs++tl).toArray 3 (0,0))
theorem RowJ.get {w:World} {g:Nat} {xs:List Int} {tl:List Value} (h:RowJ w g xs tl) {i:Nat} {x:Int} (hx:xs[i]?=some x):w.cell? ⟨g,i,none⟩=some (.int .i64 x):=by
 have hi:=(List.getElem?_eq_some_iff.1 hx).1
 exact Q5 h i (by rw [List.getElem?_toArray,List.getElem?_append_left (by simpa [Qm] using hi)];exact Jb xs i x hx)
set_option maxHeartbeats 3200000 in
set_option maxRecDepth 100000 in
theorem gIndexDel (xs:List Int) (g cap:Nat) (tl:List Value) (x:Int) (gx:Nat) (hx:-128≤x∧x≤128) (w:World) (hR:RowJ w g xs tl) (hb:Q3k w gx x) (hl:xs.length≤1000000) :
  Calls Tryz.prog 136 #[.slice (some ⟨g,0,none⟩) xs.length cap,delF gx] w fun e w'=>Below w.heap.size w w'∧((e = .returned (.int .i64 (-1))∧∀ y∈xs,(y == -x)=false)∨∃ (A D:List Int) (y:Int),e = .returned (.int .i64 (A.length:Nat))∧xs=A++y::D∧(∀ a∈A,(a == -x)=false)∧(y == -x)=true):=by
 obtain ⟨Post,hPost⟩:∃ P:Ending→World→Prop,P=fun e w'=>Below w.heap.size w w'∧((e = .returned (.int .i64 (-1))∧∀ y∈xs,(y == -x)=false)∨∃ (A D:List Int) (y:Int),e = .returned (.int .i64 (A.length:Nat))∧xs=A++y::D∧(∀ a∈A,(a == -x)=false)∧(y == -x)=true):=⟨_,rfl⟩
 rw [←hPost]
 have HP1:=Lib.hid (show ∀ w',Below w.heap.size w w'→(∀ y∈xs,(y == -x)=false)→Post (.returned (.int .i64 (-1))) w' from fun w' h1 h2=>by rw [hPost];exact ⟨h1,.inl ⟨rfl,h2⟩⟩)
 have HP2:=Lib.hid (show ∀ (A D:List Int) (y:Int) (i:Nat) w',Below w.heap.size w w'→i=A.length→xs=A++y::D→(∀ a∈A,(a == -x)=false)→(y == -x)=true→Post (.returned (.int .i64 (i:Nat))) w' from fun A D y i w' h1 h0 h2 h3 h4=>by rw [hPost,h0];exact ⟨h1,.inr ⟨A,D,y,rfl,h2,h3,h4⟩⟩)
 have HR:=Lib.hid hR
 have HB:=Lib.hid hb
 unfold delF
 obtain ⟨n,hn⟩:∃ n,n=xs.length:=⟨_,rfl⟩
 rw [←hn] at hl ⊢
 have HN:=Lib.hid hn
 clear hPost hR hb hn
 go_enter Tryz.func136,Tryz.ntmps136
 go_wp2_with fail
 go_loopw [8] (fun t wr=>∃ (j:Nat) (A D:List Int),A.length=j∧j≤n∧t = .int .i64 j∧Hid (xs=A++D)∧Hid (∀ a∈A,(a == -x)=false)∧Hid (Below w.heap.size w wr)) (fun t _=>n-(intOf t).toNat)
 case atStart=>exact ⟨0,[],xs,rfl,Nat.zero_le _,rfl,rfl,(fun a ha=>by cases ha),Below.refl _ _⟩
 case round =>
  obtain ⟨j,A,D,hAj,hjn,rfl,HX,HA,HW⟩:=hrel
  obtain ⟨w1,hw1⟩:∃ w1,w1=wr:=⟨_,rfl⟩
  rw [←hw1] at HW ⊢
  clear hw1
  have HAJ:=Lib.hid hAj
  clear hAj
  cases D with
  | nil =>
   have hnj:n≤j:=by have:=HN.out;rw [HX.out] at this;have:=HAJ.out;simp at *;omega
   have hd:decide (j<n)=false:=decide_eq_false (by omega)
   have hd2:decide ((j:Int)<(n:Int))=false:=decide_eq_false (by omega)
   have HF:=Lib.hid (HP1.out w1 HW.out (by rw [HX.out,List.append_nil];exact HA.out))
   clear HX HA
   go_wp2_with fail
   exact HF.out
  | cons y D =>
   have hlt:j<n:=by have:=HN.out;rw [HX.out] at this;have:=HAJ.out;simp at *;omega
   have hd:decide (j<n)=true:=decide_eq_true hlt
   have hd2:decide ((j:Int)<(n:Int))=true:=decide_eq_true (by omega)
   have hR1:RowJ w1 g xs tl:=(Q4 HW.out).keep HR.out (by simp)
   have hB1:Q3k w1 gx x:=(Q4 HW.out).keep HB.out (by simp)
   have c0:=hR1.get (i:=j) (x:=y) (by rw [HX.out,←HAJ.out,List.getElem?_append_right (Nat.le_refl _),Nat.sub_self];rfl)
   have KD:=gDel x y gx hx w1 hB1 w1 (Below.refl _ _)
   have HS:=Lib.hid (show (y == -x)=false→∀ a∈A++[y],(a == -x)=false from fun h a ha=>by
    rcases List.mem_append.1 ha with ha | ha
    ·exact HA.out a ha
    ·rw [show a=y by simpa using ha];exact h)
   have HS2:=Lib.hid (show (y == -x)=true→∀ w',Below w.heap.size w w'→Post (.returned (.int .i64 (j:Nat))) w' from fun h w' hb=>HP2.out A D y j w' hb HAJ.out.symm HX.out HA.out h)
   have HX2:=Lib.hid (show xs=(A++[y])++D by rw [HX.out];simp)
   generalize (y == -x)=q at *
   clear hR1 hB1 HX HA
   go_wp2_with fail
   refine KD.mono ?_
   rintro e w2 ⟨rfl,hb2⟩
   have HB2:=Lib.hid (HW.out.trans (hb2.mono HW.out.size))
   clear hb2 KD c0
   cases q with
   | true =>
    have HF:=Lib.hid (HS2.out rfl w2 HB2.out)
    go_wp2_with fail
    exact HF.out
   | false =>
    have HA2:=Lib.hid (HS.out rfl)
    have HL2:=Lib.hid (show (A++[y]).length=j+1 by rw [List.length_append,HAJ.out];rfl)
    go_wp2_with fail
    go_roundw
    case rel=>exact ⟨j+1,A++[y],D,HL2.out,by omega,by go_num,HX2.out,HA2.out,HB2.out⟩
    case measure=>simp [intOf];omega
end
/- slices.DeleteFunc: one literal taken out of a list. -/
section
open Go.RowKit
theorem set_row (K R:List Int) (u y:Int) (tl:List Value):(Qm (K++u::R)++tl).toArray.setIfInBounds K.length (.int .i64 y)=(Qm (K++y::R)++tl).toArray:=by
 have h:(Qm K).length=K.length:=by simp [Qm]
 unfold Qm at *
 rw [List.setIfInBounds_toArray,List.map_append,List.map_append,List.map_cons,List.map_cons,List.append_assoc,List.append_assoc,←h,List.set_append_right _ _ (Nat.le_refl _),Nat.sub_self]
 rfl
theorem U4 {x:Int}:∀ {A:List Int},(∀ a∈A,(a == -x)=false)→A.filter (fun y=>!(y == -x))=A:=fun {A} h=>List.filter_eq_self.2 fun a ha=>by rw [h a ha];rfl
set_option maxHeartbeats 3200000 in
set_option maxRecDepth 100000 in
theorem gDelete (xs:List Int) (g cap:Nat) (tl:List Value) (x:Int) (gx:Nat) (hx:-128≤x∧x≤128) (w:World) (hR:RowJ w g xs tl) (hb:Q3k w gx x) (hgx:gx≠g) (hl:xs.length≤1000000) (hcap:xs.length≤cap) (hcap2:cap≤9223372036854775807) :
  Calls Tryz.prog 112 #[.slice (some ⟨g,0,none⟩) xs.length cap,delF gx] w fun e w'=>e = .returned (.slice (some ⟨g,0,none⟩) (xs.filter fun y=>!(y == -x)).length cap)∧(∃ Z,RowJ w' g (xs.filter fun y=>!(y == -x)) Z)∧Behind w [g] w':=by
 obtain ⟨F,hF⟩:∃ F,F=xs.filter fun y=>!(y == -x):=⟨_,rfl⟩
 rw [←hF]
 obtain ⟨Post,hPost⟩:∃ P:Ending→World→Prop,P=fun e w'=>e = .returned (.slice (some ⟨g,0,none⟩) F.length cap)∧(∃ Z,RowJ w' g F Z)∧Behind w [g] w':=⟨_,rfl⟩
 rw [←hPost]
 have HP:=Lib.hid (show ∀ (K:List Int) (k:Nat) (Z:List Value) (w':World),F=K→K.length=k→RowJ w' g K Z→Behind w [g] w'→Post (.returned (.slice (some ⟨g,0,none⟩) k cap)) w' from fun K k Z w' h1 h0 h2 h3=>by rw [hPost,h1,←h0];exact ⟨rfl,⟨Z,h2⟩,h3⟩)
 have HF:=Lib.hid hF
 have HR:=Lib.hid hR
 have HB:=Lib.hid hb
 have HGX:=Lib.hid hgx
 have KI:=gIndexDel xs g cap tl x gx hx w hR hb hl
 obtain ⟨n,hn⟩:∃ n,n=xs.length:=⟨_,rfl⟩
 rw [←hn] at hl hcap KI ⊢
 have HN:=Lib.hid hn
 unfold delF at *
 clear hPost hF hR hb hgx hn
 go_enter Tryz.func112,Tryz.ntmps112
 go_wp2_with fail
 refine KI.mono ?_
 rintro e w1 ⟨hb1,⟨rfl,hno⟩ | ⟨A,D,y0,rfl,hxs,hA,hy⟩⟩
 ·have HE:=Lib.hid (HP.out xs n tl w1 (by rw [HF.out,U4 hno]) HN.out.symm ((Q4 hb1).keep HR.out (by simp)) ((Q4 hb1).mono (by simp)))
  clear hno hb1 KI
  go_wp2_with fail
  exact HE.out
 ·have HX:=Lib.hid hxs
  have HA:=Lib.hid hA
  have HY:=Lib.hid hy
  have HW1:=Lib.hid hb1
  obtain ⟨i0,hi0⟩:∃ i,i=A.length:=⟨_,rfl⟩
  rw [←hi0]
  have HI0:=Lib.hid hi0
  have hin:i0<n:=by have:=HN.out;rw [hxs] at this;simp at this;omega
  have hne:((i0:Int) == -1)=false:=J7 (by omega)
  have HFD:=Lib.hid (show F=A++D.filter (fun y=>!(y == -x)) by rw [HF.out,hxs,List.filter_append,U4 hA,List.filter_cons,hy];rfl)
  have HD:=Lib.hid (show i0+1+D.length=n by rw [HN.out,hxs,hi0];simp;omega)
  clear hxs hA hy hb1 hi0 KI
  go_wp2_with fail
  go_loopw [5,6] (fun t5 t6 wr=>∃ (i j:Nat) (K J D:List Int) (u:Int),t5 = .int .i64 i∧t6 = .int .i64 j∧K.length=i∧i<j∧j≤n∧Hid (K.length+(J.length+1)=j)∧Hid (j+D.length=n)∧Hid (F=K++D.filter (fun y=>!(y == -x)))∧Hid (RowJ wr g (K++u::(J++D)) tl)∧Hid (Behind w [g] wr)) (fun _ t6 _=>n-(intOf t6).toNat)
  case atStart=>exact ⟨i0,i0+1,A,[],D,y0,rfl,by go_num,HI0.out.symm,by omega,by omega,by rw [HI0.out];rfl,HD.out,HFD.out,by
   have:=(Q4 HW1.out).keep HR.out (by simp)
   rw [HX.out] at this;exact this,(Q4 HW1.out).mono (by simp)⟩
  case round =>
   clear HX HA HY HW1 HI0 HFD HD
   obtain ⟨i,j,K,J,D,u,rfl,rfl,hKi,hij,hjn,HJ,HD,HFD,HRW,HB1⟩:=hrel
   obtain ⟨w1,hw1⟩:∃ w1,w1=wr:=⟨_,rfl⟩
   rw [←hw1] at HRW HB1 ⊢
   clear hw1
   have HKI:=Lib.hid hKi
   clear hKi
   cases D with
   | nil =>
    have hnj:n≤j:=by have:=HD.out;simp at this;omega
    have hd:decide (j<n)=false:=decide_eq_false (by omega)
    have hd2:decide ((j:Int)<(n:Int))=false:=decide_eq_false (by omega)
    have HFK:=Lib.hid (show F=K by rw [HFD.out];simp)
    have HX:=Lib.hid (show w1.heap[g]?=some (.cells (Qm K++Qm (u::J)++tl).toArray 3 (0,0)) by
     have:=HRW.out
     unfold RowJ at this
     rw [this];simp [Qm])
    have HLK:=Lib.hid (show i*1=(Qm K).length by rw [←HKI.out];simp [Qm])
    have HLK2:=Lib.hid (show i=(Qm K).length by rw [←HKI.out];simp [Qm])
    have HLZ:=Lib.hid (show (Qm (u::J)).length=(n-i)*1 by
     have h1:=HJ.out
     have h2:=HKI.out
     simp [Qm];omega)
    have hk3:0<n-i:=by omega
    have hk4:i≤cap:=by omega
    go_wp2_with (refine Am _ rfl (.tmp 38) 51 rfl 3 (.int .i64 0) Tryz.underlying51 (fun w=>by kernel_rfl) (by simp [Value.cells,Value.oneCell']) g i (n-i) (cap-i) (Qm K) (Qm (u::J)) tl 3 rfl HLK2.out HX.out HLZ.out hk3 ?_)
    intro w7 Z7 hb7 hz7 hB7
    have HE:=Lib.hid (HP.out K i (Z7++tl) w7 HFK.out HKI.out (by
     show w7.heap[g]?=_
     rw [hb7]) (HB1.out.trans hB7 (by simp)))
    clear hb7 hz7 hB7
    go_wp2_with fail
    exact HE.out
   | cons y D =>
    have hlt:j<n:=by have:=HD.out;simp at this;omega
    have hd:decide (j<n)=true:=decide_eq_true hlt
    have hd2:decide ((j:Int)<(n:Int))=true:=decide_eq_true (by omega)
    have hB1:Q3k w1 gx x:=HB1.out.keep HB.out (by simpa using HGX.out)
    have c0:=HRW.out.get (i:=j) (x:=y) (by
     have h1:=HJ.out
     rw [List.getElem?_append_right (by omega),show j-K.length=J.length+1 by omega,List.getElem?_cons_succ,List.getElem?_append_right (Nat.le_refl _),Nat.sub_self];rfl)
    have KD:=gDel x y gx hx w1 hB1 w1 (Below.refl _ _)
    have HQ1:=Lib.hid (show (y == -x)=true→F=K++D.filter (fun y=>!(y == -x)) from fun h=>by rw [HFD.out,List.filter_cons,h];rfl)
    have HQ2:=Lib.hid (show (y == -x)=false→F=(K++[y])++D.filter (fun y=>!(y == -x)) from fun h=>by rw [HFD.out,List.filter_cons,h];simp)
    generalize (y == -x)=q at *
    clear hB1 HFD
    go_wp2_with fail
    refine KD.mono ?_
    rintro e w2 ⟨rfl,hb2⟩
    have HB2:=Lib.hid (HB1.out.trans (Q4 hb2) (by simp))
    have HR2:=Lib.hid (show RowJ w2 g (K++u::(J++y::D)) tl from (Q4 hb2).keep HRW.out (by simp))
    clear hb2 KD c0 HRW HB1
    have HD2:=Lib.hid (show j+1+D.length=n by have:=HD.out;simp at this;omega)
    cases q with
    | true =>
     have HF2:=Lib.hid (HQ1.out rfl)
     have HR3:=Lib.hid (show RowJ w2 g (K++u::((J++[y])++D)) tl by
      have:=HR2.out
      rw [show J++y::D=(J++[y])++D by simp] at this
      exact this)
     have HJ2:=Lib.hid (show K.length+((J++[y]).length+1)=j+1 by have:=HJ.out;simp;omega)
     clear HQ1 HQ2
     go_wp2_with fail
     go_roundw
     case rel=>exact ⟨i,j+1,K,J++[y],D,u,rfl,by go_num,HKI.out,by omega,by omega,HJ2.out,HD2.out,HF2.out,HR3.out,HB2.out⟩
     case measure=>simp [intOf];omega
    | false =>
     have HF2:=Lib.hid (HQ2.out rfl)
     have hR2:=HR2.out
     have z0:w2.cell? ⟨g,i,none⟩=some (.int .i64 u):=hR2.get (by rw [←HKI.out,List.getElem?_append_right (Nat.le_refl _),Nat.sub_self];rfl)
     have f0:=Qd hR2 i
     have hin2:i<n:=by omega
     have hset:=heap_setCell_same w2 g i _ _ (.int .i64 y) hR2
     rw [←HKI.out,set_row] at hset
     rw [HKI.out] at hset
     have hbeh:Behind w2 [g] (w2.setCell ⟨g,i,none⟩ (.int .i64 y)):=⟨rfl,rfl,rfl,by simp,fun k _ hk=>heap_setCell_other _ _ _ _ (by simpa using hk)⟩
     have HB3:=Lib.hid (HB2.out.trans hbeh (by simp))
     obtain ⟨u2,J2,hu2⟩:=List.exists_cons_of_ne_nil (show J++[y]≠[] by simp)
     have HL2:=Lib.hid (show J2.length=J.length by have:=congrArg List.length hu2;simp at this;omega)
     have HR3:=Lib.hid (show RowJ (w2.setCell ⟨g,i,none⟩ (.int .i64 y)) g ((K++[y])++u2::(J2++D)) tl by
      show _=_
      rw [hset]
      congr 4
      rw [show (K++[y])++u2::(J2++D)=K++y::((u2::J2)++D) by simp,←hu2]
      simp)
     have HKI2:=Lib.hid (show (K++[y]).length=i+1 by rw [List.length_append,HKI.out];rfl)
     have HJ2:=Lib.hid (show (K++[y]).length+(J2.length+1)=j+1 by rw [HKI2.out,HL2.out];have:=HJ.out;have:=HKI.out;omega)
     clear HQ1 HQ2 hset hbeh hu2 hR2 HL2 HJ HD
     go_wp2_with fail
     go_roundw
     case rel=>exact ⟨i+1,j+1,K++[y],J2,D,u2,by go_num,by go_num,HKI2.out,by omega,by omega,HJ2.out,HD2.out,HF2.out,HR3.out,HB3.out⟩
     case measure=>simp [intOf];omega
end
/- What is left of clauses,given a literal. -/
section
open Go.RowKit
theorem Tryz.infoClause:(Tryz.prog.info? 138).map (fun i=>(i.zero,i.size,i.bytes))=some (some (.agg #[.slice none 0 0,.int .i64 0]),2,32):=by kernel_rfl
def ClsP (ok:Nat→Prop) (w:World) (p:Option Addr) (L:List Ce):Prop:=∀ i e,L[i]?=some e→∃ b o,b<w.heap.size∧ok b∧p=some ⟨b,o,none⟩∧w.cell? ⟨b,o+i*2,none⟩=some (.slice e.p e.xs.length e.c)∧w.cell? ⟨b,o+i*2+1,none⟩=some (.int .i64 e.at')
theorem ClsP.keep {ok:Nat→Prop} {w w':World} {U:List Nat} {p:Option Addr} {L:List Ce} (h:ClsP ok w p L) (hB:Behind w U w') (hU:∀ g∈U,ok g→w.heap.size≤g):ClsP ok w' p L:=fun i e he=>by
 obtain ⟨b,o,h1,h2,h3,h4,h5⟩:=h i e he
 have hn:b∉U:=fun hu=>by have:=hU b hu h2;omega
 exact ⟨b,o,Nat.lt_of_lt_of_le h1 hB.size,h2,h3,Jn hB h4 hn,Jn hB h5 hn⟩
theorem ClsP.imp {ok ok':Nat→Prop} {w:World} {p:Option Addr} {L:List Ce} (h:ClsP ok w p L) (hk:∀ g,g<w.heap.size→ok g→ok' g):ClsP ok' w p L:=fun i e he=>by
 obtain ⟨b,o,h1,h2,h3⟩:=h i e he
 exact ⟨b,o,h1,hk b h1 h2,h3⟩
theorem CeOk.imp {ok ok':Nat→Prop} {w:World} {e:Ce} (h:CeOk ok w e) (hk:∀ g,g<w.heap.size→ok g→ok' g):CeOk ok' w e:=⟨h.ins.imp hk,h.sm,h.len⟩
theorem RowV.cls {w:World} {v:Value} {L:List Ce} {n:Nat} (h:RowV (inW w) 138 2 v n (Jj L)) {p:Option Addr} {m c:Nat} (hv:v = .slice p m c):ClsP (fun b=>b∈Q7 v) w p L:=fun i e he=>by
 rcases h.two with ⟨rfl,rfl,hL⟩ | ⟨g,cap,rfl⟩
 ·have:=Yw L
  rw [hL] at this
  have hi:=(List.getElem?_eq_some_iff.1 he).1
  simp at this;omega
 ·cases hv
  obtain ⟨tl,hC,_⟩:=rowC_of h
  obtain ⟨h1,h2⟩:=hC.get he
  exact ⟨g,0,Q9 hC,by simp [Q7],rfl,by rw [Nat.zero_add];exact h1,by rw [Nat.zero_add];exact h2⟩
theorem rowJ_of {w:World} {v:Value} {n:Nat} {xs:List Int} (h:RowV (inW w) 3 1 v n (Qm xs)) (h0:xs≠[]):∃ g cap tl,v = .slice (some ⟨g,0,none⟩) n cap∧RowJ w g xs tl∧n=xs.length∧n≤cap∧cap≤maxLen:=by
 cases hx:Qm xs with
 | nil =>
  exfalso;apply h0
  have:=congrArg List.length hx
  simpa [Qm] using this
 | cons y ys =>
  rw [hx] at h
  cases h with
  | @row g n cap xs' cur hr =>
   have hl:=hr.len
   rw [←hx] at hl
   have hl2:n=xs.length:=by simp [Qm] at hl;omega
   refine ⟨g,cap,cur.toList.drop n,rfl,?_,hl2,hr.le,hr.mx⟩
   show w.heap[g]?=_
   have ht:=hr.tk
   rw [Nat.mul_one] at ht
   rw [hx,←ht,List.take_append_drop]
   exact hr.blk
structure GivenP (w w':World) (v:Value) (K:List Ce) (x:Int) (L:List Ce):Prop where
 row:RowV (inW w') 138 2 v K.length (Jj K)
 fresh:∀ g∈Q7 v,w.heap.size≤g
 ces:∀ e∈K,CeOk (fun b=>w.heap.size≤b∧b∉Q7 v) w' e
 same:SameC (lcs K) (Q0o x (lcs L))
 by':ByLen (lcs K)
 be:Below w.heap.size w w'
 len:K.length≤L.length
theorem Q4b (x:Int) (M:List (List Int)) (c:List Int):Q0o x (M++[c])=Q0o x M++(if c.contains x then [] else [c.filter fun y=>!(y == -x)]):=by
 unfold Q0o
 rw [List.filter_append,List.map_append]
 congr 1
 by_cases h:c.contains x=true
 ·rw [if_pos h,List.filter_cons_of_neg (by simpa using h)];rfl
 ·rw [if_neg h,List.filter_cons_of_pos (by simpa using h)];rfl
theorem Q8v (w:World) (x:Value) (T:TypeId):(w.alloc (Obj.cells #[x] T)).heap[w.heap.size]?=some (.cells #[x] T (0,0))∧Below w.heap.size w (w.alloc (Obj.cells #[x] T)) :=
 ⟨heap_alloc_new w _,(Below.refl _ _).alloc (Nat.le_refl _) _⟩
set_option maxHeartbeats 6400000 in
set_option maxRecDepth 100000 in
theorem gGiven (ok:Nat→Prop) (L:List Ce) (p:Option Addr) (cap:Nat) (x:Int) (hx:-128≤x∧x≤128) (w:World) (hA:ClsP ok w p L) (hI:∀ e∈L,CeOk ok w e) (hne:∀ e∈L,e.xs≠[]) (hl:L.length<20) :
  Calls Tryz.prog 74 #[.slice p L.length cap,.int .i64 x] w fun e w'=>∃ v K,e = .returned v∧GivenP w w' v K x L:=by
 obtain ⟨Post,hPost⟩:∃ P:Ending→World→Prop,P=fun e w'=>∃ v K,e = .returned v∧GivenP w w' v K x L:=⟨_,rfl⟩
 rw [←hPost]
 have HP:=Lib.hid (show ∀ (v:Value) (K:List Ce) (w':World),GivenP w w' v K x L→Post (.returned v) w' from fun v K w' h=>by rw [hPost];exact ⟨v,K,rfl,h⟩)
 have HA:=Lib.hid hA
 have HI:=Lib.hid hI
 have HNE:=Lib.hid hne
 obtain ⟨i0,ii,iz0,iz1,iz2⟩:=info_parts Tryz.infoClause
 have II:=Lib.hid ii
 have IZ0:=Lib.hid iz0
 have IZ1:=Lib.hid iz1
 have IZ2:=Lib.hid iz2
 obtain ⟨n,hn⟩:∃ n,n=L.length:=⟨_,rfl⟩
 rw [←hn] at hl ⊢
 have HN:=Lib.hid hn
 clear hPost hA hI hne hn ii iz0 iz1 iz2
 go_enter Tryz.func74,Tryz.ntmps74
 go_upto_region 1 with fail
 refine Qg ?_
 intro w1 hw1
 have HBX:=Lib.hid (show Q3k w1 w.heap.size x by rw [hw1];exact (Q8v w _ _).1)
 have HL1:=Lib.hid (show Below w.heap.size w w1 by rw [hw1];exact (Q8v w _ _).2)
 have HS1:=Lib.hid (show w1.heap.size=w.heap.size+1 by rw [hw1];simp)
 clear hw1
 go_wp2_with fail
 go_loopw [5,11] (fun t5 t11 wr=>∃ (i:Nat) (v:Value) (K:List Ce),t5=v∧t11 = .int .i64 i∧i≤n∧K.length≤i∧Hid (RowV (inW wr) 138 2 v K.length (Jj K))∧Hid (∀ g∈Q7 v,w.heap.size<g)∧Hid (∀ e∈K,CeOk (fun b=>w.heap.size≤b∧b∉Q7 v) wr e)∧Hid (lcs K=Q0o x (lcs (L.take i)))∧Hid (Below w1.heap.size w1 wr)) (fun _ t _=>n-(intOf t).toNat)
 case atStart=>exact ⟨0,.slice none 0 0,[],rfl,rfl,Nat.zero_le _,Nat.le_refl _,.nil,fun g hg=>(by simp [Q7] at hg),fun e he=>(by cases he),rfl,Below.refl _ _⟩
 case round =>
  obtain ⟨i,v,K,hv,rfl,hin,hKi,HRW,HFR,HCE,HGL,HW⟩:=hrel
  have hv:=hv.symm
  subst hv
  obtain ⟨w2,hw2⟩:∃ w2,w2=wr:=⟨_,rfl⟩
  rw [←hw2] at HRW HCE HW ⊢
  clear hw2
  by_cases hlt:i<n
  ·have hd:decide (i<n)=true:=decide_eq_true hlt
   have hd2:decide ((i:Int)<(n:Int))=true:=decide_eq_true (by omega)
   obtain ⟨e,he⟩:∃ e,L[i]?=some e:=⟨_,List.getElem?_eq_getElem (by rw [←HN.out];exact hlt)⟩
   have HWW:=Lib.hid (show Below w.heap.size w w2 from HL1.out.trans (HW.out.mono HL1.out.size))
   obtain ⟨b,o,hb,_,hp,k1,k2⟩:=HA.out i e he
   have c1:=Q8 HWW.out hb k1
   have c2:=Q8 HWW.out hb k2
   have HIE:=Lib.hid ((HI.out e (List.mem_of_getElem? he)).keep (Q4 HWW.out) (by simp))
   have HNX:=Lib.hid (HNE.out e (List.mem_of_getElem? he))
   have HT:=Lib.hid (show lcs (L.take (i+1))=lcs (L.take i)++[e.xs] by rw [List.take_add_one,he];simp [lcs])
   obtain ⟨ep,ec,xs,at'⟩:=e
   subst hp
   dsimp only at *
   have C1:=Lib.hid c1
   have C2:=Lib.hid c2
   clear he hb k1 k2 c1 c2
   go_upto_region 4 with fail
   refine wp_region_lit (J6 [0,0,3,2] [] B0 (Qi _) ?_)
   refine Qb 2 (by kernel_rfl) (by rfl) ?_
   apply Exists.intro
   refine ⟨fun z hz=>?_,?_⟩
   ·have f0:=Q6 hz C1.out (by simp)
    have f1:=Q6 hz C2.out (by simp)
    clear hz
    simp only [List.take_succ_cons,List.take_zero]
    unfold Cx
    repeat (go_big_quiet_step (fail))
    exact wpQuiet_nil rfl
   simp only [List.drop_succ_cons,List.drop_zero]
   refine Jm (.agg #[.slice none 0 0,.int .i64 0]) (by rfl) (fun x=>by kernel_rfl) (fun g8 q8 hn8=>?_)
   unfold Qk
   go_big_quiet_step (fail)
   refine wpQuiet_nil ?_
   refine Qh g8 #[.slice ep xs.length ec,.int .i64 at'] #[.slice none 0 0,.int .i64 0] 138 (by rfl) (by rfl) (by rfl) (Blocks.put_same _ _ _) rfl (.inr q8) (by kernel_rfl) (by simp [Value.oneCell']) ?_
   refine Qf ?_
   intro w5 hx5 hH
   have HC5:=Lib.hid (hH g8 _ (Blocks.put_same _ _ _))
   have HG8:=Lib.hid q8
   have HB5:=Lib.hid (show Below w2.heap.size w2 w5 from hx5.below_of (by simp) (Nat.le_refl _))
   clear hx5 hH hn8 q8 C1 C2
   have HW5:=Lib.hid (HW.out.trans (HB5.out.mono HW.out.size))
   have HWW5:=Lib.hid (HWW.out.trans (HB5.out.mono HWW.out.size))
   have HI5:=Lib.hid (HIE.out.keep (Q4 HB5.out) (by simp))
   have HR5:=Lib.hid (HRW.out.keep (Q4 HB5.out) (by simp))
   have HK5:=Lib.hid (show ∀ e∈K,CeOk (fun b=>w.heap.size≤b∧b∉Q7 v) w5 e from fun e he=>(HCE.out e he).keep (Q4 HB5.out) (by simp))
   have HBX5:=Lib.hid (show Q3k w5 w.heap.size x from (Q4 HW5.out).keep HBX.out (by simp))
   clear HRW HCE HW HIE HB5 HWW
   have KC:=Q91 xs ep ec x w5 HI5.out.ins.at (by have:=HI5.out.len;dsimp only at this;omega) w5 (Below.refl _ _)
   have HG1:=Lib.hid (show xs.contains x=true→lcs K=Q0o x (lcs (L.take (i+1))) from fun h=>by rw [HT.out,Q4b,if_pos h,List.append_nil];exact HGL.out)
   have HG2:=Lib.hid (show xs.contains x=false→lcs K++[xs.filter fun y=>!(y == -x)]=Q0o x (lcs (L.take (i+1))) from fun h=>by rw [HT.out,Q4b,if_neg (by simpa using h),HGL.out])
   generalize xs.contains x=q at *
   have c1:=Q5 HC5.out 0 rfl
   have c2:=Q5 HC5.out 1 rfl
   have c3:=Q5 HBX5.out 0 rfl
   clear HGL HT
   go_wp2_with fail
   refine KC.mono ?_
   rintro e w6 ⟨rfl,hb6⟩
   have HC6:=Lib.hid (show w6.heap[g8]?=_ from (Q4 hb6).keep HC5.out (by simp))
   have HW6:=Lib.hid (HW5.out.trans (hb6.mono HW5.out.size))
   have HWW6:=Lib.hid (HWW5.out.trans (hb6.mono HWW5.out.size))
   have HI6:=Lib.hid (HI5.out.keep (Q4 hb6) (by simp))
   have HR6:=Lib.hid (HR5.out.keep (Q4 hb6) (by simp))
   have HK6:=Lib.hid (show ∀ e∈K,CeOk (fun b=>w.heap.size≤b∧b∉Q7 v) w6 e from fun e he=>(HK5.out e he).keep (Q4 hb6) (by simp))
   have HBX6:=Lib.hid (show Q3k w6 w.heap.size x from (Q4 hb6).keep HBX5.out (by simp))
   clear hb6 KC c1 c2 c3 HC5 HW5 HWW5 HI5 HR5 HK5 HBX5
   cases q with
   | true =>
    have HGN:=Lib.hid (HG1.out rfl)
    clear HG1 HG2
    go_wp2_with fail
    go_roundw
    case rel=>exact ⟨i+1,v,K,rfl,by go_num,by omega,by omega,HR6.out,HFR.out,HK6.out,HGN.out,HW6.out⟩
    case measure=>simp [intOf];omega
   | false =>
    have HGN:=Lib.hid (HG2.out rfl)
    clear HG1 HG2
    have c1:=Q5 HC6.out 0 rfl
    have c2:=Q5 HC6.out 1 rfl
    have KL:=Q1m xs ep ec w6 HI6.out.ins.at (by have:=HI6.out.len;dsimp only at this;omega)
    go_wp2_with fail
    refine KL.mono ?_
    rintro e w7 ⟨v7,rfl,hr7,hf7,hb7⟩
    obtain ⟨g7,cap7,tl7,rfl,hj7,_,hc7,hm7⟩:=rowJ_of hr7 HNX.out
    have hg7:w6.heap.size≤g7:=hf7 g7 (by simp [Q7])
    have HC7:=Lib.hid (show w7.heap[g8]?=_ from (Q4 hb7).keep HC6.out (by simp))
    have HW7:=Lib.hid (HW6.out.trans (hb7.mono HW6.out.size))
    have HWW7:=Lib.hid (HWW6.out.trans (hb7.mono HWW6.out.size))
    have HR7:=Lib.hid (HR6.out.keep (Q4 hb7) (by simp))
    have HK7:=Lib.hid (show ∀ e∈K,CeOk (fun b=>(w.heap.size≤b∧b∉Q7 v)∧b<w6.heap.size) w7 e from fun e he=>((HK6.out e he).imp (fun g hg h=>⟨h,hg⟩)).keep (Q4 hb7) (by simp))
    have hbx7:Q3k w7 w.heap.size x:=(Q4 hb7).keep HBX6.out (by simp)
    have hs6:w.heap.size+1≤w6.heap.size:=by have:=HW6.out.size;have:=HS1.out;omega
    have HG7:=Lib.hid hg7
    have HG8a:=Lib.hid (Q9 HC6.out)
    have HRL6:=Lib.hid (HR6.out.lt)
    have HLX:=Lib.hid (show xs.length≤1000000 from HI6.out.len)
    have KD:=gDelete xs g7 cap7 tl7 x w.heap.size hx w7 hj7 hbx7 (by omega) HLX.out hc7 (by unfold maxLen at hm7;omega)
    have HS6:=Lib.hid hs6
    have HSM:=Lib.hid (show SmC (xs.filter fun y=>!(y == -x)) from fun y hy=>HI6.out.sm y (List.mem_filter.1 hy).1)
    have HFL:=Lib.hid (List.length_filter_le (fun y=>!(y == -x)) xs)
    obtain ⟨F,hF⟩:∃ F,F=xs.filter fun y=>!(y == -x):=⟨_,rfl⟩
    rw [←hF] at KD HSM HFL HGN
    unfold delF at KD
    have HK7D:=Lib.hid KD
    have HL7:=Lib.hid (Q9 hj7)
    clear hF hr7 hf7 hj7 hb7 hbx7 hs6 hg7 hc7 hm7 KD KL c1 c2 HC6 HW6 HWW6 HI6 HR6 HK6 HBX6
    go_wp2_with fail
    refine HK7D.out.mono ?_
    rintro e w8 ⟨rfl,⟨Z8,hz8⟩,hb8⟩
    have hg7n:g7∉Q7 v:=fun h=>by have:=HRL6.out g7 h;have:=HG7.out;omega
    have HC8:=Lib.hid (show w8.heap[g8]?=_ from hb8.keep HC7.out (by have:=HG7.out;have:=HG8a.out;simp;omega))
    have HW8:=Lib.hid (show Below w1.heap.size w1 w8 from HW7.out.trans (hb8.below_of (b:=w1.heap.size) (by have:=HG7.out;have:=HS6.out;have:=HS1.out;simp;omega) HW7.out.size))
    have HR8:=Lib.hid (HR7.out.keep hb8 (fun g hg hk=>hg7n (by simp at hk;rw [hk] at hg;exact hg)))
    have HK8:=Lib.hid (show ∀ e∈K++[⟨some ⟨g7,0,none⟩,cap7,F,at'⟩],CeOk (fun b=>w.heap.size≤b∧b∉Q7 v) w8 e from fun e he=>by
     rcases List.mem_append.1 he with he | he
     ·exact ((HK7.out e he).keep hb8 (fun g hg hk=>by
       obtain rfl:g=g7:=by simpa using hg
       have:=HG7.out
       omega)).imp fun g _ h=>h.1
     ·obtain rfl:e=⟨some ⟨g7,0,none⟩,cap7,F,at'⟩:=by simpa using he
      refine ⟨fun k y hk=>?_,HSM.out,by have:=HFL.out;have:=HLX.out;dsimp only;omega⟩
      have hg:=HG7.out
      have hs:=HS6.out
      refine ⟨g7,0,Q9 hz8,⟨by omega,hg7n⟩,rfl,?_⟩
      rw [Nat.zero_add]
      obtain ⟨hkl,hke⟩:=List.getElem?_eq_some_iff.1 hk
      have hkl2:k<F.length:=by simpa [Qm] using hkl
      have:=hz8.get (i:=k) (x:=F[k]) (List.getElem?_eq_getElem hkl2)
      rw [this,←hke]
      simp [Qm])
    have c1:=Q5 HC8.out 0 rfl
    have c2:=Q5 HC8.out 1 rfl
    have HRL8:=Lib.hid HR8.out.lt
    have hK20:K.length≤20:=by omega
    clear HK7 HR7 HC7 HW7 HK7D hz8 hb8 HSM HFL HLX HRL6 HG8a HL7
    go_wp2_with (at_builtin;refine Jp _ rfl _ _ 98 rfl 138 i0 (.agg #[.slice none 0 0,.int .i64 0]) 2 32 Tryz.underlying98 II.out IZ0.out IZ1.out IZ2.out rfl _ _ _ rfl (HR8.out.keep (Q4 ((Below.refl _ _).alloc (Nat.le_refl _) _)) (by simp)) w8.heap.size 1 1 [.slice (some ⟨g7,0,none⟩) F.length cap7,.int .i64 at'] 138 rfl (heap_alloc_new w8 _) rfl (by intro u hu;simp at hu;rcases hu with rfl | rfl<;>rfl) (by omega) (by unfold maxLen;omega) (by omega) ?_)
    intro v9 w9 hr9 hB9 hn9
    have h09:Behind w8 (Q7 v) w9:=((Q4 ((Below.refl _ _).alloc (Nat.le_refl _) _)).mono (by simp)).trans hB9 (fun k hk=>.inl hk)
    have hn9':∀ g∈Q7 v9,g∈Q7 v∨w8.heap.size≤g:=fun g hg=>(hn9 g hg).imp id (fun h=>by omega)
    have hsz:w.heap.size+1≤w8.heap.size:=by have:=HW8.out.size;have:=HS1.out;omega
    have HR9:=Lib.hid (show RowV (inW w9) 138 2 v9 (K++[(⟨some ⟨g7,0,none⟩,cap7,F,at'⟩:Ce)]).length (Jj (K++[(⟨some ⟨g7,0,none⟩,cap7,F,at'⟩:Ce)])) by
     rw [Yo,List.length_append];exact hr9)
    have HF9:=Lib.hid (show ∀ g∈Q7 v9,w.heap.size<g from fun g hg=>(hn9' g hg).elim (HFR.out g) (fun h=>by omega))
    have HK9:=Lib.hid (show ∀ e∈K++[(⟨some ⟨g7,0,none⟩,cap7,F,at'⟩:Ce)],CeOk (fun b=>w.heap.size≤b∧b∉Q7 v9) w9 e from fun e he =>
     ((((HK8.out e he).imp (fun g hg h=>(⟨h,hg⟩:(w.heap.size≤g∧g∉Q7 v)∧g<w8.heap.size))).keep h09 (fun g hg hk=>(hk.1.2 hg).elim)).imp (fun g _ h=>⟨h.1.1,fun hg=>(hn9' g hg).elim h.1.2 (fun h2=>by omega)⟩)))
    have HG9:=Lib.hid (show lcs (K++[(⟨some ⟨g7,0,none⟩,cap7,F,at'⟩:Ce)])=Q0o x (lcs (L.take (i+1))) by rw [←HGN.out];simp [lcs])
    have HW9:=Lib.hid (HW8.out.trans (h09.below_of (b:=w1.heap.size) (fun k hk=>by have:=HFR.out k hk;have:=HS1.out;omega) HW8.out.size))
    have HL9:=Lib.hid (show (K++[(⟨some ⟨g7,0,none⟩,cap7,F,at'⟩:Ce)]).length≤i+1 by rw [List.length_append];simp;omega)
    generalize (K++[(⟨some ⟨g7,0,none⟩,cap7,F,at'⟩:Ce)])=K9 at *
    clear h09 hn9' hr9 hB9 hn9 hsz c1 c2 HC8
    go_wp2_with fail
    go_roundw
    case rel=>exact ⟨i+1,v9,K9,rfl,by go_num,by omega,HL9.out,HR9.out,HF9.out,HK9.out,HG9.out,HW9.out⟩
    case measure=>simp [intOf];omega
  ·have hd:decide (i<n)=false:=decide_eq_false hlt
   have hd2:decide ((i:Int)<(n:Int))=false:=decide_eq_false (by omega)
   have hie:i=n:=by omega
   have HGF:=Lib.hid (show lcs K=Q0o x (lcs L) by
    have h1:=HGL.out
    rw [hie,HN.out,List.take_length] at h1
    exact h1)
   have KO:=Lib.hid (Q5t (fun b=>w.heap.size≤b∧b∉Q7 v) K v w2 HRW.out HCE.out (fun g hg h=>h.2 hg) (by omega))
   have hkn:K.length≤n:=by omega
   clear hie HGL
   go_wp2_with fail
   refine KO.out.mono ?_
   rintro e w3 ⟨v',K',rfl,ho⟩
   have HF:=Lib.hid (HP.out v' K' w3 ⟨ho.row,fun g hg=>by rw [ho.blk] at hg;exact Nat.le_of_lt (HFR.out g hg),fun e he=>by
     rw [ho.blk]
     exact (HCE.out e (ho.mem e he)).keep ho.be (fun g hg h=>(h.2 hg).elim),by rw [←HGF.out];exact ho.same,ho.by',
     (HL1.out.trans (HW.out.mono HL1.out.size)).trans (ho.be.below_of (fun k hk=>Nat.le_of_lt (HFR.out k hk)) (HL1.out.trans (HW.out.mono HL1.out.size)).size),by have:=ho.len;have:=HN.out;omega⟩)
   clear ho KO
   go_wp2_with fail
   exact HF.out
end
/- The key of clauses. -/
section
open Go.RowKit
theorem Tryz.infoByteK:(Tryz.prog.info? 5).map (fun i=>(i.zero,i.size,i.bytes))=some (some (.int .u8 0),1,1):=by kernel_rfl
def Pow10 (B:Nat) (w:World):Prop:=Lib.TabBelow Tryz.prog B w "internal/strconv.uint64pow10" .u64 Lib.pow10Tab
theorem Pow10.on {B B':Nat} {w w':World} (h:Pow10 B w) (hb:Below B w w') (hB:B≤B'):Pow10 B' w':=fun x hx=>h x (hb.trans (hx.mono hB))
theorem Q8i {w:World} {v:Value} {l:List UInt8} {n:Nat} (h:RowV (inW w) 5 1 v n (Lib.byteCells l)):(convert 46 9 v).run Tryz.prog w = .ok (.string ⟨l.toArray⟩) w:=by
 have hn:l.length=n:=by have:=h.length;simpa [Lib.byteCells] using this
 cases hx:Lib.byteCells l with
 | nil =>
  have:l=[]:=by
   have:=congrArg List.length hx
   simpa [Lib.byteCells] using this
  subst this
  rcases h.two with ⟨rfl,_,_⟩ | ⟨g,cap,rfl⟩
  ·exact run_convert_bytes_nil (P:=Tryz.prog) w 46 5 Tryz.underlying46 Tryz.underlying5 0 0 9 Tryz.underlying9
  ·subst hn
   exact run_convert_bytes_back w 46 9 5 ⟨g,0,none⟩ cap [] Tryz.underlying46 Tryz.underlying5 Tryz.underlying9 (fun j hj=>by simp at hj)
 | cons y ys =>
  rw [hx] at h
  cases h with
  | @row g n cap xs' cur hr =>
   subst hn
   refine run_convert_bytes_back w 46 9 5 ⟨g,0,none⟩ cap l Tryz.underlying46 Tryz.underlying5 Tryz.underlying9 (fun j hj=>?_)
   rw [Addr.add_lit,Nat.zero_add]
   refine Q5 hr.blk j ?_
   have ht:=hr.tk
   rw [Nat.mul_one,←hx] at ht
   have h2:(Lib.byteCells l)[j]?=some (.int .u8 (l[j].toNat:Int)):=by simp [Lib.byteCells,hj]
   rw [←ht,List.getElem?_take,if_pos hj] at h2
   simpa using h2
theorem keyL_snoc (M:List (List Int)) (c:List Int):O7 (M++[c])=O7 M++Vw c:=by unfold O7;rw [List.flatMap_append];simp
def Vb (c:List Int):List UInt8:=c.flatMap fun x=>Lib.itoa x++[32]
theorem keyP_snoc (c:List Int) (x:Int):Vb (c++[x])=Vb c++Lib.itoa x++[32]:=by unfold Vb;rw [List.flatMap_append];simp
theorem keyC_P (c:List Int):Vw c=Vb c++[48]:=rfl
theorem Hn (a b:List UInt8):Lib.byteCells (a++b)=Lib.byteCells a++Lib.byteCells b:=by simp [Lib.byteCells]
theorem decD_len:∀ (v:Nat),v≤128→(Lib.decDigits v).length≤3:=by
 intro v hv
 by_cases h:v<10
 ·rw [Lib.decDigits_one h];simp
 ·rw [Lib.decDigits,dif_neg h,List.length_append]
  by_cases h2:v/10<10
  ·rw [Lib.decDigits_one h2];simp
  ·rw [Lib.decDigits,dif_neg h2,List.length_append,Lib.decDigits_one (by omega)];simp
theorem Q6d {x:Int} (h:-128≤x∧x≤128):(Lib.itoa x).length≤4:=by
 rw [H7]
 have:=decD_len x.natAbs (by omega)
 split
 ·simp;omega
 ·omega
theorem keyP_len {c:List Int} (h:SmC c):(Vb c).length≤5*c.length:=by
 induction c with
 | nil=>simp [Vb]
 | cons x c ih =>
  have h1:=Q6d (h x (by simp))
  have h2:=ih fun y hy=>h y (by simp [hy])
  have e:Vb (x::c)=Lib.itoa x++[32]++Vb c:=by simp [Vb]
  rw [e];simp;omega
set_option maxHeartbeats 6400000 in
set_option maxRecDepth 100000 in
theorem gKey (N:Nat) (ok:Nat→Prop) (L:List Ce) (p:Option Addr) (cap:Nat) (w:World) (hT:Pow10 N w) (hN:N≤w.heap.size) (hA:ClsP ok w p L) (hI:∀ e∈L,CeOk ok w e) (hl:L.length<20) :
  Calls Tryz.prog 114 #[.slice p L.length cap] w fun e w'=>e = .returned (.string ⟨(O7 (lcs L)).toArray⟩)∧Below w.heap.size w w':=by
 obtain ⟨Post,hPost⟩:∃ P:Ending→World→Prop,P=fun e w'=>e = .returned (.string ⟨(O7 (lcs L)).toArray⟩)∧Below w.heap.size w w':=⟨_,rfl⟩
 rw [←hPost]
 have HP:=Lib.hid (show ∀ (ls:List UInt8) (w':World),O7 (lcs L)=ls→Below w.heap.size w w'→Post (.returned (.string ⟨ls.toArray⟩)) w' from fun ls w' h1 h2=>by rw [hPost,h1];exact ⟨rfl,h2⟩)
 have HA:=Lib.hid hA
 have HI:=Lib.hid hI
 have HT:=Lib.hid hT
 obtain ⟨i0,ii,iz0,iz1,iz2⟩:=info_parts Tryz.infoByteK
 have II:=Lib.hid ii
 have IZ0:=Lib.hid iz0
 have IZ1:=Lib.hid iz1
 have IZ2:=Lib.hid iz2
 obtain ⟨n,hn⟩:∃ n,n=L.length:=⟨_,rfl⟩
 rw [←hn] at hl ⊢
 have HN:=Lib.hid hn
 have HNW:=Lib.hid hN
 clear hPost hA hI hn hT hN ii iz0 iz1 iz2
 go_enter Tryz.func114,Tryz.ntmps114
 go_wp2_with fail
 go_loopw [3,10] (fun t3 t10 wr=>∃ (i m:Nat) (v:Value) (ls:List UInt8),t3=v∧t10 = .int .i64 i∧i≤n∧m≤i*5000001∧Hid (m=ls.length)∧Hid (RowV (inW wr) 5 1 v m (Lib.byteCells ls))∧Hid (∀ g∈Q7 v,w.heap.size≤g)∧Hid (ls=O7 (lcs (L.take i)))∧Hid (Below w.heap.size w wr)) (fun _ t _=>n-(intOf t).toNat)
 case atStart=>exact ⟨0,0,.slice none 0 0,[],rfl,rfl,Nat.zero_le _,Nat.zero_le _,rfl,.nil,fun g hg=>(by simp [Q7] at hg),rfl,Below.refl _ _⟩
 case round =>
  obtain ⟨i,m,v,ls,hv,rfl,hin,hm,HM,HRW,HFR,HLS,HW⟩:=hrel
  have hv:=hv.symm
  subst hv
  obtain ⟨w2,hw2⟩:∃ w2,w2=wr:=⟨_,rfl⟩
  rw [←hw2] at HRW HW ⊢
  clear hw2
  by_cases hlt:i<n
  ·have hd:decide (i<n)=true:=decide_eq_true hlt
   have hd2:decide ((i:Int)<(n:Int))=true:=decide_eq_true (by omega)
   obtain ⟨e,he⟩:∃ e,L[i]?=some e:=⟨_,List.getElem?_eq_getElem (by rw [←HN.out];exact hlt)⟩
   obtain ⟨b,o,hb,_,hp,k1,k2⟩:=HA.out i e he
   have c1:=Q8 HW.out hb k1
   have c2:=Q8 HW.out hb k2
   have HIE:=Lib.hid (HI.out e (List.mem_of_getElem? he))
   have HTT:=Lib.hid (show lcs (L.take (i+1))=lcs (L.take i)++[e.xs] by rw [List.take_add_one,he];simp [lcs])
   obtain ⟨ep,ec,xs,at'⟩:=e
   subst hp
   dsimp only at *
   have C1:=Lib.hid c1
   have C2:=Lib.hid c2
   clear he hb k1 k2 c1 c2
   go_upto_region 4 with fail
   refine wp_region_lit (J6 [0,0,3,2] [] B0 (Qi _) ?_)
   refine Qb 2 (by kernel_rfl) (by rfl) ?_
   apply Exists.intro
   refine ⟨fun z hz=>?_,?_⟩
   ·have f0:=Q6 hz C1.out (by simp)
    have f1:=Q6 hz C2.out (by simp)
    clear hz
    simp only [List.take_succ_cons,List.take_zero]
    unfold Cx
    repeat (go_big_quiet_step (fail))
    exact wpQuiet_nil rfl
   simp only [List.drop_succ_cons,List.drop_zero]
   refine Jm (.agg #[.slice none 0 0,.int .i64 0]) (by rfl) (fun x=>by kernel_rfl) (fun g8 q8 hn8=>?_)
   unfold Qk
   go_big_quiet_step (fail)
   refine wpQuiet_nil ?_
   refine Qh g8 #[.slice ep xs.length ec,.int .i64 at'] #[.slice none 0 0,.int .i64 0] 138 (by rfl) (by rfl) (by rfl) (Blocks.put_same _ _ _) rfl (.inr q8) (by kernel_rfl) (by simp [Value.oneCell']) ?_
   refine Qf ?_
   intro w5 hx5 hH
   have hc5:=hH g8 _ (Blocks.put_same _ _ _)
   have HB5:=Lib.hid (show Below w2.heap.size w2 w5 from hx5.below_of (by simp) (Nat.le_refl _))
   clear hx5 hH hn8 q8 C1 C2
   have HW5:=Lib.hid (HW.out.trans (HB5.out.mono HW.out.size))
   have HR5:=Lib.hid (HRW.out.keep (Q4 HB5.out) (by simp))
   clear HRW HW HB5
   have c1:=Q5 hc5 0 rfl
   have c2:=Q5 hc5 1 rfl
   clear hc5
   obtain ⟨q,hq⟩:∃ q,q=xs.length:=⟨_,rfl⟩
   have hq1:q≤1000000:=by rw [hq];exact HIE.out.len
   rw [←hq] at c1 ⊢
   have HQ:=Lib.hid hq
   clear hq
   go_wp2_with fail
   go_loopw [3,17] (fun t3 t17 wr=>∃ (k m:Nat) (v:Value) (l2:List UInt8),t3=v∧t17 = .int .i64 k∧k≤q∧m≤i*5000001+5*k∧Hid (m=l2.length)∧Hid (RowV (inW wr) 5 1 v m (Lib.byteCells l2))∧Hid (∀ g∈Q7 v,w.heap.size≤g)∧Hid (l2=ls++Vb (xs.take k))∧Hid (Below w.heap.size w wr)) (fun _ t _=>q-(intOf t).toNat)
   case atStart=>exact ⟨0,m,v,ls,rfl,rfl,Nat.zero_le _,Nat.le_trans hm (Nat.le_add_right _ _),HM.out,HR5.out,HFR.out,(by show ls=ls++Vb (xs.take 0);simp [Vb]),HW5.out⟩
   case round =>
    clear HR5 HFR HW5 HM c1 c2
    obtain ⟨k,m2,v2,l2,hv,rfl,hkq,hm2,HM2,HR2,HF2,HL2,HW2⟩:=hrel
    have hv:=hv.symm
    subst hv
    obtain ⟨w6,hw6⟩:∃ w6,w6=wr:=⟨_,rfl⟩
    rw [←hw6] at HR2 HW2 ⊢
    clear hw6
    by_cases hlk:k<q
    ·have hd3:decide (k<q)=true:=decide_eq_true hlk
     have hd4:decide ((k:Int)<(q:Int))=true:=decide_eq_true (by omega)
     obtain ⟨x,hx⟩:∃ x,xs[k]?=some x:=⟨_,List.getElem?_eq_getElem (by rw [←HQ.out];exact hlk)⟩
     obtain ⟨b2,o2,hb2,_,hp2,kx⟩:=HIE.out.ins k _ (Jb xs k x hx)
     dsimp only at hp2
     subst hp2
     have cx:=Q8 HW2.out hb2 kx
     have HXR:=Lib.hid (HIE.out.sm x (List.mem_of_getElem? hx))
     have HXT:=Lib.hid (show Vb (xs.take (k+1))=Vb (xs.take k)++Lib.itoa x++[32] by rw [List.take_add_one,hx];exact keyP_snoc _ _)
     have hil:=Q6d HXR.out
     have KA:=Lib.hid (Tryz.strconv_AppendInt_10 w.heap.size m2 x (by have:=HXR.out;omega) (by have:=HXR.out;omega) v2 (Lib.byteCells l2) w6 (HR2.out.own HF2.out) HW2.out.size (by omega) (HT.out.on (HW2.out.mono HNW.out) HNW.out))
     have HS1:=Lib.hid (show ls++Vb (xs.take (k+1))=l2++Lib.itoa x++[32] by rw [HXT.out,HL2.out];simp)
     obtain ⟨zl,hzl⟩:∃ zl,zl=(Lib.itoa x).length:=⟨_,rfl⟩
     have HZL:=Lib.hid hzl
     have hz4:zl≤4:=by rw [hzl];exact hil
     clear hx hb2 kx HXT hil hzl HR2
     go_wp2_with fail
     refine KA.out.mono ?_
     rintro e w7 ⟨v7,rfl,ho7,hb7,_⟩
     obtain ⟨hr7,hf7⟩:=RowV.of_own ho7
     rw [←HZL.out,←Hn] at hr7
     have HR7:=Lib.hid hr7
     have HF7:=Lib.hid hf7
     have HW7:=Lib.hid (HW2.out.trans hb7)
     clear ho7 hr7 hf7 hb7 cx KA HW2
     go_wp2_with (at_builtin;refine Jp _ rfl _ _ 46 rfl 5 i0 (.int .u8 0) 1 1 Tryz.underlying46 II.out IZ0.out IZ1.out IZ2.out rfl _ _ _ rfl (HR7.out.keep (Q4 ((Below.refl _ _).alloc (Nat.le_refl _) _)) (by simp)) w7.heap.size 1 1 [.int .u8 32] 5 rfl (heap_alloc_new w7 _) rfl (by intro u hu;simp at hu;subst hu;rfl) (by omega) (by unfold maxLen;omega) (by omega) ?_)
     intro v9 w9 hr9 hB9 hn9
     have h09:Behind w7 (Q7 v7) w9:=((Q4 ((Below.refl _ _).alloc (Nat.le_refl _) _)).mono (by simp)).trans hB9 (fun k hk=>.inl hk)
     have hn9':∀ g∈Q7 v9,g∈Q7 v7∨w7.heap.size≤g:=fun g hg=>(hn9 g hg).imp id (fun h=>by omega)
     have hr9':RowV (inW w9) 5 1 v9 (m2+zl+1) (Lib.byteCells (ls++Vb (xs.take (k+1)))):=by
      rw [HS1.out,Hn];exact hr9
     have HR9:=Lib.hid hr9'
     have HF9:=Lib.hid (show ∀ g∈Q7 v9,w.heap.size≤g from fun g hg=>(hn9' g hg).elim (HF7.out g) (fun h=>by have:=HW7.out.size;omega))
     have HW9:=Lib.hid (HW7.out.trans (h09.below_of (b:=w.heap.size) (fun k hk=>HF7.out k hk) HW7.out.size))
     have HM9:=Lib.hid (show m2+zl+1=(ls++Vb (xs.take (k+1))).length by
      rw [HS1.out]
      have h1:=HM2.out
      have h2:=HZL.out
      simp;omega)
     clear h09 hn9' hr9 hr9' hB9 hn9 HR7 HF7 HW7 HS1
     go_wp2_with fail
     go_roundw
     case rel=>exact ⟨k+1,m2+zl+1,v9,ls++Vb (xs.take (k+1)),rfl,by go_num,by omega,by omega,HM9.out,HR9.out,HF9.out,rfl,HW9.out⟩
     case measure=>simp [intOf];omega
    ·have hd3:decide (k<q)=false:=decide_eq_false hlk
     have hd4:decide ((k:Int)<(q:Int))=false:=decide_eq_false (by omega)
     have HKQ:=Lib.hid (show l2=ls++Vb xs by
      have h1:=HL2.out
      rwa [List.take_of_length_le (by have:=HQ.out;omega)] at h1)
     clear HL2
     go_wp2_with (at_builtin;refine Jp _ rfl _ _ 46 rfl 5 i0 (.int .u8 0) 1 1 Tryz.underlying46 II.out IZ0.out IZ1.out IZ2.out rfl _ _ _ rfl (HR2.out.keep (Q4 ((Below.refl _ _).alloc (Nat.le_refl _) _)) (by simp)) w6.heap.size 1 1 [.int .u8 48] 5 rfl (heap_alloc_new w6 _) rfl (by intro u hu;simp at hu;subst hu;rfl) (by omega) (by unfold maxLen;omega) (by omega) ?_)
     intro v9 w9 hr9 hB9 hn9
     have h09:Behind w6 (Q7 v2) w9:=((Q4 ((Below.refl _ _).alloc (Nat.le_refl _) _)).mono (by simp)).trans hB9 (fun k hk=>.inl hk)
     have hn9':∀ g∈Q7 v9,g∈Q7 v2∨w6.heap.size≤g:=fun g hg=>(hn9 g hg).imp id (fun h=>by omega)
     have HS9:=Lib.hid (show O7 (lcs (L.take (i+1)))=l2++[48] by rw [HTT.out,keyL_snoc,keyC_P,HKQ.out,HLS.out];simp)
     have hr9':RowV (inW w9) 5 1 v9 (m2+1) (Lib.byteCells (O7 (lcs (L.take (i+1))))):=by
      rw [HS9.out,Hn];exact hr9
     have HR9:=Lib.hid hr9'
     have HF9:=Lib.hid (show ∀ g∈Q7 v9,w.heap.size≤g from fun g hg=>(hn9' g hg).elim (HF2.out g) (fun h=>by have:=HW2.out.size;omega))
     have HW9:=Lib.hid (HW2.out.trans (h09.below_of (b:=w.heap.size) (fun k hk=>HF2.out k hk) HW2.out.size))
     have HM9:=Lib.hid (show m2+1=(O7 (lcs (L.take (i+1)))).length by
      rw [HS9.out]
      have h1:=HM2.out
      simp;omega)
     clear h09 hn9' hr9 hr9' hB9 hn9 HR2 HF2 HW2
     go_wp2_with fail
     go_roundw
     case rel=>exact ⟨i+1,m2+1,v9,O7 (lcs (L.take (i+1))),rfl,by go_num,by omega,by omega,HM9.out,HR9.out,HF9.out,rfl,HW9.out⟩
     case measure=>simp [intOf];omega
  ·have hd:decide (i<n)=false:=decide_eq_false hlt
   have hd2:decide ((i:Int)<(n:Int))=false:=decide_eq_false (by omega)
   have HF:=Lib.hid (HP.out ls w2 (by
    have h1:=HLS.out
    rw [List.take_of_length_le (by have:=HN.out;omega)] at h1
    exact h1.symm) HW.out)
   have hcv:=Q8i HRW.out
   go_wp2_with fail
   exact HF.out
end
end Go.Proofs.YtcpehljpegfckaaGreatDoor
