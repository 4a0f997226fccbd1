/- Texts of this claim,joined: CY1,CY2,CY3,CY4. -/
import Derived.Test.YtcpehljpegfckaaGreatDoorMT02
import Derived.Test.YtcpehljpegfckaaGreatDoorMT11
import Derived.Test.YtcpehljpegfckaaGreatDoorMT07
import Derived.Deep.DeepCutAuto
/- Clauses and their places in memory;how clauses are compared. -/
namespace Go.Proofs.YtcpehljpegfckaaGreatDoor
section
open Go.RowKit
/-! ### Numbers that lie in blocks of a kind -/
def InsP (ok:Nat→Prop) (w:World) (p:Option Addr) (xs:List Int):Prop:=∀ k x,(Qm xs)[k]?=some x→∃ b o,b<w.heap.size∧ok b∧p=some ⟨b,o,none⟩∧w.cell? ⟨b,o+k,none⟩=some x
theorem InsP.keep {ok:Nat→Prop} {w w':World} {U:List Nat} {p:Option Addr} {xs:List Int} (h:InsP ok w p xs) (hB:Behind w U w') (hU:∀ g∈U,ok g→w.heap.size≤g):InsP ok w' p xs:=fun k x hk=>by
 obtain ⟨b,o,h1,h2,h3,h4⟩:=h k x hk
 exact ⟨b,o,Nat.lt_of_lt_of_le h1 hB.size,h2,h3,Jn hB h4 (fun hu=>by have:=hU b hu h2;omega)⟩
theorem InsP.imp {ok ok':Nat→Prop} {w:World} {p:Option Addr} {xs:List Int} (h:InsP ok w p xs) (hk:∀ g,g<w.heap.size→ok g→ok' g):InsP ok' w p xs:=fun k x hx=>by
 obtain ⟨b,o,h1,h2,h3,h4⟩:=h k x hx
 exact ⟨b,o,h1,hk b h1 h2,h3,h4⟩
theorem InsP.at {ok:Nat→Prop} {w:World} {p:Option Addr} {xs:List Int} (h:InsP ok w p xs):AtN w.heap.size w p (Qm xs):=fun k x hk=>by
 obtain ⟨b,o,h1,_,h3,h4⟩:=h k x hk
 exact ⟨b,o,h1,h3,h4⟩
theorem InsP.nil (ok:Nat→Prop) (w:World) (p:Option Addr):InsP ok w p []:=fun k x hk=>by simp [Qm] at hk
/-! ### Clauses -/
structure Ce where
 p:Option Addr
 c:Nat
 xs:List Int
 at':Int
def ceV (e:Ce):List Value:=[.slice e.p e.xs.length e.c,.int .i64 e.at']
def Jj (L:List Ce):List Value:=L.flatMap ceV
def lcs (L:List Ce):List (List Int):=L.map (·.xs)
def ceA (e:Ce):Value:=.agg #[.slice e.p e.xs.length e.c,.int .i64 e.at']
theorem Yo (L M:List Ce):Jj (L++M)=Jj L++Jj M:=by unfold Jj;rw [List.flatMap_append]
theorem O0 (e:Ce) (L:List Ce):Jj (e::L) = .slice e.p e.xs.length e.c::.int .i64 e.at'::Jj L:=rfl
theorem Yw (L:List Ce):(Jj L).length=L.length*2:=by
 induction L with
 | nil=>rfl
 | cons e L ih=>rw [O0,List.length_cons,List.length_cons,ih,List.length_cons];omega
theorem cesV_get {L:List Ce} {i:Nat} {e:Ce} (h:L[i]?=some e):(Jj L)[i*2]?=some (.slice e.p e.xs.length e.c)∧(Jj L)[i*2+1]?=some (.int .i64 e.at'):=by
 induction L generalizing i with
 | nil=>simp at h
 | cons d L ih =>
  cases i with
  | zero =>
   obtain rfl:d=e:=by simpa using h
   exact ⟨rfl,rfl⟩
  | succ i =>
   have:=ih (i:=i) (by simpa using h)
   rw [O0,show (i+1)*2=i*2+1+1 by omega]
   simpa using this
theorem cesV_one (L:List Ce):∀ u∈Jj L,u.oneCell'=true:=by
 induction L with
 | nil=>intro u hu;cases hu
 | cons e L ih =>
  intro u hu
  rw [O0] at hu
  rcases List.mem_cons.1 hu with rfl | hu
  ·rfl
  ·rcases List.mem_cons.1 hu with rfl | hu
   ·rfl
   ·exact ih u hu
def SmC (c:List Int):Prop:=∀ x∈c,-128≤x∧x≤128
/-! ### Literals compared -/
def Q32 (x y:Int):Int:=if Y8 x-Y8 y≠0 then Y8 x-Y8 y else x-y
theorem An (x:Int):0≤Y8 x∧Y8 x≤128:=by unfold Y8;split<;>(try split)<;>omega
theorem cmpV_rng {x y:Int} (hx:-128≤x∧x≤128) (hy:-128≤y∧y≤128):-256≤Q32 x y∧Q32 x y≤256:=by
 have:=An x
 have:=An y
 unfold Q32;split<;>omega
set_option maxHeartbeats 1600000 in
set_option maxRecDepth 100000 in
theorem gCmpV (x y:Int) (hx:-128≤x∧x≤128) (hy:-128≤y∧y≤128):Gives 107 #[.int .i64 x,.int .i64 y] (.int .i64 (Q32 x y)):=by
 intro w
 have KX:=gVar x
 have KY:=gVar y
 have hx2:=An x
 have hy2:=An y
 have HQ:=Lib.hid (show Q32 x y=if Y8 x-Y8 y≠0 then Y8 x-Y8 y else x-y from rfl)
 generalize Q32 x y=r at *
 generalize Y8 x=u at *
 generalize Y8 y=v at *
 by_cases h:u-v=0
 ·have hb:(u-v != 0)=false:=by simp [bne,h]
  have HR:=Lib.hid (HQ.out.trans (if_neg (by omega)))
  clear h HQ
  go_enter Tryz.func107,Tryz.ntmps107
  go_wp2_with fail
  refine (KX w).mono ?_
  rintro e w1 ⟨rfl,hb1⟩
  have H1:=Lib.hid hb1
  clear hb1
  go_wp2_with fail
  refine (KY w1).mono ?_
  rintro e w2 ⟨rfl,hb2⟩
  have H2:=Lib.hid (H1.out.trans (hb2.mono H1.out.size))
  clear hb2
  go_wp2_with fail
  go_ret
  exact ⟨by rw [HR.out];rfl,H2.out⟩
 ·have hb:(u-v != 0)=true:=by simp [bne,J7 h]
  have HR:=Lib.hid (HQ.out.trans (if_pos h))
  clear h HQ
  go_enter Tryz.func107,Tryz.ntmps107
  go_wp2_with fail
  refine (KX w).mono ?_
  rintro e w1 ⟨rfl,hb1⟩
  have H1:=Lib.hid hb1
  clear hb1
  go_wp2_with fail
  refine (KY w1).mono ?_
  rintro e w2 ⟨rfl,hb2⟩
  have H2:=Lib.hid (H1.out.trans (hb2.mono H1.out.size))
  clear hb2
  go_wp2_with fail
  go_ret
  exact ⟨by rw [HR.out];rfl,H2.out⟩
/-! ### Lists of them -/
def Vs:List Int→List Int→Int
 | [],[]=>0
 | [],_::_=>-1
 | _::_,[]=>1
 | x::xs,y::ys=>if Q32 x y≠0 then Q32 x y else Vs xs ys
theorem Q73:∀ {xs ys:List Int},SmC xs→SmC ys→-256≤Vs xs ys∧Vs xs ys≤256
 | [],[],_,_=>by decide
 | [],_::_,_,_=>by unfold Vs;decide
 | _::_,[],_,_=>by unfold Vs;decide
 | x::xs,y::ys,hx,hy=>by
  have:=cmpV_rng (hx x (by simp)) (hy y (by simp))
  have ih:=Q73 (xs:=xs) (ys:=ys) (fun z hz=>hx z (by simp [hz])) (fun z hz=>hy z (by simp [hz]))
  unfold Vs
  split<;>omega
set_option maxHeartbeats 3200000 in
set_option maxRecDepth 100000 in
theorem gCmpL (xs ys:List Int) (p q:Option Addr) (c d:Nat) (hx:SmC xs) (hy:SmC ys) (w:World) (hp:AtN w.heap.size w p (Qm xs)) (hq:AtN w.heap.size w q (Qm ys)) (hl:xs.length≤1000000000) (hl2:ys.length≤1000000000) :
  GivesFrom w 106 #[.slice p xs.length c,.slice q ys.length d,.func (.func 107) #[] #[]] (.int .i64 (Vs xs ys)):=by
 intro w0 hb0
 obtain ⟨Post,hPost⟩:∃ P:Ending→World→Prop,P=fun e w'=>e = .returned (.int .i64 (Vs xs ys))∧Below w0.heap.size w0 w':=⟨_,rfl⟩
 rw [←hPost]
 have HP:=Lib.hid (show ∀ (r:Int) (w':World),Vs xs ys=r→Below w0.heap.size w0 w'→Post (.returned (.int .i64 r)) w' from fun r w' h hb=>by rw [hPost];exact ⟨by rw [h],hb⟩)
 have HA:=Lib.hid ((hp.below hb0 (Nat.le_refl _)).mono hb0.size)
 have HB:=Lib.hid ((hq.below hb0 (Nat.le_refl _)).mono hb0.size)
 have HX:=Lib.hid hx
 have HY:=Lib.hid hy
 clear hPost hp hq hb0 hx hy
 go_enter Tryz.func106,Tryz.ntmps106
 go_wp2_with fail
 go_loopw [13] (fun t wr=>∃ j:Nat,j≤xs.length∧j≤ys.length∧t = .int .i64 j∧Hid (Vs xs ys=Vs (xs.drop j) (ys.drop j))∧Hid (Below w0.heap.size w0 wr)) (fun t _=>xs.length-(intOf t).toNat)
 case atStart=>exact ⟨0,Nat.zero_le _,Nat.zero_le _,rfl,rfl,Below.refl _ _⟩
 case round =>
  obtain ⟨j,hj,hj2,rfl,HG,HW⟩:=hrel
  obtain ⟨wq,hwq⟩:∃ wq,wq=wr:=⟨_,rfl⟩
  rw [←hwq] at HW ⊢
  clear hwq
  by_cases hlt:j<xs.length
  ·obtain ⟨x,hx⟩:∃ x,xs[j]?=some x:=⟨_,List.getElem?_eq_getElem hlt⟩
   obtain ⟨b1,o1,hb1,e1,k1⟩:=HA.out j _ (Jb xs j x hx)
   have d1:=Q8 HW.out hb1 k1
   have hdx:xs.drop j=x::xs.drop (j+1):=by
    obtain ⟨h1,h2⟩:=List.getElem?_eq_some_iff.1 hx
    rw [List.drop_eq_getElem_cons hlt,h2]
   have HDX:=Lib.hid hdx
   have HMX:=Lib.hid (HX.out x (List.mem_of_getElem? hx))
   subst e1
   clear hx hb1 k1 hdx
   by_cases hlt2:j<ys.length
   ·obtain ⟨y,hy⟩:∃ y,ys[j]?=some y:=⟨_,List.getElem?_eq_getElem hlt2⟩
    obtain ⟨b2,o2,hb2,e2,k2⟩:=HB.out j _ (Jb ys j y hy)
    have d2:=Q8 HW.out hb2 k2
    have hdy:ys.drop j=y::ys.drop (j+1):=by
     obtain ⟨h1,h2⟩:=List.getElem?_eq_some_iff.1 hy
     rw [List.drop_eq_getElem_cons hlt2,h2]
    have HG2:=Lib.hid (HG.out.trans (by rw [HDX.out,hdy];rfl):Vs xs ys=if Q32 x y≠0 then Q32 x y else Vs (xs.drop (j+1)) (ys.drop (j+1)))
    have hmy:=HY.out y (List.mem_of_getElem? hy)
    have KC:=gCmpV x y HMX.out hmy
    generalize Q32 x y=r at *
    subst e2
    clear hy hb2 k2 hdy hmy HG HDX HMX
    go_wp2_with fail
    refine (KC wq).mono ?_
    rintro e w4 ⟨rfl,hb4⟩
    have HB4:=Lib.hid (HW.out.trans (hb4.mono HW.out.size))
    clear hb4 KC d1 d2
    by_cases hr:r=0
    ·have hrb:(r != 0)=false:=by simp [hr]
     have HG3:=Lib.hid (HG2.out.trans (if_neg (by simp [hr])))
     clear hr
     go_wp2_with fail
     go_roundw
     case rel=>exact ⟨j+1,by omega,by omega,by go_num,HG3.out,HB4.out⟩
     case measure=>simp [intOf];omega
    ·have hrb:(r != 0)=true:=by simp [bne,J7 hr]
     have HG3:=Lib.hid (HG2.out.trans (if_pos hr))
     clear hr
     go_wp2_with fail
     exact HP.out _ _ HG3.out HB4.out
   ·have HF:=Lib.hid (show Vs xs ys=1 by rw [HG.out,HDX.out,List.drop_of_length_le (l:=ys) (by omega)];rfl)
    have hge:decide ((ys.length:Int)≤(j:Int))=true:=decide_eq_true (by omega)
    have hge2:decide (ys.length≤j)=true:=decide_eq_true (by omega)
    clear HG HDX HMX
    go_wp2_with fail
    exact HP.out _ _ HF.out HW.out
  ·have hdd:decide (j<xs.length)=false:=decide_eq_false hlt
   have hdd2:decide ((j:Int)<(xs.length:Int))=false:=decide_eq_false (by omega)
   by_cases hll:xs.length<ys.length
   ·have hl1:decide (xs.length<ys.length)=true:=decide_eq_true hll
    have hl2:decide ((xs.length:Int)<(ys.length:Int))=true:=decide_eq_true (by omega)
    have HF:=Lib.hid (show Vs xs ys = -1 by
     rw [HG.out,List.drop_of_length_le (by omega)]
     obtain ⟨y,r,e⟩:=List.exists_cons_of_ne_nil (show ys.drop j≠[] by intro h;have:=congrArg List.length h;simp at this;omega)
     rw [e];rfl)
    clear HG hlt hll
    go_wp2_with fail
    exact HP.out _ _ HF.out HW.out
   ·have hl1:decide (xs.length<ys.length)=false:=decide_eq_false hll
    have hl2:decide ((xs.length:Int)<(ys.length:Int))=false:=decide_eq_false (by omega)
    have HF:=Lib.hid (show Vs xs ys=0 by
     rw [HG.out,List.drop_of_length_le (by omega),List.drop_of_length_le (by omega)];rfl)
    clear HG hlt hll
    go_wp2_with fail
    exact HP.out _ _ HF.out HW.out
end
/- Clauses compared,and found equal. -/
section
open Go.RowKit
def Q0j (xs ys:List Int):Int:=if xs.length≠ys.length then (xs.length:Int)-(ys.length:Int) else Vs xs ys
theorem Q3y (w:World) (x1 y1 x2 y2:Value) (T U:TypeId):((w.alloc (Obj.cells #[x1,y1] T)).alloc (Obj.cells #[x2,y2] U)).heap[w.heap.size]?=some (.cells #[x1,y1] T (0,0)) ∧
  ((w.alloc (Obj.cells #[x1,y1] T)).alloc (Obj.cells #[x2,y2] U)).heap[w.heap.size+1]?=some (.cells #[x2,y2] U (0,0))∧Below w.heap.size w ((w.alloc (Obj.cells #[x1,y1] T)).alloc (Obj.cells #[x2,y2] U)):=by
 refine ⟨?_,?_,((Below.refl _ _).alloc (Nat.le_refl _) _).alloc (by simp) _⟩
 ·exact (heap_alloc_old _ _ (by simp)).trans (heap_alloc_new w _)
 ·have:=heap_alloc_new (w.alloc (Obj.cells #[x1,y1] T)) (Obj.cells #[x2,y2] U)
  simpa using this
set_option maxHeartbeats 1600000 in
set_option maxRecDepth 100000 in
theorem gCmpC (a b:Ce) (hx:SmC a.xs) (hy:SmC b.xs) (w:World) (hp:AtN w.heap.size w a.p (Qm a.xs)) (hq:AtN w.heap.size w b.p (Qm b.xs)) (hl:a.xs.length≤1000000000) (hl2:b.xs.length≤1000000000) :
  GivesFrom w 105 #[ceA a,ceA b] (.int .i64 (Q0j a.xs b.xs)):=by
 intro w0 hb0
 obtain ⟨Post,hPost⟩:∃ P:Ending→World→Prop,P=fun e w'=>e = .returned (.int .i64 (Q0j a.xs b.xs))∧Below w0.heap.size w0 w':=⟨_,rfl⟩
 rw [←hPost]
 have HP:=Lib.hid (show ∀ (r:Int) (w':World),Q0j a.xs b.xs=r→Below w0.heap.size w0 w'→Post (.returned (.int .i64 r)) w' from fun r w' h hb=>by rw [hPost];exact ⟨by rw [h],hb⟩)
 obtain ⟨p,c,xs,m⟩:=a
 obtain ⟨q,d,ys,n⟩:=b
 unfold ceA
 dsimp only at *
 have KC:=gCmpL xs ys p q c d hx hy w0 ((hp.below hb0 (Nat.le_refl _)).mono hb0.size) ((hq.below hb0 (Nat.le_refl _)).mono hb0.size) hl hl2
 have HQ:=Lib.hid (show Q0j xs ys=if xs.length≠ys.length then (xs.length:Int)-(ys.length:Int) else Vs xs ys from rfl)
 generalize Q0j xs ys=r0 at *
 generalize Vs xs ys=r1 at *
 clear hPost hp hq hb0 hx hy
 go_enter Tryz.func105,Tryz.ntmps105
 go_upto_region 1 with fail
 refine Qg ?_
 intro w1 hw1
 have HA:=Lib.hid (show w1.heap[w0.heap.size]?=some (.cells #[.slice p xs.length c,.int .i64 m] 138 (0,0)) by rw [hw1];exact (Q3y w0 _ _ _ _ _ _).1)
 have HB:=Lib.hid (show w1.heap[w0.heap.size+1]?=some (.cells #[.slice q ys.length d,.int .i64 n] 138 (0,0)) by rw [hw1];exact (Q3y w0 _ _ _ _ _ _).2.1)
 have HL:=Lib.hid (show Below w0.heap.size w0 w1 by rw [hw1];exact (Q3y w0 _ _ _ _ _ _).2.2)
 clear hw1
 have x0:=Q5 HA.out 0 rfl
 have x1:=Q5 HA.out 1 rfl
 have y0:=Q5 HB.out 0 rfl
 have y1:=Q5 HB.out 1 rfl
 by_cases h:xs.length=ys.length
 ·have HR:=Lib.hid (HQ.out.trans (if_neg (by omega)))
  have h0:((xs.length:Int)-(ys.length:Int) != 0)=false:=by simp [bne];omega
  have h1:((xs.length:Int)-(ys.length:Int))=0:=by omega
  have KC2:=KC w1 HL.out
  clear h HQ KC
  generalize xs.length=u at *
  generalize ys.length=v at *
  clear h1
  go_wp2_with fail
  refine KC2.mono ?_
  rintro e w2 ⟨rfl,hb2⟩
  have HL2:=Lib.hid (HL.out.trans (hb2.mono HL.out.size))
  clear hb2 KC2
  go_wp2_with fail
  exact HP.out _ _ HR.out HL2.out
 ·have HR:=Lib.hid (HQ.out.trans (if_pos h))
  have h0:((xs.length:Int)-(ys.length:Int) != 0)=true:=by simp [bne];omega
  clear h HQ KC
  generalize xs.length=u at *
  generalize ys.length=v at *
  go_wp2_with fail
  exact HP.out _ _ HR.out HL.out
/-! ### Equal -/
set_option maxHeartbeats 3200000 in
set_option maxRecDepth 100000 in
theorem gEqL (xs ys:List Int) (p q:Option Addr) (c d:Nat) (w:World) (hp:AtN w.heap.size w p (Qm xs)) (hq:AtN w.heap.size w q (Qm ys)) (hl:xs.length≤1000000000) (hl2:ys.length≤1000000000) :
  GivesFrom w 110 #[.slice p xs.length c,.slice q ys.length d] (.bool (decide (xs=ys))):=by
 intro w0 hb0
 obtain ⟨Post,hPost⟩:∃ P:Ending→World→Prop,P=fun e w'=>e = .returned (.bool (decide (xs=ys)))∧Below w0.heap.size w0 w':=⟨_,rfl⟩
 rw [←hPost]
 have HP:=Lib.hid (show ∀ (r:Bool) (w':World),decide (xs=ys)=r→Below w0.heap.size w0 w'→Post (.returned (.bool r)) w' from fun r w' h hb=>by rw [hPost];exact ⟨by rw [h],hb⟩)
 have HA:=Lib.hid ((hp.below hb0 (Nat.le_refl _)).mono hb0.size)
 have HB:=Lib.hid ((hq.below hb0 (Nat.le_refl _)).mono hb0.size)
 clear hPost hp hq hb0
 go_enter Tryz.func110,Tryz.ntmps110
 by_cases hne:xs.length=ys.length
 ·have h0:((xs.length:Int) != (ys.length:Int))=false:=by simp [bne];omega
  have HLE:=Lib.hid hne
  clear hne
  go_wp2_with fail
  go_loopw [13] (fun t wr=>∃ j:Nat,j≤xs.length∧t = .int .i64 j∧Hid (xs.take j=ys.take j)∧Hid (Below w0.heap.size w0 wr)) (fun t _=>xs.length-(intOf t).toNat)
  case atStart=>exact ⟨0,Nat.zero_le _,rfl,rfl,Below.refl _ _⟩
  case round =>
   obtain ⟨j,hj,rfl,HG,HW⟩:=hrel
   obtain ⟨wq,hwq⟩:∃ wq,wq=wr:=⟨_,rfl⟩
   rw [←hwq] at HW ⊢
   clear hwq h0
   by_cases hlt:j<xs.length
   ·obtain ⟨x,hx⟩:∃ x,xs[j]?=some x:=⟨_,List.getElem?_eq_getElem hlt⟩
    obtain ⟨y,hy⟩:∃ y,ys[j]?=some y:=⟨_,List.getElem?_eq_getElem (by rw [←HLE.out];exact hlt)⟩
    have hjy:j<ys.length:=by rw [←HLE.out];exact hlt
    obtain ⟨b1,o1,hb1,e1,k1⟩:=HA.out j _ (Jb xs j x hx)
    obtain ⟨b2,o2,hb2,e2,k2⟩:=HB.out j _ (Jb ys j y hy)
    have D1:=Lib.hid (Q8 HW.out hb1 k1)
    have D2:=Lib.hid (Q8 HW.out hb2 k2)
    have HNX:=Lib.hid (show x≠y→decide (xs=ys)=false from fun h=>decide_eq_false fun e=>h (by rw [e,hy] at hx;cases hx;rfl))
    have HSX:=Lib.hid (show x=y→xs.take (j+1)=ys.take (j+1) from fun h=>by rw [Xj hx,Xj hy,HG.out,h])
    have hs1:=HA.out
    subst e1 e2
    clear hx hy hb1 hb2 k1 k2 hs1
    have hdd:decide (j<xs.length)=true:=decide_eq_true hlt
    have hdd2:decide ((j:Int)<(xs.length:Int))=true:=decide_eq_true (by omega)
    go_upto_region 6 with fail
    refine Qo [0,0,0,0,0,0,0,0,0] [] B0 Qu (Qi _) (by kernel_rfl) (by kernel_rfl) ?_
    refine Qb 9 (by kernel_rfl) (by rfl) ?_
    apply Exists.intro
    refine ⟨fun z hz=>?_,?_⟩
    ·have f0:=Q6 hz D1.out (by simp)
     have f1:=Q6 hz D2.out (by simp)
     clear hz
     simp only [List.take_succ_cons,List.take_zero]
     unfold Cx
     repeat (go_big_quiet_step (fail))
     exact wpQuiet_nil rfl
    simp only [List.drop_succ_cons,List.drop_zero]
    refine Qf ?_
    intro w5 hx5 _
    have HB5:=Lib.hid (HW.out.trans ((hx5.below_of (b:=w0.heap.size) (by simp) HW.out.size)))
    clear hx5 D1 D2
    by_cases hxy:x=y
    ·have HS2:=Lib.hid (HSX.out hxy)
     have hb:(x != y)=false:=by simp [bne,hxy]
     clear hxy HNX HSX HG
     go_wp2_with fail
     go_roundw
     case rel=>exact ⟨j+1,by omega,by go_num,HS2.out,HB5.out⟩
     case measure=>simp [intOf];omega
    ·have HF:=Lib.hid (HNX.out hxy)
     have hb:(x != y)=true:=by simp [bne,J7 hxy]
     clear hxy HNX HSX HG
     go_wp2_with fail
     exact HP.out _ _ HF.out HB5.out
   ·have hdd:decide (j<xs.length)=false:=decide_eq_false hlt
    have hdd2:decide ((j:Int)<(xs.length:Int))=false:=decide_eq_false (by omega)
    have HF:=Lib.hid (show decide (xs=ys)=true by
     refine decide_eq_true ?_
     have h:=HG.out
     have h2:=HLE.out
     rwa [List.take_of_length_le (by omega),List.take_of_length_le (by omega)] at h)
    clear HG hlt
    go_wp2_with fail
    exact HP.out _ _ HF.out HW.out
 ·have h0:((xs.length:Int) != (ys.length:Int))=true:=by simp [bne];omega
  have HF:=Lib.hid (show decide (xs=ys)=false from decide_eq_false fun e=>hne (by rw [e]))
  clear hne
  go_wp2_with fail
  exact HP.out _ _ HF.out (Below.refl _ _)
set_option maxHeartbeats 1600000 in
set_option maxRecDepth 100000 in
theorem gEqC (a b:Ce) (w:World) (hp:AtN w.heap.size w a.p (Qm a.xs)) (hq:AtN w.heap.size w b.p (Qm b.xs)) (hl:a.xs.length≤1000000000) (hl2:b.xs.length≤1000000000) :
  GivesFrom w 109 #[ceA a,ceA b] (.bool (decide (a.xs=b.xs))):=by
 intro w0 hb0
 obtain ⟨Post,hPost⟩:∃ P:Ending→World→Prop,P=fun e w'=>e = .returned (.bool (decide (a.xs=b.xs)))∧Below w0.heap.size w0 w':=⟨_,rfl⟩
 rw [←hPost]
 have HP:=Lib.hid (show ∀ (w':World),Below w0.heap.size w0 w'→Post (.returned (.bool (decide (a.xs=b.xs)))) w' from fun w' hb=>by rw [hPost];exact ⟨rfl,hb⟩)
 obtain ⟨p,c,xs,m⟩:=a
 obtain ⟨q,d,ys,n⟩:=b
 unfold ceA
 dsimp only at *
 have KC:=gEqL xs ys p q c d w0 ((hp.below hb0 (Nat.le_refl _)).mono hb0.size) ((hq.below hb0 (Nat.le_refl _)).mono hb0.size) hl hl2
 generalize decide (xs=ys)=r0 at *
 clear hPost hp hq hb0
 go_enter Tryz.func109,Tryz.ntmps109
 go_upto_region 1 with fail
 refine Qg ?_
 intro w1 hw1
 have HA:=Lib.hid (show w1.heap[w0.heap.size]?=some (.cells #[.slice p xs.length c,.int .i64 m] 138 (0,0)) by rw [hw1];exact (Q3y w0 _ _ _ _ _ _).1)
 have HB:=Lib.hid (show w1.heap[w0.heap.size+1]?=some (.cells #[.slice q ys.length d,.int .i64 n] 138 (0,0)) by rw [hw1];exact (Q3y w0 _ _ _ _ _ _).2.1)
 have HL:=Lib.hid (show Below w0.heap.size w0 w1 by rw [hw1];exact (Q3y w0 _ _ _ _ _ _).2.2)
 clear hw1
 have x0:=Q5 HA.out 0 rfl
 have x1:=Q5 HA.out 1 rfl
 have y0:=Q5 HB.out 0 rfl
 have y1:=Q5 HB.out 1 rfl
 have KC2:=KC w1 HL.out
 clear KC
 generalize xs.length=u at *
 generalize ys.length=v at *
 go_wp2_with fail
 refine KC2.mono ?_
 rintro e w2 ⟨rfl,hb2⟩
 have HL2:=Lib.hid (HL.out.trans (hb2.mono HL.out.size))
 clear hb2 KC2
 go_wp2_with fail
 exact HP.out _ HL2.out
end
/- Clauses sorted by insertion. -/
section
open Go.RowKit
def RowC (w:World) (g:Nat) (L:List Ce) (tl:List Value):Prop:=w.heap[g]?=some (.cells (Jj L++tl).toArray 138 (0,0))
theorem RowC.get {w:World} {g:Nat} {L:List Ce} {tl:List Value} (h:RowC w g L tl) {i:Nat} {e:Ce} (he:L[i]?=some e):w.cell? ⟨g,i*2,none⟩=some (.slice e.p e.xs.length e.c)∧w.cell? ⟨g,i*2+1,none⟩=some (.int .i64 e.at'):=by
 obtain ⟨h1,h2⟩:=cesV_get he
 have hi:=(List.getElem?_eq_some_iff.1 he).1
 have hl:=Yw L
 exact ⟨Q5 h (i*2) (by rw [List.getElem?_toArray,List.getElem?_append_left (by omega)];exact h1),Q5 h (i*2+1) (by rw [List.getElem?_toArray,List.getElem?_append_left (by omega)];exact h2)⟩
theorem RowC.getp {w:World} {g:Nat} {L:List Ce} {tl:List Value} (h:RowC w g L tl) {i:Nat} {e:Ce} (he:L[i]?=some e):(∀ p,(plus w p).cell? ⟨g,i*2,none⟩=some (.slice e.p e.xs.length e.c))∧∀ p,(plus w p).cell? ⟨g,i*2+1,none⟩=some (.int .i64 e.at') :=
 ⟨fun p=>Ou (h.get he).1 (Q9 h) p,fun p=>Ou (h.get he).2 (Q9 h) p⟩
theorem part_get (A C:List Value) {u v:List Value} (hu:u.length=2) (hv:v.length=2) (i:Nat):(A++v++C).toArray[i]?=if A.length≤i∧i<A.length+2 then v.toArray[i-A.length]? else (A++u++C).toArray[i]?:=by
 simp only [List.append_assoc,List.getElem?_toArray]
 by_cases h1:i<A.length
 ·rw [if_neg (by omega),List.getElem?_append_left h1,List.getElem?_append_left h1]
 ·rw [List.getElem?_append_right (l₁:=A) (by omega)]
  by_cases h2:i<A.length+2
  ·rw [if_pos ⟨by omega,h2⟩,List.getElem?_append_left (by omega)]
  ·rw [if_neg (by omega),List.getElem?_append_right (l₁:=A) (by omega),List.getElem?_append_right (l₁:=v) (by omega),List.getElem?_append_right (l₁:=u) (by omega),hu,hv]
section
variable {P:Program} {ops:Array Oper} {w:World} {Wr:List Nat}
theorem Vg {kd:Nat→Nat} {Q:Act→Blocks→Prop} {B:Blocks} {rest:List Oper} {k:Nat} {T ty:TypeId} {p v:Operand} {pos:String} {after:Array Edge} {a:Act} (g o:Nat) (A C:List Value) (u e:Ce) (E:TypeId) (hk:kd k=2) (hp:a.eval p = .pointer (some ⟨g,o,none⟩)) (ho:o=A.length) (hv:a.eval v=ceA e)
  (hB:B g=some (.cells (A++ceV u++C).toArray E (0,0))) (hW:g∈Wr∨w.heap.size≤g) (hi:(P.info? T).map (·.size)=some 2)
  (h:Jh P ops w Wr kd Q rest (k+1) a (B.put g (.cells (A++ceV e++C).toArray E (0,0)))) :
  Jh P ops w Wr kd Q (⟨none,.store T p v,ty,pos,after,none⟩::rest) k a B:=by
 subst ho
 refine Qx g A.length (ceA e) _ (A++ceV e++C).toArray E hk hp hv hB ?_ ?_ ?_ hW hi (by simp [ceA,Value.cells,Value.oneCell']) h
 ·show A.length+2≤_
  simp [ceV]
 ·simp [ceV]
 ·exact fun i _=>part_get A C rfl rfl i
end
theorem Q2f {ok:Nat→Prop} {g m:Nat} (h:¬ ok g):∀ k∈[g],ok k→m≤k:=fun k hk h2=>by
 obtain rfl:k=g:=by simpa using hk
 exact (h h2).elim
structure CeOk (ok:Nat→Prop) (w:World) (e:Ce):Prop where
 ins:InsP ok w e.p e.xs
 sm:SmC e.xs
 len:e.xs.length≤1000000
theorem CeOk.keep {ok:Nat→Prop} {w w':World} {U:List Nat} {e:Ce} (h:CeOk ok w e) (hB:Behind w U w') (hU:∀ g∈U,ok g→w.heap.size≤g):CeOk ok w' e:=⟨h.ins.keep hB hU,h.sm,h.len⟩
theorem cmpC_len {xs ys:List Int} (h:Q0j xs ys<0):xs.length≤ys.length:=by
 unfold Q0j at h
 split at h<;>omega
theorem cmpC_len2 {xs ys:List Int} (h:¬ Q0j xs ys<0):ys.length≤xs.length:=by
 unfold Q0j at h
 split at h<;>omega
theorem Q0m {L M:List Ce}:ByLen (lcs (L++M))↔ByLen (lcs L)∧ByLen (lcs M)∧∀ x∈L,∀ y∈M,x.xs.length≤y.xs.length:=by
 unfold ByLen lcs
 rw [List.map_append,List.pairwise_append]
 constructor
 ·rintro ⟨h1,h2,h3⟩
  exact ⟨h1,h2,fun x hx y hy=>h3 _ (List.mem_map.2 ⟨x,hx,rfl⟩) _ (List.mem_map.2 ⟨y,hy,rfl⟩)⟩
 ·rintro ⟨h1,h2,h3⟩
  refine ⟨h1,h2,fun a ha b hb=>?_⟩
  obtain ⟨x,hx,rfl⟩:=List.mem_map.1 ha
  obtain ⟨y,hy,rfl⟩:=List.mem_map.1 hb
  exact h3 x hx y hy
theorem byLen_cons {e:Ce} {M:List Ce}:ByLen (lcs (e::M))↔ByLen (lcs M)∧∀ y∈M,e.xs.length≤y.xs.length:=by
 rw [show e::M=[e]++M from rfl,Q0m]
 simp [ByLen,lcs]
theorem Q79 {Pp S:List Ce} {e:Ce} (h:ByLen (lcs (Pp++S))) (h1:∀ y∈S,e.xs.length≤y.xs.length) (h2:∀ q,Pp.getLast?=some q→q.xs.length≤e.xs.length):ByLen (lcs (Pp++e::S)):=by
 rw [Q0m] at h ⊢
 rw [byLen_cons]
 refine ⟨h.1,⟨h.2.1,h1⟩,fun x hx y hy=>?_⟩
 rcases List.mem_cons.1 hy with rfl | hy
 ·rcases List.eq_nil_or_concat Pp with rfl | ⟨P',q,rfl⟩
  ·cases hx
  ·have hq:=h2 q (by simp)
   rw [List.concat_eq_append] at hx h
   rcases List.mem_append.1 hx with hx | hx
   ·have:=(Q0m.1 h.1).2.2 x hx q (by simp)
    omega
   ·obtain rfl:x=q:=by simpa using hx
    exact hq
 ·exact h.2.2 x hx y hy
set_option maxHeartbeats 6400000 in
set_option maxRecDepth 100000 in
theorem gInsert (ok:Nat→Prop) (L:List Ce) (g cap:Nat) (tl:List Value) (w:World) (hR:RowC w g L tl) (hI:∀ e∈L,CeOk ok w e) (hg:¬ ok g) (hl:L.length≤1000) :
  Calls Tryz.prog 151 #[.slice (some ⟨g,0,none⟩) L.length cap,.int .i64 0,.int .i64 L.length,.func (.func 105) #[] #[]] w
   fun e w'=>e = .returned (.tuple #[])∧∃ L',L'.Perm L∧ByLen (lcs L')∧RowC w' g L' tl∧Behind w [g] w':=by
 obtain ⟨Post,hPost⟩:∃ P:Ending→World→Prop,P=fun e w'=>e = .returned (.tuple #[])∧∃ L',L'.Perm L∧ByLen (lcs L')∧RowC w' g L' tl∧Behind w [g] w':=⟨_,rfl⟩
 rw [←hPost]
 have HP:=Lib.hid (show ∀ (L':List Ce) (w':World),L'.Perm L→ByLen (lcs L')→RowC w' g L' tl→Behind w [g] w'→Post (.returned (.tuple #[])) w' from fun L' w' h1 h2 h3 h4=>by rw [hPost];exact ⟨rfl,L',h1,h2,h3,h4⟩)
 have HR:=Lib.hid hR
 have HI:=Lib.hid hI
 have HG:=Lib.hid hg
 have hgl:=Q9 hR
 obtain ⟨n,hn⟩:∃ n,n=L.length:=⟨_,rfl⟩
 have HN:=Lib.hid hn
 rw [←hn] at hl ⊢
 clear hPost hR hI hg hn
 go_enter Tryz.func151,Tryz.ntmps151
 go_wp2_with fail
 go_loopw [8] (fun t wr=>∃ (i:Nat) (M:List Ce),1≤i∧(i≤n∨i=1)∧t = .int .i64 i∧Hid (M.Perm L)∧Hid (ByLen (lcs (M.take i)))∧Hid (RowC wr g M tl)∧Hid (Behind w [g] wr)) (fun t _=>n-(intOf t).toNat)
 case atStart=>exact ⟨1,L,Nat.le_refl _,.inr rfl,rfl,List.Perm.refl _,by
  show ByLen (lcs (L.take 1))
  cases L with
  | nil=>exact List.Pairwise.nil
  | cons e L=>exact List.pairwise_singleton _ _,HR.out,Behind.refl _ _⟩
 case round =>
  obtain ⟨i,M,hi1,hi2,rfl,HM,HS,HRW,HB⟩:=hrel
  obtain ⟨w1,hw1⟩:∃ w1,w1=wr:=⟨_,rfl⟩
  rw [←hw1] at HRW HB ⊢
  clear hw1
  have hML:M.length=n:=by rw [HN.out];exact HM.out.length_eq
  by_cases hlt:i<n
  ·have hdd:decide (i<n)=true:=decide_eq_true hlt
   have hdd2:decide ((i:Int)<(n:Int))=true:=decide_eq_true (by omega)
   have H0:=Lib.hid (show ∃ (A S R:List Ce) (e:Ce),A.length=i∧S.length+i=i∧M=A++e::(S++R)∧ByLen (lcs (A++S))∧∀ y∈S,e.xs.length≤y.xs.length from
    ⟨M.take i,[],M.drop (i+1),M[i]'(by omega),by simp;omega,by simp,by rw [List.nil_append,List.getElem_cons_drop,List.take_append_drop],by rw [List.append_nil];exact HS.out,fun y hy=>by cases hy⟩)
   have HML:=Lib.hid hML
   clear hML HS
   go_wp2_with fail
   go_loopw [9] (fun t wr=>∃ (j:Nat) (A S R:List Ce) (e:Ce),A.length=j∧j≤i∧Hid (S.length+j=i)∧t = .int .i64 j∧Hid ((A++e::(S++R)).Perm L)∧Hid (ByLen (lcs (A++S)))∧Hid (∀ y∈S,e.xs.length≤y.xs.length)∧Hid (RowC wr g (A++e::(S++R)) tl)∧Hid (Behind w [g] wr)) (fun t _=>(intOf t).toNat)
   case atStart =>
    obtain ⟨A,S,R,e,h1,h2,h3,h4,h5⟩:=H0.out
    exact ⟨i,A,S,R,e,h1,Nat.le_refl _,h2,rfl,by rw [←h3];exact HM.out,h4,h5,by rw [←h3];exact HRW.out,HB.out⟩
   case round =>
    clear HM HRW HB H0 HML
    obtain ⟨j,A,S,R,e,hAj,hji,HSL,rfl,HM,HS,HE,HRW,HB⟩:=hrel
    obtain ⟨w1,hw1⟩:∃ w1,w1=wr:=⟨_,rfl⟩
    rw [←hw1] at HRW HB ⊢
    clear hw1
    have HIE:=Lib.hid ((HI.out e (HM.out.mem_iff.1 (by simp))).keep HB.out (Q2f HG.out))
    have HD:=Lib.hid (HRW.out.get (i:=A.length) (e:=e) (by rw [List.getElem?_append_right (Nat.le_refl _),Nat.sub_self];rfl))
    rcases List.eq_nil_or_concat A with rfl | ⟨A',q,hA'⟩
    ·obtain rfl:0=j:=hAj
     have HLN:=Lib.hid (show ((e::(S++R)).take (i+1))=e::S by
      have:=HSL.out
      rw [List.take_succ_cons,List.take_left' (by omega)])
     have HFS:=Lib.hid (show ByLen (lcs ((e::(S++R)).take (i+1))) by
      rw [HLN.out]
      exact Q79 (Pp:=[]) HS.out HE.out (fun q h=>by simp at h))
     clear HLN
     go_upto_region 4 with fail
     refine Qo [0,0,0,0,0,0,0,0,0,0,0,0,0,0,0,0,0] [] B0 Qu (Qi _) (by kernel_rfl) (by kernel_rfl) ?_
     refine Qb 17 (by kernel_rfl) (by rfl) ?_
     apply Exists.intro
     refine ⟨fun z hz=>?_,?_⟩
     ·clear hz
      simp only [List.take_succ_cons,List.take_zero]
      unfold Cx
      repeat (go_big_quiet_step (fail))
      exact wpQuiet_nil rfl
     simp only [List.drop_succ_cons,List.drop_zero]
     refine Qf ?_
     intro w5 hx5 _
     have HR5:=Lib.hid (show RowC w5 g ([]++e::(S++R)) tl from hx5.keep HRW.out (by simp))
     have HB5:=Lib.hid (HB.out.trans hx5 (by simp))
     clear hx5 HD HIE
     go_wp2_with fail
     go_roundw
     case rel=>exact ⟨i+1,e::(S++R),by omega,.inl (by omega),by go_num,HM.out,HFS.out,HR5.out,HB5.out⟩
     case measure=>simp [intOf];omega
    ·rw [List.concat_eq_append] at hA'
     obtain ⟨k,hk⟩:∃ k,k=A'.length:=⟨_,rfl⟩
     obtain rfl:j=k+1:=by rw [←hAj,hA',hk];simp
     have HIQ:=Lib.hid ((HI.out q (HM.out.mem_iff.1 (by rw [hA'];simp))).keep HB.out (Q2f HG.out))
     have HDQ:=Lib.hid (HRW.out.get (i:=k) (e:=q) (by rw [hA',hk,List.append_assoc,List.getElem?_append_right (Nat.le_refl _),Nat.sub_self];rfl))
     rw [hAj] at HD
     have KC:=Lib.hid (gCmpC e q HIE.out.sm HIQ.out.sm w1 HIE.out.ins.at HIQ.out.ins.at (by have:=HIE.out.len;omega) (by have:=HIQ.out.len;omega))
     have HCL:=Lib.hid (cmpC_len (xs:=e.xs) (ys:=q.xs))
     have HCL2:=Lib.hid (cmpC_len2 (xs:=e.xs) (ys:=q.xs))
     have hrng:=show -2000000≤Q0j e.xs q.xs∧Q0j e.xs q.xs≤2000000 from by
      have h1:=Q73 HIE.out.sm HIQ.out.sm
      have h2:=HIE.out.len
      have h3:=HIQ.out.len
      unfold Q0j;split<;>omega
     have HA':=Lib.hid hA'
     have HK:=Lib.hid hk
     have e1:(((k+1:Nat):Int)-1)=(k:Int):=by omega
     have e2:((k:Int)+1-1)=(k:Int):=by omega
     unfold ceA at KC
     generalize Q0j e.xs q.xs=r at *
     clear hA' hk hAj
     have hd0:decide (0<k+1)=true:=decide_eq_true (by omega)
     have hd1:decide ((0:Int)<(k:Int)+1)=true:=decide_eq_true (by omega)
     have hd2:decide ((0:Int)<((k+1:Nat):Int))=true:=decide_eq_true (by omega)
     go_upto_region 4 with fail
     refine Qo [0,0,0,0,0,0,0,0,0,0,0,0,0,0,0,0,0] [] B0 Qu (Qi _) (by kernel_rfl) (by kernel_rfl) ?_
     refine Qb 17 (by kernel_rfl) (by rfl) ?_
     apply Exists.intro
     refine ⟨fun z hz=>?_,?_⟩
     ·have f0:=Q6 hz HD.out.1 (by simp)
      have f1:=Q6 hz HD.out.2 (by simp)
      have f2:=Q6 hz HDQ.out.1 (by simp)
      have f3:=Q6 hz HDQ.out.2 (by simp)
      have HZ:=Lib.hid (hz.below_of (b:=w1.heap.size) (by simp) (Nat.le_refl _))
      clear hz
      simp only [List.take_succ_cons,List.take_zero]
      unfold Cx
      repeat (go_big_quiet_step (with_reducible exact KC.out.at2 HZ.out _))
      exact wpQuiet_nil rfl
     simp only [List.drop_succ_cons,List.drop_zero]
     refine Qf ?_
     intro w5 hx5 _
     have HR5:=Lib.hid (show RowC w5 g (A++e::(S++R)) tl from hx5.keep HRW.out (by simp))
     have HB5:=Lib.hid (HB.out.trans hx5 (by simp))
     clear hx5 HRW HB KC HD HDQ
     by_cases hr:r<0
     ·have hdr:decide (r<0)=true:=decide_eq_true hr
      have HEQ:=Lib.hid (HCL.out hr)
      clear HCL HCL2
      have HXE:=Lib.hid (show Jj A'++ceV q++ceV e++(Jj (S++R)++tl)=Jj (A++e::(S++R))++tl by
       rw [HA'.out,Yo,Yo]
       simp [O0,ceV,Jj])
      have HX:=Lib.hid (show w5.heap[g]?=some (.cells (Jj A'++ceV q++ceV e++(Jj (S++R)++tl)).toArray 138 (0,0)) by
       rw [HXE.out];exact HR5.out)
      have HLA:=Lib.hid (show (Jj A').length=k*2 by rw [Yw,HK.out])
      go_upto_region 6 with fail
      refine Qo [0,0,0,0,0,0,0,0,0,1,0,0,0,1,0,2,0,2] [g] _ (Fin.put Qu _ _) (Qr (Qi _) HX.out) (by kernel_rfl) (by kernel_rfl) ?_
      refine Qb 9 (by kernel_rfl) (by rfl) ?_
      apply Exists.intro
      refine ⟨fun z hz=>?_,?_⟩
      ·clear hz
       simp only [List.take_succ_cons,List.take_zero]
       unfold Cx
       repeat (go_big_quiet_step (fail))
       exact wpQuiet_nil rfl
      simp only [List.drop_succ_cons,List.drop_zero]
      refine Jq 1 w5 (Behind.refl _ _) (Qr (Qi _) HX.out) (by kernel_rfl) (by rfl) ?_
      apply Exists.intro
      refine ⟨fun z hz hzB=>?_,?_⟩
      ·have hz2:=hzB g _ (Blocks.put_same _ _ _)
       have hz3:RowC z g (A++e::(S++R)) tl:=by
        show z.heap[g]?=_
        rw [←HXE.out];exact hz2
       obtain ⟨f0,f1⟩:=hz3.getp (i:=k) (e:=q) (by rw [HA'.out,HK.out,List.append_assoc,List.getElem?_append_right (Nat.le_refl _),Nat.sub_self];rfl)
       clear hz hzB hz2 hz3
       simp only [List.take_succ_cons,List.take_zero]
       unfold Cx
       repeat (go_big_quiet_step (fail))
       exact wpQuiet_nil rfl
      simp only [List.drop_succ_cons,List.drop_zero]
      refine Qb 3 (by kernel_rfl) (by rfl) ?_
      apply Exists.intro
      refine ⟨fun z hz=>?_,?_⟩
      ·clear hz
       simp only [List.take_succ_cons,List.take_zero]
       unfold Cx
       repeat (go_big_quiet_step (fail))
       exact wpQuiet_nil rfl
      simp only [List.drop_succ_cons,List.drop_zero]
      refine Jq 1 w5 (Behind.refl _ _) (Qr (Qi _) HX.out) (by kernel_rfl) (by rfl) ?_
      apply Exists.intro
      refine ⟨fun z hz hzB=>?_,?_⟩
      ·have hz2:=hzB g _ (Blocks.put_same _ _ _)
       have hz3:RowC z g (A++e::(S++R)) tl:=by
        show z.heap[g]?=_
        rw [←HXE.out];exact hz2
       obtain ⟨f2,f3⟩:=hz3.getp (i:=k+1) (e:=e) (by rw [show k+1=A.length by rw [HA'.out,HK.out];simp,List.getElem?_append_right (Nat.le_refl _),Nat.sub_self];rfl)
       clear hz hzB hz2 hz3
       simp only [List.take_succ_cons,List.take_zero]
       unfold Cx
       repeat (go_big_quiet_step (fail))
       exact wpQuiet_nil rfl
      simp only [List.drop_succ_cons,List.drop_zero]
      refine Qb 1 (by kernel_rfl) (by rfl) ?_
      apply Exists.intro
      refine ⟨fun z hz=>?_,?_⟩
      ·clear hz
       simp only [List.take_succ_cons,List.take_zero]
       unfold Cx
       repeat (go_big_quiet_step (fail))
       exact wpQuiet_nil rfl
      simp only [List.drop_succ_cons,List.drop_zero]
      refine Vg g ((k+1)*2) (Jj A'++ceV q) (Jj (S++R)++tl) e q 138 (by rfl) (by rfl) (by simp [ceV,HLA.out];omega) (by rfl) (Blocks.put_same _ _ _) (.inl (by simp)) (by kernel_rfl) ?_
      refine Qb 1 (by kernel_rfl) (by rfl) ?_
      apply Exists.intro
      refine ⟨fun z hz=>?_,?_⟩
      ·clear hz
       simp only [List.take_succ_cons,List.take_zero]
       unfold Cx
       repeat (go_big_quiet_step (fail))
       exact wpQuiet_nil rfl
      simp only [List.drop_succ_cons,List.drop_zero]
      refine Vg g (k*2) (Jj A') (ceV q++(Jj (S++R)++tl)) q e 138 (by rfl) (by rfl) (by rw [HLA.out]) (by rfl) ?_ (.inl (by simp)) (by kernel_rfl) ?_
      ·rw [Blocks.put_same,List.append_assoc (Jj A'++ceV q)]
      refine Qf ?_
      intro y hy hH
      have HR6:=Lib.hid (show RowC y g (A'++e::(q::S++R)) tl by
       have:=hH g _ (Blocks.put_same _ _ _)
       show y.heap[g]?=_
       rw [this,Yo]
       simp [O0,Yo,ceV])
      have HB6:=Lib.hid (HB5.out.trans hy (by simp))
      clear hH hy
      have HM6:=Lib.hid (show (A'++e::(q::S++R)).Perm L from (by
       refine List.Perm.trans ?_ HM.out
       rw [HA'.out,List.append_assoc]
       exact List.Perm.append_left _ (List.Perm.swap _ _ _)))
      have HS6:=Lib.hid (show ByLen (lcs (A'++q::S)) by
       have:=HS.out
       rw [HA'.out,List.append_assoc] at this
       exact this)
      have HE6:=Lib.hid (show ∀ y∈q::S,e.xs.length≤y.xs.length from fun y hy=>by
       rcases List.mem_cons.1 hy with rfl | hy
       ·exact HEQ.out
       ·exact HE.out y hy)
      have HL6:=Lib.hid (show (q::S).length+k=i by have:=HSL.out;simp at *;omega)
      go_wp2_with fail
      go_roundw
      case rel=>exact ⟨k,A',q::S,R,e,HK.out.symm,by omega,HL6.out,by go_num,HM6.out,HS6.out,HE6.out,HR6.out,HB6.out⟩
      case measure=>simp [intOf]
     ·have hdr:decide (r<0)=false:=decide_eq_false hr
      have HEQ:=Lib.hid (HCL2.out hr)
      clear HCL HCL2
      have HFS:=Lib.hid (show ByLen (lcs ((A++e::(S++R)).take (i+1))) by
       have h1:=HSL.out
       have h2:A.length=k+1:=by rw [HA'.out,HK.out];simp
       have h3:(A++e::(S++R)).take (i+1)=A++e::S:=by
        rw [show A++e::(S++R)=(A++e::S)++R by simp]
        exact List.take_left' (by simp;omega)
       rw [h3]
       exact Q79 HS.out HE.out (fun y hy=>by
        rw [HA'.out] at hy
        obtain rfl:q=y:=by simpa using hy
        exact HEQ.out))
      go_wp2_with fail
      go_roundw
      case rel=>exact ⟨i+1,A++e::(S++R),by omega,.inl (by omega),by go_num,HM.out,HFS.out,HR5.out,HB5.out⟩
      case measure=>simp [intOf];omega
  ·have hdd:decide (i<n)=false:=decide_eq_false hlt
   have hdd2:decide ((i:Int)<(n:Int))=false:=decide_eq_false (by omega)
   have HF:=Lib.hid (show ByLen (lcs M) by
    have:=HS.out
    rwa [List.take_of_length_le (by omega)] at this)
   clear HS
   go_wp2_with fail
   go_end0
   exact HP.out _ _ HM.out HF.out HRW.out HB.out
end
/- Clauses compacted. -/
section
open Go.RowKit
theorem Q2b {P:Program} (w:World) (t E ty:TypeId) (z:Value) (ht:P.underlying t=some (.slice E)) (hv:∀ w,(zeroValue E).run P w = .ok z w) (h1:z.cells.all (·.oneCell')=true) (g m c:Nat) (A M tl:List Value) (T:TypeId) (hb:w.heap[g]?=some (.cells (A++M++tl).toArray T (0,0))) (hM:M.length=m*z.cells.size) (hm:0<m) :
  ∃ w' Z,(Builtin.clear_ #[t] ty #[.slice (some ⟨g,A.length,none⟩) m c]).run P w = .ok (.tuple #[]) w'∧w'.heap[g]?=some (.cells (A++Z++tl).toArray T (0,0))∧Z.length=m*z.cells.size∧Behind w [g] w':=by
 have hzl:(Builtin.zeroCells z.cells m).toList.length=m*z.cells.size:=by simp [size_zeroCells]
 obtain ⟨ys,g1,g2,g3,g4,g5⟩:=Hh (Builtin.zeroCells z.cells m).toList A.length w _ hb (by rw [hzl];simp;omega)
 have hst:=run_storeCells_cells (P:=P) g A.length (Builtin.zeroCells z.cells m).toList 0 w (fun j hj=>by
   have:=(Xe hb A.length (m*z.cells.size) (by simp;omega)) j (by rw [←hzl];exact hj)
   simpa using this.1) (fun j hj=>by
   have:=(Xe hb A.length (m*z.cells.size) (by simp;omega)) j (by rw [←hzl];exact hj)
   simpa using this.2) (by
   intro v hv'
   have hv2:v∈(Builtin.zeroCells z.cells m):=by simpa using hv'
   obtain ⟨i,hi,rfl⟩:=Array.mem_iff_getElem.1 hv2
   have hs:0<z.cells.size:=by
    rcases Nat.eq_zero_or_pos z.cells.size with h | h
    ·rw [size_zeroCells,h] at hi;simp at hi
    ·exact h
   have hall:=Array.all_eq_true.1 h1
   simp only [Builtin.zeroCells,Array.getElem_map,Array.getElem_range]
   rw [getElem!_pos z.cells _ (Nat.mod_lt _ hs)]
   exact hall _ (Nat.mod_lt _ hs))
 refine ⟨w.setCells g A.length (Builtin.zeroCells z.cells m).toList,(Builtin.zeroCells z.cells m).toList,?_,?_,hzl,⟨g1.os,g1.tape,g1.output,g1.size,fun k hk hn=>g1.block k hk (by simpa using hn)⟩⟩
 ·obtain ⟨m,rfl⟩:∃ n,m=n+1:=⟨m-1,by omega⟩
  simp only [Nat.add_zero] at hst
  simp [Builtin.clear_,run_underlying ht,hv,hst]
 ·have:ys=(A++(Builtin.zeroCells z.cells m).toList++tl).toArray:=by
   apply Array.ext_getElem?
   intro i
   by_cases h1:i<A.length
   ·rw [g3 i h1];simp [List.getElem?_append_left h1]
   ·by_cases h2:i<A.length+m*z.cells.size
    ·have:=g4 (i-A.length) (by rw [hzl];omega)
     rw [show A.length+(i-A.length)=i by omega] at this
     rw [this]
     simp only [List.append_assoc,List.getElem?_toArray]
     rw [List.getElem?_append_right (by omega),List.getElem?_append_left (by rw [hzl];omega)]
    ·rw [g5 i (by rw [hzl];omega)]
     simp only [List.append_assoc,List.getElem?_toArray]
     rw [List.getElem?_append_right (by omega),List.getElem?_append_right (by omega),List.getElem?_append_right (by omega),List.getElem?_append_right (by rw [hzl];omega),hzl,hM]
  rw [←this];exact g1.here
theorem Am {P:Program} {ops:Array Oper} {rest:List Oper} {o:Oper} {a:Act} {Q:Exit→Act→World→Prop} (w:World) (hgd:o.guard=none) (s:Operand) (t:TypeId) (ho:o.op = .call { callee:=.builtin .clear,args:=#[s],argTypes:=#[t] })
  (E:TypeId) (z:Value) (ht:P.underlying t=some (.slice E)) (hv:∀ w,(zeroValue E).run P w = .ok z w) (h1:z.cells.all (·.oneCell')=true) (g k m c:Nat) (A M tl:List Value) (T:TypeId) (hs:a.eval s = .slice (some ⟨g,k,none⟩) m c) (hk:k=A.length) (hb:w.heap[g]?=some (.cells (A++M++tl).toArray T (0,0))) (hM:M.length=m*z.cells.size) (hm:0<m)
  (h:∀ w' Z,w'.heap[g]?=some (.cells (A++Z++tl).toArray T (0,0))→Z.length=m*z.cells.size→Behind w [g] w'→wpList P ops Q rest (a.put o.dst (.tuple #[])) w'):wpList P ops Q (o::rest) a w:=by
 subst hk
 refine wpList_plain hgd fun _ hK=>?_
 obtain ⟨w',Z,hr,h2,h3,h4⟩:=Q2b (P:=P) w t E o.type z ht hv h1 g m c A M tl T hb hM hm
 unfold Oper.wp execOp
 simp only [ho,resolve,invoke,builtin,Sem.run_bind,Sem.run_pure,Result.andThen_ok,List.map_toArray,List.map_cons,List.map_nil,hs,hr]
 exact hK _ _ (h w' Z h2 h3 h4)
end
end Go.Proofs.YtcpehljpegfckaaGreatDoor
