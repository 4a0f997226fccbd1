/- Texts of this claim,joined: EA6,EA7,EA8,EA9. -/
import Derived.Test.YtcpehljpegfckaaGreatDoorMT36
import Derived.Test.YtcpehljpegfckaaGreatDoorMT41
import Derived.Test.YtcpehljpegfckaaGreatDoorMT42
import Derived.Deep.DeepCutAuto
/- Has at whatever variable;the first variable of a parity;rows of three cells. -/
namespace Go.Proofs.YtcpehljpegfckaaGreatDoor
section
open Go.RowKit
set_option maxHeartbeats 1600000 in
set_option maxRecDepth 100000 in
theorem gHas0 (a0 a1:Int):Gives 92 #[.agg #[.int .u64 a0,.int .u64 a1],.int .i64 0] (.bool false):=by
 intro w
 have KP:=Q4r 0 (.inl (by omega))
 go_enter Tryz.func92,Tryz.ntmps92
 go_wp2_with fail
 refine Uj fun w1 hw1=>?_
 have hB1:Below w.heap.size w w1:=by rw [hw1];exact Qe _ _
 clear hw1
 refine (KP _).mono ?_
 rintro r2 w2 ⟨rfl,hB2⟩
 have HB2:=Lib.hid (hB1.trans (hB2.mono hB1.size))
 clear hB1 hB2 KP
 go_wp2_with fail
 go_ret
 exact ⟨rfl,HB2.out⟩
theorem gHasO (o:Nat→Bool) (v:Nat) (hv:v≤64):Gives 92 #[Qt o,.int .i64 (v:Int)] (.bool (decide (v≠0)&&o v)):=by
 by_cases h0:v=0
 ·subst h0
  exact gHas0 _ _
 ·have h:=gHas (loW o) (hiW o) (Vu o) (U1 o) (v:Int) (by omega) (by omega)
  have hb:Ot (loW o) (hiW o) (v:Int)=(decide (v≠0)&&o v):=by
   unfold Ot
   rw [if_pos (by omega),decide_eq_true h0,Bool.true_and,←Q8y o (v:=v) (by omega) hv]
   congr 1;omega
  rw [hb] at h
  exact h
def Q0c (q:Pa):Prop:=∀ v,13≤v→q.vs v=false
theorem farP_sum {p q:Pa} (hp:Q0c p) (hq:Q0c q):Q0c (Yy p q):=fun v hv=>by
 show (p.vs v != q.vs v)=false
 rw [hp v hv,hq v hv];rfl
theorem Q6y {q:Pa} (h:Q0c q):Vi q.vs=J9 q:=by
 unfold Vi J9 Jt
 have e:List.range' 1 128=List.range' 1 12++List.range' 13 116:=by decide
 rw [e,List.find?_append,List.getD_eq_getElem?_getD,←List.head?_eq_getElem?,List.head?_filter]
 have e2:List.find? q.vs (List.range' 13 116)=none:=List.find?_eq_none.2 fun v hv=>by
  simp only [List.mem_range'_1] at hv
  rw [h v hv.1];simp
 rw [e2]
 cases List.find? q.vs (List.range' 1 12)<;>rfl
theorem first_le {q:Pa} (h:Q0c q):J9 q≤12:=by
 rw [←Q6y h]
 unfold Vi
 cases hm:Jt q.vs with
 | nil=>simp
 | cons a b =>
  have:a∈Jt q.vs:=by rw [hm];simp
  have:=(List.mem_filter.1 this).1
  simp only [List.mem_range'_1] at this
  simp;omega
def Zt (p q:Pa):Pa:=if J9 p≠0∧q.vs (J9 p)=true then Yy p q else q
theorem Q7w {p q:Pa} (hp:Q0c p) (hq:Q0c q):Q0c (Zt p q):=by
 unfold Zt
 split
 ·exact farP_sum hp hq
 ·exact hq
/-! ### Rows of three cells -/
def Row3 (xs:Array Value) (n:Nat) (f:Nat→Pa):Prop:=n*3≤xs.size∧∀ j,j<n→xs[j*3]?=some (.int .u64 (loW (f j).vs:Nat))∧xs[j*3+1]?=some (.int .u64 (hiW (f j).vs:Nat))∧xs[j*3+2]?=some (.bool (f j).odd)
def Q25 (xs:Array Value) (k:Nat) (q:Pa):Array Value:=((xs.setIfInBounds (k*3) (.int .u64 (loW q.vs:Nat))).setIfInBounds (k*3+1) (.int .u64 (hiW q.vs:Nat))).setIfInBounds (k*3+2) (.bool q.odd)
theorem put3_size (xs:Array Value) (k:Nat) (q:Pa):(Q25 xs k q).size=xs.size:=by simp [Q25]
theorem Row3.put {xs:Array Value} {n:Nat} {f:Nat→Pa} (h:Row3 xs n f) {k:Nat} (hk:k<n) (q:Pa):Row3 (Q25 xs k q) n (fun j=>if j=k then q else f j):=by
 obtain ⟨h1,h2⟩:=h
 refine ⟨by rw [put3_size];exact h1,fun j hj=>?_⟩
 unfold Q25
 dsimp only
 by_cases e:j=k
 ·subst e
  rw [if_pos rfl]
  refine ⟨?_,?_,?_⟩
  ·rw [Array.getElem?_setIfInBounds,if_neg (by omega),Array.getElem?_setIfInBounds,if_neg (by omega),Array.getElem?_setIfInBounds,if_pos rfl,if_pos (by omega)]
  ·rw [Array.getElem?_setIfInBounds,if_neg (by omega),Array.getElem?_setIfInBounds,if_pos rfl,if_pos (by simp;omega)]
  ·rw [Array.getElem?_setIfInBounds,if_pos rfl,if_pos (by simp;omega)]
 ·rw [if_neg e]
  have:=h2 j hj
  refine ⟨?_,?_,?_⟩
  ·rw [Array.getElem?_setIfInBounds,if_neg (by omega),Array.getElem?_setIfInBounds,if_neg (by omega),Array.getElem?_setIfInBounds,if_neg (by omega)];exact this.1
  ·rw [Array.getElem?_setIfInBounds,if_neg (by omega),Array.getElem?_setIfInBounds,if_neg (by omega),Array.getElem?_setIfInBounds,if_neg (by omega)];exact this.2.1
  ·rw [Array.getElem?_setIfInBounds,if_neg (by omega),Array.getElem?_setIfInBounds,if_neg (by omega),Array.getElem?_setIfInBounds,if_neg (by omega)];exact this.2.2
theorem Row3.congr {xs:Array Value} {n:Nat} {f g:Nat→Pa} (h:Row3 xs n f) (hfg:∀ j,j<n→f j=g j):Row3 xs n g:=⟨h.1,fun j hj=>by rw [←hfg j hj];exact h.2 j hj⟩
theorem Q4d {w:World} {g k:Nat} {xs:Array Value} {T:TypeId} {q:Pa} (h:w.heap[g]?=some (.cells xs T (0,0))):(((w.setCell ⟨g,k*3,none⟩ (.int .u64 (loW q.vs:Nat))).setCell ⟨g,k*3+1,none⟩ (.int .u64 (hiW q.vs:Nat))).setCell ⟨g,k*3+2,none⟩ (.bool q.odd)).heap[g]?=some (.cells (Q25 xs k q) T (0,0)) :=
 heap_setCell_same _ g _ _ _ _ (heap_setCell_same _ g _ _ _ _ (heap_setCell_same _ g _ _ _ _ h))
theorem row3_of {B:Blocks} {v:Value} {l:List Pa} (h:RowV B 116 3 v l.length (Yd l)) (hpos:0<l.length):∃ g cap xs,v = .slice (some ⟨g,0,none⟩) l.length cap∧B g=some (.cells xs 116 (0,0))∧l.length≤cap∧Row3 xs l.length (fun j=>l.getD j noneP):=by
 generalize hn:l.length=n at *
 generalize hc:Yd l=cs at *
 cases h with
 | nil=>omega
 | @row g n cap xs' cur hr =>
  refine ⟨g,cap,cur,rfl,hr.blk,hr.le,by rw [hr.sz];exact Nat.mul_le_mul hr.le (Nat.le_refl _),fun j hj=>?_⟩
  have hq:l[j]?=some (l.getD j noneP):=by
   rw [List.getD_eq_getElem?_getD,List.getElem?_eq_getElem (by omega)];rfl
  obtain ⟨m1,m2,m3⟩:=Q3z hq
  have key:∀ i u,(Yd l)[i]?=some u→cur[i]?=some u:=fun i u hu=>by
   rw [hc,←hr.tk,List.getElem?_take] at hu
   split at hu
   ·simpa using hu
   ·cases hu
  exact ⟨key _ _ m1,key _ _ m2,key _ _ m3⟩
theorem Row3.tail {w:World} {g n:Nat} {xs:Array Value} {T:TypeId} {f:Nat→Pa} {l:List Pa} (h:Row3 xs n f) (hg:w.heap[g]?=some (.cells xs T (0,0))) (hl:l.length+1=n) (hf:∀ j q,l[j]?=some q→f (j+1)=q):PasAt w.heap.size w (some ⟨g,3,none⟩) l:=fun i q hq=>by
 have hi:=(List.getElem?_eq_some_iff.1 hq).1
 have:=h.2 (i+1) (by omega)
 rw [hf i q hq] at this
 refine ⟨g,3,Q9 hg,rfl,?_,?_,?_⟩
 ·rw [show 3+i*3=(i+1)*3 by omega];exact Q5 hg _ this.1
 ·rw [show 3+i*3+1=(i+1)*3+1 by omega];exact Q5 hg _ this.2.1
 ·rw [show 3+i*3+2=(i+1)*3+2 by omega];exact Q5 hg _ this.2.2
end
/- hash.reduced. -/
section
open Go.RowKit
def lenV:Value→Nat
 | .slice _ n _=>n
 | _=>0
theorem Q3v (f:Nat) (p:Pa) (rs O:List Pa) (h:¬ (J9 p=0∧p.odd=true)):Zl (f+1) (p::rs) O=Zl f (Kk (rs.map (Zt p))) (if J9 p=0 then O else O++[p]):=by
 rw [Zl,if_neg h]
 rfl
theorem redI_bad (f:Nat) (p:Pa) (rs O:List Pa) (h:J9 p=0∧p.odd=true):Zl (f+1) (p::rs) O=none:=by rw [Zl,if_pos h]
theorem redI_nil (f:Nat) (O:List Pa):Zl f [] O=some O:=by cases f<;>rfl
set_option maxHeartbeats 1600000 in
set_option maxRecDepth 100000 in
theorem gReduced (l:List Pa) (hpos:0<l.length) (hl:l.length≤16) (hfar:∀ q∈l,Q0c q) (gl c:Nat) {N:Nat} (w:World) (hA:PasAt w.heap.size w (some ⟨gl,0,none⟩) l) (hT:TzTab N w) (hN:N≤w.heap.size) :
  Calls Tryz.prog 62 #[.slice (some ⟨gl,0,none⟩) l.length c] w fun e w'=>(∀ o,Zl l.length l []=some o→∃ v,e = .returned (.tuple #[v,.bool true])∧RowV (inW w') 116 3 v o.length (Yd o)∧∀ g∈Q7 v,w.heap.size≤g)∧(Zl l.length l []=none→e = .returned (.tuple #[.slice none 0 0,.bool false]))∧Below w.heap.size w w':=by
 obtain ⟨Post,hPost⟩:∃ P:Ending→World→Prop,P=fun e w'=>(∀ o,Zl l.length l []=some o→∃ v,e = .returned (.tuple #[v,.bool true])∧RowV (inW w') 116 3 v o.length (Yd o)∧∀ g∈Q7 v,w.heap.size≤g)∧(Zl l.length l []=none→e = .returned (.tuple #[.slice none 0 0,.bool false]))∧Below w.heap.size w w':=⟨_,rfl⟩
 rw [←hPost]
 have HPS:=Lib.hid (show ∀ o v w',Zl l.length l []=some o→RowV (inW w') 116 3 v o.length (Yd o)→(∀ g∈Q7 v,w.heap.size≤g)→Below w.heap.size w w'→Post (.returned (.tuple #[v,.bool true])) w' from fun o v w' h1 h2 h3 h4=>by
  rw [hPost]
  exact ⟨fun o' ho'=>(by rw [h1] at ho';cases ho';exact ⟨v,rfl,h2,h3⟩),fun h=>(by rw [h1] at h;cases h),h4⟩)
 have HPN:=Lib.hid (show ∀ w',Zl l.length l []=none→Below w.heap.size w w'→Post (.returned (.tuple #[.slice none 0 0,.bool false])) w' from fun w' h1 h4=>by
  rw [hPost]
  exact ⟨fun o' ho'=>(by rw [h1] at ho';cases ho'),fun _=>rfl,h4⟩)
 have KC:=gCloneP l hpos (by omega) gl c w hA
 obtain ⟨RED,hRED⟩:∃ RED,RED=Zl l.length l []:=⟨_,rfl⟩
 rw [←hRED] at HPS HPN
 have HRED:=Lib.hid hRED
 have HFAR:=Lib.hid hfar
 have HT:=Lib.hid hT
 obtain ⟨i0,ii,iz0,iz1,iz2⟩:=info_parts Tryz.infoParX
 have II:=Lib.hid ii
 have IZ0:=Lib.hid iz0
 have IZ1:=Lib.hid iz1
 have IZ2:=Lib.hid iz2
 obtain ⟨m,hm⟩:∃ m,m=l.length:=⟨_,rfl⟩
 have HM:=Lib.hid hm
 rw [←hm] at hpos hl ⊢
 rw [←hm] at KC
 clear hPost hA hRED hfar hT ii iz0 iz1 iz2 hm
 go_enter Tryz.func62,Tryz.ntmps62
 go_wp2_with fail
 refine KC.mono ?_
 rintro e w1 ⟨v1,rfl,hr1,hf1,hb1⟩
 have R1:=Lib.hid hr1
 have F1:=Lib.hid hf1
 have HL1:=Lib.hid hb1
 clear hr1 hf1 hb1 KC
 go_wp2_with fail
 go_loopw [4,5] (fun t4 t5 wr=>∃ (O R:List Pa) (f:Nat) (vO vR:Value),vO=t4∧vR=t5∧R.length≤f∧O.length+f≤16∧Hid (Zl f R O=RED)∧Hid (∀ q∈R,Q0c q)∧Hid (RowV (inW wr) 116 3 vO O.length (Yd O))∧Hid (RowV (inW wr) 116 3 vR R.length (Yd R))∧Hid (∀ g∈Q7 vO,w.heap.size≤g)∧Hid (∀ g∈Q7 vR,w.heap.size≤g∧g∉Q7 vO)∧Hid (Below w.heap.size w wr)) (fun _ t _=>lenV t)
 case atStart=>exact ⟨[],l,m,_,_,rfl,rfl,by rw [HM.out];exact Nat.le_refl _,by simp;omega,by rw [HM.out];exact HRED.out.symm,HFAR.out,.nil,by rw [←HM.out];exact R1.out,fun g hg=>by simp [Q7] at hg,fun g hg=>⟨F1.out g hg,by simp [Q7]⟩,HL1.out⟩
 case round =>
  obtain ⟨O,R,f,vO,vR,rfl,rfl,hRf,hOf,HRE,HFR,HRO,HRR,HFO,HFV,HW⟩:=hrel
  obtain ⟨w2,hw2⟩:∃ w2,w2=wr:=⟨_,rfl⟩
  rw [←hw2] at HRO HRR HW ⊢
  clear hw2 R1 F1 HL1
  cases R with
  | nil =>
   obtain ⟨pR,cR,hvR⟩:∃ p c,vR = .slice p 0 c:=HRR.out.slice
   subst hvR
   have HE:=Lib.hid (HPS.out O vO w2 (by rw [←HRE.out,redI_nil]) HRO.out HFO.out HW.out)
   go_wp2_with fail
   exact HE.out
  | cons p rs =>
   have hn1:0<(p::rs).length:=by simp
   obtain ⟨g,cap,xs,hvR,hxs,hcap,hrow⟩:=row3_of HRR.out hn1
   subst hvR
   obtain ⟨n,hn⟩:∃ n,n=(p::rs).length:=⟨_,rfl⟩
   rw [←hn] at hn1 hcap hrow hRf ⊢
   have HNN:=Lib.hid hn
   obtain ⟨hgw,hgO⟩:=HFV.out g (by simp [Q7])
   obtain ⟨f',rfl⟩:∃ f',f=f'+1:=⟨f-1,by omega⟩
   have HXS:=Lib.hid (show w2.heap[g]?=some (.cells xs 116 (0,0)) from hxs)
   have HRW:=Lib.hid hrow
   have hfp:=HFR.out p (by simp)
   have hr0:=hrow.2 0 (by omega)
   have C0:=Lib.hid (show w2.cell? ⟨g,0,none⟩=some (.int .u64 (loW p.vs:Nat)) from Q5 HXS.out 0 hr0.1)
   have C1:=Lib.hid (show w2.cell? ⟨g,1,none⟩=some (.int .u64 (hiW p.vs:Nat)) from Q5 HXS.out 1 hr0.2.1)
   have C2:=Lib.hid (show w2.cell? ⟨g,2,none⟩=some (.bool p.odd) from Q5 HXS.out 2 hr0.2.2)
   have hv12:=first_le hfp
   have HFP:=Lib.hid hfp
   clear hn hxs hrow hr0 HFV HRR hfp
   have hn1':decide (0<n)=true:=decide_eq_true hn1
   have hn2':decide ((0:Int)<(n:Int))=true:=decide_eq_true (by omega)
   go_upto_region 4 with fail
   refine wp_region_lit (J6 [0,0,0,3,2] [] B0 (Qi _) ?_)
   refine Qb 3 (by kernel_rfl) (by rfl) ?_
   apply Exists.intro
   refine ⟨fun z hz=>?_,?_⟩
   ·have f0:=Q6 hz C0.out (by simp)
    have f1:=Q6 hz C1.out (by simp)
    have f2:=Q6 hz C2.out (by simp)
    clear hz
    simp only [List.take_succ_cons,List.take_zero]
    unfold Cx
    repeat (go_big_quiet_step (fail))
    exact wpQuiet_nil rfl
   simp only [List.drop_succ_cons,List.drop_zero]
   refine Jm (.agg #[.int .u64 0,.int .u64 0,.bool false]) (by rfl) (fun x=>by kernel_rfl) (fun g6 q6 hn6=>?_)
   unfold Qk
   go_big_quiet_step (fail)
   refine wpQuiet_nil ?_
   refine Qh g6 #[.int .u64 (loW p.vs:Nat),.int .u64 (hiW p.vs:Nat),.bool p.odd] #[.int .u64 0,.int .u64 0,.bool false] 116 (by rfl) (by rfl) (by rfl) (Blocks.put_same _ _ _) rfl (.inr q6) (by kernel_rfl) (by simp [Value.oneCell']) ?_
   refine Qf ?_
   intro w5 hx5 hH
   have N5:=Lib.hid (hH g6 _ (Blocks.put_same _ _ _))
   have hb5:Below w2.heap.size w2 w5:=hx5.below_of (by simp) (Nat.le_refl _)
   have HW5:=Lib.hid (HW.out.trans (hb5.mono HW.out.size))
   have HRO5:=Lib.hid (HRO.out.keep (Q4 hb5) (by simp))
   have HXS5:=Lib.hid ((Q4 hb5).keep HXS.out (by simp))
   have hg6:g<g6:=Nat.lt_of_lt_of_le (Q9 HXS.out) q6
   have hg6O:g6∉Q7 vO:=fun h=>by have:=HRO.out.lt g6 h;omega
   clear hx5 hH hb5 hn6 HRO HXS HW C0 C1 C2
   have KF:=gFirst p.vs HFP.out w5 (HT.out.on (HW5.out.mono hN) (Nat.le_refl _)) (Nat.le_trans hN HW5.out.size)
   rw [Q6y HFP.out] at KF
   unfold Qt Jz at KF
   have y0:=Q5 N5.out 0 rfl
   have y1:=Q5 N5.out 1 rfl
   obtain ⟨v,hv⟩:∃ v,v=J9 p:=⟨_,rfl⟩
   rw [←hv] at KF hv12
   have HV:=Lib.hid hv
   clear hv
   go_wp2_with fail
   refine KF.mono ?_
   rintro e w6 ⟨rfl,hb6⟩
   have N6:=Lib.hid ((Q4 hb6).keep N5.out (by simp))
   have HW6:=Lib.hid (HW5.out.trans (hb6.mono HW5.out.size))
   have HRO6:=Lib.hid (HRO5.out.keep (Q4 hb6) (by simp))
   have HXS6:=Lib.hid ((Q4 hb6).keep HXS5.out (by simp))
   clear hb6 KF y0 y1 N5 HW5 HRO5 HXS5
   have y0:=Q5 N6.out 0 rfl
   have y1:=Q5 N6.out 1 rfl
   have y2:=Q5 N6.out 2 rfl
   have hcase:(v=0∧p.odd=true)∨(v=0∧p.odd=false)∨0<v:=by
    rcases Nat.eq_zero_or_pos v with h | h
    ·cases p.odd
     ·exact .inr (.inl ⟨h,rfl⟩)
     ·exact .inl ⟨h,rfl⟩
    ·exact .inr (.inr h)
   rcases hcase with ⟨hv0,ho⟩ | hcase
   case inl =>
    rw [ho] at y2
    have HE:=Lib.hid (HPN.out w6 (by rw [←HRE.out,redI_bad _ _ _ _ ⟨by rw [←HV.out];exact hv0,ho⟩]) HW6.out)
    clear ho
    subst hv0
    go_wp2_with fail
    exact HE.out
   case inr =>
    have hgn:g∉Q7 vO:=hgO
    have HGR:=Lib.hid hcase
    have hrlen:=HNN.out
    simp only [List.length_cons] at hrlen
    have HRL:=Lib.hid hrlen
    clear hrlen hgO
    rcases hcase with ⟨hv0,ho⟩ | hvp
    case inl =>
     have e0:((v:Int) == 0)=true:=by rw [hv0];rfl
     have hvd:decide (0<v)=false:=decide_eq_false (by omega)
     have hvd2:decide ((0:Int)<(v:Int))=false:=decide_eq_false (by omega)
     rw [ho] at y2
     have HO9:=Lib.hid (show O=if J9 p=0 then O else O++[p] by rw [if_pos (by rw [←HV.out];exact hv0)])
     have HBAD:=Lib.hid (show ¬ (J9 p=0∧p.odd=true) from fun h=>by rw [ho] at h;cases h.2)
     clear ho hv0
     go_upto_region 10 with fail
     obtain ⟨v9,hv9⟩:∃ v9,v9=vO:=⟨_,rfl⟩
     have HR9:=Lib.hid HRO6.out
     have HF9:=Lib.hid HFO.out
     have HW9:=Lib.hid HW6.out
     have hgn9:g∉Q7 vO:=hgn
     have HXS9:=Lib.hid HXS6.out
     have N9:=Lib.hid N6.out
     rw [←hv9] at HR9 HF9 hgn9 ⊢
     obtain ⟨O9,hO9⟩:∃ O9,O9=O:=⟨_,rfl⟩
     have HO9E:=Lib.hid (hO9.trans HO9.out)
     rw [←hO9] at HR9
     have hO9l:O9.length≤O.length+1:=by rw [hO9];omega
     obtain ⟨w9,hw9⟩:∃ w9,w9=w6:=⟨_,rfl⟩
     rw [←hw9] at HR9 HW9 HXS9 N9 ⊢
     have y2x:=y2
     clear y0 y1 y2 HRO6 HW6 N6 HXS6 HO9 hO9 hv9 hw9 e0 hvd hvd2
     clear y2x
     have HO9L:=Lib.hid (show O9.length+f'≤16 by omega)
     go_wp2_with fail
     go_loopw [35] (fun t35 wv=>∃ (i:Nat) (ys:Array Value),t35 = .int .i64 i∧i≤n∧Hid (wv.heap[g]?=some (.cells ys 116 (0,0))∧Row3 ys n (fun j=>if 0<j∧j<i then Zt p ((p::rs).getD j noneP) else (p::rs).getD j noneP))∧Hid (Behind w9 [g] wv)) (fun t _=>n-(intOf t).toNat)
     case atStart=>exact ⟨0,xs,rfl,Nat.zero_le _,⟨HXS9.out,HRW.out.congr fun j hj=>by rw [if_neg (by omega)]⟩,Behind.refl _ _⟩
     case round =>
      obtain ⟨i,ys,rfl,hin,HY,HWi⟩:=hrel
      obtain ⟨w10,hw10⟩:∃ w10,w10=wr:=⟨_,rfl⟩
      rw [←hw10] at HY HWi ⊢
      clear hw10
      by_cases hlt:i<n
      ·have hd:decide (i<n)=true:=decide_eq_true hlt
       have hd2:decide ((i:Int)<(n:Int))=true:=decide_eq_true (by omega)
       obtain ⟨q,hq⟩:∃ q,(p::rs)[i]?=some q:=⟨_,List.getElem?_eq_getElem (by rw [←HNN.out];exact hlt)⟩
       have hqd:(p::rs).getD i noneP=q:=by rw [List.getD_eq_getElem?_getD,hq];rfl
       have hr:=HY.out.2.2 i hlt
       dsimp only at hr
       rw [if_neg (by omega),hqd] at hr
       have C0:=Lib.hid (Q5 HY.out.1 _ hr.1)
       have C1:=Lib.hid (Q5 HY.out.1 _ hr.2.1)
       have C2:=Lib.hid (Q5 HY.out.1 _ hr.2.2)
       have HQD:=Lib.hid hqd
       have KH:=gHasO q.vs v (by omega)
       have KSU:=gSumP p q
       have HMOD:=Lib.hid (show Zt p q=if (decide (v≠0)&&q.vs v)=true then Yy p q else q by
        unfold Zt
        rw [←HV.out]
        by_cases h0:v=0<;>by_cases h1:q.vs v=true<;>simp [h0,h1])
       unfold Qt Jz at KH
       unfold Uz at KSU
       have HN10:=Lib.hid (HWi.out.keep N9.out (by simp;omega))
       clear hq hqd hr
       go_upto_region 12 with fail
       refine wp_region_lit (J6 [0,0,0,3,0,2] [] B0 (Qi _) ?_)
       refine Qb 3 (by kernel_rfl) (by rfl) ?_
       apply Exists.intro
       refine ⟨fun z hz=>?_,?_⟩
       ·have f0:=Q6 hz C0.out (by simp)
        have f1:=Q6 hz C1.out (by simp)
        have f2:=Q6 hz C2.out (by simp)
        clear hz
        simp only [List.take_succ_cons,List.take_zero]
        unfold Cx
        repeat (go_big_quiet_step (fail))
        exact wpQuiet_nil rfl
       simp only [List.drop_succ_cons,List.drop_zero]
       refine Jm (.agg #[.int .u64 0,.int .u64 0,.bool false]) (by rfl) (fun x=>by kernel_rfl) (fun g9 q9 hn9=>?_)
       unfold Qk
       go_big_quiet_step (fail)
       refine wpQuiet_nil ?_
       refine Qb 1 (by kernel_rfl) (by rfl) ?_
       apply Exists.intro
       refine ⟨fun z hz=>?_,?_⟩
       ·clear hz
        simp only [List.take_succ_cons,List.take_zero]
        unfold Cx
        repeat (go_big_quiet_step (fail))
        exact wpQuiet_nil rfl
       simp only [List.drop_succ_cons,List.drop_zero]
       refine Qh g9 #[.int .u64 (loW q.vs:Nat),.int .u64 (hiW q.vs:Nat),.bool q.odd] #[.int .u64 0,.int .u64 0,.bool false] 116 (by rfl) (by rfl) (by rfl) (Blocks.put_same _ _ _) rfl (.inr q9) (by kernel_rfl) (by simp [Value.oneCell']) ?_
       refine Qf ?_
       intro w11 hx11 hH
       have M11:=Lib.hid (hH g9 _ (Blocks.put_same _ _ _))
       have hb11:Behind w10 [g] w11:=hx11.mono (by simp)
       have HW11:=Lib.hid (HWi.out.trans hb11 (fun b hb=>.inl hb))
       have HY11:=Lib.hid (show w11.heap[g]?=some (.cells ys 116 (0,0)) from hx11.keep HY.out.1 (by simp))
       have HYR:=Lib.hid HY.out.2
       have N11:=Lib.hid (hx11.keep HN10.out (by simp))
       have hg9:g<g9:=by have:=Q9 HY.out.1;omega
       clear hx11 hH hb11 hn9 HY HWi HN10 C0 C1 C2
       have m0:=Q5 M11.out 0 rfl
       have m1:=Q5 M11.out 1 rfl
       by_cases hi0:0<i
       case neg =>
        have hdi:decide (0<i)=false:=decide_eq_false hi0
        have hdi2:decide ((0:Int)<(i:Int))=false:=decide_eq_false (by omega)
        have HYN:=Lib.hid (show Row3 ys n (fun j=>if 0<j∧j<i+1 then Zt p ((p::rs).getD j noneP) else (p::rs).getD j noneP) from HYR.out.congr fun j hj=>by rw [if_neg (by omega),if_neg (by omega)])
        clear KH KSU
        go_wp2_with fail
        go_roundw
        case rel=>exact ⟨i+1,ys,by go_num,by omega,⟨HY11.out,HYN.out⟩,HW11.out⟩
        case measure=>simp [intOf];omega
       case pos =>
        have hdi:decide (0<i)=true:=decide_eq_true hi0
        have hdi2:decide ((0:Int)<(i:Int))=true:=decide_eq_true (by omega)
        generalize (decide (v≠0)&&q.vs v)=b at *
        go_wp2_with fail
        refine (KH _).mono ?_
        rintro e w12 ⟨rfl,hb12⟩
        have M12:=Lib.hid ((Q4 hb12).keep M11.out (by simp))
        have N12:=Lib.hid ((Q4 hb12).keep N11.out (by simp))
        have HY12:=Lib.hid ((Q4 hb12).keep HY11.out (by simp))
        have HW12:=Lib.hid (HW11.out.trans ((Q4 hb12).mono (by simp)) (fun b hb=>.inl hb))
        clear hb12 KH m0 m1 M11 N11 HY11 HW11
        cases b
        case false =>
         have HYN:=Lib.hid (show Row3 ys n (fun j=>if 0<j∧j<i+1 then Zt p ((p::rs).getD j noneP) else (p::rs).getD j noneP) from HYR.out.congr fun j hj=>by
          by_cases e:j=i
          ·rw [if_neg (by omega),if_pos (by omega),e,HQD.out,HMOD.out,if_neg (by simp)]
          ·by_cases e2:0<j∧j<i
           ·rw [if_pos e2,if_pos (by omega)]
           ·rw [if_neg e2,if_neg (by omega)])
         clear KSU
         go_wp2_with fail
         go_roundw
         case rel=>exact ⟨i+1,ys,by go_num,by omega,⟨HY12.out,HYN.out⟩,HW12.out⟩
         case measure=>simp [intOf];omega
        case true =>
         have m0:=Q5 M12.out 0 rfl
         have m1:=Q5 M12.out 1 rfl
         have m2:=Q5 M12.out 2 rfl
         have n0:=Q5 N12.out 0 rfl
         have n1:=Q5 N12.out 1 rfl
         have n2:=Q5 N12.out 2 rfl
         have HMT:=Lib.hid (show Zt p q=Yy p q by rw [HMOD.out,if_pos rfl])
         obtain ⟨s,hs⟩:∃ s,s=Yy p q:=⟨_,rfl⟩
         rw [←hs] at KSU HMT
         clear hs HMOD
         go_wp2_with fail
         refine (KSU _).mono ?_
         rintro e w13 ⟨rfl,hb13⟩
         have N13:=Lib.hid ((Q4 hb13).keep N12.out (by simp))
         have HY13:=Lib.hid ((Q4 hb13).keep HY12.out (by simp))
         have HW13:=Lib.hid (HW12.out.trans ((Q4 hb13).mono (by simp)) (fun b hb=>.inl hb))
         clear hb13 KSU m0 m1 m2 n0 n1 n2 M12 N12 HY12 HW12
         have hr:=HYR.out.2 i hlt
         have e0:=Q5 HY13.out _ hr.1
         have e1:=Q5 HY13.out _ hr.2.1
         have e2:=Q5 HY13.out _ hr.2.2
         have f0:=Qd HY13.out (i*3)
         have f1:=Qd HY13.out (i*3+1)
         have f2:=Qd HY13.out (i*3+2)
         clear hr
         go_upto_region 15 with fail
         refine Qg ?_
         intro w14 hw14
         have HY14:=Lib.hid (show w14.heap[g]?=some (.cells (Q25 ys i s) 116 (0,0)) by rw [hw14];exact Q4d HY13.out)
         have HB14:Behind w13 [g] w14:=by rw [hw14];exact ((behindSet.trans behindSet (fun _ hk=>.inl hk)).trans behindSet (fun _ hk=>.inl hk))
         have HW14:=Lib.hid (HW13.out.trans HB14 (fun b hb=>.inl hb))
         clear hw14 HB14 e0 e1 e2 f0 f1 f2 HY13 HW13
         have HYN:=Lib.hid (show Row3 (Q25 ys i s) n (fun j=>if 0<j∧j<i+1 then Zt p ((p::rs).getD j noneP) else (p::rs).getD j noneP) from (HYR.out.put hlt s).congr fun j hj=>by
          by_cases e:j=i
          ·rw [if_pos e,if_pos (by omega),e,HQD.out,HMT.out]
          ·rw [if_neg e]
           by_cases e2:0<j∧j<i
           ·rw [if_pos e2,if_pos (by omega)]
           ·rw [if_neg e2,if_neg (by omega)])
         go_wp2_with fail
         go_roundw
         case rel=>exact ⟨i+1,Q25 ys i s,by go_num,by omega,⟨HY14.out,HYN.out⟩,HW14.out⟩
         case measure=>simp [intOf];omega
      ·obtain rfl:i=n:=by omega
       have hd:decide (i<i)=false:=decide_eq_false (by omega)
       have hd2:decide ((i:Int)<(i:Int))=false:=decide_eq_false (by omega)
       have hrl:=HRL.out
       have HKL:=Lib.hid (show (Kk (rs.map (Zt p))).length≤rs.length from Nat.le_trans (List.length_filter_le _ _) (by rw [List.length_map];exact Nat.le_refl _))
       have HPA:=Lib.hid (show PasAt w10.heap.size w10 (some ⟨g,3,none⟩) (rs.map (Zt p)) from HY.out.2.tail HY.out.1 (by rw [List.length_map];omega) fun j q hq=>by
        rw [List.getElem?_map] at hq
        cases h0:rs[j]? with
        | none=>rw [h0] at hq;cases hq
        | some q0 =>
         rw [h0] at hq
         have hj:=(List.getElem?_eq_some_iff.1 h0).1
         rw [if_pos (by omega),List.getD_eq_getElem?_getD,List.getElem?_cons_succ,h0]
         simpa using hq)
       have KFI:=Lib.hid (fun (pp:Option Addr) (cc:Nat) (h:rs.length=0∨pp=some ⟨g,3,none⟩)=>Q6j (rs.map (Zt p)) (by rw [List.length_map];omega) pp cc w10 (by
        rcases h with h | h
        ·rw [List.length_eq_zero_iff.1 h]
         exact fun i q hq=>by simp at hq
        ·rw [h];exact HPA.out))
       rw [List.length_map] at KFI
       have HRE2:=Lib.hid (show Zl f' (Kk (rs.map (Zt p))) O9=RED by rw [HO9E.out,←Q3v _ _ _ _ HBAD.out];exact HRE.out)
       have HFAR2:=Lib.hid (show ∀ q∈Kk (rs.map (Zt p)),Q0c q from fun q hq=>by
        obtain ⟨q0,h1,h2⟩:=List.mem_map.1 (List.mem_filter.1 hq).1
        rw [←h2]
        exact Q7w HFP.out (HFR.out q0 (by simp [h1])))
       have HR10:=Lib.hid (HR9.out.keep HWi.out (fun k hk hm=>by simp at hm;rw [hm] at hk;exact hgn9 hk))
       have HW10:=Lib.hid (HW9.out.trans (HWi.out.below_of (b:=w.heap.size) (fun k hk=>by simp at hk;omega) HW9.out.size))
       clear HY HWi HR9 HW9 HPA HXS9 N9
       go_wp2_with fail
       all_goals
        refine (KFI.out _ _ (by first | exact .inr rfl | exact .inl (by omega))).mono ?_
        rintro e w15 ⟨v15,rfl,hr15,hf15,hb15⟩
        obtain ⟨p15,c15,hv15⟩:=hr15.slice
        subst hv15
        have HR15:=Lib.hid hr15
        have HO15:=Lib.hid (HR10.out.keep (Q4 hb15) (by simp))
        have HD15:=Lib.hid (show ∀ k∈Q7 (Value.slice p15 (Kk (rs.map (Zt p))).length c15),w.heap.size≤k∧k∉Q7 v9 from fun k hk=>by
         have h1:=hf15 k hk
         have h2:=HW10.out.size
         exact ⟨by omega,fun hm=>by have:=HR10.out.lt k hm;omega⟩)
        have HW15:=Lib.hid (HW10.out.trans (hb15.mono HW10.out.size))
        generalize hK:Kk (rs.map (Zt p))=K at *
        have hkl:=HKL.out
        clear hr15 hf15 hb15 hK
        go_wp2_with fail
        go_roundw
        case rel=>exact ⟨O9,K,f',v9,_,rfl,rfl,by omega,HO9L.out,HRE2.out,HFAR2.out,HO15.out,HR15.out,HF9.out,HD15.out,HW15.out⟩
        case measure=>simp [lenV];omega
    case inr =>
     have hv0:((v:Int) == 0)=false:=J7 (by omega)
     have hvd:decide (0<v)=true:=decide_eq_true hvp
     have hvd2:decide ((0:Int)<(v:Int))=true:=decide_eq_true (by omega)
     have HO9:=Lib.hid (show O++[p]=if J9 p=0 then O else O++[p] by rw [if_neg (by rw [←HV.out];omega)])
     have HBAD:=Lib.hid (show ¬ (J9 p=0∧p.odd=true) from fun h=>by have:=HV.out;omega)
     go_wp2_with (at_builtin;refine Jp _ rfl _ _ 74 rfl 116 i0 (.agg #[.int .u64 0,.int .u64 0,.bool false]) 3 24 Tryz.underlying74 II.out IZ0.out IZ1.out IZ2.out rfl _ _ _ rfl (HRO6.out.keep (Q4 ((Below.refl _ _).alloc (Nat.le_refl _) _)) (by simp)) w6.heap.size 1 1 [.int .u64 (loW p.vs:Nat),.int .u64 (hiW p.vs:Nat),.bool p.odd] 116 rfl (heap_alloc_new w6 _) rfl (by intro u hu;simp at hu;rcases hu with rfl | rfl | rfl<;>rfl) (by omega) (by unfold maxLen;omega) (by omega) ?_)
     intro v9 w9 hr9 hB9 hn9
     have h09:Behind w6 (Q7 vO) w9:=((Q4 ((Below.refl _ _).alloc (Nat.le_refl _) _)).mono (by simp)).trans hB9 (fun k hk=>.inl hk)
     have hn9':∀ g∈Q7 v9,g∈Q7 vO∨w6.heap.size≤g:=fun g hg=>(hn9 g hg).imp id (fun h=>by omega)
     have HR9:=Lib.hid (show RowV (inW w9) 116 3 v9 (O++[p]).length (Yd (O++[p])) by
      rw [Q4l,List.length_append];exact hr9)
     have HF9:=Lib.hid (show ∀ g∈Q7 v9,w.heap.size≤g from fun g hg=>(hn9' g hg).elim (HFO.out g) (fun h=>by have:=HW6.out.size;omega))
     have HW9:=Lib.hid (HW6.out.trans (h09.below_of (b:=w.heap.size) (fun k hk=>HFO.out k hk) HW6.out.size))
     have hgn9:g∉Q7 v9:=fun h=>by
      rcases hn9' g h with h | h
      ·exact hgn h
      ·have:=Q9 HXS6.out;omega
     have HXS9:=Lib.hid (h09.keep HXS6.out hgn)
     have N9:=Lib.hid (h09.keep N6.out hg6O)
     clear h09 hn9' hr9 hB9 hn9 HRO6 HW6 N6 HXS6 y0 y1 y2
     go_upto_region 10 with fail
     obtain ⟨O9,hO9⟩:∃ O9,O9=O++[p]:=⟨_,rfl⟩
     have HO9E:=Lib.hid (hO9.trans HO9.out)
     rw [←hO9] at HR9
     have hO9l:O9.length≤O.length+1:=by rw [hO9];simp
     have y2x:=hn1
     clear HO9 hO9 hv0 hvd hvd2 hvp
     clear y2x
     have HO9L:=Lib.hid (show O9.length+f'≤16 by omega)
     go_wp2_with fail
     go_loopw [35] (fun t35 wv=>∃ (i:Nat) (ys:Array Value),t35 = .int .i64 i∧i≤n∧Hid (wv.heap[g]?=some (.cells ys 116 (0,0))∧Row3 ys n (fun j=>if 0<j∧j<i then Zt p ((p::rs).getD j noneP) else (p::rs).getD j noneP))∧Hid (Behind w9 [g] wv)) (fun t _=>n-(intOf t).toNat)
     case atStart=>exact ⟨0,xs,rfl,Nat.zero_le _,⟨HXS9.out,HRW.out.congr fun j hj=>by rw [if_neg (by omega)]⟩,Behind.refl _ _⟩
     case round =>
      obtain ⟨i,ys,rfl,hin,HY,HWi⟩:=hrel
      obtain ⟨w10,hw10⟩:∃ w10,w10=wr:=⟨_,rfl⟩
      rw [←hw10] at HY HWi ⊢
      clear hw10
      by_cases hlt:i<n
      ·have hd:decide (i<n)=true:=decide_eq_true hlt
       have hd2:decide ((i:Int)<(n:Int))=true:=decide_eq_true (by omega)
       obtain ⟨q,hq⟩:∃ q,(p::rs)[i]?=some q:=⟨_,List.getElem?_eq_getElem (by rw [←HNN.out];exact hlt)⟩
       have hqd:(p::rs).getD i noneP=q:=by rw [List.getD_eq_getElem?_getD,hq];rfl
       have hr:=HY.out.2.2 i hlt
       dsimp only at hr
       rw [if_neg (by omega),hqd] at hr
       have C0:=Lib.hid (Q5 HY.out.1 _ hr.1)
       have C1:=Lib.hid (Q5 HY.out.1 _ hr.2.1)
       have C2:=Lib.hid (Q5 HY.out.1 _ hr.2.2)
       have HQD:=Lib.hid hqd
       have KH:=gHasO q.vs v (by omega)
       have KSU:=gSumP p q
       have HMOD:=Lib.hid (show Zt p q=if (decide (v≠0)&&q.vs v)=true then Yy p q else q by
        unfold Zt
        rw [←HV.out]
        by_cases h0:v=0<;>by_cases h1:q.vs v=true<;>simp [h0,h1])
       unfold Qt Jz at KH
       unfold Uz at KSU
       have HN10:=Lib.hid (HWi.out.keep N9.out (by simp;omega))
       clear hq hqd hr
       go_upto_region 12 with fail
       refine wp_region_lit (J6 [0,0,0,3,0,2] [] B0 (Qi _) ?_)
       refine Qb 3 (by kernel_rfl) (by rfl) ?_
       apply Exists.intro
       refine ⟨fun z hz=>?_,?_⟩
       ·have f0:=Q6 hz C0.out (by simp)
        have f1:=Q6 hz C1.out (by simp)
        have f2:=Q6 hz C2.out (by simp)
        clear hz
        simp only [List.take_succ_cons,List.take_zero]
        unfold Cx
        repeat (go_big_quiet_step (fail))
        exact wpQuiet_nil rfl
       simp only [List.drop_succ_cons,List.drop_zero]
       refine Jm (.agg #[.int .u64 0,.int .u64 0,.bool false]) (by rfl) (fun x=>by kernel_rfl) (fun g9 q9 hn9=>?_)
       unfold Qk
       go_big_quiet_step (fail)
       refine wpQuiet_nil ?_
       refine Qb 1 (by kernel_rfl) (by rfl) ?_
       apply Exists.intro
       refine ⟨fun z hz=>?_,?_⟩
       ·clear hz
        simp only [List.take_succ_cons,List.take_zero]
        unfold Cx
        repeat (go_big_quiet_step (fail))
        exact wpQuiet_nil rfl
       simp only [List.drop_succ_cons,List.drop_zero]
       refine Qh g9 #[.int .u64 (loW q.vs:Nat),.int .u64 (hiW q.vs:Nat),.bool q.odd] #[.int .u64 0,.int .u64 0,.bool false] 116 (by rfl) (by rfl) (by rfl) (Blocks.put_same _ _ _) rfl (.inr q9) (by kernel_rfl) (by simp [Value.oneCell']) ?_
       refine Qf ?_
       intro w11 hx11 hH
       have M11:=Lib.hid (hH g9 _ (Blocks.put_same _ _ _))
       have hb11:Behind w10 [g] w11:=hx11.mono (by simp)
       have HW11:=Lib.hid (HWi.out.trans hb11 (fun b hb=>.inl hb))
       have HY11:=Lib.hid (show w11.heap[g]?=some (.cells ys 116 (0,0)) from hx11.keep HY.out.1 (by simp))
       have HYR:=Lib.hid HY.out.2
       have N11:=Lib.hid (hx11.keep HN10.out (by simp))
       have hg9:g<g9:=by have:=Q9 HY.out.1;omega
       clear hx11 hH hb11 hn9 HY HWi HN10 C0 C1 C2
       have m0:=Q5 M11.out 0 rfl
       have m1:=Q5 M11.out 1 rfl
       by_cases hi0:0<i
       case neg =>
        have hdi:decide (0<i)=false:=decide_eq_false hi0
        have hdi2:decide ((0:Int)<(i:Int))=false:=decide_eq_false (by omega)
        have HYN:=Lib.hid (show Row3 ys n (fun j=>if 0<j∧j<i+1 then Zt p ((p::rs).getD j noneP) else (p::rs).getD j noneP) from HYR.out.congr fun j hj=>by rw [if_neg (by omega),if_neg (by omega)])
        clear KH KSU
        go_wp2_with fail
        go_roundw
        case rel=>exact ⟨i+1,ys,by go_num,by omega,⟨HY11.out,HYN.out⟩,HW11.out⟩
        case measure=>simp [intOf];omega
       case pos =>
        have hdi:decide (0<i)=true:=decide_eq_true hi0
        have hdi2:decide ((0:Int)<(i:Int))=true:=decide_eq_true (by omega)
        generalize (decide (v≠0)&&q.vs v)=b at *
        go_wp2_with fail
        refine (KH _).mono ?_
        rintro e w12 ⟨rfl,hb12⟩
        have M12:=Lib.hid ((Q4 hb12).keep M11.out (by simp))
        have N12:=Lib.hid ((Q4 hb12).keep N11.out (by simp))
        have HY12:=Lib.hid ((Q4 hb12).keep HY11.out (by simp))
        have HW12:=Lib.hid (HW11.out.trans ((Q4 hb12).mono (by simp)) (fun b hb=>.inl hb))
        clear hb12 KH m0 m1 M11 N11 HY11 HW11
        cases b
        case false =>
         have HYN:=Lib.hid (show Row3 ys n (fun j=>if 0<j∧j<i+1 then Zt p ((p::rs).getD j noneP) else (p::rs).getD j noneP) from HYR.out.congr fun j hj=>by
          by_cases e:j=i
          ·rw [if_neg (by omega),if_pos (by omega),e,HQD.out,HMOD.out,if_neg (by simp)]
          ·by_cases e2:0<j∧j<i
           ·rw [if_pos e2,if_pos (by omega)]
           ·rw [if_neg e2,if_neg (by omega)])
         clear KSU
         go_wp2_with fail
         go_roundw
         case rel=>exact ⟨i+1,ys,by go_num,by omega,⟨HY12.out,HYN.out⟩,HW12.out⟩
         case measure=>simp [intOf];omega
        case true =>
         have m0:=Q5 M12.out 0 rfl
         have m1:=Q5 M12.out 1 rfl
         have m2:=Q5 M12.out 2 rfl
         have n0:=Q5 N12.out 0 rfl
         have n1:=Q5 N12.out 1 rfl
         have n2:=Q5 N12.out 2 rfl
         have HMT:=Lib.hid (show Zt p q=Yy p q by rw [HMOD.out,if_pos rfl])
         obtain ⟨s,hs⟩:∃ s,s=Yy p q:=⟨_,rfl⟩
         rw [←hs] at KSU HMT
         clear hs HMOD
         go_wp2_with fail
         refine (KSU _).mono ?_
         rintro e w13 ⟨rfl,hb13⟩
         have N13:=Lib.hid ((Q4 hb13).keep N12.out (by simp))
         have HY13:=Lib.hid ((Q4 hb13).keep HY12.out (by simp))
         have HW13:=Lib.hid (HW12.out.trans ((Q4 hb13).mono (by simp)) (fun b hb=>.inl hb))
         clear hb13 KSU m0 m1 m2 n0 n1 n2 M12 N12 HY12 HW12
         have hr:=HYR.out.2 i hlt
         have e0:=Q5 HY13.out _ hr.1
         have e1:=Q5 HY13.out _ hr.2.1
         have e2:=Q5 HY13.out _ hr.2.2
         have f0:=Qd HY13.out (i*3)
         have f1:=Qd HY13.out (i*3+1)
         have f2:=Qd HY13.out (i*3+2)
         clear hr
         go_upto_region 15 with fail
         refine Qg ?_
         intro w14 hw14
         have HY14:=Lib.hid (show w14.heap[g]?=some (.cells (Q25 ys i s) 116 (0,0)) by rw [hw14];exact Q4d HY13.out)
         have HB14:Behind w13 [g] w14:=by rw [hw14];exact ((behindSet.trans behindSet (fun _ hk=>.inl hk)).trans behindSet (fun _ hk=>.inl hk))
         have HW14:=Lib.hid (HW13.out.trans HB14 (fun b hb=>.inl hb))
         clear hw14 HB14 e0 e1 e2 f0 f1 f2 HY13 HW13
         have HYN:=Lib.hid (show Row3 (Q25 ys i s) n (fun j=>if 0<j∧j<i+1 then Zt p ((p::rs).getD j noneP) else (p::rs).getD j noneP) from (HYR.out.put hlt s).congr fun j hj=>by
          by_cases e:j=i
          ·rw [if_pos e,if_pos (by omega),e,HQD.out,HMT.out]
          ·rw [if_neg e]
           by_cases e2:0<j∧j<i
           ·rw [if_pos e2,if_pos (by omega)]
           ·rw [if_neg e2,if_neg (by omega)])
         go_wp2_with fail
         go_roundw
         case rel=>exact ⟨i+1,Q25 ys i s,by go_num,by omega,⟨HY14.out,HYN.out⟩,HW14.out⟩
         case measure=>simp [intOf];omega
      ·obtain rfl:i=n:=by omega
       have hd:decide (i<i)=false:=decide_eq_false (by omega)
       have hd2:decide ((i:Int)<(i:Int))=false:=decide_eq_false (by omega)
       have hrl:=HRL.out
       have HKL:=Lib.hid (show (Kk (rs.map (Zt p))).length≤rs.length from Nat.le_trans (List.length_filter_le _ _) (by rw [List.length_map];exact Nat.le_refl _))
       have HPA:=Lib.hid (show PasAt w10.heap.size w10 (some ⟨g,3,none⟩) (rs.map (Zt p)) from HY.out.2.tail HY.out.1 (by rw [List.length_map];omega) fun j q hq=>by
        rw [List.getElem?_map] at hq
        cases h0:rs[j]? with
        | none=>rw [h0] at hq;cases hq
        | some q0 =>
         rw [h0] at hq
         have hj:=(List.getElem?_eq_some_iff.1 h0).1
         rw [if_pos (by omega),List.getD_eq_getElem?_getD,List.getElem?_cons_succ,h0]
         simpa using hq)
       have KFI:=Lib.hid (fun (pp:Option Addr) (cc:Nat) (h:rs.length=0∨pp=some ⟨g,3,none⟩)=>Q6j (rs.map (Zt p)) (by rw [List.length_map];omega) pp cc w10 (by
        rcases h with h | h
        ·rw [List.length_eq_zero_iff.1 h]
         exact fun i q hq=>by simp at hq
        ·rw [h];exact HPA.out))
       rw [List.length_map] at KFI
       have HRE2:=Lib.hid (show Zl f' (Kk (rs.map (Zt p))) O9=RED by rw [HO9E.out,←Q3v _ _ _ _ HBAD.out];exact HRE.out)
       have HFAR2:=Lib.hid (show ∀ q∈Kk (rs.map (Zt p)),Q0c q from fun q hq=>by
        obtain ⟨q0,h1,h2⟩:=List.mem_map.1 (List.mem_filter.1 hq).1
        rw [←h2]
        exact Q7w HFP.out (HFR.out q0 (by simp [h1])))
       have HR10:=Lib.hid (HR9.out.keep HWi.out (fun k hk hm=>by simp at hm;rw [hm] at hk;exact hgn9 hk))
       have HW10:=Lib.hid (HW9.out.trans (HWi.out.below_of (b:=w.heap.size) (fun k hk=>by simp at hk;omega) HW9.out.size))
       clear HY HWi HR9 HW9 HPA HXS9 N9
       go_wp2_with fail
       all_goals
        refine (KFI.out _ _ (by first | exact .inr rfl | exact .inl (by omega))).mono ?_
        rintro e w15 ⟨v15,rfl,hr15,hf15,hb15⟩
        obtain ⟨p15,c15,hv15⟩:=hr15.slice
        subst hv15
        have HR15:=Lib.hid hr15
        have HO15:=Lib.hid (HR10.out.keep (Q4 hb15) (by simp))
        have HD15:=Lib.hid (show ∀ k∈Q7 (Value.slice p15 (Kk (rs.map (Zt p))).length c15),w.heap.size≤k∧k∉Q7 v9 from fun k hk=>by
         have h1:=hf15 k hk
         have h2:=HW10.out.size
         exact ⟨by omega,fun hm=>by have:=HR10.out.lt k hm;omega⟩)
        have HW15:=Lib.hid (HW10.out.trans (hb15.mono HW10.out.size))
        generalize hK:Kk (rs.map (Zt p))=K at *
        have hkl:=HKL.out
        clear hr15 hf15 hb15 hK
        go_wp2_with fail
        go_roundw
        case rel=>exact ⟨O9,K,f',v9,_,rfl,rfl,by omega,HO9L.out,HRE2.out,HFAR2.out,HO15.out,HR15.out,HF9.out,HD15.out,HW15.out⟩
        case measure=>simp [lenV];omega
end
/- Seeds;the next bit of a seed. -/
section
open Go.RowKit
set_option maxHeartbeats 1600000 in
set_option maxRecDepth 100000 in
theorem gSeeds (n m:Nat) (hn:n≤128) (hm:m≤16):Gives 6 #[.int .i64 (n:Int),.int .i64 (m:Int)] (.int .i64 ((m*(n+1):Nat):Int)):=by
 intro w
 have a1:decide ((n:Int)<0)=false:=decide_eq_false (by omega)
 have a2:decide ((128:Int)<(n:Int))=false:=decide_eq_false (by omega)
 have a3:decide (128<n)=false:=decide_eq_false (by omega)
 have a4:decide ((m:Int)<0)=false:=decide_eq_false (by omega)
 have a5:decide ((16:Int)<(m:Int))=false:=decide_eq_false (by omega)
 have a6:decide (16<m)=false:=decide_eq_false (by omega)
 have hb:m*(n+1)≤16*129:=Nat.mul_le_mul hm (by omega)
 have hE:=Lib.hid (show (m:Int)*((n:Int)+1)=((m*(n+1):Nat):Int) by rw [Int.natCast_mul];rfl)
 have hb2:(m:Int)*((n:Int)+1)≤2064:=by rw [hE.out];omega
 have hb3:0≤(m:Int)*((n:Int)+1):=by rw [hE.out];omega
 go_enter Tryz.func6,Tryz.ntmps6
 go_wp2_with fail
 go_ret
 exact ⟨by rw [←hE.out];rfl,Below.refl _ _⟩
theorem Vm {w x:World} {Wr:List Nat} {b o:Nat} {v:Value} (h:w.cell? ⟨b,o,none⟩=some v) (hx:Behind w Wr x) (hb:b∉Wr):x.cell? ⟨b,o,none⟩=some v:=by
 rw [←h]
 refine Kb (hx.block b ?_ hb)
 rcases Nat.lt_or_ge b w.heap.size with h1 | h1
 ·exact h1
 ·rw [World.cell?,Array.getElem?_eq_none (by simpa using h1)] at h;cases h
set_option maxHeartbeats 1600000 in
set_option maxRecDepth 100000 in
theorem nextCore (z k:Nat) (hz:z<256) (a1 a:Int) (ga gs gb os c:Nat) (w:World) (hne:ga≠gs) (hne2:ga≠gb)
  (hA:w.heap[ga]?=some (.cells #[.int .i64 a1] 3 (0,0))) (hS:w.cell? ⟨gs,0,none⟩=some (.slice (some ⟨gb,os,none⟩) 1 c)) (hZ:w.cell? ⟨gb,os,none⟩=some (.int .u8 (z:Int)))
  (hcase:(a1 = -1∧a=0∧k=128)∨(a1=0∧a=1∧k=64)∨(a1=1∧a=2∧k=32)∨(a1=2∧a=3∧k=16)∨(a1=3∧a=4∧k=8)∨(a1=4∧a=5∧k=4)∨(a1=5∧a=6∧k=2)∨(a1=6∧a=7∧k=1)) :
  Calls Tryz.prog 57 #[.pointer (some ⟨ga,0,none⟩),.pointer (some ⟨gs,0,none⟩)] w fun e w'=>e = .returned (.bool (decide (z/k%2=1)))∧w'.heap[ga]?=some (.cells #[.int .i64 a] 3 (0,0))∧Behind w [ga] w':=by
 obtain ⟨Post,hPost⟩:∃ P:Ending→World→Prop,P=fun e w'=>e = .returned (.bool (decide (z/k%2=1)))∧w'.heap[ga]?=some (.cells #[.int .i64 a] 3 (0,0))∧Behind w [ga] w':=⟨_,rfl⟩
 rw [←hPost]
 have HP:=Lib.hid (show ∀ (bo:Bool) w',bo=decide (z/k%2=1)→w'.heap[ga]?=some (.cells #[.int .i64 a] 3 (0,0))→Behind w [ga] w'→Post (.returned (.bool bo)) w' from fun bo w' h1 h2 h3=>by rw [hPost,h1];exact ⟨rfl,h2,h3⟩)
 have hB:=fun y (hy:y<256)=>u8_and_nat y 1 hy (by omega)
 have hand:bits BinOp.and IntKind.u8 ((z:Int)/(k:Int)) 1=((z/k%2:Nat):Int):=by
  have h1:z/k<256:=Nat.lt_of_le_of_lt (Nat.div_le_self _ _) hz
  have:=hB (z/k) h1
  rw [show ((1:Nat):Int)=1 from rfl,Nat.and_one_is_mod] at this
  rw [←this,←Int.natCast_ediv]
 have hq:(((z/k%2:Nat):Int) == 1)=decide (z/k%2=1):=by
  by_cases h:z/k%2=1
  ·rw [h];rfl
  ·rw [decide_eq_false h];exact J7 (by omega)
 have HQ:=Lib.hid hq
 have f0:=Qd hA 0
 have a0:=Q5 hA 0 rfl
 have HAA:=Lib.hid hA
 have S0:=Lib.hid (Vm hS (show Behind w [ga] (w.setCell ⟨ga,0,none⟩ (.int .i64 a)) from behindSet) (by simp;exact fun h=>hne h.symm))
 have Z0:=Lib.hid (Vm hZ (show Behind w [ga] (w.setCell ⟨ga,0,none⟩ (.int .i64 a)) from behindSet) (by simp;exact fun h=>hne2 h.symm))
 have A0:=Lib.hid (show (w.setCell ⟨ga,0,none⟩ (.int .i64 a)).heap[ga]?=some (.cells #[.int .i64 a] 3 (0,0)) from heap_setCell_same _ _ 0 _ _ _ hA)
 have hdiv:z/k<256:=Nat.lt_of_le_of_lt (Nat.div_le_self _ _) hz
 clear hPost hA hB hS hZ hq
 generalize z/k%2=r at *
 rcases hcase with ⟨rfl,rfl,rfl⟩ | ⟨rfl,rfl,rfl⟩ | ⟨rfl,rfl,rfl⟩ | ⟨rfl,rfl,rfl⟩ | ⟨rfl,rfl,rfl⟩ | ⟨rfl,rfl,rfl⟩ | ⟨rfl,rfl,rfl⟩ | ⟨rfl,rfl,rfl⟩
 all_goals
  have HAND:=Lib.hid hand
  clear hand
  go_enter Tryz.func57,Tryz.ntmps57
  go_upto_region 2 with fail
  refine Qg ?_
  intro w2 hw2
  rw [←hw2] at S0 Z0 A0
  have HB2:=Lib.hid (show Behind w [ga] w2 by rw [hw2];exact behindSet)
  have A1:=Lib.hid (Q5 A0.out 0 rfl)
  clear hw2 a0 f0
  refine Qo [0,0,0,0,0,0,0,0,0,0,0,0,0] [] B0 Qu (Qi _) (by kernel_rfl) (by kernel_rfl) ?_
  refine Qb 13 (by kernel_rfl) (by rfl) ?_
  apply Exists.intro
  refine ⟨fun y hy=>?_,?_⟩
  ·have g0:=Q6 hy S0.out (by simp)
   have g1:=Q6 hy Z0.out (by simp)
   have g2:=Q6 hy A1.out (by simp)
   have hand:=HAND.out
   clear hy
   simp only [List.take_succ_cons,List.take_zero]
   unfold Cx
   repeat (go_big_quiet_step (fail))
   exact wpQuiet_nil rfl
  simp only [List.drop_succ_cons,List.drop_zero]
  refine Qf ?_
  intro w3 hx3 _
  have F1:=Lib.hid (hx3.keep A0.out (by simp))
  have F2:=Lib.hid (HB2.out.trans hx3 (fun b hb=>by cases hb))
  clear hx3
  go_wp2_with fail
  first
   | exact HP.out _ _ ((congrArg (fun y=>y == 1) HAND.out).trans HQ.out) F1.out F2.out
   | (have h1:=HAND.out
      rw [show ((1:Nat):Int)=1 from rfl,Int.ediv_one] at h1
      exact HP.out _ _ ((congrArg (fun y=>y == 1) h1).trans HQ.out) F1.out F2.out)
theorem gNext (z:Nat) (hz:z<256) (a:Nat) (ha:a<8) (ga gs gb os c:Nat) (w:World) (hne:ga≠gs) (hne2:ga≠gb)
  (hA:w.heap[ga]?=some (.cells #[.int .i64 ((a:Int)-1)] 3 (0,0))) (hS:w.cell? ⟨gs,0,none⟩=some (.slice (some ⟨gb,os,none⟩) 1 c)) (hZ:w.cell? ⟨gb,os,none⟩=some (.int .u8 (z:Int))) :
  Calls Tryz.prog 57 #[.pointer (some ⟨ga,0,none⟩),.pointer (some ⟨gs,0,none⟩)] w fun e w'=>e = .returned (.bool (z.testBit (7-a)))∧w'.heap[ga]?=some (.cells #[.int .i64 (a:Int)] 3 (0,0))∧Behind w [ga] w':=by
 have h:=nextCore z (2^(7-a)) hz ((a:Int)-1) (a:Int) ga gs gb os c w hne hne2 hA hS hZ (by
  have:a=0∨a=1∨a=2∨a=3∨a=4∨a=5∨a=6∨a=7:=by omega
  rcases this with rfl | rfl | rfl | rfl | rfl | rfl | rfl | rfl<;>simp)
 rw [←Nat.testBit_eq_decide_div_mod_eq] at h
 exact h
end
/- hash.Parities. -/
section
open Go.RowKit
theorem Row3.putS {xs:Array Value} {n:Nat} {f:Nat→Pa} (h:Row3 xs n f) {k:Nat} (hk:k<n) (o:Nat→Bool):Row3 ((xs.setIfInBounds (k*3) (.int .u64 (loW o:Nat))).setIfInBounds (k*3+1) (.int .u64 (hiW o:Nat))) n (fun j=>if j=k then ⟨o,(f j).odd⟩ else f j):=by
 obtain ⟨h1,h2⟩:=h
 refine ⟨by simpa using h1,fun j hj=>?_⟩
 dsimp only
 by_cases e:j=k
 ·subst e
  rw [if_pos rfl]
  refine ⟨?_,?_,?_⟩
  ·rw [Array.getElem?_setIfInBounds,if_neg (by omega),Array.getElem?_setIfInBounds,if_pos rfl,if_pos (by omega)]
  ·rw [Array.getElem?_setIfInBounds,if_pos rfl,if_pos (by simp;omega)]
  ·rw [Array.getElem?_setIfInBounds,if_neg (by omega),Array.getElem?_setIfInBounds,if_neg (by omega)];exact (h2 j hj).2.2
 ·rw [if_neg e]
  have:=h2 j hj
  refine ⟨?_,?_,?_⟩
  ·rw [Array.getElem?_setIfInBounds,if_neg (by omega),Array.getElem?_setIfInBounds,if_neg (by omega)];exact this.1
  ·rw [Array.getElem?_setIfInBounds,if_neg (by omega),Array.getElem?_setIfInBounds,if_neg (by omega)];exact this.2.1
  ·rw [Array.getElem?_setIfInBounds,if_neg (by omega),Array.getElem?_setIfInBounds,if_neg (by omega)];exact this.2.2
theorem Row3.putB {xs:Array Value} {n:Nat} {f:Nat→Pa} (h:Row3 xs n f) {k:Nat} (hk:k<n) (b:Bool):Row3 (xs.setIfInBounds (k*3+2) (.bool b)) n (fun j=>if j=k then ⟨(f j).vs,b⟩ else f j):=by
 obtain ⟨h1,h2⟩:=h
 refine ⟨by simpa using h1,fun j hj=>?_⟩
 dsimp only
 by_cases e:j=k
 ·subst e
  rw [if_pos rfl]
  have:=h2 j hj
  refine ⟨?_,?_,?_⟩
  ·rw [Array.getElem?_setIfInBounds,if_neg (by omega)];exact this.1
  ·rw [Array.getElem?_setIfInBounds,if_neg (by omega)];exact this.2.1
  ·rw [Array.getElem?_setIfInBounds,if_pos rfl,if_pos (by omega)]
 ·rw [if_neg e]
  have:=h2 j hj
  refine ⟨?_,?_,?_⟩
  ·rw [Array.getElem?_setIfInBounds,if_neg (by omega)];exact this.1
  ·rw [Array.getElem?_setIfInBounds,if_neg (by omega)];exact this.2.1
  ·rw [Array.getElem?_setIfInBounds,if_neg (by omega)];exact this.2.2
theorem Q04 (z:Array Value) (n j:Nat) (hj:j<n):(madeCells z n)[j]?=some (z[j%z.size]!):=by
 unfold madeCells
 simp [hj]
theorem Row3.made (m:Nat):Row3 (madeCells #[.int .u64 0,.int .u64 0,.bool false] (m*3)) m (fun _=>noneP):=⟨by rw [size_madeCells];exact Nat.le_refl _,fun j hj=>by
 have l0:loW noneP.vs=0:=Hw 64
 have h0:hiW noneP.vs=0:=Hw 64
 rw [l0,h0,Q04 _ _ _ (by omega),Q04 _ _ _ (by omega),Q04 _ _ _ (by omega)]
 have e1:j*3%3=0:=by omega
 have e2:(j*3+1)%3=1:=by omega
 have e3:(j*3+2)%3=2:=by omega
 refine ⟨?_,?_,?_⟩
 ·show some ((#[Value.int .u64 0,Value.int .u64 0,Value.bool false]:Array Value)[j*3%3]!)=_
  rw [e1];rfl
 ·show some ((#[Value.int .u64 0,Value.int .u64 0,Value.bool false]:Array Value)[(j*3+1)%3]!)=_
  rw [e2];rfl
 ·show some ((#[Value.int .u64 0,Value.int .u64 0,Value.bool false]:Array Value)[(j*3+2)%3]!)=_
  rw [e3];rfl⟩
theorem makePars (m:Nat) (hm:m≤65536) (x:World):(Instr.makeSlice 74 (.int .i64 (m:Int)) (.int .i64 (m:Int))).run Tryz.prog x = .ok (.slice (some ⟨x.heap.size,0,none⟩) m m) (x.alloc (.cells (madeCells #[.int .u64 0,.int .u64 0,.bool false] (m*3)) 116)):=by
 obtain ⟨i0,ii,iz0,iz1,iz2⟩:=info_parts Tryz.infoParX
 have h:=run_makeSlice (P:=Tryz.prog) (w:=x) 74 116 i0 _ Tryz.underlying74 ii iz0 .i64 .i64 m m (by omega) (by omega) (by rw [iz1];omega) (by rw [iz2];omega) (by omega)
 rw [iz1] at h
 exact h
def Q0h (z a:Nat):Bool:=z.testBit (7-a)
def Xb (n z i v:Nat):Nat→Bool:=fun u=>decide (1≤u∧u<v)&&Q0h z (i*(n+1)+(u-1))
def Kv (n z i:Nat):Pa:=⟨Xb n z i (n+1),Q0h z (i*(n+1)+n)⟩
theorem partP_one (n z i:Nat):Z6 (Xb n z i 1)=Z6 noneP.vs:=Vh fun v h1 h2=>by
 unfold Xb
 rw [decide_eq_false (by omega),Bool.false_and];rfl
theorem Q8w (n z i v:Nat) (hv:1≤v):Z6 (Xb n z i (v+1))=if Q0h z (i*(n+1)+(v-1))=true then Z6 (Kj (Xb n z i v) (v:Int)) else Z6 (Xb n z i v):=by
 split
 ·rename_i hb
  refine Vh fun u h1 h2=>?_
  unfold Kj Xb
  by_cases e:u=v
  ·subst e
   rw [hb];simp;omega
  ·have e2:decide ((u:Int)=(v:Int))=false:=decide_eq_false (by omega)
   have e3:decide (1≤u∧u<v+1)=decide (1≤u∧u<v):=by
    by_cases h:u<v
    ·rw [decide_eq_true (by omega),decide_eq_true (by omega)]
    ·rw [decide_eq_false (by omega),decide_eq_false (by omega)]
   simp only [e3]
   first
    | (rw [e2,Bool.or_false])
    | simp [e2]
 ·rename_i hb
  refine Vh fun u h1 h2=>?_
  unfold Xb
  by_cases e:u=v
  ·subst e
   have hb:Q0h z (i*(n+1)+(u-1))=false:=by simpa using hb
   rw [hb];simp
  ·have e3:decide (1≤u∧u<v+1)=decide (1≤u∧u<v):=by
    by_cases h:u<v
    ·rw [decide_eq_true (by omega),decide_eq_true (by omega)]
    ·rw [decide_eq_false (by omega),decide_eq_false (by omega)]
   rw [e3]
end
end Go.Proofs.YtcpehljpegfckaaGreatDoor
