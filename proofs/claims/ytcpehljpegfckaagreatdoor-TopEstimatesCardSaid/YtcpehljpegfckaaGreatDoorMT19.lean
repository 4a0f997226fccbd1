/- Texts of this claim,joined: CZ2,CZ3,CZ4. -/
import Derived.Test.YtcpehljpegfckaaGreatDoorMT14
import Derived.Deep.DeepCutAuto
import Derived.Maps.Own
import Derived.Maps.OwnOps
/- The variable on which clauses are decided. -/
namespace Go.Proofs.YtcpehljpegfckaaGreatDoor
section
open Go.RowKit
theorem Tryz.infoIntK:(Tryz.prog.info? 3).map (fun i=>(i.zero,i.size,i.bytes))=some (some (.int .i64 0),1,8):=by kernel_rfl
theorem Tryz.infoIntsK:(Tryz.prog.info? 51).map (fun i=>(i.zero,i.size,i.bytes))=some (some (.slice none 0 0),1,24):=by kernel_rfl
structure TsOk (n:Nat) (L:List Ce) (ts:List Int) (cnt:Nat):Prop where
 len:ts.length=n+1
 val:∀ (v:Nat) (x:Int),ts[v]?=some x→0≤x∧x≤cnt∧(x≠0→clV (lcs L) v=true)
def PosT (ts:List Int):Prop:=∃ (v:Nat) (y:Int),ts[v]?=some y∧0<y
theorem TsOk.more {n cnt a:Nat} {L:List Ce} {ts:List Int} {x:Int} (h:TsOk n L ts cnt) (hx:ts[a]?=some x) (hv:clV (lcs L) a=true):TsOk n L (ts.set a (x+1)) (cnt+1)∧PosT (ts.set a (x+1)):=by
 have hal:=(List.getElem?_eq_some_iff.1 hx).1
 have h0:=h.val a x hx
 refine ⟨⟨by rw [List.length_set];exact h.len,fun v y hy=>?_⟩,a,x+1,by rw [List.getElem?_set_self hal],by omega⟩
 by_cases e:a=v
 ·subst e
  rw [List.getElem?_set_self hal] at hy
  have e2:x+1=y:=Option.some.inj hy
  exact ⟨by omega,by omega,fun _=>hv⟩
 ·rw [List.getElem?_set_ne e] at hy
  obtain ⟨h1,h2,h3⟩:=h.val v y hy
  exact ⟨h1,by omega,h3⟩
def Tms (w:World) (g:Nat) (ts:List Int):Prop:=w.heap[g]?=some (.cells (Qm ts).toArray 3 (0,0))
theorem Tms.get {w:World} {g:Nat} {ts:List Int} (h:Tms w g ts) {i:Nat} {x:Int} (hx:ts[i]?=some x):w.cell? ⟨g,i,none⟩=some (.int .i64 x):=Q5 h i (by rw [List.getElem?_toArray];exact Jb ts i x hx)
theorem Q6c {y:Int} (h0:y≠0) (h1:y.natAbs≤128):Y8 y=(y.natAbs:Int):=by
 unfold Y8
 split
 ·omega
 ·split<;>omega
def Q19 (w:World) (gc n:Nat) (cache:Bool) (v u:Value) (gl gd:Nat):Prop:=w.heap[gc]?=some (.cells #[.int .i64 n,.slice none 0 0,.bool false,.bool cache,v,u,.map (some gl),.map (some gd)] 96 (0,0))
set_option maxHeartbeats 6400000 in
set_option maxRecDepth 100000 in
theorem gChoose (ok:Nat→Prop) (n gc gl gd:Nat) (cache:Bool) (v u:Value) (L:List Ce) (p:Option Addr) (cap:Nat) (w:World) (hC:Q19 w gc n cache v u gl gd) (hn:n≤128) (hA:ClsP ok w p L) (hI:∀ e∈L,CeOk ok w e) (hO:Hl n (lcs L)) (hne:∀ e∈L,e.xs≠[]) (hl:L.length<20) (hl0:L≠[]) :
  Calls Tryz.prog 115 #[.pointer (some ⟨gc,0,none⟩),.slice p L.length cap] w fun e w'=>∃ x:Nat,e = .returned (.int .i64 x)∧clV (lcs L) x=true∧Below w.heap.size w w':=by
 obtain ⟨Post,hPost⟩:∃ P:Ending→World→Prop,P=fun e w'=>∃ x:Nat,e = .returned (.int .i64 x)∧clV (lcs L) x=true∧Below w.heap.size w w':=⟨_,rfl⟩
 rw [←hPost]
 have HP:=Lib.hid (show ∀ (x:Nat) (w':World),clV (lcs L) x=true→Below w.heap.size w w'→Post (.returned (.int .i64 x)) w' from fun x w' h1 h2=>by rw [hPost];exact ⟨x,rfl,h1,h2⟩)
 have HC:=Lib.hid hC
 have HA:=Lib.hid hA
 have HI:=Lib.hid hI
 have HO:=Lib.hid hO
 have HNE:=Lib.hid hne
 have hgc:=Q9 hC
 have cc0:=Q5 hC 0 rfl
 obtain ⟨i0,ii,iz0,iz1,iz2⟩:=info_parts Tryz.infoIntsK
 have II:=Lib.hid ii
 have IZ0:=Lib.hid iz0
 have IZ1:=Lib.hid iz1
 have IZ2:=Lib.hid iz2
 clear ii iz0 iz1 iz2
 obtain ⟨i1,ji,jz0,jz1,jz2⟩:=info_parts Tryz.infoIntK
 obtain ⟨m,hm⟩:∃ m,m=L.length:=⟨_,rfl⟩
 have HM0:=Lib.hid (show 1≤m by rw [hm];exact List.length_pos_iff.2 hl0)
 rw [←hm] at hl ⊢
 have HM:=Lib.hid hm
 clear hPost hC hA hI hO hne hm hl0
 go_enter Tryz.func115,Tryz.ntmps115
 go_wp2_with (at_make;refine wpList_make_full _ rfl (.tmp 19) (.tmp 19) 51 rfl w.heap.size 3 i1 (.int .i64 0) 1 Tryz.underlying51 ji jz0 jz1 .i64 .i64 _ _ (n+1) rfl rfl (by omega) (by omega) (by rw [jz2];omega) (by unfold maxLen;omega) (by simp) ?_)
 intro w1 hown hgr
 have hR:=Row.ofOwns hown
 rw [Q2t] at hR
 have HB1:=Lib.hid (Z9 hgr (Nat.le_refl _) (by simp))
 have HR1:=Lib.hid (show Tms w1 w.heap.size (List.replicate (n+1) 0) from hR)
 have cc1:=Q5 ((Q4 HB1.out).keep HC.out (by simp)) 0 rfl
 clear hown hgr hR cc0 ji jz0 jz1 jz2 i1
 go_upto_region 2 with fail
 refine wp_region_lit (J6 [0,0,0,0,0,3,2] [] B0 (Qi _) ?_)
 refine Qb 5 (by kernel_rfl) (by rfl) ?_
 apply Exists.intro
 refine ⟨fun z hz=>?_,?_⟩
 ·have f0:=Q6 hz cc1 (by simp)
  clear hz
  simp only [List.take_succ_cons,List.take_zero]
  unfold Cx
  repeat (go_big_quiet_step (fail))
  exact wpQuiet_nil rfl
 simp only [List.drop_succ_cons,List.drop_zero]
 refine Jm (.agg #[.int .i64 0,.slice none 0 0]) (by rfl) (fun x=>by kernel_rfl) (fun g6 q6 hn6=>?_)
 unfold Qk
 go_big_quiet_step (fail)
 refine wpQuiet_nil ?_
 refine Qh g6 #[.int .i64 n,.slice none 0 0] #[.int .i64 0,.slice none 0 0] 24 (by rfl) (by rfl) (by rfl) (Blocks.put_same _ _ _) rfl (.inr q6) (by kernel_rfl) (by simp [Value.oneCell']) ?_
 refine Qf ?_
 intro w2 hx2 hH
 have HT2:=Lib.hid (hH g6 _ (Blocks.put_same _ _ _))
 have HG6:=Lib.hid (show w.heap.size<g6 from by have:=Q9 HR1.out;omega)
 have HB2:=Lib.hid (HB1.out.trans (hx2.below_of (b:=w.heap.size) (by simp) HB1.out.size))
 have HR2:=Lib.hid (show Tms w2 w.heap.size (List.replicate (n+1) 0) from hx2.keep HR1.out (by simp))
 clear hx2 hH hn6 q6 HB1 HR1 cc1
 go_wp2_with fail
 go_loopw [28] (fun t28 wr=>∃ (i cnt:Nat) (ts:List Int) (v6:Value) (cl:List Value),t28 = .int .i64 i∧i≤m∧cnt≤i*1000000∧Hid (TsOk n L ts cnt)∧Hid (Tms wr w.heap.size ts)∧Hid (wr.heap[g6]?=some (.cells #[.int .i64 n,v6] 24 (0,0)))∧Hid (RowV (inW wr) 51 1 v6 i cl)∧Hid (∀ g∈Q7 v6,w.heap.size<g∧g≠g6)∧Hid (1≤i→PosT ts)∧Hid (Below w.heap.size w wr)) (fun t _=>m-(intOf t).toNat)
 case atStart=>exact ⟨0,0,List.replicate (n+1) 0,.slice none 0 0,[],rfl,Nat.zero_le _,Nat.le_refl _,⟨by simp,fun v x hx=>by
   rw [List.getElem?_replicate] at hx
   split at hx
   ·cases hx;exact ⟨Int.le_refl _,Int.le_refl _,fun h=>(h rfl).elim⟩
   ·cases hx⟩,HR2.out,HT2.out,.nil,fun g hg=>(by simp [Q7] at hg),fun h=>(by omega),HB2.out⟩
 case round =>
  clear HT2 HR2 HB2
  obtain ⟨i,cnt,ts,v6,cl,rfl,him,hcnt,HTS,HTM,HTB,HRV,HRB,HPR,HW⟩:=hrel
  obtain ⟨w3,hw3⟩:∃ w3,w3=wr:=⟨_,rfl⟩
  rw [←hw3] at HTM HTB HRV HW ⊢
  clear hw3
  by_cases hlt:i<m
  ·have hd:decide (i<m)=true:=decide_eq_true hlt
   have hd2:decide ((i:Int)<(m:Int))=true:=decide_eq_true (by omega)
   obtain ⟨e,he⟩:∃ e,L[i]?=some e:=⟨_,List.getElem?_eq_getElem (by rw [←HM.out];exact hlt)⟩
   obtain ⟨b,o,hb,_,hp,k1,k2⟩:=HA.out i e he
   have c1:=Q8 HW.out hb k1
   have c2:=Q8 HW.out hb k2
   have HIE:=Lib.hid (HI.out e (List.mem_of_getElem? he))
   have HNX:=Lib.hid (HNE.out e (List.mem_of_getElem? he))
   have HOE:=Lib.hid (show ∀ y∈e.xs,y≠0∧y.natAbs≤n∧clV (lcs L) y.natAbs=true from fun y hy =>
    have hm:e.xs∈lcs L:=List.mem_map.2 ⟨e,List.mem_of_getElem? he,rfl⟩
    ⟨(HO.out _ hm y hy).1,(HO.out _ hm y hy).2,Yk.2 ⟨_,hm,y,hy,rfl⟩⟩)
   obtain ⟨ep,ec,xs,at'⟩:=e
   subst hp
   dsimp only at *
   have C1:=Lib.hid c1
   have C2:=Lib.hid c2
   clear he hb k1 k2 c1 c2
   go_upto_region 5 with fail
   refine wp_region_lit (J6 [0,0,3,2] [] B0 (Qi _) ?_)
   refine Qb 2 (by kernel_rfl) (by rfl) ?_
   apply Exists.intro
   refine ⟨fun z hz=>?_,?_⟩
   ·have f0:=Q6 hz C1.out (by simp)
    have f1:=Q6 hz C2.out (by simp)
    clear hz
    simp only [List.take_succ_cons,List.take_zero]
    unfold Cx
    repeat (go_big_quiet_step (fail))
    exact wpQuiet_nil rfl
   simp only [List.drop_succ_cons,List.drop_zero]
   refine Jm (.agg #[.slice none 0 0,.int .i64 0]) (by rfl) (fun x=>by kernel_rfl) (fun g8 q8 hn8=>?_)
   unfold Qk
   go_big_quiet_step (fail)
   refine wpQuiet_nil ?_
   refine Qh g8 #[.slice ep xs.length ec,.int .i64 at'] #[.slice none 0 0,.int .i64 0] 138 (by rfl) (by rfl) (by rfl) (Blocks.put_same _ _ _) rfl (.inr q8) (by kernel_rfl) (by simp [Value.oneCell']) ?_
   refine Qf ?_
   intro w5 hx5 hH
   have HC5:=Lib.hid (hH g8 _ (Blocks.put_same _ _ _))
   have HG8:=Lib.hid (show w.heap.size<g8∧g8≠g6∧∀ g∈Q7 v6,g≠g8 from by
    have h1:=Q9 HTM.out
    have h2:=Q9 HTB.out
    exact ⟨by omega,by omega,fun g hg=>by have:=HRV.out.lt g hg;omega⟩)
   have HB5:=Lib.hid (show Below w3.heap.size w3 w5 from hx5.below_of (by simp) (Nat.le_refl _))
   clear hx5 hH hn8 q8 C1 C2
   have HW5:=Lib.hid (HW.out.trans (HB5.out.mono HW.out.size))
   have HRV5:=Lib.hid (HRV.out.keep (Q4 HB5.out) (by simp))
   have HTM5:=Lib.hid (show Tms w5 w.heap.size ts from (Q4 HB5.out).keep HTM.out (by simp))
   have HTB5:=Lib.hid (show w5.heap[g6]?=_ from (Q4 HB5.out).keep HTB.out (by simp))
   clear HRV HW HB5 HTM HTB
   obtain ⟨q,hq⟩:∃ q,q=xs.length:=⟨_,rfl⟩
   have hq1:q≤1000000:=by rw [hq];exact HIE.out.len
   have HQ0:=Lib.hid (show 1≤q by rw [hq];exact List.length_pos_iff.2 HNX.out)
   rw [←hq] at HC5 ⊢
   have HQ:=Lib.hid hq
   clear hq
   have c1:=Q5 HC5.out 0 rfl
   go_wp2_with fail
   clear c1
   go_loopw [35] (fun t35 wr=>∃ (k c2:Nat) (ts:List Int),t35 = .int .i64 k∧k≤q∧c2≤i*1000000+k∧Hid (TsOk n L ts c2)∧Hid (Tms wr w.heap.size ts)∧Hid (wr.heap[g6]?=some (.cells #[.int .i64 n,v6] 24 (0,0)))∧Hid (wr.heap[g8]?=some (.cells #[.slice ep q ec,.int .i64 at'] 138 (0,0)))∧Hid (RowV (inW wr) 51 1 v6 i cl)∧Hid (1≤k→PosT ts)∧Hid (Below w.heap.size w wr)) (fun t _=>q-(intOf t).toNat)
   case atStart=>exact ⟨0,cnt,ts,rfl,Nat.zero_le _,Nat.le_trans hcnt (Nat.le_add_right _ _),HTS.out,HTM5.out,HTB5.out,HC5.out,HRV5.out,fun h=>(by omega),HW5.out⟩
   case round =>
    clear HTS HTM5 HTB5 HC5 HRV5 HW5 HPR hcnt
    obtain ⟨k,c2,ts,rfl,hkq,hc2,HTS,HTM,HTB,HC5,HRV,HPR,HW⟩:=hrel
    obtain ⟨w6,hw6⟩:∃ w6,w6=wr:=⟨_,rfl⟩
    rw [←hw6] at HTM HTB HC5 HRV HW ⊢
    clear hw6
    by_cases hlk:k<q
    ·have hd3:decide (k<q)=true:=decide_eq_true hlk
     have hd4:decide ((k:Int)<(q:Int))=true:=decide_eq_true (by omega)
     obtain ⟨y,hy⟩:∃ y,xs[k]?=some y:=⟨_,List.getElem?_eq_getElem (by rw [←HQ.out];exact hlk)⟩
     obtain ⟨b2,o2,hb2,_,hp2,kx⟩:=HIE.out.ins k _ (Jb xs k y hy)
     dsimp only at hp2
     subst hp2
     have cx:=Q8 HW.out hb2 kx
     obtain ⟨hy0,hyn,hyv⟩:=HOE.out y (List.mem_of_getElem? hy)
     have KV:=gVar y
     rw [Q6c hy0 (by omega)] at KV
     obtain ⟨a,ha⟩:∃ a,a=y.natAbs:=⟨_,rfl⟩
     rw [←ha] at KV hyn hyv
     have HYV:=Lib.hid hyv
     obtain ⟨x,hx⟩:∃ x,ts[a]?=some x:=⟨_,List.getElem?_eq_getElem (by rw [HTS.out.len];omega)⟩
     have hxr:=HTS.out.val a x hx
     have hx1:0≤x:=hxr.1
     have hx2:x≤30000000:=by have:=hxr.2.1;omega
     have HX:=Lib.hid hx
     have HNEW:=Lib.hid (HTS.out.more hx hyv)
     have han:a<n+1:=by omega
     clear hy hb2 kx hy0 ha hyv hx hxr
     go_wp2_with fail
     refine (KV w6).mono ?_
     rintro e w7 ⟨rfl,hb7⟩
     have hTM7:Tms w7 w.heap.size ts:=(Q4 hb7).keep HTM.out (by simp)
     have hTB7:w7.heap[g6]?=_:=(Q4 hb7).keep HTB.out (by simp)
     have hC7:w7.heap[g8]?=_:=(Q4 hb7).keep HC5.out (by simp)
     have hRV7:=HRV.out.keep (Q4 hb7) (by simp)
     have hW7:=HW.out.trans (hb7.mono HW.out.size)
     have z0:=hTM7.get HX.out
     have f0:=Qd hTM7 a
     have hset:=heap_setCell_same w7 w.heap.size a _ _ (.int .i64 (x+1)) hTM7
     rw [List.setIfInBounds_toArray,Q86] at hset
     have hbeh:Behind w7 [w.heap.size] (w7.setCell ⟨w.heap.size,a,none⟩ (.int .i64 (x+1))):=⟨rfl,rfl,rfl,by simp,fun k _ hk=>heap_setCell_other _ _ _ _ (by simpa using hk)⟩
     have HTM8:=Lib.hid (show Tms (w7.setCell ⟨w.heap.size,a,none⟩ (.int .i64 (x+1))) w.heap.size (ts.set a (x+1)) from hset)
     have HTB8:=Lib.hid (hbeh.keep hTB7 (by have:=HG6.out;simp;omega))
     have HC8:=Lib.hid (hbeh.keep hC7 (by have:=HG8.out.1;simp;omega))
     have HRV8:=Lib.hid (hRV7.keep hbeh (fun g hg h=>by have:=(HRB.out g hg).1;simp at h;omega))
     have HW8:=Lib.hid (hW7.trans (hbeh.below_of (b:=w.heap.size) (by simp) hW7.size))
     clear hb7 hTM7 hTB7 hC7 hRV7 hW7 hset hbeh KV cx HTM HTB HC5 HRV HW HX
     go_wp2_with fail
     go_roundw
     case rel=>exact ⟨k+1,c2+1,ts.set a (x+1),by go_num,by omega,by omega,HNEW.out.1,HTM8.out,HTB8.out,HC8.out,HRV8.out,fun _=>HNEW.out.2,HW8.out⟩
     case measure=>simp [intOf];omega
    ·have hd3:decide (k<q)=false:=decide_eq_false hlk
     have hd4:decide ((k:Int)<(q:Int))=false:=decide_eq_false (by omega)
     have HPT:=Lib.hid (HPR.out (by have:=HQ0.out;omega))
     obtain ⟨p6,c6,hv6⟩:=HRV.out.slice
     subst hv6
     have c0:=Q5 HTB.out 1 rfl
     have c1:=Q5 HC5.out 0 rfl
     have hci:c2≤(i+1)*1000000:=by omega
     clear HPR
     go_wp2_with (at_builtin;refine Jp _ rfl _ _ 22 rfl 51 i0 (.slice none 0 0) 1 24 Tryz.underlying22 II.out IZ0.out IZ1.out IZ2.out rfl _ _ _ rfl (HRV.out.keep (Q4 ((Below.refl _ _).alloc (Nat.le_refl _) _)) (by simp)) w6.heap.size 1 1 [.slice ep q ec] 51 rfl (heap_alloc_new w6 _) rfl (by intro u hu;simp at hu;subst hu;rfl) (by omega) (by unfold maxLen;omega) (by omega) ?_)
     intro v9 w9 hr9 hB9 hn9
     have h09:Behind w6 (Q7 (.slice p6 i c6)) w9:=((Q4 ((Below.refl _ _).alloc (Nat.le_refl _) _)).mono (by simp)).trans hB9 (fun k hk=>.inl hk)
     have hn9':∀ g∈Q7 v9,g∈Q7 (.slice p6 i c6)∨w6.heap.size≤g:=fun g hg=>(hn9 g hg).imp id (fun h=>by omega)
     obtain ⟨p9,c9,hv9⟩:=hr9.slice
     subst hv9
     have hg6l:=Q9 HTB.out
     have hTB9:w9.heap[g6]?=_:=h09.keep HTB.out (fun h=>(HRB.out g6 h).2 rfl)
     have hTM9:Tms w9 w.heap.size ts:=h09.keep HTM.out (fun h=>by have:=(HRB.out _ h).1;omega)
     have hbeh:Behind w9 [g6] (w9.setCell ⟨g6,1,none⟩ (.slice p9 (i+1) c9)):=⟨rfl,rfl,rfl,by simp,fun k _ hk=>heap_setCell_other _ _ _ _ (by simpa using hk)⟩
     have HRB9:=Lib.hid (show ∀ g∈Q7 (.slice p9 (i+1) c9),w.heap.size<g∧g≠g6 from fun g hg=>(hn9' g hg).elim (HRB.out g) (fun h=>by have:=HG6.out;exact ⟨by omega,by omega⟩))
     have HTB10:=Lib.hid (show (w9.setCell ⟨g6,1,none⟩ (.slice p9 (i+1) c9)).heap[g6]?=some (.cells #[.int .i64 n,.slice p9 (i+1) c9] 24 (0,0)) from heap_setCell_same w9 g6 1 _ _ _ hTB9)
     have HTM10:=Lib.hid (show Tms (w9.setCell ⟨g6,1,none⟩ (.slice p9 (i+1) c9)) w.heap.size ts from hbeh.keep hTM9 (by have:=HG6.out;simp;omega))
     have HRV10:=Lib.hid (hr9.keep hbeh (fun g hg h=>(HRB9.out g hg).2 (by simpa using h)))
     have HW10:=Lib.hid ((HW.out.trans (h09.below_of (b:=w.heap.size) (fun k hk=>Nat.le_of_lt (HRB.out k hk).1) HW.out.size)).trans (hbeh.below_of (b:=w.heap.size) (by have:=HG6.out;simp;omega) (HW.out.trans (h09.below_of (b:=w.heap.size) (fun k hk=>Nat.le_of_lt (HRB.out k hk).1) HW.out.size)).size))
     have q1:=Q5 hTB9 1 rfl
     have g1:=Qd hTB9 1
     clear h09 hn9' hr9 hB9 hn9 hbeh hTB9 hTM9 HRV HTM HTB HC5 HW HRB c0 c1
     go_wp2_with fail
     go_roundw
     case rel=>exact ⟨i+1,c2,ts,.slice p9 (i+1) c9,_,by go_num,by omega,hci,HTS.out,HTM10.out,HTB10.out,HRV10.out,HRB9.out,fun _=>HPT.out,HW10.out⟩
     case measure=>simp [intOf];omega
  ·have hd:decide (i<m)=false:=decide_eq_false hlt
   have hd2:decide ((i:Int)<(m:Int))=false:=decide_eq_false (by omega)
   have HPT:=Lib.hid (HPR.out (by have:=HM0.out;omega))
   have HCB:=Lib.hid (show Q19 w3 gc n cache v u gl gd from (Q4 HW.out).keep HC.out (by simp))
   have cc1:=Q5 HCB.out 1 rfl
   have hz0:ts[0]?=some 0:=by
    obtain ⟨x,hx⟩:∃ x,ts[0]?=some x:=⟨_,List.getElem?_eq_getElem (by rw [HTS.out.len];omega)⟩
    have h1:=HTS.out.val 0 x hx
    by_cases h:x=0
    ·rw [hx,h]
    ·obtain ⟨c,hc,y,hy,e⟩:=Yk.1 (h1.2.2 h)
     have:=(HO.out c hc y hy).1
     omega
   have HZ0:=Lib.hid hz0
   clear hz0 HPR
   go_wp2_with fail
   go_loopw [61] (fun t wr=>t = .int .i64 0∧Hid (Below w3.heap.size w3 wr)) (fun _ _=>0)
   case atStart=>exact ⟨rfl,Below.refl _ _⟩
   case round =>
    obtain ⟨rfl,HBE⟩:=hrel
    obtain ⟨w4,hw4⟩:∃ w4,w4=wr:=⟨_,rfl⟩
    rw [←hw4] at HBE ⊢
    clear hw4
    have HW4:=Lib.hid (HW.out.trans (HBE.out.mono HW.out.size))
    have HTM4:=Lib.hid (show Tms w4 w.heap.size ts from (Q4 HBE.out).keep HTM.out (by simp))
    clear cc1 HBE HW HTM HTB HRV HCB
    go_wp2_with fail
    go_loopw [13,74] (fun t13 t74 wr=>∃ (bs vv:Nat) (y:Int),t13 = .int .i64 bs∧t74 = .int .i64 vv∧vv≤n+1∧bs<n+1∧0≤y∧Hid (ts[bs]?=some y)∧Hid (0<y∨∀ (j:Nat) (z:Int),j<vv→ts[j]?=some z→z≤0)∧Hid (Below w4.heap.size w4 wr)) (fun _ t _=>n+1-(intOf t).toNat)
    case atStart=>exact ⟨0,0,0,rfl,rfl,Nat.zero_le _,by omega,Int.le_refl _,HZ0.out,.inr fun j z h=>(by omega),Below.refl _ _⟩
    case round =>
     obtain ⟨bs,vv,y,rfl,rfl,hvn,hbn,hy0,HY,HQ,HB⟩:=hrel
     obtain ⟨w5,hw5⟩:∃ w5,w5=wr:=⟨_,rfl⟩
     rw [←hw5] at HB ⊢
     clear hw5
     have hTM5:Tms w5 w.heap.size ts:=(Q4 HB.out).keep HTM4.out (by simp)
     have HCB5:=Lib.hid (show Q19 w5 gc n cache v u gl gd from (Q4 (HW4.out.trans (HB.out.mono HW4.out.size))).keep HC.out (by simp))
     have cc2:=Q5 HCB5.out 2 rfl
     by_cases hlv:vv<n+1
     ·have hd3:decide (vv<n+1)=true:=decide_eq_true hlv
      have hd4:decide ((vv:Int)<((n+1:Nat):Int))=true:=decide_eq_true (by omega)
      have hd5:decide ((vv:Int)<(n:Int)+1)=true:=decide_eq_true (by omega)
      obtain ⟨x,hx⟩:∃ x,ts[vv]?=some x:=⟨_,List.getElem?_eq_getElem (by rw [HTS.out.len];omega)⟩
      have hx0:=(HTS.out.val vv x hx).1
      have z0:=hTM5.get hx
      have z1:=hTM5.get HY.out
      have Z0:=Lib.hid z0
      have Z1:=Lib.hid z1
      by_cases hxz:x=0
      ·subst hxz
       have HQ2:=Lib.hid (show 0<y∨∀ (j:Nat) (z:Int),j<vv+1→ts[j]?=some z→z≤0 from HQ.out.imp id fun h j z hj hz=>by
        by_cases e:j=vv
        ·subst e;rw [hx] at hz;cases hz;exact Int.le_refl _
        ·exact h j z (by omega) hz)
       clear hx z1 Z0 Z1 hTM5 HQ
       go_wp2_with fail
       go_roundw
       case rel=>exact ⟨bs,vv+1,y,rfl,by go_num,by omega,hbn,hy0,HY.out,HQ2.out,HB.out⟩
       case measure=>simp [intOf];omega
      ·have hxb:(x == 0)=false:=J7 hxz
       have hxp:0<x:=by omega
       have HXX:=Lib.hid hx
       clear hx z1 hTM5 hxz
       go_upto_region 26 with fail
       refine Qo [0,0,0,0,0,0,0,0,0] [] B0 Qu (Qi _) (by kernel_rfl) (by kernel_rfl) ?_
       refine Qb 9 (by kernel_rfl) (by rfl) ?_
       apply Exists.intro
       refine ⟨fun z hz=>?_,?_⟩
       ·have f0:=Q6 hz Z0.out (by simp)
        have f1:=Q6 hz Z1.out (by simp)
        clear hz
        simp only [List.take_succ_cons,List.take_zero]
        unfold Cx
        repeat (go_big_quiet_step (fail))
        exact wpQuiet_nil rfl
       simp only [List.drop_succ_cons,List.drop_zero]
       refine Qf ?_
       intro w6 hx6 _
       have HB6:=Lib.hid (HB.out.trans (hx6.below_of (b:=w4.heap.size) (by simp) HB.out.size))
       clear hx6 HB Z0 Z1 HCB5 z0 cc2
       by_cases hgt:y<x
       ·have HQ2:=Lib.hid (show 0<x∨∀ (j:Nat) (z:Int),j<vv+1→ts[j]?=some z→z≤0 from .inl hxp)
        go_wp2_with fail
        go_roundw
        case rel=>exact ⟨vv,vv+1,x,rfl,by go_num,by omega,hlv,hx0,HXX.out,HQ2.out,HB6.out⟩
        case measure=>simp [intOf];omega
       ·have HQ2:=Lib.hid (show 0<y∨∀ (j:Nat) (z:Int),j<vv+1→ts[j]?=some z→z≤0 from .inl (by omega))
        go_wp2_with fail
        go_roundw
        case rel=>exact ⟨bs,vv+1,y,rfl,by go_num,by omega,hbn,hy0,HY.out,HQ2.out,HB6.out⟩
        case measure=>simp [intOf];omega
     ·have hd3:decide (vv<n+1)=false:=decide_eq_false hlv
      have hd4:decide ((vv:Int)<((n+1:Nat):Int))=false:=decide_eq_false (by omega)
      have hd5:decide ((vv:Int)<(n:Int)+1)=false:=decide_eq_false (by omega)
      have hyp:0<y:=HQ.out.elim id fun h=>by
       obtain ⟨a,z,hz,hz0⟩:=HPT.out
       have hal:=(List.getElem?_eq_some_iff.1 hz).1
       have:=h a z (by rw [HTS.out.len] at hal;omega) hz
       omega
      have HF:=Lib.hid (HP.out bs w5 ((HTS.out.val bs y HY.out).2.2 (by omega)) (HW4.out.trans (HB.out.mono HW4.out.size)))
      clear hTM5 HCB5 cc2
      go_wp2_with fail
      exact HF.out
end
/- Claims. -/
section
open Go.RowKit Go.Sort
theorem Q3s {α:Type} [Inhabited α] (enc:α→Value) (w:World) (g q:Nat) (d:Array α) (os:Array Obj):Behind w [g] (grow (putRow enc (Sort.ahead w q) g 0 d) os):=by
 have hs:(putRow enc (Sort.ahead w q) g 0 d).heap.size=w.heap.size:=by simp [putRow,mapBlock,Sort.ahead]
 refine ⟨rfl,rfl,rfl,by rw [size_grow,hs];omega,fun k hk hn=>?_⟩
 have hne:g≠k:=fun e=>hn (by simp [e])
 rw [heap_grow_old _ _ (by rw [hs];exact hk)]
 simp [putRow,mapBlock,Sort.ahead,Array.getElem?_modify,hne]
theorem holds_tms {w:World} {g:Nat} {ts:List Int} (h:Tms w g ts):Holds (Value.int .i64) w g 0 ts.toArray:=fun j hj=>by
 have hj2:j<ts.length:=by simpa using hj
 rw [Nat.zero_add]
 refine ⟨?_,Qd h j⟩
 rw [h.get (i:=j) (x:=ts[j]) (List.getElem?_eq_getElem hj2)]
 congr 2
 rw [getElem!_pos ts.toArray j hj];simp
theorem gSortI (ts:List Int) (g:Nat) (w:World) (h:Tms w g ts) (hl:ts.length≤1000000):Calls Tryz.prog 80 #[.slice (some ⟨g,0,none⟩) ts.length ts.length] w fun e w'=>e = .returned (.tuple #[])∧Behind w [g] w':=by
 refine (Tryz.slices_Sort_int g 0 ts.length ts w (holds_tms h) (Q9 h) (by omega)).mono ?_
 rintro e w' ⟨rfl,q,os,rfl⟩
 exact ⟨rfl,Q3s _ w g q _ os⟩
theorem Tryz.sizeClaim:(Tryz.prog.info? 104).map (·.size)=some 2:=by kernel_rfl
theorem set_app (A D:List Int) (y u:Int) (k:Nat) (h:A.length=k):(A++y::D).set k u=(A++[u])++D:=by
 rw [List.set_append_right _ _ (by omega),h,Nat.sub_self];simp
set_option maxHeartbeats 6400000 in
set_option maxRecDepth 100000 in
theorem gClaim (ok:Nat→Prop) (L:List Ce) (p:Option Addr) (cap:Nat) (q:Option Addr) (term:List Int) (cq:Nat) (w:World) (hA:ClsP ok w p L) (hT:AtN w.heap.size w q (Qm term)) (hl:L.length<20) (hl2:term.length≤1000000) :
  Calls Tryz.prog 42 #[.slice p L.length cap,.slice q term.length cq] w fun e w'=>∃ p1 n1 c1 p2 n2 c2,e = .returned (.agg #[.slice p1 n1 c1,.slice p2 n2 c2])∧Below w.heap.size w w':=by
 obtain ⟨Post,hPost⟩:∃ P:Ending→World→Prop,P=fun e w'=>∃ p1 n1 c1 p2 n2 c2,e = .returned (.agg #[.slice p1 n1 c1,.slice p2 n2 c2])∧Below w.heap.size w w':=⟨_,rfl⟩
 rw [←hPost]
 have HP:=Lib.hid (show ∀ (p1:Option Addr) (n1 c1:Nat) (p2:Option Addr) (n2 c2:Nat) (w':World),Below w.heap.size w w'→Post (.returned (.agg #[.slice p1 n1 c1,.slice p2 n2 c2])) w' from fun p1 n1 c1 p2 n2 c2 w' h=>by rw [hPost];exact ⟨p1,n1,c1,p2,n2,c2,rfl,h⟩)
 have HA:=Lib.hid hA
 have HT:=Lib.hid hT
 obtain ⟨i1,ji,jz0,jz1,jz2⟩:=info_parts Tryz.infoIntK
 obtain ⟨m,hm⟩:∃ m,m=L.length:=⟨_,rfl⟩
 rw [←hm] at hl ⊢
 have HM:=Lib.hid hm
 clear hPost hA hT hm
 go_enter Tryz.func42,Tryz.ntmps42
 go_wp2_with (at_make;refine wpList_make_full _ rfl (.tmp 8) (.tmp 8) 51 rfl (w.heap.size+1) 3 i1 (.int .i64 0) 1 Tryz.underlying51 ji jz0 jz1 .i64 .i64 _ _ m rfl rfl (by omega) (by omega) (by rw [jz2];omega) (by unfold maxLen;omega) (by simp) ?_)
 intro w1 hown hgr
 have hR:=Row.ofOwns hown
 rw [Q2t] at hR
 have hB0:=(Q8v w (.slice none 0 0) 104).2
 have HT1:=Lib.hid (show w1.heap[w.heap.size]?=some (.cells #[.slice none 0 0,.slice none 0 0] 104 (0,0)) from (hgr.block w.heap.size (by simp) (by simp)).trans (heap_alloc_new w _))
 have HB1:=Lib.hid (show Below w.heap.size w w1 from ((Below.refl _ _).alloc (Nat.le_refl _) _).trans (Z9 hgr (by simp) (by simp)))
 have HR1:=Lib.hid (show Tms w1 (w.heap.size+1) (List.replicate m 0) from hR)
 clear hown hgr hR hB0 ji jz0 jz1 jz2 i1
 go_wp2_with fail
 go_loopw [12] (fun t wr=>∃ (i:Nat) (A D:List Int),t = .int .i64 i∧A.length=i∧i≤m∧Hid (i+D.length=m)∧Hid (Tms wr (w.heap.size+1) (A++D))∧Hid (wr.heap[w.heap.size]?=some (.cells #[.slice none 0 0,.slice none 0 0] 104 (0,0)))∧Hid (Below w.heap.size w wr)) (fun t _=>m-(intOf t).toNat)
 case atStart=>exact ⟨0,[],List.replicate m 0,rfl,rfl,Nat.zero_le _,by simp [Hid],HR1.out,HT1.out,HB1.out⟩
 case round =>
  clear HT1 HR1 HB1
  obtain ⟨i,A,D,rfl,hAi,him,HD,HTM,HTB,HW⟩:=hrel
  obtain ⟨w3,hw3⟩:∃ w3,w3=wr:=⟨_,rfl⟩
  rw [←hw3] at HTM HTB HW ⊢
  clear hw3
  have HAI:=Lib.hid hAi
  clear hAi
  cases D with
  | cons y D =>
   have hlt:i<m:=by have:=HD.out;simp at this;omega
   have hd:decide (i<m)=true:=decide_eq_true hlt
   have hd2:decide ((i:Int)<(m:Int))=true:=decide_eq_true (by omega)
   obtain ⟨e,he⟩:∃ e,L[i]?=some e:=⟨_,List.getElem?_eq_getElem (by rw [←HM.out];exact hlt)⟩
   obtain ⟨b,o,hb,_,hp,k1,k2⟩:=HA.out i e he
   have c2:=Q8 HW.out hb k2
   subst hp
   have z0:=HTM.out.get (i:=i) (x:=y) (by rw [←HAI.out,List.getElem?_append_right (Nat.le_refl _),Nat.sub_self];rfl)
   have f0:=Qd HTM.out i
   have hset:=heap_setCell_same w3 (w.heap.size+1) i _ _ (.int .i64 e.at') HTM.out
   rw [List.setIfInBounds_toArray,Q86,set_app A D y e.at' i HAI.out] at hset
   have hbeh:Behind w3 [w.heap.size+1] (w3.setCell ⟨w.heap.size+1,i,none⟩ (.int .i64 e.at')):=⟨rfl,rfl,rfl,by simp,fun k _ hk=>heap_setCell_other _ _ _ _ (by simpa using hk)⟩
   have HTM8:=Lib.hid (show Tms (w3.setCell ⟨w.heap.size+1,i,none⟩ (.int .i64 e.at')) (w.heap.size+1) ((A++[e.at'])++D) from hset)
   have HTB8:=Lib.hid (hbeh.keep HTB.out (by simp))
   have HW8:=Lib.hid (HW.out.trans (hbeh.below_of (b:=w.heap.size) (by simp) HW.out.size))
   have HL8:=Lib.hid (show (A++[e.at']).length=i+1 by rw [List.length_append,HAI.out];rfl)
   have HD8:=Lib.hid (show i+1+D.length=m by have:=HD.out;simp at this;omega)
   generalize e.at'=at' at *
   clear he hb k1 k2 hset hbeh
   go_wp2_with fail
   go_roundw
   case rel=>exact ⟨i+1,A++[at'],D,by go_num,HL8.out,by omega,HD8.out,HTM8.out,HTB8.out,HW8.out⟩
   case measure=>simp [intOf];omega
  | nil =>
   have hlt:¬ i<m:=by have:=HD.out;simp at this;omega
   have hd:decide (i<m)=false:=decide_eq_false hlt
   have hd2:decide ((i:Int)<(m:Int))=false:=decide_eq_false (by omega)
   have hAm:A.length=m:=by have:=HD.out;have:=HAI.out;simp at *;omega
   have htm:=HTM.out
   rw [List.append_nil] at htm
   have KS:=gSortI A (w.heap.size+1) w3 htm (by omega)
   rw [hAm] at KS
   have KS':=Lib.hid KS
   clear htm KS hAm
   go_wp2_with fail
   refine KS'.out.mono ?_
   rintro e w4 ⟨rfl,hb4⟩
   have HTB4:=Lib.hid (hb4.keep HTB.out (by simp))
   have HW4:=Lib.hid (HW.out.trans (hb4.below_of (b:=w.heap.size) (by simp) HW.out.size))
   clear hb4 KS' HTM HTB HW
   have KC:=Q1m term q cq w4 ((HT.out.below HW4.out (Nat.le_refl _)).mono HW4.out.size) (by omega)
   go_wp2_with fail
   refine KC.mono ?_
   rintro e w5 ⟨v5,rfl,hr5,_,hb5⟩
   obtain ⟨p5,c5,hv5⟩:=hr5.slice
   subst hv5
   have HTB5:=Lib.hid ((Q4 hb5).keep HTB4.out (by simp))
   have HW5:=Lib.hid (HW4.out.trans (hb5.mono HW4.out.size))
   have z0:=Q5 HTB5.out 0 rfl
   have z1:=Q5 HTB5.out 1 rfl
   have f0:=Qd HTB5.out 0
   have f1:=Qd HTB5.out 1
   clear hr5 hb5 KC
   go_wp2_with fail
   refine bodyPost_ret (Qs (p:=4) rfl _ _ w.heap.size _ _ (0,0) _ rfl (Zg HTB5.out) Tryz.underlying104 rfl Tryz.sizeClaim) rfl ?_
   exact HP.out _ _ _ _ _ _ _ (HW5.out.trans (Kt (g:=w.heap.size) (by omega)))
end
/- The compiler in memory;one node more. -/
section
open Go.RowKit Go.Maps Go.MapKept
theorem Tryz.infoNode:(Tryz.prog.info? 102).map (fun i=>(i.zero,i.size,i.bytes))=some (some (.agg #[.int .i64 0,.int .i64 0,.slice none 0 0]),3,40):=by kernel_rfl
theorem Tryz.infoClaim:(Tryz.prog.info? 104).map (fun i=>(i.zero,i.size,i.bytes))=some (some (.agg #[.slice none 0 0,.slice none 0 0]),2,48):=by kernel_rfl
def MapAll (w:World) (g:Nat) (P:Value→Value→Prop):Prop:=∃ es clock,w.heap[g]?=some (.map es clock)∧∀ e∈es.toList,P e.key e.val
theorem MapAll.keep {w w':World} {U:List Nat} {g:Nat} {P:Value→Value→Prop} (h:MapAll w g P) (hB:Behind w U w') (hU:g∉U):MapAll w' g P:=by
 obtain ⟨es,clock,hb,h2⟩:=h
 exact ⟨es,clock,hB.keep hb hU,h2⟩
theorem MapAll.imp {w:World} {g:Nat} {P Q:Value→Value→Prop} (h:MapAll w g P) (hp:∀ k v,P k v→Q k v):MapAll w g Q:=by
 obtain ⟨es,clock,hb,h2⟩:=h
 exact ⟨es,clock,hb,fun e he=>hp _ _ (h2 e he)⟩
theorem MapAll.lt {w:World} {g:Nat} {P:Value→Value→Prop} (h:MapAll w g P):g<w.heap.size:=by
 obtain ⟨es,clock,hb,h2⟩:=h
 exact Q9 hb
def Jc (gc gl gd:Nat) (v u:Value):List Nat:=gc::gl::gd::(Q7 v++Q7 u)
def okC (F:Nat→Prop) (gc gl gd:Nat) (v u:Value) (b:Nat):Prop:=b∉Jc gc gl gd v u∧¬ F b
theorem Qv {gc gl gd b:Nat} {v u:Value}:b∈Jc gc gl gd v u↔b=gc∨b=gl∨b=gd∨b∈Q7 v∨b∈Q7 u:=by simp [Jc]
def litP (n:Nat) (ns:List Nd) (k x:Value):Prop:=∃ (l:Int) (i:Nat),k = .int .i64 l∧l.natAbs≤128∧x = .int .i64 i∧IsLit n ns i l
def doneP (ns:List Nd) (k x:Value):Prop:=∃ (s:ByteArray) (i:Nat),k = .string s∧s.size≤maxLen∧x = .int .i64 i∧i<ns.length∧∀ L,(∀ c∈L,∀ x∈c,x≠0)→s=⟨(O7 L).toArray⟩→Means ns i L
theorem litP.app {n:Nat} {ns:List Nd} {k x:Value} (h:litP n ns k x) (ms:List Nd):litP n (ns++ms) k x:=by
 obtain ⟨l,i,h1,h0,h2,h3⟩:=h
 exact ⟨l,i,h1,h0,h2,h3.app ms⟩
theorem doneP.app {ns:List Nd} {k x:Value} (h:doneP ns k x) (ms:List Nd):doneP (ns++ms) k x:=by
 obtain ⟨s,i,h1,h0,h2,h3,h4⟩:=h
 exact ⟨s,i,h1,h0,h2,by rw [List.length_append];omega,fun L hL e=>(h4 L hL e).app ms⟩
def NodeRow (ok:Nat→Prop) (w:World) (v:Value) (ns:List Nd):Prop:=∃ cl,RowV (inW w) 102 3 v ns.length cl∧∀ (i:Nat) (g:Nd),ns[i]?=some g→∃ p c,cl[i*3]?=some (.int .i64 g.k)∧cl[i*3+1]?=some (.int .i64 g.lit)∧cl[i*3+2]?=some (.slice p g.ins.length c)∧InsP ok w p g.ins
theorem NodeRow.imp {ok ok':Nat→Prop} {w:World} {v:Value} {ns:List Nd} (h:NodeRow ok w v ns) (hk:∀ g,g<w.heap.size→ok g→ok' g):NodeRow ok' w v ns:=by
 obtain ⟨cl,h1,h2⟩:=h
 refine ⟨cl,h1,fun i g hg=>?_⟩
 obtain ⟨p,c,k1,k2,k3,k4⟩:=h2 i g hg
 exact ⟨p,c,k1,k2,k3,k4.imp hk⟩
theorem NodeRow.keep {ok:Nat→Prop} {w w':World} {v:Value} {ns:List Nd} {U:List Nat} (h:NodeRow ok w v ns) (hB:Behind w U w') (hU:∀ g∈U,g∉Q7 v∧(ok g→w.heap.size≤g)):NodeRow ok w' v ns:=by
 obtain ⟨cl,h1,h2⟩:=h
 refine ⟨cl,h1.keep hB (fun g hg hu=>(hU g hu).1 hg),fun i g hg=>?_⟩
 obtain ⟨p,c,k1,k2,k3,k4⟩:=h2 i g hg
 exact ⟨p,c,k1,k2,k3,k4.keep hB (fun g hg=>(hU g hg).2)⟩
structure CS (F:Nat→Prop) (N:Nat) (w:World) (gc n gl gd:Nat) (cache:Bool) (v u:Value) (ns:List Nd):Prop where
 blk:Q19 w gc n cache v u gl gd
 nodes:NodeRow (okC F gc gl gd v u) w v ns
 claims:∃ cl,RowV (inW w) 104 2 u ns.length cl
 lits:MapAll w gl (litP n ns)
 done:MapAll w gd (doneP ns)
 d1:gc≠gl∧gc≠gd∧gl≠gd
 d2:∀ g∈Q7 v,g≠gc∧g≠gl∧g≠gd∧g∉Q7 u
 d3:∀ g∈Q7 u,g≠gc∧g≠gl∧g≠gd
 ge:∀ g∈Jc gc gl gd v u,N≤g
 net:NetG n ns
 bas:N≤w.heap.size
 hF:∀ b,F b→b<w.heap.size
theorem CS.lt {F:Nat→Prop} {N:Nat} {w:World} {gc n gl gd:Nat} {cache:Bool} {v u:Value} {ns:List Nd} (h:CS F N w gc n gl gd cache v u ns):∀ g∈Jc gc gl gd v u,g<w.heap.size:=fun g hg=>by
 obtain ⟨cl,h1,_⟩:=h.nodes
 obtain ⟨cl2,h2⟩:=h.claims
 rcases Qv.1 hg with rfl | rfl | rfl | hg | hg
 ·exact Q9 h.blk
 ·exact h.lits.lt
 ·exact h.done.lt
 ·exact h1.lt g hg
 ·exact h2.lt g hg
theorem CS.sv {F:Nat→Prop} {N:Nat} {w:World} {gc n gl gd:Nat} {cache:Bool} {v u:Value} {ns:List Nd} (h:CS F N w gc n gl gd cache v u ns):(∃ p c,v = .slice p ns.length c)∧∃ p c,u = .slice p ns.length c:=by
 obtain ⟨cl,h1,_⟩:=h.nodes
 obtain ⟨cl2,h2⟩:=h.claims
 exact ⟨h1.slice,h2.slice⟩
theorem CS.below {F:Nat→Prop} {N:Nat} {w w':World} {gc n gl gd:Nat} {cache:Bool} {v u:Value} {ns:List Nd} (h:CS F N w gc n gl gd cache v u ns) (hb:Below w.heap.size w w'):CS F N w' gc n gl gd cache v u ns:=by
 have hB:=Q4 hb
 obtain ⟨cl2,h2⟩:=h.claims
 exact ⟨hB.keep h.blk (by simp),h.nodes.keep hB (by simp),⟨cl2,h2.keep hB (by simp)⟩,h.lits.keep hB (by simp),h.done.keep hB (by simp),h.d1,h.d2,h.d3,h.ge,h.net,Nat.le_trans h.bas hb.size,fun b hk=>Nat.lt_of_lt_of_le (h.hF b hk) hb.size⟩
structure Later (w w':World) (gc gl gd:Nat) (v u v' u':Value) (ns ns':List Nd):Prop where
 be:Behind w (Jc gc gl gd v u) w'
 sub:∀ g∈Jc gc gl gd v' u',g∈Jc gc gl gd v u∨w.heap.size≤g
 ext:∃ ms,ns'=ns++ms
theorem Later.refl (w:World) (gc gl gd:Nat) (v u:Value) (ns:List Nd):Later w w gc gl gd v u v u ns ns:=⟨Behind.refl _ _,fun g hg=>.inl hg,[],by simp⟩
theorem Later.of_below {w w':World} {gc gl gd:Nat} {v u:Value} {ns:List Nd} (hb:Below w.heap.size w w'):Later w w' gc gl gd v u v u ns ns:=⟨(Q4 hb).mono (by simp),fun g hg=>.inl hg,[],by simp⟩
theorem Later.trans {w w' w'':World} {gc gl gd:Nat} {v u v' u' v'' u'':Value} {ns ns' ns'':List Nd} (h:Later w w' gc gl gd v u v' u' ns ns') (k:Later w' w'' gc gl gd v' u' v'' u'' ns' ns''):Later w w'' gc gl gd v u v'' u'' ns ns'':=by
 obtain ⟨m1,e1⟩:=h.ext
 obtain ⟨m2,e2⟩:=k.ext
 refine ⟨h.be.trans k.be h.sub,fun g hg=>(k.sub g hg).elim (h.sub g) (fun e=>.inr (Nat.le_trans h.be.size e)),m1++m2,by rw [e2,e1,List.append_assoc]⟩
theorem Later.ok {F:Nat→Prop} {w w':World} {gc gl gd:Nat} {v u v' u':Value} {ns ns':List Nd} (h:Later w w' gc gl gd v u v' u' ns ns') {g:Nat} (hg:g<w.heap.size) (hk:okC F gc gl gd v u g):okC F gc gl gd v' u' g:=⟨fun hm=>(h.sub g hm).elim hk.1 (fun e=>by omega),hk.2⟩
theorem Later.ins {F:Nat→Prop} {w w':World} {gc gl gd:Nat} {v u v' u':Value} {ns ns':List Nd} (h:Later w w' gc gl gd v u v' u' ns ns') {p:Option Addr} {xs:List Int} (hi:InsP (okC F gc gl gd v u) w p xs):InsP (okC F gc gl gd v' u') w' p xs :=
 ((hi.imp (fun g hg hk=>(⟨hk,hg⟩:okC F gc gl gd v u g∧g<w.heap.size))).keep h.be (fun g hg hk=>(hk.1.1 hg).elim)).imp fun g _ hk=>h.ok hk.2 hk.1
theorem Later.cls {F:Nat→Prop} {w w':World} {gc gl gd:Nat} {v u v' u':Value} {ns ns':List Nd} (h:Later w w' gc gl gd v u v' u' ns ns') {p:Option Addr} {L:List Ce} (hi:ClsP (okC F gc gl gd v u) w p L):ClsP (okC F gc gl gd v' u') w' p L :=
 ((hi.imp (fun g hg hk=>(⟨hk,hg⟩:okC F gc gl gd v u g∧g<w.heap.size))).keep h.be (fun g hg hk=>(hk.1.1 hg).elim)).imp fun g _ hk=>h.ok hk.2 hk.1
theorem Later.ce {F:Nat→Prop} {w w':World} {gc gl gd:Nat} {v u v' u':Value} {ns ns':List Nd} (h:Later w w' gc gl gd v u v' u' ns ns') {e:Ce} (hi:CeOk (okC F gc gl gd v u) w e):CeOk (okC F gc gl gd v' u') w' e:=⟨h.ins hi.ins,hi.sm,hi.len⟩
theorem CS.grow {F:Nat→Prop} {N:Nat} {w x:World} {gc n gl gd:Nat} {cache:Bool} {v u v' u':Value} {ns:List Nd} {g:Nd} {p:Option Addr} {c:Nat} {cl cl':List Value} (h:CS F N w gc n gl gd cache v u ns) (hI:InsP (okC F gc gl gd v u) w p g.ins)
  (hcc:∀ (i:Nat) (g:Nd),ns[i]?=some g→∃ p c,cl[i*3]?=some (.int .i64 g.k)∧cl[i*3+1]?=some (.int .i64 g.lit)∧cl[i*3+2]?=some (.slice p g.ins.length c)∧InsP (okC F gc gl gd v u) w p g.ins) (hcl:cl.length=ns.length*3)
  (hB:Behind w (gc::(Q7 v++Q7 u)) x) (hC:Q19 x gc n cache v' u' gl gd) (hr:RowV (inW x) 102 3 v' (ns.length+1) (cl++[.int .i64 g.k,.int .i64 g.lit,.slice p g.ins.length c])) (hr2:RowV (inW x) 104 2 u' (ns.length+1) cl')
  (hv:∀ k∈Q7 v',k∈Q7 v∨w.heap.size≤k) (hu:∀ k∈Q7 u',k∈Q7 u∨w.heap.size≤k) (hd:∀ k∈Q7 v',k∉Q7 u') (hg:NetG n (ns++[g])) :
  CS F N x gc n gl gd cache v' u' (ns++[g])∧Later w x gc gl gd v u v' u' ns (ns++[g]):=by
 have hlt:=h.lt
 have hL:Later w x gc gl gd v u v' u' ns (ns++[g]):=by
  refine ⟨hB.mono (fun k hk=>?_),fun k hk=>?_,[g],rfl⟩
  ·rcases List.mem_cons.1 hk with rfl | hk
   ·exact Qv.2 (.inl rfl)
   ·rcases List.mem_append.1 hk with hk | hk
    ·exact Qv.2 (.inr (.inr (.inr (.inl hk))))
    ·exact Qv.2 (.inr (.inr (.inr (.inr hk))))
  ·rcases Qv.1 hk with rfl | rfl | rfl | hk | hk
   ·exact .inl (Qv.2 (.inl rfl))
   ·exact .inl (Qv.2 (.inr (.inl rfl)))
   ·exact .inl (Qv.2 (.inr (.inr (.inl rfl))))
   ·exact (hv k hk).imp (fun e=>Qv.2 (.inr (.inr (.inr (.inl e))))) id
   ·exact (hu k hk).imp (fun e=>Qv.2 (.inr (.inr (.inr (.inr e))))) id
 have l1:=hlt gc (Qv.2 (.inl rfl))
 have l2:=hlt gl (Qv.2 (.inr (.inl rfl)))
 have l3:=hlt gd (Qv.2 (.inr (.inr (.inl rfl))))
 have nl:∀ k,k=gl∨k=gd→k∉gc::(Q7 v++Q7 u):=fun k hk hm=>by
  have d:=h.d1
  rcases List.mem_cons.1 hm with e | hm
  ·rcases hk with e2 | e2<;>omega
  ·rcases List.mem_append.1 hm with hm | hm
   ·have:=h.d2 k hm
    rcases hk with e2 | e2<;>omega
   ·have:=h.d3 k hm
    rcases hk with e2 | e2<;>omega
 refine ⟨⟨hC,⟨_,by rw [List.length_append];exact hr,fun i y hy=>?_⟩,⟨cl',by rw [List.length_append];exact hr2⟩,(h.lits.keep hB (nl gl (.inl rfl))).imp fun _ _ hp=>hp.app [g],(h.done.keep hB (nl gd (.inr rfl))).imp fun _ _ hp=>hp.app [g],h.d1,fun k hk=>?_,fun k hk=>?_,fun k hk=>?_,hg,Nat.le_trans h.bas hB.size,fun b hb=>Nat.lt_of_lt_of_le (h.hF b hb) hB.size⟩,hL⟩
 ·rcases Av hy with ⟨hy2,hi⟩ | ⟨rfl,rfl⟩
  ·obtain ⟨p',c',k1,k2,k3,k4⟩:=hcc i y hy2
   exact ⟨p',c',by rw [List.getElem?_append_left (by omega)];exact k1,by rw [List.getElem?_append_left (by omega)];exact k2,by rw [List.getElem?_append_left (by omega)];exact k3,hL.ins k4⟩
  ·refine ⟨p,c,?_,?_,?_,hL.ins hI⟩
   ·rw [List.getElem?_append_right (by omega),hcl,Nat.sub_self];rfl
   ·rw [List.getElem?_append_right (by omega),hcl,show ns.length*3+1-ns.length*3=1 by omega];rfl
   ·rw [List.getElem?_append_right (by omega),hcl,show ns.length*3+2-ns.length*3=2 by omega];rfl
 ·rcases hv k hk with h1 | h1
  ·obtain ⟨a1,a2,a3,_⟩:=h.d2 k h1
   exact ⟨a1,a2,a3,hd k hk⟩
  ·exact ⟨by omega,by omega,by omega,hd k hk⟩
 ·rcases hu k hk with h1 | h1
  ·exact h.d3 k h1
  ·exact ⟨by omega,by omega,by omega⟩
 ·exact (hL.sub k hk).elim (h.ge k) (fun e=>Nat.le_trans h.bas e)
theorem Q5c (w:World) (xs ys:Array Value) (T U:TypeId):((w.alloc (Obj.cells xs T)).alloc (Obj.cells ys U)).heap[w.heap.size]?=some (.cells xs T (0,0)) ∧
  ((w.alloc (Obj.cells xs T)).alloc (Obj.cells ys U)).heap[w.heap.size+1]?=some (.cells ys U (0,0))∧Below w.heap.size w ((w.alloc (Obj.cells xs T)).alloc (Obj.cells ys U)):=by
 refine ⟨?_,?_,((Below.refl _ _).alloc (Nat.le_refl _) _).alloc (by simp) _⟩
 ·exact (heap_alloc_old _ _ (by simp)).trans (heap_alloc_new w _)
 ·have:=heap_alloc_new (w.alloc (Obj.cells xs T)) (Obj.cells ys U)
  simpa using this
theorem Zs (w:World) (g i:Nat) (x:Value):Behind w [g] (w.setCell ⟨g,i,none⟩ x):=⟨rfl,rfl,rfl,by simp,fun k _ hk=>heap_setCell_other _ _ _ _ (by simpa using hk)⟩
set_option maxHeartbeats 6400000 in
set_option maxRecDepth 100000 in
theorem Q4f (F:Nat→Prop) (N gc n gl gd:Nat) (cache:Bool) (v u:Value) (ns:List Nd) (g:Nd) (p:Option Addr) (c:Nat) (p1:Option Addr) (n1 c1:Nat) (p2:Option Addr) (n2 c2:Nat) (w:World) (hS:CS F N w gc n gl gd cache v u ns) (hI:InsP (okC F gc gl gd v u) w p g.ins) (hl:ns.length<65536) (hg:NetG n (ns++[g])) :
  Calls Tryz.prog 40 #[.pointer (some ⟨gc,0,none⟩),.agg #[.int .i64 g.k,.int .i64 g.lit,.slice p g.ins.length c],.agg #[.slice p1 n1 c1,.slice p2 n2 c2]] w fun e w'=>∃ v' u',e = .returned (.int .i64 (ns.length:Nat))∧CS F N w' gc n gl gd cache v' u' (ns++[g])∧Later w w' gc gl gd v u v' u' ns (ns++[g]):=by
 obtain ⟨Post,hPost⟩:∃ P:Ending→World→Prop,P=fun e w'=>∃ v' u',e = .returned (.int .i64 (ns.length:Nat))∧CS F N w' gc n gl gd cache v' u' (ns++[g])∧Later w w' gc gl gd v u v' u' ns (ns++[g]):=⟨_,rfl⟩
 rw [←hPost]
 have HP:=Lib.hid (show ∀ (v' u':Value) (w':World),CS F N w' gc n gl gd cache v' u' (ns++[g])→Later w w' gc gl gd v u v' u' ns (ns++[g])→Post (.returned (.int .i64 (ns.length:Nat))) w' from fun v' u' w' h1 h2=>by rw [hPost];exact ⟨v',u',rfl,h1,h2⟩)
 have HS:=Lib.hid hS
 have HI:=Lib.hid hI
 have HGN:=Lib.hid hg
 obtain ⟨i0,ii,iz0,iz1,iz2⟩:=info_parts Tryz.infoNode
 have II:=Lib.hid ii
 have IZ0:=Lib.hid iz0
 have IZ1:=Lib.hid iz1
 have IZ2:=Lib.hid iz2
 clear ii iz0 iz1 iz2
 obtain ⟨j0,ii,iz0,iz1,iz2⟩:=info_parts Tryz.infoClaim
 have JI:=Lib.hid ii
 have JZ0:=Lib.hid iz0
 have JZ1:=Lib.hid iz1
 have JZ2:=Lib.hid iz2
 clear ii iz0 iz1 iz2
 obtain ⟨⟨pv,cv,hv⟩,⟨pu,cu,hu⟩⟩:=hS.sv
 obtain ⟨cl,hcl,hcc⟩:=hS.nodes
 obtain ⟨cl2,hcl2⟩:=hS.claims
 have HCL:=Lib.hid hcl
 have HCC:=Lib.hid hcc
 have HCL2:=Lib.hid hcl2
 have HCLL:=Lib.hid hcl.length
 have HLT:=Lib.hid hS.lt
 obtain ⟨gk,glit,gins⟩:=g
 dsimp only at *
 obtain ⟨m,hm⟩:∃ m,m=ns.length:=⟨_,rfl⟩
 rw [←hm] at hl hv hu
 have HM:=Lib.hid hm
 subst hv hu
 clear hPost hS hI hg hcl hcc hcl2 hm
 have hne:((m:Int) == 65536)=false:=J7 (by omega)
 go_enter Tryz.func40,Tryz.ntmps40
 go_upto_region 1 with fail
 refine Qg ?_
 intro w1 hw1
 have HA1:=Lib.hid (show w1.heap[w.heap.size]?=some (.cells #[.int .i64 gk,.int .i64 glit,.slice p gins.length c] 102 (0,0)) by rw [hw1];exact (Q5c w _ _ _ _).1)
 have HB1:=Lib.hid (show w1.heap[w.heap.size+1]?=some (.cells #[.slice p1 n1 c1,.slice p2 n2 c2] 104 (0,0)) by rw [hw1];exact (Q5c w _ _ _ _).2.1)
 have HL1:=Lib.hid (show Below w.heap.size w w1 by rw [hw1];exact (Q5c w _ _ _ _).2.2)
 clear hw1
 have HS1:=Lib.hid (HS.out.below HL1.out)
 have q2:=Q5 HS1.out.blk 4 rfl
 have Q2:=Lib.hid q2
 have X0:=Lib.hid (Q5 HA1.out 0 rfl)
 have X1:=Lib.hid (Q5 HA1.out 1 rfl)
 have X2:=Lib.hid (Q5 HA1.out 2 rfl)
 have HCL1:=Lib.hid (HCL.out.keep (Q4 HL1.out) (by simp))
 have HCL21:=Lib.hid (HCL2.out.keep (Q4 HL1.out) (by simp))
 clear HCL HCL2
 rw [←HM.out] at HCL1 HCL21
 go_upto_region 3 with fail
 clear q2
 obtain ⟨kF1,hkF1⟩:∃ kF1,kF1=kA (.slice pv m cv) m 1:=⟨_,rfl⟩
 have hkF1':kF1=2∨kF1=5:=by rw [hkF1];exact Q18 _ _ _
 have HK1:=Lib.hid hkF1
 clear hkF1
 have HLT1:=Lib.hid HCL1.out.lt
 refine Zi 10 [0,0,0,0,0,0,3,kF1,0,0,0] (Q7 (.slice pv m cv)) (Q3l w1 (.slice pv m cv)) (Ai _ _) (Ap _ _) (by kernel_rfl) (by rcases hkF1' with h | h<;>rw [h]<;>kernel_rfl) ?_
 simp only [List.take_succ_cons,List.take_zero]
 have hgv:gc∉Q7 (.slice pv m cv):=fun h=>(HS.out.d2 gc h).1 rfl
 have hgu:gc∉Q7 (.slice pu m cu):=fun h=>(HS.out.d3 gc h).1 rfl
 have HGV:=Lib.hid hgv
 have HGU:=Lib.hid hgu
 refine Qb 6 (by kernel_rfl) (by rfl) ?_
 apply Exists.intro
 refine ⟨fun z hz=>?_,?_⟩
 ·have f0:=Q6 hz Q2.out HGV.out
  have hwl:=HLT.out
  have hn8:w.heap.size∉Q7 (.slice pv m cv):=fun h=>by have:=hwl _ (Qv.2 (.inr (.inr (.inr (.inl h)))));omega
  have f1:=Q6 hz X0.out hn8
  have f2:=Q6 hz X1.out hn8
  have f3:=Q6 hz X2.out hn8
  clear hz hwl hn8
  simp only [List.take_succ_cons,List.take_zero]
  unfold Cx
  repeat (go_big_quiet_step (fail))
  exact wpQuiet_nil rfl
 simp only [List.drop_succ_cons,List.drop_zero]
 refine Kw 1 (.cells #[.int .i64 gk,.int .i64 glit,.slice p gins.length c] 102) (by rfl) (fun x=>by go_simp) (fun g21 q21 hn21=>?_)
 unfold Qk
 go_big_quiet_step (fail)
 refine wpQuiet_nil ?_
 have n21v:g21∉Q7 (.slice pv m cv):=fun h=>by have:=HLT1.out g21 h;omega
 clear hn21
 refine Yu (.tmp 19) (.tmp 21) 31 102 i0 _ 3 40 Tryz.underlying31 II.out IZ0.out IZ1.out IZ2.out (by rfl) (.slice pv m cv) m cl ((Uh HCL1.out).of_put n21v) (by rfl) g21 1 1 [.int .i64 gk,.int .i64 glit,.slice p gins.length c] 102 (by rfl) (Blocks.put_same _ _ _) rfl (by simp [Value.oneCell']) (by omega) (by unfold maxLen;omega) (by omega) (fun g hg=>.inl hg) HK1.out (fun g22 c22 ob22 hr22 hg22=>?_)
 unfold Qk
 go_big_quiet_step (fail)
 refine wpQuiet_nil ?_
 refine Qb 2 (by kernel_rfl) (by rfl) ?_
 apply Exists.intro
 refine ⟨fun z hz=>?_,?_⟩
 ·clear hz
  simp only [List.take_succ_cons,List.take_zero]
  unfold Cx
  repeat (go_big_quiet_step (fail))
  exact wpQuiet_nil rfl
 simp only [List.drop_succ_cons,List.drop_zero]
 refine Qf ?_
 intro x2 hx2 hH2
 have HN22:=Lib.hid (show ∀ k∈Q7 (.slice (some ⟨g22,0,none⟩) (m+1) c22),k∈Q7 (.slice pv m cv)∨w1.heap.size≤k from fun k hk=>by
  have:k=g22:=by simpa [Q7] using hk
  subst this
  exact hg22.imp id (fun h=>h.1))
 have hR2:=hr22.of_has hH2
 have hC2:x2.heap[gc]?=_:=hx2.keep HS1.out.blk HGV.out
 have hdis:∀ k∈Q7 (.slice pu m cu),k∉Q7 (.slice pv m cv):=fun k hk hk2=>(HS.out.d2 k hk2).2.2.2 hk
 have hU2:=HCL21.out.keep hx2 hdis
 have hB2:x2.heap[w.heap.size+1]?=_:=hx2.keep HB1.out (fun h=>by have:=HLT.out _ (Qv.2 (.inr (.inr (.inr (.inl h)))));omega)
 have hbeh:=Zs x2 gc 4 (.slice (some ⟨g22,0,none⟩) (m+1) c22)
 have hgcl:=HLT.out gc (Qv.2 (.inl rfl))
 have hgc22:gc∉Q7 (.slice (some ⟨g22,0,none⟩) (m+1) c22):=fun h=>(HN22.out gc h).elim HGV.out (fun e=>by have:=HL1.out.size;omega)
 have HC3:=Lib.hid (show Q19 (x2.setCell ⟨gc,4,none⟩ (.slice (some ⟨g22,0,none⟩) (m+1) c22)) gc n cache (.slice (some ⟨g22,0,none⟩) (m+1) c22) (.slice pu m cu) gl gd from heap_setCell_same x2 gc 4 _ _ _ hC2)
 have HR3:=Lib.hid (hR2.keep hbeh (fun k hk h=>hgc22 (by simp at h;rw [h] at hk;exact hk)))
 have HU3:=Lib.hid (hU2.keep hbeh (fun k hk h=>HGU.out (by simp at h;rw [h] at hk;exact hk)))
 have HB3:=Lib.hid (hbeh.keep hB2 (by simp;omega))
 have HX3:=Lib.hid (show Behind w (gc::(Q7 (.slice pv m cv)++Q7 (.slice pu m cu))) (x2.setCell ⟨gc,4,none⟩ (.slice (some ⟨g22,0,none⟩) (m+1) c22)) from
  (((Q4 HL1.out).mono (by simp)).trans (hx2.mono (fun k hk=>List.mem_cons_of_mem gc (List.mem_append_left (Q7 (.slice pu m cu)) hk))) (fun k hk=>.inl hk)).trans hbeh (fun k hk=>.inl (by rw [show k=gc by simpa using hk];exact List.mem_cons_self ..)))
 have hc4:=Q5 hC2 4 rfl
 have hf4:=Qd hC2 4
 have HN23:=Lib.hid (show ∀ k∈Q7 (.slice (some ⟨g22,0,none⟩) (m+1) c22),k∈Q7 (.slice pv m cv)∨w.heap.size≤k from fun k hk=>(HN22.out k hk).imp id (fun e=>by have:=HL1.out.size;omega))
 clear hx2 hH2 hr22 hg22 hR2 hC2 hU2 hB2 hbeh n21v q21 hgv hgu hkF1' HLT1 HCL1 HCL21 HS1 Q2 X0 X1 X2 HA1 HB1 HL1 hdis HN22
 go_upto_region 4 with fail
 clear hc4 hf4
 generalize (x2.setCell ⟨gc,4,none⟩ (.slice (some ⟨g22,0,none⟩) (m+1) c22))=x3 at *
 have Q3:=Lib.hid (Q5 HC3.out 5 rfl)
 have X0:=Lib.hid (Q5 HB3.out 0 rfl)
 have X1:=Lib.hid (Q5 HB3.out 1 rfl)
 obtain ⟨kF1,hkF1⟩:∃ kF1,kF1=kA (.slice pu m cu) m 1:=⟨_,rfl⟩
 have hkF1':kF1=2∨kF1=5:=by rw [hkF1];exact Q18 _ _ _
 have HK3:=Lib.hid hkF1
 clear hkF1 HK1
 have HLT1:=Lib.hid HU3.out.lt
 refine Zi 10 [0,0,0,0,0,0,3,kF1,0,0,0] (Q7 (.slice pu m cu)) (Q3l x3 (.slice pu m cu)) (Ai _ _) (Ap _ _) (by kernel_rfl) (by rcases hkF1' with h | h<;>rw [h]<;>kernel_rfl) ?_
 simp only [List.take_succ_cons,List.take_zero]
 refine Qb 6 (by kernel_rfl) (by rfl) ?_
 apply Exists.intro
 refine ⟨fun z hz=>?_,?_⟩
 ·have f0:=Q6 hz Q3.out HGU.out
  have hwl:=HLT.out
  have hn8:w.heap.size+1∉Q7 (.slice pu m cu):=fun h=>by have:=hwl _ (Qv.2 (.inr (.inr (.inr (.inr h)))));omega
  have f1:=Q6 hz X0.out hn8
  have f2:=Q6 hz X1.out hn8
  clear hz hwl hn8
  simp only [List.take_succ_cons,List.take_zero]
  unfold Cx
  repeat (go_big_quiet_step (fail))
  exact wpQuiet_nil rfl
 simp only [List.drop_succ_cons,List.drop_zero]
 refine Kw 1 (.cells #[.slice p1 n1 c1,.slice p2 n2 c2] 104) (by rfl) (fun x=>by go_simp) (fun g31 q31 hn31=>?_)
 unfold Qk
 go_big_quiet_step (fail)
 refine wpQuiet_nil ?_
 have n31v:g31∉Q7 (.slice pu m cu):=fun h=>by have:=HLT1.out g31 h;omega
 clear hn31
 refine Yu (.tmp 29) (.tmp 31) 34 104 j0 _ 2 48 Tryz.underlying34 JI.out JZ0.out JZ1.out JZ2.out (by rfl) (.slice pu m cu) m cl2 ((Uh HU3.out).of_put n31v) (by rfl) g31 1 1 [.slice p1 n1 c1,.slice p2 n2 c2] 104 (by rfl) (Blocks.put_same _ _ _) rfl (by simp [Value.oneCell']) (by omega) (by unfold maxLen;omega) (by omega) (fun g hg=>.inl hg) HK3.out (fun g32 c32 ob32 hr32 hg32=>?_)
 unfold Qk
 go_big_quiet_step (fail)
 refine wpQuiet_nil ?_
 refine Qb 2 (by kernel_rfl) (by rfl) ?_
 apply Exists.intro
 refine ⟨fun z hz=>?_,?_⟩
 ·clear hz
  simp only [List.take_succ_cons,List.take_zero]
  unfold Cx
  repeat (go_big_quiet_step (fail))
  exact wpQuiet_nil rfl
 simp only [List.drop_succ_cons,List.drop_zero]
 refine Qf ?_
 intro x4 hx4 hH4
 have HN32:=Lib.hid (show ∀ k∈Q7 (.slice (some ⟨g32,0,none⟩) (m+1) c32),k∈Q7 (.slice pu m cu)∨x3.heap.size≤k from fun k hk=>by
  have:k=g32:=by simpa [Q7] using hk
  subst this
  exact hg32.imp id (fun h=>h.1))
 have hR4:=hr32.of_has hH4
 have hC4:x4.heap[gc]?=_:=hx4.keep HC3.out HGU.out
 have hdv:∀ k∈Q7 (.slice (some ⟨g22,0,none⟩) (m+1) c22),k∉Q7 (.slice pu m cu):=fun k hk hk2=>(HN23.out k hk).elim (fun h=>(HS.out.d2 k h).2.2.2 hk2) (fun h=>by have:=HLT.out k (Qv.2 (.inr (.inr (.inr (.inr hk2)))));omega)
 have hV4:=HR3.out.keep hx4 hdv
 have hbeh:=Zs x4 gc 5 (.slice (some ⟨g32,0,none⟩) (m+1) c32)
 have hsz3:=HX3.out.size
 have hgc32:gc∉Q7 (.slice (some ⟨g32,0,none⟩) (m+1) c32):=fun h=>(HN32.out gc h).elim HGU.out (fun e=>by omega)
 have HC5:=Lib.hid (show Q19 (x4.setCell ⟨gc,5,none⟩ (.slice (some ⟨g32,0,none⟩) (m+1) c32)) gc n cache (.slice (some ⟨g22,0,none⟩) (m+1) c22) (.slice (some ⟨g32,0,none⟩) (m+1) c32) gl gd from heap_setCell_same x4 gc 5 _ _ _ hC4)
 have HU5:=Lib.hid (hR4.keep hbeh (fun k hk h=>hgc32 (by simp at h;rw [h] at hk;exact hk)))
 have HV5:=Lib.hid (hV4.keep hbeh (fun k hk h=>hgc22 (by simp at h;rw [h] at hk;exact hk)))
 have HX5:=Lib.hid (show Behind w (gc::(Q7 (.slice pv m cv)++Q7 (.slice pu m cu))) (x4.setCell ⟨gc,5,none⟩ (.slice (some ⟨g32,0,none⟩) (m+1) c32)) from
  (HX3.out.trans (hx4.mono (fun k hk=>List.mem_cons_of_mem gc (List.mem_append_right (Q7 (.slice pv m cv)) hk))) (fun k hk=>.inl hk)).trans hbeh (fun k hk=>.inl (by rw [show k=gc by simpa using hk];exact List.mem_cons_self ..)))
 have HDV:=Lib.hid (show ∀ k∈Q7 (.slice (some ⟨g22,0,none⟩) (m+1) c22),k∉Q7 (.slice (some ⟨g32,0,none⟩) (m+1) c32) from fun k hk hk2=>(HN32.out k hk2).elim (hdv k hk) (fun e=>by have:=HR3.out.lt k hk;omega))
 have HNU:=Lib.hid (show ∀ k∈Q7 (.slice (some ⟨g32,0,none⟩) (m+1) c32),k∈Q7 (.slice pu m cu)∨w.heap.size≤k from fun k hk=>(HN32.out k hk).imp id (fun e=>by omega))
 have hc5:=Q5 hC4 5 rfl
 have hf5:=Qd hC4 5
 have hc4:=Q5 HC5.out 4 rfl
 have hl5:=HV5.out
 have hl6:=HU5.out
 rw [HM.out] at hl5 hl6
 have HF:=Lib.hid (HS.out.grow (g:=⟨gk,glit,gins⟩) (cl:=cl) HI.out HCC.out HCLL.out HX5.out HC5.out (by rw [←HM.out];exact HV5.out) (by rw [←HM.out];exact HU5.out) HN23.out HNU.out HDV.out HGN.out)
 have HFF:=Lib.hid (HP.out _ _ _ HF.out.1 HF.out.2)
 have hff:=HFF.out
 rw [←HM.out] at hff
 have HF3:=Lib.hid hff
 clear hx4 hH4 hr32 hg32 hR4 hC4 hV4 hbeh n31v q31 hkF1' HLT1 hff HFF HF hl5 hl6 hdv hgc32 hgc22
 go_wp2_with fail
 exact HF3.out
end
end Go.Proofs.YtcpehljpegfckaaGreatDoor
