/- Texts of this claim,joined: DF2,DF3. -/
import Derived.Test.YtcpehljpegfckaaGreatDoorMT15
import Derived.Test.YtcpehljpegfckaaGreatDoorMT17
import Derived.Test.YtcpehljpegfckaaGreatDoorMT11
import Derived.RangeFuncNested
import Derived.RangeFuncBound
import Derived.RangeFuncCalls
import Derived.RangeFuncLeaves
import Derived.Shelf.Abstract
import Derived.Shelf.RegionOpen
import Derived.WalkKit
import Derived.OwnWalkIn
import Derived.TacticsInMore
import Derived.LoopNIn
import Derived.LoopIn
import Derived.WalkSpells
import Derived.WalkLawsBesides
import Derived.Lib.Hide
import Derived.RangeFuncBox
import Derived.Maps.AppendAt
/- vars.members: the iterator over a set of variables. -/
namespace Go.Proofs.YtcpehljpegfckaaGreatDoor
section
open Go.RowKit Go.Shelf
attribute [local go_sem] Oper.semAt_some
theorem Q9b (x y:Int):∀ w:World,(Instr.index 55 (.agg #[.int .u64 x,.int .u64 y]) (.int .i64 0)).run Tryz.prog w = .ok (.int .u64 x) w:=fun w=>by change _=_;kernel_rfl
theorem Q8s (x y:Int):∀ w:World,(Instr.index 55 (.agg #[.int .u64 x,.int .u64 y]) (.int .i64 1)).run Tryz.prog w = .ok (.int .u64 y) w:=fun w=>by change _=_;kernel_rfl
set_option maxHeartbeats 1600000 in
set_option maxRecDepth 100000 in
theorem Q7d (n:Nat) (hn:1≤n) (l b1 n₀ x:Nat) (hx:x<4096) (J Jx:List Nat→World→Prop)
  (hY:∀ pre (v:Nat) W,J pre W→pre.length<12→YieldAt Fence.wide (n-1) Tryz.prog l #[.int .i64 (v:Int)] W fun e W' =>
   (e = .returned (.bool true)∧J (pre++[v]) W'∧Below n₀ W W')∨(e = .returned (.bool false)∧Jx (pre++[v]) W'))
  (W:World) (h1:W.heap[b1]?=some (.cells #[.int .u64 (x:Nat),.int .u64 0] 55 (0,0))) (hT:TzTab n₀ W) (h0:J [] W) :
  CallsIn Fence.wide n Tryz.prog 123 #[.func (.yield l) #[] #[],.pointer (some ⟨b1,0,none⟩)] W fun e W'=>(∃ v,e = .returned v) ∧
   ((∃ ys,ys=Ha x∧J ys W')∨(∃ pre,(pre <+: Ha x∧pre≠[])∧Jx pre W')):=by
 refine callsIn_of_wp Tryz.func123 rfl trivial ?_ rfl
 simp only [Tryz.ntmps123,List.size_toArray,List.length_cons,List.length_nil,Nat.reduceAdd,Nat.reduceSub,Array.replicate_succ,Array.replicate_zero,List.push_toArray,List.append_toArray,List.nil_append,List.cons_append]
 have c1:=Q5 h1 0 rfl
 have c2:=Q5 h1 1 rfl
 have HY:=Lib.hid hY
 have HT0:=Lib.hid hT
 have H0:=Lib.hid h0
 clear hY hT h0 h1
 gi_wp2
 clear c1 c2
 gi_loopw [6] (fun i wr=>∃ (j:Nat) (ys:List Nat),j≤2∧i = .int .i64 j∧Hid (ys=if j=0 then [] else Ha x)∧Hid (J ys wr)∧Hid (TzTab n₀ wr))
  (fun i _=>2-(intOf i).toNat)
 case atStart=>exact ⟨0,[],Nat.zero_le _,rfl,rfl,H0.out,HT0.out⟩
 case round =>
  obtain ⟨j,ys,hj,rfl,HYS,HJ,HT⟩:=hrel
  clear H0 HT0
  by_cases hlt:j<2
  ·have hd:decide (j<2)=true:=decide_eq_true hlt
   have hd2:decide ((j:Int)<2)=true:=decide_eq_true (by omega)
   obtain ⟨y0,hy0,H00⟩:∃ y0:Nat,y0<4096∧Hid ((j=0∧y0=x∨j=1∧y0=0)∧ys++Ha y0=Ha x):=by
    by_cases e:j=0
    ·exact ⟨x,hx,.inl ⟨e,rfl⟩,by rw [HYS.out,if_pos e];rfl⟩
    ·exact ⟨0,by omega,.inr ⟨by omega,rfl⟩,by rw [HYS.out,if_neg e,Q0r,List.append_nil]⟩
   have H01:=Lib.hid H00.out.2
   have hcase:=H00.out.1
   clear HYS H00
   rcases hcase with ⟨rfl,rfl⟩ | ⟨rfl,rfl⟩
   case inl =>
    rw [show ((0:Nat):Int)=0 from rfl]
    have hix:=Q9b y0 0
    gi_wp2
    gi_loopw [4] (fun v wv=>∃ (y:Nat) (zs:List Nat),y<4096∧v = .int .u64 y∧Hid (zs++Ha y=Ha y0)∧Hid (J zs wv)∧Hid (TzTab n₀ wv)) (fun v _=>(intOf v).toNat)
    case atStart=>exact ⟨y0,ys,hx,rfl,H01.out,HJ.out,HT.out⟩
    case round =>
     obtain ⟨y,zs,hy,rfl,HZ,HJz,HTz⟩:=hrel
     clear H01 HJ HT
     by_cases h0:y=0
     ·subst h0
      have HE:=Lib.hid (show zs=Ha y0 by have:=HZ.out;rwa [Q0r,List.append_nil] at this)
      gi_wp2
      go_roundw
      case rel=>exact ⟨1,zs,by omega,by go_num,by rw [if_neg (by omega)];exact HE.out,HJz.out,HTz.out⟩
      case measure=>simp [intOf]
     ·have hne:((y:Int) == 0)=false:=J7 (by omega)
      have hlen:zs.length<12:=by
       have h1:=memX_len y0
       have h2:=(Q4a h0 hy).1
       rw [←HZ.out,h2] at h1
       simp at h1;omega
      obtain ⟨fn,tmps,assign,body,hyy,hR⟩:=HY.out zs (Lib.ctz 64 y+1) _ HJz.out hlen
      have HS:=Lib.hid (Q4a h0 hy)
      have KT:=gTz y (by omega) h0 _ HTz.out
      have hctz:Lib.ctz 64 y<64:=(Lib.lowest_bit 64 y h0 (show y<2^64 by omega)).2
      have HB:=Lib.hid (show bits BinOp.and IntKind.u64 (y:Int) ((y:Int)-1)=((y &&& (y-1):Nat):Int) by
       rw [show ((y:Int)-1)=((y-1:Nat):Int) by omega,u64_and_nat _ _ (by omega) (by omega)])
      generalize Lib.ctz 64 y=c at *
      have hyc:((c+1:Nat):Int)=(c:Int)+1:=by omega
      rw [hyc] at hyy
      gi_wp2
      refine ⟨trivial,CallsIn.mono (callsIn_wide.2 KT) ?_⟩
      rintro e w' ⟨rfl,rfl⟩
      clear KT
      gi_wp2
      refine hR.mono ?_
      have hy1:1≤y:=by omega
      rintro e W3 (⟨rfl,hJ3,hk3⟩ | ⟨rfl,hJx3⟩)
      ·have HT3:=Lib.hid (HTz.out.on hk3 (Nat.le_refl _))
       have hbb:=HB.out
       have HN:=Lib.hid (show (zs++[c+1])++Ha (y &&& (y-1))=Ha y0 by rw [List.append_assoc,List.singleton_append,←HS.out.1];exact HZ.out)
       have HLT:=Lib.hid HS.out.2
       clear hyy hR hk3 HJz HTz HS HZ
       generalize y &&& (y-1)=y2 at *
       gi_wp2
       go_roundw
       case rel =>
        exact ⟨y2,_,Nat.lt_trans HLT.out hy,rfl,HN.out,hJ3,HT3.out⟩
       case measure=>have:=HLT.out;simp [intOf];omega
      ·have HPF:=Lib.hid (show zs++[c+1] <+: Ha y0 from ⟨Ha (y &&& (y-1)),by rw [List.append_assoc,List.singleton_append,←HS.out.1];exact HZ.out⟩)
       gi_wp2
       refine bodyPost_ret (results_none rfl _ _ _) rfl ?_
       exact ⟨⟨_,rfl⟩,.inr ⟨_,⟨HPF.out,by simp⟩,hJx3⟩⟩
   case inr =>
    rw [show ((1:Nat):Int)=1 from rfl]
    have hix:=Q8s x 0
    gi_wp2
    gi_loopw [4] (fun v wv=>v = .int .u64 0∧Hid (J ys wv)∧Hid (TzTab n₀ wv)) (fun v _=>0)
    case atStart=>exact ⟨rfl,HJ.out,HT.out⟩
    case round =>
     obtain ⟨rfl,HJz,HTz⟩:=hrel
     have HE:=Lib.hid (show ys=Ha x by have:=H01.out;rwa [Q0r,List.append_nil] at this)
     clear HJ HT
     gi_wp2
     go_roundw
     case rel=>exact ⟨2,ys,by omega,by go_num,by rw [if_neg (by omega)];exact HE.out,HJz.out,HTz.out⟩
     case measure=>simp [intOf]
  ·obtain rfl:j=2:=by omega
   have HE:=Lib.hid (HYS.out.trans (if_neg (by omega)))
   gi_wp2
   go_end0
   exact ⟨⟨_,rfl⟩,.inl ⟨_,HE.out,HJ.out⟩⟩
end
/- vars.List,vars.First. -/
section
open Go.RowKit Go.Shelf
attribute [local go_sem] Oper.semAt_some
theorem Wg (n:Nat) (hn:1≤n) (b1 n₀:Nat) (o:Nat→Bool) (ho:∀ v,13≤v→o v=false) (w:World) (hb1:b1<w.heap.size) (hn₀:n₀≤w.heap.size) (hc:w.heap[b1]?=some (.cells #[.int .u64 (loW o:Nat),.int .u64 0] 55 (0,0))) (hT:TzTab n₀ w) :
  SeqStopsK Fence.wide n Tryz.prog 123 #[.pointer (some ⟨b1,0,none⟩)] (fun x:Nat=>#[.int .i64 (x:Int)]) (Below n₀) (fun ys=>ys=Jt o) (fun pre=>pre <+: Jt o∧pre≠[]) 12 w:=fun l J Jx W hW _ _ hY h0=>by
 have h:=Q7d n hn l b1 n₀ (loW o) (lo_small ho) J Jx hY W ((hW.block b1 hb1).trans hc) (hT.on (hW.mono hn₀) (Nat.le_refl _)) h0
 rw [memX_lo] at h
 exact h
set_option maxHeartbeats 400000 in
theorem Q10 (o:Nat→Bool) (w:World):Calls Tryz.prog 87 #[Qt o] w fun e w' =>
  e = .returned (.func (.func 123) #[] #[.pointer (some ⟨w.heap.size,0,none⟩)])∧w'=w.alloc (.cells #[.int .u64 (loW o:Nat),.int .u64 (hiW o:Nat)] 55):=by
 unfold Qt Jz
 go_enter Tryz.func87,Tryz.ntmps87
 go_wp2_with fail
 go_ret
 exact ⟨rfl,rfl⟩
theorem Tryz.infoIntX:(Tryz.prog.info? 3).map (fun i=>(i.zero,i.size,i.bytes))=some (some (.int .i64 0),1,8):=by kernel_rfl
def W1 (l:List Nat):List Value:=l.map fun k=>Value.int .i64 ((k:Nat):Int)
set_option maxRecDepth 100000 in
set_option maxHeartbeats 2000000 in
theorem Q61 (n:Nat) (hn:3≤n) (o:Nat→Bool) (ho:∀ v,13≤v→o v=false) (b1:Nat) (w:World) (hb1:b1<w.heap.size) (hc:w.heap[b1]?=some (.cells #[.int .u64 (loW o:Nat),.int .u64 0] 55 (0,0))) (hT:TzTab w.heap.size w) :
  CallsIn Fence.wide n Tryz.prog 122 #[.slice none 0 0,.func (.func 123) #[] #[.pointer (some ⟨b1,0,none⟩)]] w fun e w'=>∃ v,e = .returned v∧w'.ownsRow w.heap.size 3 1 v (Jt o).length (W1 (Jt o))∧(v = .slice none 0 0↔Jt o=[])∧Below w.heap.size w w':=by
 have h1:1≤n:=by omega
 obtain ⟨i0,hi,hz0,hz1,hz2⟩:=info_parts Tryz.infoIntX
 refine callsIn_of_wp_marks Tryz.func122 rfl trivial ?_ rfl
 simp only [Tryz.ntmps122,List.size_toArray,List.length_cons,List.length_nil,Nat.reduceAdd,Nat.reduceSub,Array.replicate_succ,Array.replicate_zero,List.push_toArray,List.append_toArray,List.nil_append,List.cons_append]
 gi_wp2
 have bO:=Boxed.new w 51 (.slice none 0 0)
 have hB0:Below w.heap.size w (w.alloc (.cells #[.slice none 0 0] 51)):=(Below.refl _ w).alloc (Nat.le_refl _) _
 refine wpIn_rangeFunc_ownG rfl h1 (gf:=123) (lb:=#[.pointer (some ⟨b1,0,none⟩)]) rfl trivial (enters_of Tryz.func123 (by kernel_rfl) rfl)
  (Wg (n-1) (by omega) b1 w.heap.size o ho _ (by simp;omega) (by simp) ((hB0.block b1 hb1).trans hc) (hT.on hB0 (Nat.le_refl _))) belowK_t (belowK_b (by simp)) (Below.refl _ _) (fun _=>rfl)
  (fun pre W=>(∃ v,Boxed W w.heap.size 51 v∧W.ownsRow w.heap.size 3 1 v pre.length (W1 pre)∧(v = .slice none 0 0↔pre=[]))∧Below w.heap.size w W)
  (fun _ _ _=>False)
  (OwnFrom.and (Own.from (holdsRow_own w.heap.size w.heap.size 51 3 1 (fun pre:List Nat=>pre.length) (fun pre=>W1 pre) (fun pre v=>v = .slice none 0 0↔pre=[])) _) (ownFrom_below (Nat.le_refl _) (by simp)))
  (fun _ _ _ _ _ hs _ _=>hs)
  ⟨⟨_,bO,World.ownsRow_nil _ _ _ _,by simp⟩,hB0⟩
  (fun x=>{ tmps:=#[.slice none 0 0,.func (.func 123) #[] #[.pointer (some ⟨b1,0,none⟩)],.pointer (some ⟨w.heap.size,0,none⟩),undef,.slice none 0 0,.int .i64 (x:Int),.func (.func 123) #[] #[.pointer (some ⟨b1,0,none⟩)],.int .i64 (x:Int),undef,undef,undef,undef,undef],defers:=[] }) ?assign ?body ?done ?stop
 case assign =>
  intro l x W K hK
  gi_wp2
  exact hK
 case body =>
  rintro l pre x W ⟨⟨v,hv,hrow,hnil⟩,hB⟩ hlt
  have hc:=hv.cell
  gi_wp2_with (gi_at_builtin;refine wpListIn_append_own _ rfl _ _ 51 rfl w.heap.size 3 i0 (.int .i64 0) 1 8 Tryz.underlying51 hi hz0 hz1 hz2 rfl (by decide) _ _ _ rfl (hrow.alloc _) ⟨W.heap.size,0,none⟩ 1 1 [.int .i64 (x:Int)] rfl rfl (cell_one_new _ _ _) (by simp [Value.oneCell']) (by simp [maxLen];omega) (by omega) (by have:=hB.size;simp;omega) ?_;intro v' w1 hown' hgrow _;obtain ⟨g',cap',rfl⟩:=ownsRow_succ hown';obtain ⟨hv1,hv2,hr2,hk2,hb2⟩:=hv.appended (by decide) hrow hB.size (Nat.le_refl _) hown' hgrow;have hc1:=hv1.cell;have hf1:=hv1.frozen)
  exact ⟨hk2.from _,hb2,⟨_,hv2,by unfold W1 at *;simpa using hr2,by simp⟩,hB.trans hb2⟩
 case done =>
  rintro D ys W hD rfl ⟨⟨v,hv,hrow,hnil⟩,hB⟩ hK
  have hc:=hv.cell
  gi_wp2
  refine ⟨by simp,.inl ⟨_,_,rfl,run_takeDeferred hK,?_⟩⟩
  exact ⟨_,results_tmp rfl _ _ _,v,rfl,ownsRow_putObj hrow _ hK rfl,hnil,hB.trans (belowK_b (w:=w) (Nat.le_refl _) W D _ _ (by simp at hD;omega) hK rfl rfl)⟩
 case stop =>
  rintro D c pre W _ _ h _
  exact h.elim
set_option maxRecDepth 100000 in
set_option maxHeartbeats 1600000 in
theorem Q76 (o:Nat→Bool) (ho:∀ v,13≤v→o v=false) (b1:Nat) (w:World) (hb1:b1<w.heap.size) (hc:w.heap[b1]?=some (.cells #[.int .u64 (loW o:Nat),.int .u64 0] 55 (0,0))) (hT:TzTab w.heap.size w) :
  Calls Tryz.prog 86 #[.func (.func 123) #[] #[.pointer (some ⟨b1,0,none⟩)]] w fun e w'=>∃ v,e = .returned v∧w'.ownsRow w.heap.size 3 1 v (Jt o).length (W1 (Jt o))∧(v = .slice none 0 0↔Jt o=[])∧Below w.heap.size w w':=by
 obtain ⟨Post,hPost⟩:∃ P:Ending→World→Prop,P=fun e w'=>∃ v,e = .returned v∧w'.ownsRow w.heap.size 3 1 v (Jt o).length (W1 (Jt o))∧(v = .slice none 0 0↔Jt o=[])∧Below w.heap.size w w':=⟨_,rfl⟩
 rw [←hPost]
 have KA:=(callsIn_wide (n:=5)).1 (Q61 5 (by omega) o ho b1 w hb1 hc hT)
 have HP:=Lib.hid (show ∀ v w',(w'.ownsRow w.heap.size 3 1 v (Jt o).length (W1 (Jt o))∧(v = .slice none 0 0↔Jt o=[])∧Below w.heap.size w w')→Post (.returned v) w' from fun v w' h=>by rw [hPost];exact ⟨v,rfl,h⟩)
 clear hPost
 go_enter Tryz.func86,Tryz.ntmps86
 go_wp2_with fail
 refine KA.mono ?_
 rintro e w' ⟨v,rfl,h⟩
 have HF:=Lib.hid (HP.out v w' h)
 clear h KA HP
 go_wp2_with fail
 exact HF.out
set_option maxRecDepth 100000 in
set_option maxHeartbeats 1600000 in
theorem gListB (o:Nat→Bool) (ho:∀ v,13≤v→o v=false) {N:Nat} (w:World) (hT:TzTab N w) (hN:N≤w.heap.size) :
  Calls Tryz.prog 48 #[Qt o] w fun e w'=>∃ v,e = .returned v∧w'.ownsRow w.heap.size 3 1 v (Jt o).length (W1 (Jt o))∧(v = .slice none 0 0↔Jt o=[])∧Below w.heap.size w w'∧w'.heap[w.heap.size]?=some (.cells #[.int .u64 (loW o:Nat),.int .u64 0] 55 (0,0)):=by
 obtain ⟨Post,hPost⟩:∃ P:Ending→World→Prop,P=fun e w'=>∃ v,e = .returned v∧w'.ownsRow w.heap.size 3 1 v (Jt o).length (W1 (Jt o))∧(v = .slice none 0 0↔Jt o=[])∧Below w.heap.size w w'∧w'.heap[w.heap.size]?=some (.cells #[.int .u64 (loW o:Nat),.int .u64 0] 55 (0,0)):=⟨_,rfl⟩
 rw [←hPost]
 have HP:=Lib.hid (show ∀ v w',(∃ base,w.heap.size≤base∧w'.ownsRow base 3 1 v (Jt o).length (W1 (Jt o)))→(v = .slice none 0 0↔Jt o=[])→Below w.heap.size w w'→w'.heap[w.heap.size]?=some (.cells #[.int .u64 (loW o:Nat),.int .u64 0] 55 (0,0))→Post (.returned v) w' from fun v w' ⟨base,hb,h⟩ h2 h3 h4=>by
  rw [hPost]
  refine ⟨v,rfl,⟨h.1,?_⟩,h2,h3,h4⟩
  rcases h.2 with h | ⟨g,cap,cur,e,hg,r⟩
  ·exact .inl h
  ·exact .inr ⟨g,cap,cur,e,by omega,r⟩)
 have hhi:=Q69 ho
 have HM:=Lib.hid (fun w=>Q10 o w)
 have HK:=Lib.hid (fun b1 w h1 h2 h3=>Q76 o ho b1 w h1 h2 h3)
 have HTT:=Lib.hid hT
 clear hPost ho hT
 unfold Qt Jz at *
 rw [hhi] at *
 generalize loW o=x0 at *
 clear hhi
 go_enter Tryz.func48,Tryz.ntmps48
 go_upto_region 1 with fail
 refine Qg ?_
 intro w1 hw1
 have S1:=Lib.hid (show w1.heap[w.heap.size]?=some (.cells #[.int .u64 (x0:Nat),.int .u64 0] 55 (0,0)) by rw [hw1];exact Qn _ _)
 have HL1:=Lib.hid (show Below w.heap.size w w1 by rw [hw1];exact Qe _ _)
 clear hw1
 have q0:=Q5 S1.out 0 rfl
 have q1:=Q5 S1.out 1 rfl
 go_wp2_with fail
 refine (HM.out w1).mono ?_
 rintro e w2 ⟨rfl,hw2⟩
 have S2:=Lib.hid (show w2.heap[w1.heap.size]?=some (.cells #[.int .u64 (x0:Nat),.int .u64 0] 55 (0,0)) by rw [hw2];exact Qn _ _)
 have HL2:=Lib.hid (HL1.out.trans (show Below w.heap.size w1 w2 by rw [hw2];exact (Qe _ _).mono HL1.out.size))
 have S3:=Lib.hid (show w2.heap[w.heap.size]?=some (.cells #[.int .u64 (x0:Nat),.int .u64 0] 55 (0,0)) by rw [hw2];exact (Q4 (Qe _ _)).keep S1.out (by simp))
 clear hw2 q0 q1 HM
 go_wp2_with fail
 refine (HK.out w1.heap.size w2 (Q9 S2.out) S2.out (HTT.out.on (HL2.out.mono hN) (by have:=HL2.out.size;omega))).mono ?_
 rintro e w3 ⟨v,rfl,h1,h2,h3⟩
 have HF:=Lib.hid (HP.out v w3 ⟨_,HL2.out.size,h1⟩ h2 (HL2.out.trans (h3.mono HL2.out.size)) ((Q4 h3).keep S3.out (by simp)))
 clear h1 h2 h3 HK HP
 go_wp2_with fail
 exact HF.out
theorem gListV (o:Nat→Bool) (ho:∀ v,13≤v→o v=false) {N:Nat} (w:World) (hT:TzTab N w) (hN:N≤w.heap.size) :
  Calls Tryz.prog 48 #[Qt o] w fun e w'=>∃ v,e = .returned v∧w'.ownsRow w.heap.size 3 1 v (Jt o).length (W1 (Jt o))∧(v = .slice none 0 0↔Jt o=[])∧Below w.heap.size w w' :=
 (gListB o ho w hT hN).mono fun e w' ⟨v,h1,h2,h3,h4,_⟩=>⟨v,h1,h2,h3,h4⟩
end
end Go.Proofs.YtcpehljpegfckaaGreatDoor
