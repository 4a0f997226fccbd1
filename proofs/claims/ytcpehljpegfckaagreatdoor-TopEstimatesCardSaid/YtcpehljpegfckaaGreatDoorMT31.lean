/- Texts of this claim,joined: WGive,WLong,WDiv. -/
import Derived.Test.YtcpehljpegfckaaGreatDoorMT30
import Derived.Test.YtcpehljpegfckaaGreatDoorMT27
import Derived.Test.YtcpehljpegfckaaGreatDoorMT29
/- giveBack,shifted. -/
namespace Go.Proofs.YtcpehljpegfckaaGreatDoor
section
open Go.RowKit Num
def Q7n (gx E:Nat) (lo xs:List Nat) (t:Nat) (hi Y:List Nat) (w:World) (e:Ending) (w':World):Prop :=
 e = .returned (.tuple #[])∧w.grownBy w' (some gx) ∧
 ∃ (xs':List Nat) (t':Nat),Row w' gx E (J5 (lo++xs'++t'::hi))∧xs'.length=xs.length∧AllLt W (xs'++[t']) ∧
  Qc W (xs'++[t'])=(Qc W (xs++[t])+Qc W Y)%W^(xs.length+1)
set_option maxHeartbeats 800000 in
set_option maxRecDepth 100000 in
theorem Q5f (gx gy E i cx cy t:Nat) (lo xs hi Y:List Nat) (hl:lo.length=i) (hxy:xs.length=Y.length) (hx:AllLt W xs) (_ht:t<4294967296) (hy:AllLt W Y) (hne:gx≠gy)
  (hs:i+xs.length≤1099511627776) (w:World) (hRx:Row w gx E (J5 (lo++xs++t::hi))) (hRy:Row w gy 72 (J5 Y)) :
  Calls Tryz.prog 128 #[.slice (some ⟨gx,i,none⟩) (Y.length+1) cx,.slice (some ⟨gy,0,none⟩) Y.length cy] w (Q7n gx E lo xs t hi Y w):=by
 have HTT:=Lib.hid (gb_top xs Y t hxy)
 have HTE:=Lib.hid (Q5s (B:=W) (by decide) hx hy)
 have htl:=Oh xs Y hxy
 have HTG:=Lib.hid (Ui xs Y hxy)
 have HCL:=Lib.hid (Q3b W (by decide) (Yi xs Y) 0)
 have HG:=Lib.hid (seg_get (xs:=xs) (hi:=hi) (t:=t) hl)
 have HD:=Lib.hid (Q6b (xs:=xs) (hi:=hi) (t:=t) hl)
 have HX:=Lib.hid hx
 have HY:=Lib.hid hy
 have HL:=Lib.hid hl
 have HRx:=Lib.hid hRx
 have HRy:=Lib.hid hRy
 have hxl:xs.length≤Y.length:=by omega
 have hxl2:Y.length≤xs.length:=by omega
 clear hx hy hl hxy hRx hRy
 generalize hZ:lo++xs++t::hi=Z at *
 have HZ:=Lib.hid hZ
 have HTL:=Lib.hid htl
 clear hZ htl
 go_enter Tryz.func128,Tryz.ntmps128
 go_wp2_with fail
 go_loopw [4,8] (fun r kv wr=>∃ k:Nat,k≤Y.length∧kv = .int .i64 (k:Nat)∧r = .int .u64 ((cl W 0 ((Yi xs Y).take k)).2:Nat) ∧
   Row wr gx E (J5 (lo++(cl W 0 ((Yi xs Y).take k)).1++Z.drop (i+k)))∧Row wr gy 72 (J5 Y)∧w.grownBy wr (some gx))
  (fun _ kv _=>Y.length-(intOf kv).toNat)
 case atStart =>
  refine ⟨0,Nat.zero_le _,rfl,by simp [cl],?_,HRy.out,World.grownBy.refl _ _⟩
  have:lo++(cl W 0 ((Yi xs Y).take 0)).1++Z.drop (i+0)=Z:=by
   simp only [List.take_zero,cl,List.append_nil,Nat.add_zero]
   rw [←HZ.out,List.append_assoc,List.drop_append_of_le_length (by have:=HL.out;omega),List.drop_eq_nil_of_le (by have:=HL.out;omega),List.nil_append]
  rw [this];exact HRx.out
 case round =>
  obtain ⟨k,hk,rfl,rfl,hR,hRy,hG⟩:=hrel
  clear HRx HRy
  have hb1:(cl W 0 ((Yi xs Y).take k)).2<4294967296:=V7 W (by decide) _ _ (by decide) (fun t ht=>HTE.out t (List.mem_of_mem_take ht))
  have hclen:(lo++(cl W 0 ((Yi xs Y).take k)).1).length=i+k:=by
   rw [List.length_append,Ke,List.length_take,HTL.out];have:=HL.out;omega
  by_cases hlk:k<Y.length
  ·have HST:=Lib.hid (Kq W 0 (Yi xs Y) k (by rw [HTL.out];omega))
   rw [HTG.out k] at HST
   have hc1:wr.cell? ⟨gx,i+k,none⟩=some (.int .u32 (xs.getD k 0:Nat)) :=
    hR.cell (Qp _ _ _ (by rw [Og hclen (Nat.le_refl _)];exact HG.out.1 k (by omega)))
   have hc2:wr.cell? ⟨gy,k,none⟩=some (.int .u32 (Y.getD k 0:Nat)) :=
    hRy.cell (Qp _ _ _ (by rw [List.getD_eq_getElem?_getD,List.getElem?_eq_getElem (by omega)];rfl))
   have hf:=hR.free (i+k)
   have hxk:=HX.out.getD (by decide) k
   have hyk:=HY.out.getD (by decide) k
   unfold W at hxk hyk
   have HSD:=Lib.hid (fun v=>Xi (v:=v) (xs:=Z) hclen (by
    rw [←HZ.out];simp [HL.out];omega))
   have HR:=Lib.hid hR
   have HRY:=Lib.hid hRy
   have HGG:=Lib.hid hG
   clear hR hRy hG hclen
   generalize Y.getD k 0=y at *
   generalize xs.getD k 0=x at *
   generalize cl W 0 ((Yi xs Y).take k)=cc at *
   go_wp2_with fail
   go_quiet (fail)
   go_wp2_with fail
   go_roundw
   case rel =>
    refine ⟨k+1,by omega,by go_num,?_,?_,(HRY.out.drewN _).setOther _ hne _,Us (Hg HGG.out _) _ _⟩
    ·rw [HST.out];simp [W]
    ·have:=(HR.out.drewN nq).set (i+k) (.int .u32 ((cc.2+(x+y))%W:Nat))
     rw [Jf,HSD.out] at this
     rw [HST.out]
     simpa [W,Nat.add_assoc] using this
   case measure=>simp [intOf];omega
  ·obtain rfl:k=Y.length:=by omega
   have htx:(Yi xs Y).take Y.length=Yi xs Y:=List.take_of_length_le (by rw [HTL.out];omega)
   have hil:i+Y.length=i+xs.length:=by omega
   rw [htx] at hR hclen hb1 ⊢
   have hdr:=HD.out
   rw [←hil] at hdr
   rw [hdr] at hR
   have hc1:wr.cell? ⟨gx,i+Y.length,none⟩=some (.int .u32 (t:Nat)) :=
    hR.cell (Qp _ _ _ (by rw [List.getElem?_append_right (by omega),hclen,Nat.sub_self];rfl))
   have hf:=hR.free (i+Y.length)
   have HR:=Lib.hid hR
   have HRY:=Lib.hid hRy
   have HGG:=Lib.hid hG
   have HCN:=Lib.hid hclen
   have HLN:Hid ((cl W 0 (Yi xs Y)).1.length=xs.length):=by unfold Hid;rw [Ke,HTL.out]
   clear hR hRy hG hclen htx hil hdr
   generalize cl W 0 (Yi xs Y)=cc at *
   go_wp2_with fail
   go_end0
   refine ⟨rfl,Us HGG.out _ _,cc.1,(t+cc.2)%W,?_,HLN.out,HCL.out.append (AllLt.cons (Nat.mod_lt _ (by decide)) (AllLt.nil W)),HTT.out⟩
   have:=HR.out.set (i+Y.length) (.int .u32 ((t+cc.2)%W:Nat))
   rw [Jf,List.set_append_right _ _ (by rw [HCN.out];omega),HCN.out,Nat.sub_self] at this
   simpa [W] using this
/-! ### shifted -/
theorem shl_word (x c s:Nat) (hs:s≤31) (hx:x<4294967296) (hc:c<2^s) :
  bits BinOp.or IntKind.u32 ((x:Int)*2^s%4294967296) (c:Nat)=((c+x*2^s)%W:Nat)∧(x:Int)/2^(32-s)%4294967296=((c+x*2^s)/W:Nat):=by
 have e0:(x:Int)*2^s%4294967296=((x*2^s%4294967296:Nat):Int):=by simp
 have hp:(2:Nat)^s*2^(32-s)=4294967296:=by rw [←Nat.pow_add];rw [show s+(32-s)=32 by omega]
 have h1:x*2^s%4294967296=(x%2^(32-s))*2^s:=by
  rw [←hp,Nat.mul_comm x,Nat.mul_mod_mul_left,Nat.mul_comm]
 have h2:=Nat.div_add_mod x (2^(32-s))
 have hc2:c<4294967296:=by
  have:(2:Nat)^s≤2^31:=Nat.pow_le_pow_right (by omega) hs
  have e:(2:Nat)^31=2147483648:=by decide
  omega
 have h3:(x%2^(32-s))<2^(32-s):=Nat.mod_lt _ (Nat.pow_pos (by omega))
 have h5:c+(x%2^(32-s))*2^s<4294967296:=by
  have:(x%2^(32-s)+1)*2^s≤2^(32-s)*2^s:=Nat.mul_le_mul_right _ h3
  rw [Nat.add_mul,Nat.mul_comm (2^(32-s)),hp] at this
  omega
 have h6:c+x*2^s=4294967296*(x/2^(32-s))+(c+(x%2^(32-s))*2^s):=by
  conv=>lhs;rw [←h2]
  rw [Nat.add_mul,Nat.mul_comm (2^(32-s)),Nat.mul_assoc,Nat.mul_comm (2^(32-s)),hp]
  omega
 constructor
 ·rw [e0,u32_or_nat _ _ (Nat.mod_lt _ (by decide)) hc2,h1,Nat.or_comm,Vc _ _ _ hc]
  have:(c+x*2^s)%W=c+(x%2^(32-s))*2^s:=by
   rw [h6];unfold W;omega
  rw [this]
 ·have:(c+x*2^s)/W=x/2^(32-s):=by
   rw [h6];unfold W;omega
  rw [this]
  have e7:(x:Int)/2^(32-s)=((x/2^(32-s):Nat):Int):=by simp
  rw [e7]
  have:x/2^(32-s)≤x:=Nat.div_le_self _ _
  omega
theorem CellsU.all {w:World} {a:Option Addr} {l:List Nat} (h:CellsU w a l) (h0:0<l.length) :
  ∃ b o,a=some ⟨b,o,none⟩∧b<w.heap.size∧∀ j d,l[j]?=some d→w.cell? ⟨b,o+j,none⟩=some (.int .u32 (d:Nat)):=by
 obtain ⟨b,o,rfl,hc⟩:=h 0 _ (List.getElem?_eq_getElem h0)
 refine ⟨b,o,rfl,?_,fun j d hj=>?_⟩
 ·have:=World.block_lt_of_cell? w _ hc;simpa using this
 ·obtain ⟨b',o',e,hc'⟩:=h j d hj
  simp only [Option.some.injEq,Addr.mk.injEq,and_true] at e
  rw [e.1,e.2];exact hc'
theorem Q8h (l:List Nat):splice (J5 (List.replicate l.length 0)) 0 (J5 l)=J5 l:=by
 unfold splice
 simp [J5]
set_option maxHeartbeats 800000 in
set_option maxRecDepth 100000 in
theorem Q11 (a:Option Addr) (n c s:Nat) (l:List Nat) (hn:l.length=n) (hl:AllLt W l) (hs:s≤31) (hsz:n≤1099511627776) (w:World) (hcell:CellsU w a l) :
  Calls Tryz.prog 98 #[.slice a n c,.int .u64 s] w fun e w' =>
   e = .returned (.slice (some ⟨w.heap.size,0,none⟩) n n)∧Row w' w.heap.size 72 (J5 (shl l s))∧Below w.heap.size w w':=by
 obtain ⟨i0,hi,hz0,hz1,hz2⟩:=info_parts Tryz.infoU32
 have HC:=Lib.hid hcell
 have HL:=Lib.hid hl
 have HN:=Lib.hid hn
 clear hcell hl hn
 go_enter Tryz.func98,Tryz.ntmps98
 go_wp2_with (at_make;refine wpList_make_full _ rfl (.tmp 10) (.tmp 10) 73 rfl w.heap.size 72 i0 (.int .u32 0) 1 Tryz.underlying73 hi hz0 hz1 .i64 .i64 _ _ n rfl rfl (by omega) (by omega) (by rw [hz2];omega) (by unfold maxLen;omega) (Nat.le_refl _) ?_)
 intro w1 hown hgr
 have hR:=Row.ofOwns hown
 rw [Zu] at hR
 have hB:Below w.heap.size w w1:=Z9 hgr (Nat.le_refl _) (by simp)
 have HR:=Lib.hid hR
 have HB:=Lib.hid hB
 have hs1:w.heap.size<w1.heap.size:=hR.lt
 clear hown hgr hR hB
 go_wp2_with (refine wpList_copy_splice (o:=⟨some 14,_,_,_,_,_⟩) rfl (.tmp 12) (.tmp 13) 73 73 rfl 72 Tryz.underlying73 Tryz.sizeU32 _ _ _ _ _ _ rfl rfl w.heap.size 0 (J5 (List.replicate n 0)) 72 HR.out (J5 l) ?_ ?_ ?_ ?_ w.heap.size w HB.out (Nat.le_refl _) ?_)
 ·rw [Hd,HN.out];exact (Nat.min_self n).symm
 ·intro h0
  obtain ⟨b,o,rfl,hb,hc⟩:=HC.out.all (by simpa [J5] using h0)
  refine ⟨_,rfl,fun j v hj=>?_⟩
  obtain ⟨d,hd,rfl⟩:∃ d,l[j]?=some d∧Value.int .u32 (d:Nat)=v:=by
   simpa [J5,List.getElem?_map,Option.map_eq_some_iff] using hj
  rw [show (⟨b,o,none⟩:Addr).add j=⟨b,o+j,none⟩ by unfold Addr.add;split<;>simp_all]
  exact Q8 HB.out hb (hc j d hd)
 ·simp [J5,HN.out]
 ·exact Q27 l
 intro w2 hR2 hB2
 have hspl:=Q8h l
 rw [HN.out] at hspl
 rw [hspl] at hR2
 have HR2:Hid (Row w2 w.heap.size 72 (J5 l)):=hR2
 have HB2:=Lib.hid hB2
 have hs2:w.heap.size<w2.heap.size:=Row.lt HR2.out
 clear hspl hR2 hB2 HR HB
 have hml:(l.map (·*2^s)).length=l.length:=by simp
 have HML:=Lib.hid hml
 clear hml
 have HCA:=Lib.hid (Q08 l s hs HL.out)
 go_wp2_with fail
 go_loopw [6,17] (fun r iv wr=>∃ k:Nat,k≤n∧iv = .int .i64 (k:Nat)∧r = .int .u32 ((cl W 0 ((l.map (·*2^s)).take k)).2:Nat) ∧
   Row wr w.heap.size 72 (J5 ((cl W 0 ((l.map (·*2^s)).take k)).1++l.drop k))∧Below w.heap.size w wr)
  (fun _ iv _=>n-(intOf iv).toNat)
 case atStart=>exact ⟨0,Nat.zero_le _,rfl,by simp [cl],by simpa [cl] using HR2.out,HB2.out⟩
 case round =>
  obtain ⟨k,hk,rfl,rfl,hR,hB⟩:=hrel
  clear HR2 HB2 hs2 hs1
  have hclen:(cl W 0 ((l.map (·*2^s)).take k)).1.length=k:=by rw [Ke,List.length_take,HML.out,HN.out];omega
  by_cases hlk:k<n
  ·have hkl:k<l.length:=by rw [HN.out];exact hlk
   obtain ⟨b,o,rfl,hb,hc⟩:=HC.out.all (by omega)
   have HST:=Lib.hid (Kq W 0 (l.map (·*2^s)) k (by rw [HML.out];exact hkl))
   have hgm:(l.map (·*2^s)).getD k 0=l.getD k 0*2^s:=by simp [List.getD_eq_getElem?_getD,hkl]
   rw [hgm] at HST
   have hc1:wr.cell? ⟨b,o+k,none⟩=some (.int .u32 (l.getD k 0:Nat)) :=
    Q8 hB hb (hc k _ (by rw [List.getD_eq_getElem?_getD,List.getElem?_eq_getElem hkl];rfl))
   have hc2:wr.cell? ⟨w.heap.size,k,none⟩=some (.int .u32 (l.getD k 0:Nat)) :=
    hR.cell (Qp _ _ _ (by rw [Og hclen (Nat.le_refl _),List.getD_eq_getElem?_getD,List.getElem?_eq_getElem hkl];rfl))
   have hf:=hR.free k
   have hx:=HL.out.getD (by decide) k
   unfold W at hx
   have hcc:=HCA.out k
   have HSD:=Lib.hid (fun v=>Xi (v:=v) (xs:=l) hclen hkl)
   have HR:=Lib.hid hR
   have HB:=Lib.hid hB
   clear hR hB hclen hc hgm
   generalize l.getD k 0=x at *
   generalize cl W 0 ((l.map (·*2^s)).take k)=cc at *
   have HW1:=Lib.hid (shl_word x cc.2 s hs hx hcc)
   have HCC:=Lib.hid hcc
   clear hcc
   go_wp2_with fail
   go_roundw
   case rel =>
    refine ⟨k+1,by omega,by go_num,?_,?_,HB.out.setCell (by simp) _⟩
    ·rw [HST.out,HW1.out.2]
    ·rw [HW1.out.1]
     have:=HR.out.set k (.int .u32 ((cc.2+x*2^s)%W:Nat))
     rw [Jf,HSD.out] at this
     rw [HST.out]
     exact this
   case measure=>simp [intOf];omega
  ·have HR:=Lib.hid hR
   have HB:=Lib.hid hB
   clear hR hB
   go_wp2_with fail
   go_ret
   refine ⟨rfl,?_,HB.out⟩
   have:=HR.out
   rw [List.take_of_length_le (by rw [HML.out,HN.out];omega),List.drop_eq_nil_of_le (by rw [HN.out];omega),List.append_nil] at this
   exact this
end
/- long. -/
section
open Go.RowKit Num
theorem Xa {a b c:World} {r:Option Nat} (h:a.grownBy b r) (k:b.grownBy c r):a.grownBy c r :=
 ⟨k.os.trans h.os,k.tape.trans h.tape,k.output.trans h.output,Nat.le_trans h.size k.size,fun i hi hr=>(k.block i (Nat.lt_of_lt_of_le hi h.size) hr).trans (h.block i hi hr)⟩
theorem Zj {w wr:World} {r:Option Nat} (h:w.grownBy wr r) {g:Nat} (hg:w.heap.size≤g) (o:Nat) (v:Value):w.grownBy (wr.setCell ⟨g,o,none⟩ v) r :=
 ⟨h.os,h.tape,h.output,by simpa using h.size,fun i hi hne=>by
  rw [Below.heap_setCell _ _ _ _ (by simp;omega)];exact h.block i hi hne⟩
theorem Wu (n gx gy E i cx cy d t:Nat) (lo xs hi Y:List Nat) (hn:Y.length=n) (hl:lo.length=i) (hxy:xs.length=n) (hx:AllLt W xs) (ht:t<4294967296) (hy:AllLt W Y) (hd:d<4294967296) (hne:gx≠gy)
  (hs:i+n≤1099511627776) (w:World) (hRx:Row w gx E (J5 (lo++xs++t::hi))) (hRy:Row w gy 72 (J5 Y)) :
  Calls Tryz.prog 127 #[.slice (some ⟨gx,i,none⟩) (n+1) cx,.slice (some ⟨gy,0,none⟩) n cy,.int .u64 d] w (Q7s gx E lo xs t hi Y d w):=by
 subst hn
 exact Q5w gx gy E i cx cy d t lo xs hi Y hl hxy hx ht hy hd hne (by omega) w hRx hRy
theorem Wk (n gx gy E i cx cy t:Nat) (lo xs hi Y:List Nat) (hn:Y.length=n) (hl:lo.length=i) (hxy:xs.length=n) (hx:AllLt W xs) (ht:t<4294967296) (hy:AllLt W Y) (hne:gx≠gy)
  (hs:i+n≤1099511627776) (w:World) (hRx:Row w gx E (J5 (lo++xs++t::hi))) (hRy:Row w gy 72 (J5 Y)) :
  Calls Tryz.prog 128 #[.slice (some ⟨gx,i,none⟩) (n+1) cx,.slice (some ⟨gy,0,none⟩) n cy] w (Q7n gx E lo xs t hi Y w):=by
 subst hn
 exact Q5f gx gy E i cx cy t lo xs hi Y hl hxy hx ht hy hne (by omega) w hRx hRy
def LongPost (A gx E:Nat) (Y:List Nat) (L:Nat) (w:World) (e:Ending) (w':World):Prop :=
 e = .returned (.slice (some ⟨w.heap.size,0,none⟩) (L-Y.length) (L-Y.length))∧w.grownBy w' (some gx) ∧
 ∃ X Q:List Nat,Row w' gx E (J5 X)∧Row w' w.heap.size 72 (J5 Q)∧LongInv A Y L 0 X Q
set_option maxHeartbeats 3200000 in
set_option maxRecDepth 100000 in
theorem long_any (gx gy E cx cy L n:Nat) (X0 Y:List Nat) (hX:X0.length=L) (hXl:AllLt W X0) (hn:Y.length=n) (hn2:2≤n) (hY:AllLt W Y) (hbig:2147483648≤Y.getD (n-1) 0) (hL:n<L) (hcx:L≤cx) (hcy:n≤cy) (hs:L≤1073741824) (hcs:cx≤9223372036854775807)
  (hless:Qc W (X0.drop (L-n))<Qc W Y) (hne:gx≠gy) (w:World) (hRx:Row w gx E (J5 X0)) (hRy:Row w gy 72 (J5 Y)) :
  Calls Tryz.prog 99 #[.slice (some ⟨gx,0,none⟩) L cx,.slice (some ⟨gy,0,none⟩) n cy] w (LongPost (Qc W X0) gx E Y L w):=by
 obtain ⟨i0,hi,hz0,hz1,hz2⟩:=info_parts Tryz.infoU32
 have HI:Hid (LongInv (Qc W X0) Y L (L-n) X0 (List.replicate (L-n) 0)) :=
  ⟨hX,by simp [hn],hXl,AllLt.zeros (by decide) _,by rw [Zr];simp,hless,fun j _=>by
   rw [List.getD_eq_getElem?_getD]
   by_cases h:j<L-n
   ·simp [h]
   ·rw [List.getElem?_eq_none (by simp;omega)];rfl⟩
 have HY:=Lib.hid hY
 have HN:=Lib.hid hn
 have hlx:gx<w.heap.size:=hRx.lt
 have hly:gy<w.heap.size:=hRy.lt
 have HRx:=Lib.hid hRx
 have HRy:=Lib.hid hRy
 have hv0:0<Qc W Y:=by
  have:=(split2 Y n hn hn2 hY).1
  have h2:0<W^(n-2):=Nat.pow_pos (by decide)
  have h3:W≤Y.getD (n-1) 0*W:=Nat.le_mul_of_pos_left _ (by omega)
  have h4:1*W^(n-2)≤(Y.getD (n-1) 0*W+Y.getD (n-2) 0)*W^(n-2):=Nat.mul_le_mul_right _ (Nat.le_trans (Nat.le_trans (show 1≤W by decide) h3) (Nat.le_add_right _ _))
  omega
 have HV0:=Lib.hid hv0
 have HBIG:=Lib.hid hbig
 clear hY hn hRx hRy hX hXl hless hv0
 generalize Qc W X0=A at *
 go_enter Tryz.func99,Tryz.ntmps99
 go_wp2_with (at_make;refine wpList_make_full _ rfl (.tmp 16) (.tmp 16) 73 rfl w.heap.size 72 i0 (.int .u32 0) 1 Tryz.underlying73 hi hz0 hz1 .i64 .i64 _ _ (L-n) rfl rfl (by omega) (by omega) (by rw [hz2];omega) (by unfold maxLen;omega) (Nat.le_refl _) ?_)
 intro w1 hown hgr
 have hR:=Row.ofOwns hown
 rw [Zu] at hR
 have HRx1:=Lib.hid (HRx.out.grown hgr (by simp))
 have HRy1:=Lib.hid (HRy.out.grown hgr (by simp))
 have HG:Hid (w.grownBy w1 (some gx)):=⟨hgr.os,hgr.tape,hgr.output,hgr.size,fun k hk _=>hgr.block k hk (by simp)⟩
 have HR:=Lib.hid hR
 have hs1:w.heap.size<w1.heap.size:=hR.lt
 clear hown hgr hR HRx HRy
 go_wp2_with fail
 go_loopw [7] (fun iv wr=>∃ (k:Nat) (X Q:List Nat),k≤L-n∧iv = .int .i64 ((k:Int)-1)∧LongInv A Y L k X Q∧Row wr gx E (J5 X)∧Row wr gy 72 (J5 Y)∧Row wr w.heap.size 72 (J5 Q)∧w.grownBy wr (some gx))
  (fun iv _=>(intOf iv+1).toNat)
 case atStart=>exact ⟨L-n,X0,_,Nat.le_refl _,by go_num,HI.out,HRx1.out,HRy1.out,HR.out,HG.out⟩
 case round =>
  obtain ⟨k,X,Q,hk,rfl,hI,hRx,hRy,hRq,hG⟩:=hrel
  clear HI HRx1 HRy1 HR HG hs1
  have HI:=Lib.hid hI
  have HRx:=Lib.hid hRx
  have HRy:=Lib.hid hRy
  have HRq:=Lib.hid hRq
  have HG:=Lib.hid hG
  clear hI hRx hRy hRq hG
  by_cases hk0:0<k
  ·obtain ⟨i,rfl⟩:∃ i,k=i+1:=⟨k-1,by omega⟩
   have hiL:i+n<L:=by omega
   have hxl:=HI.out.xl
   have hiL2:i+Y.length<L:=by rw [HN.out];exact hiL
   have hseg:=Q6n HI.out (by rw [HN.out];omega) HY.out hiL2
   have hsp:=Q5l X i Y.length (by rw [hxl];exact hiL2)
   have HST:=Lib.hid (fun u hu hq=>@long_step A Y L i X Q HI.out (by rw [HN.out];omega) HY.out hiL2 u hu HV0.out hq)
   have hSl:AllLt W (seg X i Y.length++[X.getD (i+Y.length) 0]) :=
    ((HI.out.xlt.drop i).take _).append (AllLt.cons (HI.out.xlt.getD (by decide) _) (AllLt.nil W))
   have HGS:=Lib.hid (Guess.mk' (S:=seg X i Y.length++[X.getD (i+Y.length) 0]) HN.out hn2 HY.out (by rw [List.length_append,hsp.2.2,HN.out];rfl) hSl HBIG.out hseg.2.1)
   have hgX:∀ j,i+j<L→X[i+j]?=some (X.getD (i+j) 0):=fun j hj=>by rw [List.getD_eq_getElem?_getD,List.getElem?_eq_getElem (by omega)];rfl
   have hgS:∀ j,j≤n→(seg X i Y.length++[X.getD (i+Y.length) 0]).getD j 0=X.getD (i+j) 0:=fun j hj=>by
    rw [List.getD_eq_getElem?_getD]
    rcases Nat.lt_or_ge j n with h | h
    ·rw [List.getElem?_append_left (by rw [hsp.2.2,HN.out];exact h)]
     unfold seg
     rw [List.getElem?_take,if_pos (by rw [HN.out];exact h),List.getElem?_drop,←List.getD_eq_getElem?_getD]
    ·obtain rfl:j=n:=by omega
     rw [List.getElem?_append_right (by rw [hsp.2.2,HN.out];omega),hsp.2.2,HN.out,Nat.sub_self]
     rfl
   rw [hgS n (by omega),hgS (n-1) (by omega),hgS (n-2) (by omega),show i+(n-1)=i+n-1 by omega,show i+(n-2)=i+n-2 by omega] at HGS
   have hc0:wr.cell? ⟨gx,i+n,none⟩=some (.int .u32 (X.getD (i+n) 0:Nat)):=HRx.out.cell (Qp _ _ _ (hgX n (by omega)))
   have hc1:wr.cell? ⟨gx,i+n-1,none⟩=some (.int .u32 (X.getD (i+n-1) 0:Nat)):=HRx.out.cell (Qp _ _ _ (by have:=hgX (n-1) (by omega);rwa [show i+(n-1)=i+n-1 by omega] at this))
   have hc2:wr.cell? ⟨gx,i+n-2,none⟩=some (.int .u32 (X.getD (i+n-2) 0:Nat)):=HRx.out.cell (Qp _ _ _ (by have:=hgX (n-2) (by omega);rwa [show i+(n-2)=i+n-2 by omega] at this))
   have hd1:wr.cell? ⟨gy,n-1,none⟩=some (.int .u32 (Y.getD (n-1) 0:Nat)):=HRy.out.cell (Qp _ _ _ (by rw [List.getD_eq_getElem?_getD,List.getElem?_eq_getElem (by rw [HN.out];omega)];rfl))
   have hd2:wr.cell? ⟨gy,n-2,none⟩=some (.int .u32 (Y.getD (n-2) 0:Nat)):=HRy.out.cell (Qp _ _ _ (by rw [List.getD_eq_getElem?_getD,List.getElem?_eq_getElem (by rw [HN.out];omega)];rfl))
   have ht:X.getD (i+n) 0<4294967296:=HGS.out.hx0
   clear hgX hgS
   have hcell:=HRx.out
   rw [hsp.1] at hcell
   rw [HN.out] at hsp hseg hcell HST HGS
   have HSP:=Lib.hid hsp
   have HSG:=Lib.hid hseg
   have HRx:=Lib.hid hcell
   have HSL:=Lib.hid ((HI.out.xlt.drop i).take n)
   clear hsp hseg hcell hSl
   generalize X.getD (i+n) 0=x0 at *
   generalize X.getD (i+n-1) 0=x1 at *
   generalize X.getD (i+n-2) 0=x2 at *
   generalize Y.getD (n-1) 0=y1 at *
   generalize Y.getD (n-2) 0=y2 at *
   obtain ⟨u,hu⟩:∃ u,u=Qc W (seg X i n++[x0]):=⟨_,rfl⟩
   have HST2:=Lib.hid (fun h=>HST.out u hu h)
   rw [←hu] at HGS HSG
   have HU:=Lib.hid hu
   clear hu HST
   have hqe:u/Qc W Y=u/Qc W Y:=rfl
   generalize hq:u/Qc W Y=q at *
   have HQ:=Lib.hid hq
   clear hq hqe
   have hG0:=HGS.out.hx0
   have hG1:=HGS.out.hx1
   have hG2:=HGS.out.hx2
   have hG3:=HGS.out.hy1
   have hG4:=HGS.out.hy2
   unfold W at hG0 hG1 hG2 hG3 hG4
   have hO:=Q9h x0 x1 hG0 hG1
   rw [show (((i+1:Nat):Int)-1)=(i:Nat) by omega]
   go_wp2_with fail
   go_step3
   go_wp2_with fail
   go_quiet (fail)
   go_wp2_with fail
   go_quiet (fail)
   go_wp2_with fail
   have hstart:=HGS.out.start
   have HS2:=Lib.hid hstart
   have hy1big:=HGS.out.big
   generalize hd0:(x0*W+x1)/y1=d0 at *
   generalize hr0:(x0*W+x1)%y1=r0 at *
   have ed:((x0:Int)*4294967296+x1)/y1=(d0:Nat):=by rw [←hd0];simp [W]
   have er:((x0:Int)*4294967296+x1)%y1=(r0:Nat):=by rw [←hr0];simp [W]
   rw [ed,er]
   clear ed er hd0 hr0 hstart hO
   obtain ⟨wo,rfl⟩:∃ wo:World,wo=wr:=⟨_,rfl⟩
   go_step3
   go_wp2_with fail
   go_loopw [9,10] (fun dv rv wr=>∃ d r m:Nat,dv = .int .u64 (d:Nat)∧rv = .int .u64 (r:Nat)∧d*y1+r=x0*W+x1∧r<W∧q≤d∧d≤W+1∧wr=wo.drewN m)
    (fun dv _ _=>(intOf dv).toNat)
   case atStart=>exact ⟨d0,r0,_,rfl,rfl,HS2.out.2.2.2,Nat.lt_trans HS2.out.2.2.1 HGS.out.hy1,HS2.out.1,HS2.out.2.1,by rw [World.drewN_drewN]⟩
   case round =>
    obtain ⟨d,r,m,rfl,rfl,he,hr,hqd,hdW,rfl⟩:=hrel
    have HE:=Lib.hid he
    have HNX:=Lib.hid (HGS.out.next he)
    have HDN:=Lib.hid (HGS.out.down he)
    have HDO:=Lib.hid (HGS.out.done he)
    clear he HS2
    unfold W at hr hdW
    have hO2:=Q9h r x2 hr hG2
    by_cases hbig1:4294967296≤d
    ·have hlt:=HDN.out (.inl hbig1)
     obtain ⟨e,rfl⟩:∃ e,d=e+1:=⟨d-1,by omega⟩
     have HNX2:=HNX.out (by omega)
     rw [Nat.add_sub_cancel] at HNX2
     have HNX2:=Lib.hid HNX2
     have HD2:=Lib.hid (HGS.out.done2 HNX2.out (by unfold W;omega))
     have hT:decide ((0:Int)<((e:Int)+1)/4294967296)=true:=by rw [decide_eq_true_eq];omega
     clear HNX HDN HDO
     by_cases hbr:4294967296≤r+y1
     ·have hfin:=HD2.out hbr
      go_wp2_with fail
      go_quiet (fail)
      go_wp2_with fail
      rw [show i+n+1-i=n+1 by omega]
      refine (Wu n gx gy E i (cx-i) cy e x0 (X.take i) (seg X i n) (X.drop (i+n+1)) Y HN.out HSP.out.2.1 HSP.out.2.2 HSL.out hG0 HY.out (by first | exact hfin.1 | omega) hne (by omega) _ (HRx.out.drewN _) (HRy.out.drewN _)).mono ?_
      rintro e9 w2 ⟨rfl,hg2,xs',t',hR2,hl2,hlt2,hd2⟩
      have HTD:=Lib.hid (Ws HV0.out HQ.out.symm (by omega) (hfin.2))
      rw [←HU.out] at hd2 ⊢
      have HRy2:=Lib.hid ((HRy.out.drewN (m+nq)).grown hg2 (by simp [hne]))
      have HRq2:=Lib.hid ((HRq.out.drewN (m+nq)).grown hg2 (by simp;omega))
      have HG2:=Lib.hid (Xa (Hg HG.out (m+nq)) hg2)
      have HR2:=Lib.hid hR2
      have HD2x:=Lib.hid hd2
      have hl2:=hl2.trans HSP.out.2.2
      have HL2:=Lib.hid hl2
      have HLT2:=Lib.hid hlt2
      have hql:Q.length=L-n:=by have:=HI.out.ql;rwa [HN.out] at this
      have HQL:=Lib.hid hql
      have hqW:q<4294967296:=HGS.out.qW
      have hdW4:e<4294967296:=by first | exact hfin.1 | omega
      clear hR2 hg2 hl2 hlt2 hd2 hql
      by_cases hdq:e=q
      ·have hnl:¬ u<e*Qc W Y:=fun h=>by have:=HTD.out.1.1 h;omega
       have hb:decide (u<e*Qc W Y)=false:=by rw [decide_eq_false_iff_not];exact hnl
       have HFIN:Hid (Qc W (xs'++[t'])=u%Qc W Y):=by unfold Hid;rw [HD2x.out,if_neg hnl];exact HTD.out.2.1 hdq
       rw [hb]
       have hcq:w2.cell? ⟨w.heap.size,i,none⟩=some (.int .u32 (Q.getD i 0:Nat)):=HRq2.out.cell (Qp _ _ _ (by rw [List.getD_eq_getElem?_getD,List.getElem?_eq_getElem (by rw [HQL.out];omega)];rfl))
       have hfq:=HRq2.out.free i
       have HDQ:=Lib.hid hdq
       clear hdq hnl hb
       generalize Q.getD i 0=q0 at *
       go_wp2_with fail
       rw [Exit.noGoto_normal]
       go_wp2_with fail
       go_roundw
       case rel =>
        refine ⟨i,X.take i++xs'++t'::X.drop (i+n+1),Q.set i q,by omega,by go_num,?_,HR2.out.setOther _ (by simp;omega) _,HRy2.out.setOther _ (by simp;omega) _,?_,Zj HG2.out (by simp) _ _⟩
        ·exact HST2.out hqW xs' t' HL2.out HLT2.out HFIN.out
        ·have:=HRq2.out.set i (.int .u32 (q:Nat))
         rw [Jf] at this
         rw [←HDQ.out] at this ⊢
         exact this
       case measure=>simp [intOf]
      ·have hlq:e=q+1:=by omega
       have hyl:u<e*Qc W Y:=HTD.out.1.2 hlq
       have hb:decide (u<e*Qc W Y)=true:=by rw [decide_eq_true_eq];exact hyl
       have HF1:Hid (Qc W (xs'++[t'])=u+W^(n+1)-e*Qc W Y):=by unfold Hid;rw [HD2x.out,if_pos hyl,HSP.out.2.2]
       have HVM:Hid (Qc W Y≤W^(n+1)):=by
        have h1:=Kn (show 0<W by decide) HY.out
        rw [HN.out] at h1
        exact Nat.le_trans (Nat.le_of_lt h1) (Nat.pow_le_pow_right (by decide) (by omega))
       have HF2:=Lib.hid (HTD.out.2.2 hlq _ HVM.out)
       rw [hb]
       have ht':t'<4294967296:=HLT2.out t' (by simp)
       have hx':AllLt W xs':=fun z hz=>HLT2.out z (by simp [hz])
       have HX':=Lib.hid hx'
       clear hdq hyl hb hx'
       go_wp2_with fail
       rw [show i+n+1-i=n+1 by omega]
       refine (Wk n gx gy E i (cx-i) cy t' (X.take i) xs' (X.drop (i+n+1)) Y HN.out HSP.out.2.1 HL2.out HX'.out ht' HY.out hne (by omega) _ HR2.out HRy2.out).mono ?_
       rintro e9 w3 ⟨rfl,hg3,xs2,t2,hR3,hl3,hlt3,hd3⟩
       have HRy3:=Lib.hid (HRy2.out.grown hg3 (by simp [hne]))
       have HRq3:=Lib.hid (HRq2.out.grown hg3 (by simp;omega))
       have HG3:=Lib.hid (Xa HG2.out hg3)
       have HR3:=Lib.hid hR3
       have HL3:=Lib.hid (hl3.trans HL2.out)
       have HLT3:=Lib.hid hlt3
       have HFIN:Hid (Qc W (xs2++[t2])=u%Qc W Y):=by unfold Hid;rw [hd3,HL2.out,HF1.out];exact HF2.out
       clear hR3 hg3 hl3 hlt3 hd3 HF1 HF2
       have hcq:w3.cell? ⟨w.heap.size,i,none⟩=some (.int .u32 (Q.getD i 0:Nat)):=HRq3.out.cell (Qp _ _ _ (by rw [List.getD_eq_getElem?_getD,List.getElem?_eq_getElem (by rw [HQL.out];omega)];rfl))
       have hfq:=HRq3.out.free i
       have HDQ:=Lib.hid hlq
       have hdge:1≤e:=by omega
       clear hlq
       generalize Q.getD i 0=q0 at *
       go_wp2_with fail
       rw [Exit.noGoto_normal]
       go_wp2_with fail
       go_roundw
       case rel =>
        refine ⟨i,X.take i++xs2++t2::X.drop (i+n+1),Q.set i q,by omega,by go_num,?_,HR3.out.setOther _ (by simp;omega) _,HRy3.out.setOther _ (by simp;omega) _,?_,Zj HG3.out (by simp) _ _⟩
        ·exact HST2.out hqW xs2 t2 HL3.out HLT3.out HFIN.out
        ·have:=HRq3.out.set i (.int .u32 (q:Nat))
         rw [Jf] at this
         have hdq:=HDQ.out
         exact this
       case measure=>simp [intOf]
     ·go_wp2_with fail
      go_quiet (fail)
      go_wp2_with fail
      go_roundw
      case rel=>exact ⟨e,r+y1,_,by go_num,by go_num,HNX2.out,by unfold W;omega,by omega,by unfold W;omega,rfl⟩
      case measure=>first | (simp [intOf];done) | (simp [intOf];omega)
    ·obtain ⟨p,hp⟩:∃ p:Nat,p=d*y2:=⟨_,rfl⟩
     have hpI:(d:Int)*y2=p:=by rw [hp];simp
     have hp2:p≤4294967295*4294967295:=by rw [hp];exact Nat.mul_le_mul (by omega) (by omega)
     rw [←hp] at HDN HDO
     clear hp
     have hT:decide ((0:Int)<(d:Int)/4294967296)=false:=by rw [decide_eq_false_iff_not];omega
     by_cases hgt:r*4294967296+x2<p
     ·have hlt:=HDN.out (.inr (by unfold W;exact hgt))
      have hT2:decide ((r:Int)*4294967296+x2<p)=true:=by rw [decide_eq_true_eq];omega
      have HNX2:=Lib.hid (HNX.out (by omega))
      have HD2:=Lib.hid (HGS.out.done2 HNX2.out (by unfold W;omega))
      clear HNX HDN HDO
      by_cases hbr:4294967296≤r+y1
      ·have hfin:=HD2.out hbr
       go_wp2_with fail
       go_quiet (fail)
       go_wp2_with fail
       rw [show i+n+1-i=n+1 by omega]
       rw [show ((d:Int)-1)=((d-1:Nat):Int) by omega]
       refine (Wu n gx gy E i (cx-i) cy (d-1) x0 (X.take i) (seg X i n) (X.drop (i+n+1)) Y HN.out HSP.out.2.1 HSP.out.2.2 HSL.out hG0 HY.out (by first | exact hfin.1 | omega) hne (by omega) _ (HRx.out.drewN _) (HRy.out.drewN _)).mono ?_
       rintro e9 w2 ⟨rfl,hg2,xs',t',hR2,hl2,hlt2,hd2⟩
       have HTD:=Lib.hid (Ws HV0.out HQ.out.symm (by omega) (hfin.2))
       rw [←HU.out] at hd2 ⊢
       have HRy2:=Lib.hid ((HRy.out.drewN (m+nq)).grown hg2 (by simp [hne]))
       have HRq2:=Lib.hid ((HRq.out.drewN (m+nq)).grown hg2 (by simp;omega))
       have HG2:=Lib.hid (Xa (Hg HG.out (m+nq)) hg2)
       have HR2:=Lib.hid hR2
       have HD2x:=Lib.hid hd2
       have hl2:=hl2.trans HSP.out.2.2
       have HL2:=Lib.hid hl2
       have HLT2:=Lib.hid hlt2
       have hql:Q.length=L-n:=by have:=HI.out.ql;rwa [HN.out] at this
       have HQL:=Lib.hid hql
       have hqW:q<4294967296:=HGS.out.qW
       have hdW4:d-1<4294967296:=by first | exact hfin.1 | omega
       clear hR2 hg2 hl2 hlt2 hd2 hql
       by_cases hdq:(d-1)=q
       ·have hnl:¬ u<(d-1)*Qc W Y:=fun h=>by have:=HTD.out.1.1 h;omega
        have hb:decide (u<(d-1)*Qc W Y)=false:=by rw [decide_eq_false_iff_not];exact hnl
        have HFIN:Hid (Qc W (xs'++[t'])=u%Qc W Y):=by unfold Hid;rw [HD2x.out,if_neg hnl];exact HTD.out.2.1 hdq
        rw [hb]
        have hcq:w2.cell? ⟨w.heap.size,i,none⟩=some (.int .u32 (Q.getD i 0:Nat)):=HRq2.out.cell (Qp _ _ _ (by rw [List.getD_eq_getElem?_getD,List.getElem?_eq_getElem (by rw [HQL.out];omega)];rfl))
        have hfq:=HRq2.out.free i
        have HDQ:=Lib.hid hdq
        clear hdq hnl hb
        generalize Q.getD i 0=q0 at *
        go_wp2_with fail
        rw [Exit.noGoto_normal]
        go_wp2_with fail
        go_roundw
        case rel =>
         refine ⟨i,X.take i++xs'++t'::X.drop (i+n+1),Q.set i q,by omega,by go_num,?_,HR2.out.setOther _ (by simp;omega) _,HRy2.out.setOther _ (by simp;omega) _,?_,Zj HG2.out (by simp) _ _⟩
         ·exact HST2.out hqW xs' t' HL2.out HLT2.out HFIN.out
         ·have:=HRq2.out.set i (.int .u32 (q:Nat))
          rw [Jf] at this
          rw [←HDQ.out] at this ⊢
          exact this
        case measure=>simp [intOf]
       ·have hlq:(d-1)=q+1:=by omega
        have hyl:u<(d-1)*Qc W Y:=HTD.out.1.2 hlq
        have hb:decide (u<(d-1)*Qc W Y)=true:=by rw [decide_eq_true_eq];exact hyl
        have HF1:Hid (Qc W (xs'++[t'])=u+W^(n+1)-(d-1)*Qc W Y):=by unfold Hid;rw [HD2x.out,if_pos hyl,HSP.out.2.2]
        have HVM:Hid (Qc W Y≤W^(n+1)):=by
         have h1:=Kn (show 0<W by decide) HY.out
         rw [HN.out] at h1
         exact Nat.le_trans (Nat.le_of_lt h1) (Nat.pow_le_pow_right (by decide) (by omega))
        have HF2:=Lib.hid (HTD.out.2.2 hlq _ HVM.out)
        rw [hb]
        have ht':t'<4294967296:=HLT2.out t' (by simp)
        have hx':AllLt W xs':=fun z hz=>HLT2.out z (by simp [hz])
        have HX':=Lib.hid hx'
        clear hdq hyl hb hx'
        go_wp2_with fail
        rw [show i+n+1-i=n+1 by omega]
        refine (Wk n gx gy E i (cx-i) cy t' (X.take i) xs' (X.drop (i+n+1)) Y HN.out HSP.out.2.1 HL2.out HX'.out ht' HY.out hne (by omega) _ HR2.out HRy2.out).mono ?_
        rintro e9 w3 ⟨rfl,hg3,xs2,t2,hR3,hl3,hlt3,hd3⟩
        have HRy3:=Lib.hid (HRy2.out.grown hg3 (by simp [hne]))
        have HRq3:=Lib.hid (HRq2.out.grown hg3 (by simp;omega))
        have HG3:=Lib.hid (Xa HG2.out hg3)
        have HR3:=Lib.hid hR3
        have HL3:=Lib.hid (hl3.trans HL2.out)
        have HLT3:=Lib.hid hlt3
        have HFIN:Hid (Qc W (xs2++[t2])=u%Qc W Y):=by unfold Hid;rw [hd3,HL2.out,HF1.out];exact HF2.out
        clear hR3 hg3 hl3 hlt3 hd3 HF1 HF2
        have hcq:w3.cell? ⟨w.heap.size,i,none⟩=some (.int .u32 (Q.getD i 0:Nat)):=HRq3.out.cell (Qp _ _ _ (by rw [List.getD_eq_getElem?_getD,List.getElem?_eq_getElem (by rw [HQL.out];omega)];rfl))
        have hfq:=HRq3.out.free i
        have HDQ:=Lib.hid hlq
        have hdge:1≤(d-1):=by omega
        clear hlq
        generalize Q.getD i 0=q0 at *
        go_wp2_with fail
        rw [Exit.noGoto_normal]
        go_wp2_with fail
        go_roundw
        case rel =>
         refine ⟨i,X.take i++xs2++t2::X.drop (i+n+1),Q.set i q,by omega,by go_num,?_,HR3.out.setOther _ (by simp;omega) _,HRy3.out.setOther _ (by simp;omega) _,?_,Zj HG3.out (by simp) _ _⟩
         ·exact HST2.out hqW xs2 t2 HL3.out HLT3.out HFIN.out
         ·have:=HRq3.out.set i (.int .u32 (q:Nat))
          rw [Jf] at this
          have hdq:=HDQ.out
          exact this
        case measure=>simp [intOf]
      ·go_wp2_with fail
       go_quiet (fail)
       go_wp2_with fail
       go_roundw
       case rel=>exact ⟨d-1,r+y1,_,by go_num,by go_num,HNX2.out,by unfold W;omega,by omega,by unfold W;omega,rfl⟩
       case measure=>first | (simp [intOf];done) | (simp [intOf];omega)
     ·have hfin:=HDO.out (by unfold W;omega) (by unfold W;omega)
      have hT2:decide ((r:Int)*4294967296+x2<p)=false:=by rw [decide_eq_false_iff_not];omega
      clear HNX HDN HDO
      go_wp2_with fail
      go_quiet (fail)
      go_wp2_with fail
      rw [show i+n+1-i=n+1 by omega]
      refine (Wu n gx gy E i (cx-i) cy d x0 (X.take i) (seg X i n) (X.drop (i+n+1)) Y HN.out HSP.out.2.1 HSP.out.2.2 HSL.out hG0 HY.out (by first | exact hfin.1 | omega) hne (by omega) _ (HRx.out.drewN _) (HRy.out.drewN _)).mono ?_
      rintro e9 w2 ⟨rfl,hg2,xs',t',hR2,hl2,hlt2,hd2⟩
      have HTD:=Lib.hid (Ws HV0.out HQ.out.symm (by omega) (hfin))
      rw [←HU.out] at hd2 ⊢
      have HRy2:=Lib.hid ((HRy.out.drewN (m+nq)).grown hg2 (by simp [hne]))
      have HRq2:=Lib.hid ((HRq.out.drewN (m+nq)).grown hg2 (by simp;omega))
      have HG2:=Lib.hid (Xa (Hg HG.out (m+nq)) hg2)
      have HR2:=Lib.hid hR2
      have HD2x:=Lib.hid hd2
      have hl2:=hl2.trans HSP.out.2.2
      have HL2:=Lib.hid hl2
      have HLT2:=Lib.hid hlt2
      have hql:Q.length=L-n:=by have:=HI.out.ql;rwa [HN.out] at this
      have HQL:=Lib.hid hql
      have hqW:q<4294967296:=HGS.out.qW
      have hdW4:d<4294967296:=by first | exact hfin.1 | omega
      clear hR2 hg2 hl2 hlt2 hd2 hql
      by_cases hdq:d=q
      ·have hnl:¬ u<d*Qc W Y:=fun h=>by have:=HTD.out.1.1 h;omega
       have hb:decide (u<d*Qc W Y)=false:=by rw [decide_eq_false_iff_not];exact hnl
       have HFIN:Hid (Qc W (xs'++[t'])=u%Qc W Y):=by unfold Hid;rw [HD2x.out,if_neg hnl];exact HTD.out.2.1 hdq
       rw [hb]
       have hcq:w2.cell? ⟨w.heap.size,i,none⟩=some (.int .u32 (Q.getD i 0:Nat)):=HRq2.out.cell (Qp _ _ _ (by rw [List.getD_eq_getElem?_getD,List.getElem?_eq_getElem (by rw [HQL.out];omega)];rfl))
       have hfq:=HRq2.out.free i
       have HDQ:=Lib.hid hdq
       clear hdq hnl hb
       generalize Q.getD i 0=q0 at *
       go_wp2_with fail
       rw [Exit.noGoto_normal]
       go_wp2_with fail
       go_roundw
       case rel =>
        refine ⟨i,X.take i++xs'++t'::X.drop (i+n+1),Q.set i q,by omega,by go_num,?_,HR2.out.setOther _ (by simp;omega) _,HRy2.out.setOther _ (by simp;omega) _,?_,Zj HG2.out (by simp) _ _⟩
        ·exact HST2.out hqW xs' t' HL2.out HLT2.out HFIN.out
        ·have:=HRq2.out.set i (.int .u32 (q:Nat))
         rw [Jf] at this
         rw [←HDQ.out] at this ⊢
         exact this
       case measure=>simp [intOf]
      ·have hlq:d=q+1:=by omega
       have hyl:u<d*Qc W Y:=HTD.out.1.2 hlq
       have hb:decide (u<d*Qc W Y)=true:=by rw [decide_eq_true_eq];exact hyl
       have HF1:Hid (Qc W (xs'++[t'])=u+W^(n+1)-d*Qc W Y):=by unfold Hid;rw [HD2x.out,if_pos hyl,HSP.out.2.2]
       have HVM:Hid (Qc W Y≤W^(n+1)):=by
        have h1:=Kn (show 0<W by decide) HY.out
        rw [HN.out] at h1
        exact Nat.le_trans (Nat.le_of_lt h1) (Nat.pow_le_pow_right (by decide) (by omega))
       have HF2:=Lib.hid (HTD.out.2.2 hlq _ HVM.out)
       rw [hb]
       have ht':t'<4294967296:=HLT2.out t' (by simp)
       have hx':AllLt W xs':=fun z hz=>HLT2.out z (by simp [hz])
       have HX':=Lib.hid hx'
       clear hdq hyl hb hx'
       go_wp2_with fail
       rw [show i+n+1-i=n+1 by omega]
       refine (Wk n gx gy E i (cx-i) cy t' (X.take i) xs' (X.drop (i+n+1)) Y HN.out HSP.out.2.1 HL2.out HX'.out ht' HY.out hne (by omega) _ HR2.out HRy2.out).mono ?_
       rintro e9 w3 ⟨rfl,hg3,xs2,t2,hR3,hl3,hlt3,hd3⟩
       have HRy3:=Lib.hid (HRy2.out.grown hg3 (by simp [hne]))
       have HRq3:=Lib.hid (HRq2.out.grown hg3 (by simp;omega))
       have HG3:=Lib.hid (Xa HG2.out hg3)
       have HR3:=Lib.hid hR3
       have HL3:=Lib.hid (hl3.trans HL2.out)
       have HLT3:=Lib.hid hlt3
       have HFIN:Hid (Qc W (xs2++[t2])=u%Qc W Y):=by unfold Hid;rw [hd3,HL2.out,HF1.out];exact HF2.out
       clear hR3 hg3 hl3 hlt3 hd3 HF1 HF2
       have hcq:w3.cell? ⟨w.heap.size,i,none⟩=some (.int .u32 (Q.getD i 0:Nat)):=HRq3.out.cell (Qp _ _ _ (by rw [List.getD_eq_getElem?_getD,List.getElem?_eq_getElem (by rw [HQL.out];omega)];rfl))
       have hfq:=HRq3.out.free i
       have HDQ:=Lib.hid hlq
       have hdge:1≤d:=by omega
       clear hlq
       generalize Q.getD i 0=q0 at *
       go_wp2_with fail
       rw [Exit.noGoto_normal]
       go_wp2_with fail
       go_roundw
       case rel =>
        refine ⟨i,X.take i++xs2++t2::X.drop (i+n+1),Q.set i q,by omega,by go_num,?_,HR3.out.setOther _ (by simp;omega) _,HRy3.out.setOther _ (by simp;omega) _,?_,Zj HG3.out (by simp) _ _⟩
        ·exact HST2.out hqW xs2 t2 HL3.out HLT3.out HFIN.out
        ·have:=HRq3.out.set i (.int .u32 (q:Nat))
         rw [Jf] at this
         have hdq:=HDQ.out
         exact this
       case measure=>simp [intOf]
  ·obtain rfl:k=0:=by omega
   go_wp2_with fail
   go_ret
   refine ⟨?_,HG.out,X,Q,HRx.out,HRq.out,HI.out⟩
   rw [HN.out];rfl
end
/- Div. -/
section
open Go.RowKit Num
theorem Vq (w:World) (s t:ByteArray) (T:TypeId):∃ w0,w0=(((w.alloc (Obj.cells #[Value.string s] T)).alloc (Obj.cells #[Value.string t] T)).alloc (Obj.cells #[Value.string { data:=#[] }] T)).alloc (Obj.cells #[Value.string { data:=#[] }] T) ∧
  w0.cell? ⟨w.heap.size,0,none⟩=some (.string s)∧w0.cell? ⟨w.heap.size+1,0,none⟩=some (.string t)∧w0.cell? ⟨w.heap.size+1+1,0,none⟩=some (.string { data:=#[] }) ∧
  w0.frozen? ⟨w.heap.size+1+1,0,none⟩=false∧w0.cell? ⟨w.heap.size+1+1+1,0,none⟩=some (.string { data:=#[] }) ∧
  w0.frozen? ⟨w.heap.size+1+1+1,0,none⟩=false∧w.heap.size+4≤w0.heap.size∧Hid (Below w.heap.size w w0) :=
 ⟨_,rfl,by simp [go_sem],by simp [go_sem],by simp [go_sem],by simp [go_sem],by simp [go_sem],by simp [go_sem],by simp,((((Below.refl _ _).alloc (Nat.le_refl _) _).alloc (by simp) _).alloc (by simp;omega) _).alloc (by simp;omega) _⟩
theorem nb_zero2:nb 0={ data:=#[] }:=rfl
structure Boxes (w wx:World):Prop where
 c1:wx.cell? ⟨w.heap.size+1+1,0,none⟩=some (.string { data:=#[] })
 f1:wx.frozen? ⟨w.heap.size+1+1,0,none⟩=false
 c2:wx.cell? ⟨w.heap.size+1+1+1,0,none⟩=some (.string { data:=#[] })
 f2:wx.frozen? ⟨w.heap.size+1+1+1,0,none⟩=false
 below:Below w.heap.size w wx
 size:w.heap.size+4≤wx.heap.size
theorem Boxes.on {w wx wy:World} (h:Boxes w wx) {B:Nat} (hB:w.heap.size+4≤B) (hb:Below B wx wy):Boxes w wy :=
 ⟨Q8 hb (by omega) h.c1,by rw [hb.frozen (p:=⟨w.heap.size+1+1,0,none⟩) (by simp;omega)];exact h.f1,
  Q8 hb (by omega) h.c2,by rw [hb.frozen (p:=⟨w.heap.size+1+1+1,0,none⟩) (by simp;omega)];exact h.f2,
  h.below.trans (hb.mono (by omega)),Nat.le_trans h.size hb.size⟩
theorem Boxes.drew {w wx:World} (h:Boxes w wx):Boxes w wx.drew:=h.on (Nat.le_refl _) (Below.refl _ _).drew
def Uf (q r:Nat) (ok:Bool) (w:World) (e:Ending) (w':World):Prop :=
 e = .returned (.tuple #[Qj q,Qj r,.bool ok])∧Below w.heap.size w w'
set_option maxHeartbeats 1600000 in
set_option maxRecDepth 100000 in
theorem div_zero (a:Nat) (ha:nl a≤1073741824) (w:World) :
  Calls Tryz.prog 66 #[Qj a,Qj 0] w (Uf 0 0 false w):=by
 have hb:nl 0≤1073741824:=by decide
 unfold Qj
 go_enter Tryz.func66,Tryz.ntmps66
 go_wp2_with fail
 obtain ⟨w0,hw0,c1,c2,c3,f3,c4,f4,sz,HB⟩:=Vq w (nb a) (nb 0) 38
 rw [←hw0]
 clear hw0
 have HBX:Hid (Boxes w w0):=⟨c3,f3,c4,f4,HB.out,sz⟩
 clear c3 f3 c4 f4 HB
 go_region_held3 (fun w'=>w'.cell? ⟨w.heap.size,0,none⟩=some (.string (nb a))∧w'.cell? ⟨w.heap.size+1,0,none⟩=some (.string (nb 0)))
  (first | go_keep | exact ⟨by assumption,by assumption⟩)
  (first
   | (go_at_call 31;((with_reducible refine (Yt a (by omega) _).mono ?_);rintro e w1 ⟨rfl,hR1,hB1⟩;have k1:=Q8 hB1 (by simp;omega) c1;have k2:=Q8 hB1 (by simp;omega) c2))
   | (go_at_call 31;((with_reducible refine (Yt 0 (by omega) _).mono ?_);rintro e w2 ⟨rfl,hR2,hB2⟩;have j1:=Q8 hB2 (by have:=hB1.size;simp at this;omega) k1;have j2:=Q8 hB2 (by have:=hB1.size;simp at this;omega) k2)))
 have sz2:w0.heap.size+1<w1.heap.size:=by simpa using hR1.lt
 have HBX2:=Lib.hid ((HBX.out.drew.on (B:=w0.heap.size) sz hB1).on (B:=w1.heap.size) (by omega) hB2)
 have bc1:=HBX2.out.c1
 have bf1:=HBX2.out.f1
 have bc2:=HBX2.out.c2
 have bf2:=HBX2.out.f2
 clear hR1 hR2 hB1 hB2 c1 c2 k1 k2 HBX j1 j2
 rw [Ym]
 go_wp2_with fail
 exact bodyPost_ret (v:=.tuple #[Qj 0,Qj 0,.bool false]) (by simp [results,Tryz.results66,go_sem,Q03,bc1,bc2]) rfl ⟨rfl,(HBX2.out.below.setCell (by simp;omega) _).setCell (by simp;omega) _⟩
set_option maxHeartbeats 1600000 in
set_option maxRecDepth 100000 in
theorem div_less (a b:Nat) (ha:nl a≤1073741824) (hb:nl b≤1073741824) (hb0:0<b) (hab:a<b) (w:World) :
  Calls Tryz.prog 66 #[Qj a,Qj b] w (Uf 0 a true w):=by
 have HC:=Lib.hid (Q4z hab)
 have hpos:0<(Qa W b).length:=List.length_pos_iff.2 (fun h=>by have:=(Ku (B:=W) (by decide)).1 h;omega)
 have hwl:=Xg b
 clear hab hb0
 unfold Qj
 go_enter Tryz.func66,Tryz.ntmps66
 go_wp2_with fail
 obtain ⟨w0,hw0,c1,c2,c3,f3,c4,f4,sz,HB⟩:=Vq w (nb a) (nb b) 38
 rw [←hw0]
 clear hw0
 have HBX:Hid (Boxes w w0):=⟨c3,f3,c4,f4,HB.out,sz⟩
 clear c3 f3 c4 f4 HB
 go_region_held3 (fun w'=>w'.cell? ⟨w.heap.size,0,none⟩=some (.string (nb a))∧w'.cell? ⟨w.heap.size+1,0,none⟩=some (.string (nb b)))
  (first | go_keep | exact ⟨by assumption,by assumption⟩)
  (first
   | (go_at_call 31;((with_reducible refine (Yt a (by omega) _).mono ?_);rintro e w1 ⟨rfl,hR1,hB1⟩;have k1:=Q8 hB1 (by simp;omega) c1;have k2:=Q8 hB1 (by simp;omega) c2))
   | (go_at_call 31;((with_reducible refine (Yt b (by omega) _).mono ?_);rintro e w2 ⟨rfl,hR2,hB2⟩;have j1:=Q8 hB2 (by have:=hB1.size;simp at this;omega) k1;have j2:=Q8 hB2 (by have:=hB1.size;simp at this;omega) k2)))
 have sz2:w0.heap.size+1<w1.heap.size:=by simpa using hR1.lt
 have HBX2:=Lib.hid ((HBX.out.drew.on (B:=w0.heap.size) sz hB1).on (B:=w1.heap.size) (by omega) hB2)
 have hs2:=HBX2.out.size
 clear hR1 hR2 hB1 hB2 c1 c2 k1 k2 HBX
 have hne:(((Qa W b).length:Int) == 0)=false:=J7 (by omega)
 go_wp2_with fail
 refine (Q01 a b (by omega) (by omega) w2).mono ?_
 rintro e w3 ⟨rfl,hB3⟩
 rw [HC.out]
 have i1:=Q8 hB3 (by omega) j1
 have HBX3:=Lib.hid (HBX2.out.on (B:=w2.heap.size) hs2 hB3)
 have bc1:=HBX3.out.c1
 have bf1:=HBX3.out.f1
 have bc2:=HBX3.out.c2
 have bf2:=HBX3.out.f2
 clear hB3 HBX2 j1 j2
 go_wp2_with fail
 go_region
 all_goals
  go_wp2_with fail
  exact bodyPost_ret (v:=.tuple #[Qj 0,Qj a,.bool true]) (by simp [results,Tryz.results66,go_sem,Qj,nb_zero2,bc1,bc2]) rfl ⟨rfl,(HBX3.out.below.drew.setCell (by simp;omega) _).setCell (by simp;omega) _⟩
theorem Row.toOwns {w:World} {base g n:Nat} {E:TypeId} {xs:List Value} (h:Row w g E xs) (hb:base≤g) (hn:xs.length=n) (hm:n≤maxLen) :
  w.ownsRow base E 1 (.slice (some ⟨g,0,none⟩) n n) n xs :=
 ⟨by omega,.inr ⟨g,n,xs.toArray,rfl,hb,h,Nat.le_refl _,hm,by simp [hn],by rw [Nat.mul_one,List.take_of_length_le];simp [hn]⟩⟩
set_option maxHeartbeats 1600000 in
set_option maxRecDepth 100000 in
theorem div_one (a b:Nat) (ha:nl a≤1073741824) (hb:nl b≤1073741824) (hb0:0<b) (hb1:b<4294967296) (hab:b≤a) (w:World) :
  Calls Tryz.prog 66 #[Qj a,Qj b] w (Uf (a/b) (a%b) true w):=by
 have HC:Hid (0≤H9 a b∧H9 a b≤1):=by
  unfold Hid H9
  rw [if_neg (by omega)];split<;>omega
 have HYB:Hid (Qa W b=[b]):=by
  unfold Hid
  rw [Yc (by decide) hb0,Nat.mod_eq_of_lt hb1,Nat.div_eq_of_lt hb1,Ym]
 have hpos:0<(Qa W b).length:=by rw [HYB.out];exact Nat.one_pos
 have hwl:=Xg b
 have hwa:=Xg a
 unfold Qj
 go_enter Tryz.func66,Tryz.ntmps66
 go_wp2_with fail
 obtain ⟨w0,hw0,c1,c2,c3,f3,c4,f4,sz,HB⟩:=Vq w (nb a) (nb b) 38
 rw [←hw0]
 clear hw0
 have HBX:Hid (Boxes w w0):=⟨c3,f3,c4,f4,HB.out,sz⟩
 clear c3 f3 c4 f4 HB
 go_region_held3 (fun w'=>w'.cell? ⟨w.heap.size,0,none⟩=some (.string (nb a))∧w'.cell? ⟨w.heap.size+1,0,none⟩=some (.string (nb b)))
  (first | go_keep | exact ⟨by assumption,by assumption⟩)
  (first
   | (go_at_call 31;((with_reducible refine (Yt a (by omega) _).mono ?_);rintro e w1 ⟨rfl,hR1,hB1⟩;have k1:=Q8 hB1 (by simp;omega) c1;have k2:=Q8 hB1 (by simp;omega) c2))
   | (go_at_call 31;((with_reducible refine (Yt b (by omega) _).mono ?_);rintro e w2 ⟨rfl,hR2,hB2⟩;have j1:=Q8 hB2 (by have:=hB1.size;simp at this;omega) k1;have j2:=Q8 hB2 (by have:=hB1.size;simp at this;omega) k2)))
 have sz2:w0.heap.size+1<w1.heap.size:=by simpa using hR1.lt
 have HBX2:=Lib.hid ((HBX.out.drew.on (B:=w0.heap.size) sz hB1).on (B:=w1.heap.size) (by omega) hB2)
 have hs2:=HBX2.out.size
 have hRX:Row w2 (w0.heap.size+1) 72 (J5 (Qa W a)):=hR1.below hB2 sz2
 have hRY:=hR2
 clear hR1 hR2 hB1 hB2 c1 c2 k1 k2 HBX
 have hne:(((Qa W b).length:Int) == 0)=false:=J7 (by omega)
 have HRX:=Lib.hid hRX
 have HRY:=Lib.hid hRY
 clear hRX hRY
 rw [HYB.out] at HRY hne ⊢
 go_wp2_with fail
 refine (Q01 a b (by omega) (by omega) w2).mono ?_
 rintro e w3 ⟨rfl,hB3⟩
 have hc0:=HC.out.1
 have hc1:=HC.out.2
 generalize H9 a b=cc at *
 have HBX3:=Lib.hid (HBX2.out.on (B:=w2.heap.size) hs2 hB3)
 have hsx:=HRX.out.lt
 have HRX3:=Lib.hid (HRX.out.below hB3 HRX.out.lt)
 have HRY3:=HRY.out.below hB3 HRY.out.lt
 have hcy:w3.cell? ⟨w1.heap.size+1,0,none⟩=some (.int .u32 (b:Nat)):=HRY3.cell (Qp [b] 0 b rfl)
 clear hB3 HBX2 j1 j2 HRX HRY HRY3 HC
 go_wp2_with fail
 have hXl:=Ja (B:=W) (by decide) a
 have HS:=Lib.hid (Ar W b hb0 (Qa W a))
 rw [Qw (by decide)] at HS
 have HSL:=Lib.hid (shr_lt W b hb0 (Qa W a) hXl)
 have HSN:=Lib.hid (Wl W b (Qa W a))
 have HSU:Hid (Oj (Qa W a) (Qa W a).length b 0=(shr W b (Qa W a)).1):=by
  unfold Hid Oj
  rw [List.take_zero,List.nil_append,List.take_of_length_le (Nat.le_refl _),List.drop_zero,List.drop_eq_nil_of_le (Nat.le_refl _),List.append_nil]
 refine (Q39 (w0.heap.size+1) 72 (Qa W a).length (Qa W a).length b (Qa W a) (Nat.le_refl _) hXl hb0 hb1 (by omega) w3 HRX3.out).mono ?_
 rintro e w4 ⟨rfl,hR4,hg4⟩
 rw [List.take_of_length_le (Nat.le_refl _),Qw (by decide)]
 rw [HSU.out] at hR4
 have hs3:=HBX3.out.size
 have HBX4:=Lib.hid (HBX3.out.on (B:=w.heap.size+4) (Nat.le_refl _) (Z9 hg4 (by omega) (by simp;omega)))
 have HR4:=Lib.hid hR4
 have hmod:a%b<4294967296:=Nat.lt_trans (Nat.mod_lt _ hb0) hb1
 clear hR4 hg4 HBX3 HRX3 hcy HSU
 generalize (shr W b (Qa W a)).1=Q at *
 generalize ha2:a%b=r at *
 generalize ha3:a/b=q at *
 have HQE:=Lib.hid ha2
 have HQE2:=Lib.hid ha3
 clear ha2 ha3
 generalize (Qa W a).length=nx at *
 go_wp2_with fail
 refine (Xf (some ⟨w0.heap.size+1,0,none⟩) Q nx nx HSN.out HSL.out (by omega) w4 (CellsU.ofRow HR4.out)).mono ?_
 rintro e w5 ⟨rfl,hB5⟩
 rw [HS.out.1]
 have HBX5:=Lib.hid (HBX4.out.on (B:=w4.heap.size) HBX4.out.size hB5)
 clear hB5 HBX4 HR4
 unfold Qj
 go_wp2_with fail
 refine (of_any r (by omega) w5).mono ?_
 rintro e w6 ⟨rfl,hB6⟩
 have HBX6:=Lib.hid (HBX5.out.on (B:=w5.heap.size) HBX5.out.size hB6)
 have bc1:=HBX6.out.c1
 have bf1:=HBX6.out.f1
 have bc2:=HBX6.out.c2
 have bf2:=HBX6.out.f2
 clear hB6 HBX5
 unfold Qj
 go_wp2_with fail
 exact bodyPost_ret (v:=.tuple #[Qj q,Qj r,.bool true]) (by simp [results,Tryz.results66,go_sem,Qj,bc1,bc2]) rfl ⟨rfl,(HBX6.out.below.setCell (by simp;omega) _).setCell (by simp;omega) _⟩
end
end Go.Proofs.YtcpehljpegfckaaGreatDoor
