/- Texts of this claim,joined: WAdd,WSub,WMul,WTake. -/
import Derived.Test.YtcpehljpegfckaaGreatDoorMT29
import Derived.Test.YtcpehljpegfckaaGreatDoorMT27
import Derived.Deep.RegionHeld3
import Derived.Laws.CopyOwn
/- Add. -/
namespace Go.Proofs.YtcpehljpegfckaaGreatDoor
section
open Go.RowKit Num
theorem Yt (n:Nat) (hn:nl n≤1099511627776) (w:World) :
  Calls Tryz.prog 31 #[.agg #[.string (nb n)]] w fun e w' =>
   e = .returned (.slice (some ⟨w.heap.size+1,0,none⟩) (Qa W n).length (Qa W n).length)∧Row w' (w.heap.size+1) 72 (J5 (Qa W n))∧Below w.heap.size w w':=Q3x n hn w
theorem Tryz.sizeU32:(Tryz.prog.info? 72).map (·.size)=some 1:=by kernel_rfl
theorem Hd (l:List Nat):(J5 l).length=l.length:=by simp [J5]
theorem Q27 (l:List Nat):∀ v∈J5 l,v.oneCell'=true:=by
 intro v hv;obtain ⟨d,_,rfl⟩:=List.mem_map.1 hv;rfl
theorem Q16 (a b:List Nat):J5 (a++b)=J5 a++J5 b:=by simp [J5]
def Ka (Y:List Nat) (n:Nat):List Nat:=Y++List.replicate (n-Y.length) 0
theorem Hm (Y:List Nat) (n:Nat) (h:Y.length≤n):(Ka Y n).length=n:=by simp [Ka];omega
theorem Hf (Y:List Nat) (n:Nat):Qc W (Ka Y n)=Qc W Y:=by simp [Ka,J8,Zr]
theorem Uy (Y:List Nat) (n:Nat) (h:AllLt W Y):AllLt W (Ka Y n):=h.append (AllLt.zeros (by decide) _)
theorem Wd (Y:List Nat) (n:Nat) (h:Y.length≤n):splice (J5 (List.replicate (n+1) 0)) 0 (J5 Y)=J5 (Ka Y n++[0]):=by
 unfold splice Ka
 simp only [List.take_zero,List.nil_append,Hd,Nat.zero_add]
 rw [show List.replicate (n+1) 0=List.replicate Y.length 0++List.replicate (n-Y.length+1) (0:Nat) by rw [List.replicate_append_replicate];congr 1;omega]
 rw [Q16,List.drop_append_of_le_length (by simp [J5]),List.drop_eq_nil_of_le (by simp [J5]),List.nil_append,List.append_assoc,←Q16,List.replicate_succ']
set_option maxHeartbeats 1600000 in
set_option maxRecDepth 100000 in
theorem add_any (a b:Nat) (ha:nl a≤1073741824) (hb:nl b≤1073741824) (w:World) :
  Calls Tryz.prog 54 #[Qj a,Qj b] w fun e w'=>e = .returned (Qj (a+b))∧Below w.heap.size w w':=by
 unfold Qj
 go_enter Tryz.func54,Tryz.ntmps54
 go_wp2_with fail
 obtain ⟨w0,hw0⟩:∃ w0,w0=((w.alloc (Obj.cells #[Value.string (nb a)] 38)).alloc (Obj.cells #[Value.string (nb b)] 38)).alloc (Obj.cells #[Value.string { data:=#[] }] 38):=⟨_,rfl⟩
 have c1:w0.cell? ⟨w.heap.size,0,none⟩=some (.string (nb a)):=by rw [hw0];simp [go_sem]
 have c2:w0.cell? ⟨w.heap.size+1,0,none⟩=some (.string (nb b)):=by rw [hw0];simp [go_sem]
 have c3:w0.cell? ⟨w.heap.size+1+1,0,none⟩=some (.string { data:=#[] }):=by rw [hw0];simp [go_sem]
 have f3:w0.frozen? ⟨w.heap.size+1+1,0,none⟩=false:=by rw [hw0];simp [go_sem]
 have sz:w.heap.size+3≤w0.heap.size:=by rw [hw0];simp
 have HB:Hid (Below w.heap.size w w0):=by rw [hw0];exact (((Below.refl _ _).alloc (Nat.le_refl _) _).alloc (by simp) _).alloc (by simp;omega) _
 rw [←hw0]
 clear hw0
 go_region_held3 (fun w'=>w'.cell? ⟨w.heap.size,0,none⟩=some (.string (nb a))∧w'.cell? ⟨w.heap.size+1,0,none⟩=some (.string (nb b)))
  (first | go_keep | exact ⟨by assumption,by assumption⟩)
  (first
   | (go_at_call 31;((with_reducible refine (Yt a (by omega) _).mono ?_);rintro e w1 ⟨rfl,hR1,hB1⟩;have k1:=Q8 hB1 (by simp;omega) c1;have k2:=Q8 hB1 (by simp;omega) c2))
   | (go_at_call 31;((with_reducible refine (Yt b (by omega) _).mono ?_);rintro e w2 ⟨rfl,hR2,hB2⟩;have j1:=Q8 hB2 (by have:=hB1.size;simp at this;omega) k1;have j2:=Q8 hB2 (by have:=hB1.size;simp at this;omega) k2)))
 have sz2:w0.heap.size+1<w1.heap.size:=by simpa using hR1.lt
 have HR1:=Lib.hid (hR1.below hB2 (by simpa using sz2))
 have HR2:=Lib.hid hR2
 have HB2:=Lib.hid (HB.out.drew.trans ((hB1.mono (B':=w.heap.size) (by simp;omega)).trans (hB2.mono (B':=w.heap.size) (by have:=hB1.size;simp at this;omega))))
 have j3:=Q8 hB2 (by omega) (Q8 hB1 (by simp;omega) c3)
 have e3:w2.frozen? ⟨w.heap.size+1+1,0,none⟩=false:=by
  rw [hB2.frozen (p:=⟨w.heap.size+1+1,0,none⟩) (by simp;omega),hB1.frozen (p:=⟨w.heap.size+1+1,0,none⟩) (by simp;omega)];simpa using f3
 have hla:=Xg a
 have hlb:=Xg b
 have sz3:w1.heap.size+1<w2.heap.size:=hR2.lt
 have hs12:=hB2.size
 clear hR1 hR2 hB1 hB2 c1 c2 c3 f3 k1 k2 HB
 obtain ⟨i0,hi,hz0,hz1,hz2⟩:=info_parts Tryz.infoU32
 have hdrew:w0.drew.heap.size=w0.heap.size:=rfl
 have hda:=Ja (B:=W) (by decide) a
 have hdb:=Ja (B:=W) (by decide) b
 have hsum:Qc W (Qa W a)+Qc W (Qa W b)=a+b:=by rw [Qw (by decide),Qw (by decide)]
 have hsum2:Qc W (Qa W b)+Qc W (Qa W a)=a+b:=by rw [Nat.add_comm];exact hsum
 rw [hdrew] at HR1
 have hg1:w.heap.size+3≤w0.heap.size+1∧w0.heap.size+1<w2.heap.size:=by omega
 have hg2:w.heap.size+3≤w1.heap.size+1∧w1.heap.size+1<w2.heap.size:=by omega
 generalize w0.heap.size+1=ga at *
 generalize w1.heap.size+1=gb at *
 clear hdrew sz sz2 hs12
 by_cases hlt:(Qa W a).length<(Qa W b).length
 case pos =>
  clear hsum
  generalize Qa W a=Y at *
  generalize Qa W b=X at *
  have hXY:Y.length≤X.length:=by omega
  have HX:=HR2
  have HY:=HR1
  have hgx:=hg2
  have hgy:=hg1
  have HDX:=Lib.hid hdb
  have HDY:=Lib.hid hda
  have HSM:=Lib.hid hsum2
  clear HR1 HR2 hdb hda hg1 hg2 hsum2
  generalize gb=gx at *
  generalize ga=gy at *
  go_wp2_with (at_make;refine wpList_make_full _ rfl (.tmp 23) (.tmp 23) 73 rfl w2.heap.size 72 i0 (.int .u32 0) 1 Tryz.underlying73 hi hz0 hz1 .i64 .i64 _ _ (X.length+1) rfl rfl (by omega) (by omega) (by rw [hz2];omega) (by unfold maxLen;omega) (Nat.le_refl _) ?_)
  intro w3 hown hgr
  have hRo:=Row.ofOwns hown
  rw [Zu] at hRo
  have HX3:=Lib.hid (HX.out.grown hgr (by simp))
  have HY3:=Lib.hid (HY.out.grown hgr (by simp))
  have l3:w3.cell? ⟨w.heap.size+1+1,0,none⟩=some (.string { data:=#[] }):=hgr.cell j3 (by simp)
  have m3:w3.frozen? ⟨w.heap.size+1+1,0,none⟩=false:=by
   rw [World.frozen?_of_block (w:=w2) (hgr.block (w.heap.size+1+1) (by omega) (by simp))];exact e3
  have HB3:=Lib.hid (HB2.out.grown hgr (by omega) (by simp))
  have hs3:w2.heap.size<w3.heap.size:=hRo.lt
  clear hown hgr j3 e3 HX HY HB2
  have HRo:=Lib.hid hRo
  clear hRo
  go_wp2_with (refine wpList_copy_splice (o:=⟨some 27,_,_,_,_,_⟩) rfl (.tmp 25) (.tmp 26) 73 73 rfl 72 Tryz.underlying73 Tryz.sizeU32 _ _ _ _ _ _ rfl rfl w2.heap.size 0 (J5 (List.replicate (X.length+1) 0)) 72 HRo.out (J5 Y) ?_ ?_ ?_ ?_ w2.heap.size w3 (Below.refl _ _) (Nat.le_refl _) ?_)
  ·rw [Hd];exact (Nat.min_eq_left (by omega)).symm
  ·intro _
   exact fun j v hj=>HY3.out.cell hj
  ·simp [J5];omega
  ·exact Q27 Y
  intro w4 hR4 hB4
  rw [Wd Y X.length hXY] at hR4
  have HX4:=Lib.hid (HX3.out.below hB4 (by omega))
  have l4:=Q8 hB4 (by omega) l3
  have m4:w4.frozen? ⟨w.heap.size+1+1,0,none⟩=false:=by rw [hB4.frozen (p:=⟨w.heap.size+1+1,0,none⟩) (by simp;omega)];exact m3
  have HB4:=Lib.hid (HB3.out.trans (hB4.mono (by omega)))
  have HR4:Hid (Row w4 w2.heap.size 72 (J5 (Ka Y X.length++[0]))):=hR4
  clear hR4 hB4 HX3 HY3 HB3 HRo l3 m3
  have hyp:=Hm Y X.length hXY
  have HTS:Hid (Qc W (Yi (Ka Y X.length) X)=Qc W X+Qc W Y):=by
   unfold Hid;rw [Hs _ _ _ hyp,Hf,Nat.add_comm]
  have HPL:=Lib.hid (Uy Y X.length HDY.out)
  have htl:=Oh (Ka Y X.length) X hyp
  have HTG:=Lib.hid (Ui (Ka Y X.length) X hyp)
  have HTE:=Lib.hid (Q5s (B:=W) (by decide) HPL.out HDX.out)
  generalize hYP:Ka Y X.length=YP at *
  clear hYP
  go_wp2_with fail
  go_loopw [8,30] (fun r i wr=>∃ k:Nat,k≤X.length∧i = .int .i64 (k:Nat)∧r = .int .u64 ((cl W 0 ((Yi YP X).take k)).2:Nat) ∧
    Row wr w2.heap.size 72 (J5 ((cl W 0 ((Yi YP X).take k)).1++(YP++[0]).drop k))∧Row wr gx 72 (J5 X) ∧
    wr.cell? ⟨w.heap.size+1+1,0,none⟩=some (.string { data:=#[] })∧wr.frozen? ⟨w.heap.size+1+1,0,none⟩=false∧Below w.heap.size w wr∧w2.heap.size<wr.heap.size)
   (fun _ i _=>X.length-(intOf i).toNat)
  case atStart=>exact ⟨0,Nat.zero_le _,rfl,rfl,by simpa [cl] using HR4.out,HX4.out,l4,m4,HB4.out,HR4.out.lt⟩
  case round =>
   obtain ⟨k,hk,rfl,rfl,hR,hRX,hbox,hboxf,hB,hsz⟩:=hrel
   clear HR4 HX4 l4 m4 HB4
   have hcar:(cl W 0 ((Yi YP X).take k)).2<4294967296:=V7 W (by decide) _ _ (by decide) (fun t ht=>HTE.out t (List.mem_of_mem_take ht))
   have hclen:(cl W 0 ((Yi YP X).take k)).1.length=k:=by rw [Ke,List.length_take];omega
   by_cases hlk:k<X.length
   ·have HST:=Lib.hid (Kq W 0 (Yi YP X) k (by omega))
    rw [HTG.out k] at HST
    have hc1:wr.cell? ⟨w2.heap.size,k,none⟩=some (.int .u32 (YP.getD k 0:Nat)) :=
     hR.cell (Qp _ _ _ (by rw [Og hclen (Nat.le_refl _),List.getElem?_append_left (by omega),List.getD_eq_getElem?_getD,List.getElem?_eq_getElem (by omega)];rfl))
    have hc2:wr.cell? ⟨gx,k,none⟩=some (.int .u32 (X.getD k 0:Nat)) :=
     hRX.cell (Qp _ _ _ (by rw [List.getD_eq_getElem?_getD,List.getElem?_eq_getElem (by omega)];rfl))
    have hf:=hR.free k
    have hy:=HPL.out.getD (by decide) k
    have hx:=HDX.out.getD (by decide) k
    unfold W at hy hx
    have HD:=Lib.hid (fun v=>Xi (v:=v) (xs:=YP++[0]) hclen (by simp;omega))
    have HR:=Lib.hid hR
    have HRX:=Lib.hid hRX
    have HBB:=Lib.hid hB
    clear hR hRX hB hclen
    generalize YP.getD k 0=y at *
    generalize X.getD k 0=x at *
    generalize cl W 0 ((Yi YP X).take k)=cc at *
    go_wp2_with fail
    go_quiet (fail)
    go_wp2_with fail
    go_roundw
    case rel =>
     refine ⟨k+1,by omega,by go_num,?_,?_,?_,?_,?_,?_,?_⟩
     ·rw [HST.out];simp [W]
     ·have:=(HR.out.drewN nq).set k (.int .u32 ((cc.2+(y+x))%W:Nat))
      rw [Jf,HD.out] at this
      rw [HST.out]
      simpa [W] using this
     ·exact HRX.out.setOther _ (by simp;omega) _
     ·exact Jv (w:=wr.drewN _) hbox (by simp;omega)
     ·exact Jr (w:=wr.drewN _) hboxf (by simp;omega)
     ·exact (HBB.out.drewN _).setCell (by simp;omega) _
     ·simpa using hsz
    case measure=>simp [intOf];omega
   ·obtain rfl:k=X.length:=by omega
    rw [List.take_of_length_le (by omega)] at hR hcar hclen ⊢
    have HCD:=Lib.hid (Ue W (Yi YP X) 0)
    have HCL:=Lib.hid (Q3b W (by decide) (Yi YP X) 0)
    rw [HTS.out,htl,hyp,HSM.out] at HCD
    have hdr:(YP++[0]).drop X.length=[0]:=by rw [List.drop_append_of_le_length (by omega),List.drop_eq_nil_of_le (by omega)];rfl
    rw [hdr] at hR
    have hc1:wr.cell? ⟨w2.heap.size,X.length,none⟩=some (.int .u32 ((0:Nat):Int)):=hR.cell (Qp _ _ _ (by rw [List.getElem?_append_right (by omega),hclen,Nat.sub_self];rfl))
    have hf:=hR.free X.length
    have HR:=Lib.hid hR
    have HBB:=Lib.hid hB
    have HCN:=Lib.hid hclen
    clear hR hB hRX hclen hdr
    generalize cl W 0 (Yi YP X)=cc at *
    go_wp2_with (fail)
    have hR5:=HR.out.set X.length (.int .u32 (cc.2:Nat))
    rw [Jf,List.set_append_right _ _ (by have:=HCN.out;omega),HCN.out,Nat.sub_self] at hR5
    rw [show [0].set 0 cc.2=[cc.2] from rfl] at hR5
    refine (Xf (some ⟨w2.heap.size,0,none⟩) (cc.1++[cc.2]) (X.length+1) (X.length+1) (by simp;exact HCN.out) (HCL.out.append (AllLt.cons hcar (AllLt.nil W))) (by omega) _ (CellsU.ofRow (g:=w2.heap.size) (E:=72) ?_)).mono ?_
    ·simpa using hR5
    rintro e w6 ⟨rfl,hB6⟩
    rw [Zh,HCN.out,HCD.out,Nat.zero_add]
    have hbox6:=Q8 hB6 (by simp;omega) (Jv (v:=.int .u32 (cc.2:Nat)) (a:=⟨w2.heap.size,X.length,none⟩) hbox (by simp;omega))
    have hboxf6:w6.frozen? ⟨w.heap.size+1+1,0,none⟩=false:=by
     rw [hB6.frozen (p:=⟨w.heap.size+1+1,0,none⟩) (by simp;omega)]
     exact Jr hboxf (by simp;omega)
    have HB6:=Lib.hid ((HBB.out.setCell (p:=⟨w2.heap.size,X.length,none⟩) (by simp;omega) (.int .u32 (cc.2:Nat))).trans (hB6.mono (by simp;omega)))
    clear hB6
    unfold Qj
    go_wp2_with fail
    exact bodyPost_ret (v:=Qj (a+b)) (by simp [results,Tryz.results54,go_sem,Qj,hbox6]) rfl ⟨rfl,HB6.out.setCell (by simp;omega) _⟩
 case neg =>
  clear hsum2
  generalize Qa W a=X at *
  generalize Qa W b=Y at *
  have hXY:Y.length≤X.length:=by omega
  have HX:=HR1
  have HY:=HR2
  have hgx:=hg1
  have hgy:=hg2
  have HDX:=Lib.hid hda
  have HDY:=Lib.hid hdb
  have HSM:=Lib.hid hsum
  clear HR1 HR2 hdb hda hg1 hg2 hsum
  generalize ga=gx at *
  generalize gb=gy at *
  go_wp2_with (at_make;refine wpList_make_full _ rfl (.tmp 23) (.tmp 23) 73 rfl w2.heap.size 72 i0 (.int .u32 0) 1 Tryz.underlying73 hi hz0 hz1 .i64 .i64 _ _ (X.length+1) rfl rfl (by omega) (by omega) (by rw [hz2];omega) (by unfold maxLen;omega) (Nat.le_refl _) ?_)
  intro w3 hown hgr
  have hRo:=Row.ofOwns hown
  rw [Zu] at hRo
  have HX3:=Lib.hid (HX.out.grown hgr (by simp))
  have HY3:=Lib.hid (HY.out.grown hgr (by simp))
  have l3:w3.cell? ⟨w.heap.size+1+1,0,none⟩=some (.string { data:=#[] }):=hgr.cell j3 (by simp)
  have m3:w3.frozen? ⟨w.heap.size+1+1,0,none⟩=false:=by
   rw [World.frozen?_of_block (w:=w2) (hgr.block (w.heap.size+1+1) (by omega) (by simp))];exact e3
  have HB3:=Lib.hid (HB2.out.grown hgr (by omega) (by simp))
  have hs3:w2.heap.size<w3.heap.size:=hRo.lt
  clear hown hgr j3 e3 HX HY HB2
  have HRo:=Lib.hid hRo
  clear hRo
  go_wp2_with (refine wpList_copy_splice (o:=⟨some 27,_,_,_,_,_⟩) rfl (.tmp 25) (.tmp 26) 73 73 rfl 72 Tryz.underlying73 Tryz.sizeU32 _ _ _ _ _ _ rfl rfl w2.heap.size 0 (J5 (List.replicate (X.length+1) 0)) 72 HRo.out (J5 Y) ?_ ?_ ?_ ?_ w2.heap.size w3 (Below.refl _ _) (Nat.le_refl _) ?_)
  ·rw [Hd];exact (Nat.min_eq_left (by omega)).symm
  ·intro _
   exact fun j v hj=>HY3.out.cell hj
  ·simp [J5];omega
  ·exact Q27 Y
  intro w4 hR4 hB4
  rw [Wd Y X.length hXY] at hR4
  have HX4:=Lib.hid (HX3.out.below hB4 (by omega))
  have l4:=Q8 hB4 (by omega) l3
  have m4:w4.frozen? ⟨w.heap.size+1+1,0,none⟩=false:=by rw [hB4.frozen (p:=⟨w.heap.size+1+1,0,none⟩) (by simp;omega)];exact m3
  have HB4:=Lib.hid (HB3.out.trans (hB4.mono (by omega)))
  have HR4:Hid (Row w4 w2.heap.size 72 (J5 (Ka Y X.length++[0]))):=hR4
  clear hR4 hB4 HX3 HY3 HB3 HRo l3 m3
  have hyp:=Hm Y X.length hXY
  have HTS:Hid (Qc W (Yi (Ka Y X.length) X)=Qc W X+Qc W Y):=by
   unfold Hid;rw [Hs _ _ _ hyp,Hf,Nat.add_comm]
  have HPL:=Lib.hid (Uy Y X.length HDY.out)
  have htl:=Oh (Ka Y X.length) X hyp
  have HTG:=Lib.hid (Ui (Ka Y X.length) X hyp)
  have HTE:=Lib.hid (Q5s (B:=W) (by decide) HPL.out HDX.out)
  generalize hYP:Ka Y X.length=YP at *
  clear hYP
  go_wp2_with fail
  go_loopw [8,30] (fun r i wr=>∃ k:Nat,k≤X.length∧i = .int .i64 (k:Nat)∧r = .int .u64 ((cl W 0 ((Yi YP X).take k)).2:Nat) ∧
    Row wr w2.heap.size 72 (J5 ((cl W 0 ((Yi YP X).take k)).1++(YP++[0]).drop k))∧Row wr gx 72 (J5 X) ∧
    wr.cell? ⟨w.heap.size+1+1,0,none⟩=some (.string { data:=#[] })∧wr.frozen? ⟨w.heap.size+1+1,0,none⟩=false∧Below w.heap.size w wr∧w2.heap.size<wr.heap.size)
   (fun _ i _=>X.length-(intOf i).toNat)
  case atStart=>exact ⟨0,Nat.zero_le _,rfl,rfl,by simpa [cl] using HR4.out,HX4.out,l4,m4,HB4.out,HR4.out.lt⟩
  case round =>
   obtain ⟨k,hk,rfl,rfl,hR,hRX,hbox,hboxf,hB,hsz⟩:=hrel
   clear HR4 HX4 l4 m4 HB4
   have hcar:(cl W 0 ((Yi YP X).take k)).2<4294967296:=V7 W (by decide) _ _ (by decide) (fun t ht=>HTE.out t (List.mem_of_mem_take ht))
   have hclen:(cl W 0 ((Yi YP X).take k)).1.length=k:=by rw [Ke,List.length_take];omega
   by_cases hlk:k<X.length
   ·have HST:=Lib.hid (Kq W 0 (Yi YP X) k (by omega))
    rw [HTG.out k] at HST
    have hc1:wr.cell? ⟨w2.heap.size,k,none⟩=some (.int .u32 (YP.getD k 0:Nat)) :=
     hR.cell (Qp _ _ _ (by rw [Og hclen (Nat.le_refl _),List.getElem?_append_left (by omega),List.getD_eq_getElem?_getD,List.getElem?_eq_getElem (by omega)];rfl))
    have hc2:wr.cell? ⟨gx,k,none⟩=some (.int .u32 (X.getD k 0:Nat)) :=
     hRX.cell (Qp _ _ _ (by rw [List.getD_eq_getElem?_getD,List.getElem?_eq_getElem (by omega)];rfl))
    have hf:=hR.free k
    have hy:=HPL.out.getD (by decide) k
    have hx:=HDX.out.getD (by decide) k
    unfold W at hy hx
    have HD:=Lib.hid (fun v=>Xi (v:=v) (xs:=YP++[0]) hclen (by simp;omega))
    have HR:=Lib.hid hR
    have HRX:=Lib.hid hRX
    have HBB:=Lib.hid hB
    clear hR hRX hB hclen
    generalize YP.getD k 0=y at *
    generalize X.getD k 0=x at *
    generalize cl W 0 ((Yi YP X).take k)=cc at *
    go_wp2_with fail
    go_quiet (fail)
    go_wp2_with fail
    go_roundw
    case rel =>
     refine ⟨k+1,by omega,by go_num,?_,?_,?_,?_,?_,?_,?_⟩
     ·rw [HST.out];simp [W]
     ·have:=(HR.out.drewN nq).set k (.int .u32 ((cc.2+(y+x))%W:Nat))
      rw [Jf,HD.out] at this
      rw [HST.out]
      simpa [W] using this
     ·exact HRX.out.setOther _ (by simp;omega) _
     ·exact Jv (w:=wr.drewN _) hbox (by simp;omega)
     ·exact Jr (w:=wr.drewN _) hboxf (by simp;omega)
     ·exact (HBB.out.drewN _).setCell (by simp;omega) _
     ·simpa using hsz
    case measure=>simp [intOf];omega
   ·obtain rfl:k=X.length:=by omega
    rw [List.take_of_length_le (by omega)] at hR hcar hclen ⊢
    have HCD:=Lib.hid (Ue W (Yi YP X) 0)
    have HCL:=Lib.hid (Q3b W (by decide) (Yi YP X) 0)
    rw [HTS.out,htl,hyp,HSM.out] at HCD
    have hdr:(YP++[0]).drop X.length=[0]:=by rw [List.drop_append_of_le_length (by omega),List.drop_eq_nil_of_le (by omega)];rfl
    rw [hdr] at hR
    have hc1:wr.cell? ⟨w2.heap.size,X.length,none⟩=some (.int .u32 ((0:Nat):Int)):=hR.cell (Qp _ _ _ (by rw [List.getElem?_append_right (by omega),hclen,Nat.sub_self];rfl))
    have hf:=hR.free X.length
    have HR:=Lib.hid hR
    have HBB:=Lib.hid hB
    have HCN:=Lib.hid hclen
    clear hR hB hRX hclen hdr
    generalize cl W 0 (Yi YP X)=cc at *
    go_wp2_with (fail)
    have hR5:=HR.out.set X.length (.int .u32 (cc.2:Nat))
    rw [Jf,List.set_append_right _ _ (by have:=HCN.out;omega),HCN.out,Nat.sub_self] at hR5
    rw [show [0].set 0 cc.2=[cc.2] from rfl] at hR5
    refine (Xf (some ⟨w2.heap.size,0,none⟩) (cc.1++[cc.2]) (X.length+1) (X.length+1) (by simp;exact HCN.out) (HCL.out.append (AllLt.cons hcar (AllLt.nil W))) (by omega) _ (CellsU.ofRow (g:=w2.heap.size) (E:=72) ?_)).mono ?_
    ·simpa using hR5
    rintro e w6 ⟨rfl,hB6⟩
    rw [Zh,HCN.out,HCD.out,Nat.zero_add]
    have hbox6:=Q8 hB6 (by simp;omega) (Jv (v:=.int .u32 (cc.2:Nat)) (a:=⟨w2.heap.size,X.length,none⟩) hbox (by simp;omega))
    have hboxf6:w6.frozen? ⟨w.heap.size+1+1,0,none⟩=false:=by
     rw [hB6.frozen (p:=⟨w.heap.size+1+1,0,none⟩) (by simp;omega)]
     exact Jr hboxf (by simp;omega)
    have HB6:=Lib.hid ((HBB.out.setCell (p:=⟨w2.heap.size,X.length,none⟩) (by simp;omega) (.int .u32 (cc.2:Nat))).trans (hB6.mono (by simp;omega)))
    clear hB6
    unfold Qj
    go_wp2_with fail
    exact bodyPost_ret (v:=Qj (a+b)) (by simp [results,Tryz.results54,go_sem,Qj,hbox6]) rfl ⟨rfl,HB6.out.setCell (by simp;omega) _⟩
end
/- Sub. -/
section
open Go.RowKit Num
theorem Q0v (w:World) (s t:ByteArray) (T:TypeId):∃ w0,w0=((w.alloc (Obj.cells #[Value.string s] T)).alloc (Obj.cells #[Value.string t] T)).alloc (Obj.cells #[Value.string { data:=#[] }] T) ∧
  w0.cell? ⟨w.heap.size,0,none⟩=some (.string s)∧w0.cell? ⟨w.heap.size+1,0,none⟩=some (.string t)∧w0.cell? ⟨w.heap.size+1+1,0,none⟩=some (.string { data:=#[] }) ∧
  w0.frozen? ⟨w.heap.size+1+1,0,none⟩=false∧w.heap.size+3≤w0.heap.size∧Hid (Below w.heap.size w w0) :=
 ⟨_,rfl,by simp [go_sem],by simp [go_sem],by simp [go_sem],by simp [go_sem],by simp,(((Below.refl _ _).alloc (Nat.le_refl _) _).alloc (by simp) _).alloc (by simp;omega) _⟩
set_option maxHeartbeats 1600000 in
set_option maxRecDepth 100000 in
theorem sub_geq (a b:Nat) (ha:nl a≤1073741824) (hb:nl b≤1073741824) (h:b≤a) (w:World) :
  Calls Tryz.prog 65 #[Qj a,Qj b] w fun e w'=>e = .returned (.tuple #[Qj (a-b),.bool true])∧Below w.heap.size w w':=by
 have HC:Hid (0≤H9 a b∧H9 a b≤1):=by
  unfold Hid H9
  rw [if_neg (by omega)];split<;>omega
 have HLE:=Lib.hid h
 have hlyx:(Qa W b).length≤(Qa W a).length:=Qz (by decide) _ _ (Nat.lt_of_le_of_lt h (Yz (by decide) a))
 clear h
 unfold Qj
 go_enter Tryz.func65,Tryz.ntmps65
 go_wp2_with fail
 obtain ⟨wz,hw0,c1,c2,c3,f3,sz,HB⟩:=Q0v w (nb a) (nb b) 38
 rw [←hw0]
 clear hw0
 refine (Q01 a b (by omega) (by omega) wz).mono ?_
 rintro e w0 ⟨rfl,hB0⟩
 have hc0:=HC.out.1
 have hc1:=HC.out.2
 generalize H9 a b=cc at *
 replace c1:=Q8 hB0 (by omega) c1
 replace c2:=Q8 hB0 (by omega) c2
 replace c3:=Q8 hB0 (by omega) c3
 have f4:w0.frozen? ⟨w.heap.size+1+1,0,none⟩=false:=by rw [hB0.frozen (p:=⟨w.heap.size+1+1,0,none⟩) (by simp;omega)];exact f3
 have HB:=Lib.hid (HB.out.trans (hB0.mono (B':=w.heap.size) (by omega)))
 have sz:=Nat.le_trans sz hB0.size
 clear hB0 f3 HC
 go_wp2_with fail
 go_region_held3 (fun w'=>w'.cell? ⟨w.heap.size,0,none⟩=some (.string (nb a))∧w'.cell? ⟨w.heap.size+1,0,none⟩=some (.string (nb b)))
  (first | go_keep | exact ⟨by assumption,by assumption⟩)
  (first
   | (go_at_call 31;((with_reducible refine (Yt a (by omega) _).mono ?_);rintro e w1 ⟨rfl,hR1,hB1⟩;have k1:=Q8 hB1 (by simp;omega) c1;have k2:=Q8 hB1 (by simp;omega) c2))
   | (go_at_call 31;((with_reducible refine (Yt b (by omega) _).mono ?_);rintro e w2 ⟨rfl,hR2,hB2⟩;have j1:=Q8 hB2 (by have:=hB1.size;simp at this;omega) k1;have j2:=Q8 hB2 (by have:=hB1.size;simp at this;omega) k2)))
 have sz2:w0.heap.size+1<w1.heap.size:=by simpa using hR1.lt
 have HR1:=Lib.hid (hR1.below hB2 (by simpa using sz2))
 have HR2:=Lib.hid hR2
 have HB2:=Lib.hid (HB.out.drew.trans ((hB1.mono (B':=w.heap.size) (by simp;omega)).trans (hB2.mono (B':=w.heap.size) (by have:=hB1.size;simp at this;omega))))
 have j3:=Q8 hB2 (by omega) (Q8 hB1 (by simp;omega) c3)
 have e3:w2.frozen? ⟨w.heap.size+1+1,0,none⟩=false:=by
  rw [hB2.frozen (p:=⟨w.heap.size+1+1,0,none⟩) (by simp;omega),hB1.frozen (p:=⟨w.heap.size+1+1,0,none⟩) (by simp;omega)];simpa using f4
 have hla:=Xg a
 have sz3:w1.heap.size+1<w2.heap.size:=hR2.lt
 have hs12:=hB2.size
 clear hR1 hR2 hB1 hB2 c1 c2 c3 f4 k1 k2 HB j1 j2
 have hdrew:w0.drew.heap.size=w0.heap.size:=rfl
 have HDX:=Lib.hid (Ja (B:=W) (by decide) a)
 have HDY:=Lib.hid (Ja (B:=W) (by decide) b)
 have HEX:=Lib.hid (Qw (B:=W) (by decide) a)
 have HEY:=Lib.hid (Qw (B:=W) (by decide) b)
 rw [hdrew] at HR1
 have hg1:w.heap.size+3≤w0.heap.size+1∧w0.heap.size+1<w2.heap.size:=by omega
 have hg2:w.heap.size+3≤w1.heap.size+1∧w1.heap.size+1<w2.heap.size:=by omega
 have hg12:w0.heap.size+1≠w1.heap.size+1:=by omega
 generalize w0.heap.size+1=gx at *
 generalize w1.heap.size+1=gy at *
 clear hdrew sz sz2 hs12
 generalize Qa W a=X at *
 generalize Qa W b=Y at *
 have hyp:=Hm Y X.length hlyx
 have HNB:=Lib.hid (bl_none (B:=W) (by decide) hyp.symm HDX.out (Uy Y X.length HDY.out) (by rw [Hf,HEX.out,HEY.out];exact HLE.out))
 rw [Hf,HEX.out,HEY.out] at HNB
 have HPL:=Lib.hid (Uy Y X.length HDY.out)
 have HYP:Hid (∀ i,(Ka Y X.length).getD i 0=Y.getD i 0):=by
  intro i
  unfold Ka
  simp only [List.getD_eq_getElem?_getD]
  by_cases h:i<Y.length
  ·rw [List.getElem?_append_left h]
  ·rw [List.getElem?_append_right (by omega),List.getElem?_eq_none (show Y.length≤i by omega)]
   by_cases h2:i-Y.length<X.length-Y.length
   ·simp [h2]
   ·rw [List.getElem?_eq_none (by simp;omega)]
 generalize Ka Y X.length=YP at *
 have HBL:=Lib.hid (Q5a W)
 go_wp2_with fail
 go_loopw [8,22] (fun r i wr=>∃ k:Nat,k≤X.length∧i = .int .i64 (k:Nat)∧r = .int .u64 ((bl W 0 (X.take k) (YP.take k)).2:Nat) ∧
   Row wr gx 72 (J5 ((bl W 0 (X.take k) (YP.take k)).1++X.drop k))∧Row wr gy 72 (J5 Y) ∧
   wr.cell? ⟨w.heap.size+1+1,0,none⟩=some (.string { data:=#[] })∧wr.frozen? ⟨w.heap.size+1+1,0,none⟩=false∧Below w.heap.size w wr∧w2.heap.size≤wr.heap.size)
  (fun _ i _=>X.length-(intOf i).toNat)
 case atStart=>exact ⟨0,Nat.zero_le _,rfl,by simp [bl],by simpa [bl] using HR1.out,HR2.out,j3,e3,HB2.out,Nat.le_refl _⟩
 case round =>
  obtain ⟨k,hk,rfl,rfl,hR,hRY,hbox,hboxf,hB,hsz⟩:=hrel
  clear HR1 HR2 j3 e3 HB2
  have hbs:=HBL.out (X.take k) (YP.take k) 0 (by rw [List.length_take,List.length_take];omega) (HDX.out.take k) (HPL.out.take k) (by omega)
  have hb1:=hbs.2.2
  have hclen:(bl W 0 (X.take k) (YP.take k)).1.length=k:=by rw [Q02 _ _ _ _ (by rw [List.length_take,List.length_take];omega),List.length_take];omega
  clear hbs
  by_cases hlk:k<X.length
  ·have HST:=Lib.hid (Q51 W 0 X YP k hyp.symm hlk)
   rw [HYP.out k] at HST
   have hc1:wr.cell? ⟨gx,k,none⟩=some (.int .u32 (X.getD k 0:Nat)) :=
    hR.cell (Qp _ _ _ (by rw [Og hclen (Nat.le_refl _),List.getD_eq_getElem?_getD,List.getElem?_eq_getElem (by omega)];rfl))
   have hc2:k<Y.length→wr.cell? ⟨gy,k,none⟩=some (.int .u32 (Y.getD k 0:Nat)):=fun h =>
    hRY.cell (Qp _ _ _ (by rw [List.getD_eq_getElem?_getD,List.getElem?_eq_getElem h];rfl))
   have hf:=hR.free k
   have hx:=HDX.out.getD (by decide) k
   have hy:=HDY.out.getD (by decide) k
   unfold W at hy hx
   have HD:=Lib.hid (fun v=>Xi (v:=v) (xs:=X) hclen (by omega))
   have HR:=Lib.hid hR
   have HRY:=Lib.hid hRY
   have HBB:=Lib.hid hB
   have hy0:¬ k<Y.length→Y.getD k 0=0:=fun h=>by rw [List.getD_eq_getElem?_getD,List.getElem?_eq_none (by omega)];rfl
   clear hR hRY hB hclen
   generalize Y.getD k 0=y at *
   generalize X.getD k 0=x at *
   generalize bl W 0 (X.take k) (YP.take k)=cc at *
   have HSW:=Lib.hid (sub_word x y cc.2 hx hy hb1)
   have HSW0:=Lib.hid (sub_word0 x cc.2 hx hb1)
   by_cases hky:k<Y.length
   case' pos =>
    have hc2:=hc2 hky
    clear hy0
   case' neg =>
    obtain rfl:=hy0 hky
    clear hc2
   all_goals
    go_wp2_with fail
    go_roundw
    case rel =>
     refine ⟨k+1,by omega,by go_num,?_,?_,?_,?_,?_,?_,?_⟩
     ·rw [HST.out];first | rw [HSW.out.2] | rw [HSW0.out.2]
     ·first | rw [HSW.out.1] | rw [HSW0.out.1]
      first
       | (have:=HR.out.set k (.int .u32 (sb1 W cc.2 x y:Nat))
          rw [Jf,HD.out] at this
          rw [HST.out]
          exact this)
       | (have:=HR.out.set k (.int .u32 (sb1 W cc.2 x 0:Nat))
          rw [Jf,HD.out] at this
          rw [HST.out]
          exact this)
     ·exact HRY.out.setOther _ (by simp;omega) _
     ·exact Jv hbox (by simp;omega)
     ·exact Jr hboxf (by simp;omega)
     ·exact HBB.out.setCell (by simp;omega) _
     ·simpa using hsz
    case measure=>simp [intOf];omega
  ·obtain rfl:k=X.length:=by omega
   have htx:X.take X.length=X:=List.take_of_length_le (Nat.le_refl _)
   have hty:YP.take X.length=YP:=List.take_of_length_le (by omega)
   rw [htx,hty,List.drop_eq_nil_of_le (Nat.le_refl _),List.append_nil] at hR
   rw [htx,hty] at hclen ⊢
   have HCL:=Lib.hid (HBL.out X YP 0 hyp.symm HDX.out HPL.out (by omega)).2.1
   have HCN:=Lib.hid hclen
   have HR:=Lib.hid hR
   have HBB:=Lib.hid hB
   clear hR hB hRY hclen htx hty hb1
   generalize bl W 0 X YP=cc at *
   go_wp2_with (fail)
   refine (Xf (some ⟨gx,0,none⟩) cc.1 X.length X.length HCN.out HCL.out (by omega) wr (CellsU.ofRow HR.out)).mono ?_
   rintro e w6 ⟨rfl,hB6⟩
   rw [HNB.out.2]
   have hbox6:=Q8 hB6 (by omega) hbox
   have hboxf6:w6.frozen? ⟨w.heap.size+1+1,0,none⟩=false:=by
    rw [hB6.frozen (p:=⟨w.heap.size+1+1,0,none⟩) (by simp;omega)];exact hboxf
   have HB6:=Lib.hid (HBB.out.trans (hB6.mono (B':=w.heap.size) (by omega)))
   clear hB6
   unfold Qj
   go_wp2_with fail
   exact bodyPost_ret (v:=.tuple #[Qj (a-b),.bool true]) (by simp [results,Tryz.results65,go_sem,Qj,hbox6]) rfl ⟨rfl,HB6.out.setCell (by simp;omega) _⟩
end
/- Mul. -/
section
open Go.RowKit Num
set_option maxHeartbeats 1600000 in
set_option maxRecDepth 100000 in
theorem mul_any (a b:Nat) (ha:nl a≤1073741824) (hb:nl b≤1073741824) (w:World) :
  Calls Tryz.prog 28 #[Qj a,Qj b] w fun e w'=>e = .returned (Qj (a*b))∧Below w.heap.size w w':=by
 obtain ⟨i0,hi,hz0,hz1,hz2⟩:=info_parts Tryz.infoU32
 have hlb:=Xg b
 unfold Qj
 go_enter Tryz.func28,Tryz.ntmps28
 go_wp2_with fail
 obtain ⟨w0,hw0,c1,c2,c3,f4,sz,HB⟩:=Q0v w (nb a) (nb b) 38
 rw [←hw0]
 clear hw0
 go_region_held3 (fun w'=>w'.cell? ⟨w.heap.size,0,none⟩=some (.string (nb a))∧w'.cell? ⟨w.heap.size+1,0,none⟩=some (.string (nb b)))
  (first | go_keep | exact ⟨by assumption,by assumption⟩)
  (first
   | (go_at_call 31;((with_reducible refine (Yt a (by omega) _).mono ?_);rintro e w1 ⟨rfl,hR1,hB1⟩;have k1:=Q8 hB1 (by simp;omega) c1;have k2:=Q8 hB1 (by simp;omega) c2))
   | (go_at_call 31;((with_reducible refine (Yt b (by omega) _).mono ?_);rintro e w2 ⟨rfl,hR2,hB2⟩;have j1:=Q8 hB2 (by have:=hB1.size;simp at this;omega) k1;have j2:=Q8 hB2 (by have:=hB1.size;simp at this;omega) k2)))
 have sz2:w0.heap.size+1<w1.heap.size:=by simpa using hR1.lt
 have HR1:=Lib.hid (hR1.below hB2 (by simpa using sz2))
 have HR2:=Lib.hid hR2
 have HB2:=Lib.hid (HB.out.drew.trans ((hB1.mono (B':=w.heap.size) (by simp;omega)).trans (hB2.mono (B':=w.heap.size) (by have:=hB1.size;simp at this;omega))))
 have j3:=Q8 hB2 (by omega) (Q8 hB1 (by simp;omega) c3)
 have e3:w2.frozen? ⟨w.heap.size+1+1,0,none⟩=false:=by
  rw [hB2.frozen (p:=⟨w.heap.size+1+1,0,none⟩) (by simp;omega),hB1.frozen (p:=⟨w.heap.size+1+1,0,none⟩) (by simp;omega)];simpa using f4
 have hla:=Xg a
 have sz3:w1.heap.size+1<w2.heap.size:=hR2.lt
 have hs12:=hB2.size
 clear hR1 hR2 hB1 hB2 c1 c2 c3 f4 k1 k2 HB j1 j2
 have hdrew:w0.drew.heap.size=w0.heap.size:=rfl
 have HDX:=Lib.hid (Ja (B:=W) (by decide) a)
 have HDY:=Lib.hid (Ja (B:=W) (by decide) b)
 have HEX:=Lib.hid (Qw (B:=W) (by decide) a)
 have HEY:=Lib.hid (Qw (B:=W) (by decide) b)
 rw [hdrew] at HR1
 have hg1:w.heap.size+3≤w0.heap.size+1∧w0.heap.size+1<w2.heap.size:=by omega
 have hg2:w.heap.size+3≤w1.heap.size+1∧w1.heap.size+1<w2.heap.size:=by omega
 have hg12:w0.heap.size+1≠w1.heap.size+1:=by omega
 generalize w0.heap.size+1=gx at *
 generalize w1.heap.size+1=gy at *
 clear hdrew sz sz2 hs12
 generalize Qa W a=X at *
 generalize Qa W b=Y at *
 go_wp2_with (at_make;refine wpList_make_full _ rfl (.tmp 20) (.tmp 20) 73 rfl w2.heap.size 72 i0 (.int .u32 0) 1 Tryz.underlying73 hi hz0 hz1 .i64 .i64 _ _ (X.length+Y.length) rfl rfl (by omega) (by omega) (by rw [hz2];omega) (by unfold maxLen;omega) (Nat.le_refl _) ?_)
 intro w3 hown hgr
 have hRo:=Row.ofOwns hown
 rw [Zu] at hRo
 have HX3:=Lib.hid (HR1.out.grown hgr (by simp))
 have HY3:=Lib.hid (HR2.out.grown hgr (by simp))
 have l3:w3.cell? ⟨w.heap.size+1+1,0,none⟩=some (.string { data:=#[] }):=hgr.cell j3 (by simp)
 have m3:w3.frozen? ⟨w.heap.size+1+1,0,none⟩=false:=by
  rw [World.frozen?_of_block (w:=w2) (hgr.block (w.heap.size+1+1) (by omega) (by simp))];exact e3
 have HB3:=Lib.hid (HB2.out.grown hgr (by omega) (by simp))
 have hs3:w2.heap.size<w3.heap.size:=hRo.lt
 clear hown hgr j3 e3 HR1 HR2 HB2
 have HRo:=Lib.hid hRo
 clear hRo
 go_wp2_with fail
 go_loopw [24] (fun i wr=>∃ (k:Nat) (O:List Nat),k≤X.length∧i = .int .i64 (k:Nat)∧Row wr w2.heap.size 72 (J5 O)∧O.length=X.length+Y.length∧AllLt W O∧Qc W O=Qc W (X.take k)*Qc W Y ∧
   Qc W (O.drop (k+Y.length))=0∧Row wr gx 72 (J5 X)∧Row wr gy 72 (J5 Y) ∧
   wr.cell? ⟨w.heap.size+1+1,0,none⟩=some (.string { data:=#[] })∧wr.frozen? ⟨w.heap.size+1+1,0,none⟩=false∧Below w.heap.size w wr∧w2.heap.size<wr.heap.size)
  (fun i _=>X.length-(intOf i).toNat)
 case atStart =>
  exact ⟨0,List.replicate (X.length+Y.length) 0,Nat.zero_le _,rfl,HRo.out,by simp,AllLt.zeros (by decide) _,by simp [Zr,Qc],by rw [List.drop_replicate,Zr],HX3.out,HY3.out,l3,m3,HB3.out,hs3⟩
 case round =>
  obtain ⟨i,O,hik,rfl,hR,hOl,hOlt,hOd,hOz,hRX,hRY,hbox,hboxf,hB,hsz⟩:=hrel
  clear HRo HX3 HY3 l3 m3 HB3 hs3
  have HOd:=Lib.hid hOd
  have HOlt:=Lib.hid hOlt
  have HOz:=Lib.hid hOz
  have HOl:=Lib.hid hOl
  have HR:=Lib.hid hR
  have HRX:=Lib.hid hRX
  have HRY:=Lib.hid hRY
  have HBB:=Lib.hid hB
  clear hOd hOlt hOz hR hRX hRY hB hOl
  by_cases hlt:i<X.length
  ·have hc1:wr.cell? ⟨gx,i,none⟩=some (.int .u32 (X.getD i 0:Nat)) :=
    HRX.out.cell (Qp _ _ _ (by rw [List.getD_eq_getElem?_getD,List.getElem?_eq_getElem (by omega)];rfl))
   have hf:=HDX.out.getD (by decide) i
   have HXS:=Lib.hid (Ye (B:=W) X i hlt)
   have HMS:=Lib.hid (mul_step O Y i (X.getD i 0) (by rw [HOl.out];omega) HOz.out)
   have HMZ:=Lib.hid (mul_zeros O Y i (X.getD i 0) (by rw [HOl.out];omega) HOz.out)
   have HML:=Lib.hid (mulO_lt O Y i (X.getD i 0) HOlt.out HDY.out hf)
   have HML2:=Lib.hid (mulM_last O Y i (X.getD i 0) (by rw [HOl.out];omega))
   have HMST:=Lib.hid (fun k=>mulM_set O Y i (X.getD i 0) k (by rw [HOl.out];omega))
   have HMG:=Lib.hid (fun k=>mulM_get O Y i (X.getD i 0) k (by rw [HOl.out];omega))
   have HCS:=Lib.hid (fun k (hk:k<Y.length)=>Kq W 0 (Xh O Y i (X.getD i 0)) k (by rw [Zf O Y i _ (by rw [HOl.out];omega)];exact hk))
   have HTG:=Lib.hid (fun k=>Q4q O Y i (X.getD i 0) k (by rw [HOl.out];omega))
   have HCC:=Lib.hid (fun k=>V7 W (by decide) ((Xh O Y i (X.getD i 0)).take k) 0 (by decide) (fun t ht=>mulT_le O Y i _ HOlt.out HDY.out hf t (List.mem_of_mem_take ht)))
   have HTL:=Lib.hid (Zf O Y i (X.getD i 0) (by rw [HOl.out];omega))
   unfold W at hf
   generalize X.getD i 0=f at *
   obtain ⟨wo,rfl⟩:∃ wo:World,wo=wr:=⟨_,rfl⟩
   go_wp2_with fail
   go_loopw [10,31] (fun r kv wr=>∃ k:Nat,k≤Y.length∧kv = .int .i64 (k:Nat)∧r = .int .u64 ((cl W 0 ((Xh O Y i f).take k)).2:Nat)∧Row wr w2.heap.size 72 (J5 (Q3o O Y i f k))∧Row wr gx 72 (J5 X)∧Row wr gy 72 (J5 Y) ∧
     wr.cell? ⟨w.heap.size+1+1,0,none⟩=some (.string { data:=#[] })∧wr.frozen? ⟨w.heap.size+1+1,0,none⟩=false∧Below w.heap.size w wr∧w2.heap.size<wr.heap.size)
    (fun _ kv _=>Y.length-(intOf kv).toNat)
   case atStart=>exact ⟨0,Nat.zero_le _,rfl,rfl,by rw [mulM_zero];exact HR.out,HRX.out,HRY.out,hbox,hboxf,HBB.out,hsz⟩
   case round =>
    obtain ⟨k,hk,rfl,rfl,hR,hRX,hRY,hbox2,hboxf2,hB,hsz2⟩:=hrel
    clear HR HRX HRY HBB hbox hboxf hsz hc1
    have hcar:=HCC.out k
    unfold W at hcar
    have HR:=Lib.hid hR
    have HRX:=Lib.hid hRX
    have HRY:=Lib.hid hRY
    have HBB:=Lib.hid hB
    clear hR hRX hRY hB
    by_cases hky:k<Y.length
    ·have HCS2:=Lib.hid (HCS.out k hky)
     rw [HTG.out k hky] at HCS2
     have HST:=Lib.hid (HMST.out k hky)
     have hc1:wr.cell? ⟨w2.heap.size,i+k,none⟩=some (.int .u32 (O.getD (i+k) 0:Nat)):=HR.out.cell (Qp _ _ _ (HMG.out k (by omega)))
     have hc2:wr.cell? ⟨gy,k,none⟩=some (.int .u32 (Y.getD k 0:Nat)) :=
      HRY.out.cell (Qp _ _ _ (by rw [List.getD_eq_getElem?_getD,List.getElem?_eq_getElem (by omega)];rfl))
     have hfr:=HR.out.free (i+k)
     have ho:=HOlt.out.getD (by decide) (i+k)
     have hy:=HDY.out.getD (by decide) k
     unfold W at ho hy
     generalize O.getD (i+k) 0=o at *
     generalize Y.getD k 0=y at *
     generalize cl W 0 ((Xh O Y i f).take k)=cc at *
     obtain ⟨p,hp⟩:∃ p:Nat,p=f*y:=⟨_,rfl⟩
     have hpI:(f:Int)*y=p:=by rw [hp];simp
     have hp2:p≤4294967295*4294967295:=by rw [hp];exact Nat.mul_le_mul (by omega) (by omega)
     rw [←hp] at HST HCS2
     clear hp
     go_wp2_with fail
     go_quiet (fail)
     go_wp2_with fail
     go_roundw
     case rel =>
      refine ⟨k+1,by omega,by go_num,?_,?_,HRX.out.setOther _ (by simp;omega) _,HRY.out.setOther _ (by simp;omega) _,Jv (w:=wr.drewN _) hbox2 (by simp;omega),Jr (w:=wr.drewN _) hboxf2 (by simp;omega),(HBB.out.drewN _).setCell (by simp;omega) _,by simpa using hsz2⟩
      ·rw [HCS2.out];simp [W]
      ·have:=(HR.out.drewN nq).set (i+k) (.int .u32 ((cc.2+(o+p))%W:Nat))
       rw [Jf,HST.out] at this
       simpa [W] using this
     case measure=>simp [intOf];omega
    ·obtain rfl:k=Y.length:=by omega
     rw [List.take_of_length_le (by rw [HTL.out];omega)] at hcar ⊢
     have hc1:wr.cell? ⟨w2.heap.size,i+Y.length,none⟩=some (.int .u32 (O.getD (i+Y.length) 0:Nat)):=HR.out.cell (Qp _ _ _ (HMG.out Y.length (by omega)))
     have hfr:=HR.out.free (i+Y.length)
     generalize O.getD (i+Y.length) 0=o at *
     generalize hcc:cl W 0 (Xh O Y i f)=cc at *
     have HCE:=Lib.hid hcc
     clear hcc
     go_wp2_with fail
     go_roundw
     case rel =>
      refine ⟨i+1,Q2v O Y i f,by omega,by go_num,?_,by rw [HMS.out.2];exact HOl.out,HML.out,?_,HMZ.out,HRX.out.setOther _ (by simp;omega) _,HRY.out.setOther _ (by simp;omega) _,Jv hbox2 (by simp;omega),Jr hboxf2 (by simp;omega),HBB.out.setCell (by simp;omega) _,by simpa using hsz2⟩
      ·have:=HR.out.set (i+Y.length) (.int .u32 (cc.2:Nat))
       rw [Jf] at this
       rw [←HML2.out]
       simpa using this
      ·rw [HMS.out.1,HOd.out,HXS.out]
       generalize Qc W Y=y
       generalize Qc W (X.take i)=x
       generalize W^i=q
       grind
     case measure=>simp [intOf];omega
  ·obtain rfl:i=X.length:=by omega
   have hfin:Qc W O=a*b:=by rw [HOd.out,List.take_of_length_le (Nat.le_refl _),HEX.out,HEY.out]
   have HF:=Lib.hid hfin
   clear hfin
   go_wp2_with fail
   refine (Xf (some ⟨w2.heap.size,0,none⟩) O (X.length+Y.length) (X.length+Y.length) HOl.out HOlt.out (by omega) wr (CellsU.ofRow HR.out)).mono ?_
   rintro e w6 ⟨rfl,hB6⟩
   rw [HF.out]
   have hbox6:=Q8 hB6 (by omega) hbox
   have hboxf6:w6.frozen? ⟨w.heap.size+1+1,0,none⟩=false:=by
    rw [hB6.frozen (p:=⟨w.heap.size+1+1,0,none⟩) (by simp;omega)];exact hboxf
   have HB6:=Lib.hid (HBB.out.trans (hB6.mono (B':=w.heap.size) (by omega)))
   clear hB6
   unfold Qj
   go_wp2_with fail
   exact bodyPost_ret (v:=Qj (a*b)) (by simp [results,Tryz.results28,go_sem,Qj,hbox6]) rfl ⟨rfl,HB6.out.setCell (by simp;omega) _⟩
end
/- takeAway,giveBack. -/
section
open Go.RowKit Num
theorem seg_get {lo xs hi:List Nat} {t i:Nat} (hl:lo.length=i):(∀ k,k<xs.length→(lo++xs++t::hi)[i+k]?=some (xs.getD k 0))∧(lo++xs++t::hi)[i+xs.length]?=some t:=by
 constructor
 ·intro k hk
  rw [List.append_assoc,List.getElem?_append_right (by omega),hl,show i+k-i=k by omega,List.getElem?_append_left hk,List.getD_eq_getElem?_getD,List.getElem?_eq_getElem hk];rfl
 ·rw [List.getElem?_append_right (by simp;omega)]
  simp [hl]
theorem Q6b {lo xs hi:List Nat} {t i:Nat} (hl:lo.length=i):(lo++xs++t::hi).drop (i+xs.length)=t::hi:=by
 rw [List.drop_append_of_le_length (by simp;omega),List.drop_eq_nil_of_le (by simp;omega),List.nil_append]
def Q7s (gx E:Nat) (lo xs:List Nat) (t:Nat) (hi Y:List Nat) (d:Nat) (w:World) (e:Ending) (w':World):Prop :=
 e = .returned (.bool (decide (Qc W (xs++[t])<d*Qc W Y)))∧w.grownBy w' (some gx) ∧
 ∃ (xs':List Nat) (t':Nat),Row w' gx E (J5 (lo++xs'++t'::hi))∧xs'.length=xs.length∧AllLt W (xs'++[t']) ∧
  Qc W (xs'++[t'])=(if Qc W (xs++[t])<d*Qc W Y then Qc W (xs++[t])+W^(xs.length+1)-d*Qc W Y else Qc W (xs++[t])-d*Qc W Y)
theorem Us {w wr:World} {g:Nat} (h:w.grownBy wr (some g)) (o:Nat) (v:Value):w.grownBy (wr.setCell ⟨g,o,none⟩ v) (some g) :=
 ⟨h.os,h.tape,h.output,by simpa using h.size,fun i hi hne=>by
  rw [Below.heap_setCell _ _ _ _ (fun e=>hne (by rw [e]))];exact h.block i hi hne⟩
theorem Hg {w wr:World} {r:Option Nat} (h:w.grownBy wr r) (n:Nat):w.grownBy (wr.drewN n) r:=⟨h.os,h.tape,h.output,h.size,h.block⟩
set_option maxHeartbeats 800000 in
set_option maxRecDepth 100000 in
theorem Q5w (gx gy E i cx cy d t:Nat) (lo xs hi Y:List Nat) (hl:lo.length=i) (hxy:xs.length=Y.length) (hx:AllLt W xs) (ht:t<4294967296) (hy:AllLt W Y) (hd:d<4294967296) (hne:gx≠gy)
  (hs:i+xs.length≤1099511627776) (w:World) (hRx:Row w gx E (J5 (lo++xs++t::hi))) (hRy:Row w gy 72 (J5 Y)) :
  Calls Tryz.prog 127 #[.slice (some ⟨gx,i,none⟩) (Y.length+1) cx,.slice (some ⟨gy,0,none⟩) Y.length cy,.int .u64 d] w (Q7s gx E lo xs t hi Y d w):=by
 have HTT:=Lib.hid (ta_top d hd xs Y t hxy hx hy ht)
 have HSP:=Lib.hid (fun k=>Q5y d hd (xs.take k) (Y.take k) 0 (by simp [hxy]) (hx.take k) (hy.take k) (by decide))
 have HG:=Lib.hid (seg_get (xs:=xs) (hi:=hi) (t:=t) hl)
 have HD:=Lib.hid (Q6b (xs:=xs) (hi:=hi) (t:=t) hl)
 have HX:=Lib.hid hx
 have HY:=Lib.hid hy
 have HL:=Lib.hid hl
 have HXY:=Lib.hid hxy
 have HRx:=Lib.hid hRx
 have HRy:=Lib.hid hRy
 have hxl:xs.length≤Y.length:=by omega
 have hxl2:Y.length≤xs.length:=by omega
 clear hx hy hl hxy hRx hRy
 generalize hZ:lo++xs++t::hi=Z at *
 have HZ:=Lib.hid hZ
 clear hZ
 go_enter Tryz.func127,Tryz.ntmps127
 go_wp2_with fail
 go_loopw [7,13] (fun r kv wr=>∃ k:Nat,k≤Y.length∧kv = .int .i64 (k:Nat)∧r = .int .u64 ((ta d 0 (xs.take k) (Y.take k)).2:Nat) ∧
   Row wr gx E (J5 (lo++(ta d 0 (xs.take k) (Y.take k)).1++Z.drop (i+k)))∧Row wr gy 72 (J5 Y)∧w.grownBy wr (some gx))
  (fun _ kv _=>Y.length-(intOf kv).toNat)
 case atStart =>
  refine ⟨0,Nat.zero_le _,rfl,by simp [ta],?_,HRy.out,World.grownBy.refl _ _⟩
  have:lo++(ta d 0 (xs.take 0) (Y.take 0)).1++Z.drop (i+0)=Z:=by
   simp only [List.take_zero,ta,List.append_nil,Nat.add_zero]
   rw [←HZ.out,List.append_assoc,List.drop_append_of_le_length (by have:=HL.out;omega),List.drop_eq_nil_of_le (by have:=HL.out;omega),List.nil_append]
  rw [this];exact HRx.out
 case round =>
  obtain ⟨k,hk,rfl,rfl,hR,hRy,hG⟩:=hrel
  clear HRx HRy
  have hb1:=(HSP.out k).2.2
  unfold W at hb1
  have hclen:(lo++(ta d 0 (xs.take k) (Y.take k)).1).length=i+k:=by
   rw [List.length_append,Ut _ _ _ _ (by rw [List.length_take,List.length_take];omega),List.length_take];have:=HL.out;omega
  by_cases hlk:k<Y.length
  ·have HST:=Lib.hid (Q5p d 0 xs Y k HXY.out (by omega))
   have hc1:wr.cell? ⟨gx,i+k,none⟩=some (.int .u32 (xs.getD k 0:Nat)) :=
    hR.cell (Qp _ _ _ (by rw [Og hclen (Nat.le_refl _)];exact HG.out.1 k (by omega)))
   have hc2:wr.cell? ⟨gy,k,none⟩=some (.int .u32 (Y.getD k 0:Nat)) :=
    hRy.cell (Qp _ _ _ (by rw [List.getD_eq_getElem?_getD,List.getElem?_eq_getElem (by omega)];rfl))
   have hf:=hR.free (i+k)
   have hxk:=HX.out.getD (by decide) k
   have hyk:=HY.out.getD (by decide) k
   unfold W at hxk hyk
   have HSD:=Lib.hid (fun v=>Xi (v:=v) (xs:=Z) hclen (by
    rw [←HZ.out];simp [HL.out];omega))
   have HR:=Lib.hid hR
   have HRY:=Lib.hid hRy
   have HGG:=Lib.hid hG
   clear hR hRy hG hclen
   generalize Y.getD k 0=y at *
   generalize xs.getD k 0=x at *
   generalize ta d 0 (xs.take k) (Y.take k)=cc at *
   obtain ⟨p,hp⟩:∃ p:Nat,p=d*y:=⟨_,rfl⟩
   have hpI:(d:Int)*y=p:=by rw [hp];simp
   have hp2:p≤4294967295*4294967295:=by rw [hp];exact Nat.mul_le_mul (by omega) (by omega)
   rw [←hp] at HST
   clear hp
   by_cases hless:x<(p+cc.2)%4294967296
   case' pos =>
    have HE1:Hid (((x:Int)-(p+cc.2))%4294967296=(ta1 x ((p+cc.2)%W):Nat)):=by unfold Hid ta1 W;rw [if_pos hless];omega
    have HE2:Hid (((p:Int)+cc.2)/4294967296+1=(ta2 x ((p+cc.2)%W) (p+cc.2):Nat)):=by unfold Hid ta2 W;rw [if_pos hless];omega
   case' neg =>
    have HE1:Hid ((x:Int)-(p+cc.2)%4294967296=(ta1 x ((p+cc.2)%W):Nat)):=by unfold Hid ta1 W;rw [if_neg hless];omega
    have HE2:Hid (((p:Int)+cc.2)/4294967296=(ta2 x ((p+cc.2)%W) (p+cc.2):Nat)):=by unfold Hid ta2 W;rw [if_neg hless];omega
   all_goals
    go_wp2_with fail
    go_roundw
    case rel =>
     refine ⟨k+1,by omega,by go_num,?_,?_,HRY.out.setOther _ hne _,Us HGG.out _ _⟩
     ·rw [HST.out,HE2.out]
     ·rw [HE1.out]
      have:=HR.out.set (i+k) (.int .u32 (ta1 x ((p+cc.2)%W):Nat))
      rw [Jf,HSD.out] at this
      rw [HST.out]
      simpa [Nat.add_assoc] using this
    case measure=>simp [intOf];omega
  ·obtain rfl:k=Y.length:=by omega
   have htx:xs.take Y.length=xs:=List.take_of_length_le hxl
   have hty:Y.take Y.length=Y:=List.take_of_length_le (Nat.le_refl _)
   have hil:i+Y.length=i+xs.length:=by omega
   rw [htx,hty] at hR hclen hb1 ⊢
   have hdr:=HD.out
   rw [←hil] at hdr
   rw [hdr] at hR
   have HSP2:=HSP.out Y.length
   rw [htx,hty] at HSP2
   have HLT:=Lib.hid HSP2.2.1
   have hlen2:=Ut d xs Y 0 HXY.out
   have hc1:wr.cell? ⟨gx,i+Y.length,none⟩=some (.int .u32 (t:Nat)) :=
    hR.cell (Qp _ _ _ (by rw [List.getElem?_append_right (by omega),hclen,Nat.sub_self];rfl))
   have hf:=hR.free (i+Y.length)
   have HR:=Lib.hid hR
   have HRY:=Lib.hid hRy
   have HGG:=Lib.hid hG
   have HCN:=Lib.hid hclen
   have HLN:=Lib.hid hlen2
   clear hR hRy hG hclen htx hty hil hdr HSP2 hlen2
   generalize ta d 0 xs Y=cc at *
   by_cases hless:t<cc.2
   case' pos =>
    have HE1:Hid (((t:Int)-cc.2)%4294967296=(ta1 t cc.2:Nat)):=by unfold Hid ta1 W;rw [if_pos hless];omega
    have HE2:Hid (decide (Qc W (xs++[t])<d*Qc W Y)=true):=by unfold Hid;rw [decide_eq_true_eq];exact HTT.out.1.1 hless
   case' neg =>
    have HE1:Hid ((t:Int)-cc.2=(ta1 t cc.2:Nat)):=by unfold Hid ta1 W;rw [if_neg hless];omega
    have HE2:Hid (decide (Qc W (xs++[t])<d*Qc W Y)=false):=by unfold Hid;rw [decide_eq_false_iff_not];exact fun h=>hless (HTT.out.1.2 h)
   all_goals
    go_wp2_with fail
    go_ret
    refine ⟨by rw [HE2.out];rfl,Us HGG.out _ _,cc.1,ta1 t cc.2,?_,HLN.out,HLT.out.append (AllLt.cons (ta1_lt ht hb1) (AllLt.nil W)),HTT.out.2⟩
    rw [HE1.out]
    have:=HR.out.set (i+Y.length) (.int .u32 (ta1 t cc.2:Nat))
    rw [Jf,List.set_append_right _ _ (by rw [HCN.out];omega),HCN.out,Nat.sub_self] at this
    exact this
end
end Go.Proofs.YtcpehljpegfckaaGreatDoor
