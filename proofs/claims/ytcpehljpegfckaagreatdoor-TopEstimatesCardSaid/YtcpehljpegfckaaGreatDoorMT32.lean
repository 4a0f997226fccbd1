/- Texts of this claim,joined: WDivB,WGcd,LGive,WPow,LFrom,LWork,LRaw,WUint. -/
import Derived.Test.YtcpehljpegfckaaGreatDoorMT31
import Derived.Deep.LoopGhost
import Derived.Test.YtcpehljpegfckaaGreatDoorMT29
import Derived.Test.YtcpehljpegfckaaGreatDoorMT03
import Derived.Test.YtcpehljpegfckaaGreatDoorMT06
import Derived.Laws.BitsAllLaws
/- Div: the long way. -/
namespace Go.Proofs.YtcpehljpegfckaaGreatDoor
section
open Go.RowKit Num
theorem CellsU.take {w:World} {a:Option Addr} {l:List Nat} (h:CellsU w a l) (n:Nat):CellsU w a (l.take n):=by
 intro i d hd
 rw [List.getElem?_take] at hd
 split at hd
 ·exact h i d hd
 ·cases hd
theorem CellsU.on {w w':World} {g B:Nat} {l:List Nat} (h:CellsU w (some ⟨g,0,none⟩) l) (hb:Below B w w') (hg:g<B):CellsU w' (some ⟨g,0,none⟩) l:=by
 intro i d hd
 obtain ⟨b,o,e,hc⟩:=h i d hd
 simp only [Option.some.injEq,Addr.mk.injEq,and_true] at e
 refine ⟨b,o,by rw [e.1,e.2],Q8 hb (by omega) hc⟩
set_option maxHeartbeats 3200000 in
set_option maxRecDepth 100000 in
theorem div_big (a b:Nat) (ha:nl a≤536870912) (hb:nl b≤536870912) (hb1:4294967296≤b) (hab:b≤a) (w:World) :
  Calls Tryz.prog 66 #[Qj a,Qj b] w (Uf (a/b) (a%b) true w):=by
 obtain ⟨i0,hi,hz0,hz1,hz2⟩:=info_parts Tryz.infoU32
 have HC:Hid (0≤H9 a b∧H9 a b≤1):=by
  unfold Hid H9
  rw [if_neg (by omega)];split<;>omega
 have hn2:2≤(Qa W b).length:=by
  rcases Nat.lt_or_ge (Qa W b).length 2 with h | h
  ·exfalso
   have h1:=Yz (B:=W) (by decide) b
   have h2:W^(Qa W b).length≤W^1:=Nat.pow_le_pow_right (by decide) (by omega)
   have h3:W^1=4294967296:=by decide
   omega
  ·exact h
 have hpos:0<(Qa W b).length:=by omega
 have hlyx:(Qa W b).length≤(Qa W a).length:=Qz (by decide) _ _ (Nat.lt_of_le_of_lt hab (Yz (by decide) a))
 have hwl:=Xg b
 have hwa:=Xg a
 unfold Qj
 go_enter Tryz.func66,Tryz.ntmps66
 go_wp2_with fail
 obtain ⟨w0,hw0,c1,c2,c3,f3,c4,f4,sz,HB⟩:=Vq w (nb a) (nb b) 38
 rw [←hw0]
 clear hw0
 have HBX:Hid (Boxes w w0):=⟨c3,f3,c4,f4,HB.out,sz⟩
 clear c3 f3 c4 f4 HB
 go_region_held3 (fun w'=>w'.cell? ⟨w.heap.size,0,none⟩=some (.string (nb a))∧w'.cell? ⟨w.heap.size+1,0,none⟩=some (.string (nb b)))
  (first | go_keep | exact ⟨by assumption,by assumption⟩)
  (first
   | (go_at_call 31;((with_reducible refine (Yt a (by omega) _).mono ?_);rintro e w1 ⟨rfl,hR1,hB1⟩;have k1:=Q8 hB1 (by simp;omega) c1;have k2:=Q8 hB1 (by simp;omega) c2))
   | (go_at_call 31;((with_reducible refine (Yt b (by omega) _).mono ?_);rintro e w2 ⟨rfl,hR2,hB2⟩;have j1:=Q8 hB2 (by have:=hB1.size;simp at this;omega) k1;have j2:=Q8 hB2 (by have:=hB1.size;simp at this;omega) k2)))
 have sz2:w0.heap.size+1<w1.heap.size:=by simpa using hR1.lt
 have HBX2:=Lib.hid ((HBX.out.drew.on (B:=w0.heap.size) sz hB1).on (B:=w1.heap.size) (by omega) hB2)
 have hs2:=HBX2.out.size
 have hRX:Row w2 (w0.heap.size+1) 72 (J5 (Qa W a)):=hR1.below hB2 sz2
 have hRY:=hR2
 clear hR1 hR2 hB1 hB2 c1 c2 k1 k2 HBX
 have hne:(((Qa W b).length:Int) == 0)=false:=J7 (by omega)
 have HRX:=Lib.hid hRX
 have HRY:=Lib.hid hRY
 clear hRX hRY
 go_wp2_with fail
 refine (Q01 a b (by omega) (by omega) w2).mono ?_
 rintro e w3 ⟨rfl,hB3⟩
 have hc0:=HC.out.1
 have hc1:=HC.out.2
 generalize H9 a b=cc at *
 have HBX3:=Lib.hid (HBX2.out.on (B:=w2.heap.size) hs2 hB3)
 have HRX3:=Lib.hid (HRX.out.below hB3 HRX.out.lt)
 have HRY3:=Lib.hid (HRY.out.below hB3 HRY.out.lt)
 have HXL:=Lib.hid (Ja (B:=W) (by decide) a)
 have HYL:=Lib.hid (Ja (B:=W) (by decide) b)
 have HXE:=Lib.hid (Qw (B:=W) (by decide) a)
 have HYE:=Lib.hid (Qw (B:=W) (by decide) b)
 have hcan:=Xn (B:=W) (by decide) b
 have hs3:=Nat.le_trans hs2 hB3.size
 have hgx3:w0.heap.size+1<w3.heap.size:=HRX3.out.lt
 have hgy3:w1.heap.size+1<w3.heap.size:=HRY3.out.lt
 have hgne:w0.heap.size+1≠w1.heap.size+1:=by omega
 have hgx4:w.heap.size+4≤w0.heap.size+1:=by omega
 have hgy4:w.heap.size+4≤w1.heap.size+1:=by omega
 clear hB3 HBX2 j1 j2 HRX HRY HC
 obtain ⟨Y0,y,hYy⟩:∃ Y0 y,Qa W b=Y0++[y]:=by
  rcases List.eq_nil_or_concat (Qa W b) with h | ⟨l,x,h⟩
  ·rw [h] at hpos;simp at hpos
  ·exact ⟨l,x,by simpa using h⟩
 rw [hYy] at hn2 hpos hlyx hwl hne HRY3 HYL HYE hcan ⊢
 clear hYy
 have hy0:y≠0:=by
  unfold Canon at hcan
  rw [List.getLast?_append] at hcan
  simpa using hcan
 have hyW:y<4294967296:=HYL.out y (by simp)
 have hY0l:AllLt W Y0:=fun z hz=>HYL.out z (by simp [hz])
 have HY0:=Lib.hid hY0l
 have HBL:Hid (Lib.bitLen y=Xd y):=Num.bitLen_eq y (by omega)
 have hbl1:y<2^Xd y:=Yz (by omega) y
 have hbl2:Xd y≤32:=Qz (by omega) 32 y (by simpa using hyW)
 have hbl0:0<Xd y:=Nat.pos_of_ne_zero (fun h=>hy0 ((Ku (B:=2) (by omega)).1 (List.eq_nil_of_length_eq_zero h)))
 have hbl3:2^(Xd y-1)≤y:=Xy (by omega) y _ (by unfold Xd at hbl0 ⊢;omega)
 obtain ⟨s,hs⟩:∃ s,s=32-Xd y:=⟨_,rfl⟩
 have hs31:s≤31:=by omega
 have hsI:(32:Int)-(Xd y:Nat)=(s:Nat):=by omega
 rw [show Xd y=32-s by omega] at hbl1
 rw [show Xd y-1=31-s by omega] at hbl3
 have HSY:=Lib.hid (shl_y Y0 y s hs31 hY0l hbl1 hbl3)
 have HSX:=Lib.hid (shl_x (Qa W a) s hs31 HXL.out)
 rw [HXE.out] at HSX
 rw [HYE.out] at HSY
 have HSI:=Lib.hid hsI
 have hyl:(Y0++[y]).length=Y0.length+1:=by simp
 rw [hyl] at hn2 hpos hlyx hwl hne ⊢
 clear hcan hY0l hbl1 hbl2 hbl0 hbl3 hs hsI hy0 hyl
 have hcy:w3.cell? ⟨w1.heap.size+1,Y0.length,none⟩=some (.int .u32 (y:Nat)) :=
  HRY3.out.cell (Qp _ _ _ (by rw [List.getElem?_append_right (Nat.le_refl _),Nat.sub_self];rfl))
 generalize w0.heap.size+1=gx at *
 generalize w1.heap.size+1=gy at *
 generalize Qa W a=X at *
 have hxl:X.length<X.length+1:=Nat.lt_succ_self _
 have hyx:(((Y0.length+1:Nat):Int) == 1)=false:=J7 (by omega)
 go_wp2_with fail
 refine (Tryz.bits_LeadingZeros32 y _ (by omega) (by omega)).mono ?_
 rintro e w3' ⟨rfl,hw3⟩
 rw [hw3,Int.toNat_natCast,HBL.out,HSI.out]
 clear hw3 hcy w3' HBL HSI
 have HO3:=Lib.hid (Row.toOwns (base:=w.heap.size+4) HRX3.out hgx4 (by simp [J5]) (show X.length≤maxLen by unfold maxLen;omega))
 go_wp2_with (at_builtin;refine wpList_append_own _ rfl _ _ 73 rfl (w.heap.size+4) 72 i0 (.int .u32 0) 1 4 Tryz.underlying73 hi hz0 hz1 hz2 rfl (by decide) _ _ _ rfl (HO3.out.alloc _) ⟨w3.heap.size,0,none⟩ 1 1 [.int .u32 0] rfl rfl ?_ ?_ ?_ ?_ ?_ ?_)
 ·exact cell_one_new _ _ _
 ·intro u hu;simp at hu;subst hu;rfl
 ·unfold maxLen;omega
 ·omega
 ·simp;omega
 intro v4 w4 hown4 hgr4 _
 have hB4:Below (w.heap.size+4) w3 w4:=((Below.refl _ _).alloc (by omega) _).grown hgr4 (by simp;omega) (fun i hi=>by have:=(HO3.out.lt i hi).1;omega)
 have HBX4:=Lib.hid (HBX3.out.on (Nat.le_refl _) hB4)
 have HRY4:=Lib.hid ((HRY3.out.alloc (.cells #[.int .u32 0] 72)).grown hgr4 (by simp [Value.ownBlock];exact hgne))
 have hS4:SlW (w.heap.size+4) 72 (X++[0]) v4 w4:=SlW.of (by
  have e:J5 (X++[0])=J5 X++[Value.int IntKind.u32 0]:=by simp [J5]
  rw [e];simpa using hown4)
 obtain ⟨a4,cap4,rfl,hO4⟩:=hS4
 have HO4:=Lib.hid hO4
 have hs4:w3.heap.size≤w4.heap.size:=hB4.size
 clear hown4 hgr4 hB4 HO3 HRX3 HRY3 HBX3 hO4
 have hxl1:(X++[0]).length=X.length+1:=by simp
 rw [hxl1] at HO4 ⊢
 clear hxl1
 have HXL1:Hid (AllLt W (X++[0])):=HXL.out.append (AllLt.cons (by decide) (AllLt.nil W))
 go_wp2_with fail
 refine (Q11 a4 (X.length+1) cap4 s (X++[0]) (by simp) HXL1.out hs31 (by omega) w4 (CellsU.ofOwns HO4.out)).mono ?_
 rintro e w5 ⟨rfl,hR5,hB5⟩
 have HBX5:=Lib.hid (HBX4.out.on HBX4.out.size hB5)
 have HRY5:=Lib.hid (HRY4.out.below hB5 HRY4.out.lt)
 have HR5:=Lib.hid hR5
 have hs5:w4.heap.size<w5.heap.size:=hR5.lt
 clear hR5 hB5 HBX4 HRY4 HO4
 go_wp2_with fail
 refine (Q11 (some ⟨gy,0,none⟩) (Y0.length+1) (Y0.length+1) s (Y0++[y]) (by simp) HYL.out hs31 (by omega) w5 (CellsU.ofRow HRY5.out)).mono ?_
 rintro e w6 ⟨rfl,hR6,hB6⟩
 have HBX6:=Lib.hid (HBX5.out.on HBX5.out.size hB6)
 have HR5':=Lib.hid (HR5.out.below hB6 hs5)
 have HR6:=Lib.hid hR6
 have hs6:w5.heap.size<w6.heap.size:=hR6.lt
 have hbs4:w.heap.size+4≤w4.heap.size:=by omega
 clear hR6 hB6 HBX5 HRY5 HR5
 have HSXL:=Lib.hid (Oa (X++[0]) s)
 have HSYL:=Lib.hid (Oa (Y0++[y]) s)
 have HSXT:=Lib.hid (shl_lt (X++[0]) s)
 have HSYT:=Lib.hid (shl_lt (Y0++[y]) s)
 have hyt:=HSY.out.2
 have hless:Qc W ((shl (X++[0]) s).drop (X.length+1-(Y0.length+1)))<Qc W (shl (Y0++[y]) s):=by
  have l1:(shl (X++[0]) s).length=X.length+1:=by rw [HSXL.out];simp
  have l2:(shl (Y0++[y]) s).length=Y0.length+1:=by rw [HSYL.out];simp
  refine Ua (by decide) (HSXT.out.drop _) (by rw [List.length_drop,l1,l2];omega) Y0.length (by rw [List.length_drop,l1];omega) ?_ (fun j hj=>?_)
  ·rw [Q09,show X.length+1-(Y0.length+1)+Y0.length=X.length by omega]
   have h1:=HSX.out.2
   have h2:(2:Nat)^s≤2^31:=Nat.pow_le_pow_right (by omega) hs31
   have h3:(2:Nat)^31=2147483648:=by decide
   omega
  ·rw [List.getD_eq_getElem?_getD,List.getElem?_eq_none (by rw [List.length_drop,l1];omega),List.getD_eq_getElem?_getD,List.getElem?_eq_none (by rw [l2];omega)]
 have HLS:=Lib.hid hless
 have hSX1:=HSX.out.1
 have hSY1:=HSY.out.1
 have HSX1:=Lib.hid hSX1
 have HSY1:=Lib.hid hSY1
 have hlX:(shl (X++[0]) s).length=X.length+1:=by rw [HSXL.out];simp
 have hlY:(shl (Y0++[y]) s).length=Y0.length+1:=by rw [HSYL.out];simp
 have HLX:=Lib.hid hlX
 have HLY:=Lib.hid hlY
 clear hless hSX1 hSY1 HSXL HSYL HSX HSY hlX hlY
 generalize shl (X++[0]) s=SX at *
 generalize shl (Y0++[y]) s=SY at *
 have HYT:=Lib.hid hyt
 clear hyt
 go_wp2_with fail
 refine (long_any w4.heap.size w5.heap.size 72 (X.length+1) (Y0.length+1) (X.length+1) (Y0.length+1) SX SY HLX.out HSXT.out HLY.out hn2 HSYT.out HYT.out (by omega) (Nat.le_refl _) (Nat.le_refl _) (by omega) (by omega) HLS.out (by omega) w6 HR5'.out HR6.out).mono ?_
 rintro e w7 ⟨rfl,hg7,R,Q,hRx7,hRq7,hI7⟩
 rw [HLY.out]
 have HBX7:=Lib.hid (HBX6.out.on (Nat.le_refl _) (Z9 hg7 (by omega) (by simp;omega)))
 have HRx7:=Lib.hid hRx7
 have HRq7:=Lib.hid hRq7
 have HEND:=Lib.hid (long_end hI7)
 rw [HSX1.out,HSY1.out] at HEND
 have HQL:=Lib.hid hI7.ql
 have HRL:=Lib.hid hI7.xl
 have HRT:=Lib.hid hI7.xlt
 have HQT:=Lib.hid hI7.qlt
 rw [HLY.out] at HQL
 have hs7:w6.heap.size<w7.heap.size:=hRq7.lt
 have hRv:Qc W R<Qc W SY:=by have:=hI7.less;rwa [List.drop_zero] at this
 have HRV:=Lib.hid hRv
 clear hg7 hRx7 hRq7 hI7 hRv HBX6 HR5' HR6 HLS
 as_aux_lemma =>
  go_wp2_with fail
  have HSTEP:=Lib.hid (srT_set s (Y0.length+1) R (by rw [HRL.out];omega))
  have HGET:=Lib.hid (srT_get s (Y0.length+1) R (by rw [HRL.out];omega))
  have HFULL:=Lib.hid (srT_full s (Y0.length+1) R (by rw [HRL.out];omega))
  go_loopw [65] (fun iv wr=>∃ k:Nat,k≤Y0.length+1∧iv = .int .i64 (k:Nat)∧Row wr w4.heap.size 72 (J5 (srT s (Y0.length+1) R k))∧Row wr w6.heap.size 72 (J5 Q)∧Boxes w wr)
   (fun iv _=>Y0.length+1-(intOf iv).toNat)
  case atStart=>exact ⟨0,Nat.zero_le _,rfl,by rw [srT_zero];exact HRx7.out,HRq7.out,HBX7.out⟩
  case round =>
   as_aux_lemma =>
    obtain ⟨k,hk,rfl,hR,hRq,hbx⟩:=hrel
    clear HRx7 HRq7 HBX7
    have HR:=Lib.hid hR
    have HRq:=Lib.hid hRq
    have HBX:=Lib.hid hbx
    clear hR hRq hbx
    by_cases hlk:k<Y0.length+1
    ·have hc:=HR.out.cell (Qp _ _ _ (HGET.out k k hk (Nat.le_refl _) (by rw [HRL.out];omega)))
     have hf:=HR.out.free k
     have hst:=HSTEP.out k hlk
     have hx:=HRT.out.getD (by decide) k
     unfold W at hx
     have hc2:k+1<Y0.length+1→wr.cell? ⟨w4.heap.size,k+1,none⟩=some (.int .u32 (R.getD (k+1) 0:Nat)):=fun h=>HR.out.cell (Qp _ _ _ (HGET.out k (k+1) hk (by omega) (by rw [HRL.out];omega)))
     have hnx:k+1<Y0.length+1→(R.take (Y0.length+1)).getD (k+1) 0=R.getD (k+1) 0:=fun h=>by rw [Ya,if_pos h]
     have hnx0:¬ k+1<Y0.length+1→(R.take (Y0.length+1)).getD (k+1) 0=0:=fun h=>by rw [Ya,if_neg h]
     generalize (R.take (Y0.length+1)).getD (k+1) 0=nx at *
     generalize R.getD (k+1) 0=x1 at *
     generalize R.getD k 0=x at *
     have HST:=Lib.hid hst
     clear hst
     by_cases hb2:k+1<Y0.length+1
     ·have hc2:=hc2 hb2
      have hnx:=hnx hb2
      clear hnx0
      by_cases hs0:0<s
      ·as_aux_lemma =>
       have HW:=Lib.hid (srw_word s x x1 hs0 hs31 hx)
       rw [hnx] at HST
       clear hnx
       go_wp2_with fail
       refine Vz 13 (by kernel_rfl) (by kernel_rfl) ?_
       simp only [List.take_succ_cons,List.take_zero,List.drop_succ_cons,List.drop_zero]
       repeat (go_big_quiet_step (fail))
       refine wpQuiet_nil ?_
       rw [HW.out]
       go_wp2_with fail
       go_roundw
       case rel =>
        refine ⟨k+1,by omega,by go_num,?_,(HRq.out.setOther _ (by simp;omega) _).setOther _ (by simp;omega) _,(HBX.out.on (Nat.le_refl _) (((Below.refl _ _).setCell (p:=⟨w4.heap.size,k,none⟩) hbs4 _).setCell (p:=⟨w4.heap.size,k,none⟩) hbs4 _)).drew⟩
        have:=(HR.out.set k (.int .u32 ((x:Int)/2^s))).set k (.int .u32 (srw s x x1:Nat))
        rw [List.set_set,Jf,HST.out] at this
        exact this
       case measure=>simp [intOf];omega
      ·as_aux_lemma =>
       have hs00:s=0:=by omega
       have HV:Hid ((x:Int)/2^s=(srw s x nx:Nat)):=by unfold Hid;rw [hs00,srw_zero];simp
       clear hs00 hnx
       go_wp2_with fail
       go_roundw
       case rel =>
        refine ⟨k+1,by omega,by go_num,?_,HRq.out.setOther _ (by simp;omega) _,HBX.out.on (Nat.le_refl _) ((Below.refl _ _).setCell (p:=⟨w4.heap.size,k,none⟩) hbs4 _)⟩
        rw [HV.out]
        have:=HR.out.set k (.int .u32 (srw s x nx:Nat))
        rw [Jf,HST.out] at this
        exact this
       case measure=>simp [intOf];omega
     ·as_aux_lemma =>
      have hn0:=hnx0 hb2
      have HV:Hid ((x:Int)/2^s=(srw s x nx:Nat)):=by unfold Hid;rw [hn0,srw_last];simp
      clear hnx hnx0 hc2 hn0
      go_wp2_with fail
      go_roundw
      case rel =>
       refine ⟨k+1,by omega,by go_num,?_,HRq.out.setOther _ (by simp;omega) _,HBX.out.on (Nat.le_refl _) ((Below.refl _ _).setCell (p:=⟨w4.heap.size,k,none⟩) hbs4 _)⟩
       rw [HV.out]
       have:=HR.out.set k (.int .u32 (srw s x nx:Nat))
       rw [Jf,HST.out] at this
       exact this
      case measure=>simp [intOf];omega
    ·as_aux_lemma =>
     obtain rfl:k=Y0.length+1:=by omega
     clear HSTEP HGET
     have hslen:=Xl s (Y0.length+1) R (by rw [HRL.out];omega)
     have hR2:=HR.out
     rw [HFULL.out] at hR2
     have hpre:(sr s (R.take (Y0.length+1))++R.drop (Y0.length+1)).take (Y0.length+1)=sr s (R.take (Y0.length+1)):=by
      rw [List.take_append_of_le_length (by omega),List.take_of_length_le (by omega)]
     have hCx:=(CellsU.ofRow hR2).take (Y0.length+1)
     rw [hpre] at hCx
     have hde:=div_end a b s (Y0.length+1) R Q SY (by omega) (by rw [HRL.out];omega) HLY.out HSYT.out HRV.out HEND.out.2 HEND.out.1
     have hval:=hde.1
     have hvq:=hde.2
     clear hde
     have hsrt:AllLt W (sr s (R.take (Y0.length+1))):=sr_lt s (by omega) _ (HRT.out.take _)
     have HCX:=Lib.hid hCx
     have HVL:=Lib.hid hval
     have HVQ:=Lib.hid hvq
     have HSRT:=Lib.hid hsrt
     have HSRL:=Lib.hid hslen
     clear hCx hval hvq hsrt hslen hpre hR2 HR
     generalize sr s (R.take (Y0.length+1))=SR at *
     have hbs:=HBX.out.size
     have hrlt:w6.heap.size<wr.heap.size:=HRq.out.lt
     have hr4:w4.heap.size<wr.heap.size:=by omega
     have bc1:=HBX.out.c1
     have bf1:=HBX.out.f1
     have bc2:=HBX.out.c2
     have bf2:=HBX.out.f2
     have HB:=Lib.hid HBX.out.below
     have hqc:=CellsU.ofRow HRq.out
     have HQC:=Lib.hid hqc
     clear hqc HBX HRq
     have HQL2:Hid (Q.length=X.length-Y0.length):=by have:=HQL.out;unfold Hid;omega
     go_wp2_with fail
     go_region_with (first
      | (go_at_call_of 24 (Value.slice (some ⟨w6.heap.size,0,none⟩) (X.length-Y0.length) (X.length-Y0.length));refine (Xf (some ⟨w6.heap.size,0,none⟩) Q (X.length-Y0.length) (X.length-Y0.length) HQL2.out HQT.out (by omega) wr.drew HQC.out).mono ?_;rintro e w8 ⟨rfl,hB8⟩;rw [HVQ.out];unfold Qj)
      | (go_at_call 24;(refine (Xf (some ⟨w4.heap.size,0,none⟩) SR (Y0.length+1) (X.length+1) HSRL.out HSRT.out (by omega) w8 (CellsU.on (w:=wr.drew) HCX.out hB8 (by simp;omega))).mono ?_;rintro e w9 ⟨rfl,hB9⟩;rw [HVL.out];unfold Qj;have kc1:=Q8 hB9 (by have:=hB8.size;simp at this;omega) (Q8 hB8 (by simp;omega) bc1);have kf1:w9.frozen? ⟨w.heap.size+1+1,0,none⟩=false:=(by rw [hB9.frozen (p:=⟨w.heap.size+1+1,0,none⟩) (by have:=hB8.size;simp at this ⊢;omega),hB8.frozen (p:=⟨w.heap.size+1+1,0,none⟩) (by simp;omega)];simpa using bf1);have kc2:=Q8 hB9 (by have:=hB8.size;simp at this;omega) (Q8 hB8 (by simp;omega) bc2);have kf2:w9.frozen? ⟨w.heap.size+1+1+1,0,none⟩=false:=(by rw [hB9.frozen (p:=⟨w.heap.size+1+1+1,0,none⟩) (by have:=hB8.size;simp at this ⊢;omega),hB8.frozen (p:=⟨w.heap.size+1+1+1,0,none⟩) (by simp;omega)];simpa using bf2))))
     all_goals
      have HB9:=Lib.hid ((HB.out.drew.trans (hB8.mono (B':=w.heap.size) (by simp;omega))).trans (hB9.mono (B':=w.heap.size) (by have:=hB8.size;simp at this;omega)))
      clear hB8 hB9
      go_wp2_with fail
      exact bodyPost_ret (v:=.tuple #[Qj (a/b),Qj (a%b),.bool true]) (by simp [results,Tryz.results66,go_sem,Qj,kc1,kc2]) rfl ⟨rfl,(HB9.out.setCell (by simp;omega) _).setCell (by simp;omega) _⟩
end
/- Div at whatever numbers;Gcd. -/
section
open Go.RowKit Num
theorem div_any (a b:Nat) (ha:nl a≤536870912) (hb:nl b≤536870912) (w:World) :
  Calls Tryz.prog 66 #[Qj a,Qj b] w (Uf (a/b) (if b=0 then 0 else a%b) (decide (b≠0)) w):=by
 by_cases h0:b=0
 ·subst h0
  rw [Nat.div_zero,if_pos rfl]
  exact div_zero a (by omega) w
 ·rw [if_neg h0]
  have hd:decide (b≠0)=true:=by simp [h0]
  rw [hd]
  by_cases h1:a<b
  ·rw [Nat.div_eq_of_lt h1,Nat.mod_eq_of_lt h1]
   exact div_less a b (by omega) (by omega) (by omega) h1 w
  ·by_cases h2:b<4294967296
   ·exact div_one a b (by omega) (by omega) (by omega) h2 (by omega) w
   ·exact div_big a b ha hb (by omega) (by omega) w
theorem div_pos (a b:Nat) (ha:nl a≤536870912) (hb:nl b≤536870912) (h0:b≠0) (w:World) :
  Calls Tryz.prog 66 #[Qj a,Qj b] w (Uf (a/b) (a%b) true w):=by
 have h:=div_any a b ha hb w
 rw [if_neg h0,show decide (b≠0)=true by simp [h0]] at h
 exact h
end
/- The contracts in one spelling. -/
section
open Go.RowKit Num
theorem gOf (n:Nat) (h:n<18446744073709551616):Gives 11 #[.int .u64 (n:Nat)] (Qj n):=of_any n h
theorem gDiv (a b:Nat) (ha:nl a≤536870912) (hb:nl b≤536870912) (h0:b≠0):Gives 66 #[Qj a,Qj b] (.tuple #[Qj (a/b),Qj (a%b),.bool true]):=div_pos a b ha hb h0
theorem Q64 (a b:Nat) (ha:nl a≤1073741824) (hb:nl b≤1073741824):Gives 28 #[Qj a,Qj b] (Qj (a*b)):=mul_any a b ha hb
theorem Q2n (a b:Nat) (ha:nl a≤1073741824) (hb:nl b≤1073741824):Gives 54 #[Qj a,Qj b] (Qj (a+b)):=add_any a b ha hb
theorem gSub (a b:Nat) (ha:nl a≤1073741824) (hb:nl b≤1073741824) (h:b≤a):Gives 65 #[Qj a,Qj b] (.tuple #[Qj (a-b),.bool true]):=sub_geq a b ha hb h
theorem gCmp (a b:Nat) (ha:nl a≤1099511627776) (hb:nl b≤1099511627776):Gives 10 #[Qj a,Qj b] (.int .i64 (H9 a b)):=Q01 a b ha hb
theorem gText (a:Nat) (ha:nl a≤1073741824):Gives 16 #[Qj a] (.string (dec a)):=text_any a ha
end
/- Pow2,Uint. -/
section
open Go.RowKit Num
theorem pow_row (n:Nat):Qc W ((List.replicate (n/32+1) 0).set (n/32) (2^(n%32)))=2^n:=by
 have e:(List.replicate (n/32+1) 0).set (n/32) (2^(n%32))=List.replicate (n/32) 0++[2^(n%32)]:=by
  apply List.ext_getElem
  ·simp
  ·intro i h1 h2
   rw [List.getElem_set,List.getElem_append]
   simp at h1 h2
   by_cases h:n/32=i
   ·simp [h]
   ·simp [h];omega
 rw [e,J8,Zr,List.length_replicate]
 have:n=32*(n/32)+n%32:=by omega
 conv=>rhs;rw [this,Nat.pow_add,Nat.pow_mul]
 simp [Qc,W]
theorem pow_lt (n:Nat):AllLt W ((List.replicate (n/32+1) 0).set (n/32) (2^(n%32))):=by
 apply AllLt.set (AllLt.zeros (by decide) _)
 unfold W
 exact Nat.pow_lt_pow_right (by omega) (Nat.mod_lt _ (by omega))
set_option maxHeartbeats 800000 in
set_option maxRecDepth 100000 in
theorem pow2_any (n:Nat) (h:n≤4096) (w:World) :
  Calls Tryz.prog 29 #[.int .i64 (n:Nat)] w fun e w'=>e = .returned (Qj (2^n))∧Below w.heap.size w w':=by
 obtain ⟨i0,hi,hz0,hz1,hz2⟩:=info_parts Tryz.infoU32
 go_enter Tryz.func29,Tryz.ntmps29
 go_wp2_with (at_make;refine wpList_make_full _ rfl (.tmp 13) (.tmp 13) 73 rfl (w.heap.size+1) 72 i0 (.int .u32 0) 1 Tryz.underlying73 hi hz0 hz1 .i64 .i64 _ _ (n/32+1) rfl rfl (by omega) (by omega) (by rw [hz2];omega) (by unfold maxLen;omega) (by simp) ?_)
 intro w3 hown hgr
 have hRo:=Row.ofOwns hown
 rw [Zu] at hRo
 have l3:w3.cell? ⟨w.heap.size,0,none⟩=some (.string { data:=#[] }):=hgr.cell (by simp) (by simp)
 have m3:w3.frozen? ⟨w.heap.size,0,none⟩=false:=by
  rw [World.frozen?_of_block (hgr.block w.heap.size (by simp) (by simp))];simp
 have HB3:=Lib.hid (((Below.refl w.heap.size w).alloc (Nat.le_refl _) _).grown hgr (by simp) (by simp))
 have hs3:w.heap.size+1<w3.heap.size:=hRo.lt
 clear hown hgr
 have hf:=hRo.free (n/32)
 have hc:w3.cell? ⟨w.heap.size+1,n/32,none⟩=some (.int .u32 (0:Nat)):=hRo.cell (Qp _ _ _ (by simp))
 have HRo:=Lib.hid hRo
 clear hRo
 go_wp2_with fail
 have hv:(2^(n%32)%4294967296:Int)=((2^(n%32):Nat):Int):=by
  have:(2:Nat)^(n%32)<4294967296:=Nat.lt_of_lt_of_eq (Nat.pow_lt_pow_right (a:=2) (n:=32) (by decide) (Nat.mod_lt n (by decide))) (by decide)
  generalize hx:(2:Nat)^(n%32)=x at *
  have:(2^(n%32):Int)=(x:Int):=by rw [←hx];simp
  rw [this];omega
 have hR:=HRo.out.set (n/32) (.int .u32 ((2^(n%32):Nat):Int))
 rw [Jf] at hR
 rw [hv]
 have HB4:=Lib.hid (HB3.out.setCell (p:=⟨w.heap.size+1,n/32,none⟩) (by simp) (.int .u32 ((2^(n%32):Nat):Int)))
 have l4:=Jv (a:=⟨w.heap.size+1,n/32,none⟩) (v:=.int .u32 ((2^(n%32):Nat):Int)) l3 (by simp)
 have m4:=Jr (a:=⟨w.heap.size+1,n/32,none⟩) (v:=.int .u32 ((2^(n%32):Nat):Int)) m3 (by simp)
 have hs4:w.heap.size+1<(w3.setCell ⟨w.heap.size+1,n/32,none⟩ (.int .u32 ((2^(n%32):Nat):Int))).heap.size:=by simpa using hs3
 generalize w3.setCell ⟨w.heap.size+1,n/32,none⟩ (.int .u32 ((2^(n%32):Nat):Int))=w4 at *
 clear hv hf hc HRo HB3 l3 m3 hs3
 refine (Xf (some ⟨w.heap.size+1,0,none⟩) _ (n/32+1) (n/32+1) (by simp) (pow_lt n) (by omega) w4 (CellsU.ofRow hR)).mono ?_
 rintro e w6 ⟨rfl,hB6⟩
 rw [pow_row]
 have hbox6:=Q8 hB6 (by omega) l4
 have hboxf6:w6.frozen? ⟨w.heap.size,0,none⟩=false:=by
  rw [hB6.frozen (p:=⟨w.heap.size,0,none⟩) (by simp;omega)];exact m4
 have HB6:=Lib.hid (HB4.out.trans (hB6.mono (B':=w.heap.size) (by omega)))
 clear hB6 hR
 unfold Qj
 go_wp2_with fail
 exact bodyPost_ret (v:=Qj (2^n)) (by simp [results,Tryz.results29,go_sem,Qj,hbox6]) rfl ⟨rfl,HB6.out.setCell (by simp) _⟩
end
/- The laws' own from,read. -/
section
open Go.RowKit Num
end
/- The laws' own works. -/
section
open Go.RowKit Num
end
/- The contracts of the laws' own functions. -/
section
open Go.RowKit Num
theorem gLen (a:Nat) (ha:nl a≤1099511627776):Gives 84 #[Qj a] (.int .i64 (Xd a:Nat)):=len_any a ha
theorem gPow (n:Nat) (h:n≤4096):Gives 29 #[.int .i64 (n:Nat)] (Qj (2^n)):=pow2_any n h
end
/- Uint of package nat. -/
section
open Go.RowKit Num
theorem uint_or (m b k:Nat) (hm:m<2^(8*k)) (hb:b<256) (hk:k<8) :
  bits BinOp.or IntKind.u64 (m:Int) (IntKind.u64.wrap ((b:Int)*2^(8*k)))=((m+2^(8*k)*b:Nat):Int):=by
 have hp:(2:Nat)^(8*k)≤2^56:=Nat.pow_le_pow_right (by omega) (by omega)
 have hbp:2^(8*k)*b≤2^56*255:=Nat.mul_le_mul hp (by omega)
 have e1:(b:Int)*2^(8*k)=((2^(8*k)*b:Nat):Int):=by
  rw [Int.natCast_mul,Int.natCast_pow,Int.mul_comm];rfl
 rw [e1]
 have e3:m ||| 2^(8*k)*b=m+2^(8*k)*b:=by
  rw [Nat.or_comm,Nat.add_comm]
  exact (Nat.two_pow_add_eq_or_of_lt hm b).symm
 generalize 2^(8*k)*b=q at *
 have e2:IntKind.u64.wrap (q:Int)=(q:Int):=by
  simp only [IntKind.wrap_u64]
  omega
 rw [e2,Go.u64_or_nat m q (by omega) (by omega),e3]
set_option maxHeartbeats 1000000 in
set_option maxRecDepth 100000 in
theorem uint_fits (n:Nat) (h8:nl n≤8) (w:World) :
  Calls Tryz.prog 13 #[Qj n] w fun e w'=>e = .returned (.tuple #[.int .u64 (n:Nat),.bool true])∧Below w.heap.size w w':=by
 have hs:=Up n
 unfold Qj
 have HG:=Lib.hid (fun k h=>Q59 n k h)
 have HL:=Lib.hid (Ja (B:=256) (by omega) n)
 have HLN:Hid ((Qa 256 n).length=(nb n).size):=(show _=nl n from rfl).trans hs.symm
 have HV:=Lib.hid (Qw (B:=256) (by omega) n)
 have h8:(nb n).size≤8:=by omega
 clear hs
 generalize nb n=s at *
 generalize Qa 256 n=l at *
 go_enter Tryz.func13,Tryz.ntmps13
 go_wp2_with fail
 go_loop [4,13] (fun nv iv=>∃ k m:Nat,k≤s.size∧iv = .int .i64 (k:Nat)∧nv = .int .u64 (m:Nat)∧Hid (m=Qc 256 (l.take k)))
  (fun _ iv=>s.size-(intOf iv).toNat)
 case atStart=>exact ⟨0,0,by omega,rfl,rfl,by simp [Hid,Qc]⟩
 case round =>
  obtain ⟨k,m,hk,rfl,rfl,HM⟩:=hrel
  by_cases hlt:k<s.size
  ·have hg:=HG.out k hlt
   have hb:=HL.out.getD (by omega) k
   have hb2:s[k].toNat<256:=by omega
   have HGK:=Lib.hid hg
   clear hg hb
   have hm:m<2^(8*k):=by
    rw [HM.out]
    have:=Kn (B:=256) (by omega) (HL.out.take k)
    rw [List.length_take,HLN.out,Nat.min_eq_left hk] at this
    exact Nat.lt_of_lt_of_eq this (Nat.pow_mul 2 8 k).symm
   have HO:=Lib.hid (uint_or m s[k].toNat k hm hb2 (by omega))
   have HS:Hid (m+2^(8*k)*s[k].toNat=Qc 256 (l.take (k+1))):=by
    unfold Hid
    rw [Ye l k (by rw [HLN.out];exact hlt),←HM.out,HGK.out]
    have:(2:Nat)^(8*k)=256^k:=Nat.pow_mul 2 8 k
    rw [this]
   clear hm
   go_wp2_with fail
   go_round
   case rel=>exact ⟨k+1,m+2^(8*k)*s[k].toNat,by omega,by go_num,by rw [HO.out],HS.out⟩
   case measure=>simp [intOf];omega
  ·obtain rfl:k=s.size:=by omega
   have HE:Hid (m=n):=by
    have:=HM.out
    rw [List.take_of_length_le (by rw [HLN.out];exact Nat.le_refl _),HV.out] at this
    exact this
   go_wp2_with fail
   go_ret2
   refine ⟨?_,(Below.refl _ _).alloc (Nat.le_refl _) _⟩
   rw [←HE.out];rfl
end
end Go.Proofs.YtcpehljpegfckaaGreatDoor
