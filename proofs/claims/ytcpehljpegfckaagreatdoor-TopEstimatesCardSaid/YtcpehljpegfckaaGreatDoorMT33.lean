/- Texts of this claim,joined: CW7,CW8. -/
import Derived.Test.YtcpehljpegfckaaGreatDoorMT11
import Derived.Test.YtcpehljpegfckaaGreatDoorMT32
import Derived.Deep.DeepCutAuto
/- What the variables that nothing looks at contribute. -/
namespace Go.Proofs.YtcpehljpegfckaaGreatDoor
section
open Go.RowKit Num
def Q2p (x y:Nat):Value:=.agg #[.string (nb x),.string (nb y)]
theorem Tryz.sizeCnt:(Tryz.prog.info? 127).map (·.size)=some 2:=by kernel_rfl
def Q13 (o p:Nat→Bool):Nat × Nat:=if eqO (fun v=>o v&&p v) Yr then (2^Hy o,0) else (2^(Hy o-1),2^(Hy o-1))
theorem cnt4_pos {o p:Nat→Bool} (h:∀ v,5≤v→o v=false) (he:eqO (fun v=>o v&&p v) Yr=false):1≤Hy o:=by
 apply Nat.one_le_iff_ne_zero.2
 intro h0
 have:eqO (fun v=>o v&&p v) Yr=true:=Uq.2 fun v h1 h2=>by
  show (o v&&p v)=false
  have hv:o v=false:=by
   by_cases h5:5≤v
   ·exact h v h5
   ·unfold Hy at h0
    cases hv:o v with
    | false=>rfl
    | true =>
     exfalso
     have:v=1∨v=2∨v=3∨v=4:=by omega
     rcases this with rfl | rfl | rfl | rfl<;>simp [hv] at h0
  rw [hv];rfl
 rw [this] at he;cases he
set_option maxHeartbeats 1600000 in
set_option maxRecDepth 100000 in
theorem gFreeH (o p:Nat→Bool) (h:∀ v,5≤v→o v=false):Gives 96 #[Qt o,Qt p] (Q2p (Q13 o p).1 (Q13 o p).2):=by
 intro w
 obtain ⟨Post,hPost⟩:∃ P:Ending→World→Prop,P=fun e w'=>e = .returned (Q2p (Q13 o p).1 (Q13 o p).2)∧Below w.heap.size w w':=⟨_,rfl⟩
 rw [←hPost]
 have HP:=Lib.hid (show ∀ (q:Nat × Nat) (w':World),Q13 o p=q→Below w.heap.size w w'→Post (.returned (Q2p q.1 q.2)) w' from fun q w' h1 h2=>by rw [hPost,h1];exact ⟨rfl,h2⟩)
 have KL:=gLen4 o h
 have KC:=gCut o p
 have hes:=fun w=>Q26 (fun v=>o v&&p v) w
 have HF:=Lib.hid (show Q13 o p=if eqO (fun v=>o v&&p v) Yr then (2^Hy o,0) else (2^(Hy o-1),2^(Hy o-1)) from rfl)
 have HK:=Lib.hid (fun he=>cnt4_pos (o:=o) (p:=p) h he)
 have hk4:Hy o≤4:=by unfold Hy;cases o 1<;>cases o 2<;>cases o 3<;>cases o 4<;>decide
 generalize eqO (fun v=>o v&&p v) Yr=b at *
 generalize Hy o=k at *
 unfold Qt Jz at *
 generalize (loW fun v=>o v&&p v)=q0 at *
 generalize (hiW fun v=>o v&&p v)=q1 at *
 generalize loW o=a0 at *
 generalize hiW o=a1 at *
 generalize loW p=b0 at *
 generalize hiW p=b1 at *
 clear hPost h
 go_enter Tryz.func96,Tryz.ntmps96
 go_upto_region 1 with fail
 refine Qg ?_
 intro w1 hw1
 have HA:=Lib.hid (show w1.heap[w.heap.size]?=some (.cells #[.int .u64 (a0:Nat),.int .u64 (a1:Nat)] 55 (0,0)) by rw [hw1];exact (Yg w _ _ _).1)
 have HB:=Lib.hid (show w1.heap[w.heap.size+1]?=some (.cells #[.int .u64 (b0:Nat),.int .u64 (b1:Nat)] 55 (0,0)) by rw [hw1];exact (Yg w _ _ _).2.1)
 have HC:=Lib.hid (show w1.heap[w.heap.size+1+1]?=some (.cells #[.string ⟨#[]⟩,.string ⟨#[]⟩] 127 (0,0)) by rw [hw1];exact (Yg w _ _ _).2.2)
 have HL:=Lib.hid (show Below w.heap.size w w1 by rw [hw1];exact Yq w _ _ _)
 clear hw1
 have x0:=Q5 HA.out 0 rfl
 have x1:=Q5 HA.out 1 rfl
 go_wp2_with fail
 refine (KL w1).mono ?_
 rintro e w2 ⟨rfl,hb2⟩
 have HA2:=Lib.hid ((Q4 hb2).keep HA.out (by simp))
 have HB2:=Lib.hid ((Q4 hb2).keep HB.out (by simp))
 have HC2:=Lib.hid ((Q4 hb2).keep HC.out (by simp))
 have HL2:=Lib.hid (HL.out.trans (hb2.mono HL.out.size))
 clear hb2 KL HA HB HC HL x0 x1
 have x0:=Q5 HA2.out 0 rfl
 have x1:=Q5 HA2.out 1 rfl
 have y0:=Q5 HB2.out 0 rfl
 have y1:=Q5 HB2.out 1 rfl
 go_wp2_with fail
 refine (KC w2).mono ?_
 rintro e w3 ⟨rfl,hb3⟩
 have HC3:=Lib.hid ((Q4 hb3).keep HC2.out (by simp))
 have HL3:=Lib.hid (HL2.out.trans (hb3.mono HL2.out.size))
 clear hb3 KC HA2 HB2 HC2 HL2 x0 x1 y0 y1
 cases b with
 | true =>
  have KP:=gPow k (by omega)
  have HF2:=Lib.hid (HF.out.trans (if_pos rfl))
  unfold Qj at KP
  have h0:nb 0=⟨#[]⟩:=by decide
  go_wp2_with fail
  refine (KP w3).mono ?_
  rintro e w4 ⟨rfl,hb4⟩
  have HC4:=Lib.hid ((Q4 hb4).keep HC3.out (by simp))
  have HL4:=Lib.hid (HL3.out.trans (hb4.mono HL3.out.size))
  clear hb4 KP HC3 HL3
  have z0:=Q5 HC4.out 0 rfl
  have z1:=Q5 HC4.out 1 rfl
  have f0:=Qd HC4.out 0
  have f1:=Qd HC4.out 1
  go_wp2_with fail
  refine bodyPost_ret (Qs (p:=4) rfl _ _ (w.heap.size+1+1) _ _ (0,0) _ rfl (Zg HC4.out) Tryz.underlying127 rfl Tryz.sizeCnt) rfl ?_
  have:=HP.out _ _ HF2.out (HL4.out.trans (Kt (g:=w.heap.size+1+1) (x:=.string (nb (2^k))) (y:=.string ⟨#[]⟩) (by omega)))
  unfold Q2p at this
  rw [h0] at this
  exact this
 | false =>
  obtain ⟨j,rfl⟩:∃ j,k=j+1:=⟨k-1,by have:=HK.out rfl;omega⟩
  have KP:=gPow j (by omega)
  have HF2:=Lib.hid (HF.out.trans (if_neg (by simp)))
  have e1:(((j+1:Nat):Int)-1)=(j:Int):=by omega
  have e2:((j:Int)+1-1)=(j:Int):=by omega
  unfold Qj at KP
  go_wp2_with fail
  refine (KP w3).mono ?_
  rintro e w4 ⟨rfl,hb4⟩
  have HC4:=Lib.hid ((Q4 hb4).keep HC3.out (by simp))
  have HL4:=Lib.hid (HL3.out.trans (hb4.mono HL3.out.size))
  clear hb4 HC3 HL3
  go_wp2_with fail
  refine (KP w4).mono ?_
  rintro e w5 ⟨rfl,hb5⟩
  have HC5:=Lib.hid ((Q4 hb5).keep HC4.out (by simp))
  have HL5:=Lib.hid (HL4.out.trans (hb5.mono HL4.out.size))
  clear hb5 KP HC4 HL4
  have z0:=Q5 HC5.out 0 rfl
  have z1:=Q5 HC5.out 1 rfl
  have f0:=Qd HC5.out 0
  have f1:=Qd HC5.out 1
  go_wp2_with fail
  refine bodyPost_ret (Qs (p:=4) rfl _ _ (w.heap.size+1+1) _ _ (0,0) _ rfl (Zg HC5.out) Tryz.underlying127 rfl Tryz.sizeCnt) rfl ?_
  have:=HP.out _ _ HF2.out (HL5.out.trans (Kt (g:=w.heap.size+1+1) (x:=.string (nb (2^j))) (y:=.string (nb (2^j))) (by omega)))
  rw [Nat.add_sub_cancel] at this
  exact this
end
/- Pairs of numbers multiplied. -/
section
open Go.RowKit Num
set_option maxHeartbeats 3200000 in
set_option maxRecDepth 100000 in
theorem w_both (a0 a1 b0 b1 p q r s u v:ByteArray) (K1:Gives 28 #[.agg #[.string a0],.agg #[.string b0]] (.agg #[.string p])) (K2:Gives 28 #[.agg #[.string a1],.agg #[.string b1]] (.agg #[.string q]))
  (K3:Gives 54 #[.agg #[.string p],.agg #[.string q]] (.agg #[.string u])) (K4:Gives 28 #[.agg #[.string a0],.agg #[.string b1]] (.agg #[.string r])) (K5:Gives 28 #[.agg #[.string a1],.agg #[.string b0]] (.agg #[.string s]))
  (K6:Gives 54 #[.agg #[.string r],.agg #[.string s]] (.agg #[.string v])):Gives 95 #[.agg #[.string a0,.string a1],.agg #[.string b0,.string b1]] (.agg #[.string u,.string v]):=by
 intro w
 obtain ⟨Post,hPost⟩:∃ P:Ending→World→Prop,P=fun e w'=>e = .returned (.agg #[.string u,.string v])∧Below w.heap.size w w':=⟨_,rfl⟩
 rw [←hPost]
 have HP:=Lib.hid hPost
 clear hPost
 have H1:=Lib.hid K1
 have H2:=Lib.hid K2
 have H3:=Lib.hid K3
 have H4:=Lib.hid K4
 have H5:=Lib.hid K5
 have H6:=Lib.hid K6
 clear K1 K2 K3 K4 K5 K6
 go_enter Tryz.func95,Tryz.ntmps95
 go_upto_region 1 with fail
 refine Qg ?_
 intro w1 hw1
 have HA:=Lib.hid (show w1.heap[w.heap.size]?=some (.cells #[.string a0,.string a1] 127 (0,0)) by rw [hw1];exact (Yg w _ _ _).1)
 have HB:=Lib.hid (show w1.heap[w.heap.size+1]?=some (.cells #[.string b0,.string b1] 127 (0,0)) by rw [hw1];exact (Yg w _ _ _).2.1)
 have HC:=(show w1.heap[w.heap.size+1+1]?=some (.cells #[.string ⟨#[]⟩,.string ⟨#[]⟩] 127 (0,0)) by rw [hw1];exact (Yg w _ _ _).2.2)
 have HL:=Lib.hid (show Below w.heap.size w w1 by rw [hw1];exact Yq w _ _ _)
 clear hw1
 have X0:=Lib.hid (Q5 HA.out 0 rfl)
 have X1:=Lib.hid (Q5 HA.out 1 rfl)
 have Y0:=Lib.hid (Q5 HB.out 0 rfl)
 have Y1:=Lib.hid (Q5 HB.out 1 rfl)
 refine Qo [0,0,0,0,0,0,0,0,0,0,0,0,0,0,0,0,0,0,0,0,0,0,0,2] [w.heap.size+1+1] _ (Fin.put Qu _ _) (Qr (Qi _) HC) (by kernel_rfl) (by kernel_rfl) ?_
 refine Qb 23 (by kernel_rfl) (by rfl) ?_
 apply Exists.intro
 refine ⟨fun z hz=>?_,?_⟩
 ·have f0:=Q6 hz X0.out (by simp;omega)
  have f1:=Q6 hz X1.out (by simp;omega)
  have f2:=Q6 hz Y0.out (by simp)
  have f3:=Q6 hz Y1.out (by simp)
  clear hz
  simp only [List.take_succ_cons,List.take_zero]
  unfold Cx
  repeat (go_big_quiet_step (first | with_reducible exact H1.out.at _ _ | with_reducible exact H2.out.at _ _ | with_reducible exact H3.out.at _ _ | with_reducible exact H4.out.at _ _ | with_reducible exact H5.out.at _ _ | with_reducible exact H6.out.at _ _))
  exact wpQuiet_nil rfl
 simp only [List.drop_succ_cons,List.drop_zero]
 refine Qh (w.heap.size+1+1) #[.string u,.string v] #[.string ⟨#[]⟩,.string ⟨#[]⟩] 127 (by rfl) (by rfl) (by rfl) (Blocks.put_same _ _ _) rfl (.inl (by simp)) (by kernel_rfl) (by simp [Value.oneCell']) ?_
 refine Qf ?_
 intro y hy hH
 have HM:=Lib.hid (hH (w.heap.size+1+1) _ (Blocks.put_same _ _ _))
 have HB2:=Lib.hid (HL.out.trans (hy.below_of (b:=w.heap.size) (fun k hk=>by simp at hk;omega) HL.out.size))
 clear hH hy
 go_wp2_with fail
 refine bodyPost_ret (Qs (p:=4) rfl _ _ (w.heap.size+1+1) _ _ (0,0) _ rfl HM.out Tryz.underlying127 rfl Tryz.sizeCnt) rfl ?_
 rw [HP.out]
 exact ⟨rfl,HB2.out⟩
end
end Go.Proofs.YtcpehljpegfckaaGreatDoor
