/- Texts of this claim,joined: ED2,ED4,ED5. -/
import Derived.Test.YtcpehljpegfckaaGreatDoorMT49
import Derived.Test.YtcpehljpegfckaaGreatDoorMT50
import Derived.Deep.DeepCutAuto
import Derived.Test.YtcpehljpegfckaaGreatDoorMT32
/- censustop.estimates. -/
namespace Go.Proofs.YtcpehljpegfckaaGreatDoor
section
open Go.RowKit Go.Sort Num
theorem chap_ok:(∀ xs∈Wf,xs.all (fun x=>Jk x ((3:Nat):Int))=true∧xs.length≤12)∧Kz ((3:Nat):Int) Wf=0:=by
 constructor
 ·intro xs hx
  simp only [Wf,List.mem_cons,List.not_mem_nil,or_false] at hx
  rcases hx with rfl | rfl<;>exact ⟨by decide,by decide⟩
 ·decide +kernel
theorem chap_cell:Om (fun a=>thB a Wf) 3 ((List.range 1).map (Kv 3 192))*2^1=2:=by decide +kernel
theorem dec_two:dec 2=⟨#[50]⟩:=by decide +kernel
set_option maxHeartbeats 1600000 in
set_option maxRecDepth 100000 in
theorem Q2q {N:Nat} (w:World) (hP:Pow10 N w) (hZ:TzTab N w) (hN:N≤w.heap.size) :
  Calls Tryz.prog 5 #[] w fun e w'=>e = .returned (.bool true)∧Below w.heap.size w w':=by
 obtain ⟨Post,hPost⟩:∃ P:Ending→World→Prop,P=fun e w'=>e = .returned (.bool true)∧Below w.heap.size w w':=⟨_,rfl⟩
 rw [←hPost]
 have HP:=Lib.hid (show ∀ w',Below w.heap.size w w'→Post (.returned (.bool true)) w' from fun w' h=>by rw [hPost];exact ⟨rfl,h⟩)
 have HES:=Lib.hid (fun (x:World) (hb:Below w.heap.size w x) (g gb:Nat) (hA:ThAt x.heap.size x (some ⟨g,0,none⟩) Wf) (hS:x.cell? ⟨gb,0,none⟩=some (.int .u8 (192:Nat)))=>by
  have h:=Q40 3 (by omega) 1 (by omega) (by omega) (by omega) 192 (by omega) Wf (some ⟨g,0,none⟩) 2 gb 0 1 x (hP.on (hb.mono hN) (Nat.le_refl _)) (hZ.on (hb.mono hN) (Nat.le_refl _)) (Nat.le_trans hN hb.size) hA chap_ok.1 (by decide) chap_ok.2 hS
  rw [chap_cell] at h
  exact h)
 have KT:=gText 2 (by decide +kernel)
 rw [dec_two] at KT
 unfold Qj at KT HES
 clear hPost hP hZ hN
 go_enter Tryz.func5,Tryz.ntmps5
 go_wp2_with fail
 refine (gChapter w).mono ?_
 rintro e w1 ⟨g,rfl,hA1,hb1⟩
 have HA1:=Lib.hid hA1
 have HL1:=Lib.hid hb1
 clear hA1 hb1
 go_wp2_with fail
 have hb2:=Qe w1 (.cells #[.int .u8 192] 5)
 refine (HES.out _ (HL1.out.trans (hb2.mono HL1.out.size)) g w1.heap.size ((HA1.out.below hb2 (Nat.le_refl _)).mono hb2.size) (Q5 (Qn _ _) 0 rfl)).mono ?_
 rintro e w3 ⟨rfl,hb3⟩
 have HL3:=Lib.hid ((HL1.out.trans (hb2.mono HL1.out.size)).trans (hb3.mono (Nat.le_trans HL1.out.size hb2.size)))
 clear hb2 hb3 HA1 HES HL1
 go_upto_region 2 with fail
 refine Qg ?_
 intro w4 hw4
 obtain ⟨gn,hgn⟩:∃ gn,gn=w3.heap.size:=⟨_,rfl⟩
 have N4:=Lib.hid (show w4.heap[gn]?=some (.cells #[.string (nb 2)] 38 (0,0)) by rw [hw4,hgn];exact Qn _ _)
 have hb4:Below w3.heap.size w3 w4:=by rw [hw4];exact Qe _ _
 have HL4:=Lib.hid (HL3.out.trans (hb4.mono HL3.out.size))
 rw [←hgn]
 clear hw4 hb4 hgn HL3
 have n0:=Q5 N4.out 0 rfl
 go_wp2_with fail
 refine (KT w4).mono ?_
 rintro e w5 ⟨rfl,hb5⟩
 have HF:=Lib.hid (HP.out w5 (HL4.out.trans (hb5.mono HL4.out.size)))
 clear hb5 n0 N4
 go_wp2_with fail
 exact HF.out
end
/- censustop.TopEstimates: the failing ways and the main one. -/
section
open Go.RowKit Go.Sort Num
set_option maxHeartbeats 1600000 in
set_option maxRecDepth 100000 in
theorem topFail (n:Int) (L:List (List Int)) (aL:Option Addr) (cL:Nat) (two:Bool) (x y:Nat) {N:Nat} (w:World) (hP:Pow10 N w) (hZ:TzTab N w) (hN:N≤w.heap.size) (hA:ThAt w.heap.size w aL L) (hx:x<256) (hy:y<256) (hF:Xp n L=false∨4<n∨x<1∨16<x∨y<1∨16<y) :
  Calls Tryz.prog 3 #[.agg #[.int .i64 n,.slice aL L.length cL],.bool two,.int .u8 (x:Nat),.int .u8 (y:Nat)] w fun e w'=>e = .returned (.bool true)∧Below w.heap.size w w':=by
 obtain ⟨Post,hPost⟩:∃ P:Ending→World→Prop,P=fun e w'=>e = .returned (.bool true)∧Below w.heap.size w w':=⟨_,rfl⟩
 rw [←hPost]
 have HP:=Lib.hid (show ∀ w',Below w.heap.size w w'→Post (.returned (.bool true)) w' from fun w' h=>by rw [hPost];exact ⟨rfl,h⟩)
 have HLI:=Lib.hid (fun (z:World) (hb:Below w.heap.size w z)=>gLight n L aL cL z ((hA.below hb (Nat.le_refl _)).mono hb.size))
 have HES:=Lib.hid (fun (z:World) (hb:Below w.heap.size w z)=>Q2q z (hP.on (hb.mono hN) (Nat.le_refl _)) (hZ.on (hb.mono hN) (Nat.le_refl _)) (Nat.le_trans hN hb.size))
 generalize Xp n L=li at *
 generalize L.length=ml at *
 clear hPost hA hP hZ hN
 go_enter Tryz.func3,Tryz.ntmps3
 go_upto_region 1 with fail
 refine Qg ?_
 intro w1 hw1
 have S1:=Lib.hid (show w1.heap[w.heap.size]?=some (.cells #[.int .i64 n,.slice aL ml cL] 24 (0,0)) by rw [hw1];exact Qn _ _)
 have HL1:=Lib.hid (show Below w.heap.size w w1 by rw [hw1];exact Qe _ _)
 clear hw1
 have q0:=Q5 S1.out 0 rfl
 have q1:=Q5 S1.out 1 rfl
 go_wp2_with fail
 refine (HLI.out w1 HL1.out).mono ?_
 rintro e w2 ⟨rfl,hb2⟩
 have S2:=Lib.hid ((Q4 hb2).keep S1.out (by simp))
 have HL2:=Lib.hid (HL1.out.trans (hb2.mono HL1.out.size))
 clear hb2 S1 HL1 HLI q0 q1
 have q0:=Q5 S2.out 0 rfl
 have HE2:=Lib.hid (show Calls Tryz.prog 5 #[] w2 fun e w'=>e = .returned (.bool true)∧Below w.heap.size w w' from (HES.out w2 HL2.out).mono fun e w' h=>⟨h.1,HL2.out.trans (h.2.mono HL2.out.size)⟩)
 clear HES HL2
 cases li with
 | false =>
  clear hF
  go_wp2_with fail
  refine HE2.out.mono ?_
  rintro e w3 ⟨rfl,hb3⟩
  have HF:=Lib.hid (HP.out w3 hb3)
  clear hb3
  go_wp2_with fail
  exact HF.out
 | true =>
  replace hF:=hF.resolve_left (by simp)
  by_cases h4:4<n
  ·have hd:decide (4<n)=true:=decide_eq_true h4
   clear hF
   go_wp2_with fail
   refine HE2.out.mono ?_
   rintro e w3 ⟨rfl,hb3⟩
   have HF:=Lib.hid (HP.out w3 hb3)
   clear hb3
   go_wp2_with fail
   exact HF.out
  have hd4:decide (4<n)=false:=decide_eq_false h4
  replace hF:=hF.resolve_left h4
  by_cases hx1:x<1
  ·obtain rfl:x=0:=by omega
   clear hF
   go_wp2_with fail
   refine HE2.out.mono ?_
   rintro e w3 ⟨rfl,hb3⟩
   have HF:=Lib.hid (HP.out w3 hb3)
   clear hb3
   go_wp2_with fail
   exact HF.out
  replace hF:=hF.resolve_left hx1
  have a1:decide ((x:Int)<1)=false:=decide_eq_false (by omega)
  have a2:decide (x<1)=false:=decide_eq_false hx1
  have a3:decide (x=0)=false:=decide_eq_false (by omega)
  have a4:¬ x=0:=by omega
  by_cases hx2:16<x
  ·have b1:decide ((16:Int)<(x:Int))=true:=decide_eq_true (by omega)
   have b2:decide (16<x)=true:=decide_eq_true hx2
   clear hF
   go_wp2_with fail
   refine HE2.out.mono ?_
   rintro e w3 ⟨rfl,hb3⟩
   have HF:=Lib.hid (HP.out w3 hb3)
   clear hb3
   go_wp2_with fail
   exact HF.out
  replace hF:=hF.resolve_left hx2
  have b1:decide ((16:Int)<(x:Int))=false:=decide_eq_false (by omega)
  have b2:decide (16<x)=false:=decide_eq_false hx2
  by_cases hy1:y<1
  ·obtain rfl:y=0:=by omega
   clear hF
   go_wp2_with fail
   refine HE2.out.mono ?_
   rintro e w3 ⟨rfl,hb3⟩
   have HF:=Lib.hid (HP.out w3 hb3)
   clear hb3
   go_wp2_with fail
   exact HF.out
  have hy2:=hF.resolve_left hy1
  have c1:decide ((y:Int)<1)=false:=decide_eq_false (by omega)
  have c2:decide (y<1)=false:=decide_eq_false hy1
  have c3:decide (y=0)=false:=decide_eq_false (by omega)
  have c4:¬ y=0:=by omega
  have d1:decide ((16:Int)<(y:Int))=true:=decide_eq_true (by omega)
  have d2:decide (16<y)=true:=decide_eq_true hy2
  clear hF
  go_wp2_with fail
  refine HE2.out.mono ?_
  rintro e w3 ⟨rfl,hb3⟩
  have HF:=Lib.hid (HP.out w3 hb3)
  clear hb3
  go_wp2_with fail
  exact HF.out
end
/- censustop.TopEstimates: the main way. -/
section
open Go.RowKit Go.Sort Num
theorem len_le_nl {a:Nat} (h:a≤64):nl a≤8:=Ub (by omega)
theorem Q8k (n m:Nat) (L:List (List Int)) (a b s:Nat):Q2y n m L a b (s+1)=Q2y n m L a b s+(if decide (Vx n L*a≤Q37 (Q7j n m L s) (Vx n L)*b) then 1 else 0):=rfl
theorem wrong_le (n m:Nat) (L:List (List Int)) (a b s:Nat):Q2y n m L a b s≤s:=Vt _ _
set_option maxHeartbeats 3200000 in
set_option maxRecDepth 100000 in
theorem topGood (n:Nat) (h4:n≤4) (L:List (List Int)) (aL:Option Addr) (cL:Nat) (two:Bool) (x y:Nat) (hx1:1≤x) (hx:x≤16) (hy1:1≤y) (hy:y≤16) {N:Nat} (w:World) (hP:Pow10 N w) (hZ:TzTab N w) (hN:N≤w.heap.size) (hA:ThAt w.heap.size w aL L) (hli:Xp n L=true) (h0:Kz n L=0) (hL:∀ xs∈L,xs.all (fun z=>Jk z n)=true∧xs.length≤10) (hLl:L.length≤12) :
  Calls Tryz.prog 3 #[.agg #[.int .i64 n,.slice aL L.length cL],.bool two,.int .u8 (x:Nat),.int .u8 (y:Nat)] w fun e w'=>e = .returned (.bool true)∧Below w.heap.size w w':=by
 obtain ⟨Post,hPost⟩:∃ P:Ending→World→Prop,P=fun e w'=>e = .returned (.bool true)∧Below w.heap.size w w':=⟨_,rfl⟩
 rw [←hPost]
 have HP:=Lib.hid (show ∀ w',Below w.heap.size w w'→Post (.returned (.bool true)) w' from fun w' h=>by rw [hPost];exact ⟨rfl,h⟩)
 have HLI:=Lib.hid (fun (z:World) (hb:Below w.heap.size w z)=>gLight n L aL cL z ((hA.below hb (Nat.le_refl _)).mono hb.size))
 rw [hli] at HLI
 have HES:=Lib.hid (fun (z:World) (hb:Below w.heap.size w z)=>Q2q z (hP.on (hb.mono hN) (Nat.le_refl _)) (hZ.on (hb.mono hN) (Nat.le_refl _)) (Nat.le_trans hN hb.size))
 have HMO:=Lib.hid (fun (z:World) (hb:Below w.heap.size w z)=>(show Calls Tryz.prog 7 #[.agg #[.int .i64 n,.slice aL L.length cL]] z fun e w'=>∃ p c,e = .returned (.slice p (Vx n L) c)∧Below z.heap.size z w' from xModels n h4 L (fun xs h=>(hL xs h).1) h0 aL cL z ((hA.below hb (Nat.le_refl _)).mono hb.size) (by omega) (fun xs h=>by have:=(hL xs h).2;omega)))
 have HCO:=Lib.hid (fun (z:World) (hb:Below w.heap.size w z)=>gCompiled N n (by omega) L aL cL z (hP.on (hb.mono hN) (Nat.le_refl _)) (Nat.le_trans hN hb.size) ((hA.below hb (Nat.le_refl _)).mono hb.size) (fun xs h=>⟨(hL xs h).1,by have:=(hL xs h).2;omega⟩) (by omega) h0)
 have HCN:=Lib.hid (fun (z:World) (hb:Below w.heap.size w z) (ns:List Nd) (p:Option Addr) (c:Nat) (hn:NetAt z.heap.size z p ns) (hg:NetG n ns) (hpos:0<ns.length) (hr:∀ a,Yf ns (ns.length-1) a=thB a L) (hlen:ns.length≤65536)=>(show Calls Tryz.prog 9 #[.agg #[.int .i64 n,.slice p ns.length c]] z fun e w'=>e = .returned (.tuple #[Qj (Vx n L),.int .i64 0])∧Below z.heap.size z w' by
  have h:=gCount n (by omega) ns hg.ok hg.de hg.dt hpos hlen p c z hn (hZ.on (hb.mono hN) (Nat.le_refl _)) (Nat.le_trans hN hb.size) (fun _=>false)
  rw [show Yf ns (ns.length-1)=fun a=>thB a L from funext hr,top_count (Q33 hg.ok hpos hr)] at h
  exact h))
 have HLW:=Lib.hid (fun (ns:List Nd) (hg:NetG n ns) (hpos:0<ns.length) (hr:∀ a,Yf ns (ns.length-1) a=thB a L) (m:Nat) (hm:Q2i n m)=>top_law hm L (Q33 hg.ok hpos hr) x y)
 have HEE:=Lib.hid (fun (m:Nat) (hm:Q2i n m) (s:Nat) (hs:s<2^(m*(n+1))) (z:World) (hb:Below w.heap.size w z) (gb c:Nat) (hS:z.cell? ⟨gb,0,none⟩=some (.int .u8 ((s*2^(8-m*(n+1)):Nat):Int)))=>(show Calls Tryz.prog 12 #[.agg #[.int .i64 n,.slice aL L.length cL],.slice (some ⟨gb,0,none⟩) 1 c,.int .i64 (m:Int)] z fun e w'=>e = .returned (.tuple #[Qj (Q7j n m L s),.int .i64 0])∧Below z.heap.size z w' from
  Q40 n h4 m (Ox hm).2.1 (Ox hm).2.2.1 (Ox hm).2.2.2 _ (Q48 (Ox hm).2.2.2 hs) L aL cL gb 0 c z (hP.on (hb.mono hN) (Nat.le_refl _)) (hZ.on (hb.mono hN) (Nat.le_refl _)) (Nat.le_trans hN hb.size) ((hA.below hb (Nat.le_refl _)).mono hb.size) (fun xs h=>⟨(hL xs h).1,by have:=(hL xs h).2;omega⟩) (by omega) h0 hS))
 have HWS:=Lib.hid (fun m s=>Q8k n m L x y s)
 have HWL:=Lib.hid (fun m s=>wrong_le n m L x y s)
 have HE64:=Lib.hid (fun (m:Nat) (hm:m≤2) (s:Nat)=>estU_le h4 hm L s)
 have hc16:=modC_le h4 L
 obtain ⟨E,hE⟩:∃ E:Nat→Nat→Nat,E=fun m s=>Q7j n m L s:=⟨_,rfl⟩
 obtain ⟨W,hW⟩:∃ W:Nat→Nat→Nat,W=fun m s=>Q2y n m L x y s:=⟨_,rfl⟩
 have HLW2:=Lib.hid (show ∀ (ns:List Nd),NetG n ns→0<ns.length→(∀ a,Yf ns (ns.length-1) a=thB a L)→∀ (m:Nat),Q2i n m→Q3d (E m) (2^(m*(n+1)))=Vx n L*2^(m*(n+1))∧(Vx n L=0∨W m (2^(m*(n+1)))*x*x*Vx n L≤2^(m*(n+1))*(2^m-1)*y*y) by rw [hE,hW];exact HLW.out)
 have HEE2:=Lib.hid (show ∀ (m:Nat) (hm:Q2i n m) (s:Nat) (hs:s<2^(m*(n+1))) (z:World) (hb:Below w.heap.size w z) (gb c:Nat) (hS:z.cell? ⟨gb,0,none⟩=some (.int .u8 ((s*2^(8-m*(n+1)):Nat):Int))),Calls Tryz.prog 12 #[.agg #[.int .i64 n,.slice aL L.length cL],.slice (some ⟨gb,0,none⟩) 1 c,.int .i64 (m:Int)] z fun e w'=>e = .returned (.tuple #[Qj (E m s),.int .i64 0])∧Below z.heap.size z w' by rw [hE];exact HEE.out)
 have HWS2:=Lib.hid (show ∀ m s,W m (s+1)=W m s+(if decide (Vx n L*x≤Q37 (E m s) (Vx n L)*y) then 1 else 0) by rw [hE,hW];exact HWS.out)
 have HWL2:=Lib.hid (show ∀ m s,W m s≤s by rw [hW];exact HWL.out)
 have HE2:=Lib.hid (show ∀ m,m≤2→∀ s,E m s≤64 by rw [hE];exact HE64.out)
 have HW0:=Lib.hid (show ∀ m,W m 0=0 by rw [hW];exact fun _=>rfl)
 clear hE hW HLW HEE HWS HWL HE64 hli h0 hL hLl hPost
 generalize Vx n L=c at *
 generalize L.length=ml at *
 clear hA hP hZ hN
 have hd4:decide (4<n)=false:=decide_eq_false (by omega)
 have hd4':decide ((4:Int)<(n:Int))=false:=decide_eq_false (by omega)
 have a1:decide ((x:Int)<1)=false:=decide_eq_false (by omega)
 have a2:decide (x<1)=false:=decide_eq_false (by omega)
 have a3:decide (x=0)=false:=decide_eq_false (by omega)
 have a4:¬ x=0:=by omega
 have b1:decide ((16:Int)<(x:Int))=false:=decide_eq_false (by omega)
 have b2:decide (16<x)=false:=decide_eq_false (by omega)
 have c1:decide ((y:Int)<1)=false:=decide_eq_false (by omega)
 have c2:decide (y<1)=false:=decide_eq_false (by omega)
 have c3:decide (y=0)=false:=decide_eq_false (by omega)
 have c4:¬ y=0:=by omega
 have d1:decide ((16:Int)<(y:Int))=false:=decide_eq_false (by omega)
 have d2:decide (16<y)=false:=decide_eq_false (by omega)
 go_enter Tryz.func3,Tryz.ntmps3
 go_upto_region 1 with fail
 refine Qg ?_
 intro w1 hw1
 have S1:=Lib.hid (show w1.heap[w.heap.size]?=some (.cells #[.int .i64 n,.slice aL ml cL] 24 (0,0)) by rw [hw1];exact Qn _ _)
 have HL1:=Lib.hid (show Below w.heap.size w w1 by rw [hw1];exact Qe _ _)
 clear hw1
 have q0:=Q5 S1.out 0 rfl
 have q1:=Q5 S1.out 1 rfl
 go_wp2_with fail
 refine (HLI.out w1 HL1.out).mono ?_
 rintro e w2 ⟨rfl,hb2⟩
 have S2:=Lib.hid ((Q4 hb2).keep S1.out (by simp))
 have HL2:=Lib.hid (HL1.out.trans (hb2.mono HL1.out.size))
 clear hb2 S1 HL1 HLI q0 q1
 have q0:=Q5 S2.out 0 rfl
 have q1:=Q5 S2.out 1 rfl
 go_upto_region 4 with fail
 go_cut [57] from 52 to 58 (fun t57 wx=>∃ b,t57 = .bool b∧Hid (b=true→n≤3)∧w2=wx)
 case first =>
  cases two with
  | false =>
   go_wp2_with fail
   go_meet
   case rel=>exact ⟨false,rfl,(fun h=>by cases h),rfl⟩
  | true =>
   by_cases h3:n≤3
   ·have e1:decide (n≤3)=true:=decide_eq_true h3
    have e2:decide ((n:Int)≤3)=true:=decide_eq_true (by omega)
    go_wp2_with fail
    go_meet
    case rel=>exact ⟨true,rfl,fun _=>h3,rfl⟩
   ·have e1:decide (n≤3)=false:=decide_eq_false h3
    have e2:decide ((n:Int)≤3)=false:=decide_eq_false (by omega)
    go_wp2_with fail
    go_meet
    case rel=>exact ⟨false,rfl,(fun h=>by cases h),rfl⟩
 case rest =>
 obtain ⟨b,hb57,HB3,hwe⟩:=hcut
 subst hb57
 rw [←hwe]
 clear hwe
 go_upto_if 57 with fail
 go_cut [9] from 9 to 10 (fun t9 wx=>∃ m:Nat,t9 = .int .i64 m∧Hid (Q2i n m)∧w2=wx)
 case first =>
  cases b with
  | false =>
   go_wp2_with fail
   go_meet
   case rel=>exact ⟨1,rfl,.inl ⟨rfl,h4⟩,rfl⟩
  | true =>
   go_wp2_with fail
   go_meet
   case rel=>exact ⟨2,rfl,.inr ⟨rfl,HB3.out trivial⟩,rfl⟩
 case rest =>
 obtain ⟨m,h9,HM,hwe⟩:=hcut
 subst h9
 rw [←hwe]
 clear hwe HB3
 obtain ⟨_,hm0,hm2,hB8⟩:=Ox HM.out
 have KSE:=gSeeds n m (by omega) (by omega)
 have HEX:=Lib.hid (HEE2.out m HM.out)
 have HLX:=Lib.hid (fun ns h1 h2 h3=>HLW2.out ns h1 h2 h3 m HM.out)
 have HWX:=Lib.hid (HWS2.out m)
 have HVX:=Lib.hid (HWL2.out m)
 have HUX:=Lib.hid (HE2.out m hm2)
 have HZX:=Lib.hid (HW0.out m)
 have hbn:(m:Int)*((n:Int)+1)=((m*(n+1):Nat):Int):=by rw [Int.natCast_mul];rfl
 clear HEE2 HLW2 HWS2 HWL2 HE2 HW0
 generalize E m=U at *
 generalize W m=V at *
 generalize m*(n+1)=B at *
 have HSB:=Lib.hid (fun s (hs:s<2^B)=>Q48 hB8 hs)
 obtain ⟨r,hr⟩:∃ r,r=8-B:=⟨_,rfl⟩
 rw [←hr] at HEX HSB
 have hr2:(8:Int)-(B:Int)=(r:Int):=by omega
 have hr8:r≤8:=by omega
 clear hr
 have hwP:=wrapP hB8
 have HWPU:=Lib.hid (Q47 hB8)
 have HWM:=Lib.hid (Q47 (show m≤8 by omega))
 have hP256:2^B≤256:=Nat.le_trans (Nat.pow_le_pow_right (by omega) hB8) (Nat.le_refl 256)
 have hM4:2^m≤4:=Nat.le_trans (Nat.pow_le_pow_right (by omega) hm2) (Nat.le_refl 4)
 have hM1:1≤2^m:=Nat.pow_pos (by omega)
 generalize 2^B=P at *
 generalize 2^m=M at *
 go_wp2_with fail
 refine (KSE w2).mono ?_
 rintro e w3 ⟨rfl,hb3⟩
 have S3:=Lib.hid ((Q4 hb3).keep S2.out (by simp))
 have HL3:=Lib.hid (HL2.out.trans (hb3.mono HL2.out.size))
 clear hb3 S2 HL2 KSE q0 q1
 have q0:=Q5 S3.out 0 rfl
 have q1:=Q5 S3.out 1 rfl
 go_wp2_with fail
 refine (HMO.out w3 HL3.out).mono ?_
 rintro e w4 ⟨pm,cm,rfl,hb4⟩
 have S4:=Lib.hid ((Q4 hb4).keep S3.out (by simp))
 have HL4:=Lib.hid (HL3.out.trans (hb4.mono HL3.out.size))
 clear hb4 S3 HL3 HMO q0 q1
 have q0:=Q5 S4.out 0 rfl
 have q1:=Q5 S4.out 1 rfl
 have hcw:IntKind.u64.wrap (c:Int)=(c:Int):=Km (by omega)
 go_wp2_with fail
 refine (HCO.out w4 HL4.out).mono ?_
 rintro e w5 ⟨p,cp,uN,ns,rfl,hn5,hg,hpos,hroot,hlen,hb5⟩
 have S5:=Lib.hid ((Q4 hb5).keep S4.out (by simp))
 have HL5:=Lib.hid (HL4.out.trans (hb5.mono HL4.out.size))
 have HLAW:=Lib.hid (HLX.out ns hg hpos hroot)
 have HCC:=Lib.hid (fun (z:World) (hb:Below w.heap.size w z) (hn:NetAt z.heap.size z p ns)=>HCN.out z hb ns p cp hn hg hpos hroot hlen)
 unfold Qj at HCC
 have HN5:=Lib.hid hn5
 obtain ⟨k,hk⟩:∃ k,k=ns.length:=⟨_,rfl⟩
 rw [←hk] at HCC ⊢
 clear hb5 S4 HL4 HCO HLX HCN hn5 hg hpos hroot hlen hk q0 q1
 go_upto_region 11 with fail
 refine Qg ?_
 intro w6 hw6
 obtain ⟨gn,hgn⟩:∃ gn,gn=w5.heap.size:=⟨_,rfl⟩
 have N6:=Lib.hid (show w6.heap[gn]?=some (.cells #[.int .i64 n,.slice p k cp] 33 (0,0)) by rw [hw6,hgn];exact Qn _ _)
 have hb6:Below w5.heap.size w5 w6:=by rw [hw6];exact Qe _ _
 have S6:=Lib.hid ((Q4 hb6).keep S5.out (by simp))
 have HL6:=Lib.hid (HL5.out.trans (hb6.mono HL5.out.size))
 have HN6:=Lib.hid ((HN5.out.below hb6 (Nat.le_refl _)).mono hb6.size)
 rw [←hgn]
 clear hw6 hb6 hgn S5 HL5 HN5
 have n0:=Q5 N6.out 0 rfl
 have n1:=Q5 N6.out 1 rfl
 go_wp2_with fail
 refine (HCC.out w6 HL6.out HN6.out).mono ?_
 rintro e w7 ⟨rfl,hb7⟩
 have S7:=Lib.hid ((Q4 hb7).keep S6.out (by simp))
 have HL7:=Lib.hid (HL6.out.trans (hb7.mono HL6.out.size))
 clear hb7 S6 HL6 HN6 N6 HCC n0 n1
 go_upto_region 12 with fail
 refine Qg ?_
 intro w8 hw8
 obtain ⟨gk,hgk⟩:∃ gk,gk=w7.heap.size:=⟨_,rfl⟩
 have K8:=Lib.hid (show w8.heap[gk]?=some (.cells #[.string (nb c)] 38 (0,0)) by rw [hw8,hgk];exact Qn _ _)
 have hb8:Below w7.heap.size w7 w8:=by rw [hw8];exact Qe _ _
 have S8:=Lib.hid ((Q4 hb8).keep S7.out (by simp))
 have HL8:=Lib.hid (HL7.out.trans (hb8.mono HL7.out.size))
 rw [←hgk]
 clear hw8 hb8 hgk S7 HL7
 have K0:=Lib.hid (Q5 K8.out 0 rfl)
 have KO:=gOf c (by omega)
 have KC:=gCmp c c (Nat.le_trans (Ub (by omega)) (by omega)) (Nat.le_trans (Ub (by omega)) (by omega))
 rw [show H9 c c=0 by unfold H9;rw [if_neg (Nat.lt_irrefl _),if_pos rfl]] at KC
 unfold Qj at KO KC
 have HKO:=Lib.hid KO
 have HKC:=Lib.hid KC
 clear KO KC
 refine Qo (List.replicate 13 0) [] B0 Qu (Qi _) (by kernel_rfl) (by kernel_rfl) ?_
 refine Qb 13 (by kernel_rfl) (by rfl) ?_
 apply Exists.intro
 refine ⟨fun z hz=>?_,?_⟩
 ·have f0:=Q6 hz K0.out (by simp)
  clear hz
  simp only [List.take_succ_cons,List.take_zero]
  unfold Cx
  repeat (go_big_quiet_step (first | with_reducible exact HKO.out.at _ _ | with_reducible exact HKC.out.at _ _))
  exact wpQuiet_nil rfl
 simp only [List.drop_succ_cons,List.drop_zero]
 refine Qf ?_
 intro w9 hx9 _
 have S9:=Lib.hid (hx9.keep S8.out (by simp))
 have HL9:=Lib.hid (HL8.out.trans (hx9.below.mono HL8.out.size))
 clear hx9 S8 HL8 K0 K8 HKO HKC
 go_wp2_with fail
 obtain ⟨SU,hSU⟩:∃ SU:Nat→Nat,SU=Q3d U:=⟨_,rfl⟩
 have HSL:=Lib.hid (show ∀ s,SU s≤s*64 by rw [hSU];exact sumU_le HUX.out)
 have HSS:=Lib.hid (show ∀ s,SU (s+1)=SU s+U s by rw [hSU];exact fun _=>rfl)
 have HS0:=Lib.hid (show SU 0=0 by rw [hSU];rfl)
 rw [←hSU] at HLAW
 clear hSU
 go_loopw [17,18,19] (fun t17 t18 t19 wr=>∃ s:Nat,s≤P∧t17 = .int .u64 (SU s:Nat)∧t18 = .int .u64 (V s:Nat)∧t19 = .int .i64 s∧Hid (Below w9.heap.size w9 wr)) (fun _ _ t19 _=>P-(intOf t19).toNat)
 case atStart=>exact ⟨0,Nat.zero_le _,by rw [HS0.out];rfl,by rw [HZX.out];rfl,rfl,Below.refl _ _⟩
 case round =>
  obtain ⟨s,hsP,rfl,rfl,rfl,HB⟩:=hrel
  obtain ⟨w10,hw10⟩:∃ w10,w10=wr:=⟨_,rfl⟩
  rw [←hw10] at HB ⊢
  clear hw10
  have S10:=Lib.hid ((Q4 HB.out).keep S9.out (by simp))
  have HLT:=Lib.hid (HL9.out.trans (HB.out.mono HL9.out.size))
  have q0:=Q5 S10.out 0 rfl
  have q1:=Q5 S10.out 1 rfl
  have hS1:=HSL.out s
  have hV1:=HVX.out s
  by_cases hlt:s<P
  ·have hd:decide (s<P)=true:=decide_eq_true hlt
   have hd2:decide ((s:Int)<(P:Int))=true:=decide_eq_true (by omega)
   have HE:=Lib.hid (HEX.out s hlt)
   have hz8:=HSB.out s hlt
   have hzz:(s:Int)*(2:Int)^r=((s*2^r:Nat):Int):=by rw [Int.natCast_mul,Int.natCast_pow];rfl
   have hu64:=HUX.out s
   have HSN:=Lib.hid (HSS.out s)
   have HVN:=Lib.hid (HWX.out s)
   generalize s*2^r=z at *
   generalize U s=u at *
   unfold Qj at HE
   go_wp2_with fail
   have hb11:=Qe w10 (.cells #[.int .u8 (z:Nat)] 5)
   refine (HE.out _ (HLT.out.trans (hb11.mono HLT.out.size)) w10.heap.size 1 (Q5 (Qn _ _) 0 rfl)).mono ?_
   rintro e w12 ⟨rfl,hb12⟩
   have HB12:=Lib.hid ((HB.out.trans (hb11.mono HB.out.size)).trans (hb12.mono (Nat.le_trans HB.out.size hb11.size)))
   clear hb11 hb12 S10 HB HE q0 q1 hzz HLT
   go_upto_region 19 with fail
   refine Qg ?_
   intro w13 hw13
   obtain ⟨gx,hgx⟩:∃ gx,gx=w12.heap.size:=⟨_,rfl⟩
   have X13:=Lib.hid (show w13.heap[gx]?=some (.cells #[.string (nb u)] 38 (0,0)) by rw [hw13,hgx];exact Qn _ _)
   have HB13:=Lib.hid (show Below w9.heap.size w9 w13 by rw [hw13];exact HB12.out.trans ((Qe w12 _).mono HB12.out.size))
   rw [←hgx]
   clear hw13 hgx HB12
   have x0:=Q5 X13.out 0 rfl
   have KU:=uint_fits u (len_le_nl hu64) w13
   unfold Qj at KU
   go_wp2_with fail
   refine KU.mono ?_
   rintro e w14 ⟨rfl,hb14⟩
   have HB14:=Lib.hid (HB13.out.trans (hb14.mono HB13.out.size))
   clear hb14 KU X13 HB13 x0
   have hfar64:Q37 u c≤64:=by unfold Q37;split<;>omega
   have hmx:max (u:Int) (c:Int)-min (u:Int) (c:Int)=(Q37 u c:Nat):=by unfold Q37;split<;>omega
   have hmx2:(if (c:Int) > (u:Int) then (c:Int) else (u:Int))-(if (c:Int)<(u:Int) then (c:Int) else (u:Int))=(Q37 u c:Nat):=by unfold Q37;split<;>split<;>split<;>omega
   have hsu:IntKind.u64.wrap ((SU s:Nat)+(u:Nat):Int)=((SU (s+1):Nat):Int):=by rw [HSN.out,←Int.natCast_add];exact Km (by omega)
   obtain ⟨S2,hS2⟩:∃ S2,S2=SU (s+1):=⟨_,rfl⟩
   rw [←hS2] at hsu
   have HS2:=Lib.hid hS2
   clear hS2 HSN
   generalize SU s=S0 at *
   generalize Q37 u c=far at *
   have hfy1:far*y≤64*16:=Nat.mul_le_mul hfar64 hy
   have hcx1:c*x≤16*16:=Nat.mul_le_mul hc16 hx
   have hfr:IntKind.u64.wrap (far:Int)=(far:Int):=Km (by omega)
   have hfy:IntKind.u64.wrap ((far:Int)*(y:Int))=((far*y:Nat):Int):=by rw [←Int.natCast_mul];exact Km (by omega)
   have hcx:IntKind.u64.wrap ((c:Int)*(x:Int))=((c*x:Nat):Int):=by rw [←Int.natCast_mul];exact Km (by omega)
   have hxw:IntKind.u64.wrap (x:Int)=(x:Int):=Km (by omega)
   have hyw:IntKind.u64.wrap (y:Int)=(y:Int):=Km (by omega)
   generalize far*y=fy at *
   generalize c*x=cx at *
   by_cases hbb:cx≤fy
   ·have g1:decide (cx≤fy)=true:=decide_eq_true hbb
    have g2:decide ((cx:Int)≤(fy:Int))=true:=decide_eq_true (by omega)
    rw [g1,if_pos rfl] at HVN
    have hvw:IntKind.u64.wrap ((V s:Nat)+1:Int)=((V (s+1):Nat):Int):=by rw [HVN.out,Int.natCast_add];exact Km (x:=V s+1) (by omega)
    obtain ⟨V2,hV2⟩:∃ V2,V2=V (s+1):=⟨_,rfl⟩
    rw [←hV2] at hvw
    have HV2:=Lib.hid hV2
    clear hV2 HVN
    generalize V s=V0 at *
    go_wp2_with fail
    go_roundw
    case rel=>exact ⟨s+1,by omega,by rw [←HS2.out],by rw [←HV2.out],by go_num,HB14.out⟩
    case measure=>simp [intOf];omega
   ·have g1:decide (cx≤fy)=false:=decide_eq_false hbb
    have g2:decide ((cx:Int)≤(fy:Int))=false:=decide_eq_false (by omega)
    rw [g1,if_neg (by simp)] at HVN
    have HV2:=Lib.hid (show V (s+1)=V s from HVN.out)
    go_wp2_with fail
    go_roundw
    case rel=>exact ⟨s+1,by omega,by rw [←HS2.out],by rw [HV2.out],by go_num,HB14.out⟩
    case measure=>simp [intOf];omega
  ·obtain rfl:s=P:=by omega
   have hd:decide (s<s)=false:=decide_eq_false (by omega)
   have hd2:decide ((s:Int)<(s:Int))=false:=decide_eq_false (by omega)
   have HF:=Lib.hid ((HES.out w10 HLT.out).mono fun e w' h=>(show e = .returned (.bool true)∧Below w.heap.size w w' from ⟨h.1,HLT.out.trans (h.2.mono HLT.out.size)⟩))
   have hlaw:=HLAW.out
   have HWPU2:=HWPU.out
   have HWM2:=HWM.out
   have hcs:IntKind.u64.wrap ((c:Int)*(s:Int))=((SU s:Nat):Int):=by
    rw [hlaw.1,←Int.natCast_mul]
    have:=Nat.mul_le_mul hc16 hP256
    exact Km (by omega)
   have hsh:=hlaw.2
   clear hlaw HB S10
   generalize SU s=S0 at *
   generalize V s=V0 at *
   by_cases hc0:c=0
   ·have e1:((c:Int) == 0)=true:=by rw [hc0];rfl
    have e2:(c == 0)=true:=by rw [hc0];rfl
    clear hc0 hsh
    go_wp2_with fail
    refine HF.out.mono ?_
    rintro e w11 ⟨rfl,hb⟩
    have HG:=Lib.hid (HP.out w11 hb)
    clear hb
    go_wp2_with fail
    exact HG.out
   ·replace hsh:=hsh.resolve_left hc0
    have e1:((c:Int) == 0)=false:=J7 (by omega)
    have e2:(c == 0)=false:=by simpa using hc0
    clear hc0
    have hxw:IntKind.u64.wrap (x:Int)=(x:Int):=Km (by omega)
    have hyw:IntKind.u64.wrap (y:Int)=(y:Int):=Km (by omega)
    have k1:V0*x≤256*16:=Nat.mul_le_mul (by omega) hx
    have v1:IntKind.u64.wrap ((V0:Int)*(x:Int))=((V0*x:Nat):Int):=by rw [←Int.natCast_mul];exact Km (by omega)
    generalize V0*x=q1 at *
    have k2:q1*x≤4096*16:=Nat.mul_le_mul (by omega) hx
    have v2:IntKind.u64.wrap ((q1:Int)*(x:Int))=((q1*x:Nat):Int):=by rw [←Int.natCast_mul];exact Km (by omega)
    generalize q1*x=q2 at *
    have k3:q2*c≤65536*16:=Nat.mul_le_mul (by omega) hc16
    have v3:IntKind.u64.wrap ((q2:Int)*(c:Int))=((q2*c:Nat):Int):=by rw [←Int.natCast_mul];exact Km (by omega)
    generalize q2*c=q3 at *
    have m1:IntKind.u64.wrap ((M:Int)-1)=((M-1:Nat):Int):=by rw [show (M:Int)-1=((M-1:Nat):Int) by omega];exact Km (by omega)
    have hm3:M-1≤3:=by omega
    generalize M-1=M1 at *
    have k4:s*M1≤256*3:=Nat.mul_le_mul (by omega) hm3
    have p1:IntKind.u64.wrap ((s:Int)*(M1:Int))=((s*M1:Nat):Int):=by rw [←Int.natCast_mul];exact Km (by omega)
    generalize s*M1=r1 at *
    have k5:r1*y≤768*16:=Nat.mul_le_mul (by omega) hy
    have p2:IntKind.u64.wrap ((r1:Int)*(y:Int))=((r1*y:Nat):Int):=by rw [←Int.natCast_mul];exact Km (by omega)
    generalize r1*y=r2 at *
    have k6:r2*y≤12288*16:=Nat.mul_le_mul (by omega) hy
    have p3:IntKind.u64.wrap ((r2:Int)*(y:Int))=((r2*y:Nat):Int):=by rw [←Int.natCast_mul];exact Km (by omega)
    generalize r2*y=r3 at *
    have g1:decide (q3≤r3)=true:=decide_eq_true hsh
    have g2:decide ((q3:Int)≤(r3:Int))=true:=decide_eq_true (by omega)
    go_wp2_with fail
    refine HF.out.mono ?_
    rintro e w11 ⟨rfl,hb⟩
    have HG:=Lib.hid (HP.out w11 hb)
    clear hb
    go_wp2_with fail
    exact HG.out
theorem topEst (n:Int) (L:List (List Int)) (aL:Option Addr) (cL:Nat) (two:Bool) (x y:Nat) (hx:x<256) (hy:y<256) {N:Nat} (w:World) (hP:Pow10 N w) (hZ:TzTab N w) (hN:N≤w.heap.size) (hA:ThAt w.heap.size w aL L) :
  Calls Tryz.prog 3 #[.agg #[.int .i64 n,.slice aL L.length cL],.bool two,.int .u8 (x:Nat),.int .u8 (y:Nat)] w fun e w'=>e = .returned (.bool true)∧Below w.heap.size w w':=by
 by_cases hF:Xp n L=false∨4<n∨x<1∨16<x∨y<1∨16<y
 ·exact topFail n L aL cL two x y w hP hZ hN hA hx hy hF
 ·have h1:Xp n L=true:=by
   cases h:Xp n L
   ·exact absurd (.inl h) hF
   ·rfl
  obtain ⟨k,rfl,h4,h0,hL,hl⟩:=light_ok h1 (by omega)
  exact topGood k h4 L aL cL two x y (by omega) (by omega) (by omega) (by omega) w hP hZ hN hA h1 h0 hL hl
end
end Go.Proofs.YtcpehljpegfckaaGreatDoor
