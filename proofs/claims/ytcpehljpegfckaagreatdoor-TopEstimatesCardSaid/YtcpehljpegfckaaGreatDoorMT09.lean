/- Texts of this claim,joined: KA,KC,KE,KH. -/
import Derived.Test.YtcpehljpegfckaaGreatDoorMT07
import Derived.Test.YtcpehljpegfckaaGreatDoorMT08
import Derived.Laws.BitsAllLaws
/- Literals and sets. -/
namespace Go.Proofs.YtcpehljpegfckaaGreatDoor
section
open Go.RowKit
def Y8 (l:Int):Int:=if 1≤l∧l≤128 then l else if l≤-1∧-128≤l then -l else 0
set_option maxHeartbeats 1600000 in
set_option maxRecDepth 100000 in
theorem gVar (l:Int):Gives 85 #[.int .i64 l] (.int .i64 (Y8 l)):=by
 intro w
 by_cases h1:1≤l
 ·by_cases h2:l≤128
  ·have HQ:=Lib.hid (show Y8 l=l from if_pos ⟨h1,h2⟩)
   go_enter Tryz.func85,Tryz.ntmps85
   go_wp2_with fail
   go_ret
   exact ⟨by rw [HQ.out];rfl,Below.refl _ _⟩
  ·have HQ:=Lib.hid (show Y8 l=0 by unfold Y8;rw [if_neg (by omega),if_neg (by omega)])
   have h3:¬ l≤-1:=by omega
   go_enter Tryz.func85,Tryz.ntmps85
   go_wp2_with fail
   go_ret
   exact ⟨by rw [HQ.out];rfl,Below.refl _ _⟩
 ·by_cases h2:l≤-1
  ·by_cases h3:-128≤l
   ·have HQ:=Lib.hid (show Y8 l = -l by unfold Y8;rw [if_neg (by omega),if_pos ⟨h2,h3⟩])
    go_enter Tryz.func85,Tryz.ntmps85
    go_wp2_with fail
    go_ret
    exact ⟨by rw [HQ.out];rfl,Below.refl _ _⟩
   ·have HQ:=Lib.hid (show Y8 l=0 by unfold Y8;rw [if_neg (by omega),if_neg (by omega)])
    go_enter Tryz.func85,Tryz.ntmps85
    go_wp2_with fail
    go_ret
    exact ⟨by rw [HQ.out];rfl,Below.refl _ _⟩
  ·have HQ:=Lib.hid (show Y8 l=0 by unfold Y8;rw [if_neg (by omega),if_neg (by omega)])
   go_enter Tryz.func85,Tryz.ntmps85
   go_wp2_with fail
   go_ret
   exact ⟨by rw [HQ.out];rfl,Below.refl _ _⟩
set_option maxHeartbeats 1600000 in
set_option maxRecDepth 100000 in
theorem gValid (l n:Int) (hn:n≤128):Gives 56 #[.int .i64 l,.int .i64 n] (.bool (Jk l n)):=by
 intro w
 have KV:=gVar l
 by_cases h0:Y8 l=0
 ·have HQ:=Lib.hid (show Jk l n=false by
   rw [Bool.eq_false_iff];intro h
   rw [Kf] at h
   unfold Y8 at h0
   split at h0
   ·omega
   ·split at h0<;>omega)
  rw [h0] at KV
  clear h0
  go_enter Tryz.func56,Tryz.ntmps56
  go_wp2_with fail
  refine (KV _).mono ?_
  rintro r1 w1 ⟨rfl,hB1⟩
  have HB1:=Lib.hid hB1
  clear hB1
  go_wp2_with fail
  go_ret
  exact ⟨by rw [HQ.out];rfl,HB1.out⟩
 ·have HQ:=Lib.hid (show Jk l n=decide (Y8 l≤n) by
   rw [Bool.eq_iff_iff,Kf,decide_eq_true_eq]
   unfold Y8 at h0 ⊢
   split at h0
   ·omega
   ·split at h0<;>omega)
  generalize Y8 l=v at *
  have hv:(v != 0)=true:=by simp [bne,J7 h0]
  clear h0
  go_enter Tryz.func56,Tryz.ntmps56
  go_wp2_with fail
  refine (KV _).mono ?_
  rintro r1 w1 ⟨rfl,hB1⟩
  have HB1:=Lib.hid hB1
  clear hB1
  go_wp2_with fail
  refine (KV _).mono ?_
  rintro r2 w2 ⟨rfl,hB2⟩
  have HB2:=Lib.hid (HB1.out.trans (hB2.mono HB1.out.size))
  clear hB2
  go_wp2_with fail
  go_ret
  exact ⟨by rw [HQ.out];rfl,HB2.out⟩
set_option maxHeartbeats 1600000 in
set_option maxRecDepth 100000 in
theorem xValid (l n:Int) (h0:0≤n) (hn:n≤128):Gives 30 #[.int .i64 l,.int .i64 n] (.bool (Jk l n)):=by
 intro w
 by_cases h1:l=0
 ·subst h1
  have HQ:=Lib.hid (show Jk 0 n=false by simp [Jk])
  go_enter Tryz.func30,Tryz.ntmps30
  go_wp2_with fail
  go_ret
  exact ⟨by rw [HQ.out];rfl,Below.refl _ _⟩
 ·have hl:(l != 0)=true:=by simp [bne,J7 h1]
  by_cases h2:-n≤l
  ·have HQ:=Lib.hid (show Jk l n=decide (l≤n) by
    rw [Bool.eq_iff_iff,Kf,decide_eq_true_eq];omega)
   clear h1
   go_enter Tryz.func30,Tryz.ntmps30
   go_wp2_with fail
   go_ret
   exact ⟨by rw [HQ.out];rfl,Below.refl _ _⟩
  ·have HQ:=Lib.hid (show Jk l n=false by
    rw [Bool.eq_false_iff];intro h
    rw [Kf] at h;omega)
   clear h1
   go_enter Tryz.func30,Tryz.ntmps30
   go_wp2_with fail
   go_ret
   exact ⟨by rw [HQ.out];rfl,Below.refl _ _⟩
theorem Aq {u:Nat} (hu:u<64):IntKind.u64.wrap (2^u)=((2^u:Nat):Int):=by
 have hp:(2:Nat)^u<2^64:=Nat.pow_lt_pow_right (by omega) hu
 unfold IntKind.wrap
 simp only [IntKind.signed,IntKind.bits,Bool.false_and]
 rw [if_neg (by simp)]
 rw [Int.natCast_pow]
 refine Int.emod_eq_of_lt (Int.pow_nonneg (by omega)) ?_
 have:=Int.ofNat_lt.2 hp
 rw [Int.natCast_pow,Int.natCast_pow] at this
 exact this
theorem and_bit {m u:Nat} (hm:m<18446744073709551616) (hu:u<64):(bits BinOp.and IntKind.u64 (m:Int) (IntKind.u64.wrap (2^u)) != 0)=m.testBit u:=by
 have hp:(2:Nat)^u<2^64:=Nat.pow_lt_pow_right (by omega) hu
 rw [Aq hu,u64_and_nat _ _ hm (by omega)]
 cases hb:m.testBit u
 ·have e:m &&& 2^u=0:=by
   apply Nat.eq_of_testBit_eq
   intro i
   rw [Nat.testBit_and,Nat.testBit_two_pow,Nat.zero_testBit]
   by_cases hi:u=i
   ·subst hi;rw [hb];rfl
   ·simp [hi]
  rw [e];rfl
 ·have e:m &&& 2^u≠0:=by
   intro h
   have h2:=congrArg (fun x=>Nat.testBit x u) h
   simp only [Nat.testBit_and,Nat.testBit_two_pow,Nat.zero_testBit,hb] at h2
   simp at h2
  simp only [bne,Bool.not_eq_true',beq_eq_false_iff_ne]
  omega
set_option maxHeartbeats 1600000 in
set_option maxRecDepth 100000 in
theorem gPlace (v:Int) (h1:1≤v) (h2:v≤128):Gives 88 #[.int .i64 v] (.tuple #[.int .i64 (if v≤64 then 0 else 1),.int .u64 (IntKind.u64.wrap (2^(if v≤64 then v-1 else v-65).toNat)),.bool true]):=by
 intro w
 by_cases h:v≤64
 ·obtain ⟨u,hu1⟩:∃ u:Nat,v=(u:Int)+1:=⟨(v-1).toNat,by omega⟩
  have hu:u<64:=by omega
  have hum:u%64=u:=Nat.mod_eq_of_lt hu
  have HQ:=Lib.hid (show (v-1)/64=0 by omega)
  have HR:(v-1)%64=(u:Int):=by omega
  rw [if_pos h,if_pos h,show v-1=(u:Int) by omega,Int.toNat_natCast]
  clear hu1
  go_enter Tryz.func88,Tryz.ntmps88
  go_wp2_with fail
  go_ret3
  rw [HQ.out]
  exact ⟨rfl,Below.refl _ _⟩
 ·obtain ⟨u,hu1⟩:∃ u:Nat,v=(u:Int)+65:=⟨(v-65).toNat,by omega⟩
  have hu:u<64:=by omega
  have hum:u%64=u:=Nat.mod_eq_of_lt hu
  rw [if_neg h,if_neg h,show v-65=(u:Int) by omega,Int.toNat_natCast]
  have HQ:=Lib.hid (show (v-1)/64=1 by omega)
  have e3:(v-1)%64=(u:Int):=by omega
  clear h hu1
  go_enter Tryz.func88,Tryz.ntmps88
  go_wp2_with fail
  go_ret3
  rw [HQ.out]
  exact ⟨rfl,Below.refl _ _⟩
section
variable (a0 a1:Nat) (ha0:a0<18446744073709551616) (ha1:a1<18446744073709551616)
include ha0 ha1
set_option maxHeartbeats 1600000 in
set_option maxRecDepth 100000 in
theorem gHas (v:Int) (h1:1≤v) (h2:v≤128):Gives 92 #[Jz a0 a1,.int .i64 v] (.bool (Ot a0 a1 v)):=by
 intro w
 have KP:=gPlace v h1 h2
 unfold Jz
 by_cases h:v≤64
 ·have HQ:=Lib.hid (show Ot a0 a1 v=(bits BinOp.and IntKind.u64 (a0:Int) (IntKind.u64.wrap (2^(v-1).toNat)) != 0) by
   unfold Ot;rw [if_pos h,and_bit ha0 (by omega)])
  rw [if_pos h,if_pos h] at KP
  generalize IntKind.u64.wrap (2^(v-1).toNat)=m at *
  clear h
  go_enter Tryz.func92,Tryz.ntmps92
  go_wp2_with fail
  refine Uj fun w1 hw1=>?_
  have hB1:Below w.heap.size w w1:=by rw [hw1];exact Qe _ _
  have m2:w1.heap[w.heap.size]?=some (.cells #[.int .u64 (a0:Nat),.int .u64 (a1:Nat)] 55 (0,0)):=by rw [hw1];exact Qn _ _
  clear hw1
  refine (KP _).mono ?_
  rintro r2 w2 ⟨rfl,hB2⟩
  have m22:=(Q4 hB2).keep m2 (by simp)
  have c0:=Q5 m22 0 rfl
  have HB2:=Lib.hid (hB1.trans (hB2.mono hB1.size))
  clear hB1 m2 hB2 m22
  go_wp2_with fail
  go_ret
  exact ⟨by rw [HQ.out];rfl,HB2.out⟩
 ·have HQ:=Lib.hid (show Ot a0 a1 v=(bits BinOp.and IntKind.u64 (a1:Int) (IntKind.u64.wrap (2^(v-65).toNat)) != 0) by
   unfold Ot;rw [if_neg h,and_bit ha1 (by omega)])
  rw [if_neg h,if_neg h] at KP
  generalize IntKind.u64.wrap (2^(v-65).toNat)=m at *
  clear h
  go_enter Tryz.func92,Tryz.ntmps92
  go_wp2_with fail
  refine Uj fun w1 hw1=>?_
  have hB1:Below w.heap.size w w1:=by rw [hw1];exact Qe _ _
  have m2:w1.heap[w.heap.size]?=some (.cells #[.int .u64 (a0:Nat),.int .u64 (a1:Nat)] 55 (0,0)):=by rw [hw1];exact Qn _ _
  clear hw1
  refine (KP _).mono ?_
  rintro r2 w2 ⟨rfl,hB2⟩
  have m22:=(Q4 hB2).keep m2 (by simp)
  have c0:=Q5 m22 1 rfl
  have HB2:=Lib.hid (hB1.trans (hB2.mono hB1.size))
  clear hB1 m2 hB2 m22
  go_wp2_with fail
  go_ret
  exact ⟨by rw [HQ.out];rfl,HB2.out⟩
omit ha0 ha1 in
set_option maxHeartbeats 400000 in
set_option maxRecDepth 100000 in
theorem xHas (v:Int) (h1:1≤v) (h2:v≤128):Gives 68 #[Jz a0 a1,.int .i64 v] (.bool (Ot a0 a1 v)):=by
 intro w
 unfold Jz
 by_cases h:v≤64
 ·obtain ⟨u,rfl⟩:∃ u:Nat,v=((u+1:Nat):Int):=⟨(v-1).toNat,by omega⟩
  have e1:((u+1:Nat):Int)-1=(u:Int):=by omega
  have e2:(u:Int)/64=0:=by omega
  have hu:u<64:=by omega
  have hum:u%64=u:=Nat.mod_eq_of_lt hu
  have HQ:=Lib.hid (show Ot a0 a1 ((u+1:Nat):Int)=(((a0:Int)/2^u).tmod 2 == 1) by
   unfold Ot;rw [if_pos h,e1,Int.toNat_natCast,tb_eq])
  clear h
  go_enter Tryz.func68,Tryz.ntmps68
  go_wp2_with fail
  go_ret
  exact ⟨by rw [HQ.out];rfl,Qe _ _⟩
 ·obtain ⟨u,hu1⟩:∃ u:Nat,v=(u:Int)+65:=⟨(v-65).toNat,by omega⟩
  have hu:u<64:=by omega
  have hum:u%64=u:=Nat.mod_eq_of_lt hu
  have HQ:=Lib.hid (show Ot a0 a1 v=(((a1:Int)/2^u).tmod 2 == 1) by
   unfold Ot;rw [if_neg h,show v-65=(u:Int) by omega,Int.toNat_natCast,tb_eq])
  have e2:(v-1)/64=1:=by omega
  have e3:(v-1)%64=(u:Int):=by omega
  clear h hu1
  go_enter Tryz.func68,Tryz.ntmps68
  go_wp2_with fail
  go_ret
  refine ⟨?_,Qe _ _⟩
  rw [HQ.out]
  rfl
omit ha0 ha1 in
set_option maxHeartbeats 1600000 in
set_option maxRecDepth 100000 in
theorem xHolds (y:Int) (h0:y≠0) (h1:-128≤y) (h2:y≤128):Gives 36 #[Jz a0 a1,.int .i64 y] (.bool (litB (Ot a0 a1) y)):=by
 intro w
 by_cases hp:0<y
 ·have KI:=xHas a0 a1 y hp h2
  have HQ:=Lib.hid (show litB (Ot a0 a1) y=Ot a0 a1 y from if_pos hp)
  generalize Ot a0 a1 y=q at *
  unfold Jz at *
  go_enter Tryz.func36,Tryz.ntmps36
  go_wp2_with fail
  refine (KI _).mono ?_
  rintro r3 w3 ⟨rfl,hB3⟩
  have HB3:=Lib.hid ((Qe w _).trans (hB3.mono (by simp)))
  clear hB3
  go_wp2_with fail
  go_ret
  exact ⟨by rw [HQ.out];rfl,HB3.out⟩
 ·have hn:y<0:=by omega
  have KI:=xHas a0 a1 (-y) (by omega) (by omega)
  have HQ:=Lib.hid (show litB (Ot a0 a1) y=!Ot a0 a1 (-y) from if_neg hp)
  generalize Ot a0 a1 (-y)=q at *
  unfold Jz at *
  go_enter Tryz.func36,Tryz.ntmps36
  go_wp2_with fail
  refine (KI _).mono ?_
  rintro r3 w3 ⟨rfl,hB3⟩
  have HB3:=Lib.hid ((Qe w _).trans (hB3.mono (by simp)))
  clear hB3
  go_wp2_with fail
  go_ret
  exact ⟨by rw [HQ.out];rfl,HB3.out⟩
end
end
/- Check: which sums are valid. -/
section
open Go.RowKit
end
/- Eval: in which sets a sum is true. -/
section
open Go.RowKit
section
variable (a0 a1:Nat) (ha0:a0<18446744073709551616) (ha1:a1<18446744073709551616)
include ha0 ha1
end
end
/- Ground for walks that make a sum: the result,the table of pairs,two rows that grow. -/
section
open Go.RowKit
theorem Two.both {w w':World} {b:Nat} {v1 v2 v1' v2':Value} {X Y:List Int} {x y:Int} (h:Two w b v1 X v2 Y) (hb:b≤w.heap.size)
  (r1:RowV (inW w') 3 1 v1' (X.length+1) (Qm X++[.int .i64 x])) (n1:∀ g∈Q7 v1',g∈Q7 v1∨w.heap.size≤g)
  (r2:RowV (inW w') 3 1 v2' (Y.length+1) (Qm Y++[.int .i64 y])) (n2:∀ g∈Q7 v2',g∈Q7 v2∨w.heap.size≤g) (hd:∀ g∈Q7 v1',g∉Q7 v2'):Two w' b v1' (X++[x]) v2' (Y++[y]) :=
 ⟨h.o1.grown hb (by simp) r1 n1,h.o2.grown hb (by simp) r2 n2,hd⟩
def pv (s:PS) (j i:Nat):Int:=ofS s (if i%2=0 then ((i/2:Nat):Int) else -((i/2:Nat):Int)) j
theorem Q7v {w:World} {b:Nat} {Wr:List Nat} {o:Nat} {v:Value} (h:b∈Wr:=by simp):Behind w Wr (w.setCell ⟨b,o,none⟩ v) :=
 ⟨rfl,rfl,rfl,by simp [World.setCell],fun k _ hn=>heap_setCell_other w _ k v (fun e=>hn (e▸h))⟩
theorem RowV.setI {w:World} {g n cap i:Nat} {xs:List Int} {y:Int} (h:RowV (inW w) 3 1 (.slice (some ⟨g,0,none⟩) n cap) n (Qm xs)):RowV (inW (w.setCell ⟨g,i,none⟩ (.int .i64 y))) 3 1 (.slice (some ⟨g,0,none⟩) n cap) n (Qm (xs.set i y)):=by
 cases h with
 | @row _ _ _ _ cur h =>
  refine .row (cur:=cur.setIfInBounds i (.int .i64 y)) ⟨heap_setCell_same w g i cur 3 _ h.blk,h.le,h.mx,by rw [Array.size_setIfInBounds];exact h.sz,?_,by simp [Qm];simpa [Qm] using h.len⟩
  have e:=h.tk
  rw [Array.toList_setIfInBounds]
  have e2:Qm (xs.set i y)=(Qm xs).set i (.int .i64 y):=by simp [Qm,List.map_set]
  rw [e2,List.take_set,e]
theorem Two.set1 {w:World} {b g n cap i:Nat} {v2:Value} {X Y:List Int} {y:Int} (h:Two w b (.slice (some ⟨g,0,none⟩) n cap) X v2 Y) (hn:X.length=n):Two (w.setCell ⟨g,i,none⟩ (.int .i64 y)) b (.slice (some ⟨g,0,none⟩) n cap) (X.set i y) v2 Y:=by
 have hg:g∈Q7 (.slice (some ⟨g,0,none⟩) n cap):=by simp [Q7]
 refine ⟨⟨?_,h.o1.ge,by simp⟩,⟨h.o2.row.keep (Q7v (b:=g) (Wr:=[g])) (fun k hk hm=>?_),h.o2.ge,by simp⟩,h.dis⟩
 ·have:=h.o1.row
  rw [hn] at this
  rw [List.length_set,hn]
  exact this.setI
 ·rw [List.mem_singleton] at hm
  subst hm
  exact h.dis _ hg hk
theorem Two.mono {w:World} {b b':Nat} {v1 v2:Value} {X Y:List Int} (h:Two w b v1 X v2 Y) (hb:b'≤b):Two w b' v1 X v2 Y:=⟨h.o1.mono hb,h.o2.mono hb,h.dis⟩
theorem Two.first {w:World} {b n cap:Nat} {p:Option Addr} {v2:Value} {X Y:List Int} (h:Two w b (.slice p n cap) X v2 Y) (h0:0<X.length):∃ g,p=some ⟨g,0,none⟩∧b≤g∧n=X.length∧g<w.heap.size∧(∀ i,w.frozen? ⟨g,i,none⟩=false)∧∀ i y,X[i]?=some y→w.cell? ⟨g,i,none⟩=some (.int .i64 y):=by
 have hr:=h.o1.row
 generalize hl:X.length=l at hr
 generalize hv:Value.slice p n cap=v at hr
 generalize hz:Qm X=zs at hr
 cases hr with
 | nil=>omega
 | @row g l cap' zs cur hr =>
  cases hv
  refine ⟨g,rfl,h.o1.ge g (by simp [Q7]),rfl,Q9 hr.blk,fun i=>Qd hr.blk i,fun i y hi=>?_⟩
  have h2:=hr.tk
  have hi':(Qm X)[i]?=some (.int .i64 y):=Jb _ _ _ hi
  rw [hz,←h2,List.getElem?_take] at hi'
  split at hi'
  ·exact Q5 hr.blk i (by simpa using hi')
  ·cases hi'
end
end Go.Proofs.YtcpehljpegfckaaGreatDoor
