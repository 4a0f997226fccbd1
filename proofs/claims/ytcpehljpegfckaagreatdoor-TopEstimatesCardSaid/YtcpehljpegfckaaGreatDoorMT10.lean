/- Texts of this claim,joined: CS,CE. -/
import Derived.Lib.Strings
/- Sets of variables in two words,in plain Lean. -/
namespace Go.Proofs.YtcpehljpegfckaaGreatDoor
section
def Ji (f:Nat→Bool):Nat→Nat
 | 0=>0
 | k+1=>Ji f k+(if f k then 2^k else 0)
theorem Z5 (f:Nat→Bool):∀ k,Ji f k<2^k
 | 0=>by simp [Ji]
 | k+1=>by
  have:=Z5 f k
  rw [Ji,Nat.pow_succ]
  split<;>omega
theorem Y7 (f:Nat→Bool):∀ k i,(Ji f k).testBit i=(decide (i<k)&&f i)
 | 0,i=>by simp [Ji]
 | k+1,i=>by
  have hl:=Z5 f k
  have ih:=Y7 f k i
  rw [Ji]
  cases hf:f k with
  | false =>
   rw [if_neg (by simp),Nat.add_zero,ih]
   by_cases e:i=k
   ·subst e;simp [hf]
   ·have:decide (i<k)=decide (i<k+1):=decide_eq_decide.2 (by omega)
    rw [this]
  | true =>
   rw [if_pos rfl,Nat.add_comm]
   rcases Nat.lt_trichotomy i k with h | rfl | h
   ·rw [Nat.testBit_two_pow_add_gt h,ih,decide_eq_true h,decide_eq_true (show i<k+1 by omega)]
   ·rw [Nat.testBit_two_pow_add_eq,Nat.testBit_lt_two_pow hl];simp [hf]
   ·have h2:(2^k+Ji f k).testBit i=false:=Nat.testBit_lt_two_pow (Nat.lt_of_lt_of_le (by omega:2^k+Ji f k<2^(k+1)) (Nat.pow_le_pow_right (by omega) h))
    rw [h2,decide_eq_false (show ¬ i<k+1 by omega)];rfl
theorem Hz {f:Nat→Bool} {k x:Nat} (hx:x<2^k) (h:∀ i,i<k→x.testBit i=f i):x=Ji f k:=by
 apply Nat.eq_of_testBit_eq
 intro i
 rw [Y7]
 by_cases hi:i<k
 ·rw [h i hi,decide_eq_true hi];rfl
 ·rw [decide_eq_false hi,Nat.testBit_lt_two_pow (Nat.lt_of_lt_of_le hx (Nat.pow_le_pow_right (by omega) (by omega)))];rfl
theorem Za {f g:Nat→Bool}:∀ {k:Nat},(∀ i,i<k→f i=g i)→Ji f k=Ji g k
 | 0,_=>rfl
 | k+1,h=>by rw [Ji,Ji,Za fun i hi=>h i (by omega),h k (by omega)]
theorem Q70 {f g:Nat→Bool} {k:Nat} (h:Ji f k=Ji g k):∀ i,i<k→f i=g i:=fun i hi=>by
 have h1:=Y7 f k i
 rw [h,Y7,decide_eq_true hi] at h1
 simpa using h1.symm
theorem Q1j (f g:Nat→Bool) (k:Nat):Ji f k ||| Ji g k=Ji (fun i=>f i||g i) k :=
 Hz (Nat.or_lt_two_pow (Z5 f k) (Z5 g k)) fun i hi=>by rw [Nat.testBit_or,Y7,Y7,decide_eq_true hi];simp
theorem Q6x (f g:Nat→Bool) (k:Nat):Ji f k &&& Ji g k=Ji (fun i=>f i&&g i) k :=
 Hz (Nat.lt_of_le_of_lt Nat.and_le_left (Z5 f k)) fun i hi=>by rw [Nat.testBit_and,Y7,Y7,decide_eq_true hi];simp
def loW (o:Nat→Bool):Nat:=Ji (fun i=>o (i+1)) 64
def hiW (o:Nat→Bool):Nat:=Ji (fun i=>o (i+65)) 64
theorem Vu (o:Nat→Bool):loW o<18446744073709551616:=Z5 _ 64
theorem U1 (o:Nat→Bool):hiW o<18446744073709551616:=Z5 _ 64
theorem Q8y (o:Nat→Bool) {v:Nat} (h1:1≤v) (h2:v≤64):(loW o).testBit (v-1)=o v:=by
 unfold loW
 rw [Y7,decide_eq_true (by omega),show v-1+1=v by omega];rfl
theorem hi_bit (o:Nat→Bool) {v:Nat} (h1:65≤v) (h2:v≤128):(hiW o).testBit (v-65)=o v:=by
 unfold hiW
 rw [Y7,decide_eq_true (by omega),show v-65+65=v by omega];rfl
theorem Az {o p:Nat→Bool}:(loW o=loW p∧hiW o=hiW p)↔∀ v,1≤v→v≤128→o v=p v:=by
 constructor
 ·rintro ⟨h1,h2⟩ v hv1 hv2
  by_cases h:v≤64
  ·have:=Q70 h1 (v-1) (by omega)
   simpa [show v-1+1=v by omega] using this
  ·have:=Q70 h2 (v-65) (by omega)
   simpa [show v-65+65=v by omega] using this
 ·exact fun h=>⟨Za fun i hi=>h _ (by omega) (by omega),Za fun i hi=>h _ (by omega) (by omega)⟩
end
/- The mean and the Q6z of wrong estimates,in plain Lean: pairwise independence,and Chebyshev's bound. -/
section
def Jo (f:Nat→Int):Nat→Int
 | 0=>0
 | k+1=>Jo f k+f k
def Js (f:Nat→Int):List Nat→Int
 | []=>0
 | p::M=>f p+Js f M
theorem Yb {f g:Nat→Int}:∀ {k:Nat},(∀ s,s<k→f s=g s)→Jo f k=Jo g k
 | 0,_=>rfl
 | k+1,h=>by rw [Jo,Jo,Yb fun s hs=>h s (by omega),h k (by omega)]
theorem V6 (f g:Nat→Int):∀ k,Jo (fun s=>f s+g s) k=Jo f k+Jo g k
 | 0=>rfl
 | k+1=>by rw [Jo,Jo,Jo,V6 f g k];omega
theorem Xr (c:Int) (f:Nat→Int):∀ k,Jo (fun s=>c*f s) k=c*Jo f k
 | 0=>by simp [Jo]
 | k+1=>by rw [Jo,Jo,Xr c f k,Int.mul_add]
theorem Vk (c:Int):∀ k:Nat,Jo (fun _=>c) k=c*k
 | 0=>by simp [Jo]
 | k+1=>by rw [Jo,Vk c k,Int.natCast_add,Int.mul_add];simp
theorem Xv {f g:Nat→Int}:∀ {M:List Nat},(∀ p∈M,f p=g p)→Js f M=Js g M
 | [],_=>rfl
 | p::M,h=>by rw [Js,Js,h p (by simp),Xv fun q hq=>h q (by simp [hq])]
theorem Vj (c:Int):∀ M:List Nat,Js (fun _=>c) M=c*M.length
 | []=>by simp [Js]
 | p::M=>by rw [Js,Vj c M,List.length_cons,Int.natCast_add,Int.mul_add];simp;omega
theorem Q6s (f g:Nat→Int):∀ M,Js (fun p=>f p+g p) M=Js f M+Js g M
 | []=>rfl
 | p::M=>by rw [Js,Js,Js,Q6s f g M];omega
theorem Q2u (c:Int) (f:Nat→Int):∀ M,Js (fun p=>c*f p) M=c*Js f M
 | []=>by simp [Js]
 | p::M=>by rw [Js,Js,Q2u c f M,Int.mul_add]
theorem Al (f:Nat→Nat→Int) (k:Nat):∀ M,Jo (fun s=>Js (f s) M) k=Js (fun p=>Jo (fun s=>f s p) k) M
 | []=>by
  show Jo (fun _=>0) k=0
  rw [Vk];simp
 | p::M=>by
  rw [Js,←Al f k M,←V6]
  rfl
theorem sq_sum (f:Nat→Int) (M:List Nat):Js f M*Js f M=Js (fun p=>Js (fun q=>f p*f q) M) M:=by
 rw [Xv (fun p _=>Q2u (f p) f M)]
 rw [show (fun p=>f p*Js f M)=fun p=>Js f M*f p from funext fun p=>Int.mul_comm _ _,Q2u]
theorem Q77 (h:Nat→Nat→Int) (A B:Int):∀ M:List Nat,M.Nodup→(∀ p∈M,h p p=A)→(∀ p∈M,∀ q∈M,p≠q→h p q=B)→Js (fun p=>Js (h p) M) M=M.length*A+M.length*(M.length-1)*B
 | [],_,_,_=>by simp [Js]
 | p::M,hn,hA,hB=>by
  rw [List.nodup_cons] at hn
  have ih:=Q77 h A B M hn.2 (fun q hq=>hA q (by simp [hq])) (fun q hq r hr=>hB q (by simp [hq]) r (by simp [hr]))
  have hne:∀ q∈M,p≠q:=fun q hq e=>hn.1 (e▸hq)
  have e1:Js (h p) M=B*M.length:=by
   rw [Xv (g:=fun _=>B) fun q hq=>hB p (by simp) q (by simp [hq]) (hne q hq),Vj]
  have e2:Js (fun q=>h q p+Js (h q) M) M=B*M.length+Js (fun q=>Js (h q) M) M:=by
   rw [Q6s,Xv (g:=fun _=>B) fun q hq=>hB q (by simp [hq]) p (by simp) (fun e=>hne q hq e.symm),Vj]
  show h p p+Js (h p) M+Js (fun q=>h q p+Js (h q) M) M=_
  rw [e1,e2,ih,hA p (by simp),List.length_cons,Int.natCast_add]
  generalize (M.length:Int)=c
  simp only [Int.natCast_one]
  grind
def Je (b:Nat→Bool):Nat→Nat
 | 0=>0
 | k+1=>Je b k+(if b k then 1 else 0)
theorem Q80 (b:Nat→Bool) (c:Int) (f:Nat→Int) (h0:∀ s,0≤f s) (h:∀ s,b s=true→c≤f s):∀ k,(Je b k:Int)*c≤Jo f k
 | 0=>by simp [Je,Jo]
 | k+1=>by
  have ih:=Q80 b c f h0 h k
  have h1:=h0 k
  rw [Je,Jo]
  by_cases hb:b k=true
  ·rw [if_pos hb,Int.natCast_add,Int.add_mul]
   have:=h k hb
   simp only [Int.natCast_one,Int.one_mul]
   omega
  ·rw [if_neg hb]
   simp only [Nat.add_zero]
   omega
theorem moment_id (c k A B u:Int) (hA:u*A=k) (hB:c*(c-1)*(u*u*B)=c*(c-1)*k):u*u*(c*A+c*(c-1)*B)+(-2*c*u*(c*A)+c*c*k)=c*k*(u-1):=by
 have e:u*u*(c*A+c*(c-1)*B)=c*u*(u*A)+c*(c-1)*(u*u*B):=by grind
 rw [e,hA,hB]
 have e2:-2*c*u*(c*A) = -2*c*c*(u*A):=by grind
 rw [e2,hA]
 grind
theorem moments (io:Nat→Nat→Int) (M:List Nat) (K:Nat) (u A B:Int) (hn:M.Nodup) (hi:∀ s p,io s p*io s p=io s p) (h1:∀ p∈M,Jo (fun s=>io s p) K=A) (h2:∀ p∈M,∀ q∈M,p≠q→Jo (fun s=>io s p*io s q) K=B) (hA:u*A=K) (hB:M.length*(M.length-1)*(u*u*B)=M.length*(M.length-1)*K) :
  Jo (fun s=>u*Js (io s) M) K=M.length*K∧Jo (fun s=>(u*Js (io s) M-M.length)*(u*Js (io s) M-M.length)) K=M.length*K*(u-1):=by
 have s1:Jo (fun s=>Js (io s) M) K=M.length*A:=by
  rw [Al,Xv (g:=fun _=>A) h1,Vj,Int.mul_comm]
 have s2:Jo (fun s=>Js (io s) M*Js (io s) M) K=M.length*A+M.length*(M.length-1)*B:=by
  rw [Yb (fun s _=>sq_sum (io s) M),Al]
  rw [Xv (fun p _=>Al (fun s q=>io s p*io s q) K M)]
  refine Q77 (fun p q=>Jo (fun s=>io s p*io s q) K) A B M hn (fun p hp=>?_) h2
  rw [Yb (fun s _=>hi s p)]
  exact h1 p hp
 have hm:Jo (fun s=>u*Js (io s) M) K=M.length*K:=by
  rw [Xr,s1,←hA]
  generalize (M.length:Int)=c
  grind
 refine ⟨hm,?_⟩
 have e:∀ s,(u*Js (io s) M-M.length)*(u*Js (io s) M-M.length)=u*u*(Js (io s) M*Js (io s) M)+((-2*M.length*u)*Js (io s) M+M.length*M.length):=fun s=>by
  generalize Js (io s) M=x
  generalize (M.length:Int)=c
  grind
 rw [Yb (fun s _=>e s),V6,V6,Xr,Xr,Vk,s1,s2]
 exact moment_id _ _ _ _ _ hA hB
theorem Q0p (x:Int):0≤x*x:=by
 rcases Int.le_total 0 x with h | h
 ·exact Int.mul_nonneg h h
 ·exact Int.mul_nonneg_of_nonpos_of_nonpos h h
theorem Q6z (x:Nat→Int) (K:Nat) (u c a b:Int) (hc:0<c) (ha:0≤a) (h:Jo (fun s=>(x s-c)*(x s-c)) K=c*K*(u-1)) (W:Nat→Bool) (hW:∀ s,W s=true→c*a≤(if x s≤c then c-x s else x s-c)*b) :
  (Je W K:Int)*a*a*c≤K*(u-1)*b*b:=by
 have h1:=Q80 W (c*a*(c*a)) (fun s=>b*b*((x s-c)*(x s-c))) (fun s=>by
  have e:b*b*((x s-c)*(x s-c))=(b*(x s-c))*(b*(x s-c)):=by grind
  rw [e]
  exact Q0p _) (fun s hs=>by
  have h2:=hW s hs
  have h3:0≤c*a:=Int.mul_nonneg (by omega) ha
  have h4:=Int.mul_le_mul h2 h2 h3 (Int.le_trans h3 h2)
  refine Int.le_trans h4 (Int.le_of_eq ?_)
  split<;>grind) K
 rw [Xr,h] at h1
 have h5:c*((Je W K:Int)*a*a*c)≤c*(K*(u-1)*b*b):=by
  refine Int.le_trans (Int.le_of_eq ?_) (Int.le_trans h1 (Int.le_of_eq ?_))
  ·generalize (Je W K:Int)=y
   grind
  ·generalize (K:Int)=y
   grind
 exact Int.le_of_mul_le_mul_left h5 hc
end
end Go.Proofs.YtcpehljpegfckaaGreatDoor
