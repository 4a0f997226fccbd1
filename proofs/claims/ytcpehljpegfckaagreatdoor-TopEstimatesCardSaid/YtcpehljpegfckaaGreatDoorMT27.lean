/- Texts of this claim,joined: NatB,NatC,NatF,NatG,NatH,NatI,NatJ,NatK,NatD,NatE. -/
import Derived.Test.YtcpehljpegfckaaGreatDoorMT26
import Derived.Lib.BitFns
/- Numbers as bytes: lengths,order,bits: plain laws. -/
namespace Go.Proofs.YtcpehljpegfckaaGreatDoor
section
namespace Num
theorem Up (n:Nat):(nb n).size=nl n:=by simp [nb,nl,Q8t]
theorem Q5q (n:Nat):bts (nb n)=Qa 256 n:=bts_mkStr (Ja (by omega) n)
theorem Q59 (n k:Nat) (h:k<(nb n).size):((nb n)[k]).toNat=(Qa 256 n).getD k 0:=by
 rw [←Q81 _ _ h,Q5q]
theorem nb_inj {a b:Nat} (h:nb a=nb b):a=b:=by
 have:=congrArg bts h
 rw [Q5q,Q5q] at this
 exact Ac (by omega) this
theorem Q03:Qj 0 = .agg #[.string { data:=#[] }]:=rfl
theorem nb_zero:nb 0=ByteArray.empty:=rfl
theorem Q1q {n:Nat}:nl n=0↔n=0:=by
 unfold nl
 rw [List.length_eq_zero_iff];exact Ku (by omega)
theorem Q7b {n k:Nat} (h:n<256^k):nl n≤k:=Qz (by omega) k n h
theorem Q05 (n:Nat):n<256^nl n:=Yz (by omega) n
theorem Q57 {n k:Nat} (h:k<nl n):256^k≤n:=Xy (by omega) n k h
theorem Ub {n:Nat} (h:n<18446744073709551616):nl n≤8:=Q7b (k:=8) (by omega)
theorem dlen_le (n:Nat):(Qa 10 n).length≤3*nl n:=by
 apply Qz (by omega)
 have h1:=Q05 n
 have h2:(256:Nat)^nl n≤1000^nl n:=Nat.pow_le_pow_left (by omega) _
 rw [Nat.pow_mul,show (10:Nat)^3=1000 by decide]
 omega
theorem Xg (n:Nat):(Qa W n).length≤nl n:=by
 apply Qz (by decide)
 have h1:=Q05 n
 have h2:(256:Nat)^nl n≤W^nl n:=Nat.pow_le_pow_left (by decide) _
 omega
theorem Ua {B:Nat} (hB:0<B) {xs ys:List Nat} (hx:AllLt B xs) (hl:xs.length=ys.length) (i:Nat) (hi:i<xs.length)
  (hlt:xs.getD i 0<ys.getD i 0) (heq:∀ j,i<j→xs.getD j 0=ys.getD j 0):Qc B xs<Qc B ys:=by
 have e1:xs=xs.take i++xs[i]::xs.drop (i+1):=by rw [←List.drop_eq_getElem_cons hi,List.take_append_drop]
 have e2:ys=ys.take i++ys[i]'(by omega)::ys.drop (i+1):=by rw [←List.drop_eq_getElem_cons (by omega),List.take_append_drop]
 have e3:xs.drop (i+1)=ys.drop (i+1):=by
  apply List.ext_getElem
  ·simp [hl]
  ·intro j h1 h2
   simp only [List.length_drop] at h1 h2
   have:=heq (i+1+j) (by omega)
   rw [List.getD_eq_getElem?_getD,List.getD_eq_getElem?_getD,List.getElem?_eq_getElem (by omega),List.getElem?_eq_getElem (by omega)] at this
   simpa using this
 have g1:xs.getD i 0=xs[i]:=by simp [List.getD_eq_getElem?_getD,hi]
 have g2:ys.getD i 0=ys[i]'(by omega):=by simp [List.getD_eq_getElem?_getD,show i<ys.length by omega]
 rw [g1,g2] at hlt
 have h3:=Kn hB (hx.take i)
 rw [e1,e2,J8,J8,Q4o,Q4o,e3]
 have l1:(xs.take i).length=i:=by simp;omega
 have l2:(ys.take i).length=i:=by simp;omega
 rw [l1] at h3
 rw [l1,l2]
 have h4:B^i*(xs[i]+1+B*Qc B (ys.drop (i+1)))≤B^i*(ys[i]'(by omega)+B*Qc B (ys.drop (i+1))):=Nat.mul_le_mul_left _ (by omega)
 have h5:B^i*(xs[i]+1+B*Qc B (ys.drop (i+1)))=B^i*(xs[i]+B*Qc B (ys.drop (i+1)))+B^i:=by
  rw [Nat.add_right_comm,Nat.mul_add (B^i) _ 1,Nat.mul_one]
 have h6:=Nat.zero_le (Qc B (ys.take i))
 omega
theorem Q4j {a b:Nat} (hl:nl a=nl b) (i:Nat) (hi:i<nl a) (hlt:(Qa 256 a).getD i 0<(Qa 256 b).getD i 0)
  (heq:∀ j,i<j→(Qa 256 a).getD j 0=(Qa 256 b).getD j 0):a<b:=by
 have:=Ua (B:=256) (by omega) (Ja (by omega) a) hl i hi hlt heq
 rwa [Qw (by omega),Qw (by omega)] at this
theorem eq_of_all {a b:Nat} (hl:nl a=nl b) (heq:∀ j,(Qa 256 a).getD j 0=(Qa 256 b).getD j 0):a=b:=by
 apply Ac (B:=256) (by omega)
 apply List.ext_getElem hl
 intro i h1 h2
 have:=heq i
 simpa [List.getD_eq_getElem?_getD,h1,h2] using this
theorem Q67 {a b:Nat} (h:nl a<nl b):a<b:=Nat.lt_of_lt_of_le (Q05 a) (Q57 h)
def H9 (a b:Nat):Int:=if a<b then -1 else if a=b then 0 else 1
theorem Q4z {a b:Nat} (h:a<b):H9 a b = -1:=by simp [H9,h]
theorem cmpI_eq (a:Nat):H9 a a=0:=by simp [H9]
theorem cmpI_gt {a b:Nat} (h:b<a):H9 a b=1:=by
 unfold H9;rw [if_neg (by omega),if_neg (by omega)]
/-! ### Bits -/
theorem Af:∀ (f x:Nat),x<2^f→Lib.bitLenAux f x=(Qa 2 x).length
 | 0,x,h=>by obtain rfl:x=0:=by simpa using h
             rfl
 | f+1,x,h=>by
  unfold Lib.bitLenAux
  by_cases h0:x=0
  ·subst h0;simp [Ym]
  ·rw [if_neg h0,Yc (by omega) (by omega),Af f (x/2) (by rw [Nat.pow_succ] at h;omega)]
   simp;omega
theorem bitLen_eq (x:Nat) (h:x<18446744073709551616):Lib.bitLen x=(Qa 2 x).length:=Af 64 x h
def Xd (n:Nat):Nat:=(Qa 2 n).length
theorem Q3f {B n k:Nat} (hB:2≤B) (h1:n<B^k) (h2:k=0∨B^(k-1)≤n):(Qa B n).length=k:=by
 apply Nat.le_antisymm (Qz hB k n h1)
 rcases h2 with rfl | h2
 ·exact Nat.zero_le _
 ·rcases Nat.lt_or_ge (Qa B n).length k with h | h
  ·have:=Yz hB n
   have:B^(Qa B n).length≤B^(k-1):=Nat.pow_le_pow_right (by omega) (by omega)
   omega
  ·exact h
theorem Q96 (n:Nat) (hn:n≠0):Xd n=8*(nl n-1)+Xd ((Qa 256 n).getD (nl n-1) 0):=by
 have hp:0<nl n:=Nat.pos_of_ne_zero (fun h=>hn (Q1q.1 h))
 have hlen:nl n-1<(Qa 256 n).length:=by unfold nl at hp ⊢;omega
 obtain ⟨d,hd⟩:∃ d,d=(Qa 256 n).getD (nl n-1) 0:=⟨_,rfl⟩
 have hg:(Qa 256 n).getD (nl n-1) 0=(Qa 256 n)[nl n-1]:=by simp [List.getD_eq_getElem?_getD,hlen]
 have hsplit:Qa 256 n=(Qa 256 n).take (nl n-1)++[d]:=by
  rw [hd,hg,List.take_append_getElem]
  exact (List.take_of_length_le (by unfold nl at *;omega)).symm
 have hv:n=Qc 256 ((Qa 256 n).take (nl n-1))+256^(nl n-1)*d:=by
  have:=Zh 256 ((Qa 256 n).take (nl n-1)) d
  rw [←hsplit,Qw (by omega),List.length_take,Nat.min_eq_left (by omega)] at this
  exact this
 have hlow:=Kn (B:=256) (by omega) ((Ja (B:=256) (by omega) n).take (nl n-1))
 rw [List.length_take,Nat.min_eq_left (by omega)] at hlow
 have hd0:d≠0:=by
  have hc:=Xn (B:=256) (by omega) n
  unfold Canon at hc
  rw [hsplit,List.getLast?_append] at hc
  simpa using hc
 rw [←hd]
 generalize Qc 256 ((Qa 256 n).take (nl n-1))=r at *
 have e256:∀ k,256^k=2^(8*k):=fun k=>by rw [Nat.pow_mul]
 rw [e256] at hv hlow
 have b1:=Yz (B:=2) (by omega) d
 have b3:Xd d≠0:=by
  unfold Xd
  intro h
  exact hd0 ((Ku (B:=2) (by omega)).1 (List.eq_nil_of_length_eq_zero h))
 have b2:=Xy (B:=2) (by omega) d (Xd d-1) (by unfold Xd at *;omega)
 generalize nl n-1=k at *
 have hbl:(Qa 2 d).length=Xd d:=rfl
 rw [hbl] at b1
 generalize Xd d=m at *
 unfold Xd
 apply Q3f (by omega)
 ·rw [Nat.pow_add]
  have:2^(8*k)*(d+1)≤2^(8*k)*2^m:=Nat.mul_le_mul_left _ b1
  rw [Nat.mul_add] at this
  omega
 ·right
  have:8*k+m-1=8*k+(m-1):=by omega
  rw [this,Nat.pow_add]
  have:=Nat.mul_le_mul_left (2^(8*k)) b2
  omega
theorem Ye {B:Nat} (l:List Nat) (k:Nat) (h:k<l.length):Qc B (l.take (k+1))=Qc B (l.take k)+B^k*l.getD k 0:=by
 rw [List.take_succ_eq_append_getElem h,Zh,List.length_take,Nat.min_eq_left (by omega)]
 simp [List.getD_eq_getElem?_getD,h]
end Num
end
/- Carries and borrows along digits: plain laws. -/
section
namespace Num
/-! ### Division by one word,from the highest digit down -/
def shr (B by_:Nat):List Nat→List Nat × Nat
 | []=>([],0)
 | d::ds=>let r:=shr B by_ ds;((r.2*B+d)/by_::r.1,(r.2*B+d)%by_)
theorem Wl (B b:Nat):∀ l,(shr B b l).1.length=l.length
 | []=>rfl
 | d::ds=>by simp [shr,Wl B b ds]
theorem Ae (B b:Nat) (hb:0<b):∀ l,Qc B l=Qc B (shr B b l).1*b+(shr B b l).2∧(shr B b l).2<b
 | []=>by simp [shr,Qc,hb]
 | d::ds=>by
  obtain ⟨h1,h2⟩:=Ae B b hb ds
  simp only [shr,Qc]
  refine ⟨?_,Nat.mod_lt _ hb⟩
  have h3:=Nat.div_add_mod ((shr B b ds).2*B+d) b
  generalize ((shr B b ds).2*B+d)/b=q at *
  generalize ((shr B b ds).2*B+d)%b=r at *
  rw [h1]
  grind
theorem shr_lt (B b:Nat) (hb:0<b):∀ l,AllLt B l→AllLt B (shr B b l).1
 | [],_=>AllLt.nil B
 | d::ds,h=>by
  have h2:=(Ae B b hb ds).2
  have hd:d<B:=h d (by simp)
  refine AllLt.cons ?_ (shr_lt B b hb ds (fun x hx=>h x (by simp [hx])))
  rw [Nat.div_lt_iff_lt_mul hb]
  calc (shr B b ds).2*B+d<(shr B b ds).2*B+B:=by omega
   _=((shr B b ds).2+1)*B:=by rw [Nat.add_mul,Nat.one_mul]
   _≤b*B:=Nat.mul_le_mul_right _ h2
   _=B*b:=Nat.mul_comm _ _
theorem Ar (B b:Nat) (hb:0<b) (l:List Nat):Qc B (shr B b l).1=Qc B l/b∧(shr B b l).2=Qc B l%b:=by
 obtain ⟨h1,h2⟩:=Ae B b hb l
 rw [h1]
 constructor
 ·rw [Nat.mul_comm,Nat.mul_add_div hb,Nat.div_eq_of_lt h2,Nat.add_zero]
 ·rw [Nat.mul_comm,Nat.mul_add_mod,Nat.mod_eq_of_lt h2]
/-! ### A carry,from the lowest digit up -/
def cl (B:Nat) (c:Nat):List Nat→List Nat × Nat
 | []=>([],c)
 | t::ts=>let r:=cl B ((c+t)/B) ts;((c+t)%B::r.1,r.2)
theorem Ke (B:Nat):∀ (l:List Nat) (c:Nat),(cl B c l).1.length=l.length
 | [],_=>rfl
 | t::ts,c=>by simp [cl,Ke B ts]
theorem Ue (B:Nat):∀ (l:List Nat) (c:Nat),Qc B (cl B c l).1+B^l.length*(cl B c l).2=c+Qc B l
 | [],c=>by simp [cl,Qc]
 | t::ts,c=>by
  have h:=Ue B ts ((c+t)/B)
  have h3:=Nat.div_add_mod (c+t) B
  simp only [cl,Qc,List.length_cons,Nat.pow_succ]
  generalize (cl B ((c+t)/B) ts).2=z at *
  generalize Qc B (cl B ((c+t)/B) ts).1=y at *
  generalize (c+t)/B=q at *
  generalize (c+t)%B=r at *
  generalize B^ts.length=p at *
  grind
theorem Q3b (B:Nat) (hB:0<B):∀ (l:List Nat) (c:Nat),AllLt B (cl B c l).1
 | [],_=>AllLt.nil B
 | _::ts,_c=>AllLt.cons (Nat.mod_lt _ hB) (Q3b B hB ts _)
theorem Q63 (B:Nat):∀ (l:List Nat) (c t:Nat),cl B c (l++[t])=((cl B c l).1++[((cl B c l).2+t)%B],((cl B c l).2+t)/B)
 | [],c,t=>rfl
 | x::xs,c,t=>by simp [cl,Q63 B xs]
theorem V7 (B:Nat) (hB:0<B):∀ (l:List Nat) (c:Nat),c<B→(∀ t∈l,t≤B*(B-1))→(cl B c l).2<B
 | [],c,hc,_=>hc
 | t::ts,c,hc,h=>by
  refine V7 B hB ts _ ?_ (fun x hx=>h x (by simp [hx]))
  have ht:=h t (by simp)
  rw [Nat.div_lt_iff_lt_mul hB]
  have:B*(B-1)+B=B*B:=by
   obtain ⟨b,rfl⟩:∃ b,B=b+1:=⟨B-1,by omega⟩
   simp [Nat.mul_add]
  omega
theorem Kq (B c:Nat) (l:List Nat) (k:Nat) (h:k<l.length) :
  cl B c (l.take (k+1))=((cl B c (l.take k)).1++[((cl B c (l.take k)).2+l.getD k 0)%B],((cl B c (l.take k)).2+l.getD k 0)/B):=by
 rw [List.take_succ_eq_append_getElem h,Q63]
 simp [List.getD_eq_getElem?_getD,h]
theorem Xi {done:List Nat} {xs:List Nat} {k v:Nat} (hd:done.length=k) (hk:k<xs.length) :
  (done++xs.drop k).set k v=done++[v]++xs.drop (k+1):=by
 rw [List.set_append_right _ _ (by omega),hd,Nat.sub_self,List.drop_eq_getElem_cons hk,List.set_cons_zero,List.append_assoc]
 rfl
theorem Og {done xs:List Nat} {k i:Nat} (hd:done.length=k) (hi:k≤i):(done++xs.drop k)[i]?=xs[i]?:=by
 rw [List.getElem?_append_right (by omega),List.getElem?_drop,hd]
 congr 1;omega
theorem Vo (B f:Nat):∀ l,Qc B (l.map (·*f))=Qc B l*f
 | []=>by simp [Qc]
 | d::l=>by simp only [List.map_cons,Qc,Vo B f l];grind
def Yi (xs ys:List Nat):List Nat:=List.zipWith (·+·) xs ys
theorem Hs (B:Nat):∀ (xs ys:List Nat),xs.length=ys.length→Qc B (Yi xs ys)=Qc B xs+Qc B ys
 | [],[],_=>rfl
 | x::xs,y::ys,h=>by
  simp only [Yi,List.zipWith_cons_cons,Qc]
  have:=Hs B xs ys (by simpa using h)
  unfold Yi at this
  rw [this];grind
theorem Oh (xs ys:List Nat) (h:xs.length=ys.length):(Yi xs ys).length=xs.length:=by simp [Yi,h]
theorem Ui (xs ys:List Nat) (h:xs.length=ys.length) (k:Nat):(Yi xs ys).getD k 0=xs.getD k 0+ys.getD k 0:=by
 simp only [Yi,List.getD_eq_getElem?_getD,List.getElem?_zipWith]
 by_cases hk:k<xs.length
 ·simp [hk,show k<ys.length by omega]
 ·simp [List.getElem?_eq_none (show xs.length≤k by omega),List.getElem?_eq_none (show ys.length≤k by omega)]
theorem Q5s {B:Nat} {xs ys:List Nat} (hB:2≤B) (hx:AllLt B xs) (hy:AllLt B ys):∀ t∈Yi xs ys,t≤B*(B-1):=by
 intro t ht
 unfold Yi at ht
 rw [List.mem_iff_getElem?] at ht
 obtain ⟨i,hi⟩:=ht
 rw [List.getElem?_zipWith] at hi
 have hb:2*(B-1)≤B*(B-1):=Nat.mul_le_mul_right _ hB
 split at hi
 ·rename_i a b h1 h2
  have:=hx.get h1
  have:=hy.get h2
  simp at hi
  omega
 ·cases hi
end Num
end
/- Borrows: plain laws. -/
section
namespace Num
def sb1 (B b x y:Nat):Nat:=if y+b≤x then x-y-b else x+B-y-b
def sb2 (b x y:Nat):Nat:=if y+b≤x then 0 else 1
def bl (B:Nat) (b:Nat):List Nat→List Nat→List Nat × Nat
 | x::xs,y::ys=>let r:=bl B (sb2 b x y) xs ys;(sb1 B b x y::r.1,r.2)
 | _,_=>([],b)
theorem sb2_le (b x y:Nat):sb2 b x y≤1:=by unfold sb2;split<;>omega
theorem sb1_lt {B b x y:Nat} (hx:x<B) (hy:y<B) (hb:b≤1):sb1 B b x y<B:=by unfold sb1;split<;>omega
theorem sb_eq {B b x y:Nat} (_hx:x<B) (hy:y<B) (hb:b≤1):x+B*sb2 b x y=y+b+sb1 B b x y:=by unfold sb1 sb2;split<;>omega
theorem Q02 (B:Nat):∀ (xs ys:List Nat) (b:Nat),xs.length=ys.length→(bl B b xs ys).1.length=xs.length
 | [],_,_,_=>by simp [bl]
 | x::xs,y::ys,b,h=>by simp [bl,Q02 B xs ys _ (by simpa using h)]
theorem Q5a (B:Nat):∀ (xs ys:List Nat) (b:Nat),xs.length=ys.length→AllLt B xs→AllLt B ys→b≤1 →
  Qc B xs+B^xs.length*(bl B b xs ys).2=Qc B ys+b+Qc B (bl B b xs ys).1∧AllLt B (bl B b xs ys).1∧(bl B b xs ys).2≤1
 | [],[],b,_,_,_,hb=>by simp [bl,Qc,AllLt.nil,hb]
 | x::xs,y::ys,b,h,hx,hy,hb=>by
  have hx0:x<B:=hx x (by simp)
  have hy0:y<B:=hy y (by simp)
  obtain ⟨h1,h2,h3⟩:=Q5a B xs ys (sb2 b x y) (by simpa using h) (fun d hd=>hx d (by simp [hd])) (fun d hd=>hy d (by simp [hd])) (sb2_le _ _ _)
  refine ⟨?_,AllLt.cons (sb1_lt hx0 hy0 hb) h2,h3⟩
  have h4:=sb_eq hx0 hy0 hb
  simp only [bl,Qc,List.length_cons,Nat.pow_succ]
  generalize (bl B (sb2 b x y) xs ys).2=z at *
  generalize Qc B (bl B (sb2 b x y) xs ys).1=o at *
  generalize sb1 B b x y=s at *
  generalize sb2 b x y=c at *
  generalize B^xs.length=p at *
  generalize Qc B xs=u at *
  generalize Qc B ys=v at *
  grind
theorem bl_snoc (B:Nat):∀ (xs ys:List Nat) (b x y:Nat),xs.length=ys.length →
  bl B b (xs++[x]) (ys++[y])=((bl B b xs ys).1++[sb1 B (bl B b xs ys).2 x y],sb2 (bl B b xs ys).2 x y)
 | [],[],b,x,y,_=>rfl
 | u::xs,v::ys,b,x,y,h=>by simp [bl,bl_snoc B xs ys _ x y (by simpa using h)]
theorem Q51 (B b:Nat) (xs ys:List Nat) (k:Nat) (h:xs.length=ys.length) (hk:k<xs.length) :
  bl B b (xs.take (k+1)) (ys.take (k+1))=((bl B b (xs.take k) (ys.take k)).1++[sb1 B (bl B b (xs.take k) (ys.take k)).2 (xs.getD k 0) (ys.getD k 0)],sb2 (bl B b (xs.take k) (ys.take k)).2 (xs.getD k 0) (ys.getD k 0)):=by
 rw [List.take_succ_eq_append_getElem hk,List.take_succ_eq_append_getElem (by omega),bl_snoc _ _ _ _ _ _ (by simp;omega)]
 simp [List.getD_eq_getElem?_getD,hk,show k<ys.length by omega]
theorem bl_none {B:Nat} {xs ys:List Nat} (hB:0<B) (h:xs.length=ys.length) (hx:AllLt B xs) (hy:AllLt B ys) (hle:Qc B ys≤Qc B xs) :
  (bl B 0 xs ys).2=0∧Qc B (bl B 0 xs ys).1=Qc B xs-Qc B ys:=by
 obtain ⟨h1,h2,h3⟩:=Q5a B xs ys 0 h hx hy (by omega)
 have h4:=Kn hB h2
 rw [Q02 B xs ys 0 h] at h4
 rcases (show (bl B 0 xs ys).2=0∨(bl B 0 xs ys).2=1 by omega) with h5 | h5
 ·rw [h5] at h1;exact ⟨h5,by omega⟩
 ·rw [h5] at h1;omega
theorem wrap_u64 (n:Int):IntKind.u64.wrap n=n%18446744073709551616:=by simp [IntKind.wrap,IntKind.bits,IntKind.signed]
theorem sub_word (x y b:Nat) (hx:x<4294967296) (hy:y<4294967296) (hb:b≤1) :
  IntKind.u64.wrap (IntKind.u64.wrap ((x:Int)-b)-y)%4294967296=(sb1 W b x y:Nat) ∧
  IntKind.u64.wrap (IntKind.u64.wrap ((x:Int)-b)-y)/9223372036854775808=(sb2 b x y:Nat):=by
 simp only [wrap_u64]
 unfold sb1 sb2 W
 split<;>constructor<;>omega
theorem sub_word0 (x b:Nat) (hx:x<4294967296) (hb:b≤1) :
  IntKind.u64.wrap ((x:Int)-b)%4294967296=(sb1 W b x 0:Nat) ∧
  IntKind.u64.wrap ((x:Int)-b)/9223372036854775808=(sb2 b x 0:Nat):=by
 simp only [wrap_u64]
 unfold sb1 sb2 W
 split<;>constructor<;>omega
end Num
end
/- Products: plain laws. -/
section
namespace Num
def Xh (O Y:List Nat) (i f:Nat):List Nat:=Yi ((O.drop i).take Y.length) (Y.map (f*·))
def Q2v (O Y:List Nat) (i f:Nat):List Nat :=
 O.take i++(cl W 0 (Xh O Y i f)).1++[(cl W 0 (Xh O Y i f)).2]++O.drop (i+Y.length+1)
theorem Ux (O Y:List Nat) (i:Nat) (h:i+Y.length≤O.length):((O.drop i).take Y.length).length=Y.length:=by
 rw [List.length_take,List.length_drop];omega
theorem Zf (O Y:List Nat) (i f:Nat) (h:i+Y.length≤O.length):(Xh O Y i f).length=Y.length:=by
 unfold Xh
 rw [Oh _ _ (by rw [Ux _ _ _ h];simp),Ux _ _ _ h]
theorem Q4q (O Y:List Nat) (i f k:Nat) (h:i+Y.length≤O.length) (hk:k<Y.length):(Xh O Y i f).getD k 0=O.getD (i+k) 0+f*Y.getD k 0:=by
 unfold Xh
 rw [Ui _ _ (by rw [Ux _ _ _ h];simp),Ya,if_pos hk,Q09]
 congr 1
 simp [List.getD_eq_getElem?_getD,hk]
theorem Q3i (B f:Nat) (l:List Nat):Qc B (l.map (f*·))=f*Qc B l:=by
 have:=Vo B f l
 rw [Nat.mul_comm f,←this]
 congr 1
 apply List.map_congr_left
 intro x _;exact Nat.mul_comm _ _
theorem mulT_le (O Y:List Nat) (i f:Nat) (hO:AllLt W O) (hY:AllLt W Y) (hf:f<W):∀ t∈Xh O Y i f,t≤W*(W-1):=by
 intro t ht
 unfold Xh Yi at ht
 rw [List.mem_iff_getElem?] at ht
 obtain ⟨j,hj⟩:=ht
 rw [List.getElem?_zipWith] at hj
 split at hj
 ·rename_i a b h1 h2
  have ha:=((hO.drop i).take Y.length).get h1
  rw [List.getElem?_map] at h2
  obtain ⟨y,hy,rfl⟩:=Option.map_eq_some_iff.1 h2
  have hy2:=hY.get hy
  have:f*y≤(W-1)*(W-1):=Nat.mul_le_mul (by omega) (by omega)
  simp at hj
  unfold W at *
  omega
 ·cases hj
theorem mul_step (O Y:List Nat) (i f:Nat) (h:i+Y.length<O.length) (hz:Qc W (O.drop (i+Y.length))=0) :
  Qc W (Q2v O Y i f)=Qc W O+W^i*(f*Qc W Y)∧(Q2v O Y i f).length=O.length:=by
 have hl:=Ux O Y i (by omega)
 have hc:=Ue W (Xh O Y i f) 0
 have hcl:=Ke W (Xh O Y i f) 0
 rw [Zf O Y i f (by omega)] at hcl hc
 have ht:Qc W (Xh O Y i f)=Qc W ((O.drop i).take Y.length)+f*Qc W Y:=by
  unfold Xh
  rw [Hs _ _ _ (by rw [hl];simp),Q3i]
 have e1:O=O.take i++((O.drop i).take Y.length++O.drop (i+Y.length)):=by
  rw [←List.drop_drop,List.take_append_drop,List.take_append_drop]
 have hd1:Qc W (O.drop (i+Y.length+1))=0:=by
  rw [List.drop_eq_getElem_cons (by omega),Qc] at hz
  have hW:(0:Nat)<W:=by decide
  have:=Nat.eq_zero_of_add_eq_zero_left hz
  rcases Nat.mul_eq_zero.1 this with h1 | h1
  ·omega
  ·exact h1
 have hti:(O.take i).length=i:=by rw [List.length_take];omega
 have eO:Qc W O=Qc W (O.take i)+W^i*Qc W ((O.drop i).take Y.length):=by
  conv=>lhs;rw [e1,J8,J8,hz,hti]
  simp
 constructor
 ·unfold Q2v
  rw [List.append_assoc,List.append_assoc,J8,J8,J8,hd1,hti,hcl,eO]
  simp only [Qc,Nat.mul_zero,Nat.add_zero]
  rw [ht] at hc
  generalize Qc W (cl W 0 (Xh O Y i f)).1=u at *
  generalize (cl W 0 (Xh O Y i f)).2=v at *
  generalize Qc W ((O.drop i).take Y.length)=x at *
  generalize Qc W Y=y at *
  generalize W^Y.length=p at *
  rw [hc]
  generalize W^i=q
  grind
 ·unfold Q2v
  simp only [List.length_append,List.length_drop,List.length_cons,List.length_nil,hti,hcl]
  omega
theorem mul_zeros (O Y:List Nat) (i f:Nat) (h:i+Y.length<O.length) (hz:Qc W (O.drop (i+Y.length))=0) :
  Qc W ((Q2v O Y i f).drop (i+1+Y.length))=0:=by
 have hcl:=Ke W (Xh O Y i f) 0
 rw [Zf O Y i f (by omega)] at hcl
 have hti:(O.take i).length=i:=by rw [List.length_take];omega
 unfold Q2v
 rw [List.drop_append,List.drop_eq_nil_of_le (by simp [hti,hcl];omega),List.nil_append]
 have:(O.take i++(cl W 0 (Xh O Y i f)).1++[(cl W 0 (Xh O Y i f)).2]).length=i+Y.length+1:=by simp [hti,hcl];omega
 rw [this,show i+1+Y.length-(i+Y.length+1)=0 by omega,List.drop_zero]
 rw [List.drop_eq_getElem_cons (by omega),Qc] at hz
 have hW:(0:Nat)<W:=by decide
 have:=Nat.eq_zero_of_add_eq_zero_left hz
 rcases Nat.mul_eq_zero.1 this with h1 | h1
 ·omega
 ·exact h1
theorem mulO_lt (O Y:List Nat) (i f:Nat) (hO:AllLt W O) (hY:AllLt W Y) (hf:f<W):AllLt W (Q2v O Y i f):=by
 unfold Q2v
 refine ((((hO.take i).append (Q3b W (by decide) _ _)).append (AllLt.cons ?_ (AllLt.nil W))).append (hO.drop _))
 exact V7 W (by decide) _ _ (by decide) (mulT_le O Y i f hO hY hf)
def Q3o (O Y:List Nat) (i f k:Nat):List Nat:=O.take i++(cl W 0 ((Xh O Y i f).take k)).1++O.drop (i+k)
theorem mulM_zero (O Y:List Nat) (i f:Nat):Q3o O Y i f 0=O:=by simp [Q3o,cl]
theorem Q0u (O Y:List Nat) (i f k:Nat) (h:i+Y.length<O.length) (hk:k≤Y.length) :
  (O.take i++(cl W 0 ((Xh O Y i f).take k)).1).length=i+k:=by
 rw [List.length_append,Ke,List.length_take,List.length_take,Zf O Y i f (by omega)];omega
theorem mulM_get (O Y:List Nat) (i f k:Nat) (h:i+Y.length<O.length) (hk:k≤Y.length):(Q3o O Y i f k)[i+k]?=some (O.getD (i+k) 0):=by
 unfold Q3o
 rw [Og (Q0u O Y i f k h hk) (Nat.le_refl _),List.getD_eq_getElem?_getD,List.getElem?_eq_getElem (by omega)];rfl
theorem mulM_set (O Y:List Nat) (i f k:Nat) (h:i+Y.length<O.length) (hk:k<Y.length) :
  (Q3o O Y i f k).set (i+k) (((cl W 0 ((Xh O Y i f).take k)).2+(O.getD (i+k) 0+f*Y.getD k 0))%W)=Q3o O Y i f (k+1):=by
 have h2:=Kq W 0 (Xh O Y i f) k (by rw [Zf O Y i f (by omega)];exact hk)
 rw [Q4q O Y i f k (by omega) hk] at h2
 unfold Q3o
 rw [Xi (Q0u O Y i f k h (by omega)) (by omega),h2]
 simp [Nat.add_assoc]
theorem mulM_last (O Y:List Nat) (i f:Nat) (h:i+Y.length<O.length) :
  (Q3o O Y i f Y.length).set (i+Y.length) (cl W 0 (Xh O Y i f)).2=Q2v O Y i f:=by
 have ht:(Xh O Y i f).take Y.length=Xh O Y i f:=List.take_of_length_le (by rw [Zf O Y i f (by omega)];omega)
 unfold Q3o Q2v
 rw [Xi (Q0u O Y i f Y.length h (Nat.le_refl _)) (by omega),ht]
end Num
end
/- Long division: plain laws. -/
section
namespace Num
/-! ### A multiple is taken away -/
def ta1 (x r:Nat):Nat:=if x<r then x+W-r else x-r
def ta2 (x r p:Nat):Nat:=p/W+if x<r then 1 else 0
def ta (d:Nat):Nat→List Nat→List Nat→List Nat × Nat
 | b,x::xs,y::ys=>let p:=d*y+b;let t:=ta d (ta2 x (p%W) p) xs ys;(ta1 x (p%W)::t.1,t.2)
 | b,_,_=>([],b)
theorem Ut (d:Nat):∀ (xs ys:List Nat) (b:Nat),xs.length=ys.length→(ta d b xs ys).1.length=xs.length
 | [],_,_,_=>by simp [ta]
 | x::xs,y::ys,b,h=>by simp [ta,Ut d xs ys _ (by simpa using h)]
theorem ta_snoc (d:Nat):∀ (xs ys:List Nat) (b x y:Nat),xs.length=ys.length →
  ta d b (xs++[x]) (ys++[y])=((ta d b xs ys).1++[ta1 x ((d*y+(ta d b xs ys).2)%W)],ta2 x ((d*y+(ta d b xs ys).2)%W) (d*y+(ta d b xs ys).2))
 | [],[],b,x,y,_=>rfl
 | u::xs,v::ys,b,x,y,h=>by simp [ta,ta_snoc d xs ys _ x y (by simpa using h)]
theorem Q5p (d b:Nat) (xs ys:List Nat) (k:Nat) (h:xs.length=ys.length) (hk:k<xs.length) :
  ta d b (xs.take (k+1)) (ys.take (k+1))=((ta d b (xs.take k) (ys.take k)).1++[ta1 (xs.getD k 0) ((d*ys.getD k 0+(ta d b (xs.take k) (ys.take k)).2)%W)],
   ta2 (xs.getD k 0) ((d*ys.getD k 0+(ta d b (xs.take k) (ys.take k)).2)%W) (d*ys.getD k 0+(ta d b (xs.take k) (ys.take k)).2)):=by
 rw [List.take_succ_eq_append_getElem hk,List.take_succ_eq_append_getElem (by omega),ta_snoc _ _ _ _ _ _ (by simp;omega)]
 simp [List.getD_eq_getElem?_getD,hk,show k<ys.length by omega]
theorem ta2_lt {x y b d:Nat} (hy:y<W) (hb:b<W) (hd:d<W):ta2 x ((d*y+b)%W) (d*y+b)<W:=by
 have h1:d*y≤(W-1)*(W-1):=Nat.mul_le_mul (by omega) (by omega)
 unfold ta2 W at *
 generalize d*y=p at *
 split<;>omega
theorem ta1_lt {x r:Nat} (hx:x<W) (hr:r<W):ta1 x r<W:=by unfold ta1;split<;>omega
theorem ta_eq (x r p:Nat) (_hx:x<W) (hr:r=p%W):x+W*ta2 x r p=p+ta1 x r:=by
 subst hr
 unfold ta1 ta2
 have:=Nat.div_add_mod p W
 have:=Nat.mod_lt p (show 0<W by decide)
 split
 ·rw [Nat.mul_add];omega
 ·rw [Nat.mul_add];omega
theorem Q5y (d:Nat) (hd:d<W):∀ (xs ys:List Nat) (b:Nat),xs.length=ys.length→AllLt W xs→AllLt W ys→b<W →
  Qc W xs+W^xs.length*(ta d b xs ys).2=d*Qc W ys+b+Qc W (ta d b xs ys).1∧AllLt W (ta d b xs ys).1∧(ta d b xs ys).2<W
 | [],[],b,_,_,_,hb=>by simp [ta,Qc,AllLt.nil,hb]
 | x::xs,y::ys,b,h,hx,hy,hb=>by
  have hx0:x<W:=hx x (by simp)
  have hy0:y<W:=hy y (by simp)
  have hm:=Nat.mod_lt (d*y+b) (show 0<W by decide)
  obtain ⟨h1,h2,h3⟩:=Q5y d hd xs ys (ta2 x ((d*y+b)%W) (d*y+b)) (by simpa using h) (fun z hz=>hx z (by simp [hz])) (fun z hz=>hy z (by simp [hz])) (ta2_lt hy0 hb hd)
  refine ⟨?_,AllLt.cons (ta1_lt hx0 hm) h2,h3⟩
  have h4:=ta_eq x ((d*y+b)%W) (d*y+b) hx0 rfl
  simp only [ta,Qc,List.length_cons,Nat.pow_succ]
  generalize (ta d (ta2 x ((d*y+b)%W) (d*y+b)) xs ys).2=z at *
  generalize Qc W (ta d (ta2 x ((d*y+b)%W) (d*y+b)) xs ys).1=o at *
  generalize ta1 x ((d*y+b)%W)=s at *
  generalize ta2 x ((d*y+b)%W) (d*y+b)=c at *
  generalize W^xs.length=p at *
  generalize Qc W xs=u at *
  generalize Qc W ys=v at *
  generalize W=w at *
  grind
theorem ta_top (d:Nat) (hd:d<W) (xs ys:List Nat) (t:Nat) (h:xs.length=ys.length) (hx:AllLt W xs) (hy:AllLt W ys) (_ht:t<W) :
  (t<(ta d 0 xs ys).2↔Qc W (xs++[t])<d*Qc W ys) ∧
  Qc W ((ta d 0 xs ys).1++[ta1 t (ta d 0 xs ys).2])=(if Qc W (xs++[t])<d*Qc W ys then Qc W (xs++[t])+W^(xs.length+1)-d*Qc W ys else Qc W (xs++[t])-d*Qc W ys):=by
 obtain ⟨h1,h2,h3⟩:=Q5y d hd xs ys 0 h hx hy (by decide)
 have hl:=Ut d xs ys 0 h
 have hlo:=Kn (show 0<W by decide) h2
 rw [hl] at hlo
 rw [Zh,Zh,hl,Nat.pow_succ]
 generalize (ta d 0 xs ys).2=b at *
 generalize Qc W (ta d 0 xs ys).1=o at *
 generalize Qc W xs=u at *
 generalize d*Qc W ys=v at *
 generalize hp:W^xs.length=p at *
 by_cases htb:t<b
 ·have e1:p*(t+1)≤p*b:=Nat.mul_le_mul_left _ htb
  rw [Nat.mul_add] at e1
  have hlt:u+p*t<v:=by omega
  refine ⟨⟨fun _=>hlt,fun _=>htb⟩,?_⟩
  rw [if_pos hlt]
  unfold ta1
  rw [if_pos htb]
  have e2:p*(t+W-b)+p*b=p*t+p*W:=by rw [←Nat.mul_add,←Nat.mul_add];congr 1;omega
  omega
 ·have e1:p*b≤p*t:=Nat.mul_le_mul_left _ (by omega)
  have hlt:¬ u+p*t<v:=by omega
  refine ⟨⟨fun h=>absurd h htb,fun h=>absurd h hlt⟩,?_⟩
  rw [if_neg hlt]
  unfold ta1
  rw [if_neg htb]
  have e2:p*(t-b)+p*b=p*t:=by rw [←Nat.mul_add];congr 1;omega
  omega
/-! ### Given back -/
theorem gb_top (xs ys:List Nat) (t:Nat) (h:xs.length=ys.length) :
  Qc W ((cl W 0 (Yi xs ys)).1++[(t+(cl W 0 (Yi xs ys)).2)%W])=(Qc W (xs++[t])+Qc W ys)%W^(xs.length+1):=by
 have h1:=Ue W (Yi xs ys) 0
 have hl:=Ke W (Yi xs ys) 0
 have hlt:=Kn (show 0<W by decide) (Q3b W (by decide) (Yi xs ys) 0)
 rw [Oh _ _ h] at h1 hl
 rw [hl] at hlt
 rw [Hs _ _ _ h] at h1
 rw [Zh,Zh,hl,Nat.pow_succ]
 generalize (cl W 0 (Yi xs ys)).2=b at *
 generalize Qc W (cl W 0 (Yi xs ys)).1=o at *
 generalize Qc W xs=u at *
 generalize Qc W ys=v at *
 generalize hp:W^xs.length=p at *
 have e1:u+p*t+v=o+p*(t+b):=by rw [Nat.mul_add];omega
 have e2:=Nat.div_add_mod (t+b) W
 have e3:=Nat.mod_lt (t+b) (show 0<W by decide)
 rw [e1]
 generalize (t+b)/W=q at *
 generalize (t+b)%W=r at *
 rw [←e2]
 have e4:o+p*(W*q+r)=o+p*r+p*W*q:=by rw [Nat.mul_add,Nat.mul_assoc];omega
 rw [e4,Nat.add_mul_mod_self_left,Nat.mod_eq_of_lt]
 have e5:p*(r+1)≤p*W:=Nat.mul_le_mul_left _ e3
 rw [Nat.mul_add] at e5
 omega
/-! ### The digit of a quotient -/
theorem guess_ge {u v yy t3 m d:Nat} (hv:yy*m≤v) (hu:u<(t3+1)*m) (hd:t3<d*yy):u/v<d:=by
 have hv0:0<v:=by
  rcases Nat.eq_zero_or_pos v with h | h
  ·subst h
   have:yy*m=0:=by omega
   rcases Nat.mul_eq_zero.1 this with h1 | h1
   ·subst h1;simp at hd
   ·subst h1;simp at hu
  ·exact h
 rw [Nat.div_lt_iff_lt_mul hv0]
 calc u<(t3+1)*m:=hu
  _≤(d*yy)*m:=Nat.mul_le_mul_right _ hd
  _=d*(yy*m):=Nat.mul_assoc _ _ _
  _≤d*v:=Nat.mul_le_mul_left _ hv
theorem guess_le {u v yy t3 m d:Nat} (_hm:0<m) (hv:v<(yy+1)*m) (hv0:0<v) (hu:t3*m≤u) (hd:d*yy≤t3) (hyy:d≤yy):d≤u/v+1:=by
 rcases Nat.lt_or_ge (u/v+1) d with h | h
 ·exfalso
  have h1:u<(u/v+1)*v:=Nat.lt_mul_of_div_lt (Nat.lt_succ_self _) hv0
  generalize u/v=q at *
  obtain ⟨e,rfl⟩:∃ e,d=e+1:=⟨d-1,by omega⟩
  have h2:(q+1)*v≤e*v:=Nat.mul_le_mul_right _ (by omega)
  have h3:e*v≤e*((yy+1)*m):=Nat.mul_le_mul_left _ (Nat.le_of_lt hv)
  have h4:(e+1)*yy*m≤u:=Nat.le_trans (Nat.mul_le_mul_right _ hd) hu
  have h5:(e+1)*yy*m<e*((yy+1)*m):=by omega
  rw [←Nat.mul_assoc] at h5
  have h6:=Nat.lt_of_mul_lt_mul_right h5
  rw [Nat.add_mul,Nat.mul_add] at h6
  omega
 ·exact h
end Num
end
/- Long division: one step,plain laws. -/
section
namespace Num
theorem split2 (Y:List Nat) (n:Nat) (hn:Y.length=n) (h2:2≤n) (hY:AllLt W Y) :
  (Y.getD (n-1) 0*W+Y.getD (n-2) 0)*W^(n-2)≤Qc W Y∧Qc W Y<(Y.getD (n-1) 0*W+Y.getD (n-2) 0+1)*W^(n-2):=by
 have e1:=Ye (B:=W) Y (n-1) (by omega)
 have e2:=Ye (B:=W) Y (n-2) (by omega)
 rw [show n-1+1=n by omega,List.take_of_length_le (by omega)] at e1
 rw [show n-2+1=n-1 by omega] at e2
 have h3:=Kn (show 0<W by decide) (hY.take (n-2))
 rw [List.length_take,Nat.min_eq_left (by omega)] at h3
 have e4:W^(n-1)=W^(n-2)*W:=by rw [←Nat.pow_succ];congr 1;omega
 rw [e1,e2,e4]
 generalize Qc W (Y.take (n-2))=r at *
 generalize Y.getD (n-1) 0=a
 generalize Y.getD (n-2) 0=b
 generalize W^(n-2)=m at *
 generalize W=w at *
 constructor<;>grind
theorem split3 (X:List Nat) (n:Nat) (hn:X.length=n+1) (h2:2≤n) (hX:AllLt W X) :
  ((X.getD n 0*W+X.getD (n-1) 0)*W+X.getD (n-2) 0)*W^(n-2)≤Qc W X∧Qc W X<((X.getD n 0*W+X.getD (n-1) 0)*W+X.getD (n-2) 0+1)*W^(n-2):=by
 have e0:=Ye (B:=W) X n (by omega)
 have e1:=Ye (B:=W) X (n-1) (by omega)
 have e2:=Ye (B:=W) X (n-2) (by omega)
 rw [List.take_of_length_le (by omega)] at e0
 rw [show n-1+1=n by omega] at e1
 rw [show n-2+1=n-1 by omega] at e2
 have h3:=Kn (show 0<W by decide) (hX.take (n-2))
 rw [List.length_take,Nat.min_eq_left (by omega)] at h3
 have e4:W^(n-1)=W^(n-2)*W:=by rw [←Nat.pow_succ];congr 1;omega
 have e5:W^n=W^(n-2)*W*W:=by rw [←Nat.pow_succ,←Nat.pow_succ];congr 1;omega
 rw [e0,e1,e2,e4,e5]
 generalize Qc W (X.take (n-2))=r at *
 generalize X.getD n 0=a
 generalize X.getD (n-1) 0=b
 generalize X.getD (n-2) 0=c
 generalize W^(n-2)=m at *
 generalize W=w at *
 constructor<;>grind
structure Guess (u v x0 x1 x2 y1 y2 q:Nat):Prop where
 hx0:x0<W
 hx1:x1<W
 hx2:x2<W
 hy1:y1<W
 hy2:y2<W
 big:2147483648≤y1
 qW:q<W
 top:x0*W+x1≤y1*W+y2
 ge:∀ d,(x0*W+x1)*W+x2<d*(y1*W+y2)→q<d
 le:∀ d,d*(y1*W+y2)≤(x0*W+x1)*W+x2→d<W→d≤q+1
theorem Guess.mk' {Y S:List Nat} {n:Nat} (hn:Y.length=n) (h2:2≤n) (hY:AllLt W Y) (hS:S.length=n+1) (hSl:AllLt W S) (hbig:2147483648≤Y.getD (n-1) 0) (hu:Qc W S<W*Qc W Y) :
  Guess (Qc W S) (Qc W Y) (S.getD n 0) (S.getD (n-1) 0) (S.getD (n-2) 0) (Y.getD (n-1) 0) (Y.getD (n-2) 0) (Qc W S/Qc W Y):=by
 have hW:(0:Nat)<W:=by decide
 obtain ⟨a1,a2⟩:=split2 Y n hn h2 hY
 obtain ⟨b1,b2⟩:=split3 S n hS h2 hSl
 have g1:=hY.getD hW (n-1)
 have g2:=hY.getD hW (n-2)
 have g3:=hSl.getD hW n
 have g4:=hSl.getD hW (n-1)
 have g5:=hSl.getD hW (n-2)
 have hm:0<W^(n-2):=Nat.pow_pos hW
 generalize Y.getD (n-1) 0=y1 at *
 generalize Y.getD (n-2) 0=y2 at *
 generalize S.getD n 0=x0 at *
 generalize S.getD (n-1) 0=x1 at *
 generalize S.getD (n-2) 0=x2 at *
 generalize W^(n-2)=m at *
 generalize Qc W S=u at *
 generalize Qc W Y=v at *
 have hyW:W≤y1*W:=Nat.le_mul_of_pos_left _ (by omega)
 have hv0:0<v:=by
  have:1*m≤(y1*W+y2)*m:=Nat.mul_le_mul_right _ (Nat.le_trans (Nat.le_trans hW hyW) (Nat.le_add_right _ _))
  omega
 refine ⟨g3,g4,g5,g1,g2,hbig,?_,?_,fun d hd=>guess_ge a1 b2 hd,fun d hd hdW=>guess_le hm a2 hv0 b1 hd (Nat.le_trans (Nat.le_of_lt hdW) (Nat.le_trans hyW (Nat.le_add_right _ _)))⟩
 ·rw [Nat.div_lt_iff_lt_mul hv0];exact hu
 ·have h1:((x0*W+x1)*W+x2)*m<W*((y1*W+y2+1)*m):=by
   calc ((x0*W+x1)*W+x2)*m≤u:=b1
    _<W*v:=hu
    _≤W*((y1*W+y2+1)*m):=Nat.mul_le_mul_left _ (Nat.le_of_lt a2)
  rw [←Nat.mul_assoc] at h1
  have h2:=Nat.lt_of_mul_lt_mul_right h1
  generalize W=ww at *
  have h3:ww*(x0*ww+x1)<ww*(y1*ww+y2+1):=by rw [Nat.mul_comm ww (x0*ww+x1)];omega
  have:=Nat.lt_of_mul_lt_mul_left h3
  omega
theorem Guess.start {u v x0 x1 x2 y1 y2 q:Nat} (G:Guess u v x0 x1 x2 y1 y2 q) :
  q≤(x0*W+x1)/y1∧(x0*W+x1)/y1≤W+1∧(x0*W+x1)%y1<y1∧(x0*W+x1)/y1*y1+(x0*W+x1)%y1=x0*W+x1:=by
 have hy:0<y1:=by have:=G.big;omega
 have h1:=Nat.div_add_mod (x0*W+x1) y1
 have h2:=Nat.mod_lt (x0*W+x1) hy
 have h3:=G.top
 have hbig:=G.big
 have hy2:=G.hy2
 have hx2:=G.hx2
 have hge:=G.ge q
 have hWv:W≤4294967296:=Nat.le_refl _
 have hW1:0<W:=by decide
 refine ⟨?_,?_,h2,by rw [Nat.mul_comm];exact h1⟩
 ·rcases Nat.lt_or_ge ((x0*W+x1)/y1) q with h | h
  ·exfalso
   clear G
   generalize W=ww at *
   have h4:=hge ?_
   ·omega
   ·have h5:((x0*ww+x1)/y1+1)*y1≤q*y1:=Nat.mul_le_mul_right _ h
    rw [Nat.add_mul,Nat.mul_comm _ y1] at h5
    have h6:(x0*ww+x1+1)*ww≤q*y1*ww:=Nat.mul_le_mul_right _ (by omega)
    rw [Nat.add_mul _ 1 ww] at h6
    rw [Nat.mul_add,←Nat.mul_assoc]
    generalize (x0*ww+x1)*ww=z at *
    generalize q*y1*ww=z2 at *
    omega
  ·exact h
 ·rw [Nat.div_le_iff_le_mul_add_pred hy]
  clear G hge
  generalize W=ww at *
  have:y1*(ww+1)=y1*ww+y1:=by rw [Nat.mul_add,Nat.mul_one]
  omega
theorem Guess.down {u v x0 x1 x2 y1 y2 q:Nat} (G:Guess u v x0 x1 x2 y1 y2 q) {d r:Nat} (he:d*y1+r=x0*W+x1) (ht:W≤d∨r*W+x2<d*y2):q<d:=by
 rcases ht with h | h
 ·have:=G.qW;omega
 ·apply G.ge
  rw [Nat.mul_add,←Nat.mul_assoc,←he,Nat.add_mul]
  clear G he
  generalize W=ww at *
  omega
theorem Guess.done {u v x0 x1 x2 y1 y2 q:Nat} (G:Guess u v x0 x1 x2 y1 y2 q) {d r:Nat} (he:d*y1+r=x0*W+x1) (h1:d<W) (ht:d*y2≤r*W+x2):d≤q+1:=by
 refine G.le d ?_ h1
 rw [Nat.mul_add,←Nat.mul_assoc,←he,Nat.add_mul]
 clear G he h1
 generalize W=ww at *
 omega
theorem Guess.done2 {u v x0 x1 x2 y1 y2 q:Nat} (G:Guess u v x0 x1 x2 y1 y2 q) {d r:Nat} (he:d*y1+r=x0*W+x1) (h1:d≤W) (hr:W≤r):d<W∧d≤q+1:=by
 have hlt:d<W:=by
  rcases Nat.lt_or_ge d W with h | h
  ·exact h
  ·exfalso
   have hd:d=W:=Nat.le_antisymm h1 h
   have h3:=G.top
   have h4:=G.hy2
   rw [hd,Nat.mul_comm W y1] at he
   clear G hd h h1
   generalize W=ww at *
   omega
 refine ⟨hlt,G.le d ?_ hlt⟩
 have h5:d*y2≤W*W:=Nat.mul_le_mul h1 (Nat.le_of_lt G.hy2)
 have h6:W*W≤r*W:=Nat.mul_le_mul_right _ hr
 rw [Nat.mul_add,←Nat.mul_assoc,←he,Nat.add_mul]
 clear G he h1 hr hlt
 generalize W=ww at *
 omega
theorem Guess.next {u v x0 x1 x2 y1 y2 q:Nat} (_:Guess u v x0 x1 x2 y1 y2 q) {d r:Nat} (he:d*y1+r=x0*W+x1) (hd:0<d):(d-1)*y1+(r+y1)=x0*W+x1:=by
 obtain ⟨e,rfl⟩:∃ e,d=e+1:=⟨d-1,by omega⟩
 rw [Nat.add_mul] at he
 simp only [Nat.add_sub_cancel]
 omega
theorem Ws {u v q d:Nat} (hv:0<v) (hq:q=u/v) (h1:q≤d) (h2:d≤q+1) :
  (u<d*v↔d=q+1)∧(d=q→u-d*v=u%v)∧(d=q+1→∀ M,v≤M→(u+M-d*v+v)%M=u%v):=by
 subst hq
 have e:=Nat.div_add_mod u v
 have hm:=Nat.mod_lt u hv
 generalize u/v=q at *
 generalize u%v=r at *
 have e2:q*v=v*q:=Nat.mul_comm _ _
 refine ⟨⟨fun h=>?_,fun h=>?_⟩,fun h=>?_,fun h M hM=>?_⟩
 ·rcases Nat.lt_or_ge q d with h3 | h3
  ·omega
  ·obtain rfl:d=q:=by omega
   omega
 ·subst h;rw [Nat.add_mul];omega
 ·subst h;omega
 ·subst h
  rw [Nat.add_mul]
  have:u+M-(q*v+1*v)+v=M+r:=by omega
  rw [this,Nat.add_mod_left,Nat.mod_eq_of_lt (by omega)]
end Num
end
/- Long division: the loop,plain laws. -/
section
namespace Num
structure LongInv (A:Nat) (Y:List Nat) (L k:Nat) (X Q:List Nat):Prop where
 xl:X.length=L
 ql:Q.length=L-Y.length
 xlt:AllLt W X
 qlt:AllLt W Q
 sum:A=Qc W Y*Qc W Q+Qc W X
 less:Qc W (X.drop k)<Qc W Y
 zero:∀ j,j<k→Q.getD j 0=0
def seg (X:List Nat) (i n:Nat):List Nat:=(X.drop i).take n
theorem Q89 (B:Nat):∀ (l:List Nat) (i d:Nat),i<l.length→l.getD i 0=0→Qc B (l.set i d)=Qc B l+B^i*d
 | x::l,0,d,_,h=>by simp at h;subst h;simp [Qc];omega
 | x::l,i+1,d,hi,h=>by
  have:=Q89 B l i d (by simpa using hi) (by simpa using h)
  simp only [List.set_cons_succ,Qc,this,Nat.pow_succ]
  rw [Nat.mul_add,Nat.mul_comm (B^i) B,Nat.mul_assoc]
  omega
theorem Q5l (X:List Nat) (i n:Nat) (h:i+n<X.length) :
  X=X.take i++seg X i n++X.getD (i+n) 0::X.drop (i+n+1)∧(X.take i).length=i∧(seg X i n).length=n:=by
 refine ⟨?_,by simp;omega,by simp [seg];omega⟩
 conv=>lhs;rw [←List.take_append_drop i X]
 rw [List.append_assoc]
 congr 1
 conv=>lhs;rw [←List.take_append_drop n (X.drop i)]
 unfold seg
 congr 1
 rw [List.drop_drop,List.drop_eq_getElem_cons h,List.getD_eq_getElem?_getD,List.getElem?_eq_getElem h]
 rfl
theorem Q6n {A:Nat} {Y:List Nat} {L i:Nat} {X Q:List Nat} (H:LongInv A Y L (i+1) X Q) (_hy:0<Y.length) (hY:AllLt W Y) (h:i+Y.length<L) :
  Qc W (X.drop (i+Y.length+1))=0∧Qc W (seg X i Y.length++[X.getD (i+Y.length) 0])<W*Qc W Y ∧
  Qc W X=Qc W (X.take i)+W^i*Qc W (seg X i Y.length++[X.getD (i+Y.length) 0]):=by
 have hW:(0:Nat)<W:=by decide
 obtain ⟨e1,e2,e3⟩:=Q5l X i Y.length (by rw [H.xl];exact h)
 have hv:=Kn hW hY
 have hless:=H.less
 have hd:X.drop (i+1)=(seg X i Y.length++[X.getD (i+Y.length) 0]).drop 1++X.drop (i+Y.length+1):=by
  conv=>lhs;rw [e1]
  rw [show X.take i++seg X i Y.length++X.getD (i+Y.length) 0::X.drop (i+Y.length+1)=X.take i++((seg X i Y.length++[X.getD (i+Y.length) 0])++X.drop (i+Y.length+1)) by simp]
  rw [List.drop_append,List.drop_eq_nil_of_le (by omega),List.nil_append,e2,show i+1-i=1 by omega,List.drop_append_of_le_length (by simp)]
 have hl1:((seg X i Y.length++[X.getD (i+Y.length) 0]).drop 1).length=Y.length:=by simp [e3]
 rw [hd,J8,hl1] at hless
 have hz:Qc W (X.drop (i+Y.length+1))=0:=by
  rcases Nat.eq_zero_or_pos (Qc W (X.drop (i+Y.length+1))) with h0 | h0
  ·exact h0
  ·have:W^Y.length*1≤W^Y.length*Qc W (X.drop (i+Y.length+1)):=Nat.mul_le_mul_left _ h0
   omega
 rw [hz,Nat.mul_zero,Nat.add_zero] at hless
 refine ⟨hz,?_,?_⟩
 ·have hne:seg X i Y.length++[X.getD (i+Y.length) 0]≠[]:=by simp
  obtain ⟨a,t,hat⟩:=List.exists_cons_of_ne_nil hne
  rw [hat] at hless ⊢
  simp only [List.drop_succ_cons,List.drop_zero] at hless
  have ha:a<W:=by
   have:a∈X:=by
    rw [e1]
    have:a∈seg X i Y.length++[X.getD (i+Y.length) 0]:=by rw [hat];simp
    rcases List.mem_append.1 this with h1 | h1
    ·simp [h1]
    ·simp at h1;simp [h1]
   exact H.xlt a this
  rw [Qc]
  have:W*(Qc W t+1)≤W*Qc W Y:=Nat.mul_le_mul_left _ hless
  rw [Nat.mul_add] at this
  omega
 ·conv=>lhs;rw [e1]
  rw [show X.take i++seg X i Y.length++X.getD (i+Y.length) 0::X.drop (i+Y.length+1)=X.take i++((seg X i Y.length++[X.getD (i+Y.length) 0])++X.drop (i+Y.length+1)) by simp]
  rw [J8,J8,hz,e2]
  simp
theorem long_step {A:Nat} {Y:List Nat} {L i:Nat} {X Q:List Nat} (H:LongInv A Y L (i+1) X Q) (hy:0<Y.length) (hY:AllLt W Y) (h:i+Y.length<L)
  {u:Nat} (hu:u=Qc W (seg X i Y.length++[X.getD (i+Y.length) 0])) (hv:0<Qc W Y) (hq:u/Qc W Y<W)
  (xs':List Nat) (t':Nat) (hl:xs'.length=Y.length) (hlt:AllLt W (xs'++[t'])) (hd:Qc W (xs'++[t'])=u%Qc W Y) :
  LongInv A Y L i (X.take i++xs'++t'::X.drop (i+Y.length+1)) (Q.set i (u/Qc W Y)):=by
 obtain ⟨h1,h2,h3⟩:=Q6n H hy hY h
 obtain ⟨e1,e2,e3⟩:=Q5l X i Y.length (by rw [H.xl];exact h)
 rw [←hu] at h3
 have ee:X.take i++xs'++t'::X.drop (i+Y.length+1)=X.take i++((xs'++[t'])++X.drop (i+Y.length+1)):=by simp
 rw [ee]
 refine ⟨?_,by rw [List.length_set];exact H.ql,?_,H.qlt.set _ _ hq,?_,?_,?_⟩
 ·simp [e2,hl,H.xl];have:=H.xl;omega
 ·exact (H.xlt.take i).append (hlt.append (H.xlt.drop _))
 ·rw [Q89 W Q i _ (by rw [H.ql];omega) (H.zero i (by omega)),J8,J8,h1,e2,hd]
  have hs:=H.sum
  rw [h3] at hs
  have hdm:=Nat.div_add_mod u (Qc W Y)
  generalize u/Qc W Y=q at *
  generalize u%Qc W Y=r at *
  generalize Qc W Y=v at *
  generalize Qc W Q=z at *
  generalize Qc W (X.take i)=a at *
  generalize W^i=p at *
  rw [hs,←hdm]
  grind
 ·rw [List.drop_append,List.drop_eq_nil_of_le (by omega),List.nil_append,e2,Nat.sub_self,List.drop_zero,J8,h1,hd]
  have:=Nat.mod_lt u hv
  simpa using this
 ·intro j hj
  have:=H.zero j (by omega)
  rw [List.getD_eq_getElem?_getD,List.getElem?_set_ne (by omega),←List.getD_eq_getElem?_getD]
  exact this
theorem long_end {A:Nat} {Y:List Nat} {L:Nat} {X Q:List Nat} (H:LongInv A Y L 0 X Q):Qc W Q=A/Qc W Y∧Qc W X=A%Qc W Y:=by
 have h1:=H.less
 rw [List.drop_zero] at h1
 rw [H.sum]
 constructor
 ·rw [Nat.mul_add_div (by omega),Nat.div_eq_of_lt h1,Nat.add_zero]
 ·rw [Nat.mul_add_mod,Nat.mod_eq_of_lt h1]
end Num
end
/- What Div does around long: plain laws. -/
section
namespace Num
def shl (l:List Nat) (s:Nat):List Nat:=(cl W 0 (l.map (·*2^s))).1
theorem Q08 (l:List Nat) (s:Nat) (_hs:s≤31) (hl:AllLt W l):∀ k,(cl W 0 ((l.map (·*2^s)).take k)).2<2^s:=by
 intro k
 induction k with
 | zero=>simp [cl];exact Nat.pow_pos (by omega)
 | succ k ih =>
  by_cases hk:k<(l.map (·*2^s)).length
  ·rw [Kq _ _ _ _ hk]
   simp only
   have hk2:k<l.length:=by simpa using hk
   have hg:(l.map (·*2^s)).getD k 0=l.getD k 0*2^s:=by simp [List.getD_eq_getElem?_getD,hk2]
   have hx:=hl.getD (by decide) k
   rw [hg,Nat.div_lt_iff_lt_mul (by decide)]
   generalize (cl W 0 ((l.map (·*2^s)).take k)).2=c at *
   generalize l.getD k 0=x at *
   have:(x+1)*2^s≤W*2^s:=Nat.mul_le_mul_right _ hx
   rw [Nat.add_mul,Nat.mul_comm W] at this
   omega
  ·rw [List.take_of_length_le (by omega)]
   rw [List.take_of_length_le (by omega)] at ih
   exact ih
theorem Oa (l:List Nat) (s:Nat):(shl l s).length=l.length:=by simp [shl,Ke]
theorem shl_lt (l:List Nat) (s:Nat):AllLt W (shl l s):=Q3b W (by decide) _ _
theorem Q6o (l:List Nat) (x s:Nat):shl (l++[x]) s=shl l s++[((cl W 0 (l.map (·*2^s))).2+x*2^s)%W] ∧
  (cl W 0 ((l++[x]).map (·*2^s))).2=((cl W 0 (l.map (·*2^s))).2+x*2^s)/W:=by
 unfold shl
 rw [List.map_append,List.map_cons,List.map_nil,Q63]
 exact ⟨rfl,rfl⟩
theorem Q7l (l:List Nat) (s:Nat) (h:(cl W 0 (l.map (·*2^s))).2=0):Qc W (shl l s)=Qc W l*2^s:=by
 have:=Ue W (l.map (·*2^s)) 0
 rw [h,Vo] at this
 unfold shl
 omega
theorem shl_x (X:List Nat) (s:Nat) (hs:s≤31) (hX:AllLt W X) :
  Qc W (shl (X++[0]) s)=Qc W X*2^s∧(shl (X++[0]) s).getD X.length 0<2^s:=by
 have hc:=Q08 X s hs hX X.length
 rw [List.take_of_length_le (by simp)] at hc
 have h31:(2:Nat)^s≤2^31:=Nat.pow_le_pow_right (by omega) hs
 have e31:(2:Nat)^31=2147483648:=by decide
 obtain ⟨h1,h2⟩:=Q6o X 0 s
 have hm:((cl W 0 (X.map (·*2^s))).2+0*2^s)%W=(cl W 0 (X.map (·*2^s))).2:=by rw [Nat.zero_mul,Nat.add_zero];exact Nat.mod_eq_of_lt (show _<4294967296 by omega)
 have hd:((cl W 0 (X.map (·*2^s))).2+0*2^s)/W=0:=by rw [Nat.zero_mul,Nat.add_zero];exact Nat.div_eq_of_lt (show _<4294967296 by omega)
 constructor
 ·rw [Q7l _ _ (h2.trans hd),Zh];simp
 ·rw [h1,hm,List.getD_eq_getElem?_getD,List.getElem?_append_right (by rw [Oa];omega),Oa,Nat.sub_self]
  exact hc
theorem shl_y (Y:List Nat) (y s:Nat) (hs:s≤31) (hY:AllLt W Y) (h1:y<2^(32-s)) (h2:2^(31-s)≤y) :
  Qc W (shl (Y++[y]) s)=Qc W (Y++[y])*2^s∧2147483648≤(shl (Y++[y]) s).getD Y.length 0:=by
 have hc:=Q08 Y s hs hY Y.length
 rw [List.take_of_length_le (by simp)] at hc
 obtain ⟨e1,e2⟩:=Q6o Y y s
 have hp:(2:Nat)^(32-s)*2^s=4294967296:=by rw [←Nat.pow_add];rw [show 32-s+s=32 by omega]
 have hp2:(2:Nat)^(31-s)*2^s=2147483648:=by rw [←Nat.pow_add];rw [show 31-s+s=31 by omega]
 have hlt:(cl W 0 (Y.map (·*2^s))).2+y*2^s<W:=by
  have:(y+1)*2^s≤2^(32-s)*2^s:=Nat.mul_le_mul_right _ h1
  rw [Nat.add_mul,hp] at this
  show _<4294967296
  omega
 have hge:2147483648≤y*2^s:=by rw [←hp2];exact Nat.mul_le_mul_right _ h2
 rw [Nat.mod_eq_of_lt hlt] at e1
 rw [Nat.div_eq_of_lt hlt] at e2
 constructor
 ·exact Q7l _ _ e2
 ·rw [e1,List.getD_eq_getElem?_getD,List.getElem?_append_right (by rw [Oa];omega),Oa,Nat.sub_self]
  simp;omega
def srw (s x y:Nat):Nat:=x/2^s+(y%2^s)*2^(32-s)
def sr (s:Nat):List Nat→List Nat
 | []=>[]
 | [x]=>[srw s x 0]
 | x::y::l=>srw s x y::sr s (y::l)
theorem Q0g (s:Nat):∀ l,(sr s l).length=l.length
 | []=>rfl
 | [_]=>rfl
 | x::y::l=>by simp [sr,Q0g s (y::l)]
theorem Q8j (s:Nat):∀ (l:List Nat) (i:Nat),i<l.length→(sr s l)[i]?=some (srw s (l.getD i 0) (l.getD (i+1) 0))
 | [x],i,h=>by obtain rfl:i=0:=by simpa using h
               simp [sr]
 | x::y::l,0,_=>by simp [sr]
 | x::y::l,i+1,h=>by
  have:=Q8j s (y::l) i (by simpa using h)
  simpa [sr] using this
theorem sr_digs (s:Nat) (hs:s≤32):∀ l,Qc W l=Qc W (sr s l)*2^s+l.getD 0 0%2^s
 | []=>by simp [sr,Qc]
 | [x]=>by
  simp only [sr,Qc,srw,Nat.zero_mod,Nat.zero_mul,Nat.add_zero,Nat.mul_zero]
  have:=Nat.div_add_mod x (2^s)
  rw [Nat.mul_comm] at this
  simpa using this.symm
 | x::y::l=>by
  have ih:=sr_digs s hs (y::l)
  have h1:=Nat.div_add_mod x (2^s)
  have hp:(2:Nat)^(32-s)*2^s=W:=by rw [←Nat.pow_add];rw [show 32-s+s=32 by omega]
  have e:Qc W (x::y::l)=x+W*Qc W (y::l):=rfl
  rw [e,ih]
  simp only [sr,Qc,srw,List.getD_cons_zero]
  generalize Qc W (sr s (y::l))=z at *
  generalize x/2^s=a at *
  generalize x%2^s=b at *
  generalize y%2^s=c at *
  generalize (2:Nat)^(32-s)=p at *
  generalize (2:Nat)^s=q at *
  rw [←h1,←hp]
  grind
theorem sr_div (s:Nat) (hs:s≤32) (l:List Nat):Qc W (sr s l)=Qc W l/2^s:=by
 have h1:=sr_digs s hs l
 have hp:0<2^s:=Nat.pow_pos (by omega)
 rw [h1,Nat.mul_comm,Nat.mul_add_div hp,Nat.div_eq_of_lt (Nat.mod_lt _ hp),Nat.add_zero]
theorem srw_lt (s x y:Nat) (hs:s≤32) (hx:x<W):srw s x y<W:=by
 unfold srw
 have hp:(2:Nat)^(32-s)*2^s=W:=by rw [←Nat.pow_add];rw [show 32-s+s=32 by omega]
 have h1:x/2^s<2^(32-s):=by rw [Nat.div_lt_iff_lt_mul (Nat.pow_pos (by omega)),hp];exact hx
 have h2:y%2^s<2^s:=Nat.mod_lt _ (Nat.pow_pos (by omega))
 have h3:(y%2^s+1)*2^(32-s)≤2^s*2^(32-s):=Nat.mul_le_mul_right _ h2
 rw [Nat.add_mul,Nat.mul_comm (2^s),hp] at h3
 omega
theorem sr_lt (s:Nat) (hs:s≤32) (l:List Nat) (hl:AllLt W l):AllLt W (sr s l):=by
 intro d hd
 rw [List.mem_iff_getElem?] at hd
 obtain ⟨i,hi⟩:=hd
 have hil:i<l.length:=by rw [←Q0g s l];exact (List.getElem?_eq_some_iff.1 hi).1
 rw [Q8j s l i hil] at hi
 obtain rfl:=Option.some.inj hi
 exact srw_lt s _ _ hs (hl.getD (by decide) i)
def srT (s n:Nat) (R:List Nat) (k:Nat):List Nat:=(sr s (R.take n)).take k++R.drop k
theorem Xl (s n:Nat) (R:List Nat) (hn:n≤R.length):(sr s (R.take n)).length=n:=by rw [Q0g,List.length_take];omega
theorem srT_get (s n:Nat) (R:List Nat) (hn:n≤R.length) (k j:Nat) (hk:k≤n) (hkj:k≤j) (hj:j<R.length):(srT s n R k)[j]?=some (R.getD j 0):=by
 have hl:=Xl s n R hn
 have hd:((sr s (R.take n)).take k).length=k:=by rw [List.length_take,hl];omega
 unfold srT
 rw [Og hd hkj,List.getD_eq_getElem?_getD,List.getElem?_eq_getElem hj]
 rfl
theorem srT_set (s n:Nat) (R:List Nat) (hn:n≤R.length) (k:Nat) (hk:k<n) :
  (srT s n R k).set k (srw s (R.getD k 0) ((R.take n).getD (k+1) 0))=srT s n R (k+1):=by
 have hl:=Xl s n R hn
 have hd:((sr s (R.take n)).take k).length=k:=by rw [List.length_take,hl];omega
 unfold srT
 rw [Xi hd (by omega),List.take_add_one,Q8j s _ k (by rw [List.length_take];omega)]
 rw [show (R.take n).getD k 0=R.getD k 0 by rw [Ya,if_pos hk]]
 rfl
theorem srT_zero (s n:Nat) (R:List Nat):srT s n R 0=R:=by simp [srT]
theorem srT_full (s n:Nat) (R:List Nat) (hn:n≤R.length):srT s n R n=sr s (R.take n)++R.drop n:=by
 unfold srT
 rw [List.take_of_length_le (by rw [Xl s n R hn];exact Nat.le_refl _)]
theorem Q1a (B:Nat) (R:List Nat) (n:Nat) (hn:n≤R.length) (h:Qc B R<B^n):Qc B (R.take n)=Qc B R:=by
 have h2:=J8 B (R.take n) (R.drop n)
 rw [List.take_append_drop,List.length_take,Nat.min_eq_left hn] at h2
 rcases Nat.eq_zero_or_pos (Qc B (R.drop n)) with h6 | h6
 ·rw [h6] at h2;simpa using h2.symm
 ·have:B^n*1≤B^n*Qc B (R.drop n):=Nat.mul_le_mul_left _ h6
  omega
theorem div_end (a b s n:Nat) (R Q SY:List Nat) (hs:s≤32) (hn:n≤R.length) (hl:SY.length=n) (hSY:AllLt W SY) (hlt:Qc W R<Qc W SY)
  (hr:Qc W R=a*2^s%(b*2^s)) (hq:Qc W Q=a*2^s/(b*2^s)):Qc W (sr s (R.take n))=a%b∧Qc W Q=a/b:=by
 have h1:=Kn (show 0<W by decide) hSY
 rw [hl] at h1
 have h2:=Q1a W R n hn (Nat.lt_trans hlt h1)
 constructor
 ·rw [sr_div s hs,h2,hr,Nat.mul_mod_mul_right,Nat.mul_div_cancel _ (Nat.pow_pos (by omega))]
 ·rw [hq,Nat.mul_div_mul_right _ _ (Nat.pow_pos (by omega))]
theorem srw_word (s x y:Nat) (h0:0<s) (hs:s≤31) (hx:x<4294967296) :
  bits BinOp.or IntKind.u32 ((x:Int)/2^s) ((y:Int)*2^(32-s)%4294967296)=(srw s x y:Nat):=by
 have hp:(2:Nat)^(32-s)*2^s=4294967296:=by rw [←Nat.pow_add];rw [show 32-s+s=32 by omega]
 have e1:(x:Int)/2^s=((x/2^s:Nat):Int):=by simp
 have e2:(y:Int)*2^(32-s)%4294967296=((y*2^(32-s)%4294967296:Nat):Int):=by simp
 have h1:x/2^s<2^(32-s):=by rw [Nat.div_lt_iff_lt_mul (Nat.pow_pos (by omega)),hp];exact hx
 have h2:y*2^(32-s)%4294967296=(y%2^s)*2^(32-s):=by
  rw [←hp,Nat.mul_comm y,Nat.mul_mod_mul_left,Nat.mul_comm]
 rw [e1,e2,u32_or_nat _ _ (Nat.lt_of_le_of_lt (Nat.div_le_self _ _) hx) (Nat.mod_lt _ (by decide)),h2,Vc _ _ _ h1]
 rfl
theorem srw_zero (x y:Nat):srw 0 x y=x:=by simp [srw,Nat.mod_one]
theorem srw_last (s x:Nat):srw s x 0=x/2^s:=by simp [srw]
end Num
end
/- Decimal forms: plain laws. -/
section
namespace Num
def decL (n:Nat):List Nat:=if n=0 then [48] else ((Qa 10 n).map (·+48)).reverse
def dec (n:Nat):ByteArray:=Aj (decL n)
end Num
end
/- What Text does: plain laws. -/
section
namespace Num
theorem Q22 (p q j:Nat):(p+10^(j+1)*q)%10=p%10∧(p+10^(j+1)*q)/10=p/10+10^j*q:=by
 rw [Nat.pow_succ,Nat.mul_comm (10^j) 10,Nat.mul_assoc]
 generalize 10^j*q=z
 omega
theorem text_step (out:List Nat) (N p q j:Nat) (h:Qa 10 N=out++Qa 10 (p+10^(j+1)*q)) (hp:0<p∨0<q) :
  Qa 10 N=(out++[p%10])++Qa 10 (p/10+10^j*q):=by
 have hpos:0<p+10^(j+1)*q:=by
  rcases hp with hp | hp
  ·omega
  ·have:=Nat.mul_pos (Nat.pow_pos (n:=j+1) (show 0<10 by omega)) hp
   omega
 rw [Yc (by omega) hpos,(Q22 p q j).1,(Q22 p q j).2] at h
 rw [h,List.append_assoc];rfl
theorem Q8q (p j:Nat) (h:p<10^(j+1)):p/10<10^j:=by
 rw [Nat.pow_succ] at h
 omega
theorem U9 (l:List Nat) (h:Canon l):0<Qc W l↔0<l.length:=by
 constructor
 ·intro h1
  rcases Nat.eq_zero_or_pos l.length with h2 | h2
  ·rw [List.eq_nil_of_length_eq_zero h2] at h1;simp [Qc] at h1
  ·exact h2
 ·intro h1
  exact Xk (by decide) h (by intro e;rw [e] at h1;simp at h1)
theorem Wt (cells:List Nat) (n:Nat) (hn:n≤cells.length) (h:n=0∨cells.getD (n-1) 0≠0):Canon (cells.take n):=by
 unfold Canon
 by_cases h0:n=0
 ·subst h0;simp
 ·rw [List.getLast?_take,if_neg h0,List.getElem?_eq_getElem (by omega)]
  rcases h with h | h
  ·exact absurd h h0
  ·rw [List.getD_eq_getElem?_getD,List.getElem?_eq_getElem (by omega)] at h
   simpa using h
theorem W0 (cells:List Nat) (n:Nat) (hn:n+1≤cells.length) (h:cells.getD n 0=0):Qc W (cells.take (n+1))=Qc W (cells.take n):=by
 rw [Ye _ _ (by omega),h];simp
theorem text_dec (N:Nat) (out:List Nat) (h:Qa 10 N=out):decL N=if out=[] then [48] else (out.map (·+48)).reverse:=by
 unfold decL
 by_cases h0:N=0
 ·subst h0
  rw [←h,Ym];rfl
 ·rw [if_neg h0,h,if_neg]
  intro e
  rw [e] at h
  exact h0 ((Ku (by omega)).1 h)
end Num
end
end Go.Proofs.YtcpehljpegfckaaGreatDoor
