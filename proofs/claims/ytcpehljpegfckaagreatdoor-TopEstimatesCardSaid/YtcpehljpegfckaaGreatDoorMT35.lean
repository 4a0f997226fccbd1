/- Texts of this claim,joined: CH,CI,CJ,CM,CQ. -/
import Derived.Test.YtcpehljpegfckaaGreatDoorMT01
import Derived.Test.YtcpehljpegfckaaGreatDoorMT10
import Derived.Test.YtcpehljpegfckaaGreatDoorMT34
/- Numbers and pairs of numbers as semirings,in plain Lean: models counted,and those with an odd part counted apart. -/
namespace Go.Proofs.YtcpehljpegfckaaGreatDoor
section
def natS:Sr Nat:=⟨0,1,(·+·),(·*·),Nat.add_comm,Nat.add_assoc,Nat.mul_comm,Nat.mul_assoc,Nat.mul_add,Nat.one_mul,Nat.zero_mul,Nat.zero_add⟩
def pairS:Sr (Nat × Nat) where
 zero:=(0,0)
 one:=(1,0)
 add a b:=(a.1+b.1,a.2+b.2)
 mul a b:=(a.1*b.1+a.2*b.2,a.1*b.2+a.2*b.1)
 addC a b:=by rw [Nat.add_comm a.1,Nat.add_comm a.2]
 addA a b c:=by simp only [Nat.add_assoc]
 mulC a b:=by
  apply Prod.ext
  ·show a.1*b.1+a.2*b.2=b.1*a.1+b.2*a.2
   rw [Nat.mul_comm a.1,Nat.mul_comm a.2]
  ·show a.1*b.2+a.2*b.1=b.1*a.2+b.2*a.1
   rw [Nat.mul_comm a.1,Nat.mul_comm a.2,Nat.add_comm]
 mulA a b c:=by
  apply Prod.ext
  ·show (a.1*b.1+a.2*b.2)*c.1+(a.1*b.2+a.2*b.1)*c.2=a.1*(b.1*c.1+b.2*c.2)+a.2*(b.1*c.2+b.2*c.1)
   grind
  ·show (a.1*b.1+a.2*b.2)*c.2+(a.1*b.2+a.2*b.1)*c.1=a.1*(b.1*c.2+b.2*c.1)+a.2*(b.1*c.1+b.2*c.2)
   grind
 dist a b c:=by
  apply Prod.ext
  ·show a.1*(b.1+c.1)+a.2*(b.2+c.2)=(a.1*b.1+a.2*b.2)+(a.1*c.1+a.2*c.2)
   grind
  ·show a.1*(b.2+c.2)+a.2*(b.1+c.1)=(a.1*b.2+a.2*b.1)+(a.1*c.2+a.2*c.1)
   grind
 oneM a:=by simp
 zeroM a:=by simp
 zeroA a:=by simp
def w1:Nat→Bool→Nat:=fun _ _=>1
abbrev cntT (vs:List Nat) (f:Asg→Bool) (a:Asg):Nat:=tot natS w1 vs f a
theorem Zy (v:Nat) (vs:List Nat) (f:Asg→Bool) (a:Asg):cntT (v::vs) f a=cntT vs f (upd a v false)+cntT vs f (upd a v true):=by
 show 1*_+1*_=_
 rw [Nat.one_mul,Nat.one_mul]
theorem Q93 {R:Type} (S:Sr R) (w:Nat→Bool→R) {f g:Asg→Bool}:∀ (vs:List Nat) (a:Asg),(∀ b:Asg,(∀ u,u∉vs→b u=a u)→f b=g b)→tot S w vs f a=tot S w vs g a
 | [],a,h=>by
  show Ok S (f a)=Ok S (g a)
  rw [h a fun _ _=>rfl]
 | v::vs,a,h=>by
  have key:∀ c,tot S w vs f (upd a v c)=tot S w vs g (upd a v c):=fun c=>Q93 S w vs _ fun b hb=>h b fun u hu=>by
   rw [hb u (fun e=>hu (by simp [e]))]
   unfold upd
   rw [if_neg (fun e=>hu (by simp [e]))]
  rw [Yj,Yj,key,key]
def Kx (odd:Nat→Bool) (vs:List Nat) (a:Asg):Bool:=vs.foldr (fun v r=>(odd v&&a v) != r) false
def Yl (odd:Nat→Bool):Nat→Bool→Nat × Nat:=fun v c=>if c&&odd v then (0,1) else (1,0)
theorem Q7m (odd:Nat→Bool) (f:Asg→Bool):∀ (vs:List Nat) (a:Asg),vs.Nodup→tot pairS (Yl odd) vs f a=(cntT vs (fun b=>f b&&!Kx odd vs b) a,cntT vs (fun b=>f b&&Kx odd vs b) a)
 | [],a,_=>by
  show Ok pairS (f a)=(Ok natS (f a&&!false),Ok natS (f a&&false))
  cases f a<;>rfl
 | v::vs,a,hn=>by
  rw [List.nodup_cons] at hn
  have ih:=fun c=>Q7m odd f vs (upd a v c) hn.2
  have hv:∀ (c:Bool) (b:Asg),(∀ u,u∉vs→b u=upd a v c u)→b v=c:=fun c b hb=>by
   rw [hb v hn.1];unfold upd;rw [if_pos rfl]
  have e0:∀ (q:Bool→Bool),cntT vs (fun b=>f b&&q (Kx odd (v::vs) b)) (upd a v false)=cntT vs (fun b=>f b&&q (Kx odd vs b)) (upd a v false):=fun q=>Q93 _ _ vs _ fun b hb=>by
   have:=hv false b hb
   simp [Kx,this]
  have e1:∀ (q:Bool→Bool),cntT vs (fun b=>f b&&q (Kx odd (v::vs) b)) (upd a v true)=cntT vs (fun b=>f b&&q (odd v != Kx odd vs b)) (upd a v true):=fun q=>Q93 _ _ vs _ fun b hb=>by
   have:=hv true b hb
   simp [Kx,this]
  rw [Yj,ih,ih,Zy,Zy]
  have a1:=e0 (fun x=>!x)
  have a2:=e0 (fun x=>x)
  have b1:=e1 (fun x=>!x)
  have b2:=e1 (fun x=>x)
  rw [a1,a2,b1,b2]
  cases ho:odd v with
  | false =>
   simp only [Bool.false_bne]
   simp [Yl,ho,pairS]
  | true =>
   simp only [Bool.true_bne,Bool.not_not]
   simp [Yl,ho,pairS]
/-! ### Points -/
def Y5 (p:Nat):Asg:=fun v=>p.testBit (v-1)
theorem Q2r (b:Nat→Bool) (k:Nat):∀ m,Je b (k+m)=Je b k+Je (fun p=>b (k+p)) m
 | 0=>rfl
 | m+1=>by rw [←Nat.add_assoc,Je,Je,Q2r b k m];omega
theorem Zc {b c:Nat→Bool}:∀ {k:Nat},(∀ p,p<k→b p=c p)→Je b k=Je c k
 | 0,_=>rfl
 | k+1,h=>by rw [Je,Je,Zc fun p hp=>h p (by omega),h k (by omega)]
theorem Q0a (v:Nat) (f:Asg→Bool):∀ (vs:List Nat) (a:Asg),v∉vs→cntT (vs++[v]) f a=cntT vs (fun b=>f (upd b v false)) a+cntT vs (fun b=>f (upd b v true)) a
 | [],a,_=>by rw [List.nil_append,Zy];rfl
 | u::vs,a,h=>by
  have h1:v∉vs:=fun e=>h (by simp [e])
  rw [List.cons_append,Zy,Zy,Zy,Q0a v f vs _ h1,Q0a v f vs _ h1]
  omega
theorem Zz:∀ (n:Nat) (f:Asg→Bool) (a:Asg),Dep f (fun v=>decide (1≤v∧v≤n))→cntT (List.range' 1 n) f a=Je (fun p=>f (Y5 p)) (2^n)
 | 0,f,a,hf=>by
  show Ok natS (f a)=0+(if f (Y5 0) then 1 else 0)
  rw [hf a (Y5 0) fun v hv=>by simp at hv;omega,Nat.zero_add]
  rfl
 | n+1,f,a,hf=>by
  have hd:∀ c,Dep (fun b=>f (upd b (n+1) c)) (fun v=>decide (1≤v∧v≤n)):=fun c x y hxy=>hf _ _ fun v hv=>by
   unfold upd
   by_cases e:v=n+1
   ·rw [if_pos e,if_pos e]
   ·rw [if_neg e,if_neg e]
    exact hxy v (by simp at hv ⊢;omega)
  have e:List.range' 1 (n+1)=List.range' 1 n++[n+1]:=by
   rw [List.range'_1_concat,Nat.add_comm 1 n]
  rw [e,Q0a (n+1) f _ a (by simp [List.mem_range'_1];omega),Zz n _ a (hd false),Zz n _ a (hd true),Nat.pow_succ,Nat.mul_two,Q2r]
  congr 1
  ·refine Zc fun p hp=>hf _ _ fun v hv=>?_
   simp at hv
   unfold upd Y5
   by_cases ev:v=n+1
   ·rw [if_pos ev,ev,show n+1-1=n from rfl,Nat.testBit_lt_two_pow hp]
   ·rw [if_neg ev]
  ·refine Zc fun p hp=>hf _ _ fun v hv=>?_
   simp at hv
   unfold upd Y5
   by_cases ev:v=n+1
   ·rw [if_pos ev,ev,show n+1-1=n from rfl,Nat.testBit_two_pow_add_eq,Nat.testBit_lt_two_pow hp];rfl
   ·rw [if_neg ev,Nat.testBit_two_pow_add_gt (by omega)]
end
/- The cell of parities,in plain Lean: sums over subsets of the parities. -/
section
def Q1u (b:Bool):Int:=if b then -1 else 1
theorem chi_xor (a b:Bool):Q1u (a != b)=Q1u a*Q1u b:=by cases a<;>cases b<;>rfl
def Xt:List Bool→Nat→Bool
 | [],_=>false
 | b::rs,s=>(s.testBit 0&&b) != Xt rs (s/2)
theorem Q85 (b:Bool):∀ (rs:List Bool) (s:Nat),Xt (rs++[b]) s=(Xt rs s != (s.testBit rs.length&&b))
 | [],s=>by simp [Xt]
 | c::rs,s=>by
  rw [List.cons_append,Xt,Xt,Q85 b rs,List.length_cons,←Nat.testBit_div_two]
  cases (s.testBit 0&&c)<;>cases Xt rs (s/2)<;>cases ((s/2).testBit rs.length&&b)<;>rfl
theorem Q17 (f:Nat→Int):∀ k,Jo f (2*k)=Jo (fun s=>f (2*s)+f (2*s+1)) k
 | 0=>rfl
 | k+1=>by
  show Jo f (2*k+1+1)=_
  rw [Jo,Jo,Jo,Q17 f k]
  omega
theorem sel_sum:∀ rs:List Bool,Jo (fun s=>Q1u (Xt rs s)) (2^rs.length)=if rs.all (fun b=>!b) then ((2^rs.length:Nat):Int) else 0
 | []=>rfl
 | b::rs=>by
  rw [List.length_cons,Nat.pow_succ,Nat.mul_comm,Q17]
  have e:∀ s,Q1u (Xt (b::rs) (2*s))+Q1u (Xt (b::rs) (2*s+1))=(1+Q1u b)*Q1u (Xt rs s):=fun s=>by
   have h1:Xt (b::rs) (2*s)=Xt rs s:=by
    rw [Xt,show (2*s).testBit 0=false by simp,show 2*s/2=s by omega];simp
   have h2:Xt (b::rs) (2*s+1)=(b != Xt rs s):=by
    rw [Xt,show (2*s+1).testBit 0=true by simp,show (2*s+1)/2=s by omega];simp
   rw [h1,h2,chi_xor,Int.add_mul,Int.one_mul]
  rw [Yb (fun s _=>e s),Xr,sel_sum rs,List.all_cons]
  cases b with
  | true=>simp [Q1u]
  | false =>
   simp only [Bool.not_false,Bool.true_and]
   split
   ·show (1+1)*_=_
    rw [Int.natCast_mul];rfl
   ·simp
theorem Q4e (f:Nat→Nat→Int) (K:Nat):∀ k,Jo (fun s=>Jo (f s) K) k=Jo (fun p=>Jo (fun s=>f s p) k) K
 | 0=>by
  show 0=Jo (fun _=>0) K
  rw [Vk];simp
 | k+1=>by
  rw [Jo,Q4e f K k,←V6]
  rfl
theorem subsets (f:Nat→Bool) (K r:Nat) (un:Nat→List Bool) (hr:∀ p,(un p).length=r) :
  Jo (fun s=>(Je (fun p=>f p&&!Xt (un p) s) K:Int)-(Je (fun p=>f p&&Xt (un p) s) K:Int)) (2^r)=(2^r:Nat)*(Je (fun p=>f p&&(un p).all fun b=>!b) K:Int):=by
 have e:∀ s,(Je (fun p=>f p&&!Xt (un p) s) K:Int)-(Je (fun p=>f p&&Xt (un p) s) K:Int)=Jo (fun p=>(if f p then 1 else 0)*Q1u (Xt (un p) s)) K:=fun s=>by
  rw [←Vl,←Vl]
  have:∀ p,(if f p then (1:Int) else 0)*Q1u (Xt (un p) s)=(if f p&&!Xt (un p) s then 1 else 0)+(-1)*(if f p&&Xt (un p) s then 1 else 0):=fun p=>by
   cases f p<;>cases Xt (un p) s<;>rfl
  rw [Yb (fun p _=>this p),V6,Xr]
  omega
 rw [Yb (fun s _=>e s),Q4e,←Vl,←Xr]
 refine Yb fun p _=>?_
 rw [Xr]
 have h:=sel_sum (un p)
 rw [hr p] at h
 rw [h]
 cases f p<;>cases (un p).all (fun b=>!b)<;>simp
/-! ### The estimates -/
theorem Ah (v:Nat):1≤2^v:=Nat.pow_pos (by omega)
theorem Q8f (f:Nat→Bool) (g:Nat→Int):∀ k,Js g ((List.range k).filter f)=Jo (fun p=>(if f p then 1 else 0)*g p) k:=by
 have app:∀ (M N:List Nat),Js g (M++N)=Js g M+Js g N:=fun M N=>by
  induction M with
  | nil=>simp [Js]
  | cons p M ih=>rw [List.cons_append,Js,Js,ih];omega
 intro k
 induction k with
 | zero=>rfl
 | succ k ih =>
  rw [List.range_succ,List.filter_append,app,ih,Jo]
  cases hf:f k<;>simp [hf,Js]
theorem Q9j (f:Nat→Bool):∀ k,((List.range k).filter f).length=Je f k:=by
 intro k
 induction k with
 | zero=>rfl
 | succ k ih =>
  rw [List.range_succ,List.filter_append,List.length_append,ih,Je]
  cases hf:f k<;>simp [hf]
theorem Q3e {n m:Nat} (h:Q2i n m) (f:Nat→Bool) (x:Nat→Nat) (hx:∀ s,s<2^(m*(n+1))→x s=2^m*Je (fun p=>f p&&Va n m s p) (2^n)) (a b:Nat) :
  Jo (fun s=>(x s:Int)) (2^(m*(n+1)))=(Je f (2^n):Nat)*(2^(m*(n+1)):Nat) ∧
  (0<Je f (2^n)→Je (fun s=>decide (Je f (2^n)*a≤(if x s≤Je f (2^n) then Je f (2^n)-x s else x s-Je f (2^n))*b)) (2^(m*(n+1)))*a*a*Je f (2^n)≤2^(m*(n+1))*(2^m-1)*b*b):=by
 have hm:=Q7o h ((List.range (2^n)).filter f) (List.Pairwise.sublist List.filter_sublist List.nodup_range) (fun p hp=>by simpa using (List.mem_filter.1 hp).1)
 rw [Q9j] at hm
 generalize hc:Je f (2^n)=c at *
 have hxs:∀ s,s<2^(m*(n+1))→(x s:Int)=(2^m:Nat)*Js (ioI n m s) ((List.range (2^n)).filter f):=fun s hs=>by
  rw [hx s hs,Q8f,Int.natCast_mul,←Vl]
  congr 1
  refine Yb fun p _=>?_
  unfold ioI
  cases f p<;>cases Va n m s p<;>rfl
 have h1:Jo (fun s=>(x s:Int)) (2^(m*(n+1)))=c*(2^(m*(n+1)):Nat):=by
  rw [Yb hxs];exact hm.1
 refine ⟨h1,fun hpos=>?_⟩
 have h2:Jo (fun s=>((x s:Int)-c)*((x s:Int)-c)) (2^(m*(n+1)))=(c:Int)*(2^(m*(n+1)):Nat)*((2^m:Nat)-1):=by
  rw [Yb (fun s hs=>by rw [hxs s hs])];exact hm.2
 have h3:=Q6z (fun s=>(x s:Int)) (2^(m*(n+1))) ((2^m:Nat):Int) c a b (by omega) (by omega) h2 (fun s=>decide (c*a≤(if x s≤c then c-x s else x s-c)*b)) (fun s hs=>by
  have h4:=of_decide_eq_true hs
  have h5:((c*a:Nat):Int)≤(((if x s≤c then c-x s else x s-c)*b:Nat):Int):=by omega
  rw [Int.natCast_mul,Int.natCast_mul] at h5
  refine Int.le_trans h5 (Int.le_of_eq ?_)
  congr 1
  by_cases hle:x s≤c
  ·rw [if_pos hle,if_pos (by omega)];omega
  ·rw [if_neg hle,if_neg (by omega)];omega)
 have h6:=Ah m
 have e:((2^m:Nat):Int)-1=((2^m-1:Nat):Int):=by omega
 rw [e] at h3
 simp only [←Int.natCast_mul] at h3
 omega
end
/- Parities reduced,in plain Lean. -/
section
structure Pa where
 vs:Nat→Bool
 odd:Bool
def unP (a:Asg) (p:Pa):Bool:=Kx p.vs (List.range' 1 128) a != p.odd
def Yy (p q:Pa):Pa:=⟨fun v=>p.vs v != q.vs v,p.odd != q.odd⟩
def noneP:Pa:=⟨fun _=>false,false⟩
theorem xor_id:∀ x y z u t:Bool,(((x != y)&&z) != (u != t))=(((x&&z) != u) != ((y&&z) != t)):=by decide
theorem Q78 (o p:Nat→Bool) (a:Asg):∀ vs:List Nat,Kx (fun v=>o v != p v) vs a=(Kx o vs a != Kx p vs a)
 | []=>rfl
 | v::vs=>by
  have ih:=Q78 o p a vs
  unfold Kx at ih ⊢
  rw [List.foldr_cons,List.foldr_cons,List.foldr_cons,ih]
  exact xor_id _ _ _ _ _
theorem Q8x (a:Asg) (p q:Pa):unP a (Yy p q)=(unP a p != unP a q):=by
 unfold unP Yy
 rw [Q78]
 cases Kx p.vs (List.range' 1 128) a<;>cases Kx q.vs (List.range' 1 128) a<;>cases p.odd<;>cases q.odd<;>rfl
theorem Ur (a:Asg) (o:Nat→Bool):∀ vs:List Nat,(∀ v∈vs,o v=false)→Kx o vs a=false
 | [],_=>rfl
 | v::vs,h=>by
  have ih:=Ur a o vs fun u hu=>h u (by simp [hu])
  unfold Kx at ih ⊢
  rw [List.foldr_cons,ih,h v (by simp)];rfl
def J9 (p:Pa):Nat:=((List.range' 1 128).find? p.vs).getD 0
def Oq (p:Pa):Bool:=J9 p == 0&&!p.odd
theorem Q1x {p:Pa} (h:J9 p=0):∀ v∈List.range' 1 128,p.vs v=false:=fun v hv=>by
 unfold J9 at h
 cases hf:(List.range' 1 128).find? p.vs with
 | none=>simpa using List.find?_eq_none.1 hf v hv
 | some u =>
  rw [hf] at h
  have:=List.mem_of_find?_eq_some hf
  simp [List.mem_range'_1] at this h
  omega
theorem Q5n {p:Pa} (h:J9 p=0) (a:Asg):unP a p=p.odd:=by
 unfold unP
 rw [Ur a p.vs _ (Q1x h)]
 cases p.odd<;>rfl
def Zl:Nat→List Pa→List Pa→Option (List Pa)
 | 0,_,out=>some out
 | _+1,[],out=>some out
 | f+1,p::rs,out=>if J9 p=0∧p.odd=true then none else
  Zl f ((rs.map fun q=>if J9 p≠0∧q.vs (J9 p)=true then Yy p q else q).filter fun q=>!Oq q) (if J9 p=0 then out else out++[p])
def Zv (a:Asg) (l:List Pa):Prop:=∀ p∈l,unP a p=false
theorem Q5b (a:Asg) (l m:List Pa):Zv a (l++m)↔Zv a l∧Zv a m:=by
 unfold Zv
 constructor
 ·exact fun h=>⟨fun p hp=>h p (by simp [hp]),fun p hp=>h p (by simp [hp])⟩
 ·exact fun h p hp=>(List.mem_append.1 hp).elim (h.1 p) (h.2 p)
theorem Q5e:∀ (f:Nat) (rest out:List Pa),rest.length≤f→(∀ o,Zl f rest out=some o→∀ a,Zv a o↔Zv a (out++rest))∧(Zl f rest out=none→∀ a,¬ Zv a (out++rest))
 | 0,rest,out,h=>by
  have:rest=[]:=List.length_eq_zero_iff.1 (by omega)
  subst this
  refine ⟨fun o ho a=>?_,fun ho=>by cases ho⟩
  obtain rfl:out=o:=Option.some.inj ho
  simp
 | f+1,[],out,h=>by
  refine ⟨fun o ho a=>?_,fun ho=>by cases ho⟩
  obtain rfl:out=o:=Option.some.inj ho
  simp
 | f+1,p::rs,out,h=>by
  by_cases hb:J9 p=0∧p.odd=true
  ·have e:Zl (f+1) (p::rs) out=none:=by rw [Zl,if_pos hb]
   rw [e]
   refine ⟨fun o ho=>(by cases ho),fun _ a hs=>?_⟩
   have:=hs p (by simp)
   rw [Q5n hb.1,hb.2] at this
   cases this
  ·have e:Zl (f+1) (p::rs) out=Zl f ((rs.map fun q=>if J9 p≠0∧q.vs (J9 p)=true then Yy p q else q).filter fun q=>!Oq q) (if J9 p=0 then out else out++[p]):=by rw [Zl,if_neg hb]
   rw [e]
   have hlen:((rs.map fun q=>if J9 p≠0∧q.vs (J9 p)=true then Yy p q else q).filter fun q=>!Oq q).length≤f:=by
    refine Nat.le_trans (List.length_filter_le _ _) ?_
    rw [List.length_map]
    simp at h;omega
   have ih:=Q5e f _ (if J9 p=0 then out else out++[p]) hlen
   have key:∀ a,Zv a ((if J9 p=0 then out else out++[p])++((rs.map fun q=>if J9 p≠0∧q.vs (J9 p)=true then Yy p q else q).filter fun q=>!Oq q))↔Zv a (out++p::rs):=fun a=>by
    rw [Q5b,Q5b]
    have hp:Zv a (if J9 p=0 then out else out++[p])↔Zv a out∧unP a p=false:=by
     by_cases h0:J9 p=0
     ·rw [if_pos h0]
      have:p.odd=false:=by
       cases ho:p.odd with
       | false=>rfl
       | true=>exact (hb ⟨h0,ho⟩).elim
      exact ⟨fun h=>⟨h,by rw [Q5n h0,this]⟩,fun h=>h.1⟩
     ·rw [if_neg h0,Q5b]
      exact ⟨fun h=>⟨h.1,h.2 p (by simp)⟩,fun h=>⟨h.1,fun q hq=>by rw [show q=p by simpa using hq];exact h.2⟩⟩
    rw [hp]
    have hr:unP a p=false→(Zv a ((rs.map fun q=>if J9 p≠0∧q.vs (J9 p)=true then Yy p q else q).filter fun q=>!Oq q)↔Zv a rs):=fun hu=>by
     constructor
     ·intro h q hq
      have e:unP a (if J9 p≠0∧q.vs (J9 p)=true then Yy p q else q)=unP a q:=by
       split
       ·rw [Q8x,hu];simp
       ·rfl
      by_cases hz:Oq (if J9 p≠0∧q.vs (J9 p)=true then Yy p q else q)=true
      ·generalize (if J9 p≠0∧q.vs (J9 p)=true then Yy p q else q)=q' at *
       unfold Oq at hz
       simp only [Bool.and_eq_true,beq_iff_eq,Bool.not_eq_true'] at hz
       rw [←e,Q5n hz.1,hz.2]
      ·rw [←e]
       exact h _ (List.mem_filter.2 ⟨List.mem_map.2 ⟨q,hq,rfl⟩,by simpa using hz⟩)
     ·intro h q hq
      obtain ⟨q0,hq0,rfl⟩:=List.mem_map.1 (List.mem_filter.1 hq).1
      split
      ·rw [Q8x,hu,h q0 hq0];rfl
      ·exact h q0 hq0
    constructor
    ·rintro ⟨⟨h1,h2⟩,h3⟩
     refine ⟨h1,fun q hq=>?_⟩
     rcases List.mem_cons.1 hq with rfl | hq
     ·exact h2
     ·exact (hr h2).1 h3 q hq
    ·rintro ⟨h1,h2⟩
     have hu:=h2 p (by simp)
     exact ⟨⟨h1,hu⟩,(hr hu).2 fun q hq=>h2 q (by simp [hq])⟩
   exact ⟨fun o ho a=>(ih.1 o ho a).trans (key a),fun ho a hs=>ih.2 ho a ((key a).2 hs)⟩
end
/- The values of the nodes of a net: they exist,and those of numbers and pairs of numbers are small. -/
section
theorem Ve {α β:Type} {f g:β→α→β}:∀ (l:List α) (b:β),(∀ x∈l,∀ b,f b x=g b x)→l.foldl f b=l.foldl g b
 | [],_,_=>rfl
 | x::l,b,h=>by rw [List.foldl_cons,List.foldl_cons,h x (by simp),Ve l _ fun y hy=>h y (by simp [hy])]
section
variable {R:Type} (S:Sr R) (w:Nat→Bool→R)
theorem valN_cong {n i:Nat} {ns:List Nd} {x:Nd} (hk:NdOk n i x) {vs us:List R} (h:∀ k,k<i→vs.getD k S.zero=us.getD k S.zero):Q3c S w n ns vs i x=Q3c S w n ns us i x:=by
 unfold Q3c
 rw [Ve (f:=fun r k=>S.mul r (vs.getD k.toNat S.zero)) (g:=fun r k=>S.mul r (us.getD k.toNat S.zero)) x.ins S.one (fun k hk2 b=>by rw [h _ (hk.ins k hk2).2]),
  Ve (f:=fun r k=>S.add r (S.mul (vs.getD k.toNat S.zero) (Kh S w (inV n fun v=>Ql ns i v&&!Ql ns k.toNat v)))) (g:=fun r k=>S.add r (S.mul (us.getD k.toNat S.zero) (Kh S w (inV n fun v=>Ql ns i v&&!Ql ns k.toNat v)))) x.ins S.zero (fun k hk2 b=>by rw [h _ (hk.ins k hk2).2])]
def Oo (n:Nat) (ns:List Nd):List R:=upL (fun acc x=>Q3c S w n ns acc acc.length x) ns
theorem Ow {n:Nat} {ns:List Nd} (hn:Ze n ns):Vals S w n ns (Oo S w n ns):=by
 refine ⟨Q1z _ ns,fun i x hx=>?_⟩
 have hi:=(List.getElem?_eq_some_iff.1 hx).1
 have h:=Q9i (fun acc x=>Q3c S w n ns acc acc.length x) ns hx S.zero
 have hl:i<(Oo S w n ns).length:=by rw [Oo,Q1z];exact hi
 have e:(Oo S w n ns)[i]?=some ((Oo S w n ns).getD i S.zero):=by rw [List.getD_eq_getElem?_getD,List.getElem?_eq_getElem hl];rfl
 rw [e]
 congr 1
 refine h.trans ?_
 show Q3c S w n ns _ (List.length _) x=_
 rw [List.length_take,Q1z,Nat.min_eq_left (Nat.le_of_lt hi)]
 exact valN_cong S w (hn i x hx) fun k hk=>Vp _ hk _
theorem Q7z {n i:Nat} {ns:List Nd} {x:Nd} (hn:Ze n ns) (hx:ns[i]?=some x):(Oo S w n ns).getD i S.zero=Q3c S w n ns (Oo S w n ns) i x:=by
 rw [List.getD_eq_getElem?_getD,(Ow S w hn).2 i x hx];rfl
theorem Wz (n:Nat) (o:Nat→Bool):(inV n o).length≤n:=by
 have h:=List.length_filter_le o (List.range' 1 n)
 rw [List.length_range'] at h
 exact h
variable {n:Nat} {ns:List Nd} {i:Nat} {x:Nd} (hn:Ze n ns) (hD:Zm ns) (hT:Xq ns) (hx:ns[i]?=some x)
include hn hD hT hx
theorem and_pre (k3:x.k=3) (a:Asg) (t:Nat):∃ L f,L.length≤n∧(x.ins.take t).foldl (fun r k=>S.mul r ((Oo S w n ns).getD k.toNat S.zero)) S.one=tot S w L f a:=by
 have hi:=(List.getElem?_eq_some_iff.1 hx).1
 have hk:=hn i x hx
 have hlt:∀ k∈x.ins,k.toNat<i:=fun k h=>(hk.ins k h).2
 have hm:∀ k∈x.ins.take t,k∈x.ins:=fun k h=>List.mem_of_mem_take h
 have h:=Q2z S w n ns (Oo S w n ns) a (x.ins.take t) (fun _=>true) (fun _=>false) (Dep.const _ _) (fun k h=>Wy hn _ (by have:=hlt k (hm k h);omega)) (fun k _ v hv=>by cases hv) ((hD i _ hx k3).sublist (List.take_sublist _ _))
  (fun k h=>Ay S w hn hD hT (Ow S w hn) a _ (by have:=hlt k (hm k h);omega))
 rw [show inV n (fun _=>false)=[] from List.filter_eq_nil_iff.2 fun x _=>by simp] at h
 exact ⟨_,_,Wz _ _,h⟩
theorem or_pre (k4:x.k=4) (a:Asg) (t:Nat):∃ L f,L.length≤n∧(x.ins.take t).foldl (fun r k=>S.add r (S.mul ((Oo S w n ns).getD k.toNat S.zero) (Kh S w (inV n fun v=>Ql ns i v&&!Ql ns k.toNat v)))) S.zero=tot S w L f a:=by
 have hi:=(List.getElem?_eq_some_iff.1 hx).1
 have hk:=hn i x hx
 have hlt:∀ k∈x.ins,k.toNat<i:=fun k h=>(hk.ins k h).2
 have hm:∀ k∈x.ins.take t,k∈x.ins:=fun k h=>List.mem_of_mem_take h
 have h:=Q58 S w n ns (Oo S w n ns) a (Ql ns i) (x.ins.take t) (fun _=>false) (fun k h=>Wy hn _ (by have:=hlt k (hm k h);omega)) (fun k h v hv=>by
   rw [U3 hx hk,Bool.or_eq_true]
   exact .inr (List.any_eq_true.2 ⟨k,hm k h,hv⟩)) (fun k _ a h=>by cases h.1) ((hT i _ hx k4).sublist (List.take_sublist _ _))
  (fun k h=>Ay S w hn hD hT (Ow S w hn) a _ (by have:=hlt k (hm k h);omega))
 rw [Hu] at h
 exact ⟨_,_,Wz _ _,h⟩
theorem val_tot (a:Asg):∃ L f,L.length≤n∧(Oo S w n ns).getD i S.zero=tot S w L f a :=
 ⟨_,_,Wz _ _,Ay S w hn hD hT (Ow S w hn) a i (List.getElem?_eq_some_iff.1 hx).1⟩
end
/-! ### Numbers and pairs are small -/
theorem Hr (f:Asg→Bool):∀ (L:List Nat) (a:Asg),tot natS w1 L f a≤2^L.length
 | [],a=>by
  show Ok natS (f a)≤1
  cases f a<;>decide
 | v::L,a=>by
  have h1:=Hr f L (upd a v false)
  have h2:=Hr f L (upd a v true)
  have e:=Zy v L f a
  unfold cntT at e
  rw [e,List.length_cons,Nat.pow_succ]
  omega
theorem Oz (odd:Nat→Bool) (f:Asg→Bool):∀ (L:List Nat) (a:Asg),(tot pairS (Yl odd) L f a).1≤2^L.length∧(tot pairS (Yl odd) L f a).2≤2^L.length
 | [],a=>by
  show (Ok pairS (f a)).1≤1∧(Ok pairS (f a)).2≤1
  cases f a<;>decide
 | v::L,a=>by
  have h1:=Oz odd f L (upd a v false)
  have h2:=Oz odd f L (upd a v true)
  rw [Yj,List.length_cons,Nat.pow_succ]
  generalize tot pairS (Yl odd) L f (upd a v false)=p at *
  generalize tot pairS (Yl odd) L f (upd a v true)=q at *
  have e1:pairS.mul (Yl odd v false) p=p:=by
   show ((_:Nat),(_:Nat))=p
   simp [Yl]
  rw [e1]
  cases ho:odd v
  ·have e2:pairS.mul (Yl odd v true) q=q:=by
    show ((_:Nat),(_:Nat))=q
    simp [Yl,ho]
   rw [e2]
   show p.1+q.1≤_∧p.2+q.2≤_
   omega
  ·have e2:pairS.mul (Yl odd v true) q=(q.2,q.1):=by
    show ((_:Nat),(_:Nat))=_
    simp [Yl,ho]
   rw [e2]
   show p.1+q.2≤_∧p.2+q.1≤_
   omega
theorem Q1r:∀ L:List Nat,Kh natS w1 L=2^L.length
 | []=>rfl
 | v::L=>by
  show (1+1)*Kh natS w1 L=_
  rw [Q1r L,List.length_cons,Nat.pow_succ];omega
theorem Uo (odd:Nat→Bool):∀ L:List Nat,Kh pairS (Yl odd) L=if L.any odd then (2^(L.length-1),2^(L.length-1)) else (2^L.length,0)
 | []=>rfl
 | v::L=>by
  show pairS.mul (pairS.add (Yl odd v false) (Yl odd v true)) (Kh pairS (Yl odd) L)=_
  rw [Uo odd L,List.any_cons,List.length_cons,Nat.add_sub_cancel]
  have e:2^(L.length+1)=2^L.length+2^L.length:=by rw [Nat.pow_succ];omega
  cases ho:odd v
  ·have e2:pairS.add (Yl odd v false) (Yl odd v true)=(2,0):=by
    show ((_:Nat),(_:Nat))=_
    simp [Yl,ho]
   rw [e2,Bool.false_or]
   cases ha:L.any odd
   ·show (2*2^L.length+0*0,2*0+0*2^L.length)=_
    simp;omega
   ·have hl:1≤L.length:=by
     cases L with
     | nil=>simp at ha
     | cons a b=>simp
    have e3:2^L.length=2^(L.length-1)+2^(L.length-1):=by
     obtain ⟨k,hk⟩:∃ k,L.length=k+1:=⟨L.length-1,by omega⟩
     rw [hk,Nat.add_sub_cancel,Nat.pow_succ];omega
    show (2*2^(L.length-1)+0*2^(L.length-1),2*2^(L.length-1)+0*2^(L.length-1))=_
    simp;omega
  ·have e2:pairS.add (Yl odd v false) (Yl odd v true)=(1,1):=by
    show ((_:Nat),(_:Nat))=_
    simp [Yl,ho]
   rw [e2,Bool.true_or]
   cases ha:L.any odd
   ·show (1*2^L.length+1*0,1*0+1*2^L.length)=_
    simp
   ·have hl:1≤L.length:=by
     cases L with
     | nil=>simp at ha
     | cons a b=>simp
    have e3:2^L.length=2^(L.length-1)+2^(L.length-1):=by
     obtain ⟨k,hk⟩:∃ k,L.length=k+1:=⟨L.length-1,by omega⟩
     rw [hk,Nat.add_sub_cancel,Nat.pow_succ];omega
    show (1*2^(L.length-1)+1*2^(L.length-1),1*2^(L.length-1)+1*2^(L.length-1))=_
    simp;omega
end
/- The statement's sum and Q6z,over the naturals. -/
section
def Q3d (u:Nat→Nat):Nat→Nat
 | 0=>0
 | k+1=>Q3d u k+u k
theorem Q6l (u:Nat→Nat):∀ k,Jo (fun s=>(u s:Int)) k=((Q3d u k:Nat):Int)
 | 0=>rfl
 | k+1=>by
  rw [Jo,Q6l u k,Q3d]
  omega
theorem sumU_le {u:Nat→Nat} {B:Nat} (h:∀ s,u s≤B):∀ k,Q3d u k≤k*B
 | 0=>by simp [Q3d]
 | k+1=>by
  have:=sumU_le h k
  have:=h k
  rw [Q3d,Nat.add_mul]
  omega
def Q37 (u c:Nat):Nat:=if u≤c then c-u else u-c
theorem est_final {n m:Nat} (h:Q2i n m) (f:Nat→Bool) (x:Nat→Nat) (hx:∀ s,s<2^(m*(n+1))→x s=2^m*Je (fun p=>f p&&Va n m s p) (2^n)) (a b c:Nat) (hc:c=Je f (2^n)) :
  Q3d x (2^(m*(n+1)))=c*2^(m*(n+1)) ∧
  (c=0∨Je (fun s=>decide (c*a≤Q37 (x s) c*b)) (2^(m*(n+1)))*a*a*c≤2^(m*(n+1))*(2^m-1)*b*b):=by
 subst hc
 obtain ⟨h1,h2⟩:=Q3e h f x hx a b
 rw [Q6l] at h1
 refine ⟨by rw [←Int.natCast_mul] at h1;omega,?_⟩
 by_cases h0:Je f (2^n)=0
 ·exact .inl h0
 ·exact .inr (h2 (by omega))
end
end Go.Proofs.YtcpehljpegfckaaGreatDoor
