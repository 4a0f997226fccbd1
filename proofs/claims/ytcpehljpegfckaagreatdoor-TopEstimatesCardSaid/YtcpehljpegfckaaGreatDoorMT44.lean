/- Texts of this claim,joined: CMc,CMd,CN. -/
import Derived.Test.YtcpehljpegfckaaGreatDoorMT35
import Derived.Test.YtcpehljpegfckaaGreatDoorMT17
/- What is summed up at a node,input by input,in numbers. -/
namespace Go.Proofs.YtcpehljpegfckaaGreatDoor
section
theorem Uw {n:Nat} {ns:List Nd} (hn:Ze n ns):∀ i,i<ns.length→∀ v,Ql ns i v=true→1≤v∧v≤n:=by
 intro i
 induction i using Nat.strongRecOn with
 | ind i ih =>
 intro hi v hv
 have hx:=List.getElem?_eq_getElem hi
 have hk:=hn i _ hx
 rw [U3 hx hk,Bool.or_eq_true] at hv
 rcases hv with h | h
 ·simp only [Bool.and_eq_true,decide_eq_true_eq] at h
  have:=hk.lit h.1
  omega
 ·obtain ⟨k,h1,h2⟩:=List.any_eq_true.1 h
  have h3:=(hk.ins k h1).2
  exact ih _ h3 (by omega) v h2
theorem inV_mem {n:Nat} (hn:n≤12) {o:Nat→Bool} (ho:∀ v,o v=true→v≤n):inV n o=Jt o:=by
 unfold inV Jt
 have e:List.range' 1 12=List.range' 1 n++List.range' (1+n) (12-n):=by
  have:=List.range'_append_1 (s:=1) (m:=n) (n:=12-n)
  rw [this];congr 1;omega
 have e2:List.filter o (List.range' (1+n) (12-n))=[]:=List.filter_eq_nil_iff.2 (fun x hx=>by
  simp only [List.mem_range'_1] at hx
  intro h
  have:=ho x h
  omega)
 rw [e,List.filter_append,e2,List.append_nil]
theorem free_mem {n:Nat} (hn:n≤12) {o:Nat→Bool} (ho:∀ v,o v=true→v≤n):Kh natS w1 (inV n o)=2^(Jt o).length:=by
 rw [Q1r,inV_mem hn ho]
def nV (n:Nat) (ns:List Nd) (j:Nat):Nat:=(Oo natS w1 n ns).getD j natS.zero
def Zn (ns:List Nd) (i k:Nat):Nat→Bool:=fun v=>Ql ns i v&&!Ql ns k v
def smN (n:Nat) (ns:List Nd) (i:Nat) (x:Nd) (t:Nat):Nat :=
 if x.k=3 then (x.ins.take t).foldl (fun r k=>r*nV n ns k.toNat) 1
 else if x.k=4 then (x.ins.take t).foldl (fun r k=>r+nV n ns k.toNat*2^(Jt (Zn ns i k.toNat)).length) 0
 else if x.k=0 then 0 else 1
section
variable {n:Nat} {ns:List Nd} {i:Nat} {x:Nd}
theorem Q5k {l:List Int} {t:Nat} {k:Int} (h:l[t]?=some k):l.take (t+1)=l.take t++[k]:=by
 obtain ⟨hi,rfl⟩:=List.getElem?_eq_some_iff.1 h
 rw [List.take_succ_eq_append_getElem hi]
theorem smN_and {t:Nat} {k:Int} (k3:x.k=3) (h:x.ins[t]?=some k):smN n ns i x (t+1)=smN n ns i x t*nV n ns k.toNat:=by
 unfold smN
 rw [if_pos k3,if_pos k3,Q5k h,List.foldl_append];rfl
theorem smN_or {t:Nat} {k:Int} (k4:x.k=4) (h:x.ins[t]?=some k):smN n ns i x (t+1)=smN n ns i x t+nV n ns k.toNat*2^(Jt (Zn ns i k.toNat)).length:=by
 unfold smN
 rw [if_neg (by omega),if_pos k4,if_neg (by omega),if_pos k4,Q5k h,List.foldl_append];rfl
variable (hn:Ze n ns) (hx:ns[i]?=some x) (h12:n≤12)
include hn hx h12
theorem fold_or (t:Nat):(x.ins.take t).foldl (fun r k=>r+nV n ns k.toNat*2^(Jt (Zn ns i k.toNat)).length) 0=(x.ins.take t).foldl (fun r k=>natS.add r (natS.mul ((Oo natS w1 n ns).getD k.toNat natS.zero) (Kh natS w1 (inV n fun v=>Ql ns i v&&!Ql ns k.toNat v)))) natS.zero:=by
 have hi:=(List.getElem?_eq_some_iff.1 hx).1
 refine Ve (α:=Int) (β:=Nat) (f:=fun r k=>r+nV n ns k.toNat*2^(Jt (Zn ns i k.toNat)).length) (g:=fun r k=>natS.add r (natS.mul ((Oo natS w1 n ns).getD k.toNat natS.zero) (Kh natS w1 (inV n fun v=>Ql ns i v&&!Ql ns k.toNat v)))) (x.ins.take t) 0 fun k hk b=>?_
 rw [free_mem h12 (fun v hv=>(Uw hn i hi v (by simp at hv;exact hv.1)).2)]
 rfl
theorem smN_all:smN n ns i x x.ins.length=nV n ns i:=by
 have h:=Q7z natS w1 hn hx
 unfold nV
 rw [h]
 unfold smN Q3c
 have hk:=hn i x hx
 by_cases k3:x.k=3
 ·rw [if_pos k3,if_neg (by omega),if_neg (by omega),if_pos k3,List.take_length];rfl
 ·rw [if_neg k3]
  by_cases k4:x.k=4
  ·rw [if_pos k4,if_neg (by omega),if_neg (by omega),if_neg k3,if_pos k4,fold_or hn hx h12,List.take_length]
  ·rw [if_neg k4,if_neg k3,if_neg k4]
   have:=hk.kind
   by_cases k0:x.k=0
   ·rw [if_pos k0,if_neg (by omega),if_neg (by omega)];rfl
   ·rw [if_neg k0]
    by_cases k1:x.k=1
    ·rw [if_pos k1];rfl
    ·rw [if_neg k1,if_pos (by omega)];rfl
variable (hD:Zm ns) (hT:Xq ns)
include hD hT
theorem Q6e:nV n ns i≤4096:=by
 obtain ⟨L,f,h1,h2⟩:=val_tot natS w1 hn hD hT hx (fun _=>false)
 have h3:=Hr f L (fun _=>false)
 have h4:2^L.length≤2^12:=Nat.pow_le_pow_right (by omega) (by omega)
 unfold nV
 rw [h2]
 omega
theorem Q3u (t:Nat):smN n ns i x t≤4096:=by
 have h4:∀ L:List Nat,L.length≤n→2^L.length≤2^12:=fun L h=>Nat.pow_le_pow_right (by omega) (by omega)
 unfold smN
 by_cases k3:x.k=3
 ·rw [if_pos k3]
  obtain ⟨L,f,h1,h2⟩:=and_pre natS w1 hn hD hT hx k3 (fun _=>false) t
  have h3:=Hr f L (fun _=>false)
  have h5:=h4 L h1
  refine Nat.le_trans (Nat.le_of_eq (Eq.trans (by rfl) h2)) (by omega)
 ·rw [if_neg k3]
  by_cases k4:x.k=4
  ·rw [if_pos k4,fold_or hn hx h12]
   obtain ⟨L,f,h1,h2⟩:=or_pre natS w1 hn hD hT hx k4 (fun _=>false) t
   have h3:=Hr f L (fun _=>false)
   have h5:=h4 L h1
   exact Nat.le_trans (Nat.le_of_eq h2) (by omega)
  ·rw [if_neg k4]
   split<;>omega
end
theorem gap_far {n:Nat} {ns:List Nd} (hn:Ze n ns) (h12:n≤12) {i k:Nat} (hi:i<ns.length):∀ v,13≤v→Zn ns i k v=false:=fun v hv=>by
 unfold Zn
 cases h:Ql ns i v
 ·rfl
 ·have:=Uw hn i hi v h
  omega
end
/- What is counted at a node,input by input: the even ones and the odd ones. -/
section
section
variable (odd:Nat→Bool)
def pV (n:Nat) (ns:List Nd) (j:Nat):Nat × Nat:=(Oo pairS (Yl odd) n ns).getD j pairS.zero
def fP (n:Nat) (ns:List Nd) (i k:Nat):Nat × Nat:=Kh pairS (Yl odd) (inV n (Zn ns i k))
def smP (n:Nat) (ns:List Nd) (i:Nat) (x:Nd) (t:Nat):Nat × Nat :=
 if x.k=3 then (x.ins.take t).foldl (fun r k=>pairS.mul r (pV odd n ns k.toNat)) (1,0)
 else if x.k=4 then (x.ins.take t).foldl (fun r k=>pairS.add r (pairS.mul (pV odd n ns k.toNat) (fP odd n ns i k.toNat))) (0,0)
 else if x.k=0 then (0,0) else if x.k=2 then Yl odd x.lit.natAbs (decide (0<x.lit)) else (1,0)
variable {n:Nat} {ns:List Nd} {i:Nat} {x:Nd}
theorem Q7e {t:Nat} {k:Nat} (h:x.ins[t]?=some (k:Int)) (h34:x.k=3∨x.k=4):smP odd n ns i x (t+1)=if x.k=3 then pairS.mul (smP odd n ns i x t) (pV odd n ns k) else pairS.add (smP odd n ns i x t) (pairS.mul (pV odd n ns k) (fP odd n ns i k)):=by
 unfold smP
 by_cases k3:x.k=3
 ·rw [if_pos k3,if_pos k3,if_pos k3,Q5k h,List.foldl_append];rfl
 ·rw [if_neg k3,if_pos (h34.resolve_left k3),if_neg k3,if_neg k3,if_pos (h34.resolve_left k3),Q5k h,List.foldl_append];rfl
theorem Q49:smP odd n ns i x 0=if x.k=0∨x.k=4 then (0,0) else if x.k=2 then Yl odd x.lit.natAbs (decide (0<x.lit)) else (1,0):=by
 unfold smP
 rw [List.take_zero,List.foldl_nil,List.foldl_nil]
 by_cases h3:x.k=3
 ·rw [if_pos h3,if_neg (by omega),if_neg (by omega)]
 ·rw [if_neg h3]
  by_cases h4:x.k=4
  ·rw [if_pos h4,if_pos (by omega)]
  ·rw [if_neg h4]
   by_cases h0:x.k=0
   ·rw [if_pos h0,if_pos (by omega)]
   ·rw [if_neg h0,if_neg (show ¬ (x.k=0∨x.k=4) by omega)]
variable (hn:Ze n ns) (hx:ns[i]?=some x)
include hn hx
theorem smP_all:smP odd n ns i x x.ins.length=pV odd n ns i:=by
 have h:=Q7z pairS (Yl odd) hn hx
 unfold pV
 rw [h]
 unfold smP Q3c
 have hk:=hn i x hx
 by_cases k3:x.k=3
 ·rw [if_pos k3,if_neg (by omega),if_neg (by omega),if_pos k3,List.take_length];rfl
 ·rw [if_neg k3]
  by_cases k4:x.k=4
  ·rw [if_pos k4,if_neg (by omega),if_neg (by omega),if_neg k3,if_pos k4,List.take_length];rfl
  ·rw [if_neg k4,if_neg k3,if_neg k4]
   have:=hk.kind
   by_cases k0:x.k=0
   ·rw [if_pos k0,if_neg (by omega),if_neg (by omega)];rfl
   ·rw [if_neg k0]
    by_cases k1:x.k=1
    ·rw [if_pos k1,if_neg (by omega)];rfl
    ·rw [if_neg k1,if_pos (by omega),if_pos (by omega)]
variable (hD:Zm ns) (hT:Xq ns) (h12:n≤12)
include hD hT h12
theorem pV_small:(pV odd n ns i).1≤4096∧(pV odd n ns i).2≤4096:=by
 obtain ⟨L,f,h1,h2⟩:=val_tot pairS (Yl odd) hn hD hT hx (fun _=>false)
 have h3:=Oz odd f L (fun _=>false)
 have h4:2^L.length≤2^12:=Nat.pow_le_pow_right (by omega) (by omega)
 unfold pV
 rw [h2]
 omega
theorem smP_small (t:Nat):(smP odd n ns i x t).1≤4096∧(smP odd n ns i x t).2≤4096:=by
 have h4:∀ L:List Nat,L.length≤n→2^L.length≤2^12:=fun L h=>Nat.pow_le_pow_right (by omega) (by omega)
 unfold smP
 by_cases k3:x.k=3
 ·rw [if_pos k3]
  obtain ⟨L,f,h1,h2⟩:=and_pre pairS (Yl odd) hn hD hT hx k3 (fun _=>false) t
  have h3:=Oz odd f L (fun _=>false)
  have h5:=h4 L h1
  have e:(x.ins.take t).foldl (fun r k=>pairS.mul r (pV odd n ns k.toNat)) (1,0)=tot pairS (Yl odd) L f (fun _=>false):=h2
  rw [e]
  omega
 ·rw [if_neg k3]
  by_cases k4:x.k=4
  ·rw [if_pos k4]
   obtain ⟨L,f,h1,h2⟩:=or_pre pairS (Yl odd) hn hD hT hx k4 (fun _=>false) t
   have h3:=Oz odd f L (fun _=>false)
   have h5:=h4 L h1
   have e:(x.ins.take t).foldl (fun r k=>pairS.add r (pairS.mul (pV odd n ns k.toNat) (fP odd n ns i k.toNat))) (0,0)=tot pairS (Yl odd) L f (fun _=>false):=h2
   rw [e]
   omega
  ·rw [if_neg k4]
   split
   ·exact ⟨by decide,by decide⟩
   ·split
    ·unfold Yl
     split<;>exact ⟨by decide,by decide⟩
    ·exact ⟨by decide,by decide⟩
end
theorem fP_small {odd:Nat→Bool} {n:Nat} {ns:List Nd} (h12:n≤12) (i k:Nat):(fP odd n ns i k).1≤4096∧(fP odd n ns i k).2≤4096:=by
 have h:=Wz n (Zn ns i k)
 unfold fP
 rw [Uo]
 have h4:∀ m:Nat,m≤n→2^m≤2^12:=fun m h=>Nat.pow_le_pow_right (by omega) (by omega)
 split
 ·have:=h4 ((inV n (Zn ns i k)).length-1) (by omega)
  exact ⟨by omega,by omega⟩
 ·have:=h4 ((inV n (Zn ns i k)).length) (by omega)
  exact ⟨by omega,by omega⟩
theorem root_pair {n:Nat} {ns:List Nd} (odd:Nat→Bool) (hN:Ze n ns) (hD:Zm ns) (hT:Xq ns) (hpos:0<ns.length) (a:Asg) :
  pairS.mul (pV odd n ns (ns.length-1)) (Kh pairS (Yl odd) (inV n fun v=>!Ql ns (ns.length-1) v))=(cntT (List.range' 1 n) (fun b=>Yf ns (ns.length-1) b&&!Kx odd (List.range' 1 n) b) a,cntT (List.range' 1 n) (fun b=>Yf ns (ns.length-1) b&&Kx odd (List.range' 1 n) b) a):=by
 have h:=Q72 pairS (Yl odd) hN hD hT (Ow pairS (Yl odd) hN) (show ns.length-1<ns.length by omega) a
 rw [Q7m odd _ _ a (List.nodup_range' (step:=1))] at h
 exact h
end
/- A cell counted,in plain Lean: what Cell's loop adds up,and the parities of a seed. -/
section
def inP (n:Nat) (p:Pa):Prop:=∀ v,p.vs v=true→1≤v∧v≤n
theorem Q65 (n:Nat):inP n noneP:=fun v h=>by cases h
theorem inP_sum {n:Nat} {p q:Pa} (hp:inP n p) (hq:inP n q):inP n (Yy p q):=fun v h=>by
 cases h1:p.vs v with
 | true=>exact hp v h1
 | false =>
  have h2:(p.vs v != q.vs v)=true:=h
  rw [h1] at h2
  exact hq v (by simpa using h2)
theorem redI_in {n:Nat}:∀ (f:Nat) (R O:List Pa),(∀ q∈R,inP n q)→(∀ q∈O,inP n q)→∀ o,Zl f R O=some o→(∀ q∈o,inP n q)∧o.length≤O.length+f
 | 0,R,O,_,hO,o,h=>by
  obtain rfl:O=o:=Option.some.inj h
  exact ⟨hO,by omega⟩
 | f+1,[],O,_,hO,o,h=>by
  obtain rfl:O=o:=Option.some.inj h
  exact ⟨hO,by omega⟩
 | f+1,p::rs,O,hR,hO,o,h=>by
  by_cases hb:J9 p=0∧p.odd=true
  ·rw [Zl,if_pos hb] at h;cases h
  ·rw [Zl,if_neg hb] at h
   have hp:=hR p (by simp)
   have h1:=redI_in f _ _ (fun q hq=>by
    obtain ⟨q0,hq0,rfl⟩:=List.mem_map.1 (List.mem_filter.1 hq).1
    have h0:=hR q0 (by simp [hq0])
    split
    ·exact inP_sum hp h0
    ·exact h0) (fun q hq=>by
    split at hq
    ·exact hO q hq
    ·rcases List.mem_append.1 hq with hq | hq
     ·exact hO q hq
     ·rw [show q=p by simpa using hq];exact hp) o h
   refine ⟨h1.1,Nat.le_trans h1.2 ?_⟩
   split
   ·omega
   ·rw [List.length_append];simp;omega
def Zb (o:List Pa) (s:Nat):Nat→Pa
 | 0=>noneP
 | i+1=>if s.testBit i=true then Yy (Zb o s i) (o.getD i noneP) else Zb o s i
theorem Q50 {n:Nat} {o:List Pa} (h:∀ q∈o,inP n q) (s:Nat):∀ i,inP n (Zb o s i)
 | 0=>Q65 n
 | i+1=>by
  rw [Zb]
  split
  ·refine inP_sum (Q50 h s i) ?_
   rw [List.getD_eq_getElem?_getD]
   cases hq:o[i]? with
   | none=>exact Q65 n
   | some q=>exact h q (List.mem_of_getElem? hq)
  ·exact Q50 h s i
theorem un_none (a:Asg):unP a noneP=false:=by
 unfold unP
 rw [Ur a noneP.vs _ (fun _ _=>rfl)];rfl
theorem un_selT (o:List Pa) (s:Nat) (a:Asg):∀ i,i≤o.length→unP a (Zb o s i)=Xt ((o.take i).map (unP a)) s
 | 0,_=>un_none a
 | i+1,h=>by
  obtain ⟨q,hq⟩:∃ q,o[i]?=some q:=⟨_,List.getElem?_eq_getElem (by omega)⟩
  have hl:((o.take i).map (unP a)).length=i:=by rw [List.length_map,List.length_take];omega
  rw [List.take_add_one,hq,Option.toList_some,List.map_append,List.map_singleton,Q85,hl,←un_selT o s a i (by omega),Zb,List.getD_eq_getElem?_getD,hq]
  cases hb:s.testBit i with
  | true=>rw [if_pos rfl,Q8x];simp
  | false=>rw [if_neg (by simp)];simp
theorem Q20 (o:Nat→Bool) (a:Asg) (ys:List Nat):∀ xs:List Nat,Kx o (xs++ys) a=(Kx o xs a != Kx o ys a)
 | []=>by simp [Kx]
 | x::xs=>by
  have ih:=Q20 o a ys xs
  unfold Kx at ih ⊢
  rw [List.cons_append,List.foldr_cons,List.foldr_cons,ih]
  cases (o x&&a x)<;>cases List.foldr (fun v r=>(o v&&a v) != r) false xs<;>cases List.foldr (fun v r=>(o v&&a v) != r) false ys<;>rfl
theorem Q2l {o:Nat→Bool} {n:Nat} (h:∀ v,o v=true→1≤v∧v≤n) (hn:n≤128) (a:Asg):Kx o (List.range' 1 128) a=Kx o (List.range' 1 n) a:=by
 have e:List.range' 1 128=List.range' 1 n++List.range' (1+n) (128-n):=by
  have:=List.range'_append_1 (s:=1) (m:=n) (n:=128-n)
  rw [this,show n+(128-n)=128 by omega]
 rw [e,Q20,Ur a o (List.range' (1+n) (128-n)) (fun v hv=>by
  cases ho:o v with
  | false=>rfl
  | true =>
   have:=h v ho
   simp only [List.mem_range'_1] at hv
   omega)]
 simp
theorem Q6v (o:Nat→Bool) {a b:Asg}:∀ vs:List Nat,(∀ v∈vs,a v=b v)→Kx o vs a=Kx o vs b
 | [],_=>rfl
 | v::vs,h=>by
  have ih:=Q6v o vs fun u hu=>h u (by simp [hu])
  unfold Kx at ih ⊢
  rw [List.foldr_cons,List.foldr_cons,ih,h v (by simp)]
def mrN (f:Asg→Bool) (n:Nat) (p:Pa):Nat:=Je (fun q=>f (Y5 q)&&!unP (Y5 q) p) (2^n)
def lsN (f:Asg→Bool) (n:Nat) (p:Pa):Nat:=Je (fun q=>f (Y5 q)&&unP (Y5 q) p) (2^n)
theorem Vt (b:Nat→Bool):∀ k,Je b k≤k
 | 0=>Nat.le_refl _
 | k+1=>by
  have:=Vt b k
  rw [Je]
  split<;>omega
theorem mrN_le (f:Asg→Bool) (n:Nat) (p:Pa):mrN f n p≤2^n:=Vt _ _
theorem lsN_le (f:Asg→Bool) (n:Nat) (p:Pa):lsN f n p≤2^n:=Vt _ _
theorem pair_cnt {n:Nat} (hn:n≤128) {f:Asg→Bool} (hf:Dep f (fun v=>decide (1≤v∧v≤n))) {p:Pa} (hp:inP n p) (a:Asg) :
  (cntT (List.range' 1 n) (fun b=>f b&&!Kx p.vs (List.range' 1 n) b) a,cntT (List.range' 1 n) (fun b=>f b&&Kx p.vs (List.range' 1 n) b) a)=if p.odd then (lsN f n p,mrN f n p) else (mrN f n p,lsN f n p):=by
 have hd:∀ x y:Asg,(∀ v,decide (1≤v∧v≤n)=true→x v=y v)→Kx p.vs (List.range' 1 n) x=Kx p.vs (List.range' 1 n) y:=fun x y h=>Q6v _ _ fun v hv=>h v (by simp only [List.mem_range'_1] at hv;exact decide_eq_true (by omega))
 rw [Zz n _ a (fun x y h=>by rw [hf x y h,hd x y h]),Zz n _ a (fun x y h=>by rw [hf x y h,hd x y h])]
 unfold mrN lsN
 have e:∀ q,unP (Y5 q) p=(Kx p.vs (List.range' 1 n) (Y5 q) != p.odd):=fun q=>by
  unfold unP;rw [Q2l hp hn]
 simp only [e]
 cases p.odd<;>simp
def Q9c (g:Nat→Nat):Nat→Nat
 | 0=>0
 | s+1=>Q9c g s+g s
theorem Q28 (g:Nat→Nat):∀ k,(Q9c g k:Int)=Jo (fun s=>(g s:Int)) k
 | 0=>rfl
 | k+1=>by rw [Q9c,Jo,Int.natCast_add,Q28 g k]
theorem Q1d {g:Nat→Nat} {B:Nat} (h:∀ s,g s≤B):∀ k,Q9c g k≤k*B
 | 0=>Nat.zero_le _
 | k+1=>by
  have:=Q1d h k
  have:=h k
  rw [Q9c,Nat.succ_mul];omega
def Oc (f:Asg→Bool) (n:Nat) (o:List Pa):Nat→Nat:=Q9c fun s=>mrN f n (Zb o s o.length)
def On (f:Asg→Bool) (n:Nat) (o:List Pa):Nat→Nat:=Q9c fun s=>lsN f n (Zb o s o.length)
theorem more_less (f:Asg→Bool) (n:Nat) (o:List Pa):Oc f n o (2^o.length)=On f n o (2^o.length)+2^o.length*Je (fun q=>f (Y5 q)&&o.all fun p=>!unP (Y5 q) p) (2^n):=by
 have h:=subsets (fun q=>f (Y5 q)) (2^n) o.length (fun q=>o.map (unP (Y5 q))) (fun q=>by rw [List.length_map])
 have e:∀ q s,unP (Y5 q) (Zb o s o.length)=Xt (o.map (unP (Y5 q))) s:=fun q s=>by
  rw [un_selT o s _ _ (Nat.le_refl _),List.take_length]
 have h1:(Oc f n o (2^o.length):Int)-(On f n o (2^o.length):Int)=(2^o.length:Nat)*(Je (fun q=>f (Y5 q)&&o.all fun p=>!unP (Y5 q) p) (2^n):Int):=by
  unfold Oc On
  rw [Q28,Q28]
  have e3:∀ (u v:Nat→Int) (k:Nat),Jo u k-Jo v k=Jo (fun s=>u s-v s) k:=fun u v k=>by
   induction k with
   | zero=>rfl
   | succ k ih=>rw [Jo,Jo,Jo,←ih];omega
  rw [e3]
  have e4:∀ q,(List.map (unP (Y5 q)) o).all (fun b=>!b)=o.all fun p=>!unP (Y5 q) p:=fun q=>by rw [List.all_map];rfl
  simp only [e4] at h
  rw [←h]
  refine Yb fun s _=>?_
  unfold mrN lsN
  simp only [e]
 have h2:((2^o.length*Je (fun q=>f (Y5 q)&&o.all fun p=>!unP (Y5 q) p) (2^n):Nat):Int)=(2^o.length:Nat)*(Je (fun q=>f (Y5 q)&&o.all fun p=>!unP (Y5 q) p) (2^n):Int):=Int.natCast_mul _ _
 omega
def Om (f:Asg→Bool) (n:Nat) (l:List Pa):Nat:=Je (fun q=>f (Y5 q)&&l.all fun p=>!unP (Y5 q) p) (2^n)
theorem Q6r (f:Asg→Bool) (n:Nat) (l:List Pa):Om f n l≤2^n:=Vt _ _
theorem Q5u (a:Asg) (l:List Pa):(l.all fun p=>!unP a p)=true↔Zv a l:=by
 unfold Zv
 rw [List.all_eq_true]
 simp
theorem cell_none {f:Asg→Bool} {n:Nat} {l:List Pa} (h:Zl l.length l []=none):Om f n l=0:=by
 have k:=(Q5e l.length l [] (Nat.le_refl _)).2 h
 have e:∀ q,(f (Y5 q)&&l.all fun p=>!unP (Y5 q) p)=false:=fun q=>by
  cases hb:l.all fun p=>!unP (Y5 q) p with
  | false=>simp
  | true=>exact (k (Y5 q) ((Q5u _ _).1 hb)).elim
 unfold Om
 simp only [e]
 have:∀ k,Je (fun _=>false) k=0:=fun k=>by
  induction k with
  | zero=>rfl
  | succ k ih=>rw [Je,ih];rfl
 exact this _
theorem cell_some {f:Asg→Bool} {n:Nat} {l o:List Pa} (h:Zl l.length l []=some o):(Oc f n o (2^o.length)-On f n o (2^o.length))/2^o.length=Om f n l∧On f n o (2^o.length)≤Oc f n o (2^o.length):=by
 have k:=(Q5e l.length l [] (Nat.le_refl _)).1 o h
 have hm:=more_less f n o
 have e:Om f n l=Je (fun q=>f (Y5 q)&&o.all fun p=>!unP (Y5 q) p) (2^n):=by
  unfold Om
  refine Zc fun q _=>?_
  congr 1
  rw [Bool.eq_iff_iff,Q5u,Q5u,k]
  simp
 rw [e]
 refine ⟨?_,by omega⟩
 rw [hm,Nat.add_sub_cancel_left,Nat.mul_div_cancel_left _ (Nat.pow_pos (by omega))]
end
end Go.Proofs.YtcpehljpegfckaaGreatDoor
