/- Texts of this claim,joined: CA,CB,CC,CD,CG. -/
import Derived.Lib.ItoaMem
import Derived.Lib.Strings
import Derived.Lib.ItoaNum
/- Weighted sums over assignments,in plain Lean. -/
namespace Go.Proofs.YtcpehljpegfckaaGreatDoor
section
structure Sr (R:Type) where
 zero:R
 one:R
 add:R→R→R
 mul:R→R→R
 addC:∀ a b,add a b=add b a
 addA:∀ a b c,add (add a b) c=add a (add b c)
 mulC:∀ a b,mul a b=mul b a
 mulA:∀ a b c,mul (mul a b) c=mul a (mul b c)
 dist:∀ a b c,mul a (add b c)=add (mul a b) (mul a c)
 oneM:∀ a,mul one a=a
 zeroM:∀ a,mul zero a=zero
 zeroA:∀ a,add zero a=a
namespace Sr
variable {R:Type} (S:Sr R)
theorem distR (a b c:R):S.mul (S.add a b) c=S.add (S.mul a c) (S.mul b c):=by rw [S.mulC,S.dist,S.mulC c a,S.mulC c b]
theorem mulOne (a:R):S.mul a S.one=a:=by rw [S.mulC,S.oneM]
theorem mulZero (a:R):S.mul a S.zero=S.zero:=by rw [S.mulC,S.zeroM]
theorem addZero (a:R):S.add a S.zero=a:=by rw [S.addC,S.zeroA]
theorem addSwap (a b c d:R):S.add (S.add a b) (S.add c d)=S.add (S.add a c) (S.add b d):=by rw [S.addA,S.addA,←S.addA b c d,S.addC b c,S.addA c b d]
theorem mulSwap (a b c:R):S.mul a (S.mul b c)=S.mul b (S.mul a c):=by rw [←S.mulA,S.mulC a b,S.mulA]
end Sr
abbrev Asg:=Nat→Bool
def upd (a:Asg) (v:Nat) (b:Bool):Asg:=fun u=>if u=v then b else a u
def Ok {R:Type} (S:Sr R) (b:Bool):R:=if b then S.one else S.zero
def tot {R:Type} (S:Sr R) (w:Nat→Bool→R):List Nat→(Asg→Bool)→Asg→R
 | [],f,a=>Ok S (f a)
 | v::vs,f,a=>S.add (S.mul (w v false) (tot S w vs f (upd a v false))) (S.mul (w v true) (tot S w vs f (upd a v true)))
theorem Yj {R:Type} (S:Sr R) (w:Nat→Bool→R) (v:Nat) (vs:List Nat) (f:Asg→Bool) (a:Asg):tot S w (v::vs) f a=S.add (S.mul (w v false) (tot S w vs f (upd a v false))) (S.mul (w v true) (tot S w vs f (upd a v true))):=rfl
def Dep (f:Asg→Bool) (o:Nat→Bool):Prop:=∀ a b:Asg,(∀ v,o v=true→a v=b v)→f a=f b
theorem Dep.mono {f:Asg→Bool} {o p:Nat→Bool} (h:Dep f o) (hp:∀ v,o v=true→p v=true):Dep f p:=fun a b hab=>h a b fun v hv=>hab v (hp v hv)
theorem Dep.const (b:Bool) (o:Nat→Bool):Dep (fun _=>b) o:=fun _ _ _=>rfl
theorem Dep.and {f g:Asg→Bool} {o p:Nat→Bool} (h:Dep f o) (k:Dep g p):Dep (fun a=>f a&&g a) (fun v=>o v||p v):=fun a b hab=>by
 show (f a&&g a)=(f b&&g b)
 rw [h a b fun v hv=>hab v (by simp [hv]),k a b fun v hv=>hab v (by simp [hv])]
theorem Dep.or {f g:Asg→Bool} {o p:Nat→Bool} (h:Dep f o) (k:Dep g p):Dep (fun a=>f a||g a) (fun v=>o v||p v):=fun a b hab=>by
 show (f a||g a)=(f b||g b)
 rw [h a b fun v hv=>hab v (by simp [hv]),k a b fun v hv=>hab v (by simp [hv])]
section
variable {R:Type} (S:Sr R) (w:Nat→Bool→R)
theorem tot_congr {f g:Asg→Bool} (h:∀ a,f a=g a) (vs:List Nat) (a:Asg):tot S w vs f a=tot S w vs g a:=by rw [show f=g from funext h]
theorem Q4c {f:Asg→Bool} {o:Nat→Bool} (hf:Dep f o):∀ (vs:List Nat) (a b:Asg),(∀ v,o v=true→v∉vs→a v=b v)→tot S w vs f a=tot S w vs f b
 | [],a,b,h=>by
  unfold tot
  rw [hf a b fun v hv=>h v hv (by simp)]
 | v::vs,a,b,h=>by
  have key:∀ c,tot S w vs f (upd a v c)=tot S w vs f (upd b v c):=fun c=>Q4c hf vs _ _ fun u hu hn=>by
   unfold upd
   by_cases e:u=v
   ·rw [if_pos e,if_pos e]
   ·rw [if_neg e,if_neg e];exact h u hu (by simp [e,hn])
  rw [Yj,Yj,key,key]
theorem Q1g {f:Asg→Bool} {o:Nat→Bool} (hf:Dep f o) {v:Nat} (hv:o v=false) (vs:List Nat) (a:Asg) (c:Bool):tot S w vs f (upd a v c)=tot S w vs f a :=
 Q4c S w hf vs _ _ fun u hu _=>by
  unfold upd
  rw [if_neg (fun e=>by rw [e,hv] at hu;cases hu)]
theorem bitR_and (x y:Bool):Ok S (x&&y)=S.mul (Ok S x) (Ok S y):=by
 cases x<;>cases y<;>simp [Ok,S.oneM,S.zeroM]
theorem Q5j {f g:Asg→Bool} {o p:Nat→Bool} (hf:Dep f o) (hg:Dep g p) (hd:∀ v,o v=true→p v=false):∀ (L:List Nat) (a:Asg),tot S w (L.filter fun v=>o v||p v) (fun a=>f a&&g a) a=S.mul (tot S w (L.filter o) f a) (tot S w (L.filter p) g a)
 | [],a=>bitR_and S _ _
 | x::L,a=>by
  have ih:=Q5j hf hg hd L
  by_cases ho:o x=true
  ·have hp:=hd x ho
   rw [List.filter_cons_of_pos (by simp [ho]),List.filter_cons_of_pos (by simp [ho]),List.filter_cons_of_neg (by simp [hp])]
   rw [Yj,Yj,ih,ih,Q1g S w hg hp,Q1g S w hg hp,S.distR,S.mulA,S.mulA]
  ·have ho':o x=false:=by simpa using ho
   by_cases hp:p x=true
   ·rw [List.filter_cons_of_pos (by simp [hp]),List.filter_cons_of_neg (by simp [ho']),List.filter_cons_of_pos (by simp [hp])]
    rw [Yj,ih,ih,Q1g S w hf ho',Q1g S w hf ho']
    rw [Yj,S.dist,S.mulSwap (w x false),S.mulSwap (w x true)]
   ·have hp':p x=false:=by simpa using hp
    rw [List.filter_cons_of_neg (by simp [ho',hp']),List.filter_cons_of_neg (by simp [ho']),List.filter_cons_of_neg (by simp [hp'])]
    exact ih a
theorem Q8d {f g:Asg→Bool} (hx:∀ a,¬ (f a=true∧g a=true)):∀ (vs:List Nat) (a:Asg),tot S w vs (fun a=>f a||g a) a=S.add (tot S w vs f a) (tot S w vs g a)
 | [],a=>by
  have h:=hx a
  show Ok S (f a||g a)=S.add (Ok S (f a)) (Ok S (g a))
  revert h
  cases f a<;>cases g a<;>intro h
  ·simp [Ok,S.zeroA]
  ·simp [Ok,S.zeroA]
  ·simp [Ok,S.addZero]
  ·exact (h ⟨rfl,rfl⟩).elim
 | v::vs,a=>by
  rw [Yj,Yj,Yj]
  rw [Q8d hx vs,Q8d hx vs,S.dist,S.dist,S.addSwap]
theorem Hu:∀ (vs:List Nat) (a:Asg),tot S w vs (fun _=>false) a=S.zero
 | [],_=>rfl
 | v::vs,a=>by
  rw [Yj,Hu vs,Hu vs,S.mulZero,S.mulZero,S.zeroA]
def bothR (v:Nat):R:=S.add (w v false) (w v true)
def Kh:List Nat→R
 | []=>S.one
 | v::vs=>S.mul (bothR S w v) (Kh vs)
theorem Q36:∀ (vs:List Nat) (a:Asg),tot S w vs (fun _=>true) a=Kh S w vs
 | [],_=>rfl
 | v::vs,a=>by
  rw [Yj,Q36 vs,Q36 vs,←S.distR]
  rfl
theorem Q88 {f:Asg→Bool} {o p:Nat→Bool} (hf:Dep f o) (hp:∀ v,o v=true→p v=true) (L:List Nat) (a:Asg):tot S w (L.filter p) f a=S.mul (tot S w (L.filter o) f a) (Kh S w (L.filter fun v=>p v&&!o v)):=by
 have h:=Q5j S w hf (Dep.const true (fun v=>p v&&!o v)) (fun v hv=>by simp [hv]) L a
 have e1:(fun v=>o v||(p v&&!o v))=p:=funext fun v=>by
  cases ho:o v
  ·simp
  ·simp [hp v ho]
 rw [e1,Q36] at h
 rw [←h]
 exact tot_congr S w (fun a=>by simp) _ a
end
end
/- Nets,in plain Lean: what is true,which variables lie below,and what is counted. -/
section
structure Nd where
 k:Int
 lit:Int
 ins:List Int
/-! ### From the inputs upwards -/
theorem rev_rec {α:Type} {p:List α→Prop} (h0:p []) (hs:∀ l x,p l→p (l++[x])) (l:List α):p l:=by
 have h:∀ m:List α,p m.reverse:=fun m=>by
  induction m with
  | nil=>exact h0
  | cons x m ih=>rw [List.reverse_cons];exact hs _ _ ih
 have:=h l.reverse
 rwa [List.reverse_reverse] at this
def upL {β:Type} (step:List β→Nd→β) (ns:List Nd):List β:=ns.foldl (fun acc x=>acc++[step acc x]) []
section
variable {β:Type} (step:List β→Nd→β)
theorem Q60 (ns:List Nd) (x:Nd):upL step (ns++[x])=upL step ns++[step (upL step ns) x]:=by
 unfold upL;rw [List.foldl_append];rfl
theorem Q1z (ns:List Nd):(upL step ns).length=ns.length:=by
 refine rev_rec (p:=fun ns=>(upL step ns).length=ns.length) rfl (fun ns x ih=>?_) ns
 rw [Q60,List.length_append,ih];simp
theorem up_app (ns ms:List Nd):∃ l,upL step (ns++ms)=upL step ns++l:=by
 refine rev_rec (p:=fun ms=>∃ l,upL step (ns++ms)=upL step ns++l) ⟨[],by simp⟩ (fun ms x ih=>?_) ms
 obtain ⟨l,hl⟩:=ih
 rw [←List.append_assoc,Q60,hl]
 exact ⟨l++[step (upL step ns++l) x],by simp⟩
theorem up_old (ns ms:List Nd) {i:Nat} (h:i<ns.length) (d:β):(upL step (ns++ms)).getD i d=(upL step ns).getD i d:=by
 obtain ⟨l,hl⟩:=up_app step ns ms
 rw [hl,List.getD_eq_getElem?_getD,List.getD_eq_getElem?_getD,List.getElem?_append_left (by rw [Q1z];exact h)]
theorem Q9i (ns:List Nd) {i:Nat} {x:Nd} (h:ns[i]?=some x) (d:β):(upL step ns).getD i d=step ((upL step ns).take i) x:=by
 obtain ⟨hi,rfl⟩:=List.getElem?_eq_some_iff.1 h
 have e:ns=(ns.take i++[ns[i]])++ns.drop (i+1):=by
  rw [List.append_assoc,List.singleton_append,List.getElem_cons_drop,List.take_append_drop]
 have hl:(ns.take i).length=i:=by simp;omega
 have h1:upL step ns=upL step ((ns.take i++[ns[i]])++ns.drop (i+1)):=by rw [←e]
 obtain ⟨l,hk⟩:=up_app step (ns.take i++[ns[i]]) (ns.drop (i+1))
 rw [h1,hk,Q60]
 have hu:(upL step (ns.take i)).length=i:=by rw [Q1z,hl]
 rw [List.append_assoc,List.take_left' hu,List.getD_eq_getElem?_getD,List.getElem?_append_right (by omega),hu]
 simp
end
def liB (a:Asg) (l:Int):Bool:=if 0<l then a l.natAbs else !a l.natAbs
def Q6q (a:Asg) (acc:List Bool) (x:Nd):Bool :=
 if x.k=1 then true else if x.k=2 then liB a x.lit else if x.k=3 then x.ins.all (fun k=>acc.getD k.toNat false)
 else if x.k=4 then x.ins.any (fun k=>acc.getD k.toNat false) else false
def Yf (ns:List Nd) (i:Nat) (a:Asg):Bool:=(upL (Q6q a) ns).getD i false
def nodeO (acc:List (Nat→Bool)) (x:Nd):Nat→Bool:=fun v=>(decide (x.k=2)&&decide (v=x.lit.natAbs))||x.ins.any fun k=>acc.getD k.toNat (fun _=>false) v
def Ql (ns:List Nd) (i:Nat):Nat→Bool:=(upL nodeO ns).getD i fun _=>false
structure NdOk (n:Nat) (i:Nat) (x:Nd):Prop where
 ins:∀ k∈x.ins,0≤k∧k.toNat<i
 lit:x.k=2→x.lit≠0∧x.lit.natAbs≤n
 leaf:x.k≠3→x.k≠4→x.ins=[]
 kind:0≤x.k∧x.k≤4
 zero:x.k≠2→x.lit=0
 few:x.ins.length≤1000
def Ze (n:Nat) (ns:List Nd):Prop:=∀ i x,ns[i]?=some x→NdOk n i x
theorem Ob (ns ms:List Nd) {i:Nat} (h:i<ns.length) (a:Asg):Yf (ns++ms) i a=Yf ns i a:=up_old _ ns ms h _
theorem Xo (ns ms:List Nd) {i:Nat} (h:i<ns.length):Ql (ns++ms) i=Ql ns i:=up_old _ ns ms h _
theorem Hv {α:Type} {p q:α→Bool}:∀ {l:List α},(∀ x∈l,p x=q x)→l.all p=l.all q
 | [],_=>rfl
 | x::l,h=>by rw [List.all_cons,List.all_cons,h x (by simp),Hv fun y hy=>h y (by simp [hy])]
theorem Ov {α:Type} {p q:α→Bool}:∀ {l:List α},(∀ x∈l,p x=q x)→l.any p=l.any q
 | [],_=>rfl
 | x::l,h=>by rw [List.any_cons,List.any_cons,h x (by simp),Ov fun y hy=>h y (by simp [hy])]
theorem Vp {β:Type} (l:List β) {i k:Nat} (h:k<i) (d:β):(l.take i).getD k d=l.getD k d:=by
 rw [List.getD_eq_getElem?_getD,List.getD_eq_getElem?_getD,List.getElem?_take,if_pos h]
theorem Q54 {n:Nat} {ns:List Nd} {i:Nat} {x:Nd} (hx:ns[i]?=some x) (hk:NdOk n i x) (a:Asg):Yf ns i a =
  (if x.k=1 then true else if x.k=2 then liB a x.lit else if x.k=3 then x.ins.all (fun k=>Yf ns k.toNat a) else if x.k=4 then x.ins.any (fun k=>Yf ns k.toNat a) else false):=by
 unfold Yf
 rw [Q9i _ ns hx]
 show (if x.k=1 then true else if x.k=2 then liB a x.lit else if x.k=3 then x.ins.all (fun k=>((upL (Q6q a) ns).take i).getD k.toNat false)
  else if x.k=4 then x.ins.any (fun k=>((upL (Q6q a) ns).take i).getD k.toNat false) else false)=_
 rw [Hv fun k hk2=>Vp (upL (Q6q a) ns) (hk.ins k hk2).2 false,Ov fun k hk2=>Vp (upL (Q6q a) ns) (hk.ins k hk2).2 false]
theorem U3 {n:Nat} {ns:List Nd} {i:Nat} {x:Nd} (hx:ns[i]?=some x) (hk:NdOk n i x) (v:Nat):Ql ns i v=((decide (x.k=2)&&decide (v=x.lit.natAbs))||x.ins.any fun k=>Ql ns k.toNat v):=by
 unfold Ql
 rw [Q9i _ ns hx]
 show ((decide (x.k=2)&&decide (v=x.lit.natAbs))||x.ins.any fun k=>((upL nodeO ns).take i).getD k.toNat (fun _=>false) v)=_
 rw [Ov fun k hk2=>congrFun (Vp (upL nodeO ns) (hk.ins k hk2).2 (fun _=>false)) v]
theorem lit_dep (l:Int):Dep (fun a=>liB a l) (fun v=>decide (v=l.natAbs)):=fun a b h=>by
 show (if 0<l then a l.natAbs else !a l.natAbs)=(if 0<l then b l.natAbs else !b l.natAbs)
 rw [h l.natAbs (by simp)]
theorem Wy {n:Nat} {ns:List Nd} (hn:Ze n ns):∀ i,i<ns.length→Dep (Yf ns i) (Ql ns i):=by
 intro i
 induction i using Nat.strongRecOn with
 | ind i ih =>
 intro hi a b hab
 have hx:=List.getElem?_eq_getElem hi
 have hk:=hn i _ hx
 have key:∀ k∈ns[i].ins,Yf ns k.toNat a=Yf ns k.toNat b:=fun k hk2=>by
  have h1:=(hk.ins k hk2).2
  refine ih _ h1 (by omega) a b fun v hv=>hab v ?_
  rw [U3 hx hk,Bool.or_eq_true]
  exact .inr (List.any_eq_true.2 ⟨k,hk2,hv⟩)
 rw [Q54 hx hk,Q54 hx hk]
 split
 ·rfl
 split
 ·rename_i e
  exact lit_dep _ a b fun v hv=>hab v (by
   rw [U3 hx hk,Bool.or_eq_true]
   exact .inl (by simp [e];simpa using hv))
 rw [Hv key,Ov key]
/-! ### Counting -/
def Zm (ns:List Nd):Prop:=∀ (i:Nat) x,ns[i]?=some x→x.k=3→x.ins.Pairwise fun k l=>∀ v,Ql ns k.toNat v=true→Ql ns l.toNat v=false
def Xq (ns:List Nd):Prop:=∀ (i:Nat) x,ns[i]?=some x→x.k=4→x.ins.Pairwise fun k l=>∀ a,¬ (Yf ns k.toNat a=true∧Yf ns l.toNat a=true)
def inV (n:Nat) (o:Nat→Bool):List Nat:=(List.range' 1 n).filter o
theorem inV_one {n u:Nat} (h1:1≤u) (h2:u≤n):inV n (fun v=>decide (v=u))=[u]:=by
 unfold inV
 have e:List.range' 1 n=List.range' 1 (u-1)++(u::List.range' (u+1) (n-u)):=by
  have a1:=List.range'_append_1 (s:=1) (m:=u-1) (n:=n-(u-1))
  rw [show u-1+(n-(u-1))=n by omega,show 1+(u-1)=u by omega] at a1
  rw [←a1,show n-(u-1)=(n-u)+1 by omega,List.range'_succ]
 rw [e,List.filter_append,List.filter_cons_of_pos (by simp)]
 rw [List.filter_eq_nil_iff.2 (fun x hx=>by simp [List.mem_range'_1] at hx ⊢;omega),List.filter_eq_nil_iff.2 (fun x hx=>by simp [List.mem_range'_1] at hx ⊢;omega)]
 rfl
section
variable {R:Type} (S:Sr R) (w:Nat→Bool→R)
def Q3c (n:Nat) (ns:List Nd) (vs:List R) (i:Nat) (x:Nd):R :=
 if x.k=1 then S.one else if x.k=2 then w x.lit.natAbs (decide (0<x.lit))
 else if x.k=3 then x.ins.foldl (fun r k=>S.mul r (vs.getD k.toNat S.zero)) S.one
 else if x.k=4 then x.ins.foldl (fun r k=>S.add r (S.mul (vs.getD k.toNat S.zero) (Kh S w (inV n fun v=>Ql ns i v&&!Ql ns k.toNat v)))) S.zero
 else S.zero
def Vals (n:Nat) (ns:List Nd) (vs:List R):Prop:=vs.length=ns.length∧∀ i x,ns[i]?=some x→vs[i]?=some (Q3c S w n ns vs i x)
theorem Q2z (n:Nat) (ns:List Nd) (vs:List R) (a:Asg):∀ (ks:List Int) (f:Asg→Bool) (o:Nat→Bool),Dep f o→(∀ k∈ks,Dep (Yf ns k.toNat) (Ql ns k.toNat))→(∀ k∈ks,∀ v,o v=true→Ql ns k.toNat v=false) →
  (ks.Pairwise fun k l=>∀ v,Ql ns k.toNat v=true→Ql ns l.toNat v=false)→(∀ k∈ks,vs.getD k.toNat S.zero=tot S w (inV n (Ql ns k.toNat)) (Yf ns k.toNat) a) →
  ks.foldl (fun r k=>S.mul r (vs.getD k.toNat S.zero)) (tot S w (inV n o) f a)=tot S w (inV n fun v=>o v||ks.any fun k=>Ql ns k.toNat v) (fun a=>f a&&ks.all fun k=>Yf ns k.toNat a) a
 | [],f,o,_,_,_,_,_=>by simp
 | k::ks,f,o,hf,hd,ho,hp,hv=>by
  rw [List.pairwise_cons] at hp
  have e:=Q5j S w hf (hd k (by simp)) (ho k (by simp)) (List.range' 1 n) a
  rw [List.foldl_cons,hv k (by simp)]
  have ih:=Q2z n ns vs a ks (fun a=>f a&&Yf ns k.toNat a) (fun v=>o v||Ql ns k.toNat v) (hf.and (hd k (by simp))) (fun l hl=>hd l (by simp [hl])) (fun l hl v hv2=>by
   rcases Bool.or_eq_true _ _▸hv2 with h | h
   ·exact ho l (by simp [hl]) v h
   ·exact hp.1 l hl v h) hp.2 (fun l hl=>hv l (by simp [hl]))
  unfold inV at ih ⊢
  rw [←e,ih]
  simp only [List.any_cons,List.all_cons,Bool.or_assoc,Bool.and_assoc]
theorem Q58 (n:Nat) (ns:List Nd) (vs:List R) (a:Asg) (p:Nat→Bool):∀ (ks:List Int) (f:Asg→Bool),(∀ k∈ks,Dep (Yf ns k.toNat) (Ql ns k.toNat))→(∀ k∈ks,∀ v,Ql ns k.toNat v=true→p v=true) →
  (∀ k∈ks,∀ a,¬ (f a=true∧Yf ns k.toNat a=true))→(ks.Pairwise fun k l=>∀ a,¬ (Yf ns k.toNat a=true∧Yf ns l.toNat a=true))→(∀ k∈ks,vs.getD k.toNat S.zero=tot S w (inV n (Ql ns k.toNat)) (Yf ns k.toNat) a) →
  ks.foldl (fun r k=>S.add r (S.mul (vs.getD k.toNat S.zero) (Kh S w (inV n fun v=>p v&&!Ql ns k.toNat v)))) (tot S w (inV n p) f a)=tot S w (inV n p) (fun a=>f a||ks.any fun k=>Yf ns k.toNat a) a
 | [],f,_,_,_,_,_=>by simp
 | k::ks,f,hd,ho,hx,hp,hv=>by
  rw [List.pairwise_cons] at hp
  have e:=Q88 S w (hd k (by simp)) (ho k (by simp)) (List.range' 1 n) a
  rw [List.foldl_cons,hv k (by simp)]
  unfold inV at e ⊢
  rw [←e,←Q8d S w (hx k (by simp))]
  have ih:=Q58 n ns vs a p ks (fun a=>f a||Yf ns k.toNat a) (fun l hl=>hd l (by simp [hl])) (fun l hl=>ho l (by simp [hl])) (fun l hl b hb=>by
   rcases Bool.or_eq_true _ _▸hb.1 with h | h
   ·exact hx l (by simp [hl]) b ⟨h,hb.2⟩
   ·exact hp.1 l hl b ⟨h,hb.2⟩) hp.2 (fun l hl=>hv l (by simp [hl]))
  unfold inV at ih
  rw [ih]
  simp only [List.any_cons,Bool.or_assoc]
theorem Ay {n:Nat} {ns:List Nd} {vs:List R} (hn:Ze n ns) (hD:Zm ns) (hT:Xq ns) (hv:Vals S w n ns vs) (a:Asg):∀ i,i<ns.length→vs.getD i S.zero=tot S w (inV n (Ql ns i)) (Yf ns i) a:=by
 intro i
 induction i using Nat.strongRecOn with
 | ind i ih =>
 intro hi
 have hx:=List.getElem?_eq_getElem hi
 have hk:=hn i _ hx
 have he:=hv.2 i _ hx
 rw [List.getD_eq_getElem?_getD,he,Option.getD_some]
 have hs:Yf ns i=_:=funext fun a=>Q54 hx hk a
 have ho:Ql ns i=_:=funext fun v=>U3 hx hk v
 have hlt:∀ k∈ns[i].ins,k.toNat<i:=fun k h=>(hk.ins k h).2
 have hdep:∀ k∈ns[i].ins,Dep (Yf ns k.toNat) (Ql ns k.toNat):=fun k h=>Wy hn _ (by have:=hlt k h;omega)
 have hval:∀ k∈ns[i].ins,vs.getD k.toNat S.zero=tot S w (inV n (Ql ns k.toNat)) (Yf ns k.toNat) a:=fun k h=>ih _ (hlt k h) (by have:=hlt k h;omega)
 unfold Q3c
 by_cases k1:ns[i].k=1
 ·rw [if_pos k1,hs,ho]
  simp only [k1,if_pos]
  rw [hk.leaf (by omega) (by omega)]
  simp only [List.any_nil,Bool.or_false]
  rw [show inV n (fun v=>decide ((1:Int)=2)&&decide (v=ns[i].lit.natAbs))=[] from List.filter_eq_nil_iff.2 fun x _=>by simp]
  rfl
 rw [if_neg k1]
 by_cases k2:ns[i].k=2
 ·obtain ⟨l0,ln⟩:=hk.lit k2
  rw [if_pos k2,hs,ho,hk.leaf (by omega) (by omega)]
  simp only [k2,List.any_nil,Bool.or_false,decide_true,Bool.true_and]
  rw [inV_one (by omega) ln,Yj]
  show _=S.add (S.mul _ (Ok S _)) (S.mul _ (Ok S _))
  simp only [liB,upd,if_pos]
  by_cases hp:0<ns[i].lit
  ·simp [hp,Ok,S.mulZero,S.mulOne,S.zeroA]
  ·simp [hp,Ok,S.mulZero,S.mulOne,S.addZero]
 rw [if_neg k2]
 by_cases k3:ns[i].k=3
 ·have h:=Q2z S w n ns vs a ns[i].ins (fun _=>true) (fun _=>false) (Dep.const _ _) hdep (fun k _ v hv=>by cases hv) (hD i _ hx k3) hval
  rw [show inV n (fun _=>false)=[] from List.filter_eq_nil_iff.2 fun x _=>by simp] at h
  rw [if_pos k3]
  refine Eq.trans (by rfl) (h.trans ?_)
  rw [hs,ho]
  simp [k3]
 rw [if_neg k3]
 by_cases k4:ns[i].k=4
 ·have h:=Q58 S w n ns vs a (Ql ns i) ns[i].ins (fun _=>false) hdep (fun k h v hv=>by
   rw [U3 hx hk,Bool.or_eq_true]
   exact .inr (List.any_eq_true.2 ⟨k,h,hv⟩)) (fun k _ a h=>by cases h.1) (hT i _ hx k4) hval
  rw [Hu] at h
  rw [if_pos k4,h,hs]
  simp [k4]
 rw [if_neg k4,hs]
 simp only [k1,k2,k3,k4,if_false]
 rw [Hu]
theorem Q72 {n:Nat} {ns:List Nd} {vs:List R} (hn:Ze n ns) (hD:Zm ns) (hT:Xq ns) (hv:Vals S w n ns vs) {i:Nat} (hi:i<ns.length) (a:Asg):S.mul (vs.getD i S.zero) (Kh S w (inV n fun v=>!Ql ns i v))=tot S w (List.range' 1 n) (Yf ns i) a:=by
 have h:=Q88 S w (Wy hn i hi) (p:=fun _=>true) (fun _ _=>rfl) (List.range' 1 n) a
 rw [List.filter_eq_self.2 (fun x _=>rfl)] at h
 rw [h,Ay S w hn hD hT hv a i hi]
 simp [inV]
end
end
/- A compiler's net,in plain Lean: nodes added one by one,and what they mean. -/
section
def clB (a:Asg) (c:List Int):Bool:=c.any (liB a)
def thB (a:Asg) (L:List (List Int)):Bool:=L.all (clB a)
def clV (L:List (List Int)) (v:Nat):Bool:=L.any fun c=>c.any fun x=>decide (v=x.natAbs)
theorem Yk {L:List (List Int)} {v:Nat}:clV L v=true↔∃ c∈L,∃ x∈c,v=x.natAbs:=by
 unfold clV
 simp only [List.any_eq_true,decide_eq_true_eq]
theorem Ud {a:Asg} {L:List (List Int)}:thB a L=true↔∀ c∈L,∃ x∈c,liB a x=true:=by
 unfold thB clB
 simp only [List.all_eq_true,List.any_eq_true]
def Hl (n:Nat) (L:List (List Int)):Prop:=∀ c∈L,∀ x∈c,x≠0∧x.natAbs≤n
structure NetG (n:Nat) (ns:List Nd):Prop where
 ok:Ze n ns
 de:Zm ns
 dt:Xq ns
theorem Av {α:Type} {l:List α} {x y:α} {i:Nat} (h:(l++[x])[i]?=some y):(l[i]?=some y∧i<l.length)∨(i=l.length∧y=x):=by
 by_cases hi:i<l.length
 ·rw [List.getElem?_append_left hi] at h;exact .inl ⟨h,hi⟩
 ·rw [List.getElem?_append_right (by omega)] at h
  have:i-l.length=0:=by
   by_cases e:i-l.length=0
   ·exact e
   ·rw [List.getElem?_eq_none (by simp;omega)] at h;cases h
  rw [this] at h
  simp at h
  exact .inr ⟨by omega,h.symm⟩
theorem NetG.add {n:Nat} {ns:List Nd} {x:Nd} (h:NetG n ns) (hx:NdOk n ns.length x) (h3:x.k=3→x.ins.Pairwise fun k l=>∀ v,Ql ns k.toNat v=true→Ql ns l.toNat v=false)
  (h4:x.k=4→x.ins.Pairwise fun k l=>∀ a,¬ (Yf ns k.toNat a=true∧Yf ns l.toNat a=true)):NetG n (ns++[x]):=by
 refine ⟨fun i y hy=>?_,fun i y hy hk=>?_,fun i y hy hk=>?_⟩
 ·rcases Av hy with ⟨h1,_⟩ | ⟨rfl,rfl⟩
  ·exact h.ok i y h1
  ·exact hx
 ·rcases Av hy with ⟨h1,hi⟩ | ⟨rfl,rfl⟩
  ·have ho:=(h.ok i y h1).ins
   refine (h.de i y h1 hk).imp_of_mem fun {k l} hk2 hl2 hp v=>?_
   have a1:=(ho k hk2).2
   have a2:=(ho l hl2).2
   rw [Xo ns [x] (by omega),Xo ns [x] (by omega)]
   exact hp v
  ·refine (h3 hk).imp_of_mem fun {k l} hk2 hl2 hp v=>?_
   have a1:=(hx.ins k hk2).2
   have a2:=(hx.ins l hl2).2
   rw [Xo ns [y] (by omega),Xo ns [y] (by omega)]
   exact hp v
 ·rcases Av hy with ⟨h1,hi⟩ | ⟨rfl,rfl⟩
  ·have ho:=(h.ok i y h1).ins
   refine (h.dt i y h1 hk).imp_of_mem fun {k l} hk2 hl2 hp a=>?_
   have a1:=(ho k hk2).2
   have a2:=(ho l hl2).2
   rw [Ob ns [x] (by omega),Ob ns [x] (by omega)]
   exact hp a
  ·refine (h4 hk).imp_of_mem fun {k l} hk2 hl2 hp a=>?_
   have a1:=(hx.ins k hk2).2
   have a2:=(hx.ins l hl2).2
   rw [Ob ns [y] (by omega),Ob ns [y] (by omega)]
   exact hp a
theorem Uc {n:Nat} {ns:List Nd} {x:Nd} (hx:NdOk n ns.length x) (a:Asg):Yf (ns++[x]) ns.length a =
  (if x.k=1 then true else if x.k=2 then liB a x.lit else if x.k=3 then x.ins.all (fun k=>Yf ns k.toNat a) else if x.k=4 then x.ins.any (fun k=>Yf ns k.toNat a) else false):=by
 rw [Q54 (by simp) hx a]
 rw [Hv fun k hk=>Ob ns [x] (hx.ins k hk).2 a,Ov fun k hk=>Ob ns [x] (hx.ins k hk).2 a]
theorem Ul {n:Nat} {ns:List Nd} {x:Nd} (hx:NdOk n ns.length x) (v:Nat):Ql (ns++[x]) ns.length v=((decide (x.k=2)&&decide (v=x.lit.natAbs))||x.ins.any fun k=>Ql ns k.toNat v):=by
 rw [U3 (by simp) hx v]
 rw [Ov fun k hk=>congrFun (Xo ns [x] (hx.ins k hk).2) v]
structure IsLit (n:Nat) (ns:List Nd) (i:Nat) (l:Int):Prop where
 lt:i<ns.length
 sem:∀ a,Yf ns i a=liB a l
 own:∀ v,Ql ns i v=decide (v=l.natAbs)
theorem IsLit.app {n:Nat} {ns:List Nd} {i:Nat} {l:Int} (h:IsLit n ns i l) (ms:List Nd):IsLit n (ns++ms) i l :=
 ⟨by rw [List.length_append];have:=h.lt;omega,fun a=>by rw [Ob ns ms h.lt];exact h.sem a,fun v=>by rw [Xo ns ms h.lt];exact h.own v⟩
theorem add_lit {n:Nat} {ns:List Nd} {l:Int} (h:NetG n ns) (h0:l≠0) (hn:l.natAbs≤n):NetG n (ns++[⟨2,l,[]⟩])∧IsLit n (ns++[⟨2,l,[]⟩]) ns.length l:=by
 have hx:NdOk n ns.length ⟨2,l,[]⟩:=⟨fun k hk=>(by cases hk),fun _=>⟨h0,hn⟩,fun _ _=>rfl,by simp,fun e=>absurd rfl e,by simp⟩
 refine ⟨h.add hx (fun e=>absurd e (by simp)) (fun e=>absurd e (by simp)),by simp,fun a=>?_,fun v=>?_⟩
 ·rw [Uc hx];simp
 ·rw [Ul hx];simp
structure Means (ns:List Nd) (i:Nat) (L:List (List Int)):Prop where
 lt:i<ns.length
 sem:∀ a,Yf ns i a=thB a L
 own:∀ v,Ql ns i v=true→clV L v=true
theorem Means.app {ns:List Nd} {i:Nat} {L:List (List Int)} (h:Means ns i L) (ms:List Nd):Means (ns++ms) i L :=
 ⟨by rw [List.length_append];have:=h.lt;omega,fun a=>by rw [Ob ns ms h.lt];exact h.sem a,fun v hv=>h.own v (by rwa [Xo ns ms h.lt] at hv)⟩
theorem add_false {n:Nat} {ns:List Nd} {L:List (List Int)} (h:NetG n ns) (hL:[]∈L):NetG n (ns++[⟨0,0,[]⟩])∧Means (ns++[⟨0,0,[]⟩]) ns.length L:=by
 have hx:NdOk n ns.length ⟨0,0,[]⟩:=⟨fun k hk=>(by cases hk),fun e=>absurd e (by simp),fun _ _=>rfl,by decide,fun _=>rfl,by simp⟩
 refine ⟨h.add hx (fun e=>absurd e (by simp)) (fun e=>absurd e (by simp)),by simp,fun a=>?_,fun v hv=>?_⟩
 ·rw [Uc hx]
  have:¬ thB a L=true:=fun e=>by
   obtain ⟨x,hx,_⟩:=Ud.1 e [] hL
   cases hx
  simpa using this
 ·rw [Ul hx] at hv;simp at hv
theorem add_true {n:Nat} {ns:List Nd} (h:NetG n ns):NetG n (ns++[⟨1,0,[]⟩])∧Means (ns++[⟨1,0,[]⟩]) ns.length []:=by
 have hx:NdOk n ns.length ⟨1,0,[]⟩:=⟨fun k hk=>(by cases hk),fun e=>absurd e (by simp),fun _ _=>rfl,by decide,fun _=>rfl,by simp⟩
 refine ⟨h.add hx (fun e=>absurd e (by simp)) (fun e=>absurd e (by simp)),by simp,fun a=>?_,fun v hv=>?_⟩
 ·rw [Uc hx];simp [thB]
 ·rw [Ul hx] at hv;simp at hv
structure Part (ns:List Nd) (ks:List Int) (L L0:List (List Int)):Prop where
 lt:∀ k∈ks,0≤k∧k.toNat<ns.length
 sem:∀ a,thB a L0=((ks.all fun k=>Yf ns k.toNat a)&&thB a L)
 dis:ks.Pairwise fun k l=>∀ v,Ql ns k.toNat v=true→Ql ns l.toNat v=false
 own:∀ k∈ks,∀ v,Ql ns k.toNat v=true→clV L0 v=true∧clV L v=false
 sub:∀ v,clV L v=true→clV L0 v=true
theorem Part.start (ns:List Nd) (L:List (List Int)):Part ns [] L L:=⟨fun k hk=>(by cases hk),fun a=>by simp,List.Pairwise.nil,fun k hk=>(by cases hk),fun _ h=>h⟩
theorem Part.app {ns:List Nd} {ks:List Int} {L L0:List (List Int)} (h:Part ns ks L L0) (ms:List Nd):Part (ns++ms) ks L L0 :=
 ⟨fun k hk=>⟨(h.lt k hk).1,by rw [List.length_append];have:=(h.lt k hk).2;omega⟩,
  fun a=>by rw [Hv fun k hk=>Ob ns ms (h.lt k hk).2 a];exact h.sem a,
  h.dis.imp_of_mem fun {k l} hk hl hp v=>by rw [Xo ns ms (h.lt k hk).2,Xo ns ms (h.lt l hl).2];exact hp v,
  fun k hk v hv=>h.own k hk v (by rwa [Xo ns ms (h.lt k hk).2] at hv),h.sub⟩
theorem Part.more {ns:List Nd} {ks:List Int} {L L' L0:List (List Int)} (h:Part ns ks L L0) {i:Nat} (hi:i<ns.length) (hs:∀ a,thB a L=(Yf ns i a&&thB a L')) (ho:∀ v,Ql ns i v=true→clV L v=true∧clV L' v=false) (hv:∀ v,clV L' v=true→clV L v=true):Part ns (ks++[(i:Int)]) L' L0:=by
 refine ⟨fun k hk=>?_,fun a=>?_,?_,fun k hk v hv2=>?_,fun v hv2=>h.sub v (hv v hv2)⟩
 ·rcases List.mem_append.1 hk with hk | hk
  ·exact h.lt k hk
  ·obtain rfl:k=(i:Int):=by simpa using hk
   exact ⟨by omega,by simpa using hi⟩
 ·rw [h.sem a,hs a,List.all_append]
  simp [Bool.and_assoc]
 ·rw [List.pairwise_append]
  refine ⟨h.dis,by simp,fun k hk l hl v hv2=>?_⟩
  obtain rfl:l=(i:Int):=by simpa using hl
  cases hq:Ql ns (i:Int).toNat v with
  | false=>rfl
  | true =>
   have h1:=(h.own k hk v hv2).2
   have h2:=(ho v (by simpa using hq)).1
   rw [h1] at h2;cases h2
 ·rcases List.mem_append.1 hk with hk | hk
  ·obtain ⟨a1,a2⟩:=h.own k hk v hv2
   refine ⟨a1,?_⟩
   cases hq:clV L' v with
   | false=>rfl
   | true=>rw [hv v hq] at a2;cases a2
  ·obtain rfl:k=(i:Int):=by simpa using hk
   obtain ⟨a1,a2⟩:=ho v (by simpa using hv2)
   exact ⟨h.sub v a1,a2⟩
structure Giv (x:Int) (L L':List (List Int)):Prop where
 sem:∀ a,liB a x=true→thB a L'=thB a L
 var:∀ v,clV L' v=true→clV L v=true∧v≠x.natAbs
theorem Part.unit {n:Nat} {ns:List Nd} {ks:List Int} {L L' L0:List (List Int)} (h:Part ns ks L L0) {i:Nat} {x:Int} (hi:IsLit n ns i x) (hx:[x]∈L) (hg:Giv x L L'):Part ns (ks++[(i:Int)]) L' L0:=by
 refine h.more hi.lt (fun a=>?_) (fun v hv=>?_) (fun v hv=>(hg.var v hv).1)
 ·rw [hi.sem]
  cases hl:liB a x with
  | true=>rw [hg.sem a hl];simp
  | false =>
   have:¬ thB a L=true:=fun e=>by
    obtain ⟨y,hy,h2⟩:=Ud.1 e [x] hx
    obtain rfl:y=x:=by simpa using hy
    rw [hl] at h2;cases h2
   simpa using this
 ·rw [hi.own] at hv
  have e:v=x.natAbs:=by simpa using hv
  refine ⟨Yk.2 ⟨[x],hx,x,by simp,e⟩,?_⟩
  cases hq:clV L' v with
  | false=>rfl
  | true=>exact ((hg.var v hq).2 e).elim
theorem Part.group {ns:List Nd} {ks:List Int} {L g L' L0:List (List Int)} (h:Part ns ks L L0) {i:Nat} (hi:Means ns i g) (hs:∀ a,thB a L=(thB a g&&thB a L')) (hg:∀ v,clV g v=true→clV L v=true∧clV L' v=false) (hv:∀ v,clV L' v=true→clV L v=true):Part ns (ks++[(i:Int)]) L' L0 :=
 h.more hi.lt (fun a=>by rw [hi.sem];exact hs a) (fun v hv2=>hg v (hi.own v hv2)) hv
theorem Part.and {n:Nat} {ns:List Nd} {ks:List Int} {L0:List (List Int)} (hn:NetG n ns) (h:Part ns ks [] L0) (hfew:ks.length≤1000):NetG n (ns++[⟨3,0,ks⟩])∧Means (ns++[⟨3,0,ks⟩]) ns.length L0:=by
 have hx:NdOk n ns.length ⟨3,0,ks⟩:=⟨h.lt,fun e=>absurd e (by simp),fun e=>absurd rfl e,by simp,fun _=>rfl,hfew⟩
 refine ⟨hn.add hx (fun _=>h.dis) (fun e=>absurd e (by simp)),by simp,fun a=>?_,fun v hv=>?_⟩
 ·rw [Uc hx,h.sem a];simp [thB]
 ·rw [Ul hx] at hv
  simp only [show ((3:Int)=2)=False by simp,decide_false,Bool.false_and,Bool.false_or] at hv
  obtain ⟨k,hk,hv⟩:=List.any_eq_true.1 hv
  exact (h.own k hk v hv).1
structure Side (ns:List Nd) (i:Nat) (x:Int) (L:List (List Int)):Prop where
 lt:i<ns.length
 sem:∀ a,Yf ns i a=(liB a x&&thB a L)
 own:∀ v,Ql ns i v=true→clV L v=true
theorem Side.app {ns:List Nd} {i:Nat} {x:Int} {L:List (List Int)} (h:Side ns i x L) (ms:List Nd):Side (ns++ms) i x L :=
 ⟨by rw [List.length_append];have:=h.lt;omega,fun a=>by rw [Ob ns ms h.lt];exact h.sem a,fun v hv=>h.own v (by rwa [Xo ns ms h.lt] at hv)⟩
theorem side_lit {n:Nat} {ns:List Nd} {i:Nat} {x:Int} {L:List (List Int)} (h:IsLit n ns i x) (hg:Giv x L []) (hx:clV L x.natAbs=true):Side ns i x L :=
 ⟨h.lt,fun a=>by
  rw [h.sem]
  cases hl:liB a x with
  | true=>rw [←hg.sem a hl];rfl
  | false=>rfl,fun v hv=>by rw [h.own] at hv;rw [show v=x.natAbs by simpa using hv];exact hx⟩
theorem side_and {n:Nat} {ns:List Nd} {ks:List Int} {i:Nat} {x:Int} {L L':List (List Int)} (hn:NetG n ns) (hi:IsLit n ns i x) (h:Part ns ks [] L') (hg:Giv x L L') (hx:clV L x.natAbs=true) (hfew:ks.length≤999) :
  NetG n (ns++[⟨3,0,(i:Int)::ks⟩])∧Side (ns++[⟨3,0,(i:Int)::ks⟩]) ns.length x L:=by
 have hlt:∀ k∈(i:Int)::ks,0≤k∧k.toNat<ns.length:=fun k hk=>by
  rcases List.mem_cons.1 hk with rfl | hk
  ·exact ⟨by omega,by simpa using hi.lt⟩
  ·exact h.lt k hk
 have hd:NdOk n ns.length ⟨3,0,(i:Int)::ks⟩:=⟨hlt,fun e=>absurd e (by simp),fun e=>absurd rfl e,by simp,fun _=>rfl,by simp;omega⟩
 refine ⟨hn.add hd (fun _=>?_) (fun e=>absurd e (by simp)),by simp,fun a=>?_,fun v hv=>?_⟩
 ·show ((i:Int)::ks).Pairwise _
  rw [List.pairwise_cons]
  refine ⟨fun k hk v hv=>?_,h.dis⟩
  have e:v=x.natAbs:=by
   have:=hi.own v
   rw [show (i:Int).toNat=i from rfl] at hv
   rw [hv] at this
   simpa using this.symm
  cases hq:Ql ns k.toNat v with
  | false=>rfl
  | true=>exact ((hg.var v (h.own k hk v hq).1).2 e).elim
 ·rw [Uc hd]
  simp only [show ((3:Int)=1)=False by simp,show ((3:Int)=2)=False by simp,if_false,if_true,List.all_cons,Int.toNat_natCast]
  rw [hi.sem]
  cases hl:liB a x with
  | true =>
   have e:=h.sem a
   rw [hg.sem a hl] at e
   rw [e];simp [thB]
  | false=>rfl
 ·rw [Ul hd] at hv
  simp only [show ((3:Int)=2)=False by simp,decide_false,Bool.false_and,Bool.false_or,List.any_cons,Bool.or_eq_true,Int.toNat_natCast] at hv
  rcases hv with hv | hv
  ·rw [hi.own] at hv;rw [show v=x.natAbs by simpa using hv];exact hx
  ·obtain ⟨k,hk,hv⟩:=List.any_eq_true.1 hv
   exact (hg.var v (h.own k hk v hv).1).1
theorem Q1f {x:Int} (h:x≠0) (a:Asg):liB a (-x)=!liB a x:=by
 unfold liB
 rw [Int.natAbs_neg]
 by_cases hp:0<x
 ·rw [if_neg (by omega),if_pos hp]
 ·rw [if_pos (by omega),if_neg hp,Bool.not_not]
theorem add_or {n:Nat} {ns:List Nd} {i j:Nat} {x:Int} {L:List (List Int)} (hn:NetG n ns) (h0:x≠0) (hi:Side ns i (-x) L) (hj:Side ns j x L):NetG n (ns++[⟨4,0,[(i:Int),(j:Int)]⟩])∧Means (ns++[⟨4,0,[(i:Int),(j:Int)]⟩]) ns.length L:=by
 have hd:NdOk n ns.length ⟨4,0,[(i:Int),(j:Int)]⟩:=⟨fun k hk=>by
  rcases List.mem_cons.1 hk with rfl | hk
  ·exact ⟨by omega,by simpa using hi.lt⟩
  ·obtain rfl:k=(j:Int):=by simpa using hk
   exact ⟨by omega,by simpa using hj.lt⟩,fun e=>absurd e (by simp),fun _ e=>absurd rfl e,by simp,fun _=>rfl,by simp⟩
 refine ⟨hn.add hd (fun e=>absurd e (by simp)) (fun _=>?_),by simp,fun a=>?_,fun v hv=>?_⟩
 ·show [(i:Int),(j:Int)].Pairwise _
  simp only [List.pairwise_cons,List.mem_singleton,forall_eq,List.not_mem_nil,false_implies,implies_true,List.Pairwise.nil,and_true]
  intro a hab
  have h1:=hab.1
  have h2:=hab.2
  rw [Int.toNat_natCast,hi.sem,Q1f h0] at h1
  rw [Int.toNat_natCast,hj.sem] at h2
  simp only [Bool.and_eq_true,Bool.not_eq_true'] at h1 h2
  rw [h2.1] at h1;cases h1.1
 ·rw [Uc hd]
  simp only [show ((4:Int)=1)=False by simp,show ((4:Int)=2)=False by simp,show ((4:Int)=3)=False by simp,if_false,if_true,List.any_cons,List.any_nil,Bool.or_false,Int.toNat_natCast]
  rw [hi.sem,hj.sem,Q1f h0]
  cases liB a x<;>simp
 ·rw [Ul hd] at hv
  simp only [show ((4:Int)=2)=False by simp,decide_false,Bool.false_and,Bool.false_or,List.any_cons,List.any_nil,Bool.or_false,Bool.or_eq_true,Int.toNat_natCast] at hv
  rcases hv with hv | hv
  ·exact hi.own v hv
  ·exact hj.own v hv
end
/- Clauses,in plain Lean: in order,what is left of them,their parts,their key,how many variables. -/
section
/-! ### The same clauses -/
def SameC (L M:List (List Int)):Prop:=∀ c,c∈L↔c∈M
theorem SameC.thB {L M:List (List Int)} (h:SameC L M) (a:Asg):thB a L=thB a M:=by
 apply Bool.eq_iff_iff.2
 rw [Ud,Ud]
 exact ⟨fun k c hc=>k c ((h c).2 hc),fun k c hc=>k c ((h c).1 hc)⟩
theorem SameC.clV {L M:List (List Int)} (h:SameC L M) (v:Nat):clV L v=clV M v:=by
 apply Bool.eq_iff_iff.2
 rw [Yk,Yk]
 exact ⟨fun ⟨c,hc,k⟩=>⟨c,(h c).1 hc,k⟩,fun ⟨c,hc,k⟩=>⟨c,(h c).2 hc,k⟩⟩
theorem SameC.ok {n:Nat} {L M:List (List Int)} (h:SameC L M) (hm:Hl n M):Hl n L:=fun c hc=>hm c ((h c).1 hc)
def ByLen (L:List (List Int)):Prop:=L.Pairwise fun c d=>c.length≤d.length
theorem ByLen.head {c:List Int} {L:List (List Int)} (h:ByLen (c::L)):∀ d∈c::L,c.length≤d.length:=fun d hd=>by
 rcases List.mem_cons.1 hd with rfl | hd
 ·exact Nat.le_refl _
 ·exact (List.pairwise_cons.1 h).1 d hd
/-! ### What is left,given a literal -/
def Q0o (x:Int) (L:List (List Int)):List (List Int):=(L.filter fun c=>!c.contains x).map fun c=>c.filter fun y=>!(y == -x)
theorem Q92 {x:Int} {L L':List (List Int)} (hx:x≠0) (h:SameC L' (Q0o x L)):Giv x L L':=by
 refine ⟨fun a hl=>?_,fun v hv=>?_⟩
 ·rw [h.thB]
  apply Bool.eq_iff_iff.2
  rw [Ud,Ud]
  constructor
  ·intro k c hc
   by_cases hx:c.contains x=true
   ·exact ⟨x,by simpa using hx,hl⟩
   ·obtain ⟨y,hy,hy2⟩:=k (c.filter fun y=>!(y == -x)) (List.mem_map.2 ⟨c,List.mem_filter.2 ⟨hc,by simpa using hx⟩,rfl⟩)
    exact ⟨y,(List.mem_filter.1 hy).1,hy2⟩
  ·intro k d hd
   obtain ⟨c,hc,rfl⟩:=List.mem_map.1 hd
   obtain ⟨hc1,hc2⟩:=List.mem_filter.1 hc
   obtain ⟨y,hy,hy2⟩:=k c hc1
   refine ⟨y,List.mem_filter.2 ⟨hy,?_⟩,hy2⟩
   have:y≠-x:=fun e=>by
    rw [e,Q1f hx,hl] at hy2;cases hy2
   simpa using this
 ·rw [h.clV] at hv
  obtain ⟨d,hd,y,hy,e⟩:=Yk.1 hv
  obtain ⟨c,hc,rfl⟩:=List.mem_map.1 hd
  obtain ⟨hc1,hc2⟩:=List.mem_filter.1 hc
  obtain ⟨hy1,hy2⟩:=List.mem_filter.1 hy
  refine ⟨Yk.2 ⟨c,hc1,y,hy1,e⟩,fun ev=>?_⟩
  have h1:y≠-x:=by simpa using hy2
  have h2:y≠x:=fun e2=>by
   rw [e2] at hy1
   have:c.contains x=true:=by simpa using hy1
   rw [this] at hc2;simp at hc2
  rw [ev] at e
  omega
theorem giv_ok {n:Nat} {x:Int} {L:List (List Int)} (h:Hl n L):Hl n (Q0o x L):=fun d hd y hy=>by
 obtain ⟨c,hc,rfl⟩:=List.mem_map.1 hd
 exact h c (List.mem_filter.1 hc).1 y (List.mem_filter.1 hy).1
/-! ### How many variables -/
def nvI (n:Nat) (L:List (List Int)):Nat:=(inV n (clV L)).length
theorem Ho {p q:Nat→Bool}:∀ {l:List Nat},(∀ v∈l,p v=true→q v=true)→(l.filter p).length≤(l.filter q).length
 | [],_=>Nat.le_refl _
 | v::l,h=>by
  have ih:=Ho (l:=l) fun u hu=>h u (by simp [hu])
  have hv:=h v (by simp)
  rw [List.filter_cons,List.filter_cons]
  cases hp:p v with
  | true=>rw [if_pos rfl,if_pos (hv hp)];simp;omega
  | false=>rw [if_neg (by simp)];split<;>simp<;>omega
theorem Wb {p q:Nat→Bool} {u:Nat}:∀ {l:List Nat},u∈l→(∀ v∈l,p v=true→q v=true)→p u=false→q u=true→(l.filter p).length<(l.filter q).length
 | v::l,hu,h,h1,h2=>by
  have hle:=Ho (l:=l) fun u hu=>h u (by simp [hu])
  rcases List.mem_cons.1 hu with rfl | hu
  ·rw [List.filter_cons,List.filter_cons,if_neg (by simp [h1]),if_pos h2];simp;omega
  ·have ih:=Wb hu (fun w hw=>h w (by simp [hw])) h1 h2
   have hv:=h v (by simp)
   rw [List.filter_cons,List.filter_cons]
   cases hp:p v with
   | true=>rw [if_pos rfl,if_pos (hv hp)];simp;omega
   | false=>rw [if_neg (by simp)];split<;>simp<;>omega
theorem U6 {p q r:Nat→Bool}:∀ {l:List Nat},(∀ v∈l,p v=true→r v=true∧q v=false)→(∀ v∈l,q v=true→r v=true)→(l.filter p).length+(l.filter q).length≤(l.filter r).length
 | [],_,_=>Nat.le_refl _
 | v::l,h,k=>by
  have ih:=U6 (l:=l) (fun u hu=>h u (by simp [hu])) (fun u hu=>k u (by simp [hu]))
  have hv:=h v (by simp)
  have kv:=k v (by simp)
  rw [List.filter_cons,List.filter_cons,List.filter_cons]
  cases hp:p v with
  | true =>
   rw [if_pos rfl,if_neg (by simp [(hv hp).2]),if_pos (hv hp).1];simp;omega
  | false =>
   rw [if_neg (by simp)]
   cases hq:q v with
   | true=>rw [if_pos rfl,if_pos (kv hq)];simp;omega
   | false=>rw [if_neg (by simp)];split<;>simp<;>omega
theorem nv_le (n:Nat) (L:List (List Int)):nvI n L≤n:=by
 unfold nvI inV
 exact Nat.le_trans (List.length_filter_le _ _) (by simp)
theorem nv_same {n:Nat} {L M:List (List Int)} (h:SameC L M):nvI n L=nvI n M:=by
 unfold nvI
 rw [show clV L=clV M from funext h.clV]
theorem Q8u {n:Nat} {x:Int} {L L':List (List Int)} (h:Giv x L L') (hx:clV L x.natAbs=true) (h0:x≠0) (hn:x.natAbs≤n):nvI n L'<nvI n L:=by
 refine Wb (u:=x.natAbs) (by simp [List.mem_range'_1];omega) (fun v _ hv=>(h.var v hv).1) ?_ hx
 cases hq:clV L' x.natAbs with
 | false=>rfl
 | true=>exact ((h.var _ hq).2 rfl).elim
theorem nv_parts {n:Nat} {L g r:List (List Int)} (hg:∀ v,clV g v=true→clV L v=true∧clV r v=false) (hr:∀ v,clV r v=true→clV L v=true):nvI n g+nvI n r≤nvI n L :=
 U6 (fun v _=>hg v) (fun v _=>hr v)
theorem Q8l {n:Nat} {L:List (List Int)} (hL:Hl n L) {c:List Int} (hc:c∈L) (h:c≠[]):1≤nvI n L:=by
 obtain ⟨x,r,rfl⟩:=List.exists_cons_of_ne_nil h
 obtain ⟨h0,hn⟩:=hL _ hc x (by simp)
 have:x.natAbs∈inV n (clV L):=List.mem_filter.2 ⟨by simp [List.mem_range'_1];omega,Yk.2 ⟨_,hc,x,by simp,rfl⟩⟩
 exact List.length_pos_of_mem this
def fbI (v:Nat):Nat:=6*2^v-5
theorem U0 (v:Nat):1≤2^v:=Nat.pow_pos (by omega)
theorem Ab {u v:Nat} (h:u≤v):fbI u≤fbI v:=by
 have:=Nat.pow_le_pow_right (n:=2) (by omega) h
 unfold fbI;omega
theorem Q55 (v:Nat):1≤fbI v:=by have:=U0 v;unfold fbI;omega
theorem fb_unit {u v:Nat} (h:u<v):1+fbI u≤fbI v:=by
 have h1:=Nat.pow_le_pow_right (n:=2) (by omega) (show u+1≤v from h)
 have h2:=U0 u
 rw [Nat.pow_succ] at h1
 unfold fbI;omega
theorem fb_side {u v:Nat} (h:u<v):1+2*(2+fbI u)≤fbI v:=by
 have h1:=Nat.pow_le_pow_right (n:=2) (by omega) (show u+1≤v from h)
 have h2:=U0 u
 rw [Nat.pow_succ] at h1
 unfold fbI;omega
theorem fb_add {u v t:Nat} (hu:1≤u) (hv:1≤v) (h:u+v≤t):fbI u+fbI v≤fbI t:=by
 have h1:=Nat.pow_le_pow_right (n:=2) (by omega) h
 rw [Nat.pow_add] at h1
 have h2:2≤2^u:=by have:=Nat.pow_le_pow_right (n:=2) (by omega) hu;simpa using this
 have h3:2≤2^v:=by have:=Nat.pow_le_pow_right (n:=2) (by omega) hv;simpa using this
 have h4:2^u+2^v≤2^u*2^v:=by
  generalize 2^u=x at *
  generalize 2^v=y at *
  have a1:=Nat.mul_le_mul (show 2≤x from h2) (Nat.le_refl y)
  have a2:=Nat.mul_le_mul (Nat.le_refl x) (show 2≤y from h3)
  omega
 unfold fbI;omega
/-! ### The key -/
def Vw (c:List Int):List UInt8:=(c.flatMap fun x=>Lib.itoa x++[32])++[48]
def O7 (L:List (List Int)):List UInt8:=L.flatMap Vw
theorem Q0d:∀ (v:Nat) (c:UInt8),c∈Lib.decDigits v→48≤c.toNat∧c.toNat≤57:=by
 intro v
 induction v using Nat.strongRecOn with
 | _ v ih =>
  have hd:∀ d,d<10→48≤(UInt8.ofNat (48+d)).toNat∧(UInt8.ofNat (48+d)).toNat≤57:=by decide
  intro c hc
  by_cases h:v<10
  ·rw [Lib.decDigits_one h,List.mem_singleton] at hc
   subst hc;exact hd v h
  ·rw [Lib.decDigits,dif_neg h] at hc
   rcases List.mem_append.1 hc with hc | hc
   ·exact ih (v/10) (by omega) c hc
   ·rw [List.mem_singleton] at hc;subst hc;exact hd _ (by omega)
def valD (l:List UInt8):Nat:=l.foldl (fun a c=>a*10+(c.toNat-48)) 0
theorem Q7y (v:Nat):valD (Lib.decDigits v)=v:=by
 induction v using Nat.strongRecOn with
 | _ v ih =>
  have hd:∀ d,d<10→(UInt8.ofNat (48+d)).toNat-48=d:=by decide
  by_cases h:v<10
  ·rw [Lib.decDigits_one h]
   show 0*10+((UInt8.ofNat (48+v)).toNat-48)=v
   rw [hd v h];omega
  ·rw [Lib.decDigits,dif_neg h]
   have:=ih (v/10) (by omega)
   unfold valD at this ⊢
   rw [List.foldl_append,this]
   show v/10*10+((UInt8.ofNat (48+v%10)).toNat-48)=v
   rw [hd _ (by omega)];omega
theorem Q74 {u v:Nat} (h:Lib.decDigits u=Lib.decDigits v):u=v:=by
 have:=congrArg valD h
 rwa [Q7y,Q7y] at this
theorem dec_head:∀ (v:Nat),1≤v→∃ c r,Lib.decDigits v=c::r∧c≠48:=by
 intro v
 induction v using Nat.strongRecOn with
 | _ v ih =>
  have hd:∀ d,d<10→1≤d→UInt8.ofNat (48+d)≠48:=by decide
  intro h1
  by_cases h:v<10
  ·exact ⟨_,[],by rw [Lib.decDigits_one h],hd v h h1⟩
  ·obtain ⟨c,r,e,hc⟩:=ih (v/10) (by omega) (by omega)
   exact ⟨c,r++[UInt8.ofNat (48+v%10)],by rw [Lib.decDigits,dif_neg h,e];rfl,hc⟩
theorem H7 (x:Int):Lib.itoa x=if x<0 then 45::Lib.decDigits x.natAbs else Lib.decDigits x.natAbs:=by
 by_cases h:x<0
 ·rw [if_pos h,show x = -((x.natAbs:Nat):Int) by omega,Lib.itoa_neg _ (by omega),Int.natAbs_neg,Int.natAbs_natCast]
 ·rw [if_neg h]
  have e:x=((x.natAbs:Nat):Int):=by omega
  rw [show Lib.itoa x=Lib.itoa ((x.natAbs:Nat):Int) by rw [←e],Lib.itoa_nonneg]
theorem Q4n {x:Int} {c:UInt8} (h:c∈Lib.itoa x):c≠32:=fun e=>by
 rw [H7] at h
 subst e
 split at h
 ·rcases List.mem_cons.1 h with h | h
  ·exact absurd h (by decide)
  ·have:=Q0d _ _ h;simp at this
 ·have:=Q0d _ _ h;simp at this
theorem Q44 {x:Int} (h:x≠0):∃ c r,Lib.itoa x=c::r∧c≠48:=by
 rw [H7]
 split
 ·exact ⟨45,_,rfl,by decide⟩
 ·exact dec_head _ (by omega)
theorem itoa_inj {x y:Int} (h:Lib.itoa x=Lib.itoa y):x=y:=by
 rw [H7,H7] at h
 have no:∀ (v:Nat) (r:List UInt8),Lib.decDigits v≠45::r:=fun v r e=>by
  have:=Q0d v 45 (by rw [e];simp)
  simp at this
 split at h<;>split at h
 ·have:=Q74 (List.cons.inj h).2;omega
 ·exact (no _ _ h.symm).elim
 ·exact (no _ _ h).elim
 ·have:=Q74 h;omega
theorem cut32:∀ {u v r s:List UInt8},(∀ c∈u,c≠32)→(∀ c∈v,c≠32)→u++32::r=v++32::s→u=v∧r=s
 | [],[],_,_,_,_,h=>by simpa using h
 | [],c::v,_,_,_,hv,h=>by
  rw [List.nil_append,List.cons_append,List.cons.injEq] at h
  exact (hv c (by simp) h.1.symm).elim
 | c::u,[],_,_,hu,_,h=>by
  rw [List.nil_append,List.cons_append,List.cons.injEq] at h
  exact (hu c (by simp) h.1).elim
 | c::u,d::v,r,s,hu,hv,h=>by
  rw [List.cons_append,List.cons_append,List.cons.injEq] at h
  obtain ⟨e1,e2⟩:=cut32 (fun x hx=>hu x (by simp [hx])) (fun x hx=>hv x (by simp [hx])) h.2
  exact ⟨by rw [h.1,e1],e2⟩
theorem Q75:∀ {c d:List Int} {r s:List UInt8},(∀ x∈c,x≠0)→(∀ x∈d,x≠0)→Vw c++r=Vw d++s→c=d∧r=s
 | [],[],_,_,_,_,h=>by simpa [Vw] using h
 | [],y::d,r,s,_,hd,h=>by
  obtain ⟨k,t,e,hk⟩:=Q44 (hd y (by simp))
  simp only [Vw,List.flatMap_nil,List.flatMap_cons,e,List.nil_append,List.cons_append] at h
  rw [List.cons.injEq] at h
  exact (hk h.1.symm).elim
 | x::c,[],r,s,hc,_,h=>by
  obtain ⟨k,t,e,hk⟩:=Q44 (hc x (by simp))
  simp only [Vw,List.flatMap_nil,List.flatMap_cons,e,List.nil_append,List.cons_append] at h
  rw [List.cons.injEq] at h
  exact (hk h.1).elim
 | x::c,y::d,r,s,hc,hd,h=>by
  have e1:Vw (x::c)++r=Lib.itoa x++32::(Vw c++r):=by simp [Vw]
  have e2:Vw (y::d)++s=Lib.itoa y++32::(Vw d++s):=by simp [Vw]
  rw [e1,e2] at h
  obtain ⟨h1,h2⟩:=cut32 (fun c hc=>Q4n hc) (fun c hc=>Q4n hc) h
  obtain ⟨h3,h4⟩:=Q75 (fun z hz=>hc z (by simp [hz])) (fun z hz=>hd z (by simp [hz])) h2
  exact ⟨by rw [itoa_inj h1,h3],h4⟩
theorem keyC_ne (c:List Int):Vw c≠[]:=by simp [Vw]
theorem Q5v:∀ {L M:List (List Int)},(∀ c∈L,∀ x∈c,x≠0)→(∀ c∈M,∀ x∈c,x≠0)→O7 L=O7 M→L=M
 | [],[],_,_,_=>rfl
 | [],d::M,_,_,h=>by
  simp only [O7,List.flatMap_nil,List.flatMap_cons] at h
  exact (keyC_ne d (List.append_eq_nil_iff.1 h.symm).1).elim
 | c::L,[],_,_,h=>by
  simp only [O7,List.flatMap_nil,List.flatMap_cons] at h
  exact (keyC_ne c (List.append_eq_nil_iff.1 h).1).elim
 | c::L,d::M,hL,hM,h=>by
  simp only [O7,List.flatMap_cons] at h
  obtain ⟨h1,h2⟩:=Q75 (hL c (by simp)) (hM d (by simp)) h
  rw [h1,Q5v (fun e he=>hL e (by simp [he])) (fun e he=>hM e (by simp [he])) h2]
end
/- Components of clauses,in plain Lean. -/
section
abbrev Cp:=List Int × Int
def litsC (L:List Cp):List (List Int):=L.map (·.1)
end
end Go.Proofs.YtcpehljpegfckaaGreatDoor
