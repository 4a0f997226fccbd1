/- Texts of this claim,joined: Num. -/
import Derived.WalkKit
/- Plain numbers: digits to a base,the lowest one first. Nothing here knows the program. -/
namespace Go.Proofs.YtcpehljpegfckaaGreatDoor
namespace Num
def Qc (B:Nat):List Nat→Nat
 | []=>0
 | d::ds=>d+B*Qc B ds
def Hj (B:Nat):Nat→Nat→List Nat
 | 0,_=>[]
 | f+1,n=>if n=0 then [] else n%B::Hj B f (n/B)
def Qa (B n:Nat):List Nat:=Hj B n n
theorem Aw {B:Nat} (hB:2≤B):∀ (f g n:Nat),n≤f→n≤g→Hj B f n=Hj B g n
 | 0,0,_,_,_=>rfl
 | 0,g+1,n,h,_=>by obtain rfl:n=0:=by omega
                   simp [Hj]
 | f+1,0,n,_,h=>by obtain rfl:n=0:=by omega
                   simp [Hj]
 | f+1,g+1,n,hf,hg=>by
  simp only [Hj]
  split
  ·rfl
  ·rename_i hn
   have:n/B<n:=Nat.div_lt_self (by omega) (by omega)
   rw [Aw hB f g (n/B) (by omega) (by omega)]
theorem Ym (B:Nat):Qa B 0=[]:=rfl
theorem Yc {B n:Nat} (hB:2≤B) (hn:0<n):Qa B n=n%B::Qa B (n/B):=by
 unfold Qa
 obtain ⟨m,rfl⟩:∃ m,n=m+1:=⟨n-1,by omega⟩
 have h1:(m+1)/B<m+1:=Nat.div_lt_self (by omega) (by omega)
 conv=>lhs;unfold Hj
 rw [if_neg (by omega),Aw hB m ((m+1)/B) _ (by omega) (Nat.le_refl _)]
theorem digs_nil (B:Nat):Qc B []=0:=rfl
theorem Q4o (B d:Nat) (l:List Nat):Qc B (d::l)=d+B*Qc B l:=rfl
theorem J8 (B:Nat):∀ (xs ys:List Nat),Qc B (xs++ys)=Qc B xs+B^xs.length*Qc B ys
 | [],ys=>by simp [Qc]
 | x::xs,ys=>by
  simp only [List.cons_append,Qc,J8 B xs ys,List.length_cons,Nat.pow_succ]
  rw [Nat.mul_add,Nat.mul_comm (B^xs.length) B,Nat.mul_assoc,Nat.add_assoc]
theorem Zh (B:Nat) (xs:List Nat) (d:Nat):Qc B (xs++[d])=Qc B xs+B^xs.length*d:=by
 rw [J8];simp [Qc]
theorem Zr (B:Nat):∀ k,Qc B (List.replicate k 0)=0
 | 0=>rfl
 | k+1=>by simp [List.replicate_succ,Qc,Zr B k]
def AllLt (B:Nat) (l:List Nat):Prop:=∀ d∈l,d<B
theorem AllLt.nil (B:Nat):AllLt B []:=by intro d h;cases h
theorem AllLt.cons {B d:Nat} {l:List Nat} (h:d<B) (hl:AllLt B l):AllLt B (d::l):=by
 intro x hx;rcases List.mem_cons.1 hx with rfl | h'
 ·exact h
 ·exact hl x h'
theorem AllLt.append {B:Nat} {l m:List Nat} (hl:AllLt B l) (hm:AllLt B m):AllLt B (l++m):=by
 intro x hx;rcases List.mem_append.1 hx with h | h
 ·exact hl x h
 ·exact hm x h
theorem AllLt.take {B:Nat} {l:List Nat} (hl:AllLt B l) (k:Nat):AllLt B (l.take k):=fun x hx=>hl x (List.mem_of_mem_take hx)
theorem AllLt.drop {B:Nat} {l:List Nat} (hl:AllLt B l) (k:Nat):AllLt B (l.drop k):=fun x hx=>hl x (List.mem_of_mem_drop hx)
theorem AllLt.get {B:Nat} {l:List Nat} (hl:AllLt B l) {i d:Nat} (h:l[i]?=some d):d<B:=hl d (List.mem_of_getElem? h)
theorem AllLt.getD {B:Nat} (hB:0<B) {l:List Nat} (hl:AllLt B l) (i:Nat):l.getD i 0<B:=by
 cases h:l[i]? with
 | none=>simp [List.getD,h,hB]
 | some d=>simp only [List.getD,h,Option.getD_some];exact hl.get h
theorem AllLt.set {B:Nat} {l:List Nat} (hl:AllLt B l) (i d:Nat) (hd:d<B):AllLt B (l.set i d):=by
 intro x hx
 rcases List.mem_or_eq_of_mem_set hx with h | rfl
 ·exact hl x h
 ·exact hd
theorem AllLt.zeros {B:Nat} (hB:0<B) (k:Nat):AllLt B (List.replicate k 0):=by
 intro x hx;rw [List.eq_of_mem_replicate hx];exact hB
theorem Kn {B:Nat} (hB:0<B):∀ {l:List Nat},AllLt B l→Qc B l<B^l.length
 | [],_=>by simp [Qc]
 | d::l,h=>by
  have h1:d<B:=h d (by simp)
  have h2:=Kn hB (l:=l) (fun x hx=>h x (by simp [hx]))
  simp only [Qc,List.length_cons,Nat.pow_succ]
  calc d+B*Qc B l<B+B*Qc B l:=by omega
   _=B*(Qc B l+1):=by rw [Nat.mul_add];omega
   _≤B*B^l.length:=Nat.mul_le_mul_left _ h2
   _=B^l.length*B:=Nat.mul_comm _ _
theorem Qw {B:Nat} (hB:2≤B) (n:Nat):Qc B (Qa B n)=n:=by
 induction n using Nat.strongRecOn with
 | _ n ih =>
  by_cases h:n=0
  ·subst h;rfl
  ·have h1:n/B<n:=Nat.div_lt_self (by omega) (by omega)
   rw [Yc hB (by omega),Qc,ih _ h1]
   exact Nat.mod_add_div n B
theorem Ja {B:Nat} (hB:2≤B) (n:Nat):AllLt B (Qa B n):=by
 induction n using Nat.strongRecOn with
 | _ n ih =>
  by_cases h:n=0
  ·subst h;exact AllLt.nil B
  ·have h1:n/B<n:=Nat.div_lt_self (by omega) (by omega)
   rw [Yc hB (by omega)]
   exact AllLt.cons (Nat.mod_lt _ (by omega)) (ih _ h1)
def Canon (l:List Nat):Prop:=l.getLast?≠some 0
theorem Canon.nil:Canon []:=by simp [Canon]
theorem Canon.tail {d:Nat} {l:List Nat} (h:Canon (d::l)):Canon l:=by
 cases l with
 | nil=>exact Canon.nil
 | cons x l=>simpa [Canon,List.getLast?_cons_cons] using h
theorem Xk {B:Nat} (hB:0<B):∀ {l:List Nat},Canon l→l≠[]→0<Qc B l
 | [],_,h=>absurd rfl h
 | [d],h,_=>by simp only [Canon,List.getLast?_singleton,ne_eq,Option.some.injEq] at h;simp [Qc];omega
 | d::e::l,h,_=>by
  have:=Xk hB (l:=e::l) h.tail (by simp)
  rw [Qc]
  have:=Nat.mul_pos hB this
  omega
theorem Hk {B:Nat} (hB:2≤B):∀ {l:List Nat},AllLt B l→Canon l→Qa B (Qc B l)=l
 | [],_,_=>rfl
 | d::l,hl,hc=>by
  have hd:d<B:=hl d (by simp)
  have hp:=Xk (B:=B) (by omega) hc (by simp)
  rw [Yc hB hp]
  have e1:Qc B (d::l)%B=d:=by rw [Qc,Nat.add_mul_mod_self_left,Nat.mod_eq_of_lt hd]
  have e2:Qc B (d::l)/B=Qc B l:=by rw [Qc,Nat.add_mul_div_left _ _ (by omega),Nat.div_eq_of_lt hd,Nat.zero_add]
  rw [e1,e2,Hk hB (fun x hx=>hl x (by simp [hx])) hc.tail]
theorem Xn {B:Nat} (hB:2≤B) (n:Nat):Canon (Qa B n):=by
 induction n using Nat.strongRecOn with
 | _ n ih =>
  by_cases h:n=0
  ·subst h;exact Canon.nil
  ·have h1:n/B<n:=Nat.div_lt_self (by omega) (by omega)
   rw [Yc hB (by omega)]
   by_cases h2:n/B=0
   ·rw [h2,Ym]
    have:n%B=n:=Nat.mod_eq_of_lt (by rcases Nat.div_eq_zero_iff.1 h2 with h | h<;>omega)
    simp [Canon,this,h]
   ·have:=ih _ h1
    rw [Yc hB (n:=n/B) (Nat.pos_of_ne_zero h2)] at this ⊢
    simpa [Canon,List.getLast?_cons_cons] using this
theorem Ku {B n:Nat} (hB:2≤B):Qa B n=[]↔n=0:=by
 constructor
 ·intro h
  by_cases h0:n=0
  ·exact h0
  ·rw [Yc hB (by omega)] at h;cases h
 ·rintro rfl;rfl
theorem Ac {B a b:Nat} (hB:2≤B) (h:Qa B a=Qa B b):a=b:=by
 have:=congrArg (Qc B) h
 rwa [Qw hB,Qw hB] at this
theorem Yz {B:Nat} (hB:2≤B) (n:Nat):n<B^(Qa B n).length:=by
 have:=Kn (B:=B) (by omega) (Ja hB n)
 rwa [Qw hB] at this
theorem Qz {B:Nat} (hB:2≤B):∀ (k n:Nat),n<B^k→(Qa B n).length≤k
 | 0,n,h=>by obtain rfl:n=0:=by simpa using h
             simp [Ym]
 | k+1,n,h=>by
  by_cases h0:n=0
  ·subst h0;simp [Ym]
  ·rw [Yc hB (by omega)]
   have:n/B<B^k:=by rw [Nat.div_lt_iff_lt_mul (by omega),←Nat.pow_succ];exact h
   have:=Qz hB k _ this
   simpa using this
theorem Xy {B:Nat} (hB:2≤B) (n k:Nat) (h:k<(Qa B n).length):B^k≤n:=by
 rcases Nat.lt_or_ge n (B^k) with h1 | h1
 ·have:=Qz hB k n h1;omega
 ·exact h1
theorem Q3g {B:Nat} (hB:2≤B) {l:List Nat} (hl:AllLt B l) {k:Nat} (hz:∀ i,k≤i→l.getD i 0=0) (hk:k=0∨l.getD (k-1) 0≠0) :
  l.take k=Qa B (Qc B l):=by
 have hs:Qc B l=Qc B (l.take k):=by
  have hd:l.drop k=List.replicate (l.length-k) 0:=by
   apply List.ext_getElem
   ·simp
   ·intro i h1 h2
    have:=hz (k+i) (by omega)
    simp only [List.length_drop] at h1
    rw [List.getD_eq_getElem?_getD,List.getElem?_eq_getElem (by omega)] at this
    simpa using this
  conv=>lhs;rw [←List.take_append_drop k l,J8,hd,Zr]
  simp
 rw [hs,Hk hB (hl.take k)]
 unfold Canon
 rcases hk with rfl | hk
 ·simp
 ·by_cases h0:k=0
  ·subst h0;simp
  ·have hkl:k-1<l.length:=by
    rcases Nat.lt_or_ge (k-1) l.length with h | h
    ·exact h
    ·rw [List.getD_eq_getElem?_getD,List.getElem?_eq_none h] at hk;exact absurd rfl hk
   rw [List.getLast?_take,if_neg h0,List.getElem?_eq_getElem hkl]
   rw [List.getD_eq_getElem?_getD,List.getElem?_eq_getElem hkl] at hk
   simpa using hk
end Num
end Go.Proofs.YtcpehljpegfckaaGreatDoor
