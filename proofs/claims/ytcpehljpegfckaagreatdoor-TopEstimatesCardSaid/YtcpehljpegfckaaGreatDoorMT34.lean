/- Texts of this claim,joined: CF. -/
import Derived.Test.YtcpehljpegfckaaGreatDoorMT10
import Derived.KernelRfl
/- The parities of seeds,in plain Lean: each point lies in its Q6z of the cells,each pair in its Q6z. -/
namespace Go.Proofs.YtcpehljpegfckaaGreatDoor
def Q6g (T s at':Nat):Bool:=s.testBit (T-1-at')
def parI (n T s i p:Nat):Bool:=(List.range n).foldl (fun r v=>r != (Q6g T s (i*(n+1)+v)&&p.testBit v)) false
def Va (n m s p:Nat):Bool:=(List.range m).all fun i=>parI n (m*(n+1)) s i p == Q6g (m*(n+1)) s (i*(n+1)+n)
def Wa (n m:Nat):Bool:=(List.range (2^n)).all fun p=>Je (fun s=>Va n m s p) (2^(m*(n+1))) == 2^(m*n)
def Wc (n m:Nat):Bool:=(List.range (2^n)).all fun p=>(List.range p).all fun q=>2^(2*m)*Je (fun s=>Va n m s p&&Va n m s q) (2^(m*(n+1))) == 2^(m*(n+1))
theorem f10:Wa 0 1=true:=by kernel_rfl
theorem f11:Wa 1 1=true:=by kernel_rfl
theorem f12:Wa 2 1=true:=by kernel_rfl
theorem f13:Wa 3 1=true:=by kernel_rfl
theorem f14:Wa 4 1=true:=by kernel_rfl
theorem f20:Wa 0 2=true:=by kernel_rfl
theorem f21:Wa 1 2=true:=by kernel_rfl
theorem f22:Wa 2 2=true:=by kernel_rfl
theorem f23:Wa 3 2=true:=by kernel_rfl
theorem g10:Wc 0 1=true:=by kernel_rfl
theorem g11:Wc 1 1=true:=by kernel_rfl
theorem g12:Wc 2 1=true:=by kernel_rfl
theorem g13:Wc 3 1=true:=by kernel_rfl
theorem g14:Wc 4 1=true:=by kernel_rfl
theorem g20:Wc 0 2=true:=by kernel_rfl
theorem g21:Wc 1 2=true:=by kernel_rfl
theorem g22:Wc 2 2=true:=by kernel_rfl
theorem g23:Wc 3 2=true:=by kernel_rfl
def Q2i (n m:Nat):Prop:=(m=1∧n≤4)∨(m=2∧n≤3)
theorem facts {n m:Nat} (h:Q2i n m):Wa n m=true∧Wc n m=true:=by
 rcases h with ⟨rfl,h⟩ | ⟨rfl,h⟩
 ·match n,h with
  | 0,_=>exact ⟨f10,g10⟩
  | 1,_=>exact ⟨f11,g11⟩
  | 2,_=>exact ⟨f12,g12⟩
  | 3,_=>exact ⟨f13,g13⟩
  | 4,_=>exact ⟨f14,g14⟩
  | n+5,h=>omega
 ·match n,h with
  | 0,_=>exact ⟨f20,g20⟩
  | 1,_=>exact ⟨f21,g21⟩
  | 2,_=>exact ⟨f22,g22⟩
  | 3,_=>exact ⟨f23,g23⟩
  | n+4,h=>omega
def ioI (n m s p:Nat):Int:=if Va n m s p then 1 else 0
theorem Vl (b:Nat→Bool):∀ k,Jo (fun s=>if b s then 1 else 0) k=(Je b k:Int)
 | 0=>rfl
 | k+1=>by rw [Jo,Je,Vl b k];split<;>simp
theorem Q7o {n m:Nat} (h:Q2i n m) (M:List Nat) (hn:M.Nodup) (hM:∀ p∈M,p<2^n) :
  Jo (fun s=>(2^m:Nat)*Js (ioI n m s) M) (2^(m*(n+1)))=M.length*(2^(m*(n+1)):Nat) ∧
  Jo (fun s=>((2^m:Nat)*Js (ioI n m s) M-M.length)*((2^m:Nat)*Js (ioI n m s) M-M.length)) (2^(m*(n+1)))=M.length*(2^(m*(n+1)):Nat)*((2^m:Nat)-1):=by
 obtain ⟨hf,hg⟩:=facts h
 have h1:∀ p,p<2^n→Je (fun s=>Va n m s p) (2^(m*(n+1)))=2^(m*n):=fun p hp=>by
  have:=List.all_eq_true.1 hf p (List.mem_range.2 hp)
  simpa using this
 have h2:∀ p,p<2^n→∀ q,q<p→2^(2*m)*Je (fun s=>Va n m s p&&Va n m s q) (2^(m*(n+1)))=2^(m*(n+1)):=fun p hp q hq=>by
  have:=List.all_eq_true.1 (List.all_eq_true.1 hg p (List.mem_range.2 hp)) q (List.mem_range.2 hq)
  simpa using this
 have hsq:∀ s p,ioI n m s p*ioI n m s p=ioI n m s p:=fun s p=>by unfold ioI;split<;>rfl
 have hpr:∀ s p q,ioI n m s p*ioI n m s q=if Va n m s p&&Va n m s q then 1 else 0:=fun s p q=>by
  unfold ioI;cases Va n m s p<;>cases Va n m s q<;>rfl
 have hA:((2^m:Nat):Int)*((2^(m*n):Nat):Int)=((2^(m*(n+1)):Nat):Int):=by
  rw [←Int.natCast_mul,←Nat.pow_add,Nat.mul_succ,Nat.add_comm]
 have hS:∀ p∈M,Jo (fun s=>ioI n m s p) (2^(m*(n+1)))=((2^(m*n):Nat):Int):=fun p hp=>by
  unfold ioI
  rw [Vl,h1 p (hM p hp)]
 by_cases hB:m*(n+1)<2*m
 ·
  have hn0:n=0:=by
   rcases h with ⟨rfl,_⟩ | ⟨rfl,_⟩<;>omega
  have hlen:M.length≤1:=by
   match M,hn,hM with
   | [],_,_=>simp
   | [_],_,_=>simp
   | p::q::r,hn,hM =>
    have a1:=hM p (by simp)
    have a2:=hM q (by simp)
    rw [hn0] at a1 a2
    rw [List.nodup_cons] at hn
    exact (hn.1 (by rw [show p=q by omega];simp)).elim
  refine moments (ioI n m) M _ _ ((2^(m*n):Nat):Int) 0 hn hsq hS (fun p hp q hq hpq=>?_) hA ?_
  ·have a1:=hM p hp
   have a2:=hM q hq
   rw [hn0] at a1 a2
   exact (hpq (by omega)).elim
  ·have e:(M.length:Int)*((M.length:Int)-1)=0:=by
    rcases Nat.lt_or_ge M.length 1 with h | h
    ·rw [show M.length=0 by omega];rfl
    ·rw [show M.length=1 by omega];rfl
   rw [e,Int.zero_mul,Int.zero_mul]
 ·have hp:∀ x y:Nat,2^(2*m)*x=2^(m*(n+1))→x=2^(m*(n+1)-2*m):=fun x _ hx=>by
   have e:2^(m*(n+1))=2^(2*m)*2^(m*(n+1)-2*m):=by rw [←Nat.pow_add];congr 1;omega
   rw [e] at hx
   exact Nat.eq_of_mul_eq_mul_left (Nat.pow_pos (by omega)) hx
  refine moments (ioI n m) M _ _ ((2^(m*n):Nat):Int) ((2^(m*(n+1)-2*m):Nat):Int) hn hsq hS (fun p hp' q hq hpq=>?_) hA ?_
  ·rw [Yb (fun s _=>hpr s p q),Vl]
   rcases Nat.lt_or_ge q p with hlt | hge
   ·rw [hp _ 0 (h2 p (hM p hp') q hlt)]
   ·have e:(fun s=>Va n m s p&&Va n m s q)=fun s=>Va n m s q&&Va n m s p:=funext fun s=>Bool.and_comm _ _
    rw [e,hp _ 0 (h2 q (hM q hq) p (by omega))]
  ·have e:((2^m:Nat):Int)*((2^m:Nat):Int)*((2^(m*(n+1)-2*m):Nat):Int)=((2^(m*(n+1)):Nat):Int):=by
    rw [←Int.natCast_mul,←Int.natCast_mul,←Nat.pow_add,←Nat.pow_add]
    congr 2
    omega
   rw [e]
end Go.Proofs.YtcpehljpegfckaaGreatDoor
