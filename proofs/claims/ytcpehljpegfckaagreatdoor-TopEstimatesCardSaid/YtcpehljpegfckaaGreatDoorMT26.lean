/- Texts of this claim,joined: NatA. -/
import Derived.Test.YtcpehljpegfckaaGreatDoorMT25
import Derived.Test.YtcpehljpegfckaaGreatDoorMT03
/- The words of a number,and a number from words: plain laws. -/
namespace Go.Proofs.YtcpehljpegfckaaGreatDoor
namespace Num
abbrev W:Nat:=4294967296
def bts (s:ByteArray):List Nat:=s.data.toList.map UInt8.toNat
theorem Vn (s:ByteArray):(bts s).length=s.size:=by simp [bts]
theorem bts_lt (s:ByteArray):AllLt 256 (bts s):=by
 intro d hd
 obtain ⟨x,_,rfl⟩:=List.mem_map.1 hd
 exact x.toNat_lt
theorem bts_get (s:ByteArray) (k:Nat) (h:k<s.size):(bts s)[k]'(by rw [Vn];exact h)=(s[k]).toNat:=by
 simp [bts];rfl
theorem Q81 (s:ByteArray) (k:Nat) (h:k<s.size):(bts s).getD k 0=(s[k]).toNat:=by
 rw [List.getD_eq_getElem?_getD,List.getElem?_eq_getElem (by rw [Vn];exact h),bts_get s k h];rfl
def Ky (l:List Nat) (j:Nat):Nat:=l.getD (4*j) 0+256*l.getD (4*j+1) 0+65536*l.getD (4*j+2) 0+16777216*l.getD (4*j+3) 0
def wds (l:List Nat) (n:Nat):List Nat:=(List.range n).map (Ky l)
theorem wdAt_lt {l:List Nat} (hl:AllLt 256 l) (j:Nat):Ky l j<W:=by
 have h0:=hl.getD (by omega) (4*j)
 have h1:=hl.getD (by omega) (4*j+1)
 have h2:=hl.getD (by omega) (4*j+2)
 have h3:=hl.getD (by omega) (4*j+3)
 unfold Ky W;omega
theorem Ya (l:List Nat) (k i:Nat):(l.take k).getD i 0=if i<k then l.getD i 0 else 0:=by
 simp only [List.getD_eq_getElem?_getD,List.getElem?_take]
 split<;>rfl
theorem Q09 (l:List Nat) (k i:Nat):(l.drop k).getD i 0=l.getD (k+i) 0:=by
 simp [List.getD_eq_getElem?_getD]
theorem wdAt_drop (l:List Nat) (j:Nat):Ky (l.drop 4) j=Ky l (j+1):=by
 unfold Ky
 simp only [Q09,show 4*(j+1)=4+4*j by omega,Nat.add_assoc]
theorem wds_succ (l:List Nat) (n:Nat):wds l (n+1)=Ky l 0::wds (l.drop 4) n:=by
 unfold wds
 rw [List.range_succ_eq_map,List.map_cons,List.map_map]
 congr 1
 apply List.map_congr_left
 intro j _
 simp only [Function.comp]
 rw [wdAt_drop]
theorem Q1w:∀ (n:Nat) (l:List Nat),l.length≤4*n→Qc W (wds l n)=Qc 256 l
 | 0,l,h=>by
  obtain rfl:l=[]:=List.eq_nil_of_length_eq_zero (by omega)
  rfl
 | n+1,l,h=>by
  rw [wds_succ,Qc,Q1w n (l.drop 4) (by simp;omega)]
  match l with
  | []=>simp [Ky,Qc]
  | [a]=>simp [Ky,Qc]
  | [a,b]=>simp [Ky,Qc]
  | [a,b,c]=>simp [Ky,Qc];omega
  | a::b::c::d::l=>simp [Ky,Qc,W];omega
theorem Zw (l:List Nat) (n:Nat):(wds l n).length=n:=by simp [wds]
theorem Aa (l:List Nat) (n j:Nat) (h:j<n):(wds l n)[j]?=some (Ky l j):=by
 simp [wds,h]
theorem wds_lt {l:List Nat} (hl:AllLt 256 l) (n:Nat):AllLt W (wds l n):=by
 intro d hd
 obtain ⟨j,_,rfl⟩:=List.mem_map.1 hd
 exact wdAt_lt hl j
theorem wds_canon {l:List Nat} (hc:Canon l) (hl:AllLt 256 l):Canon (wds l ((l.length+3)/4)):=by
 rcases Nat.eq_zero_or_pos l.length with h0 | h0
 ·obtain rfl:l=[]:=List.eq_nil_of_length_eq_zero h0
  simp [wds,Canon]
 ·unfold Canon at *
  rw [List.getLast?_eq_getElem?,Zw,Aa _ _ _ (by omega)]
  rw [List.getLast?_eq_getElem?] at hc
  intro h
  apply hc
  simp only [Option.some.injEq] at h
  have hz:l.getD (l.length-1) 0=0:=by
   unfold Ky at h
   have hk:l.length-1=4*((l.length+3)/4-1)∨l.length-1=4*((l.length+3)/4-1)+1∨l.length-1=4*((l.length+3)/4-1)+2∨l.length-1=4*((l.length+3)/4-1)+3:=by omega
   rcases hk with hk | hk | hk | hk<;>rw [hk]<;>omega
  rw [List.getElem?_eq_getElem (by omega)]
  rw [List.getD_eq_getElem?_getD,List.getElem?_eq_getElem (by omega)] at hz
  simpa using hz
theorem Q35 (n:Nat):wds (Qa 256 n) (((Qa 256 n).length+3)/4)=Qa W n:=by
 have h1:=wds_lt (Ja (B:=256) (by omega) n) (((Qa 256 n).length+3)/4)
 have h2:=wds_canon (Xn (B:=256) (by omega) n) (Ja (by omega) n)
 rw [←Hk (by decide) h1 h2,Q1w _ _ (by omega),Qw (by omega)]
theorem Vc (r x b:Nat) (hx:x<2^r):x ||| b*2^r=x+b*2^r:=by
 rw [Nat.mul_comm,Nat.or_comm,←Nat.two_pow_add_eq_or_of_lt hx,Nat.add_comm]
theorem wdAt_step (l:List Nat) (hl:AllLt 256 l) (k j:Nat) (_hk:k<l.length) :
  Ky (l.take (k+1)) j=if j=k/4 then (Ky (l.take k) j ||| l.getD k 0*2^(8*(k%4))) else Ky (l.take k) j:=by
 have hb:=hl.getD (by omega) k
 split
 ·rename_i h
  subst h
  have h0:=hl.getD (by omega) (4*(k/4))
  have h1:=hl.getD (by omega) (4*(k/4)+1)
  have h2:=hl.getD (by omega) (4*(k/4)+2)
  have hr:k%4=0∨k%4=1∨k%4=2∨k%4=3:=by omega
  rcases hr with hr | hr | hr | hr
  ·have hx:Ky (l.take k) (k/4)<2^(8*0):=by
    unfold Ky;simp only [Ya];rw [if_neg (by omega),if_neg (by omega),if_neg (by omega),if_neg (by omega)];decide
   rw [hr,Vc _ _ _ hx]
   unfold Ky;simp only [Ya]
   rw [if_pos (by omega),if_neg (by omega),if_neg (by omega),if_neg (by omega),if_neg (by omega),if_neg (by omega),if_neg (by omega),if_neg (by omega)]
   rw [show 4*(k/4)=k by omega];omega
  ·have hx:Ky (l.take k) (k/4)<2^(8*1):=by
    unfold Ky;simp only [Ya];rw [if_pos (by omega),if_neg (by omega),if_neg (by omega),if_neg (by omega)];omega
   rw [hr,Vc _ _ _ hx]
   unfold Ky;simp only [Ya]
   rw [if_pos (by omega),if_pos (by omega),if_neg (by omega),if_neg (by omega),if_pos (by omega),if_neg (by omega),if_neg (by omega),if_neg (by omega)]
   rw [show 4*(k/4)+1=k by omega];omega
  ·have hx:Ky (l.take k) (k/4)<2^(8*2):=by
    unfold Ky;simp only [Ya];rw [if_pos (by omega),if_pos (by omega),if_neg (by omega),if_neg (by omega)];omega
   rw [hr,Vc _ _ _ hx]
   unfold Ky;simp only [Ya]
   rw [if_pos (by omega),if_pos (by omega),if_pos (by omega),if_neg (by omega),if_pos (by omega),if_pos (by omega),if_neg (by omega),if_neg (by omega)]
   rw [show 4*(k/4)+2=k by omega];omega
  ·have hx:Ky (l.take k) (k/4)<2^(8*3):=by
    unfold Ky;simp only [Ya];rw [if_pos (by omega),if_pos (by omega),if_pos (by omega),if_neg (by omega)];omega
   rw [hr,Vc _ _ _ hx]
   unfold Ky;simp only [Ya]
   rw [if_pos (by omega),if_pos (by omega),if_pos (by omega),if_pos (by omega),if_pos (by omega),if_pos (by omega),if_pos (by omega),if_neg (by omega)]
   rw [show 4*(k/4)+3=k by omega];omega
 ·rename_i h
  unfold Ky;simp only [Ya]
  simp only [show (4*j<k+1)↔(4*j<k) by omega,show (4*j+1<k+1)↔(4*j+1<k) by omega,show (4*j+2<k+1)↔(4*j+2<k) by omega,show (4*j+3<k+1)↔(4*j+3<k) by omega]
theorem wds_step (l:List Nat) (hl:AllLt 256 l) (k n:Nat) (hk:k<l.length) :
  wds (l.take (k+1)) n=(wds (l.take k) n).set (k/4) (Ky (l.take k) (k/4) ||| l.getD k 0*2^(8*(k%4))):=by
 apply List.ext_getElem?
 intro j
 rw [List.getElem?_set]
 by_cases hj:j<n
 ·rw [Aa _ _ _ hj,wdAt_step l hl k j hk,Zw]
  by_cases h:j=k/4
  ·subst h;simp [hj]
  ·rw [if_neg h,if_neg (by omega),Aa _ _ _ hj]
 ·rw [List.getElem?_eq_none (by rw [Zw];omega),Zw]
  by_cases h:k/4=j
  ·rw [if_pos h,if_neg (by omega)]
  ·rw [if_neg h,List.getElem?_eq_none (by rw [Zw];omega)]
theorem Q1j (l:List Nat) (hl:AllLt 256 l) (k b:Nat) (hb:l.getD k 0=b) :
  bits BinOp.or IntKind.u32 (Ky (l.take k) (k/4):Nat) ((b:Int)%4294967296*2^(8*(k%4))%4294967296) =
   ((Ky (l.take k) (k/4) ||| l.getD k 0*2^(8*(k%4)):Nat):Int):=by
 have h1:=hl.getD (by omega) k
 have h2:=wdAt_lt (hl.take k) (k/4)
 rw [hb] at h1 ⊢
 have hr:k%4=0∨k%4=1∨k%4=2∨k%4=3:=by omega
 have e:(b:Int)%4294967296*2^(8*(k%4))%4294967296=((b*2^(8*(k%4)):Nat):Int):=by
  rcases hr with hr | hr | hr | hr<;>rw [hr]<;>simp<;>omega
 rw [e,u32_or_nat _ _ h2]
 rcases hr with hr | hr | hr | hr<;>rw [hr]<;>simp<;>omega
/-! ### Back: bytes out of words -/
def W4 (xs:List Nat) (i:Nat):Nat:=xs.getD (i/4) 0/2^(8*(i%4))%256
def bys (xs:List Nat) (k:Nat):List Nat:=(List.range (4*xs.length)).map fun i=>if i<k then W4 xs i else 0
theorem Q3r {α:Type} (m k:Nat) (f g:Nat→α) (v:α) (hk:g k=v) (h:∀ i,i≠k→i<m→g i=f i) :
  ((List.range m).map f).set k v=(List.range m).map g:=by
 apply List.ext_getElem?
 intro i
 rw [List.getElem?_set]
 by_cases hi:i<m
 ·by_cases hik:k=i
  ·subst hik;simp [hi,hk]
  ·rw [if_neg hik];simp [hi,h i (Ne.symm hik) hi]
 ·simp [hi]
  intro h1;omega
theorem bys_set (xs:List Nat) (k:Nat):(bys xs k).set k (W4 xs k)=bys xs (k+1):=by
 unfold bys
 apply Q3r
 ·simp
 ·intro i h1 h2
  simp only [show i<k+1↔i<k by omega]
theorem bys_zero (xs:List Nat):bys xs 0=List.replicate (4*xs.length) 0:=by
 apply List.ext_getElem
 ·simp [bys]
 ·intro i h1 h2;simp [bys]
theorem Wn (xs:List Nat) (k:Nat):(bys xs k).length=4*xs.length:=by simp [bys]
theorem Q5d (xs:List Nat) (i:Nat) (h:i<4*xs.length):(bys xs (4*xs.length))[i]?=some (W4 xs i):=by
 simp [bys,h]
theorem bys_lt (xs:List Nat) (k:Nat):AllLt 256 (bys xs k):=by
 intro d hd
 obtain ⟨i,_,rfl⟩:=List.mem_map.1 hd
 split
 ·exact Nat.mod_lt _ (by omega)
 ·omega
theorem wds_bys (xs:List Nat) (hx:AllLt W xs):wds (bys xs (4*xs.length)) xs.length=xs:=by
 apply List.ext_getElem?
 intro j
 by_cases hj:j<xs.length
 ·rw [Aa _ _ _ hj,List.getElem?_eq_getElem hj]
  congr 1
  have e:∀ i,i<4*xs.length→(bys xs (4*xs.length)).getD i 0=W4 xs i:=fun i hi=>by
   rw [List.getD_eq_getElem?_getD,Q5d xs i hi];rfl
  unfold Ky
  rw [e _ (by omega),e _ (by omega),e _ (by omega),e _ (by omega)]
  unfold W4
  rw [show 4*j/4=j by omega,show (4*j+1)/4=j by omega,show (4*j+2)/4=j by omega,show (4*j+3)/4=j by omega,
   show 4*j%4=0 by omega,show (4*j+1)%4=1 by omega,show (4*j+2)%4=2 by omega,show (4*j+3)%4=3 by omega]
  have hg:xs.getD j 0=xs[j]:=by simp [List.getD_eq_getElem?_getD,hj]
  have hl:xs[j]<W:=hx _ (List.getElem_mem hj)
  rw [hg]
  unfold W at hl
  omega
 ·rw [List.getElem?_eq_none (by rw [Zw];omega),List.getElem?_eq_none (by omega)]
theorem digs_bys (xs:List Nat) (hx:AllLt W xs):Qc 256 (bys xs (4*xs.length))=Qc W xs:=by
 rw [←Q1w xs.length _ (by rw [Wn];omega),wds_bys xs hx]
def nb (n:Nat):ByteArray:=Aj (Qa 256 n)
def nl (n:Nat):Nat:=(Qa 256 n).length
def Qj (n:Nat):Value:=.agg #[.string (nb n)]
theorem bts_mkStr {l:List Nat} (h:AllLt 256 l):bts (Aj l)=l:=by
 unfold bts Aj
 simp only [List.map_map]
 conv=>rhs;rw [←List.map_id l]
 apply List.map_congr_left
 intro d hd
 have:=h d hd
 simp 
 omega
theorem Q4k (xs:List Nat) (hx:AllLt W xs) (k:Nat) (hk:k≤4*xs.length) (hz:∀ i,k≤i→i<4*xs.length→W4 xs i=0)
  (h1:k=0∨W4 xs (k-1)≠0):(bys xs (4*xs.length)).take k=Qa 256 (Qc W xs):=by
 have e:∀ i,i<4*xs.length→(bys xs (4*xs.length)).getD i 0=W4 xs i:=fun i hi=>by
  rw [List.getD_eq_getElem?_getD,Q5d xs i hi];rfl
 rw [←digs_bys xs hx]
 refine Q3g (by omega) (bys_lt xs _) (fun i hi=>?_) ?_
 ·by_cases h:i<4*xs.length
  ·rw [e i h];exact hz i hi h
  ·rw [List.getD_eq_getElem?_getD,List.getElem?_eq_none (by rw [Wn];omega)];rfl
 ·rcases h1 with h1 | h1
  ·exact .inl h1
  ·by_cases h0:k=0
   ·exact .inl h0
   ·right;rw [e _ (by omega)];exact h1
theorem byte_of (xs:List Nat) (i d:Nat) (h:xs[i/4]?=some d):W4 xs i=d/2^(8*(i%4))%256:=by
 simp [W4,List.getD_eq_getElem?_getD,h]
end Num
end Go.Proofs.YtcpehljpegfckaaGreatDoor
