/- Texts of this claim,joined: CMb. -/
import Derived.Test.YtcpehljpegfckaaGreatDoorMT10
import Derived.Lib.TrailingZeros
import Derived.KernelRfl
/- The members of a set of the variables 1 to 12,in plain Lean. -/
namespace Go.Proofs.YtcpehljpegfckaaGreatDoor
def Ha (x:Nat):List Nat:=((List.range 12).filter fun i=>x.testBit i).map (·+1)
theorem memX_all:((List.range 4096).all fun x=>x == 0||(Ha x == (Lib.ctz 64 x+1)::Ha (x &&& (x-1))&&decide (x &&& (x-1)<x)))=true:=by kernel_rfl
theorem Q4a {x:Nat} (h0:x≠0) (h:x<4096):Ha x=(Lib.ctz 64 x+1)::Ha (x &&& (x-1))∧x &&& (x-1)<x:=by
 have:=List.all_eq_true.1 memX_all x (by simpa using h)
 simp [h0] at this
 exact this
theorem Q0r:Ha 0=[]:=by decide
theorem memX_len (x:Nat):(Ha x).length≤12:=by
 have h:=List.length_filter_le (fun i=>x.testBit i) (List.range 12)
 simpa [Ha] using h
def Jt (o:Nat→Bool):List Nat:=(List.range' 1 12).filter o
theorem lo_small {o:Nat→Bool} (h:∀ v,13≤v→o v=false):loW o<4096:=by
 refine Nat.lt_pow_two_of_testBit (n:=12) _ fun i hi=>?_
 unfold loW
 rw [Y7,h (i+1) (by omega),Bool.and_false]
theorem memX_lo (o:Nat→Bool):Ha (loW o)=Jt o:=by
 unfold Ha Jt
 have e:List.range' 1 12=(List.range 12).map (·+1):=by decide
 rw [e,List.filter_map]
 congr 1
 refine List.filter_congr fun i hi=>?_
 have h12:i<12:=by simpa using hi
 unfold loW
 rw [Y7,decide_eq_true (show i<64 by omega),Bool.true_and]
 rfl
theorem Hw:∀ k,Ji (fun _=>false) k=0
 | 0=>rfl
 | k+1=>by rw [Ji,Hw k];simp
theorem Q69 {o:Nat→Bool} (h:∀ v,13≤v→o v=false):hiW o=0:=by
 unfold hiW
 rw [Za (g:=fun _=>false) fun i _=>h (i+65) (by omega),Hw]
end Go.Proofs.YtcpehljpegfckaaGreatDoor
