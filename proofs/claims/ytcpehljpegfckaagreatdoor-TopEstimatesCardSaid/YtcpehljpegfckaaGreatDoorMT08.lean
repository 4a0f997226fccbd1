/- Texts of this claim,joined: SP,SN,SG,SC,SM. -/
import Derived.Lib.Strings
import Derived.Lib.ItoaMem
import Derived.Lib.Atoi
/- Sums (chapter 09): what the program computes. Plain. -/
namespace Go.Proofs.YtcpehljpegfckaaGreatDoor
section
open Go
structure PS where
 C:List Int
 L:List Int
 m:Int
def PS.zero:PS:=⟨[],[],0⟩
def Jk (l n:Int):Bool:=decide (l≠0)&&(decide (-n≤l)&&decide (l≤n))
theorem Kf {l n:Int}:Jk l n=true↔l≠0∧-n≤l∧l≤n:=by simp [Jk]
def Xs (c:Int):Int:=if c<0 then -c else c
def valS (s:PS) (hold:Int→Bool) (j:Nat):Int:=(List.range j).foldl (fun a i=>if hold (s.L.getD i 0) then a+s.C.getD i 0 else a) 0
def ofS (s:PS) (l:Int) (j:Nat):Int:=valS s (fun x=>decide (x=l)) j
end
/- Sums: the normal form is valid and true in the same sets;what is left,too. Plain. -/
section
open Go
def sumN (g:Nat→Int):Nat→Int
 | 0=>0
 | k+1=>sumN g k+g k
def grp (L:List Int) (f:Nat→Int) (v j:Nat):Int:=sumN (fun i=>if (Xs (L.getD i 0)).toNat=v then f i else 0) j
/-! ### The loop -/
end
/- Sums: what is left,given a term. Plain. -/
section
open Go
end
/- Sums: the outcomes of Check,one by one. Plain. -/
section
open Go
end
/- Normal forms: the reference's loop over the variables 1 to n. Plain. -/
section
open Go
end
end Go.Proofs.YtcpehljpegfckaaGreatDoor
