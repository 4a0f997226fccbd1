/- Texts of this claim,joined: SL. -/
import Derived.Test.YtcpehljpegfckaaGreatDoorMT08
import Derived.Sort.Statements
import Derived.Lib.SlicesCompact
/- Terms: sorted literals,each once;opposite ones stand side by side. Plain. -/
namespace Go.Proofs.YtcpehljpegfckaaGreatDoor
open Go
def Q4m (x y:Int):Bool:=decide (Xs x<Xs y)||(decide (Xs x=Xs y)&&decide (x<y))
theorem Q06 {x y:Int}:Q4m x y=true↔Xs x<Xs y∨(Xs x=Xs y∧x<y):=by simp [Q4m]
theorem Q7h {x y:Int}:Q4m x y=false↔¬ (Xs x<Xs y∨(Xs x=Xs y∧x<y)):=by rw [←Q06];simp
theorem Q1l (x:Int):(Xs x=x∧0≤x)∨(Xs x = -x∧x<0):=by unfold Xs;split<;>omega
def Q23 (c:List Int):Bool:=(List.range c.length).any fun i=>decide (0<i)&&decide (c.getD i 0 = -(c.getD (i-1) 0))
theorem Q2c {c:List Int}:Q23 c=true↔∃ i,0<i∧i<c.length∧c.getD i 0 = -(c.getD (i-1) 0):=by
 unfold Q23
 rw [List.any_eq_true]
 constructor
 ·rintro ⟨i,hi,h⟩
  rw [Bool.and_eq_true,decide_eq_true_eq,decide_eq_true_eq] at h
  exact ⟨i,h.1,List.mem_range.1 hi,h.2⟩
 ·rintro ⟨i,h1,h2,h3⟩
  exact ⟨i,List.mem_range.2 h2,by rw [Bool.and_eq_true,decide_eq_true_eq,decide_eq_true_eq];exact ⟨h1,h3⟩⟩
end Go.Proofs.YtcpehljpegfckaaGreatDoor
