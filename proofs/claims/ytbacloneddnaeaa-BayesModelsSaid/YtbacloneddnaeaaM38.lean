/- Texts of this claim, joined: XRow, XRow2. -/
import Derived.Test.YtbacloneddnaeaaM13
import Derived.Lib.SmallJoins
import Derived.Test.YtbacloneddnaeaaRows
import Derived.ProofKit
import Derived.OpenShut

/- From the walks to the rows: arguments opened, and shut again. -/
namespace Go.Proofs.Ytbacloneddnaeaa
open Go.ChangeShapes Go.WideShapes Go.ChangeAt Go.RowKit Go.Joins Num

theorem Try.own : ownKnob Try.prog.godebug = none := by kernel_rfl
theorem Try.laidOut : laidOutB Try.prog = true := by kernel_rfl

section
variable {H : Type} {enc : TypeId × Value → H}

theorem again_reads {t : TypeId} (hr : Try.prog.readableRec t = true) (ht : t < Try.prog.types.size) {W W' : World} {v : Value} {d : DataW H} {p : List MemPlace} (h : DataW.Trod enc Try.prog W 0 (fun _ => true) true t v d p)
    (hb : Below W.heap.size W W') (hlt : ∀ x ∈ p, x.block < W.heap.size) : DataW.Trod enc Try.prog W' 0 (fun b => decide (b < W.heap.size)) true t v d p :=
  Below.trod Try.laidOut hr ht h hb hlt

end
end Go.Proofs.Ytbacloneddnaeaa

/- More arguments: strings with their bound, numbers, four at once. -/
namespace Go.Proofs.Ytbacloneddnaeaa
open Go.ChangeShapes Go.WideShapes Go.ChangeAt Go.RowKit Num

section
variable {H : Type} {enc : TypeId × Value → H}

end

section
variable {H : Type} {enc : TypeId × Value → H} {P : Program} {w : World} {base : Nat} {spare : Nat → Bool} {held : Bool}

end
end Go.Proofs.Ytbacloneddnaeaa
