/- From the walks to the rows: arguments opened, and shut again. -/
import Derived.Test.YtlomlcljjidfjaaLGive
import Derived.Lib.SmallJoins
import Derived.Test.YtlomlcljjidfjaaRows
import Derived.ProofKit
import Derived.OpenShut
namespace Go.Proofs.Ytlomlcljjidfjaa
open Go.ChangeShapes Go.WideShapes Go.ChangeAt Go.RowKit Go.Joins Num

theorem Try.own : ownKnob Try.prog.godebug = none := by kernel_rfl
theorem Try.laidOut : laidOutB Try.prog = true := by kernel_rfl

section
variable {H : Type} {enc : TypeId × Value → H}

set_option maxRecDepth 100000 in
theorem open_value {W : World} {base : Nat} {v : Value} {d : DataW H} {p : List MemPlace} (hv : Value.okWide Try.prog W .any base 23 v) (h : DataW.Trod enc Try.prog W 0 (fun _ => true) true 23 v d p) :
    ∃ N D : ByteArray, v = .agg #[.string N, .string D] ∧ N.size ≤ 9223372036854775807 ∧ D.size ≤ 9223372036854775807 := by
  obtain ⟨v0, v1, y0, y1, n, rfl, _, _, g0, g1⟩ := open_agg2 (Try.underlying23) (by kernel_rfl) (by kernel_rfl) hv h
  obtain ⟨s0, e0, _, z0⟩ := DataW.trod_string Try.underlying9 g0
  obtain ⟨s1, e1, _, z1⟩ := DataW.trod_string Try.underlying9 g1
  simp only [List.cons.injEq, and_true] at e0 e1
  unfold maxLen at z0 z1
  exact ⟨s0, s1, by rw [e0, e1], z0, z1⟩

/-- An argument reads as before. -/
theorem again_reads {t : TypeId} (hr : Try.prog.readableRec t = true) (ht : t < Try.prog.types.size) {W W' : World} {v : Value} {d : DataW H} {p : List MemPlace} (h : DataW.Trod enc Try.prog W 0 (fun _ => true) true t v d p)
    (hb : Below W.heap.size W W') (hlt : ∀ x ∈ p, x.block < W.heap.size) : DataW.Trod enc Try.prog W' 0 (fun b => decide (b < W.heap.size)) true t v d p :=
  Below.trod Try.laidOut hr ht h hb hlt

end
end Go.Proofs.Ytlomlcljjidfjaa
