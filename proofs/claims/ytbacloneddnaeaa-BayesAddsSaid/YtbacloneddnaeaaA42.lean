/- Texts of this claim, joined: XRow, XRow2. -/
import Derived.Test.YtbacloneddnaeaaA14
import Derived.Lib.SmallJoins
import Derived.Test.YtbacloneddnaeaaRows
import Derived.ProofKit
import Derived.OpenShut

/- From the walks to the rows: arguments opened, and shut again. -/
namespace Go.Proofs.Ytbacloneddnaeaa
open Go.ChangeShapes Go.WideShapes Go.ChangeAt Go.RowKit Go.Joins Num

theorem Try.own : ownKnob Try.prog.godebug = none := by kernel_rfl
theorem Try.laidOut : laidOutB Try.prog = true := by kernel_rfl

section
variable {H : Type} {enc : TypeId × Value → H}

/-- An argument reads as before. -/
theorem again_reads {t : TypeId} (hr : Try.prog.readableRec t = true) (ht : t < Try.prog.types.size) {W W' : World} {v : Value} {d : DataW H} {p : List MemPlace} (h : DataW.Trod enc Try.prog W 0 (fun _ => true) true t v d p)
    (hb : Below W.heap.size W W') (hlt : ∀ x ∈ p, x.block < W.heap.size) : DataW.Trod enc Try.prog W' 0 (fun b => decide (b < W.heap.size)) true t v d p :=
  Below.trod Try.laidOut hr ht h hb hlt

end
end Go.Proofs.Ytbacloneddnaeaa

/- More arguments: strings with their bound, numbers, four at once. -/
namespace Go.Proofs.Ytbacloneddnaeaa
open Go.ChangeShapes Go.WideShapes Go.ChangeAt Go.RowKit Num

section
variable {H : Type} {enc : TypeId × Value → H}

set_option maxRecDepth 100000 in
theorem open_u64 {W : World} {base : Nat} {v : Value} {d : DataW H} {p : List MemPlace} (hv : Value.okWide Try.prog W .any base 58 v) (h : DataW.Trod enc Try.prog W 0 (fun _ => true) true 58 v d p) :
    ∃ m : Nat, v = .int .u64 (m : Nat) ∧ m < 18446744073709551616 := by
  obtain ⟨n, rfl⟩ := okWide_int Try.underlying58 hv
  obtain ⟨fuel, hf⟩ := h
  obtain ⟨n', h1, _, h2⟩ := DataW.trod_int Try.underlying58 hf
  have h3 : n = n' := by simpa [Value.cells] using h1
  subst h3
  simp [Lit.wf, IntKind.min, IntKind.max, IntKind.signed, IntKind.bits] at h2
  obtain ⟨m, rfl⟩ := Int.eq_ofNat_of_zero_le h2.1
  exact ⟨m, rfl, by omega⟩

set_option maxRecDepth 100000 in
theorem open_str {W : World} {base : Nat} {v : Value} {d : DataW H} {p : List MemPlace} (hv : Value.okWide Try.prog W .any base 9 v) (h : DataW.Trod enc Try.prog W 0 (fun _ => true) true 9 v d p) :
    ∃ s : ByteArray, v = .string s ∧ s.size ≤ 9223372036854775807 := by
  obtain ⟨s, rfl⟩ := okWide_string Try.underlying9 hv
  obtain ⟨fuel, hf⟩ := h
  obtain ⟨s2, h1, _, h2⟩ := DataW.trod_string Try.underlying9 hf
  have h3 : s = s2 := by simpa [Value.cells] using h1
  subst h3
  unfold maxLen at h2
  exact ⟨s, rfl, h2⟩
end

section
variable {H : Type} {enc : TypeId × Value → H} {P : Program} {w : World} {base : Nat} {spare : Nat → Bool} {held : Bool}

theorem trodAll_four {t t' t'' t3 : TypeId} {args : Array Value} {ds : List (DataW H)} {ps : List MemPlace} (h : DataW.TrodAll enc P w base spare held [t, t', t'', t3] args.toList ds ps) :
    ∃ v v' v'' v3 d d' d'' d3 p p' p'' p3, args = #[v, v', v'', v3] ∧ ds = [d, d', d'', d3] ∧ ps = p ++ p' ++ p'' ++ p3 ∧ DataW.Trod enc P w base spare held t v d p ∧ DataW.Trod enc P w base spare held t' v' d' p' ∧ DataW.Trod enc P w base spare held t'' v'' d'' p'' ∧ DataW.Trod enc P w base spare held t3 v3 d3 p3 := by
  obtain ⟨v, vs, d, es, p, q, hargs, rfl, rfl, hd, hrest⟩ := trodAll_cons h
  obtain ⟨v', vs', d', es', p', q', rfl, rfl, rfl, hd', hrest'⟩ := trodAll_cons hrest
  obtain ⟨v'', vs'', d'', es'', p'', q'', rfl, rfl, rfl, hd'', hrest''⟩ := trodAll_cons hrest'
  obtain ⟨v3, vs3, d3, es3, p3, q3, rfl, rfl, rfl, hd3, hrest3⟩ := trodAll_cons hrest''
  obtain ⟨rfl, rfl, rfl⟩ := trodAll_nil hrest3
  exact ⟨v, v', v'', v3, d, d', d'', d3, p, p', p'', p3, by cases args; simp_all, rfl, by simp, hd, hd', hd'', hd3⟩

theorem trodAll_mk4 {t t' t'' t3 : TypeId} {v v' v'' v3 : Value} {d d' d'' d3 : DataW H} {p p' p'' p3 : List MemPlace} (h : DataW.Trod enc P w base spare held t v d p) (h' : DataW.Trod enc P w base spare held t' v' d' p')
    (h'' : DataW.Trod enc P w base spare held t'' v'' d'' p'') (h3 : DataW.Trod enc P w base spare held t3 v3 d3 p3) : DataW.TrodAll enc P w base spare held [t, t', t'', t3] [v, v', v'', v3] [d, d', d'', d3] (p ++ (p' ++ (p'' ++ p3))) := ⟨p, p' ++ (p'' ++ p3), h, trodAll_mk3 h' h'' h3, rfl⟩
end
end Go.Proofs.Ytbacloneddnaeaa
