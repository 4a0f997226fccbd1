/- Numbers as arguments. -/
import Derived.Test.YtdkfeaodgfnhgaaLRow
namespace Go.Proofs.Ytdkfeaodgfnhgaa
open Go.ChangeShapes Go.WideShapes Go.ChangeAt Go.RowKit Num

section
variable {H : Type} {enc : TypeId × Value → H}

theorem open_u64 {W : World} {base : Nat} {v : Value} {d : DataW H} {p : List MemPlace} (hv : Value.okWide Try.prog W .any base 41 v) (h : DataW.Trod enc Try.prog W 0 (fun _ => true) true 41 v d p) :
    ∃ m : Nat, v = .int .u64 (m : Nat) ∧ m < 18446744073709551616 := by
  obtain ⟨n, rfl⟩ := okWide_int Try.underlying41 hv
  obtain ⟨fuel, hf⟩ := h
  obtain ⟨n', h1, _, h2⟩ := DataW.trod_int Try.underlying41 hf
  simp only [Value.cells, List.cons.injEq, Value.int.injEq, true_and, and_true] at h1
  have h3 : n = n' := by simpa [Value.cells] using h1
  subst h3
  simp [Lit.wf, IntKind.min, IntKind.max, IntKind.signed, IntKind.bits] at h2
  obtain ⟨m, rfl⟩ := Int.eq_ofNat_of_zero_le h2.1
  exact ⟨m, rfl, by omega⟩

theorem open_i64 {W : World} {base : Nat} {v : Value} (hv : Value.okWide Try.prog W .any base 3 v) : ∃ n : Int, v = .int .i64 n := okWide_int Try.underlying3 hv
end
end Go.Proofs.Ytdkfeaodgfnhgaa
