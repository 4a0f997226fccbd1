/- The statement RatNews. -/
import Derived.Test.YtlomlcljjidfjaaZNews
import Derived.Test.YtlomlcljjidfjaaXRow2
namespace Go.Proofs.Ytlomlcljjidfjaa.ratNews
open Go.ChangeShapes Go.WideShapes Go.ChangeAt Go.RowKit Num

set_option maxRecDepth 100000 in
theorem lifted (os : Os) (started : os.Started) (H : Type) (enc : TypeId × Value → H) :
    ReturnsInHanded {} Try.checked os 4 .any (Rows.ratNewsSpec.pre6 enc Try.prog Try.f4 Rows.ratNewsRow.domain false)
      (Rows.ratNewsSpec.post enc Try.prog Try.f4 false true false false) := by
  refine returnsInHanded_of_change (C := Try.checked) Try.own started (by kernel_rfl) Try.func4
    (ChangeSpec.witness6 (enc := enc) (C := Try.checked) false ⟨#[], #[.string ByteArray.empty, .string ByteArray.empty, .int .u64 0, .int .u64 0], []⟩ 8 (by kernel_rfl) (by kernel_rfl) (by kernel_rfl) (by kernel_rfl)) ?_
  intro W base args ds gs before hval0 hW _ _
  have hval : ∀ (j : Nat) t v, Try.f4.params[j]? = some t → args[j]? = some v → Value.okWide Try.prog W .any base t v := hval0
  have hW' := hW
  obtain ⟨p, q, hA0, hV, rfl, hfz, hnd⟩ := hW
  have hA : DataW.TrodAll enc Try.prog W 0 (fun _ => true) true Try.f4.params.toList args.toList ds p := hA0
  rw [Try.params4] at hA hval
  obtain ⟨v0, v1, v2, v3, d0, d1, d2, d3, p0, p1, p2, p3, rfl, rfl, rfl, h0, h1, h2, h3⟩ := trodAll_four hA
  obtain ⟨rfl, rfl⟩ := trodVars_none hV
  clear hA0 hval0 hA hV
  simp only [List.append_nil] at hW'
  obtain ⟨s0, rfl, s0b⟩ := open_str (hval 0 9 v0 rfl rfl) h0
  obtain ⟨s1, rfl, s1b⟩ := open_str (hval 1 9 v1 rfl rfl) h1
  obtain ⟨z2, rfl, z2b⟩ := open_u64 (hval 2 31 v2 rfl rfl) h2
  obtain ⟨z3, rfl, z3b⟩ := open_u64 (hval 3 31 v3 rfl rfl) h3
  refine (ratNews_law s0 s1 z2 z3 s0b s1b z2b z3b W).mono fun e W' ⟨he, hB⟩ => ?_
  subst he
  have hlt : ∀ x ∈ p0 ++ p1 ++ p2 ++ p3, x.block < W.heap.size := fun x hx => by simpa using hW'.lt x hx
  refine ⟨_, rfl, [d0, d1, d2, d3], [], p0 ++ p1 ++ p2 ++ p3, [], p0 ++ (p1 ++ (p2 ++ p3)), [], hW', trodAll_mk1 (shut_bool Try.underlying4 _), trodAll_mk4 (again_reads (by kernel_rfl) (of_decide_eq_true (by kernel_rfl)) h0 hB fun x hx => hlt x (by simp [hx])) (again_reads (by kernel_rfl) (of_decide_eq_true (by kernel_rfl)) h1 hB fun x hx => hlt x (by simp [hx])) (again_reads (by kernel_rfl) (of_decide_eq_true (by kernel_rfl)) h2 hB fun x hx => hlt x (by simp [hx])) (again_reads (by kernel_rfl) (of_decide_eq_true (by kernel_rfl)) h3 hB fun x hx => hlt x (by simp [hx])), rfl, hB.frame _, fun h => by cases h⟩

theorem over : Rows.ratNewsRow.holds Try.pinned (OpenSpec.ofChange Rows.ratNewsSpec) :=
  OpenClaim.holds_of_wide 4 Try.f4 rfl rfl rfl rfl rfl rfl rfl ⟨rfl, rfl, rfl, rfl, rfl⟩ rfl rfl rfl rfl rfl (by kernel_rfl) Try.func4 (by kernel_rfl)
    (of_decide_eq_true (by kernel_rfl)) (by unfold Func.isWrapper; first | (rw [if_pos (by decide +kernel)]; kernel_rfl) | (rw [if_neg (by decide +kernel)]; exact ⟨rfl, rfl⟩))
    (fun os started H enc _ => lifted os started H enc)

/-- The statement. -/
theorem proved : Rows.RatNewsSaid := over
#print axioms proved
end Go.Proofs.Ytlomlcljjidfjaa.ratNews
