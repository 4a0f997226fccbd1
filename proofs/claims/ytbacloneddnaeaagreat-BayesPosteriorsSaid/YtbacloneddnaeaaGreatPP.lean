/- The statement BayesPosteriors. -/
import Derived.Test.YtbacloneddnaeaaGreatP42
import Derived.Test.YtbacloneddnaeaaGreatP44
import Derived.HandedShaped
namespace Go.Proofs.YtbacloneddnaeaaGreat.bayesPosteriors
open Go.ChangeShapes Go.WideShapes Go.ChangeAt Go.RowKit Num

set_option maxRecDepth 100000 in
theorem lifted (os : Os) (started : os.Started) (H : Type) (enc : TypeId × Value → H) :
    ReturnsInHanded {} Tryz.checked os 4 .any (Rows.bayesPosteriorsSpec.pre6 enc Tryz.prog Tryz.f4 Rows.bayesPosteriorsRow.domain false)
      (Rows.bayesPosteriorsSpec.post enc Tryz.prog Tryz.f4 false true false false) := by
  refine returnsInHanded_of_change_shaped (C := Tryz.checked) Tryz.own started (by kernel_rfl) Tryz.func4
    (ChangeSpec.witness6 (enc := enc) (C := Tryz.checked) false ⟨#[], #[.slice none 0 0, .slice none 0 0, .int .i64 0], []⟩ 8 (by kernel_rfl) (by kernel_rfl) (by kernel_rfl) (by kernel_rfl)) ?_
  intro W base args ds gs before hval0 hW _ hwt hsh _
  have hval : ∀ (j : Nat) t v, Tryz.f4.params[j]? = some t → args[j]? = some v → Value.okWide Tryz.prog W .any base t v := hval0
  have hW' := hW
  obtain ⟨p, q, hA0, hV, rfl, hfz, hnd⟩ := hW
  have hA : DataW.TrodAll enc Tryz.prog W 0 (fun _ => true) true Tryz.f4.params.toList args.toList ds p := hA0
  rw [Tryz.params4] at hA hval
  obtain ⟨v0, v1, v2, d0, d1, d2, p0, p1, p2, rfl, rfl, rfl, h0, h1, h2⟩ := trodAll_three hA
  obtain ⟨rfl, rfl⟩ := trodVars_none hV
  clear hA0 hval0 hA hV
  simp only [List.append_nil] at hW'
  obtain ⟨l0, a0, c0, rfl, hR0, hl0, hb0⟩ := open_refs h0 (okWide_slice Tryz.underlying22 (hval 0 22 v0 rfl rfl)) (fun m hm => of_decide_eq_true (List.all_eq_true.1 hwt m (List.mem_append.2 (.inl hm))))
  obtain ⟨l1, a1, c1, rfl, hR1, hl1⟩ := open_nums h1 (okWide_slice Tryz.underlying23 (hval 1 23 v1 rfl rfl)) (fun m hm => of_decide_eq_true (List.all_eq_true.1 hwt m (List.mem_append.2 (.inr (List.mem_append.2 (.inl hm))))))
  obtain ⟨z2, rfl⟩ := okWide_int Tryz.underlying3 (hval 2 3 v2 rfl rfl)
  refine (posteriors_law l0 a0 c0 l1 a1 c1 z2 hb0 hl0 hl1 W hR0 hR1 (Tryz.laysM145.s1_3 W hsh)).mono fun e W' ⟨he, hB⟩ => ?_
  subst he
  have hlt : ∀ x ∈ p0 ++ p1 ++ p2, x.block < W.heap.size := fun x hx => by simpa using hW'.lt x hx
  refine ⟨_, rfl, [d0, d1, d2], [], p0 ++ p1 ++ p2, [], p0 ++ (p1 ++ p2), [], hW', trodAll_mk1 (shut_bool Tryz.underlying4 _), trodAll_mk3 (again_reads (by kernel_rfl) (of_decide_eq_true (by kernel_rfl)) h0 hB fun x hx => hlt x (by simp [hx])) (again_reads (by kernel_rfl) (of_decide_eq_true (by kernel_rfl)) h1 hB fun x hx => hlt x (by simp [hx])) (again_reads (by kernel_rfl) (of_decide_eq_true (by kernel_rfl)) h2 hB fun x hx => hlt x (by simp [hx])), rfl, hB.frame _, fun h => by cases h⟩

theorem over : Rows.bayesPosteriorsRow.holds Tryz.pinned (OpenSpec.ofChange Rows.bayesPosteriorsSpec) :=
  OpenClaim.holds_of_wide 4 Tryz.f4 rfl rfl rfl rfl rfl rfl rfl ⟨rfl, rfl, rfl, rfl, rfl⟩ rfl rfl rfl rfl rfl (by kernel_rfl) Tryz.func4 (by kernel_rfl)
    (of_decide_eq_true (by kernel_rfl)) (by unfold Func.isWrapper; first | (rw [if_pos (by decide +kernel)]; kernel_rfl) | (rw [if_neg (by decide +kernel)]; exact ⟨rfl, rfl⟩))
    (fun os started H enc _ => lifted os started H enc)

/-- The statement. -/
theorem proved : Rows.BayesPosteriorsSaid := over
#print axioms proved
end Go.Proofs.YtbacloneddnaeaaGreat.bayesPosteriors
