/- The statement BayesAsks. -/
import Derived.Test.YtbacloneddnaeaaGreatS40
import Derived.Test.YtbacloneddnaeaaGreatS42
import Derived.HandedShaped
namespace Go.Proofs.YtbacloneddnaeaaGreat.bayesAsks
open Go.ChangeShapes Go.WideShapes Go.ChangeAt Go.RowKit Num

set_option maxRecDepth 100000 in
theorem lifted (os : Os) (started : os.Started) (H : Type) (enc : TypeId × Value → H) :
    ReturnsInHanded {} Tryz.checked os 3 .any (Rows.bayesAsksSpec.pre6 enc Tryz.prog Tryz.f3 Rows.bayesAsksRow.domain false)
      (Rows.bayesAsksSpec.post enc Tryz.prog Tryz.f3 false true false false) := by
  refine returnsInHanded_of_change_shaped (C := Tryz.checked) Tryz.own started (by kernel_rfl) Tryz.func3
    (ChangeSpec.witness6 (enc := enc) (C := Tryz.checked) false ⟨#[], #[.slice none 0 0, .slice none 0 0], []⟩ 8 (by kernel_rfl) (by kernel_rfl) (by kernel_rfl) (by kernel_rfl)) ?_
  intro W base args ds gs before hval0 hW _ hwt hsh _
  have hval : ∀ (j : Nat) t v, Tryz.f3.params[j]? = some t → args[j]? = some v → Value.okWide Tryz.prog W .any base t v := hval0
  have hW' := hW
  obtain ⟨p, q, hA0, hV, rfl, hfz, hnd⟩ := hW
  have hA : DataW.TrodAll enc Tryz.prog W 0 (fun _ => true) true Tryz.f3.params.toList args.toList ds p := hA0
  rw [Tryz.params3] at hA hval
  obtain ⟨v0, v1, d0, d1, p0, p1, rfl, rfl, rfl, h0, h1⟩ := trodAll_two hA
  obtain ⟨rfl, rfl⟩ := trodVars_none hV
  clear hA0 hval0 hA hV
  simp only [List.append_nil] at hW'
  obtain ⟨l0, a0, c0, rfl, hR0, hl0, hb0⟩ := open_refs h0 (okWide_slice Tryz.underlying22 (hval 0 22 v0 rfl rfl)) (fun m hm => of_decide_eq_true (List.all_eq_true.1 hwt m (List.mem_append.2 (.inl hm))))
  obtain ⟨l1, a1, c1, rfl, hR1, hl1⟩ := open_nums h1 (okWide_slice Tryz.underlying23 (hval 1 23 v1 rfl rfl)) (fun m hm => of_decide_eq_true (List.all_eq_true.1 hwt m (List.mem_append.2 (.inr (List.mem_append.2 (.inl hm))))))
  refine (asks_law l0 a0 c0 l1 a1 c1 hb0 hl0 hl1 W hR0 hR1 (Tryz.laysM145.s1_3 W hsh)).mono fun e W' ⟨he, hB⟩ => ?_
  subst he
  have hlt : ∀ x ∈ p0 ++ p1, x.block < W.heap.size := fun x hx => by simpa using hW'.lt x hx
  refine ⟨_, rfl, [d0, d1], [], p0 ++ p1, [], p0 ++ p1, [], hW', trodAll_mk1 (shut_bool Tryz.underlying4 _), trodAll_mk2 (again_reads (by kernel_rfl) (of_decide_eq_true (by kernel_rfl)) h0 hB fun x hx => hlt x (by simp [hx])) (again_reads (by kernel_rfl) (of_decide_eq_true (by kernel_rfl)) h1 hB fun x hx => hlt x (by simp [hx])), rfl, hB.frame _, fun h => by cases h⟩

theorem over : Rows.bayesAsksRow.holds Tryz.pinned (OpenSpec.ofChange Rows.bayesAsksSpec) :=
  OpenClaim.holds_of_wide 3 Tryz.f3 rfl rfl rfl rfl rfl rfl rfl ⟨rfl, rfl, rfl, rfl, rfl⟩ rfl rfl rfl rfl rfl (by kernel_rfl) Tryz.func3 (by kernel_rfl)
    (of_decide_eq_true (by kernel_rfl)) (by unfold Func.isWrapper; first | (rw [if_pos (by decide +kernel)]; kernel_rfl) | (rw [if_neg (by decide +kernel)]; exact ⟨rfl, rfl⟩))
    (fun os started H enc _ => lifted os started H enc)

/-- The statement. -/
theorem proved : Rows.BayesAsksSaid := over
#print axioms proved
end Go.Proofs.YtbacloneddnaeaaGreat.bayesAsks
