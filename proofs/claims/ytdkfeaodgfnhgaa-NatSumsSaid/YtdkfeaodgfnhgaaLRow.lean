/- From the walks to the rows: arguments opened, and shut again. -/
import Derived.Test.YtdkfeaodgfnhgaaLRaw
import Derived.Test.YtdkfeaodgfnhgaaRows
import Derived.ProofKit
import Derived.OpenShut
namespace Go.Proofs.Ytdkfeaodgfnhgaa
open Go.ChangeShapes Go.WideShapes Go.ChangeAt Go.RowKit Num

theorem Try.own : ownKnob Try.prog.godebug = none := by kernel_rfl
theorem Try.laidOut : laidOutB Try.prog = true := by kernel_rfl
theorem Try.cellsU32 : Try.prog.cellsOf 63 = 1 := by kernel_rfl

section
variable {H : Type} {enc : TypeId × Value → H}

/-- A slice of words, as the walks want it. -/
theorem slice_words {W : World} {a : Option Addr} {len cap : Nat} {d : DataW H} {p : List MemPlace} (h : DataW.Trod enc Try.prog W 0 (fun _ => true) true 22 (.slice a len cap) d p) :
    ∃ xs : List Nat, xs.length = len ∧ AllLt Num.W xs ∧ CellsU W a xs := by
  obtain ⟨fuel, hf⟩ := h
  rcases open_ints Try.underlying22 Try.underlying63 Try.cellsU32 hf with ⟨hcs, hx⟩ | ⟨a', len', cap', zs, hcs, _, hl, hm, hz, hx, hcell, hwz⟩
  · simp [Value.cells] at hcs
    obtain ⟨rfl, rfl, rfl⟩ := hcs
    exact ⟨[], rfl, AllLt.nil _, fun i d h => by simp at h⟩
  · simp [Value.cells] at hcs
    obtain ⟨rfl, rfl, rfl⟩ := hcs
    simp only [if_true] at hz
    refine ⟨(zs.take len).map Int.toNat, by simp; omega, fun d hd => ?_, fun i d hi => ?_⟩
    · obtain ⟨z, hz1, rfl⟩ := List.mem_map.1 hd
      have := bounds_u32 (hwz z (List.mem_of_mem_take hz1))
      unfold Num.W
      omega
    · rw [List.getElem?_map] at hi
      obtain ⟨z, hz1, rfl⟩ := Option.map_eq_some_iff.1 hi
      obtain ⟨hil, hzi⟩ := List.getElem?_eq_some_iff.1 hz1
      have hi2 : i < zs.length := by simp at hil; omega
      have hzz : zs.getD i 0 = z := by
        rw [← hzi, List.getElem_take, List.getD_eq_getElem?_getD, List.getElem?_eq_getElem hi2]; rfl
      have hc := hcell i hi2
      rw [hzz] at hc
      have hb := bounds_u32 (hwz z (by rw [← hzi, List.getElem_take]; exact List.getElem_mem hi2))
      obtain ⟨b, o, sp⟩ := a'
      have hsp : sp = none := by simpa [Addr.add] using World.cell?_spot (hcell 0 (by omega))
      subst hsp
      refine ⟨b, o, rfl, ?_⟩
      rw [Int.toNat_of_nonneg hb.1]
      rcases Nat.eq_zero_or_pos i with rfl | hp
      · simpa [Addr.add] using hc
      · simpa [Addr.add, Nat.ne_of_gt hp] using hc

/-- An argument reads as before. -/
theorem again_reads {t : TypeId} (hr : Try.prog.readableRec t = true) (ht : t < Try.prog.types.size) {W W' : World} {v : Value} {d : DataW H} {p : List MemPlace} (h : DataW.Trod enc Try.prog W 0 (fun _ => true) true t v d p)
    (hb : Below W.heap.size W W') (hlt : ∀ x ∈ p, x.block < W.heap.size) : DataW.Trod enc Try.prog W' 0 (fun b => decide (b < W.heap.size)) true t v d p :=
  Below.trod Try.laidOut hr ht h hb hlt

end
end Go.Proofs.Ytdkfeaodgfnhgaa
