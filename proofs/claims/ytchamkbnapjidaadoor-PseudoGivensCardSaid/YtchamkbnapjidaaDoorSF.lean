/- few: a valid sum of small numbers. Plain. -/
import Derived.Test.YtchamkbnapjidaaDoorSG
namespace Go.Proofs.YtchamkbnapjidaaDoor
open Go

/-- The variable of a literal of few. -/
def fewV (n : Nat) (l : Int) : Int := 1 + (max l (-(l + 1))) % (n : Int)
def fewL (n : Nat) (l : Int) : Int := if l < 0 then -(fewV n l) else fewV n l
def fewN (s : PS) : Nat := min (min s.C.length s.L.length) 30
def fewS (s : PS) (n : Nat) : PS := ⟨(s.C.take (fewN s)).map fun c => c.tmod 50, (s.L.take (fewN s)).map (fewL n), s.m.tmod 200⟩
theorem fewV_in {n : Nat} (hn : 1 ≤ n) (l : Int) : 1 ≤ fewV n l ∧ fewV n l ≤ n := by
  unfold fewV
  have h1 := Int.emod_nonneg (max l (-(l + 1))) (show (n : Int) ≠ 0 by omega)
  have h2 := Int.emod_lt_of_pos (max l (-(l + 1))) (show (0 : Int) < n by omega)
  omega
theorem tmod_in (x : Int) {k : Int} (hk : 0 < k) : -k < x.tmod k ∧ x.tmod k < k := by
  refine ⟨?_, Int.tmod_lt_of_pos _ hk⟩
  have h := Int.tmod_lt_of_pos (-x) hk
  rw [Int.neg_tmod] at h
  omega
theorem few_ok (s : PS) {n : Nat} (hn : 1 ≤ n) (h8 : n ≤ 8) : (fewS s n).Ok n := by
  have hl : (fewS s n).C.length = (fewS s n).L.length := by simp [fewS, fewN]; omega
  have hc : ∀ c ∈ (fewS s n).C, -49 ≤ c ∧ c ≤ 49 := fun c hc => by
    obtain ⟨x, _, rfl⟩ := List.mem_map.1 hc
    have := tmod_in x (k := 50) (by omega)
    omega
  have hlen : (fewS s n).C.length ≤ 30 := by simp [fewS, fewN]; omega
  have hs := sumAbs_le hc
  have hm := tmod_in s.m (k := 200) (by omega)
  have hm2 : (fewS s n).m = s.m.tmod 200 := rfl
  refine ⟨by omega, by omega, hl, by omega, fun l hl => ?_, fun c h => by have := hc c h; omega, by omega, by omega, by omega⟩
  obtain ⟨x, _, rfl⟩ := List.mem_map.1 hl
  have := fewV_in hn x
  unfold fewL
  split <;> omega
end Go.Proofs.YtchamkbnapjidaaDoor
