/- Texts of this claim, joined: HK0. -/
import Derived.Test.YtmaiofimmjedjaaDoorMW21
import Derived.Test.YtmaiofimmjedjaaDoorMW06
import Derived.Lib.Repeat

/- InfixKnown: the plain facts. -/
namespace Go.Proofs.YtmaiofimmjedjaaDoor

def kt1 : List (List UInt8) := [[], [120, 49, 32, 120, 50], [120, 48], [120, 49, 48], [120, 49, 32, 38], [40, 120, 49], [120, 49, 32, 36], [120, 48, 49], [120, 49, 32, 45, 32, 120, 50], [97, 110, 100], [105, 102, 102, 40, 120, 49, 44, 32, 120, 50, 41]]
def kp1 : List Nat := [0, 3, 0, 0, 4, 3, 3, 0, 3, 3, 0]
def kt2 : List (List UInt8) := [[120, 49, 32, 45, 62, 32, 120, 50], [33, 120, 49, 32, 124, 32, 120, 50], [33, 40, 120, 49, 41], [33, 33, 120, 49], [97, 110, 100, 40, 41], [120, 49, 32, 38, 32, 40, 120, 50, 32, 38, 32, 120, 51, 41], [40, 120, 49, 32, 60, 45, 62, 32, 120, 50, 41, 32, 60, 45, 62, 32, 120, 51], [120, 49, 32, 60, 45, 62, 32, 40, 120, 50, 32, 60, 45, 62, 32, 120, 51, 41], [105, 102, 40, 120, 49, 44, 32, 120, 50, 32, 124, 32, 120, 51, 44, 32, 48, 41], [120, 111, 114, 40, 120, 49, 41, 32, 94, 32, 33, 40, 120, 49, 32, 38, 32, 120, 50, 41]]
def kt3 : List (List UInt8) := [[33, 40, 120, 49, 41, 32, 124, 32, 120, 50], [33, 120, 49, 32, 124, 32, 120, 50], [33, 40, 120, 49, 41], [33, 33, 120, 49], [97, 110, 100, 40, 41], [120, 49, 32, 38, 32, 40, 120, 50, 32, 38, 32, 120, 51, 41], [120, 49, 32, 60, 45, 62, 32, 120, 50, 32, 60, 45, 62, 32, 120, 51], [120, 49, 32, 60, 45, 62, 32, 40, 120, 50, 32, 60, 45, 62, 32, 120, 51, 41], [105, 102, 40, 120, 49, 44, 32, 120, 50, 32, 124, 32, 120, 51, 44, 32, 48, 41], [120, 111, 114, 40, 120, 49, 41, 32, 94, 32, 33, 40, 120, 49, 32, 38, 32, 120, 50, 41]]
theorem known_bad : ∀ (i : Nat) (t : List UInt8) (p : Nat), kt1[i]? = some t → kp1[i]? = some p → t.length ≤ 20 ∧ parseI t 9 = ([], p, 5)
  | 0, _, _, rfl, rfl => ⟨by decide, by kernel_rfl⟩
  | 1, _, _, rfl, rfl => ⟨by decide, by kernel_rfl⟩
  | 2, _, _, rfl, rfl => ⟨by decide, by kernel_rfl⟩
  | 3, _, _, rfl, rfl => ⟨by decide, by kernel_rfl⟩
  | 4, _, _, rfl, rfl => ⟨by decide, by kernel_rfl⟩
  | 5, _, _, rfl, rfl => ⟨by decide, by kernel_rfl⟩
  | 6, _, _, rfl, rfl => ⟨by decide, by kernel_rfl⟩
  | 7, _, _, rfl, rfl => ⟨by decide, by kernel_rfl⟩
  | 8, _, _, rfl, rfl => ⟨by decide, by kernel_rfl⟩
  | 9, _, _, rfl, rfl => ⟨by decide, by kernel_rfl⟩
  | 10, _, _, rfl, rfl => ⟨by decide, by kernel_rfl⟩
  | n + 11, t, p, h, _ => by simp [kt1] at h
theorem known_good : ∀ (i : Nat) (t u : List UInt8), kt2[i]? = some t → kt3[i]? = some u → t.length ≤ 20 ∧ ∃ gs : List Gt, parseI t 9 = (gs, 0, 0) ∧ gs.length ≠ 0 ∧ checkI 9 gs = 0 ∧ printI 9 gs = (u, 0)
  | 0, _, _, rfl, rfl => ⟨by decide, (parseI [120, 49, 32, 45, 62, 32, 120, 50] 9).1, by kernel_rfl, of_decide_eq_true (by kernel_rfl), by kernel_rfl, by kernel_rfl⟩
  | 1, _, _, rfl, rfl => ⟨by decide, (parseI [33, 120, 49, 32, 124, 32, 120, 50] 9).1, by kernel_rfl, of_decide_eq_true (by kernel_rfl), by kernel_rfl, by kernel_rfl⟩
  | 2, _, _, rfl, rfl => ⟨by decide, (parseI [33, 40, 120, 49, 41] 9).1, by kernel_rfl, of_decide_eq_true (by kernel_rfl), by kernel_rfl, by kernel_rfl⟩
  | 3, _, _, rfl, rfl => ⟨by decide, (parseI [33, 33, 120, 49] 9).1, by kernel_rfl, of_decide_eq_true (by kernel_rfl), by kernel_rfl, by kernel_rfl⟩
  | 4, _, _, rfl, rfl => ⟨by decide, (parseI [97, 110, 100, 40, 41] 9).1, by kernel_rfl, of_decide_eq_true (by kernel_rfl), by kernel_rfl, by kernel_rfl⟩
  | 5, _, _, rfl, rfl => ⟨by decide, (parseI [120, 49, 32, 38, 32, 40, 120, 50, 32, 38, 32, 120, 51, 41] 9).1, by kernel_rfl, of_decide_eq_true (by kernel_rfl), by kernel_rfl, by kernel_rfl⟩
  | 6, _, _, rfl, rfl => ⟨by decide, (parseI [40, 120, 49, 32, 60, 45, 62, 32, 120, 50, 41, 32, 60, 45, 62, 32, 120, 51] 9).1, by kernel_rfl, of_decide_eq_true (by kernel_rfl), by kernel_rfl, by kernel_rfl⟩
  | 7, _, _, rfl, rfl => ⟨by decide, (parseI [120, 49, 32, 60, 45, 62, 32, 40, 120, 50, 32, 60, 45, 62, 32, 120, 51, 41] 9).1, by kernel_rfl, of_decide_eq_true (by kernel_rfl), by kernel_rfl, by kernel_rfl⟩
  | 8, _, _, rfl, rfl => ⟨by decide, (parseI [105, 102, 40, 120, 49, 44, 32, 120, 50, 32, 124, 32, 120, 51, 44, 32, 48, 41] 9).1, by kernel_rfl, of_decide_eq_true (by kernel_rfl), by kernel_rfl, by kernel_rfl⟩
  | 9, _, _, rfl, rfl => ⟨by decide, (parseI [120, 111, 114, 40, 120, 49, 41, 32, 94, 32, 33, 40, 120, 49, 32, 38, 32, 120, 50, 41] 9).1, by kernel_rfl, of_decide_eq_true (by kernel_rfl), by kernel_rfl, by kernel_rfl⟩
  | n + 10, t, p, h, _ => by simp [kt2] at h
theorem long_blank (l : List UInt8) (h : 1048576 < l.length) : parseI l 1 = ([], 0, 2) := by
  unfold parseI
  rw [if_neg (by omega), if_pos h]
theorem arg_less : parseI [49] (-1) = ([], 0, 1) := by kernel_rfl
theorem arg_more : parseI [49] 129 = ([], 0, 1) := by kernel_rfl

def andL : Nat → List UInt8
  | 0 => [49]
  | k + 1 => 49 :: 38 :: andL k
def andT : Nat → List Tk
  | 0 => []
  | k + 1 => some [38] :: some [49] :: andT k
theorem andL_len : ∀ k, (andL k).length = 2 * k + 1
  | 0 => rfl
  | k + 1 => by rw [andL, List.length_cons, List.length_cons, andL_len k]; omega
theorem lexS_and (r : List UInt8) : lexS (49 :: 38 :: r) = some [49] :: some [38] :: lexS r := by
  have h1 : blI (49 :: 38 :: r) = 0 := rfl
  have h2 : tokI (49 :: 38 :: r) = some [49] := rfl
  have h3 : blI (38 :: r) = 0 := rfl
  have h4 : tokI (38 :: r) = some [38] := rfl
  rw [lexS_eq, h1, List.drop_zero, h2]
  show some [49] :: lexS (38 :: r) = _
  rw [lexS_eq, h3, List.drop_zero, h4]
  rfl
theorem lexS_andL : ∀ k, lexS (andL k) = some [49] :: (andT k ++ [some []])
  | 0 => by rfl
  | k + 1 => by rw [andL, lexS_and, lexS_andL k]; rfl
theorem RI_one (rest : List Tk) (o : Nat) (gs : List Gt) : RI 1 (.chain 7) (some [49] :: rest) o gs = .ok [(gs.length : Nat)] rest (gs ++ [⟨1, 0, []⟩]) := by
  rw [RI_chain7, RI_atom, next_some, if_neg (show ¬ varI 1 [49] ≠ 0 by decide), if_neg (by simp), if_neg (by simp), if_neg (by simp), if_pos rfl]
  rfl
theorem RI_ands (o : Nat) : ∀ (k : Nat) (l : List Int) (gs : List Gt), l.length + k ≠ 1 → ∃ (v : Int) (g : List Gt), RI 1 (.chainL 6 l) (andT k ++ [some []]) o gs = .ok [v] [some []] g ∧ g.length = gs.length + k + 1
  | 0, l, gs, h => by
    refine ⟨(gs.length : Nat), gs ++ [⟨kindI 6, 0, l⟩], ?_, by simp⟩
    · rw [RI_chainL, show andT 0 ++ [some []] = (some [] :: [] : List Tk) from rfl, next_some, if_neg (by simp [signI]), if_neg (by omega)]
  | k + 1, l, gs, h => by
    obtain ⟨v, g, h1, h2⟩ := RI_ands o k (l ++ [((gs.length : Nat) : Int)]) (gs ++ [⟨1, 0, []⟩]) (by simp; omega)
    refine ⟨v, g, ?_, by rw [h2]; simp; omega⟩
    rw [RI_chainL, show andT (k + 1) ++ [some []] = some [38] :: some [49] :: (andT k ++ [some []]) from rfl, next_some, if_pos (by simp [signI]), List.tail_cons, RI_one]
    exact h1
theorem long_and (k : Nat) (h1 : 4096 < k) (h2 : k ≤ 100000) : ∃ q, parseI (andL k) 1 = ([], q, 2) := by
  obtain ⟨v, g, e1, e2⟩ := RI_ands 0 k [((0 : Nat) : Int)] ([] ++ [⟨1, 0, []⟩]) (by simp; omega)
  have hg : Good (RI 1 (mdI (3 + 3)) (some [49] :: (andT k ++ [some []])) 0 []) (.ok [v] [some []] g) := by
    show Good (RI 1 (.chain 6) _ 0 []) _
    rw [RI_chain 1 6 (by omega), RI_one]
    exact .inl e1
  have hst : stopI 2 [some []] := stop_of (fun _ => by decide) (fun _ => by decide) (fun ℓ _ _ _ => sign_no (by decide) ℓ)
  have hd := down_to 3 3 (by omega) (by omega) hg (hst.mono (by omega))
  have hf : Good (RI 1 .form (some [49] :: (andT k ++ [some []])) 0 []) (.ok [v] [some []] g) := by
    rw [RI_form]
    refine Good.bind (show Good (RI 1 .impl _ 0 []) _ from hd) ?_
    rw [RI_formL, next_some, if_neg (by decide)]
    exact .refl _
  rw [parseI_eq (by omega) (by omega) (by rw [andL_len]; omega), show (1 : Int).toNat = 1 from rfl, lexS_andL]
  rcases hf with hf | ⟨q, hf⟩
  · rw [hf]
    unfold finI
    simp only []
    rw [if_neg (by simp), if_neg (by
      unfold checkI
      rw [if_neg (by omega), if_pos (.inl (by rw [e2]; simp; omega))]
      decide)]
    exact ⟨_, rfl⟩
  · rw [hf]
    exact ⟨_, rfl⟩
theorem rep_and : ∀ k, Lib.repeatL [49, 38] k ++ [49] = andL k
  | 0 => rfl
  | k + 1 => by
    show 49 :: 38 :: (Lib.repeatL [49, 38] k ++ [49]) = _
    rw [rep_and k]; rfl
end Go.Proofs.YtmaiofimmjedjaaDoor
