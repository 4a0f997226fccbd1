/- Products: plain laws. -/
import Derived.Test.YtlomlcljjidfjaaNatC
namespace Go.Proofs.Ytlomlcljjidfjaa
namespace Num

/-- What the inner loop of Mul adds up at row i. -/
def mulT (O Y : List Nat) (i f : Nat) : List Nat := addL ((O.drop i).take Y.length) (Y.map (f * ·))
/-- The words after row i. -/
def mulO (O Y : List Nat) (i f : Nat) : List Nat :=
  O.take i ++ (cl W 0 (mulT O Y i f)).1 ++ [(cl W 0 (mulT O Y i f)).2] ++ O.drop (i + Y.length + 1)

theorem mulT_len0 (O Y : List Nat) (i : Nat) (h : i + Y.length ≤ O.length) : ((O.drop i).take Y.length).length = Y.length := by
  rw [List.length_take, List.length_drop]; omega
theorem mulT_length (O Y : List Nat) (i f : Nat) (h : i + Y.length ≤ O.length) : (mulT O Y i f).length = Y.length := by
  unfold mulT
  rw [addL_length _ _ (by rw [mulT_len0 _ _ _ h]; simp), mulT_len0 _ _ _ h]
theorem mulT_getD (O Y : List Nat) (i f k : Nat) (h : i + Y.length ≤ O.length) (hk : k < Y.length) : (mulT O Y i f).getD k 0 = O.getD (i + k) 0 + f * Y.getD k 0 := by
  unfold mulT
  rw [addL_getD _ _ (by rw [mulT_len0 _ _ _ h]; simp), getD_take, if_pos hk, getD_drop]
  congr 1
  simp [List.getD_eq_getElem?_getD, hk]

theorem digs_map_mul' (B f : Nat) (l : List Nat) : digs B (l.map (f * ·)) = f * digs B l := by
  have := digs_map_mul B f l
  rw [Nat.mul_comm f, ← this]
  congr 1
  apply List.map_congr_left
  intro x _; exact Nat.mul_comm _ _

theorem mulT_le (O Y : List Nat) (i f : Nat) (hO : AllLt W O) (hY : AllLt W Y) (hf : f < W) : ∀ t ∈ mulT O Y i f, t ≤ W * (W - 1) := by
  intro t ht
  unfold mulT addL at ht
  rw [List.mem_iff_getElem?] at ht
  obtain ⟨j, hj⟩ := ht
  rw [List.getElem?_zipWith] at hj
  split at hj
  · rename_i a b h1 h2
    have ha := ((hO.drop i).take Y.length).get h1
    rw [List.getElem?_map] at h2
    obtain ⟨y, hy, rfl⟩ := Option.map_eq_some_iff.1 h2
    have hy2 := hY.get hy
    have : f * y ≤ (W - 1) * (W - 1) := Nat.mul_le_mul (by omega) (by omega)
    simp at hj
    unfold W at *
    omega
  · cases hj

theorem mul_step (O Y : List Nat) (i f : Nat) (h : i + Y.length < O.length) (hz : digs W (O.drop (i + Y.length)) = 0) :
    digs W (mulO O Y i f) = digs W O + W ^ i * (f * digs W Y) ∧ (mulO O Y i f).length = O.length := by
  have hl := mulT_len0 O Y i (by omega)
  have hc := cl_digs W (mulT O Y i f) 0
  have hcl := cl_length W (mulT O Y i f) 0
  rw [mulT_length O Y i f (by omega)] at hcl hc
  have ht : digs W (mulT O Y i f) = digs W ((O.drop i).take Y.length) + f * digs W Y := by
    unfold mulT
    rw [digs_addL _ _ _ (by rw [hl]; simp), digs_map_mul']
  have e1 : O = O.take i ++ ((O.drop i).take Y.length ++ O.drop (i + Y.length)) := by
    rw [← List.drop_drop, List.take_append_drop, List.take_append_drop]
  have hd1 : digs W (O.drop (i + Y.length + 1)) = 0 := by
    rw [List.drop_eq_getElem_cons (by omega), digs] at hz
    have hW : (0 : Nat) < W := by decide
    have := Nat.eq_zero_of_add_eq_zero_left hz
    rcases Nat.mul_eq_zero.1 this with h1 | h1
    · omega
    · exact h1
  have hti : (O.take i).length = i := by rw [List.length_take]; omega
  have eO : digs W O = digs W (O.take i) + W ^ i * digs W ((O.drop i).take Y.length) := by
    conv => lhs; rw [e1, digs_append, digs_append, hz, hti]
    simp
  constructor
  · unfold mulO
    rw [List.append_assoc, List.append_assoc, digs_append, digs_append, digs_append, hd1, hti, hcl, eO]
    simp only [digs, Nat.mul_zero, Nat.add_zero]
    rw [ht] at hc
    generalize digs W (cl W 0 (mulT O Y i f)).1 = u at *
    generalize (cl W 0 (mulT O Y i f)).2 = v at *
    generalize digs W ((O.drop i).take Y.length) = x at *
    generalize digs W Y = y at *
    generalize W ^ Y.length = p at *
    rw [hc]
    generalize W ^ i = q
    grind
  · unfold mulO
    simp only [List.length_append, List.length_drop, List.length_cons, List.length_nil, hti, hcl]
    omega

theorem mul_zeros (O Y : List Nat) (i f : Nat) (h : i + Y.length < O.length) (hz : digs W (O.drop (i + Y.length)) = 0) :
    digs W ((mulO O Y i f).drop (i + 1 + Y.length)) = 0 := by
  have hcl := cl_length W (mulT O Y i f) 0
  rw [mulT_length O Y i f (by omega)] at hcl
  have hti : (O.take i).length = i := by rw [List.length_take]; omega
  unfold mulO
  rw [List.drop_append, List.drop_eq_nil_of_le (by simp [hti, hcl]; omega), List.nil_append]
  have : (O.take i ++ (cl W 0 (mulT O Y i f)).1 ++ [(cl W 0 (mulT O Y i f)).2]).length = i + Y.length + 1 := by simp [hti, hcl]; omega
  rw [this, show i + 1 + Y.length - (i + Y.length + 1) = 0 by omega, List.drop_zero]
  rw [List.drop_eq_getElem_cons (by omega), digs] at hz
  have hW : (0 : Nat) < W := by decide
  have := Nat.eq_zero_of_add_eq_zero_left hz
  rcases Nat.mul_eq_zero.1 this with h1 | h1
  · omega
  · exact h1

theorem mulO_lt (O Y : List Nat) (i f : Nat) (hO : AllLt W O) (hY : AllLt W Y) (hf : f < W) : AllLt W (mulO O Y i f) := by
  unfold mulO
  refine ((((hO.take i).append (cl_lt W (by decide) _ _)).append (AllLt.cons ?_ (AllLt.nil W))).append (hO.drop _))
  exact cl_carry W (by decide) _ _ (by decide) (mulT_le O Y i f hO hY hf)

/-- In the middle of row i. -/
def mulM (O Y : List Nat) (i f k : Nat) : List Nat := O.take i ++ (cl W 0 ((mulT O Y i f).take k)).1 ++ O.drop (i + k)

theorem mulM_zero (O Y : List Nat) (i f : Nat) : mulM O Y i f 0 = O := by simp [mulM, cl]

theorem mulM_done (O Y : List Nat) (i f k : Nat) (h : i + Y.length < O.length) (hk : k ≤ Y.length) :
    (O.take i ++ (cl W 0 ((mulT O Y i f).take k)).1).length = i + k := by
  rw [List.length_append, cl_length, List.length_take, List.length_take, mulT_length O Y i f (by omega)]; omega

theorem mulM_get (O Y : List Nat) (i f k : Nat) (h : i + Y.length < O.length) (hk : k ≤ Y.length) : (mulM O Y i f k)[i + k]? = some (O.getD (i + k) 0) := by
  unfold mulM
  rw [get_done (mulM_done O Y i f k h hk) (Nat.le_refl _), List.getD_eq_getElem?_getD, List.getElem?_eq_getElem (by omega)]; rfl

theorem mulM_set (O Y : List Nat) (i f k : Nat) (h : i + Y.length < O.length) (hk : k < Y.length) :
    (mulM O Y i f k).set (i + k) (((cl W 0 ((mulT O Y i f).take k)).2 + (O.getD (i + k) 0 + f * Y.getD k 0)) % W) = mulM O Y i f (k + 1) := by
  have h2 := cl_take_succ W 0 (mulT O Y i f) k (by rw [mulT_length O Y i f (by omega)]; exact hk)
  rw [mulT_getD O Y i f k (by omega) hk] at h2
  unfold mulM
  rw [set_done (mulM_done O Y i f k h (by omega)) (by omega), h2]
  simp [Nat.add_assoc]

theorem mulM_last (O Y : List Nat) (i f : Nat) (h : i + Y.length < O.length) :
    (mulM O Y i f Y.length).set (i + Y.length) (cl W 0 (mulT O Y i f)).2 = mulO O Y i f := by
  have ht : (mulT O Y i f).take Y.length = mulT O Y i f := List.take_of_length_le (by rw [mulT_length O Y i f (by omega)]; omega)
  unfold mulM mulO
  rw [set_done (mulM_done O Y i f Y.length h (Nat.le_refl _)) (by omega), ht]

end Num
end Go.Proofs.Ytlomlcljjidfjaa
