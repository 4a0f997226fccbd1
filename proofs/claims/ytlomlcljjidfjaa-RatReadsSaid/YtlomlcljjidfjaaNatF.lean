/- Borrows: plain laws. -/
import Derived.Test.YtlomlcljjidfjaaNatC
namespace Go.Proofs.Ytlomlcljjidfjaa
namespace Num

/-- One digit of a difference, and the borrow. -/
def sb1 (B b x y : Nat) : Nat := if y + b ≤ x then x - y - b else x + B - y - b
def sb2 (b x y : Nat) : Nat := if y + b ≤ x then 0 else 1

/-- Differences along digits. -/
def bl (B : Nat) (b : Nat) : List Nat → List Nat → List Nat × Nat
  | x :: xs, y :: ys => let r := bl B (sb2 b x y) xs ys; (sb1 B b x y :: r.1, r.2)
  | _, _ => ([], b)

theorem sb2_le (b x y : Nat) : sb2 b x y ≤ 1 := by unfold sb2; split <;> omega
theorem sb1_lt {B b x y : Nat} (hx : x < B) (hy : y < B) (hb : b ≤ 1) : sb1 B b x y < B := by unfold sb1; split <;> omega
theorem sb_eq {B b x y : Nat} (hx : x < B) (hy : y < B) (hb : b ≤ 1) : x + B * sb2 b x y = y + b + sb1 B b x y := by unfold sb1 sb2; split <;> omega

theorem bl_length (B : Nat) : ∀ (xs ys : List Nat) (b : Nat), xs.length = ys.length → (bl B b xs ys).1.length = xs.length
  | [], _, _, _ => by simp [bl]
  | x :: xs, y :: ys, b, h => by simp [bl, bl_length B xs ys _ (by simpa using h)]

theorem bl_spec (B : Nat) : ∀ (xs ys : List Nat) (b : Nat), xs.length = ys.length → AllLt B xs → AllLt B ys → b ≤ 1 →
    digs B xs + B ^ xs.length * (bl B b xs ys).2 = digs B ys + b + digs B (bl B b xs ys).1 ∧ AllLt B (bl B b xs ys).1 ∧ (bl B b xs ys).2 ≤ 1
  | [], [], b, _, _, _, hb => by simp [bl, digs, AllLt.nil, hb]
  | x :: xs, y :: ys, b, h, hx, hy, hb => by
    have hx0 : x < B := hx x (by simp)
    have hy0 : y < B := hy y (by simp)
    obtain ⟨h1, h2, h3⟩ := bl_spec B xs ys (sb2 b x y) (by simpa using h) (fun d hd => hx d (by simp [hd])) (fun d hd => hy d (by simp [hd])) (sb2_le _ _ _)
    refine ⟨?_, AllLt.cons (sb1_lt hx0 hy0 hb) h2, h3⟩
    have h4 := sb_eq hx0 hy0 hb
    simp only [bl, digs, List.length_cons, Nat.pow_succ]
    generalize (bl B (sb2 b x y) xs ys).2 = z at *
    generalize digs B (bl B (sb2 b x y) xs ys).1 = o at *
    generalize sb1 B b x y = s at *
    generalize sb2 b x y = c at *
    generalize B ^ xs.length = p at *
    generalize digs B xs = u at *
    generalize digs B ys = v at *
    grind

theorem bl_snoc (B : Nat) : ∀ (xs ys : List Nat) (b x y : Nat), xs.length = ys.length →
    bl B b (xs ++ [x]) (ys ++ [y]) = ((bl B b xs ys).1 ++ [sb1 B (bl B b xs ys).2 x y], sb2 (bl B b xs ys).2 x y)
  | [], [], b, x, y, _ => rfl
  | u :: xs, v :: ys, b, x, y, h => by simp [bl, bl_snoc B xs ys _ x y (by simpa using h)]

theorem bl_take_succ (B b : Nat) (xs ys : List Nat) (k : Nat) (h : xs.length = ys.length) (hk : k < xs.length) :
    bl B b (xs.take (k + 1)) (ys.take (k + 1)) = ((bl B b (xs.take k) (ys.take k)).1 ++ [sb1 B (bl B b (xs.take k) (ys.take k)).2 (xs.getD k 0) (ys.getD k 0)], sb2 (bl B b (xs.take k) (ys.take k)).2 (xs.getD k 0) (ys.getD k 0)) := by
  rw [List.take_succ_eq_append_getElem hk, List.take_succ_eq_append_getElem (by omega), bl_snoc _ _ _ _ _ _ (by simp; omega)]
  simp [List.getD_eq_getElem?_getD, hk, show k < ys.length by omega]

/-- No borrow is left if the second number is not greater. -/
theorem bl_none {B : Nat} {xs ys : List Nat} (hB : 0 < B) (h : xs.length = ys.length) (hx : AllLt B xs) (hy : AllLt B ys) (hle : digs B ys ≤ digs B xs) :
    (bl B 0 xs ys).2 = 0 ∧ digs B (bl B 0 xs ys).1 = digs B xs - digs B ys := by
  obtain ⟨h1, h2, h3⟩ := bl_spec B xs ys 0 h hx hy (by omega)
  have h4 := digs_lt hB h2
  rw [bl_length B xs ys 0 h] at h4
  rcases (show (bl B 0 xs ys).2 = 0 ∨ (bl B 0 xs ys).2 = 1 by omega) with h5 | h5
  · rw [h5] at h1; exact ⟨h5, by omega⟩
  · rw [h5] at h1; omega

theorem wrap_u64 (n : Int) : IntKind.u64.wrap n = n % 18446744073709551616 := by simp [IntKind.wrap, IntKind.bits, IntKind.signed]

/-- The walk's spelling of a digit of a difference. -/
theorem sub_word (x y b : Nat) (hx : x < 4294967296) (hy : y < 4294967296) (hb : b ≤ 1) :
    IntKind.u64.wrap (IntKind.u64.wrap ((x : Int) - b) - y) % 4294967296 = (sb1 W b x y : Nat) ∧
    IntKind.u64.wrap (IntKind.u64.wrap ((x : Int) - b) - y) / 9223372036854775808 = (sb2 b x y : Nat) := by
  simp only [wrap_u64]
  unfold sb1 sb2 W
  split <;> constructor <;> omega
theorem sub_word0 (x b : Nat) (hx : x < 4294967296) (hb : b ≤ 1) :
    IntKind.u64.wrap ((x : Int) - b) % 4294967296 = (sb1 W b x 0 : Nat) ∧
    IntKind.u64.wrap ((x : Int) - b) / 9223372036854775808 = (sb2 b x 0 : Nat) := by
  simp only [wrap_u64]
  unfold sb1 sb2 W
  split <;> constructor <;> omega

end Num
end Go.Proofs.Ytlomlcljjidfjaa
