/- Texts of this claim, joined: IX. -/
import Derived.Test.YtmaiofimmjedjaaDoorMW05
import Derived.Lib.DecodeN
import Derived.Lib.SpaceUEq
import Derived.Shelf.GgClosure.StringsIndexFunc

/- strings.IndexFunc at the bytes that no word has. Plain. -/
namespace Go.Proofs.YtmaiofimmjedjaaDoor
open Go

def smallR (r : Nat) : Bool := (decide (97 ≤ r) && decide (r ≤ 122)) || (decide (48 ≤ r) && decide (r ≤ 57))
def notR (r : Nat) : Bool := !smallR r
theorem get_data {s : ByteArray} {i : Nat} (h : i < s.size) : s.data.toList[i]? = some (s.get! i) := by
  have h' : i < s.data.size := h
  rw [List.getElem?_eq_getElem (by simpa using h')]
  simp [ByteArray.get!]
  exact (getElem!_pos s.data i h').symm
theorem dec_small (s : ByteArray) (pos : Nat) (h : pos < s.size) : ((s.get! pos).toNat < 128 ∧ Utf8.decode s pos = ((s.get! pos).toNat, 1)) ∨ (128 ≤ (s.get! pos).toNat ∧ 128 ≤ (Utf8.decode s pos).1) := by
  rw [Lib.decode_at]
  by_cases hb : (s.get! pos).toNat < 128
  · left
    refine ⟨hb, ?_⟩
    unfold Lib.decodeN
    rw [if_pos hb]
  · right
    refine ⟨by omega, ?_⟩
    unfold Lib.decodeN
    repeat' split
    all_goals (simp only; omega)
theorem idx_from (s : ByteArray) : ∀ (f pos : Nat), pos ≤ s.size → s.size - pos ≤ f → Lib.idxFuncFrom notR true s f pos = if pos + ((s.data.toList.drop pos).takeWhile smallI).length < s.size then ((pos + ((s.data.toList.drop pos).takeWhile smallI).length : Nat) : Int) else -1 := by
  intro f
  induction f with
  | zero =>
    intro pos h1 h2
    have : pos = s.size := by omega
    subst this
    have e : s.data.toList.drop s.size = [] := List.drop_eq_nil_of_le (by rw [Array.length_toList]; exact Nat.le_refl _)
    rw [e]
    unfold Lib.idxFuncFrom
    rw [if_neg (by simp)]
  | succ f ih =>
    intro pos h1 h2
    unfold Lib.idxFuncFrom
    by_cases hp : pos < s.size
    · rw [if_pos hp]
      have hg := get_data hp
      have hlt : pos < s.data.toList.length := (List.getElem?_eq_some_iff.1 hg).1
      have hd : s.data.toList.drop pos = s.get! pos :: s.data.toList.drop (pos + 1) := by
        rw [List.drop_eq_getElem_cons hlt]
        congr 1
        rw [List.getElem?_eq_getElem hlt] at hg
        exact Option.some.inj hg
      rw [hd, List.takeWhile_cons]
      rcases dec_small s pos hp with ⟨h3, h4⟩ | ⟨h3, h4⟩
      · rw [h4]
        have e : smallR (s.get! pos).toNat = smallI (s.get! pos) := rfl
        by_cases hs : smallI (s.get! pos) = true
        · have hn : ¬ notR (s.get! pos).toNat = true := by unfold notR; rw [e, hs]; simp
          rw [if_neg hn, if_pos hs, ih (pos + 1) (by omega) (by omega)]
          simp only [List.length_cons]
          rw [show pos + (((s.data.toList.drop (pos + 1)).takeWhile smallI).length + 1) = pos + 1 + ((s.data.toList.drop (pos + 1)).takeWhile smallI).length by omega]
        · have hn : notR (s.get! pos).toNat = true := by unfold notR; rw [e]; simpa using hs
          rw [if_pos hn, if_neg hs]
          simp [hp]
      · have hn : notR (Utf8.decode s pos).1 = true := by unfold notR smallR; simp; omega
        have hs : ¬ smallI (s.get! pos) = true := by unfold smallI; simp; omega
        rw [if_pos hn, if_neg hs]
        simp [hp]
    · have : pos = s.size := by omega
      subst this
      have e : s.data.toList.drop s.size = [] := List.drop_eq_nil_of_le (by rw [Array.length_toList]; exact Nat.le_refl _)
      rw [e, if_neg hp]
      simp
theorem idx_small (l : List UInt8) : Lib.idxFunc notR true ⟨l.toArray⟩ = if (l.takeWhile smallI).length < l.length then (((l.takeWhile smallI).length : Nat) : Int) else -1 := by
  have h := idx_from ⟨l.toArray⟩ (⟨l.toArray⟩ : ByteArray).size 0 (Nat.zero_le _) (by omega)
  have e : (⟨l.toArray⟩ : ByteArray).size = l.length := by simp [ByteArray.size]
  unfold Lib.idxFunc
  rw [h, e]
  simp
end Go.Proofs.YtmaiofimmjedjaaDoor
