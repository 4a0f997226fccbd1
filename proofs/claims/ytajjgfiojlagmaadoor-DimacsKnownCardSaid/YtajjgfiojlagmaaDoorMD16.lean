/- Texts of this claim, joined: VCut. -/
import Derived.Test.YtajjgfiojlagmaaDoorMD14
import Derived.Test.YtajjgfiojlagmaaDoorMD15
import Derived.Test.YtajjgfiojlagmaaDoorShelf
import Derived.Lib.CutLaws

/- Quotients are read. -/
namespace Go.Proofs.YtajjgfiojlagmaaDoor
open Go.RowKit Num

def cutL : List Nat → Option (List Nat × List Nat)
  | [] => none
  | c :: l => if c = 47 then some ([], l) else (cutL l).map fun p => (c :: p.1, p.2)

theorem cutL_none : ∀ {l : List Nat}, cutL l = none → 47 ∉ l
  | [], _ => by simp
  | c :: l, h => by
    unfold cutL at h
    by_cases hc : c = 47
    · rw [if_pos hc] at h; cases h
    · rw [if_neg hc] at h
      have h2 : cutL l = none := by
        cases h3 : cutL l with
        | none => rfl
        | some p => rw [h3] at h; cases h
      have := cutL_none h2
      simp [this]; omega

theorem cutL_some : ∀ {l a b : List Nat}, cutL l = some (a, b) → l = a ++ 47 :: b ∧ 47 ∉ a
  | [], _, _, h => by cases h
  | c :: l, a, b, h => by
    unfold cutL at h
    by_cases hc : c = 47
    · rw [if_pos hc] at h
      cases h
      subst hc
      simp
    · rw [if_neg hc] at h
      cases h3 : cutL l with
      | none => rw [h3] at h; cases h
      | some p =>
        obtain ⟨x, y⟩ := p
        rw [h3] at h
        simp only [Option.map_some, Option.some.injEq, Prod.mk.injEq] at h
        obtain ⟨rfl, rfl⟩ := h
        obtain ⟨e1, e2⟩ := cutL_some h3
        refine ⟨by rw [e1]; rfl, ?_⟩
        simp [e2]; omega

theorem bts_at {s : ByteArray} {k c : Nat} (h : (bts s)[k]? = some c) : ∃ x : UInt8, s.data.toList[k]? = some x ∧ x.toNat = c := by
  unfold bts at h
  rw [List.getElem?_map] at h
  cases e : s.data.toList[k]? with
  | none => rw [e] at h; cases h
  | some x => rw [e] at h; exact ⟨x, rfl, by simpa using h⟩

theorem occ47 {s : ByteArray} {j : Nat} (h : Lib.occAt s.data.toList [47] j = true) : (bts s)[j]? = some 47 := by
  have := Lib.occAt_head (c := 47) (t := []) rfl h
  unfold bts
  rw [List.getElem?_map, this]; rfl

theorem cut_miss {s : ByteArray} (h : cutL (bts s) = none) : Lib.indexB s { data := #[47] } = -1 ∧ ∀ j (hj : j < s.size), ((s[j].toNat : Int) == 47) = false := by
  have hn := cutL_none h
  refine ⟨Lib.index_none fun j _ => ?_, fun j hj => ?_⟩
  · cases e : Lib.occAt s.data.toList [47] j with
    | false => rfl
    | true => exact absurd (List.mem_of_getElem? (occ47 e)) hn
  · have h2 : (bts s)[j]'(by rw [bts_length]; exact hj) = s[j].toNat := bts_get s j hj
    have h3 : s[j].toNat ≠ 47 := fun e => hn (by rw [← e, ← h2]; exact List.getElem_mem _)
    simp; omega

theorem cut_hit {s : ByteArray} {a b : List Nat} (h : cutL (bts s) = some (a, b)) :
    a.length < s.size ∧ Lib.indexB s { data := #[47] } = (a.length : Nat) ∧ (∀ hk : a.length < s.size, ((s[a.length].toNat : Int) == 47) = true) ∧ (∀ j (hj : j < s.size), j < a.length → ((s[j].toNat : Int) == 47) = false) ∧
      bts (s.extract 0 a.length) = a ∧ bts (s.extract (a.length + 1) s.size) = b := by
  obtain ⟨e, hn⟩ := cutL_some h
  have hl := congrArg List.length e
  rw [bts_length] at hl
  simp only [List.length_append, List.length_cons] at hl
  have hk : a.length < s.size := by omega
  have hat : (bts s)[a.length]? = some 47 := by rw [e]; simp
  have hno : ∀ j, j < a.length → ∀ x, (bts s)[j]? = some x → x ≠ 47 := fun j hj x hx => by
    rw [e, List.getElem?_append_left hj] at hx
    intro e2
    subst e2
    exact hn (List.mem_of_getElem? hx)
  have hx : ∀ i j, bts (s.extract i j) = ((bts s).drop i).take (j - i) := fun i j => by
    rw [Lib.extract_eq]; simp [bts, List.map_take, List.map_drop]
  refine ⟨hk, ?_, fun _ => ?_, fun j hj hlt => ?_, ?_, ?_⟩
  · refine Lib.index_first (by rw [← Lib.size_eq]; omega) ?_ fun j hj => ?_
    · obtain ⟨x, h1, h2⟩ := bts_at hat
      have hxe : x = 47 := UInt8.toNat_inj.mp h2
      subst hxe
      have hk2 : a.length < s.data.toList.length := by rw [← Lib.size_eq]; exact hk
      have h3 : s.data.toList[a.length] = 47 := (List.getElem_eq_iff hk2).mpr h1
      unfold Lib.occAt
      rw [List.drop_eq_getElem_cons hk2, h3]
      rfl
    · cases e3 : Lib.occAt s.data.toList [47] j with
      | false => rfl
      | true => exact absurd rfl (hno j hj 47 (occ47 e3))
  · have h2 := bts_get s a.length hk
    have h3 : (bts s)[a.length]'(by rw [bts_length]; exact hk) = 47 := (List.getElem_eq_iff _).mpr hat
    have h4 : s[a.length].toNat = 47 := h2.symm.trans h3
    simp [h4]
  · have h2 := bts_get s j hj
    have h3 : s[j].toNat ≠ 47 := hno j hlt _ (by rw [← h2]; exact List.getElem?_eq_getElem _)
    simp; omega
  · rw [hx, e]; simp
  · rw [hx, e]
    rw [show a.length + 1 = (a ++ [47]).length by simp, show a ++ 47 :: b = (a ++ [47]) ++ b by simp, List.drop_left]
    refine List.take_of_length_le ?_
    simp; omega

theorem below_drew (w : World) (n : Nat) : Below w.heap.size w (w.drewN n) := (Below.refl _ _).drewN n

theorem gCut (w0 : World) (s : ByteArray) (hs : s.size < 4294967281) (hM : ∃ m, w0.cell? ⟨1, 0, none⟩ = some (.int .i64 m)) :
    GivesFrom w0 31 #[.string s, .string { data := #[47] }] (.tuple #[.string ⟨(Lib.cut s.data.toList [47]).1.toArray⟩, .string ⟨(Lib.cut s.data.toList [47]).2.1.toArray⟩, .bool (Lib.cut s.data.toList [47]).2.2]) := fun w hb => by
  obtain ⟨m, hm⟩ := hM
  have hm' := below_cell hb (block_lt_of_cell hm) hm
  refine (Tryd.strings_Cut s { data := #[47] } m w hs hm').mono fun e w' h => ?_
  obtain ⟨rfl, n, rfl⟩ := h
  exact ⟨rfl, below_drew _ _⟩

def pairRead (s : ByteArray) : Option Nat → Option Nat → Option (Nat × Nat)
  | some n, some d => if 0 < d ∧ rtext (Q.red n d) = s then some (Q.red n d) else none
  | _, _ => none
theorem pairRead_none (s : ByteArray) (y : Option Nat) : pairRead s none y = none := by cases y <;> rfl
theorem pairRead_none2 (s : ByteArray) (n : Nat) : pairRead s (some n) none = none := rfl
theorem pairRead_some (s : ByteArray) (n d : Nat) : pairRead s (some n) (some d) = if 0 < d ∧ rtext (Q.red n d) = s then some (Q.red n d) else none := rfl

def ratRead (s : ByteArray) : Option (Nat × Nat) :=
  match cutL (bts s) with
  | none => (readN (bts s)).map fun n => (n, 1)
  | some (a, b) => pairRead s (readN a) (readN b)
theorem ratRead_no {s : ByteArray} (h : cutL (bts s) = none) : ratRead s = (readN (bts s)).map fun n => (n, 1) := by unfold ratRead; rw [h]
theorem ratRead_at {s : ByteArray} {a b : List Nat} (h : cutL (bts s) = some (a, b)) : ratRead s = pairRead s (readN a) (readN b) := by unfold ratRead; rw [h]

theorem ten_pow (k : Nat) : 10 ^ (2 * k) ≤ 256 ^ k := by
  rw [Nat.pow_mul]
  exact Nat.pow_le_pow_left (by decide) k

theorem readN_small {s : ByteArray} {n : Nat} (h : readN (bts s) = some n) : s = dec n ∧ nl n ≤ 1000 ∧ decOk (bts s) = true := by
  cases h1 : decOk (bts s) with
  | false => rw [readN_bad h1] at h; cases h
  | true =>
    rw [readN_ok h1] at h
    have e := dec_of_ok s h1
    cases h
    refine ⟨e, ?_, rfl⟩
    have hl : s.size ≤ 2000 := by
      rcases Nat.lt_or_ge 2000 s.size with h | h
      · have := decOk_long (l := bts s) (by rw [bts_length]; exact h)
        rw [h1] at this; cases this
      · exact h
    have h2 := decL_high (decVal (bts s))
    rw [← dec_size, ← e] at h2
    exact nl_le_of_lt (Nat.lt_of_lt_of_le h2 (Nat.le_trans (Nat.pow_le_pow_right (by omega) (show s.size ≤ 2 * 1000 by omega)) (ten_pow 1000)))

theorem red_one (n : Nat) : Q.red n 1 = (n, 1) := by unfold Q.red; simp

theorem gRatRead (w0 : World) (s : ByteArray) (hs : s.size ≤ 1100000) (hM : ∃ m, w0.cell? ⟨1, 0, none⟩ = some (.int .i64 m)) :
    GivesFrom w0 21 #[.string s] (.tuple #[ratV ((ratRead s).getD (0, 0)), .bool (ratRead s).isSome]) := by
  have KC := gCut w0 s (by omega) hM
  have KO : Gives 33 #[.int .u64 1] (natV 1) := gOf 1 (by decide)
  cases hc : cutL (bts s) with
  | none =>
    rw [ratRead_no hc]
    obtain ⟨e1, e2, e3⟩ := Lib.cutB_miss s { data := #[47] } (cut_miss hc).1
    simp only [show ({ data := #[47] } : ByteArray).data.toList = [47] from rfl] at e1 e2 e3
    rw [e1, e2, e3] at KC
    have KR := gRead s (by omega)
    cases hr : readN (bts s) with
    | none =>
      rw [hr] at KR
      exact w_rread1a w0 s s _ _ s _ s s s _ true KC KR KO
    | some n =>
      rw [hr] at KR
      obtain ⟨h1, h2, _⟩ := readN_small hr
      have KN := gRNew n 1 (by omega) (by decide) (by decide)
      have KT := gRText (n, 1) ⟨by simp only; omega, by simp only; decide⟩
      rw [red_one] at KN
      rw [show rtext (n, 1) = s by rw [h1]; rfl] at KT
      exact w_rread1e w0 s s _ _ s _ _ _ s _ true KC KR KO KN KT
  | some p =>
    obtain ⟨a, b⟩ := p
    obtain ⟨hk, hi, _, _, ea, eb⟩ := cut_hit hc
    obtain ⟨e1, e2, e3⟩ := Lib.cutB_hit s { data := #[47] } a.length hi
    simp only [show ({ data := #[47] } : ByteArray).data.toList = [47] from rfl, show ({ data := #[47] } : ByteArray).size = 1 from rfl] at e1 e2 e3
    rw [e1, e2, e3] at KC
    have z1 : (s.extract 0 a.length).size = a.length := by rw [← bts_length, ea]
    have z2 : (s.extract (a.length + 1) s.size).size = b.length := by rw [← bts_length, eb]
    have z3 : b.length ≤ s.size := by
      have := congrArg List.length (cutL_some hc).1
      rw [bts_length] at this
      simp at this; omega
    have hn : ((s.extract 0 a.length).toList == s.toList) = false := by
      rw [beq_eq_false_iff_ne]
      exact toList_ne fun e => by rw [e] at z1; omega
    generalize s.extract 0 a.length = u at *
    generalize s.extract (a.length + 1) s.size = v at *
    have KR := gRead u (by omega)
    have KR2 := gRead v (by omega)
    rw [ratRead_at hc, ← ea, ← eb]
    clear ea eb
    cases hr : readN (bts u) with
    | none =>
      rw [hr] at KR
      rw [pairRead_none]
      exact w_rread2a w0 s u v _ _ _ s s s true _ hn KC KR KO KR2
    | some n =>
      rw [hr] at KR
      cases hr2 : readN (bts v) with
      | none =>
        rw [hr2] at KR2
        rw [pairRead_none2]
        exact w_rread2b w0 s u v _ _ _ s s s true true hn KC KR KO KR2
      | some d =>
        rw [hr2] at KR2
        obtain ⟨_, h2, _⟩ := readN_small hr
        obtain ⟨_, h4, _⟩ := readN_small hr2
        rw [pairRead_some]
        rcases Nat.eq_zero_or_pos d with h0 | h0
        · subst h0
          rw [if_neg (fun h => absurd h.1 (Nat.lt_irrefl 0))]
          exact w_rread2c w0 s u v _ _ _ _ _ s true true hn KC KR KO KR2 (gRNewZ n)
        · have KN := gRNew n d (by omega) (by omega) h0
          have KT := gRText (Q.red n d) (Sm.mono (Sm.red (k := 1000) (by omega) (by omega)) (by omega))
          by_cases ht : rtext (Q.red n d) = s
          · rw [if_pos ⟨h0, ht⟩]
            rw [ht] at KT
            exact w_rread2e w0 s u v _ _ _ _ _ s true true hn KC KR KO KR2 KN KT
          · rw [if_neg fun h => ht h.2]
            exact w_rread2d w0 s u v _ _ _ _ _ _ true true hn (by rw [beq_eq_false_iff_ne]; exact toList_ne ht) KC KR KO KR2 KN KT

theorem readN_nl {l : List Nat} {n : Nat} (h : readN l = some n) (h2 : AllLt 256 l) : nl n ≤ 1000 := by
  have := readN_small (s := mkStr l) (n := n) (by rw [bts_mkStr h2]; exact h)
  exact this.2.1

theorem ratRead_spec {s : ByteArray} {r : Nat × Nat} (h : ratRead s = some r) : rtext r = s ∧ Q.Low r ∧ Sm 1000 r := by
  cases hc : cutL (bts s) with
  | none =>
    rw [ratRead_no hc] at h
    cases hr : readN (bts s) with
    | none => rw [hr] at h; cases h
    | some n =>
      simp only [hr, Option.map_some, Option.some.injEq] at h
      subst h
      obtain ⟨h1, h2, _⟩ := readN_small hr
      exact ⟨h1.symm, ⟨Nat.one_pos, Nat.gcd_one_right n⟩, ⟨h2, by simp only; decide⟩⟩
  | some p =>
    obtain ⟨a, b⟩ := p
    rw [ratRead_at hc] at h
    obtain ⟨e, _⟩ := cutL_some hc
    have hb := bts_lt s
    rw [e] at hb
    cases hr : readN a with
    | none => rw [hr, pairRead_none] at h; cases h
    | some n =>
      cases hr2 : readN b with
      | none => rw [hr, hr2, pairRead_none2] at h; cases h
      | some d =>
        rw [hr, hr2, pairRead_some] at h
        by_cases hd : 0 < d ∧ rtext (Q.red n d) = s
        · rw [if_pos hd] at h
          cases h
          exact ⟨hd.2, Q.red_low hd.1, Sm.red (readN_nl hr fun x hx => hb x (by simp [hx])) (readN_nl hr2 fun x hx => hb x (by simp [hx]))⟩
        · rw [if_neg hd] at h; cases h

end Go.Proofs.YtajjgfiojlagmaaDoor
