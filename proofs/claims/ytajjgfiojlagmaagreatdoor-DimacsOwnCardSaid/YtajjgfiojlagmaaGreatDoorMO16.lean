/- Texts of this claim, joined: VCut, RefB. -/
import Derived.Test.YtajjgfiojlagmaaGreatDoorMO14
import Derived.Test.YtajjgfiojlagmaaGreatDoorMO15
import Derived.Test.YtajjgfiojlagmaaGreatDoorShelf
import Derived.Lib.CutLaws
import Derived.Test.YtajjgfiojlagmaaGreatDoorMO11
import Derived.Deep.QuietTactic
import Derived.BigQuiet
import Derived.Deep.LoopGhost

/- Quotients are read. -/
namespace Go.Proofs.YtajjgfiojlagmaaGreatDoor
open Go.RowKit Num

def cutL : List Nat → Option (List Nat × List Nat)
  | [] => none
  | c :: l => if c = 47 then some ([], l) else (cutL l).map fun p => (c :: p.1, p.2)

theorem cutL_none : ∀ {l : List Nat}, cutL l = none → 47 ∉ l
  | [], _ => by simp
  | c :: l, h => by
    unfold cutL at h
    by_cases hc : c = 47
    · rw [if_pos hc] at h; cases h
    · rw [if_neg hc] at h
      have h2 : cutL l = none := by
        cases h3 : cutL l with
        | none => rfl
        | some p => rw [h3] at h; cases h
      have := cutL_none h2
      simp [this]; omega

theorem cutL_some : ∀ {l a b : List Nat}, cutL l = some (a, b) → l = a ++ 47 :: b ∧ 47 ∉ a
  | [], _, _, h => by cases h
  | c :: l, a, b, h => by
    unfold cutL at h
    by_cases hc : c = 47
    · rw [if_pos hc] at h
      cases h
      subst hc
      simp
    · rw [if_neg hc] at h
      cases h3 : cutL l with
      | none => rw [h3] at h; cases h
      | some p =>
        obtain ⟨x, y⟩ := p
        rw [h3] at h
        simp only [Option.map_some, Option.some.injEq, Prod.mk.injEq] at h
        obtain ⟨rfl, rfl⟩ := h
        obtain ⟨e1, e2⟩ := cutL_some h3
        refine ⟨by rw [e1]; rfl, ?_⟩
        simp [e2]; omega

theorem bts_at {s : ByteArray} {k c : Nat} (h : (bts s)[k]? = some c) : ∃ x : UInt8, s.data.toList[k]? = some x ∧ x.toNat = c := by
  unfold bts at h
  rw [List.getElem?_map] at h
  cases e : s.data.toList[k]? with
  | none => rw [e] at h; cases h
  | some x => rw [e] at h; exact ⟨x, rfl, by simpa using h⟩

theorem occ47 {s : ByteArray} {j : Nat} (h : Lib.occAt s.data.toList [47] j = true) : (bts s)[j]? = some 47 := by
  have := Lib.occAt_head (c := 47) (t := []) rfl h
  unfold bts
  rw [List.getElem?_map, this]; rfl

theorem cut_miss {s : ByteArray} (h : cutL (bts s) = none) : Lib.indexB s { data := #[47] } = -1 ∧ ∀ j (hj : j < s.size), ((s[j].toNat : Int) == 47) = false := by
  have hn := cutL_none h
  refine ⟨Lib.index_none fun j _ => ?_, fun j hj => ?_⟩
  · cases e : Lib.occAt s.data.toList [47] j with
    | false => rfl
    | true => exact absurd (List.mem_of_getElem? (occ47 e)) hn
  · have h2 : (bts s)[j]'(by rw [bts_length]; exact hj) = s[j].toNat := bts_get s j hj
    have h3 : s[j].toNat ≠ 47 := fun e => hn (by rw [← e, ← h2]; exact List.getElem_mem _)
    simp; omega

theorem cut_hit {s : ByteArray} {a b : List Nat} (h : cutL (bts s) = some (a, b)) :
    a.length < s.size ∧ Lib.indexB s { data := #[47] } = (a.length : Nat) ∧ (∀ hk : a.length < s.size, ((s[a.length].toNat : Int) == 47) = true) ∧ (∀ j (hj : j < s.size), j < a.length → ((s[j].toNat : Int) == 47) = false) ∧
      bts (s.extract 0 a.length) = a ∧ bts (s.extract (a.length + 1) s.size) = b := by
  obtain ⟨e, hn⟩ := cutL_some h
  have hl := congrArg List.length e
  rw [bts_length] at hl
  simp only [List.length_append, List.length_cons] at hl
  have hk : a.length < s.size := by omega
  have hat : (bts s)[a.length]? = some 47 := by rw [e]; simp
  have hno : ∀ j, j < a.length → ∀ x, (bts s)[j]? = some x → x ≠ 47 := fun j hj x hx => by
    rw [e, List.getElem?_append_left hj] at hx
    intro e2
    subst e2
    exact hn (List.mem_of_getElem? hx)
  have hx : ∀ i j, bts (s.extract i j) = ((bts s).drop i).take (j - i) := fun i j => by
    rw [Lib.extract_eq]; simp [bts, List.map_take, List.map_drop]
  refine ⟨hk, ?_, fun _ => ?_, fun j hj hlt => ?_, ?_, ?_⟩
  · refine Lib.index_first (by rw [← Lib.size_eq]; omega) ?_ fun j hj => ?_
    · obtain ⟨x, h1, h2⟩ := bts_at hat
      have hxe : x = 47 := UInt8.toNat_inj.mp h2
      subst hxe
      have hk2 : a.length < s.data.toList.length := by rw [← Lib.size_eq]; exact hk
      have h3 : s.data.toList[a.length] = 47 := (List.getElem_eq_iff hk2).mpr h1
      unfold Lib.occAt
      rw [List.drop_eq_getElem_cons hk2, h3]
      rfl
    · cases e3 : Lib.occAt s.data.toList [47] j with
      | false => rfl
      | true => exact absurd rfl (hno j hj 47 (occ47 e3))
  · have h2 := bts_get s a.length hk
    have h3 : (bts s)[a.length]'(by rw [bts_length]; exact hk) = 47 := (List.getElem_eq_iff _).mpr hat
    have h4 : s[a.length].toNat = 47 := h2.symm.trans h3
    simp [h4]
  · have h2 := bts_get s j hj
    have h3 : s[j].toNat ≠ 47 := hno j hlt _ (by rw [← h2]; exact List.getElem?_eq_getElem _)
    simp; omega
  · rw [hx, e]; simp
  · rw [hx, e]
    rw [show a.length + 1 = (a ++ [47]).length by simp, show a ++ 47 :: b = (a ++ [47]) ++ b by simp, List.drop_left]
    refine List.take_of_length_le ?_
    simp; omega

theorem below_drew (w : World) (n : Nat) : Below w.heap.size w (w.drewN n) := (Below.refl _ _).drewN n

theorem gCut (w0 : World) (s : ByteArray) (hs : s.size < 4294967281) (hM : ∃ m, w0.cell? ⟨1, 0, none⟩ = some (.int .i64 m)) :
    GivesFrom w0 49 #[.string s, .string { data := #[47] }] (.tuple #[.string ⟨(Lib.cut s.data.toList [47]).1.toArray⟩, .string ⟨(Lib.cut s.data.toList [47]).2.1.toArray⟩, .bool (Lib.cut s.data.toList [47]).2.2]) := fun w hb => by
  obtain ⟨m, hm⟩ := hM
  have hm' := below_cell hb (block_lt_of_cell hm) hm
  refine (Tryz.strings_Cut s { data := #[47] } m w hs hm').mono fun e w' h => ?_
  obtain ⟨rfl, n, rfl⟩ := h
  exact ⟨rfl, below_drew _ _⟩

def pairRead (s : ByteArray) : Option Nat → Option Nat → Option (Nat × Nat)
  | some n, some d => if 0 < d ∧ rtext (Q.red n d) = s then some (Q.red n d) else none
  | _, _ => none
theorem pairRead_none (s : ByteArray) (y : Option Nat) : pairRead s none y = none := by cases y <;> rfl
theorem pairRead_none2 (s : ByteArray) (n : Nat) : pairRead s (some n) none = none := rfl
theorem pairRead_some (s : ByteArray) (n d : Nat) : pairRead s (some n) (some d) = if 0 < d ∧ rtext (Q.red n d) = s then some (Q.red n d) else none := rfl

def ratRead (s : ByteArray) : Option (Nat × Nat) :=
  match cutL (bts s) with
  | none => (readN (bts s)).map fun n => (n, 1)
  | some (a, b) => pairRead s (readN a) (readN b)
theorem ratRead_no {s : ByteArray} (h : cutL (bts s) = none) : ratRead s = (readN (bts s)).map fun n => (n, 1) := by unfold ratRead; rw [h]
theorem ratRead_at {s : ByteArray} {a b : List Nat} (h : cutL (bts s) = some (a, b)) : ratRead s = pairRead s (readN a) (readN b) := by unfold ratRead; rw [h]

theorem ten_pow (k : Nat) : 10 ^ (2 * k) ≤ 256 ^ k := by
  rw [Nat.pow_mul]
  exact Nat.pow_le_pow_left (by decide) k

theorem readN_small {s : ByteArray} {n : Nat} (h : readN (bts s) = some n) : s = dec n ∧ nl n ≤ 1000 ∧ decOk (bts s) = true := by
  cases h1 : decOk (bts s) with
  | false => rw [readN_bad h1] at h; cases h
  | true =>
    rw [readN_ok h1] at h
    have e := dec_of_ok s h1
    cases h
    refine ⟨e, ?_, rfl⟩
    have hl : s.size ≤ 2000 := by
      rcases Nat.lt_or_ge 2000 s.size with h | h
      · have := decOk_long (l := bts s) (by rw [bts_length]; exact h)
        rw [h1] at this; cases this
      · exact h
    have h2 := decL_high (decVal (bts s))
    rw [← dec_size, ← e] at h2
    exact nl_le_of_lt (Nat.lt_of_lt_of_le h2 (Nat.le_trans (Nat.pow_le_pow_right (by omega) (show s.size ≤ 2 * 1000 by omega)) (ten_pow 1000)))

theorem red_one (n : Nat) : Q.red n 1 = (n, 1) := by unfold Q.red; simp

theorem gRatRead (w0 : World) (s : ByteArray) (hs : s.size ≤ 1100000) (hM : ∃ m, w0.cell? ⟨1, 0, none⟩ = some (.int .i64 m)) :
    GivesFrom w0 29 #[.string s] (.tuple #[ratV ((ratRead s).getD (0, 0)), .bool (ratRead s).isSome]) := by
  have KC := gCut w0 s (by omega) hM
  have KO : Gives 51 #[.int .u64 1] (natV 1) := gOf 1 (by decide)
  cases hc : cutL (bts s) with
  | none =>
    rw [ratRead_no hc]
    obtain ⟨e1, e2, e3⟩ := Lib.cutB_miss s { data := #[47] } (cut_miss hc).1
    simp only [show ({ data := #[47] } : ByteArray).data.toList = [47] from rfl] at e1 e2 e3
    rw [e1, e2, e3] at KC
    have KR := gRead s (by omega)
    cases hr : readN (bts s) with
    | none =>
      rw [hr] at KR
      exact w_rread1a w0 s s _ _ s _ s s s _ true KC KR KO
    | some n =>
      rw [hr] at KR
      obtain ⟨h1, h2, _⟩ := readN_small hr
      have KN := gRNew n 1 (by omega) (by decide) (by decide)
      have KT := gRText (n, 1) ⟨by simp only; omega, by simp only; decide⟩
      rw [red_one] at KN
      rw [show rtext (n, 1) = s by rw [h1]; rfl] at KT
      exact w_rread1e w0 s s _ _ s _ _ _ s _ true KC KR KO KN KT
  | some p =>
    obtain ⟨a, b⟩ := p
    obtain ⟨hk, hi, _, _, ea, eb⟩ := cut_hit hc
    obtain ⟨e1, e2, e3⟩ := Lib.cutB_hit s { data := #[47] } a.length hi
    simp only [show ({ data := #[47] } : ByteArray).data.toList = [47] from rfl, show ({ data := #[47] } : ByteArray).size = 1 from rfl] at e1 e2 e3
    rw [e1, e2, e3] at KC
    have z1 : (s.extract 0 a.length).size = a.length := by rw [← bts_length, ea]
    have z2 : (s.extract (a.length + 1) s.size).size = b.length := by rw [← bts_length, eb]
    have z3 : b.length ≤ s.size := by
      have := congrArg List.length (cutL_some hc).1
      rw [bts_length] at this
      simp at this; omega
    have hn : ((s.extract 0 a.length).toList == s.toList) = false := by
      rw [beq_eq_false_iff_ne]
      exact toList_ne fun e => by rw [e] at z1; omega
    generalize s.extract 0 a.length = u at *
    generalize s.extract (a.length + 1) s.size = v at *
    have KR := gRead u (by omega)
    have KR2 := gRead v (by omega)
    rw [ratRead_at hc, ← ea, ← eb]
    clear ea eb
    cases hr : readN (bts u) with
    | none =>
      rw [hr] at KR
      rw [pairRead_none]
      exact w_rread2a w0 s u v _ _ _ s s s true _ hn KC KR KO KR2
    | some n =>
      rw [hr] at KR
      cases hr2 : readN (bts v) with
      | none =>
        rw [hr2] at KR2
        rw [pairRead_none2]
        exact w_rread2b w0 s u v _ _ _ s s s true true hn KC KR KO KR2
      | some d =>
        rw [hr2] at KR2
        obtain ⟨_, h2, _⟩ := readN_small hr
        obtain ⟨_, h4, _⟩ := readN_small hr2
        rw [pairRead_some]
        rcases Nat.eq_zero_or_pos d with h0 | h0
        · subst h0
          rw [if_neg (fun h => absurd h.1 (Nat.lt_irrefl 0))]
          exact w_rread2c w0 s u v _ _ _ _ _ s true true hn KC KR KO KR2 (gRNewZ n)
        · have KN := gRNew n d (by omega) (by omega) h0
          have KT := gRText (Q.red n d) (Sm.mono (Sm.red (k := 1000) (by omega) (by omega)) (by omega))
          by_cases ht : rtext (Q.red n d) = s
          · rw [if_pos ⟨h0, ht⟩]
            rw [ht] at KT
            exact w_rread2e w0 s u v _ _ _ _ _ s true true hn KC KR KO KR2 KN KT
          · rw [if_neg fun h => ht h.2]
            exact w_rread2d w0 s u v _ _ _ _ _ _ true true hn (by rw [beq_eq_false_iff_ne]; exact toList_ne ht) KC KR KO KR2 KN KT

end Go.Proofs.YtajjgfiojlagmaaGreatDoor

/- The reference of chapter 01: Mul, Div, Gcd. -/
namespace Go.Proofs.YtajjgfiojlagmaaGreatDoor
open Go.RowKit Num

theorem digs_set (B : Nat) : ∀ (l : List Nat) (j v : Nat), j < l.length → digs B (l.set j v) + B ^ j * l.getD j 0 = digs B l + B ^ j * v
  | [], j, v, h => by simp at h
  | d :: l, 0, v, _ => by simp [digs_cons]; omega
  | d :: l, j + 1, v, h => by
    have ih := digs_set B l j v (by simpa using h)
    simp only [List.set_cons_succ, List.getD_cons_succ, digs_cons, Nat.pow_succ]
    have e1 : B ^ j * B * l.getD j 0 = B * (B ^ j * l.getD j 0) := by grind
    have e2 : B ^ j * B * v = B * (B ^ j * v) := by grind
    rw [e1, e2]
    have : B * (digs B (l.set j v) + B ^ j * l.getD j 0) = B * (digs B l + B ^ j * v) := by rw [ih]
    rw [Nat.mul_add, Nat.mul_add] at this
    omega

theorem allLt_set {l : List Nat} (h : AllLt 10 l) (j v : Nat) (hv : v < 10) : AllLt 10 (l.set j v) := fun d hd => by
  rcases List.mem_or_eq_of_mem_set hd with h1 | h1
  · exact h d h1
  · omega

theorem getD_set_other' {l : List Nat} {i j v : Nat} (h : i ≠ j) : (l.set i v).getD j 0 = l.getD j 0 := by
  rw [List.getD_eq_getElem?_getD, List.getD_eq_getElem?_getD, List.getElem?_set_ne h]

theorem xmul_step {a b i k c : Nat} {M : List Nat} (hj : i + k < M.length) (h : digs 10 M + 10 ^ (i + k) * c = a % 10 ^ i * b + 10 ^ i * dgt a i * (b % 10 ^ k)) :
    digs 10 (M.set (i + k) ((M.getD (i + k) 0 + dgt a i * dgt b k + c) % 10)) + 10 ^ (i + (k + 1)) * ((M.getD (i + k) 0 + dgt a i * dgt b k + c) / 10) = a % 10 ^ i * b + 10 ^ i * dgt a i * (b % 10 ^ (k + 1)) := by
  have hs := digs_set 10 M (i + k) ((M.getD (i + k) 0 + dgt a i * dgt b k + c) % 10) hj
  rw [mod_succ b k]
  have e := Nat.mod_add_div (M.getD (i + k) 0 + dgt a i * dgt b k + c) 10
  generalize (M.getD (i + k) 0 + dgt a i * dgt b k + c) % 10 = u at *
  generalize (M.getD (i + k) 0 + dgt a i * dgt b k + c) / 10 = v at *
  generalize digs 10 (M.set (i + k) u) = D at *
  generalize digs 10 M = D0 at *
  generalize M.getD (i + k) 0 = m at *
  generalize dgt a i = x at *
  generalize dgt b k = y at *
  generalize a % 10 ^ i * b = r at *
  generalize b % 10 ^ k = s at *
  rw [show i + (k + 1) = (i + k) + 1 by omega, Nat.pow_succ]
  have ep : (10 : Nat) ^ (i + k) = 10 ^ i * 10 ^ k := Nat.pow_add 10 i k
  have e1 : 10 ^ i * x * (s + 10 ^ k * y) = 10 ^ i * x * s + 10 ^ (i + k) * (x * y) := by rw [ep]; grind
  rw [e1]
  generalize 10 ^ (i + k) = t at *
  generalize 10 ^ i * x * s = q at *
  have e2 : t * m + t * (x * y) + t * c = t * u + t * 10 * v := by
    have : t * (m + x * y + c) = t * (u + 10 * v) := by rw [e]
    grind
  omega

theorem mul_acc (a b i : Nat) : a % 10 ^ i * b + 10 ^ i * dgt a i * b = a % 10 ^ (i + 1) * b := by
  rw [mod_succ]; grind

set_option maxHeartbeats 3200000 in
set_option maxRecDepth 100000 in
theorem xmul_any (a b : Nat) (ha : (dec a).size ≤ 536870912) (hb : (dec b).size ≤ 536870912) (w : World) :
    Calls Tryz.prog 105 #[.string (dec a), .string (dec b)] w fun e w' => e = .returned (.string (dec (a * b))) ∧ Below w.heap.size w w' := by
  obtain ⟨i0, hi, hz0, hz1, hz2⟩ := info_parts Tryz.infoInt
  have HDA := Lib.hid (digOf a (by omega))
  have HDB := Lib.hid (digOf b (by omega))
  have HMA := Lib.hid (mod_beyond a (dec a).size (by rw [← dec_size]; exact Nat.le_refl _))
  have HMB := Lib.hid (fun i (h : (dec b).size ≤ i) => mod_beyond b i (by rw [← dec_size]; exact h))
  have HZB := Lib.hid (fun i (h : (dec b).size ≤ i) => dgt_beyond b i (by rw [← dec_size]; exact h))
  generalize dec a = sA at *
  generalize dec b = sB at *
  go_enter Tryz.func105, Tryz.ntmps105
  go_wp2_with (at_make; refine wpList_make_full _ rfl (.tmp 15) (.tmp 15) 25 rfl w.heap.size 3 i0 (.int .i64 0) 1 Tryz.underlying25 hi hz0 hz1 .i64 .i64 _ _ (sA.size + sB.size + 1) rfl rfl (by omega) (by omega) (by rw [hz2]; omega) (by unfold maxLen; omega) (Nat.le_refl _) ?_)
  intro w1 hown hgr
  have hRo := Row.ofOwns hown
  rw [iis_zeros] at hRo
  have HRo := Lib.hid hRo
  have HB1 := Lib.hid (grown_below hgr (Nat.le_refl _) (by simp) : Below w.heap.size w w1)
  clear hown hgr hRo
  go_wp2_with fail
  go_loopw [6] (fun iv wr => ∃ (i : Nat) (O : List Nat), i ≤ sA.size ∧ iv = .int .i64 (i : Nat) ∧ Hid (Row wr w.heap.size 3 (iis O)) ∧ Hid (O.length = sA.size + sB.size + 1) ∧ Hid (AllLt 10 O) ∧ Hid (digs 10 O = a % 10 ^ i * b) ∧
      Hid (∀ j, i + sB.size ≤ j → O.getD j 0 = 0) ∧ Hid (Below w.heap.size w wr))
    (fun iv _ => sA.size - (intOf iv).toNat)
  case atStart =>
    exact ⟨0, List.replicate (sA.size + sB.size + 1) 0, Nat.zero_le _, rfl, HRo, by simp [Hid], AllLt.zeros (by decide) _, by simp [Hid, digs_zeros, Nat.mod_one], fun j _ => by
      rw [List.getD_eq_getElem?_getD, List.getElem?_replicate]; split <;> rfl, HB1⟩
  case round =>
    obtain ⟨i, O, hik, rfl, HR, HOl, HOlt, HOd, HOz, HBB⟩ := hrel
    clear HRo HB1
    by_cases hlt : i < sA.size
    · have hx := dgt_lt a i
      have KA := Lib.hid (HDA.out i (by omega))
      have HST := Lib.hid (fun (k c : Nat) (M : List Nat) => xmul_step (a := a) (b := b) (i := i) (k := k) (c := c) (M := M))
      have HACC := Lib.hid (mul_acc a b i)
      generalize dgt a i = x at *
      obtain ⟨wo, rfl⟩ : ∃ wo : World, wo = wr := ⟨_, rfl⟩
      go_wp2_with fail
      go_loopw [7, 8] (fun cv kv wr => ∃ (k c : Nat) (M : List Nat), k ≤ sB.size + 1 ∧ kv = .int .i64 (k : Nat) ∧ cv = .int .i64 (c : Nat) ∧ c < 10 ∧ (k = sB.size + 1 → c = 0) ∧ Hid (Row wr w.heap.size 3 (iis M)) ∧ Hid (M.length = sA.size + sB.size + 1) ∧ Hid (AllLt 10 M) ∧
          Hid (digs 10 M + 10 ^ (i + k) * c = a % 10 ^ i * b + 10 ^ i * x * (b % 10 ^ k)) ∧ Hid (k ≤ sB.size → ∀ j, i + sB.size ≤ j → M.getD j 0 = 0) ∧ Hid (∀ j, i + 1 + sB.size ≤ j → M.getD j 0 = 0) ∧ Hid (Below w.heap.size w wr))
        (fun _ kv _ => sB.size + 2 - (intOf kv).toNat)
      case atStart => exact ⟨0, 0, O, by omega, rfl, rfl, by omega, by omega, HR, HOl, HOlt, by unfold Hid; rw [HOd.out]; simp [Nat.mod_one], fun _ => HOz.out, fun j hj => HOz.out j (by omega), HBB⟩
      case round =>
        obtain ⟨k, c, M, hk, rfl, rfl, hc10, hkc, HR2, HMl, HMlt, HMd, HMz, HMz2, HB2⟩ := hrel
        clear HR HBB HOz HOd HOlt HOl
        by_cases hgo : k < sB.size ∨ 0 < c
        · have hk2 : k ≤ sB.size := by
            rcases Nat.lt_or_ge sB.size k with h | h
            · have := hkc (by omega); omega
            · exact h
          have hjl : i + k < M.length := by rw [HMl.out]; omega
          have hy := dgt_lt b k
          have hm := HMlt.out.getD (by decide) (i + k)
          have HS := Lib.hid (HST.out k c M hjl HMd.out)
          have hc1 : wr.cell? ⟨w.heap.size, i + k, none⟩ = some (.int .i64 (M.getD (i + k) 0 : Nat)) := HR2.out.cell (iis_getD hjl)
          have hfr := HR2.out.free (i + k)
          have KB := Lib.hid (HDB.out k (by omega))
          have HLAST : Hid (k = sB.size → (M.getD (i + k) 0 + x * dgt b k + c) / 10 = 0) := fun h => by
            rw [HMz.out hk2 (i + k) (by omega), HZB.out k (by omega), Nat.mul_zero]; omega
          have HSET := Lib.hid (fun (v j : Nat) (h : i + k ≠ j) => getD_set_other' (l := M) (v := v) h)
          generalize M.getD (i + k) 0 = m at *
          generalize dgt b k = y at *
          obtain ⟨p, hp⟩ : ∃ p : Nat, p = x * y := ⟨_, rfl⟩
          have hpI : (x : Int) * y = p := by rw [hp]; simp
          have hp2 : p ≤ 9 * 9 := by rw [hp]; exact Nat.mul_le_mul (by omega) (by omega)
          rw [← hp] at HS HLAST
          clear hp hkc
          have KAq : ∀ n, Calls Tryz.prog 107 #[.string sA, .int .i64 (i : Nat)] (wr.drewN n) fun e w'' => e = .returned (.int .i64 (x : Nat)) ∧ ∃ m, w'' = wr.drewN m := fun n => (KA.out _).mono fun _ _ ⟨h1, h2⟩ => ⟨h1, n, h2.symm⟩
          have KBq : ∀ n, Calls Tryz.prog 107 #[.string sB, .int .i64 (k : Nat)] (wr.drewN n) fun e w'' => e = .returned (.int .i64 (y : Nat)) ∧ ∃ m, w'' = wr.drewN m := fun n => (KB.out _).mono fun _ _ ⟨h1, h2⟩ => ⟨h1, n, h2.symm⟩
          have KAQ := Lib.hid KAq
          have KBQ := Lib.hid KBq
          clear KAq KBq
          have hcase : k < sB.size ∨ (¬ k < sB.size ∧ 0 < c) := by omega
          clear hgo
          rcases hcase with h1 | ⟨h1, h2⟩
          all_goals
            go_wp2_with fail
            go_quiet ((first | with_reducible exact KAQ.out _ | with_reducible exact KBQ.out _))
            go_wp2_with fail
            go_roundw
            case rel =>
              refine ⟨k + 1, (m + p + c) / 10, M.set (i + k) ((m + p + c) % 10), by omega, by go_num, by go_num, by omega, fun h => HLAST.out (by omega), ?_, by unfold Hid; rw [List.length_set]; exact HMl.out, allLt_set HMlt.out _ _ (Nat.mod_lt _ (by omega)), HS.out, ?_, ?_, (HB2.out.drewN _).setCell (by simp) _⟩
              · have := (HR2.out.drewN nq).set (i + k) (.int .i64 ((m + p + c) % 10 : Nat))
                rw [iis_set] at this
                unfold Hid
                simpa using this
              · intro hk3 j hj
                rw [HSET.out _ j (by omega)]; exact HMz.out hk2 j hj
              · intro j hj
                rw [HSET.out _ j (by omega)]; exact HMz2.out j hj
            case measure => simp [intOf]; omega
        · have h1 : ¬ k < sB.size := fun h => hgo (.inl h)
          have h2 : ¬ 0 < c := fun h => hgo (.inr h)
          have HE : Hid (digs 10 M = a % 10 ^ (i + 1) * b) := by
            have := HMd.out
            rw [HMB.out k (by omega), show c = 0 by omega, Nat.mul_zero, Nat.add_zero] at this
            exact this.trans HACC.out
          clear hgo hkc
          go_wp2_with fail
          go_roundw
          case rel => exact ⟨i + 1, M, by omega, by go_num, HR2, HMl, HMlt, HE, HMz2, HB2⟩
          case measure => simp [intOf]; omega
    · obtain rfl : i = sA.size := by omega
      have HE : Hid (digs 10 O = a * b) := by
        have := HOd.out
        rw [HMA.out] at this
        exact this
      go_wp2_with fail
      refine (form_any (some ⟨w.heap.size, 0, none⟩) O (sA.size + sB.size + 1) (sA.size + sB.size + 1) HOl.out HOlt.out (by omega) wr (CellsI.ofRow HR.out)).mono ?_
      rintro e w2 ⟨rfl, hB2⟩
      have HB2 := Lib.hid (below_form HBB.out hB2)
      clear hB2
      rw [HE.out]
      go_wp2_with fail
      go_ret
      exact ⟨rfl, HB2.out⟩

theorem dec_size_le (x k : Nat) (hk : 0 < k) (h : x < 10 ^ k) : (dec x).size ≤ k := by
  rw [dec_size]; exact decL_length_le x k hk h
theorem dec_size_pos (x : Nat) : 0 < (dec x).size := by rw [dec_size]; exact decL_pos x
theorem lt_dec_size (x : Nat) : x < 10 ^ (dec x).size := by rw [dec_size]; exact decL_high x
theorem dec_size_mono {x y : Nat} (h : x ≤ y) : (dec x).size ≤ (dec y).size := dec_size_le x _ (dec_size_pos y) (Nat.lt_of_le_of_lt h (lt_dec_size y))
theorem dec_size_ten {x y : Nat} (h : x < 10 * y) : (dec x).size ≤ (dec y).size + 1 := by
  refine dec_size_le x _ (by omega) ?_
  have := lt_dec_size y
  rw [Nat.pow_succ]; omega
theorem dec10 : ({ data := #[49, 48] } : ByteArray) = dec 10 := by kernel_rfl
theorem dec_toList_ne {b : Nat} (h : b ≠ 0) : ((dec b).toList == [48]) = false := by
  rw [beq_eq_false_iff_ne]
  intro e
  have h3 : (dec 0).toList = [48] := by
    unfold dec
    rw [toList_mkStr]; rfl
  rw [← h3, ByteArray.toList_eq, ByteArray.toList_eq] at e
  apply h
  apply dec_inj
  generalize dec b = x at *
  generalize dec 0 = y at *
  cases x; cases y
  simpa using Array.toList_inj.1 e

theorem div_digit (a b j : Nat) (hb : 0 < b) : 10 * (a / 10 ^ (j + 1) % b) + dgt a j < 10 * b ∧
    a / 10 ^ j / b = 10 * (a / 10 ^ (j + 1) / b) + (10 * (a / 10 ^ (j + 1) % b) + dgt a j) / b ∧ a / 10 ^ j % b = (10 * (a / 10 ^ (j + 1) % b) + dgt a j) % b := by
  have h1 : a / 10 ^ j = 10 * (a / 10 ^ (j + 1)) + dgt a j := by
    unfold dgt
    rw [Nat.pow_succ, ← Nat.div_div_eq_div_mul]
    have := Nat.mod_add_div (a / 10 ^ j) 10
    omega
  have hd := dgt_lt a j
  generalize dgt a j = x at *
  generalize a / 10 ^ (j + 1) = u at *
  have hm := Nat.mod_lt u hb
  have e := Nat.mod_add_div u b
  have h2 : a / 10 ^ j = b * (10 * (u / b)) + (10 * (u % b) + x) := by
    rw [h1]
    have : 10 * u = 10 * (u % b) + b * (10 * (u / b)) := by
      have : 10 * (u % b + b * (u / b)) = 10 * u := by rw [e]
      grind
    omega
  refine ⟨by omega, ?_, ?_⟩
  · rw [h2, Nat.mul_add_div hb]
  · rw [h2, Nat.mul_add_mod]

theorem inner_end {t q b : Nat} (_hb : 0 < b) (h1 : q * b ≤ t) (h2 : t - q * b < b) : q = t / b ∧ t - q * b = t % b := by
  have h3 : t / b = q := Nat.div_eq_of_lt_le h1 (by rw [Nat.succ_mul]; omega)
  refine ⟨h3.symm, ?_⟩
  have := Nat.mod_add_div t b
  rw [h3, Nat.mul_comm] at this
  omega

theorem div_acc (Q j q : Nat) : Q * 10 ^ (j + 1) + 10 ^ j * q = (10 * Q + q) * 10 ^ j := by
  rw [Nat.pow_succ]; grind

theorem cmp_nonneg {x y : Nat} : 0 ≤ cmpI x y ↔ y ≤ x := by
  unfold cmpI
  constructor
  · intro h; split at h
    · omega
    · split at h <;> omega
  · intro h; split
    · omega
    · split <;> omega

set_option maxHeartbeats 1000000 in
set_option maxRecDepth 100000 in
theorem xdiv_pos (a b : Nat) (ha : (dec a).size ≤ 100000000) (hb : (dec b).size ≤ 100000000) (h0 : 0 < b) (w : World) :
    Calls Tryz.prog 86 #[.string (dec a), .string (dec b)] w fun e w' => e = .returned (.tuple #[.string (dec (a / b)), .string (dec (a % b)), .bool true]) ∧ Below w.heap.size w w' := by
  obtain ⟨i0, hi, hz0, hz1, hz2⟩ := info_parts Tryz.infoInt
  have HDA := Lib.hid (digOf a (by omega))
  have HDIG := Lib.hid (fun j => div_digit a b j h0)
  have HTOP : Hid (a / 10 ^ (dec a).size = 0) := Nat.div_eq_of_lt (lt_dec_size a)
  have hbz := dec_toList_ne (b := b) (by omega)
  have HSB := Lib.hid (fun (x : Nat) (h : x < 10 * b) => dec_size_ten (x := x) (y := b) h)
  have HSM := Lib.hid (fun (x : Nat) (h : x ≤ b) => dec_size_mono h)
  have HCMP := Lib.hid (fun x w => xcmp_any x b w)
  have HSUB := Lib.hid (fun (x : Nat) (hx : (dec x).size ≤ 1073741824) (h : b ≤ x) (w : World) => xsub_geq x b hx (by omega) h w)
  have H0 := Lib.hid h0
  clear h0
  generalize dec a = sA at *
  generalize dec b = sB at *
  go_enter Tryz.func86, Tryz.ntmps86
  go_wp2_with (at_make; refine wpList_make_full _ rfl (.tmp 13) (.tmp 13) 25 rfl w.heap.size 3 i0 (.int .i64 0) 1 Tryz.underlying25 hi hz0 hz1 .i64 .i64 _ _ sA.size rfl rfl (by omega) (by omega) (by rw [hz2]; omega) (by unfold maxLen; omega) (Nat.le_refl _) ?_)
  intro w1 hown hgr
  have hRo := Row.ofOwns hown
  rw [iis_zeros] at hRo
  have HRo := Lib.hid hRo
  have HB1 := Lib.hid (grown_below hgr (Nat.le_refl _) (by simp) : Below w.heap.size w w1)
  clear hown hgr hRo hbz
  go_wp2_with fail
  go_loopw [8, 9] (fun rv iv wr => ∃ (i : Nat) (L : List Nat), i ≤ sA.size ∧ iv = .int .i64 ((i : Int) - 1) ∧ rv = .string (dec (a / 10 ^ i % b)) ∧ Hid (Row wr w.heap.size 3 (iis L)) ∧ Hid (L.length = sA.size) ∧ Hid (AllLt 10 L) ∧ Hid (digs 10 L = a / 10 ^ i / b * 10 ^ i) ∧
      Hid (∀ j, j < i → L.getD j 0 = 0) ∧ Hid (Below w.heap.size w wr))
    (fun _ iv _ => (intOf iv + 1).toNat)
  case atStart =>
    refine ⟨sA.size, List.replicate sA.size 0, Nat.le_refl _, rfl, ?_, HRo, by simp [Hid], AllLt.zeros (by decide) _, by unfold Hid; rw [HTOP.out, digs_zeros]; simp, fun j _ => by
      rw [List.getD_eq_getElem?_getD, List.getElem?_replicate]; split <;> rfl, HB1⟩
    rw [HTOP.out, Nat.zero_mod, dec_zero48]
  case round =>
    obtain ⟨i, L, hik, rfl, rfl, HR, HLl, HLlt, HLd, HLz, HBB⟩ := hrel
    clear HRo HB1 HTOP
    rcases Nat.eq_zero_or_pos i with rfl | hp
    · have HE : Hid (digs 10 L = a / b) := by
        have := HLd.out
        unfold Hid
        simpa using this
      have HE2 : Hid (dec (a / 10 ^ 0 % b) = dec (a % b)) := by unfold Hid; simp
      rw [HE2.out]
      generalize hsR : dec (a % b) = sR
      have HSR := Lib.hid hsR
      clear hsR HE2
      go_wp2_with fail
      refine (form_any (some ⟨w.heap.size, 0, none⟩) L sA.size sA.size HLl.out HLlt.out (by omega) wr (CellsI.ofRow HR.out)).mono ?_
      rintro e w2 ⟨rfl, hB2⟩
      have HB2 := Lib.hid (below_form HBB.out hB2)
      clear hB2
      rw [HE.out]
      go_wp2_with fail
      go_ret3
      refine ⟨?_, HB2.out⟩
      rw [HSR.out]
      rfl
    · obtain ⟨j, rfl⟩ : ∃ j, i = j + 1 := ⟨i - 1, by omega⟩
      rw [show ((j + 1 : Nat) : Int) - 1 = (j : Nat) by omega]
      clear hp
      have HD := Lib.hid (HDIG.out j)
      have hx := dgt_lt a j
      have KA := Lib.hid (HDA.out j (by omega))
      have hr := Nat.mod_lt (a / 10 ^ (j + 1)) H0.out
      have hrs := HSM.out _ (Nat.le_of_lt hr)
      have ht := HD.out.1
      have hts := HSB.out _ ht
      have htm : 10 * (a / 10 ^ (j + 1) % b) < 10 * b := by omega
      have htms := HSB.out _ htm
      have KM := Lib.hid (fun w => xmul_any (a / 10 ^ (j + 1) % b) 10 (by omega) (Nat.le_trans (dec_size_le 10 2 (by omega) (by omega)) (by omega)) w)
      rw [Nat.mul_comm (a / 10 ^ (j + 1) % b) 10, ← dec10] at KM
      have KO := Lib.hid (fun w => xof_any (dgt a j) (by omega) w)
      have KP := Lib.hid (fun w => xadd_any (10 * (a / 10 ^ (j + 1) % b)) (dgt a j) (by omega) (Nat.le_trans (dec_size_le (dgt a j) 1 (by omega) (by omega)) (by omega)) w)
      have HLS := Lib.hid (fun v => digs_set 10 L j v (by rw [HLl.out]; omega))
      have hLj : L.getD j 0 = 0 := HLz.out j (by omega)
      rw [hLj] at HLS
      have HLJ := Lib.hid hLj
      clear hr hrs htm htms hLj
      generalize a / 10 ^ (j + 1) % b = r at *
      generalize a / 10 ^ (j + 1) / b = Q at *
      generalize dgt a j = x at *
      generalize hT : 10 * r + x = t at *
      have HT := Lib.hid hT
      clear hT
      obtain ⟨wo, rfl⟩ : ∃ wo : World, wo = wr := ⟨_, rfl⟩
      go_wp2_with fail
      refine (KM.out _).mono ?_
      rintro e w2 ⟨rfl, hB2⟩
      have HR2 := Lib.hid (HR.out.below hB2 HR.out.lt)
      have HB2 := Lib.hid (below_form HBB.out hB2)
      clear hB2
      go_wp2_with fail
      refine (KA.out _).mono ?_
      rintro e w3 ⟨rfl, rfl⟩
      go_wp2_with fail
      refine (KO.out _).mono ?_
      rintro e w4 ⟨rfl, hB4⟩
      have HR4 := Lib.hid (HR2.out.below hB4 HR2.out.lt)
      have HB4 := Lib.hid (below_form HB2.out hB4)
      clear hB4 HR2 HB2
      go_wp2_with fail
      refine (KP.out _).mono ?_
      rintro e w5 ⟨rfl, hB5⟩
      have HR5 := Lib.hid (HR4.out.below hB5 HR4.out.lt)
      have HB5 := Lib.hid (below_form HB4.out hB5)
      clear hB5 HR4 HB4 KM KO KP KA
      go_wp2_with fail
      go_loopw [8] (fun rv wr => ∃ (q : Nat) (M : List Nat), q * b ≤ t ∧ rv = .string (dec (t - q * b)) ∧ q < 10 ∧ Hid (Row wr w.heap.size 3 (iis M)) ∧ Hid (M.length = sA.size) ∧ Hid (M = L.set j q) ∧ Hid (Below w.heap.size w wr))
        (fun rv _ => match rv with | .string s => (decVal (bts s)) | _ => 0)
      case atStart => exact ⟨0, L, by omega, by simp, by omega, HR5, HLl, by
        unfold Hid
        have e : L[j]? = some 0 := by
          have := HLJ.out
          rw [List.getD_eq_getElem?_getD, List.getElem?_eq_getElem (by rw [HLl.out]; omega)] at this
          rw [List.getElem?_eq_getElem (by rw [HLl.out]; omega)]
          simpa using this
        have e2 : L.set j 0 = L := by
          apply List.ext_getElem?
          intro k
          by_cases hk : j = k
          · subst hk
            rw [List.getElem?_set_self (by rw [HLl.out]; omega), e]
          · rw [List.getElem?_set_ne hk]
        exact e2.symm, HB5⟩
      case round =>
        obtain ⟨q, M, hq, rfl, hq10, HRM, HMl, HMq, HBM⟩ := hrel
        clear HR5 HB5
        have hcell : M[j]? = some q := by rw [HMq.out, List.getElem?_set_self (by rw [HLl.out]; omega)]
        have HCELL := Lib.hid hcell
        clear hcell
        have hsz : (dec (t - q * b)).size ≤ sB.size + 1 := HSB.out _ (by omega)
        have KC := Lib.hid (HCMP.out (t - q * b))
        by_cases hge : b ≤ t - q * b
        · have hq9 : q + 1 < 10 := by
            rcases Nat.lt_or_ge (q + 1) 10 with h | h
            · exact h
            · have h9 : q = 9 := by omega
              subst h9; omega
          have hqs : (q + 1) * b = q * b + b := Nat.succ_mul q b
          have KS := Lib.hid (HSUB.out (t - q * b) (by omega) hge)
          have HTS : Hid (t - q * b - b = t - (q + 1) * b) := by unfold Hid; omega
          have hq' : (q + 1) * b ≤ t := by omega
          have HDEC : Hid (decVal (bts (dec (t - (q + 1) * b))) < decVal (bts (dec (t - q * b)))) := by
            unfold Hid
            rw [bts_dec, bts_dec, decVal_decL, decVal_decL]
            have := H0.out
            omega
          have hc1 : wr.cell? ⟨w.heap.size, j, none⟩ = some (.int .i64 (q : Nat)) := HRM.out.cell (iis_get _ _ _ HCELL.out)
          have hfr := HRM.out.free j
          have hcc : 0 ≤ cmpI (t - q * b) b := cmp_nonneg.2 hge
          rw [HTS.out] at KS
          clear hge hqs HTS
          generalize cmpI (t - q * b) b = cc at *
          have HQ2 := Lib.hid hq'
          clear hq' hq
          generalize hsN : dec (t - (q + 1) * b) = sN at *
          have HSN := Lib.hid hsN
          clear hsN
          generalize dec (t - q * b) = sO at *
          go_wp2_with fail
          refine (KC.out _).mono ?_
          rintro e w6 ⟨rfl, rfl⟩
          go_wp2_with fail
          refine (KS.out _).mono ?_
          rintro e w7 ⟨rfl, hB7⟩
          have HR7 := Lib.hid (HRM.out.below hB7 HRM.out.lt)
          have HB7 := Lib.hid (below_form HBM.out hB7)
          have hc7 : w7.cell? ⟨w.heap.size, j, none⟩ = some (.int .i64 (q : Nat)) := HR7.out.cell (iis_get _ _ _ HCELL.out)
          have hf7 := HR7.out.free j
          clear hB7 hc1 hfr
          go_wp2_with fail
          go_roundw
          case rel =>
            refine ⟨q + 1, M.set j (q + 1), HQ2.out, by rw [HSN.out], hq9, ?_, by unfold Hid; rw [List.length_set]; exact HMl.out, by unfold Hid; rw [HMq.out, List.set_set], HB7.out.setCell (by simp) _⟩
            have := HR7.out.set j (.int .i64 (q + 1 : Nat))
            rw [iis_set] at this
            unfold Hid
            simpa using this
          case measure => exact HDEC.out
        · have hcc : cmpI (t - q * b) b < 0 := by
            have := cmp_nonneg (x := t - q * b) (y := b)
            omega
          obtain ⟨g1, g2⟩ := inner_end H0.out hq (by omega)
          obtain ⟨_, d2, d3⟩ := HD.out
          rw [← g1] at d2
          rw [← g2] at d3
          have HE : Hid (digs 10 M = a / 10 ^ j / b * 10 ^ j) := by
            have h1 := HLS.out q
            rw [Nat.mul_zero, Nat.add_zero] at h1
            unfold Hid
            rw [HMq.out, h1, d2, HLd.out]
            exact div_acc Q j q
          have HLT : Hid (AllLt 10 M) := by unfold Hid; rw [HMq.out]; exact allLt_set HLlt.out _ _ hq10
          have HZ : Hid (∀ k, k < j → M.getD k 0 = 0) := fun k hk => by rw [HMq.out, getD_set_other' (by omega)]; exact HLz.out k (by omega)
          have HD3 := Lib.hid d3
          clear hge g1 g2 d2 d3
          generalize cmpI (t - q * b) b = cc at *
          go_wp2_with fail
          refine (KC.out _).mono ?_
          rintro e w6 ⟨rfl, rfl⟩
          go_wp2_with fail
          go_roundw
          case rel => exact ⟨j, M, by omega, by go_num, by rw [HD3.out], HRM, HMl, HLT, HE, HZ, HBM⟩
          case measure => simp [intOf]

theorem dec0_list : (dec 0).toList = [48] := by
  unfold dec
  rw [toList_mkStr]; rfl

set_option maxHeartbeats 1000000 in
set_option maxRecDepth 100000 in
theorem xgcd_any (a b : Nat) (ha : (dec a).size ≤ 100000000) (hb : (dec b).size ≤ 100000000) (w : World) :
    Calls Tryz.prog 85 #[.string (dec a), .string (dec b)] w fun e w' => e = .returned (.string (dec (Nat.gcd a b))) ∧ Below w.heap.size w w' := by
  have HA := Lib.hid ha
  have HBB := Lib.hid hb
  clear ha hb
  go_enter Tryz.func85, Tryz.ntmps85
  go_wp2_with fail
  go_loopg [0, 1] b (fun k u v wr => ∃ A B : Nat, u = .string (dec A) ∧ v = .string (dec B) ∧ B ≤ k ∧ Hid (Nat.gcd A B = Nat.gcd a b) ∧ Hid ((dec A).size ≤ 100000000) ∧ Hid ((dec B).size ≤ 100000000) ∧ Hid (Below w.heap.size w wr))
  case atStart => exact ⟨a, b, rfl, rfl, Nat.le_refl _, rfl, HA, HBB, Below.refl _ _⟩
  case round =>
    obtain ⟨A, B, rfl, rfl, hBk, HG, HSA, HSB, HB⟩ := hrel
    by_cases h0 : B = 0
    · have HGA : Hid (dec A = dec (Nat.gcd a b)) := by unfold Hid; rw [← HG.out, h0, Nat.gcd_zero_right]
      subst h0
      have hl := dec0_list
      generalize dec 0 = s0 at *
      generalize hsA : dec A = sA at *
      have HSS := Lib.hid hsA
      clear hsA
      go_wp2_with fail
      go_ret
      refine ⟨?_, HB.out⟩
      rw [← HGA.out]
      rfl
    · have hl := dec_toList_ne h0
      have hp : 0 < B := by omega
      have KD := Lib.hid (fun w => xdiv_pos A B HSA.out HSB.out hp w)
      have HMod := Lib.hid (Nat.mod_lt A hp)
      have HGM : Hid (Nat.gcd B (A % B) = Nat.gcd a b) := by unfold Hid; rw [← HG.out, Nat.gcd_comm A B, Nat.gcd_rec B A, Nat.gcd_comm]
      have HSM : Hid ((dec (A % B)).size ≤ 100000000) := Nat.le_trans (dec_size_mono (Nat.le_of_lt (Nat.mod_lt A hp))) HSB.out
      obtain ⟨R, hR⟩ : ∃ R, R = A % B := ⟨_, rfl⟩
      rw [← hR] at KD HMod HGM HSM
      clear hR h0
      generalize hsB : dec B = sB at *
      have HEB := Lib.hid hsB.symm
      clear hsB
      generalize dec A = sA at *
      generalize hsR : dec R = sR at *
      have HER := Lib.hid hsR.symm
      clear hsR
      generalize dec (A / B) = sQ at *
      go_wp2_with fail
      refine (KD.out _).mono ?_
      rintro e w2 ⟨rfl, hB2⟩
      have HB2 := Lib.hid (below_form HB.out hB2)
      clear hB2
      go_wp2_with fail
      go_roundg R
      case measure => have := HMod.out; omega
      case rel => exact ⟨B, R, by rw [HEB.out], by rw [HER.out], Nat.le_refl _, HGM, by rw [← HEB.out]; exact HSB, by rw [← HER.out]; exact HSM, HB2⟩

theorem gXDiv (a b : Nat) (ha : (dec a).size ≤ 100000000) (hb : (dec b).size ≤ 100000000) (h0 : 0 < b) : Gives 86 #[.string (dec a), .string (dec b)] (.tuple #[.string (dec (a / b)), .string (dec (a % b)), .bool true]) := fun w => xdiv_pos a b ha hb h0 w
theorem gXGcd (a b : Nat) (ha : (dec a).size ≤ 100000000) (hb : (dec b).size ≤ 100000000) : Gives 85 #[.string (dec a), .string (dec b)] (.string (dec (Nat.gcd a b))) := fun w => xgcd_any a b ha hb w

end Go.Proofs.YtajjgfiojlagmaaGreatDoor
