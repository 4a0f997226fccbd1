/- Texts of this claim, joined: ZGive, VXRead, BGive. -/
import Derived.Test.YtbacloneddnaeaaGreatP15
import Derived.Test.YtbacloneddnaeaaGreatP35
import Derived.Test.YtbacloneddnaeaaGreatP36
import Derived.Test.YtbacloneddnaeaaGreatP29
import Derived.Test.YtbacloneddnaeaaGreatP34

/- The numbers of the reference of chapter 02. -/
namespace Go.Proofs.YtbacloneddnaeaaGreat
open Go.RowKit Num

def xratV (p : Nat × Nat) : Value := .agg #[.string (dec p.1), .string (dec p.2)]

theorem dec_nl (n k : Nat) (hk : 0 < k) (h : nl n ≤ k) : (dec n).size ≤ 3 * k := dec_small_of n k hk h
theorem dec1 : dec 1 = { data := #[49] } := by kernel_rfl
theorem dec1_list : (dec 1).toList = [49] := by
  unfold dec
  rw [toList_mkStr]; rfl
theorem dec_not1 {b : Nat} (h : b ≠ 1) : ((dec b).toList == [49]) = false := by
  rw [beq_eq_false_iff_ne]
  intro e
  exact toList_ne (fun e2 => h (dec_inj e2)) (e.trans dec1_list.symm)

theorem gXZero : Gives 33 #[] (xratV (0, 1)) := by
  have := w_xzero
  rw [← dec_zero48, ← dec1] at this
  exact this

theorem gXNew (n d : Nat) (hn : nl n ≤ 1000000) (hd : nl d ≤ 1000000) (h0 : 0 < d) : Gives 66 #[.string (dec n), .string (dec d)] (.tuple #[xratV (Q.red n d), .bool true]) := by
  have hg : 0 < Nat.gcd n d := Nat.gcd_pos_of_pos_right n h0
  have sn := dec_nl n 1000000 (by omega) hn
  have sd := dec_nl d 1000000 (by omega) hd
  have sg := Nat.le_trans (dec_size_mono (Nat.gcd_le_right n h0)) sd
  exact w_xnew_n _ _ _ _ _ _ _ (dec_toList_ne (by omega)) (gXGcd n d (by omega) (by omega)) (gXDiv n (Nat.gcd n d) (by omega) (by omega) hg) (gXDiv d (Nat.gcd n d) (by omega) (by omega) hg)
theorem gXNewZ (n : Nat) : Gives 66 #[.string (dec n), .string (dec 0)] (.tuple #[xratV (0, 1), .bool false]) := by
  have := w_xnew_z (dec n) (dec 0) dec0_list (by have := gXZero; unfold xratV at this; rw [dec1, dec_zero48] at this; exact this)
  rw [← dec_zero48, ← dec1] at this
  exact this

theorem gXText (p : Nat × Nat) (hp : Sm 1000000 p) (h0 : 0 < p.2) : Gives 24 #[xratV p] (.string (rtext p)) := by
  obtain ⟨n, d⟩ := p
  obtain ⟨h1, h2⟩ := hp
  unfold rtext
  simp only at *
  rw [dn_of h0]
  by_cases h : d = 1
  · rw [if_pos h]
    subst h
    exact w_xtext1 _ _ dec1_list
  · rw [if_neg h]
    exact w_xtext2 _ _ (dec_not1 h) (dec_small n h1) (dec_small d h2)

theorem sm_dec {p : Nat × Nat} (h : Sm 10000 p) : (dec p.1).size ≤ 30000 ∧ (dec p.2).size ≤ 30000 := ⟨dec_nl _ 10000 (by omega) h.1, dec_nl _ 10000 (by omega) h.2⟩

section
variable (p q : Nat × Nat) (hp : Sm 10000 p) (hq : Sm 10000 q) (lp : Q.Low p) (lq : Q.Low q)
include hp hq

theorem gOver : Gives 65 #[xratV p, xratV q] (.tuple #[.string (dec (p.1 * q.2)), .string (dec (q.1 * p.2)), .string (dec (p.2 * q.2))]) := by
  obtain ⟨h1, h2⟩ := sm_dec hp
  obtain ⟨h3, h4⟩ := sm_dec hq
  exact w_over _ _ _ _ _ _ _ (gXMul _ _ (by omega) (by omega)) (gXMul _ _ (by omega) (by omega)) (gXMul _ _ (by omega) (by omega))

theorem gXCmp2 : Gives 79 #[xratV p, xratV q] (.int .i64 (Q.cmp p q)) := w_xcmp _ _ _ _ _ _ _ _ (gOver p q hp hq) (gXCmp _ _)

include lp lq
theorem gXAdd2 : Gives 34 #[xratV p, xratV q] (xratV (Q.add p q)) := by
  obtain ⟨h1, h2⟩ := hp
  obtain ⟨h3, h4⟩ := hq
  have e1 := nl_mul p.1 q.2
  have e2 := nl_mul q.1 p.2
  have e3 := nl_mul p.2 q.2
  have e4 := nl_add (p.1 * q.2) (q.1 * p.2)
  have s1 := dec_nl (p.1 * q.2) 20000 (by omega) (by omega)
  have s2 := dec_nl (q.1 * p.2) 20000 (by omega) (by omega)
  exact w_xadd _ _ _ _ _ _ _ _ _ _ true (gOver p q ⟨h1, h2⟩ ⟨h3, h4⟩) (gXAdd _ _ (by omega) (by omega)) (gXNew _ _ (by omega) (by omega) (Nat.mul_pos lp.1 lq.1))

theorem gXMul2 : Gives 81 #[xratV p, xratV q] (xratV (Q.mul p q)) := by
  obtain ⟨h1, h2⟩ := hp
  obtain ⟨h3, h4⟩ := hq
  have e1 := nl_mul p.1 q.1
  have e3 := nl_mul p.2 q.2
  have s1 := dec_nl p.1 10000 (by omega) h1
  have s2 := dec_nl p.2 10000 (by omega) h2
  have s3 := dec_nl q.1 10000 (by omega) h3
  have s4 := dec_nl q.2 10000 (by omega) h4
  exact w_xmul _ _ _ _ _ _ _ _ true (gXMul _ _ (by omega) (by omega)) (gXMul _ _ (by omega) (by omega)) (gXNew _ _ (by omega) (by omega) (Nat.mul_pos lp.1 lq.1))

omit hp hq lp lq in
theorem gXDivZ2 (h : q.1 = 0) : Gives 35 #[xratV p, xratV q] (.tuple #[xratV (0, 1), .bool false]) := by
  have := w_xdiv_z (dec p.1) (dec p.2) (dec q.1) (dec q.2) (by rw [h]; exact dec0_list) (by have := gXZero; unfold xratV at this; rw [dec1, dec_zero48] at this; exact this)
  rw [← dec_zero48, ← dec1] at this
  exact this
end

end Go.Proofs.YtbacloneddnaeaaGreat

/- The law RatReads. -/
namespace Go.Proofs.YtbacloneddnaeaaGreat
open Go.RowKit Num

theorem gXRead1 : Gives 105 #[.string { data := #[49] }] (.tuple #[.string { data := #[49] }, .bool true]) := by
  have := gXRead { data := #[49] } (by decide)
  rw [show decOk (bts { data := #[49] }) = true by kernel_rfl, if_pos rfl] at this
  exact this

theorem decOk_none {l : List Nat} (h : readN l = none) : decOk l = false := by
  cases h1 : decOk l with
  | false => rfl
  | true => rw [readN_ok h1] at h; cases h

theorem gXReadN {s : ByteArray} (hs : s.size ≤ 9223372036854775807) (h : readN (bts s) = none) : Gives 105 #[.string s] (.tuple #[.string { data := #[48] }, .bool false]) := by
  have := gXRead s hs
  rw [decOk_none h, if_neg (by decide)] at this
  exact this
theorem gXReadY {s : ByteArray} {n : Nat} (hs : s.size ≤ 9223372036854775807) (h : readN (bts s) = some n) : Gives 105 #[.string s] (.tuple #[.string (dec n), .bool true]) := by
  obtain ⟨h1, _, h3⟩ := readN_small h
  have := gXRead s hs
  rw [h3, if_pos rfl] at this
  rw [← h1]; exact this

theorem gXRatRead (s : ByteArray) (hs : s.size ≤ 1000) : Gives 93 #[.string s] (.tuple #[xratV ((ratRead s).getD (0, 1)), .bool (ratRead s).isSome]) := by
  have KZ := w_xzero
  cases hc : cutL (bts s) with
  | none =>
    rw [ratRead_no hc]
    have hno := (cut_miss hc).2
    cases hr : readN (bts s) with
    | none =>
      have := w_xrread1a s _ _ s s s true hno (by omega) (gXReadN (by omega) hr) gXRead1 KZ
      rw [← dec_zero48, ← dec1] at this
      exact this
    | some n =>
      obtain ⟨h1, h2, _⟩ := readN_small hr
      have KN := gXNew n 1 (by omega) (by decide) (by decide)
      have KT := gXText (n, 1) ⟨by simp only; omega, by simp only; decide⟩ Nat.one_pos
      rw [red_one, dec1] at KN
      rw [show rtext (n, 1) = s by rw [h1]; rfl] at KT
      exact w_xrread1e s _ _ _ _ s true hno (by omega) (gXReadY (by omega) hr) gXRead1 KN KT
  | some p =>
    obtain ⟨a, b⟩ := p
    obtain ⟨hk, _, h47, hno, ea, eb⟩ := cut_hit hc
    have z1 : (s.extract 0 a.length).size ≤ 1000 := by rw [← bts_length, ea]; omega
    have z2 : (s.extract (a.length + 1) s.size).size ≤ 1000 := by
      have := congrArg List.length (cutL_some hc).1
      rw [bts_length] at this
      simp at this
      rw [← bts_length, eb]; omega
    have h47 := h47 hk
    rw [ratRead_at hc]
    cases hra : readN a with
    | none =>
      have hr : readN (bts (s.extract 0 a.length)) = none := by rw [ea]; exact hra
      rw [pairRead_none]
      have KR2 := gXRead (s.extract (a.length + 1) s.size) (by omega)
      have := w_xrread2a s _ _ s s s _ a.length hk h47 hno (by omega) (gXReadN (by omega) hr) KR2 KZ
      rw [← dec_zero48, ← dec1] at this
      exact this
    | some n =>
      have hr : readN (bts (s.extract 0 a.length)) = some n := by rw [ea]; exact hra
      cases hrb : readN b with
      | none =>
        have hr2 : readN (bts (s.extract (a.length + 1) s.size)) = none := by rw [eb]; exact hrb
        rw [pairRead_none2]
        have := w_xrread2b s _ _ s s s true a.length hk h47 hno (by omega) (gXReadY (by omega) hr) (gXReadN (by omega) hr2) KZ
        rw [← dec_zero48, ← dec1] at this
        exact this
      | some d =>
        have hr2 : readN (bts (s.extract (a.length + 1) s.size)) = some d := by rw [eb]; exact hrb
        obtain ⟨_, h2, _⟩ := readN_small hr
        obtain ⟨_, h4, _⟩ := readN_small hr2
        have KR := gXReadY (by omega) hr
        have KR2 := gXReadY (by omega) hr2
        rw [pairRead_some]
        rcases Nat.eq_zero_or_pos d with h0 | h0
        · subst h0
          rw [if_neg (fun h => absurd h.1 (Nat.lt_irrefl 0))]
          have := w_xrread2c s _ _ _ _ s true a.length hk h47 hno (by omega) KR KR2 (gXNewZ n) KZ
          rw [← dec_zero48, ← dec1] at this
          exact this
        · have KN := gXNew n d (by omega) (by omega) h0
          have KT := gXText (Q.red n d) (Sm.mono (Sm.red (k := 1000) (by omega) (by omega)) (by omega)) (Q.red_low h0).1
          by_cases ht : rtext (Q.red n d) = s
          · rw [if_pos ⟨h0, ht⟩]
            rw [ht] at KT
            exact w_xrread2e s _ _ _ _ s true a.length hk h47 hno (by omega) KR KR2 KN KT
          · rw [if_neg fun h => ht h.2]
            have := w_xrread2d s _ _ _ _ _ true a.length hk h47 hno (by omega) (by rw [beq_eq_false_iff_ne]; exact toList_ne ht) KR KR2 KN KZ KT
            rw [← dec_zero48, ← dec1] at this
            exact this

end Go.Proofs.YtbacloneddnaeaaGreat

/- Numbers of chapter 40. -/
namespace Go.Proofs.YtbacloneddnaeaaGreat
open Go.RowKit Num

def numQ (s : ByteArray) : Nat × Nat := (ratRead s).getD (0, 1)
theorem numQ_low (s : ByteArray) : Q.Low (numQ s) := by
  unfold numQ
  cases h : ratRead s with
  | none => exact ⟨by decide, by decide⟩
  | some r => exact (ratRead_spec h).2.1
theorem gBOne : Gives 36 #[] (ratV (1, 1)) := w_bone _ _ true (gROf 1 1 (by decide) (by decide) (by decide))

theorem gXNum (s : ByteArray) (hs : s.size ≤ 1000) : Gives 78 #[.string s] (xratV (numQ s)) := by
  have KR := gXRatRead s hs
  unfold numQ
  cases h : ratRead s with
  | none =>
    rw [h] at KR
    have := w_xnum_n s _ _ KR w_xzero
    rw [← dec_zero48, ← dec1] at this
    exact this
  | some r =>
    rw [h] at KR
    exact w_xnum_y s _ _ KR

theorem gXOne : Gives 80 #[] (xratV (1, 1)) := by
  have := gXNum { data := #[49] } (by decide)
  rw [show numQ { data := #[49] } = (1, 1) by kernel_rfl] at this
  exact w_xone _ _ this

end Go.Proofs.YtbacloneddnaeaaGreat
