/- The law RatReads. -/
import Derived.Test.YtlomlcljjidfjaaVCut
import Derived.Test.YtlomlcljjidfjaaVReadR
import Derived.Test.YtlomlcljjidfjaaZGive
namespace Go.Proofs.Ytlomlcljjidfjaa
open Go.RowKit Num

theorem gXRead1 : Gives 52 #[.string { data := #[49] }] (.tuple #[.string { data := #[49] }, .bool true]) := by
  have := gXRead { data := #[49] } (by decide)
  rw [show decOk (bts { data := #[49] }) = true by kernel_rfl, if_pos rfl] at this
  exact this

theorem decOk_none {l : List Nat} (h : readN l = none) : decOk l = false := by
  cases h1 : decOk l with
  | false => rfl
  | true => rw [readN_ok h1] at h; cases h

theorem gXReadN {s : ByteArray} (hs : s.size ≤ 9223372036854775807) (h : readN (bts s) = none) : Gives 52 #[.string s] (.tuple #[.string { data := #[48] }, .bool false]) := by
  have := gXRead s hs
  rw [decOk_none h, if_neg (by decide)] at this
  exact this
theorem gXReadY {s : ByteArray} {n : Nat} (hs : s.size ≤ 9223372036854775807) (h : readN (bts s) = some n) : Gives 52 #[.string s] (.tuple #[.string (dec n), .bool true]) := by
  obtain ⟨h1, _, h3⟩ := readN_small h
  have := gXRead s hs
  rw [h3, if_pos rfl] at this
  rw [← h1]; exact this

theorem gXRatRead (s : ByteArray) (hs : s.size ≤ 1000) : Gives 37 #[.string s] (.tuple #[xratV ((ratRead s).getD (0, 1)), .bool (ratRead s).isSome]) := by
  have KZ := w_xzero
  cases hc : cutL (bts s) with
  | none =>
    rw [ratRead_no hc]
    have hno := (cut_miss hc).2
    cases hr : readN (bts s) with
    | none =>
      have := w_xrread1a s _ _ s s s true hno (by omega) (gXReadN (by omega) hr) gXRead1 KZ
      rw [← dec_zero48, ← dec1] at this
      exact this
    | some n =>
      obtain ⟨h1, h2, _⟩ := readN_small hr
      have KN := gXNew n 1 (by omega) (by decide) (by decide)
      have KT := gXText (n, 1) ⟨by simp only; omega, by simp only; decide⟩ Nat.one_pos
      rw [red_one, dec1] at KN
      rw [show rtext (n, 1) = s by rw [h1]; rfl] at KT
      exact w_xrread1e s _ _ _ _ s true hno (by omega) (gXReadY (by omega) hr) gXRead1 KN KT
  | some p =>
    obtain ⟨a, b⟩ := p
    obtain ⟨hk, _, h47, hno, ea, eb⟩ := cut_hit hc
    have z1 : (s.extract 0 a.length).size ≤ 1000 := by rw [← bts_length, ea]; omega
    have z2 : (s.extract (a.length + 1) s.size).size ≤ 1000 := by
      have := congrArg List.length (cutL_some hc).1
      rw [bts_length] at this
      simp at this
      rw [← bts_length, eb]; omega
    have h47 := h47 hk
    rw [ratRead_at hc]
    cases hra : readN a with
    | none =>
      have hr : readN (bts (s.extract 0 a.length)) = none := by rw [ea]; exact hra
      rw [pairRead_none]
      have KR2 := gXRead (s.extract (a.length + 1) s.size) (by omega)
      have := w_xrread2a s _ _ s s s _ a.length hk h47 hno (by omega) (gXReadN (by omega) hr) KR2 KZ
      rw [← dec_zero48, ← dec1] at this
      exact this
    | some n =>
      have hr : readN (bts (s.extract 0 a.length)) = some n := by rw [ea]; exact hra
      cases hrb : readN b with
      | none =>
        have hr2 : readN (bts (s.extract (a.length + 1) s.size)) = none := by rw [eb]; exact hrb
        rw [pairRead_none2]
        have := w_xrread2b s _ _ s s s true a.length hk h47 hno (by omega) (gXReadY (by omega) hr) (gXReadN (by omega) hr2) KZ
        rw [← dec_zero48, ← dec1] at this
        exact this
      | some d =>
        have hr2 : readN (bts (s.extract (a.length + 1) s.size)) = some d := by rw [eb]; exact hrb
        obtain ⟨_, h2, _⟩ := readN_small hr
        obtain ⟨_, h4, _⟩ := readN_small hr2
        have KR := gXReadY (by omega) hr
        have KR2 := gXReadY (by omega) hr2
        rw [pairRead_some]
        rcases Nat.eq_zero_or_pos d with h0 | h0
        · subst h0
          rw [if_neg (fun h => absurd h.1 (Nat.lt_irrefl 0))]
          have := w_xrread2c s _ _ _ _ s true a.length hk h47 hno (by omega) KR KR2 (gXNewZ n) KZ
          rw [← dec_zero48, ← dec1] at this
          exact this
        · have KN := gXNew n d (by omega) (by omega) h0
          have KT := gXText (Q.red n d) (Sm.mono (Sm.red (k := 1000) (by omega) (by omega)) (by omega)) (Q.red_low h0).1
          by_cases ht : rtext (Q.red n d) = s
          · rw [if_pos ⟨h0, ht⟩]
            rw [ht] at KT
            exact w_xrread2e s _ _ _ _ s true a.length hk h47 hno (by omega) KR KR2 KN KT
          · rw [if_neg fun h => ht h.2]
            have := w_xrread2d s _ _ _ _ _ true a.length hk h47 hno (by omega) (by rw [beq_eq_false_iff_ne]; exact toList_ne ht) KR KR2 KN KZ KT
            rw [← dec_zero48, ← dec1] at this
            exact this

theorem ratReads_law (w0 : World) (s : ByteArray) (hz : s.size ≤ 9223372036854775807) (hM : ∃ m, w0.cell? ⟨0, 0, none⟩ = some (.int .i64 m)) : GivesFrom w0 10 #[.string s] (.bool true) := by
  by_cases h1 : 5000 < s.size
  · exact fun w _ => w_rreads_long s h1 hz gWorks2 w
  · have FR := gRatRead w0 s (by omega) hM
    by_cases h2 : 600 < s.size
    · cases hr : ratRead s with
      | none =>
        rw [hr] at FR
        exact w_rreads_n w0 s _ _ _ h2 (by omega) (by
          rw [beq_eq_false_iff_ne]
          refine toList_ne fun e => ?_
          rw [rtext_00] at e
          have h3 : (1 : Nat) = s.size := congrArg ByteArray.size e
          omega) FR (gRText (0, 0) ⟨by decide, by decide⟩) gWorks2
      | some r =>
        rw [hr] at FR
        obtain ⟨e, _, sr⟩ := ratRead_spec hr
        have KT := gRText r (sr.mono (by omega))
        rw [e] at KT
        exact w_rreads_y w0 s _ _ s h2 (by omega) FR KT gWorks2
    · have XR := gXRatRead s (by omega)
      cases hr : ratRead s with
      | none =>
        rw [hr] at FR XR
        exact w_rreads_s w0 s _ _ _ _ false (by omega) FR XR gSame0 gWorks2
      | some r =>
        rw [hr] at FR XR
        obtain ⟨_, lr, sr⟩ := ratRead_spec hr
        exact w_rreads_s w0 s _ _ _ _ true (by omega) FR XR (gSameL r (sr.mono (by omega)) lr) gWorks2

end Go.Proofs.Ytlomlcljjidfjaa
