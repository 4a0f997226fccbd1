/- The law RatOrder. -/
import Derived.Test.YtlomlcljjidfjaaXGive
namespace Go.Proofs.Ytlomlcljjidfjaa
open Go.RowKit Num

theorem ratOrder_law (Na Da Nb Db Nc Dc : ByteArray) (h1 : Na.size ≤ 9223372036854775807) (h2 : Da.size ≤ 9223372036854775807) (h3 : Nb.size ≤ 9223372036854775807) (h4 : Db.size ≤ 9223372036854775807) (h5 : Nc.size ≤ 9223372036854775807) (h6 : Dc.size ≤ 9223372036854775807) :
    Gives 7 #[.agg #[.string Na, .string Da], .agg #[.string Nb, .string Db], .agg #[.string Nc, .string Dc]] (.bool true) := by
  have KA := gVRat Na Da h1 h2
  have KB := gVRat Nb Db h3 h4
  have KC := gVRat Nc Dc h5 h6
  have sa := vq_small Na Da
  have sb := vq_small Nb Db
  have sc := vq_small Nc Dc
  have la := vq_low Na Da
  have lb := vq_low Nb Db
  have lc := vq_low Nc Dc
  generalize vq Na Da = a at *
  generalize vq Nb Db = b at *
  generalize vq Nc Dc = c at *
  have C1 := kCmp sa sb (by omega) la lb
  have C2 := kCmp sb sc (by omega) lb lc
  have C3 := kCmp sb sa (by omega) lb la
  have C4 := kCmp sa sc (by omega) la lc
  have K1 := kAdd sa sc (by omega) la lc
  have K2 := kAdd sb sc (by omega) lb lc
  have C5 := kCmp (sa.add sc) (sb.add sc) (by omega) (Q.add_low la lc) (Q.add_low lb lc)
  have K3 := kMul sa sc (by omega) la lc
  have K4 := kMul sb sc (by omega) lb lc
  have C6 := kCmp (sa.mul sc) (sb.mul sc) (by omega) (Q.mul_low la lc) (Q.mul_low lb lc)
  have KT := gRText c (sc.mono (by omega))
  have hc6 : c.1 ≠ 0 → Q.cmp (Q.mul a c) (Q.mul b c) = Q.cmp a b := fun h => Q.cmp_mul la lb lc (by omega)
  rw [Q.cmp_add la lb lc] at C5
  rw [Q.cmp_neg a b] at C3
  have htr := Q.cmp_trans (a := a) (b := b) (c := c) lb
  have hr := Q.cmp_range b c
  have hge := Q.cmp_ge (p := a) (q := b)
  have heq := Q.cmp_eq la lb
  rcases Q.cmp_range a b with hn | hn | hn
  · -- less
    rw [hn] at C1 C3 C5 hc6 htr hge heq
    have hne : a ≠ b := fun e => by have := heq.2 e; omega
    have hlt : a.1 * b.2 < b.1 * a.2 := by
      rcases Nat.lt_or_ge (a.1 * b.2) (b.1 * a.2) with h | h
      · exact h
      · have := hge.2 h; omega
    have E1 := gEqualN a b (sa.mono (by omega)) (sb.mono (by omega)) la lb hne
    have KS := kSubL sa sb (by omega) la lb hlt
    rcases hr with hm | hm | hm
    · rw [hm] at C2 htr
      by_cases h0 : c.1 = 0
      · exact w_order_l_le_z Na Da Nb Db Nc Dc _ (-1) _ (by omega) (htr (by omega) (by omega)) (rtext_is0 lc h0) _ _ _ _ _ _ _ _ _ _ _ _ (nb 0) (nb 0) (nb 0) (nb 0) KA KB KC C1 C2 C3 E1 KS K1 C4 K2 C5 KT gWorks2
      · rw [hc6 h0] at C6
        exact w_order_l_le_n Na Da Nb Db Nc Dc _ (-1) _ (by omega) (htr (by omega) (by omega)) (rtext_not0 lc h0) _ _ _ _ _ _ _ _ _ _ _ _ _ _ _ _ KA KB KC C1 C2 C3 E1 KS K1 C4 K2 C5 KT gWorks2 K3 K4 C6
    · rw [hm] at C2 htr
      by_cases h0 : c.1 = 0
      · exact w_order_l_le_z Na Da Nb Db Nc Dc _ 0 _ (by omega) (htr (by omega) (by omega)) (rtext_is0 lc h0) _ _ _ _ _ _ _ _ _ _ _ _ (nb 0) (nb 0) (nb 0) (nb 0) KA KB KC C1 C2 C3 E1 KS K1 C4 K2 C5 KT gWorks2
      · rw [hc6 h0] at C6
        exact w_order_l_le_n Na Da Nb Db Nc Dc _ 0 _ (by omega) (htr (by omega) (by omega)) (rtext_not0 lc h0) _ _ _ _ _ _ _ _ _ _ _ _ _ _ _ _ KA KB KC C1 C2 C3 E1 KS K1 C4 K2 C5 KT gWorks2 K3 K4 C6
    · rw [hm] at C2
      by_cases h0 : c.1 = 0
      · exact w_order_l_gt_z Na Da Nb Db Nc Dc _ 0 0 (rtext_is0 lc h0) _ _ _ _ _ _ _ _ _ _ _ _ (nb 0) (nb 0) (nb 0) (nb 0) KA KB KC C1 C2 C3 E1 KS K1 K2 C5 KT gWorks2
      · rw [hc6 h0] at C6
        exact w_order_l_gt_n Na Da Nb Db Nc Dc _ 0 0 (rtext_not0 lc h0) _ _ _ _ _ _ _ _ _ _ _ _ _ _ _ _ KA KB KC C1 C2 C3 E1 KS K1 K2 C5 KT gWorks2 K3 K4 C6
  · -- equal
    rw [hn] at C1 C3 C5 hc6 htr hge heq
    obtain rfl : a = b := heq.1 rfl
    have E1 := gEqual a (sa.mono (by omega))
    have KS := kSub sa sa (by omega) la la (hge.1 (by omega))
    rcases hr with hm | hm | hm
    · rw [hm] at C2 C4 htr
      have hk := htr (by omega) (by omega)
      by_cases h0 : c.1 = 0
      · exact w_order_e_le_z Na Da Nb Db Nc Dc _ (-1) _ (by omega) hk (rtext_is0 lc h0) _ _ (nb 0) (nb 0) _ _ _ _ _ _ (nb 0) (nb 0) (nb 0) (nb 0) (nb 0) (nb 0) KA KB KC C1 C2 C3 E1 KS K1 C4 C5 KT gWorks2
      · rw [hc6 h0] at C6
        exact w_order_e_le_n Na Da Nb Db Nc Dc _ (-1) _ (by omega) hk (rtext_not0 lc h0) _ _ (nb 0) (nb 0) _ _ _ _ _ _ (nb 0) (nb 0) _ _ (nb 0) (nb 0) KA KB KC C1 C2 C3 E1 KS K1 C4 C5 KT gWorks2 K3 C6
    · rw [hm] at C2 C4 htr
      have hk := htr (by omega) (by omega)
      by_cases h0 : c.1 = 0
      · exact w_order_e_le_z Na Da Nb Db Nc Dc _ 0 _ (by omega) hk (rtext_is0 lc h0) _ _ (nb 0) (nb 0) _ _ _ _ _ _ (nb 0) (nb 0) (nb 0) (nb 0) (nb 0) (nb 0) KA KB KC C1 C2 C3 E1 KS K1 C4 C5 KT gWorks2
      · rw [hc6 h0] at C6
        exact w_order_e_le_n Na Da Nb Db Nc Dc _ 0 _ (by omega) hk (rtext_not0 lc h0) _ _ (nb 0) (nb 0) _ _ _ _ _ _ (nb 0) (nb 0) _ _ (nb 0) (nb 0) KA KB KC C1 C2 C3 E1 KS K1 C4 C5 KT gWorks2 K3 C6
    · rw [hm] at C2
      by_cases h0 : c.1 = 0
      · exact w_order_e_gt_z Na Da Nb Db Nc Dc _ 0 0 (rtext_is0 lc h0) _ _ (nb 0) (nb 0) _ _ _ _ _ _ (nb 0) (nb 0) (nb 0) (nb 0) (nb 0) (nb 0) KA KB KC C1 C2 C3 E1 KS K1 C5 KT gWorks2
      · rw [hc6 h0] at C6
        exact w_order_e_gt_n Na Da Nb Db Nc Dc _ 0 0 (rtext_not0 lc h0) _ _ (nb 0) (nb 0) _ _ _ _ _ _ (nb 0) (nb 0) _ _ (nb 0) (nb 0) KA KB KC C1 C2 C3 E1 KS K1 C5 KT gWorks2 K3 C6
  · -- greater
    rw [hn] at C1 C3 C5 hc6 htr hge heq
    have hne : a ≠ b := fun e => by have := heq.2 e; omega
    have E1 := gEqualN a b (sa.mono (by omega)) (sb.mono (by omega)) la lb hne
    have KS := kSub sa sb (by omega) la lb (hge.1 (by omega))
    by_cases h0 : c.1 = 0
    · exact w_order_g_any_z Na Da Nb Db Nc Dc _ _ 0 (rtext_is0 lc h0) _ _ _ _ _ _ _ _ _ _ _ _ (nb 0) (nb 0) (nb 0) (nb 0) KA KB KC C1 C2 C3 E1 KS K1 K2 C5 KT gWorks2
    · rw [hc6 h0] at C6
      exact w_order_g_any_n Na Da Nb Db Nc Dc _ _ 0 (rtext_not0 lc h0) _ _ _ _ _ _ _ _ _ _ _ _ _ _ _ _ KA KB KC C1 C2 C3 E1 KS K1 K2 C5 KT gWorks2 K3 K4 C6

end Go.Proofs.Ytlomlcljjidfjaa
