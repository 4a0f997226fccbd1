/- The numbers of the reference of chapter 02. -/
import Derived.Test.YtlomlcljjidfjaaXVal
import Derived.Test.YtlomlcljjidfjaaRefB
import Derived.Test.YtlomlcljjidfjaaZFns
namespace Go.Proofs.Ytlomlcljjidfjaa
open Go.RowKit Num

/-- A number of the reference. -/
def xratV (p : Nat × Nat) : Value := .agg #[.string (dec p.1), .string (dec p.2)]

theorem dec_nl (n k : Nat) (hk : 0 < k) (h : nl n ≤ k) : (dec n).size ≤ 3 * k := dec_small_of n k hk h
theorem dec1 : dec 1 = { data := #[49] } := by kernel_rfl
theorem dec1_list : (dec 1).toList = [49] := by
  unfold dec
  rw [toList_mkStr]; rfl
theorem dec_not1 {b : Nat} (h : b ≠ 1) : ((dec b).toList == [49]) = false := by
  rw [beq_eq_false_iff_ne]
  intro e
  exact toList_ne (fun e2 => h (dec_inj e2)) (e.trans dec1_list.symm)

theorem gXZero : Gives 35 #[] (xratV (0, 1)) := by
  have := w_xzero
  rw [← dec_zero48, ← dec1] at this
  exact this

theorem gXNew (n d : Nat) (hn : nl n ≤ 1000000) (hd : nl d ≤ 1000000) (h0 : 0 < d) : Gives 21 #[.string (dec n), .string (dec d)] (.tuple #[xratV (Q.red n d), .bool true]) := by
  have hg : 0 < Nat.gcd n d := Nat.gcd_pos_of_pos_right n h0
  have sn := dec_nl n 1000000 (by omega) hn
  have sd := dec_nl d 1000000 (by omega) hd
  have sg := Nat.le_trans (dec_size_mono (Nat.gcd_le_right n h0)) sd
  exact w_xnew_n _ _ _ _ _ _ _ (dec_toList_ne (by omega)) (gXGcd n d (by omega) (by omega)) (gXDiv n (Nat.gcd n d) (by omega) (by omega) hg) (gXDiv d (Nat.gcd n d) (by omega) (by omega) hg)
theorem gXNewZ (n : Nat) : Gives 21 #[.string (dec n), .string (dec 0)] (.tuple #[xratV (0, 1), .bool false]) := by
  have := w_xnew_z (dec n) (dec 0) dec0_list (by have := gXZero; unfold xratV at this; rw [dec1, dec_zero48] at this; exact this)
  rw [← dec_zero48, ← dec1] at this
  exact this

theorem gXText (p : Nat × Nat) (hp : Sm 1000000 p) (h0 : 0 < p.2) : Gives 54 #[xratV p] (.string (rtext p)) := by
  obtain ⟨n, d⟩ := p
  obtain ⟨h1, h2⟩ := hp
  unfold rtext
  simp only at *
  rw [dn_of h0]
  by_cases h : d = 1
  · rw [if_pos h]
    subst h
    exact w_xtext1 _ _ dec1_list
  · rw [if_neg h]
    exact w_xtext2 _ _ (dec_not1 h) (dec_small n h1) (dec_small d h2)

theorem sm_dec {p : Nat × Nat} (h : Sm 10000 p) : (dec p.1).size ≤ 30000 ∧ (dec p.2).size ≤ 30000 := ⟨dec_nl _ 10000 (by omega) h.1, dec_nl _ 10000 (by omega) h.2⟩

section
variable (p q : Nat × Nat) (hp : Sm 10000 p) (hq : Sm 10000 q) (lp : Q.Low p) (lq : Q.Low q)
include hp hq

theorem gOver : Gives 59 #[xratV p, xratV q] (.tuple #[.string (dec (p.1 * q.2)), .string (dec (q.1 * p.2)), .string (dec (p.2 * q.2))]) := by
  obtain ⟨h1, h2⟩ := sm_dec hp
  obtain ⟨h3, h4⟩ := sm_dec hq
  exact w_over _ _ _ _ _ _ _ (gXMul _ _ (by omega) (by omega)) (gXMul _ _ (by omega) (by omega)) (gXMul _ _ (by omega) (by omega))

theorem gXCmp2 : Gives 34 #[xratV p, xratV q] (.int .i64 (Q.cmp p q)) := w_xcmp _ _ _ _ _ _ _ _ (gOver p q hp hq) (gXCmp _ _)

include lp lq
theorem gXAdd2 : Gives 33 #[xratV p, xratV q] (xratV (Q.add p q)) := by
  obtain ⟨h1, h2⟩ := hp
  obtain ⟨h3, h4⟩ := hq
  have e1 := nl_mul p.1 q.2
  have e2 := nl_mul q.1 p.2
  have e3 := nl_mul p.2 q.2
  have e4 := nl_add (p.1 * q.2) (q.1 * p.2)
  have s1 := dec_nl (p.1 * q.2) 20000 (by omega) (by omega)
  have s2 := dec_nl (q.1 * p.2) 20000 (by omega) (by omega)
  exact w_xadd _ _ _ _ _ _ _ _ _ _ true (gOver p q ⟨h1, h2⟩ ⟨h3, h4⟩) (gXAdd _ _ (by omega) (by omega)) (gXNew _ _ (by omega) (by omega) (Nat.mul_pos lp.1 lq.1))

theorem gXSub2 (h : q.1 * p.2 ≤ p.1 * q.2) : Gives 32 #[xratV p, xratV q] (.tuple #[xratV (Q.sub p q), .bool true]) := by
  obtain ⟨h1, h2⟩ := hp
  obtain ⟨h3, h4⟩ := hq
  have e1 := nl_mul p.1 q.2
  have e2 := nl_mul q.1 p.2
  have e3 := nl_mul p.2 q.2
  have e4 := nl_mono (Nat.sub_le (p.1 * q.2) (q.1 * p.2))
  have s1 := dec_nl (p.1 * q.2) 20000 (by omega) (by omega)
  have s2 := dec_nl (q.1 * p.2) 20000 (by omega) (by omega)
  exact w_xsub_y _ _ _ _ _ _ _ _ _ _ true (gOver p q ⟨h1, h2⟩ ⟨h3, h4⟩) (gXSub _ _ (by omega) (by omega) h) (gXNew _ _ (by omega) (by omega) (Nat.mul_pos lp.1 lq.1))

omit lp lq in
theorem gXSubL2 (h : p.1 * q.2 < q.1 * p.2) : Gives 32 #[xratV p, xratV q] (.tuple #[xratV (0, 1), .bool false]) := by
  have := w_xsub_n (dec p.1) (dec p.2) (dec q.1) (dec q.2) _ _ _ _ (gOver p q hp hq) (gXSubL _ _ h) (by have := gXZero; unfold xratV at this; rw [dec1, dec_zero48] at this; exact this)
  rw [← dec_zero48, ← dec1] at this
  exact this

theorem gXMul2 : Gives 28 #[xratV p, xratV q] (xratV (Q.mul p q)) := by
  obtain ⟨h1, h2⟩ := hp
  obtain ⟨h3, h4⟩ := hq
  have e1 := nl_mul p.1 q.1
  have e3 := nl_mul p.2 q.2
  have s1 := dec_nl p.1 10000 (by omega) h1
  have s2 := dec_nl p.2 10000 (by omega) h2
  have s3 := dec_nl q.1 10000 (by omega) h3
  have s4 := dec_nl q.2 10000 (by omega) h4
  exact w_xmul _ _ _ _ _ _ _ _ true (gXMul _ _ (by omega) (by omega)) (gXMul _ _ (by omega) (by omega)) (gXNew _ _ (by omega) (by omega) (Nat.mul_pos lp.1 lq.1))

omit lq in
theorem gXDiv2 (h : 0 < q.1) : Gives 26 #[xratV p, xratV q] (.tuple #[xratV (Q.div p q), .bool true]) := by
  obtain ⟨h1, h2⟩ := hp
  obtain ⟨h3, h4⟩ := hq
  have e1 := nl_mul p.1 q.2
  have e3 := nl_mul p.2 q.1
  have s1 := dec_nl p.1 10000 (by omega) h1
  have s2 := dec_nl p.2 10000 (by omega) h2
  have s3 := dec_nl q.1 10000 (by omega) h3
  have s4 := dec_nl q.2 10000 (by omega) h4
  exact w_xdiv_n _ _ _ _ _ _ _ _ true (dec_toList_ne (by omega)) (gXMul _ _ (by omega) (by omega)) (gXMul _ _ (by omega) (by omega)) (gXNew _ _ (by omega) (by omega) (Nat.mul_pos lp.1 h))

omit hp hq lp lq in
theorem gXDivZ2 (h : q.1 = 0) : Gives 26 #[xratV p, xratV q] (.tuple #[xratV (0, 1), .bool false]) := by
  have := w_xdiv_z (dec p.1) (dec p.2) (dec q.1) (dec q.2) (by rw [h]; exact dec0_list) (by have := gXZero; unfold xratV at this; rw [dec1, dec_zero48] at this; exact this)
  rw [← dec_zero48, ← dec1] at this
  exact this
end

theorem gVRef (N D : ByteArray) (hN : N.size ≤ 9223372036854775807) (hD : D.size ≤ 9223372036854775807) : Gives 27 #[.agg #[.string N, .string D]] (xratV (vq N D)) := by
  have bN := dval_nl N
  have bD := dval_nl D
  have KN := gDigits N hN
  have KD := gDigits D hD
  rw [digS_dec] at KN KD
  unfold vq
  by_cases h : dval D = 0
  · rw [h] at KD ⊢
    have KX := gXNew (dval N) 1 (by omega) (by decide) (by decide)
    rw [dec1] at KX
    exact w_vref_z N D _ _ _ _ true dec0_list KD KN KX
  · have e : dn (dval D) = dval D := dn_of (by omega)
    rw [e]
    exact w_vref_n N D _ _ _ _ true (dec_toList_ne h) KD KN (gXNew (dval N) (dval D) (by omega) (by omega) (by omega))

/-- A number of the program is that of the reference. -/
theorem gSame (r : Nat × Nat) (hr : Sm 100000 r) : Gives 24 #[ratV r, xratV (nz r)] (.bool true) := by
  obtain ⟨h1, h2⟩ := hr
  have hz := nl_dn r.2
  have e : rtext (nz r) = rtext r := by
    unfold rtext nz
    simp only
    rw [dn_of (dn_pos r.2)]
    by_cases h : r.2 = 0
    · rw [h]; rfl
    · rw [dn_of (by omega)]
  have K2 := gXText (nz r) ⟨Nat.le_trans h1 (by omega), Nat.le_trans hz (by omega)⟩ (nz_pos r)
  rw [e] at K2
  exact w_same _ _ _ _ _ _ _ (gRText r ⟨by omega, by omega⟩) K2 (gRNum r) (gText r.1 (by omega)) (gRDen r (by omega)) (gText (dn r.2) (by omega))
theorem gSameL (r : Nat × Nat) (hr : Sm 100000 r) (hl : Q.Low r) : Gives 24 #[ratV r, xratV r] (.bool true) := by
  have := gSame r hr
  rwa [nz_low hl] at this
theorem gSame0 : Gives 24 #[ratV (0, 0), xratV (0, 1)] (.bool true) := gSame (0, 0) ⟨by decide, by decide⟩

end Go.Proofs.Ytlomlcljjidfjaa
