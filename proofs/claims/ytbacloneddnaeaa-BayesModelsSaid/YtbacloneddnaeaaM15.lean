/- Texts of this claim, joined: RGive, RPlain2, XVal, BBig, BFns, ZGive. -/
import Derived.Test.YtbacloneddnaeaaM14
import Derived.Test.YtbacloneddnaeaaM10
import Derived.Test.YtbacloneddnaeaaM13
import Derived.Test.YtbacloneddnaeaaM03

/- The contracts of package rat, in numbers. -/
namespace Go.Proofs.Ytbacloneddnaeaa
open Go.RowKit Num

def dn (d : Nat) : Nat := if d = 0 then 1 else d
theorem dn_pos (d : Nat) : 0 < dn d := by unfold dn; split <;> omega
theorem dn_of {d : Nat} (h : 0 < d) : dn d = d := if_neg (by omega)
theorem nl_one : nl 1 = 1 := by decide
theorem nl_dn (d : Nat) : nl (dn d) ≤ nl d + 1 := by
  unfold dn; split
  · have := nl_one; omega
  · omega

def ratV (p : Nat × Nat) : Value := .agg #[.string (nb p.1), .string (nb p.2)]
def nz (p : Nat × Nat) : Nat × Nat := (p.1, dn p.2)
theorem nz_low {p : Nat × Nat} (h : Q.Low p) : nz p = p := by unfold nz; rw [dn_of h.1]
theorem nz_pos (p : Nat × Nat) : 0 < (nz p).2 := dn_pos _

def Sm (k : Nat) (p : Nat × Nat) : Prop := nl p.1 ≤ k ∧ nl p.2 ≤ k

theorem Sm.mono {k m : Nat} {p : Nat × Nat} (h : Sm k p) (hm : k ≤ m) : Sm m p := ⟨Nat.le_trans h.1 hm, Nat.le_trans h.2 hm⟩
theorem Sm.red {k n d : Nat} (hn : nl n ≤ k) (hd : nl d ≤ k) : Sm k (Q.red n d) := ⟨Nat.le_trans (nl_mono (Nat.div_le_self _ _)) hn, Nat.le_trans (nl_mono (Nat.div_le_self _ _)) hd⟩
theorem Sm.nz {k : Nat} {p : Nat × Nat} (h : Sm k p) : Sm (k + 1) (nz p) := ⟨Nat.le_trans h.1 (by omega), Nat.le_trans (nl_dn _) (by have := h.2; omega)⟩
theorem Sm.add {k : Nat} {p q : Nat × Nat} (hp : Sm k p) (hq : Sm k q) : Sm (2 * k + 1) (Q.add p q) := by
  obtain ⟨h1, h2⟩ := hp
  obtain ⟨h3, h4⟩ := hq
  have e1 := nl_mul p.1 q.2
  have e2 := nl_mul q.1 p.2
  have e3 := nl_mul p.2 q.2
  have e4 := nl_add (p.1 * q.2) (q.1 * p.2)
  exact Sm.red (by omega) (by omega)
theorem Sm.mul {k : Nat} {p q : Nat × Nat} (hp : Sm k p) (hq : Sm k q) : Sm (2 * k + 1) (Q.mul p q) := by
  obtain ⟨h1, h2⟩ := hp
  obtain ⟨h3, h4⟩ := hq
  have e1 := nl_mul p.1 q.1
  have e3 := nl_mul p.2 q.2
  exact Sm.red (by omega) (by omega)
theorem Sm.div {k : Nat} {p q : Nat × Nat} (hp : Sm k p) (hq : Sm k q) : Sm (2 * k + 1) (Q.div p q) := by
  obtain ⟨h1, h2⟩ := hp
  obtain ⟨h3, h4⟩ := hq
  have e1 := nl_mul p.1 q.2
  have e3 := nl_mul p.2 q.1
  exact Sm.red (by omega) (by omega)

theorem nb_z : nb 0 = { data := #[] } := rfl

theorem gRZeroY : Gives 79 #[natV 0] (.bool true) := w_zero_yes _ (gCmp 0 0 (by decide) (by decide))
theorem gRZeroN (a : Nat) (ha : nl a ≤ 1000000) (h : 0 < a) : Gives 79 #[natV a] (.bool false) := by
  have := gCmp a 0 (by omega) (by decide)
  rw [cmpI_gt h] at this
  exact w_zero_no _ 1 rfl this

theorem gRNew (n d : Nat) (hn : nl n ≤ 1000000) (hd : nl d ≤ 1000000) (h0 : 0 < d) : Gives 60 #[natV n, natV d] (.tuple #[ratV (Q.red n d), .bool true]) := by
  have hg : 0 < Nat.gcd n d := Nat.gcd_pos_of_pos_right n h0
  have bg := nl_mono (Nat.gcd_le_right n h0)
  exact w_new_yes _ _ _ _ _ _ _ (gRZeroN d hd h0) (gGcd n d (by omega) (by omega)) (gDiv n (Nat.gcd n d) (by omega) (by omega) (by omega)) (gDiv d (Nat.gcd n d) (by omega) (by omega) (by omega))
theorem gRNewZ (n : Nat) : Gives 60 #[natV n, natV 0] (.tuple #[ratV (0, 0), .bool false]) := w_new_no _ _ gRZeroY

theorem gRDen (p : Nat × Nat) (hp : nl p.2 ≤ 1000000) : Gives 42 #[ratV p] (natV (dn p.2)) := by
  obtain ⟨n, d⟩ := p
  rcases Nat.eq_zero_or_pos d with h | h
  · subst h
    exact w_den_z _ _ _ gRZeroY (gOf 1 (by decide))
  · rw [dn_of h]
    exact w_den _ _ (gRZeroN d hp h)

theorem gROf (m n : Nat) (hm : m < 18446744073709551616) (hn : n < 18446744073709551616) (h0 : 0 < n) : Gives 25 #[.int .u64 (m : Nat), .int .u64 (n : Nat)] (.tuple #[ratV (Q.red m n), .bool true]) :=
  w_of _ _ _ _ _ _ _ (gOf m hm) (gOf n hn) (gRNew m n (Nat.le_trans (nl_u64 hm) (by omega)) (Nat.le_trans (nl_u64 hn) (by omega)) h0)
def rtext (p : Nat × Nat) : ByteArray := if dn p.2 = 1 then dec p.1 else dec p.1 ++ { data := #[47] } ++ dec p.2

theorem dec_small_of (a m : Nat) (hm : 0 < m) (ha : nl a ≤ m) : (dec a).size ≤ 3 * m := by
  rw [dec_size]
  refine decL_length_le a (3 * m) (by omega) ?_
  refine Nat.lt_of_lt_of_le (lt_pow_nl a) ?_
  refine Nat.le_trans (Nat.pow_le_pow_right (by omega) ha) ?_
  rw [Nat.pow_mul]
  exact Nat.pow_le_pow_left (by omega) _
theorem dec_small (a : Nat) (ha : nl a ≤ 1000000) : (dec a).size ≤ 100000000000 := Nat.le_trans (dec_small_of a 1000000 (by omega) ha) (by omega)

theorem gRText (p : Nat × Nat) (hp : Sm 1000000 p) : Gives 16 #[ratV p] (.string (rtext p)) := by
  obtain ⟨n, d⟩ := p
  obtain ⟨h1, h2⟩ := hp
  have b := nl_dn d
  simp only at h1 h2
  have KC := gCmp (dn d) 1 (by omega) (by decide)
  unfold rtext
  by_cases h : dn d = 1
  · rw [if_pos h]
    rw [h, cmpI_eq] at KC
    have KD := gRDen (n, d) h2
    simp only [h] at KD
    exact w_text1 _ _ _ _ _ KD (gOf 1 (by decide)) KC (gText n (by omega))
  · rw [if_neg h]
    have : 1 < dn d := by have := dn_pos d; omega
    rw [cmpI_gt this] at KC
    exact w_text2 _ _ _ _ _ _ 1 rfl (dec_small n h1) (dec_small d h2) (gRDen (n, d) h2) (gOf 1 (by decide)) KC (gText n (by omega)) (gText d (by omega))

section
variable (p q : Nat × Nat) (hp : Sm 10000 p) (hq : Sm 10000 q)
include hp hq

theorem gRAdd : Gives 30 #[ratV p, ratV q] (ratV (Q.add (nz p) (nz q))) := by
  obtain ⟨h1, h2⟩ := hp.nz
  obtain ⟨h3, h4⟩ := hq.nz
  have e1 := nl_mul (nz p).1 (nz q).2
  have e2 := nl_mul (nz q).1 (nz p).2
  have e3 := nl_mul (nz p).2 (nz q).2
  have e4 := nl_add ((nz p).1 * (nz q).2) ((nz q).1 * (nz p).2)
  exact w_add _ _ _ _ _ _ (w_join_add _ _ _ _ _ _ _ _ _ _ _ _ (gRDen q (by have := hq.2; omega)) (gRDen p (by have := hp.2; omega)) (gMul (nz p).1 (nz q).2 (by omega) (by omega)) (gMul (nz q).1 (nz p).2 (by omega) (by omega))
    (w_add1 _ _ _ (gAdd _ _ (by omega) (by omega))) (gMul (nz p).2 (nz q).2 (by omega) (by omega)) (gRNew _ _ (by omega) (by omega) (Nat.mul_pos (nz_pos p) (nz_pos q))))

theorem gRMul : Gives 26 #[ratV p, ratV q] (ratV (Q.mul (nz p) (nz q))) := by
  obtain ⟨h1, h2⟩ := hp.nz
  obtain ⟨h3, h4⟩ := hq.nz
  have e1 := nl_mul (nz p).1 (nz q).1
  have e3 := nl_mul (nz p).2 (nz q).2
  exact w_mul _ _ _ _ _ _ _ _ _ _ (gRDen q (by have := hq.2; omega)) (gRDen p (by have := hp.2; omega)) (gMul (nz p).1 (nz q).1 (by omega) (by omega)) (gMul (nz p).2 (nz q).2 (by omega) (by omega))
    (gRNew _ _ (by omega) (by omega) (Nat.mul_pos (nz_pos p) (nz_pos q)))

theorem gRCmp : Gives 27 #[ratV p, ratV q] (.int .i64 (Q.cmp (nz p) (nz q))) := by
  obtain ⟨h1, h2⟩ := hp.nz
  obtain ⟨h3, h4⟩ := hq.nz
  have e1 := nl_mul (nz p).1 (nz q).2
  have e2 := nl_mul (nz q).1 (nz p).2
  exact w_cmp _ _ _ _ _ fun g x v0 hx => w_join_cmp g _ _ _ _ _ _ _ _ _ (gRDen q (by have := hq.2; omega)) (gRDen p (by have := hp.2; omega)) (gMul (nz p).1 (nz q).2 (by omega) (by omega)) (gMul (nz q).1 (nz p).2 (by omega) (by omega))
    (fun x v0 hx => w_cmp1 g _ _ _ (gCmp _ _ (by omega) (by omega)) x v0 hx) x v0 hx
end

end Go.Proofs.Ytbacloneddnaeaa

/- Rational numbers as pairs in lowest terms: differences, quotients, the order; texts. -/
namespace Go.Proofs.Ytbacloneddnaeaa
open Num

namespace Q

end Q

theorem toList_ne {a b : ByteArray} (h : a ≠ b) : ¬ a.toList = b.toList := fun e => h (by
  rw [ByteArray.toList_eq, ByteArray.toList_eq] at e
  cases a; cases b
  simpa using Array.toList_inj.1 e)

end Go.Proofs.Ytbacloneddnaeaa

/- Values of the laws of chapter 02, and the program's numbers. -/
namespace Go.Proofs.Ytbacloneddnaeaa
open Go.RowKit Num

section
variable {p q : Nat × Nat} {k : Nat} (hp : Sm k p) (hq : Sm k q) (hk : k ≤ 10000) (lp : Q.Low p) (lq : Q.Low q)
include hp hq hk lp lq

end

end Go.Proofs.Ytbacloneddnaeaa

/- The contracts of package rat, for greater numbers. -/
namespace Go.Proofs.Ytbacloneddnaeaa
open Go.RowKit Num

section
variable (p q : Nat × Nat) (hp : Sm 200000 p) (hq : Sm 200000 q)
include hp hq

theorem gRAddB : Gives 30 #[ratV p, ratV q] (ratV (Q.add (nz p) (nz q))) := by
  obtain ⟨h1, h2⟩ := hp.nz
  obtain ⟨h3, h4⟩ := hq.nz
  have e1 := nl_mul (nz p).1 (nz q).2
  have e2 := nl_mul (nz q).1 (nz p).2
  have e3 := nl_mul (nz p).2 (nz q).2
  have e4 := nl_add ((nz p).1 * (nz q).2) ((nz q).1 * (nz p).2)
  exact w_add _ _ _ _ _ _ (w_join_add _ _ _ _ _ _ _ _ _ _ _ _ (gRDen q (by have := hq.2; omega)) (gRDen p (by have := hp.2; omega)) (gMul (nz p).1 (nz q).2 (by omega) (by omega)) (gMul (nz q).1 (nz p).2 (by omega) (by omega))
    (w_add1 _ _ _ (gAdd _ _ (by omega) (by omega))) (gMul (nz p).2 (nz q).2 (by omega) (by omega)) (gRNew _ _ (by omega) (by omega) (Nat.mul_pos (nz_pos p) (nz_pos q))))

theorem gRMulB : Gives 26 #[ratV p, ratV q] (ratV (Q.mul (nz p) (nz q))) := by
  obtain ⟨h1, h2⟩ := hp.nz
  obtain ⟨h3, h4⟩ := hq.nz
  have e1 := nl_mul (nz p).1 (nz q).1
  have e3 := nl_mul (nz p).2 (nz q).2
  exact w_mul _ _ _ _ _ _ _ _ _ _ (gRDen q (by have := hq.2; omega)) (gRDen p (by have := hp.2; omega)) (gMul (nz p).1 (nz q).1 (by omega) (by omega)) (gMul (nz p).2 (nz q).2 (by omega) (by omega))
    (gRNew _ _ (by omega) (by omega) (Nat.mul_pos (nz_pos p) (nz_pos q)))

theorem gRDivB (h : 0 < q.1) : Gives 64 #[ratV p, ratV q] (.tuple #[ratV (Q.div (nz p) (nz q)), .bool true]) := by
  obtain ⟨h1, h2⟩ := hp.nz
  obtain ⟨h3, h4⟩ := hq.nz
  have e1 := nl_mul (nz p).1 (nz q).2
  have e3 := nl_mul (nz p).2 (nz q).1
  exact w_div _ _ _ _ _ _ _ _ _ _ _ (gRDen q (by have := hq.2; omega)) (gRDen p (by have := hp.2; omega)) (gMul (nz p).1 (nz q).2 (by omega) (by omega)) (gMul (nz p).2 (nz q).1 (by omega) (by omega))
    (gRNew _ _ (by omega) (by omega) (Nat.mul_pos (nz_pos p) h))

theorem gRDivZB (h : q.1 = 0) : Gives 64 #[ratV p, ratV q] (.tuple #[ratV (0, 0), .bool false]) := by
  obtain ⟨c, d⟩ := q
  simp only at h
  subst h
  obtain ⟨h1, h2⟩ := hp.nz
  obtain ⟨h3, h4⟩ := hq.nz
  have e1 := nl_mul (nz p).1 (dn d)
  have e2 : nl (dn d) ≤ 200001 := h4
  have KD : Gives 42 #[ratV (0, d)] (natV (dn d)) := gRDen (0, d) (by have := hq.2; simp only at this ⊢; omega)
  have KD2 : Gives 42 #[ratV p] (natV (nz p).2) := gRDen p (by have := hp.2; omega)
  have KM : Gives 61 #[natV (nz p).2, natV 0] (natV 0) := by
    have := gMul (nz p).2 0 (by omega) (by decide)
    rwa [Nat.mul_zero] at this
  have KM1 : Gives 61 #[natV (nz p).1, natV (dn d)] (natV ((nz p).1 * dn d)) := gMul (nz p).1 (dn d) (by omega) (by omega)
  exact w_div _ _ _ _ _ _ _ _ _ _ _ KD KD2 KM1 KM (gRNewZ _)

theorem gRCmpB : Gives 27 #[ratV p, ratV q] (.int .i64 (Q.cmp (nz p) (nz q))) := by
  obtain ⟨h1, h2⟩ := hp.nz
  obtain ⟨h3, h4⟩ := hq.nz
  have e1 := nl_mul (nz p).1 (nz q).2
  have e2 := nl_mul (nz q).1 (nz p).2
  exact w_cmp _ _ _ _ _ fun g x v0 hx => w_join_cmp g _ _ _ _ _ _ _ _ _ (gRDen q (by have := hq.2; omega)) (gRDen p (by have := hp.2; omega)) (gMul (nz p).1 (nz q).2 (by omega) (by omega)) (gMul (nz q).1 (nz p).2 (by omega) (by omega))
    (fun x v0 hx => w_cmp1 g _ _ _ (gCmp _ _ (by omega) (by omega)) x v0 hx) x v0 hx
end

end Go.Proofs.Ytbacloneddnaeaa

/- Small functions of chapter 40. -/
namespace Go.Proofs.Ytbacloneddnaeaa
open Go.RowKit Num

set_option maxHeartbeats 1600000 in
set_option maxRecDepth 100000 in
theorem w_bone (a1 a2 : ByteArray) (ok : Bool) (KO : Gives 25 #[.int .u64 1, .int .u64 1] (.tuple #[.agg #[.string a1, .string a2], .bool ok])) : Gives 45 #[] (.agg #[.string a1, .string a2]) := by
  intro w
  have HB0 := Lib.hid (Below.refl w.heap.size w)
  go_enter Try.func45, Try.ntmps45
  go_wp2_with (with_reducible refine wpList_from 0 [3] [] B0 (has_B0 _) ?_)
  refine lex_alloc (.agg #[.string ByteArray.empty, .string ByteArray.empty]) (by rfl) (fun x => by kernel_rfl) (fun g0 q0 hn0 => ?_)
  unfold setSlot
  go_big_quiet_step (fail)
  refine wpQuiet_nil ?_
  clear hn0
  refine lex_nil ?_
  intro w1 hx hH
  have m0 := hH g0 _ (Blocks.put_same _ _ _)
  have HB1 := Lib.hid (HB0.out.trans (hx.below_of (b := w.heap.size) (by simp) HB0.out.size))
  replace q0 := Nat.le_trans HB0.out.size q0
  clear hx hH HB0
  go_wp2_with (with_reducible refine wpList_from 4 [0, 0, 0, 0, 3, 2, 0] [] B0 (has_B0 _) ?_)
  refine lex_quietE 4 (by kernel_rfl) (by rfl) ?_
  apply Exists.intro
  refine ⟨fun x hx => ?_, ?_⟩
  · have hwx := HB1.out.trans (hx.below_of (b := w.heap.size) (by simp) HB1.out.size)
    clear hx
    simp only [List.take_succ_cons, List.take_zero]
    unfold Cx
    repeat (go_big_quiet_step (first | with_reducible exact KO.at _ _))
    exact wpQuiet_nil rfl
  simp only [List.drop_succ_cons, List.drop_zero]
  refine lex_alloc (.agg #[.string ByteArray.empty, .string ByteArray.empty]) (by rfl) (fun x => by kernel_rfl) (fun g1 q1 hn1 => ?_)
  unfold setSlot
  go_big_quiet_step (fail)
  refine wpQuiet_nil ?_
  clear hn1
  have n1_0 : g1 ≠ g0 := Nat.ne_of_gt (Nat.lt_of_lt_of_le (lt_of_heap m0) q1)
  refine lex_store_all g1 _ _ _ (by rfl) (by rfl) (by rfl) (Blocks.put_same _ _ _) (by rfl) (Or.inr q1) (by kernel_rfl) (by simp [Value.oneCell']) ?_
  refine lex_quietE 1 (by kernel_rfl) (by rfl) ?_
  apply Exists.intro
  refine ⟨fun x hx => ?_, ?_⟩
  · have hwx := HB1.out.trans (hx.below_of (b := w.heap.size) (by simp) HB1.out.size)
    clear hx
    simp only [List.take_succ_cons, List.take_zero]
    unfold Cx
    repeat (go_big_quiet_step (first | with_reducible exact KO.at _ _))
    exact wpQuiet_nil rfl
  simp only [List.drop_succ_cons, List.drop_zero]
  refine lex_nil ?_
  intro w2 hx hH
  have m1 := hH g1 _ (Blocks.put_same _ _ _)
  replace m0 := hx.keep m0 (by simp)
  have HB2 := Lib.hid (HB1.out.trans (hx.below_of (b := w.heap.size) (by simp) HB1.out.size))
  replace q1 := Nat.le_trans HB1.out.size q1
  clear hx hH HB1
  go_wp2_with (with_reducible refine wpList_from 7 [0, 2] [g0] _ (has_put (has_B0 _) m0) ?_)
  refine lex_quietE 1 (by kernel_rfl) (by rfl) ?_
  apply Exists.intro
  refine ⟨fun x hx => ?_, ?_⟩
  · have hwx := HB2.out.trans (hx.below_of (b := w.heap.size) (by simp [q0]) HB2.out.size)
    have e1_0 := blk_cellp (hx.keep m1 (by simp [n1_0])) 0 rfl
    have e1_1 := blk_cellp (hx.keep m1 (by simp [n1_0])) 1 rfl
    clear hx
    simp only [List.take_succ_cons, List.take_zero]
    unfold Cx
    repeat (go_big_quiet_step (fail))
    exact wpQuiet_nil rfl
  simp only [List.drop_succ_cons, List.drop_zero]
  refine lex_store_all g0 _ _ _ (by rfl) (by rfl) (by rfl) (Blocks.put_same _ _ _) (by rfl) (Or.inl (by simp)) (by kernel_rfl) (by simp [Value.oneCell']) ?_
  refine lex_nil ?_
  intro w3 hx hH
  replace m0 := hH g0 _ (Blocks.put_same _ _ _)
  have HB3 := Lib.hid (HB2.out.trans (hx.below_of (b := w.heap.size) (by simp [q0]) HB2.out.size))
  clear hx hH HB2 m1 q1
  have c0_0 := blk_cell m0 0 rfl
  have c0_1 := blk_cell m0 1 rfl
  go_wp2_with fail
  exact bodyPost_ret (v := .agg #[.string a1, .string a2]) (by simp [results, Try.results45, go_sem, c0_0, c0_1]) rfl ⟨rfl, HB3.out⟩

end Go.Proofs.Ytbacloneddnaeaa

/- The numbers of the reference of chapter 02. -/
namespace Go.Proofs.Ytbacloneddnaeaa
open Go.RowKit Num

section
variable (p q : Nat × Nat) (hp : Sm 10000 p) (hq : Sm 10000 q) (lp : Q.Low p) (lq : Q.Low q)
include hp hq

include lp lq
end

end Go.Proofs.Ytbacloneddnaeaa
