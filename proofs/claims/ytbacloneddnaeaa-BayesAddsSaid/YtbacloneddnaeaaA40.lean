/- Texts of this claim, joined: BAddsP, BAddsL. -/
import Derived.Test.YtbacloneddnaeaaA39
import Derived.Test.YtbacloneddnaeaaA24

/- Probabilities add up: plain laws. -/
namespace Go.Proofs.Ytbacloneddnaeaa
open Num

namespace Q
theorem sumL_nil : sumL [] = (0, 1) := rfl
theorem low_map {α : Type} {f : α → Nat × Nat} {l : List α} (h : ∀ x ∈ l, Low (f x)) : AllLow (l.map f) := fun y hy => by
  obtain ⟨x, hx, rfl⟩ := List.mem_map.1 hy
  exact h x hx
theorem sumL_add {α : Type} (f g : α → Nat × Nat) : ∀ (l : List α), (∀ x ∈ l, Low (f x)) → (∀ x ∈ l, Low (g x)) → sumL (l.map fun x => add (f x) (g x)) = add (sumL (l.map f)) (sumL (l.map g))
  | [], _, _ => by simp only [List.map_nil, sumL_nil]; exact (zadd low01).symm
  | x :: l, hf, hg => by
    have h1 := hf x (by simp)
    have h2 := hg x (by simp)
    have f1 := low_map (fun y hy => hf y (List.mem_cons_of_mem x hy))
    have g1 := low_map (fun y hy => hg y (List.mem_cons_of_mem x hy))
    have s1 := sumL_low f1
    have s2 := sumL_low g1
    simp only [List.map_cons]
    rw [sumL_cons (add_low h1 h2) (low_map (fun y hy => add_low (hf y (by simp [hy])) (hg y (by simp [hy])))), sumL_cons h1 f1, sumL_cons h2 g1, sumL_add f g l (fun y hy => hf y (by simp [hy])) (fun y hy => hg y (by simp [hy]))]
    rw [add_assoc h1.1 h2.1 (add_low s1 s2).1, add_assoc h1.1 s1.1 (add_low h2 s2).1]
    congr 1
    rw [← add_assoc h2.1 s1.1 s2.1, add_comm (sumL _) (add (g x) _), add_assoc h2.1 s2.1 s1.1, add_assoc h2.1 s1.1 s2.1, add_comm (sumL (List.map g l)) (sumL (List.map f l))]
theorem sumL_swap {α β : Type} (f : α → β → Nat × Nat) (m : List β) : ∀ (l : List α), (∀ y ∈ l, ∀ x ∈ m, Low (f y x)) → sumL (l.map fun y => sumL (m.map fun x => f y x)) = sumL (m.map fun x => sumL (l.map fun y => f y x))
  | [], _ => by
    simp only [List.map_nil, sumL_nil]
    have : ∀ m : List β, sumL (m.map fun _ => ((0, 1) : Nat × Nat)) = (0, 1) := by
      intro m
      induction m with
      | nil => rfl
      | cons x m ih =>
        simp only [List.map_cons]
        rw [sumL_cons low01 (low_map (fun _ _ => low01)), ih, zadd low01]
    exact (this m).symm
  | y :: l, h => by
    have h0 : ∀ x ∈ m, Low (f y x) := h y (by simp)
    have h1 : ∀ x ∈ m, Low (sumL (l.map fun y => f y x)) := fun x hx => sumL_low (low_map (fun z hz => h z (by simp [hz]) x hx))
    have ih := sumL_swap f m l (fun z hz => h z (by simp [hz]))
    simp only [List.map_cons]
    rw [sumL_cons (sumL_low (low_map h0)) (low_map (fun z hz => sumL_low (low_map (h z (by simp [hz]))))), ih, ← sumL_add (fun x => f y x) (fun x => sumL (l.map fun y => f y x)) m h0 h1]
    congr 1
    refine List.map_congr_left fun x hx => ?_
    rw [sumL_cons (h0 x hx) (low_map (fun z hz => h z (by simp [hz]) x hx))]
end Q

theorem rowR_sum : ∀ (n : Nat) (t : List (Nat × Nat)), t.length = n → (∀ p ∈ t, Q.Low (nz p)) → Q.Low (nz (rowR t)) ∧ nz (rowR t) = Q.sumL (t.map nz)
  | 0, t, h, _ => by
    obtain rfl : t = [] := List.length_eq_zero_iff.1 h
    exact ⟨⟨by decide, by decide⟩, rfl⟩
  | n + 1, t, h, ht => by
    obtain ⟨t', q, rfl⟩ : ∃ t' q, t = t' ++ [q] := ⟨t.dropLast, t.getLast (by intro e; rw [e] at h; cases h), (List.dropLast_concat_getLast _).symm⟩
    obtain ⟨h1, h2⟩ := rowR_sum n t' (by simpa using h) (fun p hp => ht p (by simp [hp]))
    have h3 := ht q (by simp)
    rw [rowR_nz_snoc h1 h3, h2]
    have hl := Q.add_low h1 h3
    rw [h2] at hl
    refine ⟨hl, ?_⟩
    rw [List.map_append, List.map_singleton]
    unfold Q.sumL
    rw [List.foldl_append]; rfl

theorem foldl_stepQ {f g : Nat → Nat × Nat} (hf : ∀ x, Q.Low (f x)) (hg : ∀ x, Q.Low (g x)) : ∀ (xs : List Nat) (s : Nat × Nat), Q.Low s → xs.foldl (stepQ f g) s = (xs.map fun x => Q.mul (f x) (g x)).foldl Q.add s
  | [], _, _ => rfl
  | x :: xs, s, hs => by
    have e : stepQ f g s x = Q.add s (Q.mul (f x) (g x)) := by
      unfold stepQ
      by_cases h : f x = (0, 1)
      · rw [if_pos h, h, Q.zmul (hg x), Q.addz hs]
      · rw [if_neg h]
    rw [List.foldl_cons, List.map_cons, List.foldl_cons, e]
    exact foldl_stepQ hf hg xs _ (Q.add_low hs (Q.mul_low (hf x) (hg x)))

theorem fromQ_sum {l : List BV} (hg : Good l) (ev : List Int) (d : Nat) (pre : List Nat) (h : pre.length + (d + 1) = l.length) : fromQ l ev (d + 1) pre = Q.sumL ((chosen (ev.getD pre.length 0) (kAt l pre.length)).map fun x => Q.mul (pAt l pre.length (pre ++ [x])) (fromQ l ev d (pre ++ [x]))) := by
  rw [fromQ_succ]
  exact foldl_stepQ (fun x => (pAt_low hg _ _).1) (fun x => (fromQ_low hg ev d (pre ++ [x]) (by simp; omega)).1) _ _ Q.low01

/-- Evidence at an earlier place says nothing of what comes behind it. -/
theorem fromQ_set (l : List BV) (ev : List Int) (v : Nat) (u : Int) : ∀ (d : Nat) (pre : List Nat), v < pre.length → fromQ l (ev.set v u) d pre = fromQ l ev d pre
  | 0, _, _ => rfl
  | d + 1, pre, h => by
    rw [fromQ_succ, fromQ_succ]
    have e : (ev.set v u).getD pre.length 0 = ev.getD pre.length 0 := by
      rw [List.getD_eq_getElem?_getD, List.getD_eq_getElem?_getD, List.getElem?_set_ne (by omega)]
    rw [e]
    congr 1
    congr 1
    funext x
    exact fromQ_set l ev v u d (pre ++ [x]) (by simp; omega)

theorem chosen_open (k : Nat) : chosen (-1) k = List.range k := by
  unfold chosen
  exact List.filter_eq_self.2 (by simp)

/-- An open variable: the sum over its values. -/
theorem fromQ_split {l : List BV} (hg : Good l) {ev : List Int} {v : Nat} (hv : ev[v]? = some (-1)) (hvl : v < l.length) : ∀ (d : Nat) (pre : List Nat), pre.length + d = l.length → pre.length ≤ v →
    fromQ l ev d pre = Q.sumL ((List.range (kAt l v)).map fun x => fromQ l (ev.set v (x : Nat)) d pre)
  | 0, pre, h, hp => by omega
  | d + 1, pre, h, hp => by
    have hev : v < ev.length := (List.getElem?_eq_some_iff.1 hv).1
    rw [fromQ_sum hg ev d pre h]
    by_cases he : pre.length = v
    · have e1 : ev.getD pre.length 0 = -1 := by rw [he, List.getD_eq_getElem?_getD, hv]; rfl
      rw [e1, chosen_open, he]
      congr 1
      refine List.map_congr_left fun x hx => ?_
      have hxk := List.mem_range.1 hx
      rw [fromQ_sum hg _ d pre h]
      have e2 : (ev.set v (x : Nat)).getD pre.length 0 = (x : Int) := by rw [he, List.getD_eq_getElem?_getD, List.getElem?_set_self hev]; rfl
      rw [e2, chosen_one, he, if_pos hxk]
      have hl := Q.mul_low (pAt_low hg v (pre ++ [x])).1 (fromQ_low hg (ev.set v (x : Nat)) d (pre ++ [x]) (by simp; omega)).1
      simp only [List.map_cons, List.map_nil]
      rw [Q.sumL_cons hl (by intro y hy; simp at hy), Q.sumL_nil, Q.addz hl, fromQ_set l ev v _ d (pre ++ [x]) (by simp; omega)]
    · have hlt : pre.length < v := by omega
      have e3 : ∀ x : Nat, (ev.set v (x : Nat)).getD pre.length 0 = ev.getD pre.length 0 := fun x => by
        rw [List.getD_eq_getElem?_getD, List.getD_eq_getElem?_getD, List.getElem?_set_ne (by omega)]
      have hL : ∀ (y x : Nat), Q.Low (Q.mul (pAt l pre.length (pre ++ [y])) (fromQ l (ev.set v (x : Nat)) d (pre ++ [y]))) := fun y x => Q.mul_low (pAt_low hg _ _).1 (fromQ_low hg _ d (pre ++ [y]) (by simp; omega)).1
      have e4 : ∀ y : Nat, Q.mul (pAt l pre.length (pre ++ [y])) (fromQ l ev d (pre ++ [y])) = Q.sumL ((List.range (kAt l v)).map fun x => Q.mul (pAt l pre.length (pre ++ [y])) (fromQ l (ev.set v (x : Nat)) d (pre ++ [y]))) := fun y => by
        rw [fromQ_split hg hv hvl d (pre ++ [y]) (by simp; omega) (by simp; omega), Q.mul_sumL (pAt_low hg _ _).1 (Q.low_map (fun x _ => (fromQ_low hg _ d (pre ++ [y]) (by simp; omega)).1)), List.map_map]
        rfl
      rw [List.map_congr_left (fun y _ => e4 y), Q.sumL_swap (fun y x => Q.mul (pAt l pre.length (pre ++ [y])) (fromQ l (ev.set v (x : Nat)) d (pre ++ [y]))) _ _ (fun y _ x _ => hL y x)]
      congr 1
      refine List.map_congr_left fun x _ => ?_
      rw [fromQ_sum hg _ d pre h, e3 x]

/-- These are values of the first variables. -/
def PreFit (l : List BV) (pre : List Nat) : Prop := ∀ (i : Nat) (x : BV) (v : Nat), l[i]? = some x → pre[i]? = some v → (v : Int) < x.k
theorem fit_ext {l : List BV} (hg : Good l) {pre : List Nat} (h : PreFit l pre) (hl : pre.length ≤ l.length) : Fit l (pre ++ List.replicate (l.length - pre.length) 0) := by
  refine ⟨by simp; omega, hg.kb, fun i x v hx hv => ?_⟩
  rcases Nat.lt_or_ge i pre.length with hi | hi
  · rw [List.getElem?_append_left hi] at hv
    exact h i x v hx hv
  · rw [List.getElem?_append_right hi] at hv
    have := List.mem_replicate.1 (List.mem_of_getElem? hv)
    rw [this.2]
    have := hg.kb i x hx
    omega
theorem preFit_snoc {l : List BV} {pre : List Nat} (h : PreFit l pre) {x : BV} (hx : l[pre.length]? = some x) {v : Nat} (hv : (v : Int) < x.k) : PreFit l (pre ++ [v]) := fun i y u hy hu => by
  rcases get_append_one hu with hu | ⟨rfl, rfl⟩
  · exact h i y u hy hu
  · rw [hx] at hy; cases hy; exact hv

theorem pAt_snoc {l : List BV} (hg : Good l) {pre : List Nat} {X : BV} (hX : l[pre.length]? = some X) (v : Nat) : pAt l pre.length (pre ++ [v]) = nz (X.tab.getD (idxFrom l pre 0 X.ps * X.k.toNat + v) (0, 0)) := by
  unfold pAt
  rw [hX]
  have e1 : (pre ++ [v]).getD pre.length 0 = v := by rw [List.getD_eq_getElem?_getD, List.getElem?_append_right (Nat.le_refl _)]; simp
  have e2 : idxFrom l (pre ++ [v]) 0 X.ps = idxFrom l pre 0 X.ps := by
    have h1 := idxFrom_take l (pre ++ [v]) pre.length X.ps 0 (fun p hp => by have := hg.par _ X hX p hp; omega)
    rw [← h1, List.take_left' rfl]
  simp only [e1, e2]

/-- Without evidence the probability is 1. -/
theorem fromQ_open {l : List BV} (hg : Good l) (hs : ∀ (i : Nat) (x : BV), l[i]? = some x → ∀ r, r * x.k.toNat + x.k.toNat ≤ x.tab.length → nz (rowR (rowAt x r)) = (1, 1)) {ev : List Int} (hev : ∀ i, i < l.length → ev.getD i 0 = -1) :
    ∀ (d : Nat) (pre : List Nat), pre.length + d = l.length → PreFit l pre → fromQ l ev d pre = (1, 1)
  | 0, _, _, _ => rfl
  | d + 1, pre, h, hp => by
    obtain ⟨X, hX⟩ : ∃ X, l[pre.length]? = some X := ⟨_, List.getElem?_eq_getElem (by omega)⟩
    obtain ⟨hk1, hk8⟩ := hg.kb _ X hX
    obtain ⟨K, hK⟩ : ∃ K : Nat, X.k = K := ⟨X.k.toNat, by omega⟩
    have hKn : X.k.toNat = K := by omega
    have hlast := preFit_snoc hp hX (v := K - 1) (by omega)
    have hfit := fit_ext hg hlast (by simp; omega)
    have hb := hg.tab _ X _ hX hfit
    have e1 : idxFrom l (pre ++ [K - 1] ++ List.replicate (l.length - (pre ++ [K - 1]).length) 0) 0 X.ps = idxFrom l pre 0 X.ps := by
      have h1 := idxFrom_take l (pre ++ [K - 1] ++ List.replicate (l.length - (pre ++ [K - 1]).length) 0) pre.length X.ps 0 (fun p hp => by have := hg.par _ X hX p hp; omega)
      rw [← h1, List.append_assoc, List.take_left' rfl]
    have e2 : (pre ++ [K - 1] ++ List.replicate (l.length - (pre ++ [K - 1]).length) 0).getD pre.length 0 = K - 1 := by
      rw [List.getD_eq_getElem?_getD, List.append_assoc, List.getElem?_append_right (Nat.le_refl _)]; simp
    rw [e1, e2, hKn] at hb
    have hrow : (List.range K).map (fun v => pAt l pre.length (pre ++ [v])) = (rowAt X (idxFrom l pre 0 X.ps)).map nz := by
      apply List.ext_getElem?
      intro m
      unfold rowAt
      rw [List.getElem?_map, List.getElem?_map, List.getElem?_take, List.getElem?_drop, hKn]
      by_cases hm : m < K
      · rw [if_pos hm, List.getElem?_range hm]
        have hlt : idxFrom l pre 0 X.ps * K + m < X.tab.length := by omega
        rw [List.getElem?_eq_getElem hlt]
        simp only [Option.map_some]
        rw [pAt_snoc hg hX, hKn, List.getD_eq_getElem?_getD, List.getElem?_eq_getElem hlt]; rfl
      · rw [if_neg hm, List.getElem?_eq_none (by simp; omega)]; rfl
    have hlow : ∀ p ∈ rowAt X (idxFrom l pre 0 X.ps), Q.Low (nz p) := fun p hp => (hg.low _ X hX p (List.mem_of_mem_drop (List.mem_of_mem_take hp))).1
    have hsum := hs _ X hX (idxFrom l pre 0 X.ps) (by rw [hKn]; omega)
    rw [fromQ_sum hg ev d pre h, hev _ (by omega), chosen_open, kAt_of hX, hKn]
    rw [List.map_congr_left (g := fun v => pAt l pre.length (pre ++ [v])) (fun v hv => by
      have hvK := List.mem_range.1 hv
      rw [fromQ_open hg hs hev d (pre ++ [v]) (by simp; omega) (preFit_snoc hp hX (by omega))]
      exact Q.mul1 (pAt_low hg _ _).1), hrow, ← (rowR_sum _ _ rfl hlow).2, hsum]

/-- Shares of a sum add up to 1. -/
theorem div_inv (a b : Nat × Nat) : Q.div a b = Q.mul (b.2, b.1) a := by
  unfold Q.div Q.mul
  rw [Nat.mul_comm a.1, Nat.mul_comm a.2]
theorem inv_low {b : Nat × Nat} (lb : Q.Low b) (h : 0 < b.1) : Q.Low (b.2, b.1) := ⟨h, by
  have := lb.2
  rw [Nat.gcd_comm] at this
  exact this⟩
theorem inv_mul {b : Nat × Nat} (lb : Q.Low b) (h : 0 < b.1) : Q.mul (b.2, b.1) b = (1, 1) := by
  have e : Q.mul (b.2, b.1) b = Q.red (b.2 * b.1) (b.1 * b.2) := rfl
  rw [e]
  exact (Q.red_eq (Nat.mul_pos h lb.1) (by decide) (by rw [Nat.mul_one, Nat.one_mul, Nat.mul_comm])).trans (Q.red_of_low Q.low11)
theorem shares {L : List (Nat × Nat)} (h : ∀ p ∈ L, Q.Low (nz p)) {t : Nat × Nat} (ht : t = nz (rowR L)) (h0 : 0 < t.1) : Q.sumL (L.map fun p => Q.div (nz p) t) = (1, 1) := by
  obtain ⟨h1, h2⟩ := rowR_sum _ L rfl h
  rw [← ht] at h1 h2
  have e : L.map (fun p => Q.div (nz p) t) = (L.map nz).map (Q.mul (t.2, t.1)) := by
    rw [List.map_map]
    exact List.map_congr_left fun p _ => div_inv _ _
  rw [e, ← Q.mul_sumL (inv_low h1 h0) (Q.low_map h), ← h2, inv_mul h1 h0]

theorem rows_one {l : List BV} (hc : checkE l = 0) : ∀ (i : Nat) (x : BV), l[i]? = some x → ∀ r, r * x.k.toNat + x.k.toNat ≤ x.tab.length → nz (rowR (rowAt x r)) = (1, 1) := by
  unfold checkE at hc
  split at hc
  · cases hc
  · split at hc
    · rename_i hf
      intro i x hx r hr
      obtain ⟨y, r0, h1, h2, h3, _, h5, h6⟩ := hf i (List.getElem?_eq_some_iff.1 hx).1
      rw [hx] at h1
      cases h1
      refine h6 r (Nat.lt_of_not_le fun h => ?_)
      have := Nat.mul_le_mul_right x.k.toNat h
      omega
    · cases hc

theorem open_allowed (l : List BV) (hk : ∀ (i : Nat) (x : BV), l[i]? = some x → 1 ≤ x.k) : allowedB l (List.replicate l.length (-1)) (-1) = true :=
  allowedB_true ⟨by simp, fun i x v hx hv => by
    have := (List.mem_replicate.1 (List.mem_of_getElem? hv)).2
    have := hk i x hx
    omega⟩

theorem rtext11 : rtext (1, 1) = { data := #[49] } := by kernel_rfl

/-- Without evidence: the text is '1'. -/
theorem adds_open {l : List BV} (hn : NetIn l) (hc : checkE l = 0) : askE l (List.replicate l.length (-1)) (-1) = (rawQ l (List.replicate l.length (-1)) l.length [], 0) ∧ rtext (rawQ l (List.replicate l.length (-1)) l.length []) = { data := #[49] } := by
  have hg := check_ok hn hc
  have ha := open_allowed l (fun i x hx => (hg.kb i x hx).1)
  refine ⟨?_, ?_⟩
  · unfold askE
    rw [if_neg (by rw [hc]; simp), if_neg (by rw [ha]; simp)]
  · have h1 := (rawQ_spec hg (List.replicate l.length (-1)) l.length [] (by simp)).1
    have h2 := fromQ_open hg (rows_one hc) (ev := List.replicate l.length (-1)) (fun i hi => by rw [List.getD_eq_getElem?_getD, List.getElem?_replicate, if_pos hi]; rfl) l.length [] (by simp) (fun i x v _ hv => by simp at hv)
    rw [← rtext_nz, h1, h2, rtext11]

/-- An open variable: the sum over its values. -/
theorem adds_split {l : List BV} (hg : Good l) {ev : List Int} {v : Nat} (hv : ev[v]? = some (-1)) (hvl : v < l.length) : nz (rawQ l ev l.length []) = nz (rowR (partsR l ev v (kAt l v))) := by
  have hp : ∀ p ∈ partsR l ev v (kAt l v), Q.Low (nz p) := fun p hp => by
    obtain ⟨x, hx, rfl⟩ := List.mem_map.1 hp
    rw [(rawQ_spec hg _ l.length [] (by simp)).1]
    exact (fromQ_low hg _ l.length [] (by simp)).1
  rw [(rawQ_spec hg ev l.length [] (by simp)).1, (rowR_sum _ _ rfl hp).2, fromQ_split hg hv hvl l.length [] (by simp) (Nat.zero_le _)]
  congr 1
  unfold partsR
  rw [List.map_map]
  refine List.map_congr_left fun x _ => ?_
  exact (rawQ_spec hg _ l.length [] (by simp)).1.symm

theorem sm_nz {k : Nat} {p : Nat × Nat} (h : Sm k (nz p)) : Sm k p := ⟨h.1, Nat.le_trans (nl_mono (by unfold nz dn; split <;> omega)) h.2⟩

/-- A part of the shares: the same share of that part. -/
theorem share_part {P : List (Nat × Nat)} (h : ∀ p ∈ P, Q.Low (nz p)) {t : Nat × Nat} (lt : Q.Low t) (h0 : 0 < t.1) (j : Nat) : nz (rowR ((P.map fun p => Q.div (nz p) t).take j)) = Q.div (nz (rowR (P.take j))) t := by
  have h1 : ∀ p ∈ P.take j, Q.Low (nz p) := fun p hp => h p (List.mem_of_mem_take hp)
  have h2 : ∀ p ∈ (P.map fun p => Q.div (nz p) t).take j, Q.Low p := fun p hp => by
    obtain ⟨q, hq, rfl⟩ := List.mem_map.1 (List.mem_of_mem_take hp)
    exact Q.div_low (h q hq) h0
  rw [(rowR_sum _ _ rfl (fun p hp => by rw [nz_low (h2 p hp)]; exact h2 p hp)).2, (rowR_sum _ _ rfl h1).2, div_inv, Q.mul_sumL (inv_low lt h0) (Q.low_map h1)]
  congr 1
  rw [(List.map_congr_left (g := fun p => p) fun p hp => nz_low (h2 p hp)).trans (List.map_id' _), ← List.map_take, List.map_map]
  exact List.map_congr_left fun p _ => div_inv _ _

/-- What Posterior answers where Ask answers. -/
theorem post_open {l : List BV} (hn : NetIn l) (hc : checkE l = 0) (hsz : szs (ksOf l) ≤ 9000) {vs : List Int} {q : Nat × Nat} (h : askE l vs (-1) = (q, 0)) {i : Nat} (hi : i < l.length) {L : List (Nat × Nat)} {G : Int} (hp : postE l vs i = (L, G)) :
    vs.length = l.length ∧ q = rawQ l vs l.length [] ∧ (∀ d, vs[i]? = some d → -1 ≤ d) ∧
      ((G = 3 ∧ (rowR (partsR l vs i (kAt l i))).1 = 0) ∨ (G = 0 ∧ (rowR (partsR l vs i (kAt l i))).1 ≠ 0 ∧ L.length = kAt l i ∧ (∀ p ∈ L, Sm 200000 p) ∧ (∀ j, Sm 200000 (rowR (L.take j))) ∧ rtext (rowR L) = { data := #[49] })) := by
  have hg := check_ok hn hc
  unfold askE at h
  rw [if_neg (by rw [hc]; simp)] at h
  by_cases ha : allowedB l vs (-1) = false
  · rw [if_pos ha] at h
    simp at h
  rw [if_neg ha] at h
  have hA := allowedP_of ha
  obtain ⟨X, hX⟩ : ∃ X, l[i]? = some X := ⟨_, List.getElem?_eq_getElem hi⟩
  obtain ⟨hk1, hk8⟩ := hg.kb i X hX
  have hK : kAt l i ≤ 8 := by rw [kAt_of hX]; omega
  refine ⟨hA.1, (congrArg Prod.fst h).symm, fun d hd => (hA.2 i X d hX hd).1, ?_⟩
  unfold postE at hp
  rw [if_neg (by rw [hc]; simp), if_neg (by simp [ha]; omega), Int.toNat_natCast] at hp
  have hP := partsR_low hg hsz (ev := vs) i (kAt l i)
  have hT := rowR_lowE 9000 _ (partsR l vs i (kAt l i)) (partsR_length l vs i _) hP
  have hPj : ∀ j, Sm 72025 (rowR ((partsR l vs i (kAt l i)).take j)) := fun j => by
    have := (rowR_lowE 9000 _ ((partsR l vs i (kAt l i)).take j) rfl (fun p hp => hP p (List.mem_of_mem_take hp))).2
    refine this.mono ?_
    have h1 : ((partsR l vs i (kAt l i)).take j).length ≤ 8 := by rw [List.length_take, partsR_length]; omega
    have := Nat.mul_le_mul_right 9003 h1
    omega
  have hTm : Sm 72025 (rowR (partsR l vs i (kAt l i))) := by
    have := hPj (partsR l vs i (kAt l i)).length
    rwa [List.take_length] at this
  have hlen := partsR_length l vs i (kAt l i)
  generalize partsR l vs i (kAt l i) = P at *
  by_cases h0 : (rowR P).1 = 0
  · rw [if_pos h0] at hp
    exact .inl ⟨(congrArg Prod.snd hp).symm, h0⟩
  · rw [if_neg h0] at hp
    simp only [Prod.mk.injEq] at hp
    obtain ⟨rfl, rfl⟩ := hp
    have hpos : 0 < (nz (rowR P)).1 := Nat.pos_of_ne_zero h0
    refine .inr ⟨rfl, h0, by rw [List.length_map, hlen], fun p hp => ?_, fun j => ?_, ?_⟩
    · obtain ⟨q, hq, rfl⟩ := List.mem_map.1 hp
      exact (((hP q hq).2.nz.mono (by omega)).div hTm.nz).mono (by omega)
    · refine sm_nz ?_
      rw [share_part (fun p hp => (hP p hp).1) hT.1 hpos j]
      exact ((hPj j).nz.div hTm.nz).mono (by omega)
    · rw [← rtext_nz]
      have := share_part (fun p hp => (hP p hp).1) hT.1 hpos P.length
      rw [List.take_length, List.take_of_length_le (by simp)] at this
      rw [this, div_inv, inv_mul hT.1 hpos, rtext11]

/-- Ask at another value of a variable. -/
theorem ask_set {l : List BV} (hc : checkE l = 0) {vs : List Int} {q : Nat × Nat} (h : askE l vs (-1) = (q, 0)) {i j : Nat} (hj : j < kAt l i) : askE l (vs.set i (j : Nat)) (-1) = (rawQ l (vs.set i (j : Nat)) l.length [], 0) := by
  unfold askE at h ⊢
  rw [if_neg (by rw [hc]; simp)] at h ⊢
  by_cases ha : allowedB l vs (-1) = false
  · rw [if_pos ha] at h
    simp at h
  have hA := allowedP_of ha
  rw [if_neg]
  rw [allowedB_true ⟨by rw [List.length_set]; exact hA.1, fun m x d hx hd => ?_⟩]
  · simp
  rw [List.getElem?_set] at hd
  split at hd
  · rename_i e
    subst e
    split at hd
    · cases hd
      rw [kAt_of hx] at hj
      omega
    · cases hd
  · exact hA.2 m x d hx hd

theorem raw_sm {l : List BV} (hg : Good l) (hsz : szs (ksOf l) ≤ 9000) (ev : List Int) : Q.Low (nz (rawQ l ev l.length [])) ∧ Sm 9000 (rawQ l ev l.length []) := by
  have hraw := rawQ_spec hg ev l.length [] (by simp)
  have hfr := fromQ_low hg ev l.length [] (by simp)
  rw [← hraw.1] at hfr
  exact ⟨hfr.1, (sm_of_nz hraw.2 hfr.2).mono (by simpa using hsz)⟩
theorem parts_sm {l : List BV} (hg : Good l) (hsz : szs (ksOf l) ≤ 9000) (ev : List Int) (v : Nat) {K : Nat} (hK : K ≤ 8) (j : Nat) : Sm 100000 (rowR ((partsR l ev v K).take j)) := by
  have hP := partsR_low hg hsz (ev := ev) v K
  have := (rowR_lowE 9000 _ ((partsR l ev v K).take j) rfl (fun p hp => hP p (List.mem_of_mem_take hp))).2
  refine this.mono ?_
  have h1 : ((partsR l ev v K).take j).length ≤ 8 := by rw [List.length_take, partsR_length]; omega
  have := Nat.mul_le_mul_right 9003 h1
  omega
theorem parts_next {l : List BV} {ev : List Int} {v K j : Nat} (h : j < K) : rowR ((partsR l ev v K).take (j + 1)) = Q.add (nz (rowR ((partsR l ev v K).take j))) (nz (rawQ l (ev.set v (j : Nat)) l.length [])) := by
  rw [take_snoc_of (partsR_get h), rowR_snoc]
/-- What the walk compares: the sum over the values and the probability. -/
theorem split_cmp {l : List BV} (hg : Good l) {vs : List Int} {v : Nat} (hv : vs[v]? = some (-1)) (hvl : v < l.length) {K : Nat} (hK : kAt l v = K) {q : Nat × Nat} (hq : q = rawQ l vs l.length []) :
    Q.cmp (nz (rowR ((partsR l vs v K).take K))) (nz q) = 0 ∧ ((rowR (partsR l vs v K)).1 = 0 → rtext q = { data := #[48] }) ∧ ((rowR (partsR l vs v K)).1 ≠ 0 → ((rtext q).toList == [48]) = false) := by
  subst hq
  have hs := adds_split hg hv hvl
  rw [hK] at hs
  have hl : Q.Low (nz (rawQ l vs l.length [])) := by
    rw [(rawQ_spec hg vs l.length [] (by simp)).1]
    exact (fromQ_low hg vs l.length [] (by simp)).1
  rw [List.take_of_length_le (by rw [partsR_length]; exact Nat.le_refl _)]
  have h1 : (nz (rawQ l vs l.length [])).1 = (rowR (partsR l vs v K)).1 := by rw [hs]; rfl
  refine ⟨by rw [← hs]; exact (Q.cmp_eq hl hl).2 rfl, fun h => ?_, fun h => ?_⟩
  · rw [← rtext_nz, Q.low_zero hl (by rw [h1]; exact h), rtext_zero]
  · rw [← rtext_nz]
    exact rtext_not0 hl (by rw [h1]; exact h)

/-- Else Posterior answers with an error. -/
theorem post_shut {l : List BV} (hc : checkE l = 0) {vs : List Int} {q : Nat × Nat} {E : Int} (h : askE l vs (-1) = (q, E)) {v : Int} {L : List (Nat × Nat)} {G : Int} (hp : postE l vs v = (L, G)) (hb : E ≠ 0 ∨ v < 0 ∨ (l.length : Int) ≤ v) : G = 1 := by
  unfold askE at h
  rw [if_neg (by rw [hc]; simp)] at h
  unfold postE at hp
  rw [if_neg (by rw [hc]; simp)] at hp
  by_cases ha : allowedB l vs (-1) = false
  · rw [if_pos (.inl ha)] at hp
    exact (congrArg Prod.snd hp).symm
  · rw [if_neg ha] at h
    have hE : E = 0 := (congrArg Prod.snd h).symm
    rw [if_pos (.inr (hb.resolve_left (fun k => k hE)))] at hp
    exact (congrArg Prod.snd hp).symm
end Go.Proofs.Ytbacloneddnaeaa

/- BayesAdds: its last loop; old numbers are appended to a new slice. -/
-- slots 162
namespace Go.Proofs.Ytbacloneddnaeaa
open Go.RowKit Go.Shelf Num

/-- Old memory is appended to a new empty slice, in a fixed region. -/
theorem wpList_append_old {P : Program} {ops : Array Oper} {rest : List Oper} {o : Oper} {a : Act} {Q : Exit → Act → World → Prop} (w : World) (hgd : o.guard = none) (s x : Operand) (t : TypeId) (ho : o.op = .call { callee := .builtin .append, args := #[s, x], argTypes := #[t, t] })
    (E : TypeId) (i : TypeInfo) (z : Value) (size bytes : Nat) (ht : P.underlying t = some (.slice E)) (hi : P.info? E = some i) (hz : i.zero = some z) (hsize : i.size = size) (hby : i.bytes = bytes) (hzs : z.cells.size = size)
    (g : Nat) (hs : a.eval s = .slice (some ⟨g, 0, none⟩) 0 0) (ad : Addr) (m c2 : Nat) (news : List Value) (hx : a.eval x = .slice (some ad) m c2) (hnews : ∀ j u, news[j]? = some u → w.cell? (ad.add j) = some u) (hl : news.length = m * size) (h0 : 0 < m)
    (h63 : m ≤ maxLen) (hbytes : m * bytes ≤ 140737488355328)
    (h : ∀ g' cap' cur' w', RowB (inW w') E size g' m cap' news cur' → Below w.heap.size w w' → w.heap.size ≤ g' → wpList P ops Q rest (a.put o.dst (.slice (some ⟨g', 0, none⟩) m cap')) w') : wpList P ops Q (o :: rest) a w := by
  subst hsize hby
  refine wpList_plain hgd fun _ hK => ?_
  have hr := run_append_grow (P := P) w t o.type E i z ht hi hz ⟨g, 0, none⟩ 0 0 [] (by simp) (fun j v hj => by simp at hj) ad m c2 news hl hnews (by omega) (by simp only [maxLen] at h63; omega) (growslice_fits (by omega) (by rw [Nat.zero_add]; exact hbytes))
  simp only [Nat.zero_add, List.nil_append] at hr
  unfold Oper.wp execOp
  simp only [ho, resolve, invoke, builtin, Sem.run_bind, Sem.run_pure, Result.andThen_ok, List.map_toArray, List.map_cons, List.map_nil, hs, hx, hr]
  refine hK _ _ (h _ _ _ _ ⟨heap_alloc_new w.drew _, grownCap_ge w m 0 E, grownCap_le_maxLen w m 0 E h63, ?_, ?_, hl⟩ ((Below.refl _ w).drew.alloc (by simp) _) (by simp))
  · simp only [Array.size_append, List.size_toArray, List.length_nil, Nat.zero_add, size_zeroCells, hzs, hl, ← Nat.add_mul]
    have := grownCap_ge w m 0 E
    congr 1
    omega
  · simp only [List.nil_append, Array.toList_append]
    rw [← hl]
    exact List.take_left

/-- The numbers of a row of Rats, added up. -/
theorem rowR_take {L : List (Nat × Nat)} {j : Nat} {q : Nat × Nat} (h : L[j]? = some q) : rowR (L.take (j + 1)) = Q.add (nz (rowR (L.take j))) (nz q) := by
  rw [take_snoc_of h, rowR_snoc]

theorem atN_own {w : World} {b : Nat} {v : Value} {xs : List Int} (h : OwnI w b [] v xs) : ∃ a c, v = .slice a xs.length c ∧ AtN w.heap.size w a (ints xs) := by
  obtain ⟨a, c, h1, h2, _⟩ := OutN.row (M := []) h.row (by simp)
  exact ⟨a, c, h1, fun i v hi => by
    obtain ⟨g, o, _, e, k⟩ := h2 i v hi
    exact ⟨g, o, block_lt_of_cell k, e, k⟩⟩

set_option maxHeartbeats 1600000 in
set_option maxRecDepth 100000 in
theorem adds_loop3 {t0 t1 t2 t3 t4 t5 t6 t7 t8 t9 t10 t11 t12 t13 t15 t16 t17 t18 t19 t20 t23 t24 t25 t26 t27 t28 t29 t30 t31 t32 t33 t34 t35 t36 t37 t38 t39 t40 t41 t42 t43 t44 t45 t46 t47 t48 t49 t50 t51 t52 t53 t54 t55 t56 t57 t58 t59 t60 t61 t62 t63 t64 t65 t66 t67 t68 t69 t70 t71 t72 t73 t74 t75 t76 t77 t78 t79 t80 t81 t82 t83 t84 t85 t86 t87 t88 t89 t90 t91 t92 t93 t94 t95 t96 t97 t98 t99 t100 t101 t102 t103 t104 t105 t106 t107 t108 t109 t110 t111 t112 t113 t114 t115 t116 t117 t118 t119 t120 t121 t122 t123 t124 t125 t126 t127 t128 t129 t130 t131 t132 t133 t134 t135 t136 t137 t138 t139 t140 t141 t142 t143 t144 t145 t146 t147 t148 t149 t150 t151 t152 t153 t154 t155 t156 t157 t158 t159 t160 t161 : Value} {ds : List Deferred} (Qp : Exit → Act → World → Prop) (gS : Nat) (L : List (Nat × Nat)) (p : Option Addr) (c : Nat) (w : World) (hA : AtN gS w p (rats L)) (hL : L.length ≤ 1000) (hs : ∀ q ∈ L, Sm 200000 q) (hS : ∀ j, Sm 200000 (rowR (L.take j)))
    (m0 : w.heap[gS]? = some (.cells #[.string (nb 0), .string (nb 0)] 34 (0, 0)))
    (hQ : ∀ (y138 y139 y140 y141 y142 y143 y144 y145 : Value) (w' : World), w'.heap[gS]? = some (.cells #[.string (nb (rowR L).1), .string (nb (rowR L).2)] 34 (0, 0)) → Below gS w w' →
      Qp (.exit 4) { tmps := List.toArray (t0 :: t1 :: t2 :: t3 :: t4 :: t5 :: t6 :: t7 :: t8 :: t9 :: t10 :: t11 :: t12 :: t13 :: .slice p L.length c :: t15 :: t16 :: t17 :: t18 :: t19 :: t20 :: .pointer (some ⟨gS, 0, none⟩) :: .int .i64 L.length :: t23 :: t24 :: t25 :: t26 :: t27 :: t28 :: t29 :: t30 :: t31 :: t32 :: t33 :: t34 :: t35 :: t36 :: t37 :: t38 :: t39 :: t40 :: t41 :: t42 :: t43 :: t44 :: t45 :: t46 :: t47 :: t48 :: t49 :: t50 :: t51 :: t52 :: t53 :: t54 :: t55 :: t56 :: t57 :: t58 :: t59 :: t60 :: t61 :: t62 :: t63 :: t64 :: t65 :: t66 :: t67 :: t68 :: t69 :: t70 :: t71 :: t72 :: t73 :: t74 :: t75 :: t76 :: t77 :: t78 :: t79 :: t80 :: t81 :: t82 :: t83 :: t84 :: t85 :: t86 :: t87 :: t88 :: t89 :: t90 :: t91 :: t92 :: t93 :: t94 :: t95 :: t96 :: t97 :: t98 :: t99 :: t100 :: t101 :: t102 :: t103 :: t104 :: t105 :: t106 :: t107 :: t108 :: t109 :: t110 :: t111 :: t112 :: t113 :: t114 :: t115 :: t116 :: t117 :: t118 :: t119 :: t120 :: t121 :: t122 :: t123 :: t124 :: t125 :: t126 :: t127 :: t128 :: t129 :: t130 :: t131 :: t132 :: t133 :: .int .i64 L.length :: .slice p L.length c :: .int .i64 L.length :: .bool false :: y138 :: y139 :: y140 :: y141 :: y142 :: y143 :: y144 :: y145 :: t146 :: t147 :: t148 :: t149 :: t150 :: t151 :: t152 :: t153 :: t154 :: t155 :: t156 :: t157 :: t158 :: t159 :: t160 :: t161 :: []), defers := ds } w') :
    (loopNo Try.f7 2).wp Try.prog Qp { tmps := List.toArray (t0 :: t1 :: t2 :: t3 :: t4 :: t5 :: t6 :: t7 :: t8 :: t9 :: t10 :: t11 :: t12 :: t13 :: .slice p L.length c :: t15 :: t16 :: t17 :: t18 :: t19 :: t20 :: .pointer (some ⟨gS, 0, none⟩) :: .int .i64 0 :: t23 :: t24 :: t25 :: t26 :: t27 :: t28 :: t29 :: t30 :: t31 :: t32 :: t33 :: t34 :: t35 :: t36 :: t37 :: t38 :: t39 :: t40 :: t41 :: t42 :: t43 :: t44 :: t45 :: t46 :: t47 :: t48 :: t49 :: t50 :: t51 :: t52 :: t53 :: t54 :: t55 :: t56 :: t57 :: t58 :: t59 :: t60 :: t61 :: t62 :: t63 :: t64 :: t65 :: t66 :: t67 :: t68 :: t69 :: t70 :: t71 :: t72 :: t73 :: t74 :: t75 :: t76 :: t77 :: t78 :: t79 :: t80 :: t81 :: t82 :: t83 :: t84 :: t85 :: t86 :: t87 :: t88 :: t89 :: t90 :: t91 :: t92 :: t93 :: t94 :: t95 :: t96 :: t97 :: t98 :: t99 :: t100 :: t101 :: t102 :: t103 :: t104 :: t105 :: t106 :: t107 :: t108 :: t109 :: t110 :: t111 :: t112 :: t113 :: t114 :: t115 :: t116 :: t117 :: t118 :: t119 :: t120 :: t121 :: t122 :: t123 :: t124 :: t125 :: t126 :: t127 :: t128 :: t129 :: t130 :: t131 :: t132 :: t133 :: t134 :: t135 :: t136 :: t137 :: t138 :: t139 :: t140 :: t141 :: t142 :: t143 :: t144 :: t145 :: t146 :: t147 :: t148 :: t149 :: t150 :: t151 :: t152 :: t153 :: t154 :: t155 :: t156 :: t157 :: t158 :: t159 :: t160 :: t161 :: []), defers := ds } w := by
  show Code.wp Try.prog (Code.loop _) Qp _ w
  have HQ := Lib.hid hQ
  have HA := Lib.hid hA
  have HSM := Lib.hid hs
  have HSS := Lib.hid hS
  clear hQ hA hs hS
  go_loopw [22] (fun i wr => ∃ (j : Nat), j ≤ L.length ∧ i = .int .i64 j ∧ wr.heap[gS]? = some (.cells #[.string (nb (rowR (L.take j)).1), .string (nb (rowR (L.take j)).2)] 34 (0, 0)) ∧ Hid (Below gS w wr))
    (fun i _ => L.length - (intOf i).toNat)
  case atStart => exact ⟨0, Nat.zero_le _, rfl, m0, Below.refl _ _⟩
  case round =>
    obtain ⟨j, hj, rfl, m1, HB⟩ := hrel
    clear m0
    by_cases hlt : j < L.length
    · have hd : decide (j < L.length) = true := by simpa using hlt
      obtain ⟨S, hS⟩ : ∃ S, L[j]? = some S := ⟨_, List.getElem?_eq_getElem hlt⟩
      have hSm := HSM.out S (List.mem_of_getElem? hS)
      have hTm := HSS.out j
      have HT := Lib.hid (rowR_take hS)
      obtain ⟨h1, h2⟩ := rats_get hS
      obtain ⟨b, o, hb, rfl, k1⟩ := HA.out _ _ h1
      obtain ⟨b', o', _, e, k2⟩ := HA.out _ _ h2
      cases e
      rw [← Nat.add_assoc] at k2
      have k1 := below_cell HB.out hb k1
      have k2 := below_cell HB.out hb k2
      have K1 := Lib.hid k1
      have K2 := Lib.hid k2
      have hgw : gS ≤ wr.heap.size := by have := lt_of_heap m1; omega
      generalize rowR (L.take j) = T at *
      have KA : Gives 30 #[.agg #[.string (nb T.1), .string (nb T.2)], .agg #[.string (nb S.1), .string (nb S.2)]] (.agg #[.string (nb (Q.add (nz T) (nz S)).1), .string (nb (Q.add (nz T) (nz S)).2)]) := gRAddB T S hTm hSm
      clear hS hSm hTm h1 h2 k1 k2
      generalize hU : Q.add (nz T) (nz S) = U at *
      clear hU
      go_wp2_with fail
      refine wp_game [1, 0, 0, 0, 0, 0, 2] [gS] _ (Fin.put fin_B0 _ _) (has_put (has_B0 _) m1) (by kernel_rfl) (by kernel_rfl) ?_
      refine lex_readE 1 wr (Behind.refl _ _) (has_put (has_B0 _) m1) (by kernel_rfl) (by rfl) ?_
      apply Exists.intro
      refine ⟨fun z hz hH => ?_, ?_⟩
      · have g0 := blk_cellp (hH gS _ (Blocks.put_same _ _ _)) 0 rfl
        have g2 := blk_cellp (hH gS _ (Blocks.put_same _ _ _)) 1 rfl
        clear hz hH
        simp only [List.take_succ_cons, List.take_zero]
        unfold Cx
        repeat (go_big_quiet_step (fail))
        exact wpQuiet_nil rfl
      simp only [List.drop_succ_cons, List.drop_zero]
      refine lex_quietE 5 (by kernel_rfl) (by rfl) ?_
      apply Exists.intro
      refine ⟨fun z hz => ?_, ?_⟩
      · have g0 := fun pp => below_cellp (hz.below_of (b := gS) (by simp) hgw) K1.out hb pp
        have g2 := fun pp => below_cellp (hz.below_of (b := gS) (by simp) hgw) K2.out hb pp
        clear hz
        simp only [List.take_succ_cons, List.take_zero]
        unfold Cx
        repeat (go_big_quiet_step (first | with_reducible exact KA.at _ _))
        exact wpQuiet_nil rfl
      simp only [List.drop_succ_cons, List.drop_zero]
      refine lex_store_all gS _ _ _ (by rfl) (by rfl) (by rfl) (Blocks.put_same _ _ _) (by rfl) (Or.inl (by simp)) (by kernel_rfl) (by simp [Value.oneCell']) ?_
      refine lex_nil ?_
      intro w7 hx7 hH
      have t9 := hH gS _ (Blocks.put_same _ _ _)
      have HB7 := Lib.hid (HB.out.trans (hx7.below_of (b := gS) (by simp) (by have := lt_of_heap m1; omega)))
      clear hx7 hH m1 KA HB
      go_wp2_with fail
      go_roundw
      case rel => exact ⟨j + 1, by omega, by go_num, by rw [HT.out]; exact t9, HB7⟩
      case measure => simp [intOf]; omega
    · obtain rfl : j = L.length := by omega
      rw [List.take_length] at m1
      go_wp2_with fail
      exact HQ.out _ _ _ _ _ _ _ _ _ m1 HB.out
end Go.Proofs.Ytbacloneddnaeaa
