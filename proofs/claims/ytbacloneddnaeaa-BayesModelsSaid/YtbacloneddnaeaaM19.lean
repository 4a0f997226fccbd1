/- Texts of this claim, joined: BSumS, BSum1. -/
import Derived.Test.YtbacloneddnaeaaM18
import Derived.Test.YtbacloneddnaeaaM15

/- The state of bayes.sum. -/
namespace Go.Proofs.Ytbacloneddnaeaa
open Go.RowKit Go.Shelf Num

def pAt (l : List BV) (i : Nat) (vs : List Nat) : Nat × Nat := match l[i]? with
  | some x => nz (x.tab.getD (idxFrom l vs 0 x.ps * x.k.toNat + vs.getD i 0) (0, 0))
  | none => (0, 1)

def fromQ (l : List BV) (ev : List Int) : Nat → List Nat → Nat × Nat
  | 0, _ => (1, 1)
  | d + 1, pre => (chosen (ev.getD pre.length 0) (kAt l pre.length)).foldl (fun s x => if pAt l pre.length (pre ++ [x]) = (0, 1) then s else Q.add s (Q.mul (pAt l pre.length (pre ++ [x])) (fromQ l ev d (pre ++ [x])))) (0, 1)

structure Cfg where
  N : Nat
  l : List BV
  ev : List Int
  gl : Nat
  ge : Nat
  gv : Nat
  gf : Nat
  bv : Nat
  la : Option Addr
  lc : Nat
  ea : Option Addr
  ec : Nat

def Cfg.fn (c : Cfg) : Value := .func (.func 74) #[] #[.pointer (some ⟨c.gl, 0, none⟩), .pointer (some ⟨c.ge, 0, none⟩), .pointer (some ⟨c.gv, 0, none⟩), .pointer (some ⟨c.gf, 0, none⟩)]
def Cfg.row (vs : List Nat) : Obj := .cells (ints (vs.map Int.ofNat)).toArray 3 (0, 0)

structure St (c : Cfg) (w : World) (vs : List Nat) : Prop where
  hl : w.heap[c.gl]? = some (.cells #[.slice c.la c.l.length c.lc] 26 (0, 0))
  he : w.heap[c.ge]? = some (.cells #[.slice c.ea c.ev.length c.ec] 30 (0, 0))
  hv : w.heap[c.gv]? = some (.cells #[.slice (some ⟨c.bv, 0, none⟩) c.l.length c.l.length] 30 (0, 0))
  hf : w.heap[c.gf]? = some (.cells #[c.fn] 125 (0, 0))
  net : NetAt c.N w c.la c.l
  evs : AtN c.N w c.ea (ints c.ev)
  fit : Fit c.l vs
  row : w.heap[c.bv]? = some (Cfg.row vs)
  lo : c.N ≤ c.bv
  n1 : c.gl ≠ c.bv
  n2 : c.ge ≠ c.bv
  n3 : c.gv ≠ c.bv
  n4 : c.gf ≠ c.bv

theorem St.on {c : Cfg} {w x : World} {Wr : List Nat} {vs vs' : List Nat} (h : St c w vs) (hb : Behind w Wr x) (hW : ∀ k ∈ Wr, k = c.bv ∨ (c.N ≤ k ∧ k ≠ c.gl ∧ k ≠ c.ge ∧ k ≠ c.gv ∧ k ≠ c.gf)) (hN : c.N ≤ w.heap.size) (hf : Fit c.l vs') (hr : x.heap[c.bv]? = some (Cfg.row vs')) : St c x vs' where
  hl := hb.keep h.hl fun hm => (hW _ hm).elim h.n1 fun e => e.2.1 rfl
  he := hb.keep h.he fun hm => (hW _ hm).elim h.n2 fun e => e.2.2.1 rfl
  hv := hb.keep h.hv fun hm => (hW _ hm).elim h.n3 fun e => e.2.2.2.1 rfl
  hf := hb.keep h.hf fun hm => (hW _ hm).elim h.n4 fun e => e.2.2.2.2 rfl
  net := h.net.below (hb.below_of (b := c.N) (fun k hk => (hW _ hk).elim (fun e => e ▸ h.lo) fun e => e.1) hN) (Nat.le_refl _)
  evs := h.evs.below (hb.below_of (b := c.N) (fun k hk => (hW _ hk).elim (fun e => e ▸ h.lo) fun e => e.1) hN) (Nat.le_refl _)
  fit := hf
  row := hr
  lo := h.lo
  n1 := h.n1
  n2 := h.n2
  n3 := h.n3
  n4 := h.n4

theorem behind_of_below {w x : World} (h : Below w.heap.size w x) : Behind w [] x := ⟨h.os, h.tape, h.output, h.size, fun k hk _ => h.block k hk⟩
theorem Behind.mono {w x : World} {Wr Wr' : List Nat} (h : Behind w Wr x) (hW : ∀ k ∈ Wr, k ∈ Wr') : Behind w Wr' x := ⟨h.os, h.tape, h.output, h.size, fun k hk hn => h.block k hk fun hm => hn (hW k hm)⟩

theorem St.below {c : Cfg} {w x : World} {vs : List Nat} (h : St c w vs) (hb : Below w.heap.size w x) (hN : c.N ≤ w.heap.size) : St c x vs :=
  h.on (behind_of_below hb) (by simp) hN h.fit ((behind_of_below hb).keep h.row (by simp))

theorem Fit.set {l : List BV} {vs : List Nat} (h : Fit l vs) {i x : Nat} {y : BV} (hy : l[i]? = some y) (hx : (x : Int) < y.k) : Fit l (vs.set i x) where
  len := by rw [List.length_set]; exact h.len
  kpos := h.kpos
  lt := fun j z v hz hv => by
    rw [List.getElem?_set] at hv
    split at hv
    · rename_i e
      subst e
      split at hv
      · cases hv; rw [hy] at hz; cases hz; exact hx
      · cases hv
    · exact h.lt j z v hz hv

theorem take_set_snoc {vs : List Nat} {i x : Nat} (h : i < vs.length) : (vs.set i x).take (i + 1) = vs.take i ++ [x] := by
  rw [List.take_succ_eq_append_getElem (by simpa using h)]
  simp [List.take_set_of_le]

theorem idxFrom_congr {l : List BV} {vs vs' : List Nat} {i : Nat} (h : vs.take i = vs'.take i) : ∀ (ps : List Int) (a0 : Nat), (∀ p ∈ ps, p.toNat < i) → idxFrom l vs a0 ps = idxFrom l vs' a0 ps
  | [], _, _ => rfl
  | p :: ps, a0, hp => by
    have h1 := hp p (by simp)
    have e : vs.getD p.toNat 0 = vs'.getD p.toNat 0 := by
      have := congrArg (fun l => l.getD p.toNat 0) h
      simpa [List.getD_eq_getElem?_getD, List.getElem?_take, h1] using this
    show idxFrom l vs (a0 * kAt l p.toNat + vs.getD p.toNat 0) ps = idxFrom l vs' (a0 * kAt l p.toNat + vs'.getD p.toNat 0) ps
    rw [e]
    exact idxFrom_congr h ps _ fun q hq => hp q (by simp [hq])

theorem pAt_congr {l : List BV} {vs vs' : List Nat} {i : Nat} (h : vs.take (i + 1) = vs'.take (i + 1)) (hp : ∀ x, l[i]? = some x → ∀ p ∈ x.ps, p.toNat < i) : pAt l i vs = pAt l i vs' := by
  unfold pAt
  split
  · rename_i x hx
    have h2 : vs.take i = vs'.take i := by
      have := congrArg (List.take i) h
      simpa [List.take_take] using this
    have e : vs.getD i 0 = vs'.getD i 0 := by
      have := congrArg (fun l => l.getD i 0) h
      simpa [List.getD_eq_getElem?_getD, List.getElem?_take] using this
    rw [idxFrom_congr h2 x.ps 0 (hp x hx), e]
  · rfl

structure Good (l : List BV) : Prop where
  len : l.length ≤ 16
  kb : ∀ (i : Nat) (x : BV), l[i]? = some x → 1 ≤ x.k ∧ x.k ≤ 8
  par : ∀ (i : Nat) (x : BV), l[i]? = some x → ∀ p ∈ x.ps, 0 ≤ p ∧ p.toNat < i
  plen : ∀ (i : Nat) (x : BV), l[i]? = some x → x.ps.length ≤ 16
  tab : ∀ (i : Nat) (x : BV) (vs : List Nat), l[i]? = some x → Fit l vs → idxFrom l vs 0 x.ps * x.k.toNat + vs.getD i 0 < x.tab.length
  low : ∀ (i : Nat) (x : BV), l[i]? = some x → ∀ p ∈ x.tab, Q.Low (nz p) ∧ Sm 4 p

theorem sm_add2 {a b : Nat} {p q : Nat × Nat} (hp : Sm a p) (hq : Sm b q) : Sm (a + b + 1) (Q.add p q) := by
  obtain ⟨h1, h2⟩ := hp
  obtain ⟨h3, h4⟩ := hq
  have e1 := nl_mul p.1 q.2
  have e2 := nl_mul q.1 p.2
  have e3 := nl_mul p.2 q.2
  have e4 := nl_add (p.1 * q.2) (q.1 * p.2)
  exact Sm.red (by omega) (by omega)
theorem sm_mul2 {a b : Nat} {p q : Nat × Nat} (hp : Sm a p) (hq : Sm b q) : Sm (a + b) (Q.mul p q) := by
  obtain ⟨h1, h2⟩ := hp
  obtain ⟨h3, h4⟩ := hq
  have e1 := nl_mul p.1 q.1
  have e3 := nl_mul p.2 q.2
  exact Sm.red (by omega) (by omega)

def szs : List Nat → Nat
  | [] => 1
  | k :: ks => k * (szs ks + 8) + 2


theorem szs_cons (k : Nat) (ks : List Nat) : szs (k :: ks) = k * (szs ks + 8) + 2 := rfl

def ksOf (l : List BV) : List Nat := l.map fun x => x.k.toNat

theorem kAt_of {l : List BV} {i : Nat} {x : BV} (h : l[i]? = some x) : kAt l i = x.k.toNat := by unfold kAt; rw [h]

theorem ksOf_drop {l : List BV} {i : Nat} {x : BV} (h : l[i]? = some x) : (ksOf l).drop i = kAt l i :: (ksOf l).drop (i + 1) := by
  have hi : i < l.length := (List.getElem?_eq_some_iff.1 h).1
  have e : l[i] = x := by rw [List.getElem?_eq_getElem hi] at h; exact Option.some.inj h
  unfold ksOf
  rw [List.drop_eq_getElem_cons (by simpa using hi), kAt_of h]
  simp [e]

theorem pAt_low {l : List BV} (hg : Good l) (i : Nat) (vs : List Nat) : Q.Low (pAt l i vs) ∧ Sm 5 (pAt l i vs) := by
  unfold pAt
  split
  · rename_i x hx
    by_cases h : idxFrom l vs 0 x.ps * x.k.toNat + vs.getD i 0 < x.tab.length
    · rw [List.getD_eq_getElem?_getD, List.getElem?_eq_getElem h]
      obtain ⟨h1, h2⟩ := hg.low i x hx _ (List.getElem_mem h)
      exact ⟨h1, h2.nz⟩
    · rw [List.getD_eq_getElem?_getD, List.getElem?_eq_none (by omega)]
      exact ⟨⟨by decide, by decide⟩, ⟨by decide, by decide⟩⟩
  · exact ⟨⟨by decide, by decide⟩, ⟨by decide, by decide⟩⟩

def stepQ (f g : Nat → Nat × Nat) (s : Nat × Nat) (x : Nat) : Nat × Nat := if f x = (0, 1) then s else Q.add s (Q.mul (f x) (g x))

theorem stepQ_low {f g : Nat → Nat × Nat} (hf : ∀ x, Q.Low (f x) ∧ Sm 5 (f x)) {E : Nat} (hg : ∀ x, Q.Low (g x) ∧ Sm E (g x)) : ∀ (xs : List Nat) (m : Nat) (s : Nat × Nat), Q.Low s → Sm m s →
    Q.Low (xs.foldl (stepQ f g) s) ∧ Sm (m + xs.length * (E + 8)) (xs.foldl (stepQ f g) s)
  | [], m, s, h1, h2 => ⟨h1, by simpa using h2⟩
  | x :: xs, m, s, h1, h2 => by
    have h3 : Q.Low (stepQ f g s x) ∧ Sm (m + (E + 8)) (stepQ f g s x) := by
      unfold stepQ
      split
      · exact ⟨h1, h2.mono (by omega)⟩
      · exact ⟨Q.add_low h1 (Q.mul_low (hf x).1 (hg x).1), (sm_add2 h2 (sm_mul2 (hf x).2 (hg x).2)).mono (by omega)⟩
    obtain ⟨h4, h5⟩ := stepQ_low hf hg xs _ _ h3.1 h3.2
    exact ⟨h4, by rw [List.length_cons, Nat.add_mul]; exact h5.mono (by omega)⟩

theorem fromQ_succ (l : List BV) (ev : List Int) (d : Nat) (pre : List Nat) : fromQ l ev (d + 1) pre = (chosen (ev.getD pre.length 0) (kAt l pre.length)).foldl (stepQ (fun x => pAt l pre.length (pre ++ [x])) (fun x => fromQ l ev d (pre ++ [x]))) (0, 1) := rfl

theorem fromQ_low {l : List BV} (hg : Good l) (ev : List Int) : ∀ (d : Nat) (pre : List Nat), pre.length + d = l.length → Q.Low (fromQ l ev d pre) ∧ Sm (szs ((ksOf l).drop pre.length)) (fromQ l ev d pre)
  | 0, pre, h => by
    rw [List.drop_eq_nil_of_le (by simp [ksOf]; omega)]
    show Q.Low (1, 1) ∧ Sm 1 (1, 1)
    exact ⟨⟨by decide, by decide⟩, ⟨by decide, by decide⟩⟩
  | d + 1, pre, h => by
    obtain ⟨x, hx⟩ : ∃ x, l[pre.length]? = some x := ⟨_, List.getElem?_eq_getElem (by omega)⟩
    have hd := ksOf_drop hx
    have h0 := stepQ_low (f := fun x => pAt l pre.length (pre ++ [x])) (g := fun x => fromQ l ev d (pre ++ [x])) (fun x => pAt_low hg _ _) (E := szs ((ksOf l).drop (pre.length + 1))) (fun x => by
      have := fromQ_low hg ev d (pre ++ [x]) (by simp; omega)
      simpa using this) (chosen (ev.getD pre.length 0) (kAt l pre.length)) 1 (0, 1) ⟨by decide, by decide⟩ ⟨by decide, by decide⟩
    rw [fromQ_succ, hd]
    refine ⟨h0.1, h0.2.mono ?_⟩
    have := Nat.mul_le_mul_right (szs ((ksOf l).drop (pre.length + 1)) + 8) (chosen_length (ev.getD pre.length 0) (kAt l pre.length))
    rw [szs_cons]
    omega

theorem part_low {l : List BV} (hg : Good l) (ev : List Int) (d : Nat) (pre xs : List Nat) (h : pre.length + (d + 1) = l.length) (hx : xs.length ≤ kAt l pre.length) :
    Q.Low (xs.foldl (stepQ (fun x => pAt l pre.length (pre ++ [x])) (fun x => fromQ l ev d (pre ++ [x]))) (0, 1)) ∧ Sm (szs ((ksOf l).drop pre.length)) (xs.foldl (stepQ (fun x => pAt l pre.length (pre ++ [x])) (fun x => fromQ l ev d (pre ++ [x]))) (0, 1)) := by
  obtain ⟨x, hx'⟩ : ∃ x, l[pre.length]? = some x := ⟨_, List.getElem?_eq_getElem (by omega)⟩
  have hd := ksOf_drop hx'
  have h0 := stepQ_low (f := fun x => pAt l pre.length (pre ++ [x])) (g := fun x => fromQ l ev d (pre ++ [x])) (fun x => pAt_low hg _ _) (E := szs ((ksOf l).drop (pre.length + 1))) (fun x => by
    have := fromQ_low hg ev d (pre ++ [x]) (by simp; omega)
    simpa using this) xs 1 (0, 1) ⟨by decide, by decide⟩ ⟨by decide, by decide⟩
  rw [hd]
  refine ⟨h0.1, h0.2.mono ?_⟩
  have := Nat.mul_le_mul_right (szs ((ksOf l).drop (pre.length + 1)) + 8) hx
  rw [szs_cons]
  omega

theorem szs_mono (l : List BV) (hg : Good l) : ∀ i, i ≤ l.length → szs ((ksOf l).drop i) ≤ szs (ksOf l) := by
  intro i
  induction i with
  | zero => intro _; simp
  | succ i ih =>
    intro hi
    obtain ⟨x, hx⟩ : ∃ x, l[i]? = some x := ⟨_, List.getElem?_eq_getElem (by omega)⟩
    have h1 := ih (by omega)
    rw [ksOf_drop hx] at h1
    rw [szs_cons] at h1
    have hk := (hg.kb i x hx).1
    have h2 : 1 ≤ kAt l i := by rw [kAt_of hx]; omega
    have := Nat.mul_le_mul_right (szs ((ksOf l).drop (i + 1)) + 8) h2
    generalize szs ((ksOf l).drop (i + 1)) = E at *
    refine Nat.le_trans ?_ h1
    omega

def stepR (f g : Nat → Nat × Nat) (s : Nat × Nat) (x : Nat) : Nat × Nat := if f x = (0, 1) then s else Q.add (nz s) (Q.mul (f x) (nz (g x)))
def rawQ (l : List BV) (ev : List Int) : Nat → List Nat → Nat × Nat
  | 0, _ => (1, 1)
  | d + 1, pre => (chosen (ev.getD pre.length 0) (kAt l pre.length)).foldl (stepR (fun x => pAt l pre.length (pre ++ [x])) (fun x => rawQ l ev d (pre ++ [x]))) (0, 0)

theorem stepR_spec {f g : Nat → Nat × Nat} (hf : ∀ x, Q.Low (f x)) (hg : ∀ x, Q.Low (nz (g x))) : ∀ (xs : List Nat) (s : Nat × Nat), Q.Low (nz s) → (s = (0, 0) ∨ s = nz s) →
    nz (xs.foldl (stepR f g) s) = xs.foldl (stepQ f (fun x => nz (g x))) (nz s) ∧ (xs.foldl (stepR f g) s = (0, 0) ∨ xs.foldl (stepR f g) s = nz (xs.foldl (stepR f g) s))
  | [], s, _, h => ⟨rfl, h⟩
  | x :: xs, s, h1, h2 => by
    rw [List.foldl_cons, List.foldl_cons]
    by_cases h : f x = (0, 1)
    · have e1 : stepR f g s x = s := if_pos h
      have e2 : stepQ f (fun x => nz (g x)) (nz s) x = nz s := if_pos h
      rw [e1, e2]
      exact stepR_spec hf hg xs s h1 h2
    · have e1 : stepR f g s x = Q.add (nz s) (Q.mul (f x) (nz (g x))) := if_neg h
      have e2 : stepQ f (fun x => nz (g x)) (nz s) x = Q.add (nz s) (Q.mul (f x) (nz (g x))) := if_neg h
      have hl : Q.Low (Q.add (nz s) (Q.mul (f x) (nz (g x)))) := Q.add_low h1 (Q.mul_low (hf x) (hg x))
      have hn := nz_low hl
      have := stepR_spec hf hg xs (Q.add (nz s) (Q.mul (f x) (nz (g x)))) (by rw [hn]; exact hl) (.inr hn.symm)
      rw [hn] at this
      rw [e1, e2]
      exact this

theorem rawQ_spec {l : List BV} (hg : Good l) (ev : List Int) : ∀ (d : Nat) (pre : List Nat), pre.length + d = l.length → nz (rawQ l ev d pre) = fromQ l ev d pre ∧ (rawQ l ev d pre = (0, 0) ∨ rawQ l ev d pre = nz (rawQ l ev d pre))
  | 0, _, _ => ⟨rfl, .inr rfl⟩
  | d + 1, pre, h => by
    have e : ∀ x, nz (rawQ l ev d (pre ++ [x])) = fromQ l ev d (pre ++ [x]) := fun x => (rawQ_spec hg ev d (pre ++ [x]) (by simp; omega)).1
    have := stepR_spec (f := fun x => pAt l pre.length (pre ++ [x])) (g := fun x => rawQ l ev d (pre ++ [x])) (fun x => (pAt_low hg _ _).1) (fun x => by rw [e]; exact (fromQ_low hg ev d _ (by simp; omega)).1) (chosen (ev.getD pre.length 0) (kAt l pre.length)) (0, 0) ⟨by decide, by decide⟩ (.inl rfl)
    simp only [e] at this
    exact this

def partR (l : List BV) (ev : List Int) (d : Nat) (pre xs : List Nat) : Nat × Nat := xs.foldl (stepR (fun x => pAt l pre.length (pre ++ [x])) (fun x => rawQ l ev d (pre ++ [x]))) (0, 0)

theorem rawQ_part (l : List BV) (ev : List Int) (d : Nat) (pre : List Nat) : rawQ l ev (d + 1) pre = partR l ev d pre (chosen (ev.getD pre.length 0) (kAt l pre.length)) := rfl
theorem partR_snoc (l : List BV) (ev : List Int) (d : Nat) (pre xs : List Nat) (x : Nat) : partR l ev d pre (xs ++ [x]) = stepR (fun x => pAt l pre.length (pre ++ [x])) (fun x => rawQ l ev d (pre ++ [x])) (partR l ev d pre xs) x := by
  unfold partR; rw [List.foldl_append]; rfl

theorem partR_skip {l : List BV} {ev : List Int} {d : Nat} {pre xs : List Nat} {x : Nat} (h : pAt l pre.length (pre ++ [x]) = (0, 1)) : partR l ev d pre (xs ++ [x]) = partR l ev d pre xs := by
  rw [partR_snoc]; exact if_pos h
theorem partR_add {l : List BV} {ev : List Int} {d : Nat} {pre xs : List Nat} {x : Nat} (h : pAt l pre.length (pre ++ [x]) ≠ (0, 1)) :
    partR l ev d pre (xs ++ [x]) = Q.add (nz (partR l ev d pre xs)) (Q.mul (pAt l pre.length (pre ++ [x])) (nz (rawQ l ev d (pre ++ [x])))) := by
  rw [partR_snoc]; exact if_neg h

theorem sm_of_nz {k : Nat} {s : Nat × Nat} (h : s = (0, 0) ∨ s = nz s) (hs : Sm k (nz s)) : Sm k s := by
  rcases h with h | h
  · subst h; exact ⟨by simp [nl_zero], by simp [nl_zero]⟩
  · rw [h]; exact hs

theorem partR_low {l : List BV} (hg : Good l) (ev : List Int) (d : Nat) (pre xs : List Nat) (h : pre.length + (d + 1) = l.length) (hx : xs.length ≤ kAt l pre.length) :
    Q.Low (nz (partR l ev d pre xs)) ∧ Sm (szs ((ksOf l).drop pre.length)) (partR l ev d pre xs) := by
  have e : ∀ x, nz (rawQ l ev d (pre ++ [x])) = fromQ l ev d (pre ++ [x]) := fun x => (rawQ_spec hg ev d (pre ++ [x]) (by simp; omega)).1
  have := stepR_spec (f := fun x => pAt l pre.length (pre ++ [x])) (g := fun x => rawQ l ev d (pre ++ [x])) (fun x => (pAt_low hg _ _).1) (fun x => by rw [e]; exact (fromQ_low hg ev d _ (by simp; omega)).1) xs (0, 0) ⟨by decide, by decide⟩ (.inl rfl)
  simp only [e] at this
  have h2 := part_low hg ev d pre xs h hx
  have h3 : nz (partR l ev d pre xs) = xs.foldl (stepQ (fun x => pAt l pre.length (pre ++ [x])) (fun x => fromQ l ev d (pre ++ [x]))) (0, 1) := this.1
  rw [← h3] at h2
  exact ⟨h2.1, sm_of_nz this.2 h2.2⟩

theorem behind_grown {W W' : World} {row : Option Nat} (h : W.grownBy W' row) : Behind W row.toList W' :=
  ⟨h.os, h.tape, h.output, h.size, fun k hk hn => h.block k hk fun e => hn (by rw [← e]; simp)⟩

structure SumI (c : Cfg) (d : Nat) (w : World) (i : Nat) (vs : List Nat) (K : Nat) (pre : List (_root_.Fin K)) (W : World) : Prop where
  ex : ∃ vs' : List Nat, St c W vs' ∧ vs'.take i = vs.take i
  m7 : W.heap[w.heap.size + 1 + 1]? = some (.cells #[.string (nb (partR c.l c.ev d (vs.take i) (pre.map (·.1))).1), .string (nb (partR c.l c.ev d (vs.take i) (pre.map (·.1))).2)] 34 (0, 0))
  m5 : IntBox W w.heap.size i
  m6 : W.heap[w.heap.size + 1]? = some (.cells #[.string { data := #[] }, .string { data := #[] }] 34 (0, 0))
  be : Behind w [c.bv] W
  sz : w.heap.size + 5 ≤ W.heap.size

theorem sumI_own {c : Cfg} {d : Nat} {w : World} {i : Nat} {vs : List Nat} {K : Nat} {B : Nat} (hB : w.heap.size ≤ B) (hN : c.N ≤ w.heap.size) : OwnFrom B (SumI c d w i vs K) := by
  intro pre W W' row h hg hr
  have hb := behind_grown hg
  have hnot : ∀ (g : Nat) (xs : Array Value) (T : TypeId), W.heap[g]? = some (.cells xs T (0, 0)) → g ∉ row.toList := fun g xs T hgx hm => by
    obtain ⟨_, o, ho, hc⟩ := hr g (by simpa using hm)
    rw [hgx] at ho
    cases ho
    simp [Obj.isCells] at hc
  obtain ⟨vs', h1, h2⟩ := h.ex
  refine ⟨⟨vs', h1.on hb (fun k hk => .inr ⟨?_, ?_, ?_, ?_, ?_⟩) (Nat.le_trans hN h.be.size) h1.fit (hb.keep h1.row (hnot _ _ _ h1.row)), h2⟩, hb.keep h.m7 (hnot _ _ _ h.m7), hb.keep h.m5 (hnot _ _ _ h.m5), hb.keep h.m6 (hnot _ _ _ h.m6), h.be.trans hb fun k hk => .inr ?_, Nat.le_trans h.sz hg.size⟩
  · obtain ⟨h6, _⟩ := hr k (by simpa using hk); omega
  · rintro rfl; exact hnot _ _ _ h1.hl hk
  · rintro rfl; exact hnot _ _ _ h1.he hk
  · rintro rfl; exact hnot _ _ _ h1.hv hk
  · rintro rfl; exact hnot _ _ _ h1.hf hk
  · obtain ⟨h6, _⟩ := hr k (by simpa using hk); omega

theorem round_end {c : Cfg} {d : Nat} {w : World} {i : Nat} {vs vs2 : List Nat} {K : Nat} {pre : List (_root_.Fin K)} {y : _root_.Fin K} {W X : World} (hI : SumI c d w i vs K pre W) (hbv : c.bv < w.heap.size) (hb : Behind W [c.bv, w.heap.size + 1 + 1] X) (hst : St c X vs2) (htk : vs2.take i = vs.take i)
    (h7 : X.heap[w.heap.size + 1 + 1]? = some (.cells #[.string (nb (partR c.l c.ev d (vs.take i) ((pre ++ [y]).map (·.1))).1), .string (nb (partR c.l c.ev d (vs.take i) ((pre ++ [y]).map (·.1))).2)] 34 (0, 0)))
    (B b1 : Nat) (h1 : b1 = w.heap.size + 3) : KeepsFrom B W X ∧ KeepsTwo b1 (b1 + 1) W X ∧ SumI c d w i vs K (pre ++ [y]) X := by
  subst h1
  have hsz := hI.sz
  obtain ⟨vs', hst', _⟩ := hI.ex
  refine ⟨keepsFrom_behind hb ?_ B, ⟨hb.block _ (by omega) (by simp; omega), hb.block _ (by omega) (by simp; omega)⟩, ⟨⟨vs2, hst, htk⟩, h7, hb.keep hI.m5 (by simp; omega), hb.keep hI.m6 (by simp; omega), hI.be.trans hb ?_, Nat.le_trans hsz hb.size⟩⟩
  · intro k hk
    have hk : k = c.bv ∨ k = w.heap.size + 1 + 1 := by simpa using hk
    rcases hk with rfl | rfl
    · exact ⟨_, _, hst'.row⟩
    · exact ⟨_, _, hI.m7⟩
  · intro k hk
    have hk : k = c.bv ∨ k = w.heap.size + 1 + 1 := by simpa using hk
    rcases hk with rfl | rfl
    · exact .inl (by simp)
    · exact .inr (by omega)

theorem class_gives {I : Type} {f : I → World} (cls : ∀ p X, Below (f p).heap.size (f p) X → ∃ q, X = f q) {g : FuncId} {args : Array Value} {v : Value} (h : Gives g args v) (p : I) : Calls Try.prog g args (f p) fun e w' => e = .returned v ∧ ∃ q, w' = f q :=
  (h (f p)).mono fun _ _ ⟨h1, h2⟩ => ⟨h1, cls p _ h2⟩

end Go.Proofs.Ytbacloneddnaeaa

/- bayes.sum's own function. -/
namespace Go.Proofs.Ytbacloneddnaeaa
open Go.RowKit Go.Shelf Num

def Cfg.args (c : Cfg) (i : Nat) : Array Value := #[.int .i64 i, .pointer (some ⟨c.gl, 0, none⟩), .pointer (some ⟨c.ge, 0, none⟩), .pointer (some ⟨c.gv, 0, none⟩), .pointer (some ⟨c.gf, 0, none⟩)]

set_option maxHeartbeats 1600000 in
set_option maxRecDepth 100000 in
theorem sum1_zero (a1 a2 : ByteArray) (KO : Gives 45 #[] (.agg #[.string a1, .string a2])) (c : Cfg) (w : World) (vs : List Nat) (hs : St c w vs) (i : Nat) (hi : i = c.l.length) :
    Calls Try.prog 74 (c.args i) w fun e w' => e = .returned (.agg #[.string a1, .string a2]) ∧ Below w.heap.size w w' := by
  obtain ⟨N, l, ev, gl, ge, gv, gf, bv, la, lc, ea, ec⟩ := c
  simp only at hi
  subst hi
  have HB0 := Lib.hid (Below.refl w.heap.size w)
  have hl := hs.hl
  clear hs
  unfold Cfg.args
  simp only at hl ⊢
  have hlw : gl < w.heap.size := lt_of_heap hl
  go_enter Try.func74, Try.ntmps74
  go_wp2_with (with_reducible refine wpList_from 5 [3, 3] [] B0 (has_B0 _) ?_)
  refine lex_box (.int .i64 l.length) (by rfl) (by rfl) (fun g5 q5 hn5 => ?_)
  unfold setSlot
  go_big_quiet_step (fail)
  refine wpQuiet_nil ?_
  clear hn5
  refine lex_alloc (.agg #[.string ByteArray.empty, .string ByteArray.empty]) (by rfl) (fun x => by kernel_rfl) (fun g6 q6 hn6 => ?_)
  unfold setSlot
  go_big_quiet_step (fail)
  refine wpQuiet_nil ?_
  have n6_5 := ne_of_put hn6
  clear hn6
  refine lex_nil ?_
  intro w1 hx hH
  have m5 := hH g5 _ ((Blocks.put_other _ _ (Ne.symm n6_5)).trans (Blocks.put_same _ _ _))
  have m6 := hH g6 _ (Blocks.put_same _ _ _)
  have hl1 := hx.keep hl (by simp)
  have HB1 := Lib.hid (HB0.out.trans (hx.below_of (b := w.heap.size) (by simp) HB0.out.size))
  clear hx hH HB0
  have c5 := blk_cell m5 0 rfl
  have cl := blk_cell hl1 0 rfl
  go_wp2_with (with_reducible refine wpList_from 14 [0, 2] [g6] _ (has_put (has_B0 _) m6) ?_)
  refine lex_quietE 1 (by kernel_rfl) (by rfl) ?_
  apply Exists.intro
  refine ⟨fun x hx => ?_, ?_⟩
  · clear hx
    simp only [List.take_succ_cons, List.take_zero]
    unfold Cx
    repeat (go_big_quiet_step (first | with_reducible exact KO.at _ _))
    exact wpQuiet_nil rfl
  simp only [List.drop_succ_cons, List.drop_zero]
  refine lex_store_all g6 _ _ _ (by rfl) (by rfl) (by rfl) (Blocks.put_same _ _ _) (by rfl) (Or.inl (by simp)) (by kernel_rfl) (by simp [Value.oneCell']) ?_
  refine lex_nil ?_
  intro w3 hx hH
  replace m6 := hH g6 _ (Blocks.put_same _ _ _)
  have HB3 := Lib.hid (HB1.out.trans (hx.below_of (b := w.heap.size) (by simp [q6]) HB1.out.size))
  clear hx hH HB1 c5 cl
  have c0_0 := blk_cell m6 0 rfl
  have c0_1 := blk_cell m6 1 rfl
  go_wp2_with fail
  exact bodyPost_ret (v := .agg #[.string a1, .string a2]) (by simp [results, Try.results74, go_sem, c0_0, c0_1]) rfl ⟨rfl, HB3.out⟩

end Go.Proofs.Ytbacloneddnaeaa
