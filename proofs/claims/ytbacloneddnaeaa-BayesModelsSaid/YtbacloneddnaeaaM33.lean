/- Texts of this claim, joined: BModQ, BModR, BModB. -/
import Derived.Test.YtbacloneddnaeaaM32

/- The clauses and weights of an encoding, and its models; plain laws. -/
namespace Go.Proofs.Ytbacloneddnaeaa
open Num

/-! ### The clauses -/
theorem ESt.adds_Leq (s : ESt) : ∀ cs : List (List Int), (s.adds cs).L = s.L ++ cs
  | [] => by simp [ESt.adds]
  | c :: cs => by
    have := ESt.adds_Leq (s.add c) cs
    rw [show s.adds (c :: cs) = (s.add c).adds cs from rfl, this]
    simp [ESt.add]
theorem ESt.var_Leq (s : ESt) (k : Nat) : (s.var k).L = s.L ++ seqFrom s.N k :: pairsAt (seqFrom s.N k) k := by
  unfold ESt.var
  rw [ESt.adds_Leq]
  show ((s.nexts k).L ++ [seqFrom s.N k]) ++ _ = _
  rw [ESt.nexts_L]; simp
theorem vars_cl : ∀ (l : List BV) (s : ESt) (c : List Int), c ∈ (s.vars l).L ↔ c ∈ s.L ∨ ∃ i x, l[i]? = some x ∧ (c = seqFrom (s.N + kSum (l.take i)) x.k.toNat ∨ c ∈ pairsAt (seqFrom (s.N + kSum (l.take i)) x.k.toNat) x.k.toNat)
  | [], s, c => by simp [ESt.vars]
  | x :: l, s, c => by
    rw [ESt.vars_cons, vars_cl l, ESt.var_Leq, ESt.var_N, List.mem_append, List.mem_cons]
    constructor
    · rintro ((h | h | h) | ⟨i, y, hy, h⟩)
      · exact .inl h
      · exact .inr ⟨0, x, by simp, .inl (by simpa [kSum] using h)⟩
      · exact .inr ⟨0, x, by simp, .inr (by simpa [kSum] using h)⟩
      · refine .inr ⟨i + 1, y, by simpa using hy, ?_⟩
        simp only [List.take_succ_cons, kSum]
        rw [← Nat.add_assoc]; exact h
    · rintro (h | ⟨i, y, hy, h⟩)
      · exact .inl (.inl h)
      · cases i with
        | zero =>
          obtain rfl : x = y := by simpa using hy
          simp only [List.take_zero, kSum, Nat.add_zero] at h
          exact .inl (.inr h)
        | succ i =>
          refine .inr ⟨i, y, by simpa using hy, ?_⟩
          simp only [List.take_succ_cons, kSum] at h
          rw [Nat.add_assoc]; exact h
theorem ESt.row_Leq (s : ESt) (l : List BV) (i : Nat) (x : BV) (r : Nat) (p : Nat × Nat) : (s.row l i x r p).L = s.L ++ ((rowIs l s.ind i x r).map (fun y => -y) ++ [(s.N : Int) + 1]) :: (rowIs l s.ind i x r).map fun y => [-((s.N : Int) + 1), y] := by
  unfold ESt.row
  rw [ESt.adds_Leq]
  simp [ESt.add, ESt.next]
def RowCl (l : List BV) (ind : List (List Int)) (i : Nat) (x : BV) (r N : Nat) (c : List Int) : Prop := c = (rowIs l ind i x r).map (fun y => -y) ++ [((N + 1 : Nat) : Int)] ∨ ∃ y ∈ rowIs l ind i x r, c = [-((N + 1 : Nat) : Int), y]
theorem rows_cl (s : ESt) (l : List BV) (i : Nat) (x : BV) (c : List Int) : ∀ j, c ∈ (s.rows l i x j).L ↔ c ∈ s.L ∨ ∃ r, r < j ∧ RowCl l s.ind i x r (s.N + r) c
  | 0 => by simp [ESt.rows]
  | j + 1 => by
    rw [ESt.rows_succ, ESt.row_Leq, List.mem_append, List.mem_cons, rows_cl s l i x c j, ESt.rows_ind, ESt.rows_N]
    have e : ((s.N + j : Nat) : Int) + 1 = ((s.N + j + 1 : Nat) : Int) := by omega
    rw [e]
    constructor
    · rintro ((h | ⟨r, hr, h⟩) | h | h)
      · exact .inl h
      · exact .inr ⟨r, by omega, h⟩
      · exact .inr ⟨j, by omega, .inl h⟩
      · obtain ⟨y, hy, rfl⟩ := List.mem_map.1 h
        exact .inr ⟨j, by omega, .inr ⟨y, hy, rfl⟩⟩
    · rintro (h | ⟨r, hr, h⟩)
      · exact .inl (.inl h)
      · rcases Nat.lt_or_ge r j with h1 | h1
        · exact .inl (.inr ⟨r, h1, h⟩)
        · obtain rfl : r = j := by omega
          rcases h with h | ⟨y, hy, h⟩
          · exact .inr (.inl h)
          · exact .inr (.inr (List.mem_map.2 ⟨y, hy, h.symm⟩))
theorem tables_cl (s : ESt) (l : List BV) (c : List Int) : ∀ j, j ≤ l.length → (c ∈ (s.tables l j).L ↔ c ∈ s.L ∨ ∃ i x r, i < j ∧ l[i]? = some x ∧ r < x.tab.length ∧ RowCl l s.ind i x r (s.N + tSum (l.take i) + r) c)
  | 0, _ => by simp [ESt.tables]
  | j + 1, hj => by
    obtain ⟨x, hx⟩ : ∃ x, l[j]? = some x := ⟨_, List.getElem?_eq_getElem hj⟩
    rw [ESt.tables_succ s l j x hx, rows_cl, tables_cl s l c j (by omega), ESt.tables_ind, ESt.tables_N s l j (by omega)]
    constructor
    · rintro ((h | ⟨i, y, r, hi, h⟩) | ⟨r, hr, h⟩)
      · exact .inl h
      · exact .inr ⟨i, y, r, by omega, h⟩
      · exact .inr ⟨j, x, r, by omega, hx, hr, h⟩
    · rintro (h | ⟨i, y, r, hi, hy, hr, h⟩)
      · exact .inl (.inl h)
      · rcases Nat.lt_or_ge i j with h1 | h1
        · exact .inl (.inr ⟨i, y, r, h1, hy, hr, h⟩)
        · obtain rfl : i = j := by omega
          rw [hx] at hy; cases hy
          exact .inr ⟨r, hr, h⟩
theorem encOf_cl (l : List BV) (c : List Int) : c ∈ (encOf l).L ↔ (∃ i x, l[i]? = some x ∧ (c = seqFrom (kSum (l.take i)) x.k.toNat ∨ c ∈ pairsAt (seqFrom (kSum (l.take i)) x.k.toNat) x.k.toNat)) ∨ ∃ i x r, l[i]? = some x ∧ r < x.tab.length ∧ RowCl l (est0.vars l).ind i x r (kSum l + tSum (l.take i) + r) c := by
  unfold encOf
  rw [tables_cl _ l c l.length (Nat.le_refl _), vars_cl, ESt.vars_N]
  simp only [show est0.N = 0 from rfl, Nat.zero_add, show est0.L = [] from rfl, List.not_mem_nil, false_or]
  constructor
  · rintro (h | ⟨i, x, r, _, h⟩)
    · exact .inl h
    · exact .inr ⟨i, x, r, h⟩
  · rintro (h | ⟨i, x, r, hx, h⟩)
    · exact .inl h
    · exact .inr ⟨i, x, r, (List.getElem?_eq_some_iff.1 hx).1, hx, h⟩
theorem encOf_ind (l : List BV) : (encOf l).ind = (est0.vars l).ind := ESt.tables_ind _ _ _
theorem encOf_N (l : List BV) : (encOf l).N = kSum l + tSum l := by
  unfold encOf
  rw [ESt.tables_N _ l l.length (Nat.le_refl _), ESt.vars_N, List.take_length]
  show est0.N + _ + _ = _
  rw [show est0.N = 0 from rfl, Nat.zero_add]

/-! ### The intended model satisfies them -/
def Sat (l : List BV) (vs : List Nat) (y : Int) : Prop := (0 < y ∧ Tru l vs y) ∨ (y < 0 ∧ ¬ Tru l vs (-y))
theorem seq_get {N k m : Nat} (h : m < k) : (seqFrom N k)[m]? = some ((N + m + 1 : Nat) : Int) := by
  simp only [seqFrom, List.getElem?_map, List.getElem?_range h, Option.map_some]
  congr 1; omega
theorem seq_mem {N k : Nat} {y : Int} (h : y ∈ seqFrom N k) : ∃ m, m < k ∧ y = ((N + m + 1 : Nat) : Int) := by
  obtain ⟨j, hj, rfl⟩ := List.mem_map.1 h
  exact ⟨j, List.mem_range.1 hj, by omega⟩
theorem pairs_iff {N k : Nat} {c : List Int} : c ∈ pairsAt (seqFrom N k) k ↔ ∃ a b, a < b ∧ b < k ∧ c = [-((N + a + 1 : Nat) : Int), -((N + b + 1 : Nat) : Int)] := by
  unfold pairsAt
  constructor
  · intro h
    obtain ⟨a, ha, h2⟩ := List.mem_flatMap.1 h
    obtain ⟨y, hy, rfl⟩ := List.mem_map.1 h2
    obtain ⟨m, hm⟩ := List.getElem?_of_mem hy
    rw [List.getElem?_drop] at hm
    have hl := (List.getElem?_eq_some_iff.1 hm).1
    rw [seqFrom_length] at hl
    rw [seq_get hl] at hm
    refine ⟨a, a + 1 + m, by omega, hl, ?_⟩
    have e : (seqFrom N k).getD a 0 = ((N + a + 1 : Nat) : Int) := by rw [List.getD_eq_getElem?_getD, seq_get (by omega)]; rfl
    rw [e, ← Option.some.inj hm]
  · rintro ⟨a, b, hab, hb, rfl⟩
    refine List.mem_flatMap.2 ⟨a, List.mem_range.2 (by omega), List.mem_map.2 ⟨((N + b + 1 : Nat) : Int), ?_, ?_⟩⟩
    · refine List.mem_of_getElem? (i := b - (a + 1)) ?_
      rw [List.getElem?_drop, show a + 1 + (b - (a + 1)) = b by omega, seq_get hb]
    · have e : (seqFrom N k).getD a 0 = ((N + a + 1 : Nat) : Int) := by rw [List.getD_eq_getElem?_getD, seq_get (by omega)]; rfl
      rw [e]
theorem rowIs_pos {l : List BV} (hg : Good l) {vs : List Nat} (hf : Fit l vs) {i r : Nat} {x : BV} (hx : l[i]? = some x) : ∀ y ∈ rowIs l (est0.vars l).ind i x r, 0 < y ∧ y ≤ kSum l := by
  have hi := (List.getElem?_eq_some_iff.1 hx).1
  have hp : ∀ p ∈ x.ps, 0 ≤ p ∧ p.toNat < l.length := fun p hp => by have := hg.par i x hx p hp; omega
  have hk1 : 1 ≤ x.k.toNat := by have := hg.kb i x hx; omega
  have hml : r % x.k.toNat < x.k.toNat := Nat.mod_lt _ (by omega)
  have hb := kSum_bound hx
  unfold rowIs
  rw [ind_dig hx hml]
  have key : ∀ (d j : Nat), j + d = x.ps.length → ∀ y ∈ (digsAt l (est0.vars l).ind x.ps ([((kSum (l.take i) + r % x.k.toNat + 1 : Nat) : Int)], r / x.k.toNat) (downTo x.ps.length j)).1, 0 < y ∧ y ≤ kSum l := by
    intro d
    induction d with
    | zero =>
      intro j hj y hy
      obtain rfl : j = x.ps.length := by omega
      rw [downTo_start] at hy
      have : y = ((kSum (l.take i) + r % x.k.toNat + 1 : Nat) : Int) := List.mem_singleton.1 hy
      omega
    | succ d ih =>
      intro j hj y hy
      rw [downTo_step (show j < x.ps.length by omega), digsAt_snoc] at hy
      rcases List.mem_append.1 hy with hy | hy
      · exact ih (j + 1) (by omega) y hy
      · obtain ⟨pn, z, e1, _, hz, hk, hk1⟩ := dig_at hf hp (show j < x.ps.length by omega)
        have hy := List.mem_singleton.1 hy
        rw [e1, Int.toNat_natCast, hk, ind_dig hz (Nat.mod_lt _ (by omega))] at hy
        have := kSum_bound hz
        have h2 := Nat.mod_lt (digsAt l (est0.vars l).ind x.ps ([((kSum (l.take i) + r % x.k.toNat + 1 : Nat) : Int)], r / x.k.toNat) (downTo x.ps.length (j + 1))).2 (show 0 < z.k.toNat by omega)
        omega
  exact fun y hy => key x.ps.length 0 (by omega) y (List.mem_reverse.1 hy)

theorem encOf_sat {l : List BV} (hc : checkE l = 0) (hg : Good l) {vs : List Nat} (hf : Fit l vs) {c : List Int} (h : c ∈ (encOf l).L) : ∃ y ∈ c, Sat l vs y := by
  rw [encOf_cl] at h
  rcases h with ⟨i, x, hx, h | h⟩ | ⟨i, x, r, hx, hr, h⟩
  · subst h
    have hv := fit_get hf hx
    refine ⟨_, List.mem_of_getElem? (seq_get hv), .inl ⟨by omega, (tru_ind hf hx hv).2 rfl⟩⟩
  · obtain ⟨a, b, hab, hb, rfl⟩ := pairs_iff.1 h
    by_cases ha : a = vs.getD i 0
    · refine ⟨-((kSum (l.take i) + b + 1 : Nat) : Int), by simp, .inr ⟨by omega, ?_⟩⟩
      rw [Int.neg_neg, tru_ind hf hx hb]; omega
    · refine ⟨-((kSum (l.take i) + a + 1 : Nat) : Int), by simp, .inr ⟨by omega, ?_⟩⟩
      rw [Int.neg_neg, tru_ind hf hx (by omega)]; exact ha
  · have ht := row_tru hc hg hf hx hr
    have hp := tru_par hg hf hx hr
    have hpos := rowIs_pos hg hf hx (r := r)
    by_cases hall : r = rowOf l vs i x
    · rcases h with rfl | ⟨y, hy, rfl⟩
      · exact ⟨_, List.mem_append.2 (.inr (List.mem_singleton.2 rfl)), .inl ⟨by omega, hp.2 hall⟩⟩
      · exact ⟨y, by simp, .inl ⟨(hpos y hy).1, ht.2 hall y hy⟩⟩
    · rcases h with rfl | ⟨y, hy, rfl⟩
      · have : ∃ y ∈ rowIs l (est0.vars l).ind i x r, ¬ Tru l vs y := by
          refine Classical.byContradiction fun hn => hall (ht.1 fun y hy => Classical.byContradiction fun h => hn ⟨y, hy, h⟩)
        obtain ⟨y, hy, hn⟩ := this
        refine ⟨-y, List.mem_append.2 (.inl (List.mem_map.2 ⟨y, hy, rfl⟩)), .inr ⟨by have := hpos y hy; omega, by rw [Int.neg_neg]; exact hn⟩⟩
      · refine ⟨_, List.mem_cons_self .., .inr ⟨by omega, ?_⟩⟩
        rw [Int.neg_neg]
        exact fun hh => hall (hp.1 hh)

/-! ### In any model, exactly one indicator of each variable is true -/
theorem count_one {p : Int → Bool} : ∀ (xs : List Int), (∃ y ∈ xs, p y = true) → (∀ (a b : Nat) (u v : Int), a < b → xs[a]? = some u → xs[b]? = some v → ¬ (p u = true ∧ p v = true)) → xs.countP p = 1
  | [], h, _ => by obtain ⟨y, hy, _⟩ := h; simp at hy
  | x :: xs, h, hd => by
    by_cases hx : p x = true
    · rw [List.countP_cons_of_pos hx]
      have : xs.countP p = 0 := by
        rw [List.countP_eq_zero]
        intro y hy hpy
        obtain ⟨b, hb⟩ := List.getElem?_of_mem hy
        exact hd 0 (b + 1) x y (by omega) (by simp) (by simpa using hb) ⟨hx, hpy⟩
      omega
    · rw [List.countP_cons_of_neg hx]
      refine count_one xs ?_ fun a b u v hab hu hv => hd (a + 1) (b + 1) u v (by omega) (by simpa using hu) (by simpa using hv)
      obtain ⟨y, hy, hp⟩ := h
      rcases List.mem_cons.1 hy with rfl | hy
      · exact absurd hp hx
      · exact ⟨y, hy, hp⟩
def litB (p : Int → Bool) (y : Int) : Bool := if 0 < y then p y else !p (-y)
theorem enc_once {l : List BV} {p : Int → Bool} (h : ∀ c ∈ (encOf l).L, ∃ y ∈ c, litB p y = true) {i : Nat} {x : BV} (hx : l[i]? = some x) : (seqFrom (kSum (l.take i)) x.k.toNat).countP p = 1 := by
  refine count_one _ ?_ fun a b u v hab hu hv => ?_
  · obtain ⟨y, hy, hp⟩ := h _ ((encOf_cl l _).2 (.inl ⟨i, x, hx, .inl rfl⟩))
    obtain ⟨m, hm, rfl⟩ := seq_mem hy
    refine ⟨_, hy, ?_⟩
    unfold litB at hp
    rwa [if_pos (by omega)] at hp
  · have hb := (List.getElem?_eq_some_iff.1 hv).1
    rw [seqFrom_length] at hb
    rw [seq_get (by omega)] at hu
    rw [seq_get hb] at hv
    cases hu; cases hv
    rintro ⟨h1, h2⟩
    obtain ⟨y, hy, hp⟩ := h _ ((encOf_cl l _).2 (.inl ⟨i, x, hx, .inr (pairs_iff.2 ⟨a, b, hab, hb, rfl⟩)⟩))
    unfold litB at hp
    simp only [List.mem_cons, List.not_mem_nil, or_false] at hy
    rcases hy with rfl | rfl
    · rw [if_neg (by omega), Int.neg_neg, h1] at hp; cases hp
    · rw [if_neg (by omega), Int.neg_neg, h2] at hp; cases hp

/-! ### Weights -/
theorem ESt.adds_high (s : ESt) : ∀ cs : List (List Int), (s.adds cs).high = s.high
  | [] => rfl
  | c :: cs => ESt.adds_high (s.add c) cs
theorem ESt.nexts_high (s : ESt) : ∀ k, (s.nexts k).high = s.high ++ List.replicate k (1, 1)
  | 0 => by simp [ESt.nexts]
  | k + 1 => by
    show (s.nexts k).high ++ [(1, 1)] = _
    rw [ESt.nexts_high s k, List.append_assoc, List.replicate_succ']
theorem ESt.vars_high : ∀ (l : List BV) (s : ESt), (s.vars l).high = s.high ++ List.replicate (kSum l) (1, 1)
  | [], s => by simp [ESt.vars, kSum]
  | x :: l, s => by
    rw [ESt.vars_cons, ESt.vars_high l]
    unfold ESt.var
    rw [ESt.adds_high]
    show (s.nexts x.k.toNat).high ++ _ = _
    rw [ESt.nexts_high, List.append_assoc, List.replicate_append_replicate]; rfl
theorem ESt.rows_high (s : ESt) (l : List BV) (i : Nat) (x : BV) : ∀ j, j ≤ x.tab.length → (s.rows l i x j).high = s.high ++ x.tab.take j
  | 0, _ => by simp [ESt.rows]
  | j + 1, h => by
    obtain ⟨p, hp⟩ : ∃ p, x.tab[j]? = some p := ⟨_, List.getElem?_eq_getElem h⟩
    rw [ESt.rows_succ, take_snoc_of hp]
    unfold ESt.row
    rw [ESt.adds_high]
    show (s.rows l i x j).high ++ [x.tab.getD j (0, 1)] = _
    rw [ESt.rows_high s l i x j (by omega), List.getD_eq_getElem?_getD, hp, List.append_assoc]; rfl
theorem ESt.tables_high (s : ESt) (l : List BV) : ∀ j, j ≤ l.length → (s.tables l j).high = s.high ++ (l.take j).flatMap (·.tab)
  | 0, _ => by simp [ESt.tables]
  | j + 1, h => by
    obtain ⟨x, hx⟩ : ∃ x, l[j]? = some x := ⟨_, List.getElem?_eq_getElem h⟩
    rw [ESt.tables_succ s l j x hx, ESt.rows_high _ _ _ _ _ (Nat.le_refl _), ESt.tables_high s l j (by omega), take_snoc_of hx, List.take_length, List.flatMap_append]
    simp
theorem encOf_high (l : List BV) : (encOf l).high = (1, 1) :: (List.replicate (kSum l) (1, 1) ++ l.flatMap (·.tab)) := by
  unfold encOf
  rw [ESt.tables_high _ l l.length (Nat.le_refl _), ESt.vars_high, List.take_length]
  simp [est0]
theorem tab_get : ∀ {l : List BV} {i r : Nat} {x : BV}, l[i]? = some x → r < x.tab.length → (l.flatMap (·.tab))[tSum (l.take i) + r]? = x.tab[r]?
  | [], i, r, x, h, _ => by simp at h
  | y :: l, 0, r, x, h, hr => by
    obtain rfl : y = x := by simpa using h
    rw [List.flatMap_cons, List.take_zero]
    simp only [tSum, Nat.zero_add]
    exact List.getElem?_append_left hr
  | y :: l, i + 1, r, x, h, hr => by
    rw [List.flatMap_cons, List.take_succ_cons]
    simp only [tSum]
    rw [List.getElem?_append_right (by omega), show y.tab.length + tSum (l.take i) + r - y.tab.length = tSum (l.take i) + r by omega]
    exact tab_get (by simpa using h) hr
theorem high_ind {l : List BV} {v : Nat} (h : v ≤ kSum l) : (encOf l).high[v]? = some (1, 1) := by
  rw [encOf_high]
  cases v with
  | zero => rfl
  | succ v =>
    rw [List.getElem?_cons_succ, List.getElem?_append_left (by simp; omega), List.getElem?_replicate, if_pos (by omega)]
theorem high_par {l : List BV} {i r : Nat} {x : BV} (hx : l[i]? = some x) (hr : r < x.tab.length) : (encOf l).high[kSum l + tSum (l.take i) + r + 1]? = x.tab[r]? := by
  rw [encOf_high, List.getElem?_cons_succ, List.getElem?_append_right (by simp; omega), ← tab_get hx hr]
  congr 1
  simp; omega

noncomputable def wProd (l : List BV) (vs : List Nat) : Nat → Nat × Nat
  | 0 => (1, 1)
  | v + 1 => @ite _ (Tru l vs ((v + 1 : Nat) : Int)) (Classical.propDecidable _) (Q.mul (wProd l vs v) (nz ((encOf l).high.getD (v + 1) (0, 0)))) (wProd l vs v)
theorem wProd_yes {l : List BV} {vs : List Nat} {v : Nat} (h : Tru l vs ((v + 1 : Nat) : Int)) : wProd l vs (v + 1) = Q.mul (wProd l vs v) (nz ((encOf l).high.getD (v + 1) (0, 0))) := by
  rw [show wProd l vs (v + 1) = @ite _ (Tru l vs ((v + 1 : Nat) : Int)) (Classical.propDecidable _) (Q.mul (wProd l vs v) (nz ((encOf l).high.getD (v + 1) (0, 0)))) (wProd l vs v) from rfl, if_pos h]
theorem wProd_no {l : List BV} {vs : List Nat} {v : Nat} (h : ¬ Tru l vs ((v + 1 : Nat) : Int)) : wProd l vs (v + 1) = wProd l vs v := by
  rw [show wProd l vs (v + 1) = @ite _ (Tru l vs ((v + 1 : Nat) : Int)) (Classical.propDecidable _) (Q.mul (wProd l vs v) (nz ((encOf l).high.getD (v + 1) (0, 0)))) (wProd l vs v) from rfl, if_neg h]
theorem wProd_ind (l : List BV) (vs : List Nat) : ∀ v, v ≤ kSum l → wProd l vs v = (1, 1)
  | 0, _ => rfl
  | v + 1, h => by
    have ih := wProd_ind l vs v (by omega)
    by_cases ht : Tru l vs ((v + 1 : Nat) : Int)
    · rw [wProd_yes ht, ih, List.getD_eq_getElem?_getD, high_ind h]
      exact Q.mul1 Q.low11
    · rw [wProd_no ht, ih]
theorem wProd_row {l : List BV} (hg : Good l) {vs : List Nat} (hf : Fit l vs) {i : Nat} {x : BV} (hx : l[i]? = some x) (h0 : wProd l vs (kSum l + tSum (l.take i)) = prodV l vs i) : ∀ r, r ≤ x.tab.length → wProd l vs (kSum l + tSum (l.take i) + r) = if r ≤ rowOf l vs i x then prodV l vs i else prodV l vs (i + 1)
  | 0, _ => by rw [if_pos (Nat.zero_le _)]; exact h0
  | r + 1, h => by
    have ih := wProd_row hg hf hx h0 r (by omega)
    have hp := tru_par hg hf hx (show r < x.tab.length by omega)
    rw [show kSum l + tSum (l.take i) + (r + 1) = (kSum l + tSum (l.take i) + r) + 1 by omega]
    by_cases he : r = rowOf l vs i x
    · rw [wProd_yes (hp.2 he), ih, if_pos (by omega), if_neg (by omega), prodV_succ, List.getD_eq_getElem?_getD, high_par hx (by omega)]
      congr 1
      unfold pAt
      rw [hx]
      show nz (x.tab[r]?.getD (0, 0)) = nz (x.tab.getD (rowOf l vs i x) (0, 0))
      rw [he, List.getD_eq_getElem?_getD]
    · rw [wProd_no (fun h => he (hp.1 h)), ih]
      by_cases h1 : r ≤ rowOf l vs i x
      · rw [if_pos h1, if_pos (by omega)]
      · rw [if_neg h1, if_neg (by omega)]
theorem wProd_tab {l : List BV} (hg : Good l) {vs : List Nat} (hf : Fit l vs) : ∀ i, i ≤ l.length → wProd l vs (kSum l + tSum (l.take i)) = prodV l vs i
  | 0, _ => by
    rw [List.take_zero]
    exact wProd_ind l vs _ (by simp [tSum])
  | i + 1, h => by
    obtain ⟨x, hx⟩ : ∃ x, l[i]? = some x := ⟨_, List.getElem?_eq_getElem h⟩
    have h1 := wProd_row hg hf hx (wProd_tab hg hf i (by omega)) x.tab.length (Nat.le_refl _)
    have h2 : rowOf l vs i x < x.tab.length := hg.tab i x vs hx hf
    rw [if_neg (by omega)] at h1
    rw [(tSum_take l i x hx).2, ← Nat.add_assoc]
    exact h1
theorem wProd_all {l : List BV} (hg : Good l) {vs : List Nat} (hf : Fit l vs) : wProd l vs (encOf l).N = prodV l vs l.length := by
  have := wProd_tab hg hf l.length (Nat.le_refl _)
  rw [List.take_length] at this
  rw [encOf_N]; exact this
end Go.Proofs.Ytbacloneddnaeaa

/- Unit propagation, as the reference does it; plain laws. -/
namespace Go.Proofs.Ytbacloneddnaeaa

def falseB (S : List Int) (c : List Int) : Bool := c.all fun y => S.contains (-y)
def unitF (S : List Int) : List Int → Int → Int
  | [], x => x
  | y :: c, x => if y ∈ S then 0 else if -y ∈ S then unitF S c x else if x ≠ 0 ∧ x ≠ y then 0 else unitF S c y
def badB (S : List Int) (c : List Int) : Bool := falseB S c || decide (unitF S c 0 ≠ 0)

theorem falseB_iff {S c : List Int} : falseB S c = true ↔ ∀ y ∈ c, -y ∈ S := by
  simp [falseB]

theorem unit_spec (S : List Int) : ∀ (c : List Int) (x0 x : Int), (∀ y ∈ c, y ≠ 0) → unitF S c x0 = x → x ≠ 0 → (∀ y ∈ c, y = x ∨ -y ∈ S) ∧ (x0 = 0 ∨ x0 = x) ∧ (x0 = x ∨ (x ∈ c ∧ x ∉ S ∧ -x ∉ S))
  | [], x0, x, _, h, h0 => by
    have : x0 = x := h
    exact ⟨by simp, .inr this, .inl this⟩
  | y :: c, x0, x, hc, h, h0 => by
    have hc' : ∀ z ∈ c, z ≠ 0 := fun z hz => hc z (by simp [hz])
    unfold unitF at h
    split at h
    · exact absurd h.symm h0
    · rename_i hy
      split at h
      · rename_i hn
        obtain ⟨h1, h2, h3⟩ := unit_spec S c x0 x hc' h h0
        refine ⟨fun z hz => ?_, h2, h3.imp id fun ⟨a, b, d⟩ => ⟨by simp [a], b, d⟩⟩
        rcases List.mem_cons.1 hz with rfl | hz
        · exact .inr hn
        · exact h1 z hz
      · rename_i hn
        split at h
        · exact absurd h.symm h0
        · rename_i hx
          obtain ⟨h1, h2, h3⟩ := unit_spec S c y x hc' h h0
          have hyx : y = x := h2.resolve_left (hc y (by simp))
          subst hyx
          refine ⟨fun z hz => ?_, ?_, .inr ⟨by simp, hy, hn⟩⟩
          · rcases List.mem_cons.1 hz with rfl | hz
            · exact .inl rfl
            · exact h1 z hz
          · by_cases e : x0 = 0
            · exact .inl e
            · exact .inr (Classical.byContradiction fun e2 => hx ⟨e, e2⟩)

structure PInv (P : Int → Prop) (n : Nat) (S : List Int) : Prop where
  sat : ∀ y ∈ S, P y ∧ y ≠ 0 ∧ -(n : Int) ≤ y ∧ y ≤ n
  nd : S.Nodup
structure PCl (P : Int → Prop) (n : Nat) (L : List (List Int)) : Prop where
  sat : ∀ c ∈ L, ∃ y ∈ c, P y
  val : ∀ c ∈ L, ∀ y ∈ c, y ≠ 0 ∧ -(n : Int) ≤ y ∧ y ≤ n
  con : ∀ y, P y → ¬ P (-y)

theorem p_false {P : Int → Prop} {n : Nat} {S : List Int} {L : List (List Int)} (hL : PCl P n L) (hS : PInv P n S) {c : List Int} (hc : c ∈ L) : falseB S c = false := by
  cases h : falseB S c with
  | false => rfl
  | true =>
    obtain ⟨y, hy, hp⟩ := hL.sat c hc
    exact absurd (hS.sat _ (falseB_iff.1 h y hy)).1 (hL.con y hp)
theorem p_unit {P : Int → Prop} {n : Nat} {S : List Int} {L : List (List Int)} (hL : PCl P n L) (hS : PInv P n S) {c : List Int} (hc : c ∈ L) (h0 : unitF S c 0 ≠ 0) : PInv P n (S ++ [unitF S c 0]) ∧ unitF S c 0 ∉ S := by
  obtain ⟨h1, _, h3⟩ := unit_spec S c 0 _ (fun y hy => (hL.val c hc y hy).1) rfl h0
  have h3 := h3.resolve_left (Ne.symm h0)
  obtain ⟨y, hy, hp⟩ := hL.sat c hc
  have he : y = unitF S c 0 := (h1 y hy).resolve_right fun hn => hL.con y hp (hS.sat _ hn).1
  refine ⟨⟨fun z hz => ?_, ?_⟩, h3.2.1⟩
  · rcases List.mem_append.1 hz with hz | hz
    · exact hS.sat z hz
    · rw [List.mem_singleton.1 hz]
      refine ⟨he ▸ hp, hL.val c hc _ h3.1⟩
  · rw [List.nodup_append]
    refine ⟨hS.nd, by simp, fun a ha b hb e => ?_⟩
    rw [List.mem_singleton.1 hb] at e
    exact h3.2.1 (e ▸ ha)
theorem nodup_le : ∀ (n : Nat) (l : List Nat), l.Nodup → (∀ x ∈ l, 1 ≤ x ∧ x ≤ n) → l.length ≤ n
  | 0, l, _, h => by
    cases l with
    | nil => simp
    | cons x l => have := h x (by simp); omega
  | n + 1, l, hn, h => by
    have ih := nodup_le n (l.erase (n + 1)) (hn.erase _) fun x hx => by
      have h1 := (List.Nodup.mem_erase_iff hn).1 hx
      have h2 := h x h1.2
      omega
    have := List.length_erase (a := n + 1) (l := l)
    split at this <;> omega
theorem p_len {P : Int → Prop} {n : Nat} {S : List Int} (hcon : ∀ y, P y → ¬ P (-y)) (hS : PInv P n S) : S.length ≤ n := by
  have hm : (S.map Int.natAbs).Nodup := by
    rw [List.Nodup, List.pairwise_map]
    refine hS.nd.imp_of_mem fun {a b} ha hb hab e => ?_
    have h1 := (hS.sat a ha).1
    have h2 := (hS.sat b hb).1
    rcases Int.natAbs_eq_natAbs_iff.1 e with h | h
    · exact hab h
    · rw [h] at h1
      exact hcon b h2 h1
  have := nodup_le n _ hm fun x hx => by
    obtain ⟨y, hy, rfl⟩ := List.mem_map.1 hx
    have := hS.sat y hy
    omega
  simpa using this

def Stuck (S : List Int) (L : List (List Int)) : Prop := ∀ c ∈ L, badB S c = false
theorem stuck_unit {S : List Int} {L : List (List Int)} (h : Stuck S L) {c : List Int} (hc : c ∈ L) : unitF S c 0 = 0 := by
  have := h c hc
  unfold badB at this
  rw [Bool.or_eq_false_iff] at this
  have h2 := this.2
  simpa using h2

/-! ### At the encoding -/
section
variable {l : List BV} (hc : checkE l = 0) (hg : Good l) {vs : List Nat} (hf : Fit l vs)
include hc hg hf

theorem enc_pcl : PCl (Sat l vs) (encOf l).N (encOf l).L := by
  refine ⟨fun c h => encOf_sat hc hg hf h, fun c h y hy => ?_, fun y h1 h2 => ?_⟩
  · rw [encOf_cl] at h
    rw [encOf_N]
    rcases h with ⟨i, x, hx, h | h⟩ | ⟨i, x, r, hx, hr, h⟩
    · subst h
      obtain ⟨m, hm, rfl⟩ := seq_mem hy
      have := kSum_bound hx
      omega
    · obtain ⟨a, b, hab, hb, rfl⟩ := pairs_iff.1 h
      have := kSum_bound hx
      simp only [List.mem_cons, List.not_mem_nil, or_false] at hy
      rcases hy with rfl | rfl <;> omega
    · have hpos := rowIs_pos hg hf hx (r := r)
      have h2 := (tSum_take l i x hx).1
      rcases h with rfl | ⟨z, hz, rfl⟩
      · rcases List.mem_append.1 hy with hy | hy
        · obtain ⟨z, hz, rfl⟩ := List.mem_map.1 hy
          have := hpos z hz
          omega
        · rw [List.mem_singleton.1 hy]
          omega
      · have := hpos z hz
        simp only [List.mem_cons, List.not_mem_nil, or_false] at hy
        rcases hy with rfl | rfl <;> omega
  · rcases h1 with ⟨a, b⟩ | ⟨a, b⟩ <;> rcases h2 with ⟨d, e⟩ | ⟨d, e⟩
    · omega
    · rw [Int.neg_neg] at e; exact e b
    · exact b e
    · omega

omit hc hg hf in
theorem num_cases {v : Nat} (h1 : 1 ≤ v) (h2 : v ≤ (encOf l).N) : (∃ i x m, l[i]? = some x ∧ m < x.k.toNat ∧ v = kSum (l.take i) + m + 1) ∨ ∃ i x r, l[i]? = some x ∧ r < x.tab.length ∧ v = kSum l + tSum (l.take i) + r + 1 := by
  rw [encOf_N] at h2
  have key : ∀ (f : BV → Nat) (S : List BV → Nat), S [] = 0 → (∀ x l, S (x :: l) = f x + S l) → ∀ (l : List BV) (u : Nat), u < S l → ∃ i x m, l[i]? = some x ∧ m < f x ∧ u = S (l.take i) + m := by
    intro f S h0 hs l
    induction l with
    | nil => intro u hu; omega
    | cons x l ih =>
      intro u hu
      rw [hs] at hu
      by_cases hux : u < f x
      · exact ⟨0, x, u, by simp, hux, by simp [h0]⟩
      · obtain ⟨i, y, m, hi, hm, he⟩ := ih (u - f x) (by omega)
        refine ⟨i + 1, y, m, by simpa using hi, hm, ?_⟩
        rw [List.take_succ_cons, hs]; omega
  by_cases hk : v ≤ kSum l
  · obtain ⟨i, x, m, hx, hm, he⟩ := key (fun x => x.k.toNat) kSum rfl (fun _ _ => rfl) l (v - 1) (by omega)
    exact .inl ⟨i, x, m, hx, hm, by omega⟩
  · obtain ⟨i, x, r, hx, hr, he⟩ := key (fun x => x.tab.length) tSum rfl (fun _ _ => rfl) l (v - kSum l - 1) (by omega)
    exact .inr ⟨i, x, r, hx, hr, by omega⟩

theorem enc_done {S : List Int} (hS : PInv (Sat l vs) (encOf l).N S) (hst : Stuck S (encOf l).L) (hd : ∀ (i : Nat) (x : BV) (m : Nat), l[i]? = some x → m < x.k.toNat → ((kSum (l.take i) + m + 1 : Nat) : Int) ∈ S ∨ -((kSum (l.take i) + m + 1 : Nat) : Int) ∈ S) {v : Nat} (h1 : 1 ≤ v) (h2 : v ≤ (encOf l).N) : (v : Int) ∈ S ∨ -(v : Int) ∈ S := by
  have hcon := (enc_pcl hc hg hf).con
  rcases num_cases h1 h2 with ⟨i, x, m, hx, hm, rfl⟩ | ⟨i, x, r, hx, hr, rfl⟩
  · exact hd i x m hx hm
  · refine Classical.byContradiction fun hn => ?_
    rw [not_or] at hn
    obtain ⟨hn1, hn2⟩ := hn
    have hpos := rowIs_pos hg hf hx (r := r)
    have hdec : ∀ y ∈ rowIs l (est0.vars l).ind i x r, y ∈ S ∨ -y ∈ S := fun y hy => by
      have hy1 := hpos y hy
      obtain ⟨u, rfl⟩ : ∃ u : Nat, y = u := ⟨y.toNat, by omega⟩
      rcases num_cases (l := l) (v := u) (by omega) (by rw [encOf_N]; omega) with ⟨j, z, m, hz, hm, rfl⟩ | ⟨j, z, q, hz, hq, rfl⟩
      · exact hd j z m hz hm
      · omega
    by_cases hall : ∀ y ∈ rowIs l (est0.vars l).ind i x r, y ∈ S
    · have hcl : (rowIs l (est0.vars l).ind i x r).map (fun y => -y) ++ [((kSum l + tSum (l.take i) + r + 1 : Nat) : Int)] ∈ (encOf l).L := (encOf_cl l _).2 (.inr ⟨i, x, r, hx, hr, .inl rfl⟩)
      have hu := stuck_unit hst hcl
      have hskip : ∀ (ys : List Int), (∀ y ∈ ys, y ∈ S) → unitF S (ys.map (fun y => -y) ++ [((kSum l + tSum (l.take i) + r + 1 : Nat) : Int)]) 0 = ((kSum l + tSum (l.take i) + r + 1 : Nat) : Int) := by
        intro ys
        induction ys with
        | nil =>
          intro _
          show unitF S [_] 0 = _
          unfold unitF
          rw [if_neg hn1, if_neg hn2, if_neg (by simp)]
          rfl
        | cons y ys ih =>
          intro h
          have hy := h y (by simp)
          show unitF S (-y :: (ys.map (fun y => -y) ++ _)) 0 = _
          unfold unitF
          rw [if_neg (fun hm => hcon y (hS.sat y hy).1 (hS.sat _ hm).1), if_pos (by rw [Int.neg_neg]; exact hy)]
          exact ih fun z hz => h z (by simp [hz])
      rw [hskip _ hall] at hu
      omega
    · obtain ⟨y, hy, hny⟩ : ∃ y ∈ rowIs l (est0.vars l).ind i x r, y ∉ S := Classical.byContradiction fun h => hall fun y hy => Classical.byContradiction fun h2 => h ⟨y, hy, h2⟩
      have hyn := (hdec y hy).resolve_left hny
      have hcl : [-((kSum l + tSum (l.take i) + r + 1 : Nat) : Int), y] ∈ (encOf l).L := (encOf_cl l _).2 (.inr ⟨i, x, r, hx, hr, .inr ⟨y, hy, rfl⟩⟩)
      have hu := stuck_unit hst hcl
      unfold unitF at hu
      rw [if_neg hn2, if_neg (by rw [Int.neg_neg]; exact hn1), if_neg (by simp)] at hu
      unfold unitF at hu
      rw [if_neg hny, if_pos hyn] at hu
      unfold unitF at hu
      omega
end
end Go.Proofs.Ytbacloneddnaeaa

/- Steps, clauses and lists of literals, as the reference reads them. -/
namespace Go.Proofs.Ytbacloneddnaeaa
open Go.RowKit Go.Shelf Num

def steps (T : List (Int × Int × Int)) : List Value := T.flatMap fun t => [.int .i64 t.1, .int .i64 t.2.1, .int .i64 t.2.2]
def litsOf (T : List (Int × Int × Int)) : List Int := T.map (·.1)
theorem steps_get : ∀ {T : List (Int × Int × Int)} {i : Nat} {t : Int × Int × Int}, T[i]? = some t → (steps T)[i * 3]? = some (.int .i64 t.1)
  | [], _, _, h => by simp at h
  | q :: T, 0, p, h => by
    simp at h; subst h
    rfl
  | q :: T, i + 1, p, h => by
    have h1 := steps_get (T := T) (i := i) (t := p) (by simpa using h)
    have e : steps (q :: T) = .int .i64 q.1 :: .int .i64 q.2.1 :: .int .i64 q.2.2 :: steps T := rfl
    rw [e, show (i + 1) * 3 = (i * 3) + 1 + 1 + 1 by omega]
    exact h1
theorem steps_snoc (T : List (Int × Int × Int)) (t : Int × Int × Int) : steps (T ++ [t]) = steps T ++ [.int .i64 t.1, .int .i64 t.2.1, .int .i64 t.2.2] := by simp [steps]
theorem unitF_cons (S : List Int) (y : Int) (c : List Int) (x : Int) : unitF S (y :: c) x = if y ∈ S then 0 else if -y ∈ S then unitF S c x else if x ≠ 0 ∧ x ≠ y then 0 else unitF S c y := rfl
theorem mem_take_succ {l : List Int} {j : Nat} {y : Int} (h : l[j]? = some y) {x : Int} : x ∈ l.take (j + 1) ↔ x ∈ l.take j ∨ x = y := by
  rw [take_snoc_of h, List.mem_append, List.mem_singleton]

set_option maxHeartbeats 1600000 in
set_option maxRecDepth 100000 in
theorem xtrue_law (N : Nat) (T : List (Int × Int × Int)) (a : Option Addr) (c : Nat) (x : Int) (hl : T.length ≤ 100000) (w : World) (hT : AtN N w a (steps T)) (hw : N ≤ w.heap.size) :
    Calls Try.prog 91 #[.slice a T.length c, .int .i64 x] w fun e w' => e = .returned (.bool (decide (x ∈ litsOf T))) ∧ Below w.heap.size w w' := by
  have HT := Lib.hid hT
  clear hT
  go_enter Try.func91, Try.ntmps91
  go_wp2_with fail
  go_loopw [5] (fun i wr => ∃ j : Nat, j ≤ T.length ∧ i = .int .i64 j ∧ Hid (x ∉ (litsOf T).take j) ∧ Hid (Below w.heap.size w wr)) (fun i _ => T.length - (intOf i).toNat)
  case atStart => exact ⟨0, Nat.zero_le _, rfl, by simp [Hid], Below.refl _ _⟩
  case round =>
    obtain ⟨j, hj, rfl, HX, HB⟩ := hrel
    by_cases hlt : j < T.length
    · have hd : decide (j < T.length) = true := by simpa using hlt
      obtain ⟨t, ht⟩ : ∃ t, T[j]? = some t := ⟨_, List.getElem?_eq_getElem hlt⟩
      obtain ⟨b, o, hb, rfl, k0⟩ := HT.out _ _ (steps_get ht)
      have c0 := below_cell HB.out (show b < w.heap.size by omega) k0
      have hlt2 : (litsOf T)[j]? = some t.1 := by simp [litsOf, ht]
      by_cases he : t.1 = x
      · have HM := Lib.hid (show decide (x ∈ litsOf T) = true from decide_eq_true (he ▸ List.mem_of_getElem? hlt2))
        have hq : (t.1 == x) = true := by simp [he]
        clear ht k0 hlt2
        go_wp2_with fail
        go_ret
        exact ⟨by rw [HM.out]; rfl, HB.out⟩
      · have hq : (t.1 == x) = false := beq_no he
        have HX2 := Lib.hid (show x ∉ (litsOf T).take (j + 1) from fun hm => ((mem_take_succ hlt2).1 hm).elim HX.out (fun e => he e.symm))
        clear ht k0 hlt2
        go_wp2_with fail
        go_roundw
        case rel => exact ⟨j + 1, by omega, by go_num, HX2.out, HB.out⟩
        case measure => simp [intOf]; omega
    · obtain rfl : j = T.length := by omega
      have HM := Lib.hid (show decide (x ∈ litsOf T) = false from decide_eq_false (by
        have := HX.out
        rwa [List.take_of_length_le (by simp [litsOf])] at this))
      go_wp2_with fail
      go_ret
      exact ⟨by rw [HM.out]; rfl, HB.out⟩

set_option maxHeartbeats 1600000 in
set_option maxRecDepth 100000 in
theorem xopen_law (N : Nat) (T : List (Int × Int × Int)) (a : Option Addr) (c : Nat) (x : Int) (hx : -1000 ≤ x ∧ x ≤ 1000) (hl : T.length ≤ 100000) (w : World) (hT : AtN N w a (steps T)) (hw : N ≤ w.heap.size) :
    Calls Try.prog 92 #[.slice a T.length c, .int .i64 x] w fun e w' => e = .returned (.bool (decide (x ∉ litsOf T ∧ -x ∉ litsOf T))) ∧ Below w.heap.size w w' := by
  obtain ⟨hx1, hx2⟩ := hx
  have HT := Lib.hid hT
  clear hT
  go_enter Try.func92, Try.ntmps92
  go_wp2_with fail
  refine (xtrue_law N T a c x hl w HT.out hw).mono ?_
  rintro r1 w1 ⟨rfl, hB1⟩
  have HB1 := Lib.hid hB1
  by_cases h : x ∈ litsOf T
  · have HR := Lib.hid (show decide (x ∉ litsOf T ∧ -x ∉ litsOf T) = false from decide_eq_false fun h2 => h2.1 h)
    rw [decide_eq_true h]
    clear hB1 h
    go_wp2_with fail
    go_ret
    exact ⟨by rw [HR.out]; rfl, HB1.out⟩
  · have HR := Lib.hid (show decide (x ∉ litsOf T ∧ -x ∉ litsOf T) = !decide (-x ∈ litsOf T) by simp [h])
    rw [decide_eq_false h]
    clear hB1 h
    go_wp2_with fail
    refine (xtrue_law N T a c (-x) hl w1 (HT.out.below HB1.out hw) (Nat.le_trans hw HB1.out.size)).mono ?_
    rintro r2 w2 ⟨rfl, hB2⟩
    have HB2 := Lib.hid (HB1.out.trans (hB2.mono HB1.out.size))
    clear hB2
    generalize decide (-x ∈ litsOf T) = q at *
    go_wp2_with fail
    go_ret
    exact ⟨by rw [HR.out]; rfl, HB2.out⟩

set_option maxHeartbeats 1600000 in
set_option maxRecDepth 100000 in
theorem xfalse_law (N : Nat) (T : List (Int × Int × Int)) (ys : List Int) (a ca : Option Addr) (c cc : Nat) (hy : ∀ y ∈ ys, -1000 ≤ y ∧ y ≤ 1000) (hl : T.length ≤ 100000) (hyl : ys.length ≤ 100000) (w : World) (hT : AtN N w a (steps T)) (hC : AtN N w ca (ints ys)) (hw : N ≤ w.heap.size) :
    Calls Try.prog 109 #[.slice a T.length c, .slice ca ys.length cc] w fun e w' => e = .returned (.bool (falseB (litsOf T) ys)) ∧ Below w.heap.size w w' := by
  have HT := Lib.hid hT
  have HC := Lib.hid hC
  have HY := Lib.hid hy
  clear hT hC hy
  go_enter Try.func109, Try.ntmps109
  go_wp2_with fail
  go_loopw [5] (fun i wr => ∃ j : Nat, j ≤ ys.length ∧ i = .int .i64 j ∧ Hid (∀ y ∈ ys.take j, -y ∈ litsOf T) ∧ Hid (Below w.heap.size w wr)) (fun i _ => ys.length - (intOf i).toNat)
  case atStart => exact ⟨0, Nat.zero_le _, rfl, by simp [Hid], Below.refl _ _⟩
  case round =>
    obtain ⟨j, hj, rfl, HX, HB⟩ := hrel
    by_cases hlt : j < ys.length
    · have hd : decide (j < ys.length) = true := by simpa using hlt
      obtain ⟨y, hyj⟩ : ∃ y, ys[j]? = some y := ⟨_, List.getElem?_eq_getElem hlt⟩
      obtain ⟨hy1, hy2⟩ := HY.out y (List.mem_of_getElem? hyj)
      obtain ⟨b, o, hb, rfl, k0⟩ := HC.out _ _ (ints_get _ _ _ hyj)
      have c0 := below_cell HB.out (show b < w.heap.size by omega) k0
      have HYJ := Lib.hid hyj
      clear hyj k0
      go_wp2_with fail
      refine (xtrue_law N T a c (-y) hl wr (HT.out.below HB.out hw) (Nat.le_trans hw HB.out.size)).mono ?_
      rintro r2 w2 ⟨rfl, hB2⟩
      have HB2 := Lib.hid (HB.out.trans (hB2.mono HB.out.size))
      clear hB2 c0
      by_cases he : -y ∈ litsOf T
      · have HX2 := Lib.hid (show ∀ z ∈ ys.take (j + 1), -z ∈ litsOf T from fun z hz => ((mem_take_succ HYJ.out).1 hz).elim (HX.out z) (fun e => e ▸ he))
        rw [decide_eq_true he]
        clear he
        go_wp2_with fail
        go_roundw
        case rel => exact ⟨j + 1, by omega, by go_num, HX2.out, HB2.out⟩
        case measure => simp [intOf]; omega
      · have HM := Lib.hid (show falseB (litsOf T) ys = false by
          cases h : falseB (litsOf T) ys with
          | false => rfl
          | true => exact absurd (falseB_iff.1 h y (List.mem_of_getElem? HYJ.out)) he)
        rw [decide_eq_false he]
        clear he
        go_wp2_with fail
        go_ret
        exact ⟨by rw [HM.out]; rfl, HB2.out⟩
    · obtain rfl : j = ys.length := by omega
      have HM := Lib.hid (show falseB (litsOf T) ys = true from falseB_iff.2 (by
        have := HX.out
        rwa [List.take_length] at this))
      have hd : decide (ys.length < ys.length) = false := by simp
      go_wp2_with fail
      go_ret
      exact ⟨by rw [HM.out]; rfl, HB.out⟩

set_option maxHeartbeats 1600000 in
set_option maxRecDepth 100000 in
theorem xunit_law (N : Nat) (T : List (Int × Int × Int)) (ys : List Int) (a ca : Option Addr) (c cc : Nat) (hy : ∀ y ∈ ys, -1000 ≤ y ∧ y ≤ 1000) (hl : T.length ≤ 100000) (hyl : ys.length ≤ 100000) (w : World) (hT : AtN N w a (steps T)) (hC : AtN N w ca (ints ys)) (hw : N ≤ w.heap.size) :
    Calls Try.prog 110 #[.slice a T.length c, .slice ca ys.length cc] w fun e w' => e = .returned (.int .i64 (unitF (litsOf T) ys 0)) ∧ Below w.heap.size w w' := by
  have HT := Lib.hid hT
  have HC := Lib.hid hC
  have HY := Lib.hid hy
  clear hT hC hy
  go_enter Try.func110, Try.ntmps110
  go_wp2_with fail
  go_loopw [5, 6] (fun x i wr => ∃ (j : Nat) (q : Int), j ≤ ys.length ∧ i = .int .i64 j ∧ x = .int .i64 q ∧ Hid (unitF (litsOf T) ys 0 = unitF (litsOf T) (ys.drop j) q) ∧ Hid (Below w.heap.size w wr)) (fun _ i _ => ys.length - (intOf i).toNat)
  case atStart => exact ⟨0, 0, Nat.zero_le _, rfl, rfl, rfl, Below.refl _ _⟩
  case round =>
    obtain ⟨j, q, hj, rfl, rfl, HX, HB⟩ := hrel
    by_cases hlt : j < ys.length
    · have hd : decide (j < ys.length) = true := by simpa using hlt
      obtain ⟨y, hyj⟩ : ∃ y, ys[j]? = some y := ⟨_, List.getElem?_eq_getElem hlt⟩
      obtain ⟨hy1, hy2⟩ := HY.out y (List.mem_of_getElem? hyj)
      obtain ⟨b, o, hb, rfl, k0⟩ := HC.out _ _ (ints_get _ _ _ hyj)
      have hbw : b < w.heap.size := by omega
      have c0 := below_cell HB.out hbw k0
      have K0 := Lib.hid k0
      have hdrop : ys.drop j = y :: ys.drop (j + 1) := by
        obtain ⟨hi, e⟩ := List.getElem?_eq_some_iff.1 hyj
        rw [List.drop_eq_getElem_cons hi, e]
      have hU := HX.out
      rw [hdrop, unitF_cons] at hU
      have HU := Lib.hid hU
      clear hyj k0 hdrop hU HX
      go_wp2_with fail
      refine (xtrue_law N T a c y hl wr (HT.out.below HB.out hw) (Nat.le_trans hw HB.out.size)).mono ?_
      rintro r2 w2 ⟨rfl, hB2⟩
      have HB2 := Lib.hid (HB.out.trans (hB2.mono HB.out.size))
      clear hB2 c0
      by_cases he : y ∈ litsOf T
      · have HV := Lib.hid (HU.out.trans (if_pos he))
        rw [decide_eq_true he]
        clear he HU
        go_wp2_with fail
        go_ret
        exact ⟨by rw [HV.out]; rfl, HB2.out⟩
      have HV := Lib.hid (HU.out.trans (if_neg he))
      have HNE := Lib.hid he
      rw [decide_eq_false he]
      have c1 := below_cell HB2.out hbw K0.out
      clear he HU
      go_wp2_with fail
      refine (xopen_law N T a c y ⟨hy1, hy2⟩ hl w2 (HT.out.below HB2.out hw) (Nat.le_trans hw HB2.out.size)).mono ?_
      rintro r3 w3 ⟨rfl, hB3⟩
      have HB3 := Lib.hid (HB2.out.trans (hB3.mono HB2.out.size))
      clear hB3 c1
      by_cases hn : -y ∈ litsOf T
      · have HZ := Lib.hid (HV.out.trans (if_pos hn))
        rw [show decide (y ∉ litsOf T ∧ -y ∉ litsOf T) = false from decide_eq_false fun h => h.2 hn]
        clear hn HV
        go_wp2_with fail
        go_roundw
        case rel => exact ⟨j + 1, q, by omega, by go_num, rfl, HZ, HB3⟩
        case measure => simp [intOf]; omega
      have HZ := Lib.hid (HV.out.trans (if_neg hn))
      rw [show decide (y ∉ litsOf T ∧ -y ∉ litsOf T) = true from decide_eq_true ⟨HNE.out, hn⟩]
      have c2 := below_cell HB3.out hbw K0.out
      clear hn HV
      by_cases hq0 : q = 0
      · subst hq0
        have HW := Lib.hid (HZ.out.trans (if_neg (by simp)))
        clear HZ
        go_wp2_with fail
        go_roundw
        case rel => exact ⟨j + 1, y, by omega, by go_num, rfl, HW, HB3⟩
        case measure => simp [intOf]; omega
      · have hq1 : (q != 0) = true := by simp [bne, beq_no hq0]
        by_cases hqy : q = y
        · subst hqy
          have HW := Lib.hid (HZ.out.trans (if_neg (by simp)))
          have hq2 : (q != q) = false := by simp
          clear HZ
          go_wp2_with fail
          go_roundw
          case rel => exact ⟨j + 1, q, by omega, by go_num, rfl, HW, HB3⟩
          case measure => simp [intOf]; omega
        · have HW := Lib.hid (HZ.out.trans (if_pos ⟨hq0, hqy⟩))
          have hq2 : (q != y) = true := by simp [bne, beq_no hqy]
          clear HZ
          go_wp2_with fail
          go_ret
          exact ⟨by rw [HW.out]; rfl, HB3.out⟩
    · obtain rfl : j = ys.length := by omega
      have HM := Lib.hid (show unitF (litsOf T) ys 0 = q by rw [HX.out, List.drop_length]; rfl)
      have hd : decide (ys.length < ys.length) = false := by simp
      go_wp2_with fail
      go_ret
      exact ⟨by rw [HM.out]; rfl, HB.out⟩
end Go.Proofs.Ytbacloneddnaeaa
