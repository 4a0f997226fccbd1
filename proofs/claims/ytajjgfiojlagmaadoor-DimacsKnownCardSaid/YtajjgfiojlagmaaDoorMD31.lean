/- Texts of this claim, joined: DS. -/
import Derived.Test.YtajjgfiojlagmaaDoorMD26

/- How long what was read is when written. Plain. -/
namespace Go.Proofs.YtajjgfiojlagmaaDoor
open Go

def msr (st : DS) : Nat := 7 * st.sh.length + (st.ws.map fun x => 22 + x.2.length).sum + (st.L.map fun c => 7 * c.length + 2).sum + 7 * st.cl.length
section
variable {rd : List UInt8 → Bool}
theorem showGo_m : ∀ (l : List Int) (st : DS), msr (showGo st l).1 ≤ msr st + 7 * l.length
  | [], st => by simp [showGo]
  | v :: l, st => by
    unfold showGo
    split
    · simp only; omega
    split
    · simp only; omega
    · have ih := showGo_m l { st with sh := st.sh ++ [v] }
      have e : msr { st with sh := st.sh ++ [v] } = msr st + 7 := by simp [msr]; omega
      rw [List.length_cons]
      omega
theorem litsGo_m : ∀ (l : List Int) (st : DS), msr (litsGo st l).1 ≤ msr st + 7 * l.length
  | [], st => by simp [litsGo]
  | v :: l, st => by
    unfold litsGo
    rw [List.length_cons]
    split
    · have ih := litsGo_m l { st with L := st.L ++ [st.cl], cl := [], op := false }
      have e : msr { st with L := st.L ++ [st.cl], cl := [], op := false } = msr st + 2 := by simp [msr]; omega
      omega
    split
    · simp only; omega
    split
    · simp only; omega
    · have ih := litsGo_m l { st with cl := st.cl ++ [v], op := true }
      have e : msr { st with cl := st.cl ++ [v], op := true } = msr st + 7 := by simp [msr]; omega
      omega
theorem len_sum {l : List (List UInt8)} (h : ∀ x ∈ l, x ≠ []) : l.length ≤ sumLen l := by
  induction l with
  | nil => simp [sumLen]
  | cons x l ih =>
    have h1 := List.length_pos_iff.2 (h x (List.mem_cons_self ..))
    have h2 := ih fun y hy => h y (List.mem_cons_of_mem _ hy)
    rw [sumLen_cons, List.length_cons]
    omega
theorem sumLen_take (l : List (List UInt8)) (n : Nat) : sumLen (l.take n) ≤ sumLen l := by
  induction l generalizing n with
  | nil => simp [sumLen]
  | cons x l ih =>
    cases n with
    | zero => simp [sumLen]
    | succ n => rw [List.take_succ_cons, sumLen_cons, sumLen_cons]; have := ih n; omega
theorem sumLen_drop' (l : List (List UInt8)) (n : Nat) : sumLen (l.drop n) ≤ sumLen l := by
  induction l generalizing n with
  | nil => simp [sumLen]
  | cons x l ih =>
    cases n with
    | zero => simp
    | succ n => rw [List.drop_succ_cons, sumLen_cons]; have := ih n; omega
theorem lineD_m (st : DS) (W : List (List UInt8)) (hW : ∀ x ∈ W, x ≠ []) : msr (lineD rd st W).1 ≤ msr st + 22 * sumLen W := by
  have hlen := len_sum hW
  cases W with
  | nil => simp [lineD]
  | cons w0 r =>
    have h0 := List.length_pos_iff.2 (hW w0 (List.mem_cons_self ..))
    have hr := len_sum (fun x hx => hW x (List.mem_cons_of_mem w0 hx))
    rw [sumLen_cons] at hlen ⊢
    rw [List.length_cons] at hlen
    unfold lineD
    simp only
    split
    · unfold problemD
      split
      · simp only; omega
      split
      · split
        · simp only; omega
        split
        · simp only; omega
        · simp only [msr]; omega
      · simp only; omega
    split
    · unfold commentD
      split
      · simp only; omega
      split
      · simp only; omega
      split
      · unfold showD
        split
        · simp only; omega
        · have h1 := showGo_m (((r.take (r.length - 1)).drop 2).map numZ) st
          rw [List.length_map, List.length_drop, List.length_take] at h1
          omega
      · unfold weightD
        split
        · simp only; omega
        split
        · simp only; omega
        split
        · simp only; omega
        split
        · simp only; omega
        · have hv : (((r.take (r.length - 1)).drop 2).getD 1 []).length ≤ sumLen r := by
            have a := sumLen_take r (r.length - 1)
            have b := sumLen_drop' (r.take (r.length - 1)) 2
            by_cases hl : 1 < ((r.take (r.length - 1)).drop 2).length
            · have hm : ((r.take (r.length - 1)).drop 2).getD 1 [] ∈ (r.take (r.length - 1)).drop 2 := by
                rw [List.getD_eq_getElem?_getD, List.getElem?_eq_getElem hl]
                exact List.getElem_mem hl
              have := mem_len hm
              omega
            · rw [List.getD_eq_getElem?_getD, List.getElem?_eq_none (by omega)]
              simp
          generalize ((r.take (r.length - 1)).drop 2).getD 1 [] = v at *
          simp only [msr, List.map_append, List.sum_append, List.map_cons, List.map_nil, List.sum_cons, List.sum_nil]
          omega
    · unfold litsD
      split
      · simp only; omega
      split
      · simp only; omega
      · have h1 := litsGo_m ((w0 :: r).map litD) st
        rw [List.length_map, List.length_cons] at h1
        omega
theorem words_sum (x : List UInt8) : sumLen (wordsD x) ≤ x.length := by
  have h1 := (pieces_len 32 x).1
  have h2 : ∀ l : List (List UInt8), sumLen (l.filter fun w => decide (w ≠ [])) ≤ sumLen l := by
    intro l
    induction l with
    | nil => simp [sumLen]
    | cons y l ih =>
      rw [List.filter_cons]
      split
      · rw [sumLen_cons, sumLen_cons]; omega
      · rw [sumLen_cons]; omega
  unfold wordsD
  have := h2 (pieces 32 x)
  omega
theorem words_ne (x : List UInt8) : ∀ w ∈ wordsD x, w ≠ [] := fun w hw => by
  unfold wordsD at hw
  have := (List.mem_filter.1 hw).2
  simpa using this
theorem linesGo_m : ∀ (l : List (List UInt8)) (st : DS) (i : Nat), msr (linesGo rd st i l).1 ≤ msr st + 22 * sumLen l
  | [], st, i => by simp [linesGo]
  | x :: l, st, i => by
    have h1 := lineD_m (rd := rd) st (wordsD x) (words_ne x)
    have h2 := words_sum x
    rw [sumLen_cons]
    unfold linesGo
    split
    · simp only; omega
    · have ih := linesGo_m l (lineD rd st (wordsD x)).1 (i + 1)
      omega
theorem parseD_m (l : List UInt8) : msr (parseD rd l).1 ≤ 22 * l.length := by
  have h1 := linesGo_m (rd := rd) (pieces 10 l) .zero 0
  have h2 := (pieces_len 10 l).1
  have z : msr DS.zero = 0 := rfl
  rw [z] at h1
  unfold parseD
  split
  · simp only [z]; omega
  split
  · simp only [z]; omega
  split
  · simp only [z]; omega
  split
  · simp only [z]; omega
  · simp only; omega
end
theorem lnN_le {c : List Int} (h : ∀ z ∈ c, -100000 < z ∧ z < 100000) : (lnN c).length ≤ 7 * c.length + 1 := by
  unfold lnN
  rw [List.length_append]
  have : (c.flatMap fun x => Lib.itoa x ++ [32]).length ≤ 7 * c.length := by
    induction c with
    | nil => simp
    | cons x c ih =>
      have hx := h x (List.mem_cons_self ..)
      have h6 := itoa_le6 hx.1 hx.2
      have := ih fun z hz => h z (List.mem_cons_of_mem _ hz)
      rw [List.flatMap_cons, List.length_append, List.length_append, List.length_cons]
      simp only [List.length_cons, List.length_nil]
      omega
  simp only [List.length_cons, List.length_nil]
  omega
theorem ptB_le {rd : List UInt8 → Bool} {n : Int} {L : List (List Int)} {sh : List Int} {ws : List (Int × List UInt8)} (h : FOk rd n L sh ws) : (ptB n L sh ws).length ≤ 60 + (7 * sh.length + (ws.map fun x => 22 + x.2.length).sum + (L.map fun c => 7 * c.length + 2).sum) := by
  have hn := itoa_le6 (z := n) (by have := h.n0; omega) (by have := h.n1; omega)
  have hm := itoa_le6 (z := (L.length : Int)) (by omega) (by have := h.l; omega)
  have hS := lnN_le (c := sh) (fun z hz => by have := h.shr z hz; have := h.n1; omega)
  have hW : (ws.flatMap fun x => lnW x ++ [10]).length ≤ (ws.map fun x => 22 + x.2.length).sum := by
    have hall : ∀ x ∈ ws, (Lib.itoa x.1).length ≤ 6 := fun x hx => by have := validD_in h.n1 (h.wsr x hx).1; exact itoa_le6 (by omega) (by omega)
    clear h hn hm hS
    induction ws with
    | nil => simp
    | cons x ws ih =>
      have := ih fun y hy => hall y (List.mem_cons_of_mem _ hy)
      have hx := hall x (List.mem_cons_self ..)
      have e : (lnW x ++ [10]).length = (Lib.itoa x.1).length + x.2.length + 15 := by simp [lnW]; omega
      rw [List.flatMap_cons, List.length_append, List.map_cons, List.sum_cons, e]
      omega
  have hL : (L.flatMap fun c => lnN c ++ [10]).length ≤ (L.map fun c => 7 * c.length + 2).sum := by
    have hall : ∀ c ∈ L, (lnN c).length ≤ 7 * c.length + 1 := fun c hc => lnN_le fun z hz => by have := validD_in h.n1 ((h.cls c hc).2 z hz); omega
    clear h hn hm hS hW
    induction L with
    | nil => simp
    | cons x L ih =>
      have := ih fun y hy => hall y (List.mem_cons_of_mem _ hy)
      have hx := hall x (List.mem_cons_self ..)
      rw [List.flatMap_cons, List.length_append, List.map_cons, List.sum_cons, List.length_append]
      simp only [List.length_cons, List.length_nil]
      omega
  unfold ptB linesP
  rw [List.flatMap_cons, List.flatMap_append, List.flatMap_append, List.flatMap_map, List.flatMap_map]
  simp only [List.length_append]
  have hP : (lnP n L.length).length ≤ 20 := by
    unfold lnP
    simp only [List.length_append, List.length_cons, List.length_nil]
    omega
  have hSS : ((if sh = [] then [] else [lnS sh]).flatMap fun x => x ++ [10]).length ≤ 7 * sh.length + 20 := by
    split
    · simp
    · unfold lnS
      simp only [List.flatMap_cons, List.flatMap_nil, List.length_append, List.length_cons, List.length_nil]
      omega
  simp only [List.length_cons, List.length_nil, List.length_append] at hSS hW hL ⊢
  omega
theorem one_short {rd : List UInt8 → Bool} {l : List UInt8} (hl : l.length ≤ 20000) (h : FOk rd (parseD rd l).1.n (parseD rd l).1.L (parseD rd l).1.sh (parseD rd l).1.ws) : (ptB (parseD rd l).1.n (parseD rd l).1.L (parseD rd l).1.sh (parseD rd l).1.ws).length ≤ 1048576 := by
  have h1 := ptB_le h
  have h2 := parseD_m (rd := rd) l
  unfold msr at h2
  omega
theorem showGo_ws : ∀ (l : List Int) (st : DS), (showGo st l).1.ws = st.ws
  | [], st => rfl
  | v :: l, st => by
    unfold showGo
    split
    · rfl
    split
    · rfl
    · rw [showGo_ws l]
theorem litsGo_ws : ∀ (l : List Int) (st : DS), (litsGo st l).1.ws = st.ws
  | [], st => rfl
  | v :: l, st => by
    unfold litsGo
    split
    · rw [litsGo_ws l]
    split
    · rfl
    split
    · rfl
    · rw [litsGo_ws l]
theorem lineD_vals {rd : List UInt8 → Bool} {N : Nat} {st : DS} {W : List (List UInt8)} (h : ∀ x ∈ st.ws, x.2.length ≤ N) (hW : ∀ u ∈ W, u.length ≤ N) : ∀ x ∈ (lineD rd st W).1.ws, x.2.length ≤ N := by
  unfold lineD
  split
  · exact h
  rename_i w0 r
  split
  · unfold problemD
    repeat' split
    all_goals exact h
  split
  · unfold commentD
    split
    · exact h
    split
    · exact h
    split
    · unfold showD
      split
      · exact h
      · rw [showGo_ws]; exact h
    · unfold weightD
      split
      · exact h
      split
      · exact h
      split
      · exact h
      split
      · exact h
      · intro x hx
        simp only at hx
        rcases List.mem_append.1 hx with hx | hx
        · exact h x hx
        · rw [List.mem_singleton.1 hx]
          simp only
          rw [List.getD_eq_getElem?_getD]
          cases hq : ((r.take (r.length - 1)).drop 2)[1]? with
          | none => simp
          | some v => exact hW v (List.mem_cons_of_mem _ (List.mem_of_mem_take (List.mem_of_mem_drop (List.mem_of_getElem? hq))))
  · unfold litsD
    split
    · exact h
    split
    · exact h
    · rw [litsGo_ws]; exact h
theorem linesGo_vals {rd : List UInt8 → Bool} {N : Nat} : ∀ (l : List (List UInt8)) (st : DS) (i : Nat), (∀ x ∈ st.ws, x.2.length ≤ N) → (∀ u ∈ l, u.length ≤ N) → ∀ x ∈ (linesGo rd st i l).1.ws, x.2.length ≤ N
  | [], st, i, h, _ => h
  | u :: l, st, i, h, hl => by
    have h1 : ∀ x ∈ (lineD rd st (wordsD u)).1.ws, x.2.length ≤ N := lineD_vals h fun v hv => Nat.le_trans (words_mem hv) (hl u (List.mem_cons_self ..))
    unfold linesGo
    split
    · exact h1
    · exact linesGo_vals l _ _ h1 fun v hv => hl v (List.mem_cons_of_mem _ hv)
theorem values_le {rd : List UInt8 → Bool} {l : List UInt8} : ∀ x ∈ (parseD rd l).1.ws, x.2.length ≤ l.length := by
  have h1 := linesGo_vals (rd := rd) (N := l.length) (pieces 10 l) .zero 0 (by simp [DS.zero]) (fun u hu => Nat.le_trans (mem_len hu) (pieces_len 10 l).1)
  have z : ∀ x ∈ DS.zero.ws, x.2.length ≤ l.length := by simp [DS.zero]
  unfold parseD
  split
  · exact z
  split
  · exact z
  split
  · exact z
  split
  · exact z
  · exact h1
end Go.Proofs.YtajjgfiojlagmaaDoor
