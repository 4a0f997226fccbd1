/- Sums: Parse reads exactly what Print writes; the reference reads the same. Plain. -/
import Derived.Test.YtchamkbnapjidaaDoorSQ
namespace Go.Proofs.YtchamkbnapjidaaDoor
open Go

theorem tTerm_succ (i : Nat) (c v : Int) : tTerm (i + 1) c v = tTerm 1 c v := by
  unfold tTerm; rw [if_neg (show ¬ i + 1 = 0 by omega), if_neg (show ¬ (1 : Nat) = 0 by omega)]
theorem flat_zip (g : Int → Int → List UInt8) : ∀ (C L : List Int), C.length = L.length → (List.range C.length).flatMap (fun i => g (C.getD i 0) (L.getD i 0)) = (C.zip L).flatMap fun x => g x.1 x.2
  | [], [], _ => rfl
  | [], _ :: _, h => by simp at h
  | _ :: _, [], h => by simp at h
  | c :: C, v :: L, h => by
    have ih := flat_zip g C L (by simpa using h)
    rw [List.length_cons, List.range_succ_eq_map, List.flatMap_cons, List.flatMap_map, List.zip_cons_cons, List.flatMap_cons, ← ih]; rfl
theorem tTs_flat : ∀ ts : List (Int × Int), tTs ts = ts.flatMap fun x => tTerm 1 x.1 x.2
  | [] => rfl
  | (c, v) :: ts => by
    rw [List.flatMap_cons, ← tTs_flat ts]
    have e : tTs ((c, v) :: ts) = (if c < 0 then [32, 45, 32] ++ Lib.itoa (-c) else [32, 43, 32] ++ Lib.itoa c) ++ (tLit v ++ tTs ts) := rfl
    rw [e]
    unfold tTerm
    rw [if_neg (by omega : ¬ (1 : Nat) = 0)]
    simp only [List.append_assoc]
theorem tTerms_cons (c v : Int) (C L : List Int) (m : Int) (h : C.length = L.length) : tTerms ⟨c :: C, v :: L, m⟩ (C.length + 1) = Lib.itoa c ++ (tLit v ++ tTs (C.zip L)) := by
  unfold tTerms
  rw [List.range_succ_eq_map, List.flatMap_cons, List.flatMap_map, tTs_flat, ← flat_zip _ C L h]
  have e : (fun a => tTerm (Nat.succ a) ((c :: C).getD (Nat.succ a) 0) ((v :: L).getD (Nat.succ a) 0)) = fun i => tTerm 1 (C.getD i 0) (L.getD i 0) := by
    funext i
    rw [Nat.succ_eq_add_one, tTerm_succ]; rfl
  simp only [e]
  unfold tTerm
  rw [if_pos rfl]
  simp only [List.append_assoc]; rfl
theorem zip_fst : ∀ (C L : List Int), C.length = L.length → (C.zip L).map (·.1) = C
  | [], [], _ => rfl
  | [], _ :: _, h => by simp at h
  | _ :: _, [], h => by simp at h
  | c :: C, v :: L, h => by rw [List.zip_cons_cons, List.map_cons, zip_fst C L (by simpa using h)]
theorem zip_snd : ∀ (C L : List Int), C.length = L.length → (C.zip L).map (·.2) = L
  | [], [], _ => rfl
  | [], _ :: _, h => by simp at h
  | _ :: _, [], h => by simp at h
  | c :: C, v :: L, h => by rw [List.zip_cons_cons, List.map_cons, zip_snd C L (by simpa using h)]
theorem mem_zip {C L : List Int} {x : Int × Int} (h : x ∈ C.zip L) : x.1 ∈ C ∧ x.2 ∈ L := by
  obtain ⟨a, b⟩ := x
  exact ⟨(List.of_mem_zip h).1, (List.of_mem_zip h).2⟩

theorem head_zero {c v : Int} {r : List UInt8} : Lib.hasPrefix (Lib.itoa c ++ (tLit v ++ r)) [48, 32, 62, 61, 32] = false := by
  by_cases h1 : 1 ≤ c
  · have := itoa_head_zero (r := tLit v ++ r) h1
    cases hb : Lib.hasPrefix (Lib.itoa c ++ (tLit v ++ r)) [48, 32, 62, 61, 32] with
    | false => rfl
    | true =>
      have e := prefix_split hb
      rw [e] at this; cases this
  · by_cases h2 : c < 0
    · have e : Lib.itoa c = 45 :: Lib.decDigits c.natAbs := by unfold Lib.itoa; rw [if_pos h2]
      rw [e]; rfl
    · have hc : c = 0 := by omega
      subst hc
      have e : Lib.itoa 0 = [48] := by unfold Lib.itoa; rw [if_neg (by omega)]; exact Lib.decDigits_one (by omega)
      rw [e]
      unfold tLit
      split <;> rfl
theorem noSign_end (m : Int) : noSign (tEnd m) := ⟨rfl, rfl⟩
theorem noDig_end (m : Int) : noDig (tEnd m) := noDig_blank _
/-- What is written is read as it was. -/
theorem parse_text {s : PS} (h : s.Ok 128) : parseS (textS s) = some s := by
  obtain ⟨C, L, m⟩ := s
  have hchk := check_ok.2 h
  have hlen := h.len
  have h64 := h.l64
  have hm0 := h.m0
  have hm1 := h.m1
  have hnum : numP true ((tEnd m).drop 4) = some (m, []) := by
    have := numP_itoa (signed := true) (n := m) (r := []) (Or.inr rfl) (by simp only at hm0; omega) (by simp only at hm1; omega) noDig_nil
    rw [List.append_nil] at this
    exact this
  have hend : Lib.hasPrefix (tEnd m) [32, 62, 61, 32] = true := rfl
  have key : headP (textS ⟨C, L, m⟩) = some (C.zip L, tEnd m) := by
    cases C with
    | nil =>
      cases L with
      | nil => rfl
      | cons _ _ => simp at hlen
    | cons c C =>
      cases L with
      | nil => simp at hlen
      | cons v L =>
        simp only [List.length_cons] at hlen h64
        have e : textS ⟨c :: C, v :: L, m⟩ = Lib.itoa c ++ (tLit v ++ (tTs (C.zip L) ++ tEnd m)) := by
          unfold textS
          simp only [List.length_cons]
          rw [if_neg (by omega), tTerms_cons c v C L m (by omega)]
          simp only [List.append_assoc]
        rw [e]
        unfold headP
        rw [head_zero]
        simp only [Bool.false_eq_true, if_false]
        have hin : ∀ x ∈ (c :: C), inTen x := fun x hx => by have := h.co x hx; unfold inTen; omega
        have hin2 : ∀ x ∈ (v :: L), inTen x := fun x hx => by have := h.lit x hx; unfold inTen; omega
        have := terms_text (noDig_end m) (noSign_end m) (C.zip L) 65 true 1 c v (by rw [List.length_zip]; omega) (Or.inl rfl) (Or.inr rfl) (hin _ (List.mem_cons_self ..)) (hin2 _ (List.mem_cons_self ..)) (fun x hx => ⟨hin _ (List.mem_cons_of_mem _ (mem_zip hx).1), hin2 _ (List.mem_cons_of_mem _ (mem_zip hx).2)⟩)
        rw [show 1 * c = c by omega] at this
        rw [this]; rfl
  unfold parseS
  rw [key]
  simp only []
  rw [hend, hnum]
  simp only [Bool.true_eq_false, if_false]
  rw [zip_fst C L hlen, zip_snd C L hlen, hchk]
  simp
/-- What is read was written so. -/
theorem text_parse {l : List UInt8} {s : PS} (h : parseS l = some s) : textS s = l ∧ s.Ok 128 := by
  unfold parseS at h
  split at h
  · cases h
  rename_i ts l1 h1
  split at h
  · cases h
  rename_i hp
  split at h
  · cases h
  rename_i m l2 h2
  split at h
  · cases h
  rename_i hc
  simp only [Option.some.injEq] at h
  subst h
  simp only [not_or, ne_eq, Classical.not_not] at hc
  obtain ⟨rfl, hc⟩ := hc
  have hok := check_ok.1 hc
  refine ⟨?_, hok⟩
  obtain ⟨e2, _⟩ := itoa_of_num h2
  rw [Bool.not_eq_false] at hp
  have e1 := prefix_split hp
  have e1' : l1 = tEnd m := by
    rw [e1]; unfold tEnd
    rw [show ([32, 62, 61, 32] : List UInt8).length = 4 from rfl, e2, List.append_nil]
  unfold headP at h1
  split at h1
  · rename_i hp0
    simp only [Option.some.injEq, Prod.mk.injEq] at h1
    obtain ⟨rfl, rfl⟩ := h1
    have e0 := prefix_split hp0
    have e3 : l = 48 :: l.drop 1 := by
      conv => lhs; rw [e0]
      conv => rhs; rw [e0]
      rfl
    rw [e3, e1']; rfl
  · obtain ⟨c, v, ts', rfl, e, _, q⟩ := text_terms 65 l true 1 ts (Or.inl rfl) h1 (fun x hx => (hok.lit x.2 (List.mem_map.2 ⟨x, hx, rfl⟩)).1)
    rw [show 1 * c = c by omega, e1'] at e
    rw [e]
    unfold textS
    simp only [List.map_cons, List.length_cons]
    rw [if_neg (by omega)]
    have := tTerms_cons c v (ts'.map (·.1)) (ts'.map (·.2)) m (by simp)
    rw [this]
    have ez : (ts'.map (·.1)).zip (ts'.map (·.2)) = ts' := by
      rw [List.zip_map']; simp
    rw [ez]
    simp only [List.append_assoc]

/-! ### The reference's reading -/
def wStep (st : List (List UInt8) × List UInt8) (c : UInt8) : List (List UInt8) × List UInt8 := if c = 32 then (st.1 ++ [st.2], []) else (st.1, st.2 ++ [c])
def wordsR (l : List UInt8) : List (List UInt8) := (l.foldl wStep ([], [])).1 ++ [(l.foldl wStep ([], [])).2]
def noBlank (w : List UInt8) : Prop := ∀ c ∈ w, c ≠ 32
theorem w_word : ∀ (w : List UInt8) (o : List (List UInt8)) (a : List UInt8), noBlank w → w.foldl wStep (o, a) = (o, a ++ w)
  | [], o, a, _ => by simp
  | c :: w, o, a, h => by
    rw [List.foldl_cons]
    have e : wStep (o, a) c = (o, a ++ [c]) := by unfold wStep; rw [if_neg (h c (List.mem_cons_self ..))]
    rw [e]
    have := w_word w o (a ++ [c]) fun d hd => h d (List.mem_cons_of_mem _ hd)
    rw [this]; simp
def joinB : List (List UInt8) → List UInt8
  | [] => []
  | [w] => w
  | w :: x :: ws => w ++ 32 :: joinB (x :: ws)
theorem w_join : ∀ (ws : List (List UInt8)) (w : List UInt8) (o : List (List UInt8)), noBlank w → (∀ x ∈ ws, noBlank x) → (joinB (w :: ws)).foldl wStep (o, []) = (o ++ (w :: ws).dropLast, (w :: ws).getLast (by simp))
  | [], w, o, h, _ => by
    show w.foldl wStep (o, []) = _
    rw [w_word w o [] h]; simp
  | x :: ws, w, o, h, hs => by
    show (w ++ 32 :: joinB (x :: ws)).foldl wStep (o, []) = _
    rw [List.foldl_append, w_word w o [] h, List.foldl_cons]
    have e : wStep (o, [] ++ w) 32 = (o ++ [w], []) := rfl
    rw [e, w_join ws x (o ++ [w]) (hs x (List.mem_cons_self ..)) fun y hy => hs y (List.mem_cons_of_mem _ hy)]
    simp
theorem words_join {ws : List (List UInt8)} (h0 : ws ≠ []) (h : ∀ x ∈ ws, noBlank x) : wordsR (joinB ws) = ws := by
  cases ws with
  | nil => exact absurd rfl h0
  | cons w ws =>
    unfold wordsR
    rw [w_join ws w [] (h w (List.mem_cons_self ..)) fun x hx => h x (List.mem_cons_of_mem _ hx)]
    simp only [List.nil_append]
    exact List.dropLast_concat_getLast (by simp)

def numS (l : List UInt8) : Bool := decide (l.head? = some 45)
def numR (l : List UInt8) : Int :=
  let x := if numS l then l.drop 1 else l
  if x.all isDig && decide (x.length ≤ 10) then (if numS l then -1 else 1) * (decV x : Nat) else 0
theorem numR_itoa {n : Int} (h1 : -10000000000 < n) (h2 : n < 10000000000) : numR (Lib.itoa n) = n := by
  by_cases hn : n < 0
  · have e : Lib.itoa n = 45 :: Lib.decDigits n.natAbs := by unfold Lib.itoa; rw [if_pos hn]
    have hl := dd_len10 (show n.natAbs < 10000000000 by omega)
    unfold numR
    rw [e]
    have e1 : numS (45 :: Lib.decDigits n.natAbs) = true := rfl
    have e2 : (45 :: Lib.decDigits n.natAbs).drop 1 = Lib.decDigits n.natAbs := rfl
    have e3 : (Lib.decDigits n.natAbs).all isDig = true := List.all_eq_true.2 (dd_dig _)
    simp only [e1, e2, if_true, e3, hl, decide_true, Bool.and_self, dd_val]
    omega
  · have e : Lib.itoa n = Lib.decDigits n.toNat := by unfold Lib.itoa; rw [if_neg hn]
    have hl := dd_len10 (show n.toNat < 10000000000 by omega)
    unfold numR
    rw [e]
    have e1 : numS (Lib.decDigits n.toNat) = false := by
      unfold numS
      rw [decide_eq_false_iff_not]
      intro hh
      cases hd : Lib.decDigits n.toNat with
      | nil => exact dd_ne _ hd
      | cons a b =>
        rw [hd] at hh
        have ha := dd_dig n.toNat a (by rw [hd]; exact List.mem_cons_self ..)
        rw [List.head?_cons, Option.some.injEq] at hh
        subst hh; revert ha; decide
    have e3 : (Lib.decDigits n.toNat).all isDig = true := List.all_eq_true.2 (dd_dig _)
    simp only [e1, Bool.false_eq_true, if_false, e3, hl, decide_true, Bool.and_self, dd_val, if_true]
    omega

structure RSt where
  sg : Int
  C : List Int
  L : List Int
  m : Int
/-- One word: the one ahead, it, and the one behind. -/
def rStep (p : Option (List UInt8)) (w : List UInt8) (q : Option (List UInt8)) (st : RSt) : RSt :=
  let st := if w = [62, 61] then (match q with | some q => { st with m := numR q } | none => st) else st
  let st := match p with
    | none => st
    | some p =>
      let st : RSt := if 1 < w.length ∧ w.head? = some 120 then ⟨st.sg, st.C ++ [st.sg * numR p], st.L ++ [numR (w.drop 1)], st.m⟩ else st
      if 2 < w.length ∧ w.take 2 = [126, 120] then ⟨st.sg, st.C ++ [st.sg * numR p], st.L ++ [-numR (w.drop 2)], st.m⟩ else st
  let st : RSt := if w = [45] then { st with sg := -1 } else st
  if w = [43] then { st with sg := 1 } else st
def rGo : Option (List UInt8) → RSt → List (List UInt8) → RSt
  | _, st, [] => st
  | p, st, w :: ws => rGo (some w) (rStep p w ws.head? st) ws
def pvW (l : List (List UInt8)) (i : Nat) : Option (List UInt8) := if i = 0 then none else l[i - 1]?
def rLoop (l : List (List UInt8)) (j : Nat) : RSt := (List.range j).foldl (fun st i => rStep (pvW l i) (l.getD i []) l[i + 1]? st) ⟨1, [], [], 0⟩
theorem rLoop_succ (l : List (List UInt8)) (j : Nat) : rLoop l (j + 1) = rStep (pvW l j) (l.getD j []) l[j + 1]? (rLoop l j) := by
  unfold rLoop; rw [List.range_succ, List.foldl_append]; rfl
theorem rGo_go (l : List (List UInt8)) : ∀ (ws pre : List (List UInt8)), l = pre ++ ws → rGo (pvW l pre.length) (rLoop l pre.length) ws = rLoop l l.length
  | [], pre, h => by rw [List.append_nil] at h; subst h; rfl
  | w :: ws, pre, h => by
    have ih := rGo_go l ws (pre ++ [w]) (by rw [h]; simp)
    have e1 : l.getD pre.length [] = w := by rw [h]; simp [List.getD]
    have e2 : l[pre.length + 1]? = ws.head? := by
      rw [h, List.getElem?_append_right (by omega), show pre.length + 1 - pre.length = 1 by omega]
      cases ws <;> rfl
    have e3 : pvW l (pre ++ [w]).length = some w := by
      unfold pvW
      rw [if_neg (by simp), h]; simp
    rw [List.length_append, List.length_singleton, rLoop_succ, e1, e2] at ih
    rw [List.length_append, List.length_singleton] at e3
    rw [e3] at ih
    exact ih
def parseR (l : List UInt8) : PS := ⟨(rLoop (wordsR l) (wordsR l).length).C, (rLoop (wordsR l) (wordsR l).length).L, (rLoop (wordsR l) (wordsR l).length).m⟩

def litW (v : Int) : List UInt8 := if v < 0 then [126, 120] ++ Lib.itoa (-v) else 120 :: Lib.itoa v
def termW (x : Int × Int) : List (List UInt8) := if x.1 < 0 then [[45], Lib.itoa (-x.1), litW x.2] else [[43], Lib.itoa x.1, litW x.2]
def endW (m : Int) : List (List UInt8) := [[62, 61], Lib.itoa m]
theorem termW_neg {c v : Int} (h : c < 0) : termW (c, v) = [[45], Lib.itoa (-c), litW v] := if_pos h
theorem termW_pos {c v : Int} (h : ¬ c < 0) : termW (c, v) = [[43], Lib.itoa c, litW v] := if_neg h
theorem noBlank_itoa (n : Int) : noBlank (Lib.itoa n) := by
  have h : ∀ u, ∀ c ∈ Lib.decDigits u, c ≠ 32 := fun u c hc e => by
    have := dd_dig u c hc
    subst e; revert this; decide
  intro c hc
  unfold Lib.itoa at hc
  split at hc
  · rcases List.mem_cons.1 hc with rfl | hc
    · decide
    · exact h _ c hc
  · exact h _ c hc
theorem noBlank_lit (v : Int) : noBlank (litW v) := by
  intro c hc
  unfold litW at hc
  split at hc
  · rcases List.mem_append.1 hc with hc | hc
    · rcases List.mem_cons.1 hc with rfl | hc
      · decide
      · rw [List.mem_singleton] at hc; subst hc; decide
    · exact noBlank_itoa _ c hc
  · rcases List.mem_cons.1 hc with rfl | hc
    · decide
    · exact noBlank_itoa _ c hc
theorem tLit_W (v : Int) : tLit v = 32 :: litW v := by unfold tLit litW; split <;> rfl
theorem join_two (w x : List UInt8) (ws : List (List UInt8)) : joinB (w :: x :: ws) = w ++ 32 :: joinB (x :: ws) := rfl
theorem join_terms (m : Int) : ∀ (ts : List (Int × Int)) (w : List UInt8), joinB (w :: (ts.flatMap termW ++ endW m)) = w ++ (tTs ts ++ tEnd m)
  | [], w => by
    show w ++ 32 :: ([62, 61] ++ 32 :: Lib.itoa m) = _
    simp [tTs, tEnd]
  | (c, v) :: ts, w => by
    have ih := join_terms m ts (litW v)
    rw [List.flatMap_cons]
    unfold tTs
    by_cases hc : c < 0
    · rw [termW_neg hc, if_pos hc]
      simp only [List.cons_append, List.nil_append]
      rw [join_two, join_two, join_two, ih, tLit_W]
      simp
    · rw [termW_pos hc, if_neg hc]
      simp only [List.cons_append, List.nil_append]
      rw [join_two, join_two, join_two, ih, tLit_W]
      simp
theorem itoa_form (n : Int) : ∃ a b, Lib.itoa n = a :: b ∧ (a = 45 ∨ isDig a = true) ∧ (a = 45 → b ≠ []) := by
  unfold Lib.itoa
  split
  · exact ⟨_, _, rfl, Or.inl rfl, fun _ => dd_ne _⟩
  · cases hd : Lib.decDigits n.toNat with
    | nil => exact absurd hd (dd_ne _)
    | cons a b =>
      have := dd_dig n.toNat a (by rw [hd]; exact List.mem_cons_self ..)
      exact ⟨a, b, rfl, Or.inr this, fun e => by subst e; exact absurd this (by decide)⟩
/-- A number alone changes nothing. -/
theorem rStep_num (p q : Option (List UInt8)) (n : Int) (st : RSt) : rStep p (Lib.itoa n) q st = st := by
  obtain ⟨a, b, e, h1, h2⟩ := itoa_form n
  rw [e]
  have n1 : a ≠ 62 := by rcases h1 with rfl | h1; decide; rintro rfl; revert h1; decide
  have n2 : a ≠ 120 := by rcases h1 with rfl | h1; decide; rintro rfl; revert h1; decide
  have n3 : a ≠ 126 := by rcases h1 with rfl | h1; decide; rintro rfl; revert h1; decide
  have n4 : a ≠ 43 := by rcases h1 with rfl | h1; decide; rintro rfl; revert h1; decide
  have e1 : ¬ (a :: b = [62, 61]) := by simp [n1]
  have e2 : ¬ (1 < (a :: b).length ∧ (a :: b).head? = some 120) := by simp [n2]
  have e3 : ¬ (2 < (a :: b).length ∧ (a :: b).take 2 = [126, 120]) := by simp [n3]
  have e4 : ¬ (a :: b = [45]) := by
    intro h
    simp only [List.cons.injEq] at h
    exact h2 h.1 h.2
  have e5 : ¬ (a :: b = [43]) := by simp [n4]
  unfold rStep
  simp only [if_neg e1, if_neg e2, if_neg e3, if_neg e4, if_neg e5]
  cases p <;> rfl
theorem itoa_ne (n : Int) : Lib.itoa n ≠ [] := by
  obtain ⟨a, b, e, _⟩ := itoa_form n
  rw [e]; simp
theorem rStep_lit {c v : Int} (q : Option (List UInt8)) (st : RSt) (hc : inTen c) (hv : inTen v) : rStep (some (Lib.itoa c)) (litW v) q st = ⟨st.sg, st.C ++ [st.sg * c], st.L ++ [v], st.m⟩ := by
  unfold inTen at hv
  have hn := itoa_ne
  unfold litW
  by_cases h : v < 0
  · rw [if_pos h]
    obtain ⟨a, b, e, _⟩ := itoa_form (-v)
    have e1 : ¬ ([126, 120] ++ Lib.itoa (-v) = [62, 61]) := by simp
    have e2 : ¬ (1 < ([126, 120] ++ Lib.itoa (-v)).length ∧ ([126, 120] ++ Lib.itoa (-v)).head? = some 120) := by simp
    have e3 : (2 < ([126, 120] ++ Lib.itoa (-v)).length ∧ ([126, 120] ++ Lib.itoa (-v)).take 2 = [126, 120]) := by rw [e]; simp
    have e4 : ¬ ([126, 120] ++ Lib.itoa (-v) = [45]) := by simp
    have e5 : ¬ ([126, 120] ++ Lib.itoa (-v) = [43]) := by simp
    have e6 : ([126, 120] ++ Lib.itoa (-v)).drop 2 = Lib.itoa (-v) := rfl
    unfold rStep
    simp only [if_neg e1, if_neg e2, if_pos e3, if_neg e4, if_neg e5, e6, numR_itoa hc.1 hc.2]
    rw [numR_itoa (by omega) (by omega), show - -v = v by omega]
  · rw [if_neg h]
    obtain ⟨a, b, e, _⟩ := itoa_form v
    have e1 : ¬ (120 :: Lib.itoa v = [62, 61]) := by simp
    have e2 : (1 < (120 :: Lib.itoa v).length ∧ (120 :: Lib.itoa v).head? = some 120) := by rw [e]; simp
    have e3 : ¬ (2 < (120 :: Lib.itoa v).length ∧ (120 :: Lib.itoa v).take 2 = [126, 120]) := by simp
    have e4 : ¬ (120 :: Lib.itoa v = [45]) := by simp
    have e5 : ¬ (120 :: Lib.itoa v = [43]) := by simp
    have e6 : (120 :: Lib.itoa v).drop 1 = Lib.itoa v := rfl
    unfold rStep
    simp only [if_neg e1, if_pos e2, if_neg e3, if_neg e4, if_neg e5, e6, numR_itoa hc.1 hc.2]
    rw [numR_itoa (by omega) (by omega)]
theorem rStep_plus (p q : Option (List UInt8)) (st : RSt) : rStep p [43] q st = { st with sg := 1 } := by
  cases p <;> simp [rStep]
theorem rStep_minus (p q : Option (List UInt8)) (st : RSt) : rStep p [45] q st = { st with sg := -1 } := by
  cases p <;> simp [rStep]
theorem rStep_ge (p : Option (List UInt8)) (q : List UInt8) (st : RSt) : rStep p [62, 61] (some q) st = { st with m := numR q } := by
  cases p <;> simp [rStep]
theorem rGo_terms {m : Int} (hm : inTen m) : ∀ (ts : List (Int × Int)) (p : Option (List UInt8)) (st : RSt), (∀ x ∈ ts, inTen x.1 ∧ inTen x.2) →
    ∃ sg, rGo p st (ts.flatMap termW ++ endW m) = ⟨sg, st.C ++ ts.map (·.1), st.L ++ ts.map (·.2), m⟩
  | [], p, st, _ => by
    refine ⟨st.sg, ?_⟩
    show rGo p st [[62, 61], Lib.itoa m] = _
    simp only [rGo, List.head?_cons, List.head?_nil, rStep_ge, rStep_num, numR_itoa hm.1 hm.2, List.map_nil, List.append_nil]
  | (c, v) :: ts, p, st, h => by
    have hx := h (c, v) (List.mem_cons_self ..)
    have hts : ∀ x ∈ ts, inTen x.1 ∧ inTen x.2 := fun x hx => h x (List.mem_cons_of_mem _ hx)
    rw [List.flatMap_cons]
    by_cases hc : c < 0
    · rw [termW_neg hc]
      simp only [List.cons_append, List.nil_append, rGo]
      rw [rStep_minus, rStep_num, rStep_lit _ _ (show inTen (-c) by have := hx.1; unfold inTen at *; simp only at this; omega) hx.2]
      obtain ⟨sg, e⟩ := rGo_terms hm ts (some (litW v)) ⟨-1, st.C ++ [-1 * -c], st.L ++ [v], st.m⟩ hts
      refine ⟨sg, e.trans ?_⟩
      rw [show -1 * -c = c by omega]
      simp
    · rw [termW_pos hc]
      simp only [List.cons_append, List.nil_append, rGo]
      rw [rStep_plus, rStep_num, rStep_lit _ _ hx.1 hx.2]
      obtain ⟨sg, e⟩ := rGo_terms hm ts (some (litW v)) ⟨1, st.C ++ [1 * c], st.L ++ [v], st.m⟩ hts
      refine ⟨sg, e.trans ?_⟩
      rw [show 1 * c = c by omega]
      simp
theorem noBlank_terms (m : Int) (ts : List (Int × Int)) : ∀ x ∈ ts.flatMap termW ++ endW m, noBlank x := by
  intro x hx
  rcases List.mem_append.1 hx with hx | hx
  · obtain ⟨y, _, hx⟩ := List.mem_flatMap.1 hx
    unfold termW at hx
    split at hx <;> (simp only [List.mem_cons, List.not_mem_nil, or_false] at hx; rcases hx with rfl | rfl | rfl)
    · intro c hc; rw [List.mem_singleton] at hc; subst hc; decide
    · exact noBlank_itoa _
    · exact noBlank_lit _
    · intro c hc; rw [List.mem_singleton] at hc; subst hc; decide
    · exact noBlank_itoa _
    · exact noBlank_lit _
  · simp only [endW, List.mem_cons, List.not_mem_nil, or_false] at hx
    rcases hx with rfl | rfl
    · intro c hc
      simp only [List.mem_cons, List.not_mem_nil, or_false] at hc
      rcases hc with rfl | rfl <;> decide
    · exact noBlank_itoa _
theorem parseR_text {s : PS} (h : s.Ok 128) : parseR (textS s) = s := by
  obtain ⟨C, L, m⟩ := s
  have hlen := h.len
  have hm : inTen m := by have h0 := h.m0; have h1 := h.m1; unfold inTen; simp only at h0 h1; omega
  have hin : ∀ x ∈ C, inTen x := fun x hx => by have := h.co x hx; unfold inTen; omega
  have hin2 : ∀ x ∈ L, inTen x := fun x hx => by have := h.lit x hx; unfold inTen; omega
  have fin : ∀ l : List (List UInt8), (∃ sg, rGo none ⟨1, [], [], 0⟩ l = ⟨sg, C, L, m⟩) → wordsR (textS ⟨C, L, m⟩) = l → parseR (textS ⟨C, L, m⟩) = ⟨C, L, m⟩ := fun l ⟨sg, e⟩ hw => by
    have hg := rGo_go l l [] rfl
    have e2 : rLoop l l.length = ⟨sg, C, L, m⟩ := by rw [← hg]; exact e
    unfold parseR
    rw [hw, e2]
  cases C with
  | nil =>
    cases L with
    | cons _ _ => simp at hlen
    | nil =>
      refine fin ([48] :: ([].flatMap termW ++ endW m)) ?_ ?_
      · obtain ⟨sg, e⟩ := rGo_terms hm [] (some [48]) ⟨1, [], [], 0⟩ (by simp)
        refine ⟨sg, ?_⟩
        rw [rGo]
        have e0 : rStep none [48] (List.flatMap termW [] ++ endW m).head? ⟨1, [], [], 0⟩ = ⟨1, [], [], 0⟩ := by simp [rStep]
        rw [e0, e]; simp
      · have e := join_terms m [] [48]
        have e2 : textS ⟨[], [], m⟩ = [48] ++ (tTs [] ++ tEnd m) := rfl
        rw [e2, ← e]
        refine words_join (by simp) fun x hx => ?_
        rcases List.mem_cons.1 hx with rfl | hx
        · intro c hc; rw [List.mem_singleton] at hc; subst hc; decide
        · exact noBlank_terms m [] x hx
  | cons c C =>
    cases L with
    | nil => simp at hlen
    | cons v L =>
      simp only [List.length_cons] at hlen
      have hts : ∀ x ∈ C.zip L, inTen x.1 ∧ inTen x.2 := fun x hx => ⟨hin _ (List.mem_cons_of_mem _ (mem_zip hx).1), hin2 _ (List.mem_cons_of_mem _ (mem_zip hx).2)⟩
      refine fin (Lib.itoa c :: litW v :: ((C.zip L).flatMap termW ++ endW m)) ?_ ?_
      · obtain ⟨sg, e⟩ := rGo_terms hm (C.zip L) (some (litW v)) ⟨1, [] ++ [1 * c], [] ++ [v], 0⟩ hts
        refine ⟨sg, ?_⟩
        rw [rGo, rGo, rStep_num, rStep_lit _ _ (hin c (List.mem_cons_self ..)) (hin2 v (List.mem_cons_self ..)), e, zip_fst C L (by omega), zip_snd C L (by omega), show 1 * c = c by omega]
        rfl
      · have e := join_terms m (C.zip L) (litW v)
        have e2 : textS ⟨c :: C, v :: L, m⟩ = joinB (Lib.itoa c :: litW v :: ((C.zip L).flatMap termW ++ endW m)) := by
          rw [join_two, e]
          unfold textS
          simp only [List.length_cons]
          rw [if_neg (by omega), tTerms_cons c v C L m (by omega), tLit_W]
          simp
        rw [e2]
        refine words_join (by simp) fun x hx => ?_
        rcases List.mem_cons.1 hx with rfl | hx
        · exact noBlank_itoa _
        rcases List.mem_cons.1 hx with rfl | hx
        · exact noBlank_lit _
        · exact noBlank_terms m _ x hx

/-! ### How long texts are -/
theorem itoa_len {n : Int} (h : inTen n) : (Lib.itoa n).length ≤ 11 := by
  unfold inTen at h
  unfold Lib.itoa
  split
  · have := dd_len10 (show n.natAbs < 10000000000 by omega)
    rw [List.length_cons]; omega
  · have := dd_len10 (show n.toNat < 10000000000 by omega)
    omega
theorem tLit_len {v : Int} (h : inTen v) : (tLit v).length ≤ 14 := by
  unfold tLit
  split
  · have := itoa_len (n := -v) (by unfold inTen at *; omega)
    rw [List.length_append]; simp only [List.length_cons, List.length_nil]; omega
  · have := itoa_len h
    rw [List.length_append]; simp only [List.length_cons, List.length_nil]; omega
theorem tTs_len : ∀ ts : List (Int × Int), (∀ x ∈ ts, inTen x.1 ∧ inTen x.2) → (tTs ts).length ≤ 28 * ts.length
  | [], _ => Nat.le_refl _
  | (c, v) :: ts, h => by
    have ih := tTs_len ts fun x hx => h x (List.mem_cons_of_mem _ hx)
    have hx := h (c, v) (List.mem_cons_self ..)
    have h1 := tLit_len hx.2
    have h2 := itoa_len hx.1
    have h3 := itoa_len (n := -c) (by have := hx.1; unfold inTen at *; simp only at this; omega)
    simp only at h1 h2
    unfold tTs
    split <;> (simp only [List.length_append, List.length_cons, List.length_nil]; omega)
theorem text_len {s : PS} (h : s.Ok 128) : (textS s).length ≤ 4096 := by
  obtain ⟨C, L, m⟩ := s
  have hlen := h.len
  have h64 := h.l64
  have hm : inTen m := by have h0 := h.m0; have h1 := h.m1; unfold inTen; simp only at h0 h1; omega
  have hin : ∀ x ∈ C, inTen x := fun x hx => by have := h.co x hx; unfold inTen; omega
  have hin2 : ∀ x ∈ L, inTen x := fun x hx => by have := h.lit x hx; unfold inTen; omega
  have h1 := itoa_len hm
  have h2 : (tEnd m).length ≤ 15 := by unfold tEnd; simp only [List.length_append, List.length_cons, List.length_nil]; omega
  unfold textS
  cases C with
  | nil => simp only [List.length_nil, if_true, List.length_append, List.length_cons]; omega
  | cons c C =>
    cases L with
    | nil => simp at hlen
    | cons v L =>
      simp only [List.length_cons] at hlen h64 ⊢
      rw [if_neg (by omega), tTerms_cons c v C L m (by omega)]
      have h3 := tTs_len (C.zip L) fun x hx => ⟨hin _ (List.mem_cons_of_mem _ (mem_zip hx).1), hin2 _ (List.mem_cons_of_mem _ (mem_zip hx).2)⟩
      have h4 := itoa_len (hin c (List.mem_cons_self ..))
      have h5 := tLit_len (hin2 v (List.mem_cons_self ..))
      rw [List.length_zip] at h3
      simp only [List.length_append]
      omega
/-- THE LAW: the reference reads the same. -/
theorem parse_ref (l : List UInt8) : (if 4096 < l.length then none else if checkS (parseR l) 128 = 0 ∧ textS (parseR l) = l then some (parseR l) else none) = parseS l := by
  cases hp : parseS l with
  | some s =>
    obtain ⟨e, hok⟩ := text_parse hp
    have := text_len hok
    rw [if_neg (by rw [← e]; omega)]
    have e2 : parseR l = s := by rw [← e]; exact parseR_text hok
    rw [e2, if_pos ⟨check_ok.2 hok, e⟩]
  | none =>
    by_cases h1 : 4096 < l.length
    · rw [if_pos h1]
    · rw [if_neg h1]
      by_cases h2 : checkS (parseR l) 128 = 0 ∧ textS (parseR l) = l
      · have := parse_text (check_ok.1 h2.1)
        rw [h2.2, hp] at this; cases this
      · rw [if_neg h2]
end Go.Proofs.YtchamkbnapjidaaDoor
