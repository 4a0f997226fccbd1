/- Texts of this claim, joined: ID, IE, IF, IG, IM, IH, II, IJ, IP, IQ. -/
import Derived.Test.YtmaiofimmjedjaaDoorMW05

/- The tokens of what is written. Plain. -/
namespace Go.Proofs.YtmaiofimmjedjaaDoor
open Go

def lexS (l : List UInt8) : List Tk := (lexI (l.length + 1) l 0).map (·.2)
theorem lex_shift : ∀ (f : Nat) (l : List UInt8) (p : Nat), (lexI f l p).map (·.2) = (lexI f l 0).map (·.2)
  | 0, _, _ => rfl
  | f + 1, l, p => by
    unfold lexI
    cases tokI (l.drop (blI l)) with
    | none => rfl
    | some t =>
      cases t with
      | nil => rfl
      | cons c t =>
        simp only [List.map_cons]
        rw [lex_shift f _ (p + blI l + (c :: t).length), lex_shift f _ (0 + blI l + (c :: t).length)]
theorem lex_steps : ∀ (f f' : Nat) (l : List UInt8) (p : Nat), l.length < f → l.length < f' → lexI f l p = lexI f' l p
  | 0, _, _, _, h, _ => by omega
  | f + 1, f', l, p, h, h' => by
    obtain ⟨g, rfl⟩ : ∃ g, f' = g + 1 := ⟨f' - 1, by omega⟩
    unfold lexI
    cases ht : tokI (l.drop (blI l)) with
    | none => rfl
    | some t =>
      cases t with
      | nil => rfl
      | cons c t =>
        have hne : l.drop (blI l) ≠ [] := fun e => by rw [e] at ht; simp [tokI] at ht
        have hlt : ((l.drop (blI l)).drop (c :: t).length).length < l.length := by
          have := List.length_pos_iff.2 hne
          simp at this ⊢; omega
        simp only []
        rw [lex_steps f g _ _ (by omega) (by omega)]
theorem lexS_eq (l : List UInt8) : lexS l = match tokI (l.drop (blI l)) with | none => [none] | some [] => [some []] | some (c :: t) => some (c :: t) :: lexS ((l.drop (blI l)).drop (c :: t).length) := by
  unfold lexS
  rw [lexI]
  cases ht : tokI (l.drop (blI l)) with
  | none => rfl
  | some t =>
    cases t with
    | nil => rfl
    | cons c t =>
      have hne : l.drop (blI l) ≠ [] := fun e => by rw [e] at ht; simp [tokI] at ht
      have hlt : ((l.drop (blI l)).drop (c :: t).length).length < l.length := by
        have := List.length_pos_iff.2 hne
        simp at this ⊢; omega
      simp only [List.map_cons]
      rw [lex_shift, lex_steps l.length (((l.drop (blI l)).drop (c :: t).length).length + 1) _ _ hlt (by omega)]
theorem lexS_blank (r : List UInt8) : lexS (32 :: r) = lexS r := by
  rw [lexS_eq, lexS_eq]
  have e : blI (32 :: r) = blI r + 1 := by simp [blI]
  rw [e, List.drop_succ_cons]
theorem lexS_nil : lexS [] = [some []] := by rw [lexS_eq]; rfl
def LexAny (s : List UInt8) (a : List (List UInt8)) : Prop := ∀ r, lexS (s ++ r) = a.map some ++ lexS r
def stopB (r : List UInt8) : Prop := ∀ c, r.head? = some c → smallI c = false
def LexTo (s : List UInt8) (a : List (List UInt8)) : Prop := ∀ r, stopB r → lexS (s ++ r) = a.map some ++ lexS r
theorem LexAny.to {s : List UInt8} {a : List (List UInt8)} (h : LexAny s a) : LexTo s a := fun r _ => h r
theorem LexAny.app {s t : List UInt8} {a b : List (List UInt8)} (h : LexAny s a) (k : LexAny t b) : LexAny (s ++ t) (a ++ b) := fun r => by
  rw [List.append_assoc, h, k, List.map_append, List.append_assoc]
theorem LexAny.appTo {s t : List UInt8} {a b : List (List UInt8)} (h : LexAny s a) (k : LexTo t b) : LexTo (s ++ t) (a ++ b) := fun r hr => by
  rw [List.append_assoc, h, k r hr, List.map_append, List.append_assoc]
theorem LexTo.app {s t : List UInt8} {a b : List (List UInt8)} (h : LexTo s a) (k : LexAny t b) (ht : ∃ c r, t = c :: r ∧ smallI c = false) : LexAny (s ++ t) (a ++ b) := fun r => by
  rw [List.append_assoc, h _ (by obtain ⟨c, u, rfl, hc⟩ := ht; intro d hd; simp at hd; subst hd; exact hc), k, List.map_append, List.append_assoc]
theorem any_nil : LexAny [] [] := fun r => rfl
theorem any_blank : LexAny [32] [] := fun r => lexS_blank r
theorem any_sign {s : List UInt8} (h : s ∈ signsI) : LexAny s [s] := fun r => by
  rw [lexS_eq]
  simp only [signsI, List.mem_cons, List.not_mem_nil, or_false] at h
  rcases h with rfl | rfl | rfl | rfl | rfl | rfl | rfl | rfl | rfl <;> simp [blI, tokI, signsI, Lib.hasPrefix, List.isPrefixOf]
theorem small_not_sign {c : UInt8} (h : smallI c = true) : c ≠ 33 ∧ c ≠ 38 ∧ c ≠ 94 ∧ c ≠ 124 ∧ c ≠ 45 ∧ c ≠ 60 ∧ c ≠ 40 ∧ c ≠ 41 ∧ c ≠ 44 ∧ c ≠ 32 := by
  refine ⟨?_, ?_, ?_, ?_, ?_, ?_, ?_, ?_, ?_, ?_⟩ <;> (rintro rfl; revert h; decide)
theorem takeWhile_all {α : Type} {p : α → Bool} : ∀ (w r : List α), (∀ c ∈ w, p c = true) → (∀ c, r.head? = some c → p c = false) → (w ++ r).takeWhile p = w
  | [], r, _, hr => by
    cases r with
    | nil => rfl
    | cons c r => rw [List.nil_append, List.takeWhile_cons, if_neg (by rw [hr c rfl]; simp)]
  | c :: w, r, hw, hr => by
    rw [List.cons_append, List.takeWhile_cons, if_pos (hw c (by simp)), takeWhile_all w r (fun d hd => hw d (by simp [hd])) hr]
theorem to_word {w : List UInt8} (hne : w ≠ []) (hw : ∀ c ∈ w, smallI c = true) : LexTo w [w] := fun r hr => by
  rw [lexS_eq]
  obtain ⟨c, u, rfl⟩ := List.exists_cons_of_ne_nil hne
  obtain ⟨h1, h2, h3, h4, h5, h6, h7, h8, h9, h10⟩ := small_not_sign (hw c (by simp))
  have hb : blI (c :: u ++ r) = 0 := by simp [blI, h10]
  have ht : tokI (c :: u ++ r) = some (c :: u) := by
    unfold tokI
    rw [if_neg (by simp)]
    have hf : signsI.find? (fun s => Lib.hasPrefix (c :: u ++ r) s) = none := by
      simp [signsI, Lib.hasPrefix, List.isPrefixOf, Ne.symm h1, Ne.symm h2, Ne.symm h3, Ne.symm h4, Ne.symm h5, Ne.symm h6, Ne.symm h7, Ne.symm h8, Ne.symm h9]
    rw [hf]
    simp only []
    rw [takeWhile_all (c :: u) r hw hr, if_neg (by simp)]
  rw [hb, List.drop_zero, ht]
  simp only []
  rw [List.drop_left]
  rfl

/-! ### What is written -/
def ptx (gs : List Gt) (ps : List Pc) : List UInt8 := ps.flatMap fun p => match p with | .s t _ => t | .g k => TX gs k
def ptk (gs : List Gt) (ps : List Pc) : List (List UInt8) := ps.flatMap fun p => match p with | .s _ w => w | .g k => TK gs k
theorem ptx_app (gs : List Gt) (a b : List Pc) : ptx gs (a ++ b) = ptx gs a ++ ptx gs b := by simp [ptx]
theorem ptk_app (gs : List Gt) (a b : List Pc) : ptk gs (a ++ b) = ptk gs a ++ ptk gs b := by simp [ptk]
theorem ptx_s (gs : List Gt) (t : List UInt8) (w : List (List UInt8)) (r : List Pc) : ptx gs (.s t w :: r) = t ++ ptx gs r := by simp [ptx]
theorem ptk_s (gs : List Gt) (t : List UInt8) (w : List (List UInt8)) (r : List Pc) : ptk gs (.s t w :: r) = w ++ ptk gs r := by simp [ptk]
theorem ptx_g (gs : List Gt) (k : Int) (r : List Pc) : ptx gs (.g k :: r) = TX gs k ++ ptx gs r := by simp [ptx]
theorem ptk_g (gs : List Gt) (k : Int) (r : List Pc) : ptk gs (.g k :: r) = TK gs k ++ ptk gs r := by simp [ptk]
theorem ptx_nil (gs : List Gt) : ptx gs [] = [] := rfl
theorem ptk_nil (gs : List Gt) : ptk gs [] = [] := rfl
def LexG (gs : List Gt) (k : Int) : Prop := LexTo (TX gs k) (TK gs k)
theorem lex_put {gs : List Gt} {k : Int} (h : LexG gs k) (p : Bool) : LexTo (ptx gs (putI k p)) (ptk gs (putI k p)) := by
  unfold putI
  cases p with
  | false => simp only [Bool.false_eq_true, if_false]; rw [ptx_g, ptk_g, ptx_nil, ptk_nil, List.append_nil, List.append_nil]; exact h
  | true =>
    simp only [if_true]
    rw [ptx_s, ptk_s, ptx_g, ptk_g, ptx_s, ptk_s, ptx_nil, ptk_nil, List.append_nil, List.append_nil]
    exact ((any_sign (by decide)).app (h.app (any_sign (by decide)) ⟨41, [], rfl, by decide⟩)).to
theorem lex_more {gs : List Gt} {sep : List UInt8} {w : List (List UInt8)} {own : Nat} (hs : LexAny sep w) (hc : ∃ c r, sep = c :: r ∧ smallI c = false) : ∀ (l : List Int), (∀ k ∈ l, LexG gs k) → ∀ (k : Int), LexG gs k → LexTo (ptx gs (opI gs own k ++ moreI gs sep w own l)) (ptk gs (opI gs own k ++ moreI gs sep w own l))
  | [], _, k, hk => by rw [moreI, List.append_nil]; exact lex_put hk _
  | j :: l, h, k, hk => by
    rw [moreI, ptx_app, ptk_app, ptx_s, ptk_s, ← List.append_assoc, ← List.append_assoc]
    exact ((lex_put hk _).app hs hc).appTo (lex_more hs hc l (fun j' hj' => h j' (by simp [hj'])) j (h j (by simp)))
theorem digits_small (v : Nat) : ∀ c ∈ decN v, smallI c = true := by
  induction v using Nat.strongRecOn with
  | _ v ih =>
    have hd : ∀ d, d < 10 → smallI (UInt8.ofNat (48 + d)) = true := by decide
    by_cases h : v < 10
    · rw [decN_eq, Lib.decDigits_one h]
      intro c hc
      rw [List.mem_singleton] at hc; subst hc
      exact hd v h
    · rw [decN_eq, Lib.decDigits, dif_neg h, ← decN_eq]
      intro c hc
      rcases List.mem_append.1 hc with hc | hc
      · exact ih (v / 10) (by omega) c hc
      · rw [List.mem_singleton] at hc; subst hc
        exact hd _ (by omega)
theorem xI_word (v : Int) : LexTo (xI v) [xI v] := to_word (by simp [xI]) (fun c hc => by
  unfold xI at hc
  rcases List.mem_cons.1 hc with rfl | hc
  · decide
  · exact digits_small _ c hc)
theorem name_word (k : Int) : LexTo (nameI k) [nameI k] := by
  refine to_word ?_ ?_ <;> (unfold nameI; split <;> (try split) <;> (try split)) <;> decide
theorem sign_in (lv : Nat) : signI lv ∈ signsI := by
  unfold signI; split <;> (try split) <;> decide
theorem lexGt {n : Int} {gs : List Gt} (hok : Ok n gs) : ∀ (i : Nat), i < gs.length → LexG gs i := by
  intro i
  induction i using Nat.strongRecOn with
  | _ i ih =>
    intro hi
    have hx : gs[i]? = some gs[i] := List.getElem?_eq_getElem hi
    obtain ⟨g, hg⟩ : ∃ g, g = gs[i] := ⟨_, rfl⟩
    rw [← hg] at hx
    have hG := hok i g hx
    have sub : ∀ k ∈ g.ins, LexG gs k := fun k hk => by
      obtain ⟨j, rfl, hj, _⟩ := hG.inp hi hk
      exact ih j hj (by omega)
    unfold LexG
    rw [TX_eq hok hx, TK_eq hok hx]
    show LexTo (ptx gs (pcsI gs g)) (ptk gs (pcsI gs g))
    unfold pcsI
    split
    · rw [ptx_s, ptk_s, ptx_nil, ptk_nil, List.append_nil, List.append_nil]; exact to_word (by simp) (by decide)
    split
    · rw [ptx_s, ptk_s, ptx_nil, ptk_nil, List.append_nil, List.append_nil]; exact to_word (by simp) (by decide)
    split
    · split
      · rw [ptx_s, ptk_s, ptx_nil, ptk_nil, List.append_nil, List.append_nil]; exact (any_sign (s := [33]) (by decide)).appTo (xI_word _)
      · rw [ptx_s, ptk_s, ptx_nil, ptk_nil, List.append_nil, List.append_nil]; exact xI_word _
    split
    · rename_i h3
      have := many_one hG.many h3
      rw [ptx_s, ptk_s]
      exact (any_sign (by decide)).appTo (lex_put (sub _ (headI_in (fun e => by rw [e] at this; simp at this))) _)
    split
    · rename_i h7
      have h2 := many_two hG.many h7
      rw [ptx_app, ptk_app, ptx_s, ptk_s, ← List.append_assoc, ← List.append_assoc]
      refine LexAny.appTo (LexTo.app (lex_put (sub _ (headI_in (fun e => by rw [e] at h2; simp at h2))) _) ?_ ⟨32, _, rfl, by decide⟩) (lex_put (sub _ (List.mem_of_mem_tail (headI_in (fun e => by have := congrArg List.length e; simp at this; omega)))) _)
      exact (any_blank.app ((any_sign (s := [60, 45, 62]) (by decide)).app any_blank))
    split
    · rw [ptx_s, ptk_s, ptx_app, ptk_app, ptx_s, ptk_s, ptx_nil, ptk_nil, List.append_nil, List.append_nil]
      refine ((name_word g.k).app (any_sign (s := [40]) (by decide)) ⟨40, [], rfl, by decide⟩).appTo ?_
      cases hl : g.ins with
      | nil => exact (any_nil.app (any_sign (s := [41]) (by decide))).to
      | cons k r =>
        rw [hl] at sub
        rw [betweenI]
        exact ((lex_more ((any_sign (s := [44]) (by decide)).app any_blank) ⟨44, _, rfl, by decide⟩ r (fun j hj => sub j (by simp [hj])) k (sub k (by simp))).app (any_sign (s := [41]) (by decide)) ⟨41, [], rfl, by decide⟩).to
    · cases hl : g.ins with
      | nil => exact any_nil.to
      | cons k r =>
        rw [hl] at sub
        rw [betweenI]
        exact lex_more ((any_blank.app (any_sign (sign_in _))).app any_blank) ⟨32, _, rfl, by decide⟩ r (fun j hj => sub j (by simp [hj])) k (sub k (by simp))
theorem lex_written {n : Int} {gs : List Gt} (hok : Ok n gs) {i : Nat} (hi : i < gs.length) : lexS (TX gs i) = (TK gs i).map some ++ [some []] := by
  have h := lexGt hok i hi [] (fun c hc => by simp at hc)
  rwa [List.append_nil, lexS_nil] at h
end Go.Proofs.YtmaiofimmjedjaaDoor

/- What is written for a circuit is read as its tree form. Plain. -/
namespace Go.Proofs.YtmaiofimmjedjaaDoor
open Go

/-! ### Words -/
def valI (l : List UInt8) : Nat := l.foldl (fun a c => a * 10 + (c.toNat - 48)) 0
theorem valI_dec (v : Nat) : valI (decN v) = v := by
  induction v using Nat.strongRecOn with
  | _ v ih =>
    have hd : ∀ d, d < 10 → (UInt8.ofNat (48 + d)).toNat - 48 = d := by decide
    by_cases h : v < 10
    · rw [decN_eq, Lib.decDigits_one h]
      show 0 * 10 + ((UInt8.ofNat (48 + v)).toNat - 48) = v
      rw [hd v h]; omega
    · rw [decN_eq, Lib.decDigits, dif_neg h, ← decN_eq]
      have := ih (v / 10) (by omega)
      unfold valI at this ⊢
      rw [List.foldl_append, this]
      show v / 10 * 10 + ((UInt8.ofNat (48 + v % 10)).toNat - 48) = v
      rw [hd _ (by omega)]; omega
theorem decI_inj {u v : Nat} (h : decN u = decN v) : u = v := by
  have := congrArg valI h
  rwa [valI_dec, valI_dec] at this
theorem varI_of {n v : Nat} (h1 : 1 ≤ v) (h2 : v ≤ n) : varI n (120 :: decN v) = v := by
  unfold varI
  cases h : (List.range n).find? (fun i => (120 :: decN v : List UInt8) == 120 :: decN (i + 1)) with
  | none =>
    have := List.find?_eq_none.1 h (v - 1) (by simp; omega)
    rw [show v - 1 + 1 = v by omega] at this
    simp at this
  | some i =>
    have := List.find?_some h
    have e : decN v = decN (i + 1) := by simpa using this
    have := decI_inj e
    simp only []; omega
/-! ### Reading -/
def Good (r v : PR) : Prop := r = v ∨ ∃ q, r = .err q 2
theorem Good.refl (r : PR) : Good r r := .inl rfl
theorem Good.trans {a b c : PR} (h : Good a b) (k : Good b c) : Good a c := by
  rcases h with rfl | ⟨q, rfl⟩
  · exact k
  · exact .inr ⟨q, rfl⟩
theorem Good.bind {r : PR} {l : List Int} {ts : List Tk} {gs : List Gt} {f : List Int → List Tk → List Gt → PR} {v : PR} (h : Good r (.ok l ts gs)) (k : Good (f l ts gs) v) : Good (r.bind f) v := by
  rcases h with rfl | ⟨q, rfl⟩
  · exact k
  · exact .inr ⟨q, rfl⟩
def mdI (lv : Nat) : Md := if lv ≤ 2 then .form else if lv = 3 then .impl else .chain lv
def stopI (lv : Nat) (ts : List Tk) : Prop := ∃ t, ts.headD (some []) = some t ∧ (lv ≤ 2 → t ≠ [60, 45, 62]) ∧ (lv ≤ 3 → t ≠ [45, 62]) ∧ ∀ ℓ, lv ≤ ℓ → 4 ≤ ℓ → ℓ ≤ 6 → t ≠ signI ℓ
theorem stopI.mono {a b : Nat} {ts : List Tk} (h : stopI a ts) (hab : a ≤ b) : stopI b ts := by
  obtain ⟨t, h1, h2, h3, h4⟩ := h
  exact ⟨t, h1, fun e => h2 (by omega), fun e => h3 (by omega), fun ℓ e => h4 ℓ (by omega)⟩
theorem next_some {t : List UInt8} {r : List Tk} {f : List UInt8 → PR} : nextI (some t :: r) f = f t := rfl
theorem next_head {ts : List Tk} {t : List UInt8} {f : List UInt8 → PR} (h : ts.headD (some []) = some t) : nextI ts f = f t := by unfold nextI; rw [h]
theorem down_one {n lv : Nat} {ts : List Tk} {o : Nat} {gs : List Gt} {k : Int} {rest : List Tk} {gs' : List Gt} (h3 : 3 ≤ lv) (h6 : lv ≤ 6) (h : Good (RI n (mdI (lv + 1)) ts o gs) (.ok [k] rest gs')) (hs : stopI lv rest) : Good (RI n (mdI lv) ts o gs) (.ok [k] rest gs') := by
  obtain ⟨t, h1, _, hi, hc⟩ := hs
  by_cases e : lv = 3
  · subst e
    show Good (RI n .impl ts o gs) _
    rw [RI_impl]
    refine Good.bind (show Good (RI n (.chain 4) ts o gs) _ from h) ?_
    rw [RI_implL, next_head h1, if_neg (hi (Nat.le_refl _))]
    exact .refl _
  · have e1 : mdI lv = .chain lv := by unfold mdI; rw [if_neg (by omega), if_neg e]
    have e2 : mdI (lv + 1) = .chain (lv + 1) := by unfold mdI; rw [if_neg (by omega), if_neg (by omega)]
    rw [e2] at h
    rw [e1, RI_chain n lv (by omega)]
    refine Good.bind h ?_
    rw [RI_chainL, next_head h1, if_neg (hc lv (Nat.le_refl _) (by omega) h6), if_pos (show [k].length = 1 from rfl)]
    exact .refl _
theorem down_to {n : Nat} {ts : List Tk} {o : Nat} {gs : List Gt} {k : Int} {rest : List Tk} {gs' : List Gt} : ∀ (d lv : Nat), 3 ≤ lv → lv + d ≤ 7 → Good (RI n (mdI (lv + d)) ts o gs) (.ok [k] rest gs') → stopI lv rest → Good (RI n (mdI lv) ts o gs) (.ok [k] rest gs')
  | 0, _, _, _, h, _ => h
  | d + 1, lv, h3, h7, h, hs => down_one h3 (by omega) (down_to d (lv + 1) (by omega) (by omega) (by rw [show lv + 1 + d = lv + (d + 1) by omega]; exact h) (hs.mono (by omega))) hs

theorem level_cases (g : Gt) : levelI g = 2 ∨ levelI g = 4 ∨ levelI g = 5 ∨ levelI g = 6 ∨ levelI g = 7 := by
  unfold levelI; split <;> (try split) <;> (try split) <;> (try split) <;> (try split) <;> simp
theorem stop_of {lv : Nat} {t : List UInt8} {r : List Tk} (h1 : lv ≤ 2 → t ≠ [60, 45, 62]) (h2 : lv ≤ 3 → t ≠ [45, 62]) (h3 : ∀ ℓ, lv ≤ ℓ → 4 ≤ ℓ → ℓ ≤ 6 → t ≠ signI ℓ) : stopI lv (some t :: r) := ⟨t, rfl, h1, h2, h3⟩
theorem sign_no {t : List UInt8} (h : t ≠ [124] ∧ t ≠ [94] ∧ t ≠ [38]) (ℓ : Nat) : t ≠ signI ℓ := by
  unfold signI
  split
  · exact h.1
  split
  · exact h.2.1
  · exact h.2.2
end Go.Proofs.YtmaiofimmjedjaaDoor

/- What is written for a circuit is read as its tree form: each kind of gate. Plain. -/
namespace Go.Proofs.YtmaiofimmjedjaaDoor
open Go

theorem len_two {α : Type} {l : List α} (h : l.length = 2) : ∃ a b, l = [a, b] := by
  match l, h with
  | [a, b], _ => exact ⟨a, b, rfl⟩
end Go.Proofs.YtmaiofimmjedjaaDoor

/- Parse of what is written; the text of the tree form. Plain. -/
namespace Go.Proofs.YtmaiofimmjedjaaDoor
open Go

theorem readI_top (n : Nat) (l : List UInt8) : readI n (16 * (lexI (l.length + 1) l 0).length + 16) .form ((lexI (l.length + 1) l 0).map (·.2)) 0 [] = RI n .form (lexS l) 0 [] := by
  refine RI_of ?_
  unfold bdI
  rw [List.length_map, show rkI .form = 14 from rfl]; omega
def finI (l : List UInt8) (n : Int) (r : PR) : List Gt × Nat × Int := match r with
  | .err r e => ([], posI l r, e)
  | .ok _ ts gs => if ts.headD (some []) ≠ some [] then ([], posI l ts.length, 5) else if checkI n gs = 0 then (gs, 0, 0) else ([], 0, 2)
theorem parseI_eq {l : List UInt8} {n : Int} (h0 : 0 ≤ n) (h1 : n ≤ 128) (hl : l.length ≤ 1048576) : parseI l n = finI l n (RI n.toNat .form (lexS l) 0 []) := by
  unfold parseI
  rw [if_neg (by omega), if_neg (by omega), readI_top]
  rfl
/-! ### What the tree form has in common with the circuit -/
structure Corr (G G' : List Gt) (k k' : Int) : Prop where
  kd : (gI G' k').k = (gI G k).k
  lit : (gI G' k').lit = (gI G k).lit
  ins : (gI G' k').ins.length = (gI G k).ins.length
  tx : TX G' k' = TX G k
theorem Corr.level {G G' : List Gt} {k k' : Int} (h : Corr G G' k k') : levelI (gI G' k') = levelI (gI G k) := by
  unfold levelI; rw [h.kd, h.ins]
inductive All2 (R : Int → Int → Prop) : List Int → List Int → Prop
  | nil : All2 R [] []
  | cons {a b : Int} {l m : List Int} (h : R a b) (t : All2 R l m) : All2 R (a :: l) (b :: m)
theorem All2.length {R : Int → Int → Prop} : ∀ {l m : List Int}, All2 R l m → m.length = l.length
  | _, _, .nil => rfl
  | _, _, .cons _ t => by simp [t.length]
def Stand (G' : List Gt) (b : Nat) (t : List Gt) : Prop := ∀ j x, t[j]? = some x → G'[b + j]? = some x
theorem Stand.left {G' : List Gt} {b : Nat} {s t : List Gt} (h : Stand G' b (s ++ t)) : Stand G' b s := fun j x hj => h j x (by
  rw [List.getElem?_append_left (List.getElem?_eq_some_iff.1 hj).1]; exact hj)
theorem Stand.right {G' : List Gt} {b : Nat} {s t : List Gt} (h : Stand G' b (s ++ t)) : Stand G' (b + s.length) t := fun j x hj => by
  have := h (s.length + j) x (by rw [List.getElem?_append_right (by omega)]; simpa using hj)
  rwa [← Nat.add_assoc] at this
end Go.Proofs.YtmaiofimmjedjaaDoor

/- What is written for a circuit, by both: lengths, pieces one by one. Plain. -/
namespace Go.Proofs.YtmaiofimmjedjaaDoor
open Go

def printI (n : Int) (gs : List Gt) : List UInt8 × Int := if checkI n gs ≠ 0 then ([], checkI n gs) else if 1048576 < (TX gs ((gs.length : Nat) - 1 : Nat)).length then ([], 2) else (TX gs ((gs.length : Nat) - 1 : Nat), 0)
def KN (gs : List Gt) (k : Int) : List UInt8 := if 1048576 < (TX gs k).length then [0] else TX gs k
theorem TX_ne0 {n : Int} {gs : List Gt} (hok : Ok n gs) {i : Nat} (hi : i < gs.length) : TX gs i ≠ [0] := fun e => by
  have h := lex_written hok hi
  rw [e] at h
  have h0 : lexS [0] = [none] := by decide
  rw [h0] at h
  cases hk : TK gs i with
  | nil => rw [hk] at h; simp at h
  | cons a r => rw [hk] at h; simp at h
theorem op_mem (gs : List Gt) (own : Nat) (k : Int) : Pc.g k ∈ opI gs own k := by unfold opI putI; split <;> simp
theorem put_mem (k : Int) (p : Bool) : Pc.g k ∈ putI k p := by unfold putI; split <;> simp
theorem more_mem {gs : List Gt} {sep : List UInt8} {w : List (List UInt8)} {own : Nat} {k : Int} : ∀ (l : List Int), k ∈ l → Pc.g k ∈ moreI gs sep w own l
  | j :: l, h => by
    rw [moreI]
    rcases List.mem_cons.1 h with rfl | h
    · exact List.mem_cons_of_mem _ (List.mem_append_left _ (op_mem gs own k))
    · exact List.mem_cons_of_mem _ (List.mem_append_right _ (more_mem l h))
theorem between_mem {gs : List Gt} {sep : List UInt8} {w : List (List UInt8)} {own : Nat} {k : Int} (l : List Int) (h : k ∈ l) : Pc.g k ∈ betweenI gs sep w own l := by
  cases l with
  | nil => cases h
  | cons j l =>
    rw [betweenI]
    rcases List.mem_cons.1 h with rfl | h
    · exact List.mem_append_left _ (op_mem gs own k)
    · exact List.mem_append_right _ (more_mem l h)
theorem pcs_mem {n : Int} {gs : List Gt} {i : Nat} {g : Gt} (h : OkG n gs i g) {k : Int} (hk : k ∈ g.ins) : Pc.g k ∈ pcsI gs g := by
  unfold pcsI
  split
  · rename_i e; have := List.length_eq_zero_iff.1 (many_none h.many (.inl e)); rw [this] at hk; cases hk
  split
  · rename_i e; have := List.length_eq_zero_iff.1 (many_none h.many (.inr (.inl e))); rw [this] at hk; cases hk
  split
  · rename_i e; have := List.length_eq_zero_iff.1 (many_none h.many (.inr (.inr e))); rw [this] at hk; cases hk
  split
  · rename_i e
    obtain ⟨a, ha⟩ := List.length_eq_one_iff.1 (many_one h.many e)
    rw [ha] at hk
    have : k = a := by simpa using hk
    subst this
    rw [ha]
    exact List.mem_cons_of_mem _ (put_mem k _)
  split
  · rename_i e
    obtain ⟨a, c, ha⟩ := len_two (many_two h.many e)
    rw [ha] at hk
    rw [ha]
    rcases List.mem_cons.1 hk with rfl | hk
    · exact List.mem_append_left _ (put_mem k _)
    · have : k = c := by simpa using hk
      subst this
      exact List.mem_append_right _ (List.mem_cons_of_mem _ (put_mem k _))
  split
  · exact List.mem_cons_of_mem _ (List.mem_append_left _ (between_mem _ hk))
  · exact between_mem _ hk
theorem mem_len {α : Type} {f : α → List UInt8} : ∀ (l : List α) (x : α), x ∈ l → (f x).length ≤ (l.flatMap f).length
  | a :: l, x, h => by
    rw [List.flatMap_cons, List.length_append]
    rcases List.mem_cons.1 h with rfl | h
    · omega
    · have := mem_len (f := f) l x h; omega
theorem TX_in {n : Int} {gs : List Gt} (hok : Ok n gs) {i : Nat} {g : Gt} (hg : gs[i]? = some g) {k : Int} (hk : k ∈ g.ins) : (TX gs k).length ≤ (TX gs i).length := by
  rw [TX_eq hok hg]
  exact mem_len (f := fun p : Pc => match p with | .s t _ => t | .g k => TX gs k) _ (Pc.g k) (pcs_mem (hok i g hg) hk)

/-! ### One operand more -/
theorem more_snoc (gs : List Gt) (sep : List UInt8) (w : List (List UInt8)) (own : Nat) (k : Int) : ∀ l : List Int, moreI gs sep w own (l ++ [k]) = moreI gs sep w own l ++ (.s sep w :: opI gs own k)
  | [] => by simp [moreI]
  | j :: l => by rw [List.cons_append, moreI, moreI, more_snoc gs sep w own k l]; simp
theorem between_snoc (gs : List Gt) (sep : List UInt8) (w : List (List UInt8)) (own : Nat) (k : Int) (l : List Int) : betweenI gs sep w own (l ++ [k]) = betweenI gs sep w own l ++ ((if l = [] then [] else [.s sep w]) ++ opI gs own k) := by
  cases l with
  | nil => simp [betweenI, moreI]
  | cons j l => rw [List.cons_append, betweenI, betweenI, more_snoc]; simp
theorem take_snoc {l : List Int} {i : Nat} {k : Int} (h : l[i]? = some k) : l.take (i + 1) = l.take i ++ [k] := by
  obtain ⟨hi, rfl⟩ := List.getElem?_eq_some_iff.1 h
  rw [List.take_succ_eq_append_getElem hi]
theorem between_take (gs : List Gt) (sep : List UInt8) (w : List (List UInt8)) (own : Nat) {l : List Int} {i : Nat} {k : Int} (h : l[i]? = some k) : betweenI gs sep w own (l.take (i + 1)) = betweenI gs sep w own (l.take i) ++ ((if i = 0 then [] else [.s sep w]) ++ opI gs own k) := by
  rw [take_snoc h, between_snoc]
  have hi := (List.getElem?_eq_some_iff.1 h).1
  cases i with
  | zero => simp
  | succ i =>
    have hne : l.take (i + 1) ≠ [] := fun e => by
      have := congrArg List.length e
      rw [List.length_take, List.length_nil] at this
      omega
    rw [if_neg hne, if_neg (Nat.succ_ne_zero i)]
def capI (n : Nat) : Nat := min n 1048577
theorem capI_le (a : Nat) : capI a ≤ 1048577 := by unfold capI; omega
theorem capI_big (a : Nat) : (1048576 < capI a) = (1048576 < a) := by unfold capI; apply propext; omega
end Go.Proofs.YtmaiofimmjedjaaDoor

/- More blanks do not change what is read. Plain. -/
namespace Go.Proofs.YtmaiofimmjedjaaDoor
open Go

theorem tw_mem {p : UInt8 → Bool} : ∀ (l : List UInt8) {c : UInt8}, c ∈ l.takeWhile p → p c = true
  | [], _, h => by simp at h
  | a :: l, c, h => by
    rw [List.takeWhile_cons] at h
    split at h
    · rename_i ha
      rcases List.mem_cons.1 h with rfl | h
      · exact ha
      · exact tw_mem l h
    · simp at h
theorem sign_blank : ∀ s ∈ signsI, ∀ c ∈ s, c ≠ 32 := by decide
theorem tok_word {l : List UInt8} {t : List UInt8} (h : tokI l = some t) : (∀ c ∈ t, c ≠ 32) ∧ Lib.hasPrefix l t = true := by
  unfold tokI at h
  split at h
  · cases h; exact ⟨fun c hc => by simp at hc, by simp [Lib.hasPrefix]⟩
  · split at h
    · rename_i s hs
      cases h
      exact ⟨sign_blank _ (List.mem_of_find?_eq_some hs), by simpa using List.find?_some hs⟩
    · split at h
      · cases h
      · cases h
        refine ⟨fun c hc => ?_, ?_⟩
        · have := tw_mem _ hc
          exact (small_not_sign this).2.2.2.2.2.2.2.2.2
        · unfold Lib.hasPrefix
          rw [List.isPrefixOf_iff_prefix]
          exact List.takeWhile_prefix _
end Go.Proofs.YtmaiofimmjedjaaDoor

/- A text in parentheses is read as the same circuit. Plain. -/
namespace Go.Proofs.YtmaiofimmjedjaaDoor
open Go

def EndI : List Tk := [some []]
def ParI : List Tk := [some [41], some []]
def Full (ts : List Tk) : Prop := ∀ t ∈ ts, t ≠ some []
theorem Full.tail {t : Tk} {ts : List Tk} (h : Full (t :: ts)) : Full ts := fun x hx => h x (by simp [hx])
def Sim (r r' : PR) : Prop := ∀ l q g, r = .ok l q g → ∃ ts, q = ts ++ EndI ∧ Full ts ∧ Good r' (.ok l (ts ++ ParI) g)
theorem Sim.bind {r r' : PR} {f f' : List Int → List Tk → List Gt → PR} (h : Sim r r') (hf : ∀ l ts g, r = .ok l (ts ++ EndI) g → Full ts → Sim (f l (ts ++ EndI) g) (f' l (ts ++ ParI) g)) : Sim (r.bind f) (r'.bind f') := fun l q g e => by
  obtain ⟨l1, q1, g1, h1, h2⟩ := bind_ok e
  obtain ⟨ts, rfl, hF, hG⟩ := h l1 q1 g1 h1
  obtain ⟨us, rfl, hU, hG2⟩ := hf l1 ts g1 h1 hF l q g h2
  exact ⟨us, rfl, hU, Good.bind hG hG2⟩
theorem Sim.ok {l : List Int} {ts : List Tk} {g : List Gt} (h : Full ts) : Sim (.ok l (ts ++ EndI) g) (.ok l (ts ++ ParI) g) := fun l' q g' e => by
  cases e; exact ⟨ts, rfl, h, .refl _⟩
theorem Sim.err {r : Nat} {e : Int} {x : PR} : Sim (.err r e) x := fun _ _ _ h => by cases h
theorem Sim.next {ts : List Tk} (hF : Full ts) {f f' : List UInt8 → PR} (he : ts = [] → Sim (f []) (f' [41])) (hs : ∀ t r, ts = some t :: r → t ≠ [] → Sim (f t) (f' t)) : Sim (nextI (ts ++ EndI) f) (nextI (ts ++ ParI) f') := by
  cases ts with
  | nil => exact he rfl
  | cons t r =>
    cases t with
    | none => exact .err
    | some t =>
      rw [List.cons_append, List.cons_append, next_some, next_some]
      exact hs t r rfl (fun e => hF (some t) (by simp) (by rw [e]))
theorem Sim.need {s : List UInt8} (hs : s ≠ []) {ts : List Tk} (hF : Full ts) {f f' : List Tk → PR} (h : ∀ r, ts = some s :: r → Sim (f (r ++ EndI)) (f' (r ++ ParI))) : Sim (needI s (ts ++ EndI) f) (needI s (ts ++ ParI) f') := by
  unfold needI
  refine Sim.next hF (fun _ => ?_) (fun t r e ht => ?_)
  · rw [if_neg (Ne.symm hs)]; exact .err
  · subst e
    by_cases e : t = s
    · rw [if_pos e, if_pos e]
      exact h r (by rw [e])
    · rw [if_neg e]; exact .err
theorem Sim.open {s : List UInt8} (hs : s ≠ []) {ts : List Tk} (hF : Full ts) {o : Nat} {f f' : List Tk → PR} (h : ∀ r, ts = some s :: r → Sim (f (r ++ EndI)) (f' (r ++ ParI))) : Sim (openI s (ts ++ EndI) o f) (openI s (ts ++ ParI) (o + 1) f') := by
  unfold openI
  refine Sim.need hs hF fun r e => ?_
  by_cases h1 : 200 ≤ o
  · rw [if_pos h1]; exact .err
  · rw [if_neg h1]
    by_cases h2 : 200 ≤ o + 1
    · intro l q g hq
      obtain ⟨us, e1, e2, _⟩ := h r e l q g hq
      exact ⟨us, e1, e2, .inr ⟨_, by rw [if_pos h2]⟩⟩
    · rw [if_neg h2]; exact h r e
end Go.Proofs.YtmaiofimmjedjaaDoor

/- A text in parentheses is read as the same circuit: the law. Plain. -/
namespace Go.Proofs.YtmaiofimmjedjaaDoor
open Go

/-! ### What is read are tokens -/
def Suf (ts q : List Tk) : Prop := ∃ p, ts = p ++ q ∧ ∀ t ∈ p, ∃ w, t = some w ∧ w ≠ []
theorem Suf.refl (ts : List Tk) : Suf ts ts := ⟨[], rfl, fun t h => by simp at h⟩
theorem Suf.trans {a b c : List Tk} (h : Suf a b) (k : Suf b c) : Suf a c := by
  obtain ⟨p, rfl, hp⟩ := h
  obtain ⟨q, rfl, hq⟩ := k
  exact ⟨p ++ q, by simp, fun t ht => (List.mem_append.1 ht).elim (hp t) (hq t)⟩
/-! ### Tokens of a text with a parenthesis behind it -/
/-! ### No error is 0 -/
def NZ (r : PR) : Prop := ∀ q e, r = .err q e → e ≠ 0
theorem NZ.ok {l : List Int} {ts : List Tk} {gs : List Gt} : NZ (.ok l ts gs) := fun _ _ h => by cases h
theorem NZ.err {q : Nat} {e : Int} (h : e ≠ 0) : NZ (.err q e) := fun _ _ k => by cases k; exact h
theorem NZ.bind {r : PR} {f : List Int → List Tk → List Gt → PR} (h : NZ r) (k : ∀ l ts gs, NZ (f l ts gs)) : NZ (r.bind f) := by
  cases r with
  | ok a b c => exact k a b c
  | err a b => exact h
theorem NZ.next {ts : List Tk} {f : List UInt8 → PR} (h : ∀ t, NZ (f t)) : NZ (nextI ts f) := by
  unfold nextI; split
  · exact .err (by decide)
  · exact h _
theorem NZ.need {s : List UInt8} {ts : List Tk} {f : List Tk → PR} (h : ∀ t, NZ (f t)) : NZ (needI s ts f) := NZ.next fun t => by
  split
  · exact h _
  · exact .err (by decide)
theorem NZ.open {s : List UInt8} {ts : List Tk} {o : Nat} {f : List Tk → PR} (h : ∀ t, NZ (f t)) : NZ (openI s ts o f) := NZ.need fun t => by
  split
  · exact .err (by decide)
  · exact h _
end Go.Proofs.YtmaiofimmjedjaaDoor

/- Places of tokens. Plain. -/
namespace Go.Proofs.YtmaiofimmjedjaaDoor
open Go

def nxtI (l : List UInt8) (p : Nat) : Nat := p + blI (l.drop p)
def LX (l : List UInt8) (p : Nat) : List (Nat × Tk) := lexI (l.length + 1) (l.drop p) p
def TS (l : List UInt8) (p : Nat) : List Tk := lexS (l.drop p)
theorem TS_map (l : List UInt8) (p : Nat) : TS l p = (LX l p).map (·.2) := by
  unfold TS LX lexS
  rw [lex_shift (l.length + 1) (l.drop p) p, lex_steps ((l.drop p).length + 1) (l.length + 1) _ _ (by omega) (by rw [List.length_drop]; omega)]
theorem LX_eq (l : List UInt8) (p : Nat) : LX l p = match tokI (l.drop (nxtI l p)) with | none => [(nxtI l p, none)] | some [] => [(nxtI l p, some [])] | some (c :: t) => (nxtI l p, some (c :: t)) :: LX l (nxtI l p + (c :: t).length) := by
  unfold LX
  rw [lexI, List.drop_drop, show p + blI (l.drop p) = nxtI l p from rfl]
  cases ht : tokI (l.drop (nxtI l p)) with
  | none => rfl
  | some t =>
    cases t with
    | nil => rfl
    | cons c t =>
      have hne : l.drop (nxtI l p) ≠ [] := fun e => by rw [e] at ht; simp [tokI] at ht
      have hpos := List.length_pos_iff.2 hne
      rw [List.length_drop] at hpos
      simp only []
      rw [List.drop_drop, lex_steps l.length (l.length + 1) _ _ (by simp; omega) (by simp; omega)]
theorem TS_eq (l : List UInt8) (p : Nat) : TS l p = match tokI (l.drop (nxtI l p)) with | none => [none] | some [] => [some []] | some (c :: t) => some (c :: t) :: TS l (nxtI l p + (c :: t).length) := by
  rw [TS_map, LX_eq]
  cases ht : tokI (l.drop (nxtI l p)) with
  | none => rfl
  | some t =>
    cases t with
    | nil => rfl
    | cons c t => simp only [List.map_cons]; rw [TS_map]
theorem TS_head (l : List UInt8) (p : Nat) : (TS l p).headD (some []) = tokI (l.drop (nxtI l p)) := by
  rw [TS_eq]
  cases ht : tokI (l.drop (nxtI l p)) with
  | none => rfl
  | some t => cases t <;> rfl
theorem TS_tail {l : List UInt8} {p : Nat} {t : List UInt8} (h : tokI (l.drop (nxtI l p)) = some t) (ht : t ≠ []) : (TS l p).tail = TS l (nxtI l p + t.length) := by
  rw [TS_eq, h]
  cases t with
  | nil => exact absurd rfl ht
  | cons c t => rfl
structure Pl (l : List UInt8) (p : Nat) : Prop where
  le : p ≤ l.length
  suf : ∃ pre, LX l 0 = pre ++ LX l p
theorem Pl.zero (l : List UInt8) : Pl l 0 := ⟨Nat.zero_le _, [], rfl⟩
theorem tok_le {l : List UInt8} {t : List UInt8} (h : tokI l = some t) : t.length ≤ l.length := by
  have := (tok_word h).2
  unfold Lib.hasPrefix at this
  exact (List.isPrefixOf_iff_prefix.1 this).length_le
theorem nxt_le {l : List UInt8} {p : Nat} (h : p ≤ l.length) : nxtI l p ≤ l.length := by
  have : blI (l.drop p) ≤ (l.drop p).length := (List.takeWhile_prefix _).length_le
  rw [List.length_drop] at this
  unfold nxtI; omega
theorem Pl.next {l : List UInt8} {p : Nat} (h : Pl l p) {t : List UInt8} (ht : tokI (l.drop (nxtI l p)) = some t) (hne : t ≠ []) : Pl l (nxtI l p + t.length) := by
  have h1 := tok_le ht
  have h2 := nxt_le h.le
  rw [List.length_drop] at h1
  refine ⟨by omega, ?_⟩
  obtain ⟨pre, hp⟩ := h.suf
  rw [LX_eq l p, ht] at hp
  cases t with
  | nil => exact absurd rfl hne
  | cons c t => exact ⟨pre ++ [(nxtI l p, some (c :: t))], by rw [hp]; simp⟩
theorem Pl.pos {l : List UInt8} {p : Nat} (h : Pl l p) : posI l (TS l p).length = nxtI l p := by
  obtain ⟨pre, hp⟩ := h.suf
  unfold posI
  have e : lexI (l.length + 1) l 0 = LX l 0 := by unfold LX; rw [List.drop_zero]
  have hl : (TS l p).length = (LX l p).length := by rw [TS_map, List.length_map]
  rw [e, hp, hl, List.length_append, Nat.add_sub_cancel, List.drop_left, LX_eq]
  cases ht : tokI (l.drop (nxtI l p)) with
  | none => rfl
  | some t => cases t <;> rfl
end Go.Proofs.YtmaiofimmjedjaaDoor

/- How many gates are read. Plain. -/
namespace Go.Proofs.YtmaiofimmjedjaaDoor
open Go

def moreM : Md → Nat
  | .implL l => 2 * (l.length - 1)
  | .chainL _ l => l.length - 1
  | _ => 0
def goodM : Md → Prop
  | .implL l => 1 ≤ l.length
  | .chainL _ l => 1 ≤ l.length
  | _ => True
def listM : Md → Bool
  | .args => true
  | .argsL _ => true
  | .three => true
  | _ => false
theorem foldI_len : ∀ (r : List Int) (k : Int) (gs : List Gt), (foldI r k gs).2.length = gs.length + 2 * r.length
  | [], _, _ => rfl
  | x :: r, k, gs => by rw [foldI, foldI_len r]; simp; omega
theorem readI_gs (n : Nat) : ∀ (f : Nat) (m : Md) (ts : List Tk) (o : Nat) (gs : List Gt) (l : List Int) (ts' : List Tk) (gs' : List Gt), goodM m → readI n f m ts o gs = .ok l ts' gs' → gs'.length + 3 * ts'.length + (if loopM m then 0 else 2) ≤ gs.length + 3 * ts.length + moreM m ∧ (listM m = false → l.length = 1) := by
  intro f
  induction f with
  | zero => intro m ts o gs l ts' gs' _ h; rw [readI] at h; cases h
  | succ f ih =>
    intro m ts o gs l ts' gs' hg h
    cases m with
    | form =>
      rw [readI] at h
      obtain ⟨a, b, c, h1, h2⟩ := bind_ok h
      obtain ⟨i1, _⟩ := ih _ _ _ _ _ _ _ (by trivial) h1
      obtain ⟨i2, j2⟩ := ih _ _ _ _ _ _ _ (by trivial) h2
      simp [loopM, moreM] at *
      exact ⟨by omega, fun _ => j2 rfl⟩
    | formL k =>
      rw [readI] at h
      obtain ⟨t, h1, h2⟩ := next_ok h
      split at h2
      · rename_i e
        have := head_tail h1 (by rw [e]; simp)
        obtain ⟨a, b, c, h3, h4⟩ := bind_ok h2
        obtain ⟨i1, _⟩ := ih _ _ _ _ _ _ _ (by trivial) h3
        obtain ⟨i2, j2⟩ := ih _ _ _ _ _ _ _ (by trivial) h4
        simp [loopM, moreM] at *
        exact ⟨by omega, fun _ => j2 rfl⟩
      · cases h2; simp [loopM, moreM]
    | impl =>
      rw [readI] at h
      obtain ⟨a, b, c, h1, h2⟩ := bind_ok h
      obtain ⟨i1, j1⟩ := ih _ _ _ _ _ _ _ (by trivial) h1
      have ha := j1 rfl
      obtain ⟨i2, j2⟩ := ih _ _ _ _ _ _ _ (by show 1 ≤ a.length; omega) h2
      simp [loopM, moreM] at *
      exact ⟨by omega, fun _ => j2 rfl⟩
    | implL k =>
      have hk : 1 ≤ k.length := hg
      rw [readI] at h
      obtain ⟨t, h1, h2⟩ := next_ok h
      split at h2
      · rename_i e
        have := head_tail h1 (by rw [e]; simp)
        obtain ⟨a, b, c, h3, h4⟩ := bind_ok h2
        obtain ⟨i1, j1⟩ := ih _ _ _ _ _ _ _ (by trivial) h3
        have ha := j1 rfl
        obtain ⟨i2, j2⟩ := ih _ _ _ _ _ _ _ (by show 1 ≤ (k ++ a).length; simp; omega) h4
        simp [loopM, moreM] at *
        exact ⟨by omega, fun _ => j2 rfl⟩
      · cases h2
        refine ⟨?_, fun _ => rfl⟩
        rw [foldI_len]
        simp [loopM, moreM]
        omega
    | chain lv =>
      rw [readI] at h
      split at h
      · obtain ⟨i1, j1⟩ := ih _ _ _ _ _ _ _ (by trivial) h
        simp [loopM, moreM] at *
        exact ⟨by omega, fun _ => j1 rfl⟩
      · obtain ⟨a, b, c, h1, h2⟩ := bind_ok h
        obtain ⟨i1, j1⟩ := ih _ _ _ _ _ _ _ (by trivial) h1
        have ha := j1 rfl
        obtain ⟨i2, j2⟩ := ih _ _ _ _ _ _ _ (by show 1 ≤ a.length; omega) h2
        simp [loopM, moreM] at *
        exact ⟨by omega, fun _ => j2 rfl⟩
    | chainL lv k =>
      have hk : 1 ≤ k.length := hg
      rw [readI] at h
      obtain ⟨t, h1, h2⟩ := next_ok h
      split at h2
      · rename_i e
        have := head_tail h1 (by rw [e]; unfold signI; split <;> (try split) <;> simp)
        obtain ⟨a, b, c, h3, h4⟩ := bind_ok h2
        obtain ⟨i1, j1⟩ := ih _ _ _ _ _ _ _ (by trivial) h3
        have ha := j1 rfl
        obtain ⟨i2, j2⟩ := ih _ _ _ _ _ _ _ (by show 1 ≤ (k ++ a).length; simp; omega) h4
        simp [loopM, moreM] at *
        exact ⟨by omega, fun _ => j2 rfl⟩
      · split at h2
        · rename_i e; cases h2; exact ⟨by simp [loopM, moreM], fun _ => e⟩
        · rename_i e; cases h2; refine ⟨?_, fun _ => rfl⟩; simp [loopM, moreM]; omega
    | atom =>
      rw [readI] at h
      obtain ⟨t, h1, h2⟩ := next_ok h
      split at h2
      · rename_i e
        have := head_tail h1 (fun e2 => e (by rw [e2]; exact varI_nil n))
        cases h2; refine ⟨?_, fun _ => rfl⟩; simp [loopM, moreM]; omega
      split at h2
      · obtain ⟨h3, _, h4⟩ := open_ok h2
        have := head_tail h3 (by simp)
        obtain ⟨w, h5, h6⟩ := next_ok h4
        split at h6
        · rename_i e
          have := head_tail h5 (fun e2 => e (by rw [e2]; exact varI_nil n))
          cases h6; refine ⟨?_, fun _ => rfl⟩; simp [loopM, moreM]; omega
        · obtain ⟨a, b, c, h7, h8⟩ := bind_ok h6
          obtain ⟨i1, _⟩ := ih _ _ _ _ _ _ _ (by trivial) h7
          cases h8; refine ⟨?_, fun _ => rfl⟩; simp [loopM, moreM] at *; omega
      split at h2
      · obtain ⟨h3, _, h4⟩ := open_ok h2
        have := head_tail h3 (by simp)
        obtain ⟨a, b, c, h7, h8⟩ := bind_ok h4
        obtain ⟨i1, j1⟩ := ih _ _ _ _ _ _ _ (by trivial) h7
        obtain ⟨h9, h10⟩ := need_ok h8
        have := head_tail h9 (by simp)
        cases h10; refine ⟨?_, fun _ => j1 rfl⟩; simp [loopM, moreM] at *; omega
      split at h2
      · rename_i e
        have := head_tail h1 (by rw [e]; simp)
        cases h2; refine ⟨?_, fun _ => rfl⟩; simp [loopM, moreM]; omega
      split at h2
      · rename_i e
        have := head_tail h1 (by rw [e]; simp)
        cases h2; refine ⟨?_, fun _ => rfl⟩; simp [loopM, moreM]; omega
      split at h2
      · cases h2
      · rename_i e
        have := head_tail h1 (fun e2 => e (by rw [e2]; exact wordI_nil))
        obtain ⟨a, b, c, h7, h8⟩ := bind_ok h2
        have i1 : c.length + 3 * b.length + 2 ≤ gs.length + 3 * ts.tail.length := by
          split at h7
          · obtain ⟨i1, _⟩ := ih _ _ _ _ _ _ _ (by trivial) h7; simp [loopM, moreM] at i1; omega
          · obtain ⟨i1, _⟩ := ih _ _ _ _ _ _ _ (by trivial) h7; simp [loopM, moreM] at i1; omega
        cases h8; refine ⟨?_, fun _ => rfl⟩; simp [loopM, moreM] at *; omega
    | args =>
      rw [readI] at h
      obtain ⟨h3, _, h4⟩ := open_ok h
      have := head_tail h3 (by simp)
      obtain ⟨w, h5, h6⟩ := next_ok h4
      split at h6
      · rename_i e
        have := head_tail h5 (by rw [e]; simp)
        cases h6; refine ⟨?_, fun h => by cases h⟩; simp [loopM, moreM]; omega
      · obtain ⟨a, b, c, h7, h8⟩ := bind_ok h6
        obtain ⟨i1, _⟩ := ih _ _ _ _ _ _ _ (by trivial) h7
        obtain ⟨i2, _⟩ := ih _ _ _ _ _ _ _ (by trivial) h8
        refine ⟨?_, fun h => by cases h⟩; simp [loopM, moreM] at *; omega
    | argsL k =>
      rw [readI] at h
      obtain ⟨t, h1, h2⟩ := next_ok h
      split at h2
      · rename_i e
        have := head_tail h1 (by rw [e]; simp)
        obtain ⟨a, b, c, h7, h8⟩ := bind_ok h2
        obtain ⟨i1, _⟩ := ih _ _ _ _ _ _ _ (by trivial) h7
        obtain ⟨i2, _⟩ := ih _ _ _ _ _ _ _ (by trivial) h8
        refine ⟨?_, fun h => by cases h⟩; simp [loopM, moreM] at *; omega
      · obtain ⟨h9, h10⟩ := need_ok h2
        have := head_tail h9 (by simp)
        cases h10; refine ⟨?_, fun h => by cases h⟩; simp [loopM, moreM]; omega
    | three =>
      rw [readI] at h
      obtain ⟨h3, _, h4⟩ := open_ok h
      have := head_tail h3 (by simp)
      obtain ⟨a, b, c, h7, h8⟩ := bind_ok h4
      obtain ⟨i1, _⟩ := ih _ _ _ _ _ _ _ (by trivial) h7
      obtain ⟨h9, h10⟩ := need_ok h8
      have := head_tail h9 (by simp)
      obtain ⟨a2, b2, c2, h7b, h8b⟩ := bind_ok h10
      obtain ⟨i2, _⟩ := ih _ _ _ _ _ _ _ (by trivial) h7b
      obtain ⟨h9b, h10b⟩ := need_ok h8b
      have := head_tail h9b (by simp)
      obtain ⟨a3, b3, c3, h7c, h8c⟩ := bind_ok h10b
      obtain ⟨i3, _⟩ := ih _ _ _ _ _ _ _ (by trivial) h7c
      obtain ⟨h9c, h10c⟩ := need_ok h8c
      have := head_tail h9c (by simp)
      cases h10c; refine ⟨?_, fun h => by cases h⟩; simp [loopM, moreM] at *; omega
theorem RI_gs {n : Nat} {m : Md} {ts : List Tk} {o : Nat} {gs : List Gt} {l : List Int} {ts' : List Tk} {gs' : List Gt} (hg : goodM m) (h : RI n m ts o gs = .ok l ts' gs') : gs'.length + 3 * ts'.length + (if loopM m then 0 else 2) ≤ gs.length + 3 * ts.length + moreM m ∧ (listM m = false → l.length = 1) := readI_gs n _ m ts o gs l ts' gs' hg h
end Go.Proofs.YtmaiofimmjedjaaDoor
