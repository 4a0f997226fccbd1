/- Texts of this claim, joined: ID, IE, IQ. -/
import Derived.Test.YtallcgpiecopcaaDoorMI05

/- The tokens of what is written. Plain. -/
namespace Go.Proofs.YtallcgpiecopcaaDoor
open Go

def lexS (l : List UInt8) : List Tk := (lexI (l.length + 1) l 0).map (·.2)
theorem lex_shift : ∀ (f : Nat) (l : List UInt8) (p : Nat), (lexI f l p).map (·.2) = (lexI f l 0).map (·.2)
  | 0, _, _ => rfl
  | f + 1, l, p => by
    unfold lexI
    cases tokI (l.drop (blI l)) with
    | none => rfl
    | some t =>
      cases t with
      | nil => rfl
      | cons c t =>
        simp only [List.map_cons]
        rw [lex_shift f _ (p + blI l + (c :: t).length), lex_shift f _ (0 + blI l + (c :: t).length)]
theorem lex_steps : ∀ (f f' : Nat) (l : List UInt8) (p : Nat), l.length < f → l.length < f' → lexI f l p = lexI f' l p
  | 0, _, _, _, h, _ => by omega
  | f + 1, f', l, p, h, h' => by
    obtain ⟨g, rfl⟩ : ∃ g, f' = g + 1 := ⟨f' - 1, by omega⟩
    unfold lexI
    cases ht : tokI (l.drop (blI l)) with
    | none => rfl
    | some t =>
      cases t with
      | nil => rfl
      | cons c t =>
        have hne : l.drop (blI l) ≠ [] := fun e => by rw [e] at ht; simp [tokI] at ht
        have hlt : ((l.drop (blI l)).drop (c :: t).length).length < l.length := by
          have := List.length_pos_iff.2 hne
          simp at this ⊢; omega
        simp only []
        rw [lex_steps f g _ _ (by omega) (by omega)]
theorem lexS_eq (l : List UInt8) : lexS l = match tokI (l.drop (blI l)) with | none => [none] | some [] => [some []] | some (c :: t) => some (c :: t) :: lexS ((l.drop (blI l)).drop (c :: t).length) := by
  unfold lexS
  rw [lexI]
  cases ht : tokI (l.drop (blI l)) with
  | none => rfl
  | some t =>
    cases t with
    | nil => rfl
    | cons c t =>
      have hne : l.drop (blI l) ≠ [] := fun e => by rw [e] at ht; simp [tokI] at ht
      have hlt : ((l.drop (blI l)).drop (c :: t).length).length < l.length := by
        have := List.length_pos_iff.2 hne
        simp at this ⊢; omega
      simp only [List.map_cons]
      rw [lex_shift, lex_steps l.length (((l.drop (blI l)).drop (c :: t).length).length + 1) _ _ hlt (by omega)]
theorem lexS_blank (r : List UInt8) : lexS (32 :: r) = lexS r := by
  rw [lexS_eq, lexS_eq]
  have e : blI (32 :: r) = blI r + 1 := by simp [blI]
  rw [e, List.drop_succ_cons]
theorem lexS_nil : lexS [] = [some []] := by rw [lexS_eq]; rfl
def LexAny (s : List UInt8) (a : List (List UInt8)) : Prop := ∀ r, lexS (s ++ r) = a.map some ++ lexS r
def stopB (r : List UInt8) : Prop := ∀ c, r.head? = some c → smallI c = false
def LexTo (s : List UInt8) (a : List (List UInt8)) : Prop := ∀ r, stopB r → lexS (s ++ r) = a.map some ++ lexS r
theorem LexAny.to {s : List UInt8} {a : List (List UInt8)} (h : LexAny s a) : LexTo s a := fun r _ => h r
theorem LexAny.app {s t : List UInt8} {a b : List (List UInt8)} (h : LexAny s a) (k : LexAny t b) : LexAny (s ++ t) (a ++ b) := fun r => by
  rw [List.append_assoc, h, k, List.map_append, List.append_assoc]
theorem LexAny.appTo {s t : List UInt8} {a b : List (List UInt8)} (h : LexAny s a) (k : LexTo t b) : LexTo (s ++ t) (a ++ b) := fun r hr => by
  rw [List.append_assoc, h, k r hr, List.map_append, List.append_assoc]
theorem LexTo.app {s t : List UInt8} {a b : List (List UInt8)} (h : LexTo s a) (k : LexAny t b) (ht : ∃ c r, t = c :: r ∧ smallI c = false) : LexAny (s ++ t) (a ++ b) := fun r => by
  rw [List.append_assoc, h _ (by obtain ⟨c, u, rfl, hc⟩ := ht; intro d hd; simp at hd; subst hd; exact hc), k, List.map_append, List.append_assoc]
theorem any_nil : LexAny [] [] := fun _r => rfl
theorem any_blank : LexAny [32] [] := fun r => lexS_blank r
theorem any_sign {s : List UInt8} (h : s ∈ signsI) : LexAny s [s] := fun r => by
  rw [lexS_eq]
  simp only [signsI, List.mem_cons, List.not_mem_nil, or_false] at h
  rcases h with rfl | rfl | rfl | rfl | rfl | rfl | rfl | rfl | rfl <;> simp [blI, tokI, signsI, Lib.hasPrefix, List.isPrefixOf]
theorem small_not_sign {c : UInt8} (h : smallI c = true) : c ≠ 33 ∧ c ≠ 38 ∧ c ≠ 94 ∧ c ≠ 124 ∧ c ≠ 45 ∧ c ≠ 60 ∧ c ≠ 40 ∧ c ≠ 41 ∧ c ≠ 44 ∧ c ≠ 32 := by
  refine ⟨?_, ?_, ?_, ?_, ?_, ?_, ?_, ?_, ?_, ?_⟩ <;> (rintro rfl; revert h; decide)
theorem takeWhile_all {α : Type} {p : α → Bool} : ∀ (w r : List α), (∀ c ∈ w, p c = true) → (∀ c, r.head? = some c → p c = false) → (w ++ r).takeWhile p = w
  | [], r, _, hr => by
    cases r with
    | nil => rfl
    | cons c r => rw [List.nil_append, List.takeWhile_cons, if_neg (by rw [hr c rfl]; simp)]
  | c :: w, r, hw, hr => by
    rw [List.cons_append, List.takeWhile_cons, if_pos (hw c (by simp)), takeWhile_all w r (fun d hd => hw d (by simp [hd])) hr]
theorem to_word {w : List UInt8} (hne : w ≠ []) (hw : ∀ c ∈ w, smallI c = true) : LexTo w [w] := fun r hr => by
  rw [lexS_eq]
  obtain ⟨c, u, rfl⟩ := List.exists_cons_of_ne_nil hne
  obtain ⟨h1, h2, h3, h4, h5, h6, h7, h8, h9, h10⟩ := small_not_sign (hw c (by simp))
  have hb : blI (c :: u ++ r) = 0 := by simp [blI, h10]
  have ht : tokI (c :: u ++ r) = some (c :: u) := by
    unfold tokI
    rw [if_neg (by simp)]
    have hf : signsI.find? (fun s => Lib.hasPrefix (c :: u ++ r) s) = none := by
      simp [signsI, Lib.hasPrefix, List.isPrefixOf, Ne.symm h1, Ne.symm h2, Ne.symm h3, Ne.symm h4, Ne.symm h5, Ne.symm h6, Ne.symm h7, Ne.symm h8, Ne.symm h9]
    rw [hf]
    simp only []
    rw [takeWhile_all (c :: u) r hw hr, if_neg (by simp)]
  rw [hb, List.drop_zero, ht]
  simp only []
  rw [List.drop_left]
  rfl

/-! ### What is written -/
def ptx (gs : List Gt) (ps : List Pc) : List UInt8 := ps.flatMap fun p => match p with | .s t _ => t | .g k => TX gs k
def ptk (gs : List Gt) (ps : List Pc) : List (List UInt8) := ps.flatMap fun p => match p with | .s _ w => w | .g k => TK gs k
theorem ptx_app (gs : List Gt) (a b : List Pc) : ptx gs (a ++ b) = ptx gs a ++ ptx gs b := by simp [ptx]
theorem ptk_app (gs : List Gt) (a b : List Pc) : ptk gs (a ++ b) = ptk gs a ++ ptk gs b := by simp [ptk]
theorem ptx_s (gs : List Gt) (t : List UInt8) (w : List (List UInt8)) (r : List Pc) : ptx gs (.s t w :: r) = t ++ ptx gs r := by simp [ptx]
theorem ptk_s (gs : List Gt) (t : List UInt8) (w : List (List UInt8)) (r : List Pc) : ptk gs (.s t w :: r) = w ++ ptk gs r := by simp [ptk]
theorem ptx_g (gs : List Gt) (k : Int) (r : List Pc) : ptx gs (.g k :: r) = TX gs k ++ ptx gs r := by simp [ptx]
theorem ptk_g (gs : List Gt) (k : Int) (r : List Pc) : ptk gs (.g k :: r) = TK gs k ++ ptk gs r := by simp [ptk]
theorem ptx_nil (gs : List Gt) : ptx gs [] = [] := rfl
theorem ptk_nil (gs : List Gt) : ptk gs [] = [] := rfl
def LexG (gs : List Gt) (k : Int) : Prop := LexTo (TX gs k) (TK gs k)
theorem lex_put {gs : List Gt} {k : Int} (h : LexG gs k) (p : Bool) : LexTo (ptx gs (putI k p)) (ptk gs (putI k p)) := by
  unfold putI
  cases p with
  | false => simp only [Bool.false_eq_true, if_false]; rw [ptx_g, ptk_g, ptx_nil, ptk_nil, List.append_nil, List.append_nil]; exact h
  | true =>
    simp only [if_true]
    rw [ptx_s, ptk_s, ptx_g, ptk_g, ptx_s, ptk_s, ptx_nil, ptk_nil, List.append_nil, List.append_nil]
    exact ((any_sign (by decide)).app (h.app (any_sign (by decide)) ⟨41, [], rfl, by decide⟩)).to
theorem lex_more {gs : List Gt} {sep : List UInt8} {w : List (List UInt8)} {own : Nat} (hs : LexAny sep w) (hc : ∃ c r, sep = c :: r ∧ smallI c = false) : ∀ (l : List Int), (∀ k ∈ l, LexG gs k) → ∀ (k : Int), LexG gs k → LexTo (ptx gs (opI gs own k ++ moreI gs sep w own l)) (ptk gs (opI gs own k ++ moreI gs sep w own l))
  | [], _, k, hk => by rw [moreI, List.append_nil]; exact lex_put hk _
  | j :: l, h, k, hk => by
    rw [moreI, ptx_app, ptk_app, ptx_s, ptk_s, ← List.append_assoc, ← List.append_assoc]
    exact ((lex_put hk _).app hs hc).appTo (lex_more hs hc l (fun j' hj' => h j' (by simp [hj'])) j (h j (by simp)))
theorem digits_small (v : Nat) : ∀ c ∈ decN v, smallI c = true := by
  induction v using Nat.strongRecOn with
  | _ v ih =>
    have hd : ∀ d, d < 10 → smallI (UInt8.ofNat (48 + d)) = true := by decide
    by_cases h : v < 10
    · rw [decN_eq, Lib.decDigits_one h]
      intro c hc
      rw [List.mem_singleton] at hc; subst hc
      exact hd v h
    · rw [decN_eq, Lib.decDigits, dif_neg h, ← decN_eq]
      intro c hc
      rcases List.mem_append.1 hc with hc | hc
      · exact ih (v / 10) (by omega) c hc
      · rw [List.mem_singleton] at hc; subst hc
        exact hd _ (by omega)
theorem xI_word (v : Int) : LexTo (xI v) [xI v] := to_word (by simp [xI]) (fun c hc => by
  unfold xI at hc
  rcases List.mem_cons.1 hc with rfl | hc
  · decide
  · exact digits_small _ c hc)
theorem name_word (k : Int) : LexTo (nameI k) [nameI k] := by
  refine to_word ?_ ?_ <;> (unfold nameI; split <;> (try split) <;> (try split)) <;> decide
theorem sign_in (lv : Nat) : signI lv ∈ signsI := by
  unfold signI; split <;> (try split) <;> decide
theorem lexGt {n : Int} {gs : List Gt} (hok : Ok n gs) : ∀ (i : Nat), i < gs.length → LexG gs i := by
  intro i
  induction i using Nat.strongRecOn with
  | _ i ih =>
    intro hi
    have hx : gs[i]? = some gs[i] := List.getElem?_eq_getElem hi
    obtain ⟨g, hg⟩ : ∃ g, g = gs[i] := ⟨_, rfl⟩
    rw [← hg] at hx
    have hG := hok i g hx
    have sub : ∀ k ∈ g.ins, LexG gs k := fun k hk => by
      obtain ⟨j, rfl, hj, _⟩ := hG.inp hi hk
      exact ih j hj (by omega)
    unfold LexG
    rw [TX_eq hok hx, TK_eq hok hx]
    show LexTo (ptx gs (pcsI gs g)) (ptk gs (pcsI gs g))
    unfold pcsI
    split
    · rw [ptx_s, ptk_s, ptx_nil, ptk_nil, List.append_nil, List.append_nil]; exact to_word (by simp) (by decide)
    split
    · rw [ptx_s, ptk_s, ptx_nil, ptk_nil, List.append_nil, List.append_nil]; exact to_word (by simp) (by decide)
    split
    · split
      · rw [ptx_s, ptk_s, ptx_nil, ptk_nil, List.append_nil, List.append_nil]; exact (any_sign (s := [33]) (by decide)).appTo (xI_word _)
      · rw [ptx_s, ptk_s, ptx_nil, ptk_nil, List.append_nil, List.append_nil]; exact xI_word _
    split
    · rename_i h3
      have := many_one hG.many h3
      rw [ptx_s, ptk_s]
      exact (any_sign (by decide)).appTo (lex_put (sub _ (headI_in (fun e => by rw [e] at this; simp at this))) _)
    split
    · rename_i h7
      have h2 := many_two hG.many h7
      rw [ptx_app, ptk_app, ptx_s, ptk_s, ← List.append_assoc, ← List.append_assoc]
      refine LexAny.appTo (LexTo.app (lex_put (sub _ (headI_in (fun e => by rw [e] at h2; simp at h2))) _) ?_ ⟨32, _, rfl, by decide⟩) (lex_put (sub _ (List.mem_of_mem_tail (headI_in (fun e => by have := congrArg List.length e; simp at this; omega)))) _)
      exact (any_blank.app ((any_sign (s := [60, 45, 62]) (by decide)).app any_blank))
    split
    · rw [ptx_s, ptk_s, ptx_app, ptk_app, ptx_s, ptk_s, ptx_nil, ptk_nil, List.append_nil, List.append_nil]
      refine ((name_word g.k).app (any_sign (s := [40]) (by decide)) ⟨40, [], rfl, by decide⟩).appTo ?_
      cases hl : g.ins with
      | nil => exact (any_nil.app (any_sign (s := [41]) (by decide))).to
      | cons k r =>
        rw [hl] at sub
        rw [betweenI]
        exact ((lex_more ((any_sign (s := [44]) (by decide)).app any_blank) ⟨44, _, rfl, by decide⟩ r (fun j hj => sub j (by simp [hj])) k (sub k (by simp))).app (any_sign (s := [41]) (by decide)) ⟨41, [], rfl, by decide⟩).to
    · cases hl : g.ins with
      | nil => exact any_nil.to
      | cons k r =>
        rw [hl] at sub
        rw [betweenI]
        exact lex_more ((any_blank.app (any_sign (sign_in _))).app any_blank) ⟨32, _, rfl, by decide⟩ r (fun j hj => sub j (by simp [hj])) k (sub k (by simp))
theorem lex_written {n : Int} {gs : List Gt} (hok : Ok n gs) {i : Nat} (hi : i < gs.length) : lexS (TX gs i) = (TK gs i).map some ++ [some []] := by
  have h := lexGt hok i hi [] (fun c hc => by simp at hc)
  rwa [List.append_nil, lexS_nil] at h
end Go.Proofs.YtallcgpiecopcaaDoor

/- What is written for a circuit is read as its tree form. Plain. -/
namespace Go.Proofs.YtallcgpiecopcaaDoor
open Go

/-! ### Words -/
theorem digI_lt (v : Nat) : ∀ c ∈ decN v, 48 ≤ c.toNat ∧ c.toNat ≤ 57 := by
  induction v using Nat.strongRecOn with
  | _ v ih =>
    have hd : ∀ d, d < 10 → 48 ≤ (UInt8.ofNat (48 + d)).toNat ∧ (UInt8.ofNat (48 + d)).toNat ≤ 57 := by decide
    by_cases h : v < 10
    · rw [decN_eq, Lib.decDigits_one h]
      intro c hc
      rw [List.mem_singleton] at hc; subst hc
      exact hd v h
    · rw [decN_eq, Lib.decDigits, dif_neg h, ← decN_eq]
      intro c hc
      rcases List.mem_append.1 hc with hc | hc
      · exact ih (v / 10) (by omega) c hc
      · rw [List.mem_singleton] at hc; subst hc
        exact hd _ (by omega)
def valI (l : List UInt8) : Nat := l.foldl (fun a c => a * 10 + (c.toNat - 48)) 0
theorem valI_dec (v : Nat) : valI (decN v) = v := by
  induction v using Nat.strongRecOn with
  | _ v ih =>
    have hd : ∀ d, d < 10 → (UInt8.ofNat (48 + d)).toNat - 48 = d := by decide
    by_cases h : v < 10
    · rw [decN_eq, Lib.decDigits_one h]
      show 0 * 10 + ((UInt8.ofNat (48 + v)).toNat - 48) = v
      rw [hd v h]; omega
    · rw [decN_eq, Lib.decDigits, dif_neg h, ← decN_eq]
      have := ih (v / 10) (by omega)
      unfold valI at this ⊢
      rw [List.foldl_append, this]
      show v / 10 * 10 + ((UInt8.ofNat (48 + v % 10)).toNat - 48) = v
      rw [hd _ (by omega)]; omega
theorem decI_inj {u v : Nat} (h : decN u = decN v) : u = v := by
  have := congrArg valI h
  rwa [valI_dec, valI_dec] at this
theorem varI_some {n : Nat} {w : List UInt8} (h : varI n w ≠ 0) : ∃ v, w = 120 :: decN v := by
  unfold varI at h
  split at h
  · rename_i i hi
    have := List.find?_some hi
    exact ⟨i + 1, by simpa using this⟩
  · exact absurd rfl h
theorem varI_of {n v : Nat} (h1 : 1 ≤ v) (h2 : v ≤ n) : varI n (120 :: decN v) = v := by
  unfold varI
  cases h : (List.range n).find? (fun i => (120 :: decN v : List UInt8) == 120 :: decN (i + 1)) with
  | none =>
    have := List.find?_eq_none.1 h (v - 1) (by simp; omega)
    rw [show v - 1 + 1 = v by omega] at this
    simp at this
  | some i =>
    have := List.find?_some h
    have e : decN v = decN (i + 1) := by simpa using this
    have := decI_inj e
    simp only []; omega
theorem varI_no {n : Nat} {c : UInt8} {r : List UInt8} (h : c ≠ 120) : varI n (c :: r) = 0 := by
  apply Decidable.not_not.1
  intro hn
  obtain ⟨v, hv⟩ := varI_some hn
  rw [List.cons.injEq] at hv
  exact h hv.1
theorem varI_name (n : Nat) (k : Int) : varI n (nameI k) = 0 := by
  unfold nameI
  split
  · exact varI_no (by decide)
  split
  · exact varI_no (by decide)
  split
  · apply Decidable.not_not.1
    intro hn
    obtain ⟨v, hv⟩ := varI_some hn
    rw [List.cons.injEq] at hv
    have := digI_lt v 111 (by rw [← hv.2]; simp)
    revert this; decide
  · exact varI_no (by decide)

/-! ### Reading -/
def Good (r v : PR) : Prop := r = v ∨ ∃ q, r = .err q 2
theorem Good.refl (r : PR) : Good r r := .inl rfl
theorem Good.trans {a b c : PR} (h : Good a b) (k : Good b c) : Good a c := by
  rcases h with rfl | ⟨q, rfl⟩
  · exact k
  · exact .inr ⟨q, rfl⟩
theorem Good.bind {r : PR} {l : List Int} {ts : List Tk} {gs : List Gt} {f : List Int → List Tk → List Gt → PR} {v : PR} (h : Good r (.ok l ts gs)) (k : Good (f l ts gs) v) : Good (r.bind f) v := by
  rcases h with rfl | ⟨q, rfl⟩
  · exact k
  · exact .inr ⟨q, rfl⟩
def mdI (lv : Nat) : Md := if lv ≤ 2 then .form else if lv = 3 then .impl else .chain lv
def stopI (lv : Nat) (ts : List Tk) : Prop := ∃ t, ts.headD (some []) = some t ∧ (lv ≤ 2 → t ≠ [60, 45, 62]) ∧ (lv ≤ 3 → t ≠ [45, 62]) ∧ ∀ ℓ, lv ≤ ℓ → 4 ≤ ℓ → ℓ ≤ 6 → t ≠ signI ℓ
theorem stopI.mono {a b : Nat} {ts : List Tk} (h : stopI a ts) (hab : a ≤ b) : stopI b ts := by
  obtain ⟨t, h1, h2, h3, h4⟩ := h
  exact ⟨t, h1, fun e => h2 (by omega), fun e => h3 (by omega), fun ℓ e => h4 ℓ (by omega)⟩
theorem next_some {t : List UInt8} {r : List Tk} {f : List UInt8 → PR} : nextI (some t :: r) f = f t := rfl
theorem next_head {ts : List Tk} {t : List UInt8} {f : List UInt8 → PR} (h : ts.headD (some []) = some t) : nextI ts f = f t := by unfold nextI; rw [h]
theorem need_some {s : List UInt8} {r : List Tk} {f : List Tk → PR} : needI s (some s :: r) f = f r := by unfold needI; rw [next_some, if_pos rfl]; rfl
theorem open_some {s : List UInt8} {r : List Tk} {o : Nat} {f : List Tk → PR} {v : PR} (h : Good (f r) v) : Good (openI s (some s :: r) o f) v := by
  unfold openI
  rw [need_some]
  split
  · exact .inr ⟨_, rfl⟩
  · exact h
theorem down_one {n lv : Nat} {ts : List Tk} {o : Nat} {gs : List Gt} {k : Int} {rest : List Tk} {gs' : List Gt} (h3 : 3 ≤ lv) (h6 : lv ≤ 6) (h : Good (RI n (mdI (lv + 1)) ts o gs) (.ok [k] rest gs')) (hs : stopI lv rest) : Good (RI n (mdI lv) ts o gs) (.ok [k] rest gs') := by
  obtain ⟨t, h1, _, hi, hc⟩ := hs
  by_cases e : lv = 3
  · subst e
    show Good (RI n .impl ts o gs) _
    rw [RI_impl]
    refine Good.bind (show Good (RI n (.chain 4) ts o gs) _ from h) ?_
    rw [RI_implL, next_head h1, if_neg (hi (Nat.le_refl _))]
    exact .refl _
  · have e1 : mdI lv = .chain lv := by unfold mdI; rw [if_neg (by omega), if_neg e]
    have e2 : mdI (lv + 1) = .chain (lv + 1) := by unfold mdI; rw [if_neg (by omega), if_neg (by omega)]
    rw [e2] at h
    rw [e1, RI_chain n lv (by omega)]
    refine Good.bind h ?_
    rw [RI_chainL, next_head h1, if_neg (hc lv (Nat.le_refl _) (by omega) h6), if_pos (show [k].length = 1 from rfl)]
    exact .refl _
theorem down_to {n : Nat} {ts : List Tk} {o : Nat} {gs : List Gt} {k : Int} {rest : List Tk} {gs' : List Gt} : ∀ (d lv : Nat), 3 ≤ lv → lv + d ≤ 7 → Good (RI n (mdI (lv + d)) ts o gs) (.ok [k] rest gs') → stopI lv rest → Good (RI n (mdI lv) ts o gs) (.ok [k] rest gs')
  | 0, _, _, _, h, _ => h
  | d + 1, lv, h3, h7, h, hs => down_one h3 (by omega) (down_to d (lv + 1) (by omega) (by omega) (by rw [show lv + 1 + d = lv + (d + 1) by omega]; exact h) (hs.mono (by omega))) hs

def rootI (b : Nat) (t : List Gt) : Int := ((b + t.length : Nat) : Int) - 1
def tkT (gs : List Gt) (k : Int) : List Tk := (TK gs k).map some
def AtI (n : Nat) (G : List Gt) (k : Int) : Prop := ∀ (lv : Nat), 3 ≤ lv → lv ≤ levelI (gI G k) → ∀ (rest : List Tk) (o : Nat) (b : List Gt), stopI lv rest → Good (RI n (mdI lv) (tkT G k ++ rest) o b) (.ok [rootI b.length (TR G k b.length)] rest (b ++ TR G k b.length))
def FmI (n : Nat) (G : List Gt) (k : Int) : Prop := ∀ (rest : List Tk) (o : Nat) (b : List Gt), stopI 3 rest → Good (RI n .form (tkT G k ++ rest) o b) (RI n (.formL (rootI b.length (TR G k b.length))) rest o (b ++ TR G k b.length))
theorem level_cases (g : Gt) : levelI g = 2 ∨ levelI g = 4 ∨ levelI g = 5 ∨ levelI g = 6 ∨ levelI g = 7 := by
  unfold levelI; split <;> (try split) <;> (try split) <;> (try split) <;> (try split) <;> simp
theorem at_form {n : Nat} {G : List Gt} {k : Int} (h : AtI n G k) (hl : 3 ≤ levelI (gI G k)) : FmI n G k := fun rest o b hs => by
  rw [RI_form]
  exact Good.bind (h 3 (Nat.le_refl _) hl rest o b hs) (.refl _)
theorem form_ok {n : Nat} {G : List Gt} {k : Int} (h : FmI n G k) (rest : List Tk) (o : Nat) (b : List Gt) (hs : stopI 2 rest) : Good (RI n .form (tkT G k ++ rest) o b) (.ok [rootI b.length (TR G k b.length)] rest (b ++ TR G k b.length)) := by
  refine (h rest o b (hs.mono (by omega))).trans ?_
  obtain ⟨t, h1, h2, _⟩ := hs
  rw [RI_formL, next_head h1, if_neg (h2 (Nat.le_refl _))]
  exact .refl _
theorem stop_of {lv : Nat} {t : List UInt8} {r : List Tk} (h1 : lv ≤ 2 → t ≠ [60, 45, 62]) (h2 : lv ≤ 3 → t ≠ [45, 62]) (h3 : ∀ ℓ, lv ≤ ℓ → 4 ≤ ℓ → ℓ ≤ 6 → t ≠ signI ℓ) : stopI lv (some t :: r) := ⟨t, rfl, h1, h2, h3⟩
theorem sign_no {t : List UInt8} (h : t ≠ [124] ∧ t ≠ [94] ∧ t ≠ [38]) (ℓ : Nat) : t ≠ signI ℓ := by
  unfold signI
  split
  · exact h.1
  split
  · exact h.2.1
  · exact h.2.2
theorem sign_inj {a b : Nat} (ha : 4 ≤ a) (ha6 : a ≤ 6) (hb : 4 ≤ b) (hb6 : b ≤ 6) (h : signI a = signI b) : a = b := by
  have : a = 4 ∨ a = 5 ∨ a = 6 := by omega
  have : b = 4 ∨ b = 5 ∨ b = 6 := by omega
  rcases this with rfl | rfl | rfl <;> rcases ‹a = 4 ∨ a = 5 ∨ a = 6› with rfl | rfl | rfl <;> first | rfl | (revert h; decide)
def putT (G : List Gt) (k : Int) (p : Bool) : List Tk := (ptk G (putI k p)).map some
theorem putT_no (G : List Gt) (k : Int) : putT G k false = tkT G k := by simp [putT, putI, ptk, tkT]
theorem putT_yes (G : List Gt) (k : Int) : putT G k true = some [40] :: (tkT G k ++ [some [41]]) := by simp [putT, putI, ptk, tkT]
theorem paren_at {n : Nat} {G : List Gt} {k : Int} (h : FmI n G k) (lv : Nat) (h3 : 3 ≤ lv) (h7 : lv ≤ 7) (rest : List Tk) (o : Nat) (b : List Gt) (hs : stopI lv rest) : Good (RI n (mdI lv) (putT G k true ++ rest) o b) (.ok [rootI b.length (TR G k b.length)] rest (b ++ TR G k b.length)) := by
  refine down_to (7 - lv) lv h3 (by omega) ?_ hs
  rw [show lv + (7 - lv) = 7 by omega]
  show Good (RI n (.chain 7) _ o b) _
  rw [RI_chain7, RI_atom, putT_yes, List.cons_append, next_some, if_neg (by rw [varI_no (by decide)]; simp), if_neg (by decide), if_pos rfl]
  refine open_some ?_
  rw [List.append_assoc]
  refine Good.bind (form_ok h _ (o + 1) b (stop_of (fun _ => by decide) (fun _ => by decide) (fun ℓ _ _ _ => sign_no (by decide) ℓ))) ?_
  rw [List.singleton_append, need_some]
  exact .refl _
theorem put_at {n : Nat} {G : List Gt} {k : Int} (hF : FmI n G k) (hA : AtI n G k) (p : Bool) (lv : Nat) (h3 : 3 ≤ lv) (h7 : lv ≤ 7) (hp : p = false → lv ≤ levelI (gI G k)) (rest : List Tk) (o : Nat) (b : List Gt) (hs : stopI lv rest) : Good (RI n (mdI lv) (putT G k p ++ rest) o b) (.ok [rootI b.length (TR G k b.length)] rest (b ++ TR G k b.length)) := by
  cases p with
  | true => exact paren_at hF lv h3 h7 rest o b hs
  | false => rw [putT_no]; exact hA lv h3 (hp rfl) rest o b hs
def opT (G : List Gt) (own : Nat) (k : Int) : List Tk := (ptk G (opI G own k)).map some
def moreT (G : List Gt) (sep : List UInt8) (w : List UInt8) (own : Nat) (l : List Int) : List Tk := (ptk G (moreI G sep [w] own l)).map some
theorem moreT_nil (G : List Gt) (sep w : List UInt8) (own : Nat) : moreT G sep w own [] = [] := rfl
theorem moreT_cons (G : List Gt) (sep w : List UInt8) (own : Nat) (k : Int) (l : List Int) : moreT G sep w own (k :: l) = some w :: (opT G own k ++ moreT G sep w own l) := by
  simp [moreT, moreI, ptk_s, ptk_app, opT]
theorem chain_more {n : Nat} {G : List Gt} (lv : Nat) (h4 : 4 ≤ lv) (h6 : lv ≤ 6) (sep : List UInt8) (rest : List Tk) (o : Nat) (hs : stopI lv rest) : ∀ (l : List Int), (∀ k ∈ l, FmI n G k ∧ AtI n G k) → ∀ (acc : List Int) (b : List Gt), 2 ≤ acc.length + l.length →
    Good (RI n (.chainL lv acc) (moreT G sep (signI lv) lv l ++ rest) o b) (.ok [((b ++ (seqI (TR G) l b.length).1).length : Nat)] rest ((b ++ (seqI (TR G) l b.length).1) ++ [⟨kindI lv, 0, acc ++ (seqI (TR G) l b.length).2⟩]))
  | [], _, acc, b, ha => by
    obtain ⟨t, h1, _, _, hc⟩ := hs
    rw [moreT_nil, List.nil_append, RI_chainL, next_head h1, if_neg (hc lv (Nat.le_refl _) h4 h6), if_neg (by simp at ha; omega)]
    simp [seqI]
    exact .refl _
  | k :: l, hl, acc, b, ha => by
    have hk := hl k (by simp)
    rw [moreT_cons, List.cons_append, List.append_assoc, RI_chainL, next_some, if_pos rfl, List.tail_cons]
    have e2 : mdI (lv + 1) = .chain (lv + 1) := by unfold mdI; rw [if_neg (by omega), if_neg (by omega)]
    have hrest : stopI (lv + 1) (moreT G sep (signI lv) lv l ++ rest) := by
      cases l with
      | nil => rw [moreT_nil]; exact hs.mono (by omega)
      | cons j l =>
        rw [moreT_cons, List.cons_append]
        exact stop_of (fun e => by omega) (fun e => by omega) (fun ℓ e1 e2 e3 e => by have := sign_inj h4 h6 e2 e3 e; omega)
    have h := put_at hk.1 hk.2 (decide (levelI (gI G k) ≤ lv)) (lv + 1) (by omega) (by omega) (fun e => by have := of_decide_eq_false e; omega) (moreT G sep (signI lv) lv l ++ rest) o b hrest
    rw [e2] at h
    refine Good.bind h ?_
    have ih := chain_more lv h4 h6 sep rest o hs l (fun j hj => hl j (by simp [hj])) (acc ++ [rootI b.length (TR G k b.length)]) (b ++ TR G k b.length) (by simp at ha ⊢; omega)
    refine ih.trans (.inl ?_)
    simp [seqI, rootI, List.append_assoc]
theorem args_more {n : Nat} {G : List Gt} (sep : List UInt8) (rest : List Tk) (o : Nat) : ∀ (l : List Int), (∀ k ∈ l, FmI n G k ∧ 1 ≤ levelI (gI G k)) → ∀ (acc : List Int) (b : List Gt),
    Good (RI n (.argsL acc) (moreT G sep [44] 0 l ++ some [41] :: rest) o b) (.ok (acc ++ (seqI (TR G) l b.length).2) rest (b ++ (seqI (TR G) l b.length).1))
  | [], _, acc, b => by
    rw [moreT_nil, List.nil_append, RI_argsL, next_some, if_neg (by decide), need_some]
    simp [seqI]
    exact .refl _
  | k :: l, hl, acc, b => by
    have hk := hl k (by simp)
    rw [moreT_cons, List.cons_append, List.append_assoc, RI_argsL, next_some, if_pos rfl, List.tail_cons]
    have hrest : stopI 2 (moreT G sep [44] 0 l ++ some [41] :: rest) := by
      cases l with
      | nil => rw [moreT_nil]; exact stop_of (fun _ => by decide) (fun _ => by decide) (fun ℓ _ _ _ => sign_no (by decide) ℓ)
      | cons j l =>
        rw [moreT_cons, List.cons_append]
        exact stop_of (fun _ => by decide) (fun _ => by decide) (fun ℓ _ _ _ => sign_no (by decide) ℓ)
    have e : opT G 0 k = tkT G k := by
      unfold opT opI
      rw [show decide (levelI (gI G k) ≤ 0) = false from decide_eq_false (by omega)]
      exact putT_no G k
    rw [e]
    refine Good.bind (form_ok hk.1 _ o b hrest) ?_
    have ih := args_more sep rest o l (fun j hj => hl j (by simp [hj])) (acc ++ [rootI b.length (TR G k b.length)]) (b ++ TR G k b.length)
    refine ih.trans (.inl ?_)
    simp [seqI, rootI, List.append_assoc]
end Go.Proofs.YtallcgpiecopcaaDoor

/- How many gates are read. Plain. -/
namespace Go.Proofs.YtallcgpiecopcaaDoor
open Go

def moreM : Md → Nat
  | .implL l => 2 * (l.length - 1)
  | .chainL _ l => l.length - 1
  | _ => 0
def goodM : Md → Prop
  | .implL l => 1 ≤ l.length
  | .chainL _ l => 1 ≤ l.length
  | _ => True
def listM : Md → Bool
  | .args => true
  | .argsL _ => true
  | .three => true
  | _ => false
theorem foldI_len : ∀ (r : List Int) (k : Int) (gs : List Gt), (foldI r k gs).2.length = gs.length + 2 * r.length
  | [], _, _ => rfl
  | x :: r, k, gs => by rw [foldI, foldI_len r]; simp; omega
theorem readI_gs (n : Nat) : ∀ (f : Nat) (m : Md) (ts : List Tk) (o : Nat) (gs : List Gt) (l : List Int) (ts' : List Tk) (gs' : List Gt), goodM m → readI n f m ts o gs = .ok l ts' gs' → gs'.length + 3 * ts'.length + (if loopM m then 0 else 2) ≤ gs.length + 3 * ts.length + moreM m ∧ (listM m = false → l.length = 1) := by
  intro f
  induction f with
  | zero => intro m ts o gs l ts' gs' _ h; rw [readI] at h; cases h
  | succ f ih =>
    intro m ts o gs l ts' gs' hg h
    cases m with
    | form =>
      rw [readI] at h
      obtain ⟨a, b, c, h1, h2⟩ := bind_ok h
      obtain ⟨i1, _⟩ := ih _ _ _ _ _ _ _ (by trivial) h1
      obtain ⟨i2, j2⟩ := ih _ _ _ _ _ _ _ (by trivial) h2
      simp [loopM, moreM] at *
      exact ⟨by omega, fun _ => j2 rfl⟩
    | formL k =>
      rw [readI] at h
      obtain ⟨t, h1, h2⟩ := next_ok h
      split at h2
      · rename_i e
        have := head_tail h1 (by rw [e]; simp)
        obtain ⟨a, b, c, h3, h4⟩ := bind_ok h2
        obtain ⟨i1, _⟩ := ih _ _ _ _ _ _ _ (by trivial) h3
        obtain ⟨i2, j2⟩ := ih _ _ _ _ _ _ _ (by trivial) h4
        simp [loopM, moreM] at *
        exact ⟨by omega, fun _ => j2 rfl⟩
      · cases h2; simp [loopM, moreM]
    | impl =>
      rw [readI] at h
      obtain ⟨a, b, c, h1, h2⟩ := bind_ok h
      obtain ⟨i1, j1⟩ := ih _ _ _ _ _ _ _ (by trivial) h1
      have ha := j1 rfl
      obtain ⟨i2, j2⟩ := ih _ _ _ _ _ _ _ (by show 1 ≤ a.length; omega) h2
      simp [loopM, moreM] at *
      exact ⟨by omega, fun _ => j2 rfl⟩
    | implL k =>
      have hk : 1 ≤ k.length := hg
      rw [readI] at h
      obtain ⟨t, h1, h2⟩ := next_ok h
      split at h2
      · rename_i e
        have := head_tail h1 (by rw [e]; simp)
        obtain ⟨a, b, c, h3, h4⟩ := bind_ok h2
        obtain ⟨i1, j1⟩ := ih _ _ _ _ _ _ _ (by trivial) h3
        have ha := j1 rfl
        obtain ⟨i2, j2⟩ := ih _ _ _ _ _ _ _ (by show 1 ≤ (k ++ a).length; simp; omega) h4
        simp [loopM, moreM] at *
        exact ⟨by omega, fun _ => j2 rfl⟩
      · cases h2
        refine ⟨?_, fun _ => rfl⟩
        rw [foldI_len]
        simp [loopM, moreM]
        omega
    | chain lv =>
      rw [readI] at h
      split at h
      · obtain ⟨i1, j1⟩ := ih _ _ _ _ _ _ _ (by trivial) h
        simp [loopM, moreM] at *
        exact ⟨by omega, fun _ => j1 rfl⟩
      · obtain ⟨a, b, c, h1, h2⟩ := bind_ok h
        obtain ⟨i1, j1⟩ := ih _ _ _ _ _ _ _ (by trivial) h1
        have ha := j1 rfl
        obtain ⟨i2, j2⟩ := ih _ _ _ _ _ _ _ (by show 1 ≤ a.length; omega) h2
        simp [loopM, moreM] at *
        exact ⟨by omega, fun _ => j2 rfl⟩
    | chainL lv k =>
      have hk : 1 ≤ k.length := hg
      rw [readI] at h
      obtain ⟨t, h1, h2⟩ := next_ok h
      split at h2
      · rename_i e
        have := head_tail h1 (by rw [e]; unfold signI; split <;> (try split) <;> simp)
        obtain ⟨a, b, c, h3, h4⟩ := bind_ok h2
        obtain ⟨i1, j1⟩ := ih _ _ _ _ _ _ _ (by trivial) h3
        have ha := j1 rfl
        obtain ⟨i2, j2⟩ := ih _ _ _ _ _ _ _ (by show 1 ≤ (k ++ a).length; simp; omega) h4
        simp [loopM, moreM] at *
        exact ⟨by omega, fun _ => j2 rfl⟩
      · split at h2
        · rename_i e; cases h2; exact ⟨by simp [loopM, moreM], fun _ => e⟩
        · rename_i e; cases h2; refine ⟨?_, fun _ => rfl⟩; simp [loopM, moreM]; omega
    | atom =>
      rw [readI] at h
      obtain ⟨t, h1, h2⟩ := next_ok h
      split at h2
      · rename_i e
        have := head_tail h1 (fun e2 => e (by rw [e2]; exact varI_nil n))
        cases h2; refine ⟨?_, fun _ => rfl⟩; simp [loopM, moreM]; omega
      split at h2
      · obtain ⟨h3, _, h4⟩ := open_ok h2
        have := head_tail h3 (by simp)
        obtain ⟨w, h5, h6⟩ := next_ok h4
        split at h6
        · rename_i e
          have := head_tail h5 (fun e2 => e (by rw [e2]; exact varI_nil n))
          cases h6; refine ⟨?_, fun _ => rfl⟩; simp [loopM, moreM]; omega
        · obtain ⟨a, b, c, h7, h8⟩ := bind_ok h6
          obtain ⟨i1, _⟩ := ih _ _ _ _ _ _ _ (by trivial) h7
          cases h8; refine ⟨?_, fun _ => rfl⟩; simp [loopM, moreM] at *; omega
      split at h2
      · obtain ⟨h3, _, h4⟩ := open_ok h2
        have := head_tail h3 (by simp)
        obtain ⟨a, b, c, h7, h8⟩ := bind_ok h4
        obtain ⟨i1, j1⟩ := ih _ _ _ _ _ _ _ (by trivial) h7
        obtain ⟨h9, h10⟩ := need_ok h8
        have := head_tail h9 (by simp)
        cases h10; refine ⟨?_, fun _ => j1 rfl⟩; simp [loopM, moreM] at *; omega
      split at h2
      · rename_i e
        have := head_tail h1 (by rw [e]; simp)
        cases h2; refine ⟨?_, fun _ => rfl⟩; simp [loopM, moreM]; omega
      split at h2
      · rename_i e
        have := head_tail h1 (by rw [e]; simp)
        cases h2; refine ⟨?_, fun _ => rfl⟩; simp [loopM, moreM]; omega
      split at h2
      · cases h2
      · rename_i e
        have := head_tail h1 (fun e2 => e (by rw [e2]; exact wordI_nil))
        obtain ⟨a, b, c, h7, h8⟩ := bind_ok h2
        have i1 : c.length + 3 * b.length + 2 ≤ gs.length + 3 * ts.tail.length := by
          split at h7
          · obtain ⟨i1, _⟩ := ih _ _ _ _ _ _ _ (by trivial) h7; simp [loopM, moreM] at i1; omega
          · obtain ⟨i1, _⟩ := ih _ _ _ _ _ _ _ (by trivial) h7; simp [loopM, moreM] at i1; omega
        cases h8; refine ⟨?_, fun _ => rfl⟩; simp [loopM, moreM] at *; omega
    | args =>
      rw [readI] at h
      obtain ⟨h3, _, h4⟩ := open_ok h
      have := head_tail h3 (by simp)
      obtain ⟨w, h5, h6⟩ := next_ok h4
      split at h6
      · rename_i e
        have := head_tail h5 (by rw [e]; simp)
        cases h6; refine ⟨?_, fun h => by cases h⟩; simp [loopM, moreM]; omega
      · obtain ⟨a, b, c, h7, h8⟩ := bind_ok h6
        obtain ⟨i1, _⟩ := ih _ _ _ _ _ _ _ (by trivial) h7
        obtain ⟨i2, _⟩ := ih _ _ _ _ _ _ _ (by trivial) h8
        refine ⟨?_, fun h => by cases h⟩; simp [loopM, moreM] at *; omega
    | argsL k =>
      rw [readI] at h
      obtain ⟨t, h1, h2⟩ := next_ok h
      split at h2
      · rename_i e
        have := head_tail h1 (by rw [e]; simp)
        obtain ⟨a, b, c, h7, h8⟩ := bind_ok h2
        obtain ⟨i1, _⟩ := ih _ _ _ _ _ _ _ (by trivial) h7
        obtain ⟨i2, _⟩ := ih _ _ _ _ _ _ _ (by trivial) h8
        refine ⟨?_, fun h => by cases h⟩; simp [loopM, moreM] at *; omega
      · obtain ⟨h9, h10⟩ := need_ok h2
        have := head_tail h9 (by simp)
        cases h10; refine ⟨?_, fun h => by cases h⟩; simp [loopM, moreM]; omega
    | three =>
      rw [readI] at h
      obtain ⟨h3, _, h4⟩ := open_ok h
      have := head_tail h3 (by simp)
      obtain ⟨a, b, c, h7, h8⟩ := bind_ok h4
      obtain ⟨i1, _⟩ := ih _ _ _ _ _ _ _ (by trivial) h7
      obtain ⟨h9, h10⟩ := need_ok h8
      have := head_tail h9 (by simp)
      obtain ⟨a2, b2, c2, h7b, h8b⟩ := bind_ok h10
      obtain ⟨i2, _⟩ := ih _ _ _ _ _ _ _ (by trivial) h7b
      obtain ⟨h9b, h10b⟩ := need_ok h8b
      have := head_tail h9b (by simp)
      obtain ⟨a3, b3, c3, h7c, h8c⟩ := bind_ok h10b
      obtain ⟨i3, _⟩ := ih _ _ _ _ _ _ _ (by trivial) h7c
      obtain ⟨h9c, h10c⟩ := need_ok h8c
      have := head_tail h9c (by simp)
      cases h10c; refine ⟨?_, fun h => by cases h⟩; simp [loopM, moreM] at *; omega
theorem RI_gs {n : Nat} {m : Md} {ts : List Tk} {o : Nat} {gs : List Gt} {l : List Int} {ts' : List Tk} {gs' : List Gt} (hg : goodM m) (h : RI n m ts o gs = .ok l ts' gs') : gs'.length + 3 * ts'.length + (if loopM m then 0 else 2) ≤ gs.length + 3 * ts.length + moreM m ∧ (listM m = false → l.length = 1) := readI_gs n _ m ts o gs l ts' gs' hg h
end Go.Proofs.YtallcgpiecopcaaDoor
