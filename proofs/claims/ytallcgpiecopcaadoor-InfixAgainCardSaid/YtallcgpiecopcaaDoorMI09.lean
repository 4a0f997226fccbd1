/- Texts of this claim, joined: IJ, IP, IR, IL. -/
import Derived.Test.YtallcgpiecopcaaDoorMI07
import Derived.Test.YtallcgpiecopcaaDoorMI06

/- A text in parentheses is read as the same circuit: the law. Plain. -/
namespace Go.Proofs.YtallcgpiecopcaaDoor
open Go

/-! ### What is read are tokens -/
def Suf (ts q : List Tk) : Prop := ∃ p, ts = p ++ q ∧ ∀ t ∈ p, ∃ w, t = some w ∧ w ≠ []
theorem Suf.refl (ts : List Tk) : Suf ts ts := ⟨[], rfl, fun t h => by simp at h⟩
theorem Suf.trans {a b c : List Tk} (h : Suf a b) (k : Suf b c) : Suf a c := by
  obtain ⟨p, rfl, hp⟩ := h
  obtain ⟨q, rfl, hq⟩ := k
  exact ⟨p ++ q, by simp, fun t ht => (List.mem_append.1 ht).elim (hp t) (hq t)⟩
theorem suf_tail {ts : List Tk} {t : List UInt8} (h : ts.headD (some []) = some t) (ht : t ≠ []) : Suf ts ts.tail := by
  have := (head_tail h ht).1
  exact ⟨[some t], this, fun x hx => by simp at hx; subst hx; exact ⟨t, rfl, ht⟩⟩
theorem readI_suf (n : Nat) : ∀ (f : Nat) (m : Md) (ts : List Tk) (o : Nat) (gs : List Gt) (l : List Int) (ts' : List Tk) (gs' : List Gt), readI n f m ts o gs = .ok l ts' gs' → Suf ts ts' := by
  intro f
  induction f with
  | zero => intro m ts o gs l ts' gs' h; rw [readI] at h; cases h
  | succ f ih =>
    intro m ts o gs l ts' gs' h
    cases m with
    | form =>
      rw [readI] at h
      obtain ⟨a, b, c, h1, h2⟩ := bind_ok h
      exact (ih _ _ _ _ _ _ _ h1).trans (ih _ _ _ _ _ _ _ h2)
    | formL k =>
      rw [readI] at h
      obtain ⟨t, h1, h2⟩ := next_ok h
      split at h2
      · rename_i e
        obtain ⟨a, b, c, h3, h4⟩ := bind_ok h2
        exact (suf_tail h1 (by rw [e]; simp)).trans ((ih _ _ _ _ _ _ _ h3).trans (ih _ _ _ _ _ _ _ h4))
      · cases h2; exact .refl _
    | impl =>
      rw [readI] at h
      obtain ⟨a, b, c, h1, h2⟩ := bind_ok h
      exact (ih _ _ _ _ _ _ _ h1).trans (ih _ _ _ _ _ _ _ h2)
    | implL k =>
      rw [readI] at h
      obtain ⟨t, h1, h2⟩ := next_ok h
      split at h2
      · rename_i e
        obtain ⟨a, b, c, h3, h4⟩ := bind_ok h2
        exact (suf_tail h1 (by rw [e]; simp)).trans ((ih _ _ _ _ _ _ _ h3).trans (ih _ _ _ _ _ _ _ h4))
      · cases h2; exact .refl _
    | chain lv =>
      rw [readI] at h
      split at h
      · exact ih _ _ _ _ _ _ _ h
      · obtain ⟨a, b, c, h1, h2⟩ := bind_ok h
        exact (ih _ _ _ _ _ _ _ h1).trans (ih _ _ _ _ _ _ _ h2)
    | chainL lv k =>
      rw [readI] at h
      obtain ⟨t, h1, h2⟩ := next_ok h
      split at h2
      · rename_i e
        obtain ⟨a, b, c, h3, h4⟩ := bind_ok h2
        exact (suf_tail h1 (by rw [e]; exact signI_ne lv)).trans ((ih _ _ _ _ _ _ _ h3).trans (ih _ _ _ _ _ _ _ h4))
      · split at h2 <;> (cases h2; exact .refl _)
    | atom =>
      rw [readI] at h
      obtain ⟨t, h1, h2⟩ := next_ok h
      split at h2
      · rename_i e
        cases h2; exact suf_tail h1 (fun e2 => e (by rw [e2]; exact varI_nil n))
      split at h2
      · obtain ⟨h3, _, h4⟩ := open_ok h2
        obtain ⟨w, h5, h6⟩ := next_ok h4
        split at h6
        · rename_i e
          cases h6; exact (suf_tail h3 (by simp)).trans (suf_tail h5 (fun e2 => e (by rw [e2]; exact varI_nil n)))
        · obtain ⟨a, b, c, h7, h8⟩ := bind_ok h6
          cases h8; exact (suf_tail h3 (by simp)).trans (ih _ _ _ _ _ _ _ h7)
      split at h2
      · obtain ⟨h3, _, h4⟩ := open_ok h2
        obtain ⟨a, b, c, h7, h8⟩ := bind_ok h4
        obtain ⟨h9, h10⟩ := need_ok h8
        cases h10; exact (suf_tail h3 (by simp)).trans ((ih _ _ _ _ _ _ _ h7).trans (suf_tail h9 (by simp)))
      split at h2
      · rename_i e
        cases h2; exact suf_tail h1 (by rw [e]; simp)
      split at h2
      · rename_i e
        cases h2; exact suf_tail h1 (by rw [e]; simp)
      split at h2
      · cases h2
      · rename_i e
        obtain ⟨a, b, c, h7, h8⟩ := bind_ok h2
        cases h8; exact (suf_tail h1 (fun e2 => e (by rw [e2]; exact wordI_nil))).trans (ih _ _ _ _ _ _ _ h7)
    | args =>
      rw [readI] at h
      obtain ⟨h3, _, h4⟩ := open_ok h
      obtain ⟨w, h5, h6⟩ := next_ok h4
      split at h6
      · rename_i e
        cases h6; exact (suf_tail h3 (by simp)).trans (suf_tail h5 (by rw [e]; simp))
      · obtain ⟨a, b, c, h7, h8⟩ := bind_ok h6
        exact (suf_tail h3 (by simp)).trans ((ih _ _ _ _ _ _ _ h7).trans (ih _ _ _ _ _ _ _ h8))
    | argsL k =>
      rw [readI] at h
      obtain ⟨t, h1, h2⟩ := next_ok h
      split at h2
      · rename_i e
        obtain ⟨a, b, c, h7, h8⟩ := bind_ok h2
        exact (suf_tail h1 (by rw [e]; simp)).trans ((ih _ _ _ _ _ _ _ h7).trans (ih _ _ _ _ _ _ _ h8))
      · obtain ⟨h9, h10⟩ := need_ok h2
        cases h10; exact suf_tail h9 (by simp)
    | three =>
      rw [readI] at h
      obtain ⟨h3, _, h4⟩ := open_ok h
      obtain ⟨a, b, c, h7, h8⟩ := bind_ok h4
      obtain ⟨h9, h10⟩ := need_ok h8
      obtain ⟨a2, b2, c2, h7b, h8b⟩ := bind_ok h10
      obtain ⟨h9b, h10b⟩ := need_ok h8b
      obtain ⟨a3, b3, c3, h7c, h8c⟩ := bind_ok h10b
      obtain ⟨h9c, h10c⟩ := need_ok h8c
      cases h10c
      exact (suf_tail h3 (by simp)).trans ((ih _ _ _ _ _ _ _ h7).trans ((suf_tail h9 (by simp)).trans ((ih _ _ _ _ _ _ _ h7b).trans ((suf_tail h9b (by simp)).trans ((ih _ _ _ _ _ _ _ h7c).trans (suf_tail h9c (by simp)))))))
theorem formL_one (n : Nat) : ∀ (f : Nat) (k : Int) (ts : List Tk) (o : Nat) (gs : List Gt) (l : List Int) (ts' : List Tk) (gs' : List Gt), readI n f (.formL k) ts o gs = .ok l ts' gs' → ∃ j, l = [j]
  | 0, _, _, _, _, _, _, _, h => by rw [readI] at h; cases h
  | f + 1, k, ts, o, gs, l, ts', gs', h => by
    rw [readI] at h
    obtain ⟨t, h1, h2⟩ := next_ok h
    split at h2
    · obtain ⟨a, b, c, h3, h4⟩ := bind_ok h2
      exact formL_one n f _ _ _ _ _ _ _ h4
    · cases h2; exact ⟨k, rfl⟩
theorem form_one {n : Nat} {ts : List Tk} {o : Nat} {gs : List Gt} {l : List Int} {ts' : List Tk} {gs' : List Gt} (h : RI n .form ts o gs = .ok l ts' gs') : ∃ j, l = [j] := by
  rw [RI_form] at h
  obtain ⟨a, b, c, h3, h4⟩ := bind_ok h
  exact formL_one n _ _ _ _ _ _ _ _ h4

/-! ### Tokens of a text with a parenthesis behind it -/
theorem lex_shape : ∀ (k : Nat) (l : List UInt8), l.length ≤ k → ∃ ts, Full ts ∧ (lexS l = ts ++ EndI ∨ lexS l = ts ++ [none])
  | 0, l, h => by
    have : l = [] := List.length_eq_zero_iff.1 (by omega)
    subst this
    exact ⟨[], fun t h => by simp at h, .inl lexS_nil⟩
  | k + 1, l, h => by
    rw [lexS_eq]
    cases ht : tokI (l.drop (blI l)) with
    | none => exact ⟨[], fun t h => by simp at h, .inr rfl⟩
    | some t =>
      cases t with
      | nil => exact ⟨[], fun t h => by simp at h, .inl rfl⟩
      | cons a u =>
        have hne : l.drop (blI l) ≠ [] := fun e => by rw [e] at ht; simp [tokI] at ht
        have hlt : ((l.drop (blI l)).drop (a :: u).length).length < l.length := by
          have := List.length_pos_iff.2 hne
          simp at this ⊢; omega
        obtain ⟨ts, h1, h2⟩ := lex_shape k _ (show ((l.drop (blI l)).drop (a :: u).length).length ≤ k by omega)
        refine ⟨some (a :: u) :: ts, fun t ht => ?_, ?_⟩
        · rcases List.mem_cons.1 ht with rfl | ht
          · simp
          · exact h1 t ht
        · simp only []
          rcases h2 with h2 | h2
          · exact .inl (by rw [h2]; rfl)
          · exact .inr (by rw [h2]; rfl)
theorem par_word : ∀ (l : List UInt8), (l ++ [41]).takeWhile smallI = l.takeWhile smallI
  | [] => by decide
  | c :: l => by rw [List.cons_append, List.takeWhile_cons, List.takeWhile_cons, par_word l]
theorem par_sign : ∀ s ∈ signsI, ∀ l : List UInt8, l ≠ [] → Lib.hasPrefix (l ++ [41]) s = Lib.hasPrefix l s := by
  intro s hs l hl
  simp only [signsI, List.mem_cons, List.not_mem_nil, or_false] at hs
  match l, hl with
  | [a], _ => rcases hs with rfl | rfl | rfl | rfl | rfl | rfl | rfl | rfl | rfl <;> simp [Lib.hasPrefix, List.isPrefixOf]
  | [a, b], _ => rcases hs with rfl | rfl | rfl | rfl | rfl | rfl | rfl | rfl | rfl <;> simp [Lib.hasPrefix, List.isPrefixOf]
  | a :: b :: c :: l, _ => rcases hs with rfl | rfl | rfl | rfl | rfl | rfl | rfl | rfl | rfl <;> simp [Lib.hasPrefix, List.isPrefixOf]
theorem par_tok {l : List UInt8} (hl : l ≠ []) : tokI (l ++ [41]) = tokI l := by
  unfold tokI
  rw [if_neg (by simp), if_neg hl, par_word]
  have e : signsI.find? (fun s => Lib.hasPrefix (l ++ [41]) s) = signsI.find? (fun s => Lib.hasPrefix l s) := by
    have : ∀ (S : List (List UInt8)), (∀ s ∈ S, s ∈ signsI) → S.find? (fun s => Lib.hasPrefix (l ++ [41]) s) = S.find? (fun s => Lib.hasPrefix l s) := by
      intro S
      induction S with
      | nil => intro _; rfl
      | cons s S ih =>
        intro h
        rw [List.find?_cons, List.find?_cons, par_sign s (h s (by simp)) l hl, ih (fun s' hs' => h s' (by simp [hs']))]
    exact this signsI (fun _ h => h)
  rw [e]
theorem lexS_par : ∀ (k : Nat) (l : List UInt8), l.length ≤ k → ∀ ts, lexS l = ts ++ EndI → Full ts → lexS (l ++ [41]) = ts ++ ParI
  | 0, l, h, ts, hts, hF => by
    have : l = [] := List.length_eq_zero_iff.1 (by omega)
    subst this
    rw [lexS_nil] at hts
    cases ts with
    | nil => decide
    | cons t ts => have := congrArg List.length hts; simp [EndI] at this
  | k + 1, l, h, ts, hts, hF => by
    cases l with
    | nil => exact lexS_par 0 [] (Nat.le_refl _) ts hts hF
    | cons c r =>
      have hr : r.length ≤ k := by simpa using h
      by_cases e : c = 32
      · subst e
        rw [lexS_blank] at hts
        rw [List.cons_append, lexS_blank]
        exact lexS_par k r hr ts hts hF
      · have hb : ∀ (x : List UInt8), blI (c :: x) = 0 := fun x => by simp [blI, e]
        rw [lexS_eq, hb, List.drop_zero] at hts
        rw [lexS_eq, List.cons_append, hb, List.drop_zero, ← List.cons_append, par_tok (by simp)]
        cases ht : tokI (c :: r) with
        | none =>
          rw [ht] at hts
          exfalso
          cases ts with
          | nil => cases hts
          | cons t ts => have := congrArg List.length hts; simp [EndI] at this
        | some t =>
          cases t with
          | nil =>
            exfalso
            unfold tokI at ht
            rw [if_neg (by simp)] at ht
            split at ht
            · rename_i s hs
              cases ht
              have := List.mem_of_find?_eq_some hs
              revert this; decide
            · split at ht
              · cases ht
              · rename_i h3
                exact h3 (Option.some.inj ht)
          | cons a u =>
            rw [ht] at hts
            simp only [] at hts ⊢
            obtain ⟨h1, h2⟩ := tok_word ht
            have h4 : (a :: u).length ≤ (c :: r).length := by
              unfold Lib.hasPrefix at h2
              exact (List.isPrefixOf_iff_prefix.1 h2).length_le
            rw [List.drop_append_of_le_length h4]
            cases ts with
            | nil =>
              exfalso
              rw [List.nil_append] at hts
              have := (List.cons.inj hts).1
              cases this
            | cons t ts =>
              rw [List.cons_append] at hts ⊢
              obtain ⟨rfl, e2⟩ := List.cons.inj hts
              rw [lexS_par k _ (by simp at hr ⊢; omega) ts e2 hF.tail]
/-! ### No error is 0 -/
def NZ (r : PR) : Prop := ∀ q e, r = .err q e → e ≠ 0
theorem NZ.ok {l : List Int} {ts : List Tk} {gs : List Gt} : NZ (.ok l ts gs) := fun _ _ h => by cases h
theorem NZ.err {q : Nat} {e : Int} (h : e ≠ 0) : NZ (.err q e) := fun _ _ k => by cases k; exact h
theorem NZ.bind {r : PR} {f : List Int → List Tk → List Gt → PR} (h : NZ r) (k : ∀ l ts gs, NZ (f l ts gs)) : NZ (r.bind f) := by
  cases r with
  | ok a b c => exact k a b c
  | err a b => exact h
theorem NZ.next {ts : List Tk} {f : List UInt8 → PR} (h : ∀ t, NZ (f t)) : NZ (nextI ts f) := by
  unfold nextI; split
  · exact .err (by decide)
  · exact h _
theorem NZ.need {s : List UInt8} {ts : List Tk} {f : List Tk → PR} (h : ∀ t, NZ (f t)) : NZ (needI s ts f) := NZ.next fun t => by
  split
  · exact h _
  · exact .err (by decide)
theorem NZ.open {s : List UInt8} {ts : List Tk} {o : Nat} {f : List Tk → PR} (h : ∀ t, NZ (f t)) : NZ (openI s ts o f) := NZ.need fun t => by
  split
  · exact .err (by decide)
  · exact h _
theorem readI_nz (n : Nat) : ∀ (f : Nat) (m : Md) (ts : List Tk) (o : Nat) (gs : List Gt), NZ (readI n f m ts o gs) := by
  intro f
  induction f with
  | zero => intro m ts o gs; rw [readI]; exact .err (by decide)
  | succ f ih =>
    intro m ts o gs
    cases m <;> rw [readI]
    · exact (ih _ _ _ _).bind fun _ _ _ => ih _ _ _ _
    · refine NZ.next fun t => ?_
      split
      · exact (ih _ _ _ _).bind fun _ _ _ => ih _ _ _ _
      · exact .ok
    · exact (ih _ _ _ _).bind fun _ _ _ => ih _ _ _ _
    · refine NZ.next fun t => ?_
      split
      · exact (ih _ _ _ _).bind fun _ _ _ => ih _ _ _ _
      · exact .ok
    · split
      · exact ih _ _ _ _
      · exact (ih _ _ _ _).bind fun _ _ _ => ih _ _ _ _
    · refine NZ.next fun t => ?_
      split
      · exact (ih _ _ _ _).bind fun _ _ _ => ih _ _ _ _
      · split <;> exact .ok
    · refine NZ.next fun t => ?_
      split
      · exact .ok
      split
      · refine NZ.open fun u => NZ.next fun w => ?_
        split
        · exact .ok
        · exact (ih _ _ _ _).bind fun _ _ _ => .ok
      split
      · exact NZ.open fun u => (ih _ _ _ _).bind fun _ _ _ => NZ.need fun _ => .ok
      split
      · exact .ok
      split
      · exact .ok
      split
      · exact .err (by decide)
      · exact (ih _ _ _ _).bind fun _ _ _ => .ok
    · refine NZ.open fun u => NZ.next fun w => ?_
      split
      · exact .ok
      · exact (ih _ _ _ _).bind fun _ _ _ => ih _ _ _ _
    · refine NZ.next fun t => ?_
      split
      · exact (ih _ _ _ _).bind fun _ _ _ => ih _ _ _ _
      · exact NZ.need fun _ => .ok
    · exact NZ.open fun u => (ih _ _ _ _).bind fun _ _ _ => NZ.need fun _ => (ih _ _ _ _).bind fun _ _ _ => NZ.need fun _ => (ih _ _ _ _).bind fun _ _ _ => NZ.need fun _ => .ok
theorem parse_parens (l : List UInt8) (n : Int) (hl : l.length ≤ 3000) (g : List Gt) (p : Nat) (h : parseI l n = (g, p, 0)) : parseI ([40] ++ l ++ [41]) n = (g, 0, 0) ∨ ∃ q, parseI ([40] ++ l ++ [41]) n = ([], q, 2) := by
  have hn : ¬ (n < 0 ∨ 128 < n) := fun hn => by unfold parseI at h; rw [if_pos hn] at h; have := congrArg (fun x => x.2.2) h; simp at this
  rw [parseI_eq (by omega) (by omega) (by omega)] at h
  rw [parseI_eq (by omega) (by omega) (by simp; omega)]
  cases hr : RI n.toNat .form (lexS l) 0 [] with
  | err r e =>
    rw [hr] at h
    unfold finI at h
    have e0 : e = 0 := congrArg (fun x => x.2.2) h
    exact absurd e0 (readI_nz n.toNat _ _ _ _ _ _ _ hr)
  | ok a ts gs =>
    rw [hr] at h
    unfold finI at h
    simp only [] at h
    split at h
    · have := congrArg (fun x => x.2.2) h; simp at this
    rename_i hts
    have hts : ts.headD (some []) = some [] := Decidable.not_not.1 hts
    split at h
    case isFalse => have := congrArg (fun x => x.2.2) h; simp at this
    rename_i hck
    have hg : gs = g := congrArg (fun x => x.1) h
    subst hg
    obtain ⟨us, hF, hus⟩ := lex_shape l.length l (Nat.le_refl _)
    obtain ⟨j, rfl⟩ := form_one hr
    obtain ⟨pre, hpre, hpw⟩ := readI_suf n.toNat _ _ _ _ _ _ _ _ hr
    have hE : lexS l = us ++ EndI := by
      rcases hus with h1 | h1
      · exact h1
      · exfalso
        cases ts with
        | nil =>
          rw [List.append_nil] at hpre
          obtain ⟨w, e, _⟩ := hpw none (by rw [← hpre, h1]; simp)
          cases e
        | cons t ts =>
          simp at hts
          have hm : (some [] : Tk) ∈ lexS l := by rw [hpre, hts]; simp
          rw [h1] at hm
          rcases List.mem_append.1 hm with hm | hm
          · exact hF _ hm rfl
          · simp at hm
    have hs := sim n.toNat (max (bdI .form (us ++ EndI)) (bdI .form (us ++ ParI)) + 1) .form us 0 [] hF
    rw [RI_of (by omega), RI_of (by omega), ← hE, hr] at hs
    obtain ⟨vs, e1, hV, hG⟩ := hs _ _ _ rfl
    have hvs : vs = [] := by
      cases vs with
      | nil => rfl
      | cons t vs =>
        rw [e1] at hts
        simp at hts
        exact absurd hts (hV t (by simp))
    subst hvs
    have hlex : lexS ([40] ++ l ++ [41]) = some [40] :: (us ++ ParI) := by
      rw [List.append_assoc, any_sign (s := [40]) (by decide) (l ++ [41]), lexS_par l.length l (Nat.le_refl _) us hE hF]; rfl
    have h7 : Good (RI n.toNat (mdI 7) (some [40] :: (us ++ ParI)) 0 []) (.ok [j] EndI gs) := by
      show Good (RI n.toNat (.chain 7) _ 0 []) _
      rw [RI_chain7, RI_atom, next_some, if_neg (by rw [varI_no (by decide)]; simp), if_neg (by decide), if_pos rfl]
      refine open_some ?_
      refine Good.bind hG ?_
      rw [List.nil_append, show needI [41] ParI (fun ts => PR.ok [j] ts gs) = .ok [j] EndI gs from rfl]
      exact .refl _
    have hst : stopI 2 EndI := stop_of (fun _ => by decide) (fun _ => by decide) (fun ℓ _ _ _ => sign_no (by decide) ℓ)
    have h3 := down_to 4 3 (by omega) (by omega) h7 (hst.mono (by omega))
    have h2 : Good (RI n.toNat .form (some [40] :: (us ++ ParI)) 0 []) (.ok [j] EndI gs) := by
      rw [RI_form]
      refine Good.bind h3 ?_
      rw [RI_formL, show nextI EndI _ = _ from next_some, if_neg (by decide)]
      exact .refl _
    rw [hlex]
    rcases h2 with h2 | ⟨q, h2⟩
    · rw [h2]
      unfold finI
      simp only []
      rw [if_neg (by simp [EndI]), if_pos hck]
      exact .inl rfl
    · rw [h2]; exact .inr ⟨_, rfl⟩
end Go.Proofs.YtallcgpiecopcaaDoor

/- Places of tokens. Plain. -/
namespace Go.Proofs.YtallcgpiecopcaaDoor
open Go

def nxtI (l : List UInt8) (p : Nat) : Nat := p + blI (l.drop p)
def LX (l : List UInt8) (p : Nat) : List (Nat × Tk) := lexI (l.length + 1) (l.drop p) p
def TS (l : List UInt8) (p : Nat) : List Tk := lexS (l.drop p)
theorem TS_map (l : List UInt8) (p : Nat) : TS l p = (LX l p).map (·.2) := by
  unfold TS LX lexS
  rw [lex_shift (l.length + 1) (l.drop p) p, lex_steps ((l.drop p).length + 1) (l.length + 1) _ _ (by omega) (by rw [List.length_drop]; omega)]
theorem LX_eq (l : List UInt8) (p : Nat) : LX l p = match tokI (l.drop (nxtI l p)) with | none => [(nxtI l p, none)] | some [] => [(nxtI l p, some [])] | some (c :: t) => (nxtI l p, some (c :: t)) :: LX l (nxtI l p + (c :: t).length) := by
  unfold LX
  rw [lexI, List.drop_drop, show p + blI (l.drop p) = nxtI l p from rfl]
  cases ht : tokI (l.drop (nxtI l p)) with
  | none => rfl
  | some t =>
    cases t with
    | nil => rfl
    | cons c t =>
      have hne : l.drop (nxtI l p) ≠ [] := fun e => by rw [e] at ht; simp [tokI] at ht
      have hpos := List.length_pos_iff.2 hne
      rw [List.length_drop] at hpos
      simp only []
      rw [List.drop_drop, lex_steps l.length (l.length + 1) _ _ (by simp; omega) (by simp; omega)]
theorem TS_eq (l : List UInt8) (p : Nat) : TS l p = match tokI (l.drop (nxtI l p)) with | none => [none] | some [] => [some []] | some (c :: t) => some (c :: t) :: TS l (nxtI l p + (c :: t).length) := by
  rw [TS_map, LX_eq]
  cases ht : tokI (l.drop (nxtI l p)) with
  | none => rfl
  | some t =>
    cases t with
    | nil => rfl
    | cons c t => simp only [List.map_cons]; rw [TS_map]
theorem TS_head (l : List UInt8) (p : Nat) : (TS l p).headD (some []) = tokI (l.drop (nxtI l p)) := by
  rw [TS_eq]
  cases ht : tokI (l.drop (nxtI l p)) with
  | none => rfl
  | some t => cases t <;> rfl
theorem TS_tail {l : List UInt8} {p : Nat} {t : List UInt8} (h : tokI (l.drop (nxtI l p)) = some t) (ht : t ≠ []) : (TS l p).tail = TS l (nxtI l p + t.length) := by
  rw [TS_eq, h]
  cases t with
  | nil => exact absurd rfl ht
  | cons c t => rfl
structure Pl (l : List UInt8) (p : Nat) : Prop where
  le : p ≤ l.length
  suf : ∃ pre, LX l 0 = pre ++ LX l p
theorem Pl.zero (l : List UInt8) : Pl l 0 := ⟨Nat.zero_le _, [], rfl⟩
theorem tok_le {l : List UInt8} {t : List UInt8} (h : tokI l = some t) : t.length ≤ l.length := by
  have := (tok_word h).2
  unfold Lib.hasPrefix at this
  exact (List.isPrefixOf_iff_prefix.1 this).length_le
theorem nxt_le {l : List UInt8} {p : Nat} (h : p ≤ l.length) : nxtI l p ≤ l.length := by
  have : blI (l.drop p) ≤ (l.drop p).length := (List.takeWhile_prefix _).length_le
  rw [List.length_drop] at this
  unfold nxtI; omega
theorem Pl.next {l : List UInt8} {p : Nat} (h : Pl l p) {t : List UInt8} (ht : tokI (l.drop (nxtI l p)) = some t) (hne : t ≠ []) : Pl l (nxtI l p + t.length) := by
  have h1 := tok_le ht
  have h2 := nxt_le h.le
  rw [List.length_drop] at h1
  refine ⟨by omega, ?_⟩
  obtain ⟨pre, hp⟩ := h.suf
  rw [LX_eq l p, ht] at hp
  cases t with
  | nil => exact absurd rfl hne
  | cons c t => exact ⟨pre ++ [(nxtI l p, some (c :: t))], by rw [hp]; simp⟩
theorem Pl.pos {l : List UInt8} {p : Nat} (h : Pl l p) : posI l (TS l p).length = nxtI l p := by
  obtain ⟨pre, hp⟩ := h.suf
  unfold posI
  have e : lexI (l.length + 1) l 0 = LX l 0 := by unfold LX; rw [List.drop_zero]
  have hl : (TS l p).length = (LX l p).length := by rw [TS_map, List.length_map]
  rw [e, hp, hl, List.length_append, Nat.add_sub_cancel, List.drop_left, LX_eq]
  cases ht : tokI (l.drop (nxtI l p)) with
  | none => rfl
  | some t => cases t <;> rfl
end Go.Proofs.YtallcgpiecopcaaDoor

/- How long the rows of inputs are that are read; how many tokens there are. Plain. -/
namespace Go.Proofs.YtallcgpiecopcaaDoor
open Go

def lsM : Md → Nat
  | .formL _ => 1
  | .implL l => l.length
  | .chainL _ l => l.length
  | .argsL l => l.length
  | _ => 0
def FitL (L : Nat) (gs : List Gt) : Prop := ∀ g ∈ gs, g.ins.length ≤ L
theorem FitL.snoc {L : Nat} {gs : List Gt} {g : Gt} (h : FitL L gs) (hg : g.ins.length ≤ L) : FitL L (gs ++ [g]) := fun x hx => by
  rcases List.mem_append.1 hx with hx | hx
  · exact h x hx
  · have : x = g := by simpa using hx
    rw [this]; exact hg
theorem foldI_fit {L : Nat} (hL : 3 ≤ L) : ∀ (r : List Int) (k : Int) (gs : List Gt), FitL L gs → FitL L (foldI r k gs).2
  | [], _, _, h => h
  | x :: r, k, gs, h => by
    rw [foldI]
    refine foldI_fit hL r _ _ (fun g hg => ?_)
    rcases List.mem_append.1 hg with hg | hg
    · exact h g hg
    · simp at hg
      rcases hg with rfl | rfl <;> simp <;> omega
theorem readI_fit (n L : Nat) (hL : 3 ≤ L) : ∀ (f : Nat) (m : Md) (ts : List Tk) (o : Nat) (gs : List Gt) (l : List Int) (ts' : List Tk) (gs' : List Gt), goodM m → lsM m + ts.length ≤ L → FitL L gs → readI n f m ts o gs = .ok l ts' gs' → l.length + ts'.length ≤ lsM m + ts.length ∧ FitL L gs' := by
  intro f
  induction f with
  | zero => intro m ts o gs l ts' gs' _ _ _ h; rw [readI] at h; cases h
  | succ f ih =>
    intro m ts o gs l ts' gs' hg hb hF h
    have one : ∀ {m : Md} {ts : List Tk} {o : Nat} {gs : List Gt} {l : List Int} {ts' : List Tk} {gs' : List Gt}, goodM m → listM m = false → readI n f m ts o gs = .ok l ts' gs' → l.length = 1 := fun hg hl h => (readI_gs n f _ _ _ _ _ _ _ hg h).2 hl
    cases m with
    | form =>
      rw [readI] at h
      obtain ⟨a, b, c, h1, h2⟩ := bind_ok h
      obtain ⟨i1, f1⟩ := ih _ _ _ _ _ _ _ (by trivial) (by simp [lsM] at *; omega) hF h1
      have o1 := one (by trivial) rfl h1
      simp [lsM] at *
      obtain ⟨i2, f2⟩ := ih _ _ _ _ _ _ _ (by trivial) (by simp; omega) f1 h2
      simp at *
      exact ⟨by omega, f2⟩
    | formL k =>
      rw [readI] at h
      obtain ⟨t, h1, h2⟩ := next_ok h
      split at h2
      · rename_i e
        have := head_tail h1 (by rw [e]; simp)
        obtain ⟨a, b, c, h3, h4⟩ := bind_ok h2
        obtain ⟨i1, f1⟩ := ih _ _ _ _ _ _ _ (by trivial) (by simp [lsM] at *; omega) hF h3
        simp [lsM] at *
        obtain ⟨i2, f2⟩ := ih _ _ _ _ _ _ _ (by trivial) (by simp; omega) (f1.snoc (by simp; omega)) h4
        simp at *
        exact ⟨by omega, f2⟩
      · cases h2; exact ⟨by simp [lsM], hF⟩
    | impl =>
      rw [readI] at h
      obtain ⟨a, b, c, h1, h2⟩ := bind_ok h
      obtain ⟨i1, f1⟩ := ih _ _ _ _ _ _ _ (by trivial) (by simp [lsM] at *; omega) hF h1
      have o1 := one (by trivial) rfl h1
      simp [lsM] at *
      obtain ⟨i2, f2⟩ := ih _ _ _ _ _ _ _ (by show 1 ≤ a.length; omega) (by simp; omega) f1 h2
      simp at *
      exact ⟨by omega, f2⟩
    | implL k =>
      have hk : 1 ≤ k.length := hg
      rw [readI] at h
      obtain ⟨t, h1, h2⟩ := next_ok h
      split at h2
      · rename_i e
        have := head_tail h1 (by rw [e]; simp)
        obtain ⟨a, b, c, h3, h4⟩ := bind_ok h2
        obtain ⟨i1, f1⟩ := ih _ _ _ _ _ _ _ (by trivial) (by simp [lsM] at *; omega) hF h3
        simp [lsM] at *
        obtain ⟨i2, f2⟩ := ih _ _ _ _ _ _ _ (by show 1 ≤ (k ++ a).length; simp; omega) (by simp; omega) f1 h4
        simp at *
        exact ⟨by omega, f2⟩
      · cases h2
        exact ⟨by simp [lsM]; omega, foldI_fit hL _ _ _ hF⟩
    | chain lv =>
      rw [readI] at h
      split at h
      · obtain ⟨i1, f1⟩ := ih _ _ _ _ _ _ _ (by trivial) (by simp [lsM] at *; omega) hF h
        simp [lsM] at *
        exact ⟨by omega, f1⟩
      · obtain ⟨a, b, c, h1, h2⟩ := bind_ok h
        obtain ⟨i1, f1⟩ := ih _ _ _ _ _ _ _ (by trivial) (by simp [lsM] at *; omega) hF h1
        have o1 := one (by trivial) rfl h1
        simp [lsM] at *
        obtain ⟨i2, f2⟩ := ih _ _ _ _ _ _ _ (by show 1 ≤ a.length; omega) (by simp; omega) f1 h2
        simp at *
        exact ⟨by omega, f2⟩
    | chainL lv k =>
      have hk : 1 ≤ k.length := hg
      rw [readI] at h
      obtain ⟨t, h1, h2⟩ := next_ok h
      split at h2
      · rename_i e
        have := head_tail h1 (by rw [e]; unfold signI; split <;> (try split) <;> simp)
        obtain ⟨a, b, c, h3, h4⟩ := bind_ok h2
        obtain ⟨i1, f1⟩ := ih _ _ _ _ _ _ _ (by trivial) (by simp [lsM] at *; omega) hF h3
        simp [lsM] at *
        obtain ⟨i2, f2⟩ := ih _ _ _ _ _ _ _ (by show 1 ≤ (k ++ a).length; simp; omega) (by simp; omega) f1 h4
        simp at *
        exact ⟨by omega, f2⟩
      · split at h2
        · cases h2; exact ⟨by simp [lsM], hF⟩
        · cases h2; refine ⟨by simp [lsM]; omega, hF.snoc ?_⟩; simp [lsM] at hb; simp; omega
    | atom =>
      rw [readI] at h
      obtain ⟨t, h1, h2⟩ := next_ok h
      simp only [lsM, Nat.zero_add] at hb ⊢
      split at h2
      · rename_i e
        have := head_tail h1 (fun e2 => e (by rw [e2]; exact varI_nil n))
        cases h2; exact ⟨by simp; omega, hF.snoc (by simp)⟩
      split at h2
      · obtain ⟨h3, _, h4⟩ := open_ok h2
        have := head_tail h3 (by simp)
        obtain ⟨w, h5, h6⟩ := next_ok h4
        split at h6
        · rename_i e
          have := head_tail h5 (fun e2 => e (by rw [e2]; exact varI_nil n))
          cases h6; exact ⟨by simp; omega, hF.snoc (by simp)⟩
        · obtain ⟨a, b, c, h7, h8⟩ := bind_ok h6
          obtain ⟨i1, f1⟩ := ih _ _ _ _ _ _ _ (by trivial) (by simp [lsM] at *; omega) hF h7
          have o1 := one (by trivial) rfl h7
          simp [lsM] at i1
          cases h8; exact ⟨by simp; omega, f1.snoc (by simp; omega)⟩
      split at h2
      · obtain ⟨h3, _, h4⟩ := open_ok h2
        have := head_tail h3 (by simp)
        obtain ⟨a, b, c, h7, h8⟩ := bind_ok h4
        obtain ⟨i1, f1⟩ := ih _ _ _ _ _ _ _ (by trivial) (by simp [lsM] at *; omega) hF h7
        obtain ⟨h9, h10⟩ := need_ok h8
        have := head_tail h9 (by simp)
        simp [lsM] at i1
        cases h10; exact ⟨by omega, f1⟩
      split at h2
      · rename_i e
        have := head_tail h1 (by rw [e]; simp)
        cases h2; exact ⟨by simp; omega, hF.snoc (by simp)⟩
      split at h2
      · rename_i e
        have := head_tail h1 (by rw [e]; simp)
        cases h2; exact ⟨by simp; omega, hF.snoc (by simp)⟩
      split at h2
      · cases h2
      · rename_i e
        have := head_tail h1 (fun e2 => e (by rw [e2]; exact wordI_nil))
        obtain ⟨a, b, c, h7, h8⟩ := bind_ok h2
        have i1 : a.length + b.length ≤ ts.tail.length ∧ FitL L c := by
          split at h7
          · obtain ⟨i1, f1⟩ := ih _ _ _ _ _ _ _ (by trivial) (by simp [lsM] at *; omega) hF h7; exact ⟨by simpa [lsM] using i1, f1⟩
          · obtain ⟨i1, f1⟩ := ih _ _ _ _ _ _ _ (by trivial) (by simp [lsM] at *; omega) hF h7; exact ⟨by simpa [lsM] using i1, f1⟩
        cases h8; exact ⟨by simp; omega, i1.2.snoc (by show a.length ≤ L; omega)⟩
    | args =>
      rw [readI] at h
      obtain ⟨h3, _, h4⟩ := open_ok h
      have := head_tail h3 (by simp)
      obtain ⟨w, h5, h6⟩ := next_ok h4
      simp only [lsM, Nat.zero_add] at hb ⊢
      split at h6
      · rename_i e
        have := head_tail h5 (by rw [e]; simp)
        cases h6; exact ⟨by simp; omega, hF⟩
      · obtain ⟨a, b, c, h7, h8⟩ := bind_ok h6
        obtain ⟨i1, f1⟩ := ih _ _ _ _ _ _ _ (by trivial) (by simp [lsM] at *; omega) hF h7
        simp [lsM] at i1
        obtain ⟨i2, f2⟩ := ih _ _ _ _ _ _ _ (by trivial) (by simp [lsM]; omega) f1 h8
        simp [lsM] at i2
        exact ⟨by omega, f2⟩
    | argsL k =>
      rw [readI] at h
      obtain ⟨t, h1, h2⟩ := next_ok h
      simp only [lsM] at hb ⊢
      split at h2
      · rename_i e
        have := head_tail h1 (by rw [e]; simp)
        obtain ⟨a, b, c, h7, h8⟩ := bind_ok h2
        obtain ⟨i1, f1⟩ := ih _ _ _ _ _ _ _ (by trivial) (by simp [lsM] at *; omega) hF h7
        simp [lsM] at i1
        obtain ⟨i2, f2⟩ := ih _ _ _ _ _ _ _ (by trivial) (by simp [lsM]; omega) f1 h8
        simp [lsM] at i2
        exact ⟨by omega, f2⟩
      · obtain ⟨h9, h10⟩ := need_ok h2
        have := head_tail h9 (by simp)
        cases h10; exact ⟨by omega, hF⟩
    | three =>
      rw [readI] at h
      obtain ⟨h3, _, h4⟩ := open_ok h
      have := head_tail h3 (by simp)
      simp only [lsM, Nat.zero_add] at hb ⊢
      obtain ⟨a, b, c, h7, h8⟩ := bind_ok h4
      obtain ⟨i1, f1⟩ := ih _ _ _ _ _ _ _ (by trivial) (by simp [lsM] at *; omega) hF h7
      simp [lsM] at i1
      obtain ⟨h9, h10⟩ := need_ok h8
      have := head_tail h9 (by simp)
      obtain ⟨a2, b2, c2, h7b, h8b⟩ := bind_ok h10
      obtain ⟨i2, f2⟩ := ih _ _ _ _ _ _ _ (by trivial) (by simp [lsM] at *; omega) f1 h7b
      simp [lsM] at i2
      obtain ⟨h9b, h10b⟩ := need_ok h8b
      have := head_tail h9b (by simp)
      obtain ⟨a3, b3, c3, h7c, h8c⟩ := bind_ok h10b
      obtain ⟨i3, f3⟩ := ih _ _ _ _ _ _ _ (by trivial) (by simp [lsM] at *; omega) f2 h7c
      simp [lsM] at i3
      obtain ⟨h9c, h10c⟩ := need_ok h8c
      have := head_tail h9c (by simp)
      cases h10c; exact ⟨by simp; omega, f3⟩
theorem TS_len (l : List UInt8) : ∀ (k p : Nat), l.length ≤ p + k → (TS l p).length ≤ k + 1
  | k, p, h => by
    rw [TS_eq]
    cases ht : tokI (l.drop (nxtI l p)) with
    | none => simp
    | some t =>
      cases t with
      | nil => simp
      | cons c t =>
        have hle := tok_le ht
        rw [List.length_drop] at hle
        have hnx : p ≤ nxtI l p := by unfold nxtI; omega
        simp only [List.length_cons] at hle ⊢
        obtain ⟨k, rfl⟩ : ∃ j, k = j + 1 := ⟨k - 1, by omega⟩
        have := TS_len l k (nxtI l p + (t.length + 1)) (by omega)
        omega
theorem RI_fit {n L : Nat} (hL : 3 ≤ L) {ts : List Tk} {o : Nat} {l : List Int} {ts' : List Tk} {gs' : List Gt} (hb : ts.length ≤ L) (h : RI n .form ts o [] = .ok l ts' gs') : FitL L gs' := (readI_fit n L hL _ .form ts o [] l ts' gs' (by trivial) (by simp [lsM]; exact hb) (fun g hg => by simp at hg) h).2
end Go.Proofs.YtallcgpiecopcaaDoor

/- How many tokens may be open. Plain. -/
namespace Go.Proofs.YtallcgpiecopcaaDoor
open Go

def manyT (t : Tk) (k : Nat) : List Tk := List.replicate k t
theorem manyT_succ (t : Tk) (k : Nat) : manyT t (k + 1) = t :: manyT t k := List.replicate_succ
theorem nots (n : Nat) (rest : List Tk) : ∀ (m o : Nat) (gs : List Gt), (o + m ≤ 200 → ∃ g, RI n .atom (manyT (some [33]) m ++ some [49] :: rest) o gs = .ok [((gs.length + m : Nat) : Int)] rest g ∧ g.length = gs.length + m + 1 ∧ (∀ (i : Nat) x, g[i]? = some x → i < gs.length → gs[i]? = some x) ∧ ∀ (i : Nat) x, g[i]? = some x → gs.length ≤ i → x = (if i = gs.length then ⟨1, 0, []⟩ else ⟨3, 0, [((i - 1 : Nat) : Int)]⟩)) ∧
    (200 < o + m → o ≤ 200 → RI n .atom (manyT (some [33]) m ++ some [49] :: rest) o gs = .err (m - (200 - o) + 1 + rest.length) 2)
  | 0, o, gs => by
    refine ⟨fun _ => ?_, fun h1 h2 => by omega⟩
    rw [show manyT (some [33]) 0 ++ some [49] :: rest = some [49] :: rest from rfl, RI_atom, next_some, if_neg (by rw [varI_no (by decide)]; simp), if_neg (by decide), if_neg (by decide), if_neg (by decide), if_pos rfl]
    refine ⟨gs ++ [⟨1, 0, []⟩], rfl, by simp, fun i x hx hi => ?_, fun i x hx hi => ?_⟩
    · rwa [List.getElem?_append_left hi] at hx
    · rw [List.getElem?_append_right hi] at hx
      have hl := (List.getElem?_eq_some_iff.1 hx).1
      have : i = gs.length := by simp at hl; omega
      subst this
      simp at hx
      rw [if_pos rfl, hx]
  | m + 1, o, gs => by
    rw [manyT_succ, List.cons_append, RI_atom, next_some, if_neg (by rw [varI_no (by decide)]; simp), if_pos rfl]
    have hh : ∃ w r, manyT (some [33]) m ++ some [49] :: rest = some w :: r ∧ varI n w = 0 := by
      cases m with
      | zero => exact ⟨[49], rest, rfl, varI_no (by decide)⟩
      | succ m => rw [manyT_succ]; exact ⟨[33], _, rfl, varI_no (by decide)⟩
    obtain ⟨w, r, e, hw⟩ := hh
    have step : (nextI (manyT (some [33]) m ++ some [49] :: rest) fun w => if varI n w ≠ 0 then .ok [(gs.length : Nat)] (manyT (some [33]) m ++ some [49] :: rest).tail (gs ++ [⟨2, -(varI n w : Int), []⟩]) else (RI n .atom (manyT (some [33]) m ++ some [49] :: rest) (o + 1) gs).bind fun l ts gs => .ok [(gs.length : Nat)] ts (gs ++ [⟨3, 0, l⟩])) = (RI n .atom (manyT (some [33]) m ++ some [49] :: rest) (o + 1) gs).bind fun l ts gs => .ok [(gs.length : Nat)] ts (gs ++ [⟨3, 0, l⟩]) := by
      rw [e, next_some, if_neg (by rw [hw]; simp)]
    obtain ⟨i1, i2⟩ := nots n rest m (o + 1) gs
    unfold openI
    rw [need_some]
    refine ⟨fun h => ?_, fun h1 h2 => ?_⟩
    · rw [if_neg (by omega)]
      dsimp only
      rw [step]
      obtain ⟨g, h3, h4, h5, h6⟩ := i1 (by omega)
      rw [h3]
      refine ⟨g ++ [⟨3, 0, [((gs.length + m : Nat) : Int)]⟩], ?_, by simp [h4]; omega, fun i x hx hi => ?_, fun i x hx hi => ?_⟩
      · show PR.ok [((g.length : Nat) : Int)] rest _ = _
        rw [h4]; rfl
      · rw [List.getElem?_append_left (by omega)] at hx
        exact h5 i x hx hi
      · by_cases hl : i < g.length
        · rw [List.getElem?_append_left hl] at hx
          exact h6 i x hx hi
        · rw [List.getElem?_append_right (by omega)] at hx
          have hl2 := (List.getElem?_eq_some_iff.1 hx).1
          have : i = g.length := by simp at hl2; omega
          subst this
          simp at hx
          rw [if_neg (by omega), ← hx, h4]
          simp
    · by_cases h3 : 200 ≤ o
      · rw [if_pos h3]
        simp [manyT]; omega
      · rw [if_neg h3]
        dsimp only
        rw [step, i2 (by omega) (by omega)]
        show PR.err _ 2 = _
        congr 1
        omega
theorem opens (n : Nat) (m : Nat) : ∀ (k o : Nat) (rest : List Tk), stopI 2 rest → (o + k + m ≤ 200 → ∃ g, RI n .form (manyT (some [40]) k ++ (manyT (some [33]) m ++ some [49] :: (manyT (some [41]) k ++ rest))) o [] = .ok [((m : Nat) : Int)] rest g ∧ g.length = m + 1 ∧ ∀ (i : Nat) x, g[i]? = some x → x = (if i = 0 then ⟨1, 0, []⟩ else ⟨3, 0, [((i - 1 : Nat) : Int)]⟩)) ∧
    (200 < o + k + m → o ≤ 200 → RI n .form (manyT (some [40]) k ++ (manyT (some [33]) m ++ some [49] :: (manyT (some [41]) k ++ rest))) o [] = .err (k + m - (200 - o) + 1 + k + rest.length) 2) := by
  have lift : ∀ (ts : List Tk) (o : Nat) (l : Int) (r : List Tk) (g : List Gt), stopI 2 r → RI n .atom ts o [] = .ok [l] r g → RI n .form ts o [] = .ok [l] r g := fun ts o l r g hs h => by
    have st : ∀ lv, 2 ≤ lv → stopI lv r := fun lv h => hs.mono h
    have h7 : RI n (.chain 7) ts o [] = .ok [l] r g := by rw [RI_chain7]; exact h
    have dn : ∀ lv, 4 ≤ lv → lv ≤ 6 → RI n (.chain (lv + 1)) ts o [] = .ok [l] r g → RI n (.chain lv) ts o [] = .ok [l] r g := fun lv h4 h6 h => by
      obtain ⟨t, h1, _, _, hc⟩ := st lv (by omega)
      rw [RI_chain n lv (by omega), h]
      show RI n (.chainL lv [l]) r o g = _
      rw [RI_chainL, next_head h1, if_neg (hc lv (Nat.le_refl _) h4 h6), if_pos (show [l].length = 1 from rfl)]
    have h4 := dn 4 (by omega) (by omega) (dn 5 (by omega) (by omega) (dn 6 (by omega) (by omega) h7))
    obtain ⟨t, h1, hf, hi, _⟩ := hs
    rw [RI_form, RI_impl, h4]
    show ((RI n (.implL [l]) r o g).bind _) = _
    rw [RI_implL, next_head h1, if_neg (hi (by omega))]
    show RI n (.formL l) r o g = _
    rw [RI_formL, next_head h1, if_neg (hf (by omega))]
  have liftE : ∀ (ts : List Tk) (o q : Nat), RI n .atom ts o [] = .err q 2 → RI n .form ts o [] = .err q 2 := fun ts o q h => by
    rw [RI_form, RI_impl, RI_chain n 4 (by omega), RI_chain n 5 (by omega), RI_chain n 6 (by omega), RI_chain7, h]; rfl
  intro k
  induction k with
  | zero =>
    intro o rest hs
    obtain ⟨i1, i2⟩ := nots n rest m o []
    refine ⟨fun h => ?_, fun h1 h2 => ?_⟩
    · obtain ⟨g, h3, h4, _, h6⟩ := i1 (by omega)
      refine ⟨g, lift _ o _ _ _ hs ?_, by simpa using h4, fun i x hx => ?_⟩
      · have e : ([] : List Gt).length + m = m := by simp
        rw [e] at h3; exact h3
      · exact h6 i x hx (Nat.zero_le _)
    · refine liftE _ o _ ?_
      have := i2 (by omega) h2
      rw [show (0 + m - (200 - o) + 1 + 0 + rest.length) = m - (200 - o) + 1 + rest.length by omega]
      exact this
  | succ k ih =>
    intro o rest hs
    have hs2 : stopI 2 (some [41] :: rest) := stop_of (fun _ => by decide) (fun _ => by decide) (fun ℓ _ _ _ => sign_no (by decide) ℓ)
    have e : manyT (some [40]) (k + 1) ++ (manyT (some [33]) m ++ some [49] :: (manyT (some [41]) (k + 1) ++ rest)) = some [40] :: (manyT (some [40]) k ++ (manyT (some [33]) m ++ some [49] :: (manyT (some [41]) k ++ some [41] :: rest))) := by
      rw [manyT_succ, show manyT (some [41]) (k + 1) = manyT (some [41]) k ++ [some [41]] from List.replicate_succ']
      simp
    rw [e]
    obtain ⟨i1, i2⟩ := ih (o + 1) (some [41] :: rest) hs2
    have at1 : RI n .atom (some [40] :: (manyT (some [40]) k ++ (manyT (some [33]) m ++ some [49] :: (manyT (some [41]) k ++ some [41] :: rest)))) o [] = openI [40] (some [40] :: (manyT (some [40]) k ++ (manyT (some [33]) m ++ some [49] :: (manyT (some [41]) k ++ some [41] :: rest)))) o fun ts => (RI n .form ts (o + 1) []).bind fun l ts gs => needI [41] ts fun ts => .ok l ts gs := by
      rw [RI_atom, next_some, if_neg (by rw [varI_no (by decide)]; simp), if_neg (by decide), if_pos rfl]
    unfold openI at at1
    rw [need_some] at at1
    dsimp only at at1
    refine ⟨fun h => ?_, fun h1 h2 => ?_⟩
    · obtain ⟨g, h3, h4, h5⟩ := i1 (by omega)
      refine ⟨g, lift _ o _ _ _ hs ?_, h4, h5⟩
      rw [at1, if_neg (by omega), h3]
      show needI [41] (some [41] :: rest) (fun ts => PR.ok [((m : Nat) : Int)] ts g) = _
      rw [need_some]
    · refine liftE _ o _ ?_
      rw [at1]
      by_cases h3 : 200 ≤ o
      · rw [if_pos h3]
        simp [manyT]; omega
      · rw [if_neg h3, i2 (by omega) (by omega)]
        show PR.err _ 2 = _
        congr 1
        simp; omega
end Go.Proofs.YtallcgpiecopcaaDoor
