/- Texts of this claim, joined: IG, IM, IH, II, IJ, IP, IQ, IR. -/
import Derived.Test.YtallcgpiecopcaaGreatDoorMB05

/- Parse of what is written; the text of the tree form. Plain. -/
namespace Go.Proofs.YtallcgpiecopcaaGreatDoor
open Go

theorem readI_top (n : Nat) (l : List UInt8) : readI n (16 * (lexI (l.length + 1) l 0).length + 16) .form ((lexI (l.length + 1) l 0).map (·.2)) 0 [] = RI n .form (lexS l) 0 [] := by
  refine RI_of ?_
  unfold bdI
  rw [List.length_map, show rkI .form = 14 from rfl]; omega
def finI (l : List UInt8) (n : Int) (r : PR) : List Gt × Nat × Int := match r with
  | .err r e => ([], posI l r, e)
  | .ok _ ts gs => if ts.headD (some []) ≠ some [] then ([], posI l ts.length, 5) else if checkI n gs = 0 then (gs, 0, 0) else ([], 0, 2)
theorem parseI_eq {l : List UInt8} {n : Int} (h0 : 0 ≤ n) (h1 : n ≤ 128) (hl : l.length ≤ 1048576) : parseI l n = finI l n (RI n.toNat .form (lexS l) 0 []) := by
  unfold parseI
  rw [if_neg (by omega), if_neg (by omega), readI_top]
  rfl
/-! ### What the tree form has in common with the circuit -/
structure Corr (G G' : List Gt) (k k' : Int) : Prop where
  kd : (gI G' k').k = (gI G k).k
  lit : (gI G' k').lit = (gI G k).lit
  ins : (gI G' k').ins.length = (gI G k).ins.length
  tx : TX G' k' = TX G k
theorem Corr.level {G G' : List Gt} {k k' : Int} (h : Corr G G' k k') : levelI (gI G' k') = levelI (gI G k) := by
  unfold levelI; rw [h.kd, h.ins]
inductive All2 (R : Int → Int → Prop) : List Int → List Int → Prop
  | nil : All2 R [] []
  | cons {a b : Int} {l m : List Int} (h : R a b) (t : All2 R l m) : All2 R (a :: l) (b :: m)
theorem All2.length {R : Int → Int → Prop} : ∀ {l m : List Int}, All2 R l m → m.length = l.length
  | _, _, .nil => rfl
  | _, _, .cons _ t => by simp [t.length]
def Stand (G' : List Gt) (b : Nat) (t : List Gt) : Prop := ∀ j x, t[j]? = some x → G'[b + j]? = some x
theorem Stand.left {G' : List Gt} {b : Nat} {s t : List Gt} (h : Stand G' b (s ++ t)) : Stand G' b s := fun j x hj => h j x (by
  rw [List.getElem?_append_left (List.getElem?_eq_some_iff.1 hj).1]; exact hj)
theorem Stand.right {G' : List Gt} {b : Nat} {s t : List Gt} (h : Stand G' b (s ++ t)) : Stand G' (b + s.length) t := fun j x hj => by
  have := h (s.length + j) x (by rw [List.getElem?_append_right (by omega)]; simpa using hj)
  rwa [← Nat.add_assoc] at this
end Go.Proofs.YtallcgpiecopcaaGreatDoor

/- What is written for a circuit, by both: lengths, pieces one by one. Plain. -/
namespace Go.Proofs.YtallcgpiecopcaaGreatDoor
open Go

def printI (n : Int) (gs : List Gt) : List UInt8 × Int := if checkI n gs ≠ 0 then ([], checkI n gs) else if 1048576 < (TX gs ((gs.length : Nat) - 1 : Nat)).length then ([], 2) else (TX gs ((gs.length : Nat) - 1 : Nat), 0)
def KN (gs : List Gt) (k : Int) : List UInt8 := if 1048576 < (TX gs k).length then [0] else TX gs k
/-! ### One operand more -/
theorem more_snoc (gs : List Gt) (sep : List UInt8) (w : List (List UInt8)) (own : Nat) (k : Int) : ∀ l : List Int, moreI gs sep w own (l ++ [k]) = moreI gs sep w own l ++ (.s sep w :: opI gs own k)
  | [] => by simp [moreI]
  | j :: l => by rw [List.cons_append, moreI, moreI, more_snoc gs sep w own k l]; simp
theorem between_snoc (gs : List Gt) (sep : List UInt8) (w : List (List UInt8)) (own : Nat) (k : Int) (l : List Int) : betweenI gs sep w own (l ++ [k]) = betweenI gs sep w own l ++ ((if l = [] then [] else [.s sep w]) ++ opI gs own k) := by
  cases l with
  | nil => simp [betweenI, moreI]
  | cons j l => rw [List.cons_append, betweenI, betweenI, more_snoc]; simp
theorem take_snoc {l : List Int} {i : Nat} {k : Int} (h : l[i]? = some k) : l.take (i + 1) = l.take i ++ [k] := by
  obtain ⟨hi, rfl⟩ := List.getElem?_eq_some_iff.1 h
  rw [List.take_succ_eq_append_getElem hi]
theorem between_take (gs : List Gt) (sep : List UInt8) (w : List (List UInt8)) (own : Nat) {l : List Int} {i : Nat} {k : Int} (h : l[i]? = some k) : betweenI gs sep w own (l.take (i + 1)) = betweenI gs sep w own (l.take i) ++ ((if i = 0 then [] else [.s sep w]) ++ opI gs own k) := by
  rw [take_snoc h, between_snoc]
  have hi := (List.getElem?_eq_some_iff.1 h).1
  cases i with
  | zero => simp
  | succ i =>
    have hne : l.take (i + 1) ≠ [] := fun e => by
      have := congrArg List.length e
      rw [List.length_take, List.length_nil] at this
      omega
    rw [if_neg hne, if_neg (Nat.succ_ne_zero i)]
def capI (n : Nat) : Nat := min n 1048577
theorem capI_le (a : Nat) : capI a ≤ 1048577 := by unfold capI; omega
theorem capI_big (a : Nat) : (1048576 < capI a) = (1048576 < a) := by unfold capI; apply propext; omega
end Go.Proofs.YtallcgpiecopcaaGreatDoor

/- More blanks do not change what is read. Plain. -/
namespace Go.Proofs.YtallcgpiecopcaaGreatDoor
open Go

def repI (l : List UInt8) : List UInt8 := l.flatMap fun c => if c = 32 then [32, 32, 32] else [c]
theorem repI_cons (c : UInt8) (l : List UInt8) : repI (c :: l) = (if c = 32 then [32, 32, 32] else [c]) ++ repI l := rfl
theorem rep_prefix : ∀ (t l : List UInt8), (∀ c ∈ t, c ≠ 32) → Lib.hasPrefix (repI l ++ [32]) t = Lib.hasPrefix l t
  | [], l, _ => by simp [Lib.hasPrefix]
  | a :: t, [], h => by
    have := h a (by simp)
    simp [Lib.hasPrefix, repI, List.isPrefixOf, this]
  | a :: t, c :: l, h => by
    have ha := h a (by simp)
    have ih := rep_prefix t l (fun d hd => h d (by simp [hd]))
    unfold Lib.hasPrefix at ih ⊢
    rw [repI_cons]
    by_cases e : c = 32
    · subst e
      simp [List.isPrefixOf, show (a == 32) = false from by simpa using ha]
    · rw [if_neg e, List.cons_append, List.nil_append, List.cons_append, List.isPrefixOf, List.isPrefixOf, ih]
theorem rep_drop : ∀ (t l : List UInt8), (∀ c ∈ t, c ≠ 32) → Lib.hasPrefix l t = true → (repI l).drop t.length = repI (l.drop t.length)
  | [], _, _, _ => rfl
  | a :: t, [], _, h => by simp [Lib.hasPrefix] at h
  | a :: t, c :: l, hn, h => by
    unfold Lib.hasPrefix at h
    rw [List.isPrefixOf, Bool.and_eq_true] at h
    have e : a = c := by simpa using h.1
    subst e
    rw [repI_cons, if_neg (hn a (by simp)), List.length_cons, List.singleton_append, List.drop_succ_cons, List.drop_succ_cons]
    exact rep_drop t l (fun d hd => hn d (by simp [hd])) h.2
theorem rep_word : ∀ (l : List UInt8), (repI l ++ [32]).takeWhile smallI = l.takeWhile smallI
  | [] => by decide
  | c :: l => by
    rw [repI_cons, List.takeWhile_cons]
    by_cases e : c = 32
    · subst e
      have : smallI 32 = false := by decide
      simp [this]
    · rw [if_neg e, List.cons_append, List.nil_append, List.cons_append, List.takeWhile_cons, rep_word l]
theorem tw_mem {p : UInt8 → Bool} : ∀ (l : List UInt8) {c : UInt8}, c ∈ l.takeWhile p → p c = true
  | [], _, h => by simp at h
  | a :: l, c, h => by
    rw [List.takeWhile_cons] at h
    split at h
    · rename_i ha
      rcases List.mem_cons.1 h with rfl | h
      · exact ha
      · exact tw_mem l h
    · simp at h
theorem sign_blank : ∀ s ∈ signsI, ∀ c ∈ s, c ≠ 32 := by decide
theorem tok_word {l : List UInt8} {t : List UInt8} (h : tokI l = some t) : (∀ c ∈ t, c ≠ 32) ∧ Lib.hasPrefix l t = true := by
  unfold tokI at h
  split at h
  · cases h; exact ⟨fun c hc => by simp at hc, by simp [Lib.hasPrefix]⟩
  · split at h
    · rename_i s hs
      cases h
      exact ⟨sign_blank _ (List.mem_of_find?_eq_some hs), by simpa using List.find?_some hs⟩
    · split at h
      · cases h
      · cases h
        refine ⟨fun c hc => ?_, ?_⟩
        · have := tw_mem _ hc
          exact (small_not_sign this).2.2.2.2.2.2.2.2.2
        · unfold Lib.hasPrefix
          rw [List.isPrefixOf_iff_prefix]
          exact List.takeWhile_prefix _
theorem rep_tok {l : List UInt8} (hl : l ≠ []) : tokI (repI l ++ [32]) = tokI l := by
  unfold tokI
  rw [if_neg (by simp), if_neg hl, rep_word]
  have e : signsI.find? (fun s => Lib.hasPrefix (repI l ++ [32]) s) = signsI.find? (fun s => Lib.hasPrefix l s) := by
    have : ∀ (S : List (List UInt8)), (∀ s ∈ S, ∀ c ∈ s, c ≠ 32) → S.find? (fun s => Lib.hasPrefix (repI l ++ [32]) s) = S.find? (fun s => Lib.hasPrefix l s) := by
      intro S
      induction S with
      | nil => intro _; rfl
      | cons s S ih =>
        intro h
        rw [List.find?_cons, List.find?_cons, rep_prefix s l (h s (by simp)), ih (fun s' hs' => h s' (by simp [hs']))]
    exact this signsI sign_blank
  rw [e]
theorem lexS_rep : ∀ (k : Nat) (l : List UInt8), l.length ≤ k → lexS (repI l ++ [32]) = lexS l
  | 0, l, h => by
    have : l = [] := List.length_eq_zero_iff.1 (by omega)
    subst this
    exact lexS_blank []
  | k + 1, l, h => by
    cases l with
    | nil => exact lexS_blank []
    | cons c r =>
      have hr : r.length ≤ k := by simpa using h
      by_cases e : c = 32
      · subst e
        rw [repI_cons, if_pos rfl]
        simp only [List.cons_append, List.nil_append]
        rw [lexS_blank, lexS_blank, lexS_blank, lexS_blank, lexS_rep k r hr]
      · have hb : ∀ (x : List UInt8), blI (c :: x) = 0 := fun x => by simp [blI, e]
        rw [lexS_eq, lexS_eq (c :: r)]
        have e1 : repI (c :: r) ++ [32] = c :: (repI r ++ [32]) := by rw [repI_cons, if_neg e]; rfl
        rw [e1, hb, hb, List.drop_zero, List.drop_zero, ← e1, rep_tok (by simp)]
        cases ht : tokI (c :: r) with
        | none => rfl
        | some t =>
          cases t with
          | nil => rfl
          | cons a u =>
            obtain ⟨h1, h2⟩ := tok_word ht
            simp only []
            have hlen : (a :: u).length ≤ (repI (c :: r)).length := by
              have h3 := rep_prefix (a :: u) (c :: r) h1
              have h4 : (a :: u).length ≤ (c :: r).length := by
                unfold Lib.hasPrefix at h2
                exact (List.isPrefixOf_iff_prefix.1 h2).length_le
              have h5 : ∀ x : List UInt8, x.length ≤ (repI x).length := fun x => by
                induction x with
                | nil => simp
                | cons d x ih => rw [repI_cons]; split <;> simp <;> omega
              exact Nat.le_trans h4 (h5 _)
            rw [List.drop_append_of_le_length hlen, rep_drop (a :: u) (c :: r) h1 h2, lexS_rep k _ (by simp at hr ⊢; omega)]
theorem parse_blanks (l : List UInt8) (n : Int) (hl : l.length ≤ 3000) : (parseI ([32, 32] ++ repI l ++ [32]) n).1 = (parseI l n).1 ∧ (parseI ([32, 32] ++ repI l ++ [32]) n).2.2 = (parseI l n).2.2 := by
  by_cases hn : n < 0 ∨ 128 < n
  · unfold parseI; rw [if_pos hn, if_pos hn]; exact ⟨rfl, rfl⟩
  have h5 : ∀ x : List UInt8, (repI x).length ≤ 3 * x.length := fun x => by
    induction x with
    | nil => simp [repI]
    | cons d x ih => rw [repI_cons]; split <;> simp <;> omega
  have h6 := h5 l
  have e : lexS ([32, 32] ++ repI l ++ [32]) = lexS l := by
    simp only [List.cons_append, List.nil_append, List.append_assoc]
    rw [lexS_blank, lexS_blank, lexS_rep l.length l (Nat.le_refl _)]
  rw [parseI_eq (by omega) (by omega) (by simp; omega), parseI_eq (by omega) (by omega) (by omega), e]
  cases RI n.toNat .form (lexS l) 0 [] with
  | err r e => exact ⟨rfl, rfl⟩
  | ok a ts gs =>
    unfold finI
    simp only []
    split
    · exact ⟨rfl, rfl⟩
    · split <;> exact ⟨rfl, rfl⟩
end Go.Proofs.YtallcgpiecopcaaGreatDoor

/- A text in parentheses is read as the same circuit. Plain. -/
namespace Go.Proofs.YtallcgpiecopcaaGreatDoor
open Go

def EndI : List Tk := [some []]
def ParI : List Tk := [some [41], some []]
def Full (ts : List Tk) : Prop := ∀ t ∈ ts, t ≠ some []
theorem Full.tail {t : Tk} {ts : List Tk} (h : Full (t :: ts)) : Full ts := fun x hx => h x (by simp [hx])
def Sim (r r' : PR) : Prop := ∀ l q g, r = .ok l q g → ∃ ts, q = ts ++ EndI ∧ Full ts ∧ Good r' (.ok l (ts ++ ParI) g)
theorem Sim.bind {r r' : PR} {f f' : List Int → List Tk → List Gt → PR} (h : Sim r r') (hf : ∀ l ts g, r = .ok l (ts ++ EndI) g → Full ts → Sim (f l (ts ++ EndI) g) (f' l (ts ++ ParI) g)) : Sim (r.bind f) (r'.bind f') := fun l q g e => by
  obtain ⟨l1, q1, g1, h1, h2⟩ := bind_ok e
  obtain ⟨ts, rfl, hF, hG⟩ := h l1 q1 g1 h1
  obtain ⟨us, rfl, hU, hG2⟩ := hf l1 ts g1 h1 hF l q g h2
  exact ⟨us, rfl, hU, Good.bind hG hG2⟩
theorem Sim.ok {l : List Int} {ts : List Tk} {g : List Gt} (h : Full ts) : Sim (.ok l (ts ++ EndI) g) (.ok l (ts ++ ParI) g) := fun l' q g' e => by
  cases e; exact ⟨ts, rfl, h, .refl _⟩
theorem Sim.err {r : Nat} {e : Int} {x : PR} : Sim (.err r e) x := fun _ _ _ h => by cases h
theorem Sim.next {ts : List Tk} (hF : Full ts) {f f' : List UInt8 → PR} (he : ts = [] → Sim (f []) (f' [41])) (hs : ∀ t r, ts = some t :: r → t ≠ [] → Sim (f t) (f' t)) : Sim (nextI (ts ++ EndI) f) (nextI (ts ++ ParI) f') := by
  cases ts with
  | nil => exact he rfl
  | cons t r =>
    cases t with
    | none => exact .err
    | some t =>
      rw [List.cons_append, List.cons_append, next_some, next_some]
      exact hs t r rfl (fun e => hF (some t) (by simp) (by rw [e]))
theorem Sim.need {s : List UInt8} (hs : s ≠ []) {ts : List Tk} (hF : Full ts) {f f' : List Tk → PR} (h : ∀ r, ts = some s :: r → Sim (f (r ++ EndI)) (f' (r ++ ParI))) : Sim (needI s (ts ++ EndI) f) (needI s (ts ++ ParI) f') := by
  unfold needI
  refine Sim.next hF (fun _ => ?_) (fun t r e ht => ?_)
  · rw [if_neg (Ne.symm hs)]; exact .err
  · subst e
    by_cases e : t = s
    · rw [if_pos e, if_pos e]
      exact h r (by rw [e])
    · rw [if_neg e]; exact .err
theorem Sim.open {s : List UInt8} (hs : s ≠ []) {ts : List Tk} (hF : Full ts) {o : Nat} {f f' : List Tk → PR} (h : ∀ r, ts = some s :: r → Sim (f (r ++ EndI)) (f' (r ++ ParI))) : Sim (openI s (ts ++ EndI) o f) (openI s (ts ++ ParI) (o + 1) f') := by
  unfold openI
  refine Sim.need hs hF fun r e => ?_
  by_cases h1 : 200 ≤ o
  · rw [if_pos h1]; exact .err
  · rw [if_neg h1]
    by_cases h2 : 200 ≤ o + 1
    · intro l q g hq
      obtain ⟨us, e1, e2, _⟩ := h r e l q g hq
      exact ⟨us, e1, e2, .inr ⟨_, by rw [if_pos h2]⟩⟩
    · rw [if_neg h2]; exact h r e
end Go.Proofs.YtallcgpiecopcaaGreatDoor

/- A text in parentheses is read as the same circuit: the law. Plain. -/
namespace Go.Proofs.YtallcgpiecopcaaGreatDoor
open Go

/-! ### What is read are tokens -/
def Suf (ts q : List Tk) : Prop := ∃ p, ts = p ++ q ∧ ∀ t ∈ p, ∃ w, t = some w ∧ w ≠ []
theorem Suf.refl (ts : List Tk) : Suf ts ts := ⟨[], rfl, fun t h => by simp at h⟩
theorem Suf.trans {a b c : List Tk} (h : Suf a b) (k : Suf b c) : Suf a c := by
  obtain ⟨p, rfl, hp⟩ := h
  obtain ⟨q, rfl, hq⟩ := k
  exact ⟨p ++ q, by simp, fun t ht => (List.mem_append.1 ht).elim (hp t) (hq t)⟩
/-! ### Tokens of a text with a parenthesis behind it -/
/-! ### No error is 0 -/
def NZ (r : PR) : Prop := ∀ q e, r = .err q e → e ≠ 0
theorem NZ.ok {l : List Int} {ts : List Tk} {gs : List Gt} : NZ (.ok l ts gs) := fun _ _ h => by cases h
theorem NZ.err {q : Nat} {e : Int} (h : e ≠ 0) : NZ (.err q e) := fun _ _ k => by cases k; exact h
theorem NZ.bind {r : PR} {f : List Int → List Tk → List Gt → PR} (h : NZ r) (k : ∀ l ts gs, NZ (f l ts gs)) : NZ (r.bind f) := by
  cases r with
  | ok a b c => exact k a b c
  | err a b => exact h
theorem NZ.next {ts : List Tk} {f : List UInt8 → PR} (h : ∀ t, NZ (f t)) : NZ (nextI ts f) := by
  unfold nextI; split
  · exact .err (by decide)
  · exact h _
theorem NZ.need {s : List UInt8} {ts : List Tk} {f : List Tk → PR} (h : ∀ t, NZ (f t)) : NZ (needI s ts f) := NZ.next fun t => by
  split
  · exact h _
  · exact .err (by decide)
theorem NZ.open {s : List UInt8} {ts : List Tk} {o : Nat} {f : List Tk → PR} (h : ∀ t, NZ (f t)) : NZ (openI s ts o f) := NZ.need fun t => by
  split
  · exact .err (by decide)
  · exact h _
theorem readI_nz (n : Nat) : ∀ (f : Nat) (m : Md) (ts : List Tk) (o : Nat) (gs : List Gt), NZ (readI n f m ts o gs) := by
  intro f
  induction f with
  | zero => intro m ts o gs; rw [readI]; exact .err (by decide)
  | succ f ih =>
    intro m ts o gs
    cases m <;> rw [readI]
    · exact (ih _ _ _ _).bind fun _ _ _ => ih _ _ _ _
    · refine NZ.next fun t => ?_
      split
      · exact (ih _ _ _ _).bind fun _ _ _ => ih _ _ _ _
      · exact .ok
    · exact (ih _ _ _ _).bind fun _ _ _ => ih _ _ _ _
    · refine NZ.next fun t => ?_
      split
      · exact (ih _ _ _ _).bind fun _ _ _ => ih _ _ _ _
      · exact .ok
    · split
      · exact ih _ _ _ _
      · exact (ih _ _ _ _).bind fun _ _ _ => ih _ _ _ _
    · refine NZ.next fun t => ?_
      split
      · exact (ih _ _ _ _).bind fun _ _ _ => ih _ _ _ _
      · split <;> exact .ok
    · refine NZ.next fun t => ?_
      split
      · exact .ok
      split
      · refine NZ.open fun u => NZ.next fun w => ?_
        split
        · exact .ok
        · exact (ih _ _ _ _).bind fun _ _ _ => .ok
      split
      · exact NZ.open fun u => (ih _ _ _ _).bind fun _ _ _ => NZ.need fun _ => .ok
      split
      · exact .ok
      split
      · exact .ok
      split
      · exact .err (by decide)
      · exact (ih _ _ _ _).bind fun _ _ _ => .ok
    · refine NZ.open fun u => NZ.next fun w => ?_
      split
      · exact .ok
      · exact (ih _ _ _ _).bind fun _ _ _ => ih _ _ _ _
    · refine NZ.next fun t => ?_
      split
      · exact (ih _ _ _ _).bind fun _ _ _ => ih _ _ _ _
      · exact NZ.need fun _ => .ok
    · exact NZ.open fun u => (ih _ _ _ _).bind fun _ _ _ => NZ.need fun _ => (ih _ _ _ _).bind fun _ _ _ => NZ.need fun _ => (ih _ _ _ _).bind fun _ _ _ => NZ.need fun _ => .ok
end Go.Proofs.YtallcgpiecopcaaGreatDoor

/- Places of tokens. Plain. -/
namespace Go.Proofs.YtallcgpiecopcaaGreatDoor
open Go

def nxtI (l : List UInt8) (p : Nat) : Nat := p + blI (l.drop p)
def LX (l : List UInt8) (p : Nat) : List (Nat × Tk) := lexI (l.length + 1) (l.drop p) p
def TS (l : List UInt8) (p : Nat) : List Tk := lexS (l.drop p)
theorem TS_map (l : List UInt8) (p : Nat) : TS l p = (LX l p).map (·.2) := by
  unfold TS LX lexS
  rw [lex_shift (l.length + 1) (l.drop p) p, lex_steps ((l.drop p).length + 1) (l.length + 1) _ _ (by omega) (by rw [List.length_drop]; omega)]
theorem LX_eq (l : List UInt8) (p : Nat) : LX l p = match tokI (l.drop (nxtI l p)) with | none => [(nxtI l p, none)] | some [] => [(nxtI l p, some [])] | some (c :: t) => (nxtI l p, some (c :: t)) :: LX l (nxtI l p + (c :: t).length) := by
  unfold LX
  rw [lexI, List.drop_drop, show p + blI (l.drop p) = nxtI l p from rfl]
  cases ht : tokI (l.drop (nxtI l p)) with
  | none => rfl
  | some t =>
    cases t with
    | nil => rfl
    | cons c t =>
      have hne : l.drop (nxtI l p) ≠ [] := fun e => by rw [e] at ht; simp [tokI] at ht
      have hpos := List.length_pos_iff.2 hne
      rw [List.length_drop] at hpos
      simp only []
      rw [List.drop_drop, lex_steps l.length (l.length + 1) _ _ (by simp; omega) (by simp; omega)]
theorem TS_eq (l : List UInt8) (p : Nat) : TS l p = match tokI (l.drop (nxtI l p)) with | none => [none] | some [] => [some []] | some (c :: t) => some (c :: t) :: TS l (nxtI l p + (c :: t).length) := by
  rw [TS_map, LX_eq]
  cases ht : tokI (l.drop (nxtI l p)) with
  | none => rfl
  | some t =>
    cases t with
    | nil => rfl
    | cons c t => simp only [List.map_cons]; rw [TS_map]
theorem TS_head (l : List UInt8) (p : Nat) : (TS l p).headD (some []) = tokI (l.drop (nxtI l p)) := by
  rw [TS_eq]
  cases ht : tokI (l.drop (nxtI l p)) with
  | none => rfl
  | some t => cases t <;> rfl
theorem TS_tail {l : List UInt8} {p : Nat} {t : List UInt8} (h : tokI (l.drop (nxtI l p)) = some t) (ht : t ≠ []) : (TS l p).tail = TS l (nxtI l p + t.length) := by
  rw [TS_eq, h]
  cases t with
  | nil => exact absurd rfl ht
  | cons c t => rfl
structure Pl (l : List UInt8) (p : Nat) : Prop where
  le : p ≤ l.length
  suf : ∃ pre, LX l 0 = pre ++ LX l p
theorem Pl.zero (l : List UInt8) : Pl l 0 := ⟨Nat.zero_le _, [], rfl⟩
theorem tok_le {l : List UInt8} {t : List UInt8} (h : tokI l = some t) : t.length ≤ l.length := by
  have := (tok_word h).2
  unfold Lib.hasPrefix at this
  exact (List.isPrefixOf_iff_prefix.1 this).length_le
theorem nxt_le {l : List UInt8} {p : Nat} (h : p ≤ l.length) : nxtI l p ≤ l.length := by
  have : blI (l.drop p) ≤ (l.drop p).length := (List.takeWhile_prefix _).length_le
  rw [List.length_drop] at this
  unfold nxtI; omega
theorem Pl.next {l : List UInt8} {p : Nat} (h : Pl l p) {t : List UInt8} (ht : tokI (l.drop (nxtI l p)) = some t) (hne : t ≠ []) : Pl l (nxtI l p + t.length) := by
  have h1 := tok_le ht
  have h2 := nxt_le h.le
  rw [List.length_drop] at h1
  refine ⟨by omega, ?_⟩
  obtain ⟨pre, hp⟩ := h.suf
  rw [LX_eq l p, ht] at hp
  cases t with
  | nil => exact absurd rfl hne
  | cons c t => exact ⟨pre ++ [(nxtI l p, some (c :: t))], by rw [hp]; simp⟩
theorem Pl.pos {l : List UInt8} {p : Nat} (h : Pl l p) : posI l (TS l p).length = nxtI l p := by
  obtain ⟨pre, hp⟩ := h.suf
  unfold posI
  have e : lexI (l.length + 1) l 0 = LX l 0 := by unfold LX; rw [List.drop_zero]
  have hl : (TS l p).length = (LX l p).length := by rw [TS_map, List.length_map]
  rw [e, hp, hl, List.length_append, Nat.add_sub_cancel, List.drop_left, LX_eq]
  cases ht : tokI (l.drop (nxtI l p)) with
  | none => rfl
  | some t => cases t <;> rfl
end Go.Proofs.YtallcgpiecopcaaGreatDoor

/- How many gates are read. Plain. -/
namespace Go.Proofs.YtallcgpiecopcaaGreatDoor
open Go

def moreM : Md → Nat
  | .implL l => 2 * (l.length - 1)
  | .chainL _ l => l.length - 1
  | _ => 0
def goodM : Md → Prop
  | .implL l => 1 ≤ l.length
  | .chainL _ l => 1 ≤ l.length
  | _ => True
def listM : Md → Bool
  | .args => true
  | .argsL _ => true
  | .three => true
  | _ => false
theorem foldI_len : ∀ (r : List Int) (k : Int) (gs : List Gt), (foldI r k gs).2.length = gs.length + 2 * r.length
  | [], _, _ => rfl
  | x :: r, k, gs => by rw [foldI, foldI_len r]; simp; omega
theorem readI_gs (n : Nat) : ∀ (f : Nat) (m : Md) (ts : List Tk) (o : Nat) (gs : List Gt) (l : List Int) (ts' : List Tk) (gs' : List Gt), goodM m → readI n f m ts o gs = .ok l ts' gs' → gs'.length + 3 * ts'.length + (if loopM m then 0 else 2) ≤ gs.length + 3 * ts.length + moreM m ∧ (listM m = false → l.length = 1) := by
  intro f
  induction f with
  | zero => intro m ts o gs l ts' gs' _ h; rw [readI] at h; cases h
  | succ f ih =>
    intro m ts o gs l ts' gs' hg h
    cases m with
    | form =>
      rw [readI] at h
      obtain ⟨a, b, c, h1, h2⟩ := bind_ok h
      obtain ⟨i1, _⟩ := ih _ _ _ _ _ _ _ (by trivial) h1
      obtain ⟨i2, j2⟩ := ih _ _ _ _ _ _ _ (by trivial) h2
      simp [loopM, moreM] at *
      exact ⟨by omega, fun _ => j2 rfl⟩
    | formL k =>
      rw [readI] at h
      obtain ⟨t, h1, h2⟩ := next_ok h
      split at h2
      · rename_i e
        have := head_tail h1 (by rw [e]; simp)
        obtain ⟨a, b, c, h3, h4⟩ := bind_ok h2
        obtain ⟨i1, _⟩ := ih _ _ _ _ _ _ _ (by trivial) h3
        obtain ⟨i2, j2⟩ := ih _ _ _ _ _ _ _ (by trivial) h4
        simp [loopM, moreM] at *
        exact ⟨by omega, fun _ => j2 rfl⟩
      · cases h2; simp [loopM, moreM]
    | impl =>
      rw [readI] at h
      obtain ⟨a, b, c, h1, h2⟩ := bind_ok h
      obtain ⟨i1, j1⟩ := ih _ _ _ _ _ _ _ (by trivial) h1
      have ha := j1 rfl
      obtain ⟨i2, j2⟩ := ih _ _ _ _ _ _ _ (by show 1 ≤ a.length; omega) h2
      simp [loopM, moreM] at *
      exact ⟨by omega, fun _ => j2 rfl⟩
    | implL k =>
      have hk : 1 ≤ k.length := hg
      rw [readI] at h
      obtain ⟨t, h1, h2⟩ := next_ok h
      split at h2
      · rename_i e
        have := head_tail h1 (by rw [e]; simp)
        obtain ⟨a, b, c, h3, h4⟩ := bind_ok h2
        obtain ⟨i1, j1⟩ := ih _ _ _ _ _ _ _ (by trivial) h3
        have ha := j1 rfl
        obtain ⟨i2, j2⟩ := ih _ _ _ _ _ _ _ (by show 1 ≤ (k ++ a).length; simp; omega) h4
        simp [loopM, moreM] at *
        exact ⟨by omega, fun _ => j2 rfl⟩
      · cases h2
        refine ⟨?_, fun _ => rfl⟩
        rw [foldI_len]
        simp [loopM, moreM]
        omega
    | chain lv =>
      rw [readI] at h
      split at h
      · obtain ⟨i1, j1⟩ := ih _ _ _ _ _ _ _ (by trivial) h
        simp [loopM, moreM] at *
        exact ⟨by omega, fun _ => j1 rfl⟩
      · obtain ⟨a, b, c, h1, h2⟩ := bind_ok h
        obtain ⟨i1, j1⟩ := ih _ _ _ _ _ _ _ (by trivial) h1
        have ha := j1 rfl
        obtain ⟨i2, j2⟩ := ih _ _ _ _ _ _ _ (by show 1 ≤ a.length; omega) h2
        simp [loopM, moreM] at *
        exact ⟨by omega, fun _ => j2 rfl⟩
    | chainL lv k =>
      have hk : 1 ≤ k.length := hg
      rw [readI] at h
      obtain ⟨t, h1, h2⟩ := next_ok h
      split at h2
      · rename_i e
        have := head_tail h1 (by rw [e]; unfold signI; split <;> (try split) <;> simp)
        obtain ⟨a, b, c, h3, h4⟩ := bind_ok h2
        obtain ⟨i1, j1⟩ := ih _ _ _ _ _ _ _ (by trivial) h3
        have ha := j1 rfl
        obtain ⟨i2, j2⟩ := ih _ _ _ _ _ _ _ (by show 1 ≤ (k ++ a).length; simp; omega) h4
        simp [loopM, moreM] at *
        exact ⟨by omega, fun _ => j2 rfl⟩
      · split at h2
        · rename_i e; cases h2; exact ⟨by simp [loopM, moreM], fun _ => e⟩
        · rename_i e; cases h2; refine ⟨?_, fun _ => rfl⟩; simp [loopM, moreM]; omega
    | atom =>
      rw [readI] at h
      obtain ⟨t, h1, h2⟩ := next_ok h
      split at h2
      · rename_i e
        have := head_tail h1 (fun e2 => e (by rw [e2]; exact varI_nil n))
        cases h2; refine ⟨?_, fun _ => rfl⟩; simp [loopM, moreM]; omega
      split at h2
      · obtain ⟨h3, _, h4⟩ := open_ok h2
        have := head_tail h3 (by simp)
        obtain ⟨w, h5, h6⟩ := next_ok h4
        split at h6
        · rename_i e
          have := head_tail h5 (fun e2 => e (by rw [e2]; exact varI_nil n))
          cases h6; refine ⟨?_, fun _ => rfl⟩; simp [loopM, moreM]; omega
        · obtain ⟨a, b, c, h7, h8⟩ := bind_ok h6
          obtain ⟨i1, _⟩ := ih _ _ _ _ _ _ _ (by trivial) h7
          cases h8; refine ⟨?_, fun _ => rfl⟩; simp [loopM, moreM] at *; omega
      split at h2
      · obtain ⟨h3, _, h4⟩ := open_ok h2
        have := head_tail h3 (by simp)
        obtain ⟨a, b, c, h7, h8⟩ := bind_ok h4
        obtain ⟨i1, j1⟩ := ih _ _ _ _ _ _ _ (by trivial) h7
        obtain ⟨h9, h10⟩ := need_ok h8
        have := head_tail h9 (by simp)
        cases h10; refine ⟨?_, fun _ => j1 rfl⟩; simp [loopM, moreM] at *; omega
      split at h2
      · rename_i e
        have := head_tail h1 (by rw [e]; simp)
        cases h2; refine ⟨?_, fun _ => rfl⟩; simp [loopM, moreM]; omega
      split at h2
      · rename_i e
        have := head_tail h1 (by rw [e]; simp)
        cases h2; refine ⟨?_, fun _ => rfl⟩; simp [loopM, moreM]; omega
      split at h2
      · cases h2
      · rename_i e
        have := head_tail h1 (fun e2 => e (by rw [e2]; exact wordI_nil))
        obtain ⟨a, b, c, h7, h8⟩ := bind_ok h2
        have i1 : c.length + 3 * b.length + 2 ≤ gs.length + 3 * ts.tail.length := by
          split at h7
          · obtain ⟨i1, _⟩ := ih _ _ _ _ _ _ _ (by trivial) h7; simp [loopM, moreM] at i1; omega
          · obtain ⟨i1, _⟩ := ih _ _ _ _ _ _ _ (by trivial) h7; simp [loopM, moreM] at i1; omega
        cases h8; refine ⟨?_, fun _ => rfl⟩; simp [loopM, moreM] at *; omega
    | args =>
      rw [readI] at h
      obtain ⟨h3, _, h4⟩ := open_ok h
      have := head_tail h3 (by simp)
      obtain ⟨w, h5, h6⟩ := next_ok h4
      split at h6
      · rename_i e
        have := head_tail h5 (by rw [e]; simp)
        cases h6; refine ⟨?_, fun h => by cases h⟩; simp [loopM, moreM]; omega
      · obtain ⟨a, b, c, h7, h8⟩ := bind_ok h6
        obtain ⟨i1, _⟩ := ih _ _ _ _ _ _ _ (by trivial) h7
        obtain ⟨i2, _⟩ := ih _ _ _ _ _ _ _ (by trivial) h8
        refine ⟨?_, fun h => by cases h⟩; simp [loopM, moreM] at *; omega
    | argsL k =>
      rw [readI] at h
      obtain ⟨t, h1, h2⟩ := next_ok h
      split at h2
      · rename_i e
        have := head_tail h1 (by rw [e]; simp)
        obtain ⟨a, b, c, h7, h8⟩ := bind_ok h2
        obtain ⟨i1, _⟩ := ih _ _ _ _ _ _ _ (by trivial) h7
        obtain ⟨i2, _⟩ := ih _ _ _ _ _ _ _ (by trivial) h8
        refine ⟨?_, fun h => by cases h⟩; simp [loopM, moreM] at *; omega
      · obtain ⟨h9, h10⟩ := need_ok h2
        have := head_tail h9 (by simp)
        cases h10; refine ⟨?_, fun h => by cases h⟩; simp [loopM, moreM]; omega
    | three =>
      rw [readI] at h
      obtain ⟨h3, _, h4⟩ := open_ok h
      have := head_tail h3 (by simp)
      obtain ⟨a, b, c, h7, h8⟩ := bind_ok h4
      obtain ⟨i1, _⟩ := ih _ _ _ _ _ _ _ (by trivial) h7
      obtain ⟨h9, h10⟩ := need_ok h8
      have := head_tail h9 (by simp)
      obtain ⟨a2, b2, c2, h7b, h8b⟩ := bind_ok h10
      obtain ⟨i2, _⟩ := ih _ _ _ _ _ _ _ (by trivial) h7b
      obtain ⟨h9b, h10b⟩ := need_ok h8b
      have := head_tail h9b (by simp)
      obtain ⟨a3, b3, c3, h7c, h8c⟩ := bind_ok h10b
      obtain ⟨i3, _⟩ := ih _ _ _ _ _ _ _ (by trivial) h7c
      obtain ⟨h9c, h10c⟩ := need_ok h8c
      have := head_tail h9c (by simp)
      cases h10c; refine ⟨?_, fun h => by cases h⟩; simp [loopM, moreM] at *; omega
theorem RI_gs {n : Nat} {m : Md} {ts : List Tk} {o : Nat} {gs : List Gt} {l : List Int} {ts' : List Tk} {gs' : List Gt} (hg : goodM m) (h : RI n m ts o gs = .ok l ts' gs') : gs'.length + 3 * ts'.length + (if loopM m then 0 else 2) ≤ gs.length + 3 * ts.length + moreM m ∧ (listM m = false → l.length = 1) := readI_gs n _ m ts o gs l ts' gs' hg h
end Go.Proofs.YtallcgpiecopcaaGreatDoor

/- How long the rows of inputs are that are read; how many tokens there are. Plain. -/
namespace Go.Proofs.YtallcgpiecopcaaGreatDoor
open Go

def lsM : Md → Nat
  | .formL _ => 1
  | .implL l => l.length
  | .chainL _ l => l.length
  | .argsL l => l.length
  | _ => 0
def FitL (L : Nat) (gs : List Gt) : Prop := ∀ g ∈ gs, g.ins.length ≤ L
theorem FitL.snoc {L : Nat} {gs : List Gt} {g : Gt} (h : FitL L gs) (hg : g.ins.length ≤ L) : FitL L (gs ++ [g]) := fun x hx => by
  rcases List.mem_append.1 hx with hx | hx
  · exact h x hx
  · have : x = g := by simpa using hx
    rw [this]; exact hg
theorem foldI_fit {L : Nat} (hL : 3 ≤ L) : ∀ (r : List Int) (k : Int) (gs : List Gt), FitL L gs → FitL L (foldI r k gs).2
  | [], _, _, h => h
  | x :: r, k, gs, h => by
    rw [foldI]
    refine foldI_fit hL r _ _ (fun g hg => ?_)
    rcases List.mem_append.1 hg with hg | hg
    · exact h g hg
    · simp at hg
      rcases hg with rfl | rfl <;> simp <;> omega
theorem readI_fit (n L : Nat) (hL : 3 ≤ L) : ∀ (f : Nat) (m : Md) (ts : List Tk) (o : Nat) (gs : List Gt) (l : List Int) (ts' : List Tk) (gs' : List Gt), goodM m → lsM m + ts.length ≤ L → FitL L gs → readI n f m ts o gs = .ok l ts' gs' → l.length + ts'.length ≤ lsM m + ts.length ∧ FitL L gs' := by
  intro f
  induction f with
  | zero => intro m ts o gs l ts' gs' _ _ _ h; rw [readI] at h; cases h
  | succ f ih =>
    intro m ts o gs l ts' gs' hg hb hF h
    have one : ∀ {m : Md} {ts : List Tk} {o : Nat} {gs : List Gt} {l : List Int} {ts' : List Tk} {gs' : List Gt}, goodM m → listM m = false → readI n f m ts o gs = .ok l ts' gs' → l.length = 1 := fun hg hl h => (readI_gs n f _ _ _ _ _ _ _ hg h).2 hl
    cases m with
    | form =>
      rw [readI] at h
      obtain ⟨a, b, c, h1, h2⟩ := bind_ok h
      obtain ⟨i1, f1⟩ := ih _ _ _ _ _ _ _ (by trivial) (by simp [lsM] at *; omega) hF h1
      have o1 := one (by trivial) rfl h1
      simp [lsM] at *
      obtain ⟨i2, f2⟩ := ih _ _ _ _ _ _ _ (by trivial) (by simp [lsM]; omega) f1 h2
      simp [lsM] at *
      exact ⟨by omega, f2⟩
    | formL k =>
      rw [readI] at h
      obtain ⟨t, h1, h2⟩ := next_ok h
      split at h2
      · rename_i e
        have := head_tail h1 (by rw [e]; simp)
        obtain ⟨a, b, c, h3, h4⟩ := bind_ok h2
        obtain ⟨i1, f1⟩ := ih _ _ _ _ _ _ _ (by trivial) (by simp [lsM] at *; omega) hF h3
        simp [lsM] at *
        obtain ⟨i2, f2⟩ := ih _ _ _ _ _ _ _ (by trivial) (by simp [lsM]; omega) (f1.snoc (by simp; omega)) h4
        simp [lsM] at *
        exact ⟨by omega, f2⟩
      · cases h2; exact ⟨by simp [lsM], hF⟩
    | impl =>
      rw [readI] at h
      obtain ⟨a, b, c, h1, h2⟩ := bind_ok h
      obtain ⟨i1, f1⟩ := ih _ _ _ _ _ _ _ (by trivial) (by simp [lsM] at *; omega) hF h1
      have o1 := one (by trivial) rfl h1
      simp [lsM] at *
      obtain ⟨i2, f2⟩ := ih _ _ _ _ _ _ _ (by show 1 ≤ a.length; omega) (by simp [lsM]; omega) f1 h2
      simp [lsM] at *
      exact ⟨by omega, f2⟩
    | implL k =>
      have hk : 1 ≤ k.length := hg
      rw [readI] at h
      obtain ⟨t, h1, h2⟩ := next_ok h
      split at h2
      · rename_i e
        have := head_tail h1 (by rw [e]; simp)
        obtain ⟨a, b, c, h3, h4⟩ := bind_ok h2
        obtain ⟨i1, f1⟩ := ih _ _ _ _ _ _ _ (by trivial) (by simp [lsM] at *; omega) hF h3
        simp [lsM] at *
        obtain ⟨i2, f2⟩ := ih _ _ _ _ _ _ _ (by show 1 ≤ (k ++ a).length; simp; omega) (by simp [lsM]; omega) f1 h4
        simp [lsM] at *
        exact ⟨by omega, f2⟩
      · cases h2
        exact ⟨by simp [lsM]; omega, foldI_fit hL _ _ _ hF⟩
    | chain lv =>
      rw [readI] at h
      split at h
      · obtain ⟨i1, f1⟩ := ih _ _ _ _ _ _ _ (by trivial) (by simp [lsM] at *; omega) hF h
        simp [lsM] at *
        exact ⟨by omega, f1⟩
      · obtain ⟨a, b, c, h1, h2⟩ := bind_ok h
        obtain ⟨i1, f1⟩ := ih _ _ _ _ _ _ _ (by trivial) (by simp [lsM] at *; omega) hF h1
        have o1 := one (by trivial) rfl h1
        simp [lsM] at *
        obtain ⟨i2, f2⟩ := ih _ _ _ _ _ _ _ (by show 1 ≤ a.length; omega) (by simp [lsM]; omega) f1 h2
        simp [lsM] at *
        exact ⟨by omega, f2⟩
    | chainL lv k =>
      have hk : 1 ≤ k.length := hg
      rw [readI] at h
      obtain ⟨t, h1, h2⟩ := next_ok h
      split at h2
      · rename_i e
        have := head_tail h1 (by rw [e]; unfold signI; split <;> (try split) <;> simp)
        obtain ⟨a, b, c, h3, h4⟩ := bind_ok h2
        obtain ⟨i1, f1⟩ := ih _ _ _ _ _ _ _ (by trivial) (by simp [lsM] at *; omega) hF h3
        simp [lsM] at *
        obtain ⟨i2, f2⟩ := ih _ _ _ _ _ _ _ (by show 1 ≤ (k ++ a).length; simp; omega) (by simp [lsM]; omega) f1 h4
        simp [lsM] at *
        exact ⟨by omega, f2⟩
      · split at h2
        · cases h2; exact ⟨by simp [lsM], hF⟩
        · cases h2; refine ⟨by simp [lsM]; omega, hF.snoc ?_⟩; simp [lsM] at hb; simp; omega
    | atom =>
      rw [readI] at h
      obtain ⟨t, h1, h2⟩ := next_ok h
      simp only [lsM, Nat.zero_add] at hb ⊢
      split at h2
      · rename_i e
        have := head_tail h1 (fun e2 => e (by rw [e2]; exact varI_nil n))
        cases h2; exact ⟨by simp; omega, hF.snoc (by simp)⟩
      split at h2
      · obtain ⟨h3, _, h4⟩ := open_ok h2
        have := head_tail h3 (by simp)
        obtain ⟨w, h5, h6⟩ := next_ok h4
        split at h6
        · rename_i e
          have := head_tail h5 (fun e2 => e (by rw [e2]; exact varI_nil n))
          cases h6; exact ⟨by simp; omega, hF.snoc (by simp)⟩
        · obtain ⟨a, b, c, h7, h8⟩ := bind_ok h6
          obtain ⟨i1, f1⟩ := ih _ _ _ _ _ _ _ (by trivial) (by simp [lsM] at *; omega) hF h7
          have o1 := one (by trivial) rfl h7
          simp [lsM] at i1
          cases h8; exact ⟨by simp; omega, f1.snoc (by simp; omega)⟩
      split at h2
      · obtain ⟨h3, _, h4⟩ := open_ok h2
        have := head_tail h3 (by simp)
        obtain ⟨a, b, c, h7, h8⟩ := bind_ok h4
        obtain ⟨i1, f1⟩ := ih _ _ _ _ _ _ _ (by trivial) (by simp [lsM] at *; omega) hF h7
        obtain ⟨h9, h10⟩ := need_ok h8
        have := head_tail h9 (by simp)
        simp [lsM] at i1
        cases h10; exact ⟨by omega, f1⟩
      split at h2
      · rename_i e
        have := head_tail h1 (by rw [e]; simp)
        cases h2; exact ⟨by simp; omega, hF.snoc (by simp)⟩
      split at h2
      · rename_i e
        have := head_tail h1 (by rw [e]; simp)
        cases h2; exact ⟨by simp; omega, hF.snoc (by simp)⟩
      split at h2
      · cases h2
      · rename_i e
        have := head_tail h1 (fun e2 => e (by rw [e2]; exact wordI_nil))
        obtain ⟨a, b, c, h7, h8⟩ := bind_ok h2
        have i1 : a.length + b.length ≤ ts.tail.length ∧ FitL L c := by
          split at h7
          · obtain ⟨i1, f1⟩ := ih _ _ _ _ _ _ _ (by trivial) (by simp [lsM] at *; omega) hF h7; exact ⟨by simpa [lsM] using i1, f1⟩
          · obtain ⟨i1, f1⟩ := ih _ _ _ _ _ _ _ (by trivial) (by simp [lsM] at *; omega) hF h7; exact ⟨by simpa [lsM] using i1, f1⟩
        cases h8; exact ⟨by simp; omega, i1.2.snoc (by show a.length ≤ L; omega)⟩
    | args =>
      rw [readI] at h
      obtain ⟨h3, _, h4⟩ := open_ok h
      have := head_tail h3 (by simp)
      obtain ⟨w, h5, h6⟩ := next_ok h4
      simp only [lsM, Nat.zero_add] at hb ⊢
      split at h6
      · rename_i e
        have := head_tail h5 (by rw [e]; simp)
        cases h6; exact ⟨by simp; omega, hF⟩
      · obtain ⟨a, b, c, h7, h8⟩ := bind_ok h6
        obtain ⟨i1, f1⟩ := ih _ _ _ _ _ _ _ (by trivial) (by simp [lsM] at *; omega) hF h7
        simp [lsM] at i1
        obtain ⟨i2, f2⟩ := ih _ _ _ _ _ _ _ (by trivial) (by simp [lsM]; omega) f1 h8
        simp [lsM] at i2
        exact ⟨by omega, f2⟩
    | argsL k =>
      rw [readI] at h
      obtain ⟨t, h1, h2⟩ := next_ok h
      simp only [lsM] at hb ⊢
      split at h2
      · rename_i e
        have := head_tail h1 (by rw [e]; simp)
        obtain ⟨a, b, c, h7, h8⟩ := bind_ok h2
        obtain ⟨i1, f1⟩ := ih _ _ _ _ _ _ _ (by trivial) (by simp [lsM] at *; omega) hF h7
        simp [lsM] at i1
        obtain ⟨i2, f2⟩ := ih _ _ _ _ _ _ _ (by trivial) (by simp [lsM]; omega) f1 h8
        simp [lsM] at i2
        exact ⟨by omega, f2⟩
      · obtain ⟨h9, h10⟩ := need_ok h2
        have := head_tail h9 (by simp)
        cases h10; exact ⟨by omega, hF⟩
    | three =>
      rw [readI] at h
      obtain ⟨h3, _, h4⟩ := open_ok h
      have := head_tail h3 (by simp)
      simp only [lsM, Nat.zero_add] at hb ⊢
      obtain ⟨a, b, c, h7, h8⟩ := bind_ok h4
      obtain ⟨i1, f1⟩ := ih _ _ _ _ _ _ _ (by trivial) (by simp [lsM] at *; omega) hF h7
      simp [lsM] at i1
      obtain ⟨h9, h10⟩ := need_ok h8
      have := head_tail h9 (by simp)
      obtain ⟨a2, b2, c2, h7b, h8b⟩ := bind_ok h10
      obtain ⟨i2, f2⟩ := ih _ _ _ _ _ _ _ (by trivial) (by simp [lsM] at *; omega) f1 h7b
      simp [lsM] at i2
      obtain ⟨h9b, h10b⟩ := need_ok h8b
      have := head_tail h9b (by simp)
      obtain ⟨a3, b3, c3, h7c, h8c⟩ := bind_ok h10b
      obtain ⟨i3, f3⟩ := ih _ _ _ _ _ _ _ (by trivial) (by simp [lsM] at *; omega) f2 h7c
      simp [lsM] at i3
      obtain ⟨h9c, h10c⟩ := need_ok h8c
      have := head_tail h9c (by simp)
      cases h10c; exact ⟨by simp; omega, f3⟩
theorem TS_len (l : List UInt8) : ∀ (k p : Nat), l.length ≤ p + k → (TS l p).length ≤ k + 1
  | k, p, h => by
    rw [TS_eq]
    cases ht : tokI (l.drop (nxtI l p)) with
    | none => simp
    | some t =>
      cases t with
      | nil => simp
      | cons c t =>
        have hle := tok_le ht
        rw [List.length_drop] at hle
        have hnx : p ≤ nxtI l p := by unfold nxtI; omega
        simp only [List.length_cons] at hle ⊢
        obtain ⟨k, rfl⟩ : ∃ j, k = j + 1 := ⟨k - 1, by omega⟩
        have := TS_len l k (nxtI l p + (t.length + 1)) (by omega)
        omega
theorem RI_fit {n L : Nat} (hL : 3 ≤ L) {ts : List Tk} {o : Nat} {l : List Int} {ts' : List Tk} {gs' : List Gt} (hb : ts.length ≤ L) (h : RI n .form ts o [] = .ok l ts' gs') : FitL L gs' := (readI_fit n L hL _ .form ts o [] l ts' gs' (by trivial) (by simp [lsM]; exact hb) (fun g hg => by simp at hg) h).2
end Go.Proofs.YtallcgpiecopcaaGreatDoor
