/- Texts of this claim, joined: IA, IB, IC. -/
import Derived.Lib.ItoaMem
import Derived.Lib.Strings

/- Formulas as text, in plain Lean: tokens, and how a formula is read. -/
namespace Go.Proofs.YtmaiofimmjedjaaDoor
open Go

structure Gt where
  k : Int
  lit : Int
  ins : List Int
abbrev Tk := Option (List UInt8)

/-! ### Tokens -/
def smallI (b : UInt8) : Bool := (decide (97 ≤ b.toNat) && decide (b.toNat ≤ 122)) || (decide (48 ≤ b.toNat) && decide (b.toNat ≤ 57))
def signsI : List (List UInt8) := [[33], [38], [94], [124], [45, 62], [60, 45, 62], [40], [41], [44]]
def tokI (l : List UInt8) : Tk :=
  if l = [] then some [] else match signsI.find? (fun s => Lib.hasPrefix l s) with
  | some s => some s
  | none => if l.takeWhile smallI = [] then none else some (l.takeWhile smallI)
def blI (l : List UInt8) : Nat := (l.takeWhile (fun b => b == 32)).length
def lexI : Nat → List UInt8 → Nat → List (Nat × Tk)
  | 0, _, p => [(p, none)]
  | f + 1, l, p => match tokI (l.drop (blI l)) with
    | none => [(p + blI l, none)]
    | some [] => [(p + blI l, some [])]
    | some (c :: t) => (p + blI l, some (c :: t)) :: lexI f ((l.drop (blI l)).drop (c :: t).length) (p + blI l + (c :: t).length)

/-! ### The reader -/
inductive PR where
  | ok (l : List Int) (ts : List Tk) (gs : List Gt)
  | err (r : Nat) (e : Int)
def PR.bind (r : PR) (f : List Int → List Tk → List Gt → PR) : PR := match r with
  | .ok l ts gs => f l ts gs
  | .err r e => .err r e
inductive Md where
  | form
  | formL (k : Int)
  | impl
  | implL (l : List Int)
  | chain (lv : Nat)
  | chainL (lv : Nat) (l : List Int)
  | atom
  | args
  | argsL (l : List Int)
  | three
def nextI (ts : List Tk) (f : List UInt8 → PR) : PR := match ts.headD (some []) with
  | none => .err ts.length 5
  | some t => f t
def needI (s : List UInt8) (ts : List Tk) (f : List Tk → PR) : PR := nextI ts fun t => if t = s then f ts.tail else .err ts.length 5
def openI (s : List UInt8) (ts : List Tk) (o : Nat) (f : List Tk → PR) : PR := needI s ts fun ts' => if 200 ≤ o then .err ts.length 2 else f ts'
def decN (v : Nat) : List UInt8 := if v < 10 then [UInt8.ofNat (48 + v)] else if v < 100 then [UInt8.ofNat (48 + v / 10), UInt8.ofNat (48 + v % 10)] else if v < 1000 then [UInt8.ofNat (48 + v / 100), UInt8.ofNat (48 + v / 10 % 10), UInt8.ofNat (48 + v % 10)] else Lib.decDigits v
theorem decN_eq (v : Nat) : decN v = Lib.decDigits v := by
  unfold decN
  split
  · rename_i h; rw [Lib.decDigits_one h]
  split
  · rename_i h1 h2; rw [Lib.decDigits_two h1 h2]
  split
  · rename_i h1 h2 h3
    rw [Lib.decDigits, dif_neg h1, Lib.decDigits_two (by omega) (by omega), show v / 10 / 10 = v / 100 by omega]; rfl
  · rfl
def varI (n : Nat) (w : List UInt8) : Nat := match (List.range n).find? (fun i => w == 120 :: decN (i + 1)) with
  | some i => i + 1
  | none => 0
def signI (lv : Nat) : List UInt8 := if lv = 4 then [124] else if lv = 5 then [94] else [38]
def kindI (lv : Nat) : Int := if lv = 4 then 5 else if lv = 5 then 6 else 4
def foldI : List Int → Int → List Gt → Int × List Gt
  | [], k, gs => (k, gs)
  | x :: r, k, gs => foldI r (gs.length + 1 : Nat) (gs ++ [⟨3, 0, [x]⟩, ⟨5, 0, [(gs.length : Nat), k]⟩])
def headI (l : List Int) : Int := l.headD 0
def wordI (t : List UInt8) : Int := if t = [97, 110, 100] then 4 else if t = [111, 114] then 5 else if t = [120, 111, 114] then 6 else if t = [105, 102] then 8 else -1

def readI (n : Nat) : Nat → Md → List Tk → Nat → List Gt → PR
  | 0, _, ts, _, _ => .err ts.length 99
  | f + 1, .form, ts, o, gs => (readI n f .impl ts o gs).bind fun l ts gs => readI n f (.formL (headI l)) ts o gs
  | f + 1, .formL k, ts, o, gs => nextI ts fun t => if t = [60, 45, 62] then (readI n f .impl ts.tail o gs).bind fun l ts gs => readI n f (.formL (gs.length : Nat)) ts o (gs ++ [⟨7, 0, [k, headI l]⟩]) else .ok [k] ts gs
  | f + 1, .impl, ts, o, gs => (readI n f (.chain 4) ts o gs).bind fun l ts gs => readI n f (.implL l) ts o gs
  | f + 1, .implL l, ts, o, gs => nextI ts fun t => if t = [45, 62] then (readI n f (.chain 4) ts.tail o gs).bind fun l2 ts gs => readI n f (.implL (l ++ l2)) ts o gs else .ok [(foldI l.reverse.tail (headI l.reverse) gs).1] ts (foldI l.reverse.tail (headI l.reverse) gs).2
  | f + 1, .chain lv, ts, o, gs => if 7 ≤ lv then readI n f .atom ts o gs else (readI n f (.chain (lv + 1)) ts o gs).bind fun l ts gs => readI n f (.chainL lv l) ts o gs
  | f + 1, .chainL lv l, ts, o, gs => nextI ts fun t => if t = signI lv then (readI n f (.chain (lv + 1)) ts.tail o gs).bind fun l2 ts gs => readI n f (.chainL lv (l ++ l2)) ts o gs else if l.length = 1 then .ok l ts gs else .ok [(gs.length : Nat)] ts (gs ++ [⟨kindI lv, 0, l⟩])
  | f + 1, .atom, ts, o, gs => nextI ts fun t =>
    if varI n t ≠ 0 then .ok [(gs.length : Nat)] ts.tail (gs ++ [⟨2, varI n t, []⟩])
    else if t = [33] then openI [33] ts o fun ts => nextI ts fun w => if varI n w ≠ 0 then .ok [(gs.length : Nat)] ts.tail (gs ++ [⟨2, -(varI n w : Int), []⟩]) else (readI n f .atom ts (o + 1) gs).bind fun l ts gs => .ok [(gs.length : Nat)] ts (gs ++ [⟨3, 0, l⟩])
    else if t = [40] then openI [40] ts o fun ts => (readI n f .form ts (o + 1) gs).bind fun l ts gs => needI [41] ts fun ts => .ok l ts gs
    else if t = [48] then .ok [(gs.length : Nat)] ts.tail (gs ++ [⟨0, 0, []⟩])
    else if t = [49] then .ok [(gs.length : Nat)] ts.tail (gs ++ [⟨1, 0, []⟩])
    else if wordI t = -1 then .err ts.length 5
    else (readI n f (if wordI t = 8 then .three else .args) ts.tail o gs).bind fun l ts gs => .ok [(gs.length : Nat)] ts (gs ++ [⟨wordI t, 0, l⟩])
  | f + 1, .args, ts, o, gs => openI [40] ts o fun ts => nextI ts fun t => if t = [41] then .ok [] ts.tail gs else (readI n f .form ts (o + 1) gs).bind fun l ts gs => readI n f (.argsL l) ts (o + 1) gs
  | f + 1, .argsL l, ts, o, gs => nextI ts fun t => if t = [44] then (readI n f .form ts.tail o gs).bind fun l2 ts gs => readI n f (.argsL (l ++ l2)) ts o gs else needI [41] ts fun ts => .ok l ts gs
  | f + 1, .three, ts, o, gs => openI [40] ts o fun ts => (readI n f .form ts (o + 1) gs).bind fun a ts gs => needI [44] ts fun ts => (readI n f .form ts (o + 1) gs).bind fun b ts gs => needI [44] ts fun ts => (readI n f .form ts (o + 1) gs).bind fun c ts gs => needI [41] ts fun ts => .ok (a ++ b ++ c) ts gs

/-! ### Circuits -/
def sizeI (gs : List Gt) : Nat := (gs.map fun g => g.ins.length).sum
def manyI (k : Int) (n : Nat) : Bool := if k = 0 ∨ k = 1 ∨ k = 2 then decide (n = 0) else if k = 3 then decide (n = 1) else if k = 7 then decide (n = 2) else if k = 8 then decide (n = 3) else decide (k = 4 ∨ k = 5 ∨ k = 6)
def litI (l n : Int) : Bool := decide (1 ≤ l ∧ l ≤ n) || decide (l ≤ -1 ∧ -n ≤ l)
def goodI (n : Int) (i : Nat) (g : Gt) : Bool := manyI g.k g.ins.length && (if g.k = 2 then litI g.lit n else decide (g.lit = 0)) && g.ins.all fun k => decide (0 ≤ k ∧ k < i)
def allGoodI (n : Int) : Nat → List Gt → Bool
  | _, [] => true
  | i, g :: gs => goodI n i g && allGoodI n (i + 1) gs
def checkI (n : Int) (gs : List Gt) : Int := if n < 0 ∨ 128 < n then 6 else if 4096 < gs.length ∨ 65536 < sizeI gs then 2 else if gs = [] then 1 else if allGoodI n 0 gs then 0 else 1

/-! ### Parse -/
def posI (l : List UInt8) (r : Nat) : Nat := (((lexI (l.length + 1) l 0).drop ((lexI (l.length + 1) l 0).length - r)).headD (0, none)).1
def parseI (l : List UInt8) (n : Int) : List Gt × Nat × Int :=
  if n < 0 ∨ 128 < n then ([], 0, 1) else if 1048576 < l.length then ([], 0, 2) else
  match readI n.toNat (16 * (lexI (l.length + 1) l 0).length + 16) .form ((lexI (l.length + 1) l 0).map (·.2)) 0 [] with
  | .err r e => ([], posI l r, e)
  | .ok _ ts gs => if ts.headD (some []) ≠ some [] then ([], posI l ts.length, 5) else if checkI n gs = 0 then (gs, 0, 0) else ([], 0, 2)
end Go.Proofs.YtmaiofimmjedjaaDoor

/- The reader of formulas without its count of steps. -/
namespace Go.Proofs.YtmaiofimmjedjaaDoor
open Go

def loopM : Md → Bool
  | .formL _ => true
  | .implL _ => true
  | .chainL _ _ => true
  | _ => false
def rkI : Md → Nat
  | .form => 14
  | .impl => 13
  | .chain lv => 5 + (7 - lv)
  | .atom => 4
  | _ => 0
def bdI (m : Md) (ts : List Tk) : Nat := 16 * ts.length + rkI m
theorem rkI_lt (m : Md) : rkI m < 15 := by
  cases m <;> simp [rkI] <;> omega

theorem bind_ok {r : PR} {f : List Int → List Tk → List Gt → PR} {l : List Int} {ts : List Tk} {gs : List Gt} (h : r.bind f = .ok l ts gs) : ∃ l' ts' gs', r = .ok l' ts' gs' ∧ f l' ts' gs' = .ok l ts gs := by
  cases r with
  | ok a b c => exact ⟨a, b, c, rfl, h⟩
  | err a b => cases h
theorem next_ok {ts : List Tk} {f : List UInt8 → PR} {l : List Int} {ts' : List Tk} {gs : List Gt} (h : nextI ts f = .ok l ts' gs) : ∃ t, ts.headD (some []) = some t ∧ f t = .ok l ts' gs := by
  unfold nextI at h
  split at h
  · cases h
  · rename_i t ht; exact ⟨t, ht, h⟩
theorem head_tail {ts : List Tk} {t : List UInt8} (h : ts.headD (some []) = some t) (ht : t ≠ []) : ts = some t :: ts.tail ∧ ts.length = ts.tail.length + 1 := by
  cases ts with
  | nil => simp at h; exact absurd h ht
  | cons a r => simp at h; subst h; simp
theorem need_ok {s : List UInt8} {ts : List Tk} {f : List Tk → PR} {l : List Int} {ts' : List Tk} {gs : List Gt} (h : needI s ts f = .ok l ts' gs) : ts.headD (some []) = some s ∧ f ts.tail = .ok l ts' gs := by
  obtain ⟨t, ht, h2⟩ := next_ok h
  split at h2
  · rename_i e; subst e; exact ⟨ht, h2⟩
  · cases h2
theorem open_ok {s : List UInt8} {ts : List Tk} {o : Nat} {f : List Tk → PR} {l : List Int} {ts' : List Tk} {gs : List Gt} (h : openI s ts o f = .ok l ts' gs) : ts.headD (some []) = some s ∧ o < 200 ∧ f ts.tail = .ok l ts' gs := by
  obtain ⟨h1, h2⟩ := need_ok h
  split at h2
  · cases h2
  · exact ⟨h1, by omega, h2⟩
theorem varI_nil (n : Nat) : varI n [] = 0 := by
  unfold varI
  cases h : (List.range n).find? (fun i => ([] : List UInt8) == 120 :: decN (i + 1)) with
  | none => rfl
  | some i => have := List.find?_some h; simp at this
theorem wordI_nil : wordI [] = -1 := by decide
theorem varI_le (n : Nat) (w : List UInt8) : varI n w ≤ n := by
  unfold varI
  cases h : (List.range n).find? (fun i => w == 120 :: decN (i + 1)) with
  | none => exact Nat.zero_le _
  | some i => have := List.mem_of_find?_eq_some h; simp at this; exact this

theorem readI_len (n : Nat) : ∀ (f : Nat) (m : Md) (ts : List Tk) (o : Nat) (gs : List Gt) (l : List Int) (ts' : List Tk) (gs' : List Gt), readI n f m ts o gs = .ok l ts' gs' → ts'.length + (if loopM m then 0 else 1) ≤ ts.length := by
  intro f
  induction f with
  | zero => intro m ts o gs l ts' gs' h; rw [readI] at h; cases h
  | succ f ih =>
    intro m ts o gs l ts' gs' h
    cases m with
    | form =>
      rw [readI] at h
      obtain ⟨a, b, c, h1, h2⟩ := bind_ok h
      have := ih _ _ _ _ _ _ _ h1
      have := ih _ _ _ _ _ _ _ h2
      simp [loopM] at *; omega
    | formL k =>
      rw [readI] at h
      obtain ⟨t, h1, h2⟩ := next_ok h
      split at h2
      · rename_i e
        have := head_tail h1 (by rw [e]; simp)
        obtain ⟨a, b, c, h3, h4⟩ := bind_ok h2
        have := ih _ _ _ _ _ _ _ h3
        have := ih _ _ _ _ _ _ _ h4
        simp [loopM] at *; omega
      · cases h2; simp [loopM]
    | impl =>
      rw [readI] at h
      obtain ⟨a, b, c, h1, h2⟩ := bind_ok h
      have := ih _ _ _ _ _ _ _ h1
      have := ih _ _ _ _ _ _ _ h2
      simp [loopM] at *; omega
    | implL k =>
      rw [readI] at h
      obtain ⟨t, h1, h2⟩ := next_ok h
      split at h2
      · rename_i e
        have := head_tail h1 (by rw [e]; simp)
        obtain ⟨a, b, c, h3, h4⟩ := bind_ok h2
        have := ih _ _ _ _ _ _ _ h3
        have := ih _ _ _ _ _ _ _ h4
        simp [loopM] at *; omega
      · cases h2; simp [loopM]
    | chain lv =>
      rw [readI] at h
      split at h
      · have := ih _ _ _ _ _ _ _ h
        simp [loopM] at *; omega
      · obtain ⟨a, b, c, h1, h2⟩ := bind_ok h
        have := ih _ _ _ _ _ _ _ h1
        have := ih _ _ _ _ _ _ _ h2
        simp [loopM] at *; omega
    | chainL lv k =>
      rw [readI] at h
      obtain ⟨t, h1, h2⟩ := next_ok h
      split at h2
      · rename_i e
        have := head_tail h1 (by rw [e]; unfold signI; split <;> (try split) <;> simp)
        obtain ⟨a, b, c, h3, h4⟩ := bind_ok h2
        have := ih _ _ _ _ _ _ _ h3
        have := ih _ _ _ _ _ _ _ h4
        simp [loopM] at *; omega
      · split at h2 <;> (cases h2; simp [loopM])
    | atom =>
      rw [readI] at h
      obtain ⟨t, h1, h2⟩ := next_ok h
      split at h2
      · rename_i e
        have := head_tail h1 (fun e2 => e (by rw [e2]; exact varI_nil n))
        cases h2; simp [loopM]; omega
      split at h2
      · obtain ⟨h3, _, h4⟩ := open_ok h2
        have := head_tail h3 (by simp)
        obtain ⟨w, h5, h6⟩ := next_ok h4
        split at h6
        · rename_i e
          have := head_tail h5 (fun e2 => e (by rw [e2]; exact varI_nil n))
          cases h6; simp [loopM] at *; omega
        · obtain ⟨a, b, c, h7, h8⟩ := bind_ok h6
          have := ih _ _ _ _ _ _ _ h7
          cases h8; simp [loopM] at *; omega
      split at h2
      · obtain ⟨h3, _, h4⟩ := open_ok h2
        have := head_tail h3 (by simp)
        obtain ⟨a, b, c, h7, h8⟩ := bind_ok h4
        have := ih _ _ _ _ _ _ _ h7
        obtain ⟨h9, h10⟩ := need_ok h8
        have := head_tail h9 (by simp)
        cases h10; simp [loopM] at *; omega
      split at h2
      · rename_i e
        have := head_tail h1 (by rw [e]; simp)
        cases h2; simp [loopM]; omega
      split at h2
      · rename_i e
        have := head_tail h1 (by rw [e]; simp)
        cases h2; simp [loopM]; omega
      split at h2
      · cases h2
      · rename_i e
        have := head_tail h1 (fun e2 => e (by rw [e2]; exact wordI_nil))
        obtain ⟨a, b, c, h7, h8⟩ := bind_ok h2
        have h9 : b.length ≤ ts.tail.length := by
          have h9 := ih _ _ _ _ _ _ _ h7
          split at h9 <;> omega
        cases h8
        simp [loopM] at *; omega
    | args =>
      rw [readI] at h
      obtain ⟨h3, _, h4⟩ := open_ok h
      have := head_tail h3 (by simp)
      obtain ⟨w, h5, h6⟩ := next_ok h4
      split at h6
      · rename_i e
        have := head_tail h5 (by rw [e]; simp)
        cases h6; simp [loopM] at *; omega
      · obtain ⟨a, b, c, h7, h8⟩ := bind_ok h6
        have := ih _ _ _ _ _ _ _ h7
        have := ih _ _ _ _ _ _ _ h8
        simp [loopM] at *; omega
    | argsL k =>
      rw [readI] at h
      obtain ⟨t, h1, h2⟩ := next_ok h
      split at h2
      · rename_i e
        have := head_tail h1 (by rw [e]; simp)
        obtain ⟨a, b, c, h7, h8⟩ := bind_ok h2
        have := ih _ _ _ _ _ _ _ h7
        have := ih _ _ _ _ _ _ _ h8
        simp [loopM] at *; omega
      · obtain ⟨h9, h10⟩ := need_ok h2
        have := head_tail h9 (by simp)
        cases h10; simp [loopM] at *; omega
    | three =>
      rw [readI] at h
      obtain ⟨h3, _, h4⟩ := open_ok h
      have := head_tail h3 (by simp)
      obtain ⟨a, b, c, h7, h8⟩ := bind_ok h4
      have := ih _ _ _ _ _ _ _ h7
      obtain ⟨h9, h10⟩ := need_ok h8
      have := head_tail h9 (by simp)
      obtain ⟨a2, b2, c2, h7b, h8b⟩ := bind_ok h10
      have := ih _ _ _ _ _ _ _ h7b
      obtain ⟨h9b, h10b⟩ := need_ok h8b
      have := head_tail h9b (by simp)
      obtain ⟨a3, b3, c3, h7c, h8c⟩ := bind_ok h10b
      have := ih _ _ _ _ _ _ _ h7c
      obtain ⟨h9c, h10c⟩ := need_ok h8c
      have := head_tail h9c (by simp)
      cases h10c; simp [loopM] at *; omega

theorem bind_cong {r r' : PR} {f f' : List Int → List Tk → List Gt → PR} (h : r = r') (hf : ∀ l ts gs, r = .ok l ts gs → f l ts gs = f' l ts gs) : r.bind f = r'.bind f' := by
  subst h
  cases r with
  | ok a b c => exact hf a b c rfl
  | err a b => rfl
theorem next_cong {ts : List Tk} {f f' : List UInt8 → PR} (h : ∀ t, ts.headD (some []) = some t → f t = f' t) : nextI ts f = nextI ts f' := by
  unfold nextI
  split
  · rfl
  · rename_i t ht; exact h t ht
theorem need_cong {s : List UInt8} {ts : List Tk} {f f' : List Tk → PR} (h : ts.headD (some []) = some s → f ts.tail = f' ts.tail) : needI s ts f = needI s ts f' := by
  unfold needI
  refine next_cong fun t ht => ?_
  split
  · rename_i e; subst e; exact h ht
  · rfl
theorem open_cong {s : List UInt8} {ts : List Tk} {o : Nat} {f f' : List Tk → PR} (h : ts.headD (some []) = some s → f ts.tail = f' ts.tail) : openI s ts o f = openI s ts o f' := by
  unfold openI
  refine need_cong fun hs => ?_
  split
  · rfl
  · exact h hs

theorem readI_steps (n : Nat) : ∀ (f f' : Nat) (m : Md) (ts : List Tk) (o : Nat) (gs : List Gt), bdI m ts < f → bdI m ts < f' → readI n f m ts o gs = readI n f' m ts o gs := by
  intro f
  induction f with
  | zero => intro f' m ts o gs h; omega
  | succ f ih =>
    intro f' m ts o gs h1 h2
    obtain ⟨g, rfl⟩ : ∃ g, f' = g + 1 := ⟨f' - 1, by omega⟩
    have go : ∀ (m' : Md) (ts' : List Tk) (o' : Nat) (gs' : List Gt), bdI m' ts' < bdI m ts → readI n f m' ts' o' gs' = readI n g m' ts' o' gs' := fun m' ts' o' gs' h => ih g m' ts' o' gs' (by omega) (by omega)
    have sh : ∀ (m' : Md) (ts' : List Tk) (o' : Nat) (gs' : List Gt), ts'.length < ts.length → readI n f m' ts' o' gs' = readI n g m' ts' o' gs' := fun m' ts' o' gs' h => go m' ts' o' gs' (by have := rkI_lt m'; unfold bdI; omega)
    cases m with
    | form =>
      rw [readI, readI]
      refine bind_cong (go _ _ _ _ (by simp [bdI, rkI])) fun l t2 g2 h => sh _ _ _ _ ?_
      have := readI_len n _ _ _ _ _ _ _ _ h
      simp [loopM] at this; omega
    | formL k =>
      rw [readI, readI]
      refine next_cong fun t ht => ?_
      split
      · rename_i e
        have := head_tail ht (by rw [e]; simp)
        refine bind_cong (sh _ _ _ _ (by omega)) fun l t2 g2 h => sh _ _ _ _ ?_
        have := readI_len n _ _ _ _ _ _ _ _ h
        simp [loopM] at this; omega
      · rfl
    | impl =>
      rw [readI, readI]
      refine bind_cong (go _ _ _ _ (by simp [bdI, rkI])) fun l t2 g2 h => sh _ _ _ _ ?_
      have := readI_len n _ _ _ _ _ _ _ _ h
      simp [loopM] at this; omega
    | implL k =>
      rw [readI, readI]
      refine next_cong fun t ht => ?_
      split
      · rename_i e
        have := head_tail ht (by rw [e]; simp)
        refine bind_cong (sh _ _ _ _ (by omega)) fun l t2 g2 h => sh _ _ _ _ ?_
        have := readI_len n _ _ _ _ _ _ _ _ h
        simp [loopM] at this; omega
      · rfl
    | chain lv =>
      rw [readI, readI]
      split
      · exact go _ _ _ _ (by simp [bdI, rkI]; omega)
      · refine bind_cong (go _ _ _ _ (by simp [bdI, rkI]; omega)) fun l t2 g2 h => sh _ _ _ _ ?_
        have := readI_len n _ _ _ _ _ _ _ _ h
        simp [loopM] at this; omega
    | chainL lv k =>
      rw [readI, readI]
      refine next_cong fun t ht => ?_
      split
      · rename_i e
        have := head_tail ht (by rw [e]; unfold signI; split <;> (try split) <;> simp)
        refine bind_cong (sh _ _ _ _ (by omega)) fun l t2 g2 h => sh _ _ _ _ ?_
        have := readI_len n _ _ _ _ _ _ _ _ h
        simp [loopM] at this; omega
      · rfl
    | atom =>
      rw [readI, readI]
      refine next_cong fun t ht => ?_
      split
      · rfl
      split
      · refine open_cong fun h3 => ?_
        have := head_tail h3 (by simp)
        refine next_cong fun w hw => ?_
        split
        · rfl
        · refine bind_cong (sh _ _ _ _ (by omega)) fun _ _ _ _ => rfl
      split
      · refine open_cong fun h3 => ?_
        have := head_tail h3 (by simp)
        refine bind_cong (sh _ _ _ _ (by omega)) fun _ _ _ _ => rfl
      split
      · rfl
      split
      · rfl
      split
      · rfl
      · rename_i e
        have := head_tail ht (fun e2 => e (by rw [e2]; exact wordI_nil))
        refine bind_cong (sh _ _ _ _ (by omega)) fun _ _ _ _ => rfl
    | args =>
      rw [readI, readI]
      refine open_cong fun h3 => ?_
      have := head_tail h3 (by simp)
      refine next_cong fun w hw => ?_
      split
      · rfl
      · refine bind_cong (sh _ _ _ _ (by omega)) fun l t2 g2 h => sh _ _ _ _ ?_
        have := readI_len n _ _ _ _ _ _ _ _ h
        simp [loopM] at this; omega
    | argsL k =>
      rw [readI, readI]
      refine next_cong fun t ht => ?_
      split
      · rename_i e
        have := head_tail ht (by rw [e]; simp)
        refine bind_cong (sh _ _ _ _ (by omega)) fun l t2 g2 h => sh _ _ _ _ ?_
        have := readI_len n _ _ _ _ _ _ _ _ h
        simp [loopM] at this; omega
      · rfl
    | three =>
      rw [readI, readI]
      refine open_cong fun h3 => ?_
      have := head_tail h3 (by simp)
      refine bind_cong (sh _ _ _ _ (by omega)) fun l t2 g2 h => ?_
      have := readI_len n _ _ _ _ _ _ _ _ h
      simp [loopM] at this
      refine need_cong fun h4 => ?_
      have := head_tail h4 (by simp)
      refine bind_cong (sh _ _ _ _ (by omega)) fun l2 t3 g3 h => ?_
      have := readI_len n _ _ _ _ _ _ _ _ h
      simp [loopM] at this
      refine need_cong fun h5 => ?_
      have := head_tail h5 (by simp)
      refine bind_cong (sh _ _ _ _ (by omega)) fun _ _ _ _ => rfl

def RI (n : Nat) (m : Md) (ts : List Tk) (o : Nat) (gs : List Gt) : PR := readI n (bdI m ts + 1) m ts o gs
theorem RI_of {n f : Nat} {m : Md} {ts : List Tk} {o : Nat} {gs : List Gt} (h : bdI m ts < f) : readI n f m ts o gs = RI n m ts o gs := readI_steps n _ _ m ts o gs h (by omega)
theorem RI_len {n : Nat} {m : Md} {ts : List Tk} {o : Nat} {gs : List Gt} {l : List Int} {ts' : List Tk} {gs' : List Gt} (h : RI n m ts o gs = .ok l ts' gs') : ts'.length + (if loopM m then 0 else 1) ≤ ts.length := readI_len n _ _ _ _ _ _ _ _ h
theorem bd_lt {m m' : Md} {ts ts' : List Tk} (h : ts'.length < ts.length) : bdI m' ts' < bdI m ts := by have := rkI_lt m'; unfold bdI; omega
theorem RI_form (n : Nat) (ts : List Tk) (o : Nat) (gs : List Gt) : RI n .form ts o gs = (RI n .impl ts o gs).bind fun l ts gs => RI n (.formL (headI l)) ts o gs := by
  rw [RI, readI]
  refine bind_cong (RI_of (by simp [bdI, rkI])) fun l t2 g2 h => RI_of (bd_lt ?_)
  have := readI_len n _ _ _ _ _ _ _ _ h
  simp [loopM] at this; omega
theorem RI_formL (n : Nat) (k : Int) (ts : List Tk) (o : Nat) (gs : List Gt) : RI n (.formL k) ts o gs = nextI ts fun t => if t = [60, 45, 62] then (RI n .impl ts.tail o gs).bind fun l ts gs => RI n (.formL (gs.length : Nat)) ts o (gs ++ [⟨7, 0, [k, headI l]⟩]) else .ok [k] ts gs := by
  rw [RI, readI]
  refine next_cong fun t ht => ?_
  split
  · rename_i e
    have := head_tail ht (by rw [e]; simp)
    refine bind_cong (RI_of (bd_lt (by omega))) fun l t2 g2 h => RI_of (bd_lt ?_)
    have := readI_len n _ _ _ _ _ _ _ _ h
    simp [loopM] at this; omega
  · rfl
theorem RI_impl (n : Nat) (ts : List Tk) (o : Nat) (gs : List Gt) : RI n .impl ts o gs = (RI n (.chain 4) ts o gs).bind fun l ts gs => RI n (.implL l) ts o gs := by
  rw [RI, readI]
  refine bind_cong (RI_of (by simp [bdI, rkI])) fun l t2 g2 h => RI_of (bd_lt ?_)
  have := readI_len n _ _ _ _ _ _ _ _ h
  simp [loopM] at this; omega
theorem RI_implL (n : Nat) (l : List Int) (ts : List Tk) (o : Nat) (gs : List Gt) : RI n (.implL l) ts o gs = nextI ts fun t => if t = [45, 62] then (RI n (.chain 4) ts.tail o gs).bind fun l2 ts gs => RI n (.implL (l ++ l2)) ts o gs else .ok [(foldI l.reverse.tail (headI l.reverse) gs).1] ts (foldI l.reverse.tail (headI l.reverse) gs).2 := by
  rw [RI, readI]
  refine next_cong fun t ht => ?_
  split
  · rename_i e
    have := head_tail ht (by rw [e]; simp)
    refine bind_cong (RI_of (bd_lt (by omega))) fun l t2 g2 h => RI_of (bd_lt ?_)
    have := readI_len n _ _ _ _ _ _ _ _ h
    simp [loopM] at this; omega
  · rfl
theorem RI_chain7 (n : Nat) (ts : List Tk) (o : Nat) (gs : List Gt) : RI n (.chain 7) ts o gs = RI n .atom ts o gs := by
  rw [RI, readI, if_pos (by omega)]
  exact RI_of (by simp [bdI, rkI])
theorem RI_chain (n lv : Nat) (h7 : lv < 7) (ts : List Tk) (o : Nat) (gs : List Gt) : RI n (.chain lv) ts o gs = (RI n (.chain (lv + 1)) ts o gs).bind fun l ts gs => RI n (.chainL lv l) ts o gs := by
  rw [RI, readI, if_neg (by omega)]
  refine bind_cong (RI_of (by simp [bdI, rkI]; omega)) fun l t2 g2 h => RI_of (bd_lt ?_)
  have := readI_len n _ _ _ _ _ _ _ _ h
  simp [loopM] at this; omega
theorem signI_ne (lv : Nat) : signI lv ≠ [] := by unfold signI; split <;> (try split) <;> simp
theorem RI_chainL (n lv : Nat) (l : List Int) (ts : List Tk) (o : Nat) (gs : List Gt) : RI n (.chainL lv l) ts o gs = nextI ts fun t => if t = signI lv then (RI n (.chain (lv + 1)) ts.tail o gs).bind fun l2 ts gs => RI n (.chainL lv (l ++ l2)) ts o gs else if l.length = 1 then .ok l ts gs else .ok [(gs.length : Nat)] ts (gs ++ [⟨kindI lv, 0, l⟩]) := by
  rw [RI, readI]
  refine next_cong fun t ht => ?_
  split
  · rename_i e
    have := head_tail ht (by rw [e]; exact signI_ne lv)
    refine bind_cong (RI_of (bd_lt (by omega))) fun l t2 g2 h => RI_of (bd_lt ?_)
    have := readI_len n _ _ _ _ _ _ _ _ h
    simp [loopM] at this; omega
  · rfl
theorem RI_atom (n : Nat) (ts : List Tk) (o : Nat) (gs : List Gt) : RI n .atom ts o gs = nextI ts fun t =>
    if varI n t ≠ 0 then .ok [(gs.length : Nat)] ts.tail (gs ++ [⟨2, varI n t, []⟩])
    else if t = [33] then openI [33] ts o fun ts => nextI ts fun w => if varI n w ≠ 0 then .ok [(gs.length : Nat)] ts.tail (gs ++ [⟨2, -(varI n w : Int), []⟩]) else (RI n .atom ts (o + 1) gs).bind fun l ts gs => .ok [(gs.length : Nat)] ts (gs ++ [⟨3, 0, l⟩])
    else if t = [40] then openI [40] ts o fun ts => (RI n .form ts (o + 1) gs).bind fun l ts gs => needI [41] ts fun ts => .ok l ts gs
    else if t = [48] then .ok [(gs.length : Nat)] ts.tail (gs ++ [⟨0, 0, []⟩])
    else if t = [49] then .ok [(gs.length : Nat)] ts.tail (gs ++ [⟨1, 0, []⟩])
    else if wordI t = -1 then .err ts.length 5
    else (RI n (if wordI t = 8 then .three else .args) ts.tail o gs).bind fun l ts gs => .ok [(gs.length : Nat)] ts (gs ++ [⟨wordI t, 0, l⟩]) := by
  rw [RI, readI]
  refine next_cong fun t ht => ?_
  split
  · rfl
  split
  · refine open_cong fun h3 => ?_
    have := head_tail h3 (by simp)
    refine next_cong fun w hw => ?_
    split
    · rfl
    · exact bind_cong (RI_of (bd_lt (by omega))) fun _ _ _ _ => rfl
  split
  · refine open_cong fun h3 => ?_
    have := head_tail h3 (by simp)
    exact bind_cong (RI_of (bd_lt (by omega))) fun _ _ _ _ => rfl
  split
  · rfl
  split
  · rfl
  split
  · rfl
  · rename_i e
    have := head_tail ht (fun e2 => e (by rw [e2]; exact wordI_nil))
    exact bind_cong (RI_of (bd_lt (by omega))) fun _ _ _ _ => rfl
theorem RI_args (n : Nat) (ts : List Tk) (o : Nat) (gs : List Gt) : RI n .args ts o gs = openI [40] ts o fun ts => nextI ts fun t => if t = [41] then .ok [] ts.tail gs else (RI n .form ts (o + 1) gs).bind fun l ts gs => RI n (.argsL l) ts (o + 1) gs := by
  rw [RI, readI]
  refine open_cong fun h3 => ?_
  have := head_tail h3 (by simp)
  refine next_cong fun w hw => ?_
  split
  · rfl
  · refine bind_cong (RI_of (bd_lt (by omega))) fun l t2 g2 h => RI_of (bd_lt ?_)
    have := readI_len n _ _ _ _ _ _ _ _ h
    simp [loopM] at this; omega
theorem RI_argsL (n : Nat) (l : List Int) (ts : List Tk) (o : Nat) (gs : List Gt) : RI n (.argsL l) ts o gs = nextI ts fun t => if t = [44] then (RI n .form ts.tail o gs).bind fun l2 ts gs => RI n (.argsL (l ++ l2)) ts o gs else needI [41] ts fun ts => .ok l ts gs := by
  rw [RI, readI]
  refine next_cong fun t ht => ?_
  split
  · rename_i e
    have := head_tail ht (by rw [e]; simp)
    refine bind_cong (RI_of (bd_lt (by omega))) fun l t2 g2 h => RI_of (bd_lt ?_)
    have := readI_len n _ _ _ _ _ _ _ _ h
    simp [loopM] at this; omega
  · rfl
theorem RI_three (n : Nat) (ts : List Tk) (o : Nat) (gs : List Gt) : RI n .three ts o gs = openI [40] ts o fun ts => (RI n .form ts (o + 1) gs).bind fun a ts gs => needI [44] ts fun ts => (RI n .form ts (o + 1) gs).bind fun b ts gs => needI [44] ts fun ts => (RI n .form ts (o + 1) gs).bind fun c ts gs => needI [41] ts fun ts => .ok (a ++ b ++ c) ts gs := by
  rw [RI, readI]
  refine open_cong fun h3 => ?_
  have := head_tail h3 (by simp)
  refine bind_cong (RI_of (bd_lt (by omega))) fun l t2 g2 h => ?_
  have := readI_len n _ _ _ _ _ _ _ _ h
  simp [loopM] at this
  refine need_cong fun h4 => ?_
  have := head_tail h4 (by simp)
  refine bind_cong (RI_of (bd_lt (by omega))) fun l2 t3 g3 h => ?_
  have := readI_len n _ _ _ _ _ _ _ _ h
  simp [loopM] at this
  refine need_cong fun h5 => ?_
  have := head_tail h5 (by simp)
  exact bind_cong (RI_of (bd_lt (by omega))) fun _ _ _ _ => rfl
end Go.Proofs.YtmaiofimmjedjaaDoor

/- Formulas as text, in plain Lean: what is written for a circuit, and its tree form. -/
namespace Go.Proofs.YtmaiofimmjedjaaDoor
open Go

def gI (gs : List Gt) (k : Int) : Gt := gs.getD k.toNat ⟨0, 0, []⟩
def levelI (g : Gt) : Nat := if g.k = 7 then 2 else if g.ins.length < 2 then 7 else if g.k = 5 then 4 else if g.k = 6 then 5 else if g.k = 4 then 6 else 7
inductive Pc where
  | s (t : List UInt8) (w : List (List UInt8))
  | g (k : Int)
def putI (k : Int) (p : Bool) : List Pc := if p then [.s [40] [[40]], .g k, .s [41] [[41]]] else [.g k]
def opI (gs : List Gt) (own : Nat) (k : Int) : List Pc := putI k (decide (levelI (gI gs k) ≤ own))
def moreI (gs : List Gt) (sep : List UInt8) (w : List (List UInt8)) (own : Nat) : List Int → List Pc
  | [] => []
  | k :: r => .s sep w :: (opI gs own k ++ moreI gs sep w own r)
def betweenI (gs : List Gt) (sep : List UInt8) (w : List (List UInt8)) (own : Nat) : List Int → List Pc
  | [] => []
  | k :: r => opI gs own k ++ moreI gs sep w own r
def nameI (k : Int) : List UInt8 := if k = 4 then [97, 110, 100] else if k = 5 then [111, 114] else if k = 6 then [120, 111, 114] else [105, 102]
def xI (v : Int) : List UInt8 := 120 :: decN v.toNat
def notParI (x : Gt) : Bool := decide (levelI x < 7) || (decide (x.k = 2) && decide (0 < x.lit))
def pcsI (gs : List Gt) (g : Gt) : List Pc :=
  if g.k = 0 then [.s [48] [[48]]] else if g.k = 1 then [.s [49] [[49]]]
  else if g.k = 2 then (if g.lit < 0 then [.s (33 :: xI (-g.lit)) [[33], xI (-g.lit)]] else [.s (xI g.lit) [xI g.lit]])
  else if g.k = 3 then .s [33] [[33]] :: putI (headI g.ins) (notParI (gI gs (headI g.ins)))
  else if g.k = 7 then putI (headI g.ins) false ++ .s [32, 60, 45, 62, 32] [[60, 45, 62]] :: putI (headI g.ins.tail) (decide (levelI (gI gs (headI g.ins.tail)) = 2))
  else if levelI g = 7 then .s (nameI g.k ++ [40]) [nameI g.k, [40]] :: (betweenI gs [44, 32] [[44]] 0 g.ins ++ [.s [41] [[41]]])
  else betweenI gs ([32] ++ signI (levelI g) ++ [32]) [signI (levelI g)] (levelI g) g.ins
def textI (gs : List Gt) : Nat → Int → List UInt8
  | 0, _ => []
  | f + 1, i => (pcsI gs (gI gs i)).flatMap fun p => match p with | .s t _ => t | .g k => textI gs f k
def toksI (gs : List Gt) : Nat → Int → List (List UInt8)
  | 0, _ => []
  | f + 1, i => (pcsI gs (gI gs i)).flatMap fun p => match p with | .s _ w => w | .g k => toksI gs f k
/-! ### Valid circuits -/
structure OkG (n : Int) (gs : List Gt) (i : Nat) (g : Gt) : Prop where
  many : manyI g.k g.ins.length = true
  lit : g.k = 2 → litI g.lit n = true
  nlit : g.k ≠ 2 → g.lit = 0
  ins : ∀ k ∈ g.ins, 0 ≤ k ∧ k < i
def Ok (n : Int) (gs : List Gt) : Prop := ∀ i g, gs[i]? = some g → OkG n gs i g
theorem good_ok {n : Int} {gs : List Gt} {i : Nat} {g : Gt} (h : goodI n i g = true) : OkG n gs i g := by
  unfold goodI at h
  simp only [Bool.and_eq_true, List.all_eq_true, decide_eq_true_eq] at h
  obtain ⟨⟨h1, h2⟩, h3⟩ := h
  refine ⟨h1, fun e => ?_, fun e => ?_, fun k hk => h3 k hk⟩
  · rw [if_pos e] at h2; exact h2
  · rw [if_neg e] at h2; exact of_decide_eq_true h2
theorem allGood_ok {n : Int} {gs : List Gt} : ∀ (l : List Gt) (b : Nat), allGoodI n b l = true → ∀ i g, l[i]? = some g → OkG n gs (b + i) g
  | [], _, _, i, g, h => by simp at h
  | x :: l, b, h, i, g, hi => by
    unfold allGoodI at h
    rw [Bool.and_eq_true] at h
    cases i with
    | zero => simp at hi; subst hi; exact good_ok h.1
    | succ i =>
      have := allGood_ok (gs := gs) l (b + 1) h.2 i g (by simpa using hi)
      rw [show b + (i + 1) = b + 1 + i by omega]; exact this
theorem check_ok {n : Int} {gs : List Gt} (h : checkI n gs = 0) : 0 ≤ n ∧ n ≤ 128 ∧ gs.length ≤ 4096 ∧ sizeI gs ≤ 65536 ∧ gs ≠ [] ∧ Ok n gs := by
  unfold checkI at h
  split at h
  · cases h
  · split at h
    · cases h
    · split at h
      · cases h
      · split at h
        · rename_i h1 h2 h3 h4
          refine ⟨by omega, by omega, by omega, by omega, h3, fun i g hi => ?_⟩
          have := allGood_ok (gs := gs) gs 0 h4 i g hi
          rwa [Nat.zero_add] at this
        · cases h
theorem gI_of {gs : List Gt} {i : Nat} {g : Gt} (h : gs[i]? = some g) : gI gs (i : Int) = g := by
  unfold gI
  rw [Int.toNat_natCast, List.getD_eq_getElem?_getD, h]; rfl
theorem OkG.inp {n : Int} {gs : List Gt} {i : Nat} {g : Gt} (h : OkG n gs i g) (hi : i < gs.length) {k : Int} (hk : k ∈ g.ins) : ∃ j : Nat, k = (j : Int) ∧ j < i ∧ ∃ x, gs[j]? = some x ∧ gI gs k = x := by
  obtain ⟨h1, h2⟩ := h.ins k hk
  obtain ⟨j, rfl⟩ := Int.eq_ofNat_of_zero_le h1
  have hj : j < i := by omega
  have hx : gs[j]? = some gs[j] := List.getElem?_eq_getElem (by omega)
  exact ⟨j, rfl, hj, _, hx, gI_of hx⟩
theorem many_two {n : Nat} {k : Int} (h : manyI k n = true) (hk : k = 7) : n = 2 := by
  subst hk; unfold manyI at h; simpa using h
theorem many_one {n : Nat} {k : Int} (h : manyI k n = true) (hk : k = 3) : n = 1 := by
  subst hk; unfold manyI at h; simpa using h
theorem many_none {n : Nat} {k : Int} (h : manyI k n = true) (hk : k = 0 ∨ k = 1 ∨ k = 2) : n = 0 := by
  unfold manyI at h; rw [if_pos hk] at h; simpa using h
theorem many_kind {n : Nat} {k : Int} (h : manyI k n = true) : k = 0 ∨ k = 1 ∨ k = 2 ∨ k = 3 ∨ k = 4 ∨ k = 5 ∨ k = 6 ∨ k = 7 ∨ k = 8 := by
  unfold manyI at h
  split at h
  · omega
  split at h
  · omega
  split at h
  · omega
  split at h
  · omega
  · have := of_decide_eq_true h; omega

/-! ### Steps of the recursion do not matter -/
theorem opI_in {gs : List Gt} {own : Nat} {k j : Int} (h : Pc.g j ∈ opI gs own k) : j = k := by
  unfold opI putI at h
  split at h <;> simp at h <;> exact h
theorem putI_in {k j : Int} {p : Bool} (h : Pc.g j ∈ putI k p) : j = k := by
  unfold putI at h
  split at h <;> simp at h <;> exact h
theorem moreI_in {gs : List Gt} {sep : List UInt8} {w : List (List UInt8)} {own : Nat} {j : Int} : ∀ (l : List Int), Pc.g j ∈ moreI gs sep w own l → j ∈ l
  | [], h => by cases h
  | k :: r, h => by
    unfold moreI at h
    simp only [List.mem_cons, List.mem_append] at h
    rcases h with h | h | h
    · cases h
    · rw [opI_in h]; simp
    · exact List.mem_cons_of_mem _ (moreI_in r h)
theorem betweenI_in {gs : List Gt} {sep : List UInt8} {w : List (List UInt8)} {own : Nat} {j : Int} (l : List Int) (h : Pc.g j ∈ betweenI gs sep w own l) : j ∈ l := by
  cases l with
  | nil => cases h
  | cons k r =>
    unfold betweenI at h
    rcases List.mem_append.1 h with h | h
    · rw [opI_in h]; simp
    · exact List.mem_cons_of_mem _ (moreI_in r h)
theorem headI_in {l : List Int} (h : l ≠ []) : headI l ∈ l := by
  cases l with
  | nil => exact absurd rfl h
  | cons a r => simp [headI]
theorem pcsI_in {n : Int} {gs : List Gt} {i : Nat} {g : Gt} (h : OkG n gs i g) {j : Int} (hj : Pc.g j ∈ pcsI gs g) : j ∈ g.ins := by
  unfold pcsI at hj
  split at hj
  · simp at hj
  split at hj
  · simp at hj
  split at hj
  · split at hj <;> simp at hj
  split at hj
  · rename_i h3
    have := many_one h.many h3
    simp only [List.mem_cons] at hj
    rcases hj with hj | hj
    · cases hj
    · rw [putI_in hj]; exact headI_in (fun e => by rw [e] at this; simp at this)
  split at hj
  · rename_i h7
    have h2 := many_two h.many h7
    simp only [List.mem_append, List.mem_cons] at hj
    rcases hj with hj | hj | hj
    · rw [putI_in hj]; exact headI_in (fun e => by rw [e] at h2; simp at h2)
    · cases hj
    · rw [putI_in hj]; exact List.mem_of_mem_tail (headI_in (fun e => by have := congrArg List.length e; simp at this; omega))
  split at hj
  · simp only [List.mem_append, List.mem_cons] at hj
    rcases hj with hj | hj | hj | hj
    · cases hj
    · exact betweenI_in _ hj
    · cases hj
    · cases hj
  · exact betweenI_in _ hj
theorem flatMap_cong {α β : Type} {f g : α → List β} : ∀ (l : List α), (∀ x ∈ l, f x = g x) → l.flatMap f = l.flatMap g
  | [], _ => rfl
  | a :: r, h => by
    rw [List.flatMap_cons, List.flatMap_cons, h a (by simp), flatMap_cong r (fun x hx => h x (by simp [hx]))]
theorem textI_steps {n : Int} {gs : List Gt} (hok : Ok n gs) : ∀ (i : Nat), i < gs.length → ∀ (f f' : Nat), i < f → i < f' → textI gs f i = textI gs f' i := by
  intro i
  induction i using Nat.strongRecOn with
  | _ i ih =>
    intro hi f f' h1 h2
    obtain ⟨f, rfl⟩ : ∃ g, f = g + 1 := ⟨f - 1, by omega⟩
    obtain ⟨f', rfl⟩ : ∃ g, f' = g + 1 := ⟨f' - 1, by omega⟩
    unfold textI
    refine flatMap_cong _ fun p hp => ?_
    cases p with
    | s t w => rfl
    | g k =>
      have hx : gs[i]? = some gs[i] := List.getElem?_eq_getElem hi
      rw [gI_of hx] at hp
      obtain ⟨j, rfl, hj, _⟩ := (hok i _ hx).inp hi (pcsI_in (hok i _ hx) hp)
      exact ih j hj (by omega) f f' (by omega) (by omega)
theorem toksI_steps {n : Int} {gs : List Gt} (hok : Ok n gs) : ∀ (i : Nat), i < gs.length → ∀ (f f' : Nat), i < f → i < f' → toksI gs f i = toksI gs f' i := by
  intro i
  induction i using Nat.strongRecOn with
  | _ i ih =>
    intro hi f f' h1 h2
    obtain ⟨f, rfl⟩ : ∃ g, f = g + 1 := ⟨f - 1, by omega⟩
    obtain ⟨f', rfl⟩ : ∃ g, f' = g + 1 := ⟨f' - 1, by omega⟩
    unfold toksI
    refine flatMap_cong _ fun p hp => ?_
    cases p with
    | s t w => rfl
    | g k =>
      have hx : gs[i]? = some gs[i] := List.getElem?_eq_getElem hi
      rw [gI_of hx] at hp
      obtain ⟨j, rfl, hj, _⟩ := (hok i _ hx).inp hi (pcsI_in (hok i _ hx) hp)
      exact ih j hj (by omega) f f' (by omega) (by omega)
def TX (gs : List Gt) (k : Int) : List UInt8 := textI gs (k.toNat + 1) k
def TK (gs : List Gt) (k : Int) : List (List UInt8) := toksI gs (k.toNat + 1) k
theorem TX_eq {n : Int} {gs : List Gt} (hok : Ok n gs) {i : Nat} {g : Gt} (hg : gs[i]? = some g) : TX gs i = (pcsI gs g).flatMap fun p => match p with | .s t _ => t | .g k => TX gs k := by
  have hi := (List.getElem?_eq_some_iff.1 hg).1
  unfold TX
  rw [Int.toNat_natCast, textI, gI_of hg]
  refine flatMap_cong _ fun p hp => ?_
  cases p with
  | s t w => rfl
  | g k =>
    obtain ⟨j, rfl, hj, _⟩ := (hok i _ hg).inp hi (pcsI_in (hok i _ hg) hp)
    exact textI_steps hok j (by omega) _ _ (by omega) (by simp)
theorem TK_eq {n : Int} {gs : List Gt} (hok : Ok n gs) {i : Nat} {g : Gt} (hg : gs[i]? = some g) : TK gs i = (pcsI gs g).flatMap fun p => match p with | .s _ w => w | .g k => TK gs k := by
  have hi := (List.getElem?_eq_some_iff.1 hg).1
  unfold TK
  rw [Int.toNat_natCast, toksI, gI_of hg]
  refine flatMap_cong _ fun p hp => ?_
  cases p with
  | s t w => rfl
  | g k =>
    obtain ⟨j, rfl, hj, _⟩ := (hok i _ hg).inp hi (pcsI_in (hok i _ hg) hp)
    exact toksI_steps hok j (by omega) _ _ (by omega) (by simp)
end Go.Proofs.YtmaiofimmjedjaaDoor
