/- Texts of this claim, joined: DA, DB, DC. -/
import Derived.Lib.SplitLaws
import Derived.Lib.Split
import Derived.Lib.FieldsP
import Derived.Lib.DecodeN
import Derived.Lib.SpaceUEq
import Derived.Lib.Replace
import Derived.Lib.IndexBytes

/- Lines and words (chapter 06): what the library and the reference cut a text into. Plain. -/
namespace Go.Proofs.YtajjgfiojlagmaaGreatDoor
open Go

def pcStep (c : UInt8) (st : List (List UInt8) × List UInt8) (x : UInt8) : List (List UInt8) × List UInt8 := if x = c then (st.1 ++ [st.2], []) else (st.1, st.2 ++ [x])
def pcSt (c : UInt8) (l : List UInt8) (j : Nat) : List (List UInt8) × List UInt8 := (l.take j).foldl (pcStep c) ([], [])
def pieces (c : UInt8) (l : List UInt8) : List (List UInt8) := (l.foldl (pcStep c) ([], [])).1 ++ [(l.foldl (pcStep c) ([], [])).2]
def wordsD (l : List UInt8) : List (List UInt8) := (pieces 32 l).filter fun w => decide (w ≠ [])
theorem pcSt_succ {c : UInt8} {l : List UInt8} {j : Nat} (h : j < l.length) : pcSt c l (j + 1) = pcStep c (pcSt c l j) (l[j]'h) := by
  unfold pcSt
  rw [List.take_add_one, List.getElem?_eq_getElem h, List.foldl_append]; rfl
theorem pieces_pcSt (c : UInt8) (l : List UInt8) : pieces c l = (pcSt c l l.length).1 ++ [(pcSt c l l.length).2] := by
  unfold pieces pcSt; rw [List.take_length]

def cutB (c : UInt8) : List UInt8 → List (List UInt8)
  | [] => [[]]
  | b :: l => if b = c then [] :: cutB c l else match cutB c l with | p :: ps => (b :: p) :: ps | [] => [[b]]
theorem cutB_ne (c : UInt8) : ∀ l, cutB c l ≠ []
  | [] => by simp [cutB]
  | b :: l => by
    unfold cutB
    split
    · simp
    · split <;> simp
theorem fold_cut (c : UInt8) : ∀ (l : List UInt8) (o : List (List UInt8)) (a : List UInt8), (l.foldl (pcStep c) (o, a)).1 ++ [(l.foldl (pcStep c) (o, a)).2] = o ++ (match cutB c l with | p :: ps => (a ++ p) :: ps | [] => [a])
  | [], o, a => by simp [cutB]
  | b :: l, o, a => by
    rw [List.foldl_cons]
    by_cases h : b = c
    · have e : pcStep c (o, a) b = (o ++ [a], []) := by unfold pcStep; rw [if_pos h]
      rw [e, show cutB c (b :: l) = [] :: cutB c l from if_pos h, fold_cut c l]
      cases hc : cutB c l with
      | nil => exact absurd hc (cutB_ne c l)
      | cons p ps => simp
    · have e : pcStep c (o, a) b = (o, a ++ [b]) := by unfold pcStep; rw [if_neg h]
      rw [e, show cutB c (b :: l) = (match cutB c l with | p :: ps => (b :: p) :: ps | [] => [[b]]) from if_neg h, fold_cut c l]
      cases hc : cutB c l with
      | nil => exact absurd hc (cutB_ne c l)
      | cons p ps => simp
theorem pieces_cut (c : UInt8) (l : List UInt8) : pieces c l = cutB c l := by
  unfold pieces
  rw [fold_cut]
  cases hc : cutB c l with
  | nil => exact absurd hc (cutB_ne c l)
  | cons p ps => simp
theorem splitK_cut (c : UInt8) : ∀ l : List UInt8, Lib.splitK [c] 0 (Lib.count l [c]) l = cutB c l
  | [] => by
    have : Lib.count [] [c] = 0 := Lib.count_miss (by rfl)
    rw [this]; rfl
  | b :: l => by
    have ih := splitK_cut c l
    by_cases h : b = c
    · subst h
      rw [Lib.count_cons_eq, Nat.add_comm]
      have hi : Lib.index (b :: l) [b] = 0 := by simp [Lib.index]
      unfold Lib.splitK cutB
      rw [hi, if_pos rfl]
      simp [ih]
    · rw [Lib.count_cons_ne b c l h]
      unfold cutB
      rw [if_neg h, ← ih]
      cases hk : Lib.count l [c] with
      | zero => rfl
      | succ k =>
        obtain ⟨i, hi⟩ := Lib.index_of_count (s := l) (old := [c]) (by omega)
        have hi2 : Lib.index (b :: l) [c] = ((i + 1 : Nat) : Int) := by
          have hp : List.isPrefixOf [c] (b :: l) = false := by simp [List.isPrefixOf, Ne.symm h]
          unfold Lib.index
          rw [hp, hi]
          simp <;> omega
        have hm1 : (Lib.index l [c] == -1) = false := by rw [hi]; simp <;> omega
        have hm2 : (Lib.index (b :: l) [c] == -1) = false := by rw [hi2]; simp <;> omega
        unfold Lib.splitK
        rw [hm1, hm2, hi, hi2]
        simp
theorem split_pieces (c : UInt8) (l : List UInt8) : Lib.splitK [c] 0 (Lib.count l [c]) l = pieces c l := by rw [pieces_cut, splitK_cut]

theorem fold_skip (c : UInt8) : ∀ (seg : List UInt8) (o : List (List UInt8)) (a : List UInt8), (∀ x ∈ seg, x ≠ c) → seg.foldl (pcStep c) (o, a) = (o, a ++ seg)
  | [], o, a, _ => by simp
  | x :: seg, o, a, h => by
    rw [List.foldl_cons]
    have e : pcStep c (o, a) x = (o, a ++ [x]) := by unfold pcStep; rw [if_neg (h x (by simp))]
    rw [e, fold_skip c seg o (a ++ [x]) (fun y hy => h y (by simp [hy]))]; simp
theorem pcSt_skip {c : UInt8} {l : List UInt8} {j w : Nat} (hj : j + w ≤ l.length) (h : ∀ i, i < w → ∀ x, l[j + i]? = some x → x ≠ c) : pcSt c l (j + w) = ((pcSt c l j).1, (pcSt c l j).2 ++ (l.drop j).take w) := by
  unfold pcSt
  rw [List.take_add, List.foldl_append]
  generalize (l.take j).foldl (pcStep c) ([], []) = st
  obtain ⟨o, a⟩ := st
  refine fold_skip c _ o a fun x hx => ?_
  obtain ⟨i, hi, rfl⟩ := List.mem_iff_getElem.1 hx
  rw [List.length_take] at hi
  have := h i (by omega) ((l.drop j).take w)[i] (by rw [List.getElem_take, List.getElem_drop, List.getElem?_eq_getElem])
  exact this

theorem dec_cases (s : ByteArray) (pos : Nat) (h : pos < s.size) : ((s.get! pos).toNat < 128 ∧ Utf8.decode s pos = ((s.get! pos).toNat, 1)) ∨
    ((Utf8.decode s pos).1 ≠ 32 ∧ 1 ≤ (Utf8.decode s pos).2 ∧ pos + (Utf8.decode s pos).2 ≤ s.size ∧ ∀ i, i < (Utf8.decode s pos).2 → 128 ≤ (s.get! (pos + i)).toNat) := by
  rw [Lib.decode_at]
  have hc := Lib.decodeN_conts (s.size - pos) (s.get! pos).toNat (s.get! (pos + 1)).toNat (s.get! (pos + 2)).toNat (s.get! (pos + 3)).toNat
  have hle := Lib.decodeN_le_n' (s.size - pos) (s.get! pos).toNat (s.get! (pos + 1)).toNat (s.get! (pos + 2)).toNat (s.get! (pos + 3)).toNat (by omega)
  by_cases hb : (s.get! pos).toNat < 128
  · left
    refine ⟨hb, ?_⟩
    unfold Lib.decodeN
    rw [if_pos hb]
  · right
    have hr : (Lib.decodeN (s.size - pos) (s.get! pos).toNat (s.get! (pos + 1)).toNat (s.get! (pos + 2)).toNat (s.get! (pos + 3)).toNat).1 ≠ 32 ∧ 1 ≤ (Lib.decodeN (s.size - pos) (s.get! pos).toNat (s.get! (pos + 1)).toNat (s.get! (pos + 2)).toNat (s.get! (pos + 3)).toNat).2 := by
      unfold Lib.decodeN
      repeat' split
      all_goals (simp only; omega)
    generalize Lib.decodeN (s.size - pos) (s.get! pos).toNat (s.get! (pos + 1)).toNat (s.get! (pos + 2)).toNat (s.get! (pos + 3)).toNat = d at *
    obtain ⟨c2, c3, c4, c5⟩ := hc
    refine ⟨hr.1, hr.2, by omega, fun i hi => ?_⟩
    rcases (show i = 0 ∨ i = 1 ∨ i = 2 ∨ i = 3 by omega) with rfl | rfl | rfl | rfl
    · rw [Nat.add_zero]; omega
    · have := c2 (by omega); omega
    · have := c3 (by omega); omega
    · have := c4 (by omega); omega

theorem get_data {s : ByteArray} {i : Nat} (h : i < s.size) : s.data.toList[i]? = some (s.get! i) := by
  have h' : i < s.data.size := h
  rw [List.getElem?_eq_getElem (by simpa using h')]
  simp [ByteArray.get!]
  exact (getElem!_pos s.data i h').symm

def pieceOf (l : List UInt8) (x : Nat × Nat) : List UInt8 := (l.take x.2).drop x.1
theorem take_app {l : List UInt8} {a p w : Nat} (ha : a ≤ p) (hp : p ≤ l.length) : (l.take p).drop a ++ (l.drop p).take w = (l.take (p + w)).drop a := by
  rw [List.take_add, List.drop_append_of_le_length (by rw [List.length_take]; omega)]
theorem spans_words (p : Nat → Bool) (hp : ∀ r, p r = decide (r = 32)) (s : ByteArray) : ∀ (f pos : Nat) (st : Option Nat) (acc : List (Nat × Nat)), s.size ≤ pos + f → pos ≤ s.size →
    acc.map (pieceOf s.data.toList) = (pcSt 32 s.data.toList pos).1.filter (fun w => decide (w ≠ [])) → (match st with | some a => a < pos ∧ (pcSt 32 s.data.toList pos).2 = pieceOf s.data.toList (a, pos) | none => (pcSt 32 s.data.toList pos).2 = []) →
    (Lib.closeSpans s (Lib.spansFromP p s f pos st acc)).map (pieceOf s.data.toList) = wordsD s.data.toList := by
  have hsz : s.data.toList.length = s.size := by show s.data.toList.length = s.data.size; simp
  have fin : ∀ (st : Option Nat) (acc : List (Nat × Nat)), acc.map (pieceOf s.data.toList) = (pcSt 32 s.data.toList s.size).1.filter (fun w => decide (w ≠ [])) → (match st with | some a => a < s.size ∧ (pcSt 32 s.data.toList s.size).2 = pieceOf s.data.toList (a, s.size) | none => (pcSt 32 s.data.toList s.size).2 = []) →
      (Lib.closeSpans s (acc, st)).map (pieceOf s.data.toList) = wordsD s.data.toList := fun st acc h1 h2 => by
    unfold wordsD
    rw [pieces_pcSt, hsz, List.filter_append, ← h1]
    cases st with
    | none =>
      simp only at h2
      rw [h2]; simp [Lib.closeSpans]
    | some a =>
      simp only at h2
      have hne : pieceOf s.data.toList (a, s.size) ≠ [] := fun e => by
        have := congrArg List.length e
        unfold pieceOf at this
        rw [List.length_drop, List.length_take, hsz, List.length_nil] at this
        omega
      rw [h2.2]
      simp [Lib.closeSpans, hne]
  intro f
  induction f with
  | zero =>
    intro pos st acc hf hle h1 h2
    obtain rfl : pos = s.size := by omega
    exact fin st acc h1 h2
  | succ f ih =>
    intro pos st acc hf hle h1 h2
    by_cases hlt : pos < s.size
    · rcases dec_cases s pos hlt with ⟨hb, he⟩ | ⟨hr, hw1, hw2, hall⟩
      · have hg := get_data hlt
        have hge : s.data.toList[pos]'(by omega) = s.get! pos := by
          rw [List.getElem?_eq_getElem (by omega)] at hg
          exact Option.some.inj hg
        have hst := pcSt_succ (c := 32) (l := s.data.toList) (j := pos) (by omega)
        rw [hge] at hst
        unfold Lib.spansFromP
        rw [if_pos hlt, he, hp]
        by_cases h32 : (s.get! pos).toNat = 32
        · have hx : s.get! pos = 32 := UInt8.toNat_inj.1 h32
          rw [decide_eq_true h32, if_pos rfl]
          have hst2 : pcSt 32 s.data.toList (pos + 1) = ((pcSt 32 s.data.toList pos).1 ++ [(pcSt 32 s.data.toList pos).2], []) := by rw [hst]; unfold pcStep; rw [if_pos hx]
          cases st with
          | some a =>
            simp only at h2 ⊢
            refine ih (pos + 1) none (acc ++ [(a, pos)]) (by omega) (by omega) ?_ ?_
            · have hne : pieceOf s.data.toList (a, pos) ≠ [] := fun e => by
                have := congrArg List.length e
                unfold pieceOf at this
                rw [List.length_drop, List.length_take, hsz, List.length_nil] at this
                omega
              rw [hst2, h2.2, List.map_append, h1, List.filter_append]
              simp [hne]
            · simp only; rw [hst2]
          | none =>
            simp only at h2 ⊢
            refine ih (pos + 1) none acc (by omega) (by omega) ?_ ?_
            · rw [hst2, h2, h1, List.filter_append]; simp
            · simp only; rw [hst2]
        · have hx : ¬ s.get! pos = 32 := fun e => h32 (by rw [e]; rfl)
          rw [decide_eq_false h32, if_neg (by simp)]
          have hst2 : pcSt 32 s.data.toList (pos + 1) = ((pcSt 32 s.data.toList pos).1, (pcSt 32 s.data.toList pos).2 ++ [s.get! pos]) := by rw [hst]; unfold pcStep; rw [if_neg hx]
          have htk : (s.data.toList.drop pos).take 1 = [s.get! pos] := by
            rw [List.drop_eq_getElem_cons (by omega), hge]; rfl
          cases st with
          | some a =>
            simp only at h2 ⊢
            refine ih (pos + 1) (some a) acc (by omega) (by omega) (by rw [hst2]; exact h1) ⟨by omega, ?_⟩
            rw [hst2, h2.2]
            unfold pieceOf
            rw [← htk]
            exact take_app (by omega) (by omega)
          | none =>
            simp only at h2 ⊢
            refine ih (pos + 1) (some pos) acc (by omega) (by omega) (by rw [hst2]; exact h1) ⟨by omega, ?_⟩
            rw [hst2, h2]
            unfold pieceOf
            rw [← htk]
            have := take_app (l := s.data.toList) (a := pos) (p := pos) (w := 1) (Nat.le_refl _) (by omega)
            have e9 : (s.data.toList.take pos).drop pos = [] := List.drop_eq_nil_of_le (by rw [List.length_take]; omega)
            rw [← this, e9]
      · unfold Lib.spansFromP
        rw [if_pos hlt, hp]
        generalize Utf8.decode s pos = d at *
        rw [decide_eq_false hr, if_neg (by simp)]
        have hst2 := pcSt_skip (c := 32) (l := s.data.toList) (j := pos) (w := d.2) (by omega) (fun i hi x hx => by
          rw [get_data (by omega)] at hx
          have := hall i hi
          rw [Option.some.inj hx] at this
          rintro rfl
          revert this; decide)
        cases st with
        | some a =>
          simp only at h2 ⊢
          refine ih (pos + d.2) (some a) acc (by omega) (by omega) (by rw [hst2]; exact h1) ⟨by omega, ?_⟩
          rw [hst2, h2.2]
          exact take_app (by omega) (by omega)
        | none =>
          simp only at h2 ⊢
          refine ih (pos + d.2) (some pos) acc (by omega) (by omega) (by rw [hst2]; exact h1) ⟨by omega, ?_⟩
          rw [hst2, h2]
          have := take_app (l := s.data.toList) (a := pos) (p := pos) (w := d.2) (Nat.le_refl _) (by omega)
          unfold pieceOf
          simp only
          have e9 : (s.data.toList.take pos).drop pos = [] := List.drop_eq_nil_of_le (by rw [List.length_take]; omega)
          rw [← this, e9]
    · obtain rfl : pos = s.size := by omega
      rw [Lib.spansFromP_end p s _ _ _ _ hlt]
      exact fin st acc h1 h2
theorem fields_words (p : Nat → Bool) (hp : ∀ r, p r = decide (r = 32)) (s : ByteArray) : (Lib.goFieldsP p s).map (·.data.toList) = wordsD s.data.toList := by
  unfold Lib.goFieldsP Lib.spansOfP
  rw [← spans_words p hp s s.size 0 none [] (by omega) (Nat.zero_le _) rfl rfl, List.map_map]
  congr 1
  funext x
  unfold pieceOf
  simp [List.extract_eq_take_drop, List.drop_take]
end Go.Proofs.YtajjgfiojlagmaaGreatDoor

/- What a text in the format of chapter 06 is read as. Plain. -/
namespace Go.Proofs.YtajjgfiojlagmaaGreatDoor
open Go

structure DS where
  n : Int
  L : List (List Int)
  sh : List Int
  ws : List (Int × List UInt8)
  begun : Bool
  m : Int
  cl : List Int
  op : Bool
def DS.zero : DS := ⟨0, [], [], [], false, 0, [], false⟩

def digD (c : UInt8) : Bool := decide (48 ≤ c.toNat) && decide (c.toNat ≤ 57)
def valD (l : List UInt8) : Nat := l.foldl (fun a c => a * 10 + (c.toNat - 48)) 0
def numD (w : List UInt8) : Option Nat := if w = [] ∨ 5 < w.length ∨ (w.head? = some 48 ∧ 1 < w.length) ∨ w.all digD = false then none else some (valD w)
def litD (w : List UInt8) : Int := if w.head? = some 45 then -(((numD (w.drop 1)).getD 0 : Nat) : Int) else (((numD w).getD 0 : Nat) : Int)
def validD (l n : Int) : Bool := decide (l ≠ 0) && (decide (-n ≤ l) && decide (l ≤ n))

def problemD (st : DS) (r : List (List UInt8)) : DS × Int :=
  if r.length ≠ 3 ∨ r.getD 0 [] ≠ [99, 110, 102] then (st, 5)
  else match numD (r.getD 1 []), numD (r.getD 2 []) with
    | some a, some b => if st.begun = true then (st, 4) else if 128 < a ∨ 4096 < b then (st, 6) else ({ st with begun := true, n := a, m := b }, 0)
    | _, _ => (st, 5)
def showGo : DS → List Int → DS × Int
  | st, [] => (st, 0)
  | st, v :: l => if v ∈ st.sh then (st, 4) else if st.n < v then (st, 6) else showGo { st with sh := st.sh ++ [v] } l
def numZ (w : List UInt8) : Int := (((numD w).getD 0 : Nat) : Int)
def showD (st : DS) (w : List (List UInt8)) : DS × Int := if (w.map numZ).contains 0 then (st, 5) else showGo st (w.map numZ)
def weightD (rd : List UInt8 → Bool) (st : DS) (w : List (List UInt8)) : DS × Int :=
  if w.length ≠ 2 then (st, 5)
  else if litD (w.getD 0 []) = 0 ∨ rd (w.getD 1 []) = false then (st, 5)
  else if litD (w.getD 0 []) ∈ st.ws.map (·.1) then (st, 4)
  else if validD (litD (w.getD 0 [])) st.n = false then (st, 6)
  else ({ st with ws := st.ws ++ [(litD (w.getD 0 []), w.getD 1 [])] }, 0)
def showW : List UInt8 := [115, 104, 111, 119]
def weightW : List UInt8 := [119, 101, 105, 103, 104, 116]
def commentD (rd : List UInt8 → Bool) (st : DS) (r : List (List UInt8)) : DS × Int :=
  if r.length < 2 ∨ r.getD 0 [] ≠ [112] ∨ (r.getD 1 [] ≠ showW ∧ r.getD 1 [] ≠ weightW) then (st, 0)
  else if st.begun = false ∨ r.length - 1 < 2 ∨ r.getD (r.length - 1) [] ≠ [48] then (st, 5)
  else if r.getD 1 [] = showW then showD st ((r.take (r.length - 1)).drop 2) else weightD rd st ((r.take (r.length - 1)).drop 2)
def litsGo : DS → List Int → DS × Int
  | st, [] => (st, 0)
  | st, v :: l =>
    if v = 0 then litsGo { st with L := st.L ++ [st.cl], cl := [], op := false } l
    else if validD v st.n = false then (st, 6)
    else if st.cl.length = 128 then (st, 2)
    else litsGo { st with cl := st.cl ++ [v], op := true } l
def litsD (st : DS) (w : List (List UInt8)) : DS × Int :=
  if (w.any fun x => decide (litD x = 0) && decide (x ≠ [48])) = true then (st, 5)
  else if st.begun = false then (st, 5)
  else litsGo st (w.map litD)
def lineD (rd : List UInt8 → Bool) (st : DS) (w : List (List UInt8)) : DS × Int :=
  match w with
  | [] => (st, 0)
  | w0 :: r => if w0 = [112] then problemD st r else if w0 = [99] then commentD rd st r else litsD st (w0 :: r)
def linesGo (rd : List UInt8 → Bool) : DS → Nat → List (List UInt8) → DS × Nat × Int
  | st, _, [] => (st, 0, 0)
  | st, i, x :: l => if (lineD rd st (wordsD x)).2 ≠ 0 then ((lineD rd st (wordsD x)).1, i + 1, (lineD rd st (wordsD x)).2) else linesGo rd (lineD rd st (wordsD x)).1 (i + 1) l
def parseD (rd : List UInt8 → Bool) (l : List UInt8) : DS × Nat × Int :=
  if 1048576 < l.length then (.zero, 0, 2)
  else if (linesGo rd .zero 0 (pieces 10 l)).2.2 ≠ 0 then (.zero, (linesGo rd .zero 0 (pieces 10 l)).2)
  else if (linesGo rd .zero 0 (pieces 10 l)).1.begun = false then (.zero, 0, 3)
  else if (linesGo rd .zero 0 (pieces 10 l)).1.op = true ∨ ((linesGo rd .zero 0 (pieces 10 l)).1.L.length : Int) ≠ (linesGo rd .zero 0 (pieces 10 l)).1.m then (.zero, 0, 5)
  else ((linesGo rd .zero 0 (pieces 10 l)).1, 0, 0)

theorem valD_snoc (l : List UInt8) (c : UInt8) : valD (l ++ [c]) = valD l * 10 + (c.toNat - 48) := by
  unfold valD; rw [List.foldl_append]; rfl
theorem valD_lt : ∀ (n : Nat) (l : List UInt8), l.length = n → (∀ c ∈ l, digD c = true) → valD l < 10 ^ n
  | 0, l, h, _ => by
    rw [List.length_eq_zero_iff] at h; subst h; simp [valD]
  | n + 1, l, h, hd => by
    have hne : l ≠ [] := by rintro rfl; simp at h
    obtain ⟨l', c, rfl⟩ : ∃ l' c, l = l' ++ [c] := ⟨l.dropLast, l.getLast hne, (List.dropLast_concat_getLast hne).symm⟩
    have h1 := valD_lt n l' (by simpa using h) (fun d hd' => hd d (by simp [hd']))
    have h2 := hd c (by simp)
    simp only [digD, Bool.and_eq_true, decide_eq_true_eq] at h2
    rw [valD_snoc, Nat.pow_succ]
    omega
theorem numD_lt {w : List UInt8} {n : Nat} (h : numD w = some n) : n < 100000 := by
  unfold numD at h
  split at h
  · cases h
  · rename_i hb
    simp only [not_or, Bool.not_eq_false, List.all_eq_true] at hb
    obtain ⟨_, h5, _, ha⟩ := hb
    cases h
    have h1 := valD_lt _ w rfl ha
    have h2 : (10 : Nat) ^ w.length ≤ 10 ^ 5 := Nat.pow_le_pow_right (by omega) (by omega)
    have e : (10 : Nat) ^ 5 = 100000 := by decide
    omega
theorem litD_in (w : List UInt8) : -100000 < litD w ∧ litD w < 100000 := by
  have key : ∀ x, (numD x).getD 0 < 100000 := fun x => by
    cases h : numD x with
    | none => simp
    | some n => have := numD_lt h; simpa using this
  have h1 := key w
  have h2 := key (w.drop 1)
  unfold litD
  split <;> omega
end Go.Proofs.YtajjgfiojlagmaaGreatDoor

/- How much a line adds to what is read. Plain. -/
namespace Go.Proofs.YtajjgfiojlagmaaGreatDoor
open Go

structure Sz (st st' : DS) (n : Nat) : Prop where
  sh : st'.sh.length ≤ st.sh.length + n
  ws : st'.ws.length ≤ st.ws.length + n
  L : st'.L.length ≤ st.L.length + n
  cl : st.cl.length ≤ 128 → st'.cl.length ≤ 128
theorem Sz.refl (st : DS) (n : Nat) : Sz st st n := ⟨by omega, by omega, by omega, id⟩
theorem Sz.step {a b c : DS} {n m k : Nat} (h : Sz a b n) (h2 : Sz b c m) (hk : n + m ≤ k) : Sz a c k := ⟨by have := h.sh; have := h2.sh; omega, by have := h.ws; have := h2.ws; omega, by have := h.L; have := h2.L; omega, fun x => h2.cl (h.cl x)⟩
theorem showGo_sz : ∀ (l : List Int) (st : DS), Sz st (showGo st l).1 l.length
  | [], st => Sz.refl st _
  | v :: l, st => by
    unfold showGo
    split
    · exact Sz.refl st _
    · split
      · exact Sz.refl st _
      · refine Sz.step (b := { st with sh := st.sh ++ [v] }) (n := 1) (m := l.length) ⟨by simp, by simp, by simp, id⟩ (showGo_sz l _) (by simp; omega)
theorem litsGo_sz : ∀ (l : List Int) (st : DS), Sz st (litsGo st l).1 l.length
  | [], st => Sz.refl st _
  | v :: l, st => by
    unfold litsGo
    split
    · exact Sz.step (b := { st with L := st.L ++ [st.cl], cl := [], op := false }) (n := 1) (m := l.length) ⟨by simp, by simp, by simp, fun _ => by simp⟩ (litsGo_sz l _) (by simp; omega)
    · split
      · exact Sz.refl st _
      · split
        · exact Sz.refl st _
        · rename_i h128
          exact Sz.step (b := { st with cl := st.cl ++ [v], op := true }) (n := 1) (m := l.length) ⟨by simp, by simp, by simp, fun h => by simp; omega⟩ (litsGo_sz l _) (by simp; omega)
theorem Sz.more {a b : DS} {n m : Nat} (h : Sz a b n) (hm : n ≤ m) : Sz a b m := Sz.step h (Sz.refl b 0) (by omega)
theorem lineD_sz (rd : List UInt8 → Bool) (st : DS) (w : List (List UInt8)) : Sz st (lineD rd st w).1 w.length := by
  unfold lineD
  cases w with
  | nil => exact Sz.refl st _
  | cons w0 r =>
    simp only
    split
    · unfold problemD
      split
      · exact Sz.refl st _
      · split
        · split
          · exact Sz.refl st _
          · split
            · exact Sz.refl st _
            · exact ⟨by simp, by simp, by simp, id⟩
        · exact Sz.refl st _
    · split
      · unfold commentD
        split
        · exact Sz.refl st _
        · split
          · exact Sz.refl st _
          · split
            · unfold showD
              split
              · exact Sz.refl st _
              · exact (showGo_sz _ st).more (by simp; omega)
            · unfold weightD
              split
              · exact Sz.refl st _
              · split
                · exact Sz.refl st _
                · split
                  · exact Sz.refl st _
                  · split
                    · exact Sz.refl st _
                    · exact ⟨by simp, by simp, by simp, id⟩
      · unfold litsD
        split
        · exact Sz.refl st _
        · split
          · exact Sz.refl st _
          · exact (litsGo_sz _ st).more (by simp)
def sumLen (l : List (List UInt8)) : Nat := (l.map List.length).sum
theorem sumLen_cons (x : List UInt8) (l : List (List UInt8)) : sumLen (x :: l) = x.length + sumLen l := by simp [sumLen]
theorem cut_len (c : UInt8) : ∀ l : List UInt8, sumLen (cutB c l) ≤ l.length ∧ (cutB c l).length ≤ l.length + 1
  | [] => by simp [cutB, sumLen]
  | b :: l => by
    have ih := cut_len c l
    unfold cutB
    split
    · rw [sumLen_cons]; simp; omega
    · split
      · rename_i p ps hp
        rw [hp] at ih
        rw [sumLen_cons] at ih ⊢
        simp only [List.length_cons] at ih ⊢
        omega
      · simp [sumLen]
theorem pieces_len (c : UInt8) (l : List UInt8) : sumLen (pieces c l) ≤ l.length ∧ (pieces c l).length ≤ l.length + 1 := by rw [pieces_cut]; exact cut_len c l
theorem filter_len : ∀ l : List (List UInt8), (l.filter fun w => decide (w ≠ [])).length ≤ sumLen l
  | [] => by simp [sumLen]
  | x :: l => by
    have ih := filter_len l
    rw [List.filter_cons, sumLen_cons]
    split
    · rename_i h
      have : x ≠ [] := by simpa using h
      have := List.length_pos_iff.2 this
      rw [List.length_cons]; omega
    · omega
theorem words_len (l : List UInt8) : (wordsD l).length ≤ l.length := by
  unfold wordsD
  exact Nat.le_trans (filter_len _) (pieces_len 32 l).1
theorem mem_len {x : List UInt8} : ∀ {l : List (List UInt8)}, x ∈ l → x.length ≤ sumLen l
  | y :: l, h => by
    rw [sumLen_cons]
    rcases List.mem_cons.1 h with h | h
    · subst h; omega
    · have := mem_len h; omega
theorem words_mem {l x : List UInt8} (h : x ∈ wordsD l) : x.length ≤ l.length := by
  unfold wordsD at h
  exact Nat.le_trans (mem_len (List.mem_filter.1 h).1) (pieces_len 32 l).1
theorem sumLen_drop {l : List (List UInt8)} {k : Nat} (h : k < l.length) : sumLen (l.drop k) = (l.getD k []).length + sumLen (l.drop (k + 1)) := by
  rw [List.drop_eq_getElem_cons h, sumLen_cons]
  simp [List.getD, h]
end Go.Proofs.YtajjgfiojlagmaaGreatDoor
