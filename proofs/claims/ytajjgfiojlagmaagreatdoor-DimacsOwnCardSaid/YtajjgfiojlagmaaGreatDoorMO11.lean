/- Texts of this claim, joined: LGive, RefA. -/
import Derived.Test.YtajjgfiojlagmaaGreatDoorMO09
import Derived.Test.YtajjgfiojlagmaaGreatDoorMO10
import Derived.Test.YtajjgfiojlagmaaGreatDoorMO05
import Derived.Test.YtajjgfiojlagmaaGreatDoorMO02
import Derived.Test.YtajjgfiojlagmaaGreatDoorMO03

/- The contracts in one spelling. -/
namespace Go.Proofs.YtajjgfiojlagmaaGreatDoor
open Go.RowKit Num

def Gives (f : FuncId) (args : Array Value) (v : Value) : Prop := ∀ w : World, Calls Tryz.prog f args w fun e w' => e = .returned v ∧ Below w.heap.size w w'

theorem Gives.at {f : FuncId} {args : Array Value} {v : Value} (h : Gives f args v) (w : World) (p : Extra) : Calls Tryz.prog f args (plus w p) fun e w'' => e = .returned v ∧ ∃ q, w'' = plus w q := calls_plus (h _)

def GivesFrom (w : World) (f : FuncId) (args : Array Value) (v : Value) : Prop := ∀ w' : World, Below w.heap.size w w' → Calls Tryz.prog f args w' fun e w2 => e = .returned v ∧ Below w'.heap.size w' w2

theorem GivesFrom.at {w : World} {f : FuncId} {args : Array Value} {v : Value} (h : GivesFrom w f args v) (p : Extra) : Calls Tryz.prog f args (plus w p) fun e w'' => e = .returned v ∧ ∃ q, w'' = plus w q := calls_plus (h _ (below_plus w p))

theorem GivesFrom.at2 {w x : World} {f : FuncId} {args : Array Value} {v : Value} (h : GivesFrom w f args v) (hb : Below w.heap.size w x) (p : Extra) : Calls Tryz.prog f args (plus x p) fun e w'' => e = .returned v ∧ ∃ q, w'' = plus x q :=
  calls_plus (h _ (hb.trans ((below_plus x p).mono hb.size)))

theorem gOf (n : Nat) (h : n < 18446744073709551616) : Gives 51 #[.int .u64 (n : Nat)] (natV n) := of_any n h
theorem gDiv (a b : Nat) (ha : nl a ≤ 536870912) (hb : nl b ≤ 536870912) (h0 : b ≠ 0) : Gives 76 #[natV a, natV b] (.tuple #[natV (a / b), natV (a % b), .bool true]) := div_pos a b ha hb h0
theorem gGcd (a b : Nat) (ha : nl a ≤ 536870912) (hb : nl b ≤ 536870912) : Gives 75 #[natV a, natV b] (natV (Nat.gcd a b)) := gcd_any a b ha hb
theorem gCmp (a b : Nat) (ha : nl a ≤ 1099511627776) (hb : nl b ≤ 1099511627776) : Gives 77 #[natV a, natV b] (.int .i64 (cmpI a b)) := cmp_any a b ha hb
theorem gText (a : Nat) (ha : nl a ≤ 1073741824) : Gives 79 #[natV a] (.string (dec a)) := text_any a ha
theorem gRead (s : ByteArray) (h : s.size ≤ 1099511627776) : Gives 50 #[.string s] (.tuple #[natV ((readN (bts s)).getD 0), .bool (readN (bts s)).isSome]) := read_any s h

end Go.Proofs.YtajjgfiojlagmaaGreatDoor

/- The reference of chapter 01: digit, Cmp, form, Of, Add, Sub. -/
namespace Go.Proofs.YtajjgfiojlagmaaGreatDoor
open Go.RowKit Num

def dgt (a i : Nat) : Nat := a / 10 ^ i % 10

theorem dgt_lt (a i : Nat) : dgt a i < 10 := Nat.mod_lt _ (by omega)

theorem digitsOf_getD (a : Nat) : ∀ i, (digitsOf 10 a).getD i 0 = dgt a i := by
  induction a using Nat.strongRecOn with
  | _ a ih =>
    intro i
    rcases Nat.eq_zero_or_pos a with h | h
    · subst h; simp [digitsOf_zero, dgt]
    · rw [digitsOf_pos (by omega) h]
      cases i with
      | zero => simp [dgt]
      | succ i =>
        rw [List.getD_cons_succ, ih (a / 10) (by omega) i]
        unfold dgt
        rw [Nat.pow_succ, Nat.mul_comm, ← Nat.div_div_eq_div_mul]

theorem mod_succ (a i : Nat) : a % 10 ^ (i + 1) = a % 10 ^ i + 10 ^ i * dgt a i := by
  unfold dgt; rw [Nat.pow_succ, Nat.mod_mul]

theorem decL_len (a : Nat) : (decL a).length = if a = 0 then 1 else (digitsOf 10 a).length := by
  unfold decL; split
  · rfl
  · simp

theorem decL_at (a i : Nat) (h : i < (decL a).length) : (decL a).getD ((decL a).length - 1 - i) 0 = 48 + dgt a i := by
  rw [decL_len] at h
  by_cases h0 : a = 0
  · subst h0
    simp only [if_true] at h
    have : i = 0 := by omega
    subst this; rfl
  · rw [if_neg h0] at h
    have hl := decL_len a
    rw [if_neg h0] at hl
    rw [← digitsOf_getD a i]
    unfold decL at *
    rw [if_neg h0] at *
    rw [List.getD_eq_getElem?_getD, List.getElem?_eq_getElem (by omega), List.getElem_reverse, List.getD_eq_getElem?_getD, List.getElem?_eq_getElem h]
    simp only [Option.getD_some, List.getElem_map]
    rw [Nat.add_comm]
    congr 2
    simp only [List.length_reverse, List.length_map] at *
    omega

theorem dgt_beyond (a i : Nat) (h : (decL a).length ≤ i) : dgt a i = 0 := by
  have h1 := decL_high a
  have h2 : 10 ^ (decL a).length ≤ 10 ^ i := Nat.pow_le_pow_right (by omega) h
  unfold dgt
  rw [Nat.div_eq_of_lt (by omega)]

theorem mod_beyond (a i : Nat) (h : (decL a).length ≤ i) : a % 10 ^ i = a := by
  have h1 := decL_high a
  have h2 : 10 ^ (decL a).length ≤ 10 ^ i := Nat.pow_le_pow_right (by omega) h
  exact Nat.mod_eq_of_lt (by omega)

theorem form_digits {l : List Nat} (hl : AllLt 10 l) {n : Nat} (hn : n ≤ l.length) (h0 : 0 < n ∨ l = []) (hz : ∀ i, n ≤ i → l.getD i 0 = 0) (hlast : n ≤ 1 ∨ l.getD (n - 1) 0 ≠ 0) :
    (if n = 0 then [48] else ((l.take n).map (· + 48)).reverse) = decL (digs 10 l) := by
  rcases Nat.eq_zero_or_pos n with h | h
  · subst h
    have : l = [] := by rcases h0 with h | h; omega; exact h
    subst this; rfl
  · rw [if_neg (by omega)]
    by_cases h1 : n = 1 ∧ l.getD 0 0 = 0
    · obtain ⟨rfl, h2⟩ := h1
      have hall : digs 10 l = 0 := by
        have : digitsOf 10 (digs 10 l) = l.take 0 := (digitsOf_take (by omega) hl (fun i _ => by
          rcases Nat.eq_zero_or_pos i with h | h
          · subst h; exact h2
          · exact hz i h) (.inl rfl)).symm
        simp only [List.take_zero] at this
        exact (digitsOf_eq_nil (by omega)).1 this
      rw [hall]
      cases l with
      | nil => simp at hn
      | cons d l => simp at h2; subst h2; rfl
    · have h2 : n = 0 ∨ l.getD (n - 1) 0 ≠ 0 := by
        right
        rcases hlast with h3 | h3
        · intro h4
          have : n = 1 := by omega
          subst this
          exact h1 ⟨rfl, h4⟩
        · exact h3
      have h3 := digitsOf_take (by omega) hl hz h2
      have hne : digs 10 l ≠ 0 := by
        intro h4
        rw [h4, digitsOf_zero] at h3
        have := congrArg List.length h3
        rw [List.length_take, List.length_nil] at this
        omega
      unfold decL
      rw [if_neg hne, ← h3]

/-! ### Sums -/

theorem add_step (a b i c s : Nat) (h : s + 10 ^ i * c = a % 10 ^ i + b % 10 ^ i) :
    s + 10 ^ i * ((dgt a i + dgt b i + c) % 10) + 10 ^ (i + 1) * ((dgt a i + dgt b i + c) / 10) = a % 10 ^ (i + 1) + b % 10 ^ (i + 1) := by
  rw [mod_succ, mod_succ]
  have e := Nat.mod_add_div (dgt a i + dgt b i + c) 10
  generalize (dgt a i + dgt b i + c) % 10 = x at *
  generalize (dgt a i + dgt b i + c) / 10 = y at *
  rw [Nat.pow_succ]
  generalize 10 ^ i = t at *
  have : s + t * x + t * 10 * y = s + t * (x + 10 * y) := by grind
  rw [this, e]
  grind

/-! ### Differences -/

theorem sub_step (a b i c s : Nat) (h : s + b % 10 ^ i = a % 10 ^ i + 10 ^ i * c) (hc : c ≤ 1) :
    (dgt b i + c ≤ dgt a i → s + 10 ^ i * (dgt a i - dgt b i - c) + b % 10 ^ (i + 1) = a % 10 ^ (i + 1)) ∧
    (dgt a i < dgt b i + c → s + 10 ^ i * (dgt a i + 10 - dgt b i - c) + b % 10 ^ (i + 1) = a % 10 ^ (i + 1) + 10 ^ (i + 1) * 1) := by
  rw [mod_succ, mod_succ]
  have ha := dgt_lt a i
  have hb := dgt_lt b i
  generalize dgt a i = x at *
  generalize dgt b i = y at *
  rw [Nat.pow_succ]
  generalize 10 ^ i = t at *
  constructor
  · intro h1
    obtain ⟨z, hz⟩ := Nat.exists_eq_add_of_le h1
    have : x - y - c = z := by omega
    rw [this, hz]
    grind
  · intro h1
    obtain ⟨z, hz⟩ := Nat.exists_eq_add_of_le (show y + c ≤ x + 10 by omega)
    have : x + 10 - y - c = z := by omega
    rw [this]
    have e : t * (x + 10) = t * (y + c + z) := by rw [hz]
    grind

theorem dec_at (a i : Nat) (h : i < (dec a).size) : ((dec a)[(dec a).size - 1 - i]'(by omega)).toNat = 48 + dgt a i := by
  rw [← bts_getD (dec a) _ (by omega), bts_dec]
  have hs := dec_size a
  rw [hs] at h ⊢
  exact decL_at a i h

set_option maxHeartbeats 400000 in
set_option maxRecDepth 100000 in
theorem xdigit_any (a i : Nat) (hs : (dec a).size ≤ 1099511627776) (hi : i ≤ 1099511627776) (w : World) :
    Calls Tryz.prog 107 #[.string (dec a), .int .i64 (i : Nat)] w fun e w' => e = .returned (.int .i64 (dgt a i : Nat)) ∧ w = w' := by
  by_cases h : (dec a).size ≤ i
  · have h0 := dgt_beyond a i (by rw [← dec_size]; exact h)
    rw [h0]
    generalize dec a = s at *
    clear h0
    go_enter Tryz.func107, Tryz.ntmps107
    go_wp2
    go_ret
    exact ⟨rfl, rfl⟩
  · have hb := dec_at a i (by omega)
    have hd := dgt_lt a i
    obtain ⟨j, hj⟩ : ∃ j, j = (dec a).size - 1 - i := ⟨_, rfl⟩
    have hjs : j < (dec a).size := by omega
    have he : ((dec a).size : Int) - 1 - (i : Int) = (j : Int) := by omega
    have hb2 : ((dec a)[j]'hjs).toNat = 48 + dgt a i := by
      subst hj; exact hb
    clear hb hj
    generalize dec a = s at *
    generalize dgt a i = d at *
    have HB := Lib.hid hb2
    have h1 : 48 ≤ (s[j]'hjs).toNat := by omega
    have h2 : (s[j]'hjs).toNat ≤ 57 := by omega
    clear hb2
    go_enter Tryz.func107, Tryz.ntmps107
    go_wp2
    go_ret
    refine ⟨ret_int ?_, rfl⟩
    have := HB.out
    omega

/-! ### Cmp -/

set_option maxHeartbeats 400000 in
set_option maxRecDepth 100000 in
theorem xcmp_lt1 (s t : ByteArray) (h : s.size < t.size) (w : World) :
    Calls Tryz.prog 108 #[.string s, .string t] w fun e w' => e = .returned (.int .i64 (-1)) ∧ w = w' := by
  go_enter Tryz.func108, Tryz.ntmps108
  go_wp2
  go_ret
  exact ⟨rfl, rfl⟩

set_option maxHeartbeats 400000 in
set_option maxRecDepth 100000 in
theorem xcmp_lt2 (s t : ByteArray) (h : s.size = t.size) (hb : Op.bytesLess s.toList t.toList = true) (w : World) :
    Calls Tryz.prog 108 #[.string s, .string t] w fun e w' => e = .returned (.int .i64 (-1)) ∧ w = w' := by
  have h2 : ((s.size : Int) == (t.size : Int)) = true := by simp [h]
  have h3 : ¬ s.size < t.size := by omega
  clear h
  go_enter Tryz.func108, Tryz.ntmps108
  go_wp2
  go_ret
  exact ⟨rfl, rfl⟩

set_option maxHeartbeats 400000 in
set_option maxRecDepth 100000 in
theorem xcmp_eq (s : ByteArray) (hb : Op.bytesLess s.toList s.toList = false) (w : World) :
    Calls Tryz.prog 108 #[.string s, .string s] w fun e w' => e = .returned (.int .i64 0) ∧ w = w' := by
  go_enter Tryz.func108, Tryz.ntmps108
  go_wp2
  go_ret
  exact ⟨rfl, rfl⟩

set_option maxHeartbeats 400000 in
set_option maxRecDepth 100000 in
theorem xcmp_gt1 (s t : ByteArray) (h : t.size < s.size) (hne : (s.toList == t.toList) = false) (w : World) :
    Calls Tryz.prog 108 #[.string s, .string t] w fun e w' => e = .returned (.int .i64 1) ∧ w = w' := by
  have h2 : ((s.size : Int) == (t.size : Int)) = false := by simp; omega
  have h3 : ¬ s.size < t.size := by omega
  go_enter Tryz.func108, Tryz.ntmps108
  go_wp2
  go_ret
  exact ⟨rfl, rfl⟩

set_option maxHeartbeats 400000 in
set_option maxRecDepth 100000 in
theorem xcmp_gt2 (s t : ByteArray) (h : s.size = t.size) (hne : (s.toList == t.toList) = false) (hb : Op.bytesLess s.toList t.toList = false) (w : World) :
    Calls Tryz.prog 108 #[.string s, .string t] w fun e w' => e = .returned (.int .i64 1) ∧ w = w' := by
  have h2 : ((s.size : Int) == (t.size : Int)) = true := by simp [h]
  have h3 : ¬ s.size < t.size := by omega
  clear h
  go_enter Tryz.func108, Tryz.ntmps108
  go_wp2
  go_ret
  exact ⟨rfl, rfl⟩

theorem toListB_ne {a b : ByteArray} (h : a ≠ b) : (a.toList == b.toList) = false := by
  rw [beq_eq_false_iff_ne]
  intro e
  rw [ByteArray.toList_eq, ByteArray.toList_eq] at e
  apply h
  cases a; cases b
  simpa using Array.toList_inj.1 e

theorem xcmp_any (a b : Nat) (w : World) :
    Calls Tryz.prog 108 #[.string (dec a), .string (dec b)] w fun e w' => e = .returned (.int .i64 (cmpI a b)) ∧ w = w' := by
  have hs := dec_size a
  have ht := dec_size b
  rcases Nat.lt_trichotomy a b with h | h | h
  · rw [cmpI_lt h]
    rcases Nat.lt_trichotomy (decL a).length (decL b).length with h3 | h3 | h3
    · exact xcmp_lt1 _ _ (by omega) w
    · exact xcmp_lt2 _ _ (by omega) (by rw [dec_less a b h3]; simpa using h) w
    · have := dec_len_lt _ _ h3; omega
  · subst h
    rw [cmpI_eq]
    exact xcmp_eq _ (by rw [dec_less a a rfl]; simp) w
  · rw [cmpI_gt h]
    have hne := toListB_ne (a := dec a) (b := dec b) (fun e => by have := dec_inj e; omega)
    rcases Nat.lt_trichotomy (decL a).length (decL b).length with h3 | h3 | h3
    · have := dec_len_lt _ _ h3; omega
    · exact xcmp_gt2 _ _ (by omega) hne (by rw [dec_less a b h3]; simp; omega) w
    · exact xcmp_gt1 _ _ (by omega) hne w

theorem Tryz.infoInt : (Tryz.prog.info? 3).map (fun i => (i.zero, i.size, i.bytes)) = some (some (.int .i64 0), 1, 8) := by kernel_rfl

def iis (l : List Nat) : List Value := l.map fun d => .int .i64 (d : Nat)
theorem iis_get (l : List Nat) (i d : Nat) (h : l[i]? = some d) : (iis l)[i]? = some (.int .i64 (d : Nat)) := by simp [iis, h]
theorem iis_set (l : List Nat) (i d : Nat) : (iis l).set i (.int .i64 (d : Nat)) = iis (l.set i d) := by simp [iis, List.map_set]
theorem iis_zeros (n : Nat) : (madeCells #[Value.int .i64 0] n).toList = iis (List.replicate n 0) := by
  rw [made_one]; simp [iis, List.map_replicate]
theorem iis_getD {l : List Nat} {i : Nat} (h : i < l.length) : (iis l)[i]? = some (.int .i64 (l.getD i 0 : Nat)) :=
  iis_get _ _ _ (by rw [List.getD_eq_getElem?_getD, List.getElem?_eq_getElem h]; rfl)

def CellsI (w : World) (a : Option Addr) (xs : List Nat) : Prop :=
  ∀ i d, xs[i]? = some d → ∃ b o, a = some ⟨b, o, none⟩ ∧ w.cell? ⟨b, o + i, none⟩ = some (.int .i64 (d : Nat))

theorem CellsI.ofRow {w : World} {g : Nat} {E : TypeId} {xs : List Nat} (h : Row w g E (iis xs)) : CellsI w (some ⟨g, 0, none⟩) xs :=
  fun i d hd => ⟨g, 0, rfl, by rw [Nat.zero_add]; exact h.cell (iis_get _ _ _ hd)⟩

def SlI (base E : Nat) (ys : List Nat) (v : Value) (w : World) : Prop :=
  ∃ a cap, v = .slice a ys.length cap ∧ w.ownsRow base E 1 (.slice a ys.length cap) ys.length (iis ys)

theorem SlI.of {base E : Nat} {ys : List Nat} {v : Value} {w : World} (h : w.ownsRow base E 1 v ys.length (iis ys)) : SlI base E ys v w := by
  rcases h.2 with ⟨rfl, h2⟩ | ⟨g, c, cur, rfl, _⟩
  · exact ⟨none, 0, by rw [h2], by rw [h2] at h ⊢; exact h⟩
  · exact ⟨_, _, rfl, h⟩

theorem CellsI.ofOwns {w : World} {base E n cap : Nat} {a : Option Addr} {xs : List Nat} (h : w.ownsRow base E 1 (.slice a n cap) n (iis xs)) : CellsI w a xs := by
  intro i d hd
  have hl : xs.length = n := by have := h.1; simpa [iis] using this
  have hi : i < n := by rw [← hl]; exact (List.getElem?_eq_some_iff.1 hd).1
  obtain ⟨g, rfl, _, _⟩ := owns_some h (by omega)
  exact ⟨g, 0, rfl, by rw [Nat.zero_add, h.cellAt i (by omega)]; exact iis_get _ _ _ hd⟩

theorem run_string_of_own {P : Program} {w : World} {base E n cap : Nat} {a : Option Addr} {xs : List Nat} (h : w.ownsRow base E 1 (.slice a n cap) n (u8s xs)) (hn : 0 < n) (src e dst : Nat)
    (hs : P.underlying src = some (.slice e)) (he : P.underlying e = some (.int .u8)) (hd : P.underlying dst = some .string) :
    (convert src dst (.slice a n cap)).run P w = .ok (.string (mkStr xs)) w := by
  have hl : xs.length = n := by have := h.1; simpa [u8s] using this
  obtain ⟨g, rfl, _, _⟩ := owns_some h hn
  have h2 := run_convert_bytes_arg (P := P) w src e hs he g 0 n cap (xs.map Int.ofNat) (by simp; omega) (fun i hi => by
    have he : (xs.map Int.ofNat).getD i 0 = ((xs[i]'(by omega) : Nat) : Int) := by
      simp [List.getD_eq_getElem?_getD, show i < xs.length by omega]
    rw [he, Nat.zero_add, h.cellAt i (by omega)]
    exact u8s_get xs i _ (List.getElem?_eq_getElem (by omega))) dst hd
  rw [h2]
  congr 2
  simp [strOfNums, mkStr, Function.comp_def]

def laidF (l : List Nat) (n k : Nat) : List Nat := (((l.take n).drop k).map (· + 48)).reverse

theorem laidF_step (l : List Nat) (n k : Nat) (hk : k < n) (hn : n ≤ l.length) : laidF l n (k + 1) ++ [l.getD k 0 + 48] = laidF l n k := by
  unfold laidF
  have hlen : k < (l.take n).length := by rw [List.length_take]; omega
  rw [List.drop_eq_getElem_cons hlen, List.map_cons, List.reverse_cons]
  congr 2
  rw [List.getElem_take, List.getD_eq_getElem?_getD, List.getElem?_eq_getElem (by omega)]; rfl

theorem laidF_length (l : List Nat) (n k : Nat) (hn : n ≤ l.length) : (laidF l n k).length = n - k := by
  simp [laidF]; omega

set_option maxHeartbeats 1600000 in
set_option maxRecDepth 100000 in
theorem form_any (a : Option Addr) (xs : List Nat) (n c : Nat) (hn : xs.length = n) (hx : AllLt 10 xs) (hs : n ≤ 1099511627776) (w : World) (hcell : CellsI w a xs) :
    Calls Tryz.prog 110 #[.slice a n c] w fun e w' => e = .returned (.string (dec (digs 10 xs))) ∧ Below w.heap.size w w' := by
  have HC := Lib.hid hcell
  have HN := Lib.hid hn
  have HX := Lib.hid hx
  have HF := Lib.hid (fun (m : Nat) => form_digits (l := xs) hx (n := m))
  clear hcell hn hx
  obtain ⟨i0, hi, hz0, hz1, hz2⟩ := info_parts Tryz.infoU8
  go_enter Tryz.func110, Tryz.ntmps110
  go_wp2_with fail
  go_loop [3] (fun v => ∃ m : Nat, m ≤ n ∧ v = .int .i64 (m : Nat) ∧ (0 < m ∨ n = 0) ∧ Hid (∀ i, m ≤ i → xs.getD i 0 = 0)) (fun v => (intOf v).toNat)
  case atStart => exact ⟨n, Nat.le_refl _, rfl, by omega, fun i hi => by rw [List.getD_eq_getElem?_getD, List.getElem?_eq_none (by rw [HN.out]; exact hi)]; rfl⟩
  case round =>
    obtain ⟨m, hm, rfl, hm0, HZ⟩ := hrel
    by_cases hgo : 1 < m ∧ xs.getD (m - 1) 0 = 0
    · obtain ⟨h1, hz⟩ := hgo
      obtain ⟨b, o, rfl, hc⟩ := HC.out (m - 1) _ (show xs[m - 1]? = some (xs.getD (m - 1) 0) by rw [List.getD_eq_getElem?_getD, List.getElem?_eq_getElem (by rw [HN.out]; omega)]; rfl)
      rw [hz] at hc
      have HZ2 : Hid (∀ i, m - 1 ≤ i → xs.getD i 0 = 0) := fun i hi => by
        by_cases h : i = m - 1
        · rw [h]; exact hz
        · exact HZ.out i (by omega)
      clear hz
      go_wp2_with fail
      go_round
      case rel => exact ⟨m - 1, by omega, by go_num, by omega, HZ2⟩
      case measure => simp [intOf]; omega
    · have hlast : m ≤ 1 ∨ xs.getD (m - 1) 0 ≠ 0 := by
        rcases Nat.lt_or_ge 1 m with h | h
        · exact .inr fun h2 => hgo ⟨h, h2⟩
        · exact .inl h
      have hFin := HF.out m (by rw [HN.out]; exact hm) (hm0.elim .inl fun h => .inr (List.eq_nil_of_length_eq_zero (HN.out.trans h))) HZ.out hlast
      have HFin := Lib.hid hFin
      have HC1 : 1 < m → ∃ b o, ∃ d : Nat, a = some ⟨b, o, none⟩ ∧ w.cell? ⟨b, o + (m - 1), none⟩ = some (.int .i64 (d : Nat)) ∧ ((d : Int) == 0) = false := fun h => by
        obtain ⟨b, o, e1, e2⟩ := HC.out (m - 1) _ (show xs[m - 1]? = some (xs.getD (m - 1) 0) by rw [List.getD_eq_getElem?_getD, List.getElem?_eq_getElem (by rw [HN.out]; omega)]; rfl)
        exact ⟨b, o, xs.getD (m - 1) 0, e1, e2, beq_no (by rcases hlast with h3 | h3 <;> omega)⟩
      clear hgo hFin HF HZ hlast
      by_cases h1 : 1 < m
      · obtain ⟨b, o, d0, rfl, hc1, hz1b⟩ := HC1 h1
        clear HC1
        go_wp2_with (at_make; refine wpList_make_own _ rfl _ _ 50 rfl w.heap.size 5 i0 (.int .u8 0) 1 Tryz.underlying50 hi hz0 hz1 .i64 .i64 _ m rfl rfl (by omega) (by rw [hz2]; omega) (by unfold maxLen; omega) (Nat.le_refl _) ?_)
        intro w1 hown hgr
        have hB : Below w.heap.size w w1 := grown_below hgr (Nat.le_refl _) (by simp)
        have HB := Lib.hid hB
        have HO := Lib.hid hown
        have hsz1 := hB.size
        clear hown hgr hB hc1 hz1b
        go_wp2_with fail
        go_loopw [4, 5] (fun v i wr => ∃ k : Nat, k ≤ m ∧ i = .int .i64 ((k : Int) - 1) ∧ SlB w.heap.size 5 (laidF xs m k) v wr ∧ Below w.heap.size w wr)
          (fun _ i _ => (intOf i + 1).toNat)
        case atStart => exact ⟨m, Nat.le_refl _, rfl, by
          have e : laidF xs m m = [] := by simp [laidF]
          rw [e]; exact ⟨_, _, rfl, HO.out⟩, HB.out⟩
        case round =>
          obtain ⟨k, hk, rfl, ⟨ao, cap, rfl, hown⟩, hB⟩ := hrel
          rw [laidF_length _ _ _ (by rw [HN.out]; omega)] at hown ⊢
          clear HB HO
          have HB := Lib.hid hB
          have HO := Lib.hid hown
          have hsz2 := hB.size
          clear hB hown
          rcases Nat.eq_zero_or_pos k with rfl | hp
          · have HO' := HO.out
            rw [Nat.sub_zero] at HO' ⊢
            by_cases hm1 : 0 < m
            · have hcv := run_string_of_own (P := Tryz.prog) HO' hm1 50 5 9 Tryz.underlying50 Tryz.underlying5 Tryz.underlying9
              have hne : (((m : Nat) : Int) == 0) = false := by simp; omega
              have HE : Hid (mkStr (laidF xs m 0) = dec (digs 10 xs)) := by
                have := HFin.out
                rw [if_neg (by omega)] at this
                unfold Hid dec laidF
                rw [List.drop_zero, this]
              rw [HE.out] at hcv
              clear HO'
              go_wp2_with fail
              go_ret
              exact ⟨rfl, HB.out⟩
            · have hm2 : m = 0 := by omega
              subst hm2
              have HE : Hid ((ByteArray.mk #[48] : ByteArray) = dec (digs 10 xs)) := by
                have := HFin.out
                simp only [if_true] at this
                unfold Hid dec
                rw [← this]; rfl
              clear HO'
              go_wp2_with fail
              go_ret
              refine ⟨?_, HB.out⟩
              rw [← HE.out]
              rfl
          · obtain ⟨j, rfl⟩ : ∃ j, k = j + 1 := ⟨k - 1, by omega⟩
            rw [show ((j + 1 : Nat) : Int) - 1 = (j : Nat) by omega]
            clear hp
            have hd10 := HX.out.getD (by omega) j
            have hjx : xs[j]? = some (xs.getD j 0) := by rw [List.getD_eq_getElem?_getD, List.getElem?_eq_getElem (by rw [HN.out]; omega)]; rfl
            obtain ⟨b', o', ha', hcj⟩ := HC.out j _ hjx
            simp only [Option.some.injEq, Addr.mk.injEq, and_true] at ha'
            obtain ⟨rfl, rfl⟩ := ha'
            have hcj := below_cell HB.out (block_lt_of_cell hcj) hcj
            have HST := Lib.hid (laidF_step xs m j (by omega) (by rw [HN.out]; omega))
            have HLN := Lib.hid (laidF_length xs m (j + 1) (by rw [HN.out]; omega))
            clear hjx
            generalize xs.getD j 0 = d at *
            go_wp2_with (at_builtin; refine wpList_append_own _ rfl _ _ 50 rfl w.heap.size 5 i0 (.int .u8 0) 1 1 Tryz.underlying50 hi hz0 hz1 hz2 rfl (by decide) _ _ _ rfl (HO.out.alloc _) ⟨wr.heap.size, 0, none⟩ 1 1 [.int .u8 (48 + (d : Int))] rfl rfl (cell_one_new _ _ _) (by intro u hu; simp at hu; subst hu; rfl) (by unfold maxLen; omega) (by omega) (by simp; omega) ?_)
            intro v' w3 hown3 hgrow _
            have hB4 : Below w.heap.size w w3 := (HB.out.alloc (by omega) _).grown hgrow (by simp; omega) (fun i hi => by have := (HO.out.lt i hi).1; omega)
            have HB4 := Lib.hid hB4
            have hS3 : SlB w.heap.size 5 (laidF xs m j) v' w3 := by
              apply SlB.of
              rw [← HST.out]
              have e : u8s (laidF xs m (j + 1) ++ [d + 48]) = u8s (laidF xs m (j + 1)) ++ [Value.int IntKind.u8 (48 + (d : Int))] := by
                simp [u8s]; omega
              rw [e, List.length_append, HLN.out]
              simpa using hown3
            have HS3 := Lib.hid hS3
            clear hown3 hgrow hB4 hS3
            go_wp2_with fail
            go_roundw
            case rel => exact ⟨j, by omega, by go_num, HS3.out, HB4.out⟩
            case measure => simp [intOf]
      · clear HC1
        go_wp2_with (at_make; refine wpList_make_own _ rfl _ _ 50 rfl w.heap.size 5 i0 (.int .u8 0) 1 Tryz.underlying50 hi hz0 hz1 .i64 .i64 _ m rfl rfl (by omega) (by rw [hz2]; omega) (by unfold maxLen; omega) (Nat.le_refl _) ?_)
        intro w1 hown hgr
        have hB : Below w.heap.size w w1 := grown_below hgr (Nat.le_refl _) (by simp)
        have HB := Lib.hid hB
        have HO := Lib.hid hown
        have hsz1 := hB.size
        clear hown hgr hB
        go_wp2_with fail
        go_loopw [4, 5] (fun v i wr => ∃ k : Nat, k ≤ m ∧ i = .int .i64 ((k : Int) - 1) ∧ SlB w.heap.size 5 (laidF xs m k) v wr ∧ Below w.heap.size w wr)
          (fun _ i _ => (intOf i + 1).toNat)
        case atStart => exact ⟨m, Nat.le_refl _, rfl, by
          have e : laidF xs m m = [] := by simp [laidF]
          rw [e]; exact ⟨_, _, rfl, HO.out⟩, HB.out⟩
        case round =>
          obtain ⟨k, hk, rfl, ⟨ao, cap, rfl, hown⟩, hB⟩ := hrel
          rw [laidF_length _ _ _ (by rw [HN.out]; omega)] at hown ⊢
          clear HB HO
          have HB := Lib.hid hB
          have HO := Lib.hid hown
          have hsz2 := hB.size
          clear hB hown
          rcases Nat.eq_zero_or_pos k with rfl | hp
          · have HO' := HO.out
            rw [Nat.sub_zero] at HO' ⊢
            by_cases hm1 : 0 < m
            · have hcv := run_string_of_own (P := Tryz.prog) HO' hm1 50 5 9 Tryz.underlying50 Tryz.underlying5 Tryz.underlying9
              have hne : (((m : Nat) : Int) == 0) = false := by simp; omega
              have HE : Hid (mkStr (laidF xs m 0) = dec (digs 10 xs)) := by
                have := HFin.out
                rw [if_neg (by omega)] at this
                unfold Hid dec laidF
                rw [List.drop_zero, this]
              rw [HE.out] at hcv
              clear HO'
              go_wp2_with fail
              go_ret
              exact ⟨rfl, HB.out⟩
            · have hm2 : m = 0 := by omega
              subst hm2
              have HE : Hid ((ByteArray.mk #[48] : ByteArray) = dec (digs 10 xs)) := by
                have := HFin.out
                simp only [if_true] at this
                unfold Hid dec
                rw [← this]; rfl
              clear HO'
              go_wp2_with fail
              go_ret
              refine ⟨?_, HB.out⟩
              rw [← HE.out]
              rfl
          · obtain ⟨j, rfl⟩ : ∃ j, k = j + 1 := ⟨k - 1, by omega⟩
            rw [show ((j + 1 : Nat) : Int) - 1 = (j : Nat) by omega]
            clear hp
            have hd10 := HX.out.getD (by omega) j
            have hjx : xs[j]? = some (xs.getD j 0) := by rw [List.getD_eq_getElem?_getD, List.getElem?_eq_getElem (by rw [HN.out]; omega)]; rfl
            obtain ⟨b', o', ha', hcj⟩ := HC.out j _ hjx
            subst ha'
            have hcj := below_cell HB.out (block_lt_of_cell hcj) hcj
            have HST := Lib.hid (laidF_step xs m j (by omega) (by rw [HN.out]; omega))
            have HLN := Lib.hid (laidF_length xs m (j + 1) (by rw [HN.out]; omega))
            clear hjx
            generalize xs.getD j 0 = d at *
            go_wp2_with (at_builtin; refine wpList_append_own _ rfl _ _ 50 rfl w.heap.size 5 i0 (.int .u8 0) 1 1 Tryz.underlying50 hi hz0 hz1 hz2 rfl (by decide) _ _ _ rfl (HO.out.alloc _) ⟨wr.heap.size, 0, none⟩ 1 1 [.int .u8 (48 + (d : Int))] rfl rfl (cell_one_new _ _ _) (by intro u hu; simp at hu; subst hu; rfl) (by unfold maxLen; omega) (by omega) (by simp; omega) ?_)
            intro v' w3 hown3 hgrow _
            have hB4 : Below w.heap.size w w3 := (HB.out.alloc (by omega) _).grown hgrow (by simp; omega) (fun i hi => by have := (HO.out.lt i hi).1; omega)
            have HB4 := Lib.hid hB4
            have hS3 : SlB w.heap.size 5 (laidF xs m j) v' w3 := by
              apply SlB.of
              rw [← HST.out]
              have e : u8s (laidF xs m (j + 1) ++ [d + 48]) = u8s (laidF xs m (j + 1)) ++ [Value.int IntKind.u8 (48 + (d : Int))] := by
                simp [u8s]; omega
              rw [e, List.length_append, HLN.out]
              simpa using hown3
            have HS3 := Lib.hid hS3
            clear hown3 hgrow hB4 hS3
            go_wp2_with fail
            go_roundw
            case rel => exact ⟨j, by omega, by go_num, HS3.out, HB4.out⟩
            case measure => simp [intOf]

theorem below_form {w wr w2 : World} (h : Below w.heap.size w wr) (h2 : Below wr.heap.size wr w2) : Below w.heap.size w w2 := h.trans (h2.mono h.size)

theorem iis_append (ys : List Nat) (d : Nat) : iis (ys ++ [d]) = iis ys ++ [.int .i64 (d : Nat)] := by simp [iis]

theorem allLt_append {ys : List Nat} {d : Nat} (h : AllLt 10 ys) (hd : d < 10) : AllLt 10 (ys ++ [d]) := h.append (fun x hx => by
  have : x = d := by simpa using hx
  omega)

set_option maxHeartbeats 1600000 in
set_option maxRecDepth 100000 in
theorem xof_any (n : Nat) (hn : n < 18446744073709551616) (w : World) :
    Calls Tryz.prog 106 #[.int .u64 (n : Nat)] w fun e w' => e = .returned (.string (dec n)) ∧ Below w.heap.size w w' := by
  obtain ⟨i0, hi, hz0, hz1, hz2⟩ := info_parts Tryz.infoInt
  go_enter Tryz.func106, Tryz.ntmps106
  go_wp2_with fail
  go_loopw [0, 3] (fun v l wr => ∃ (m : Nat) (ys : List Nat), v = .int .u64 (m : Nat) ∧ m < 18446744073709551616 ∧ SlI w.heap.size 3 ys l wr ∧ Hid (AllLt 10 ys) ∧ Hid (digs 10 ys + 10 ^ ys.length * m = n) ∧ ys.length ≤ 30 ∧ Hid (m < 10 ^ (20 - ys.length) ∨ m = 0) ∧ Below w.heap.size w wr)
    (fun v _ _ => (intOf v).toNat)
  case atStart => exact ⟨n, [], rfl, hn, ⟨none, 0, rfl, World.ownsRow_nil _ _ _ _⟩, AllLt.nil 10, by simp [Hid, digs], by simp, .inl (Nat.lt_of_lt_of_le hn (by decide)), Below.refl _ _⟩
  case round =>
    obtain ⟨m, ys, rfl, hm, ⟨a, cap, rfl, hown⟩, HL, HS, hyl, HM, hB⟩ := hrel
    have HB := Lib.hid hB
    have HO := Lib.hid hown
    clear hB hown
    by_cases hp : 0 < m
    · have hl20 : ys.length < 20 := by
        rcases HM.out with h | h
        · rcases Nat.lt_or_ge ys.length 20 with h2 | h2
          · exact h2
          · rw [show 20 - ys.length = 0 by omega] at h; simp at h; omega
        · omega
      have HM2 : Hid (m / 10 < 10 ^ (20 - (ys.length + 1)) ∨ m / 10 = 0) := by
        rcases HM.out with h | h
        · left
          rw [show 20 - ys.length = (20 - (ys.length + 1)) + 1 by omega, Nat.pow_succ] at h
          omega
        · omega
      have HS2 : Hid (digs 10 (ys ++ [m % 10]) + 10 ^ (ys.length + 1) * (m / 10) = n) := by
        have := HS.out
        unfold Hid
        rw [digs_snoc, Nat.pow_succ, ← this]
        have e := Nat.mod_add_div m 10
        generalize 10 ^ ys.length = t
        rw [Nat.add_assoc, Nat.mul_assoc, ← Nat.mul_add, e]
      have HL2 := Lib.hid (allLt_append HL.out (Nat.mod_lt m (show 0 < 10 by omega)))
      clear HM HS
      go_wp2_with (at_builtin; refine wpList_append_own _ rfl _ _ 25 rfl w.heap.size 3 i0 (.int .i64 0) 1 8 Tryz.underlying25 hi hz0 hz1 hz2 rfl (by decide) _ _ _ rfl (HO.out.alloc _) ⟨wr.heap.size, 0, none⟩ 1 1 [.int .i64 ((m : Int) % 10)] rfl rfl (cell_one_new _ _ _) (by intro u hu; simp at hu; subst hu; rfl) (by unfold maxLen; omega) (by omega) (by have := HB.out.size; simp; omega) ?_)
      intro v' w3 hown3 hgrow _
      have hB4 : Below w.heap.size w w3 := (HB.out.alloc HB.out.size _).grown hgrow (by simp; have := HB.out.size; omega) (fun i hi => by have := (HO.out.lt i hi).1; omega)
      have HB4 := Lib.hid hB4
      have hS3 : SlI w.heap.size 3 (ys ++ [m % 10]) v' w3 := by
        apply SlI.of
        rw [iis_append, List.length_append]
        simpa using hown3
      have HS3 := Lib.hid hS3
      clear hown3 hgrow hB4 hS3
      go_wp2_with fail
      go_roundw
      case rel => exact ⟨m / 10, ys ++ [m % 10], by go_num, by omega, HS3.out, HL2, by rw [List.length_append]; exact HS2, by simp; omega, by rw [List.length_append]; exact HM2, HB4.out⟩
      case measure => simp [intOf]; omega
    · have h0 : m = 0 := by omega
      have HE : Hid (digs 10 ys = n) := by
        have := HS.out
        rw [h0, Nat.mul_zero, Nat.add_zero] at this
        exact this
      go_wp2_with fail
      refine (form_any a ys ys.length cap rfl HL.out (by omega) wr (CellsI.ofOwns HO.out)).mono ?_
      rintro e w2 ⟨rfl, hB2⟩
      have HB2 := Lib.hid (below_form HB.out hB2)
      clear hB2
      rw [HE.out]
      go_wp2_with fail
      go_ret
      exact ⟨rfl, HB2.out⟩

def DigOf (s : ByteArray) (a : Nat) : Prop := ∀ (i : Nat), i ≤ 1099511627776 → ∀ w : World, Calls Tryz.prog 107 #[.string s, .int .i64 (i : Nat)] w fun e w' => e = .returned (.int .i64 (dgt a i : Nat)) ∧ w = w'

theorem digOf (a : Nat) (hs : (dec a).size ≤ 1099511627776) : DigOf (dec a) a := fun i hi w => xdigit_any a i hs hi w

set_option maxHeartbeats 3200000 in
set_option maxRecDepth 100000 in
theorem xadd_any (a b : Nat) (ha : (dec a).size ≤ 1073741824) (hb : (dec b).size ≤ 1073741824) (w : World) :
    Calls Tryz.prog 104 #[.string (dec a), .string (dec b)] w fun e w' => e = .returned (.string (dec (a + b))) ∧ Below w.heap.size w w' := by
  obtain ⟨i0, hi, hz0, hz1, hz2⟩ := info_parts Tryz.infoInt
  have HDA := Lib.hid (digOf a (by omega))
  have HDB := Lib.hid (digOf b (by omega))
  have HMA := Lib.hid (fun i (h : (dec a).size ≤ i) => mod_beyond a i (by rw [← dec_size]; exact h))
  have HMB := Lib.hid (fun i (h : (dec b).size ≤ i) => mod_beyond b i (by rw [← dec_size]; exact h))
  have HZA := Lib.hid (fun i (h : (dec a).size ≤ i) => dgt_beyond a i (by rw [← dec_size]; exact h))
  have HZB := Lib.hid (fun i (h : (dec b).size ≤ i) => dgt_beyond b i (by rw [← dec_size]; exact h))
  generalize dec a = sA at *
  generalize dec b = sB at *
  go_enter Tryz.func104, Tryz.ntmps104
  go_wp2_with fail
  go_loopw [5, 6, 7] (fun l cv iv wr => ∃ (i c : Nat) (ys : List Nat), iv = .int .i64 (i : Nat) ∧ cv = .int .i64 (c : Nat) ∧ c ≤ 1 ∧ SlI w.heap.size 3 ys l wr ∧ Hid (AllLt 10 ys) ∧ ys.length ≤ i ∧ Hid (ys.length = i) ∧ Hid (digs 10 ys + 10 ^ i * c = a % 10 ^ i + b % 10 ^ i) ∧
      i ≤ max sA.size sB.size + 1 ∧ (i = max sA.size sB.size + 1 → c = 0) ∧ Below w.heap.size w wr)
    (fun _ _ iv _ => (max sA.size sB.size + 2 - intOf iv).toNat)
  case atStart => exact ⟨0, 0, [], rfl, rfl, by omega, ⟨none, 0, rfl, World.ownsRow_nil _ _ _ _⟩, AllLt.nil 10, by simp, rfl, by simp [Hid, digs, Nat.mod_one], by omega, by omega, Below.refl _ _⟩
  case round =>
    obtain ⟨i, c, ys, rfl, rfl, hc, ⟨ao, cap, rfl, hown⟩, HL, hyl, HLN, HS, him, hic, hB⟩ := hrel
    have HB := Lib.hid hB
    have HO := Lib.hid hown
    clear hB hown
    by_cases hgo : i < sA.size ∨ i < sB.size ∨ 0 < c
    · have him2 : i ≤ max sA.size sB.size := by
        rcases Nat.lt_or_ge (max sA.size sB.size) i with h | h
        · have := hic (by omega)
          omega
        · exact h
      have hxa := dgt_lt a i
      have hxb := dgt_lt b i
      have HS2 := Lib.hid (add_step a b i c _ HS.out)
      have hlast : i = max sA.size sB.size → (dgt a i + dgt b i + c) / 10 = 0 := fun h => by
        rw [HZA.out i (by omega), HZB.out i (by omega)]; omega
      have HLAST := Lib.hid hlast
      have KA := Lib.hid (HDA.out i (by omega))
      have KB := Lib.hid (HDB.out i (by omega))
      clear hlast HS hic
      generalize dgt a i = x at *
      generalize dgt b i = y at *
      have hcase : i < sA.size ∨ (¬ i < sA.size ∧ i < sB.size) ∨ (¬ i < sA.size ∧ ¬ i < sB.size ∧ 0 < c) := by omega
      clear hgo
      have HL2 := Lib.hid (allLt_append HL.out (Nat.mod_lt (x + y + c) (show 0 < 10 by omega)))
      have HS3 : Hid (digs 10 (ys ++ [(x + y + c) % 10]) + 10 ^ (i + 1) * ((x + y + c) / 10) = a % 10 ^ (i + 1) + b % 10 ^ (i + 1)) := by
        have := HS2.out
        unfold Hid
        rw [digs_snoc, HLN.out]
        exact this
      clear HS2
      rcases hcase with h1 | ⟨h1, h2⟩ | ⟨h1, h2, h3⟩
      all_goals
        go_wp2_with fail
        refine (KA.out _).mono ?_
        rintro e w2 ⟨rfl, rfl⟩
        go_wp2_with fail
        refine (KB.out _).mono ?_
        rintro e w2 ⟨rfl, rfl⟩
        go_wp2_with (at_builtin; refine wpList_append_own _ rfl _ _ 25 rfl w.heap.size 3 i0 (.int .i64 0) 1 8 Tryz.underlying25 hi hz0 hz1 hz2 rfl (by decide) _ _ _ rfl (HO.out.alloc _) ⟨wr.heap.size, 0, none⟩ 1 1 [.int .i64 (((x : Int) + y + c) % 10)] rfl rfl (cell_one_new _ _ _) (by intro u hu; simp at hu; subst hu; rfl) (by unfold maxLen; omega) (by omega) (by have := HB.out.size; simp; omega) ?_)
        intro v' w3 hown3 hgrow _
        have hB4 : Below w.heap.size w w3 := (HB.out.alloc HB.out.size _).grown hgrow (by simp; have := HB.out.size; omega) (fun i hi => by have := (HO.out.lt i hi).1; omega)
        have HB4 := Lib.hid hB4
        have hS3 : SlI w.heap.size 3 (ys ++ [(x + y + c) % 10]) v' w3 := by
          apply SlI.of
          rw [iis_append, List.length_append]
          simpa using hown3
        have HSL := Lib.hid hS3
        clear hown3 hgrow hB4 hS3
        go_wp2_with fail
        go_roundw
        case rel => exact ⟨i + 1, (x + y + c) / 10, ys ++ [(x + y + c) % 10], by go_num, by go_num, by omega, HSL.out, HL2, by simp; omega, by unfold Hid; rw [List.length_append, HLN.out]; rfl, HS3, by omega, fun h => HLAST.out (by omega), HB4.out⟩
        case measure => simp [intOf]; omega
    · have h1 : ¬ i < sA.size := fun h => hgo (.inl h)
      have h2 : ¬ i < sB.size := fun h => hgo (.inr (.inl h))
      have h3 : ¬ 0 < c := fun h => hgo (.inr (.inr h))
      have HE : Hid (digs 10 ys = a + b) := by
        have := HS.out
        rw [HMA.out i (by omega), HMB.out i (by omega), show c = 0 by omega, Nat.mul_zero, Nat.add_zero] at this
        exact this
      clear hgo HS hic
      go_wp2_with fail
      refine (form_any ao ys ys.length cap rfl HL.out (by omega) wr (CellsI.ofOwns HO.out)).mono ?_
      rintro e w2 ⟨rfl, hB2⟩
      have HB2 := Lib.hid (below_form HB.out hB2)
      clear hB2
      rw [HE.out]
      go_wp2_with fail
      go_ret
      exact ⟨rfl, HB2.out⟩

theorem dec_zero48 : dec 0 = { data := #[48] } := by kernel_rfl

theorem sub_end {a b la c : Nat} {ys : List Nat} (ha : a < 10 ^ la) (hba : b ≤ a) (hl : AllLt 10 ys) (hn : ys.length = la) (h : digs 10 ys + b % 10 ^ la = a % 10 ^ la + 10 ^ la * c) (hc : c ≤ 1) : digs 10 ys = a - b := by
  rw [Nat.mod_eq_of_lt ha, Nat.mod_eq_of_lt (Nat.lt_of_le_of_lt hba ha)] at h
  have h1 := digs_lt (B := 10) (by omega) hl
  rw [hn] at h1
  have h2 : c = 0 ∨ c = 1 := by omega
  rcases h2 with rfl | rfl
  · omega
  · omega

set_option maxHeartbeats 3200000 in
set_option maxRecDepth 100000 in
theorem xsub_geq (a b : Nat) (ha : (dec a).size ≤ 1073741824) (hb : (dec b).size ≤ 1073741824) (hba : b ≤ a) (w : World) :
    Calls Tryz.prog 109 #[.string (dec a), .string (dec b)] w fun e w' => e = .returned (.tuple #[.string (dec (a - b)), .bool true]) ∧ Below w.heap.size w w' := by
  obtain ⟨i0, hi, hz0, hz1, hz2⟩ := info_parts Tryz.infoInt
  have HDA := Lib.hid (digOf a (by omega))
  have HDB := Lib.hid (digOf b (by omega))
  have hcmp : 0 ≤ cmpI a b := by
    unfold cmpI; split
    · omega
    · split <;> omega
  have HCM := Lib.hid (xcmp_any a b)
  have HALT := Lib.hid (decL_high a)
  rw [← dec_size] at HALT
  generalize cmpI a b = cc at *
  generalize dec a = sA at *
  generalize dec b = sB at *
  go_enter Tryz.func109, Tryz.ntmps109
  go_wp2_with fail
  refine (HCM.out _).mono ?_
  rintro e w2 ⟨rfl, rfl⟩
  clear HCM
  go_wp2_with fail
  go_loopw [6, 7, 8] (fun l cv iv wr => ∃ (i c : Nat) (ys : List Nat), iv = .int .i64 (i : Nat) ∧ cv = .int .i64 (c : Nat) ∧ c ≤ 1 ∧ SlI w.heap.size 3 ys l wr ∧ Hid (AllLt 10 ys) ∧ ys.length ≤ i ∧ Hid (ys.length = i) ∧ Hid (digs 10 ys + b % 10 ^ i = a % 10 ^ i + 10 ^ i * c) ∧
      i ≤ sA.size ∧ Below w.heap.size w wr)
    (fun _ _ iv _ => (sA.size - intOf iv).toNat)
  case atStart => exact ⟨0, 0, [], rfl, rfl, by omega, ⟨none, 0, rfl, World.ownsRow_nil _ _ _ _⟩, AllLt.nil 10, by simp, rfl, by simp [Hid, digs, Nat.mod_one], by omega, Below.refl _ _⟩
  case round =>
    obtain ⟨i, c, ys, rfl, rfl, hc, ⟨ao, cap, rfl, hown⟩, HL, hyl, HLN, HS, him, hB⟩ := hrel
    have HB := Lib.hid hB
    have HO := Lib.hid hown
    clear hB hown
    by_cases hlt : i < sA.size
    · have hxa := dgt_lt a i
      have hxb := dgt_lt b i
      have HS2 := Lib.hid (sub_step a b i c _ HS.out hc)
      have KA := Lib.hid (HDA.out i (by omega))
      have KB := Lib.hid (HDB.out i (by omega))
      clear HS
      generalize dgt a i = x at *
      generalize dgt b i = y at *
      by_cases hneg : (x : Int) - y - c < 0
      · have hv : (x : Int) - y - c + 10 = ((x + 10 - y - c : Nat) : Int) := by omega
        have hz10 : x + 10 - y - c < 10 := by omega
        have HS3 : Hid (digs 10 (ys ++ [x + 10 - y - c]) + b % 10 ^ (i + 1) = a % 10 ^ (i + 1) + 10 ^ (i + 1) * 1) := by
          unfold Hid
          rw [digs_snoc, HLN.out]
          exact HS2.out.2 (by omega)
        clear HS2
        have HV := Lib.hid hv
        clear hv
        generalize x + 10 - y - c = z at *
        have HL2 := Lib.hid (allLt_append HL.out hz10)
        go_wp2_with fail
        refine (KA.out _).mono ?_
        rintro e w2 ⟨rfl, rfl⟩
        go_wp2_with fail
        refine (KB.out _).mono ?_
        rintro e w2 ⟨rfl, rfl⟩
        go_wp2_with (at_builtin; refine wpList_append_own _ rfl _ _ 25 rfl w.heap.size 3 i0 (.int .i64 0) 1 8 Tryz.underlying25 hi hz0 hz1 hz2 rfl (by decide) _ _ _ rfl (HO.out.alloc _) ⟨wr.heap.size, 0, none⟩ 1 1 [.int .i64 ((x : Int) - y - c + 10)] rfl rfl (cell_one_new _ _ _) (by intro u hu; simp at hu; subst hu; rfl) (by unfold maxLen; omega) (by omega) (by have := HB.out.size; simp; omega) ?_)
        intro v' w3 hown3 hgrow _
        have hB4 : Below w.heap.size w w3 := (HB.out.alloc HB.out.size _).grown hgrow (by simp; have := HB.out.size; omega) (fun i hi => by have := (HO.out.lt i hi).1; omega)
        have HB4 := Lib.hid hB4
        have hS3 : SlI w.heap.size 3 (ys ++ [z]) v' w3 := by
          apply SlI.of
          rw [iis_append, List.length_append, ← HV.out]
          simpa using hown3
        have HSL := Lib.hid hS3
        clear hown3 hgrow hB4 hS3
        go_wp2_with fail
        go_roundw
        case rel => exact ⟨i + 1, 1, ys ++ [z], by go_num, rfl, by omega, HSL.out, HL2, by simp; omega, by unfold Hid; rw [List.length_append, HLN.out]; rfl, HS3, by omega, HB4.out⟩
        case measure => simp [intOf]; omega
      · have hv : (x : Int) - y - c = ((x - y - c : Nat) : Int) := by omega
        have hz10 : x - y - c < 10 := by omega
        have HS3 : Hid (digs 10 (ys ++ [x - y - c]) + b % 10 ^ (i + 1) = a % 10 ^ (i + 1) + 10 ^ (i + 1) * 0) := by
          unfold Hid
          rw [digs_snoc, HLN.out]
          have := HS2.out.1 (by omega)
          omega
        clear HS2
        have HV := Lib.hid hv
        clear hv
        generalize x - y - c = z at *
        have HL2 := Lib.hid (allLt_append HL.out hz10)
        go_wp2_with fail
        refine (KA.out _).mono ?_
        rintro e w2 ⟨rfl, rfl⟩
        go_wp2_with fail
        refine (KB.out _).mono ?_
        rintro e w2 ⟨rfl, rfl⟩
        go_wp2_with (at_builtin; refine wpList_append_own _ rfl _ _ 25 rfl w.heap.size 3 i0 (.int .i64 0) 1 8 Tryz.underlying25 hi hz0 hz1 hz2 rfl (by decide) _ _ _ rfl (HO.out.alloc _) ⟨wr.heap.size, 0, none⟩ 1 1 [.int .i64 ((x : Int) - y - c)] rfl rfl (cell_one_new _ _ _) (by intro u hu; simp at hu; subst hu; rfl) (by unfold maxLen; omega) (by omega) (by have := HB.out.size; simp; omega) ?_)
        intro v' w3 hown3 hgrow _
        have hB4 : Below w.heap.size w w3 := (HB.out.alloc HB.out.size _).grown hgrow (by simp; have := HB.out.size; omega) (fun i hi => by have := (HO.out.lt i hi).1; omega)
        have HB4 := Lib.hid hB4
        have hS3 : SlI w.heap.size 3 (ys ++ [z]) v' w3 := by
          apply SlI.of
          rw [iis_append, List.length_append, ← HV.out]
          simpa using hown3
        have HSL := Lib.hid hS3
        clear hown3 hgrow hB4 hS3
        go_wp2_with fail
        go_roundw
        case rel => exact ⟨i + 1, 0, ys ++ [z], by go_num, rfl, by omega, HSL.out, HL2, by simp; omega, by unfold Hid; rw [List.length_append, HLN.out]; rfl, HS3, by omega, HB4.out⟩
        case measure => simp [intOf]; omega
    · obtain rfl : i = sA.size := by omega
      have HE : Hid (digs 10 ys = a - b) := sub_end HALT.out hba HL.out HLN.out HS.out hc
      clear HS
      go_wp2_with fail
      refine (form_any ao ys ys.length cap rfl HL.out (by omega) wr (CellsI.ofOwns HO.out)).mono ?_
      rintro e w2 ⟨rfl, hB2⟩
      have HB2 := Lib.hid (below_form HB.out hB2)
      clear hB2
      rw [HE.out]
      go_wp2_with fail
      go_ret2
      exact ⟨rfl, HB2.out⟩

end Go.Proofs.YtajjgfiojlagmaaGreatDoor
