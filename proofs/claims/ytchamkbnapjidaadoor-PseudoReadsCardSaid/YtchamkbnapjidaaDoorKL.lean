/- Literals: order, terms. -/
import Derived.Test.YtchamkbnapjidaaDoorShelf
import Derived.Test.YtchamkbnapjidaaDoorKA
import Derived.Test.YtchamkbnapjidaaDoorSL
import Derived.Test.YtchamkbnapjidaaDoorKG
import Derived.Test.YtchamkbnapjidaaDoorKH
import Derived.Lib.RowBridge
import Derived.Lib.OwnBridge
import Derived.Deep.CutRange
namespace Go.Proofs.YtchamkbnapjidaaDoor
open Go.RowKit Go.Sort

/-- The world stays as it is. -/
def Still (f : FuncId) (args : Array Value) (v : Value) : Prop := ∀ w : World, Calls Tryd.prog f args w fun e w' => e = .returned v ∧ w' = w
set_option maxHeartbeats 1600000 in
set_option maxRecDepth 100000 in
theorem sVar (l : Int) : Still 53 #[.int .i64 l] (.int .i64 (varI l)) := by
  intro w
  by_cases h1 : 1 ≤ l
  · by_cases h2 : l ≤ 128
    · have HQ := Lib.hid (show varI l = l from if_pos ⟨h1, h2⟩)
      go_enter Tryd.func53, Tryd.ntmps53
      go_wp2_with fail
      go_ret
      exact ⟨by rw [HQ.out]; rfl, rfl⟩
    · have HQ := Lib.hid (show varI l = 0 by unfold varI; rw [if_neg (by omega), if_neg (by omega)])
      have h3 : ¬ l ≤ -1 := by omega
      go_enter Tryd.func53, Tryd.ntmps53
      go_wp2_with fail
      go_ret
      exact ⟨by rw [HQ.out]; rfl, rfl⟩
  · by_cases h2 : l ≤ -1
    · by_cases h3 : -128 ≤ l
      · have HQ := Lib.hid (show varI l = -l by unfold varI; rw [if_neg (by omega), if_pos ⟨h2, h3⟩])
        go_enter Tryd.func53, Tryd.ntmps53
        go_wp2_with fail
        go_ret
        exact ⟨by rw [HQ.out]; rfl, rfl⟩
      · have HQ := Lib.hid (show varI l = 0 by unfold varI; rw [if_neg (by omega), if_neg (by omega)])
        go_enter Tryd.func53, Tryd.ntmps53
        go_wp2_with fail
        go_ret
        exact ⟨by rw [HQ.out]; rfl, rfl⟩
    · have HQ := Lib.hid (show varI l = 0 by unfold varI; rw [if_neg (by omega), if_neg (by omega)])
      go_enter Tryd.func53, Tryd.ntmps53
      go_wp2_with fail
      go_ret
      exact ⟨by rw [HQ.out]; rfl, rfl⟩

theorem litOk_var (l n : Int) (hn : n ≤ 128) (h0 : varI l = 0) : litOk l n = false := by
  rw [Bool.eq_false_iff]; intro h
  rw [litOk_iff] at h
  unfold varI at h0
  split at h0
  · omega
  · split at h0 <;> omega
theorem litOk_var2 (l n : Int) (h0 : ¬ varI l = 0) : litOk l n = decide (varI l ≤ n) := by
  rw [Bool.eq_iff_iff, litOk_iff, decide_eq_true_eq]
  unfold varI at h0 ⊢
  split at h0
  · omega
  · split at h0 <;> omega
set_option maxHeartbeats 1600000 in
set_option maxRecDepth 100000 in
theorem sValid (l n : Int) (hn : n ≤ 128) : Still 43 #[.int .i64 l, .int .i64 n] (.bool (litOk l n)) := by
  intro w
  have KV := sVar l
  by_cases h0 : varI l = 0
  · have HQ := Lib.hid (litOk_var l n hn h0)
    rw [h0] at KV
    clear h0
    go_enter Tryd.func43, Tryd.ntmps43
    go_wp2_with fail
    refine (KV _).mono ?_
    rintro r1 w1 ⟨rfl, rfl⟩
    go_wp2_with fail
    go_ret
    exact ⟨by rw [HQ.out]; rfl, rfl⟩
  · have HQ := Lib.hid (litOk_var2 l n h0)
    generalize varI l = v at *
    have hv : (v != 0) = true := by simp [bne, beq_no h0]
    clear h0
    go_enter Tryd.func43, Tryd.ntmps43
    go_wp2_with fail
    refine (KV _).mono ?_
    rintro r1 w1 ⟨rfl, rfl⟩
    go_wp2_with fail
    refine (KV _).mono ?_
    rintro r2 w2 ⟨rfl, rfl⟩
    go_wp2_with fail
    go_ret
    exact ⟨by rw [HQ.out]; rfl, rfl⟩

/-- A literal or 0. -/
def Lt : Type := { x : Int // -128 ≤ x ∧ x ≤ 128 }
instance : Inhabited Lt := ⟨⟨0, by omega⟩⟩
def encLt (x : Lt) : Value := .int .i64 x.1
def cfLt (x y : Lt) : Int := if absI x.1 = absI y.1 then x.1 - y.1 else absI x.1 - absI y.1
theorem varI_abs (x : Lt) : varI x.1 = absI x.1 := by
  obtain ⟨x, h1, h2⟩ := x
  unfold varI absI
  simp only
  split
  · rw [if_neg (by omega)]
  · split <;> split <;> omega
set_option maxHeartbeats 1600000 in
set_option maxRecDepth 100000 in
theorem sCompare (x y : Lt) : Still 60 #[.int .i64 x.1, .int .i64 y.1] (.int .i64 (cfLt x y)) := by
  intro w
  have KX := sVar x.1
  have KY := sVar y.1
  rw [varI_abs] at KX KY
  have hx := absI_or x.1
  have hy := absI_or y.1
  have h1 := x.2
  have h2 := y.2
  have HQ := Lib.hid (show cfLt x y = if absI x.1 = absI y.1 then x.1 - y.1 else absI x.1 - absI y.1 from rfl)
  generalize cfLt x y = r at *
  generalize x.1 = x at *
  generalize y.1 = y at *
  generalize absI x = p at *
  generalize absI y = q at *
  by_cases h : p = q
  · subst h
    have HR := Lib.hid (HQ.out.trans (if_pos rfl))
    have hpq : (p != p) = false := by simp
    clear HQ
    go_enter Tryd.func60, Tryd.ntmps60
    go_wp2_with fail
    refine (KX _).mono ?_
    rintro r1 w1 ⟨rfl, rfl⟩
    go_wp2_with fail
    refine (KY _).mono ?_
    rintro r1 w1 ⟨rfl, rfl⟩
    go_wp2_with fail
    go_ret
    exact ⟨by rw [HR.out]; rfl, rfl⟩
  · have HR := Lib.hid (HQ.out.trans (if_neg h))
    have hpq : (p != q) = true := by simp [bne, beq_no h]
    clear HQ h
    go_enter Tryd.func60, Tryd.ntmps60
    go_wp2_with fail
    refine (KX _).mono ?_
    rintro r1 w1 ⟨rfl, rfl⟩
    go_wp2_with fail
    refine (KY _).mono ?_
    rintro r1 w1 ⟨rfl, rfl⟩
    go_wp2_with fail
    go_ret
    exact ⟨by rw [HR.out]; rfl, rfl⟩
set_option maxHeartbeats 1600000 in
theorem sOrder1 (x y : Lt) : Still 59 #[.int .i64 x.1, .int .i64 y.1] (.int .i64 (cfLt x y)) := by
  intro w
  have KC := sCompare x y
  generalize cfLt x y = r at *
  generalize x.1 = x at *
  generalize y.1 = y at *
  go_enter Tryd.func59, Tryd.ntmps59
  go_wp2_with fail
  refine (KC _).mono ?_
  rintro r1 w1 ⟨rfl, rfl⟩
  go_wp2_with fail
  go_ret
  exact ⟨rfl, rfl⟩
set_option maxHeartbeats 1600000 in
theorem sValid1 (x n : Int) (b : Nat) (hn : n ≤ 128) (w : World) (hc : w.cell? ⟨b, 0, none⟩ = some (.int .i64 n)) : Calls Tryd.prog 56 #[.int .i64 x, .pointer (some ⟨b, 0, none⟩)] w fun e w' => e = .returned (.bool (!litOk x n)) ∧ w' = w := by
  have KC := sValid x n hn
  generalize litOk x n = r at *
  go_enter Tryd.func56, Tryd.ntmps56
  go_wp2_with fail
  refine (KC _).mono ?_
  rintro r1 w1 ⟨rfl, rfl⟩
  go_wp2_with fail
  go_ret
  exact ⟨rfl, rfl⟩

/-- All are literals of n variables. -/
theorem contains_valid (t : List Int) (n : Int) (b : Nat) (hn : n ≤ 128) (N : Nat) (ta : Option Addr) (tc : Nat) (w : World) (hT : AtN N w ta (ints t)) (hl : t.length ≤ 100000000000000) (hb : b < w.heap.size) (hc : w.cell? ⟨b, 0, none⟩ = some (.int .i64 n)) :
    Calls Tryd.prog 55 #[.slice ta t.length tc, .func (.func 56) #[] #[.pointer (some ⟨b, 0, none⟩)]] w fun e w' => e = .returned (.bool (t.any fun x => !litOk x n)) ∧ ∃ q, w' = w.drewN q := by
  by_cases h0 : t.length = 0
  · obtain rfl : t = [] := List.length_eq_zero_iff.1 h0
    exact (Tryd.slices_ContainsFunc_empty (α := Int) ta tc (.func (.func 56) #[] #[.pointer (some ⟨b, 0, none⟩)]) w).mono fun e w' ⟨he, hw⟩ => ⟨he, 0, hw⟩
  · obtain ⟨g, o, _, rfl, hcell⟩ := hT.base (by rw [show (ints t).length = t.length by simp [ints]]; omega)
    have eg : ∀ args w, (callFunc 56 args).run Tryd.prog w = .ok (.enter 56 args) w := enters_of Tryd.func56 (by kernel_rfl) rfl
    have hp : PredAt Tryd.prog 56 #[.pointer (some ⟨b, 0, none⟩)] (Value.int .i64) (fun x => !litOk x n) w := fun W x hW => (sValid1 x n b hn W (below_cell hW hb hc)).mono fun e w' ⟨he, hw⟩ => ⟨he, 0, hw⟩
    have h := Tryd.slices_ContainsFunc (α := Int) (Value.int .i64) (fun x => !litOk x n) 56 #[.pointer (some ⟨b, 0, none⟩)] eg g o t.length tc t w hp (Nat.le_refl _) (by omega) (fun j hj => by
      have := hcell j (.int .i64 (t.getD j 0)) (ints_get _ _ _ (by simp [List.getD, hj]))
      rw [this]
      congr 2
      simp [List.getD, hj])
    rw [List.take_length] at h
    exact h

theorem any_all (t : List Int) (n : Int) : (t.any fun x => !litOk x n) = !(t.all fun x => litOk x n) := by
  induction t with
  | nil => rfl
  | cons a t ih => rw [List.any_cons, List.all_cons, ih]; cases litOk a n <;> simp

set_option maxHeartbeats 1600000 in
theorem gValidL (t : List Int) (n : Int) (hn : n ≤ 128) (N : Nat) (ta : Option Addr) (tc : Nat) (w : World) (hT : AtN N w ta (ints t)) (hl : t.length ≤ 100000000000000) (hw : N ≤ w.heap.size) :
    Calls Tryd.prog 45 #[.slice ta t.length tc, .int .i64 n] w fun e w' => e = .returned (.bool (t.all fun x => litOk x n)) ∧ Below w.heap.size w w' := by
  have hmf : ∀ (fn : Fn) (first cap : Array Value) (w : World), (Instr.makeFunc fn first cap).run Tryd.prog w = .ok (.func fn first cap) w := fun _ _ _ _ => rfl
  have hB := below_one w (.cells #[.int .i64 n] 3 (0, 0))
  have KC := contains_valid t n w.heap.size hn N ta tc (w.alloc (.cells #[.int .i64 n] 3 (0, 0))) (hT.below hB hw) hl (by simp) (blk_cell (new_one w (.cells #[.int .i64 n] 3 (0, 0))) 0 rfl)
  rw [any_all] at KC
  have HB := Lib.hid hB
  generalize (t.all fun x => litOk x n) = r at *
  clear hT hB
  go_enter Tryd.func45, Tryd.ntmps45
  go_wp2_with fail
  refine KC.mono ?_
  rintro e w1 ⟨rfl, q, rfl⟩
  go_wp2_with fail
  go_ret
  exact ⟨by simp, ⟨HB.out.os, HB.out.tape, HB.out.output, HB.out.size, HB.out.block⟩⟩

theorem ltOf_cf (x y : Lt) : ltOf cfLt x y = litLt x.1 y.1 := by
  have hx := absI_or x.1
  have hy := absI_or y.1
  unfold ltOf cfLt
  rw [Bool.eq_iff_iff, decide_eq_true_eq, litLt_iff]
  split <;> omega
theorem swoLt : SWO (ltOf cfLt) where
  irrefl x := by rw [ltOf_cf, litLt_no]; omega
  trans x y z h1 h2 := by rw [ltOf_cf, litLt_iff] at *; omega
  ntrans x y z h1 h2 := by rw [ltOf_cf, litLt_no] at *; omega
theorem encLt_ints (ts : List Lt) : ts.map encLt = ints (ts.map (·.1)) := by simp [ints, encLt, Function.comp_def]
theorem lts_of {t : List Int} (h : ∀ x ∈ t, -128 ≤ x ∧ x ≤ 128) : ∃ ts : List Lt, t = ts.map (·.1) := by
  induction t with
  | nil => exact ⟨[], rfl⟩
  | cons a t ih =>
    obtain ⟨ts, rfl⟩ := ih fun x hx => h x (by simp [hx])
    exact ⟨⟨a, h a (by simp)⟩ :: ts, rfl⟩
theorem RowV.cells {w : World} {g n cap : Nat} {X : List Int} (h : RowV (inW w) 3 1 (.slice (some ⟨g, 0, none⟩) n cap) n (ints X)) : n ≤ cap ∧ g < w.heap.size ∧ (∀ i, w.frozen? ⟨g, i, none⟩ = false) ∧ ∀ i y, X[i]? = some y → w.cell? ⟨g, i, none⟩ = some (.int .i64 y) := by
  cases h with
  | @row _ _ _ _ cur hr =>
    refine ⟨hr.le, lt_of_heap hr.blk, fun i => blk_free hr.blk i, fun i y hi => ?_⟩
    have h2 := hr.tk
    have hi' : (ints X)[i]? = some (.int .i64 y) := ints_get _ _ _ hi
    rw [← h2, List.getElem?_take] at hi'
    split at hi'
    · exact blk_cell hr.blk i (by simpa using hi')
    · cases hi'

/-- Behind the sort and the striking of doubles. -/
def OrderPost (t : List Int) (w : World) (e : Ending) (w' : World) : Prop :=
  ∃ v zs, e = .returned v ∧ zs.Perm t ∧ (∀ i j, i < j → j < zs.length → litLt (zs.getD j 0) (zs.getD i 0) = false) ∧ OwnI w' w.heap.size [] v (Lib.compact zs) ∧ Below w.heap.size w w'
theorem clone_any (t : List Int) (N : Nat) (ta : Option Addr) (tc : Nat) (w : World) (hT : AtN N w ta (ints t)) (hl : t.length ≤ 10000000000000) :
    Calls Tryd.prog 57 #[.slice ta t.length tc] w fun e w' => ∃ v, e = .returned v ∧ w'.ownsRow w.heap.size 3 1 v t.length (ints t) ∧ (0 < t.length → v ≠ .slice none 0 0) ∧ Below w.heap.size w w' := by
  by_cases h0 : t.length = 0
  · obtain rfl : t = [] := List.length_eq_zero_iff.1 h0
    cases ta with
    | none => exact (Tryd.slices_Clone_int_nil 0 tc w).mono fun e w' ⟨he, hw⟩ => ⟨_, he, by subst hw; exact ⟨rfl, .inl ⟨rfl, rfl⟩⟩, fun h => absurd h (by simp), by rw [hw]; exact Below.refl _ _⟩
    | some a => exact (Tryd.slices_Clone_int_zero a tc w).mono fun e w' ⟨v, he, ho, _, hb⟩ => ⟨v, he, ho, fun h => absurd h (by simp), hb⟩
  · obtain ⟨g, o, _, rfl, hcell⟩ := hT.base (by rw [show (ints t).length = t.length by simp [ints]]; omega)
    have h := Tryd.slices_Clone_int g o t.length tc t w (Nat.le_refl _) (by omega) (fun j hj => hcell j (.int .i64 (t.getD j 0)) (ints_get _ _ _ (by simp [List.getD, hj])))
    rw [List.take_length] at h
    exact h.mono fun e w' ⟨v, he, ho, hn, hb⟩ => ⟨v, he, ho, fun _ => hn, hb⟩

theorem below_sortWorld {α : Type} [Inhabited α] (enc : α → Value) {B : Nat} {w : World} {g q : Nat} {d : Array α} {os : Array Obj} (hB : B ≤ w.heap.size) (hg : B ≤ g) : RowKit.Below B w (sortWorld enc w g 0 q d os) := by
  have h1 := Lib.below_putRow (enc := enc) (q := q) (d := d) (RowKit.Below.refl B w) hg
  refine ⟨h1.os, h1.tape, h1.output, Nat.le_trans h1.size (by simp [sortWorld, grow]), fun k hk => ?_⟩
  unfold sortWorld
  rw [heap_grow_old _ _ (Nat.lt_of_lt_of_le hk (Nat.le_trans hB h1.size))]
  exact h1.block k hk
theorem behind_grow (w : World) (os : Array Obj) : Behind w [] (grow w os) := ⟨rfl, rfl, rfl, by simp [grow], fun k hk _ => heap_grow_old _ _ hk⟩
theorem ints_append (a b : List Int) : ints (a ++ b) = ints a ++ ints b := by simp [ints]

/-- A row of one's own is sorted, and the doubles are struck. -/
theorem sort_row (ts : List Lt) (base g n cap : Nat) (w : World) (ho : w.ownsRow base 3 1 (.slice (some ⟨g, 0, none⟩) n cap) n (ts.map encLt)) (hb : base ≤ w.heap.size) (hgb : base ≤ g) (hg : g < w.heap.size) (hn : ts.length = n) (hl : n ≤ 10000000000000) (hH : Holds encLt w g 0 ts.toArray) :
    Calls Tryd.prog 58 #[.slice (some ⟨g, 0, none⟩) n cap, .func (.func 59) #[] #[]] w fun e w' => e = .returned (.tuple #[]) ∧ ∃ zs : List Int, zs.Perm (ts.map (·.1)) ∧ (∀ i j, i < j → j < zs.length → litLt (zs.getD j 0) (zs.getD i 0) = false) ∧ zs.length = n ∧
      w'.ownsRow base 3 1 (.slice (some ⟨g, 0, none⟩) n cap) n (ints zs) ∧ RowKit.Below base w w' := by
  have eg : ∀ args w, (callFunc 59 args).run Tryd.prog w = .ok (.enter 59 args) w := enters_of Tryd.func59 (by kernel_rfl) rfl
  have hcmp : CmpReads Tryd.prog 59 #[] encLt cfLt g 0 ts.toArray.size w := fun m os dk _ x y => (sOrder1 x y _).mono fun e w' ⟨he, hw⟩ => ⟨he, 0, hw⟩
  have hsz : ts.toArray.size = n := by simpa using hn
  have h := Tryd.slices_SortFunc encLt (fun _ => rfl) cfLt swoLt 59 #[] g 0 cap ts.toArray w eg hcmp.lays hH hg (by rw [hsz]; omega)
  rw [hsz] at h
  refine h.mono ?_
  rintro e w' ⟨he, d', q, os, hp, hs, rfl⟩
  obtain ⟨h1, _, h3⟩ := hp
  rw [hsz] at h1
  have hd : d'.toList.length = n := by simpa using h1
  have e1 : d'.extract 0 n = d' := by rw [← h1]; exact Array.extract_size
  have e2 : ts.toArray.extract 0 n = ts.toArray := by rw [← hsz]; exact Array.extract_size
  rw [e1, e2] at h3
  refine ⟨he, d'.toList.map (·.1), h3.map _, fun i j hij hj => ?_, by simpa using h1, ?_, below_sortWorld encLt hb hgb⟩
  · rw [List.length_map] at hj
    have := hs i j (Nat.zero_le _) hij (by rw [← h1]; simpa using hj)
    rw [ltOf_cf] at this
    have ei : ∀ k, k < d'.toList.length → (d'.toList.map (·.1)).getD k 0 = (d'[k]!).1 := fun k hk => by
      have hk' : k < d'.size := by simpa using hk
      rw [getElem!_pos d' k hk']
      simp [List.getD, hk']
    rw [ei j hj, ei i (by omega)]
    exact this
  · have hp2 := Lib.ownsRow_putRow (enc := encLt) (q := q) (k := n) (ys := d'.toList) ho hd (Nat.le_refl _)
    rw [List.take_of_length_le (by omega)] at hp2
    have hr := RowV.of_own hp2
    rw [encLt_ints] at hr
    have e3 : d'.toList.toArray = d' := by simp
    rw [e3] at hr
    exact (hr.1.keep (behind_grow _ os) (by simp)).own hr.2
theorem compact_row (zs : List Int) (base g n cap : Nat) (w : World) (ho : w.ownsRow base 3 1 (.slice (some ⟨g, 0, none⟩) n cap) n (ints zs)) (hgb : base ≤ g) (hn : zs.length = n) (hl : n ≤ 10000000000000) :
    Calls Tryd.prog 61 #[.slice (some ⟨g, 0, none⟩) n cap] w fun e w' => ∃ v, e = .returned v ∧ OwnI w' base [] v (Lib.compact zs) ∧ RowKit.Below base w w' := by
  have hr := RowV.of_own ho
  obtain ⟨c1, c2, c3, c4⟩ := hr.1.cells
  have hH : Holds (Value.int .i64) w g 0 zs.toArray := fun j hj => by
    have hj' : j < zs.length := by simpa using hj
    rw [Nat.zero_add]
    refine ⟨?_, c3 j⟩
    rw [c4 j zs[j] (by simp [hj'])]
    congr 2
    rw [getElem!_pos zs.toArray j hj]; simp
  have h := Tryd.slices_Compact_int g 0 cap zs w hH (by omega) (by omega)
  rw [hn] at h
  refine h.mono ?_
  rintro e w' ⟨rfl, q, rfl⟩
  have hcl := Lib.compact_length_le zs
  have hp2 := Lib.ownsRow_putRow (enc := Value.int .i64) (q := q) (k := (Lib.compact zs).length) (ys := Lib.compact zs ++ List.replicate (n - (Lib.compact zs).length) 0) ho (by simp; omega) (by omega)
  rw [List.take_left] at hp2
  have hr2 := RowV.of_own hp2
  exact ⟨_, rfl, ⟨hr2.1, hr2.2, by simp⟩, Lib.below_putRow (RowKit.Below.refl _ _) hgb⟩

set_option maxHeartbeats 1600000 in
theorem gOrder (t : List Int) (ht : ∀ x ∈ t, -128 ≤ x ∧ x ≤ 128) (N : Nat) (ta : Option Addr) (tc : Nat) (w : World) (hT : AtN N w ta (ints t)) (hl : t.length ≤ 10000000000000) (hw : N ≤ w.heap.size) :
    Calls Tryd.prog 46 #[.slice ta t.length tc] w (OrderPost t w) := by
  have K1 := clone_any t N ta tc w hT hl
  obtain ⟨Post, hPost⟩ : ∃ P : Ending → World → Prop, P = OrderPost t w := ⟨_, rfl⟩
  rw [← hPost]
  have HP := Lib.hid hPost
  clear hT hPost
  by_cases h0 : t.length = 0
  · obtain rfl : t = [] := List.length_eq_zero_iff.1 h0
    have K2 : ∀ (v : Value) (w1 : World), w1.ownsRow w.heap.size 3 1 v 0 [] → ∃ a c, v = .slice a 0 c := fun v w1 h => by
      obtain ⟨a, c, h2, _⟩ := own_at (M := []) (xs := []) ⟨(RowV.of_own h).1, (RowV.of_own h).2, by simp⟩
      exact ⟨a, c, h2⟩
    go_enter Tryd.func46, Tryd.ntmps46
    go_wp2_with fail
    refine K1.mono ?_
    rintro e w1 ⟨v, rfl, ho, _, hb⟩
    have HO := Lib.hid ho
    have HB := Lib.hid hb
    obtain ⟨a, c, rfl⟩ := K2 v w1 ho
    clear ho hb K1 K2
    go_wp2_with fail
    refine (Tryd.slices_SortFunc_none (α := Int) a c (.func (.func 59) #[] #[]) w1).mono ?_
    rintro e w2 ⟨rfl, rfl⟩
    go_wp2_with fail
    refine (Tryd.slices_Compact_int_empty a c w2).mono ?_
    rintro e w3 ⟨rfl, rfl⟩
    go_wp2_with fail
    rw [HP.out]
    exact ⟨_, [], rfl, .refl _, fun i j _ h => by simp at h, ⟨(RowV.of_own HO.out).1, (RowV.of_own HO.out).2, by simp⟩, HB.out⟩
  · obtain ⟨ts, rfl⟩ := lts_of ht
    have hts : 0 < (ts.map (·.1)).length := by omega
    have hnn : ts.length = (ts.map (·.1)).length := by simp
    generalize hn : (ts.map (·.1)).length = n at *
    go_enter Tryd.func46, Tryd.ntmps46
    go_wp2_with fail
    refine K1.mono ?_
    rintro e w1 ⟨v, rfl, ho, hv, hb⟩
    rw [← encLt_ints] at ho
    obtain ⟨g, cap, rfl, hg1, hg2, hnc, _, _, hH⟩ := Lib.holds_of_ownsRow ho (hv hts)
    have K2 := sort_row ts w.heap.size g n cap w1 ho hb.size hg1 hg2 hnn hl hH
    have HB := Lib.hid hb
    clear ho hv hb hH K1
    go_wp2_with fail
    refine K2.mono ?_
    rintro e w2 ⟨rfl, zs, z1, z2, z3, z4, z5⟩
    have K3 := compact_row zs w.heap.size g n cap w2 z4 hg1 z3 hl
    have HZ := Lib.hid (And.intro z1 z2)
    have HB2 := Lib.hid (HB.out.trans z5)
    clear z1 z2 z4 z5 K2
    go_wp2_with fail
    refine K3.mono ?_
    rintro e w3 ⟨v, rfl, hO, hB3⟩
    have HO := Lib.hid hO
    have HB3 := Lib.hid (HB2.out.trans hB3)
    clear hO hB3 K3
    go_wp2_with fail
    rw [HP.out]
    exact ⟨_, zs, rfl, HZ.out.1, HZ.out.2, HO.out, HB3.out⟩

set_option maxHeartbeats 1600000 in
set_option maxRecDepth 100000 in
/-- Are two neighbours opposite? -/
theorem gOpposite (c : List Int) (N : Nat) (ta : Option Addr) (tc : Nat) (w : World) (hT : AtN N w ta (ints c)) (hl : c.length ≤ 10000000000000) (hw : N ≤ w.heap.size) (hc : ∀ x ∈ c, -128 ≤ x ∧ x ≤ 128) :
    Calls Tryd.prog 47 #[.slice ta c.length tc] w fun e w' => e = .returned (.bool (oppL c)) ∧ Below w.heap.size w w' := by
  have HT := Lib.hid hT
  have HYES := Lib.hid (fun (i : Nat) (h1 : 0 < i) (h2 : i < c.length) (h3 : c.getD i 0 = -(c.getD (i - 1) 0)) => show oppL c = true from oppL_iff.2 ⟨i, h1, h2, h3⟩)
  have HNO := Lib.hid (fun (h : ∀ i, 0 < i → i < c.length → ¬ c.getD i 0 = -(c.getD (i - 1) 0)) => show oppL c = false from by
    rw [Bool.eq_false_iff]; intro h2
    obtain ⟨i, h3, h4, h5⟩ := oppL_iff.1 h2
    exact h i h3 h4 h5)
  have HC := Lib.hid (fun i (hi : i < c.length) => hc (c.getD i 0) (by simp [List.getD, hi]))
  clear hT hc
  generalize oppL c = r at *
  go_enter Tryd.func47, Tryd.ntmps47
  go_wp2_with fail
  go_loopw [3] (fun t3 wr => ∃ i : Nat, 0 < i ∧ (i ≤ c.length ∨ i = 1) ∧ t3 = .int .i64 i ∧ Hid (∀ k, 0 < k → k < i → k < c.length → ¬ c.getD k 0 = -(c.getD (k - 1) 0)) ∧ Hid (Below w.heap.size w wr)) (fun t3 _ => c.length - (intOf t3).toNat)
  case atStart => exact ⟨1, by omega, .inr rfl, rfl, fun k h1 h2 _ => by omega, Below.refl _ _⟩
  case round =>
    obtain ⟨i, hi0, hi1, rfl, HK, HB⟩ := hrel
    by_cases hlt : i < c.length
    · have hdd : decide (i < c.length) = true := by simpa using hlt
      have h1 : c[i]? = some (c.getD i 0) := by simp [List.getD, hlt]
      have h2 : c[i - 1]? = some (c.getD (i - 1) 0) := by simp [List.getD, show i - 1 < c.length by omega]
      obtain ⟨b, o, hb, rfl, k0⟩ := HT.out _ _ (ints_get _ _ _ h1)
      obtain ⟨b', o', hb', e, k1⟩ := HT.out _ _ (ints_get _ _ _ h2)
      cases e
      have c0 := Lib.hid (below_cell HB.out (show b < w.heap.size by omega) k0)
      have c1 := Lib.hid (below_cell HB.out (show b < w.heap.size by omega) k1)
      have hx := HC.out i hlt
      have hy := HC.out (i - 1) (by omega)
      have HY := Lib.hid (HYES.out i hi0 hlt)
      have HN := Lib.hid (fun (h : ¬ c.getD i 0 = -(c.getD (i - 1) 0)) => (show ∀ k, 0 < k → k < i + 1 → k < c.length → ¬ c.getD k 0 = -(c.getD (k - 1) 0) from fun k a1 a2 a3 => by
        by_cases hk : k = i
        · subst hk; exact h
        · exact HK.out k a1 (by omega) a3))
      have hsz := HB.out.size
      have ei : (i : Int) - 1 = ((i - 1 : Nat) : Int) := by omega
      clear h1 h2 k0 k1
      generalize c.getD i 0 = x at *
      generalize c.getD (i - 1) 0 = y at *
      go_upto_region 4 with fail
      go_cut [20] from 10 to 20 (fun t20 wx => ∃ bb, t20 = .bool bb ∧ Hid (bb = decide (x = -y)) ∧ Hid (Below w.heap.size w wx))
      case first =>
        refine wp_game (List.replicate 11 0) [] B0 fin_B0 (has_B0 _) (by kernel_rfl) (by kernel_rfl) ?_
        refine lex_quietE 11 (by kernel_rfl) (by rfl) ?_
        apply Exists.intro
        refine ⟨fun z hz1 => ?_, ?_⟩
        · have g1 := below_cellp hz1.below c0.out (by omega)
          have g2 := below_cellp hz1.below c1.out (by omega)
          clear hz1
          simp only [List.take_succ_cons, List.take_zero]
          unfold Cx
          repeat (go_big_quiet_step (fail))
          exact wpQuiet_nil rfl
        simp only [List.drop_succ_cons, List.drop_zero]
        refine lex_nil ?_
        intro x2 hx2 _
        have HB2 := Lib.hid (HB.out.trans (hx2.below.mono hsz))
        clear hx2
        go_wp2_with fail
        go_meet
        case rel =>
          refine ⟨_, rfl, ?_, HB2.out⟩
          show _ = _
          rw [Bool.eq_iff_iff, beq_iff_eq, decide_eq_true_eq]
      case rest =>
      obtain ⟨bb, rfl, HBB, HB2⟩ := hcut
      cases bb with
      | true =>
        have HR := Lib.hid (HY.out (of_decide_eq_true HBB.out.symm))
        clear HBB
        go_wp2_with fail
        go_ret
        exact ⟨by rw [HR.out]; rfl, HB2.out⟩
      | false =>
        have HR := Lib.hid (HN.out (of_decide_eq_false HBB.out.symm))
        clear HBB
        go_wp2_with fail
        go_roundw
        case rel => exact ⟨i + 1, by omega, .inl (by omega), by go_num, HR.out, HB2.out⟩
        case measure => simp [intOf]; omega
    · have hdd : decide (i < c.length) = false := by simpa using hlt
      have HR := Lib.hid (HNO.out fun k h1 h2 => HK.out k h1 (by omega) h2)
      go_wp2_with fail
      go_ret
      exact ⟨by rw [HR.out]; rfl, HB.out⟩

theorem compact_mem {zs : List Int} (hS : ∀ i j, i < j → j < zs.length → litLt (zs.getD j 0) (zs.getD i 0) = false) {x : Int} (h : x ∈ Lib.compact zs) : x ∈ zs := by
  unfold Lib.compact Lib.compactUpTo at h
  obtain ⟨j, hj, rfl⟩ := List.mem_map.1 h
  have hj' := List.mem_range.1 (List.mem_filter.1 hj).1
  rw [getElem!_pos zs.toArray j (by simpa using hj')]
  simp
def TermPost (t : List Int) (n : Int) (w : World) (e : Ending) (w' : World) : Prop := ∃ v, e = .returned (.tuple #[v, .bool (termOk t n)]) ∧ Below w.heap.size w w'
set_option maxHeartbeats 1600000 in
set_option maxRecDepth 100000 in
theorem gTermL (t : List Int) (n : Int) (hn : n ≤ 128) (N : Nat) (ta : Option Addr) (tc : Nat) (w : World) (hT : AtN N w ta (ints t)) (hl : t.length ≤ 10000000000000) (hw : N ≤ w.heap.size) :
    Calls Tryd.prog 27 #[.slice ta t.length tc, .int .i64 n] w (TermPost t n w) := by
  have K1 := gValidL t n hn N ta tc w hT (by omega) hw
  have HT := Lib.hid hT
  obtain ⟨Post, hPost⟩ : ∃ P : Ending → World → Prop, P = TermPost t n w := ⟨_, rfl⟩
  rw [← hPost]
  have HP := Lib.hid hPost
  clear hT hPost
  cases hv : (t.all fun x => litOk x n) with
  | false =>
    have HF := Lib.hid (show termOk t n = false by unfold termOk; rw [hv]; rfl)
    rw [hv] at K1
    clear hv
    go_enter Tryd.func27, Tryd.ntmps27
    go_wp2_with fail
    refine K1.mono ?_
    rintro e w1 ⟨rfl, hb⟩
    have HB := Lib.hid hb
    clear hb K1
    go_wp2_with fail
    rw [HP.out]
    exact ⟨_, by rw [HF.out]; rfl, HB.out⟩
  | true =>
    have hlit : ∀ x ∈ t, x ≠ 0 ∧ -n ≤ x ∧ x ≤ n := fun x hx => litOk_iff.1 (List.all_eq_true.1 hv x hx)
    have HO := Lib.hid (show termOk t n = t.all fun l => !t.contains (-l) by unfold termOk; rw [hv]; rfl)
    have HK := Lib.hid (fun (w1 : World) (hb : Below w.heap.size w w1) => gOrder t (fun x hx => by have := hlit x hx; omega) N ta tc w1 (HT.out.below hb hw) hl (Nat.le_trans hw hb.size))
    have HL := Lib.hid hlit
    rw [hv] at K1
    clear hv hlit
    go_enter Tryd.func27, Tryd.ntmps27
    go_wp2_with fail
    refine K1.mono ?_
    rintro e w1 ⟨rfl, hb⟩
    have HB := Lib.hid hb
    clear hb K1
    go_wp2_with fail
    refine (HK.out w1 HB.out).mono ?_
    rintro e w2 ⟨v, zs, rfl, z1, z2, z3, z4⟩
    have HB2 := Lib.hid (HB.out.trans (z4.mono HB.out.size))
    obtain ⟨a, c, rfl, hA⟩ := own_at z3
    have hcl : (Lib.compact zs).length ≤ 10000000000000 := by
      have := Lib.compact_length_le zs
      have := z1.length_eq
      omega
    have K3 := gOpposite (Lib.compact zs) _ a c w2 hA hcl (Nat.le_refl _) (fun x hx => by have := HL.out x (z1.mem_iff.1 (compact_mem z2 hx)); omega)
    have HR := Lib.hid (HO.out.trans (show _ = !oppL (Lib.compact zs) by rw [term_opp z1 z2 (fun x hx => (HL.out x hx).1), Bool.not_not]))
    generalize Lib.compact zs = ys at *
    clear z1 z2 z3 z4 hA HO HK HT HL hcl
    go_wp2_with fail
    refine K3.mono ?_
    rintro e w3 ⟨rfl, hb3⟩
    have HB3 := Lib.hid (HB2.out.trans (hb3.mono HB2.out.size))
    clear hb3 K3
    cases hq : oppL ys with
    | true =>
      rw [hq] at HR
      clear hq
      go_wp2_with fail
      rw [HP.out]
      exact ⟨_, by rw [HR.out]; rfl, HB3.out⟩
    | false =>
      rw [hq] at HR
      clear hq
      go_wp2_with fail
      rw [HP.out]
      exact ⟨_, by rw [HR.out]; rfl, HB3.out⟩
end Go.Proofs.YtchamkbnapjidaaDoor
