/- Texts of this claim, joined: JZ, HA, HB. -/
import Derived.Test.YtmaiofimmjedjaaDoorMW19
import Derived.Shelf.SlicesE.IndexFunc
import Derived.Recover
import Derived.Tactics2
import Derived.Laws.Pointers

/- The reader: every function at every text. -/
namespace Go.Proofs.YtmaiofimmjedjaaDoor
open Go.RowKit

theorem step_atom (c : Cf) (hc : c.Ok) (ts : List Tk) (hL : Less c .atom ts) : Con c .atom ts := by
  intro E nx o v gs w hts hS ho
  subst hts
  show Calls Tryd.prog 68 #[.pointer (some ⟨c.br, 0, none⟩)] w (OkP c E w v o (RI c.n .atom (TS c.l nx) o gs))
  rw [RI_atom, next_TS]
  cases ht : tokI (c.l.drop (nxtI c.l nx)) with
  | none => exact atom_none c hc E nx o v gs w hS ho ht
  | some t =>
    simp only []
    by_cases hv : varI c.n t = 0
    · rw [if_neg (fun h => h hv)]
      by_cases e1 : t = [33]
      · subst e1
        rw [if_pos rfl]
        exact atom_neg c hc E nx o v gs w hS ho hv hL ht
      rw [if_neg e1]
      by_cases e2 : t = [40]
      · subst e2
        rw [if_pos rfl]
        exact atom_par c hc E nx o v gs w hS ho hv hL ht
      rw [if_neg e2]
      by_cases e3 : t = [48]
      · subst e3
        rw [if_pos rfl]
        exact atom_zero c hc E nx o v gs w hS ho hv ht
      rw [if_neg e3]
      by_cases e4 : t = [49]
      · subst e4
        rw [if_pos rfl]
        exact atom_one c hc E nx o v gs w hS ho hv ht
      rw [if_neg e4]
      by_cases e5 : t = [97, 110, 100]
      · subst e5
        exact atom_and c hc E nx o v gs w hS ho hv hL ht
      by_cases e6 : t = [111, 114]
      · subst e6
        exact atom_or c hc E nx o v gs w hS ho hv hL ht
      by_cases e7 : t = [120, 111, 114]
      · subst e7
        exact atom_xor c hc E nx o v gs w hS ho hv hL ht
      by_cases e8 : t = [105, 102]
      · subst e8
        exact atom_if c hc E nx o v gs w hS ho hv hL ht
      have hw : wordI t = -1 := by unfold wordI; rw [if_neg e5, if_neg e6, if_neg e7, if_neg e8]
      rw [if_pos hw]
      exact atom_bad c hc E nx o v gs w hS ho t hv ⟨e1, e2, e3, e4, e5, e6, e7, e8⟩ ht
    · rw [if_pos hv]
      exact atom_var c hc E nx o v gs w hS ho t hv ht

theorem all_con (c : Cf) (hc : c.Ok) : ∀ (n : Nat) (m : Md) (ts : List Tk), bdI m ts < n → oneM m = true → Con c m ts := by
  intro n
  induction n with
  | zero => intro m ts h; omega
  | succ n ih =>
    intro m ts hn hm
    have hL : Less c m ts := fun m' ts' h1 h2 => ih m' ts' (by omega) h1
    cases m with
    | form => exact step_form c hc ts hL
    | impl => exact step_impl c hc ts hL
    | chain lv =>
      have h := of_decide_eq_true hm
      by_cases h7 : lv = 7
      · subst h7; exact step_chain7 c hc ts hL
      · exact step_chain c hc lv h.1 (by omega) ts hL
    | atom => exact step_atom c hc ts hL
    | _ => simp [oneM] at hm
theorem gFormula (c : Cf) (hc : c.Ok) (E : List Nat) (nx : Nat) (v : Value) (gs : List Gt) (w : World) (hS : St c E w nx 0 v gs) : Calls Tryd.prog 23 #[.pointer (some ⟨c.br, 0, none⟩)] w (OkP c E w v 0 (RI c.n .form (TS c.l nx) 0 gs)) :=
  all_con c hc _ .form (TS c.l nx) (Nat.lt_succ_self _) rfl E nx 0 v gs w rfl hS (by omega)
theorem St.circ {c : Cf} {E U : List Nat} {w w' : World} {nx o : Nat} {p : Option Addr} {m d : Nat} {gs : List Gt} (h : St c E w nx o (.slice p m d) gs) (hB : Behind w U w') (hU : ∀ g ∈ U, g ∈ E ∨ w.heap.size ≤ g) : CircAt w'.heap.size w' p gs :=
  (h.gr.keep (E' := []) hB (fun g hg => ⟨fun hm => (hU g hg).elim (fun he => (h.ex g he).2 (by simp [hm])) (fun e => by have := h.gr.lt g hm; omega), (hU g hg).elim (fun e => .inr (.inr e)) (fun e => .inr (.inl e))⟩) (fun g hg => by simp at hg)).circ
end Go.Proofs.YtmaiofimmjedjaaDoor

/- Circuits: which are valid. -/
namespace Go.Proofs.YtmaiofimmjedjaaDoor
open Go.RowKit

set_option maxHeartbeats 3200000 in
set_option maxRecDepth 100000 in
theorem gInputs (k : Int) (m : Nat) : Gives 56 #[.int .i64 k, .int .i64 (m : Int)] (.bool (manyI k m)) := by
  intro w
  have HM := Lib.hid (show ∀ r, manyI k m = r → (Ending.returned (.bool r) = Ending.returned (.bool (manyI k m)) ∧ Below w.heap.size w w) from fun r h => ⟨by rw [h], Below.refl _ _⟩)
  have HN := Lib.hid (show k ≠ 0 → k ≠ 1 → k ≠ 2 → k ≠ 3 → k ≠ 7 → k ≠ 8 → manyI k m = decide (k = 4 ∨ k = 5 ∨ k = 6) from fun h0 h1 h2 h3 h7 h8 => by unfold manyI; rw [if_neg (by omega), if_neg h3, if_neg h7, if_neg h8])
  by_cases k0 : k = 0
  · subst k0
    have HV := Lib.hid (show manyI 0 m = decide (m = 0) from rfl)
    by_cases hm : m = 0
    · subst hm
      go_enter Tryd.func56, Tryd.ntmps56
      go_wp2_with fail
      go_ret
      exact HM.out true (by rw [HV.out]; rfl)
    · have hb : ((m : Int) == 0) = false := beq_no (by omega)
      have HF := Lib.hid (show decide (m = 0) = false from decide_eq_false hm)
      have hd : decide (m = 0) = false := decide_eq_false hm
      clear hm
      go_enter Tryd.func56, Tryd.ntmps56
      go_wp2_with fail
      go_ret
      exact HM.out false (by rw [HV.out, HF.out])
  have b0 : (k == 0) = false := beq_no k0
  by_cases k1 : k = 1
  · subst k1
    have HV := Lib.hid (show manyI 1 m = decide (m = 0) from rfl)
    by_cases hm : m = 0
    · subst hm
      go_enter Tryd.func56, Tryd.ntmps56
      go_wp2_with fail
      go_ret
      exact HM.out true (by rw [HV.out]; rfl)
    · have hb : ((m : Int) == 0) = false := beq_no (by omega)
      have HF := Lib.hid (show decide (m = 0) = false from decide_eq_false hm)
      have hd : decide (m = 0) = false := decide_eq_false hm
      clear hm
      go_enter Tryd.func56, Tryd.ntmps56
      go_wp2_with fail
      go_ret
      exact HM.out false (by rw [HV.out, HF.out])
  have b1 : (k == 1) = false := beq_no k1
  by_cases k2 : k = 2
  · subst k2
    have HV := Lib.hid (show manyI 2 m = decide (m = 0) from rfl)
    by_cases hm : m = 0
    · subst hm
      go_enter Tryd.func56, Tryd.ntmps56
      go_wp2_with fail
      go_ret
      exact HM.out true (by rw [HV.out]; rfl)
    · have hb : ((m : Int) == 0) = false := beq_no (by omega)
      have HF := Lib.hid (show decide (m = 0) = false from decide_eq_false hm)
      have hd : decide (m = 0) = false := decide_eq_false hm
      clear hm
      go_enter Tryd.func56, Tryd.ntmps56
      go_wp2_with fail
      go_ret
      exact HM.out false (by rw [HV.out, HF.out])
  have b2 : (k == 2) = false := beq_no k2
  by_cases k3 : k = 3
  · subst k3
    have HV := Lib.hid (show manyI 3 m = decide (m = 1) from rfl)
    by_cases hm : m = 1
    · subst hm
      go_enter Tryd.func56, Tryd.ntmps56
      go_wp2_with fail
      go_ret
      exact HM.out true (by rw [HV.out]; rfl)
    · have hb : ((m : Int) == 1) = false := beq_no (by omega)
      have HF := Lib.hid (show decide (m = 1) = false from decide_eq_false hm)
      have hd : decide (m = 1) = false := decide_eq_false hm
      clear hm
      go_enter Tryd.func56, Tryd.ntmps56
      go_wp2_with fail
      go_ret
      exact HM.out false (by rw [HV.out, HF.out])
  have b3 : (k == 3) = false := beq_no k3
  by_cases k7 : k = 7
  · subst k7
    have HV := Lib.hid (show manyI 7 m = decide (m = 2) from rfl)
    by_cases hm : m = 2
    · subst hm
      go_enter Tryd.func56, Tryd.ntmps56
      go_wp2_with fail
      go_ret
      exact HM.out true (by rw [HV.out]; rfl)
    · have hb : ((m : Int) == 2) = false := beq_no (by omega)
      have HF := Lib.hid (show decide (m = 2) = false from decide_eq_false hm)
      have hd : decide (m = 2) = false := decide_eq_false hm
      clear hm
      go_enter Tryd.func56, Tryd.ntmps56
      go_wp2_with fail
      go_ret
      exact HM.out false (by rw [HV.out, HF.out])
  have b7 : (k == 7) = false := beq_no k7
  by_cases k8 : k = 8
  · subst k8
    have HV := Lib.hid (show manyI 8 m = decide (m = 3) from rfl)
    by_cases hm : m = 3
    · subst hm
      go_enter Tryd.func56, Tryd.ntmps56
      go_wp2_with fail
      go_ret
      exact HM.out true (by rw [HV.out]; rfl)
    · have hb : ((m : Int) == 3) = false := beq_no (by omega)
      have HF := Lib.hid (show decide (m = 3) = false from decide_eq_false hm)
      have hd : decide (m = 3) = false := decide_eq_false hm
      clear hm
      go_enter Tryd.func56, Tryd.ntmps56
      go_wp2_with fail
      go_ret
      exact HM.out false (by rw [HV.out, HF.out])
  have b8 : (k == 8) = false := beq_no k8
  have HO := Lib.hid (HN.out k0 k1 k2 k3 k7 k8)
  clear HN
  by_cases k4 : k = 4
  · subst k4
    clear k0 k1 k2 k3 k7 k8 b0 b1 b2 b3 b7 b8
    go_enter Tryd.func56, Tryd.ntmps56
    go_wp2_with fail
    go_ret
    exact HM.out true (by rw [HO.out]; decide)
  have b4 : (k == 4) = false := beq_no k4
  by_cases k5 : k = 5
  · subst k5
    clear k0 k1 k2 k3 k7 k8 b0 b1 b2 b3 b7 b8 k4 b4
    go_enter Tryd.func56, Tryd.ntmps56
    go_wp2_with fail
    go_ret
    exact HM.out true (by rw [HO.out]; decide)
  have b5 : (k == 5) = false := beq_no k5
  by_cases k6 : k = 6
  · subst k6
    clear k0 k1 k2 k3 k7 k8 b0 b1 b2 b3 b7 b8 k4 b4 k5 b5
    go_enter Tryd.func56, Tryd.ntmps56
    go_wp2_with fail
    go_ret
    exact HM.out true (by rw [HO.out]; decide)
  have b6 : (k == 6) = false := beq_no k6
  have HF := Lib.hid (show decide (k = 4 ∨ k = 5 ∨ k = 6) = false from decide_eq_false (by omega))
  go_enter Tryd.func56, Tryd.ntmps56
  go_wp2_with fail
  go_ret
  exact HM.out false (by rw [HO.out, HF.out])

def badI (i : Nat) (x : Int) : Bool := decide (x < 0) || decide ((i : Int) ≤ x)
set_option maxHeartbeats 1600000 in
theorem gGood1 (x : Int) (i : Nat) (b : Nat) (w : World) (hc : w.cell? ⟨b, 0, none⟩ = some (.int .i64 (i : Int))) : Calls Tryd.prog 59 #[.int .i64 x, .pointer (some ⟨b, 0, none⟩)] w fun e w' => e = .returned (.bool (badI i x)) ∧ w' = w := by
  unfold badI
  by_cases h0 : x < 0
  · have hd : decide (x < 0) = true := decide_eq_true h0
    rw [hd]
    go_enter Tryd.func59, Tryd.ntmps59
    go_wp2_with fail
    go_ret
    exact ⟨by simp, rfl⟩
  · have hd : decide (x < 0) = false := decide_eq_false h0
    rw [hd]
    go_enter Tryd.func59, Tryd.ntmps59
    go_wp2_with fail
    go_ret
    exact ⟨by simp, rfl⟩
theorem any_bad (t : List Int) (i : Nat) : (t.any fun x => badI i x) = !(t.all fun k => decide (0 ≤ k ∧ k < i)) := by
  induction t with
  | nil => rfl
  | cons a t ih =>
    rw [List.any_cons, List.all_cons, ih, Bool.not_and]
    congr 1
    unfold badI
    by_cases h0 : a < 0
    · rw [decide_eq_true h0, show decide (0 ≤ a ∧ a < (i : Int)) = false from decide_eq_false (by omega)]; simp
    · rw [decide_eq_false h0]
      by_cases h1 : (i : Int) ≤ a
      · rw [decide_eq_true h1, show decide (0 ≤ a ∧ a < (i : Int)) = false from decide_eq_false (by omega)]; rfl
      · rw [decide_eq_false h1, show decide (0 ≤ a ∧ a < (i : Int)) = true from decide_eq_true (by omega)]; rfl
theorem contains_good (t : List Int) (i : Nat) (b : Nat) (N : Nat) (ta : Option Addr) (tc : Nat) (w : World) (hT : AtN N w ta (ints t)) (hl : t.length ≤ 9223372036854775807) (hb : b < w.heap.size) (hc : w.cell? ⟨b, 0, none⟩ = some (.int .i64 (i : Int))) :
    Calls Tryd.prog 58 #[.slice ta t.length tc, .func (.func 59) #[] #[.pointer (some ⟨b, 0, none⟩)]] w fun e w' => e = .returned (.bool (!(t.all fun k => decide (0 ≤ k ∧ k < i)))) ∧ Below w.heap.size w w' := by
  rw [← any_bad]
  by_cases h0 : t.length = 0
  · obtain rfl : t = [] := List.length_eq_zero_iff.1 h0
    exact (Tryd.slices_ContainsFunc_empty (α := Int) ta tc (.func (.func 59) #[] #[.pointer (some ⟨b, 0, none⟩)]) w).mono fun e w' ⟨he, hw⟩ => ⟨he, by rw [hw]; exact Below.refl _ _⟩
  · obtain ⟨g, o, _, rfl, hcell⟩ := hT.base (by rw [show (ints t).length = t.length by simp [ints]]; omega)
    have eg : ∀ args w, (callFunc 59 args).run Tryd.prog w = .ok (.enter 59 args) w := enters_of Tryd.func59 (by kernel_rfl) rfl
    have hp : PredAt Tryd.prog 59 #[.pointer (some ⟨b, 0, none⟩)] (Value.int .i64) (fun x => badI i x) w := fun W x hW => (gGood1 x i b W (below_cell hW hb hc)).mono fun e w' ⟨he, hw⟩ => ⟨he, 0, hw⟩
    have h := Tryd.slices_ContainsFunc (α := Int) (Value.int .i64) (fun x => badI i x) 59 #[.pointer (some ⟨b, 0, none⟩)] eg g o t.length tc t w hp (Nat.le_refl _) hl (fun j hj => by
      have := hcell j (.int .i64 (t.getD j 0)) (ints_get _ _ _ (by simp [List.getD, hj]))
      rw [this]
      congr 2
      simp [List.getD, hj])
    rw [List.take_length] at h
    refine h.mono ?_
    rintro e w' ⟨he, q, rfl⟩
    exact ⟨he, ⟨rfl, rfl, rfl, Nat.le_refl _, fun _ _ => rfl⟩⟩

theorem goodI_eq (n : Int) (i : Nat) (g : Gt) : goodI n i g = (manyI g.k g.ins.length && (if g.k = 2 then litI g.lit n else decide (g.lit = 0)) && g.ins.all fun k => decide (0 ≤ k ∧ k < i)) := rfl
set_option maxHeartbeats 6400000 in
set_option maxRecDepth 100000 in
theorem gGood (n : Int) (gs : List Gt) (a : Option Addr) (c i : Nat) (g : Gt) (w : World) (hC : CircAt w.heap.size w a gs) (hg : gs[i]? = some g) (hf : g.ins.length ≤ 140737488355328) (h0 : 0 ≤ n) (h1 : n ≤ 128) (hi : i ≤ 4096) (hl : gs.length ≤ 4096) : Calls Tryd.prog 32 #[.agg #[.int .i64 n, .slice a gs.length c], .int .i64 (i : Int)] w fun e w' => e = .returned (.bool (goodI n i g)) ∧ Below w.heap.size w w' := by
  obtain ⟨b, o, p, d, hb, rfl, k0, k1, k2, hins⟩ := hC i g hg
  have hlt := (List.getElem?_eq_some_iff.1 hg).1
  have HR := Lib.hid (goodI_eq n i g)
  obtain ⟨r, hr⟩ : ∃ r, r = goodI n i g := ⟨_, rfl⟩
  rw [← hr] at HR ⊢
  obtain ⟨k, l, ins⟩ := g
  simp only at HR k0 k1 k2 hins hf
  have KI := gInputs k ins.length
  have KV := gValid l n h1
  have HINS := Lib.hid hins
  have hn := Lib.hid (show (ints ins).length = ins.length by simp [ints])
  obtain ⟨m, hm⟩ : ∃ m, m = ins.length := ⟨_, rfl⟩
  rw [← hm] at KI HR k2 hf
  have HM := Lib.hid hm
  obtain ⟨mi, hmi⟩ : ∃ mi, mi = manyI k m := ⟨_, rfl⟩
  rw [← hmi] at KI HR
  obtain ⟨li, hli⟩ : ∃ li, li = litI l n := ⟨_, rfl⟩
  rw [← hli] at KV HR
  have hmf : ∀ (fn : Fn) (first cap : Array Value) (w : World), (Instr.makeFunc fn first cap).run Tryd.prog w = .ok (.func fn first cap) w := fun _ _ _ _ => rfl
  have hBa : Below w.heap.size w ((w.alloc (.cells #[.int .i64 n, .slice (some ⟨b, o, none⟩) gs.length c] 24 (0, 0))).alloc (.cells #[.int .i64 (i : Int)] 3 (0, 0))) := (below_one w _).trans ((below_one _ _).mono (by simp))
  have HBA := Lib.hid hBa
  have q0 := below_cell hBa hb k0
  have q1 := below_cell hBa hb k1
  have q2 := below_cell hBa hb k2
  clear hr hm hmi hli hins hC hg k0 k1 k2 hBa
  go_enter Tryd.func32, Tryd.ntmps32
  go_wp2_with fail
  refine (KI _).mono ?_
  rintro e w1 ⟨rfl, hB1⟩
  obtain ⟨x0, x1, x2⟩ := three_at w (.cells #[.int .i64 n, .slice (some ⟨b, o, none⟩) gs.length c] 24 (0, 0)) (.cells #[.int .i64 (i : Int)] 3 (0, 0)) (.cells #[.int .i64 k, .int .i64 l, .slice p m d] 37 (0, 0))
  have Y0 := Lib.hid ((behind_of_below hB1).keep x0 (by simp))
  have Y1 := Lib.hid ((behind_of_below hB1).keep x1 (by simp))
  have Y2 := Lib.hid ((behind_of_below hB1).keep x2 (by simp))
  have HB1 := Lib.hid ((three_below w (.cells #[.int .i64 n, .slice (some ⟨b, o, none⟩) gs.length c] 24 (0, 0)) (.cells #[.int .i64 (i : Int)] 3 (0, 0)) (.cells #[.int .i64 k, .int .i64 l, .slice p m d] 37 (0, 0))).trans (hB1.mono (three_below w _ _ _).size))
  have y0 := blk_cell Y0.out 0 rfl
  have y1 := blk_cell Y1.out 0 rfl
  have y20 := blk_cell Y2.out 0 rfl
  have y21 := blk_cell Y2.out 1 rfl
  have y22 := blk_cell Y2.out 2 rfl
  have HFIN := Lib.hid (show ∀ (w2 : World), Below w.heap.size w w2 → w2.heap[w.heap.size + 1]? = some (.cells #[.int .i64 (i : Int)] 3 (0, 0)) → Calls Tryd.prog 58 #[.slice p m d, .func (.func 59) #[] #[.pointer (some ⟨w.heap.size + 1, 0, none⟩)]] w2 fun e w' => e = .returned (.bool (!(ins.all fun k => decide (0 ≤ k ∧ k < i)))) ∧ Below w2.heap.size w2 w' from fun w2 hb2 hx => by
    rw [HM.out]
    exact contains_good ins i (w.heap.size + 1) w.heap.size p d w2 (HINS.out.below hb2 (Nat.le_refl _)) (by rw [← HM.out]; omega) (lt_of_heap hx) (blk_cell hx 0 rfl))
  clear x0 x1 x2 hB1 KI q0 q1 q2 hf
  cases mi with
  | false =>
    go_wp2_with fail
    go_ret
    exact ⟨by rw [HR.out]; rfl, HB1.out⟩
  | true =>
  by_cases k2 : k = 2
  · subst k2
    go_wp2_with fail
    refine (KV _).mono ?_
    rintro e w2 ⟨rfl, hB2⟩
    have HB2 := Lib.hid (HB1.out.trans (hB2.mono HB1.out.size))
    have Z1 := Lib.hid ((behind_of_below hB2).keep Y1.out (by simp))
    have Z2 := Lib.hid ((behind_of_below hB2).keep Y2.out (by simp))
    have z20 := blk_cell Z2.out 0 rfl
    have z21 := blk_cell Z2.out 1 rfl
    have z22 := blk_cell Z2.out 2 rfl
    have KC := HFIN.out w2 HB2.out Z1.out
    clear hB2 KV y0 y1 y20 y21 y22
    cases li with
    | false =>
      go_wp2_with fail
      go_ret
      exact ⟨by rw [HR.out]; rfl, HB2.out⟩
    | true =>
      obtain ⟨al, hal⟩ : ∃ al, al = ins.all fun k => decide (0 ≤ k ∧ k < i) := ⟨_, rfl⟩
      rw [← hal] at KC HR
      clear hal
      go_wp2_with fail
      refine KC.mono ?_
      rintro e w3 ⟨rfl, hB3⟩
      have HB3 := Lib.hid (HB2.out.trans (hB3.mono HB2.out.size))
      clear hB3 KC
      go_wp2_with fail
      go_ret
      exact ⟨by rw [HR.out]; simp, HB3.out⟩
  · have bk : (k == 2) = false := beq_no k2
    have bk2 : (k != 2) = true := by simp [bne, bk]
    by_cases hl0 : l = 0
    · subst hl0
      have KC := HFIN.out w1 HB1.out Y1.out
      obtain ⟨al, hal⟩ : ∃ al, al = ins.all fun k => decide (0 ≤ k ∧ k < i) := ⟨_, rfl⟩
      rw [← hal] at KC HR
      have HR2 := Lib.hid (show r = al by rw [HR.out, if_neg k2]; simp)
      clear hal HR
      go_wp2_with fail
      refine KC.mono ?_
      rintro e w3 ⟨rfl, hB3⟩
      have HB3 := Lib.hid (HB1.out.trans (hB3.mono HB1.out.size))
      clear hB3 KC
      go_wp2_with fail
      go_ret
      exact ⟨by rw [HR2.out]; simp, HB3.out⟩
    · have bl : (l != 0) = true := by simp [bne, beq_no hl0]
      have HR2 := Lib.hid (show r = false by rw [HR.out, if_neg k2, decide_eq_false hl0]; simp)
      clear HR
      go_wp2_with fail
      go_ret
      exact ⟨by rw [HR2.out]; rfl, HB1.out⟩

theorem allGoodI_iff {n : Int} : ∀ (gs : List Gt) (k : Nat), allGoodI n k gs = true ↔ ∀ i g, gs[i]? = some g → goodI n (k + i) g = true
  | [], k => by simp [allGoodI]
  | g :: gs, k => by
    rw [allGoodI, Bool.and_eq_true, allGoodI_iff gs (k + 1)]
    constructor
    · rintro ⟨h1, h2⟩ i x hx
      cases i with
      | zero => simp at hx; subst hx; exact h1
      | succ i => have := h2 i x (by simpa using hx); rw [show k + (i + 1) = k + 1 + i by omega]; exact this
    · intro h
      exact ⟨h 0 g rfl, fun i x hx => by rw [show k + 1 + i = k + (i + 1) by omega]; exact h (i + 1) x (by simpa using hx)⟩
set_option maxHeartbeats 6400000 in
set_option maxRecDepth 100000 in
theorem gCheck (n : Int) (gs : List Gt) (a : Option Addr) (c : Nat) (w : World) (hC : CircAt w.heap.size w a gs) (hf : Fits gs) (hl : gs.length ≤ 140737488355328) : Calls Tryd.prog 13 #[.agg #[.int .i64 n, .slice a gs.length c]] w fun e w' => e = .returned (.int .i64 (checkI n gs)) ∧ Below w.heap.size w w' := by
  obtain ⟨Post, hPost⟩ : ∃ P : Ending → World → Prop, P = fun e w' => e = .returned (.int .i64 (checkI n gs)) ∧ Below w.heap.size w w' := ⟨_, rfl⟩
  rw [← hPost]
  have HP := Lib.hid (show ∀ (r : Int) (w' : World), checkI n gs = r → Below w.heap.size w w' → Post (.returned (.int .i64 r)) w' from fun r w' h hb => by rw [hPost]; exact ⟨by rw [h], hb⟩)
  clear hPost
  have HC := Lib.hid hC
  have HFI := Lib.hid hf
  clear hC hf
  by_cases h1 : n < 0
  · have hd := Lib.hid (show checkI n gs = 6 by unfold checkI; rw [if_pos (.inl h1)])
    have hd1 : decide (n < 0) = true := decide_eq_true h1
    go_enter Tryd.func13, Tryd.ntmps13
    go_wp2_with fail
    exact HP.out _ _ hd.out (below_one w _)
  by_cases h2 : 128 < n
  · have hd := Lib.hid (show checkI n gs = 6 by unfold checkI; rw [if_pos (.inr h2)])
    have hd1 : decide (n < 0) = false := decide_eq_false h1
    have hd2 : decide (128 < n) = true := decide_eq_true h2
    go_enter Tryd.func13, Tryd.ntmps13
    go_wp2_with fail
    exact HP.out _ _ hd.out (below_one w _)
  have hd1 : decide (n < 0) = false := decide_eq_false h1
  have hd2 : decide (128 < n) = false := decide_eq_false h2
  by_cases h3 : 4096 < gs.length
  · have hd := Lib.hid (show checkI n gs = 2 by unfold checkI; rw [if_neg (by omega), if_pos (.inl h3)])
    have hd3 : decide ((4096 : Int) < (gs.length : Int)) = true := decide_eq_true (by omega)
    have hd4 : decide (4096 < gs.length) = true := decide_eq_true h3
    go_enter Tryd.func13, Tryd.ntmps13
    go_wp2_with fail
    exact HP.out _ _ hd.out (below_one w _)
  have hd3 : decide ((4096 : Int) < (gs.length : Int)) = false := decide_eq_false (by omega)
  have hd4 : decide (4096 < gs.length) = false := decide_eq_false h3
  have hB1 := below_one w (.cells #[.int .i64 n, .slice a gs.length c] 24 (0, 0))
  have KS := gSize n gs a c _ (HC.out.later hB1) HFI.out (by omega)
  have HCK := Lib.hid (show checkI n gs = if 65536 < sizeI gs then 2 else if gs = [] then 1 else if allGoodI n 0 gs then 0 else 1 by
    unfold checkI
    rw [if_neg (by omega)]
    by_cases hs : 65536 < sizeI gs
    · rw [if_pos (.inr hs), if_pos hs]
    · rw [if_neg (by omega), if_neg hs])
  have HB1 := Lib.hid hB1
  have A1 := Lib.hid (new_one w (.cells #[.int .i64 n, .slice a gs.length c] 24 (0, 0)))
  have HSL := Lib.hid (sizeI_le HFI.out gs.length (Nat.le_refl _))
  rw [List.take_length] at HSL
  obtain ⟨sz, hsz⟩ : ∃ sz, sz = sizeI gs := ⟨_, rfl⟩
  rw [← hsz] at KS HCK HSL
  have hsl := HSL.out
  clear hsz hB1
  go_enter Tryd.func13, Tryd.ntmps13
  go_wp2_with fail
  refine KS.mono ?_
  rintro e w2 ⟨rfl, hB2⟩
  have HB2 := Lib.hid (HB1.out.trans (hB2.mono HB1.out.size))
  have A2 := Lib.hid ((behind_of_below hB2).keep A1.out (by simp))
  have a0 := blk_cell A2.out 0 rfl
  have a1 := blk_cell A2.out 1 rfl
  clear hB2 KS A1 HB1
  by_cases h5 : 65536 < sz
  · have hd5 : decide ((65536 : Int) < (sz : Int)) = true := decide_eq_true (by omega)
    have hd6 : decide (65536 < sz) = true := decide_eq_true h5
    have hck := Lib.hid (HCK.out.trans (if_pos h5))
    go_wp2_with fail
    exact HP.out _ _ hck.out HB2.out
  have hd5 : decide ((65536 : Int) < (sz : Int)) = false := decide_eq_false (by omega)
  have hd6 : decide (65536 < sz) = false := decide_eq_false h5
  have HCK2 := Lib.hid (HCK.out.trans (if_neg h5))
  by_cases h7 : gs = []
  · have hck := Lib.hid (HCK2.out.trans (if_pos h7))
    subst h7
    go_wp2_with fail
    exact HP.out _ _ hck.out HB2.out
  have h8 : gs.length ≠ 0 := fun e => h7 (List.length_eq_zero_iff.1 e)
  have hd8 : ((gs.length : Int) == 0) = false := beq_no (by omega)
  have hd9 : (gs.length == 0) = false := beq_eq_false_iff_ne.2 h8
  have HCK3 := Lib.hid (HCK2.out.trans (if_neg h7))
  clear HCK HCK2 h7
  go_wp2_with fail
  go_loopw [31] (fun t31 wr => ∃ j : Nat, j ≤ gs.length ∧ t31 = .int .i64 j ∧ Hid (∀ i g, i < j → gs[i]? = some g → goodI n i g = true) ∧ Hid (Below w.heap.size w wr) ∧ Hid (wr.heap[w.heap.size]? = some (.cells #[.int .i64 n, .slice a gs.length c] 24 (0, 0)))) (fun t31 _ => gs.length - (intOf t31).toNat)
  case atStart => exact ⟨0, Nat.zero_le _, rfl, (fun i g h => by omega), HB2.out, A2.out⟩
  case round =>
    obtain ⟨j, hj, rfl, HG, HB, HA⟩ := hrel
    have r0 := blk_cell HA.out 0 rfl
    have r1 := blk_cell HA.out 1 rfl
    clear a0 a1 A2
    by_cases hlt : j < gs.length
    · have hdd : decide ((j : Int) < (gs.length : Int)) = true := decide_eq_true (by omega)
      have hdd2 : decide (j < gs.length) = true := decide_eq_true hlt
      obtain ⟨g, hg⟩ : ∃ g, gs[j]? = some g := ⟨_, List.getElem?_eq_getElem hlt⟩
      have KG := gGood n gs a c j g wr ((HC.out.below HB.out (Nat.le_refl _)).mono HB.out.size) hg (HFI.out g (List.mem_of_getElem? hg)) (by omega) (by omega) (by omega) (by omega)
      have HGJ := Lib.hid hg
      obtain ⟨gg, hgg⟩ : ∃ gg, gg = goodI n j g := ⟨_, rfl⟩
      rw [← hgg] at KG
      have HGG := Lib.hid hgg
      clear hg hgg
      go_wp2_with fail
      refine KG.mono ?_
      rintro e w4 ⟨rfl, hB4⟩
      have HB4 := Lib.hid (HB.out.trans (hB4.mono HB.out.size))
      have HA4 := Lib.hid ((behind_of_below hB4).keep HA.out (by simp))
      clear hB4 KG
      cases gg with
      | false =>
        have hck := Lib.hid (HCK3.out.trans (if_neg (fun h => by have := (allGoodI_iff gs 0).1 h j g HGJ.out; rw [Nat.zero_add, ← HGG.out] at this; cases this)))
        go_wp2_with fail
        exact HP.out _ _ hck.out HB4.out
      | true =>
        go_wp2_with fail
        go_roundw
        case rel => exact ⟨j + 1, by omega, by go_num, (fun i x hi hx => by
          by_cases e : i = j
          · subst e; rw [HGJ.out] at hx; cases hx; exact HGG.out.symm
          · exact HG.out i x (by omega) hx), HB4.out, HA4.out⟩
        case measure => simp [intOf]; omega
    · obtain rfl : j = gs.length := by omega
      have hdd : decide ((gs.length : Int) < (gs.length : Int)) = false := by simp
      have hck := Lib.hid (HCK3.out.trans (if_pos ((allGoodI_iff gs 0).2 (fun i g hg => by rw [Nat.zero_add]; exact HG.out i g (List.getElem?_eq_some_iff.1 hg).1 hg))))
      go_wp2_with fail
      exact HP.out _ _ hck.out HB.out
end Go.Proofs.YtmaiofimmjedjaaDoor

/- Parse: what the recovering function does. -/
namespace Go.Proofs.YtmaiofimmjedjaaDoor
open Go.RowKit

abbrev entryW (q : Nat) (en : Int) (r : Bool) : PanicEntry := { v := wrongV q en, recovered := r }
set_option maxHeartbeats 3200000 in
set_option maxRecDepth 100000 in
theorem catchI (bc ba be : Nat) (w : World) :
    CallsD Tryd.prog 22 #[.pointer (some ⟨bc, 0, none⟩), .pointer (some ⟨ba, 0, none⟩), .pointer (some ⟨be, 0, none⟩)] .returning w fun e u' w' => e = .returned (.tuple #[]) ∧ u' = .returning ∧ w' = w := by
  refine callsD_of_wpS Tryd.func22 rfl fun c₀ cs hu => ?_
  simp only [Tryd.ntmps22, List.size_toArray, List.length_cons, List.length_nil, Nat.reduceAdd, Nat.reduceSub, Array.replicate_succ, Array.replicate_zero, List.push_toArray, List.append_toArray, List.nil_append, List.cons_append]
  apply wpS_seq
  apply wpS_region
  simp [wpOpsS, go_sem, recoverD, hu, Exit.thenS]
  refine wpS_of_wp ?_
  go_wp2_with fail
  exact ⟨rfl, _, rfl, _, by simp [results, Tryd.results22], rfl, by cases c₀; simp_all, rfl⟩

theorem assert_wrong (v : Value) (w : World) : (Instr.typeAssert (.iface 54 v) 20 54 true).run Tryd.prog w = .ok (.tuple #[v, .bool true]) w := by
  simp [Instr.typeAssert, run_underlying Tryd.underlying54, Result.andThen]
set_option maxHeartbeats 3200000 in
set_option maxRecDepth 100000 in
theorem catchW (bc ba be : Nat) (w : World) (q : Nat) (en : Int) (a b x y : Value) (h1 : w.heap[bc]? = some (.cells #[a, b] 24 (0, 0))) (h2 : w.heap[ba]? = some (.cells #[x] 3 (0, 0))) (h3 : w.heap[be]? = some (.cells #[y] 27 (0, 0))) (h12 : bc ≠ ba) (h13 : bc ≠ be) (h23 : ba ≠ be) :
    CallsD Tryd.prog 22 #[.pointer (some ⟨bc, 0, none⟩), .pointer (some ⟨ba, 0, none⟩), .pointer (some ⟨be, 0, none⟩)] (.panicking [entryW q en false]) w fun e u' w' =>
      e = .returned (.tuple #[]) ∧ u' = .panicking [entryW q en true] ∧ Behind w [bc, ba, be] w' ∧ w'.heap[bc]? = some (.cells #[.int .i64 0, .slice none 0 0] 24 (0, 0)) ∧ w'.heap[ba]? = some (.cells #[.int .i64 (q : Nat)] 3 (0, 0)) ∧ w'.heap[be]? = some (.cells #[.int .i64 en] 27 (0, 0)) := by
  refine callsD_of_wpS Tryd.func22 rfl fun c₀ cs hu => ?_
  simp only [Tryd.ntmps22, List.size_toArray, List.length_cons, List.length_nil, Nat.reduceAdd, Nat.reduceSub, Array.replicate_succ, Array.replicate_zero, List.push_toArray, List.append_toArray, List.nil_append, List.cons_append]
  apply wpS_seq
  apply wpS_region
  simp [wpOpsS, go_sem, recoverD, hu, Exit.thenS]
  refine wpS_of_wp ?_
  simp only [wrongV]
  have hta := assert_wrong (.agg #[.int .i64 (q : Int), .int .i64 en])
  have H1 := Lib.hid h1
  have H2 := Lib.hid h2
  have H3 := Lib.hid h3
  clear h1 h2 h3
  go_wp2_with fail
  have hk1 := new_one w (.cells #[.int .i64 (q : Int), .int .i64 en] 54 (0, 0))
  have hbw := below_one w (.cells #[.int .i64 (q : Int), .int .i64 en] 54 (0, 0))
  have HK1 := Lib.hid hk1
  have HBW := Lib.hid hbw
  have hl1 := lt_of_heap H1.out
  have hl2 := lt_of_heap H2.out
  have hl3 := lt_of_heap H3.out
  clear hk1 hbw
  refine wp_seq 5 (fun y => y.heap[w.heap.size]? = some (.cells #[.int .i64 (q : Int), .int .i64 en] 54 (0, 0))) (by kernel_rfl) (by kernel_rfl) (fun c d v a w h => by cases d <;> exact h) ?_
  intro x4 hx4
  have HK4 := Lib.hid (hx4.keep HK1.out (by simp))
  have hb4 : Behind w [bc, ba, be] x4 := ((behind_of_below HBW.out).trans hx4 (by simp)).mono (by simp)
  have HB4 := Lib.hid hb4
  have hx1 := hx4.keep ((behind_of_below HBW.out).keep H1.out (by simp)) (by simp)
  have hx2 := hx4.keep ((behind_of_below HBW.out).keep H2.out (by simp)) (by simp)
  have hx3 := hx4.keep ((behind_of_below HBW.out).keep H3.out (by simp)) (by simp)
  have X1 := Lib.hid hx1
  have X2 := Lib.hid hx2
  have X3 := Lib.hid hx3
  have c10 := blk_cell hx1 0 rfl
  have c11 := blk_cell hx1 1 rfl
  have f10 := blk_free hx1 0
  have f11 := blk_free hx1 1
  have c2 := blk_cell hx2 0 rfl
  have f2 := blk_free hx2 0
  have c3 := blk_cell hx3 0 rfl
  have f3 := blk_free hx3 0
  have n12 : ¬ ba = bc := fun e => h12 e.symm
  have n13 : ¬ be = bc := fun e => h13 e.symm
  have n23 : ¬ be = ba := fun e => h23 e.symm
  have m12 : ¬ bc = ba := h12
  have m13 : ¬ bc = be := h13
  have m23 : ¬ ba = be := h23
  have hk0 : w.heap.size ≠ bc := by omega
  have hk2 : w.heap.size ≠ ba := by omega
  clear hx4 hb4 hx1 hx2 hx3
  simp only [List.take_succ_cons, List.take_zero, List.drop_succ_cons, List.drop_zero]
  refine ⟨.agg #[.int .i64 0, .slice none 0 0], ⟨by rfl, fun y hy => by clear hy; go_simp⟩, ?_⟩
  refine ⟨.pointer (some ⟨w.heap.size, 0, none⟩), ⟨by rfl, fun y hy => by clear hy; go_simp⟩, ?_⟩
  refine ⟨.int .i64 (q : Int), ⟨by rfl, fun y hy => by have := blk_cell hy 0 rfl; clear hy; go_simp⟩, ?_⟩
  refine ⟨.pointer (some ⟨w.heap.size, 1, none⟩), ⟨by rfl, fun y hy => by clear hy; go_simp⟩, ?_⟩
  refine ⟨.int .i64 en, ⟨by rfl, fun y hy => by have := blk_cell hy 1 rfl; clear hy; go_simp⟩, ?_⟩
  show SeqW Tryd.prog _ _ _ _ _ _ _
  refine SeqW.step (by rfl) HK4.out ?_
  go_wp2_with fail
  show SeqW Tryd.prog _ _ _ _ _ _ _
  have hs5 : Behind x4 [bc, ba, be] ((x4.setCell ⟨bc, 0, none⟩ (.int .i64 0)).setCell ⟨bc, 1, none⟩ (.slice none 0 0)) := ((behind_set1 (b := bc) (o := 0)).trans (behind_set1 (b := bc) (o := 1)) (fun k hk => .inl hk)).mono (by simp)
  have hk5 : ((x4.setCell ⟨bc, 0, none⟩ (.int .i64 0)).setCell ⟨bc, 1, none⟩ (.slice none 0 0)).heap[w.heap.size]? = some (.cells #[.int .i64 (q : Int), .int .i64 en] 54 (0, 0)) := hs5.keep HK4.out (by simp; omega)
  have Z1 := Lib.hid (heap_setCell_same _ bc 1 _ _ (.slice none 0 0) (heap_setCell_same _ bc 0 _ _ (.int .i64 0) X1.out))
  have HS5 := Lib.hid hs5
  refine SeqW.step (by rfl) hk5 ?_
  clear hk5 hs5
  go_wp2_with fail
  show SeqW Tryd.prog _ _ _ _ _ _ _
  have hs6 := HS5.out.trans (behind_set1 (b := ba) (o := 0) (v := .int .i64 (q : Int))) (fun k hk => .inl (by simp at hk; simp [hk]))
  have hk6 := hs6.keep HK4.out (by simp; omega)
  refine SeqW.step (by rfl) hk6 ?_
  clear hk6 hs6
  go_wp2_with fail
  refine SQ.done ?_
  go_wp2_with fail
  have d6 : Behind x4 [bc, ba, be] (((x4.setCell ⟨bc, 0, none⟩ (.int .i64 0)).setCell ⟨bc, 1, none⟩ (.slice none 0 0)).setCell ⟨ba, 0, none⟩ (.int .i64 (q : Int))) := HS5.out.trans (behind_set1 (b := ba) (o := 0) (v := .int .i64 (q : Int))) (fun k hk => .inl (by simp at hk; simp [hk]))
  have d7 := d6.trans (behind_set1 (b := be) (o := 0) (v := .int .i64 en)) (fun k hk => .inl (by simp at hk; simp [hk]))
  have e1 := (behind_set1 (b := be) (o := 0) (v := .int .i64 en)).keep ((behind_set1 (b := ba) (o := 0) (v := .int .i64 (q : Int))).keep Z1.out (by simp; exact m12)) (by simp; exact m13)
  have e2 := (behind_set1 (b := be) (o := 0) (v := .int .i64 en)).keep (heap_setCell_same _ ba 0 _ _ (.int .i64 (q : Int)) ((((behind_set1 (b := bc) (o := 0) (v := .int .i64 0)).trans (behind_set1 (b := bc) (o := 1) (v := .slice none 0 0)) (fun k hk => .inl hk))).keep X2.out (by simp; exact n12))) (by simp; exact m23)
  have e3 := heap_setCell_same _ be 0 _ _ (.int .i64 en) ((behind_set1 (b := ba) (o := 0) (v := .int .i64 (q : Int))).keep ((((behind_set1 (b := bc) (o := 0) (v := .int .i64 0)).trans (behind_set1 (b := bc) (o := 1) (v := .slice none 0 0)) (fun k hk => .inl hk))).keep X3.out (by simp; exact n13)) (by simp; exact n23))
  exact ⟨rfl, _, rfl, _, by simp [results, Tryd.results22], rfl, rfl, HB4.out.trans d7 (fun k hk => .inl hk), e1, e2, e3⟩

def ParseP (l : List UInt8) (n : Int) (w : World) (e : Ending) (w' : World) : Prop := ∃ a d, e = .returned (.tuple #[.agg #[.int .i64 (if (parseI l n).1.length = 0 then 0 else n), .slice a (parseI l n).1.length d], .int .i64 (parseI l n).2.1, .int .i64 (parseI l n).2.2]) ∧ CircAt w'.heap.size w' a (parseI l n).1 ∧ Below w.heap.size w w'
theorem run_load_one {P : Program} (w : World) (ty : TypeId) (b o : Nat) (v : Value) (ha : (isAgg ty).run P w = .ok false w) (hc : w.cell? ⟨b, o, none⟩ = some v) : (loadVar ty ⟨b, o, none⟩).run P w = .ok v w := by
  simp [loadVar, Sem.run_bind, ha, hc]
theorem results_cells3 {P : Program} {fn : Func} {p q r : Tmp} {ty tq tr : TypeId} (h : fn.results = #[.cell p ty, .cell q tq, .cell r tr]) (tmps : Array Value) (w : World) (g k m : Nat) (t : TypeId) (cs : Array Value) (fr : Nat × Nat) (d : TypeDesc)
    (hp : tmps.getD p undef = .pointer (some ⟨g, 0, none⟩)) (hg : w.heap[g]? = some (.cells cs t fr))
    (hu : P.underlying ty = some d) (hd : (match d with | .struct _ | .array _ _ => true | _ => false) = true) (hi : (P.info? ty).map (·.size) = some cs.size) (v : Value) (hv : tmps.getD q undef = .pointer (some ⟨k, 0, none⟩)) (ha : (isAgg tq).run P w = .ok false w) (hc : w.cell? ⟨k, 0, none⟩ = some v)
    (x : Value) (hx : tmps.getD r undef = .pointer (some ⟨m, 0, none⟩)) (hb : (isAgg tr).run P w = .ok false w) (hm : w.cell? ⟨m, 0, none⟩ = some x) :
    (results fn tmps).run P w = .ok (.tuple #[.agg cs, v, x]) w := by
  have hp' : tmps[p]?.getD undef = .pointer (some ⟨g, 0, none⟩) := by simpa using hp
  have hv' : tmps[q]?.getD undef = .pointer (some ⟨k, 0, none⟩) := by simpa using hv
  have hx' : tmps[r]?.getD undef = .pointer (some ⟨m, 0, none⟩) := by simpa using hx
  have e1 := run_loadVar_row (P := P) w g t ty cs fr d hg hu hd hi
  have e2 := run_load_one (P := P) w tq k 0 v ha hc
  have e3 := run_load_one (P := P) w tr m 0 x hb hm
  simp [results, h, hp', hv', hx', asAddr, e1, e2, e3]
theorem Tryd.sizeCircJ : (Tryd.prog.info? 24).map (·.size) = some 2 := by kernel_rfl
set_option maxRecDepth 100000 in
theorem parse_ends (bc ba be : Nat) (T : Array Value) (R : Ending → World → Prop) (x : World) (a b y z : Value) (t4 : T.getD 4 undef = .pointer (some ⟨bc, 0, none⟩)) (t5 : T.getD 5 undef = .pointer (some ⟨ba, 0, none⟩)) (t6 : T.getD 6 undef = .pointer (some ⟨be, 0, none⟩))
    (h1 : x.heap[bc]? = some (.cells #[a, b] 24 (0, 0))) (h2 : x.heap[ba]? = some (.cells #[y] 3 (0, 0))) (h3 : x.heap[be]? = some (.cells #[z] 27 (0, 0)))
    (hR : R (.returned (.tuple #[.agg #[a, b], y, z])) x) :
    bodyPostD Tryd.prog Tryd.f9 R Exit.ret { tmps := T, defers := [{ target := Target.fn (Fn.func 22) #[.pointer (some ⟨bc, 0, none⟩), .pointer (some ⟨ba, 0, none⟩), .pointer (some ⟨be, 0, none⟩)], args := #[] }] } x := by
  refine leaves_cons (f := 22) (args := #[.pointer (some ⟨bc, 0, none⟩), .pointer (some ⟨ba, 0, none⟩), .pointer (some ⟨be, 0, none⟩)]) (by simp) (by simp [go_sem]) ?_
  refine (catchI bc ba be x).mono ?_
  rintro e u' w'' ⟨rfl, rfl, rfl⟩
  exact ⟨_, results_cells3 (p := 4) (q := 5) (r := 6) rfl _ _ bc ba be _ _ (0, 0) _ t4 h1 Tryd.underlying24 rfl Tryd.sizeCircJ y t5 (Tryd.isAgg3 _) (blk_cell h2 0 rfl) z t6 (Tryd.isAgg27 _) (blk_cell h3 0 rfl), hR⟩
set_option maxRecDepth 100000 in
theorem parse_fails (bc ba be : Nat) (T : Array Value) (R : Ending → World → Prop) (x : World) (q : Nat) (en : Int) (a b y z : Value) (t4 : T.getD 4 undef = .pointer (some ⟨bc, 0, none⟩)) (t5 : T.getD 5 undef = .pointer (some ⟨ba, 0, none⟩)) (t6 : T.getD 6 undef = .pointer (some ⟨be, 0, none⟩))
    (h1 : x.heap[bc]? = some (.cells #[a, b] 24 (0, 0))) (h2 : x.heap[ba]? = some (.cells #[y] 3 (0, 0))) (h3 : x.heap[be]? = some (.cells #[z] 27 (0, 0))) (h12 : bc ≠ ba) (h13 : bc ≠ be) (h23 : ba ≠ be)
    (hR : ∀ x', Behind x [bc, ba, be] x' → R (.returned (.tuple #[.agg #[.int .i64 0, .slice none 0 0], .int .i64 (q : Nat), .int .i64 en])) x') :
    bodyPostD Tryd.prog Tryd.f9 R (Exit.panic [entryW q en false]) { tmps := T, defers := [{ target := Target.fn (Fn.func 22) #[.pointer (some ⟨bc, 0, none⟩), .pointer (some ⟨ba, 0, none⟩), .pointer (some ⟨be, 0, none⟩)], args := #[] }] } x := by
  refine leaves_cons (f := 22) (args := #[.pointer (some ⟨bc, 0, none⟩), .pointer (some ⟨ba, 0, none⟩), .pointer (some ⟨be, 0, none⟩)]) (by simp) (by simp [go_sem]) ?_
  refine (catchW bc ba be x q en a b y z h1 h2 h3 h12 h13 h23).mono ?_
  rintro e u' w'' ⟨rfl, rfl, hB, k1, k2, k3⟩
  exact ⟨_, results_cells3 (p := 4) (q := 5) (r := 6) rfl _ _ bc ba be _ _ (0, 0) _ t4 k1 Tryd.underlying24 rfl Tryd.sizeCircJ (.int .i64 (q : Nat)) t5 (Tryd.isAgg3 _) (blk_cell k2 0 rfl) (.int .i64 en) t6 (Tryd.isAgg27 _) (blk_cell k3 0 rfl), hR _ hB⟩
theorem parse_now (bc ba be : Nat) (T : Array Value) (R : Ending → World → Prop) (x : World) (a b y z : Value) (t4 : T.getD 4 undef = .pointer (some ⟨bc, 0, none⟩)) (t5 : T.getD 5 undef = .pointer (some ⟨ba, 0, none⟩)) (t6 : T.getD 6 undef = .pointer (some ⟨be, 0, none⟩))
    (h1 : x.heap[bc]? = some (.cells #[a, b] 24 (0, 0))) (h2 : x.heap[ba]? = some (.cells #[y] 3 (0, 0))) (h3 : x.heap[be]? = some (.cells #[z] 27 (0, 0)))
    (hR : R (.returned (.tuple #[.agg #[a, b], y, z])) x) : bodyPostD Tryd.prog Tryd.f9 R Exit.ret { tmps := T, defers := [] } x :=
  ⟨_, results_cells3 (p := 4) (q := 5) (r := 6) rfl _ _ bc ba be _ _ (0, 0) _ t4 h1 Tryd.underlying24 rfl Tryd.sizeCircJ y t5 (Tryd.isAgg3 _) (blk_cell h2 0 rfl) z t6 (Tryd.isAgg27 _) (blk_cell h3 0 rfl), hR⟩
end Go.Proofs.YtmaiofimmjedjaaDoor
