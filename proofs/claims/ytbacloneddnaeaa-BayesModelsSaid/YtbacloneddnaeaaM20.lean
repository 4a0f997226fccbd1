/- Texts of this claim, joined: BFormed, BCheck. -/
import Derived.Test.YtbacloneddnaeaaM18
import Derived.Test.YtbacloneddnaeaaM19

/- bayes.formed. -/
namespace Go.Proofs.Ytbacloneddnaeaa
open Go.RowKit Go.Shelf Num
attribute [local go_sem] Oper.semAt_some

def okPar (l : List BV) (i tn : Nat) : List Int → Option Int → Nat → Option Nat
  | [], _, r => some r
  | p :: ps, prev, r => if p < 0 ∨ (i : Int) ≤ p ∨ (∃ q, prev = some q ∧ p ≤ q) then none else if tn < r * kAt l p.toNat then none else okPar l i tn ps (some p) (r * kAt l p.toNat)

def rowR (t : List (Nat × Nat)) : Nat × Nat := t.foldl (fun s p => Q.add (nz s) (nz p)) (0, 0)
def rowAt (x : BV) (j : Nat) : List (Nat × Nat) := (x.tab.drop (j * x.k.toNat)).take x.k.toNat

def formedP (l : List BV) (i : Nat) : Prop := ∃ x r, l[i]? = some x ∧ 2 ≤ x.k ∧ x.k ≤ 8 ∧ okPar l i x.tab.length x.ps none 1 = some r ∧ r * x.k.toNat = x.tab.length ∧ ∀ j, j < r → nz (rowR (rowAt x j)) = (1, 1)
noncomputable def formedB (l : List BV) (i : Nat) : Bool := @decide (formedP l i) (Classical.propDecidable _)
theorem formedB_true {l : List BV} {i : Nat} (h : formedP l i) : formedB l i = true := by unfold formedB; simp [h]
theorem formedB_false {l : List BV} {i : Nat} (h : ¬ formedP l i) : formedB l i = false := by unfold formedB; simp [h]

def prevOf (ps : List Int) : Nat → Option Int
  | 0 => none
  | j + 1 => ps[j]?

theorem okPar_step {l : List BV} {i tn : Nat} {ps : List Int} {j r : Nat} {p : Int} (hp : ps[j]? = some p) :
    okPar l i tn (ps.drop j) (prevOf ps j) r = if p < 0 ∨ (i : Int) ≤ p ∨ (∃ q, prevOf ps j = some q ∧ p ≤ q) then none else if tn < r * kAt l p.toNat then none else okPar l i tn (ps.drop (j + 1)) (prevOf ps (j + 1)) (r * kAt l p.toNat) := by
  have hj : j < ps.length := (List.getElem?_eq_some_iff.1 hp).1
  have e : ps[j] = p := by rw [List.getElem?_eq_getElem hj] at hp; exact Option.some.inj hp
  rw [List.drop_eq_getElem_cons hj, e]
  have e2 : prevOf ps (j + 1) = some p := hp
  rw [e2]; rfl

structure Pre (l : List BV) (i : Nat) : Prop where
  kb : ∀ (j : Nat) (y : BV), j < i → l[j]? = some y → 1 ≤ y.k ∧ y.k ≤ 8

theorem mulL {A K T : Nat} (h : T < A * K) : (T : Int) < (A : Int) * (K : Int) := by rw [← Int.natCast_mul]; omega
theorem mulG {A K T : Nat} (h : A * K ≤ T) : (A : Int) * (K : Int) ≤ (T : Int) := by rw [← Int.natCast_mul]; omega

theorem mulE {A K T : Nat} (h : A * K = T) : ((A : Int) * (K : Int) == (T : Int)) = true := by rw [← Int.natCast_mul, h]; simp
theorem mulN {A K T : Nat} (h : ¬ A * K = T) : ((A : Int) * (K : Int) == (T : Int)) = false := by rw [← Int.natCast_mul]; simp; omega
theorem mulN2 {A K T : Nat} (h : ¬ A * K = T) : ((A : Int) * (K : Int) != (T : Int)) = true := by rw [bne, mulN h]; rfl
theorem retM {F : Fence} {n : Nat} {P : Program} {fn : Func} {R : Ending → World → Prop} {a : Act} {w : World} {v : Value} (hr : (results fn a.tmps).run P w = .ok v w) (hd : a.defers = []) (hR : R (.returned v) w) : bodyPostM F n P fn R .ret a w := by
  show LeavesInM F n P fn a.tmps R a.defers .returning w
  rw [hd]
  exact ⟨v, hr, hR⟩

theorem two_cells (w : World) (xs ys : Array Value) (T U : TypeId) : ∃ w1, w1 = (w.alloc (Obj.cells xs T)).alloc (Obj.cells ys U) ∧
    w1.heap[w.heap.size]? = some (.cells xs T (0, 0)) ∧ w1.heap[w.heap.size + 1]? = some (.cells ys U (0, 0)) ∧ w1.heap.size = w.heap.size + 2 ∧ Below w.heap.size w w1 := by
  refine ⟨_, rfl, ?_, ?_, by simp, ((Below.refl _ _).alloc (Nat.le_refl _) _).alloc (by simp) _⟩
  · exact (heap_alloc_old _ _ (by simp)).trans (heap_alloc_new w _)
  · have := heap_alloc_new (w.alloc (Obj.cells xs T)) (Obj.cells ys U)
    simpa using this

theorem one_cells (w : World) (xs : Array Value) (T : TypeId) : ∃ w1, w1 = w.alloc (Obj.cells xs T) ∧ w1.heap[w.heap.size]? = some (.cells xs T (0, 0)) ∧ w1.heap.size = w.heap.size + 1 ∧ Below w.heap.size w w1 :=
  ⟨_, rfl, heap_alloc_new w _, by simp, (Below.refl _ _).alloc (Nat.le_refl _) _⟩

theorem rowR_snoc (t : List (Nat × Nat)) (q : Nat × Nat) : rowR (t ++ [q]) = Q.add (nz (rowR t)) (nz q) := by unfold rowR; rw [List.foldl_append]; rfl

theorem rowR_low : ∀ (n : Nat) (t : List (Nat × Nat)), t.length = n → (∀ p ∈ t, Q.Low (nz p) ∧ Sm 4 p) → Q.Low (nz (rowR t)) ∧ Sm (1 + 7 * n) (rowR t)
  | 0, t, h, _ => by
    obtain rfl : t = [] := List.length_eq_zero_iff.1 h
    exact ⟨⟨by decide, by decide⟩, ⟨by decide, by decide⟩⟩
  | n + 1, t, h, ht => by
    obtain ⟨t', q, rfl⟩ : ∃ t' q, t = t' ++ [q] := ⟨t.dropLast, t.getLast (by intro e; rw [e] at h; cases h), (List.dropLast_concat_getLast _).symm⟩
    obtain ⟨h1, h2⟩ := rowR_low n t' (by simpa using h) (fun p hp => ht p (by simp [hp]))
    obtain ⟨h3, h4⟩ := ht q (by simp)
    rw [rowR_snoc]
    have hl := Q.add_low h1 h3
    rw [nz_low hl]
    exact ⟨hl, (sm_add2 h2.nz h4.nz).mono (by omega)⟩

structure FI (w : World) (x : BV) (rows : Nat) (pre : List (_root_.Fin rows)) (W : World) : Prop where
  ok : ∀ j ∈ pre.map (·.1), nz (rowR (rowAt x j)) = (1, 1)
  m4 : W.heap[w.heap.size]? = some (.cells #[.bool false] 4 (0, 0))
  be : Below w.heap.size w W
  sz : w.heap.size + 4 ≤ W.heap.size

structure FX (w : World) (l : List BV) (i : Nat) (W : World) : Prop where
  m4 : W.heap[w.heap.size]? = some (.cells #[.bool false] 4 (0, 0))
  be : Below w.heap.size w W
  no : ¬ formedP l i

theorem grown_cells {W W' : World} {row : Option Nat} {B : Nat} (hg : W.grownBy W' row) (hr : ∀ r, row = some r → B ≤ r ∧ ∃ o : Obj, W.heap[r]? = some o ∧ o.isCells = false) {g : Nat} {xs : Array Value} {T : TypeId} (h : W.heap[g]? = some (.cells xs T (0, 0))) : W'.heap[g]? = some (.cells xs T (0, 0)) := by
  rw [hg.block g (lt_of_heap h) fun e => ?_]
  · exact h
  · obtain ⟨_, o, ho, hc⟩ := hr g e.symm
    rw [h] at ho
    cases ho
    simp [Obj.isCells] at hc
theorem grown_from {w W W' : World} {row : Option Nat} {B : Nat} (hg : W.grownBy W' row) (hr : ∀ r, row = some r → B ≤ r ∧ ∃ o : Obj, W.heap[r]? = some o ∧ o.isCells = false) (h : Below w.heap.size w W) (hB : w.heap.size ≤ B) : Below w.heap.size w W' :=
  h.grown hg h.size fun k e => Nat.le_trans hB (hr k e).1

theorem fi_own {w : World} {x : BV} {rows B : Nat} (hB : w.heap.size ≤ B) : OwnFrom B (FI w x rows) := fun _ _ _ _ h hg hr =>
  ⟨h.ok, grown_cells hg hr h.m4, grown_from hg hr h.be hB, Nat.le_trans h.sz hg.size⟩
theorem fx_own {w : World} {l : List BV} {i B rows : Nat} (c : Code) (hB : w.heap.size ≤ B) : OwnFrom B (fun (_ : List (_root_.Fin rows)) W => c = .ret ∧ FX w l i W) := fun _ _ _ _ h hg hr =>
  ⟨h.1, grown_cells hg hr h.2.m4, grown_from hg hr h.2.be hB, h.2.no⟩

set_option maxHeartbeats 3200000 in
set_option maxRecDepth 100000 in
theorem formed_law (KO : Gives 45 #[] (.agg #[.string (nb 1), .string (nb 1)])) (N : Nat) (l : List BV) (a : Option Addr) (c i : Nat) (x : BV) (hx : l[i]? = some x) (hp : Pre l i) (ht : ∀ p ∈ x.tab, Q.Low (nz p) ∧ Sm 4 p) (htl : x.tab.length ≤ 1000) (hl : l.length ≤ 100) (hpl : x.ps.length ≤ 100000)
    (w : World) (hN : NetAt N w a l) (hw : N ≤ w.heap.size) :
    Calls Try.prog 32 #[.slice a l.length c, .int .i64 i] w fun e w' => e = .returned (.bool (formedB l i)) ∧ Below w.heap.size w w' := by
  obtain ⟨R, hR⟩ : ∃ R : Ending → World → Prop, R = fun e w' => e = .returned (.bool (formedB l i)) ∧ Below w.heap.size w w' := ⟨_, rfl⟩
  rw [← hR]
  have HR := Lib.hid hR
  have hi : i < l.length := (List.getElem?_eq_some_iff.1 hx).1
  obtain ⟨b, o, hb, rfl, hC⟩ := hN.base (by omega)
  obtain ⟨pa, pc, ta, tc, c0, c1, c2, hpa, hta, hcap1, hcap2⟩ := hC i x hx
  have HX := Lib.hid hx
  have HC := Lib.hid hC
  have HPA := Lib.hid hpa
  have HTA := Lib.hid hta
  have HT := Lib.hid ht
  have HPR := Lib.hid hp
  have hbw : b < w.heap.size := by omega
  clear hR hx hC hpa hta ht hp hN
  rw [← callsIn_wide (n := 5)]
  refine callsIn_of_wp_marks Try.func32 rfl trivial ?_ rfl
  simp only [Try.ntmps32, List.size_toArray, List.length_cons, List.length_nil, Nat.reduceAdd, Nat.reduceSub, Array.replicate_succ, Array.replicate_zero, List.push_toArray, List.append_toArray, List.nil_append, List.cons_append]
  by_cases hk2 : x.k < 2
  · have hF : formedB l i = false := formedB_false (by
      rintro ⟨x', r, h1, h2, _⟩
      rw [HX.out] at h1; cases h1; omega)
    have HF := Lib.hid hF
    clear hF
    gi_wp2
    exact retM (v := .bool false) (by simp [results, Try.results32, go_sem]) rfl (by rw [HR.out]; exact ⟨by rw [HF.out], ((Below.refl _ _).alloc (Nat.le_refl _) _).alloc (by simp) _⟩)
  by_cases hk8 : 8 < x.k
  · have hF : formedB l i = false := formedB_false (by
      rintro ⟨x', r, h1, h2, h3, _⟩
      rw [HX.out] at h1; cases h1; omega)
    have HF := Lib.hid hF
    have hk2' : 2 ≤ x.k := by omega
    clear hF
    gi_wp2
    exact retM (v := .bool false) (by simp [results, Try.results32, go_sem]) rfl (by rw [HR.out]; exact ⟨by rw [HF.out], ((Below.refl _ _).alloc (Nat.le_refl _) _).alloc (by simp) _⟩)
  have hk2' : 2 ≤ x.k := by omega
  have hk8' : x.k ≤ 8 := by omega
  clear hk2 hk8
  gi_wp2
  obtain ⟨w1, hw1, m4, m5, sz1, hB1⟩ := two_cells w #[.bool false] #[.int .i64 x.k, .slice pa x.ps.length pc, .slice ta x.tab.length tc] 4 78
  rw [← hw1]
  clear hw1
  have HB1 := Lib.hid hB1
  have M4 := Lib.hid m4
  have SZ1 := Lib.hid sz1
  have HC1 := Lib.hid (fun j y (hy : l[j]? = some y) => by obtain ⟨_, _, _, _, h, _⟩ := HC.out j y hy; exact below_cell hB1 hbw h)
  have HPA1 := Lib.hid (HPA.out.below hB1 hw)
  clear hB1 m4 sz1
  gi_loopw [6, 28] (fun r k wr => ∃ j rr : Nat, j ≤ x.ps.length ∧ k = .int .i64 j ∧ r = .int .i64 rr ∧ 1 ≤ rr ∧ rr ≤ 1000 ∧ Hid (okPar l i x.tab.length x.ps none 1 = okPar l i x.tab.length (x.ps.drop j) (prevOf x.ps j) rr) ∧ wr = w1)
    (fun _ k _ => x.ps.length - (intOf k).toNat)
  case atStart => exact ⟨0, 1, Nat.zero_le _, rfl, rfl, by omega, by omega, rfl, rfl⟩
  case round =>
    obtain ⟨j, rr, hj, rfl, rfl, hrr1, hrr, HO, rfl⟩ := hrel
    have c4 := blk_cell M4.out 0 rfl
    have f4 := blk_free M4.out 0
    have k0 := blk_cell m5 0 rfl
    have k1 := blk_cell m5 1 rfl
    have k2 := blk_cell m5 2 rfl
    by_cases hlt : j < x.ps.length
    · obtain ⟨p, hpj⟩ : ∃ p, x.ps[j]? = some p := ⟨_, List.getElem?_eq_getElem hlt⟩
      have hstep := okPar_step (l := l) (i := i) (tn := x.tab.length) (r := rr) hpj
      rw [← HO.out] at hstep
      obtain ⟨pb, po, hpb, rfl, e1⟩ := HPA1.out j _ (ints_get _ _ _ hpj)
      have hbad : okPar l i x.tab.length x.ps none 1 = none → Hid (formedB l i = false) := fun h => formedB_false (by
        rintro ⟨x', r, h1, _, _, h2, _⟩
        rw [HX.out] at h1; cases h1
        rw [h] at h2; cases h2)
      have hd : decide (j < x.ps.length) = true := by simpa using hlt
      by_cases hp0 : p < 0
      · rw [if_pos (.inl hp0)] at hstep
        have HF := hbad hstep
        clear hstep hbad hd HO
        gi_wp2
        exact retM (v := .bool false) (by simp [results, Try.results32, go_sem, c4]) rfl (by rw [HR.out]; exact ⟨by rw [HF.out], HB1.out.setCell (by simp) _⟩)
      have hp0' : 0 ≤ p := by omega
      by_cases hpi : (i : Int) ≤ p
      · rw [if_pos (.inr (.inl hpi))] at hstep
        have HF := hbad hstep
        clear hstep hbad hd HO hp0
        gi_wp2
        exact retM (v := .bool false) (by simp [results, Try.results32, go_sem, c4]) rfl (by rw [HR.out]; exact ⟨by rw [HF.out], HB1.out.setCell (by simp) _⟩)
      have hpi' : p < (i : Int) := by omega
      obtain ⟨pn, rfl⟩ : ∃ pn : Nat, p = pn := ⟨p.toNat, by omega⟩
      have hpn : pn < i := by omega
      obtain ⟨y, hy⟩ : ∃ y, l[pn]? = some y := ⟨_, List.getElem?_eq_getElem (by omega)⟩
      obtain ⟨hy1, hy8⟩ := HPR.out.kb pn y hpn hy
      obtain ⟨Y, hY⟩ : ∃ Y : Nat, y.k = Y := ⟨y.k.toNat, by omega⟩
      have e2 := HC1.out pn y hy
      rw [hY] at e2
      have hkY : kAt l pn = Y := by rw [kAt_of hy, hY]; simp
      rw [Int.toNat_natCast, hkY] at hstep
      have hY8 : Y ≤ 8 := by omega
      have hY1 : 1 ≤ rr * Y := by have := Nat.mul_le_mul hrr1 (show 1 ≤ Y by omega); omega
      have hm := Nat.mul_le_mul hrr hY8
      obtain ⟨hm2, hm3⟩ := mulI (A := rr) (K := Y) (by omega)
      have hpnl : pn < l.length := by omega
      clear hy hy1 hy8 hY hkY hp0 hpi hm hp0' hpi'
      have hn1 : ¬ (pn : Int) < 0 := by omega
      have hn2 : ¬ (i : Int) ≤ pn := by omega
      by_cases hj0 : j = 0
      · have hg0 : decide (0 < j) = false := by simp; omega
        have hg1 : j ≤ 0 := by omega
        rw [if_neg (fun h => h.elim hn1 fun h => h.elim hn2 fun ⟨q, h, _⟩ => by rw [hj0] at h; cases h)] at hstep
        clear hj0 hn1 hn2
        by_cases hr : x.tab.length < rr * Y
        · rw [if_pos hr] at hstep
          have HF := hbad hstep
          have hr2 := mulL hr
          clear hstep hbad hd HO hr
          gi_wp2
          exact retM (v := .bool false) (by simp [results, Try.results32, go_sem, c4]) rfl (by rw [HR.out]; exact ⟨by rw [HF.out], HB1.out.setCell (by simp) _⟩)
        · rw [if_neg hr] at hstep
          have hr1 : rr * Y ≤ x.tab.length := by omega
          have hr2 := mulG hr1
          have HS := Lib.hid hstep
          clear hstep hbad hd HO hr
          gi_wp2
          go_roundw
          case rel => exact ⟨j + 1, rr * Y, by omega, by go_num, by rw [Int.natCast_mul], hY1, by omega, HS.out, trivial⟩
          case measure => simp [intOf]; omega
      · obtain ⟨q, hq⟩ : ∃ q, x.ps[j - 1]? = some q := ⟨_, List.getElem?_eq_getElem (by omega)⟩
        have hpr : prevOf x.ps j = some q := by
          cases j with
          | zero => exact absurd rfl hj0
          | succ j => simpa [prevOf] using hq
        obtain ⟨pb', po', _, he, e3⟩ := HPA1.out (j - 1) _ (ints_get _ _ _ hq)
        cases he
        have hg0 : decide (0 < j) = true := by simp; omega
        have hg1 : 0 < j := by omega
        rw [hpr] at hstep
        clear hq hpr hj0
        by_cases hle : (pn : Int) ≤ q
        · rw [if_pos (.inr (.inr ⟨q, rfl, hle⟩))] at hstep
          have HF := hbad hstep
          clear hstep hbad hd HO hn1 hn2
          gi_wp2
          exact retM (v := .bool false) (by simp [results, Try.results32, go_sem, c4]) rfl (by rw [HR.out]; exact ⟨by rw [HF.out], HB1.out.setCell (by simp) _⟩)
        · have hle2 : q < (pn : Int) := by omega
          rw [if_neg (fun h => h.elim hn1 fun h => h.elim hn2 fun ⟨q', h, h2⟩ => by cases h; exact hle h2)] at hstep
          clear hle hn1 hn2
          by_cases hr : x.tab.length < rr * Y
          · rw [if_pos hr] at hstep
            have HF := hbad hstep
            have hr2 := mulL hr
            clear hstep hbad hd HO hr
            gi_wp2
            exact retM (v := .bool false) (by simp [results, Try.results32, go_sem, c4]) rfl (by rw [HR.out]; exact ⟨by rw [HF.out], HB1.out.setCell (by simp) _⟩)
          · rw [if_neg hr] at hstep
            have hr1 : rr * Y ≤ x.tab.length := by omega
            have hr2 := mulG hr1
            have HS := Lib.hid hstep
            clear hstep hbad hd HO hr
            gi_wp2
            go_roundw
            case rel => exact ⟨j + 1, rr * Y, by omega, by go_num, by rw [Int.natCast_mul], hY1, by omega, HS.out, trivial⟩
            case measure => simp [intOf]; omega
    · obtain rfl : j = x.ps.length := by omega
      clear hlt hj
      obtain ⟨K, hK⟩ : ∃ K : Nat, x.k = K := ⟨x.k.toNat, by omega⟩
      have hokr : okPar l i x.tab.length x.ps none 1 = some rr := by rw [HO.out, List.drop_length]; rfl
      have hm := Nat.mul_le_mul hrr (show K ≤ 8 by omega)
      obtain ⟨hm2, hm3⟩ := mulI (A := rr) (K := K) (by omega)
      have HK := Lib.hid hK
      have HOK := Lib.hid hokr
      have hK2 : 2 ≤ K := by omega
      have hK8 : K ≤ 8 := by omega
      rw [hK] at k0 hk2' hk8'
      clear hK hokr hm HO
      by_cases hlen : rr * K = x.tab.length
      · have hlen2 := mulE hlen
        have HLEN := Lib.hid hlen
        clear hlen
        gi_wp2
        refine ⟨trivial, CallsIn.mono (callsIn_wide.2 (chunk_law _ _ _ _ (by omega) _)) ?_⟩
        rintro e3 w3 ⟨rfl, hb1, hb2, hB3, hsz3⟩
        have htab : 2 ≤ x.tab.length := by have := Nat.mul_le_mul hrr1 hK2; have := HLEN.out; omega
        obtain ⟨q0, hq0⟩ : ∃ q0, x.tab[0]? = some q0 := ⟨_, List.getElem?_eq_getElem (by omega)⟩
        obtain ⟨tb, to, htb, rfl, _⟩ := HTA.out _ _ (rats_get hq0).1
        rw [← HLEN.out] at hb1
        have hb3 := HB1.out.trans (hB3.mono (B' := w.heap.size) HB1.out.size)
        have hwr := HB1.out.size
        have hszr : w.heap.size + 2 = wr.heap.size := SZ1.out.symm
        have HTC := Lib.hid (fun q v hv => by obtain ⟨_, _, _, he, hc⟩ := HTA.out q v hv; cases he; exact hc)
        clear hq0 k0 k1 k2 m5
        gi_wp2
        refine' wpIn_rangeFunc_ownG (F := Fence.wide) (n := 5) rfl (by omega) (gf := 96) rfl trivial (enters_of Try.func96 (by kernel_rfl) rfl)
          (chunk_stops 4 (by omega) wr.heap.size (wr.heap.size + 1) K rr tb to tc (by omega) (by omega) (by rw [HLEN.out]; omega) (by rw [HLEN.out]; exact hcap1) hcap2 w3 (by omega) (by omega) hb1 hb2) KeepsTwo.trans ?kb (Below.refl _ _) (fun _ => rfl)
          (FI w x rr) (fun c _ W => c = .ret ∧ FX w l i W) (fi_own hb3.size) (fun c => fx_own c hb3.size) ?start _ ?assign ?body ?done ?stop
        case assign =>
          intro l x W K hK
          gi_wp2
          exact hK
        case kb =>
          intro W l o o' hl hW _ _
          exact ⟨World.putObj_heap_other (by omega), World.putObj_heap_other (by omega)⟩
        case start =>
          exact ⟨by simp, (hB3.block _ (by omega)).trans M4.out, hb3, by omega⟩
        case stop =>
          rintro D cx pre W hD _ ⟨rfl, hx⟩ hKd
          have HFX := Lib.hid hx
          have m4' : (W.putObj D (.deferred none)).heap[w.heap.size]? = some (.cells #[.bool false] 4 (0, 0)) := (World.putObj_heap_other (by omega)).trans hx.m4
          have hbe' : Below w.heap.size w (W.putObj D (.deferred none)) := hx.be.grown (grownBy_putObj' W D (.deferred none)) hx.be.size (fun k e => by cases e; omega)
          have c4' := blk_cell m4' 0 rfl
          clear hx
          gi_wp2
          refine ⟨by simp, .inl ⟨_, _, rfl, run_takeDeferred hKd, ?_⟩⟩
          refine ⟨.bool false, by simp [results, Try.results32, go_sem, c4'], ?_⟩
          rw [HR.out]
          exact ⟨by rw [formedB_false HFX.out.no], hbe'⟩
        case done =>
          rintro D ys W hD hys hI hKd
          have HF : Hid (formedB l i = true) := formedB_true ⟨x, rr, HX.out, by rw [HK.out]; omega, by rw [HK.out]; omega, HOK.out, by rw [HK.out]; simpa using HLEN.out, fun j hj => hI.ok j (by rw [hys]; simpa using hj)⟩
          have hm4 := hI.m4
          have hbe := hI.be
          have c4' := blk_cell hm4 0 rfl
          have f4' := blk_free hm4 0
          have hw4 := wrote_cell (o := 0) (.bool true) hm4
          have hK2 := (KeepsOthers.setCell W ⟨w.heap.size, 0, none⟩ (.bool true)).same D _ hKd rfl
          have m4' : ((W.setCell ⟨w.heap.size, 0, none⟩ (.bool true)).putObj D (.deferred none)).heap[w.heap.size]? = some (.cells #[.bool true] 4 (0, 0)) := (World.putObj_heap_other (by omega)).trans hw4.here
          have hbe2 : Below w.heap.size w (W.setCell ⟨w.heap.size, 0, none⟩ (.bool true)) := hbe.setCell (by simp) _
          have hbe' : Below w.heap.size w ((W.setCell ⟨w.heap.size, 0, none⟩ (.bool true)).putObj D (.deferred none)) := hbe2.grown (grownBy_putObj' _ D (.deferred none)) hbe2.size (fun k e => by cases e; omega)
          have HM4 := Lib.hid m4'
          have HBE := Lib.hid hbe'
          have HK2 := Lib.hid hK2
          clear hI hm4 hbe hw4 m4' hbe2 hbe' hKd hys hK2
          gi_wp2
          refine ⟨by simp, .inl ⟨_, _, rfl, run_takeDeferred HK2.out, ?_⟩⟩
          have c5' := blk_cell HM4.out 0 rfl
          refine ⟨.bool true, by simp [results, Try.results32, go_sem, c5'], ?_⟩
          rw [HR.out]
          exact ⟨by rw [HF.out], HBE.out⟩
        case body =>
          rintro lr pre ⟨j, hj⟩ W hI hlen2
          have HFI := Lib.hid hI
          have hWs := hI.sz
          have HBW := Lib.hid hI.be
          have hjK : j * K + K ≤ x.tab.length := by have := Nat.mul_le_mul_right K (show j + 1 ≤ rr by omega); rw [Nat.add_mul, Nat.one_mul] at this; have := HLEN.out; omega
          have HRW : Hid (rowAt x j = (x.tab.drop (j * K)).take K) := by unfold Hid rowAt; rw [HK.out, Int.toNat_natCast]
          clear hI
          unfold chunkV
          dsimp only
          generalize hJ : j * K = J at *
          clear hJ
          gi_wp2
          obtain ⟨wa, hwa, m10, sza, hBa⟩ := one_cells W #[.string { data := #[] }, .string { data := #[] }] 34
          rw [← hwa]
          clear hwa
          have HBa := Lib.hid hBa
          clear hBa
          gi_loopw [83] (fun k wq => ∃ m : Nat, m ≤ K ∧ k = .int .i64 m ∧ wq.heap[W.heap.size]? = some (.cells #[.string (nb (rowR ((x.tab.drop J).take m)).1), .string (nb (rowR ((x.tab.drop J).take m)).2)] 34 (0, 0)) ∧ Below W.heap.size W wq)
            (fun k _ => K - (intOf k).toNat)
          case atStart => exact ⟨0, Nat.zero_le _, rfl, m10, HBa.out⟩
          case round =>
            obtain ⟨m, hm, rfl, m10', hBq⟩ := hrel
            have HBX := Lib.hid (HBW.out.trans (hBq.mono (B' := w.heap.size) (by omega)))
            have HBQ := Lib.hid hBq
            clear hBq m10 HBa
            have c10 := blk_cell m10' 0 rfl
            have c10' := blk_cell m10' 1 rfl
            have hgW : W.heap.size < wr.heap.size := lt_of_heap m10'
            by_cases hmK : m < K
            · obtain ⟨q, hq⟩ : ∃ q, x.tab[J + m]? = some q := ⟨_, List.getElem?_eq_getElem (by omega)⟩
              have t1 := below_cell HBX.out (by omega) (HTC.out _ _ (rats_get hq).1)
              have t2 := below_cell HBX.out (by omega) (HTC.out _ _ (rats_get hq).2)
              rw [show to + (J + m) * 2 = to + J * 2 + m * 2 by omega] at t1
              rw [show to + ((J + m) * 2 + 1) = to + J * 2 + m * 2 + 1 by omega] at t2
              have hqs := HT.out q (List.mem_of_getElem? hq)
              have hrow := rowR_low m ((x.tab.drop J).take m) (by simp; omega) (fun p hp => HT.out p (List.mem_of_mem_drop (List.mem_of_mem_take hp)))
              have hT : rowR ((x.tab.drop J).take (m + 1)) = Q.add (nz (rowR ((x.tab.drop J).take m))) (nz q) := by
                rw [List.take_add_one, List.getElem?_drop, hq]
                exact rowR_snoc _ _
              have HTT := Lib.hid hT
              have HM10 := Lib.hid m10'
              clear hT hq m10'
              generalize rowR ((x.tab.drop J).take m) = s at *
              have KA : Gives 30 #[.agg #[.string (nb s.1), .string (nb s.2)], .agg #[.string (nb q.1), .string (nb q.2)]] (.agg #[.string (nb (Q.add (nz s) (nz q)).1), .string (nb (Q.add (nz s) (nz q)).2)]) := gRAdd s q (hrow.2.mono (by omega)) (hqs.2.mono (by omega))
              clear hrow hqs
              generalize hS2 : Q.add (nz s) (nz q) = S2 at *
              clear hS2
              gi_wp2
              refine ⟨trivial, CallsIn.mono (CallsIn.inRound lr (callsIn_wide.2 (KA _))) ?_⟩
              rintro e5 w5 ⟨rfl, hB5⟩
              have hB6 : Below wr.heap.size wr w5 := ((Below.refl _ wr).alloc (Nat.le_refl _) _).trans (hB5.mono (by simp))
              have m11 := (hB6.block _ hgW).trans HM10.out
              have c11 := blk_cell m11 0 rfl
              have c11' := blk_cell m11 1 rfl
              have f11 := blk_free m11 0
              have f11' := blk_free m11 1
              have hr1 := wrote_cell (o := 0) (.string (nb S2.1)) m11
              have hr2 := wrote_cell (o := 1) (.string (nb S2.2)) hr1.here
              have HR2 := Lib.hid hr2.here
              have HB7 := Lib.hid (((HBQ.out.trans (hB6.mono (by omega))).setCell (p := ⟨W.heap.size, 0, none⟩) (Nat.le_refl _) (.string (nb S2.1))).setCell (p := ⟨W.heap.size, 1, none⟩) (Nat.le_refl _) (.string (nb S2.2)))
              clear hr1 hr2 hB6 hB5 m11 HM10 c10 c10' t1 t2 KA
              gi_wp2
              go_roundw
              case rel => exact ⟨m + 1, by omega, by go_num, by rw [HTT.out]; exact HR2.out, HB7.out⟩
              case measure => simp [intOf]; omega
            · obtain rfl : m = K := by omega
              have hS : rowR ((x.tab.drop J).take m) = rowR (rowAt x j) := by rw [HRW.out]
              have hrow := rowR_low m ((x.tab.drop J).take m) (by simp; omega) (fun p hp => HT.out p (List.mem_of_mem_drop (List.mem_of_mem_take hp)))
              rw [hS] at m10' hrow
              clear hS
              generalize hs : rowR (rowAt x j) = s at *
              have KC : Gives 27 #[.agg #[.string (nb s.1), .string (nb s.2)], .agg #[.string (nb 1), .string (nb 1)]] (.int .i64 (Q.cmp (nz s) (1, 1))) := gRCmp s (1, 1) (hrow.2.mono (by omega)) ⟨by decide, by decide⟩
              have low11 : Q.Low (1, 1) := ⟨by decide, by decide⟩
              have hM4 := (HBQ.out.block _ (by omega)).trans HFI.out.m4
              have HM4 := Lib.hid hM4
              clear hM4 c10 c10'
              by_cases hz : nz s = (1, 1)
              · rw [(Q.cmp_eq hrow.1 low11).2 hz] at KC
                have HZ := Lib.hid hz
                clear hz hrow low11
                gi_wp2
                refine wpIn_game [0, 0, 0, 0] [] B0 fin_B0 (has_B0 _) (by kernel_rfl) (by kernel_rfl) (by kernel_rfl) ?_
                refine lex_quietE 4 (by kernel_rfl) (by rfl) ?_
                apply Exists.intro
                refine ⟨fun z hz => ?_, ?_⟩
                · have g1 := blk_cellp (hz.keep m10' (by simp)) 0 rfl
                  have g2 := blk_cellp (hz.keep m10' (by simp)) 1 rfl
                  clear hz
                  simp only [List.take_succ_cons, List.take_zero]
                  unfold Cx
                  repeat (go_big_quiet_step (first | with_reducible exact KO.at _ _ | with_reducible exact KC.at _ _))
                  exact wpQuiet_nil rfl
                simp only [List.drop_succ_cons, List.drop_zero]
                refine lex_nil ?_
                intro w6 hx6 _
                have hb6 : Below W.heap.size W w6 := HBQ.out.trans (hx6.below.mono (B' := W.heap.size) (by omega))
                have HB6 := Lib.hid hb6
                clear hx6 m10' hb6
                gi_wp2
                refine ⟨keepsFrom_behind (behind_of_below HB6.out) (by simp) _, ⟨HB6.out.block _ (by omega), HB6.out.block _ (by omega)⟩, ⟨fun j' hj' => ?_, (HB6.out.block _ (by omega)).trans HFI.out.m4, HBW.out.trans (HB6.out.mono (by omega)), Nat.le_trans hWs HB6.out.size⟩⟩
                rw [List.map_append, List.mem_append] at hj'
                rcases hj' with h | h
                · exact HFI.out.ok j' h
                · have h : j' = j := by simpa using h
                  rw [h, hs]; exact HZ.out
              · obtain ⟨cc, hcc⟩ : ∃ cc, Q.cmp (nz s) (1, 1) = cc := ⟨_, rfl⟩
                have hc0 : cc ≠ 0 := fun h => hz ((Q.cmp_eq hrow.1 low11).1 (hcc.trans h))
                rw [hcc] at KC
                have HZ := Lib.hid hz
                have hc1 : (cc == 0) = false := beq_no hc0
                have hc2 : (cc != 0) = true := by simp [bne, hc1]
                clear hcc hz hrow low11
                gi_wp2
                refine wpIn_game [0, 0, 0, 0] [] B0 fin_B0 (has_B0 _) (by kernel_rfl) (by kernel_rfl) (by kernel_rfl) ?_
                refine lex_quietE 4 (by kernel_rfl) (by rfl) ?_
                apply Exists.intro
                refine ⟨fun z hz => ?_, ?_⟩
                · have g1 := blk_cellp (hz.keep m10' (by simp)) 0 rfl
                  have g2 := blk_cellp (hz.keep m10' (by simp)) 1 rfl
                  clear hz
                  simp only [List.take_succ_cons, List.take_zero]
                  unfold Cx
                  repeat (go_big_quiet_step (first | with_reducible exact KO.at _ _ | with_reducible exact KC.at _ _))
                  exact wpQuiet_nil rfl
                simp only [List.drop_succ_cons, List.drop_zero]
                refine lex_nil ?_
                intro w6 hx6 _
                have hb6 : Below W.heap.size W w6 := HBQ.out.trans (hx6.below.mono (B' := W.heap.size) (by omega))
                have m46 := hx6.keep HM4.out (by simp)
                have c46 := blk_cell m46 0 rfl
                have f46 := blk_free m46 0
                have hr1 := wrote_cell (o := 0) (.bool false) m46
                have HB6 := Lib.hid hb6
                have HR1 := Lib.hid hr1
                clear hx6 m10' hb6 m46 hr1
                gi_wp2
                have hbe : Behind W [w.heap.size] (w6.setCell ⟨w.heap.size, 0, none⟩ (.bool false)) := ((behind_of_below HB6.out).mono (by simp)).wrote HR1.out (.inl (by simp))
                refine ⟨keepsFrom_behind hbe (fun k hk => ?_) _, rfl, ⟨by simpa using HR1.out.here, (HBW.out.trans (HB6.out.mono (by omega))).setCell (by simp) _, ?_⟩⟩
                · have hk : k = w.heap.size := by simpa using hk
                  subst hk
                  exact ⟨_, _, HFI.out.m4⟩
                · rintro ⟨x', r, h1, _, _, h2, _, h5⟩
                  rw [HX.out] at h1; cases h1
                  rw [HOK.out] at h2; cases h2
                  have h6 := h5 j hj
                  rw [hs] at h6
                  exact HZ.out h6
      · have HF : Hid (formedB l i = false) := formedB_false (by
          rintro ⟨x', r, h1, _, _, h2, h3, _⟩
          rw [HX.out] at h1; cases h1
          rw [HOK.out] at h2; cases h2
          rw [HK.out, Int.toNat_natCast] at h3
          exact hlen h3)
        have hlen2 := mulN hlen
        have hlen3 := mulN2 hlen
        gi_wp2
        exact retM (v := .bool false) (by simp [results, Try.results32, go_sem, c4]) rfl (by rw [HR.out]; exact ⟨by rw [HF.out], HB1.out.setCell (by simp) _⟩)
end Go.Proofs.Ytbacloneddnaeaa

/- bayes.Check. -/
namespace Go.Proofs.Ytbacloneddnaeaa
open Go.RowKit Go.Shelf Num

structure NetIn (l : List BV) : Prop where
  len : l.length ≤ 100
  tab : ∀ (i : Nat) (x : BV), l[i]? = some x → ∀ p ∈ x.tab, Q.Low (nz p) ∧ Sm 4 p
  tlen : ∀ (i : Nat) (x : BV), l[i]? = some x → x.tab.length ≤ 1000
  plen : ∀ (i : Nat) (x : BV), l[i]? = some x → x.ps.length ≤ 100000

def jointOf (l : List BV) : Nat := l.foldl (fun j x => min (j * x.k.toNat) 65537) 1
def varsOf (l : List BV) : Nat := l.foldl (fun v x => v + (x.k.toNat + x.tab.length)) 0

open Classical in
noncomputable def checkE (l : List BV) : Int := if 16 < l.length then 1 else if ∀ i, i < l.length → formedP l i then (if 65536 < jointOf l ∨ 128 < varsOf l then 2 else 0) else 1

theorem take_snoc_of {α : Type} {l : List α} {j : Nat} {x : α} (h : l[j]? = some x) : l.take (j + 1) = l.take j ++ [x] := by
  have hj : j < l.length := (List.getElem?_eq_some_iff.1 h).1
  have e : l[j] = x := by rw [List.getElem?_eq_getElem hj] at h; exact Option.some.inj h
  rw [List.take_succ_eq_append_getElem hj, e]

theorem jointOf_snoc (l : List BV) (x : BV) : jointOf (l ++ [x]) = min (jointOf l * x.k.toNat) 65537 := by unfold jointOf; rw [List.foldl_append]; rfl
theorem varsOf_snoc (l : List BV) (x : BV) : varsOf (l ++ [x]) = varsOf l + (x.k.toNat + x.tab.length) := by unfold varsOf; rw [List.foldl_append]; rfl

theorem minI {A K : Nat} (h : A * K ≤ 1000000) : min ((A : Int) * (K : Int)) 65537 = ((min (A * K) 65537 : Nat) : Int) := by rw [← Int.natCast_mul]; omega

set_option maxHeartbeats 3200000 in
set_option maxRecDepth 100000 in
theorem check_law (KO : Gives 45 #[] (.agg #[.string (nb 1), .string (nb 1)])) (N : Nat) (l : List BV) (a : Option Addr) (c : Nat) (hn : NetIn l) (w : World) (hN : NetAt N w a l) (hw : N ≤ w.heap.size) :
    Calls Try.prog 10 #[.slice a l.length c] w fun e w' => e = .returned (.int .i64 (checkE l)) ∧ Below w.heap.size w w' := by
  have hl := hn.len
  have HN := Lib.hid hN
  have HI := Lib.hid hn
  clear hN hn
  by_cases h16 : 16 < l.length
  · have hE : Hid (checkE l = 1) := if_pos h16
    go_enter Try.func10, Try.ntmps10
    go_wp2_with fail
    go_ret
    exact ⟨by rw [hE.out]; rfl, Below.refl _ _⟩
  have h16' : l.length ≤ 16 := by omega
  clear h16
  go_enter Try.func10, Try.ntmps10
  go_wp2_with fail
  go_loopw [3, 4, 12] (fun jt vs k wr => ∃ j J V : Nat, j ≤ l.length ∧ k = .int .i64 j ∧ jt = .int .i64 J ∧ vs = .int .i64 V ∧ J ≤ 65537 ∧ V ≤ j * 2000 ∧ Hid (J = jointOf (l.take j)) ∧ Hid (V = varsOf (l.take j)) ∧ Hid (∀ i, i < j → formedP l i) ∧ Below w.heap.size w wr)
    (fun _ _ k _ => l.length - (intOf k).toNat)
  case atStart => exact ⟨0, 1, 0, Nat.zero_le _, rfl, rfl, rfl, by omega, by omega, rfl, rfl, fun i hi => by omega, Below.refl _ _⟩
  case round =>
    obtain ⟨j, J, V, hj, rfl, rfl, rfl, hJ, hV, HJ, HV, HF, hB⟩ := hrel
    have HB := Lib.hid hB
    clear hB
    by_cases hlt : j < l.length
    · obtain ⟨x, hx⟩ : ∃ x, l[j]? = some x := ⟨_, List.getElem?_eq_getElem hlt⟩
      obtain ⟨b, o, pa, pc, ta, tc, hb, rfl, c0, c1, c2, _⟩ := HN.out j x hx
      have d0 := below_cell HB.out (by omega) c0
      have d1 := below_cell HB.out (by omega) c1
      have d2 := below_cell HB.out (by omega) c2
      have htl := HI.out.tlen j x hx
      have hpr : Pre l j := ⟨fun i y hi hy => by
        obtain ⟨y', _, h1, h2, h3, _⟩ := HF.out i hi
        rw [hy] at h1; cases h1; omega⟩
      have hwr : N ≤ wr.heap.size := Nat.le_trans hw HB.out.size
      have KF : ∀ X, Below wr.heap.size wr X → Calls Try.prog 32 #[.slice (some ⟨b, o, none⟩) l.length c, .int .i64 j] X fun e w' => e = .returned (.bool (formedB l j)) ∧ Below X.heap.size X w' := fun X hX =>
        formed_law KO N l _ c j x hx hpr (HI.out.tab j x hx) htl hl (HI.out.plen j x hx) X ((HN.out.below HB.out hw).below hX hwr) (Nat.le_trans hwr hX.size)
      by_cases hf : formedP l j
      · have hk2 : 2 ≤ x.k ∧ x.k ≤ 8 := by obtain ⟨y, _, h1, h2, h3, _⟩ := hf; rw [hx] at h1; cases h1; exact ⟨h2, h3⟩
        obtain ⟨K, hK⟩ : ∃ K : Nat, x.k = K := ⟨x.k.toNat, by omega⟩
        have hK8 : K ≤ 8 := by omega
        have hm := Nat.mul_le_mul hJ hK8
        obtain ⟨hm2, hm3⟩ := mulI (A := J) (K := K) (by omega)
        have hmin := minI (A := J) (K := K) (by omega)
        have HJ2 : Hid (min (J * K) 65537 = jointOf (l.take (j + 1))) := by unfold Hid; rw [take_snoc_of hx, jointOf_snoc, ← HJ.out, hK]; simp
        have HV2 : Hid (V + (K + x.tab.length) = varsOf (l.take (j + 1))) := by unfold Hid; rw [take_snoc_of hx, varsOf_snoc, ← HV.out, hK]; simp
        have HF2 : Hid (∀ i, i < j + 1 → formedP l i) := fun i hi => by
          rcases Nat.lt_succ_iff_lt_or_eq.1 hi with h | h
          · exact HF.out i h
          · rw [h]; exact hf
        rw [formedB_true hf] at KF
        rw [hK] at d0
        have KF := Lib.hid KF
        clear hm hf hk2 hK hx c0 c1 c2 hpr
        go_wp2_with fail
        refine (KF.out _ ((Below.refl _ wr).alloc (Nat.le_refl _) _)).mono ?_
        rintro e5 w5 ⟨rfl, hB5⟩
        obtain ⟨wa, hwa, m6, sza, hBa⟩ := one_cells wr #[.int .i64 K, .slice pa x.ps.length pc, .slice ta x.tab.length tc] 78
        rw [← hwa] at hB5
        have m6' := (hB5.block _ (by omega)).trans m6
        have HB5 := Lib.hid (HB.out.trans ((hBa.trans (hB5.mono (by omega))).mono (B' := w.heap.size) HB.out.size))
        have k0 := blk_cell m6' 0 rfl
        have k2 := blk_cell m6' 2 rfl
        clear hwa m6 sza hBa hB5 m6' d0 d1 d2 KF
        go_wp2_with fail
        go_roundw
        case rel => exact ⟨j + 1, _, _, by omega, by go_num, rfl, by go_num, by omega, by omega, HJ2, HV2, HF2, HB5.out⟩
        case measure => simp [intOf]; omega
      · have HE : Hid (checkE l = 1) := by
          unfold Hid checkE
          rw [if_neg (by omega), if_neg fun h => hf (h j hlt)]
        rw [formedB_false hf] at KF
        have KF := Lib.hid KF
        clear hf hx c0 c1 c2 hpr
        go_wp2_with fail
        refine (KF.out _ ((Below.refl _ wr).alloc (Nat.le_refl _) _)).mono ?_
        rintro e5 w5 ⟨rfl, hB5⟩
        have hB6 : Below w.heap.size w w5 := HB.out.trans ((((Below.refl _ wr).alloc (Nat.le_refl _) _).trans (hB5.mono (by simp))).mono (B' := w.heap.size) HB.out.size)
        clear hB5
        go_wp2_with fail
        go_ret
        exact ⟨by rw [HE.out]; rfl, hB6⟩
    · obtain rfl : j = l.length := by omega
      rw [List.take_length] at HJ HV
      have HE : Hid (checkE l = if 65536 < J ∨ 128 < V then 2 else 0) := by
        unfold Hid checkE
        rw [if_neg (by omega), if_pos HF.out, HJ.out, HV.out]
      by_cases hJ2 : 65536 < J
      · have HE2 : Hid (checkE l = 2) := HE.out.trans (if_pos (.inl hJ2))
        have hJ3 : (65536 : Int) < J := by omega
        go_wp2_with fail
        go_ret
        exact ⟨by rw [HE2.out]; rfl, HB.out⟩
      · have hJ3 : (J : Int) ≤ 65536 := by omega
        by_cases hV2 : 128 < V
        · have HE2 : Hid (checkE l = 2) := HE.out.trans (if_pos (.inr hV2))
          have hV3 : (128 : Int) < V := by omega
          clear hJ2
          go_wp2_with fail
          go_ret
          exact ⟨by rw [HE2.out]; rfl, HB.out⟩
        · have HE2 : Hid (checkE l = 0) := HE.out.trans (if_neg (by omega))
          have hV3 : (V : Int) ≤ 128 := by omega
          clear hJ2 hV2
          go_wp2_with fail
          go_ret
          exact ⟨by rw [HE2.out]; rfl, HB.out⟩
end Go.Proofs.Ytbacloneddnaeaa
