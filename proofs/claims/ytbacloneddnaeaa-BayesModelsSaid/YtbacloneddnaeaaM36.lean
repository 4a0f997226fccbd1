/- Texts of this claim, joined: BEncX, BEncW, BModT, BModU. -/
import Derived.Test.YtbacloneddnaeaaM35
import Derived.Test.YtbacloneddnaeaaM32

/- What Encode makes: sizes; plain laws. -/
namespace Go.Proofs.Ytbacloneddnaeaa
open Num

structure ESt.Ok (s : ESt) : Prop where
  low : s.low.length = s.N + 1
  high : s.high.length = s.N + 1
  one : ∀ p ∈ s.low, p = (1, 1)
  sm : ∀ p ∈ s.high, Sm 1000 p
  cl : ∀ c ∈ s.L, c.length ≤ 100
  ind : ∀ c ∈ s.ind, c.length ≤ 100

theorem ESt.Ok.next {s : ESt} (h : s.Ok) {p : Nat × Nat} (hp : Sm 1000 p) : (s.next p).Ok := by
  refine ⟨by simp [ESt.next, h.low], by simp [ESt.next, h.high], fun q hq => ?_, fun q hq => ?_, h.cl, h.ind⟩
  · simp only [ESt.next, List.mem_append, List.mem_singleton] at hq
    exact hq.elim (h.one q) id
  · simp only [ESt.next, List.mem_append, List.mem_singleton] at hq
    rcases hq with hq | rfl
    · exact h.sm q hq
    · exact hp
theorem ESt.Ok.add {s : ESt} (h : s.Ok) {c : List Int} (hc : c.length ≤ 100) : (s.add c).Ok := by
  refine ⟨h.low, h.high, h.one, h.sm, fun q hq => ?_, h.ind⟩
  simp only [ESt.add, List.mem_append, List.mem_singleton] at hq
  rcases hq with hq | rfl
  · exact h.cl q hq
  · exact hc
theorem ESt.Ok.know {s : ESt} (h : s.Ok) {c : List Int} (hc : c.length ≤ 100) : (s.know c).Ok := by
  refine ⟨h.low, h.high, h.one, h.sm, h.cl, fun q hq => ?_⟩
  simp only [ESt.know, List.mem_append, List.mem_singleton] at hq
  rcases hq with hq | rfl
  · exact h.ind q hq
  · exact hc
theorem ESt.Ok.adds : ∀ (cs : List (List Int)) {s : ESt}, s.Ok → (∀ c ∈ cs, c.length ≤ 100) → (s.adds cs).Ok
  | [], _, h, _ => h
  | c :: cs, _, h, hc => ESt.Ok.adds cs (h.add (hc c (by simp))) (fun d hd => hc d (by simp [hd]))
theorem sm11 : Sm 1000 (1, 1) := ⟨by decide, by decide⟩
theorem ESt.Ok.nexts {s : ESt} (h : s.Ok) : ∀ k, (s.nexts k).Ok
  | 0 => h
  | k + 1 => (ESt.Ok.nexts h k).next sm11
theorem pairsAt_two {xs : List Int} {j : Nat} {c : List Int} (h : c ∈ pairsAt xs j) : c.length ≤ 100 := by
  unfold pairsAt at h
  obtain ⟨i, _, h2⟩ := List.mem_flatMap.1 h
  obtain ⟨y, _, rfl⟩ := List.mem_map.1 h2
  simp
theorem ESt.Ok.var {s : ESt} (h : s.Ok) {k : Nat} (hk : k ≤ 8) : (s.var k).Ok := by
  unfold ESt.var
  refine ESt.Ok.adds _ (((h.nexts k).know ?_).add ?_) (fun c hc => pairsAt_two hc)
  · rw [seqFrom_length]; omega
  · rw [seqFrom_length]; omega
theorem ESt.Ok.vars : ∀ (l : List BV) {s : ESt}, s.Ok → (∀ x ∈ l, x.k.toNat ≤ 8) → (s.vars l).Ok
  | [], _, h, _ => h
  | x :: l, _, h, hk => ESt.Ok.vars l (h.var (hk x (by simp))) (fun y hy => hk y (by simp [hy]))
theorem ESt.Ok.row {s : ESt} (h : s.Ok) (l : List BV) (i : Nat) (x : BV) (r : Nat) (p : Nat × Nat) (hp : Sm 1000 p) (hx : x.ps.length ≤ 16) : (s.row l i x r p).Ok := by
  unfold ESt.row
  refine ESt.Ok.adds _ ((h.next hp).add ?_) (fun c hc => ?_)
  · have := rowIs_length l s.ind i x r
    simp; omega
  · obtain ⟨y, _, rfl⟩ := List.mem_map.1 hc
    simp
theorem ESt.Ok.rows {s : ESt} (h : s.Ok) (l : List BV) (i : Nat) (x : BV) (hx : x.ps.length ≤ 16) (hs : ∀ p ∈ x.tab, Sm 1000 p) : ∀ j, (s.rows l i x j).Ok
  | 0 => h
  | j + 1 => by
    rw [ESt.rows_succ]
    refine (ESt.Ok.rows h l i x hx hs j).row l i x j _ ?_ hx
    rw [List.getD_eq_getElem?_getD]
    cases hj : x.tab[j]? with
    | none => exact ⟨by decide, by decide⟩
    | some p => exact hs p (List.mem_of_getElem? hj)
theorem ESt.Ok.tables {s : ESt} (h : s.Ok) {l : List BV} (hx : ∀ (i : Nat) (x : BV), l[i]? = some x → x.ps.length ≤ 16 ∧ ∀ p ∈ x.tab, Sm 1000 p) : ∀ j, j ≤ l.length → (s.tables l j).Ok
  | 0, _ => h
  | j + 1, hj => by
    obtain ⟨x, hx'⟩ : ∃ x, l[j]? = some x := ⟨_, List.getElem?_eq_getElem hj⟩
    rw [ESt.tables_succ s l j x hx']
    exact (ESt.Ok.tables h hx j (by omega)).rows l j x (hx j x hx').1 (hx j x hx').2 _
theorem est0_ok : est0.Ok := ⟨rfl, rfl, by simp [est0], by simp [est0]; exact sm11, by simp [est0], by simp [est0]⟩
theorem encOf_ok {l : List BV} (hf : EncFit l) (hs : ∀ (i : Nat) (x : BV), l[i]? = some x → ∀ p ∈ x.tab, Sm 1000 p) : (encOf l).Ok := by
  refine ((ESt.Ok.vars l est0_ok fun x hx => ?_).tables fun i x hx => ⟨(hf.pb i x hx).1, hs i x hx⟩) l.length (Nat.le_refl _)
  obtain ⟨i, hi⟩ := List.getElem?_of_mem hx
  have := (hf.kb i x hi).2
  omega
theorem encOf_len {l : List BV} (hf : EncFit l) : (encOf l).N ≤ 128 ∧ (encOf l).L.length ≤ 10000 ∧ (encOf l).ind.length = l.length := by
  have h1 := ESt.tables_N (est0.vars l) l l.length (Nat.le_refl _)
  have h2 := ESt.vars_N l est0
  have h3 := hf.vb
  rw [varsOf_sum] at h3
  rw [List.take_length] at h1
  have h0 : est0.N = 0 := rfl
  have h4 := ESt.tables_L (est0.vars l) l (fun i x hx => (hf.pb i x hx).1) l.length (Nat.le_refl _)
  have h5 := ESt.vars_L l est0 (fun y hy => by
    obtain ⟨q, hq⟩ := List.getElem?_of_mem hy
    have := (hf.kb q y hq).2
    omega)
  have h6 : est0.L.length = 0 := rfl
  have h7 := hf.l16
  rw [List.take_length] at h4
  have h8 := ESt.vars_ilen l est0
  have h9 : est0.ind.length = 0 := rfl
  unfold encOf
  refine ⟨by omega, by omega, ?_⟩
  rw [ESt.tables_ind]
  omega

structure EncL where
  n : Nat
  L : List (List Int)
  low : List (Nat × Nat)
  high : List (Nat × Nat)
  ind : List (List Int)
noncomputable def encL (l : List BV) : EncL := if checkE l ≠ 0 then ⟨0, [], [], [], []⟩ else ⟨(encOf l).N, (encOf l).L, (encOf l).low, (encOf l).high, (encOf l).ind⟩
structure EncL.Ok (s : EncL) : Prop where
  same : s.low.length = s.high.length
  len : s.low.length ≤ 1000 ∧ s.L.length ≤ 10000 ∧ s.ind.length ≤ 1000
  one : ∀ p ∈ s.low, p = (1, 1)
  sm : ∀ p ∈ s.high, Sm 1000 p
  cl : ∀ c ∈ s.L, c.length ≤ 100
  ind : ∀ c ∈ s.ind, c.length ≤ 100
end Go.Proofs.Ytbacloneddnaeaa

/- BayesEncodes: the walk. -/
namespace Go.Proofs.Ytbacloneddnaeaa
open Go.RowKit Go.Shelf Num

theorem ind_nil (N : Nat) (w : World) (a : Option Addr) : IndAt N w a [] := fun i xs h => by simp at h

theorem enc_prog {l : List BV} (hn : NetIn l) (hs : ∀ (i : Nat) (x : BV), l[i]? = some x → ∀ p ∈ x.tab, Sm 1000 p) (N : Nat) (a : Option Addr) (c : Nat) (w : World) (hN : NetAt N w a l) (hw : N ≤ w.heap.size) :
    Calls Try.prog 17 #[.slice a l.length c] w fun r w' => ∃ la lc wa wc ha hc ia ic, r = .returned (.tuple #[.agg #[.int .i64 ((encL l).n : Nat), .slice la (encL l).L.length lc], .agg #[.slice wa (encL l).low.length wc, .slice ha (encL l).high.length hc], .slice ia (encL l).ind.length ic, .int .i64 (checkE l)]) ∧
      IndAt w'.heap.size w' la (encL l).L ∧ AtN w'.heap.size w' wa (rats (encL l).low) ∧ AtN w'.heap.size w' ha (rats (encL l).high) ∧ IndAt w'.heap.size w' ia (encL l).ind ∧ Below w.heap.size w w' := by
  refine (encode_law gBOne N l a c hn w hN hw).mono ?_
  rintro r w' ⟨hB, ⟨hc, rfl⟩ | ⟨hc, gT, gW, gI, ep, rfl, hE⟩⟩
  · have e : encL l = ⟨0, [], [], [], []⟩ := if_pos hc
    rw [e]
    exact ⟨none, 0, none, 0, none, 0, none, 0, rfl, ind_nil _ _ _, fun i v h => by simp [rats] at h, fun i v h => by simp [rats] at h, ind_nil _ _ _, hB⟩
  · have e : encL l = ⟨(encOf l).N, (encOf l).L, (encOf l).low, (encOf l).high, (encOf l).ind⟩ := if_neg (by rw [hc]; simp)
    have hok := encOf_ok (encFit hn hc) hs
    obtain ⟨la, lc, h1, h2⟩ := ind_of hE.rC (fun i v xs k1 k2 => (hE.oC i v xs k1 k2).1.anyM)
    obtain ⟨ia, ic, h3, h4⟩ := ind_of hE.rI (fun i v xs k1 k2 => (hE.oI i v xs k1 k2).1.anyM)
    have hrow : ∀ {g n cap : Nat} {xs : List Value} {cur : Array Value}, RowB (inW w') 34 2 g n cap xs cur → AtN w'.heap.size w' (some ⟨g, 0, none⟩) xs := fun {g n cap xs cur} h => by
      obtain ⟨a, c, e1, e2, _⟩ := OutN.row (M := []) (RowV.row h) (by simp)
      cases e1
      exact fun i v hi => by
        obtain ⟨g', o, _, e, k⟩ := e2 i v hi
        exact ⟨g', o, block_lt_of_cell k, e, k⟩
    rw [e, hc, h1, h3]
    refine ⟨la, lc, some ⟨ep.gL, 0, none⟩, ep.capL, some ⟨ep.gH, 0, none⟩, ep.capH, ia, ic, ?_, h2, hrow hE.rL, hrow hE.rH, h4, hB⟩
    simp only [hok.low, hok.high]
end Go.Proofs.Ytbacloneddnaeaa

/- BayesModels: two rows that grow; the chosen values; the weights. -/
namespace Go.Proofs.Ytbacloneddnaeaa
open Go.RowKit Go.Shelf Num

structure Two (w : World) (b : Nat) (v1 : Value) (X : List Int) (v2 : Value) (Y : List Int) : Prop where
  o1 : OwnI w b [] v1 X
  o2 : OwnI w b [] v2 Y
  dis : ∀ g ∈ rowBlk v1, g ∉ rowBlk v2
theorem Two.keepB {w w' : World} {b : Nat} {v1 v2 : Value} {X Y : List Int} (h : Two w b v1 X v2 Y) (hb : Below w.heap.size w w') : Two w' b v1 X v2 Y := ⟨h.o1.keepB hb, h.o2.keepB hb, h.dis⟩
theorem Two.sym {w : World} {b : Nat} {v1 v2 : Value} {X Y : List Int} (h : Two w b v1 X v2 Y) : Two w b v2 Y v1 X := ⟨h.o2, h.o1, fun g h1 h2 => h.dis g h2 h1⟩
theorem Two.app {w w' : World} {b : Nat} {v1 v2 v1' : Value} {X Y : List Int} {y : Int} (h : Two w b v1 X v2 Y) (hb : b ≤ w.heap.size) (hB : Behind w (rowBlk v1) w')
    (hr : RowV (inW w') 3 1 v1' (X.length + 1) (ints X ++ [.int .i64 y])) (hn : ∀ g ∈ rowBlk v1', g ∈ rowBlk v1 ∨ w.heap.size ≤ g) : Two w' b v1' (X ++ [y]) v2 Y :=
  ⟨h.o1.grown hb (by simp) hr hn, ⟨h.o2.row.keep hB (fun g hg hm => h.dis g hm hg), h.o2.ge, by simp⟩,
    fun g hg hm => (hn g hg).elim (fun e => h.dis g e hm) (fun e => by have := h.o2.row.lt g hm; omega)⟩

def chosenV (l : List RV) (vu : List Nat) : List Nat := (List.range l.length).map fun i => vu.getD (i % vu.length) 0 % kAt (gnet l) i
theorem chosen_len (l : List RV) (vu : List Nat) : (chosenV l vu).length = l.length := by simp [chosenV]
theorem chosen_get {l : List RV} (vu : List Nat) {j : Nat} (h : j < l.length) : (chosenV l vu)[j]? = some (vu.getD (j % vu.length) 0 % kAt (gnet l) j) := by
  unfold chosenV
  rw [List.getElem?_map, List.getElem?_range h]; rfl
theorem chosen_fit {l : List RV} (hg : Good (gnet l)) (vu : List Nat) : Fit (gnet l) (chosenV l vu) := by
  refine ⟨by rw [chosen_len]; simp [gnet], hg.kb, fun i x v hx hv => ?_⟩
  have hi : i < l.length := by have := (List.getElem?_eq_some_iff.1 hv).1; rwa [chosen_len] at this
  rw [chosen_get vu hi, kAt_of hx] at hv
  have hk := hg.kb i x hx
  have := Nat.mod_lt (vu.getD (i % vu.length) 0) (show 0 < x.k.toNat by omega)
  cases hv
  omega
theorem allowed_fit {l : List BV} {vs : List Nat} (hf : Fit l vs) : allowedP l (vs.map Int.ofNat) 0 := by
  refine ⟨by simpa using hf.len, fun i x v hx hv => ?_⟩
  rw [List.getElem?_map] at hv
  obtain ⟨u, hu, rfl⟩ := Option.map_eq_some_iff.1 hv
  exact ⟨Int.natCast_nonneg u, hf.lt i x u hx hu⟩
theorem joint_val {l : List BV} (hc : checkE l = 0) (hg : Good l) {vs : List Nat} (hf : Fit l vs) : ∃ Q : Nat × Nat, askE l (vs.map Int.ofNat) 0 = (Q, 0) ∧ nz Q = prodV l vs l.length ∧ Sm 1000 Q := by
  refine ⟨rawQ l (vs.map Int.ofNat) l.length [], ?_, ?_⟩
  · unfold askE
    rw [if_neg (by rw [hc]; simp), if_neg (by rw [allowedB_true (allowed_fit hf)]; simp)]
  have h0 := rawQ_spec hg (vs.map Int.ofNat) l.length [] (by simp)
  have h2 := fromQ_full hg hf l.length 0 (by omega)
  have h3 := (fromQ_low hg (vs.map Int.ofNat) l.length [] (by simp)).1
  rw [show vs.take 0 = [] from rfl, show prodV l vs 0 = (1, 1) from rfl, Q.one_mul h3, ← h0.1] at h2
  refine ⟨h2, ?_⟩
  rcases h0.2 with e | e
  · rw [e]; exact ⟨by decide, by decide⟩
  · rw [e, h2]
    have := hg.len
    exact (prodV_low hg vs l.length).2.mono (by omega)

theorem high_low {l : List BV} (hg : Good l) (v : Nat) : Q.Low (nz ((encOf l).high.getD v (1, 1))) ∧ Sm 4 ((encOf l).high.getD v (1, 1)) := by
  have h1 : Q.Low (nz (1, 1)) ∧ Sm 4 (1, 1) := ⟨Q.low11, by decide, by decide⟩
  rw [List.getD_eq_getElem?_getD]
  cases h : (encOf l).high[v]? with
  | none => exact h1
  | some p =>
    have hm := List.mem_of_getElem? h
    rw [encOf_high] at hm
    simp only [List.mem_cons, List.mem_append, List.mem_replicate, List.mem_flatMap] at hm
    rcases hm with rfl | ⟨_, rfl⟩ | ⟨x, hx, hp⟩
    · exact h1
    · exact h1
    · obtain ⟨i, hi⟩ := List.getElem?_of_mem hx
      exact hg.low i x hi p hp
theorem wProd_low {l : List BV} (hg : Good l) (vs : List Nat) : ∀ v, v < (encOf l).high.length → Q.Low (wProd l vs v) ∧ Sm (1 + 6 * v) (wProd l vs v)
  | 0, _ => by
    show Q.Low (1, 1) ∧ Sm 1 (1, 1)
    exact ⟨⟨by decide, by decide⟩, ⟨by decide, by decide⟩⟩
  | v + 1, h => by
    obtain ⟨h1, h2⟩ := wProd_low hg vs v (by omega)
    by_cases ht : Tru l vs ((v + 1 : Nat) : Int)
    · obtain ⟨h3, h4⟩ := high_low hg (v + 1)
      rw [List.getD_eq_getElem?_getD, List.getElem?_eq_getElem h] at h3 h4
      rw [wProd_yes ht, List.getD_eq_getElem?_getD, List.getElem?_eq_getElem h]
      exact ⟨Q.mul_low h1 h3, (sm_mul2 h2 h4.nz).mono (by omega)⟩
    · rw [wProd_no ht]
      exact ⟨h1, h2.mono (by omega)⟩
theorem enc_Llen {l : List BV} (hf : EncFit l) : (encOf l).L.length ≤ 4096 := by
  have h1 := ESt.tables_N (est0.vars l) l l.length (Nat.le_refl _)
  have h2 := ESt.vars_N l est0
  have h3 := hf.vb
  rw [varsOf_sum] at h3
  rw [List.take_length] at h1
  have h0 : est0.N = 0 := rfl
  have h4 := ESt.tables_L (est0.vars l) l (fun i x hx => (hf.pb i x hx).1) l.length (Nat.le_refl _)
  have h5 := ESt.vars_L l est0 (fun y hy => by
    obtain ⟨q, hq⟩ := List.getElem?_of_mem hy
    have := (hf.kb q y hq).2
    omega)
  have h6 : est0.L.length = 0 := rfl
  have h7 := hf.l16
  rw [List.take_length] at h4
  unfold encOf
  omega
theorem cmp_self (p : Nat × Nat) : Q.cmp p p = 0 := by unfold Q.cmp cmpI; simp
end Go.Proofs.Ytbacloneddnaeaa

/- One bit more in a word. -/
namespace Go.Proofs.Ytbacloneddnaeaa
open Go.RowKit Go.Shelf Num

theorem or_bit {m u : Nat} (hm : m < 18446744073709551616) (hu : u < 64) : bits BinOp.or IntKind.u64 (m : Int) (IntKind.u64.wrap (2 ^ u)) = ((m ||| 2 ^ u : Nat) : Int) := by
  have hp : (2 : Nat) ^ u < 2 ^ 64 := Nat.pow_lt_pow_right (by omega) hu
  have e1 : IntKind.u64.wrap (2 ^ u) = ((2 ^ u : Nat) : Int) := by
    unfold IntKind.wrap
    simp only [IntKind.signed, IntKind.bits, Bool.false_and]
    rw [if_neg (by simp)]
    rw [Int.natCast_pow]
    refine Int.emod_eq_of_lt (Int.pow_nonneg (by omega)) ?_
    have := Int.ofNat_lt.2 hp
    rw [Int.natCast_pow, Int.natCast_pow] at this
    exact this
  rw [e1, u64_or_nat _ _ (by omega) (by omega)]
theorem or_lt {m u : Nat} (hm : m < 18446744073709551616) (hu : u < 64) : m ||| 2 ^ u < 18446744073709551616 := Nat.or_lt_two_pow (n := 64) hm (Nat.pow_lt_pow_right (by omega) hu)
end Go.Proofs.Ytbacloneddnaeaa
