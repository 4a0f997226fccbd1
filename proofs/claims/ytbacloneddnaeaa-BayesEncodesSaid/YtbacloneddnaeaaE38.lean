/- Texts of this claim, joined: BCodS, BCodU, BEncX, BSameT. -/
import Derived.Test.YtbacloneddnaeaaE37
import Derived.Test.YtbacloneddnaeaaE27
import Derived.Test.YtbacloneddnaeaaE36

/- What the reference's Encode has made so far, in memory. -/
namespace Go.Proofs.Ytbacloneddnaeaa
open Go.RowKit Go.Shelf Num

structure CodP where
  vL : Value
  vH : Value
  vI : Value
  cl : List Value
  ci : List Value
def CodP.M (e : CodP) (gC : Nat) : List Nat := gC :: (rowBlk e.vL ++ (rowBlk e.vH ++ rowBlk e.vI))

structure CodAt (b top gC : Nat) (e : CodP) (s : ESt) (w : World) : Prop where
  mC : w.heap[gC]? = some (.cells #[.int .i64 0, e.vL, e.vH, e.vI] 51 (0, 0))
  rC : RowV (inW w) 30 1 e.vL s.L.length e.cl
  rH : RowV (inW w) 9 1 e.vH (s.N + 1) (strs (s.high.map rtext))
  rI : RowV (inW w) 30 1 e.vI s.ind.length e.ci
  oC : ∀ (i : Nat) (v : Value) (xs : List Int), e.cl[i]? = some v → s.L[i]? = some xs → OwnI w b (e.M gC) v xs ∧ ∀ g ∈ rowBlk v, g < top
  oI : ∀ (i : Nat) (v : Value) (xs : List Int), e.ci[i]? = some v → s.ind[i]? = some xs → OwnI w b (e.M gC) v xs ∧ ∀ g ∈ rowBlk v, g < top
  ge : ∀ g ∈ e.M gC, b ≤ g
  nd : (e.M gC).Nodup

theorem CodAt.lt {b top gC : Nat} {e : CodP} {s : ESt} {w : World} (h : CodAt b top gC e s w) : ∀ g ∈ e.M gC, g < w.heap.size := by
  intro g hg
  simp only [CodP.M, List.mem_cons, List.mem_append] at hg
  rcases hg with rfl | hg | hg | hg
  · exact lt_of_heap h.mC
  · exact h.rC.lt _ hg
  · exact h.rH.lt _ hg
  · exact h.rI.lt _ hg

theorem CodAt.keep {b top gC : Nat} {e : CodP} {s : ESt} {w w' : World} {U : List Nat} (h : CodAt b top gC e s w) (hk : Behind w U w') (hU : ∀ g ∈ U, top ≤ g ∧ g ∉ e.M gC) : CodAt b top gC e s w' := by
  have hm : ∀ g ∈ e.M gC, g ∉ U := fun g hg hu => (hU g hu).2 hg
  have ho : ∀ v xs, (OwnI w b (e.M gC) v xs ∧ ∀ g ∈ rowBlk v, g < top) → OwnI w' b (e.M gC) v xs ∧ ∀ g ∈ rowBlk v, g < top := fun v xs ⟨h1, h2⟩ =>
    ⟨⟨h1.row.keep hk (fun g hg hu => by have := (hU g hu).1; have := h2 g hg; omega), h1.ge, h1.out⟩, h2⟩
  exact ⟨hk.keep h.mC (hm _ (by simp [CodP.M])), h.rC.keep hk (fun g hg => hm g (by simp [CodP.M, hg])), h.rH.keep hk (fun g hg => hm g (by simp [CodP.M, hg])), h.rI.keep hk (fun g hg => hm g (by simp [CodP.M, hg])),
    fun i v xs h1 h2 => ho v xs (h.oC i v xs h1 h2), fun i v xs h1 h2 => ho v xs (h.oI i v xs h1 h2), h.ge, h.nd⟩

theorem CodAt.lift {b top gC : Nat} {e : CodP} {s : ESt} {w : World} (h : CodAt b top gC e s w) {top' : Nat} (ht : w.heap.size ≤ top') : CodAt b top' gC e s w :=
  { h with
    oC := fun i v xs h1 h2 => ⟨(h.oC i v xs h1 h2).1, fun g hg => Nat.lt_of_lt_of_le ((h.oC i v xs h1 h2).1.row.lt g hg) ht⟩
    oI := fun i v xs h1 h2 => ⟨(h.oI i v xs h1 h2).1, fun g hg => Nat.lt_of_lt_of_le ((h.oI i v xs h1 h2).1.row.lt g hg) ht⟩ }

theorem rowBlk_nd (v : Value) : (rowBlk v).Nodup := by
  cases v <;> simp [rowBlk]
  split <;> simp

theorem nd3 {g0 : Nat} {A B C : List Nat} : (g0 :: (A ++ (B ++ C))).Nodup ↔ (g0 ∉ A ∧ g0 ∉ B ∧ g0 ∉ C) ∧ A.Nodup ∧ B.Nodup ∧ C.Nodup ∧ (∀ g ∈ A, g ∉ B ∧ g ∉ C) ∧ (∀ g ∈ B, g ∉ C) := by
  simp only [List.nodup_cons, List.nodup_append, List.mem_append, not_or]
  constructor
  · rintro ⟨⟨h1, h2, h3⟩, hA, ⟨hB, hC, hBC⟩, hd⟩
    exact ⟨⟨h1, h2, h3⟩, hA, hB, hC, fun g hg => ⟨fun hm => hd g hg g (.inl hm) rfl, fun hm => hd g hg g (.inr hm) rfl⟩, fun g hg hm => hBC g hg g hm rfl⟩
  · rintro ⟨⟨h1, h2, h3⟩, hA, hB, hC, hd, hBC⟩
    refine ⟨⟨h1, h2, h3⟩, hA, ⟨hB, hC, fun g hg g' hg' e => hBC g hg (e ▸ hg')⟩, fun g hg g' hg' e => ?_⟩
    subst e
    rcases hg' with hg' | hg'
    · exact (hd g hg).1 hg'
    · exact (hd g hg).2 hg'

theorem CodAt.next' {b top gC : Nat} {e : CodP} {s : ESt} {w x : World} {v' : Value} {p : Nat × Nat} (h : CodAt b top gC e s w) (mC : x.heap[gC]? = some (.cells #[.int .i64 0, e.vL, v', e.vI] 51 (0, 0)))
    (hr : RowV (inW x) 9 1 v' (s.N + 1 + 1) (strs (s.high.map rtext) ++ [.string (rtext p)])) (hn : ∀ g ∈ rowBlk v', g ∈ rowBlk e.vH ∨ w.heap.size ≤ g) (hx : Behind w (gC :: rowBlk e.vH) x) (hb : b ≤ w.heap.size) :
    CodAt b top gC { e with vH := v' } (s.next p) x ∧ Step (e.M gC) w (CodP.M { e with vH := v' } gC) x := by
  obtain ⟨⟨d1, d2, d3⟩, nA, nB, nC, dA, dB⟩ := nd3.1 h.nd
  have hlt := h.lt
  have lC := lt_of_heap h.mC
  have lA := h.rC.lt
  have lI := h.rI.lt
  have st : Step (e.M gC) w (CodP.M { e with vH := v' } gC) x := by
    refine ⟨hx.mono (by simp only [CodP.M, List.mem_cons, List.mem_append]; rintro k (rfl | hk); simp; simp [hk]), fun g hg => ?_⟩
    simp only [CodP.M, List.mem_cons, List.mem_append] at hg ⊢
    rcases hg with rfl | hg | hg | hg
    · simp
    · simp [hg]
    · rcases hn g hg with hg | hg
      · simp [hg]
      · exact .inr hg
    · simp [hg]
  have nd : (CodP.M { e with vH := v' } gC).Nodup := nd3.2 ⟨⟨d1, fun hm => (hn _ hm).elim d2 (fun e => by omega), d3⟩, nA, rowBlk_nd _, nC,
    fun g hg => ⟨fun hm => (hn _ hm).elim (dA g hg).1 (fun e => by have := lA g hg; omega), (dA g hg).2⟩, fun g hg hm => (hn _ hg).elim (fun h1 => dB g h1 hm) (fun e => by have := lI g hm; omega)⟩
  refine ⟨⟨mC, h.rC.keep hx (fun g hg => ?_), ?_, h.rI.keep hx (fun g hg => ?_), fun i v xs h1 h2 => ⟨(h.oC i v xs h1 h2).1.step st, (h.oC i v xs h1 h2).2⟩, fun i v xs h1 h2 => ⟨(h.oI i v xs h1 h2).1.step st, (h.oI i v xs h1 h2).2⟩, fun g hg => (st.new g hg).elim (h.ge g) (fun e => by omega), nd⟩, st⟩
  · simp only [List.mem_cons, not_or]
    exact ⟨fun e => d1 (e ▸ hg), (dA g hg).1⟩
  · have e1 : strs ((s.next p).high.map rtext) = strs (s.high.map rtext) ++ [.string (rtext p)] := by simp [ESt.next, strs]
    rw [e1]
    exact hr
  · simp only [List.mem_cons, not_or]
    exact ⟨fun e => d3 (e ▸ hg), fun hm => dB g hm hg⟩

theorem CodAt.add' {b top top' gC : Nat} {e : CodP} {s : ESt} {w x : World} {v' vc : Value} {c : List Int} (h : CodAt b top gC e s w) (mC : x.heap[gC]? = some (.cells #[.int .i64 0, v', e.vH, e.vI] 51 (0, 0)))
    (hr : RowV (inW x) 30 1 v' (s.L.length + 1) (e.cl ++ [vc])) (hn : ∀ g ∈ rowBlk v', g ∈ rowBlk e.vL ∨ w.heap.size ≤ g) (hx : Behind w (gC :: rowBlk e.vL) x) (hb : b ≤ w.heap.size) (hc : OwnI x b (CodP.M { e with vL := v', cl := e.cl ++ [vc] } gC) vc c) (ht : ∀ g ∈ rowBlk vc, g < top') (htt : top ≤ top') :
    CodAt b top' gC { e with vL := v', cl := e.cl ++ [vc] } (s.add c) x ∧ Step (e.M gC) w (CodP.M { e with vL := v', cl := e.cl ++ [vc] } gC) x := by
  obtain ⟨⟨d1, d2, d3⟩, nA, nB, nC, dA, dB⟩ := nd3.1 h.nd
  have lC := lt_of_heap h.mC
  have lH := h.rH.lt
  have lI := h.rI.lt
  have st : Step (e.M gC) w (CodP.M { e with vL := v', cl := e.cl ++ [vc] } gC) x := by
    refine ⟨hx.mono (by simp only [CodP.M, List.mem_cons, List.mem_append]; rintro k (rfl | hk); simp; simp [hk]), fun g hg => ?_⟩
    simp only [CodP.M, List.mem_cons, List.mem_append] at hg ⊢
    rcases hg with rfl | hg | hg | hg
    · simp
    · rcases hn g hg with hg | hg
      · simp [hg]
      · exact .inr hg
    · simp [hg]
    · simp [hg]
  have nd : (CodP.M { e with vL := v', cl := e.cl ++ [vc] } gC).Nodup := nd3.2 ⟨⟨fun hm => (hn _ hm).elim d1 (fun e => by omega), d2, d3⟩, rowBlk_nd _, nB, nC,
    fun g hg => ⟨fun hm => (hn _ hg).elim (fun h1 => (dA g h1).1 hm) (fun e => by have := lH g hm; omega), fun hm => (hn _ hg).elim (fun h1 => (dA g h1).2 hm) (fun e => by have := lI g hm; omega)⟩, dB⟩
  have hlen : e.cl.length = s.L.length := by simpa using h.rC.length
  refine ⟨⟨mC, ?_, h.rH.keep hx (fun g hg => ?_), h.rI.keep hx (fun g hg => ?_), fun i v xs h1 h2 => ?_, fun i v xs h1 h2 => ⟨(h.oI i v xs h1 h2).1.step st, fun g hg => Nat.lt_of_lt_of_le ((h.oI i v xs h1 h2).2 g hg) htt⟩, fun g hg => (st.new g hg).elim (h.ge g) (fun e => by omega), nd⟩, st⟩
  · simpa [ESt.add] using hr
  · simp only [List.mem_cons, not_or]
    exact ⟨fun e => d2 (e ▸ hg), fun hm => (dA g hm).1 hg⟩
  · simp only [List.mem_cons, not_or]
    exact ⟨fun e => d3 (e ▸ hg), fun hm => (dA g hm).2 hg⟩
  · rcases get_append_one h1 with k1 | ⟨e1, rfl⟩
    · rcases get_append_one h2 with k2 | ⟨e2, rfl⟩
      · exact ⟨(h.oC i v xs k1 k2).1.step st, fun g hg => Nat.lt_of_lt_of_le ((h.oC i v xs k1 k2).2 g hg) htt⟩
      · exact absurd (List.getElem?_eq_some_iff.1 k1).1 (by omega)
    · rcases get_append_one h2 with k2 | ⟨e2, rfl⟩
      · exact absurd (List.getElem?_eq_some_iff.1 k2).1 (by omega)
      · exact ⟨hc, ht⟩

theorem CodAt.know' {b top top' gC : Nat} {e : CodP} {s : ESt} {w x : World} {v' vc : Value} {c : List Int} (h : CodAt b top gC e s w) (mC : x.heap[gC]? = some (.cells #[.int .i64 0, e.vL, e.vH, v'] 51 (0, 0)))
    (hr : RowV (inW x) 30 1 v' (s.ind.length + 1) (e.ci ++ [vc])) (hn : ∀ g ∈ rowBlk v', g ∈ rowBlk e.vI ∨ w.heap.size ≤ g) (hx : Behind w (gC :: rowBlk e.vI) x) (hb : b ≤ w.heap.size) (hc : OwnI x b (CodP.M { e with vI := v', ci := e.ci ++ [vc] } gC) vc c) (ht : ∀ g ∈ rowBlk vc, g < top') (htt : top ≤ top') :
    CodAt b top' gC { e with vI := v', ci := e.ci ++ [vc] } (s.know c) x ∧ Step (e.M gC) w (CodP.M { e with vI := v', ci := e.ci ++ [vc] } gC) x := by
  obtain ⟨⟨d1, d2, d3⟩, nA, nB, nC, dA, dB⟩ := nd3.1 h.nd
  have lC := lt_of_heap h.mC
  have lL := h.rC.lt
  have lH := h.rH.lt
  have st : Step (e.M gC) w (CodP.M { e with vI := v', ci := e.ci ++ [vc] } gC) x := by
    refine ⟨hx.mono (by simp only [CodP.M, List.mem_cons, List.mem_append]; rintro k (rfl | hk); simp; simp [hk]), fun g hg => ?_⟩
    simp only [CodP.M, List.mem_cons, List.mem_append] at hg ⊢
    rcases hg with rfl | hg | hg | hg
    · simp
    · simp [hg]
    · simp [hg]
    · rcases hn g hg with hg | hg
      · simp [hg]
      · exact .inr hg
  have nd : (CodP.M { e with vI := v', ci := e.ci ++ [vc] } gC).Nodup := nd3.2 ⟨⟨d1, d2, fun hm => (hn _ hm).elim d3 (fun e => by omega)⟩, nA, nB, rowBlk_nd _,
    fun g hg => ⟨(dA g hg).1, fun hm => (hn _ hm).elim (dA g hg).2 (fun e => by have := lL g hg; omega)⟩, fun g hg hm => (hn _ hm).elim (dB g hg) (fun e => by have := lH g hg; omega)⟩
  have hlen : e.ci.length = s.ind.length := by simpa using h.rI.length
  refine ⟨⟨mC, h.rC.keep hx (fun g hg => ?_), h.rH.keep hx (fun g hg => ?_), ?_, fun i v xs h1 h2 => ⟨(h.oC i v xs h1 h2).1.step st, fun g hg => Nat.lt_of_lt_of_le ((h.oC i v xs h1 h2).2 g hg) htt⟩, fun i v xs h1 h2 => ?_, fun g hg => (st.new g hg).elim (h.ge g) (fun e => by omega), nd⟩, st⟩
  · simp only [List.mem_cons, not_or]
    exact ⟨fun e => d1 (e ▸ hg), (dA g hg).2⟩
  · simp only [List.mem_cons, not_or]
    exact ⟨fun e => d2 (e ▸ hg), dB g hg⟩
  · simpa [ESt.know] using hr
  · rcases get_append_one h1 with k1 | ⟨e1, rfl⟩
    · rcases get_append_one h2 with k2 | ⟨e2, rfl⟩
      · exact ⟨(h.oI i v xs k1 k2).1.step st, fun g hg => Nat.lt_of_lt_of_le ((h.oI i v xs k1 k2).2 g hg) htt⟩
      · exact absurd (List.getElem?_eq_some_iff.1 k1).1 (by omega)
    · rcases get_append_one h2 with k2 | ⟨e2, rfl⟩
      · exact absurd (List.getElem?_eq_some_iff.1 k2).1 (by omega)
      · exact ⟨hc, ht⟩

theorem OwnI.anyM {w : World} {b : Nat} {M : List Nat} {v : Value} {xs : List Int} (h : OwnI w b M v xs) : OwnI w b [] v xs := ⟨h.row, h.ge, fun g _ hm => by simp at hm⟩
theorem CodAt.indAt {b top gC : Nat} {e : CodP} {s : ESt} {w : World} (h : CodAt b top gC e s w) : ∃ ia ic, e.vI = .slice ia s.ind.length ic ∧ IndAt w.heap.size w ia s.ind := by
  obtain ⟨a, c, h1, h2, _⟩ := OutN.row (M := []) h.rI (by simp)
  have hlen : e.ci.length = s.ind.length := by simpa using h.rI.length
  refine ⟨a, c, h1, fun i xs hi => ?_⟩
  have hl := (List.getElem?_eq_some_iff.1 hi).1
  obtain ⟨v, hv⟩ : ∃ v, e.ci[i]? = some v := ⟨_, List.getElem?_eq_getElem (by omega)⟩
  obtain ⟨b', o, _, e1, hc⟩ := h2 i v hv
  obtain ⟨pa, pc, rfl, hp⟩ := own_at ((h.oI i v xs hv hi).1.anyM)
  exact ⟨b', o, pa, pc, block_lt_of_cell hc, e1, hc, hp⟩
theorem RowV.pos {B : Blocks} {E : TypeId} {size : Nat} {v : Value} {n : Nat} {xs : List Value} (h : RowV B E size v n xs) (h0 : 0 < n) : ∃ g cap cur, v = .slice (some ⟨g, 0, none⟩) n cap ∧ RowB B E size g n cap xs cur := by
  cases h with
  | nil => omega
  | row h => exact ⟨_, _, _, rfl, h⟩
theorem OwnI.block {x : World} {b g : Nat} {M : List Nat} {c : List Int} (hm : x.heap[g]? = some (.cells (ints c).toArray 3 (0, 0))) (hl : c.length ≤ 1000) (hb : b ≤ g) (hM : g ∉ M) : OwnI x b M (.slice (some ⟨g, 0, none⟩) c.length c.length) c := by
  refine ⟨.row (cur := (ints c).toArray) ⟨hm, Nat.le_refl _, by unfold maxLen; omega, by simp [ints], List.take_of_length_le (by simp [ints]), by simp [ints]⟩, fun g' hg => ?_, fun g' hg hm' => ?_⟩
  · have : g' = g := by simpa [rowBlk] using hg
    omega
  · have : g' = g := by simpa [rowBlk] using hg
    exact hM (this ▸ hm')
theorem CodAt.newL {b top gC g gL n cap : Nat} {e : CodP} {s : ESt} {w : World} {cl : List Value} (h : CodAt b top gC e s w) (hg : w.heap.size ≤ g) (hL : g ≠ gL) : g ∉ CodP.M { e with vL := .slice (some ⟨gL, 0, none⟩) n cap, cl := cl } gC := by
  intro hm
  simp only [CodP.M, List.mem_cons, List.mem_append] at hm
  rcases hm with rfl | hm | hm | hm
  · have := lt_of_heap h.mC; omega
  · exact hL (by simpa [rowBlk] using hm)
  · have := h.rH.lt g hm; omega
  · have := h.rI.lt g hm; omega
theorem own_cell {w : World} {b : Nat} {M : List Nat} {oa : Option Addr} {n oc i : Nat} {y : Int} {xs : List Int} (h : OwnI w b M (.slice oa n oc) xs) (hy : xs[i]? = some y) : ∃ b' o, b' ∉ M ∧ oa = some ⟨b', o, none⟩ ∧ w.cell? ⟨b', o + i, none⟩ = some (.int .i64 y) := by
  obtain ⟨a, c, h1, h2, _⟩ := OutN.row h.row h.out
  cases h1
  exact h2 i _ (ints_get _ _ _ hy)
theorem ind_of {x : World} {b : Nat} {v : Value} {cl : List Value} {L : List (List Int)} (hr : RowV (inW x) 30 1 v L.length cl) (ho : ∀ (i : Nat) (v : Value) (xs : List Int), cl[i]? = some v → L[i]? = some xs → OwnI x b [] v xs) : ∃ ia ic, v = .slice ia L.length ic ∧ IndAt x.heap.size x ia L := by
  obtain ⟨a, c, h1, h2, _⟩ := OutN.row (M := []) hr (by simp)
  have hlen : cl.length = L.length := by simpa using hr.length
  refine ⟨a, c, h1, fun i xs hi => ?_⟩
  have hl := (List.getElem?_eq_some_iff.1 hi).1
  obtain ⟨u, hu⟩ : ∃ u, cl[i]? = some u := ⟨_, List.getElem?_eq_getElem (by omega)⟩
  obtain ⟨b', o, _, e1, hc⟩ := h2 i u hu
  obtain ⟨pa, pc, rfl, hp⟩ := own_at (ho i u xs hu hi)
  exact ⟨b', o, pa, pc, block_lt_of_cell hc, e1, hc, hp⟩
theorem CodAt.out {b top gC gR : Nat} {e : CodP} {s : ESt} {w x : World} (h : CodAt b top gC e s w) (hx : Behind w [gC, gR] x) (hR : gR < b) :
    (∃ ia ic, e.vL = .slice ia s.L.length ic ∧ IndAt x.heap.size x ia s.L) ∧ (∃ ha hc, e.vH = .slice ha (s.N + 1) hc ∧ AtN x.heap.size x ha (strs (s.high.map rtext))) ∧ (∃ ia ic, e.vI = .slice ia s.ind.length ic ∧ IndAt x.heap.size x ia s.ind) := by
  obtain ⟨⟨d1, d2, d3⟩, _⟩ := nd3.1 h.nd
  have hk : ∀ g, g ∈ e.M gC → g ≠ gC → g ∉ [gC, gR] := fun g hg hn hm => by
    have := h.ge g hg
    simp at hm
    rcases hm with rfl | rfl
    · exact hn rfl
    · omega
  have ho : ∀ v xs, OwnI w b (e.M gC) v xs → OwnI x b [] v xs := fun v xs h1 => by
    refine ⟨h1.row.keep hx (fun g hg hm => ?_), h1.ge, fun g _ hm => by simp at hm⟩
    have h2 := h1.ge g hg
    have h3 := h1.out g hg
    simp at hm
    rcases hm with rfl | rfl
    · exact h3 (by simp [CodP.M])
    · omega
  refine ⟨ind_of (h.rC.keep hx (fun g hg => hk g (by simp [CodP.M, hg]) (fun e => d1 (e ▸ hg)))) (fun i v xs h1 h2 => ho v xs (h.oC i v xs h1 h2).1), ?_, ind_of (h.rI.keep hx (fun g hg => hk g (by simp [CodP.M, hg]) (fun e => d3 (e ▸ hg)))) (fun i v xs h1 h2 => ho v xs (h.oI i v xs h1 h2).1)⟩
  obtain ⟨a, c, h1, h2, _⟩ := OutN.row (M := []) (h.rH.keep hx (fun g hg => hk g (by simp [CodP.M, hg]) (fun e => d2 (e ▸ hg)))) (by simp)
  exact ⟨a, c, h1, fun i v hi => by
    obtain ⟨g, o, _, e, k⟩ := h2 i v hi
    exact ⟨g, o, block_lt_of_cell k, e, k⟩⟩
theorem ESt.var_Lge (s : ESt) (k : Nat) : s.L.length + 1 ≤ (s.var k).L.length := by
  unfold ESt.var
  rw [ESt.adds_len]
  have h2 : (((s.nexts k).know (seqFrom s.N k)).add (seqFrom s.N k)).L.length = s.L.length + 1 := by
    show ((s.nexts k).L ++ [seqFrom s.N k]).length = _
    rw [ESt.nexts_L]; simp
  omega
theorem ESt.vars_Lge : ∀ (l : List BV) (s : ESt), s.L.length + l.length ≤ (s.vars l).L.length
  | [], s => Nat.le_refl _
  | x :: l, s => by
    have h1 := ESt.vars_Lge l (s.var x.k.toNat)
    have h2 := ESt.var_Lge s x.k.toNat
    rw [ESt.vars_cons, List.length_cons]
    omega
theorem ESt.tables_Lge (s : ESt) (l : List BV) : ∀ j, j ≤ l.length → s.L.length ≤ (s.tables l j).L.length
  | 0, _ => Nat.le_refl _
  | j + 1, h => by
    obtain ⟨x, hx⟩ : ∃ x, l[j]? = some x := ⟨_, List.getElem?_eq_getElem h⟩
    have h1 := ESt.tables_Lge s l j (by omega)
    rw [ESt.tables_succ s l j x hx, ESt.rows_L]
    omega
end Go.Proofs.Ytbacloneddnaeaa

/- One append to a field of the reference's code, in a fixed region. -/
namespace Go.Proofs.Ytbacloneddnaeaa
open Go.RowKit Go.Shelf Num

theorem behind_cell1 {w : World} {g o : Nat} {v : Value} {cur : Array Value} {T : TypeId} (h : w.heap[g]? = some (.cells cur T (0, 0))) : Behind w [g] (w.setCell ⟨g, o, none⟩ v) := (Behind.refl w [g]).wrote (wrote_cell (o := o) v h) (.inl (by simp))

theorem CodAt.storeH {b top gC : Nat} {e : CodP} {s : ESt} {w w10 : World} {v' : Value} {p : Nat × Nat} {ob : Obj} (h : CodAt b top gC e s w) (hb : b ≤ w.heap.size) (hr : RowV (inW w10) 9 1 v' (s.N + 1 + 1) (strs (s.high.map rtext) ++ [.string (rtext p)])) (hB : Behind (w.alloc ob) (rowBlk e.vH) w10) (hn : ∀ g ∈ rowBlk v', g ∈ rowBlk e.vH ∨ w.heap.size + 1 ≤ g) :
    w10.heap[gC]? = some (.cells #[.int .i64 0, e.vL, e.vH, e.vI] 51 (0, 0)) ∧ CodAt b top gC { e with vH := v' } (s.next p) (w10.setCell ⟨gC, 2, none⟩ v') ∧ Step (e.M gC) w (CodP.M { e with vH := v' } gC) (w10.setCell ⟨gC, 2, none⟩ v') := by
  obtain ⟨⟨d1, d2, d3⟩, _⟩ := nd3.1 h.nd
  have lC := lt_of_heap h.mC
  have hn' : ∀ g ∈ rowBlk v', g ∈ rowBlk e.vH ∨ w.heap.size ≤ g := fun g hg => (hn g hg).imp id (fun k => by omega)
  have h0 : Behind w (rowBlk e.vH) w10 := ((behind_of_below (below_one w ob)).mono (by simp)).trans hB (fun k hk => .inl hk)
  have m := h0.keep h.mC d2
  have hb1 := behind_cell1 (o := 2) (v := v') m
  have hw := wrote_cell (o := 2) v' m
  refine ⟨m, h.next' (by simpa using hw.here) (hr.keep hb1 (fun g hg hm => ?_)) hn' ((h0.mono (fun k hk => List.mem_cons_of_mem _ hk)).trans hb1 (fun k hk => .inl (by simp at hk; simp [hk]))) hb⟩
  have : g = gC := by simpa using hm
  subst this
  exact (hn' _ hg).elim d2 (fun k => by omega)

theorem CodAt.storeL {b top gC : Nat} {e : CodP} {s : ESt} {w w10 : World} {v' vc : Value} {c : List Int} {ob : Obj} (h : CodAt b top gC e s w) (hb : b ≤ w.heap.size) (ht : top ≤ w.heap.size) (hr : RowV (inW w10) 30 1 v' (s.L.length + 1) (e.cl ++ [vc])) (hB : Behind (w.alloc ob) (rowBlk e.vL) w10) (hn : ∀ g ∈ rowBlk v', g ∈ rowBlk e.vL ∨ w.heap.size + 1 ≤ g) (hc : OwnI w b (e.M gC) vc c) :
    w10.heap[gC]? = some (.cells #[.int .i64 0, e.vL, e.vH, e.vI] 51 (0, 0)) ∧ CodAt b w.heap.size gC { e with vL := v', cl := e.cl ++ [vc] } (s.add c) (w10.setCell ⟨gC, 1, none⟩ v') ∧ Step (e.M gC) w (CodP.M { e with vL := v', cl := e.cl ++ [vc] } gC) (w10.setCell ⟨gC, 1, none⟩ v') := by
  obtain ⟨⟨d1, d2, d3⟩, nA, nB, nC, dA, dB⟩ := nd3.1 h.nd
  have lC := lt_of_heap h.mC
  have hn' : ∀ g ∈ rowBlk v', g ∈ rowBlk e.vL ∨ w.heap.size ≤ g := fun g hg => (hn g hg).imp id (fun k => by omega)
  have h0 : Behind w (rowBlk e.vL) w10 := ((behind_of_below (below_one w ob)).mono (by simp)).trans hB (fun k hk => .inl hk)
  have m := h0.keep h.mC d1
  have hb1 := behind_cell1 (o := 1) (v := v') m
  have hw := wrote_cell (o := 1) v' m
  have hx : Behind w (gC :: rowBlk e.vL) (w10.setCell ⟨gC, 1, none⟩ v') := (h0.mono (fun k hk => List.mem_cons_of_mem _ hk)).trans hb1 (fun k hk => .inl (by simp at hk; simp [hk]))
  have hM : ∀ g ∈ CodP.M { e with vL := v', cl := e.cl ++ [vc] } gC, g ∈ e.M gC ∨ w.heap.size ≤ g := fun g hg => by
    simp only [CodP.M, List.mem_cons, List.mem_append] at hg ⊢
    rcases hg with rfl | hg | hg | hg
    · simp
    · rcases hn' g hg with hg | hg
      · simp [hg]
      · exact .inr hg
    · simp [hg]
    · simp [hg]
  have hcs : OwnI (w10.setCell ⟨gC, 1, none⟩ v') b (CodP.M { e with vL := v', cl := e.cl ++ [vc] } gC) vc c := hc.step ⟨hx.mono (by simp only [CodP.M, List.mem_cons, List.mem_append]; rintro k (rfl | hk); simp; simp [hk]), hM⟩
  refine ⟨m, h.add' (by simpa using hw.here) (hr.keep hb1 (fun g hg hm => ?_)) hn' hx hb hcs (fun g hg => hc.row.lt g hg) ht⟩
  have : g = gC := by simpa using hm
  subst this
  exact (hn' _ hg).elim d1 (fun k => by omega)

theorem CodAt.storeI {b top gC : Nat} {e : CodP} {s : ESt} {w w10 : World} {v' vc : Value} {c : List Int} {ob : Obj} (h : CodAt b top gC e s w) (hb : b ≤ w.heap.size) (ht : top ≤ w.heap.size) (hr : RowV (inW w10) 30 1 v' (s.ind.length + 1) (e.ci ++ [vc])) (hB : Behind (w.alloc ob) (rowBlk e.vI) w10) (hn : ∀ g ∈ rowBlk v', g ∈ rowBlk e.vI ∨ w.heap.size + 1 ≤ g) (hc : OwnI w b (e.M gC) vc c) :
    w10.heap[gC]? = some (.cells #[.int .i64 0, e.vL, e.vH, e.vI] 51 (0, 0)) ∧ CodAt b w.heap.size gC { e with vI := v', ci := e.ci ++ [vc] } (s.know c) (w10.setCell ⟨gC, 3, none⟩ v') ∧ Step (e.M gC) w (CodP.M { e with vI := v', ci := e.ci ++ [vc] } gC) (w10.setCell ⟨gC, 3, none⟩ v') := by
  obtain ⟨⟨d1, d2, d3⟩, nA, nB, nC, dA, dB⟩ := nd3.1 h.nd
  have lC := lt_of_heap h.mC
  have hn' : ∀ g ∈ rowBlk v', g ∈ rowBlk e.vI ∨ w.heap.size ≤ g := fun g hg => (hn g hg).imp id (fun k => by omega)
  have h0 : Behind w (rowBlk e.vI) w10 := ((behind_of_below (below_one w ob)).mono (by simp)).trans hB (fun k hk => .inl hk)
  have m := h0.keep h.mC d3
  have hb1 := behind_cell1 (o := 3) (v := v') m
  have hw := wrote_cell (o := 3) v' m
  have hx : Behind w (gC :: rowBlk e.vI) (w10.setCell ⟨gC, 3, none⟩ v') := (h0.mono (fun k hk => List.mem_cons_of_mem _ hk)).trans hb1 (fun k hk => .inl (by simp at hk; simp [hk]))
  have hM : ∀ g ∈ CodP.M { e with vI := v', ci := e.ci ++ [vc] } gC, g ∈ e.M gC ∨ w.heap.size ≤ g := fun g hg => by
    simp only [CodP.M, List.mem_cons, List.mem_append] at hg ⊢
    rcases hg with rfl | hg | hg | hg
    · simp
    · simp [hg]
    · simp [hg]
    · rcases hn' g hg with hg | hg
      · simp [hg]
      · exact .inr hg
  have hcs : OwnI (w10.setCell ⟨gC, 3, none⟩ v') b (CodP.M { e with vI := v', ci := e.ci ++ [vc] } gC) vc c := hc.step ⟨hx.mono (by simp only [CodP.M, List.mem_cons, List.mem_append]; rintro k (rfl | hk); simp; simp [hk]), hM⟩
  refine ⟨m, h.know' (by simpa using hw.here) (hr.keep hb1 (fun g hg hm => ?_)) hn' hx hb hcs (fun g hg => hc.row.lt g hg) ht⟩
  have : g = gC := by simpa using hm
  subst this
  exact (hn' _ hg).elim d3 (fun k => by omega)
end Go.Proofs.Ytbacloneddnaeaa

/- What Encode makes: sizes; plain laws. -/
namespace Go.Proofs.Ytbacloneddnaeaa
open Num

structure ESt.Ok (s : ESt) : Prop where
  low : s.low.length = s.N + 1
  high : s.high.length = s.N + 1
  one : ∀ p ∈ s.low, p = (1, 1)
  sm : ∀ p ∈ s.high, Sm 1000 p
  cl : ∀ c ∈ s.L, c.length ≤ 100
  ind : ∀ c ∈ s.ind, c.length ≤ 100

theorem ESt.Ok.next {s : ESt} (h : s.Ok) {p : Nat × Nat} (hp : Sm 1000 p) : (s.next p).Ok := by
  refine ⟨by simp [ESt.next, h.low], by simp [ESt.next, h.high], fun q hq => ?_, fun q hq => ?_, h.cl, h.ind⟩
  · simp only [ESt.next, List.mem_append, List.mem_singleton] at hq
    exact hq.elim (h.one q) id
  · simp only [ESt.next, List.mem_append, List.mem_singleton] at hq
    rcases hq with hq | rfl
    · exact h.sm q hq
    · exact hp
theorem ESt.Ok.add {s : ESt} (h : s.Ok) {c : List Int} (hc : c.length ≤ 100) : (s.add c).Ok := by
  refine ⟨h.low, h.high, h.one, h.sm, fun q hq => ?_, h.ind⟩
  simp only [ESt.add, List.mem_append, List.mem_singleton] at hq
  rcases hq with hq | rfl
  · exact h.cl q hq
  · exact hc
theorem ESt.Ok.know {s : ESt} (h : s.Ok) {c : List Int} (hc : c.length ≤ 100) : (s.know c).Ok := by
  refine ⟨h.low, h.high, h.one, h.sm, h.cl, fun q hq => ?_⟩
  simp only [ESt.know, List.mem_append, List.mem_singleton] at hq
  rcases hq with hq | rfl
  · exact h.ind q hq
  · exact hc
theorem ESt.Ok.adds : ∀ (cs : List (List Int)) {s : ESt}, s.Ok → (∀ c ∈ cs, c.length ≤ 100) → (s.adds cs).Ok
  | [], _, h, _ => h
  | c :: cs, _, h, hc => ESt.Ok.adds cs (h.add (hc c (by simp))) (fun d hd => hc d (by simp [hd]))
theorem sm11 : Sm 1000 (1, 1) := ⟨by decide, by decide⟩
theorem ESt.Ok.nexts {s : ESt} (h : s.Ok) : ∀ k, (s.nexts k).Ok
  | 0 => h
  | k + 1 => (ESt.Ok.nexts h k).next sm11
theorem pairsAt_two {xs : List Int} {j : Nat} {c : List Int} (h : c ∈ pairsAt xs j) : c.length ≤ 100 := by
  unfold pairsAt at h
  obtain ⟨i, _, h2⟩ := List.mem_flatMap.1 h
  obtain ⟨y, _, rfl⟩ := List.mem_map.1 h2
  simp
theorem ESt.Ok.var {s : ESt} (h : s.Ok) {k : Nat} (hk : k ≤ 8) : (s.var k).Ok := by
  unfold ESt.var
  refine ESt.Ok.adds _ (((h.nexts k).know ?_).add ?_) (fun c hc => pairsAt_two hc)
  · rw [seqFrom_length]; omega
  · rw [seqFrom_length]; omega
theorem ESt.Ok.vars : ∀ (l : List BV) {s : ESt}, s.Ok → (∀ x ∈ l, x.k.toNat ≤ 8) → (s.vars l).Ok
  | [], _, h, _ => h
  | x :: l, _, h, hk => ESt.Ok.vars l (h.var (hk x (by simp))) (fun y hy => hk y (by simp [hy]))
theorem ESt.Ok.row {s : ESt} (h : s.Ok) (l : List BV) (i : Nat) (x : BV) (r : Nat) (p : Nat × Nat) (hp : Sm 1000 p) (hx : x.ps.length ≤ 16) : (s.row l i x r p).Ok := by
  unfold ESt.row
  refine ESt.Ok.adds _ ((h.next hp).add ?_) (fun c hc => ?_)
  · have := rowIs_length l s.ind i x r
    simp; omega
  · obtain ⟨y, _, rfl⟩ := List.mem_map.1 hc
    simp
theorem ESt.Ok.rows {s : ESt} (h : s.Ok) (l : List BV) (i : Nat) (x : BV) (hx : x.ps.length ≤ 16) (hs : ∀ p ∈ x.tab, Sm 1000 p) : ∀ j, (s.rows l i x j).Ok
  | 0 => h
  | j + 1 => by
    rw [ESt.rows_succ]
    refine (ESt.Ok.rows h l i x hx hs j).row l i x j _ ?_ hx
    rw [List.getD_eq_getElem?_getD]
    cases hj : x.tab[j]? with
    | none => exact ⟨by decide, by decide⟩
    | some p => exact hs p (List.mem_of_getElem? hj)
theorem ESt.Ok.tables {s : ESt} (h : s.Ok) {l : List BV} (hx : ∀ (i : Nat) (x : BV), l[i]? = some x → x.ps.length ≤ 16 ∧ ∀ p ∈ x.tab, Sm 1000 p) : ∀ j, j ≤ l.length → (s.tables l j).Ok
  | 0, _ => h
  | j + 1, hj => by
    obtain ⟨x, hx'⟩ : ∃ x, l[j]? = some x := ⟨_, List.getElem?_eq_getElem hj⟩
    rw [ESt.tables_succ s l j x hx']
    exact (ESt.Ok.tables h hx j (by omega)).rows l j x (hx j x hx').1 (hx j x hx').2 _
theorem est0_ok : est0.Ok := ⟨rfl, rfl, by simp [est0], by simp [est0]; exact sm11, by simp [est0], by simp [est0]⟩
theorem encOf_ok {l : List BV} (hf : EncFit l) (hs : ∀ (i : Nat) (x : BV), l[i]? = some x → ∀ p ∈ x.tab, Sm 1000 p) : (encOf l).Ok := by
  refine ((ESt.Ok.vars l est0_ok fun x hx => ?_).tables fun i x hx => ⟨(hf.pb i x hx).1, hs i x hx⟩) l.length (Nat.le_refl _)
  obtain ⟨i, hi⟩ := List.getElem?_of_mem hx
  have := (hf.kb i x hi).2
  omega
theorem encOf_len {l : List BV} (hf : EncFit l) : (encOf l).N ≤ 128 ∧ (encOf l).L.length ≤ 10000 ∧ (encOf l).ind.length = l.length := by
  have h1 := ESt.tables_N (est0.vars l) l l.length (Nat.le_refl _)
  have h2 := ESt.vars_N l est0
  have h3 := hf.vb
  rw [varsOf_sum] at h3
  rw [List.take_length] at h1
  have h0 : est0.N = 0 := rfl
  have h4 := ESt.tables_L (est0.vars l) l (fun i x hx => (hf.pb i x hx).1) l.length (Nat.le_refl _)
  have h5 := ESt.vars_L l est0 (fun y hy => by
    obtain ⟨q, hq⟩ := List.getElem?_of_mem hy
    have := (hf.kb q y hq).2
    omega)
  have h6 : est0.L.length = 0 := rfl
  have h7 := hf.l16
  rw [List.take_length] at h4
  have h8 := ESt.vars_ilen l est0
  have h9 : est0.ind.length = 0 := rfl
  unfold encOf
  refine ⟨by omega, by omega, ?_⟩
  rw [ESt.tables_ind]
  omega

structure EncL where
  n : Nat
  L : List (List Int)
  low : List (Nat × Nat)
  high : List (Nat × Nat)
  ind : List (List Int)
noncomputable def encL (l : List BV) : EncL := if checkE l ≠ 0 then ⟨0, [], [], [], []⟩ else ⟨(encOf l).N, (encOf l).L, (encOf l).low, (encOf l).high, (encOf l).ind⟩
structure EncL.Ok (s : EncL) : Prop where
  same : s.low.length = s.high.length
  len : s.low.length ≤ 1000 ∧ s.L.length ≤ 10000 ∧ s.ind.length ≤ 1000
  one : ∀ p ∈ s.low, p = (1, 1)
  sm : ∀ p ∈ s.high, Sm 1000 p
  cl : ∀ c ∈ s.L, c.length ≤ 100
  ind : ∀ c ∈ s.ind, c.length ≤ 100
theorem encL_ok {l : List BV} (hn : NetIn l) (hs : ∀ (i : Nat) (x : BV), l[i]? = some x → ∀ p ∈ x.tab, Sm 1000 p) : (encL l).Ok := by
  unfold encL
  by_cases hc : checkE l ≠ 0
  · rw [if_pos hc]
    exact ⟨rfl, by simp, by simp, by simp, by simp, by simp⟩
  · rw [if_neg hc]
    have hf := encFit hn (Classical.not_not.1 hc)
    have h := encOf_ok hf hs
    obtain ⟨h1, h2, h3⟩ := encOf_len hf
    have h4 := hf.l16
    exact ⟨h.low.trans h.high.symm, ⟨by have := h.low; show (encOf l).low.length ≤ 1000; omega, h2, by show (encOf l).ind.length ≤ 1000; omega⟩, h.one, h.sm, h.cl, h.ind⟩
end Go.Proofs.Ytbacloneddnaeaa

/- censusref16.SameTheory at two equal theories. -/
namespace Go.Proofs.Ytbacloneddnaeaa
open Go.RowKit Go.Shelf Num

set_option maxHeartbeats 1600000 in
set_option maxRecDepth 100000 in
theorem xtheory_law (n : Int) (L : List (List Int)) (a b : Option Addr) (c d : Nat) (hl : L.length ≤ 100000) (hll : ∀ xs ∈ L, xs.length ≤ 100000) (w : World) (hA : IndAt w.heap.size w a L) (hB : IndAt w.heap.size w b L) :
    Calls Try.prog 19 #[.agg #[.int .i64 n, .slice a L.length c], .agg #[.int .i64 n, .slice b L.length d]] w fun e w' => e = .returned (.bool true) ∧ Below w.heap.size w w' := by
  have HLL := Lib.hid hll
  have HA0 := Lib.hid hA
  have HB0 := Lib.hid hB
  have hne : (n != n) = false := by simp
  clear hA hB hll
  go_enter Try.func19, Try.ntmps19
  go_wp2_with fail
  refine wp_gen ?_
  intro w2 hw2
  have hB2 : Below w.heap.size w w2 := by rw [hw2]; exact below_two _ _ _
  have m2 : w2.heap[w.heap.size]? = some (.cells #[.int .i64 n, .slice a L.length c] 43 (0, 0)) := by rw [hw2]; exact new_two1 _ _ _
  have m3 : w2.heap[w.heap.size + 1]? = some (.cells #[.int .i64 n, .slice b L.length d] 43 (0, 0)) := by rw [hw2]; exact new_two2 _ _ _
  clear hw2
  have hl2 := lt_of_heap m2
  have hl3 := lt_of_heap m3
  have c20 := Lib.hid (blk_cell m2 0 rfl)
  have C21 := Lib.hid (blk_cell m2 1 rfl)
  have C31 := Lib.hid (blk_cell m3 1 rfl)
  have HA := Lib.hid ((HA0.out.below hB2 (Nat.le_refl _)).mono hB2.size)
  have HB := Lib.hid ((HB0.out.below hB2 (Nat.le_refl _)).mono hB2.size)
  have HB2 := Lib.hid hB2
  clear m2 m3 HA0 HB0 hB2
  go_loopw [5] (fun i wr => ∃ j : Nat, j ≤ L.length ∧ i = .int .i64 j ∧ Hid (Below w2.heap.size w2 wr)) (fun i _ => L.length - (intOf i).toNat)
  case atStart => exact ⟨0, Nat.zero_le _, rfl, Below.refl _ _⟩
  case round =>
    obtain ⟨j, hj, rfl, HBR⟩ := hrel
    have d21 := below_cell HBR.out hl2 C21.out
    by_cases hlt : j < L.length
    · have hd : decide (j < L.length) = true := by simpa using hlt
      obtain ⟨xs, hxs⟩ : ∃ xs, L[j]? = some xs := ⟨_, List.getElem?_eq_getElem hlt⟩
      have hxl := HLL.out xs (List.mem_of_getElem? hxs)
      obtain ⟨b1, o1, pa1, pc1, hb1, rfl, k1, hx1⟩ := HA.out j xs hxs
      obtain ⟨b2, o2, pa2, pc2, hb2, rfl, k2, hx2⟩ := HB.out j xs hxs
      have K1 := Lib.hid k1
      have K2 := Lib.hid k2
      have KS : ∀ z : World, Below w2.heap.size w2 z → GivesFrom z 21 #[.slice pa1 xs.length pc1, .slice pa2 xs.length pc2] (.bool true) := fun z hz w' hb =>
        xsame_law z.heap.size xs pa1 pa2 pc1 pc2 hxl w' (((hx1.below hz (Nat.le_refl _)).mono hz.size).below hb (Nat.le_refl _)) (((hx2.below hz (Nat.le_refl _)).mono hz.size).below hb (Nat.le_refl _)) hb.size
      have HKS := Lib.hid KS
      clear hxs k1 k2 hx1 hx2 KS
      go_wp2_with fail
      clear d21
      refine wp_game [0, 0, 0, 0, 0, 0, 0, 0, 0, 0, 0, 0] [] B0 fin_B0 (has_B0 _) (by kernel_rfl) (by kernel_rfl) ?_
      refine lex_quietE 12 (by kernel_rfl) (by rfl) ?_
      apply Exists.intro
      refine ⟨fun z hz => ?_, ?_⟩
      · have hwz := HBR.out.trans (hz.below_of (b := w2.heap.size) (by simp) HBR.out.size)
        have g0 := below_cellp hwz K1.out hb1
        have g1 := below_cellp hwz K2.out hb2
        have g2 := below_cellp hwz C21.out hl2
        have g3 := below_cellp hwz C31.out hl3
        have KSz := HKS.out z hwz
        clear hz hwz
        simp only [List.take_succ_cons, List.take_zero]
        unfold Cx
        repeat (go_big_quiet_step (with_reducible exact KSz.at _))
        exact wpQuiet_nil rfl
      simp only [List.drop_succ_cons, List.drop_zero]
      refine lex_nil ?_
      intro x7 hx7 _
      have HB7 := Lib.hid (HBR.out.trans (hx7.below_of (b := w2.heap.size) (by simp) HBR.out.size))
      clear hx7 HBR K1 K2 HKS
      go_wp2_with fail
      go_roundw
      case rel => exact ⟨j + 1, by omega, by go_num, HB7⟩
      case measure => simp [intOf]; omega
    · obtain rfl : j = L.length := by omega
      go_wp2_with fail
      go_ret
      exact ⟨rfl, HB2.out.trans (HBR.out.mono HB2.out.size)⟩
end Go.Proofs.Ytbacloneddnaeaa
