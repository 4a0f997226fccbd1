/- Texts of this claim, joined: BEncB, BJoint, BEnc10. -/
import Derived.Test.YtbacloneddnaeaaM25
import Derived.Test.YtbacloneddnaeaaM24
import Derived.Test.YtbacloneddnaeaaM20
import Derived.Test.YtbacloneddnaeaaM26
import Derived.Test.YtbacloneddnaeaaM03

/- bayes.Encode: how much it makes; its beginning and its end. -/
namespace Go.Proofs.Ytbacloneddnaeaa
open Go.RowKit Go.Shelf Num

def kSum : List BV → Nat
  | [] => 0
  | x :: l => x.k.toNat + kSum l
def tSum : List BV → Nat
  | [] => 0
  | x :: l => x.tab.length + tSum l
theorem varsOf_sum (l : List BV) : varsOf l = kSum l + tSum l := by
  have : ∀ (l : List BV) (v : Nat), l.foldl (fun v x => v + (x.k.toNat + x.tab.length)) v = v + (kSum l + tSum l) := by
    intro l
    induction l with
    | nil => intro v; simp [kSum, tSum]
    | cons x l ih => intro v; rw [List.foldl_cons, ih]; simp only [kSum, tSum]; omega
  have := this l 0
  unfold varsOf
  omega
theorem kSum_take : ∀ (l : List BV) (j : Nat), kSum (l.take j) ≤ kSum l
  | [], j => by simp
  | x :: l, 0 => by simp [kSum]
  | x :: l, j + 1 => by have := kSum_take l j; simp only [List.take_succ_cons, kSum]; omega
theorem tSum_take : ∀ (l : List BV) (j : Nat) (x : BV), l[j]? = some x → tSum (l.take j) + x.tab.length ≤ tSum l ∧ tSum (l.take (j + 1)) = tSum (l.take j) + x.tab.length
  | [], j, x, h => by simp at h
  | y :: l, 0, x, h => by
    obtain rfl : y = x := by simpa using h
    simp [tSum]
  | y :: l, j + 1, x, h => by
    obtain ⟨h1, h2⟩ := tSum_take l j x (by simpa using h)
    simp only [List.take_succ_cons, tSum] at *
    omega

theorem ESt.var_N (s : ESt) (k : Nat) : (s.var k).N = s.N + k := by unfold ESt.var; rw [ESt.adds_N]; exact ESt.nexts_N s k
theorem ESt.var_ind (s : ESt) (k : Nat) : (s.var k).ind = s.ind ++ [seqFrom s.N k] := by
  unfold ESt.var
  rw [ESt.adds_ind]
  show ((s.nexts k).ind ++ [seqFrom s.N k]) = _
  rw [ESt.nexts_ind]
theorem ESt.var_L (s : ESt) (k : Nat) : (s.var k).L.length ≤ s.L.length + (1 + k * k) := by
  unfold ESt.var
  rw [ESt.adds_len]
  have h1 := pairsAt_length (seqFrom s.N k) k
  rw [seqFrom_length] at h1
  have h2 : (((s.nexts k).know (seqFrom s.N k)).add (seqFrom s.N k)).L.length = s.L.length + 1 := by
    show ((s.nexts k).L ++ [seqFrom s.N k]).length = _
    rw [ESt.nexts_L]; simp
  omega

theorem ESt.vars_cons (s : ESt) (x : BV) (l : List BV) : s.vars (x :: l) = (s.var x.k.toNat).vars l := rfl
theorem ESt.vars_N : ∀ (l : List BV) (s : ESt), (s.vars l).N = s.N + kSum l
  | [], s => rfl
  | x :: l, s => by rw [ESt.vars_cons, ESt.vars_N l, ESt.var_N]; simp only [kSum]; omega
theorem ESt.vars_L : ∀ (l : List BV) (s : ESt), (∀ x ∈ l, x.k.toNat ≤ 8) → (s.vars l).L.length ≤ s.L.length + 65 * l.length
  | [], s, _ => by simp [ESt.vars]
  | x :: l, s, h => by
    rw [ESt.vars_cons]
    have h1 := ESt.vars_L l (s.var x.k.toNat) (fun y hy => h y (by simp [hy]))
    have h2 := ESt.var_L s x.k.toNat
    have h3 := h x (by simp)
    have h4 := Nat.mul_le_mul h3 h3
    simp only [List.length_cons]
    omega
theorem ESt.vars_ilen : ∀ (l : List BV) (s : ESt), (s.vars l).ind.length = s.ind.length + l.length
  | [], s => rfl
  | x :: l, s => by rw [ESt.vars_cons, ESt.vars_ilen l, ESt.var_ind]; simp; omega
theorem ESt.vars_old : ∀ (l : List BV) (s : ESt) (i : Nat), i < s.ind.length → (s.vars l).ind[i]? = s.ind[i]?
  | [], s, i, _ => rfl
  | x :: l, s, i, h => by rw [ESt.vars_cons, ESt.vars_old l _ i (by rw [ESt.var_ind]; simp; omega), ESt.var_ind, List.getElem?_append_left h]
theorem ESt.vars_get : ∀ (l : List BV) (s : ESt) (i : Nat) (x : BV), l[i]? = some x → ∃ n, (s.vars l).ind[s.ind.length + i]? = some (seqFrom n x.k.toNat) ∧ n = s.N + kSum (l.take i) ∧ n + x.k.toNat ≤ (s.vars l).N
  | [], s, i, x, h => by simp at h
  | y :: l, s, 0, x, h => by
    obtain rfl : y = x := by simpa using h
    refine ⟨s.N, ?_, by simp [kSum], ?_⟩
    · rw [ESt.vars_cons, ESt.vars_old l _ _ (by rw [ESt.var_ind]; simp), ESt.var_ind]; simp
    · rw [ESt.vars_N]; simp only [kSum]; omega
  | y :: l, s, i + 1, x, h => by
    obtain ⟨n, h1, h2, h3⟩ := ESt.vars_get l (s.var y.k.toNat) i x (by simpa using h)
    rw [ESt.var_ind, List.length_append, List.length_singleton] at h1
    refine ⟨n, ?_, ?_, by rw [ESt.vars_cons]; exact h3⟩
    · rw [ESt.vars_cons, show s.ind.length + (i + 1) = s.ind.length + 1 + i by omega]; exact h1
    · rw [h2, ESt.var_N]; simp only [List.take_succ_cons, kSum]; omega
theorem ESt.vars_mem : ∀ (l : List BV) (s : ESt) (xs : List Int), xs ∈ (s.vars l).ind → xs ∈ s.ind ∨ ∃ n k, xs = seqFrom n k ∧ n + k ≤ (s.vars l).N
  | [], s, xs, h => .inl h
  | x :: l, s, xs, h => by
    rw [ESt.vars_cons] at h ⊢
    rcases ESt.vars_mem l _ xs h with h | h
    · rw [ESt.var_ind, List.mem_append] at h
      rcases h with h | h
      · exact .inl h
      · refine .inr ⟨s.N, x.k.toNat, by simpa using h, ?_⟩
        rw [ESt.vars_N, ESt.var_N]; omega
    · exact .inr h
theorem ESt.tables_N (s : ESt) (l : List BV) : ∀ j, j ≤ l.length → (s.tables l j).N = s.N + tSum (l.take j)
  | 0, _ => by simp [ESt.tables, tSum]
  | j + 1, h => by
    obtain ⟨x, hx⟩ : ∃ x, l[j]? = some x := ⟨_, List.getElem?_eq_getElem h⟩
    rw [ESt.tables_succ s l j x hx, ESt.rows_N, ESt.tables_N s l j (by omega), (tSum_take l j x hx).2]; omega
theorem ESt.tables_L (s : ESt) (l : List BV) (hp : ∀ (i : Nat) (x : BV), l[i]? = some x → x.ps.length ≤ 16) : ∀ j, j ≤ l.length → (s.tables l j).L.length ≤ s.L.length + tSum (l.take j) * 18
  | 0, _ => by simp [ESt.tables, tSum]
  | j + 1, h => by
    obtain ⟨x, hx⟩ : ∃ x, l[j]? = some x := ⟨_, List.getElem?_eq_getElem h⟩
    have h1 := ESt.tables_L s l hp j (by omega)
    have h2 := hp j x hx
    have h3 := Nat.mul_le_mul_left x.tab.length (show x.ps.length + 2 ≤ 18 by omega)
    rw [ESt.tables_succ s l j x hx, ESt.rows_L, (tSum_take l j x hx).2, Nat.add_mul]; omega

def est0 : ESt := { N := 0, low := [(1, 1)], high := [(1, 1)], L := [], ind := [] }
def encOf (l : List BV) : ESt := (est0.vars l).tables l l.length

structure EncFit (l : List BV) : Prop where
  l16 : l.length ≤ 16
  kb : ∀ (i : Nat) (x : BV), l[i]? = some x → 2 ≤ x.k ∧ x.k ≤ 8
  pb : ∀ (i : Nat) (x : BV), l[i]? = some x → x.ps.length ≤ 16 ∧ ∀ p ∈ x.ps, 0 ≤ p ∧ p.toNat < l.length
  vb : varsOf l ≤ 128

theorem encFit {l : List BV} (hn : NetIn l) (h : checkE l = 0) : EncFit l := by
  have hg := check_ok hn h
  unfold checkE at h
  split at h
  · cases h
  · split at h
    · rename_i hf
      split at h
      · cases h
      · rename_i hv
        refine ⟨hg.len, fun i x hx => ?_, fun i x hx => ⟨hg.plen i x hx, fun p hp => ?_⟩, by omega⟩
        · obtain ⟨y, _, h1, h2, h3, _⟩ := hf i (List.getElem?_eq_some_iff.1 hx).1
          rw [hx] at h1; cases h1; exact ⟨h2, h3⟩
        · have := hg.par i x hx p hp
          have := (List.getElem?_eq_some_iff.1 hx).1
          omega
    · cases h

def encP0 (gL gH : Nat) : EncP := { gL := gL, gH := gH, capL := 1, capH := 1, vL := .slice none 0 0, vI := .slice none 0 0, cl := [], ind := [], curL := #[.string (nb 1), .string (nb 1)], curH := #[.string (nb 1), .string (nb 1)] }
theorem enc_start {b gT gW gI gL gH : Nat} {w : World} (mT : w.heap[gT]? = some (.cells #[.int .i64 0, .slice none 0 0] 43 (0, 0))) (mW : w.heap[gW]? = some (.cells #[.slice (some ⟨gL, 0, none⟩) 1 1, .slice (some ⟨gH, 0, none⟩) 1 1] 46 (0, 0)))
    (mI : w.heap[gI]? = some (.cells #[.slice none 0 0] 41 (0, 0))) (mL : w.heap[gL]? = some (.cells #[.string (nb 1), .string (nb 1)] 34 (0, 0))) (mH : w.heap[gH]? = some (.cells #[.string (nb 1), .string (nb 1)] 34 (0, 0)))
    (hge : b ≤ gT ∧ b ≤ gW ∧ b ≤ gI ∧ b ≤ gL ∧ b ≤ gH) (hnd : [gT, gW, gI, gL, gH].Nodup) : EncAt b w.heap.size gT gW gI (encP0 gL gH) est0 w := by
  have hM : (encP0 gL gH).M gT gW gI = [gT, gW, gI, gL, gH] := rfl
  refine ⟨mT, mW, mI, ⟨mL, by simp [est0, encP0], by simp [encP0, maxLen], by simp [encP0], rfl, rfl⟩, ⟨mH, by simp [est0, encP0], by simp [encP0, maxLen], by simp [encP0], rfl, rfl⟩, .nil, .nil, rfl, fun i v xs h => by simp [encP0] at h, fun i v xs h => by simp [encP0] at h, ?_, ?_⟩
  · rw [hM]
    intro g hg
    simp only [List.mem_cons, List.not_mem_nil, or_false] at hg
    rcases hg with rfl | rfl | rfl | rfl | rfl
    · exact hge.1
    · exact hge.2.1
    · exact hge.2.2.1
    · exact hge.2.2.2.1
    · exact hge.2.2.2.2
  · rw [hM]; exact hnd

theorem behind_putObj (w : World) (D : Nat) (o : Obj) : Behind w [D] (w.putObj D o) :=
  ⟨rfl, rfl, rfl, by simp [World.putObj], fun k _ hk => World.putObj_heap_other (by simpa using hk)⟩

theorem marks_leave {F : Fence} {n : Nat} {P : Program} {fn : Func} {tmps : Array Value} {R : Ending → World → Prop} : ∀ (Ds : List Nat) (w : World), Ds.Nodup → (∀ D ∈ Ds, w.heap[D]? = some (.deferred (some []))) → (∀ w', Behind w Ds w' → ∃ v, (results fn tmps).run P w' = .ok v w' ∧ R (.returned v) w') →
    LeavesInM F n P fn tmps R (Ds.map fun D => { target := .collected D, args := #[] }) .returning w
  | [], w, _, _, h => h w (Behind.refl _ _)
  | D :: Ds, w, hnd, hD, h => by
    refine ⟨by simp, .inl ⟨_, _, rfl, run_takeDeferred (hD D (by simp)), ?_⟩⟩
    have hb := behind_putObj w D (.deferred none)
    have hnd' := List.nodup_cons.1 hnd
    refine marks_leave Ds _ hnd'.2 (fun D' hD' => hb.keep (hD D' (by simp [hD'])) (by
      intro hm
      have : D' = D := by simpa using hm
      exact hnd'.1 (this ▸ hD'))) (fun w' hw' => h w' ((hb.mono (by simp)).trans (hw'.mono (by intro k hk; exact hk)) (fun k hk => .inl (by simp [hk]))))

theorem four_cells (w : World) (A B C D : Obj) : ∃ w4, w4 = (((w.alloc A).alloc B).alloc C).alloc D ∧ w4.heap[w.heap.size]? = some A ∧ w4.heap[w.heap.size + 1]? = some B ∧ w4.heap[w.heap.size + 1 + 1]? = some C ∧ w4.heap[w.heap.size + 1 + 1 + 1]? = some D ∧ w4.heap.size = w.heap.size + 4 ∧ Below w.heap.size w w4 := by
  have h1 := heap_alloc_new w A
  have h2 := heap_alloc_new (w.alloc A) B
  have h3 := heap_alloc_new ((w.alloc A).alloc B) C
  have h4 := heap_alloc_new (((w.alloc A).alloc B).alloc C) D
  simp only [World.size_alloc] at h2 h3 h4
  refine ⟨_, rfl, ?_, ?_, ?_, h4, by simp, (((Below.refl _ w).alloc (Nat.le_refl _) _).alloc (by simp) _).alloc (by simp only [World.size_alloc]; omega) _ |>.alloc (by simp only [World.size_alloc]; omega) _⟩
  · exact (heap_alloc_old _ _ (by simp only [World.size_alloc]; omega)).trans ((heap_alloc_old _ _ (by simp only [World.size_alloc]; omega)).trans ((heap_alloc_old _ _ (by simp)).trans h1))
  · exact (heap_alloc_old _ _ (by simp only [World.size_alloc]; omega)).trans ((heap_alloc_old _ _ (by simp)).trans h2)
  · exact (heap_alloc_old _ _ (by simp)).trans h3

theorem EncAt.same {b top gT gW gI : Nat} {e : EncP} {s : ESt} {w w' : World} {U : List Nat} (h : EncAt b top gT gW gI e s w) (hb : Behind w U w') (hU : ∀ g ∈ U, w'.heap[g]? = w.heap[g]?) : EncAt b top gT gW gI e s w' ∧ Behind w [] w' := by
  have hb0 : Behind w [] w' := ⟨hb.os, hb.tape, hb.output, hb.size, fun k hk _ => if hm : k ∈ U then hU k hm else hb.block k hk hm⟩
  exact ⟨h.keep hb0 (by simp), hb0⟩

theorem wrote_same {x : World} {b o : Nat} {xs : Array Value} {T : TypeId} {v : Value} (h : x.heap[b]? = some (.cells xs T (0, 0))) (hv : xs[o]? = some v) : Wrote b (.cells xs T (0, 0)) x (x.setCell ⟨b, o, none⟩ v) := by
  have e : xs.setIfInBounds o v = xs := by
    apply Array.ext_getElem?
    intro i
    rw [Array.getElem?_setIfInBounds]
    split
    · rename_i h1
      subst h1
      split
      · exact hv.symm
      · rename_i h2
        rw [Array.getElem?_eq_none (by omega)]
    · rfl
  have := wrote_cell (o := o) v h
  rwa [e] at this
theorem Wrote.other {b : Nat} {ob : Obj} {x x' : World} (h : Wrote b ob x x') {g : Nat} {o : Obj} (hg : x.heap[g]? = some o) (hn : g ≠ b) : x'.heap[g]? = some o := (h.block g (lt_of_heap hg) hn).trans hg

theorem five_same {w5 : World} {gT gW gI : Nat} {vT0 vT1 vW0 vW1 vI : Value} {T U V : TypeId} (mT : w5.heap[gT]? = some (.cells #[vT0, vT1] T (0, 0))) (mW : w5.heap[gW]? = some (.cells #[vW0, vW1] U (0, 0))) (mI : w5.heap[gI]? = some (.cells #[vI] V (0, 0))) (h1 : gT ≠ gW) (h2 : gT ≠ gI) (h3 : gW ≠ gI) :
    ∃ W, W = ((((w5.setCell ⟨gT, 0, none⟩ vT0).setCell ⟨gT, 1, none⟩ vT1).setCell ⟨gW, 0, none⟩ vW0).setCell ⟨gW, 1, none⟩ vW1).setCell ⟨gI, 0, none⟩ vI ∧ Behind w5 [gT, gW, gI] W ∧
      W.heap[gT]? = some (.cells #[vT0, vT1] T (0, 0)) ∧ W.heap[gW]? = some (.cells #[vW0, vW1] U (0, 0)) ∧ W.heap[gI]? = some (.cells #[vI] V (0, 0)) := by
  have a1 := wrote_same (o := 0) (v := vT0) mT rfl
  have a2 := wrote_same (o := 1) (v := vT1) a1.here rfl
  have a3 := wrote_same (o := 0) (v := vW0) (a2.other (a1.other mW (Ne.symm h1)) (Ne.symm h1)) rfl
  have a4 := wrote_same (o := 1) (v := vW1) a3.here rfl
  have a5 := wrote_same (o := 0) (v := vI) (a4.other (a3.other (a2.other (a1.other mI (Ne.symm h2)) (Ne.symm h2)) (Ne.symm h3)) (Ne.symm h3)) rfl
  refine ⟨_, rfl, (((((Behind.refl w5 _).wrote a1 (.inl (by simp))).wrote a2 (.inl (by simp))).wrote a3 (.inl (by simp))).wrote a4 (.inl (by simp))).wrote a5 (.inl (by simp)), ?_, a5.other a4.here h3, a5.here⟩
  exact a5.other (a4.other (a3.other a2.here h1) h1) h2

theorem EncAt.keep_cells {b top gT gW gI : Nat} {e : EncP} {s : ESt} {w w' : World} {U : List Nat} (h : EncAt b top gT gW gI e s w) (hk : Behind w U w') (hU : ∀ g ∈ U, ∀ cur T, w.heap[g]? ≠ some (.cells cur T (0, 0))) : EncAt b top gT gW gI e s w' := by
  have hc : ∀ {g : Nat} {cur : Array Value} {T : TypeId}, w.heap[g]? = some (.cells cur T (0, 0)) → g ∉ U := fun h hu => hU _ hu _ _ h
  have hr : ∀ {E : TypeId} {size : Nat} {v : Value} {n : Nat} {xs : List Value}, RowV (inW w) E size v n xs → RowV (inW w') E size v n xs := fun h => h.keep hk (fun g hg => by obtain ⟨c, h2⟩ := h.cells g hg; exact hc h2)
  have ho : ∀ v xs, (OwnI w b (e.M gT gW gI) v xs ∧ ∀ g ∈ rowBlk v, g < top) → OwnI w' b (e.M gT gW gI) v xs ∧ ∀ g ∈ rowBlk v, g < top := fun v xs ⟨h1, h2⟩ => ⟨⟨hr h1.row, h1.ge, h1.out⟩, h2⟩
  have kL : w.heap[e.gL]? = _ := h.rL.blk
  have kH : w.heap[e.gH]? = _ := h.rH.blk
  exact ⟨hk.keep h.mT (hc h.mT), hk.keep h.mW (hc h.mW), hk.keep h.mI (hc h.mI), h.rL.of (B' := inW w') (hk.keep kL (hc kL)), h.rH.of (B' := inW w') (hk.keep kH (hc kH)), hr h.rC, hr h.rI, h.lw,
    fun i v xs h1 h2 => ho v xs (h.oC i v xs h1 h2), fun i v xs h1 h2 => ho v xs (h.oI i v xs h1 h2), h.ge, h.nd⟩
end Go.Proofs.Ytbacloneddnaeaa

/- bayes.Joint, bayes.Ask. -/
namespace Go.Proofs.Ytbacloneddnaeaa
open Go.RowKit Go.Shelf Num

noncomputable def askE (l : List BV) (vs : List Int) (least : Int) : (Nat × Nat) × Int := if checkE l ≠ 0 then ((0, 0), checkE l) else if allowedB l vs least = false then ((0, 0), 1) else (rawQ l vs l.length [], 0)

set_option maxHeartbeats 3200000 in
set_option maxRecDepth 100000 in
theorem joint_law (KO : Gives 45 #[] (.agg #[.string (nb 1), .string (nb 1)])) (N : Nat) (l : List BV) (vs : List Int) (a va : Option Addr) (c vc : Nat) (hn : NetIn l) (hvl : vs.length ≤ 100) (hsz : checkE l = 0 → szs (ksOf l) ≤ 9000) (w : World) (hN : NetAt N w a l) (hV : AtN N w va (ints vs)) (hw : N ≤ w.heap.size) :
    Calls Try.prog 14 #[.slice a l.length c, .slice va vs.length vc] w fun e w' => e = .returned (.tuple #[ratV (askE l vs 0).1, .int .i64 (askE l vs 0).2]) ∧ Below w.heap.size w w' := by
  have HS := Lib.hid hsz
  have HI := Lib.hid hn
  have hl := hn.len
  obtain ⟨w1, hw1, m4, sz1, hB1⟩ := one_cells w #[.string { data := #[] }, .string { data := #[] }] 34
  have HN := Lib.hid (hN.below hB1 hw)
  have HV := Lib.hid (hV.below hB1 hw)
  have hw1N : N ≤ w1.heap.size := Nat.le_trans hw hB1.size
  have KC := check_law KO N l a c hn w1 HN.out hw1N
  have HB1 := Lib.hid hB1
  clear hsz hn hN hV hB1
  go_enter Try.func14, Try.ntmps14
  go_wp2_with fail
  rw [← hw1]
  refine KC.mono ?_
  rintro e2 w2 ⟨rfl, hB2⟩
  have m4' := (hB2.block _ (by omega)).trans m4
  have HB2 := Lib.hid (HB1.out.trans (hB2.mono (B' := w.heap.size) HB1.out.size))
  have HN2 := Lib.hid (HN.out.below hB2 hw1N)
  have HV2 := Lib.hid (HV.out.below hB2 hw1N)
  have hw2N : N ≤ w2.heap.size := Nat.le_trans hw1N hB2.size
  have g1 : w.heap.size < w2.heap.size := lt_of_heap m4'
  have M4 := Lib.hid m4'
  have c0 := blk_cell m4' 0 rfl
  have c1 := blk_cell m4' 1 rfl
  have f0 := blk_free m4' 0
  have f1 := blk_free m4' 1
  clear KC m4 sz1 HN HV hB2 m4' hw1
  by_cases hE : checkE l = 0
  · have hG := check_ok HI.out hE
    have hS := HS.out hE
    rw [hE]
    have KA := allowed_law N l vs a va c vc 0 hl hvl w2 HN2.out HV2.out
    by_cases hA : allowedB l vs 0 = true
    · have hR : askE l vs 0 = (rawQ l vs l.length [], 0) := by unfold askE; rw [if_neg (by omega), if_neg (by rw [hA]; simp)]
      have hvs : vs.length = l.length := Classical.byContradiction fun h => by
        rw [allowedB_false (fun h2 => h h2.1)] at hA
        cases hA
      have KS := sum_law KO N l vs a va c vc hG hvs hS w2 HN2.out HV2.out hw2N
      rw [hA] at KA
      have HR := Lib.hid hR
      clear hE hG hS hA hR hvs
      generalize rawQ l vs l.length [] = S at *
      unfold ratV at KS
      go_wp2_with (go_at_call 36; ((with_reducible refine KA.mono ?_); rintro e3 w3 ⟨rfl, rfl⟩))
      refine KS.mono ?_
      rintro e3 w3 ⟨rfl, hB3⟩
      have m43 := (hB3.block _ g1).trans M4.out
      have HB3 := Lib.hid (HB2.out.trans (hB3.mono (B' := w.heap.size) HB2.out.size))
      have d0 := blk_cell m43 0 rfl
      have d1 := blk_cell m43 1 rfl
      have h0 := blk_free m43 0
      have h1 := blk_free m43 1
      clear c0 c1 f0 f1 hB3 m43 KA KS
      go_wp2_with fail
      exact bodyPost_ret (v := .tuple #[ratV S, .int .i64 0]) (by simp [results, Try.results14, go_sem, d0, d1, ratV]) rfl ⟨by rw [HR.out], (HB3.out.setCell (by simp) _).setCell (by simp) _⟩
    · have hA : allowedB l vs 0 = false := by simpa using hA
      have hR : askE l vs 0 = ((0, 0), 1) := by unfold askE; rw [if_neg (by omega), if_pos hA]
      rw [hA] at KA
      have HR := Lib.hid hR
      clear hE hG hS hA hR
      go_wp2_with (go_at_call 36; ((with_reducible refine KA.mono ?_); rintro e3 w3 ⟨rfl, rfl⟩))
      exact bodyPost_ret (v := .tuple #[ratV (0, 0), .int .i64 1]) (by simp [results, Try.results14, go_sem, c0, c1, ratV, nb_z]) rfl ⟨by rw [HR.out], (HB2.out.setCell (by simp) _).setCell (by simp) _⟩
  · have hR : askE l vs 0 = ((0, 0), checkE l) := if_pos hE
    have HR := Lib.hid hR
    have e1 : (checkE l == 0) = false := beq_no hE
    have e2 : (checkE l != 0) = true := by simp [bne, e1]
    generalize checkE l = E at *
    clear hE hR
    go_wp2_with fail
    exact bodyPost_ret (v := .tuple #[ratV (0, 0), .int .i64 E]) (by simp [results, Try.results14, go_sem, c0, c1, ratV, nb_z]) rfl ⟨by rw [HR.out], (HB2.out.setCell (by simp) _).setCell (by simp) _⟩

set_option maxHeartbeats 3200000 in
set_option maxRecDepth 100000 in
theorem ask_law (KO : Gives 45 #[] (.agg #[.string (nb 1), .string (nb 1)])) (N : Nat) (l : List BV) (vs : List Int) (a va : Option Addr) (c vc : Nat) (hn : NetIn l) (hvl : vs.length ≤ 100) (hsz : checkE l = 0 → szs (ksOf l) ≤ 9000) (w : World) (hN : NetAt N w a l) (hV : AtN N w va (ints vs)) (hw : N ≤ w.heap.size) :
    Calls Try.prog 28 #[.slice a l.length c, .slice va vs.length vc] w fun e w' => e = .returned (.tuple #[ratV (askE l vs (-1)).1, .int .i64 (askE l vs (-1)).2]) ∧ Below w.heap.size w w' := by
  have HS := Lib.hid hsz
  have HI := Lib.hid hn
  have hl := hn.len
  obtain ⟨w1, hw1, m4, sz1, hB1⟩ := one_cells w #[.string { data := #[] }, .string { data := #[] }] 34
  have HN := Lib.hid (hN.below hB1 hw)
  have HV := Lib.hid (hV.below hB1 hw)
  have hw1N : N ≤ w1.heap.size := Nat.le_trans hw hB1.size
  have KC := check_law KO N l a c hn w1 HN.out hw1N
  have HB1 := Lib.hid hB1
  clear hsz hn hN hV hB1
  go_enter Try.func28, Try.ntmps28
  go_wp2_with fail
  rw [← hw1]
  refine KC.mono ?_
  rintro e2 w2 ⟨rfl, hB2⟩
  have m4' := (hB2.block _ (by omega)).trans m4
  have HB2 := Lib.hid (HB1.out.trans (hB2.mono (B' := w.heap.size) HB1.out.size))
  have HN2 := Lib.hid (HN.out.below hB2 hw1N)
  have HV2 := Lib.hid (HV.out.below hB2 hw1N)
  have hw2N : N ≤ w2.heap.size := Nat.le_trans hw1N hB2.size
  have g1 : w.heap.size < w2.heap.size := lt_of_heap m4'
  have M4 := Lib.hid m4'
  have c0 := blk_cell m4' 0 rfl
  have c1 := blk_cell m4' 1 rfl
  have f0 := blk_free m4' 0
  have f1 := blk_free m4' 1
  clear KC m4 sz1 HN HV hB2 m4' hw1
  by_cases hE : checkE l = 0
  · have hG := check_ok HI.out hE
    have hS := HS.out hE
    rw [hE]
    have KA := allowed_law N l vs a va c vc (-1) hl hvl w2 HN2.out HV2.out
    by_cases hA : allowedB l vs (-1) = true
    · have hR : askE l vs (-1) = (rawQ l vs l.length [], 0) := by unfold askE; rw [if_neg (by omega), if_neg (by rw [hA]; simp)]
      have hvs : vs.length = l.length := Classical.byContradiction fun h => by
        rw [allowedB_false (fun h2 => h h2.1)] at hA
        cases hA
      have KS := sum_law KO N l vs a va c vc hG hvs hS w2 HN2.out HV2.out hw2N
      rw [hA] at KA
      have HR := Lib.hid hR
      clear hE hG hS hA hR hvs
      generalize rawQ l vs l.length [] = S at *
      unfold ratV at KS
      go_wp2_with (go_at_call 36; ((with_reducible refine KA.mono ?_); rintro e3 w3 ⟨rfl, rfl⟩))
      refine KS.mono ?_
      rintro e3 w3 ⟨rfl, hB3⟩
      have m43 := (hB3.block _ g1).trans M4.out
      have HB3 := Lib.hid (HB2.out.trans (hB3.mono (B' := w.heap.size) HB2.out.size))
      have d0 := blk_cell m43 0 rfl
      have d1 := blk_cell m43 1 rfl
      have h0 := blk_free m43 0
      have h1 := blk_free m43 1
      clear c0 c1 f0 f1 hB3 m43 KA KS
      go_wp2_with fail
      exact bodyPost_ret (v := .tuple #[ratV S, .int .i64 0]) (by simp [results, Try.results28, go_sem, d0, d1, ratV]) rfl ⟨by rw [HR.out], (HB3.out.setCell (by simp) _).setCell (by simp) _⟩
    · have hA : allowedB l vs (-1) = false := by simpa using hA
      have hR : askE l vs (-1) = ((0, 0), 1) := by unfold askE; rw [if_neg (by omega), if_pos hA]
      rw [hA] at KA
      have HR := Lib.hid hR
      clear hE hG hS hA hR
      go_wp2_with (go_at_call 36; ((with_reducible refine KA.mono ?_); rintro e3 w3 ⟨rfl, rfl⟩))
      exact bodyPost_ret (v := .tuple #[ratV (0, 0), .int .i64 1]) (by simp [results, Try.results28, go_sem, c0, c1, ratV, nb_z]) rfl ⟨by rw [HR.out], (HB2.out.setCell (by simp) _).setCell (by simp) _⟩
  · have hR : askE l vs (-1) = ((0, 0), checkE l) := if_pos hE
    have HR := Lib.hid hR
    have e1 : (checkE l == 0) = false := beq_no hE
    have e2 : (checkE l != 0) = true := by simp [bne, e1]
    generalize checkE l = E at *
    clear hE hR
    go_wp2_with fail
    exact bodyPost_ret (v := .tuple #[ratV (0, 0), .int .i64 E]) (by simp [results, Try.results28, go_sem, c0, c1, ratV, nb_z]) rfl ⟨by rw [HR.out], (HB2.out.setCell (by simp) _).setCell (by simp) _⟩

end Go.Proofs.Ytbacloneddnaeaa

/- bayes.Encode. -/
-- slots 194
namespace Go.Proofs.Ytbacloneddnaeaa
open Go.RowKit Go.Shelf Num

def EncPost (l : List BV) (w : World) (r : Ending) (w' : World) : Prop := Below w.heap.size w w' ∧
  ((checkE l ≠ 0 ∧ r = .returned (.tuple #[.agg #[.int .i64 0, .slice none 0 0], .agg #[.slice none 0 0, .slice none 0 0], .slice none 0 0, .int .i64 (checkE l)])) ∨
   (checkE l = 0 ∧ ∃ gT gW gI ep, r = .returned (.tuple #[.agg #[.int .i64 ((encOf l).N : Nat), ep.vL], .agg #[.slice (some ⟨ep.gL, 0, none⟩) (encOf l).low.length ep.capL, .slice (some ⟨ep.gH, 0, none⟩) (encOf l).low.length ep.capH], ep.vI, .int .i64 0]) ∧ EncAt (w.heap.size + 1) w'.heap.size gT gW gI ep (encOf l) w'))

set_option maxHeartbeats 6400000 in
set_option maxRecDepth 100000 in
theorem encode_law (KO : Gives 45 #[] (ratV (1, 1))) (N : Nat) (l : List BV) (a : Option Addr) (c : Nat) (hn : NetIn l) (w : World) (hN : NetAt N w a l) (hw : N ≤ w.heap.size) :
    Calls Try.prog 17 #[.slice a l.length c] w fun r w' => EncPost l w r w' := by
  obtain ⟨R, hR⟩ : ∃ R : Ending → World → Prop, R = fun r w' => EncPost l w r w' := ⟨_, rfl⟩
  rw [← hR]
  have HR := Lib.hid hR
  have HN := Lib.hid hN
  have HI := Lib.hid hn
  have HW := Lib.hid hw
  have hl := hn.len
  clear hR hn hN hw
  rw [← callsIn_wide (n := 5)]
  refine callsIn_of_wp_marks Try.func17 rfl trivial ?_ rfl
  simp only [Try.ntmps17, List.size_toArray, List.length_cons, List.length_nil, Nat.reduceAdd, Nat.reduceSub, Array.replicate_succ, Array.replicate_zero, List.push_toArray, List.append_toArray, List.nil_append, List.cons_append]
  refine wpIn_wide.2 ?_
  go_wp2_with fail
  obtain ⟨w4, hw4, m1, mT, mW, mI, sz4, hB4⟩ := four_cells w (Obj.cells #[Value.slice a l.length c] 26) (Obj.cells #[Value.int IntKind.i64 0, Value.slice none 0 0] 43) (Obj.cells #[Value.slice none 0 0, Value.slice none 0 0] 46) (Obj.cells #[Value.slice none 0 0] 41)
  rw [← hw4]
  clear hw4
  refine (check_law KO N l a c HI.out w4 (HN.out.below hB4 HW.out) (by have := HW.out; omega)).mono ?_
  rintro r5 w5 ⟨rfl, hB5⟩
  have HB5 := Lib.hid (hB4.trans (hB5.mono (by omega)))
  have hb5 := behind_of_below hB5
  have m1 := hb5.keep m1 (by simp)
  have mT := hb5.keep mT (by simp)
  have mW := hb5.keep mW (by simp)
  have mI := hb5.keep mI (by simp)
  have sz5 : w.heap.size + 4 ≤ w5.heap.size := by have := hB5.size; omega
  have HM1 := Lib.hid m1
  have HMT := Lib.hid mT
  have HMW := Lib.hid mW
  have HMI := Lib.hid mI
  have c1 := blk_cell m1 0 rfl
  have cT0 := blk_cell mT 0 rfl
  have cT1 := blk_cell mT 1 rfl
  have cW0 := blk_cell mW 0 rfl
  have cW1 := blk_cell mW 1 rfl
  have cI0 := blk_cell mI 0 rfl
  have fT0 := blk_free mT 0
  have fT1 := blk_free mT 1
  have fW0 := blk_free mW 0
  have fW1 := blk_free mW 1
  have fI0 := blk_free mI 0
  clear hB4 hB5 hb5 m1 mT mW mI sz4
  by_cases hE : checkE l = 0
  · have hfit := encFit HI.out hE
    have hE1 : (checkE l == 0) = true := by simp [hE]
    rw [hE]
    clear hE1
    go_wp2_with fail
    have KO' : Gives 45 #[] (.agg #[.string (nb 1), .string (nb 1)]) := KO
    refine (KO' _).mono ?_
    rintro r6 w6 ⟨rfl, hB6⟩
    go_wp2_with fail
    obtain ⟨w7, hw7, mL, sz7, hB7⟩ := one_cells w6 #[.string (nb 1), .string (nb 1)] 34
    rw [← hw7]
    clear hw7
    refine (KO' _).mono ?_
    rintro r8 w8 ⟨rfl, hB8⟩
    have h58 : Behind w5 [] w8 := ((behind_of_below hB6).trans (behind_of_below hB7) (by simp)).trans (behind_of_below hB8) (by simp)
    have k1 := h58.keep HM1.out (by simp)
    have kT := h58.keep HMT.out (by simp)
    have kW := h58.keep HMW.out (by simp)
    have kI := h58.keep HMI.out (by simp)
    have kL := (behind_of_below hB8).keep mL (by simp)
    have c1 := blk_cell k1 0 rfl
    have cT0 := blk_cell kT 0 rfl
    have cT1 := blk_cell kT 1 rfl
    have cW0 := blk_cell kW 0 rfl
    have cW1 := blk_cell kW 1 rfl
    have cI0 := blk_cell kI 0 rfl
    have fW0 := blk_free kW 0
    have fW1 := blk_free kW 1
    have K1 := Lib.hid k1
    have KT := Lib.hid kT
    have KW := Lib.hid kW
    have KI := Lib.hid kI
    have KL := Lib.hid kL
    have H58 := Lib.hid h58
    have hs8 : w6.heap.size + 1 ≤ w8.heap.size := by have := hB8.size; omega
    have hs6 : w5.heap.size ≤ w6.heap.size := hB6.size
    have hlW := lt_of_heap kW
    have hl1 := lt_of_heap k1
    have hlI := lt_of_heap kI
    clear k1 kT kW kI kL h58 mL hB6 hB7 hB8 fT0 fT1 fI0
    go_wp2_with fail
    refine wp_gen ?_
    intro w9 hw9
    have aW := wrote_cell (o := 0) (.slice (some ⟨w6.heap.size, 0, none⟩) 1 1) KW.out
    have aX := wrote_cell (o := 1) (.slice (some ⟨w8.heap.size, 0, none⟩) 1 1) aW.here
    obtain ⟨X, hX⟩ : ∃ X, X = (w8.setCell ⟨w.heap.size + 1 + 1, 0, none⟩ (.slice (some ⟨w6.heap.size, 0, none⟩) 1 1)).setCell ⟨w.heap.size + 1 + 1, 1, none⟩ (.slice (some ⟨w8.heap.size, 0, none⟩) 1 1) := ⟨_, rfl⟩
    have hszX : X.heap.size = w8.heap.size := by rw [hX]; simp
    have hBX : Behind w8 [w.heap.size + 1 + 1] X := by rw [hX]; exact ((Behind.refl w8 _).wrote aW (.inl (by simp))).wrote aX (.inl (by simp))
    have mWX : X.heap[w.heap.size + 1 + 1]? = some (.cells #[.slice (some ⟨w6.heap.size, 0, none⟩) 1 1, .slice (some ⟨w8.heap.size, 0, none⟩) 1 1] 46 (0, 0)) := by rw [hX]; simpa using aX.here
    rw [← hX] at hw9
    have hA9 : Behind X [] w9 := by rw [hw9]; exact behind_of_below ((Below.refl _ _).alloc (Nat.le_refl _) _)
    have mH9 : w9.heap[w8.heap.size]? = some (.cells #[.string (nb 1), .string (nb 1)] 34 (0, 0)) := by rw [hw9, ← hszX]; exact heap_alloc_new X _
    have h89 : Behind w8 [w.heap.size + 1 + 1] w9 := hBX.trans hA9 (by simp)
    have m19 := h89.keep K1.out (by simp; omega)
    have hE9 := enc_start (b := w.heap.size + 1) (h89.keep KT.out (by simp)) (hA9.keep mWX (by simp)) (h89.keep KI.out (by simp)) (h89.keep KL.out (by simp; omega)) mH9 (by omega) (by simp only [List.nodup_cons, List.mem_cons, List.not_mem_nil, or_false, not_or, List.nodup_nil, and_true, not_false_eq_true]; omega)
    have hb9 : w.heap.size + 1 ≤ w9.heap.size := by have := hA9.size; omega
    have h59 : Behind w5 [w.heap.size + 1 + 1] w9 := (H58.out.mono (by simp)).trans h89 (fun k hk => .inl hk)
    have hBe9 : Below w.heap.size w w9 := HB5.out.trans (h59.below_of (by intro k hk; rw [List.mem_singleton.1 hk]; omega) (by omega))
    have HE9 := Lib.hid hE9
    have HM9 := Lib.hid m19
    have HBE9 := Lib.hid hBe9
    have HFIT := Lib.hid hfit
    have hl16 := hfit.l16
    have hvs := varsOf_sum l
    have hvb := hfit.vb
    have hn9 : N ≤ w.heap.size + 1 := by have := HW.out; omega
    clear aW aX hX hBX mWX hA9 mH9 h89 m19 hE9 h59 hBe9 hw9 c1 cT0 cT1 cW0 cW1 cI0 fW0 fW1 hfit
    refine wp_code (c' := loopNo Try.f17 0) (by kernel_rfl) ?_
    refine enc_loop1 _ (w.heap.size + 1) _ _ _ _ (encP0 w6.heap.size w8.heap.size) est0 w9 N l a c KO HE9.out hb9 (HN.out.below HBE9.out HW.out) hn9 hl16 HFIT.out.kb
      (fun j => by rw [ESt.vars_N]; have := kSum_take l j; simp only [est0]; omega)
      (fun j => by
        have h1 := ESt.vars_L (l.take j) est0 (fun x hx => by
          obtain ⟨i, hi⟩ := List.getElem?_of_mem (List.mem_of_mem_take hx)
          have := HFIT.out.kb i x hi
          omega)
        simp only [est0, List.length_nil, List.length_take] at h1 ⊢; omega)
      (fun j => by rw [ESt.vars_ilen]; simp only [est0, List.length_nil, List.length_take]; omega) ?_
    intro y10 y11 y12 y13 y15 y47 y48 y49 y50 y51 y52 y53 y54 y55 y56 y57 y58 y59 y60 y61 y62 y63 y64 y65 y66 y67 y68 y69 y70 y71 y72 y73 y74 y75 y76 y77 y78 y79 y80 y81 y82 y83 y84 y85 y86 y87 y88 y89 y90 y91 y92 y93 y94 e10 w10 hE10 hS10
    have hgM : w.heap.size ∉ (encP0 w6.heap.size w8.heap.size).M (w.heap.size + 1) (w.heap.size + 1 + 1) (w.heap.size + 1 + 1 + 1) := fun hm => by have := HE9.out.ge _ hm; omega
    have m10 := hS10.keep HM9.out hgM
    have hBe10 : Below w.heap.size w w10 := HBE9.out.trans (hS10.below (fun k hk => by have := HE9.out.ge k hk; omega) (by omega))
    have hb10 : w.heap.size + 1 ≤ w10.heap.size := Nat.le_trans hb9 hS10.beh.size
    have c1 := blk_cell m10 0 rfl
    have HE10 := Lib.hid hE10
    have HM10 := Lib.hid m10
    have HBE10 := Lib.hid hBe10
    clear hE10 hS10 m10 hBe10 hgM
    go_wp2_with fail
    have hind : ∀ (i : Nat) (x : BV), l[i]? = some x → ∃ xs, (est0.vars l).ind[i]? = some xs ∧ (xs.length : Int) = x.k ∧ 2 ≤ xs.length ∧ xs.length ≤ 8 := fun i x hx => by
      obtain ⟨n, h1, _, _⟩ := ESt.vars_get l est0 i x hx
      have h2 := HFIT.out.kb i x hx
      rw [show est0.ind.length + i = i by simp [est0]] at h1
      refine ⟨_, h1, ?_, ?_, ?_⟩ <;> rw [seqFrom_length] <;> omega
    have hil : (est0.vars l).ind.length ≤ 16 := by rw [ESt.vars_ilen]; simp only [est0, List.length_nil]; omega
    have hNN : (est0.vars l).N = kSum l := by rw [ESt.vars_N]; simp [est0]
    have him : ∀ xs ∈ (est0.vars l).ind, ∀ y ∈ xs, 0 ≤ y ∧ y ≤ 100000 := fun xs hxs y hy => by
      rcases ESt.vars_mem l est0 xs hxs with h | ⟨n, k, rfl, h⟩
      · simp [est0] at h
      · have := seqFrom_mem hy
        omega
    have hLL : (est0.vars l).L.length ≤ 1040 := by
      have h1 := ESt.vars_L l est0 (fun x hx => by
        obtain ⟨i, hi⟩ := List.getElem?_of_mem hx
        have := HFIT.out.kb i x hi
        omega)
      simp only [est0, List.length_nil] at h1 ⊢; omega
    have htab : ∀ (i : Nat) (x : BV), l[i]? = some x → x.tab.length ≤ 1000 ∧ ((est0.vars l).tables l i).N + x.tab.length ≤ 1000 ∧ ((est0.vars l).tables l i).L.length + x.tab.length * (x.ps.length + 2) ≤ 100000 := fun i x hx => by
      have hi := (List.getElem?_eq_some_iff.1 hx).1
      have h1 := (tSum_take l i x hx).1
      have h2 := ESt.tables_N (est0.vars l) l i (by omega)
      have h3 := ESt.tables_L (est0.vars l) l (fun j y hy => (HFIT.out.pb j y hy).1) i (by omega)
      have h4 := (HFIT.out.pb i x hx).1
      have h5 := Nat.mul_le_mul (show x.tab.length ≤ 128 by omega) (show x.ps.length + 2 ≤ 18 by omega)
      omega
    refine wp_code (c' := loopNo Try.f17 4) (by kernel_rfl) ?_
    refine enc_loop5 _ (w.heap.size + 1) _ _ _ _ e10 (est0.vars l) w10 N w.heap.size a c l KO HE10.out hb10 (Marks.nil _ _) HM10.out (by omega) (HN.out.below HBE10.out HW.out) hn9 hl16 HFIT.out.kb HFIT.out.pb hind hil him htab ?_
    intro y16 y17 y18 y19 y20 y23 y24 y26 y28 y98 y99 y100 y101 y102 y103 y104 y105 y106 y107 y108 y109 y110 y111 y112 y113 y114 y115 y116 y117 y118 y119 y120 y121 y122 y123 y124 y125 y126 y127 y153 y154 y155 y156 y157 y158 y159 y160 y161 y162 y163 y164 y165 y166 y167 y168 y169 y170 y171 y172 y173 y174 y175 y176 y177 y178 y179 y180 y181 y182 y183 y184 y185 y186 y187 y188 y189 y190 ds' e11 w11 hE11 hS11 hM11
    obtain ⟨Ds, rfl, hnd, hDs⟩ := hM11
    have hBe11 : Below w.heap.size w w11 := HBE10.out.trans (hS11.below (fun k hk => by have := HE10.out.ge k hk; omega) (by omega))
    have mT := hE11.mT
    have mW := hE11.mW
    have mI := hE11.mI
    obtain ⟨pL, cL, hvL⟩ := hE11.rC.slice
    obtain ⟨pI, cI, hvI⟩ := hE11.rI.slice
    rw [hvL] at mT
    rw [hvI] at mI
    have HE11 := Lib.hid hE11
    have HBE11 := Lib.hid hBe11
    have HMT := Lib.hid mT
    have HMW := Lib.hid mW
    have HMI := Lib.hid mI
    have HVL := Lib.hid hvL
    have HVI := Lib.hid hvI
    have HDS := Lib.hid hDs
    have HND := Lib.hid hnd
    clear hE11 hS11 hBe11 mT mW mI hvL hvI hDs hnd hind hil him hLL htab c1
    go_wp2_with fail
    refine wp_game [0, 0, 0, 0, 0, 0, 0] [] B0 fin_B0 (has_B0 _) (by kernel_rfl) (by kernel_rfl) ?_
    refine lex_quietE 3 (by kernel_rfl) (by rfl) ?_
    apply Exists.intro
    refine ⟨fun z hz => ?_, ?_⟩
    · have g0 := blk_cellp (hz.keep HMT.out (by simp)) 0 rfl
      have g1 := blk_cellp (hz.keep HMT.out (by simp)) 1 rfl
      have g2 := blk_cellp (hz.keep HMW.out (by simp)) 0 rfl
      have g3 := blk_cellp (hz.keep HMW.out (by simp)) 1 rfl
      have g4 := blk_cellp (hz.keep HMI.out (by simp)) 0 rfl
      clear hz
      simp only [List.take_succ_cons, List.take_zero]
      unfold Cx
      repeat (go_big_quiet_step (fail))
      exact wpQuiet_nil rfl
    simp only [List.drop_succ_cons, List.drop_zero]
    refine lex_store_same (w.heap.size + 1) (.agg #[.int .i64 (((est0.vars l).tables l l.length).N : Nat), .slice pL ((est0.vars l).tables l l.length).L.length cL]) _ _ (by rfl) (by rfl) (by rfl) HMT.out (by simp) (by rfl) (by kernel_rfl) (by simp [Value.cells, Value.oneCell']) ?_
    refine lex_store_same (w.heap.size + 1 + 1) (.agg #[.slice (some ⟨e11.gL, 0, none⟩) ((est0.vars l).tables l l.length).low.length e11.capL, .slice (some ⟨e11.gH, 0, none⟩) ((est0.vars l).tables l l.length).low.length e11.capH]) _ _ (by rfl) (by rfl) (by rfl) HMW.out (by simp) (by rfl) (by kernel_rfl) (by simp [Value.cells, Value.oneCell']) ?_
    refine lex_store_same (w.heap.size + 1 + 1 + 1) (.slice pI ((est0.vars l).tables l l.length).ind.length cI) _ _ (by rfl) (by rfl) (by rfl) HMI.out (by simp) (by rfl) (by kernel_rfl) (by simp [Value.cells, Value.oneCell']) ?_
    refine lex_quietE 1 (by kernel_rfl) (by rfl) ?_
    apply Exists.intro
    refine ⟨fun z hz => ?_, ?_⟩
    · simp only [List.take_succ_cons, List.take_zero]
      unfold Cx
      repeat (go_big_quiet_step (fail))
      exact wpQuiet_nil rfl
    simp only [List.drop_succ_cons, List.drop_zero]
    refine lex_nil ?_
    intro x hx _
    go_wp2_with fail
    refine marks_leave Ds x HND.out (fun D hD => hx.keep (HDS.out D hD).2 (by simp)) (fun w12 hb12 => ⟨.tuple #[.agg #[.int .i64 (((est0.vars l).tables l l.length).N : Nat), .slice pL ((est0.vars l).tables l l.length).L.length cL], .agg #[.slice (some ⟨e11.gL, 0, none⟩) ((est0.vars l).tables l l.length).low.length e11.capL, .slice (some ⟨e11.gH, 0, none⟩) ((est0.vars l).tables l l.length).low.length e11.capH], .slice pI ((est0.vars l).tables l l.length).ind.length cI, .int .i64 0], ?_, ?_⟩)
    · have hnD : ∀ {g : Nat} {cur : Array Value} {T : TypeId}, w11.heap[g]? = some (.cells cur T (0, 0)) → g ∉ Ds := fun h hm => by rw [(HDS.out _ hm).2] at h; cases h
      have d0 := blk_cell (hb12.keep (hx.keep HMT.out (by simp)) (hnD HMT.out)) 0 rfl
      have d1 := blk_cell (hb12.keep (hx.keep HMT.out (by simp)) (hnD HMT.out)) 1 rfl
      have d2 := blk_cell (hb12.keep (hx.keep HMW.out (by simp)) (hnD HMW.out)) 0 rfl
      have d3 := blk_cell (hb12.keep (hx.keep HMW.out (by simp)) (hnD HMW.out)) 1 rfl
      have d4 := blk_cell (hb12.keep (hx.keep HMI.out (by simp)) (hnD HMI.out)) 0 rfl
      simp [results, Try.results17, go_sem, d0, d1, d2, d3, d4]
    · rw [HR.out]
      refine ⟨(HBE11.out.trans (hx.below_of (by simp) (by have := HBE11.out.size; omega))).trans (hb12.below_of (fun D hD => by have := (HDS.out D hD).1; omega) (by have := HBE11.out.size; have := hx.size; omega)), .inr ⟨hE, w.heap.size + 1, w.heap.size + 1 + 1, w.heap.size + 1 + 1 + 1, e11, ?_, ?_⟩⟩
      · rw [HVL.out, HVI.out]; rfl
      · have h1 := HE11.out.keep hx (by simp)
        have h2 := h1.keep_cells hb12 (fun D hD cur T h => by
          rw [hx.keep (HDS.out D hD).2 (by simp)] at h; cases h)
        have := h2.lift (top' := w12.heap.size) (Nat.le_refl _)
        exact this
  · obtain ⟨E, hEE⟩ : ∃ E, E = checkE l := ⟨_, rfl⟩
    rw [← hEE] at hE ⊢
    have HE := Lib.hid hEE
    have hE2 : (E != 0) = true := by simp [bne, hE]
    have hE1 : (E == 0) = false := by simp [hE]
    clear hEE
    go_wp2_with fail
    obtain ⟨W, hW, hBW, kT, kW, kI⟩ := five_same HMT.out HMW.out HMI.out (by omega) (by omega) (by omega)
    rw [← hW]
    have d0 := blk_cell kT 0 rfl
    have d1 := blk_cell kT 1 rfl
    have d2 := blk_cell kW 0 rfl
    have d3 := blk_cell kW 1 rfl
    have d4 := blk_cell kI 0 rfl
    clear hW kT kW kI c1 cT0 cT1 cW0 cW1 cI0 fT0 fT1 fW0 fW1 fI0
    refine retM (v := .tuple #[.agg #[.int .i64 0, .slice none 0 0], .agg #[.slice none 0 0, .slice none 0 0], .slice none 0 0, .int .i64 E]) (by simp [results, Try.results17, go_sem, d0, d1, d2, d3, d4]) rfl ?_
    rw [HR.out]
    refine ⟨HB5.out.trans (hBW.below_of (fun k hk => ?_) (by omega)), .inl ⟨by rw [← HE.out]; exact hE, by rw [← HE.out]⟩⟩
    simp only [List.mem_cons, List.not_mem_nil, or_false] at hk
    omega
end Go.Proofs.Ytbacloneddnaeaa
