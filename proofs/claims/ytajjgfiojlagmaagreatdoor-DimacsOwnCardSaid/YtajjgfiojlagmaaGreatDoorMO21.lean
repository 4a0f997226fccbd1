/- Texts of this claim, joined: D5, D6, D7, D8. -/
import Derived.Test.YtajjgfiojlagmaaGreatDoorMO20
import Derived.Maps.Own
import Derived.Maps.OwnOps
import Derived.Deep.DeepCutAuto

/- What has been read, in memory: four rows of one's own, and the clauses' rows. -/
namespace Go.Proofs.YtajjgfiojlagmaaGreatDoor
open Go.RowKit

def wts (ws : List (Int × List UInt8)) : List Value := ws.flatMap fun x => [.int .i64 x.1, .string ⟨x.2.toArray⟩]
theorem wts_app (ws : List (Int × List UInt8)) (x : Int × List UInt8) : wts (ws ++ [x]) = wts ws ++ [.int .i64 x.1, .string ⟨x.2.toArray⟩] := by simp [wts]

structure DV where
  L : Value
  S : Value
  W : Value
  c : Value
def DV.M (v : DV) : List Nat := rowBlk v.L ++ (rowBlk v.S ++ (rowBlk v.W ++ rowBlk v.c))
theorem DV.mem {v : DV} {g : Nat} : g ∈ v.M ↔ g ∈ rowBlk v.L ∨ g ∈ rowBlk v.S ∨ g ∈ rowBlk v.W ∨ g ∈ rowBlk v.c := by simp [DV.M]

structure DR (TW : TypeId) (w : World) (b : Nat) (st : DS) (v : DV) : Prop where
  rL : ∃ cl, RowV (inW w) 25 1 v.L st.L.length cl ∧ ∀ (i : Nat) (u : Value) (xs : List Int), cl[i]? = some u → st.L[i]? = some xs → RowV (inW w) 3 1 u xs.length (ints xs) ∧ ∀ g ∈ rowBlk u, b ≤ g ∧ g ∉ v.M
  rS : RowV (inW w) 3 1 v.S st.sh.length (ints st.sh)
  rW : RowV (inW w) TW 2 v.W st.ws.length (wts st.ws)
  rc : RowV (inW w) 3 1 v.c st.cl.length (ints st.cl)
  ge : ∀ g ∈ v.M, b ≤ g
  nLS : ∀ g ∈ rowBlk v.L, g ∉ rowBlk v.S
  nLW : ∀ g ∈ rowBlk v.L, g ∉ rowBlk v.W
  nLc : ∀ g ∈ rowBlk v.L, g ∉ rowBlk v.c
  nSW : ∀ g ∈ rowBlk v.S, g ∉ rowBlk v.W
  nSc : ∀ g ∈ rowBlk v.S, g ∉ rowBlk v.c
  nWc : ∀ g ∈ rowBlk v.W, g ∉ rowBlk v.c

variable {TW : TypeId} {w w' : World} {b : Nat} {st : DS} {v : DV}
theorem DR.lt (h : DR TW w b st v) : ∀ g ∈ v.M, g < w.heap.size := fun g hg => by
  obtain ⟨cl, hL, _⟩ := h.rL
  rcases DV.mem.1 hg with hg | hg | hg | hg
  · exact hL.lt g hg
  · exact h.rS.lt g hg
  · exact h.rW.lt g hg
  · exact h.rc.lt g hg
theorem DR.keep {U : List Nat} (h : DR TW w b st v) (hB : Behind w U w') (hU : ∀ g ∈ U, g < b ∨ w.heap.size ≤ g) : DR TW w' b st v := by
  have hM : ∀ g, b ≤ g → g < w.heap.size → g ∉ U := fun g h1 h2 hu => by have := hU g hu; omega
  have hlt := h.lt
  obtain ⟨cl, hL, hC⟩ := h.rL
  have hx : ∀ g ∈ v.M, g ∉ U := fun g hg => hM g (h.ge g hg) (hlt g hg)
  refine ⟨⟨cl, hL.keep hB (fun g hg => hx g (DV.mem.2 (.inl hg))), fun i u xs h1 h2 => ?_⟩, h.rS.keep hB (fun g hg => hx g (DV.mem.2 (.inr (.inl hg)))), h.rW.keep hB (fun g hg => hx g (DV.mem.2 (.inr (.inr (.inl hg))))), h.rc.keep hB (fun g hg => hx g (DV.mem.2 (.inr (.inr (.inr hg))))), h.ge, h.nLS, h.nLW, h.nLc, h.nSW, h.nSc, h.nWc⟩
  obtain ⟨hr, hg⟩ := hC i u xs h1 h2
  exact ⟨hr.keep hB (fun g hg' => hM g (hg g hg').1 (hr.lt g hg')), hg⟩
theorem DR.keepB (h : DR TW w b st v) (hB : Below w.heap.size w w') : DR TW w' b st v := h.keep (behind_of_below hB) (by simp)
theorem DR.mono {b' : Nat} (h : DR TW w b st v) (hb : b' ≤ b) : DR TW w b' st v := by
  obtain ⟨cl, hL, hC⟩ := h.rL
  exact ⟨⟨cl, hL, fun i u xs h1 h2 => ⟨(hC i u xs h1 h2).1, fun g hg => ⟨Nat.le_trans hb ((hC i u xs h1 h2).2 g hg).1, ((hC i u xs h1 h2).2 g hg).2⟩⟩⟩, h.rS, h.rW, h.rc, fun g hg => Nat.le_trans hb (h.ge g hg), h.nLS, h.nLW, h.nLc, h.nSW, h.nSc, h.nWc⟩
theorem DR.appS {x : Int} {vS : Value} (h : DR TW w b st v) (hb : b ≤ w.heap.size) (hB : Behind w (rowBlk v.S) w') (hr : RowV (inW w') 3 1 vS (st.sh.length + 1) (ints st.sh ++ [.int .i64 x])) (hn : ∀ g ∈ rowBlk vS, g ∈ rowBlk v.S ∨ w.heap.size ≤ g) :
    DR TW w' b { st with sh := st.sh ++ [x] } { v with S := vS } := by
  obtain ⟨cl, hL, hC⟩ := h.rL
  have hlt := h.lt
  have hr' : RowV (inW w') 3 1 vS (st.sh ++ [x]).length (ints (st.sh ++ [x])) := by
    rw [List.length_append, show ints (st.sh ++ [x]) = ints st.sh ++ [.int .i64 x] by simp [ints]]; exact hr
  have hno : ∀ g, g < w.heap.size → g ∉ rowBlk v.S → g ∉ rowBlk vS := fun g h1 h2 h3 => (hn g h3).elim h2 (fun e => by omega)
  refine ⟨⟨cl, hL.keep hB (fun g hg => h.nLS g hg), fun i u xs h1 h2 => ?_⟩, hr', h.rW.keep hB (fun g hg hm => h.nSW g hm hg), h.rc.keep hB (fun g hg hm => h.nSc g hm hg), fun g hg => ?_, fun g hg => hno g (hL.lt g hg) (h.nLS g hg), h.nLW, h.nLc, fun g hg hm => ?_, fun g hg hm => ?_, h.nWc⟩
  · obtain ⟨hr2, hg⟩ := hC i u xs h1 h2
    refine ⟨hr2.keep hB (fun g hg' hm => (hg g hg').2 (DV.mem.2 (.inr (.inl hm)))), fun g hg' => ⟨(hg g hg').1, fun hm => ?_⟩⟩
    have h9 := (hg g hg').2
    rw [DV.mem] at h9 hm
    rcases hm with hm | hm | hm | hm
    · exact h9 (.inl hm)
    · exact (hn g hm).elim (fun e => h9 (.inr (.inl e))) (fun e => by have := hr2.lt g hg'; omega)
    · exact h9 (.inr (.inr (.inl hm)))
    · exact h9 (.inr (.inr (.inr hm)))
  · rcases DV.mem.1 hg with hg | hg | hg | hg
    · exact h.ge g (DV.mem.2 (.inl hg))
    · exact (hn g hg).elim (fun e => h.ge g (DV.mem.2 (.inr (.inl e)))) (fun e => by omega)
    · exact h.ge g (DV.mem.2 (.inr (.inr (.inl hg))))
    · exact h.ge g (DV.mem.2 (.inr (.inr (.inr hg))))
  · exact (hn g hg).elim (fun e => h.nSW g e hm) (fun e => by have := h.rW.lt g hm; omega)
  · exact (hn g hg).elim (fun e => h.nSc g e hm) (fun e => by have := h.rc.lt g hm; omega)
theorem DR.appW {x : Int × List UInt8} {vW : Value} (h : DR TW w b st v) (hb : b ≤ w.heap.size) (hB : Behind w (rowBlk v.W) w') (hr : RowV (inW w') TW 2 vW (st.ws.length + 1) (wts st.ws ++ [.int .i64 x.1, .string ⟨x.2.toArray⟩])) (hn : ∀ g ∈ rowBlk vW, g ∈ rowBlk v.W ∨ w.heap.size ≤ g) :
    DR TW w' b { st with ws := st.ws ++ [x] } { v with W := vW } := by
  obtain ⟨cl, hL, hC⟩ := h.rL
  have hlt := h.lt
  have hr' : RowV (inW w') TW 2 vW (st.ws ++ [x]).length (wts (st.ws ++ [x])) := by
    rw [List.length_append, wts_app]; exact hr
  have hno : ∀ g, g < w.heap.size → g ∉ rowBlk v.W → g ∉ rowBlk vW := fun g h1 h2 h3 => (hn g h3).elim h2 (fun e => by omega)
  refine ⟨⟨cl, hL.keep hB (fun g hg => h.nLW g hg), fun i u xs h1 h2 => ?_⟩, h.rS.keep hB (fun g hg => h.nSW g hg), hr', h.rc.keep hB (fun g hg hm => h.nWc g hm hg), fun g hg => ?_, h.nLS, fun g hg => hno g (hL.lt g hg) (h.nLW g hg), h.nLc, fun g hg => hno g (h.rS.lt g hg) (h.nSW g hg), h.nSc, fun g hg hm => ?_⟩
  · obtain ⟨hr2, hg⟩ := hC i u xs h1 h2
    refine ⟨hr2.keep hB (fun g hg' hm => (hg g hg').2 (DV.mem.2 (.inr (.inr (.inl hm))))), fun g hg' => ⟨(hg g hg').1, fun hm => ?_⟩⟩
    have h9 := (hg g hg').2
    rw [DV.mem] at h9 hm
    rcases hm with hm | hm | hm | hm
    · exact h9 (.inl hm)
    · exact h9 (.inr (.inl hm))
    · exact (hn g hm).elim (fun e => h9 (.inr (.inr (.inl e)))) (fun e => by have := hr2.lt g hg'; omega)
    · exact h9 (.inr (.inr (.inr hm)))
  · rcases DV.mem.1 hg with hg | hg | hg | hg
    · exact h.ge g (DV.mem.2 (.inl hg))
    · exact h.ge g (DV.mem.2 (.inr (.inl hg)))
    · exact (hn g hg).elim (fun e => h.ge g (DV.mem.2 (.inr (.inr (.inl e))))) (fun e => by omega)
    · exact h.ge g (DV.mem.2 (.inr (.inr (.inr hg))))
  · exact (hn g hg).elim (fun e => h.nWc g e hm) (fun e => by have := h.rc.lt g hm; omega)
theorem DR.appc {x : Int} {vc : Value} {o : Bool} (h : DR TW w b st v) (hb : b ≤ w.heap.size) (hB : Behind w (rowBlk v.c) w') (hr : RowV (inW w') 3 1 vc (st.cl.length + 1) (ints st.cl ++ [.int .i64 x])) (hn : ∀ g ∈ rowBlk vc, g ∈ rowBlk v.c ∨ w.heap.size ≤ g) :
    DR TW w' b { st with cl := st.cl ++ [x], op := o } { v with c := vc } := by
  obtain ⟨cl, hL, hC⟩ := h.rL
  have hlt := h.lt
  have hr' : RowV (inW w') 3 1 vc (st.cl ++ [x]).length (ints (st.cl ++ [x])) := by
    rw [List.length_append, show ints (st.cl ++ [x]) = ints st.cl ++ [.int .i64 x] by simp [ints]]; exact hr
  have hno : ∀ g, g < w.heap.size → g ∉ rowBlk v.c → g ∉ rowBlk vc := fun g h1 h2 h3 => (hn g h3).elim h2 (fun e => by omega)
  refine ⟨⟨cl, hL.keep hB (fun g hg => h.nLc g hg), fun i u xs h1 h2 => ?_⟩, h.rS.keep hB (fun g hg => h.nSc g hg), h.rW.keep hB (fun g hg => h.nWc g hg), hr', fun g hg => ?_, h.nLS, h.nLW, fun g hg => hno g (hL.lt g hg) (h.nLc g hg), h.nSW, fun g hg => hno g (h.rS.lt g hg) (h.nSc g hg), fun g hg => hno g (h.rW.lt g hg) (h.nWc g hg)⟩
  · obtain ⟨hr2, hg⟩ := hC i u xs h1 h2
    refine ⟨hr2.keep hB (fun g hg' hm => (hg g hg').2 (DV.mem.2 (.inr (.inr (.inr hm))))), fun g hg' => ⟨(hg g hg').1, fun hm => ?_⟩⟩
    have h9 := (hg g hg').2
    rw [DV.mem] at h9 hm
    rcases hm with hm | hm | hm | hm
    · exact h9 (.inl hm)
    · exact h9 (.inr (.inl hm))
    · exact h9 (.inr (.inr (.inl hm)))
    · exact (hn g hm).elim (fun e => h9 (.inr (.inr (.inr e)))) (fun e => by have := hr2.lt g hg'; omega)
  · rcases DV.mem.1 hg with hg | hg | hg | hg
    · exact h.ge g (DV.mem.2 (.inl hg))
    · exact h.ge g (DV.mem.2 (.inr (.inl hg)))
    · exact h.ge g (DV.mem.2 (.inr (.inr (.inl hg))))
    · exact (hn g hg).elim (fun e => h.ge g (DV.mem.2 (.inr (.inr (.inr e))))) (fun e => by omega)
theorem DR.appL {vL : Value} (h : DR TW w b st v) (hb : b ≤ w.heap.size) (hB : Behind w (rowBlk v.L) w')
    (hr : ∀ cl, RowV (inW w) 25 1 v.L st.L.length cl → RowV (inW w') 25 1 vL (st.L.length + 1) (cl ++ [v.c])) (hn : ∀ g ∈ rowBlk vL, g ∈ rowBlk v.L ∨ w.heap.size ≤ g) :
    DR TW w' b { st with L := st.L ++ [st.cl], cl := [], op := false } { v with L := vL, c := .slice none 0 0 } := by
  obtain ⟨cl, hL, hC⟩ := h.rL
  have hlt := h.lt
  have hlen := hL.length
  have hno : ∀ g, g < w.heap.size → g ∉ rowBlk v.L → g ∉ rowBlk vL := fun g h1 h2 h3 => (hn g h3).elim h2 (fun e => by omega)
  refine ⟨⟨cl ++ [v.c], by rw [List.length_append]; exact hr cl hL, fun i u xs h1 h2 => ?_⟩, h.rS.keep hB (fun g hg hm => h.nLS g hm hg), h.rW.keep hB (fun g hg hm => h.nLW g hm hg), .nil, fun g hg => ?_, fun g hg hm => ?_, fun g hg hm => ?_, by simp [rowBlk], h.nSW, by simp [rowBlk], by simp [rowBlk]⟩
  · by_cases hi : i < cl.length
    · rw [List.getElem?_append_left hi] at h1
      rw [List.getElem?_append_left (by omega)] at h2
      obtain ⟨hr2, hg⟩ := hC i u xs h1 h2
      refine ⟨hr2.keep hB (fun g hg' hm => (hg g hg').2 (DV.mem.2 (.inl hm))), fun g hg' => ⟨(hg g hg').1, fun hm => ?_⟩⟩
      have h9 := (hg g hg').2
      rw [DV.mem] at h9 hm
      rcases hm with hm | hm | hm | hm
      · exact (hn g hm).elim (fun e => h9 (.inl e)) (fun e => by have := hr2.lt g hg'; omega)
      · exact h9 (.inr (.inl hm))
      · exact h9 (.inr (.inr (.inl hm)))
      · simp [rowBlk] at hm
    · rw [List.getElem?_append_right (by omega)] at h1
      rw [List.getElem?_append_right (by omega)] at h2
      have hi0 : i - cl.length = 0 := by
        rcases Nat.eq_zero_or_pos (i - cl.length) with h0 | h0
        · exact h0
        · rw [List.getElem?_eq_none (by simp; omega)] at h1; cases h1
      rw [hi0] at h1
      rw [show i - st.L.length = 0 by omega] at h2
      simp only [List.getElem?_cons_zero, Option.some.injEq] at h1 h2
      subst h1
      subst h2
      refine ⟨h.rc.keep hB (fun g hg hm => h.nLc g hm hg), fun g hg => ⟨h.ge g (DV.mem.2 (.inr (.inr (.inr hg)))), fun hm => ?_⟩⟩
      rw [DV.mem] at hm
      rcases hm with hm | hm | hm | hm
      · exact (hn g hm).elim (fun e => h.nLc g e hg) (fun e => by have := h.rc.lt g hg; omega)
      · exact h.nSc g hm hg
      · exact h.nWc g hm hg
      · simp [rowBlk] at hm
  · rcases DV.mem.1 hg with hg | hg | hg | hg
    · exact (hn g hg).elim (fun e => h.ge g (DV.mem.2 (.inl e))) (fun e => by omega)
    · exact h.ge g (DV.mem.2 (.inr (.inl hg)))
    · exact h.ge g (DV.mem.2 (.inr (.inr (.inl hg))))
    · simp [rowBlk] at hg
  · exact (hn g hg).elim (fun e => h.nLS g e hm) (fun e => by have := h.rS.lt g hm; omega)
  · exact (hn g hg).elim (fun e => h.nLW g e hm) (fun e => by have := h.rW.lt g hm; omega)
theorem DR.zero (TW : TypeId) (w : World) (b : Nat) : DR TW w b .zero ⟨.slice none 0 0, .slice none 0 0, .slice none 0 0, .slice none 0 0⟩ :=
  ⟨⟨[], .nil, fun i u xs h1 => by simp at h1⟩, .nil, .nil, .nil, by simp [DV.M, rowBlk], by simp [rowBlk], by simp [rowBlk], by simp [rowBlk], by simp [rowBlk], by simp [rowBlk], by simp [rowBlk]⟩
theorem DR.same {st' : DS} (h : DR TW w b st v) (hL : st'.L = st.L) (hS : st'.sh = st.sh) (hW : st'.ws = st.ws) (hc : st'.cl = st.cl) : DR TW w b st' v := by
  obtain ⟨a1, a2, a3, a4, a5, a6, a7, a8, a9, a10, a11⟩ := h
  exact ⟨by rw [hL]; exact a1, by rw [hS]; exact a2, by rw [hW]; exact a3, by rw [hc]; exact a4, a5, a6, a7, a8, a9, a10, a11⟩
end Go.Proofs.YtajjgfiojlagmaaGreatDoor

/- Sets of numbers as maps to true; the reader in memory. -/
namespace Go.Proofs.YtajjgfiojlagmaaGreatDoor
open Go.RowKit Go.Maps Go.MapKept

def SetIs (w : World) (g : Nat) (xs : List Int) : Prop := ∃ es clock, w.heap[g]? = some (.map es clock) ∧ es.toList.map (·.key) = xs.map (Value.int .i64) ∧ ∀ e ∈ es.toList, e.val = .bool true
theorem find_set (x : Int) : ∀ (es : List MapEntry) (xs : List Int) (i : Nat), es.map (·.key) = xs.map (Value.int .i64) → (∀ e ∈ es, e.val = .bool true) →
    (x ∉ xs → Instr.findNow (.int .i64) (.int .i64 x) es i = some none) ∧ (x ∈ xs → ∃ j, Instr.findNow (.int .i64) (.int .i64 x) es i = some (some (j, .bool true)))
  | [], [], _, _, _ => ⟨fun _ => rfl, fun h => by simp at h⟩
  | [], _ :: _, _, h, _ => by simp at h
  | _ :: _, [], _, h, _ => by simp at h
  | e :: es, y :: xs, i, h, hv => by
    simp only [List.map_cons, List.cons.injEq] at h
    obtain ⟨hk, h⟩ := h
    have ih := find_set x es xs (i + 1) h (fun e he => hv e (List.mem_cons_of_mem _ he))
    have hve := hv e (List.mem_cons_self ..)
    unfold Instr.findNow
    rw [hk]
    by_cases hxy : x = y
    · subst hxy
      simp only [Instr.sameNow, if_true, beq_self_eq_true]
      refine ⟨fun h => absurd (List.mem_cons_self ..) h, fun _ => ⟨i, by rw [hve]⟩⟩
    · have hb : (x == y) = false := beq_no hxy
      simp only [Instr.sameNow, if_true, hb]
      refine ⟨fun h => ih.1 (fun hm => h (List.mem_cons_of_mem _ hm)), fun h => ih.2 ?_⟩
      rcases List.mem_cons.1 h with h | h
      · exact absurd h hxy
      · exact h
theorem Tryz.keyInt : Keyed Tryz.prog 3 := int_keyed Tryz.underlying3
theorem set_look {w : World} {g : Nat} {xs : List Int} (h : SetIs w g xs) (x : Int) (hx : -9223372036854775808 ≤ x ∧ x ≤ 9223372036854775807) : (Instr.lookup 57 (.map (some g)) (.int .i64 x) false).run Tryz.prog w = .ok (.bool (decide (x ∈ xs))) w := by
  obtain ⟨es, clock, hb, hk, hv⟩ := h
  have hf := find_set x es.toList xs 0 hk hv
  have hkey : keyOf Tryz.prog 3 (.int .i64 x) = some (.int .i64 x) := keyOf_int_mk Tryz.underlying3 (WalkArith.wf_i64 hx)
  have hz : (zeroValue 4).run Tryz.prog w = .ok (.bool false) w := by kernel_rfl
  by_cases hm : x ∈ xs
  · obtain ⟨j, h1⟩ := hf.2 hm
    simp [Instr.lookup, run_underlying Tryz.underlying57, Go.MapKept.run_getObj_map hb, Tryz.keyInt.check w _ hkey, run_findKey Tryz.underlying3 h1, Result.andThen, hm]
  · simp [Instr.lookup, run_underlying Tryz.underlying57, Go.MapKept.run_getObj_map hb, Tryz.keyInt.check w _ hkey, run_findKey Tryz.underlying3 (hf.1 hm), hz, Result.andThen, hm]
theorem set_put {w : World} {g : Nat} {xs : List Int} (h : SetIs w g xs) (x : Int) (hx : -9223372036854775808 ≤ x ∧ x ≤ 9223372036854775807) (hn : x ∉ xs) : ∃ w', (Instr.mapUpdate 57 (.map (some g)) (.int .i64 x) (.bool true)).run Tryz.prog w = .ok () w' ∧ SetIs w' g (xs ++ [x]) ∧ Behind w [g] w' := by
  obtain ⟨es, clock, hb, hk, hv⟩ := h
  have hf := find_set x es.toList xs 0 hk hv
  have hkey : keyOf Tryz.prog 3 (.int .i64 x) = some (.int .i64 x) := keyOf_int_mk Tryz.underlying3 (WalkArith.wf_i64 hx)
  have hlt : g < w.heap.size := lt_of_heap hb
  refine ⟨{ w with heap := w.heap.setIfInBounds g (.map (es.push ⟨.int .i64 x, .bool true, clock⟩) (clock + 1)) }, ?_, ⟨es.push ⟨.int .i64 x, .bool true, clock⟩, clock + 1, ?_, ?_, ?_⟩, rfl, rfl, rfl, by simp, fun k hk' hn' => ?_⟩
  · simp [Instr.mapUpdate, run_underlying Tryz.underlying57, Go.MapKept.run_getObj_map hb, Tryz.keyInt.check w _ hkey, run_findKey Tryz.underlying3 (hf.1 hn), Go.MapKept.run_setObj_map _ hb, Result.andThen]
  · simp [hlt]
  · simp [hk]
  · intro e he
    simp only [Array.toList_push, List.mem_append, List.mem_singleton] at he
    rcases he with he | he
    · exact hv e he
    · subst he; rfl
  · have hne : g ≠ k := fun e => hn' (by simp [e])
    show (w.heap.setIfInBounds g _)[k]? = _
    rw [Array.getElem?_setIfInBounds_ne hne]
theorem SetIs.keep {w w' : World} {U : List Nat} {g : Nat} {xs : List Int} (h : SetIs w g xs) (hB : Behind w U w') (hU : g ∉ U) : SetIs w' g xs := by
  obtain ⟨es, clock, hb, h2⟩ := h
  exact ⟨es, clock, hB.keep hb hU, h2⟩
theorem SetIs.lt {w : World} {g : Nat} {xs : List Int} (h : SetIs w g xs) : g < w.heap.size := by
  obtain ⟨es, clock, hb, _⟩ := h
  exact lt_of_heap hb
section
variable {P : Program} {ops : Array Oper} {rest : List Oper} {o : Oper} {a : Act} {Q : Exit → Act → World → Prop}
theorem wpList_look_run (w : World) (hg : o.guard = none) (m x : Operand) (t : TypeId) (hop : o.op = Op.lookup t m x false) (mv key v : Value) (hm : a.eval m = mv) (hx : a.eval x = key) (hrun : (Instr.lookup t mv key false).run P w = .ok v w)
    (hK : wpList P ops Q rest (a.put o.dst v) w) : wpList P ops Q (o :: rest) a w := by
  refine wpList_plain hg fun K' hK' => ?_
  unfold Oper.wp
  simp [execOp, hop, hm, hx, hrun, Result.andThen]
  exact hK' _ _ hK
theorem wpList_put_run (w w' : World) (hg : o.guard = none) (m x v : Operand) (t : TypeId) (hop : o.op = Op.mapUpdate t m x v) (mv key val : Value) (hm : a.eval m = mv) (hx : a.eval x = key) (hv : a.eval v = val) (hrun : (Instr.mapUpdate t mv key val).run P w = .ok () w')
    (hK : wpList P ops Q rest (a.put o.dst undef) w') : wpList P ops Q (o :: rest) a w := by
  refine wpList_plain hg fun K' hK' => ?_
  unfold Oper.wp
  simp [execOp, hop, hm, hx, hv, hrun, Result.andThen]
  exact hK' _ _ hK
end

structure Rdr (w : World) (br ms mh b : Nat) (st : DS) (v : DV) : Prop where
  blk : w.heap[br]? = some (.cells #[.int .i64 st.n, v.L, v.S, v.W, .bool st.begun, .int .i64 st.m, v.c, .bool st.op, .map (some ms), .map (some mh)] 59 (0, 0))
  s1 : SetIs w ms st.sh
  s2 : SetIs w mh (st.ws.map (·.1))
  rows : DR 48 w b st v
  ord : br < b ∧ ms < b ∧ mh < b ∧ br ≠ ms ∧ br ≠ mh ∧ ms ≠ mh
  bw : b ≤ w.heap.size
  rng : 0 ≤ st.n ∧ st.n ≤ 128
theorem Rdr.keepB {w w' : World} {br ms mh b : Nat} {st : DS} {v : DV} (h : Rdr w br ms mh b st v) (hB : Below w.heap.size w w') : Rdr w' br ms mh b st v :=
  ⟨(behind_of_below hB).keep h.blk (by simp), h.s1.keep (behind_of_below hB) (by simp), h.s2.keep (behind_of_below hB) (by simp), h.rows.keepB hB, h.ord, Nat.le_trans h.bw hB.size, h.rng⟩
end Go.Proofs.YtajjgfiojlagmaaGreatDoor

/- The reader's p line. -/
namespace Go.Proofs.YtajjgfiojlagmaaGreatDoor
open Go.RowKit

def RdPost (w : World) (br ms mh b : Nat) (v : DV) (r : DS × Int) (e : Ending) (w' : World) : Prop := e = .returned (.int .i64 r.2) ∧ Behind w (br :: ms :: mh :: v.M) w' ∧ (r.2 = 0 → ∃ v', Rdr w' br ms mh b r.1 v' ∧ ∀ g ∈ v'.M, g ∈ v.M ∨ w.heap.size ≤ g)
theorem RdPost.err {w w' : World} {br ms mh b : Nat} {v : DV} {st : DS} {n : Int} (hb : Below w.heap.size w w') (hn : n ≠ 0) : RdPost w br ms mh b v (st, n) (.returned (.int .i64 n)) w' :=
  ⟨rfl, (behind_of_below hb).mono (by simp), fun h => absurd h hn⟩
theorem behind_set {w : World} {b : Nat} {o : Nat} {v : Value} : Behind w [b] (w.setCell ⟨b, o, none⟩ v) :=
  ⟨rfl, rfl, rfl, by simp [World.setCell], fun k _ hn => heap_setCell_other w _ k v (fun e => hn (by simp [e]))⟩
theorem Rdr.put {w w' : World} {br ms mh b : Nat} {st st' : DS} {v : DV} (h : Rdr w br ms mh b st v) (hB : Behind w [br] w')
    (hc : w'.heap[br]? = some (.cells #[.int .i64 st'.n, v.L, v.S, v.W, .bool st'.begun, .int .i64 st'.m, v.c, .bool st'.op, .map (some ms), .map (some mh)] 59 (0, 0)))
    (hL : st'.L = st.L) (hS : st'.sh = st.sh) (hW : st'.ws = st.ws) (hcl : st'.cl = st.cl) (hn : 0 ≤ st'.n ∧ st'.n ≤ 128) : Rdr w' br ms mh b st' v :=
  ⟨hc, by rw [hS]; exact h.s1.keep hB (by have := h.ord; simp; omega), by rw [hW]; exact h.s2.keep hB (by have := h.ord; simp; omega), (h.rows.keep hB (fun g hg => by have := h.ord; simp at hg; omega)).same hL hS hW hcl, h.ord, Nat.le_trans h.bw hB.size, hn⟩
theorem lit_eq {x : List UInt8} {z : List UInt8} (h : x = z) : ((⟨x.toArray⟩ : ByteArray).toList == z) = true := by rw [ba_list, h]; simp
theorem lit_ne {x : List UInt8} {z : List UInt8} (h : ¬ x = z) : ((⟨x.toArray⟩ : ByteArray).toList == z) = false := by rw [ba_list]; simpa using h

set_option maxHeartbeats 3200000 in
set_option maxRecDepth 100000 in
theorem gProblem (w : World) (br ms mh b : Nat) (st : DS) (v : DV) (h : Rdr w br ms mh b st v) (r : List (List UInt8)) (hl : ∀ x ∈ r, x.length ≤ 1100000) (hr : r.length ≤ 1100001) (a : Option Addr) (c : Nat) (hA : AtN w.heap.size w a (strs r)) :
    Calls Tryz.prog 39 #[.pointer (some ⟨br, 0, none⟩), .slice a r.length c] w (RdPost w br ms mh b v (problemD st r)) := by
  obtain ⟨R, hR⟩ : ∃ R : DS × Int, R = problemD st r := ⟨_, rfl⟩
  rw [← hR]
  obtain ⟨Post, hPost⟩ : ∃ P : Ending → World → Prop, P = RdPost w br ms mh b v R := ⟨_, rfl⟩
  rw [← hPost]
  have HP := Lib.hid hPost
  clear hPost
  have H := Lib.hid h
  have HBr := Lib.hid h.blk
  have hbr : br < w.heap.size := lt_of_heap h.blk
  clear h
  by_cases h3 : r.length = 3
  · obtain ⟨x0, x1, x2, rfl⟩ : ∃ x0 x1 x2, r = [x0, x1, x2] := by
      match r, h3 with
      | [x0, x1, x2], _ => exact ⟨_, _, _, rfl⟩
    obtain ⟨b0, o0, hb0, rfl, k0⟩ := hA 0 _ (strs_get [x0, x1, x2] 0 x0 rfl)
    rw [Nat.add_zero] at k0
    obtain ⟨b1, o1, hb1, e1, k1⟩ := hA 1 _ (strs_get [x0, x1, x2] 1 x1 rfl)
    cases e1
    obtain ⟨b2, o2, hb2, e2, k2⟩ := hA 2 _ (strs_get [x0, x1, x2] 2 x2 rfl)
    cases e2
    have K1 := Lib.hid k1
    have K2 := Lib.hid k2
    have hx1 := hl x1 (by simp)
    have hx2 := hl x2 (by simp)
    have N1 := gNumber x1 hx1
    have N2 := gNumber x2 hx2
    clear hA hl hr h3
    by_cases hc : x0 = [99, 110, 102]
    · have HC := lit_eq hc
      have HR := Lib.hid (show R = match numD x1, numD x2 with
          | some a, some b => if st.begun = true then (st, 4) else if 128 < a ∨ 4096 < b then (st, 6) else ({ st with begun := true, n := a, m := b }, 0)
          | _, _ => (st, 5) by rw [hR]; unfold problemD; rw [if_neg (by simp [hc])]; rfl)
      generalize (⟨x0.toArray⟩ : ByteArray) = y0 at *
      generalize (⟨x1.toArray⟩ : ByteArray) = y1 at *
      generalize (⟨x2.toArray⟩ : ByteArray) = y2 at *
      clear hc hR k1 k2
      have q0 := blk_cell HBr.out 4 rfl
      go_enter Tryz.func39, Tryz.ntmps39
      have k1 := K1.out
      go_wp2_with fail
      refine (N1 w).mono ?_
      rintro e w1 ⟨rfl, hB⟩
      have HB1 := Lib.hid hB
      have k2 := below_cell hB hb2 K2.out
      clear hB N1 k0 k1
      go_wp2_with fail
      refine (N2 w1).mono ?_
      rintro e w2 ⟨rfl, hB⟩
      have HB2 := Lib.hid (HB1.out.trans (hB.mono HB1.out.size))
      clear hB N2 k2 HB1 q0
      have P2 := (behind_of_below HB2.out).keep HBr.out (by simp)
      have q0 := blk_cell P2 4 rfl
      have HP2 := Lib.hid P2
      clear P2
      have HNZ1 := Lib.hid (show ∀ n, numD x1 = some n → numZ x1 = (n : Int) ∧ n < 100000 from fun n h => ⟨by unfold numZ; rw [h]; rfl, numD_lt h⟩)
      have HNZ2 := Lib.hid (show ∀ n, numD x2 = some n → numZ x2 = (n : Int) ∧ n < 100000 from fun n h => ⟨by unfold numZ; rw [h]; rfl, numD_lt h⟩)
      cases hn1 : numD x1 with
      | none =>
        have HF := Lib.hid (HR.out.trans (by rw [hn1]))
        generalize numZ x1 = z1 at *
        generalize numZ x2 = z2 at *
        clear HR HNZ1 HNZ2 hn1
        simp only [Option.isSome_none]
        go_wp2_with fail
        rw [HP.out, HF.out]
        exact RdPost.err HB2.out (by simp)
      | some n1 =>
      cases hn2 : numD x2 with
      | none =>
        have HF := Lib.hid (HR.out.trans (by rw [hn1, hn2]))
        generalize numZ x1 = z1 at *
        generalize numZ x2 = z2 at *
        clear HR HNZ1 HNZ2 hn1 hn2
        simp only [Option.isSome_none, Option.isSome_some]
        go_wp2_with fail
        rw [HP.out, HF.out]
        exact RdPost.err HB2.out (by simp)
      | some n2 =>
        have HF := Lib.hid (show R = if st.begun = true then (st, 4) else if 128 < n1 ∨ 4096 < n2 then (st, 6) else ({ st with begun := true, n := n1, m := n2 }, 0) from HR.out.trans (by rw [hn1, hn2]))
        obtain ⟨e1, l1⟩ := HNZ1.out _ hn1
        obtain ⟨e2, l2⟩ := HNZ2.out _ hn2
        rw [e1, e2]
        simp only [Option.isSome_some]
        clear HR HNZ1 HNZ2 hn1 hn2 e1 e2
        cases hbg : st.begun with
        | true =>
          have HF2 := Lib.hid (HF.out.trans (if_pos hbg))
          rw [hbg] at q0
          clear hbg HF
          go_wp2_with fail
          rw [HP.out, HF2.out]
          exact RdPost.err HB2.out (by simp)
        | false =>
        rw [hbg] at q0
        by_cases hrg : 128 < n1 ∨ 4096 < n2
        · have HF2 := Lib.hid (HF.out.trans ((if_neg (by rw [hbg]; simp)).trans (if_pos hrg)))
          by_cases h1 : 128 < n1
          · have d1 : decide (128 < n1) = true := decide_eq_true h1
            have d1' : decide ((128 : Int) < (n1 : Int)) = true := decide_eq_true (by omega)
            clear hbg HF
            go_wp2_with fail
            rw [HP.out, HF2.out]
            exact RdPost.err HB2.out (by simp)
          · have d1 : decide (128 < n1) = false := decide_eq_false h1
            have d1' : decide ((128 : Int) < (n1 : Int)) = false := decide_eq_false (by omega)
            have d2 : decide (4096 < n2) = true := decide_eq_true (by omega)
            have d2' : decide ((4096 : Int) < (n2 : Int)) = true := decide_eq_true (by omega)
            clear hbg HF
            go_wp2_with fail
            rw [HP.out, HF2.out]
            exact RdPost.err HB2.out (by simp)
        · have HF2 := Lib.hid (HF.out.trans ((if_neg (by rw [hbg]; simp)).trans (if_neg hrg)))
          have d1 : decide (128 < n1) = false := decide_eq_false (by omega)
          have d1' : decide ((128 : Int) < (n1 : Int)) = false := decide_eq_false (by omega)
          have d2 : decide (4096 < n2) = false := decide_eq_false (by omega)
          have d2' : decide ((4096 : Int) < (n2 : Int)) = false := decide_eq_false (by omega)
          have hrow := H.out.keepB HB2.out
          have HRow := Lib.hid hrow
          have p0 := blk_cell HP2.out 0 rfl
          have p5 := blk_cell HP2.out 5 rfl
          have f0 := blk_free HP2.out 0
          have f4 := blk_free HP2.out 4
          have f5 := blk_free HP2.out 5
          have HBG := Lib.hid hbg
          clear hbg HF hrow
          go_wp2_with fail
          rw [HP.out, HF2.out]
          have hB5 : Behind w2 [br] (((w2.setCell ⟨br, 4, none⟩ (.bool true)).setCell ⟨br, 0, none⟩ (.int .i64 (n1 : Int))).setCell ⟨br, 5, none⟩ (.int .i64 (n2 : Int))) := (behind_set.trans behind_set (by simp)).trans behind_set (by simp)
          refine ⟨rfl, ((behind_of_below HB2.out).mono (by simp)).trans hB5 (by simp), fun _ => ⟨v, HRow.out.put hB5 ?_ rfl rfl rfl rfl (by simp only; omega), fun g hg => .inl hg⟩⟩
          exact heap_setCell_same _ br 5 _ _ _ (heap_setCell_same _ br 0 _ _ _ (heap_setCell_same _ br 4 _ _ _ HP2.out))
    · have HC := lit_ne hc
      have HR := Lib.hid (show R = (st, 5) by rw [hR]; unfold problemD; rw [if_pos]; right; simpa using hc)
      generalize (⟨x0.toArray⟩ : ByteArray) = y0 at *
      clear hc hR k1 k2 N1 N2 K1 K2
      go_enter Tryz.func39, Tryz.ntmps39
      go_wp2_with fail
      rw [HP.out, HR.out]
      exact RdPost.err (Below.refl _ _) (by simp)
  · have HR := Lib.hid (show R = (st, 5) by rw [hR]; unfold problemD; rw [if_pos (.inl h3)])
    have hq : ((r.length : Int) != 3) = true := by simp [bne, beq_no (show (r.length : Int) ≠ 3 by omega)]
    clear hR hA hl h3
    go_enter Tryz.func39, Tryz.ntmps39
    go_wp2_with fail
    rw [HP.out, HR.out]
    exact RdPost.err (Below.refl _ _) (by simp)
end Go.Proofs.YtajjgfiojlagmaaGreatDoor

/- The reader's shown variables. -/
namespace Go.Proofs.YtajjgfiojlagmaaGreatDoor
open Go.RowKit

theorem Tryz.infoIntD : (Tryz.prog.info? 3).map (fun i => (i.zero, i.size, i.bytes)) = some (some (.int .i64 0), 1, 8) := by kernel_rfl
theorem numZ_in (x : List UInt8) : 0 ≤ numZ x ∧ numZ x < 100000 := by
  unfold numZ
  cases hn : numD x with
  | none => simp
  | some n => have := numD_lt hn; simp; omega
def partI (xs : List Int) (k : Nat) : Array Value := (ints (xs.take k ++ List.replicate (xs.length - k) 0)).toArray
theorem partI_all (xs : List Int) : partI xs xs.length = (ints xs).toArray := by simp [partI]
theorem partI_get {xs : List Int} {k : Nat} (h : k < xs.length) : (partI xs k)[k]? = some (.int .i64 0) := by
  unfold partI
  rw [List.getElem?_toArray]
  refine ints_get _ _ _ ?_
  rw [List.getElem?_append_right (by rw [List.length_take]; omega), List.length_take, Nat.min_eq_left (by omega), Nat.sub_self, List.getElem?_replicate, if_pos (by omega)]
theorem partI_set {xs : List Int} {k : Nat} (h : k < xs.length) : (partI xs k).setIfInBounds k (.int .i64 (xs.getD k 0)) = partI xs (k + 1) := by
  unfold partI
  rw [List.setIfInBounds_toArray, ints_set]
  congr 2
  apply List.ext_getElem?
  intro i
  have hk : (xs.take k).length = k := by simp; omega
  rw [List.getElem?_set]
  by_cases hik : k = i
  · subst hik
    rw [if_pos rfl, if_pos (by simp; omega), List.getElem?_append_left (by simp; omega), List.getElem?_take, if_pos (by omega)]
    simp [List.getD, h]
  · rw [if_neg hik]
    by_cases hi : i < k
    · rw [List.getElem?_append_left (by omega), List.getElem?_append_left (by simp; omega), List.getElem?_take, List.getElem?_take, if_pos hi, if_pos (by omega)]
    · rw [List.getElem?_append_right (by omega), List.getElem?_append_right (by simp; omega), List.getElem?_replicate, List.getElem?_replicate]
      simp only [List.length_take]
      by_cases h2 : i - min k xs.length < xs.length - k
      · rw [if_pos h2, if_pos (by omega)]
      · rw [if_neg h2, if_neg (by omega)]
theorem makeI (xs : List Int) (hn : xs.length ≤ 1100001) (x : World) : (Instr.makeSlice 25 (.int .i64 (xs.length : Int)) (.int .i64 (xs.length : Int))).run Tryz.prog x = .ok (.slice (some ⟨x.heap.size, 0, none⟩) xs.length xs.length) (x.alloc (.cells (partI xs 0) 3)) := by
  obtain ⟨i0, ii, iz0, iz1, iz2⟩ := info_parts Tryz.infoIntD
  have h := run_makeSlice (P := Tryz.prog) (w := x) 25 3 i0 _ Tryz.underlying25 ii iz0 .i64 .i64 xs.length xs.length (by omega) (by omega) (by rw [iz1]; omega) (by rw [iz2]; omega) (by omega)
  rw [iz1] at h
  have e : madeCells (Value.int .i64 0).cells ((xs.length : Int).toNat * 1) = partI xs 0 := by
    apply Array.toList_inj.1
    unfold partI
    have := ints_zeros xs.length
    rw [show (Value.int .i64 0).cells = #[Value.int .i64 0] from rfl]
    simpa using this
  rw [e] at h
  simpa using h
theorem showGo_cons (st : DS) (v : Int) (l : List Int) : showGo st (v :: l) = if v ∈ st.sh then (st, 4) else if st.n < v then (st, 6) else showGo { st with sh := st.sh ++ [v] } l := rfl

set_option maxHeartbeats 3200000 in
set_option maxRecDepth 100000 in
theorem gShow (w : World) (br ms mh b : Nat) (st : DS) (v : DV) (h : Rdr w br ms mh b st v) (r : List (List UInt8)) (hl : ∀ x ∈ r, x.length ≤ 1100000) (hr : r.length ≤ 1100001) (hsl : st.sh.length ≤ 10000000) (a : Option Addr) (c : Nat) (hA : AtN w.heap.size w a (strs r)) :
    Calls Tryz.prog 66 #[.pointer (some ⟨br, 0, none⟩), .slice a r.length c] w (RdPost w br ms mh b v (showD st r)) := by
  obtain ⟨R, hR⟩ : ∃ R : DS × Int, R = showD st r := ⟨_, rfl⟩
  rw [← hR]
  obtain ⟨Post, hPost⟩ : ∃ P : Ending → World → Prop, P = RdPost w br ms mh b v R := ⟨_, rfl⟩
  rw [← hPost]
  have HP := Lib.hid hPost
  have H := Lib.hid h
  have HA := Lib.hid hA
  have HLN := Lib.hid hl
  obtain ⟨nums, hnums⟩ : ∃ l, l = r.map numZ := ⟨_, rfl⟩
  have HNU := Lib.hid hnums
  have HR := Lib.hid (show R = if nums.contains 0 then (st, 5) else showGo st nums by rw [hR, hnums]; rfl)
  have hlen : nums.length = r.length := by rw [hnums]; simp
  have HLE := Lib.hid hlen
  have hnl : nums.length ≤ 1100001 := by omega
  rw [← hlen]
  obtain ⟨i0, ii, iz0, iz1, iz2⟩ := info_parts Tryz.infoIntD
  have II := Lib.hid ii
  have IZ0 := Lib.hid iz0
  have IZ1 := Lib.hid iz1
  have IZ2 := Lib.hid iz2
  have hbw0 := h.bw
  clear hPost h hA hl hnums hR hlen hr ii iz0 iz1 iz2
  go_enter Tryz.func66, Tryz.ntmps66
  have hmk := makeI nums hnl w
  go_upto_region 3 with fail
  refine wp_gen ?_
  intro w1 hw1
  have M1 := Lib.hid (show w1.heap[w.heap.size]? = some (.cells (partI nums 0) 3 (0, 0)) by rw [hw1]; exact new_one _ _)
  have HB1 := Lib.hid (show Below w.heap.size w w1 by rw [hw1]; exact below_one _ _)
  clear hw1 hmk
  go_loopw [16] (fun t16 wr => ∃ k : Nat, k ≤ nums.length ∧ t16 = .int .i64 k ∧ Hid (∀ x ∈ nums.take k, x ≠ 0) ∧ Hid (wr.heap[w.heap.size]? = some (.cells (partI nums k) 3 (0, 0))) ∧ Hid (Below w.heap.size w wr)) (fun t16 _ => nums.length - (intOf t16).toNat)
  case atStart => exact ⟨0, Nat.zero_le _, rfl, by simp [Hid], M1, HB1⟩
  case round =>
    obtain ⟨k, hk, rfl, HZ, M, HB⟩ := hrel
    by_cases hlt : k < nums.length
    · have hdd : decide (k < nums.length) = true := decide_eq_true hlt
      have hkr : k < r.length := by have := HLE.out; omega
      have hrk : r[k]? = some (r.getD k []) := by simp [List.getD, hkr]
      obtain ⟨b1, o1, hb1, e1, k1⟩ := HA.out k _ (strs_get r k _ hrk)
      cases e1
      have c1 := below_cell HB.out hb1 k1
      have hxk := HLN.out _ (List.mem_of_getElem? hrk)
      have KN := gNumber (r.getD k []) hxk
      have hnk : nums.getD k 0 = numZ (r.getD k []) := by
        rw [HNU.out, List.getD_eq_getElem?_getD, List.getElem?_map, hrk]; rfl
      have hz : numZ (r.getD k []) = 0 ∨ (numD (r.getD k [])).isSome = true := by
        cases hn : numD (r.getD k []) with
        | none => left; unfold numZ; rw [hn]; rfl
        | some n => right; rfl
      have hin := numZ_in (r.getD k [])
      have HM := Lib.hid (show nums.getD k 0 ∈ nums by simp [List.getD, hlt])
      have HTK := Lib.hid (show nums.take (k + 1) = nums.take k ++ [nums.getD k 0] by rw [List.take_add_one, List.getElem?_eq_getElem hlt]; simp [List.getD, hlt])
      have HST := Lib.hid (partI_set hlt)
      have HGK := Lib.hid (partI_get hlt)
      rw [hnk] at HM HTK HST
      generalize (⟨(r.getD k []).toArray⟩ : ByteArray) = y at *
      generalize numZ (r.getD k []) = z at *
      generalize (numD (r.getD k [])).isSome = ok at *
      clear k1 hrk hxk hnk
      go_wp2_with fail
      refine (KN _).mono ?_
      rintro e w2 ⟨rfl, hB⟩
      have HB2 := Lib.hid (HB.out.trans (hB.mono HB.out.size))
      have M2 := Lib.hid ((behind_of_below hB).keep M.out (by simp))
      clear hB KN c1
      by_cases hz0 : z = 0
      · have HF := Lib.hid (HR.out.trans (if_pos (by rw [List.contains_iff_mem, ← hz0]; exact HM.out)))
        subst hz0
        cases ok <;>
          (go_wp2_with fail
           rw [HP.out, HF.out]
           exact RdPost.err HB2.out (by simp))
      · obtain rfl : ok = true := by simpa [hz0] using hz
        have hzz : (z == 0) = false := beq_no hz0
        have m1 := blk_cell M2.out k HGK.out
        have m2 := blk_free M2.out k
        go_wp2_with fail
        go_roundw
        case rel => exact ⟨k + 1, by omega, by go_num, fun x hx => by
          rw [HTK.out] at hx
          rcases List.mem_append.1 hx with hx | hx
          · exact HZ.out x hx
          · rw [List.mem_singleton.1 hx]; exact hz0, by rw [← HST.out]; exact heap_setCell_same _ _ k _ _ _ M2.out, HB2.out.setCell (Nat.le_refl _) _⟩
        case measure => simp [intOf]; omega
    · obtain rfl : k = nums.length := by omega
      have hdd : decide (nums.length < nums.length) = false := by simp
      have HF := Lib.hid (HR.out.trans (if_neg (by
        rw [List.contains_iff_mem]
        intro h0
        have := HZ.out 0 (by rw [List.take_length]; exact h0)
        exact this rfl)))
      have M3 := Lib.hid (show wr.heap[w.heap.size]? = some (.cells (ints nums).toArray 3 (0, 0)) by rw [← partI_all]; exact M.out)
      have HI := Lib.hid (show ∀ x ∈ nums, 0 ≤ x ∧ x < 100000 from fun x hx => by
        rw [HNU.out] at hx
        obtain ⟨u, _, rfl⟩ := List.mem_map.1 hx
        exact numZ_in u)
      have hH3 := H.out.keepB HB.out
      have HS3 := Lib.hid hH3
      obtain ⟨w3, hw3⟩ : ∃ w3, w3 = wr := ⟨_, rfl⟩
      subst hw3
      have hw3h : w.heap.size < w3.heap.size := lt_of_heap M3.out
      clear HR HZ M hH3 M1 HB1 HA HLN HNU hk hlt
      go_wp2_with fail
      go_loopw [40] (fun t40 wr => ∃ (j : Nat) (s1 : DS) (v1 : DV), j ≤ nums.length ∧ t40 = .int .i64 j ∧ s1.sh.length ≤ 10000000 + j ∧ Hid (showGo st nums = showGo s1 (nums.drop j)) ∧ Hid (Rdr wr br ms mh b s1 v1) ∧ Hid (∀ g ∈ v1.M, g ∈ v.M ∨ w3.heap.size ≤ g) ∧ Hid (wr.heap[w.heap.size]? = some (.cells (ints nums).toArray 3 (0, 0))) ∧ Hid (Behind w (br :: ms :: mh :: v.M) wr) ∧ Hid (w3.heap.size ≤ wr.heap.size)) (fun t40 _ => nums.length - (intOf t40).toNat)
      case atStart => exact ⟨0, st, v, Nat.zero_le _, rfl, by omega, rfl, HS3, fun g hg => .inl hg, M3, (behind_of_below HB.out).mono (by simp), Nat.le_refl _⟩
      case round =>
        obtain ⟨j, s1, v1, hj, rfl, hsh, HG, HS, HV, M, HBh, HSZ⟩ := hrel
        by_cases hlt : j < nums.length
        · have hdd : decide (j < nums.length) = true := decide_eq_true hlt
          have hxx : nums[j]? = some (nums.getD j 0) := by simp [List.getD, hlt]
          have hin := HI.out _ (List.mem_of_getElem? hxx)
          have hdr : nums.drop j = nums.getD j 0 :: nums.drop (j + 1) := by
            rw [List.drop_eq_getElem_cons hlt]; simp [List.getD, hlt]
          have HG2 := Lib.hid (show R = if nums.getD j 0 ∈ s1.sh then (s1, 4) else if s1.n < nums.getD j 0 then (s1, 6) else showGo { s1 with sh := s1.sh ++ [nums.getD j 0] } (nums.drop (j + 1)) by rw [HF.out, HG.out, hdr, showGo_cons])
          have cx := blk_cell M.out j (by rw [List.getElem?_toArray]; exact ints_get _ _ _ hxx)
          generalize nums.getD j 0 = x at *
          have c8 := blk_cell HS.out.blk 8 rfl
          have c0 := blk_cell HS.out.blk 0 rfl
          have hrg := HS.out.rng
          have hx64 : -9223372036854775808 ≤ x ∧ x ≤ 9223372036854775807 := by omega
          clear hxx hdr
          by_cases hm : x ∈ s1.sh
          · have HF2 := Lib.hid (HG2.out.trans (if_pos hm))
            have hd := decide_eq_true hm
            have HL := Lib.hid (set_look HS.out.s1 x hx64)
            rw [hd] at HL
            clear hm hd HG2
            go_wp2_with (at_lookup; refine wpList_look_run _ rfl _ _ _ rfl _ _ _ rfl rfl HL.out ?_)
            go_wp2_with fail
            rw [HP.out, HF2.out]
            exact ⟨rfl, HBh.out, fun h => absurd h (by simp)⟩
          have HL := Lib.hid (set_look HS.out.s1 x hx64)
          rw [decide_eq_false hm] at HL
          by_cases hN : s1.n < x
          · have HF2 := Lib.hid (HG2.out.trans ((if_neg hm).trans (if_pos hN)))
            have hd : decide (s1.n < x) = true := decide_eq_true hN
            clear hm HG2
            go_wp2_with (at_lookup; refine wpList_look_run _ rfl _ _ _ rfl _ _ _ rfl rfl HL.out ?_)
            go_wp2_with fail
            rw [HP.out, HF2.out]
            exact ⟨rfl, HBh.out, fun h => absurd h (by simp)⟩
          have HF2 := Lib.hid (HG2.out.trans ((if_neg hm).trans (if_neg hN)))
          have hd : decide (s1.n < x) = false := decide_eq_false hN
          obtain ⟨wm, hrun, hset, hbm⟩ := set_put HS.out.s1 x hx64 hm
          have HRN := Lib.hid hrun
          have HST := Lib.hid hset
          have HBM := Lib.hid hbm
          have hord := HS.out.ord
          have hbw := HS.out.bw
          have HRW := Lib.hid (HS.out.rows.keep hbm (fun g hg => by simp at hg; omega))
          have hbk := hbm.keep HS.out.blk (by simp; omega)
          have HBK := Lib.hid hbk
          have m8 := blk_cell hbk 2 rfl
          have hwm := hbm.size
          clear hm hrun hset hbm hbk HG2
          go_wp2_with (first | (at_lookup; refine wpList_look_run _ rfl _ _ _ rfl _ _ _ rfl rfl HL.out ?_) | (at_mapUpdate; refine wpList_put_run _ wm rfl _ _ _ _ rfl _ _ _ rfl rfl rfl HRN.out ?_) | (at_builtin; refine wpList_append_row _ rfl _ _ 25 rfl 3 i0 (.int .i64 0) 1 8 Tryz.underlying25 II.out IZ0.out IZ1.out IZ2.out rfl _ _ _ rfl (HRW.out.rS.keep (behind_of_below ((Below.refl _ _).alloc (Nat.le_refl _) _)) (by simp)) wm.heap.size 1 1 [.int .i64 x] 3 rfl (heap_alloc_new wm _) rfl (by intro u hu; simp at hu; subst hu; rfl) (by omega) (by unfold maxLen; omega) (by omega) ?_))
          intro v9 w9 hr9 hB9 hn9
          have h09 : Behind wm (rowBlk v1.S) w9 := ((behind_of_below ((Below.refl _ _).alloc (Nat.le_refl _) _)).mono (by simp)).trans hB9 (fun k hk => .inl hk)
          have hn9' : ∀ g ∈ rowBlk v9, g ∈ rowBlk v1.S ∨ wm.heap.size ≤ g := fun g hg => (hn9 g hg).imp id (fun h => by first | omega | (simp at h; omega))
          have hR9 := HRW.out.appS (x := x) (by omega) h09 hr9 hn9'
          have hin9 : ∀ g ∈ rowBlk v1.S, g ∈ v1.M := fun g hg => DV.mem.2 (.inr (.inl hg))
          have hge9 : ∀ g ∈ rowBlk v1.S, b ≤ g := fun g hg => HS.out.rows.ge g (hin9 g hg)
          have hk9 := h09.keep HBK.out (fun hg => by have := hge9 br hg; omega)
          have p2 := blk_cell hk9 2 rfl
          have f2 := blk_free hk9 2
          obtain ⟨p9, c9, hv9⟩ := hr9.slice
          subst hv9
          have hS3 := (HST.out.keep h09 (fun hg => by have := hge9 ms hg; omega))
          have hS4 := ((HS.out.s2.keep HBM.out (by simp; omega)).keep h09 (fun hg => by have := hge9 mh hg; omega))
          have hwm3 : w3.heap.size ≤ wm.heap.size := Nat.le_trans HSZ.out hwm
          have hM9 := (HBM.out.keep M.out (by simp; omega))
          have hM10 := h09.keep hM9 (fun hg => (HV.out _ (hin9 _ hg)).elim (fun e => by have := H.out.rows.lt _ e; omega) (fun e => by omega))
          have hB10 := (HBh.out.trans HBM.out (fun g hg => .inl (by simp at hg; simp [hg]))).trans h09 (fun g hg => (HV.out g (hin9 g hg)).elim (fun e => .inl (by simp [e])) (fun e => .inr (by have := HB.out.size; omega)))
          have HX := Lib.hid (And.intro hR9 (And.intro hk9 (And.intro hS3 (And.intro hS4 (And.intro hM10 (And.intro hB10 (And.intro hn9' h09.size)))))))
          clear hr9 hB9 hn9 h09 hR9 hk9 hS3 hS4 hM9 hM10 hB10 hn9' hin9 hge9
          go_wp2_with fail
          go_roundw
          case rel =>
            obtain ⟨hR9, hk9, hS3, hS4, hM10, hB10, hn9, hsz9⟩ := HX.out
            refine ⟨j + 1, { s1 with sh := s1.sh ++ [x] }, { v1 with S := .slice p9 (s1.sh.length + 1) c9 }, by omega, by go_num, by simp; omega, HF.out.symm.trans HF2.out, ⟨heap_setCell_same _ br 2 _ _ _ hk9, hS3.keep behind_set (by simp; omega), hS4.keep behind_set (by simp; omega), hR9.keep behind_set (fun g hg => by simp at hg; omega), hord, by simp [World.setCell]; omega, hrg⟩, fun g hg => ?_, (heap_setCell_other _ _ _ _ (by show w.heap.size ≠ br; omega)).trans hM10, hB10.trans behind_set (fun g hg => .inl (by simp at hg; simp [hg])), ?_⟩
            · rcases DV.mem.1 hg with hg | hg | hg | hg
              · exact HV.out g (DV.mem.2 (.inl hg))
              · exact (hn9 g hg).elim (fun e => HV.out g (DV.mem.2 (.inr (.inl e)))) (fun e => .inr (by omega))
              · exact HV.out g (DV.mem.2 (.inr (.inr (.inl hg))))
              · exact HV.out g (DV.mem.2 (.inr (.inr (.inr hg))))
            · show w3.heap.size ≤ (w9.setCell _ _).heap.size
              simp [World.setCell]; omega
          case measure => simp [intOf]; omega
        · obtain rfl : j = nums.length := by omega
          have hdd : decide (nums.length < nums.length) = false := by simp
          have HF2 := Lib.hid (show R = (s1, 0) by rw [HF.out, HG.out, List.drop_length]; rfl)
          go_wp2_with fail
          rw [HP.out, HF2.out]
          exact ⟨rfl, HBh.out, fun _ => ⟨v1, HS.out, fun g hg => (HV.out g hg).imp id (fun h => by have := HB.out.size; omega)⟩⟩
end Go.Proofs.YtajjgfiojlagmaaGreatDoor
