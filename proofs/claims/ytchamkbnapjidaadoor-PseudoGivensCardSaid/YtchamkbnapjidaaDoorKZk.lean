/- Appends of old memory (as in BGivS). -/
import Derived.Test.YtchamkbnapjidaaDoorKB
import Derived.Test.YtchamkbnapjidaaDoorGame4
namespace Go.Proofs.YtchamkbnapjidaaDoor
open Go.RowKit

section
variable {P : Program} {ops : Array Oper} {w : World} {Wr : List Nat}
/-- Old memory is appended to a new empty slice. -/
theorem lex_append_old {kd : Nat → Nat} {Q : Act → Blocks → Prop} {B : Blocks} {rest : List Oper} {k d : Nat} {ty : TypeId} {pos : String} {after : Array Edge} {a : Act} (s y : Operand) (t E : TypeId) (i : TypeInfo) (z : Value) (size bytes : Nat)
    (ht : P.underlying t = some (.slice E)) (hi : P.info? E = some i) (hz : i.zero = some z) (hsize : i.size = size) (hby : i.bytes = bytes) (hzs : z.cells.size = size)
    (g : Nat) (hs : a.eval s = .slice (some ⟨g, 0, none⟩) 0 0)
    (ad : Addr) (m c2 : Nat) (news : List Value) (hy : a.eval y = .slice (some ad) m c2) (hnews : ∀ x, Behind w Wr x → ∀ j u, news[j]? = some u → x.cell? (ad.add j) = some u) (hl : news.length = m * size) (h0 : 0 < m)
    (h63 : m ≤ maxLen) (hbytes : m * bytes ≤ 140737488355328) (hk : kd k = 5)
    (h : ∀ (g' cap' : Nat) (cur' : Array Value), RowB (B.put g' (.cells cur' E (0, 0))) E size g' m cap' news cur' → w.heap.size ≤ g' → B g' = none →
      setSlot P ops d ty pos (.slice (some ⟨g', 0, none⟩) m cap') (fun a' => wpLex P ops w Wr kd Q rest (k + 1) a' (B.put g' (.cells cur' E (0, 0)))) a) :
    wpLex P ops w Wr kd Q (⟨some d, .call { callee := .builtin .append, args := #[s, y], argTypes := #[t, t] }, ty, pos, after, none⟩ :: rest) k a B := by
  subst hsize hby
  have hexec : ∀ x r x', (Builtin.append_ #[t, t] ty #[.slice (some ⟨g, 0, none⟩) 0 0, .slice (some ad) m c2]).run P x = .ok r x' →
      (execOp a.eval ⟨some d, .call { callee := .builtin .append, args := #[s, y], argTypes := #[t, t] }, ty, pos, after, none⟩).run P x = .ok (.value r) x' := fun x r x' hr => by
    unfold execOp
    simp only [resolve, invoke, builtin, Sem.run_bind, Sem.run_pure, Result.andThen_ok, List.map_toArray, List.map_cons, List.map_nil, hs, hy, hr]
  have gs : GStep P ops w Wr ⟨some d, .call { callee := .builtin .append, args := #[s, y], argTypes := #[t, t] }, ty, pos, after, none⟩ a (kd k) B
      (fun v' B' => ∃ g' c, w.heap.size ≤ g' ∧ B g' = none ∧ (m ≤ c ∧ c ≤ maxLen) ∧ v' = .slice (some ⟨g', 0, none⟩) m c ∧ B' = B.put g' (.cells (news.toArray ++ Builtin.zeroCells z.cells (c - m)) E (0, 0))) := by
    rw [hk]
    refine .grow B (fun g' c => .slice (some ⟨g', 0, none⟩) m c) (fun c => .cells (news.toArray ++ Builtin.zeroCells z.cells (c - m)) E (0, 0)) _ ⟨m, Nat.le_refl _, h63⟩ rfl fun x hx hB => ?_
    have hr := run_append_grow (P := P) x t ty E i z ht hi hz ⟨g, 0, none⟩ 0 0 [] (by simp) (fun j v hj => by simp at hj) ad m c2 news hl (hnews x hx) (by omega) (by simp only [maxLen] at h63; omega) (growslice_fits (by omega) (by rw [Nat.zero_add]; exact hbytes))
    simp only [Nat.zero_add] at hr
    rw [hexec x _ _ hr]
    exact ⟨x.heap.size, _, Nat.le_refl _, ⟨by have := grownCap_ge x m 0 E; omega, grownCap_le_maxLen x m 0 E h63⟩, rfl, (Below.refl _ x).drew.alloc (by simp) _, by simpa using heap_alloc_new x.drew _⟩
  refine ⟨_, gs, fun v' B' hO => ?_⟩
  obtain ⟨g', c, e1, e2, ⟨e3, e4⟩, rfl, rfl⟩ := hO
  refine of_setSlot (h g' c _ ⟨Blocks.put_same _ _ _, e3, e4, ?_, ?_, hl⟩ e1 e2)
  · simp only [Array.size_append, List.size_toArray, size_zeroCells, hzs, hl, ← Nat.add_mul]
    congr 1
    omega
  · simp only [Array.toList_append]
    rw [← hl]
    exact List.take_left

/-- Nothing is appended. -/
theorem lex_append_none {kd : Nat → Nat} {Q : Act → Blocks → Prop} {B : Blocks} {rest : List Oper} {k d : Nat} {ty : TypeId} {pos : String} {after : Array Edge} {a : Act} (s y : Operand) (t E : TypeId) (i : TypeInfo)
    (ht : P.underlying t = some (.slice E)) (hi : P.info? E = some i) (g : Nat) (hs : a.eval s = .slice (some ⟨g, 0, none⟩) 0 0) (ao : Option Addr) (c2 : Nat) (hy : a.eval y = .slice ao 0 c2) (hk : kd k = 0)
    (h : setSlot P ops d ty pos (.slice (some ⟨g, 0, none⟩) 0 0) (fun a' => wpLex P ops w Wr kd Q rest (k + 1) a' B) a) :
    wpLex P ops w Wr kd Q (⟨some d, .call { callee := .builtin .append, args := #[s, y], argTypes := #[t, t] }, ty, pos, after, none⟩ :: rest) k a B := by
  have hr : ∀ x, (Builtin.append_ #[t, t] ty #[.slice (some ⟨g, 0, none⟩) 0 0, .slice ao 0 c2]).run P x = .ok (.slice (some ⟨g, 0, none⟩) 0 0) x := fun x => by
    cases ao <;> simp [Builtin.append_, run_underlying ht, sizeOf, typeInfo, hi, storeCells, loadCells, loadCellsFrom, Builtin.lenOf, Builtin.firstCells]
  have hexec : ∀ x, (execOp a.eval ⟨some d, .call { callee := .builtin .append, args := #[s, y], argTypes := #[t, t] }, ty, pos, after, none⟩).run P x = .ok (.value (.slice (some ⟨g, 0, none⟩) 0 0)) x := fun x => by
    unfold execOp
    simp only [resolve, invoke, builtin, Sem.run_bind, Sem.run_pure, Result.andThen_ok, List.map_toArray, List.map_cons, List.map_nil, hs, hy, hr]
  have gs : GStep P ops w Wr ⟨some d, .call { callee := .builtin .append, args := #[s, y], argTypes := #[t, t] }, ty, pos, after, none⟩ a (kd k) B (fun v' B' => v' = .slice (some ⟨g, 0, none⟩) 0 0 ∧ B' = B) := by
    rw [hk]
    refine .quiet B _ rfl (fun x hx => ?_)
    unfold Oper.quietAt
    rw [hexec x]
    exact ⟨rfl, rfl⟩
  refine ⟨_, gs, fun v' B' hO => ?_⟩
  obtain ⟨rfl, rfl⟩ := hO
  exact of_setSlot h

/-- Old memory, perhaps none of it, is appended to a new empty slice. -/
theorem lex_append_copy {kd : Nat → Nat} {Q : Act → Blocks → Prop} {B : Blocks} {rest : List Oper} {k d : Nat} {ty : TypeId} {pos : String} {after : Array Edge} {a : Act} (s y : Operand) (t E : TypeId) (i : TypeInfo) (z : Value) (size bytes : Nat)
    (ht : P.underlying t = some (.slice E)) (hi : P.info? E = some i) (hz : i.zero = some z) (hsize : i.size = size) (hby : i.bytes = bytes) (hzs : z.cells.size = size)
    (g : Nat) (hs : a.eval s = .slice (some ⟨g, 0, none⟩) 0 0)
    (ao : Option Addr) (m c2 : Nat) (news : List Value) (hy : a.eval y = .slice ao m c2) (hnews : ∀ x, Behind w Wr x → ∀ j u, news[j]? = some u → ∃ b o, ao = some ⟨b, o, none⟩ ∧ x.cell? ⟨b, o + j, none⟩ = some u) (hl : news.length = m * size) (hsz : 0 < size)
    (h63 : m ≤ maxLen) (hbytes : m * bytes ≤ 140737488355328) (hk : kd k = if m = 0 then 0 else 5)
    (h : ∀ (p : Option Addr) (c : Nat) (B' : Blocks), (∀ b o, B b = some o → B' b = some o) → (m = 0 ∨ ∃ g' cur', p = some ⟨g', 0, none⟩ ∧ RowB B' E size g' m c news cur' ∧ w.heap.size ≤ g' ∧ B g' = none) →
      setSlot P ops d ty pos (.slice p m c) (fun a' => wpLex P ops w Wr kd Q rest (k + 1) a' B') a) :
    wpLex P ops w Wr kd Q (⟨some d, .call { callee := .builtin .append, args := #[s, y], argTypes := #[t, t] }, ty, pos, after, none⟩ :: rest) k a B := by
  by_cases hm : m = 0
  · subst hm
    exact lex_append_none s y t E i ht hi g hs ao c2 hy (by simpa using hk) (h _ _ B (fun _ _ h => h) (.inl rfl))
  · have hm0 : 0 < m := by omega
    have hne : 0 < news.length := by rw [hl]; exact Nat.mul_pos hm0 hsz
    obtain ⟨b, o, rfl, _⟩ := hnews w (Behind.refl _ _) 0 news[0] (List.getElem?_eq_getElem hne)
    refine lex_append_old s y t E i z size bytes ht hi hz hsize hby hzs g hs ⟨b, o, none⟩ m c2 news hy (fun x hx j u hj => ?_) hl hm0 h63 hbytes (by simpa [hm] using hk) (fun g' c' cur' hr h1 h2 => ?_)
    · obtain ⟨b', o', e, hc⟩ := hnews x hx j u hj
      cases e
      rw [Addr.add_lit]; exact hc
    · refine h (some ⟨g', 0, none⟩) c' (B.put g' (.cells cur' E (0, 0))) (fun b o hb => ?_) (.inr ⟨g', cur', rfl, hr, h1, h2⟩)
      rw [Blocks.put_other _ _ (fun e => by rw [e, h2] at hb; cases hb)]
      exact hb
end
end Go.Proofs.YtchamkbnapjidaaDoor
