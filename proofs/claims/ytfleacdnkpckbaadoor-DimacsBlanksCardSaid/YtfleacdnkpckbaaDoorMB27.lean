/- Texts of this claim, joined: DP, DQ. -/
import Derived.Test.YtfleacdnkpckbaaDoorMB18
import Derived.Lib.ItoaMem

/- What is written in the format of chapter 06, and that it is read back. Plain. -/
namespace Go.Proofs.YtfleacdnkpckbaaDoor
open Go

/-! ### Numerals -/
/-! ### Pieces -/
/-! ### What is written -/
/-! ### What a valid file is -/
/-! ### It is read back -/
end Go.Proofs.YtfleacdnkpckbaaDoor

/- What is read is a valid file; its sizes. Plain. -/
namespace Go.Proofs.YtfleacdnkpckbaaDoor
open Go

structure StOk (rd : List UInt8 → Bool) (st : DS) : Prop where
  n0 : 0 ≤ st.n ∧ st.n ≤ 128
  nb : st.begun = false → st.L = [] ∧ st.sh = [] ∧ st.ws = [] ∧ st.cl = []
  m0 : st.begun = true → st.m ≤ 4096
  cls : ∀ c ∈ st.L, c.length ≤ 128 ∧ ∀ x ∈ c, validD x st.n = true
  cl : st.cl.length ≤ 128 ∧ ∀ x ∈ st.cl, validD x st.n = true
  shr : ∀ v ∈ st.sh, 1 ≤ v ∧ v ≤ st.n
  shn : st.sh.Nodup
  wsr : ∀ x ∈ st.ws, validD x.1 st.n = true ∧ rd x.2 = true
  wsn : (st.ws.map (·.1)).Nodup
section
variable {rd : List UInt8 → Bool}
theorem StOk.zero : StOk rd .zero := ⟨by simp [DS.zero], fun _ => ⟨rfl, rfl, rfl, rfl⟩, fun h => by simp [DS.zero] at h, by simp [DS.zero], by simp [DS.zero], by simp [DS.zero], by simp [DS.zero], by simp [DS.zero], by simp [DS.zero]⟩
theorem showGo_ok : ∀ (l : List Int) (st : DS), StOk rd st → st.begun = true → (∀ v ∈ l, 1 ≤ v) → StOk rd (showGo st l).1
  | [], st, h, _, _ => h
  | v :: l, st, h, hb, hl => by
    unfold showGo
    split
    · exact h
    split
    · exact h
    · rename_i h1 h2
      refine showGo_ok l _ ⟨h.n0, fun e => ?_, h.m0, h.cls, h.cl, fun u hu => ?_, ?_, h.wsr, h.wsn⟩ hb (fun u hu => hl u (List.mem_cons_of_mem _ hu))
      · simp only at e; rw [hb] at e; cases e
      · simp only at hu ⊢
        rcases List.mem_append.1 hu with hu | hu
        · exact h.shr u hu
        · rw [List.mem_singleton.1 hu]
          have := hl v (List.mem_cons_self ..)
          omega
      · simp only
        rw [List.nodup_append]
        exact ⟨h.shn, by simp, fun a ha b hb' e => by rw [List.mem_singleton] at hb'; subst hb'; subst e; exact h1 ha⟩
theorem litsGo_ok : ∀ (l : List Int) (st : DS), StOk rd st → st.begun = true → StOk rd (litsGo st l).1
  | [], st, h, _ => h
  | v :: l, st, h, hb => by
    unfold litsGo
    split
    · refine litsGo_ok l _ ⟨h.n0, fun e => ?_, h.m0, fun c hc => ?_, ⟨by simp, by simp⟩, h.shr, h.shn, h.wsr, h.wsn⟩ hb
      · simp only at e; rw [hb] at e; cases e
      · simp only at hc ⊢
        rcases List.mem_append.1 hc with hc | hc
        · exact h.cls c hc
        · rw [List.mem_singleton.1 hc]; exact h.cl
    split
    · exact h
    split
    · exact h
    · rename_i h1 h2 h3
      refine litsGo_ok l _ ⟨h.n0, fun e => ?_, h.m0, h.cls, ⟨?_, fun u hu => ?_⟩, h.shr, h.shn, h.wsr, h.wsn⟩ hb
      · simp only at e; rw [hb] at e; cases e
      · have := h.cl.1
        simp only [List.length_append, List.length_cons, List.length_nil]
        omega
      · simp only at hu ⊢
        rcases List.mem_append.1 hu with hu | hu
        · exact h.cl.2 u hu
        · rw [List.mem_singleton.1 hu]
          cases hv : validD v st.n with
          | true => rfl
          | false => exact absurd hv h2
theorem numZ_ge {w : List UInt8} : 0 ≤ numZ w := by unfold numZ; omega
theorem lineD_ok (st : DS) (W : List (List UInt8)) (h : StOk rd st) : StOk rd (lineD rd st W).1 := by
  unfold lineD
  split
  · exact h
  split
  · unfold problemD
    split
    · exact h
    split
    · split
      · exact h
      split
      · exact h
      · rename_i a b _ _ hb hab
        have hbf : st.begun = false := by
          cases hc : st.begun with
          | false => rfl
          | true => exact absurd hc hb
        obtain ⟨e1, e2, e3, e4⟩ := h.nb hbf
        refine ⟨⟨by simp only; omega, by simp only; omega⟩, (fun e => by cases e), fun _ => by simp only; omega, ?_, ?_, ?_, h.shn, ?_, h.wsn⟩
        · simp only; rw [e1]; simp
        · simp only; rw [e4]; simp
        · simp only; rw [e2]; simp
        · simp only; rw [e3]; simp
    · exact h
  split
  · unfold commentD
    split
    · exact h
    split
    · exact h
    rename_i hno
    have hb : st.begun = true := by
      cases hc : st.begun with
      | true => rfl
      | false => exact absurd (Or.inl hc) hno
    split
    · unfold showD
      split
      · exact h
      · rename_i hz
        refine showGo_ok _ st h hb fun v hv => ?_
        obtain ⟨x, hx, rfl⟩ := List.mem_map.1 hv
        have h0 := numZ_ge (w := x)
        have hne : numZ x ≠ 0 := fun e => hz (by rw [List.contains_iff_mem, ← e]; exact hv)
        omega
    · unfold weightD
      split
      · exact h
      split
      · exact h
      split
      · exact h
      split
      · exact h
      · rename_i h1 h2 h3 h4
        refine ⟨h.n0, fun e => ?_, h.m0, h.cls, h.cl, h.shr, h.shn, fun u hu => ?_, ?_⟩
        · simp only at e; rw [hb] at e; cases e
        · simp only at hu ⊢
          rcases List.mem_append.1 hu with hu | hu
          · exact h.wsr u hu
          · rw [List.mem_singleton.1 hu]
            exact ⟨by simpa using h4, by simpa using fun e => h2 (.inr e)⟩
        · simp only
          rw [List.map_append, List.nodup_append]
          exact ⟨h.wsn, by simp, fun a ha b hb' e => by
            simp only [List.map_cons, List.map_nil, List.mem_singleton] at hb'
            subst hb'
            subst e
            exact h3 ha⟩
  · unfold litsD
    split
    · exact h
    split
    · exact h
    · rename_i hb
      refine litsGo_ok _ st h ?_
      cases hc : st.begun with
      | true => rfl
      | false => exact absurd hc hb
theorem linesGo_ok : ∀ (l : List (List UInt8)) (st : DS) (i : Nat), StOk rd st → StOk rd (linesGo rd st i l).1
  | [], st, i, h => h
  | x :: l, st, i, h => by
    unfold linesGo
    split
    · exact lineD_ok st _ h
    · exact linesGo_ok l _ _ (lineD_ok st _ h)
theorem linesGo_sz : ∀ (l : List (List UInt8)) (st : DS) (i : Nat), Sz st (linesGo rd st i l).1 (sumLen l)
  | [], st, i => (Sz.refl st 0).more (Nat.zero_le _)
  | x :: l, st, i => by
    have h1 := lineD_sz rd st (wordsD x)
    have h2 := words_len x
    rw [sumLen_cons]
    unfold linesGo
    split
    · exact h1.more (by omega)
    · exact Sz.step h1 (linesGo_sz l _ _) (by omega)
theorem parseD_sz (l : List UInt8) : (parseD rd l).1.sh.length ≤ l.length ∧ (parseD rd l).1.ws.length ≤ l.length ∧ (parseD rd l).1.L.length ≤ l.length ∧ ∀ c ∈ (parseD rd l).1.L, c.length ≤ 128 := by
  have hs := linesGo_ok (rd := rd) (pieces 10 l) .zero 0 StOk.zero
  have h1 := linesGo_sz (rd := rd) (pieces 10 l) .zero 0
  have h2 := (pieces_len 10 l).1
  have z : (DS.zero).sh.length ≤ l.length ∧ (DS.zero).ws.length ≤ l.length ∧ (DS.zero).L.length ≤ l.length ∧ ∀ c ∈ (DS.zero).L, c.length ≤ 128 := by simp [DS.zero]
  have y : (linesGo rd .zero 0 (pieces 10 l)).1.sh.length ≤ l.length ∧ (linesGo rd .zero 0 (pieces 10 l)).1.ws.length ≤ l.length ∧ (linesGo rd .zero 0 (pieces 10 l)).1.L.length ≤ l.length ∧ ∀ c ∈ (linesGo rd .zero 0 (pieces 10 l)).1.L, c.length ≤ 128 := by
    have a := h1.sh
    have b := h1.ws
    have c := h1.L
    have z1 : DS.zero.sh.length = 0 := rfl
    have z2 : DS.zero.ws.length = 0 := rfl
    have z3 : DS.zero.L.length = 0 := rfl
    exact ⟨by omega, by omega, by omega, fun x hx => (hs.cls x hx).1⟩
  unfold parseD
  split
  · exact z
  split
  · exact z
  split
  · exact z
  split
  · exact z
  · exact y
end
end Go.Proofs.YtfleacdnkpckbaaDoor
