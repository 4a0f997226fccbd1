/- Texts of this claim, joined: DOpn2. -/
import Derived.Test.YtajjgfiojlagmaaGreatDoorMZ24
import Derived.Test.YtajjgfiojlagmaaGreatDoorMZ27
import Derived.Deep.Strs

/- A file of the document as an argument. -/
namespace Go.Proofs.YtajjgfiojlagmaaGreatDoor
open Go.ChangeShapes Go.WideShapes Go.ChangeAt Go.RowKit Go.Deep

variable {H : Type} {enc : TypeId × Value → H}

theorem spot_none {W : World} {base : Nat} {a : Addr} {k : Nat} {cs : List Value} (h : W.cells? base a (k + 1) = some cs) : a.spot = none := by
  obtain ⟨_, hlen, hc⟩ := World.cells?_some h
  have g0 := hc 0 (by omega)
  obtain ⟨v, hv⟩ : ∃ v, cs[0]? = some v := ⟨_, List.getElem?_eq_getElem (by omega)⟩
  rw [hv] at g0
  have := World.cell?_spot g0
  simpa [Addr.add] using this
set_option maxRecDepth 100000 in
theorem open_row {W : World} {n : Nat} {v : Value} {y : DataW H × List MemPlace} (h : DataW.trod enc Tryz.prog W 0 (fun _ => true) true n 25 [v] = some y) :
    ∃ (zs : List Int) (a : Option Addr) (c : Nat), v = .slice a zs.length c ∧ AtN W.heap.size W a (ints zs) ∧ zs.length ≤ c := by
  rcases open_ints Tryz.underlying25 Tryz.underlying3 (by kernel_rfl) h with ⟨hcs, _⟩ | ⟨⟨b, o, sp⟩, len, cap, zs, hcs, _, hl, hm, hz, hx, hcell, hwz⟩
  · cases hcs
    exact ⟨[], none, 0, rfl, fun i v hi => by simp [ints] at hi, Nat.le_refl _⟩
  · cases hcs
    simp only [if_true] at hz
    have hlz : (zs.take len).length = len := by simp; omega
    have hsp : sp = none ∨ zs = [] := by
      cases sp with
      | none => exact .inl rfl
      | some s =>
        right
        cases zs with
        | nil => rfl
        | cons z zs => have := World.cell?_spot (hcell 0 (by simp)); simp [Addr.add] at this
    refine ⟨zs.take len, some ⟨b, o, sp⟩, cap, by rw [hlz], fun i v hi => ?_, by omega⟩
    have hi2 : i < (zs.take len).length := by
      have := (List.getElem?_eq_some_iff.1 hi).1
      simpa [ints] using this
    have hi3 : i < zs.length := by rw [hlz] at hi2; omega
    have hc := hcell i hi3
    rcases hsp with rfl | h0
    · rw [Addr.add_lit] at hc
      refine ⟨b, o, block_lt_of_cell hc, rfl, ?_⟩
      have e : (ints (zs.take len))[i]? = some (.int .i64 (zs.getD i 0)) := by
        refine ints_get _ _ _ ?_
        rw [List.getElem?_take, if_pos (by omega), List.getD_eq_getElem?_getD, List.getElem?_eq_getElem hi3]; rfl
      rw [e] at hi
      cases hi
      exact hc
    · rw [h0] at hi3; simp at hi3

set_option maxRecDepth 100000 in
theorem open_cls {W : World} {n : Nat} {v : Value} {y : DataW H × List MemPlace} (h : DataW.trod enc Tryz.prog W 0 (fun _ => true) true n 22 [v] = some y) :
    ∃ (L : List (List Int)) (a : Option Addr) (c : Nat), v = .slice a L.length c ∧ ClsAt W.heap.size W a L := by
  have hcell1 : Tryz.prog.cellsOf 25 = 1 := by kernel_rfl
  rcases open_slice Tryz.underlying22 h with ⟨hcs, _⟩ | ⟨⟨b, o, sp⟩, len, cap, m, n', D, Pl, hcs, _, hl, hm, hmm, hx, hel⟩
  · cases hcs
    exact ⟨[], none, 0, rfl, fun i x hi => by simp at hi⟩
  · cases hcs
    simp only [if_true] at hmm
    subst hmm
    have hsp : 0 < len → sp = none := fun h0 => by
      obtain ⟨cs', h1, _⟩ := hel 0 (by omega)
      rw [hcell1] at h1
      simpa [Addr.add] using spot_none h1
    have key : ∀ i, i < len → ∃ xs : List Int, ∃ (p : Option Addr) (c : Nat), sp = none ∧ W.cell? ⟨b, o + i, none⟩ = some (.slice p xs.length c) ∧ AtN W.heap.size W p (ints xs) := fun i hi => by
      obtain ⟨cs', h1, h2⟩ := hel i (by omega)
      rw [hcell1] at h1
      obtain rfl : sp = none := hsp (by omega)
      obtain ⟨_, hlen, hc⟩ := World.cells?_some h1
      match cs', hlen with
      | [c0], _ =>
        obtain ⟨zs, p, c, rfl, hp, _⟩ := open_row h2
        have g0 := hc 0 (by omega)
        simp only [Addr.add_lit, Nat.add_zero, Nat.mul_one, List.getElem?_cons_zero] at g0
        exact ⟨zs, p, c, rfl, g0, hp⟩
    obtain ⟨f, hfx⟩ := choose_lt (α := List Int) (p := fun i xs => ∃ (p : Option Addr) (c : Nat), sp = none ∧ W.cell? ⟨b, o + i, none⟩ = some (.slice p xs.length c) ∧ AtN W.heap.size W p (ints xs)) key
    have hlen : ((List.range len).map f).length = len := by simp
    refine ⟨(List.range len).map f, some ⟨b, o, sp⟩, m, by rw [hlen], fun i x hi => ?_⟩
    have hi2 : i < len := by
      have := (List.getElem?_eq_some_iff.1 hi).1
      simpa using this
    have e : ((List.range len).map f)[i]? = some (f i) := by simp [hi2]
    rw [e] at hi
    cases hi
    obtain ⟨p, c, rfl, g0, hp⟩ := hfx i hi2
    exact ⟨b, o, p, c, block_lt_of_cell g0, rfl, g0, hp⟩

theorem wts_map {f : Nat → Int × List UInt8} : ∀ (n i : Nat), i < n → (wts ((List.range n).map f))[2 * i]? = some (.int .i64 (f i).1) ∧ (wts ((List.range n).map f))[2 * i + 1]? = some (.string ⟨(f i).2.toArray⟩) := by
  intro n
  induction n with
  | zero => intro i hi; omega
  | succ n ih =>
    intro i hi
    have hl : (wts ((List.range n).map f)).length = 2 * n := by
      have : ∀ l : List (Int × List UInt8), (wts l).length = 2 * l.length := fun l => by
        induction l with
        | nil => rfl
        | cons x l ih => unfold wts at ih ⊢; rw [List.flatMap_cons, List.length_append, ih, List.length_cons]; simp; omega
      rw [this]; simp
    have hs : wts ((List.range (n + 1)).map f) = wts ((List.range n).map f) ++ [.int .i64 (f n).1, .string ⟨(f n).2.toArray⟩] := by
      unfold wts; rw [List.range_succ]; simp
    rw [hs]
    by_cases h : i < n
    · rw [List.getElem?_append_left (by omega), List.getElem?_append_left (by omega)]
      exact ih i h
    · obtain rfl : i = n := by omega
      rw [List.getElem?_append_right (by omega), List.getElem?_append_right (by omega), hl]
      simp
set_option maxRecDepth 100000 in
theorem open_wts {W : World} {n : Nat} {v : Value} {y : DataW H × List MemPlace} (h : DataW.trod enc Tryz.prog W 0 (fun _ => true) true n 26 [v] = some y) :
    ∃ (ws : List (Int × List UInt8)) (a : Option Addr) (c : Nat), v = .slice a ws.length c ∧ AtN W.heap.size W a (wts ws) := by
  have hcell2 : Tryz.prog.cellsOf 48 = 2 := by kernel_rfl
  have e1 : Tryz.prog.cellsOf 3 = 1 := by kernel_rfl
  have e2 : Tryz.prog.cellsOf 9 = 1 := by kernel_rfl
  rcases open_slice Tryz.underlying26 h with ⟨hcs, _⟩ | ⟨⟨b, o, sp⟩, len, cap, m, n', D, Pl, hcs, _, hl, hm, hmm, hx, hel⟩
  · cases hcs
    exact ⟨[], none, 0, rfl, fun i x hi => by simp [wts] at hi⟩
  · cases hcs
    simp only [if_true] at hmm
    subst hmm
    have hsp : 0 < len → sp = none := fun h0 => by
      obtain ⟨cs', h1, _⟩ := hel 0 (by omega)
      rw [hcell2] at h1
      simpa [Addr.add] using spot_none h1
    have key : ∀ i, i < len → ∃ x : Int × List UInt8, sp = none ∧ W.cell? ⟨b, o + i * 2, none⟩ = some (.int .i64 x.1) ∧ W.cell? ⟨b, o + i * 2 + 1, none⟩ = some (.string ⟨x.2.toArray⟩) := fun i hi => by
      obtain ⟨cs', h1, h2⟩ := hel i (by omega)
      rw [hcell2] at h1
      obtain rfl : sp = none := hsp (by omega)
      obtain ⟨_, hlen, hc⟩ := World.cells?_some h1
      obtain ⟨y0, y1, q, _, _, g0, g1⟩ := trod_struct2 Tryz.underlying48 h2
      match cs', hlen with
      | [c0, c1], _ =>
        simp only [e1, e2, List.drop_zero, List.drop_succ_cons, List.take_succ_cons, List.take_zero] at g0 g1
        obtain ⟨k, hk, _, _⟩ := DataW.trod_int Tryz.underlying3 g0
        obtain ⟨s, hs, _, _⟩ := DataW.trod_string Tryz.underlying9 g1
        cases hk
        cases hs
        have f0 := hc 0 (by omega)
        have f1 := hc 1 (by omega)
        simp only [Addr.add_lit, Nat.add_zero, List.getElem?_cons_zero, List.getElem?_cons_succ] at f0 f1
        exact ⟨(k, s.data.toList), rfl, f0, by simpa using f1⟩
    obtain ⟨f, hfx⟩ := choose_lt (α := Int × List UInt8) (p := fun i x => sp = none ∧ W.cell? ⟨b, o + i * 2, none⟩ = some (.int .i64 x.1) ∧ W.cell? ⟨b, o + i * 2 + 1, none⟩ = some (.string ⟨x.2.toArray⟩)) key
    have hlen : ((List.range len).map f).length = len := by simp
    have hwl : (wts ((List.range len).map f)).length = 2 * len := by
      have : ∀ l : List (Int × List UInt8), (wts l).length = 2 * l.length := fun l => by
        induction l with
        | nil => rfl
        | cons x l ih => unfold wts at ih ⊢; rw [List.flatMap_cons, List.length_append, ih, List.length_cons]; simp; omega
      rw [this]; simp
    refine ⟨(List.range len).map f, some ⟨b, o, sp⟩, m, by rw [hlen], fun i x hi => ?_⟩
    have hi2 := (List.getElem?_eq_some_iff.1 hi).1
    rw [hwl] at hi2
    have hj : i / 2 < len := by omega
    obtain ⟨rfl, g0, g1⟩ := hfx (i / 2) hj
    obtain ⟨k0, k1⟩ := wts_map (f := f) len (i / 2) hj
    rcases Nat.mod_two_eq_zero_or_one i with h0 | h0
    · rw [show 2 * (i / 2) = i by omega, hi] at k0
      cases k0
      rw [show o + i / 2 * 2 = o + i by omega] at g0
      exact ⟨b, o, block_lt_of_cell g0, rfl, g0⟩
    · rw [show 2 * (i / 2) + 1 = i by omega, hi] at k1
      cases k1
      rw [show o + i / 2 * 2 + 1 = o + i by omega] at g1
      exact ⟨b, o, block_lt_of_cell g1, rfl, g1⟩

set_option maxRecDepth 100000 in
theorem open_file {W : World} {base : Nat} {v : Value} {d : DataW H} {p : List MemPlace} (hv : Value.okWide Tryz.prog W .any base 28 v) (h : DataW.Trod enc Tryz.prog W 0 (fun _ => true) true 28 v d p) :
    ∃ (n : Int) (L : List (List Int)) (sh : List Int) (ws : List (Int × List UInt8)) (aL aS aW : Option Addr) (cL cS cW : Nat), v = .agg #[.int .i64 n, .slice aL L.length cL, .slice aS sh.length cS, .slice aW ws.length cW] ∧ FileAt W.heap.size W aL aS aW L sh ws ∧ sh.length ≤ cS := by
  obtain ⟨cs, rfl, hsz⟩ := okWide_struct Tryz.underlying28 hv
  rw [show Tryz.prog.cellsOf 28 = 4 by kernel_rfl] at hsz
  obtain ⟨l⟩ := cs
  match l, hsz with
  | [c0, c1, c2, c3], _ =>
  obtain ⟨fuel, hf⟩ := h
  obtain ⟨y0, y1, y2, m, _, hl, h0, h1, h2⟩ := trod_struct3 Tryz.underlying28 hf
  have e1 : Tryz.prog.cellsOf 3 = 1 := by kernel_rfl
  have e2 : Tryz.prog.cellsOf 25 = 1 := by kernel_rfl
  have e3 : Tryz.prog.cellsOf 22 = 1 := by kernel_rfl
  have e4 : Tryz.prog.cellsOf 26 = 1 := by kernel_rfl
  have e5 : Tryz.prog.cellsOf 24 = 2 := by kernel_rfl
  simp only [Value.cells, e2, e4, e5, List.drop_zero, List.drop_succ_cons, List.take_succ_cons, List.take_zero] at h0 h1 h2
  obtain ⟨z0, z1, m2, _, hl2, g0, g1⟩ := trod_struct2 Tryz.underlying24 h0
  simp only [e1, e3, List.drop_zero, List.drop_succ_cons, List.take_succ_cons, List.take_zero] at g0 g1
  obtain ⟨k, hk, _, _⟩ := DataW.trod_int Tryz.underlying3 g0
  cases hk
  obtain ⟨L, aL, cL, rfl, hL⟩ := open_cls g1
  obtain ⟨sh, aS, cS, rfl, hS, hcS⟩ := open_row h1
  obtain ⟨ws, aW, cW, rfl, hW⟩ := open_wts h2
  exact ⟨k, L, sh, ws, aL, aS, aW, cL, cS, cW, rfl, ⟨hL, hS, hW⟩, hcS⟩
end Go.Proofs.YtajjgfiojlagmaaGreatDoor
