/- From the walks to the rows: the arguments opened; what the listed variables hold. -/
import Derived.Test.YtchamkbnapjidaaDoorKS
import Derived.Test.YtchamkbnapjidaaDoorKC
import Derived.Test.YtchamkbnapjidaaDoorKA
import Derived.Test.YtchamkbnapjidaaDoorRows
import Derived.ProofKit
import Derived.OpenShut
import Derived.Lib.SmallJoins
import Derived.Lib.LaidTab
import Derived.LaidMore
import Derived.HandedShaped
import Derived.SevenTiedAt
import Derived.Lay
namespace Go.Proofs.YtchamkbnapjidaaDoor
open Go.ChangeShapes Go.WideShapes Go.ChangeAt Go.RowKit Joins

theorem Tryd.own : ownKnob Tryd.prog.godebug = none := by kernel_rfl
theorem Tryd.laidOut : laidOutB Tryd.prog = true := by kernel_rfl

section
variable {H : Type} {enc : TypeId × Value → H}

/-- An argument reads as before. -/
theorem again_reads {t : TypeId} (hr : Tryd.prog.readableRec t = true) (ht : t < Tryd.prog.types.size) {W W' : World} {v : Value} {d : DataW H} {p : List MemPlace} (h : DataW.Trod enc Tryd.prog W 0 (fun _ => true) true t v d p)
    (hb : Below W.heap.size W W') (hlt : ∀ x ∈ p, x.block < W.heap.size) : DataW.Trod enc Tryd.prog W' 0 (fun b => decide (b < W.heap.size)) true t v d p :=
  Below.trod Tryd.laidOut hr ht h hb hlt

/-- Numbers of 64 bits. -/
def I64s (zs : List Int) : Prop := ∀ z ∈ zs, -9223372036854775808 ≤ z ∧ z ≤ 9223372036854775807
theorem bounds_i64 {z : Int} (h : (Lit.int .i64 z).wf = true) : -9223372036854775808 ≤ z ∧ z ≤ 9223372036854775807 := by
  simpa [Lit.wf, IntKind.min, IntKind.max, IntKind.signed, IntKind.bits] using h
set_option maxRecDepth 100000 in
/-- A row of numbers among an argument's cells. -/
theorem open_row {W : World} {n : Nat} {v : Value} {y : DataW H × List MemPlace} (h : DataW.trod enc Tryd.prog W 0 (fun _ => true) true n 22 [v] = some y) (hb : ∀ m ∈ DataW.weights Tryd.prog 22 y.1, m ≤ reachBytes) :
    ∃ (zs : List Int) (a : Option Addr) (c : Nat), v = .slice a zs.length c ∧ AtN W.heap.size W a (ints zs) ∧ zs.length ≤ 20000000000000 ∧ I64s zs := by
  rcases open_ints Tryd.underlying22 Tryd.underlying3 (by kernel_rfl) h with ⟨hcs, _⟩ | ⟨⟨b, o, sp⟩, len, cap, zs, hcs, _, hl, hm, hz, hx, hcell, hwz⟩
  · cases hcs
    exact ⟨[], none, 0, rfl, fun i v hi => by simp [ints] at hi, by simp, fun z hz => by simp at hz⟩
  · cases hcs
    simp only [if_true] at hz
    have hlz : (zs.take len).length = len := by simp; omega
    have hsp : sp = none ∨ zs = [] := by
      cases sp with
      | none => exact .inl rfl
      | some s =>
        right
        cases zs with
        | nil => rfl
        | cons z zs => have := World.cell?_spot (hcell 0 (by simp)); simp [Addr.add] at this
    refine ⟨zs.take len, some ⟨b, o, sp⟩, cap, by rw [hlz], fun i v hi => ?_, ?_, fun z hz => bounds_i64 (hwz z (List.mem_of_mem_take hz))⟩
    · have hi2 : i < (zs.take len).length := by
        have := (List.getElem?_eq_some_iff.1 hi).1
        simpa [ints] using this
      have hi3 : i < zs.length := by rw [hlz] at hi2; omega
      have hc := hcell i hi3
      rcases hsp with rfl | h0
      · rw [Addr.add_lit] at hc
        refine ⟨b, o, block_lt_of_cell hc, rfl, ?_⟩
        have e : (ints (zs.take len))[i]? = some (.int .i64 (zs.getD i 0)) := by
          refine ints_get _ _ _ ?_
          rw [List.getElem?_take, if_pos (by omega), List.getD_eq_getElem?_getD, List.getElem?_eq_getElem hi3]; rfl
        rw [e] at hi
        cases hi
        exact hc
      · rw [h0] at hi3; simp at hi3
    · rw [hx] at hb
      have h1 := hb (((lits (H := H) .i64 (zs.take len)).length + (lits (H := H) .i64 (zs.drop len)).length) * Tryd.prog.bytesOf 3) (by simp [DataW.weights, Tryd.underlying22])
      rw [show Tryd.prog.bytesOf 3 = 8 by kernel_rfl] at h1
      simp only [lits, List.length_map, reachBytes] at h1
      omega

/-- A sum as an argument. -/
structure SumArg (W : World) (v : Value) (s : PS) (ca la : Option Addr) (cc lc : Nat) : Prop where
  val : v = sumV ca cc la lc s
  atC : AtN W.heap.size W ca (ints s.C)
  atL : AtN W.heap.size W la (ints s.L)
  lenC : s.C.length ≤ 20000000000000
  lenL : s.L.length ≤ 20000000000000
  inC : I64s s.C
  inL : I64s s.L
  inM : -9223372036854775808 ≤ s.m ∧ s.m ≤ 9223372036854775807
set_option maxRecDepth 100000 in
theorem open_sum {W : World} {base : Nat} {v : Value} {d : DataW H} {p : List MemPlace} (hv : Value.okWide Tryd.prog W .any base 24 v) (h : DataW.Trod enc Tryd.prog W 0 (fun _ => true) true 24 v d p)
    (hb : ∀ m ∈ DataW.weights Tryd.prog 24 d, m ≤ reachBytes) : ∃ s ca la cc lc, SumArg W v s ca la cc lc := by
  obtain ⟨v0, v1, v2, y0, y1, y2, n, rfl, rfl, _, g0, g1, g2⟩ := open_agg3 (Tryd.underlying24) (by kernel_rfl) (by kernel_rfl) hv h
  have hbb : (∀ m ∈ DataW.weights Tryd.prog 22 y0.1, m ≤ reachBytes) ∧ (∀ m ∈ DataW.weights Tryd.prog 22 y1.1, m ≤ reachBytes) := by
    simp only [DataW.weights, Tryd.underlying24, DataW.weightsEach, List.map_cons, List.map_nil, List.mem_append] at hb
    exact ⟨fun m hm => hb m (by simp [hm]), fun m hm => hb m (by simp [hm])⟩
  obtain ⟨C, ca, cc, rfl, hC, hCl, hC6⟩ := open_row g0 hbb.1
  obtain ⟨L, la, lc, rfl, hL, hLl, hL6⟩ := open_row g1 hbb.2
  obtain ⟨m, hm, _, hm6⟩ := DataW.trod_int Tryd.underlying3 g2
  cases hm
  exact ⟨⟨C, L, m⟩, ca, la, cc, lc, rfl, hC, hL, hCl, hLl, hC6, hL6, bounds_i64 hm6⟩

set_option maxRecDepth 100000 in
theorem open_set {W : World} {base : Nat} {v : Value} {d : DataW H} {p : List MemPlace} (hv : Value.okWide Tryd.prog W .any base 44 v) (h : DataW.Trod enc Tryd.prog W 0 (fun _ => true) true 44 v d p) :
    ∃ a0 a1 : Nat, v = setV a0 a1 ∧ a0 < 18446744073709551616 ∧ a1 < 18446744073709551616 := by
  simp only [Value.okWide, Tryd.underlying44] at hv
  obtain ⟨cs, rfl, hs, _⟩ := hv
  rw [show Tryd.prog.cellsOf 44 = 2 by kernel_rfl] at hs
  obtain ⟨l⟩ := cs
  match l, hs with
  | [c0, c1], _ =>
    obtain ⟨fuel, hf⟩ := h
    obtain ⟨xs, m, _, _, _, hxl, hx⟩ := DataW.trod_array Tryd.underlying44 hf
    have e1 : Tryd.prog.cellsOf 42 = 1 := by kernel_rfl
    have g0 := hx 0 (by omega)
    have g1 := hx 1 (by omega)
    rw [List.getElem?_eq_getElem (by omega)] at g0 g1
    obtain ⟨n0, h0, _, b0⟩ := DataW.trod_int Tryd.underlying42 g0
    obtain ⟨n1, h1, _, b1⟩ := DataW.trod_int Tryd.underlying42 g1
    have k0 : c0 = .int .u64 n0 := by simpa [Value.cells, e1] using h0
    have k1 : c1 = .int .u64 n1 := by simpa [Value.cells, e1] using h1
    simp [Lit.wf, IntKind.min, IntKind.max, IntKind.signed, IntKind.bits] at b0 b1
    obtain ⟨m0, rfl⟩ := Int.eq_ofNat_of_zero_le b0.1
    obtain ⟨m1, rfl⟩ := Int.eq_ofNat_of_zero_le b1.1
    subst k0 k1
    exact ⟨m0, m1, rfl, by omega, by omega⟩
set_option maxRecDepth 100000 in
theorem open_i64 {W : World} {base : Nat} {v : Value} {d : DataW H} {p : List MemPlace} (hv : Value.okWide Tryd.prog W .any base 3 v) (h : DataW.Trod enc Tryd.prog W 0 (fun _ => true) true 3 v d p) : ∃ n : Int, v = .int .i64 n ∧ -9223372036854775808 ≤ n ∧ n ≤ 9223372036854775807 := by
  obtain ⟨n, rfl⟩ := okWide_int Tryd.underlying3 hv
  obtain ⟨fuel, hf⟩ := h
  obtain ⟨n', h1, _, h2⟩ := DataW.trod_int Tryd.underlying3 hf
  have h3 : n = n' := by simpa [Value.cells] using h1
  subst h3
  exact ⟨n, rfl, bounds_i64 h2⟩
set_option maxRecDepth 100000 in
theorem open_u8 {W : World} {base : Nat} {v : Value} {d : DataW H} {p : List MemPlace} (hv : Value.okWide Tryd.prog W .any base 5 v) (h : DataW.Trod enc Tryd.prog W 0 (fun _ => true) true 5 v d p) : ∃ n : Nat, v = .int .u8 (n : Nat) ∧ n < 256 := by
  obtain ⟨n, rfl⟩ := okWide_int Tryd.underlying5 hv
  obtain ⟨fuel, hf⟩ := h
  obtain ⟨n', h1, _, h2⟩ := DataW.trod_int Tryd.underlying5 hf
  have h3 : n = n' := by simpa [Value.cells] using h1
  subst h3
  simp [Lit.wf, IntKind.min, IntKind.max, IntKind.signed, IntKind.bits] at h2
  obtain ⟨m, rfl⟩ := Int.eq_ofNat_of_zero_le h2.1
  exact ⟨m, rfl, by omega⟩
set_option maxRecDepth 100000 in
theorem open_text {W : World} {base : Nat} {v : Value} (hv : Value.okWide Tryd.prog W .any base 9 v) : ∃ l : List UInt8, v = .string ⟨l.toArray⟩ := by
  obtain ⟨s, rfl⟩ := okWide_string Tryd.underlying9 hv
  exact ⟨s.data.toList, by simp⟩
set_option maxRecDepth 100000 in
theorem open_nums {W : World} {base : Nat} {v : Value} {d : DataW H} {p : List MemPlace} (hv : Value.okWide Tryd.prog W .any base 22 v) (h : DataW.Trod enc Tryd.prog W 0 (fun _ => true) true 22 v d p) (hb : ∀ m ∈ DataW.weights Tryd.prog 22 d, m ≤ reachBytes) :
    ∃ (zs : List Int) (a : Option Addr) (c : Nat), v = .slice a zs.length c ∧ AtN W.heap.size W a (ints zs) ∧ zs.length ≤ 20000000000000 ∧ I64s zs := by
  obtain ⟨a, n, c, rfl⟩ := okWide_slice Tryd.underlying22 hv
  obtain ⟨fuel, hf⟩ := h
  exact open_row (v := .slice a n c) hf hb
end
section
variable {H : Type} {enc : TypeId × Value → H} {P : Program} {w : World} {base : Nat} {spare : Nat → Bool} {held : Bool}

theorem trodAll_four {t t' t'' t3 : TypeId} {args : Array Value} {ds : List (DataW H)} {ps : List MemPlace} (h : DataW.TrodAll enc P w base spare held [t, t', t'', t3] args.toList ds ps) :
    ∃ v v' v'' v3 d d' d'' d3 p p' p'' p3, args = #[v, v', v'', v3] ∧ ds = [d, d', d'', d3] ∧ ps = p ++ p' ++ p'' ++ p3 ∧ DataW.Trod enc P w base spare held t v d p ∧ DataW.Trod enc P w base spare held t' v' d' p' ∧ DataW.Trod enc P w base spare held t'' v'' d'' p'' ∧ DataW.Trod enc P w base spare held t3 v3 d3 p3 := by
  obtain ⟨v, vs, d, es, p, q, hargs, rfl, rfl, hd, hrest⟩ := trodAll_cons h
  obtain ⟨v', vs', d', es', p', q', rfl, rfl, rfl, hd', hrest'⟩ := trodAll_cons hrest
  obtain ⟨v'', vs'', d'', es'', p'', q'', rfl, rfl, rfl, hd'', hrest''⟩ := trodAll_cons hrest'
  obtain ⟨v3, vs3, d3, es3, p3, q3, rfl, rfl, rfl, hd3, hrest3⟩ := trodAll_cons hrest''
  obtain ⟨rfl, rfl, rfl⟩ := trodAll_nil hrest3
  exact ⟨v, v', v'', v3, d, d', d'', d3, p, p', p'', p3, by cases args; simp_all, rfl, by simp, hd, hd', hd'', hd3⟩

theorem trodAll_mk4 {t t' t'' t3 : TypeId} {v v' v'' v3 : Value} {d d' d'' d3 : DataW H} {p p' p'' p3 : List MemPlace} (h : DataW.Trod enc P w base spare held t v d p) (h' : DataW.Trod enc P w base spare held t' v' d' p')
    (h'' : DataW.Trod enc P w base spare held t'' v'' d'' p'') (h3 : DataW.Trod enc P w base spare held t3 v3 d3 p3) : DataW.TrodAll enc P w base spare held [t, t', t'', t3] [v, v', v'', v3] [d, d', d'', d3] (p ++ (p' ++ (p'' ++ p3))) := ⟨p, p' ++ (p'' ++ p3), h, trodAll_mk3 h' h'' h3, rfl⟩
end
end Go.Proofs.YtchamkbnapjidaaDoor
