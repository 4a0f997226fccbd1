/- Texts of this claim, joined: BOpen, BOpen3. -/
import Derived.Test.YtbacloneddnaeaaM30
import Derived.Test.YtbacloneddnaeaaM38
import Derived.Deep.Strs

/- A network of the document as an argument. -/
namespace Go.Proofs.Ytbacloneddnaeaa
open Go.ChangeShapes Go.WideShapes Go.ChangeAt Go.RowKit Go.Deep Num

instance : Inhabited RV := ⟨{ k := 0, ps := [], ts := [] }⟩
variable {H : Type} {enc : TypeId × Value → H}

theorem weights_mem {t : TypeId} {m : Nat} : ∀ (ds : List (DataW H)) (d : DataW H), d ∈ ds → m ∈ DataW.weights Try.prog t d → m ∈ DataW.weightsAll Try.prog t ds
  | [], d, h, _ => by simp at h
  | e :: ds, d, h, hm => by
    simp only [DataW.weightsAll, List.mem_append]
    rcases List.mem_cons.1 h with rfl | h
    · exact .inl hm
    · exact .inr (weights_mem ds d h hm)

theorem open_row {W : World} {n : Nat} {v : Value} {y : DataW H × List MemPlace} (h : DataW.trod enc Try.prog W 0 (fun _ => true) true n 30 [v] = some y) (hb : ∀ m ∈ DataW.weights Try.prog 30 y.1, m ≤ reachBytes) :
    ∃ (zs : List Int) (a : Option Addr) (c : Nat), v = .slice a zs.length c ∧ AtN W.heap.size W a (ints zs) ∧ zs.length ≤ 20000000000000 := by
  rcases open_ints Try.underlying30 Try.underlying3 (by kernel_rfl) h with ⟨hcs, _⟩ | ⟨⟨b, o, sp⟩, len, cap, zs, hcs, _, hl, hm, hz, hx, hcell, _⟩
  · cases hcs
    exact ⟨[], none, 0, rfl, fun i v hi => by simp [ints] at hi, by simp⟩
  · cases hcs
    simp only [if_true] at hz
    have hlz : (zs.take len).length = len := by simp; omega
    have hsp : sp = none ∨ zs = [] := by
      cases sp with
      | none => exact .inl rfl
      | some s =>
        right
        cases zs with
        | nil => rfl
        | cons z zs => have := World.cell?_spot (hcell 0 (by simp)); simp [Addr.add] at this
    refine ⟨zs.take len, some ⟨b, o, sp⟩, cap, by rw [hlz], fun i v hi => ?_, ?_⟩
    · have hi2 : i < (zs.take len).length := by
        have := (List.getElem?_eq_some_iff.1 hi).1
        simpa [ints] using this
      have hi3 : i < zs.length := by rw [hlz] at hi2; omega
      have hc := hcell i hi3
      rcases hsp with rfl | h0
      · rw [Addr.add_lit] at hc
        refine ⟨b, o, block_lt_of_cell hc, rfl, ?_⟩
        have e : (ints (zs.take len))[i]? = some (.int .i64 (zs.getD i 0)) := by
          refine ints_get _ _ _ ?_
          rw [List.getElem?_take, if_pos (by omega), List.getD_eq_getElem?_getD, List.getElem?_eq_getElem hi3]; rfl
        rw [e] at hi
        cases hi
        exact hc
      · rw [h0] at hi3; simp at hi3
    · rw [hx] at hb
      have h1 := hb (((lits (H := H) .i64 (zs.take len)).length + (lits (H := H) .i64 (zs.drop len)).length) * Try.prog.bytesOf 3) (by simp [DataW.weights, Try.underlying30])
      rw [show Try.prog.bytesOf 3 = 8 by kernel_rfl] at h1
      simp only [lits, List.length_map, reachBytes] at h1
      omega

theorem open_texts {W : World} {n : Nat} {v : Value} {y : DataW H × List MemPlace} (h : DataW.trod enc Try.prog W 0 (fun _ => true) true n 49 [v] = some y) (hb : ∀ m ∈ DataW.weights Try.prog 49 y.1, m ≤ reachBytes) :
    ∃ (ss : List ByteArray) (a : Option Addr) (c : Nat), v = .slice a ss.length c ∧ AtN W.heap.size W a (strs ss) ∧ ss.length ≤ 20000000000000 := by
  rcases open_strs Try.underlying49 Try.underlying9 (by kernel_rfl) h with ⟨hcs, _⟩ | ⟨⟨b, o, sp⟩, len, cap, m, Sx, hcs, _, hl, hm, hmm, hx, hcell⟩
  · cases hcs
    exact ⟨[], none, 0, rfl, fun i v hi => by simp [strs] at hi, by simp⟩
  · cases hcs
    simp only [if_true] at hmm
    subst hmm
    have hlz : ((List.range len).map Sx).length = len := by simp
    have hsp : sp = none ∨ m = 0 := by
      cases sp with
      | none => exact .inl rfl
      | some s =>
        right
        rcases Nat.eq_zero_or_pos m with h0 | h0
        · exact h0
        · have := World.cell?_spot (hcell 0 h0).1; simp [Addr.add] at this
    refine ⟨(List.range len).map Sx, some ⟨b, o, sp⟩, m, by rw [hlz], fun i v hi => ?_, ?_⟩
    · have hi2 : i < len := by
        have := (List.getElem?_eq_some_iff.1 hi).1
        simpa [strs] using this
      have hc := (hcell i (by omega)).1
      rcases hsp with rfl | h0
      · rw [Addr.add_lit] at hc
        refine ⟨b, o, block_lt_of_cell hc, rfl, ?_⟩
        have e : (strs ((List.range len).map Sx))[i]? = some (.string (Sx i)) := strs_get (by simp [hi2])
        rw [e] at hi
        cases hi
        exact hc
      · omega
    · rw [hx] at hb
      have h1 := hb ((((List.range len).map fun i => (DataW.lit (.string (Sx i).data.toList) : DataW H)).length + ((List.range (m - len)).map fun j => (DataW.lit (.string (Sx (len + j)).data.toList) : DataW H)).length) * Try.prog.bytesOf 9) (by simp only [DataW.weights, Try.underlying49]; exact List.mem_cons_self ..)
      rw [show Try.prog.bytesOf 9 = 16 by kernel_rfl] at h1
      simp only [List.length_map, List.length_range, reachBytes] at h1
      rw [hlz]
      omega

set_option maxRecDepth 100000 in
theorem open_var {W : World} {n : Nat} {cs : List Value} {y : DataW H × List MemPlace} (h : DataW.trod enc Try.prog W 0 (fun _ => true) true n 62 cs = some y) (hb : ∀ m ∈ DataW.weights Try.prog 62 y.1, m ≤ reachBytes) :
    ∃ (x : RV) (pa ta : Option Addr) (pc tc : Nat), cs = [.int .i64 x.k, .slice pa x.ps.length pc, .slice ta x.ts.length tc] ∧ AtN W.heap.size W pa (ints x.ps) ∧ AtN W.heap.size W ta (strs x.ts) ∧ x.ts.length ≤ 20000000000000 ∧ x.ps.length ≤ 20000000000000 := by
  obtain ⟨y0, y1, y2, m, rfl, hl, h0, h1, h2⟩ := trod_struct3 Try.underlying62 h
  have hl3 : cs.length = 3 := by rw [hl]; kernel_rfl
  obtain ⟨c0, c1, c2, rfl⟩ : ∃ c0 c1 c2, cs = [c0, c1, c2] := by
    match cs, hl3 with
    | [a, b, c], _ => exact ⟨a, b, c, rfl⟩
  have e1 : Try.prog.cellsOf 3 = 1 := by kernel_rfl
  have e2 : Try.prog.cellsOf 30 = 1 := by kernel_rfl
  have e3 : Try.prog.cellsOf 49 = 1 := by kernel_rfl
  simp only [e1, e2, e3, List.drop_zero, List.drop_succ_cons, List.take_succ_cons, List.take_zero] at h0 h1 h2
  obtain ⟨k, hk, _, _⟩ := DataW.trod_int Try.underlying3 h0
  cases hk
  have hbb : (∀ m ∈ DataW.weights Try.prog 30 y1.1, m ≤ reachBytes) ∧ (∀ m ∈ DataW.weights Try.prog 49 y2.1, m ≤ reachBytes) := by
    simp only [DataW.weights, Try.underlying62, DataW.weightsEach, List.map_cons, List.map_nil, List.mem_append] at hb
    exact ⟨fun m hm => hb m (by simp [hm]), fun m hm => hb m (by simp [hm])⟩
  obtain ⟨zs, pa, pc, rfl, hp, hpl⟩ := open_row h1 hbb.1
  obtain ⟨ss, ta, tc, rfl, ht, htl⟩ := open_texts h2 hbb.2
  exact ⟨⟨k, zs, ss⟩, pa, ta, pc, tc, rfl, hp, ht, htl, hpl⟩

set_option maxRecDepth 100000 in
theorem open_refs {W : World} {v : Value} {d : DataW H} {p : List MemPlace} (h : DataW.Trod enc Try.prog W 0 (fun _ => true) true 22 v d p) (hv : ∃ a n c, v = .slice a n c) (hb : ∀ m ∈ DataW.weights Try.prog 22 d, m ≤ reachBytes) :
    ∃ (l : List RV) (a : Option Addr) (c : Nat), v = .slice a l.length c ∧ RefAt W.heap.size W a l ∧ l.length ≤ 20000000000000 ∧ ∀ x ∈ l, x.ts.length ≤ 20000000000000 ∧ x.ps.length ≤ 20000000000000 := by
  obtain ⟨a0, n0, c0, rfl⟩ := hv
  obtain ⟨fuel, hf⟩ := h
  have hcell3 : Try.prog.cellsOf 62 = 3 := by kernel_rfl
  rcases open_slice Try.underlying22 hf with ⟨hcs, _⟩ | ⟨⟨b, o, sp⟩, len, cap, m, n, D, Pl, hcs, _, hl, hm, hmm, hx, hel⟩
  · simp [Value.cells] at hcs
    obtain ⟨rfl, rfl, rfl⟩ := hcs
    exact ⟨[], none, 0, rfl, fun i x hi => by simp at hi, by simp, by simp⟩
  · simp [Value.cells] at hcs
    obtain ⟨rfl, rfl, rfl⟩ := hcs
    simp only [if_true] at hmm
    subst hmm
    simp only [Prod.mk.injEq] at hx
    obtain ⟨rfl, _⟩ := hx
    have hbl : n0 ≤ 20000000000000 := by
      have h1 := hb ((((List.range n0).map D).length + ((List.range (m - n0)).map fun j => D (n0 + j)).length) * Try.prog.bytesOf 62) (by simp only [DataW.weights, Try.underlying22]; exact List.mem_cons_self ..)
      rw [show Try.prog.bytesOf 62 = 56 by kernel_rfl] at h1
      simp only [List.length_map, List.length_range, reachBytes] at h1
      omega
    have hsp : 0 < n0 → sp = none := fun h0 => by
      obtain ⟨cs', h1, _⟩ := hel 0 (by omega)
      obtain ⟨_, hlen, hc⟩ := World.cells?_some h1
      rw [hcell3] at hc hlen
      have g0 := hc 0 (by omega)
      obtain ⟨v, hv⟩ : ∃ v, cs'[0]? = some v := ⟨_, List.getElem?_eq_getElem (by omega)⟩
      rw [hv] at g0
      have := World.cell?_spot g0
      simpa [Addr.add] using this
    have key : ∀ i, i < n0 → ∃ x : RV, ∃ (pa ta : Option Addr) (pc tc : Nat), sp = none ∧ W.cell? ⟨b, o + i * 3, none⟩ = some (.int .i64 x.k) ∧ W.cell? ⟨b, o + i * 3 + 1, none⟩ = some (.slice pa x.ps.length pc) ∧ W.cell? ⟨b, o + i * 3 + 2, none⟩ = some (.slice ta x.ts.length tc) ∧
        AtN W.heap.size W pa (ints x.ps) ∧ AtN W.heap.size W ta (strs x.ts) ∧ x.ts.length ≤ 20000000000000 ∧ x.ps.length ≤ 20000000000000 := fun i hi => by
      obtain ⟨cs', h1, h2⟩ := hel i (by omega)
      have hbd : ∀ m ∈ DataW.weights Try.prog 62 (D i), m ≤ reachBytes := fun m hm => hb m (by
        simp only [DataW.weights, Try.underlying22]
        exact List.mem_cons_of_mem _ (List.mem_append.2 (.inl (weights_mem _ _ (List.mem_map.2 ⟨i, by simpa using hi, rfl⟩) hm))))
      obtain ⟨x, pa, ta, pc, tc, rfl, hp, ht, htl, hpl⟩ := open_var h2 hbd
      obtain ⟨_, _, hc⟩ := World.cells?_some h1
      rw [hcell3] at hc
      have g0 := hc 0 (by omega)
      have g1 := hc 1 (by omega)
      have g2 := hc 2 (by omega)
      obtain rfl := hsp (by omega)
      simp only [Addr.add_lit, Nat.add_zero, List.getElem?_cons_zero, List.getElem?_cons_succ] at g0 g1 g2
      exact ⟨x, pa, ta, pc, tc, rfl, g0, g1, g2, hp, ht, htl, hpl⟩
    obtain ⟨f, hfx⟩ := choose_lt (α := RV) (p := fun i x => ∃ (pa ta : Option Addr) (pc tc : Nat), sp = none ∧ W.cell? ⟨b, o + i * 3, none⟩ = some (.int .i64 x.k) ∧ W.cell? ⟨b, o + i * 3 + 1, none⟩ = some (.slice pa x.ps.length pc) ∧ W.cell? ⟨b, o + i * 3 + 2, none⟩ = some (.slice ta x.ts.length tc) ∧
        AtN W.heap.size W pa (ints x.ps) ∧ AtN W.heap.size W ta (strs x.ts) ∧ x.ts.length ≤ 20000000000000 ∧ x.ps.length ≤ 20000000000000) key
    have hlen : ((List.range n0).map f).length = n0 := by simp
    refine ⟨(List.range n0).map f, some ⟨b, o, sp⟩, m, by rw [hlen], fun i x hi => ?_, ?_, fun x hx => ?_⟩
    · have hi2 : i < n0 := by
        have := (List.getElem?_eq_some_iff.1 hi).1
        simpa using this
      have e : ((List.range n0).map f)[i]? = some (f i) := by simp [hi2]
      rw [e] at hi
      cases hi
      obtain ⟨pa, ta, pc, tc, rfl, g0, g1, g2, hp, ht, _⟩ := hfx i hi2
      exact ⟨b, o, pa, pc, ta, tc, block_lt_of_cell g0, rfl, g0, g1, g2, hp, ht⟩
    · rw [hlen]; exact hbl
    · obtain ⟨i, hi, rfl⟩ := List.mem_map.1 hx
      obtain ⟨_, _, _, _, _, _, _, _, _, _, h3, h4⟩ := hfx i (by simpa using hi)
      exact ⟨h3, h4⟩
end Go.Proofs.Ytbacloneddnaeaa

/- Small numbers and sets as arguments. -/
namespace Go.Proofs.Ytbacloneddnaeaa
open Go.ChangeShapes Go.WideShapes Go.ChangeAt Go.RowKit Go.Deep Num

theorem open_u8s {H : Type} {enc : TypeId × Value → H} {W : World} {v : Value} {d : DataW H} {p : List MemPlace} (h : DataW.Trod enc Try.prog W 0 (fun _ => true) true 57 v d p) (hv : ∃ a n c, v = .slice a n c) (hb : ∀ m ∈ DataW.weights Try.prog 57 d, m ≤ reachBytes) :
    ∃ (ds : List Nat) (a : Option Addr) (c : Nat), v = .slice a ds.length c ∧ AtN W.heap.size W a (u8s ds) ∧ ds.length ≤ 200000000000000 ∧ ∀ d ∈ ds, d < 256 := by
  obtain ⟨a, n, c, rfl⟩ := hv
  obtain ⟨fuel, hf⟩ := h
  rcases open_ints Try.underlying57 Try.underlying5 (by kernel_rfl) hf with ⟨hcs, _⟩ | ⟨⟨b, o, sp⟩, len, cap, zs, hcs, _, hl, hm, hz, hx, hcell, hwz⟩
  · simp [Value.cells] at hcs
    obtain ⟨rfl, rfl, rfl⟩ := hcs
    exact ⟨[], none, 0, rfl, fun i v hi => by simp [u8s] at hi, by simp, by simp⟩
  · simp [Value.cells] at hcs
    obtain ⟨rfl, rfl, rfl⟩ := hcs
    simp only [if_true] at hz
    have hlz : ((zs.take n).map Int.toNat).length = n := by simp; omega
    refine ⟨(zs.take n).map Int.toNat, some ⟨b, o, sp⟩, c, by rw [hlz], fun i v hi => ?_, ?_, fun d hd => ?_⟩
    · have hi2 : i < ((zs.take n).map Int.toNat).length := by
        have := (List.getElem?_eq_some_iff.1 hi).1
        simpa [u8s] using this
      have hi3 : i < zs.length := by rw [hlz] at hi2; omega
      have hc := hcell i hi3
      have hsp : sp = none := by simpa [Addr.add] using World.cell?_spot (hcell 0 (by omega))
      subst hsp
      rw [Addr.add_lit] at hc
      have hbz := bounds_u8 (hwz _ (List.getElem_mem hi3))
      have hzz : zs.getD i 0 = zs[i] := by rw [List.getD_eq_getElem?_getD, List.getElem?_eq_getElem hi3]; rfl
      rw [hzz] at hc
      refine ⟨b, o, block_lt_of_cell hc, rfl, ?_⟩
      have e : (u8s ((zs.take n).map Int.toNat))[i]? = some (.int .u8 (zs[i].toNat : Nat)) := by
        refine u8s_get _ _ _ ?_
        rw [List.getElem?_map, List.getElem?_take, if_pos (by rw [hlz] at hi2; omega), List.getElem?_eq_getElem hi3]; rfl
      rw [e] at hi
      cases hi
      rw [hc, Int.toNat_of_nonneg hbz.1]
    · rw [show d = _ from congrArg Prod.fst hx] at hb
      have h1 := hb (((lits (H := H) .u8 (zs.take n)).length + (lits (H := H) .u8 (zs.drop n)).length) * Try.prog.bytesOf 5) (by simp [DataW.weights, Try.underlying57])
      rw [show Try.prog.bytesOf 5 = 1 by kernel_rfl] at h1
      simp only [lits, List.length_map, reachBytes] at h1
      rw [List.length_map]
      omega
    · obtain ⟨z, hz1, rfl⟩ := List.mem_map.1 hd
      have := bounds_u8 (hwz z (List.mem_of_mem_take hz1))
      omega

set_option maxRecDepth 100000 in
theorem open_set {H : Type} {enc : TypeId × Value → H} {W : World} {base : Nat} {v : Value} {d : DataW H} {p : List MemPlace} (hv : Value.okWide Try.prog W .any base 60 v) (h : DataW.Trod enc Try.prog W 0 (fun _ => true) true 60 v d p) :
    ∃ a0 a1 : Nat, v = .agg #[.int .u64 (a0 : Nat), .int .u64 (a1 : Nat)] := by
  simp only [Value.okWide, Try.underlying60] at hv
  obtain ⟨cs, rfl, hs, _⟩ := hv
  rw [show Try.prog.cellsOf 60 = 2 by kernel_rfl] at hs
  obtain ⟨l⟩ := cs
  match l, hs with
  | [c0, c1], _ =>
    obtain ⟨fuel, hf⟩ := h
    obtain ⟨xs, m, _, _, _, hxl, hx⟩ := DataW.trod_array Try.underlying60 hf
    have e1 : Try.prog.cellsOf 58 = 1 := by kernel_rfl
    have g0 := hx 0 (by omega)
    have g1 := hx 1 (by omega)
    rw [e1] at g0 g1
    rw [List.getElem?_eq_getElem (by omega)] at g0 g1
    simp only [Value.cells, Nat.zero_mul, Nat.one_mul, List.drop_zero, List.drop_succ_cons, List.take_succ_cons, List.take_zero] at g0 g1
    obtain ⟨n0, h0, _, w0⟩ := DataW.trod_int Try.underlying58 g0
    obtain ⟨n1, h1, _, w1⟩ := DataW.trod_int Try.underlying58 g1
    cases h0
    cases h1
    have b0 := bounds_u64 w0
    have b1 := bounds_u64 w1
    exact ⟨n0.toNat, n1.toNat, by rw [Int.toNat_of_nonneg b0.1, Int.toNat_of_nonneg b1.1]⟩
end Go.Proofs.Ytbacloneddnaeaa
