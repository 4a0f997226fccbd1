/- Texts of this claim, joined: HOpn, HTab. -/
import Derived.Test.YtmaiofimmjedjaaDoorRows
import Derived.Test.YtmaiofimmjedjaaDoorMW28
import Derived.Test.YtmaiofimmjedjaaDoorShelf
import Derived.ProofKit
import Derived.OpenShut
import Derived.Lib.SmallJoins
import Derived.LaidMore
import Derived.HandedShaped
import Derived.SevenTiedAt
import Derived.Lay
import Derived.Deep.Strs
import Derived.Stop.LaidErr
import Derived.Lib.LaidTab

/- From the walks to the rows: the arguments opened; the wrap that keeps the world's shape beside what the row lists. -/
namespace Go.Proofs.YtmaiofimmjedjaaDoor
open Go.ChangeShapes Go.WideShapes Go.ChangeAt Go.RowKit Go.Deep

theorem Tryd.own : ownKnob Tryd.prog.godebug = none := by kernel_rfl
theorem Tryd.laidOut : laidOutB Tryd.prog = true := by kernel_rfl

section
variable {H : Type} {enc : TypeId × Value → H}

theorem again_reads {t : TypeId} (hr : Tryd.prog.readableRec t = true) (ht : t < Tryd.prog.types.size) {W W' : World} {v : Value} {d : DataW H} {p : List MemPlace} (h : DataW.Trod enc Tryd.prog W 0 (fun _ => true) true t v d p)
    (hb : Below W.heap.size W W') (hlt : ∀ x ∈ p, x.block < W.heap.size) : DataW.Trod enc Tryd.prog W' 0 (fun b => decide (b < W.heap.size)) true t v d p :=
  Below.trod Tryd.laidOut hr ht h hb hlt

set_option maxRecDepth 100000 in
theorem weights_mem {t : TypeId} {m : Nat} : ∀ (ds : List (DataW H)) (d : DataW H), d ∈ ds → m ∈ DataW.weights Tryd.prog t d → m ∈ DataW.weightsAll Tryd.prog t ds
  | [], d, h, _ => by simp at h
  | e :: ds, d, h, hm => by
    simp only [DataW.weightsAll, List.mem_append]
    rcases List.mem_cons.1 h with rfl | h
    · exact .inl hm
    · exact .inr (weights_mem ds d h hm)

theorem open_row {W : World} {n : Nat} {v : Value} {y : DataW H × List MemPlace} (h : DataW.trod enc Tryd.prog W 0 (fun _ => true) true n 31 [v] = some y) (hb : ∀ m ∈ DataW.weights Tryd.prog 31 y.1, m ≤ reachBytes) :
    ∃ (zs : List Int) (a : Option Addr) (c : Nat), v = .slice a zs.length c ∧ AtN W.heap.size W a (ints zs) ∧ zs.length ≤ 20000000000000 := by
  rcases open_ints Tryd.underlying31 Tryd.underlying3 (by kernel_rfl) h with ⟨hcs, _⟩ | ⟨⟨b, o, sp⟩, len, cap, zs, hcs, _, hl, hm, hz, hx, hcell, _⟩
  · cases hcs
    exact ⟨[], none, 0, rfl, fun i v hi => by simp [ints] at hi, by simp⟩
  · cases hcs
    simp only [if_true] at hz
    have hlz : (zs.take len).length = len := by simp; omega
    have hsp : sp = none ∨ zs = [] := by
      cases sp with
      | none => exact .inl rfl
      | some s =>
        right
        cases zs with
        | nil => rfl
        | cons z zs => have := World.cell?_spot (hcell 0 (by simp)); simp [Addr.add] at this
    refine ⟨zs.take len, some ⟨b, o, sp⟩, cap, by rw [hlz], fun i v hi => ?_, ?_⟩
    · have hi2 : i < (zs.take len).length := by
        have := (List.getElem?_eq_some_iff.1 hi).1
        simpa [ints] using this
      have hi3 : i < zs.length := by rw [hlz] at hi2; omega
      have hc := hcell i hi3
      rcases hsp with rfl | h0
      · rw [Addr.add_lit] at hc
        refine ⟨b, o, block_lt_of_cell hc, rfl, ?_⟩
        have e : (ints (zs.take len))[i]? = some (.int .i64 (zs.getD i 0)) := by
          refine ints_get _ _ _ ?_
          rw [List.getElem?_take, if_pos (by omega), List.getD_eq_getElem?_getD, List.getElem?_eq_getElem hi3]; rfl
        rw [e] at hi
        cases hi
        exact hc
      · rw [h0] at hi3; simp at hi3
    · rw [hx] at hb
      have h1 := hb (((lits (H := H) .i64 (zs.take len)).length + (lits (H := H) .i64 (zs.drop len)).length) * Tryd.prog.bytesOf 3) (by simp [DataW.weights, Tryd.underlying31])
      rw [show Tryd.prog.bytesOf 3 = 8 by kernel_rfl] at h1
      simp only [lits, List.length_map, reachBytes] at h1
      omega


instance : Inhabited Gt := ⟨⟨0, 0, []⟩⟩
set_option maxRecDepth 100000 in
theorem open_gate {W : World} {n : Nat} {cs : List Value} {y : DataW H × List MemPlace} (h : DataW.trod enc Tryd.prog W 0 (fun _ => true) true n 37 cs = some y) (hb : ∀ m ∈ DataW.weights Tryd.prog 37 y.1, m ≤ reachBytes) :
    ∃ (x : Gt) (pa : Option Addr) (pc : Nat), cs = [.int .i64 x.k, .int .i64 x.lit, .slice pa x.ins.length pc] ∧ AtN W.heap.size W pa (ints x.ins) ∧ x.ins.length ≤ 20000000000000 := by
  obtain ⟨y0, y1, y2, m, rfl, hl, h0, h1, h2⟩ := trod_struct3 Tryd.underlying37 h
  have hl3 : cs.length = 3 := by rw [hl]; kernel_rfl
  obtain ⟨c0, c1, c2, rfl⟩ : ∃ c0 c1 c2, cs = [c0, c1, c2] := by
    match cs, hl3 with
    | [a, b, c], _ => exact ⟨a, b, c, rfl⟩
  have e1 : Tryd.prog.cellsOf 3 = 1 := by kernel_rfl
  have e2 : Tryd.prog.cellsOf 31 = 1 := by kernel_rfl
  simp only [e1, e2, List.drop_zero, List.drop_succ_cons, List.take_succ_cons, List.take_zero] at h0 h1 h2
  obtain ⟨k, hk, _, _⟩ := DataW.trod_int Tryd.underlying3 h0
  cases hk
  obtain ⟨k1, hk1, _, _⟩ := DataW.trod_int Tryd.underlying3 h1
  cases hk1
  have hbb : (∀ m ∈ DataW.weights Tryd.prog 31 y2.1, m ≤ reachBytes) := by
    simp only [DataW.weights, Tryd.underlying37, DataW.weightsEach, List.map_cons, List.map_nil, List.mem_append] at hb
    exact fun m hm => hb m (by simp [hm])
  obtain ⟨zs, pa, pc, rfl, hp, hpl⟩ := open_row h2 hbb
  exact ⟨⟨k, k1, zs⟩, pa, pc, rfl, hp, hpl⟩

set_option maxRecDepth 100000 in
theorem open_gates {W : World} {n : Nat} {v : Value} {y : DataW H × List MemPlace} (h : DataW.trod enc Tryd.prog W 0 (fun _ => true) true n 22 [v] = some y) (hb : ∀ m ∈ DataW.weights Tryd.prog 22 y.1, m ≤ reachBytes) :
    ∃ (gs : List Gt) (a : Option Addr) (c : Nat), v = .slice a gs.length c ∧ CircAt W.heap.size W a gs ∧ gs.length ≤ 20000000000000 ∧ ∀ x ∈ gs, x.ins.length ≤ 20000000000000 := by
  have hcell3 : Tryd.prog.cellsOf 37 = 3 := by kernel_rfl
  rcases open_slice Tryd.underlying22 h with ⟨hcs, _⟩ | ⟨⟨b, o, sp⟩, len, cap, m, n', D, Pl, hcs, _, hl, hm, hmm, hx, hel⟩
  · cases hcs
    exact ⟨[], none, 0, rfl, fun i x hi => by simp at hi, by simp, by simp⟩
  · cases hcs
    simp only [if_true] at hmm
    subst hmm
    subst hx
    have hbl : len ≤ 20000000000000 := by
      have h1 := hb ((((List.range len).map D).length + ((List.range (m - len)).map fun j => D (len + j)).length) * Tryd.prog.bytesOf 37) (by simp only [DataW.weights, Tryd.underlying22]; exact List.mem_cons_self ..)
      rw [show Tryd.prog.bytesOf 37 = 40 by kernel_rfl] at h1
      simp only [List.length_map, List.length_range, reachBytes] at h1
      omega
    have hsp : 0 < len → sp = none := fun h0 => by
      obtain ⟨cs', h1, _⟩ := hel 0 (by omega)
      obtain ⟨_, hlen, hc⟩ := World.cells?_some h1
      rw [hcell3] at hc hlen
      have g0 := hc 0 (by omega)
      obtain ⟨v, hv⟩ : ∃ v, cs'[0]? = some v := ⟨_, List.getElem?_eq_getElem (by omega)⟩
      rw [hv] at g0
      have := World.cell?_spot g0
      simpa [Addr.add] using this
    have key : ∀ i, i < len → ∃ x : Gt, ∃ (pa : Option Addr) (pc : Nat), sp = none ∧ W.cell? ⟨b, o + i * 3, none⟩ = some (.int .i64 x.k) ∧ W.cell? ⟨b, o + i * 3 + 1, none⟩ = some (.int .i64 x.lit) ∧ W.cell? ⟨b, o + i * 3 + 2, none⟩ = some (.slice pa x.ins.length pc) ∧
        AtN W.heap.size W pa (ints x.ins) ∧ x.ins.length ≤ 20000000000000 := fun i hi => by
      obtain ⟨cs', h1, h2⟩ := hel i (by omega)
      have hbd : ∀ m ∈ DataW.weights Tryd.prog 37 (D i), m ≤ reachBytes := fun m hm => hb m (by
        simp only [DataW.weights, Tryd.underlying22]
        exact List.mem_cons_of_mem _ (List.mem_append.2 (.inl (weights_mem _ _ (List.mem_map.2 ⟨i, by simpa using hi, rfl⟩) hm))))
      obtain ⟨x, pa, pc, rfl, hp, hpl⟩ := open_gate h2 hbd
      obtain ⟨_, _, hc⟩ := World.cells?_some h1
      rw [hcell3] at hc
      have g0 := hc 0 (by omega)
      have g1 := hc 1 (by omega)
      have g2 := hc 2 (by omega)
      obtain rfl := hsp (by omega)
      simp only [Addr.add_lit, Nat.add_zero, List.getElem?_cons_zero, List.getElem?_cons_succ] at g0 g1 g2
      exact ⟨x, pa, pc, rfl, g0, g1, g2, hp, hpl⟩
    obtain ⟨f, hfx⟩ := choose_lt (α := Gt) (p := fun i x => ∃ (pa : Option Addr) (pc : Nat), sp = none ∧ W.cell? ⟨b, o + i * 3, none⟩ = some (.int .i64 x.k) ∧ W.cell? ⟨b, o + i * 3 + 1, none⟩ = some (.int .i64 x.lit) ∧ W.cell? ⟨b, o + i * 3 + 2, none⟩ = some (.slice pa x.ins.length pc) ∧
        AtN W.heap.size W pa (ints x.ins) ∧ x.ins.length ≤ 20000000000000) key
    have hlen : ((List.range len).map f).length = len := by simp
    refine ⟨(List.range len).map f, some ⟨b, o, sp⟩, m, by rw [hlen], fun i x hi => ?_, ?_, fun x hx => ?_⟩
    · have hi2 : i < len := by
        have := (List.getElem?_eq_some_iff.1 hi).1
        simpa using this
      have e : ((List.range len).map f)[i]? = some (f i) := by simp [hi2]
      rw [e] at hi
      cases hi
      obtain ⟨pa, pc, rfl, g0, g1, g2, hp, _⟩ := hfx i hi2
      exact ⟨b, o, pa, pc, block_lt_of_cell g0, rfl, g0, g1, g2, hp⟩
    · rw [hlen]; exact hbl
    · obtain ⟨i, hi, rfl⟩ := List.mem_map.1 hx
      obtain ⟨_, _, _, _, _, _, _, h4⟩ := hfx i (by simpa using hi)
      exact h4

set_option maxRecDepth 100000 in
theorem open_circ {W : World} {base : Nat} {v : Value} {d : DataW H} {p : List MemPlace} (hv : Value.okWide Tryd.prog W .any base 24 v) (h : DataW.Trod enc Tryd.prog W 0 (fun _ => true) true 24 v d p) (hb : ∀ m ∈ DataW.weights Tryd.prog 24 d, m ≤ reachBytes) :
    ∃ (n : Int) (gs : List Gt) (a : Option Addr) (c : Nat), v = .agg #[.int .i64 n, .slice a gs.length c] ∧ CircAt W.heap.size W a gs ∧ Fits gs ∧ gs.length ≤ 20000000000000 := by
  obtain ⟨cs, rfl, hsz⟩ := okWide_struct Tryd.underlying24 hv
  rw [show Tryd.prog.cellsOf 24 = 2 by kernel_rfl] at hsz
  obtain ⟨l⟩ := cs
  match l, hsz with
  | [c0, c1], _ =>
  obtain ⟨fuel, hf⟩ := h
  obtain ⟨y0, y1, m, hx, hl, h0, h1⟩ := trod_struct2 Tryd.underlying24 hf
  simp only [Prod.mk.injEq] at hx
  obtain ⟨rfl, _⟩ := hx
  have e1 : Tryd.prog.cellsOf 3 = 1 := by kernel_rfl
  have e2 : Tryd.prog.cellsOf 22 = 1 := by kernel_rfl
  simp only [Value.cells, e1, e2, List.drop_zero, List.drop_succ_cons, List.take_succ_cons, List.take_zero] at h0 h1
  obtain ⟨k, hk, _, _⟩ := DataW.trod_int Tryd.underlying3 h0
  cases hk
  have hbb : (∀ m ∈ DataW.weights Tryd.prog 22 y1.1, m ≤ reachBytes) := by
    simp only [DataW.weights, Tryd.underlying24, DataW.weightsEach, List.map_cons, List.map_nil, List.mem_append] at hb
    exact fun m hm => hb m (by simp [hm])
  obtain ⟨gs, a, c, rfl, hC, hgl, hins⟩ := open_gates h1 hbb
  exact ⟨k, gs, a, c, rfl, hC, fun g hg => Nat.le_trans (hins g hg) (by omega), hgl⟩

end
end Go.Proofs.YtmaiofimmjedjaaDoor

/- What the listed variables hold. -/
namespace Go.Proofs.YtmaiofimmjedjaaDoor
open Go.ChangeShapes Go.WideShapes Go.ChangeAt Go.RowKit

theorem Tryd.gPow : Tryd.prog.globalNamed "internal/strconv.uint64pow10" = some ((Tryd.prog.globalNamed "internal/strconv.uint64pow10").getD 0) := by kernel_rfl
theorem Tryd.tPow : (Tryd.prog.globals[(Tryd.prog.globalNamed "internal/strconv.uint64pow10").getD 0]?).map (·.type) = some 108 := by kernel_rfl
theorem Tryd.cellsU64 : Tryd.prog.cellsOf 85 = 1 := by kernel_rfl
theorem Tryd.cellsPow : Tryd.prog.cellsOf 108 = 20 := by kernel_rfl
theorem Tryd.gES : Tryd.prog.globalNamed "strconv.ErrSyntax" = some 4 := by kernel_rfl
theorem Tryd.gEST : (Tryd.prog.globals[4]?).map (·.type) = some 48 := by kernel_rfl
theorem Tryd.gER : Tryd.prog.globalNamed "strconv.ErrRange" = some 5 := by kernel_rfl
theorem Tryd.gERT : (Tryd.prog.globals[5]?).map (·.type) = some 48 := by kernel_rfl
theorem Tryd.cellsEs : Tryd.prog.cellsOf 132 = 1 := by kernel_rfl
theorem Tryd.cellsStr : Tryd.prog.cellsOf 9 = 1 := by kernel_rfl
theorem Tryd.star : "*" ++ "errors.errorString" = "*errors.errorString" := by decide
theorem Tryd.rowEs (u : TypeId) (h : Tryd.prog.typeName? 3 u = some "*errors.errorString") : u = 130 :=
  typeName_ptr_named (nm := "errors.errorString") (by rw [Tryd.star]; kernel_rfl) (by kernel_rfl) (by decide) u (by rw [Tryd.star]; exact h)
theorem tab_of_laid {W : World} (h : laidMetH Tryd.prog [("math/bits.deBruijn32tab", Rows.laid_math_bits_deBruijn32tab), ("math/bits.deBruijn64tab", Rows.laid_math_bits_deBruijn64tab), ("internal/strconv.uint64pow10", Rows.laid_internal_strconv_uint64pow10), ("strconv.ErrRange", Rows.laid_strconv_ErrRange), ("strconv.ErrSyntax", Rows.laid_strconv_ErrSyntax)] W) : VarsI W := by
  rw [MakeChecks.laidMetH_plain _ _ _ (by kernel_rfl)] at h
  obtain ⟨a1, s1, hv1, -, -, -⟩ := laid_sentinel h.tail.tail.tail Tryd.gER Tryd.gERT Tryd.underlying48 Tryd.rowEs Tryd.underlying130 Tryd.underlying132 rfl rfl Tryd.underlying9 Tryd.cellsEs Tryd.cellsStr
  obtain ⟨a2, s2, hv2, -, -, -⟩ := laid_sentinel h.tail.tail.tail.tail Tryd.gES Tryd.gEST Tryd.underlying48 Tryd.rowEs Tryd.underlying130 Tryd.underlying132 rfl rfl Tryd.underlying9 Tryd.cellsEs Tryd.cellsStr
  refine ⟨⟨_, by have h0 := World.var?_cell Tryd.gES hv2 0; simpa using h0, .inr ⟨_, _, rfl⟩⟩, ⟨_, by have h0 := World.var?_cell Tryd.gER hv1 0; simpa using h0, .inr ⟨_, _, rfl⟩⟩, ?_⟩
  obtain ⟨ps, ⟨_, _, _, _, _, _, _, _, _, _, ⟨_, _, _, _, _, _, _, _, _, _, ⟨g', t', cs, fuel, p, q, hg', ht', hvar, hd, _, _⟩, _⟩, _⟩, _, _⟩ := h
  obtain rfl := Option.some.inj (Tryd.gPow.symm.trans hg')
  obtain rfl := Option.some.inj (Tryd.tPow.symm.trans ht')
  have hc := Lib.cells_of_tab (k := .u64) (zs := Lib.pow10Tab) Tryd.underlying108 Tryd.underlying85 Tryd.cellsU64 Tryd.cellsPow (show DataW.trod _ Tryd.prog W 0 _ false fuel 108 cs.toList = some (Lib.tabData .u64 Lib.pow10Tab, p) from hd)
  unfold Lib.TabIs
  rw [hvar, ← hc]
end Go.Proofs.YtmaiofimmjedjaaDoor
