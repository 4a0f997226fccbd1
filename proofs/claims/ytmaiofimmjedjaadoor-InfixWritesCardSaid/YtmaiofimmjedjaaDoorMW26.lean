/- Texts of this claim, joined: HG1. -/
import Derived.Test.YtmaiofimmjedjaaDoorMW25
import Derived.Deep.DeepCutAuto
import Derived.Laws.EntriesVeiled

/- The pieces of a formula: each kind of gate. -/
namespace Go.Proofs.YtmaiofimmjedjaaDoor
open Go.RowKit Go.Maps Go.MapKept

set_option maxHeartbeats 6400000 in
set_option maxRecDepth 100000 in
theorem gPieces_zero {N : Nat} {vf : FuncId} {p1 p2 : Value} {n : Int} {gs : List Gt} {a : Option Addr} {g : Gt} {i : Nat} {ip : Option Addr} {J : List Pc → List Nat → World → Prop} {V : List Nat} {w : World} (h : PcH N vf p1 p2 n gs a g i ip J V w) (ca ic : Nat) (hk : g.k = 0) (hpc : pcsI gs g = [.s [48] [[48]]]) :
    Calls Tryd.prog 14 #[.agg #[.int .i64 n, .slice a gs.length ca], .agg #[.int .i64 g.k, .int .i64 g.lit, .slice ip g.ins.length ic], visV vf p1 p2] w (Vd J (pcsI gs g) V w) := by
  obtain ⟨Post, hPost⟩ : ∃ P : Ending → World → Prop, P = Vd J (pcsI gs g) V w := ⟨_, rfl⟩
  rw [← hPost]
  have HP := Lib.hid hPost
  have H := Lib.hid h
  have HPC := Lib.hid hpc
  clear hPost h hpc
  have HKD := Lib.hid hk
  clear hk
  unfold visV
  go_enter Tryd.func14, Tryd.ntmps14
  go_upto_region 1 with fail
  refine wp_gen ?_
  intro w1 hw1
  have A1 := three_at w (.cells #[.int .i64 n, .slice a gs.length ca] 24 (0, 0)) (.cells #[.int .i64 g.k, .int .i64 g.lit, .slice ip g.ins.length ic] 37 (0, 0)) (.cells #[visV vf p1 p2] 41 (0, 0))
  have B1 := three_below w (.cells #[.int .i64 n, .slice a gs.length ca] 24 (0, 0)) (.cells #[.int .i64 g.k, .int .i64 g.lit, .slice ip g.ins.length ic] 37 (0, 0)) (.cells #[visV vf p1 p2] 41 (0, 0))
  unfold visV at A1 B1
  rw [← hw1] at A1 B1
  have hz1 := Lib.hid (show w1.heap.size = w.heap.size + 3 by rw [hw1]; simp)
  clear hw1
  have hc := blk_cell (new_one w1 (Obj.cells #[Value.nilFunc] 67)) 0 rfl
  have hf := blk_free (new_one w1 (Obj.cells #[Value.nilFunc] 67)) 0
  go_upto_region 2 with fail
  clear hc hf
  refine wp_gen ?_
  intro w2 hw2
  have A2 := And.intro (new_one w1 (.cells #[.func (.func 33) #[] #[.pointer (some ⟨w.heap.size + 1 + 1, 0, none⟩)]] 67 (0, 0))) (below_one w1 (.cells #[.func (.func 33) #[] #[.pointer (some ⟨w.heap.size + 1 + 1, 0, none⟩)]] 67 (0, 0)))
  rw [← hw2] at A2
  have hz2 := Lib.hid (show w2.heap.size = w1.heap.size + 1 by rw [hw2]; simp)
  clear hw2
  have hc := blk_cell (new_one w2 (Obj.cells #[Value.nilFunc] 68)) 0 rfl
  have hf := blk_free (new_one w2 (Obj.cells #[Value.nilFunc] 68)) 0
  go_upto_region 3 with fail
  clear hc hf
  refine wp_gen ?_
  intro w3 hw3
  have A3 := And.intro (new_one w2 (.cells #[.func (.func 34) #[] #[.pointer (some ⟨w1.heap.size, 0, none⟩), .pointer (some ⟨w.heap.size + 1 + 1, 0, none⟩)]] 68 (0, 0))) (below_one w2 (.cells #[.func (.func 34) #[] #[.pointer (some ⟨w1.heap.size, 0, none⟩), .pointer (some ⟨w.heap.size + 1 + 1, 0, none⟩)]] 68 (0, 0)))
  rw [← hw3] at A3
  have hz3 := Lib.hid (show w3.heap.size = w2.heap.size + 1 by rw [hw3]; simp)
  clear hw3
  have hB3 : Below w.heap.size w w3 := B1.trans ((A2.2.mono B1.size).trans (A3.2.mono (Nat.le_trans B1.size A2.2.size)))
  have hmm : ∀ (ty : TypeId) (w : World), (Instr.makeMap ty none).run Tryd.prog w = .ok (.map (some w.heap.size)) (w.alloc (.map #[] 0)) := fun _ _ => rfl
  have h0 : (w3.alloc (.map #[] 0)).heap[w3.heap.size]? = some (.map #[] 0) := heap_alloc_new w3 _
  obtain ⟨m1, r1, h1, b1⟩ := map_put Tryd.underlying70 h0 4 (.string ⟨#[97, 110, 100, 40]⟩) (by omega) (by rfl)
  obtain ⟨m2, r2, h2, b2⟩ := map_put Tryd.underlying70 h1 5 (.string ⟨#[111, 114, 40]⟩) (by omega) (by rfl)
  obtain ⟨m3, r3, h3, b3⟩ := map_put Tryd.underlying70 h2 6 (.string ⟨#[120, 111, 114, 40]⟩) (by omega) (by rfl)
  obtain ⟨x0, r4, h4, b4⟩ := map_put Tryd.underlying70 h3 8 (.string ⟨#[105, 102, 40]⟩) (by omega) (by rfl)
  have hb0 := below_one w3 (.map #[] 0)
  have hm : Below w3.heap.size w3 x0 := by
    have s0 := hb0.size
    have s1 := b1.size
    have s2 := b2.size
    have s3 := b3.size
    exact hb0.trans ((b1.below_of (fun k hk => by simp at hk; omega) s0).trans ((b2.below_of (fun k hk => by simp at hk; omega) (by omega)).trans ((b3.below_of (fun k hk => by simp at hk; omega) (by omega)).trans (b4.below_of (fun k hk => by simp at hk; omega) (by omega)))))
  have hbx : Below w.heap.size w x0 := hB3.trans (hm.mono hB3.size)
  have k2 := (behind_of_below (A3.2.mono (Nat.le_refl _))).keep A2.1 (by simp)
  have kk1 := (behind_of_below A2.2).keep A1.1 (by simp)
  have kk2 := (behind_of_below A2.2).keep A1.2.1 (by simp)
  have kk3 := (behind_of_below A2.2).keep A1.2.2 (by simp)
  have q1 := (behind_of_below A3.2).keep kk1 (by simp)
  have q2 := (behind_of_below A3.2).keep kk2 (by simp)
  have q3 := (behind_of_below A3.2).keep kk3 (by simp)
  have s1 := (behind_of_below hm).keep q1 (by simp)
  have s2 := (behind_of_below hm).keep q2 (by simp)
  have s3 := (behind_of_below hm).keep q3 (by simp)
  have s4 := (behind_of_below hm).keep k2 (by simp)
  have s5 := (behind_of_below hm).keep A3.1 (by simp)
  have HNM := Lib.hid (show x0.heap[w3.heap.size]? = some (.map nmE 4) from h4)
  have HVL := H.out.vl
  have hz1 := hz1.out
  have hz2 := hz2.out
  have hz3 := hz3.out
  have S0 := Lib.hid (show PcS vf p1 p2 n gs a ca g ip ic J V w (w.heap.size + 1 + 1) w1.heap.size w2.heap.size (w.heap.size + 1) w.heap.size [] V x0 from ⟨H.out.vis.later _ _ _ _ H.out.j hbx, ⟨⟨s3, s4, fun hm => by have := HVL _ hm; omega, fun hm => by have := HVL _ hm; omega⟩, s5, s2, s1, fun hm => by have := HVL _ hm; omega, fun hm => by have := HVL _ hm; omega, fun hm => by have := HVL _ hm; omega⟩, (behind_of_below hbx).mono (by simp), fun g hg => .inl hg⟩)
  clear HVL hz1 hz2 hz3 hB3 A1 A2 A3 B1 h0 h1 h2 h3 h4 b1 b2 b3 b4 hb0 hm hbx k2 kk1 kk2 kk3 q1 q2 q3 s1 s2 s3 s4 s5
  have s := blk_cell S0.out.o.o2.s 0 rfl
  have g0 := blk_cell S0.out.o.g 0 rfl
  rw [HKD.out] at g0
  have KS := S0.out.say H.out [48] [[48]] [] HPC.out
  go_wp2_with fail
  refine (KS).mono ?_
  rintro e x1 ⟨rfl, V1, hS, hKB⟩
  have S1 := Lib.hid hS
  have HKB1 := Lib.hid hKB
  clear hS hKB
  clear KS s g0
  go_wp2_with fail
  go_end0
  rw [HP.out, HPC.out]
  exact S1.out.fin

set_option maxHeartbeats 6400000 in
set_option maxRecDepth 100000 in
theorem gPieces_one {N : Nat} {vf : FuncId} {p1 p2 : Value} {n : Int} {gs : List Gt} {a : Option Addr} {g : Gt} {i : Nat} {ip : Option Addr} {J : List Pc → List Nat → World → Prop} {V : List Nat} {w : World} (h : PcH N vf p1 p2 n gs a g i ip J V w) (ca ic : Nat) (hk : g.k = 1) (hpc : pcsI gs g = [.s [49] [[49]]]) :
    Calls Tryd.prog 14 #[.agg #[.int .i64 n, .slice a gs.length ca], .agg #[.int .i64 g.k, .int .i64 g.lit, .slice ip g.ins.length ic], visV vf p1 p2] w (Vd J (pcsI gs g) V w) := by
  obtain ⟨Post, hPost⟩ : ∃ P : Ending → World → Prop, P = Vd J (pcsI gs g) V w := ⟨_, rfl⟩
  rw [← hPost]
  have HP := Lib.hid hPost
  have H := Lib.hid h
  have HPC := Lib.hid hpc
  clear hPost h hpc
  have HKD := Lib.hid hk
  clear hk
  unfold visV
  go_enter Tryd.func14, Tryd.ntmps14
  go_upto_region 1 with fail
  refine wp_gen ?_
  intro w1 hw1
  have A1 := three_at w (.cells #[.int .i64 n, .slice a gs.length ca] 24 (0, 0)) (.cells #[.int .i64 g.k, .int .i64 g.lit, .slice ip g.ins.length ic] 37 (0, 0)) (.cells #[visV vf p1 p2] 41 (0, 0))
  have B1 := three_below w (.cells #[.int .i64 n, .slice a gs.length ca] 24 (0, 0)) (.cells #[.int .i64 g.k, .int .i64 g.lit, .slice ip g.ins.length ic] 37 (0, 0)) (.cells #[visV vf p1 p2] 41 (0, 0))
  unfold visV at A1 B1
  rw [← hw1] at A1 B1
  have hz1 := Lib.hid (show w1.heap.size = w.heap.size + 3 by rw [hw1]; simp)
  clear hw1
  have hc := blk_cell (new_one w1 (Obj.cells #[Value.nilFunc] 67)) 0 rfl
  have hf := blk_free (new_one w1 (Obj.cells #[Value.nilFunc] 67)) 0
  go_upto_region 2 with fail
  clear hc hf
  refine wp_gen ?_
  intro w2 hw2
  have A2 := And.intro (new_one w1 (.cells #[.func (.func 33) #[] #[.pointer (some ⟨w.heap.size + 1 + 1, 0, none⟩)]] 67 (0, 0))) (below_one w1 (.cells #[.func (.func 33) #[] #[.pointer (some ⟨w.heap.size + 1 + 1, 0, none⟩)]] 67 (0, 0)))
  rw [← hw2] at A2
  have hz2 := Lib.hid (show w2.heap.size = w1.heap.size + 1 by rw [hw2]; simp)
  clear hw2
  have hc := blk_cell (new_one w2 (Obj.cells #[Value.nilFunc] 68)) 0 rfl
  have hf := blk_free (new_one w2 (Obj.cells #[Value.nilFunc] 68)) 0
  go_upto_region 3 with fail
  clear hc hf
  refine wp_gen ?_
  intro w3 hw3
  have A3 := And.intro (new_one w2 (.cells #[.func (.func 34) #[] #[.pointer (some ⟨w1.heap.size, 0, none⟩), .pointer (some ⟨w.heap.size + 1 + 1, 0, none⟩)]] 68 (0, 0))) (below_one w2 (.cells #[.func (.func 34) #[] #[.pointer (some ⟨w1.heap.size, 0, none⟩), .pointer (some ⟨w.heap.size + 1 + 1, 0, none⟩)]] 68 (0, 0)))
  rw [← hw3] at A3
  have hz3 := Lib.hid (show w3.heap.size = w2.heap.size + 1 by rw [hw3]; simp)
  clear hw3
  have hB3 : Below w.heap.size w w3 := B1.trans ((A2.2.mono B1.size).trans (A3.2.mono (Nat.le_trans B1.size A2.2.size)))
  have hmm : ∀ (ty : TypeId) (w : World), (Instr.makeMap ty none).run Tryd.prog w = .ok (.map (some w.heap.size)) (w.alloc (.map #[] 0)) := fun _ _ => rfl
  have h0 : (w3.alloc (.map #[] 0)).heap[w3.heap.size]? = some (.map #[] 0) := heap_alloc_new w3 _
  obtain ⟨m1, r1, h1, b1⟩ := map_put Tryd.underlying70 h0 4 (.string ⟨#[97, 110, 100, 40]⟩) (by omega) (by rfl)
  obtain ⟨m2, r2, h2, b2⟩ := map_put Tryd.underlying70 h1 5 (.string ⟨#[111, 114, 40]⟩) (by omega) (by rfl)
  obtain ⟨m3, r3, h3, b3⟩ := map_put Tryd.underlying70 h2 6 (.string ⟨#[120, 111, 114, 40]⟩) (by omega) (by rfl)
  obtain ⟨x0, r4, h4, b4⟩ := map_put Tryd.underlying70 h3 8 (.string ⟨#[105, 102, 40]⟩) (by omega) (by rfl)
  have hb0 := below_one w3 (.map #[] 0)
  have hm : Below w3.heap.size w3 x0 := by
    have s0 := hb0.size
    have s1 := b1.size
    have s2 := b2.size
    have s3 := b3.size
    exact hb0.trans ((b1.below_of (fun k hk => by simp at hk; omega) s0).trans ((b2.below_of (fun k hk => by simp at hk; omega) (by omega)).trans ((b3.below_of (fun k hk => by simp at hk; omega) (by omega)).trans (b4.below_of (fun k hk => by simp at hk; omega) (by omega)))))
  have hbx : Below w.heap.size w x0 := hB3.trans (hm.mono hB3.size)
  have k2 := (behind_of_below (A3.2.mono (Nat.le_refl _))).keep A2.1 (by simp)
  have kk1 := (behind_of_below A2.2).keep A1.1 (by simp)
  have kk2 := (behind_of_below A2.2).keep A1.2.1 (by simp)
  have kk3 := (behind_of_below A2.2).keep A1.2.2 (by simp)
  have q1 := (behind_of_below A3.2).keep kk1 (by simp)
  have q2 := (behind_of_below A3.2).keep kk2 (by simp)
  have q3 := (behind_of_below A3.2).keep kk3 (by simp)
  have s1 := (behind_of_below hm).keep q1 (by simp)
  have s2 := (behind_of_below hm).keep q2 (by simp)
  have s3 := (behind_of_below hm).keep q3 (by simp)
  have s4 := (behind_of_below hm).keep k2 (by simp)
  have s5 := (behind_of_below hm).keep A3.1 (by simp)
  have HNM := Lib.hid (show x0.heap[w3.heap.size]? = some (.map nmE 4) from h4)
  have HVL := H.out.vl
  have hz1 := hz1.out
  have hz2 := hz2.out
  have hz3 := hz3.out
  have S0 := Lib.hid (show PcS vf p1 p2 n gs a ca g ip ic J V w (w.heap.size + 1 + 1) w1.heap.size w2.heap.size (w.heap.size + 1) w.heap.size [] V x0 from ⟨H.out.vis.later _ _ _ _ H.out.j hbx, ⟨⟨s3, s4, fun hm => by have := HVL _ hm; omega, fun hm => by have := HVL _ hm; omega⟩, s5, s2, s1, fun hm => by have := HVL _ hm; omega, fun hm => by have := HVL _ hm; omega, fun hm => by have := HVL _ hm; omega⟩, (behind_of_below hbx).mono (by simp), fun g hg => .inl hg⟩)
  clear HVL hz1 hz2 hz3 hB3 A1 A2 A3 B1 h0 h1 h2 h3 h4 b1 b2 b3 b4 hb0 hm hbx k2 kk1 kk2 kk3 q1 q2 q3 s1 s2 s3 s4 s5
  have s := blk_cell S0.out.o.o2.s 0 rfl
  have g0 := blk_cell S0.out.o.g 0 rfl
  rw [HKD.out] at g0
  have KS := S0.out.say H.out [49] [[49]] [] HPC.out
  go_wp2_with fail
  refine (KS).mono ?_
  rintro e x1 ⟨rfl, V1, hS, hKB⟩
  have S1 := Lib.hid hS
  have HKB1 := Lib.hid hKB
  clear hS hKB
  clear KS s g0
  go_wp2_with fail
  go_end0
  rw [HP.out, HPC.out]
  exact S1.out.fin

set_option maxHeartbeats 6400000 in
set_option maxRecDepth 100000 in
theorem gPieces_litn {N : Nat} {vf : FuncId} {p1 p2 : Value} {n : Int} {gs : List Gt} {a : Option Addr} {g : Gt} {i : Nat} {ip : Option Addr} {J : List Pc → List Nat → World → Prop} {V : List Nat} {w : World} (h : PcH N vf p1 p2 n gs a g i ip J V w) (ca ic : Nat) (hk : g.k = 2) {m : Nat} (hl : g.lit = -(m : Int)) (h1 : 1 ≤ m) (h2 : m ≤ 128) (hpc : pcsI gs g = [.s (33 :: xI m) [[33], xI m]]) :
    Calls Tryd.prog 14 #[.agg #[.int .i64 n, .slice a gs.length ca], .agg #[.int .i64 g.k, .int .i64 g.lit, .slice ip g.ins.length ic], visV vf p1 p2] w (Vd J (pcsI gs g) V w) := by
  obtain ⟨Post, hPost⟩ : ∃ P : Ending → World → Prop, P = Vd J (pcsI gs g) V w := ⟨_, rfl⟩
  rw [← hPost]
  have HP := Lib.hid hPost
  have H := Lib.hid h
  have HPC := Lib.hid hpc
  clear hPost h hpc
  have HLI := Lib.hid hl
  clear hl
  have HKD := Lib.hid hk
  clear hk
  unfold visV
  go_enter Tryd.func14, Tryd.ntmps14
  go_upto_region 1 with fail
  refine wp_gen ?_
  intro w1 hw1
  have A1 := three_at w (.cells #[.int .i64 n, .slice a gs.length ca] 24 (0, 0)) (.cells #[.int .i64 g.k, .int .i64 g.lit, .slice ip g.ins.length ic] 37 (0, 0)) (.cells #[visV vf p1 p2] 41 (0, 0))
  have B1 := three_below w (.cells #[.int .i64 n, .slice a gs.length ca] 24 (0, 0)) (.cells #[.int .i64 g.k, .int .i64 g.lit, .slice ip g.ins.length ic] 37 (0, 0)) (.cells #[visV vf p1 p2] 41 (0, 0))
  unfold visV at A1 B1
  rw [← hw1] at A1 B1
  have hz1 := Lib.hid (show w1.heap.size = w.heap.size + 3 by rw [hw1]; simp)
  clear hw1
  have hc := blk_cell (new_one w1 (Obj.cells #[Value.nilFunc] 67)) 0 rfl
  have hf := blk_free (new_one w1 (Obj.cells #[Value.nilFunc] 67)) 0
  go_upto_region 2 with fail
  clear hc hf
  refine wp_gen ?_
  intro w2 hw2
  have A2 := And.intro (new_one w1 (.cells #[.func (.func 33) #[] #[.pointer (some ⟨w.heap.size + 1 + 1, 0, none⟩)]] 67 (0, 0))) (below_one w1 (.cells #[.func (.func 33) #[] #[.pointer (some ⟨w.heap.size + 1 + 1, 0, none⟩)]] 67 (0, 0)))
  rw [← hw2] at A2
  have hz2 := Lib.hid (show w2.heap.size = w1.heap.size + 1 by rw [hw2]; simp)
  clear hw2
  have hc := blk_cell (new_one w2 (Obj.cells #[Value.nilFunc] 68)) 0 rfl
  have hf := blk_free (new_one w2 (Obj.cells #[Value.nilFunc] 68)) 0
  go_upto_region 3 with fail
  clear hc hf
  refine wp_gen ?_
  intro w3 hw3
  have A3 := And.intro (new_one w2 (.cells #[.func (.func 34) #[] #[.pointer (some ⟨w1.heap.size, 0, none⟩), .pointer (some ⟨w.heap.size + 1 + 1, 0, none⟩)]] 68 (0, 0))) (below_one w2 (.cells #[.func (.func 34) #[] #[.pointer (some ⟨w1.heap.size, 0, none⟩), .pointer (some ⟨w.heap.size + 1 + 1, 0, none⟩)]] 68 (0, 0)))
  rw [← hw3] at A3
  have hz3 := Lib.hid (show w3.heap.size = w2.heap.size + 1 by rw [hw3]; simp)
  clear hw3
  have hB3 : Below w.heap.size w w3 := B1.trans ((A2.2.mono B1.size).trans (A3.2.mono (Nat.le_trans B1.size A2.2.size)))
  have hmm : ∀ (ty : TypeId) (w : World), (Instr.makeMap ty none).run Tryd.prog w = .ok (.map (some w.heap.size)) (w.alloc (.map #[] 0)) := fun _ _ => rfl
  have h0 : (w3.alloc (.map #[] 0)).heap[w3.heap.size]? = some (.map #[] 0) := heap_alloc_new w3 _
  obtain ⟨m1, r1, h1, b1⟩ := map_put Tryd.underlying70 h0 4 (.string ⟨#[97, 110, 100, 40]⟩) (by omega) (by rfl)
  obtain ⟨m2, r2, h2, b2⟩ := map_put Tryd.underlying70 h1 5 (.string ⟨#[111, 114, 40]⟩) (by omega) (by rfl)
  obtain ⟨m3, r3, h3, b3⟩ := map_put Tryd.underlying70 h2 6 (.string ⟨#[120, 111, 114, 40]⟩) (by omega) (by rfl)
  obtain ⟨x0, r4, h4, b4⟩ := map_put Tryd.underlying70 h3 8 (.string ⟨#[105, 102, 40]⟩) (by omega) (by rfl)
  have hb0 := below_one w3 (.map #[] 0)
  have hm : Below w3.heap.size w3 x0 := by
    have s0 := hb0.size
    have s1 := b1.size
    have s2 := b2.size
    have s3 := b3.size
    exact hb0.trans ((b1.below_of (fun k hk => by simp at hk; omega) s0).trans ((b2.below_of (fun k hk => by simp at hk; omega) (by omega)).trans ((b3.below_of (fun k hk => by simp at hk; omega) (by omega)).trans (b4.below_of (fun k hk => by simp at hk; omega) (by omega)))))
  have hbx : Below w.heap.size w x0 := hB3.trans (hm.mono hB3.size)
  have k2 := (behind_of_below (A3.2.mono (Nat.le_refl _))).keep A2.1 (by simp)
  have kk1 := (behind_of_below A2.2).keep A1.1 (by simp)
  have kk2 := (behind_of_below A2.2).keep A1.2.1 (by simp)
  have kk3 := (behind_of_below A2.2).keep A1.2.2 (by simp)
  have q1 := (behind_of_below A3.2).keep kk1 (by simp)
  have q2 := (behind_of_below A3.2).keep kk2 (by simp)
  have q3 := (behind_of_below A3.2).keep kk3 (by simp)
  have s1 := (behind_of_below hm).keep q1 (by simp)
  have s2 := (behind_of_below hm).keep q2 (by simp)
  have s3 := (behind_of_below hm).keep q3 (by simp)
  have s4 := (behind_of_below hm).keep k2 (by simp)
  have s5 := (behind_of_below hm).keep A3.1 (by simp)
  have HNM := Lib.hid (show x0.heap[w3.heap.size]? = some (.map nmE 4) from h4)
  have HVL := H.out.vl
  have hz1 := hz1.out
  have hz2 := hz2.out
  have hz3 := hz3.out
  have S0 := Lib.hid (show PcS vf p1 p2 n gs a ca g ip ic J V w (w.heap.size + 1 + 1) w1.heap.size w2.heap.size (w.heap.size + 1) w.heap.size [] V x0 from ⟨H.out.vis.later _ _ _ _ H.out.j hbx, ⟨⟨s3, s4, fun hm => by have := HVL _ hm; omega, fun hm => by have := HVL _ hm; omega⟩, s5, s2, s1, fun hm => by have := HVL _ hm; omega, fun hm => by have := HVL _ hm; omega, fun hm => by have := HVL _ hm; omega⟩, (behind_of_below hbx).mono (by simp), fun g hg => .inl hg⟩)
  clear HVL hz1 hz2 hz3 hB3 A1 A2 A3 B1 h0 h1 h2 h3 h4 b1 b2 b3 b4 hb0 hm hbx k2 kk1 kk2 kk3 q1 q2 q3 s1 s2 s3 s4 s5
  have s := blk_cell S0.out.o.o2.s 0 rfl
  have g0 := blk_cell S0.out.o.g 0 rfl
  have g1 := blk_cell S0.out.o.g 1 rfl
  rw [HKD.out] at g0
  rw [HLI.out] at g1
  have hdn : decide (-(m : Int) < 0) = true := decide_eq_true (by omega)
  obtain ⟨y1, hy1⟩ : ∃ y : ByteArray, y = ⟨(Lib.itoa (m : Nat)).toArray⟩ := ⟨_, rfl⟩
  have hz1 : y1.size ≤ 100 := by
    rw [hy1, ba_size, Lib.itoa_nonneg, ← decN_eq]
    exact Nat.le_trans (decN_small _ (by omega)) (by omega)
  obtain ⟨z1, hz1'⟩ : ∃ z : ByteArray, z = (⟨#[33, 120]⟩ : ByteArray) ++ y1 := ⟨_, rfl⟩
  have hz2 : z1 = ⟨((33 :: xI m)).toArray⟩ := by
    rw [hz1', hy1, Lib.itoa_nonneg, ← decN_eq]
    exact ba_app [33, 120] _
  have ha1 : ∀ x, (Op.stringOp .add (⟨#[33, 120]⟩ : ByteArray) y1).run Tryd.prog x = .ok (.string z1) x := fun x => by rw [hz1']; exact run_string_add_sum x _ _ (by show 2 + y1.size ≤ _; omega)
  have KI : GivesFrom x0 37 #[.int .i64 (m : Nat)] (.string y1) := fun z hz => by rw [hy1]; exact gItoa _ (by omega) (by omega) z (H.out.vars z ((S0.out.low H.out).trans (hz.mono (Nat.le_trans H.out.hN S0.out.b.size))))
  have KS : ∀ z, Below x0.heap.size x0 z → _ := fun z hz => (S0.out.below H.out hz).say H.out (33 :: xI m) [[33], xI m] [] HPC.out
  rw [← hz2] at KS
  have HS := Lib.hid s
  have HG1 := Lib.hid g1
  have HKS := Lib.hid KS
  clear KS hy1 hz1' hz2
  go_upto_region 11 with fail
  clear s g0 g1
  refine wp_game_tail 6 (List.replicate 7 0) [] B0 fin_B0 (has_B0 _) (by kernel_rfl) (by kernel_rfl) ?_
  simp only [List.take_succ_cons, List.take_zero]
  refine lex_quietE 6 (by kernel_rfl) (by rfl) ?_
  apply Exists.intro
  refine ⟨fun z hz => ?_, ?_⟩
  · have e1 := behind_cellXp hz HS.out (by simp)
    have e2 := behind_cellXp hz HG1.out (by simp)
    have hzb := hz.below
    clear hz
    simp only [List.take_succ_cons, List.take_zero]
    unfold Cx
    repeat (go_big_quiet_step (with_reducible exact KI.at2 hzb _))
    exact wpQuiet_nil rfl
  simp only [List.drop_succ_cons, List.drop_zero]
  refine lex_nil ?_
  intro z hz _
  have KS := HKS.out z hz.below
  clear hz HKS
  go_wp2_with fail
  refine (KS).mono ?_
  rintro e x1 ⟨rfl, V1, hS, hKB⟩
  have S1 := Lib.hid hS
  have HKB1 := Lib.hid hKB
  clear hS hKB
  clear KS
  go_wp2_with fail
  go_end0
  rw [HP.out, HPC.out]
  exact S1.out.fin

set_option maxHeartbeats 6400000 in
set_option maxRecDepth 100000 in
theorem gPieces_litp {N : Nat} {vf : FuncId} {p1 p2 : Value} {n : Int} {gs : List Gt} {a : Option Addr} {g : Gt} {i : Nat} {ip : Option Addr} {J : List Pc → List Nat → World → Prop} {V : List Nat} {w : World} (h : PcH N vf p1 p2 n gs a g i ip J V w) (ca ic : Nat) (hk : g.k = 2) {m : Nat} (hl : g.lit = (m : Int)) (h1 : 1 ≤ m) (h2 : m ≤ 128) (hpc : pcsI gs g = [.s (xI m) [xI m]]) :
    Calls Tryd.prog 14 #[.agg #[.int .i64 n, .slice a gs.length ca], .agg #[.int .i64 g.k, .int .i64 g.lit, .slice ip g.ins.length ic], visV vf p1 p2] w (Vd J (pcsI gs g) V w) := by
  obtain ⟨Post, hPost⟩ : ∃ P : Ending → World → Prop, P = Vd J (pcsI gs g) V w := ⟨_, rfl⟩
  rw [← hPost]
  have HP := Lib.hid hPost
  have H := Lib.hid h
  have HPC := Lib.hid hpc
  clear hPost h hpc
  have HLI := Lib.hid hl
  clear hl
  have HKD := Lib.hid hk
  clear hk
  unfold visV
  go_enter Tryd.func14, Tryd.ntmps14
  go_upto_region 1 with fail
  refine wp_gen ?_
  intro w1 hw1
  have A1 := three_at w (.cells #[.int .i64 n, .slice a gs.length ca] 24 (0, 0)) (.cells #[.int .i64 g.k, .int .i64 g.lit, .slice ip g.ins.length ic] 37 (0, 0)) (.cells #[visV vf p1 p2] 41 (0, 0))
  have B1 := three_below w (.cells #[.int .i64 n, .slice a gs.length ca] 24 (0, 0)) (.cells #[.int .i64 g.k, .int .i64 g.lit, .slice ip g.ins.length ic] 37 (0, 0)) (.cells #[visV vf p1 p2] 41 (0, 0))
  unfold visV at A1 B1
  rw [← hw1] at A1 B1
  have hz1 := Lib.hid (show w1.heap.size = w.heap.size + 3 by rw [hw1]; simp)
  clear hw1
  have hc := blk_cell (new_one w1 (Obj.cells #[Value.nilFunc] 67)) 0 rfl
  have hf := blk_free (new_one w1 (Obj.cells #[Value.nilFunc] 67)) 0
  go_upto_region 2 with fail
  clear hc hf
  refine wp_gen ?_
  intro w2 hw2
  have A2 := And.intro (new_one w1 (.cells #[.func (.func 33) #[] #[.pointer (some ⟨w.heap.size + 1 + 1, 0, none⟩)]] 67 (0, 0))) (below_one w1 (.cells #[.func (.func 33) #[] #[.pointer (some ⟨w.heap.size + 1 + 1, 0, none⟩)]] 67 (0, 0)))
  rw [← hw2] at A2
  have hz2 := Lib.hid (show w2.heap.size = w1.heap.size + 1 by rw [hw2]; simp)
  clear hw2
  have hc := blk_cell (new_one w2 (Obj.cells #[Value.nilFunc] 68)) 0 rfl
  have hf := blk_free (new_one w2 (Obj.cells #[Value.nilFunc] 68)) 0
  go_upto_region 3 with fail
  clear hc hf
  refine wp_gen ?_
  intro w3 hw3
  have A3 := And.intro (new_one w2 (.cells #[.func (.func 34) #[] #[.pointer (some ⟨w1.heap.size, 0, none⟩), .pointer (some ⟨w.heap.size + 1 + 1, 0, none⟩)]] 68 (0, 0))) (below_one w2 (.cells #[.func (.func 34) #[] #[.pointer (some ⟨w1.heap.size, 0, none⟩), .pointer (some ⟨w.heap.size + 1 + 1, 0, none⟩)]] 68 (0, 0)))
  rw [← hw3] at A3
  have hz3 := Lib.hid (show w3.heap.size = w2.heap.size + 1 by rw [hw3]; simp)
  clear hw3
  have hB3 : Below w.heap.size w w3 := B1.trans ((A2.2.mono B1.size).trans (A3.2.mono (Nat.le_trans B1.size A2.2.size)))
  have hmm : ∀ (ty : TypeId) (w : World), (Instr.makeMap ty none).run Tryd.prog w = .ok (.map (some w.heap.size)) (w.alloc (.map #[] 0)) := fun _ _ => rfl
  have h0 : (w3.alloc (.map #[] 0)).heap[w3.heap.size]? = some (.map #[] 0) := heap_alloc_new w3 _
  obtain ⟨m1, r1, h1, b1⟩ := map_put Tryd.underlying70 h0 4 (.string ⟨#[97, 110, 100, 40]⟩) (by omega) (by rfl)
  obtain ⟨m2, r2, h2, b2⟩ := map_put Tryd.underlying70 h1 5 (.string ⟨#[111, 114, 40]⟩) (by omega) (by rfl)
  obtain ⟨m3, r3, h3, b3⟩ := map_put Tryd.underlying70 h2 6 (.string ⟨#[120, 111, 114, 40]⟩) (by omega) (by rfl)
  obtain ⟨x0, r4, h4, b4⟩ := map_put Tryd.underlying70 h3 8 (.string ⟨#[105, 102, 40]⟩) (by omega) (by rfl)
  have hb0 := below_one w3 (.map #[] 0)
  have hm : Below w3.heap.size w3 x0 := by
    have s0 := hb0.size
    have s1 := b1.size
    have s2 := b2.size
    have s3 := b3.size
    exact hb0.trans ((b1.below_of (fun k hk => by simp at hk; omega) s0).trans ((b2.below_of (fun k hk => by simp at hk; omega) (by omega)).trans ((b3.below_of (fun k hk => by simp at hk; omega) (by omega)).trans (b4.below_of (fun k hk => by simp at hk; omega) (by omega)))))
  have hbx : Below w.heap.size w x0 := hB3.trans (hm.mono hB3.size)
  have k2 := (behind_of_below (A3.2.mono (Nat.le_refl _))).keep A2.1 (by simp)
  have kk1 := (behind_of_below A2.2).keep A1.1 (by simp)
  have kk2 := (behind_of_below A2.2).keep A1.2.1 (by simp)
  have kk3 := (behind_of_below A2.2).keep A1.2.2 (by simp)
  have q1 := (behind_of_below A3.2).keep kk1 (by simp)
  have q2 := (behind_of_below A3.2).keep kk2 (by simp)
  have q3 := (behind_of_below A3.2).keep kk3 (by simp)
  have s1 := (behind_of_below hm).keep q1 (by simp)
  have s2 := (behind_of_below hm).keep q2 (by simp)
  have s3 := (behind_of_below hm).keep q3 (by simp)
  have s4 := (behind_of_below hm).keep k2 (by simp)
  have s5 := (behind_of_below hm).keep A3.1 (by simp)
  have HNM := Lib.hid (show x0.heap[w3.heap.size]? = some (.map nmE 4) from h4)
  have HVL := H.out.vl
  have hz1 := hz1.out
  have hz2 := hz2.out
  have hz3 := hz3.out
  have S0 := Lib.hid (show PcS vf p1 p2 n gs a ca g ip ic J V w (w.heap.size + 1 + 1) w1.heap.size w2.heap.size (w.heap.size + 1) w.heap.size [] V x0 from ⟨H.out.vis.later _ _ _ _ H.out.j hbx, ⟨⟨s3, s4, fun hm => by have := HVL _ hm; omega, fun hm => by have := HVL _ hm; omega⟩, s5, s2, s1, fun hm => by have := HVL _ hm; omega, fun hm => by have := HVL _ hm; omega, fun hm => by have := HVL _ hm; omega⟩, (behind_of_below hbx).mono (by simp), fun g hg => .inl hg⟩)
  clear HVL hz1 hz2 hz3 hB3 A1 A2 A3 B1 h0 h1 h2 h3 h4 b1 b2 b3 b4 hb0 hm hbx k2 kk1 kk2 kk3 q1 q2 q3 s1 s2 s3 s4 s5
  have s := blk_cell S0.out.o.o2.s 0 rfl
  have g0 := blk_cell S0.out.o.g 0 rfl
  have g1 := blk_cell S0.out.o.g 1 rfl
  rw [HKD.out] at g0
  rw [HLI.out] at g1
  have hdn : decide ((m : Int) < 0) = false := decide_eq_false (by omega)
  obtain ⟨y1, hy1⟩ : ∃ y : ByteArray, y = ⟨(Lib.itoa (m : Nat)).toArray⟩ := ⟨_, rfl⟩
  have hz1 : y1.size ≤ 100 := by
    rw [hy1, ba_size, Lib.itoa_nonneg, ← decN_eq]
    exact Nat.le_trans (decN_small _ (by omega)) (by omega)
  obtain ⟨z1, hz1'⟩ : ∃ z : ByteArray, z = (⟨#[120]⟩ : ByteArray) ++ y1 := ⟨_, rfl⟩
  have hz2 : z1 = ⟨((xI m)).toArray⟩ := by
    rw [hz1', hy1, Lib.itoa_nonneg, ← decN_eq]
    exact ba_app [120] _
  have ha1 : ∀ x, (Op.stringOp .add (⟨#[120]⟩ : ByteArray) y1).run Tryd.prog x = .ok (.string z1) x := fun x => by rw [hz1']; exact run_string_add_sum x _ _ (by show 1 + y1.size ≤ _; omega)
  have KI : GivesFrom x0 37 #[.int .i64 (m : Nat)] (.string y1) := fun z hz => by rw [hy1]; exact gItoa _ (by omega) (by omega) z (H.out.vars z ((S0.out.low H.out).trans (hz.mono (Nat.le_trans H.out.hN S0.out.b.size))))
  have KS : ∀ z, Below x0.heap.size x0 z → _ := fun z hz => (S0.out.below H.out hz).say H.out (xI m) [xI m] [] HPC.out
  rw [← hz2] at KS
  have HS := Lib.hid s
  have HG1 := Lib.hid g1
  have HKS := Lib.hid KS
  clear KS hy1 hz1' hz2
  go_upto_region 13 with fail
  clear s g0 g1
  refine wp_game_tail 5 (List.replicate 6 0) [] B0 fin_B0 (has_B0 _) (by kernel_rfl) (by kernel_rfl) ?_
  simp only [List.take_succ_cons, List.take_zero]
  refine lex_quietE 5 (by kernel_rfl) (by rfl) ?_
  apply Exists.intro
  refine ⟨fun z hz => ?_, ?_⟩
  · have e1 := behind_cellXp hz HS.out (by simp)
    have e2 := behind_cellXp hz HG1.out (by simp)
    have hzb := hz.below
    clear hz
    simp only [List.take_succ_cons, List.take_zero]
    unfold Cx
    repeat (go_big_quiet_step (with_reducible exact KI.at2 hzb _))
    exact wpQuiet_nil rfl
  simp only [List.drop_succ_cons, List.drop_zero]
  refine lex_nil ?_
  intro z hz _
  have KS := HKS.out z hz.below
  clear hz HKS
  go_wp2_with fail
  refine (KS).mono ?_
  rintro e x1 ⟨rfl, V1, hS, hKB⟩
  have S1 := Lib.hid hS
  have HKB1 := Lib.hid hKB
  clear hS hKB
  clear KS
  go_wp2_with fail
  go_end0
  rw [HP.out, HPC.out]
  exact S1.out.fin

set_option maxHeartbeats 6400000 in
set_option maxRecDepth 100000 in
theorem gPieces_not {N : Nat} {vf : FuncId} {p1 p2 : Value} {n : Int} {gs : List Gt} {a : Option Addr} {g : Gt} {i : Nat} {ip : Option Addr} {J : List Pc → List Nat → World → Prop} {V : List Nat} {w : World} (h : PcH N vf p1 p2 n gs a g i ip J V w) (ca ic : Nat) (hk : g.k = 3) {k : Nat} (hin : g.ins = [(k : Int)]) (hkl : k < gs.length) (hpc : pcsI gs g = .s [33] [[33]] :: putI k (notParI (gI gs k))) :
    Calls Tryd.prog 14 #[.agg #[.int .i64 n, .slice a gs.length ca], .agg #[.int .i64 g.k, .int .i64 g.lit, .slice ip g.ins.length ic], visV vf p1 p2] w (Vd J (pcsI gs g) V w) := by
  obtain ⟨Post, hPost⟩ : ∃ P : Ending → World → Prop, P = Vd J (pcsI gs g) V w := ⟨_, rfl⟩
  rw [← hPost]
  have HP := Lib.hid hPost
  have H := Lib.hid h
  have HPC := Lib.hid hpc
  clear hPost h hpc
  have HIN := Lib.hid hin
  clear hin
  have HKD := Lib.hid hk
  clear hk
  unfold visV
  go_enter Tryd.func14, Tryd.ntmps14
  go_upto_region 1 with fail
  refine wp_gen ?_
  intro w1 hw1
  have A1 := three_at w (.cells #[.int .i64 n, .slice a gs.length ca] 24 (0, 0)) (.cells #[.int .i64 g.k, .int .i64 g.lit, .slice ip g.ins.length ic] 37 (0, 0)) (.cells #[visV vf p1 p2] 41 (0, 0))
  have B1 := three_below w (.cells #[.int .i64 n, .slice a gs.length ca] 24 (0, 0)) (.cells #[.int .i64 g.k, .int .i64 g.lit, .slice ip g.ins.length ic] 37 (0, 0)) (.cells #[visV vf p1 p2] 41 (0, 0))
  unfold visV at A1 B1
  rw [← hw1] at A1 B1
  have hz1 := Lib.hid (show w1.heap.size = w.heap.size + 3 by rw [hw1]; simp)
  clear hw1
  have hc := blk_cell (new_one w1 (Obj.cells #[Value.nilFunc] 67)) 0 rfl
  have hf := blk_free (new_one w1 (Obj.cells #[Value.nilFunc] 67)) 0
  go_upto_region 2 with fail
  clear hc hf
  refine wp_gen ?_
  intro w2 hw2
  have A2 := And.intro (new_one w1 (.cells #[.func (.func 33) #[] #[.pointer (some ⟨w.heap.size + 1 + 1, 0, none⟩)]] 67 (0, 0))) (below_one w1 (.cells #[.func (.func 33) #[] #[.pointer (some ⟨w.heap.size + 1 + 1, 0, none⟩)]] 67 (0, 0)))
  rw [← hw2] at A2
  have hz2 := Lib.hid (show w2.heap.size = w1.heap.size + 1 by rw [hw2]; simp)
  clear hw2
  have hc := blk_cell (new_one w2 (Obj.cells #[Value.nilFunc] 68)) 0 rfl
  have hf := blk_free (new_one w2 (Obj.cells #[Value.nilFunc] 68)) 0
  go_upto_region 3 with fail
  clear hc hf
  refine wp_gen ?_
  intro w3 hw3
  have A3 := And.intro (new_one w2 (.cells #[.func (.func 34) #[] #[.pointer (some ⟨w1.heap.size, 0, none⟩), .pointer (some ⟨w.heap.size + 1 + 1, 0, none⟩)]] 68 (0, 0))) (below_one w2 (.cells #[.func (.func 34) #[] #[.pointer (some ⟨w1.heap.size, 0, none⟩), .pointer (some ⟨w.heap.size + 1 + 1, 0, none⟩)]] 68 (0, 0)))
  rw [← hw3] at A3
  have hz3 := Lib.hid (show w3.heap.size = w2.heap.size + 1 by rw [hw3]; simp)
  clear hw3
  have hB3 : Below w.heap.size w w3 := B1.trans ((A2.2.mono B1.size).trans (A3.2.mono (Nat.le_trans B1.size A2.2.size)))
  have hmm : ∀ (ty : TypeId) (w : World), (Instr.makeMap ty none).run Tryd.prog w = .ok (.map (some w.heap.size)) (w.alloc (.map #[] 0)) := fun _ _ => rfl
  have h0 : (w3.alloc (.map #[] 0)).heap[w3.heap.size]? = some (.map #[] 0) := heap_alloc_new w3 _
  obtain ⟨m1, r1, h1, b1⟩ := map_put Tryd.underlying70 h0 4 (.string ⟨#[97, 110, 100, 40]⟩) (by omega) (by rfl)
  obtain ⟨m2, r2, h2, b2⟩ := map_put Tryd.underlying70 h1 5 (.string ⟨#[111, 114, 40]⟩) (by omega) (by rfl)
  obtain ⟨m3, r3, h3, b3⟩ := map_put Tryd.underlying70 h2 6 (.string ⟨#[120, 111, 114, 40]⟩) (by omega) (by rfl)
  obtain ⟨x0, r4, h4, b4⟩ := map_put Tryd.underlying70 h3 8 (.string ⟨#[105, 102, 40]⟩) (by omega) (by rfl)
  have hb0 := below_one w3 (.map #[] 0)
  have hm : Below w3.heap.size w3 x0 := by
    have s0 := hb0.size
    have s1 := b1.size
    have s2 := b2.size
    have s3 := b3.size
    exact hb0.trans ((b1.below_of (fun k hk => by simp at hk; omega) s0).trans ((b2.below_of (fun k hk => by simp at hk; omega) (by omega)).trans ((b3.below_of (fun k hk => by simp at hk; omega) (by omega)).trans (b4.below_of (fun k hk => by simp at hk; omega) (by omega)))))
  have hbx : Below w.heap.size w x0 := hB3.trans (hm.mono hB3.size)
  have k2 := (behind_of_below (A3.2.mono (Nat.le_refl _))).keep A2.1 (by simp)
  have kk1 := (behind_of_below A2.2).keep A1.1 (by simp)
  have kk2 := (behind_of_below A2.2).keep A1.2.1 (by simp)
  have kk3 := (behind_of_below A2.2).keep A1.2.2 (by simp)
  have q1 := (behind_of_below A3.2).keep kk1 (by simp)
  have q2 := (behind_of_below A3.2).keep kk2 (by simp)
  have q3 := (behind_of_below A3.2).keep kk3 (by simp)
  have s1 := (behind_of_below hm).keep q1 (by simp)
  have s2 := (behind_of_below hm).keep q2 (by simp)
  have s3 := (behind_of_below hm).keep q3 (by simp)
  have s4 := (behind_of_below hm).keep k2 (by simp)
  have s5 := (behind_of_below hm).keep A3.1 (by simp)
  have HNM := Lib.hid (show x0.heap[w3.heap.size]? = some (.map nmE 4) from h4)
  have HVL := H.out.vl
  have hz1 := hz1.out
  have hz2 := hz2.out
  have hz3 := hz3.out
  have S0 := Lib.hid (show PcS vf p1 p2 n gs a ca g ip ic J V w (w.heap.size + 1 + 1) w1.heap.size w2.heap.size (w.heap.size + 1) w.heap.size [] V x0 from ⟨H.out.vis.later _ _ _ _ H.out.j hbx, ⟨⟨s3, s4, fun hm => by have := HVL _ hm; omega, fun hm => by have := HVL _ hm; omega⟩, s5, s2, s1, fun hm => by have := HVL _ hm; omega, fun hm => by have := HVL _ hm; omega, fun hm => by have := HVL _ hm; omega⟩, (behind_of_below hbx).mono (by simp), fun g hg => .inl hg⟩)
  clear HVL hz1 hz2 hz3 hB3 A1 A2 A3 B1 h0 h1 h2 h3 h4 b1 b2 b3 b4 hb0 hm hbx k2 kk1 kk2 kk3 q1 q2 q3 s1 s2 s3 s4 s5
  have g0 := blk_cell S0.out.o.g 0 rfl
  have g2 := blk_cell S0.out.o.g 2 rfl
  have c1 := blk_cell S0.out.o.c 1 rfl
  rw [HKD.out] at g0
  have hin := HIN.out
  have hil : g.ins.length = 1 := by rw [hin]; rfl
  rw [hil] at g2
  obtain ⟨b1, o1, hb1, ea, ke⟩ := (S0.out.ins H.out) 0 _ (ints_get _ 0 (k : Int) (by rw [hin]; rfl))
  obtain ⟨b2, o2, q2, e2, hb2, eb, ka0, ka1, ka2, _⟩ := (S0.out.circ H.out) k _ (gI_at (gs := gs) (k := (k : Int)) (by omega) (by omega))
  obtain ⟨G, hG⟩ : ∃ G, G = gI gs (k : Int) := ⟨_, rfl⟩
  rw [← hG] at ka0 ka1 ka2
  rw [Nat.add_zero] at ke
  have KLV := Lib.hid (show Gives 36 #[.agg #[.int .i64 G.k, .int .i64 G.lit, .slice q2 G.ins.length e2]] (.int .i64 (levelI G : Nat)) from fun z => gLevel G q2 e2 z)
  have HKE := Lib.hid ke
  have HA0 := Lib.hid ka0
  have HA1 := Lib.hid ka1
  have HA2 := Lib.hid ka2
  have HG2 := Lib.hid g2
  have HC1 := Lib.hid c1
  have HGE := Lib.hid hG
  have HBL := Lib.hid hb1
  have HIL := Lib.hid hil
  clear hin ka0 ka1 ka2 hG hb1 hil
  subst ea
  subst eb
  go_upto_region 15 with fail
  clear g0 g2 c1 ke
  refine wp_game [0, 0, 0, 0, 0, 0, 0, 0, 3, 2] [] B0 fin_B0 (has_B0 _) (by kernel_rfl) (by kernel_rfl) ?_
  refine lex_quietE 8 (by kernel_rfl) (by rfl) ?_
  apply Exists.intro
  refine ⟨fun z hz => ?_, ?_⟩
  · have f1 := behind_cellXp hz HKE.out (by simp)
    have f2 := behind_cellXp hz HG2.out (by simp)
    have f3 := behind_cellXp hz HC1.out (by simp)
    have f4 := behind_cellXp hz HA0.out (by simp)
    have f5 := behind_cellXp hz HA1.out (by simp)
    have f6 := behind_cellXp hz HA2.out (by simp)
    clear hz
    simp only [List.take_succ_cons, List.take_zero]
    unfold Cx
    repeat (go_big_quiet_step (fail))
    exact wpQuiet_nil rfl
  simp only [List.drop_succ_cons, List.drop_zero]
  refine lex_alloc (.agg #[.int .i64 0, .int .i64 0, .slice none 0 0]) (by rfl) (fun x => by kernel_rfl) (fun g8 q8 hn8 => ?_)
  unfold setSlot
  go_big_quiet_step (fail)
  refine wpQuiet_nil ?_
  refine lex_store_all g8 #[.int .i64 G.k, .int .i64 G.lit, .slice q2 G.ins.length e2] #[.int .i64 0, .int .i64 0, .slice none 0 0] 37 (by rfl) (by rfl) (by rfl) (Blocks.put_same _ _ _) rfl (.inr q8) (by kernel_rfl) (by simp [Value.oneCell']) ?_
  refine lex_nil ?_
  intro y hy hH
  have M1 := Lib.hid (hH g8 _ (Blocks.put_same _ _ _))
  have S1 := Lib.hid (S0.out.below H.out hy.below)
  have HKE1 := Lib.hid (behind_cellX hy HKE.out (by simp))
  have HNV := Lib.hid (show g8 ∉ V from fun hm => by have h1 := H.out.vl _ hm; have h2 := S0.out.b.size; omega)
  have HNB := Lib.hid (show b1 ∉ V from fun hm => by have h1 := H.out.vis.ge _ _ _ H.out.j _ hm; have h2 := HBL.out; omega)
  clear hH hy hn8 HA0 HA1 HA2 HC1 HG2 HKE S0 HBL q8
  have s := blk_cell S1.out.o.o2.s 0 rfl
  have KS := S1.out.say H.out [33] [[33]] (putI k (notParI G)) (by rw [HGE.out]; exact HPC.out)
  go_wp2_with fail
  refine (KS).mono ?_
  rintro e x2 ⟨rfl, V2, hS, hKB⟩
  have S2 := Lib.hid hS
  have HKB2 := Lib.hid hKB
  clear hS hKB
  clear KS s
  have M2 := Lib.hid (HKB2.out.keep M1.out HNV.out)
  have HKE2 := Lib.hid (behind_cellX HKB2.out HKE1.out HNB.out)
  have HPB := Lib.hid (blk_cell S2.out.o.p 0 rfl)
  have HG2 := Lib.hid (blk_cell S2.out.o.g 2 rfl)
  rw [HIL.out] at HG2
  have HQ := Lib.hid (fun z (hz : Below x2.heap.size x2 z) => (S2.out.below H.out hz).put H.out k (notParI G) [] (by rw [HGE.out]; simpa using HPC.out))
  have HNP := Lib.hid (show notParI G = (decide (levelI G < 7) || (decide (G.k = 2) && decide (0 < G.lit))) from rfl)
  have HFE := Lib.hid (show ([] ++ [Pc.s [33] [[33]]] ++ putI k (notParI G)) = pcsI gs g by rw [HPC.out, HGE.out]; rfl)
  obtain ⟨lv, hlv⟩ : ∃ lv, lv = levelI G := ⟨_, rfl⟩
  obtain ⟨np, hnp⟩ : ∃ np, np = notParI G := ⟨_, rfl⟩
  rw [← hlv] at KLV HNP
  rw [← hnp] at HQ HNP HFE
  clear HKE1 HKB2 M1 S1 hlv hnp HGE HIL HNV HNB
  go_upto_region 17 with fail
  by_cases c1 : lv < 7
  · have d1 : decide ((lv : Int) < 7) = true := decide_eq_true (by omega)
    have d2 : decide (lv < 7) = true := decide_eq_true c1
    have hnp : np = true := by rw [HNP.out, d2]; rfl
    subst hnp
    clear c1
    refine wp_game_tail 18 (List.replicate 19 0) [] B0 fin_B0 (has_B0 _) (by kernel_rfl) (by kernel_rfl) ?_
    simp only [List.take_succ_cons, List.take_zero]
    refine lex_quietE 18 (by kernel_rfl) (by rfl) ?_
    apply Exists.intro
    refine ⟨fun z hz => ?_, ?_⟩
    · have f1 := behind_cellXp hz HKE2.out (by simp)
      have f2 := behind_cellXp hz HG2.out (by simp)
      have f3 := behind_cellXp hz HPB.out (by simp)
      have f4 := blk_cellp (hz.keep M2.out (by simp)) 0 rfl
      have f5 := blk_cellp (hz.keep M2.out (by simp)) 1 rfl
      have f6 := blk_cellp (hz.keep M2.out (by simp)) 2 rfl
      clear hz
      simp only [List.take_succ_cons, List.take_zero]
      unfold Cx
      repeat (go_big_quiet_step (with_reducible exact KLV.out.at _ _))
      exact wpQuiet_nil rfl
    simp only [List.drop_succ_cons, List.drop_zero]
    refine lex_nil ?_
    intro z hz _
    have KQ := HQ.out z hz.below
    clear hz HQ
    go_wp2_with fail
    refine (KQ).mono ?_
    rintro e x3 ⟨rfl, V3, hS, hKB⟩
    have S3 := Lib.hid hS
    have HKB3 := Lib.hid hKB
    clear hS hKB
    clear KQ
    go_wp2_with fail
    go_end0
    rw [HP.out]
    have hf := S3.out.fin
    rw [HFE.out] at hf
    exact hf
  have d1 : decide ((lv : Int) < 7) = false := decide_eq_false (by omega)
  have d2 : decide (lv < 7) = false := decide_eq_false c1
  by_cases c2 : G.k = 2
  · have d3 : (G.k == 2) = true := by simp [c2]
    have hnp : np = decide (0 < G.lit) := by rw [HNP.out, d2, decide_eq_true c2]; rfl
    subst hnp
    clear c2
    refine wp_game_tail 18 (List.replicate 19 0) [] B0 fin_B0 (has_B0 _) (by kernel_rfl) (by kernel_rfl) ?_
    simp only [List.take_succ_cons, List.take_zero]
    refine lex_quietE 18 (by kernel_rfl) (by rfl) ?_
    apply Exists.intro
    refine ⟨fun z hz => ?_, ?_⟩
    · have f1 := behind_cellXp hz HKE2.out (by simp)
      have f2 := behind_cellXp hz HG2.out (by simp)
      have f3 := behind_cellXp hz HPB.out (by simp)
      have f4 := blk_cellp (hz.keep M2.out (by simp)) 0 rfl
      have f5 := blk_cellp (hz.keep M2.out (by simp)) 1 rfl
      have f6 := blk_cellp (hz.keep M2.out (by simp)) 2 rfl
      clear hz
      simp only [List.take_succ_cons, List.take_zero]
      unfold Cx
      repeat (go_big_quiet_step (with_reducible exact KLV.out.at _ _))
      exact wpQuiet_nil rfl
    simp only [List.drop_succ_cons, List.drop_zero]
    refine lex_nil ?_
    intro z hz _
    have KQ := HQ.out z hz.below
    clear hz HQ
    go_wp2_with fail
    refine (KQ).mono ?_
    rintro e x3 ⟨rfl, V3, hS, hKB⟩
    have S3 := Lib.hid hS
    have HKB3 := Lib.hid hKB
    clear hS hKB
    clear KQ
    go_wp2_with fail
    go_end0
    rw [HP.out]
    have hf := S3.out.fin
    rw [HFE.out] at hf
    exact hf
  · have d3 : (G.k == 2) = false := beq_no c2
    have hnp : np = false := by rw [HNP.out, d2, decide_eq_false c2]; rfl
    subst hnp
    refine wp_game_tail 18 (List.replicate 19 0) [] B0 fin_B0 (has_B0 _) (by kernel_rfl) (by kernel_rfl) ?_
    simp only [List.take_succ_cons, List.take_zero]
    refine lex_quietE 18 (by kernel_rfl) (by rfl) ?_
    apply Exists.intro
    refine ⟨fun z hz => ?_, ?_⟩
    · have f1 := behind_cellXp hz HKE2.out (by simp)
      have f2 := behind_cellXp hz HG2.out (by simp)
      have f3 := behind_cellXp hz HPB.out (by simp)
      have f4 := blk_cellp (hz.keep M2.out (by simp)) 0 rfl
      have f5 := blk_cellp (hz.keep M2.out (by simp)) 1 rfl
      have f6 := blk_cellp (hz.keep M2.out (by simp)) 2 rfl
      clear hz
      simp only [List.take_succ_cons, List.take_zero]
      unfold Cx
      repeat (go_big_quiet_step (with_reducible exact KLV.out.at _ _))
      exact wpQuiet_nil rfl
    simp only [List.drop_succ_cons, List.drop_zero]
    refine lex_nil ?_
    intro z hz _
    have KQ := HQ.out z hz.below
    clear hz HQ
    go_wp2_with fail
    refine (KQ).mono ?_
    rintro e x3 ⟨rfl, V3, hS, hKB⟩
    have S3 := Lib.hid hS
    have HKB3 := Lib.hid hKB
    clear hS hKB
    clear KQ
    go_wp2_with fail
    go_end0
    rw [HP.out]
    have hf := S3.out.fin
    rw [HFE.out] at hf
    exact hf

set_option maxHeartbeats 6400000 in
set_option maxRecDepth 100000 in
theorem gPieces_iff {N : Nat} {vf : FuncId} {p1 p2 : Value} {n : Int} {gs : List Gt} {a : Option Addr} {g : Gt} {i : Nat} {ip : Option Addr} {J : List Pc → List Nat → World → Prop} {V : List Nat} {w : World} (h : PcH N vf p1 p2 n gs a g i ip J V w) (ca ic : Nat) (hk : g.k = 7) {k l : Nat} (hin : g.ins = [(k : Int), (l : Int)]) (hll : l < gs.length) (hpc : pcsI gs g = putI k false ++ .s [32, 60, 45, 62, 32] [[60, 45, 62]] :: putI l (decide (levelI (gI gs l) = 2))) :
    Calls Tryd.prog 14 #[.agg #[.int .i64 n, .slice a gs.length ca], .agg #[.int .i64 g.k, .int .i64 g.lit, .slice ip g.ins.length ic], visV vf p1 p2] w (Vd J (pcsI gs g) V w) := by
  obtain ⟨Post, hPost⟩ : ∃ P : Ending → World → Prop, P = Vd J (pcsI gs g) V w := ⟨_, rfl⟩
  rw [← hPost]
  have HP := Lib.hid hPost
  have H := Lib.hid h
  have HPC := Lib.hid hpc
  clear hPost h hpc
  have HIN := Lib.hid hin
  clear hin
  have HKD := Lib.hid hk
  clear hk
  unfold visV
  go_enter Tryd.func14, Tryd.ntmps14
  go_upto_region 1 with fail
  refine wp_gen ?_
  intro w1 hw1
  have A1 := three_at w (.cells #[.int .i64 n, .slice a gs.length ca] 24 (0, 0)) (.cells #[.int .i64 g.k, .int .i64 g.lit, .slice ip g.ins.length ic] 37 (0, 0)) (.cells #[visV vf p1 p2] 41 (0, 0))
  have B1 := three_below w (.cells #[.int .i64 n, .slice a gs.length ca] 24 (0, 0)) (.cells #[.int .i64 g.k, .int .i64 g.lit, .slice ip g.ins.length ic] 37 (0, 0)) (.cells #[visV vf p1 p2] 41 (0, 0))
  unfold visV at A1 B1
  rw [← hw1] at A1 B1
  have hz1 := Lib.hid (show w1.heap.size = w.heap.size + 3 by rw [hw1]; simp)
  clear hw1
  have hc := blk_cell (new_one w1 (Obj.cells #[Value.nilFunc] 67)) 0 rfl
  have hf := blk_free (new_one w1 (Obj.cells #[Value.nilFunc] 67)) 0
  go_upto_region 2 with fail
  clear hc hf
  refine wp_gen ?_
  intro w2 hw2
  have A2 := And.intro (new_one w1 (.cells #[.func (.func 33) #[] #[.pointer (some ⟨w.heap.size + 1 + 1, 0, none⟩)]] 67 (0, 0))) (below_one w1 (.cells #[.func (.func 33) #[] #[.pointer (some ⟨w.heap.size + 1 + 1, 0, none⟩)]] 67 (0, 0)))
  rw [← hw2] at A2
  have hz2 := Lib.hid (show w2.heap.size = w1.heap.size + 1 by rw [hw2]; simp)
  clear hw2
  have hc := blk_cell (new_one w2 (Obj.cells #[Value.nilFunc] 68)) 0 rfl
  have hf := blk_free (new_one w2 (Obj.cells #[Value.nilFunc] 68)) 0
  go_upto_region 3 with fail
  clear hc hf
  refine wp_gen ?_
  intro w3 hw3
  have A3 := And.intro (new_one w2 (.cells #[.func (.func 34) #[] #[.pointer (some ⟨w1.heap.size, 0, none⟩), .pointer (some ⟨w.heap.size + 1 + 1, 0, none⟩)]] 68 (0, 0))) (below_one w2 (.cells #[.func (.func 34) #[] #[.pointer (some ⟨w1.heap.size, 0, none⟩), .pointer (some ⟨w.heap.size + 1 + 1, 0, none⟩)]] 68 (0, 0)))
  rw [← hw3] at A3
  have hz3 := Lib.hid (show w3.heap.size = w2.heap.size + 1 by rw [hw3]; simp)
  clear hw3
  have hB3 : Below w.heap.size w w3 := B1.trans ((A2.2.mono B1.size).trans (A3.2.mono (Nat.le_trans B1.size A2.2.size)))
  have hmm : ∀ (ty : TypeId) (w : World), (Instr.makeMap ty none).run Tryd.prog w = .ok (.map (some w.heap.size)) (w.alloc (.map #[] 0)) := fun _ _ => rfl
  have h0 : (w3.alloc (.map #[] 0)).heap[w3.heap.size]? = some (.map #[] 0) := heap_alloc_new w3 _
  obtain ⟨m1, r1, h1, b1⟩ := map_put Tryd.underlying70 h0 4 (.string ⟨#[97, 110, 100, 40]⟩) (by omega) (by rfl)
  obtain ⟨m2, r2, h2, b2⟩ := map_put Tryd.underlying70 h1 5 (.string ⟨#[111, 114, 40]⟩) (by omega) (by rfl)
  obtain ⟨m3, r3, h3, b3⟩ := map_put Tryd.underlying70 h2 6 (.string ⟨#[120, 111, 114, 40]⟩) (by omega) (by rfl)
  obtain ⟨x0, r4, h4, b4⟩ := map_put Tryd.underlying70 h3 8 (.string ⟨#[105, 102, 40]⟩) (by omega) (by rfl)
  have hb0 := below_one w3 (.map #[] 0)
  have hm : Below w3.heap.size w3 x0 := by
    have s0 := hb0.size
    have s1 := b1.size
    have s2 := b2.size
    have s3 := b3.size
    exact hb0.trans ((b1.below_of (fun k hk => by simp at hk; omega) s0).trans ((b2.below_of (fun k hk => by simp at hk; omega) (by omega)).trans ((b3.below_of (fun k hk => by simp at hk; omega) (by omega)).trans (b4.below_of (fun k hk => by simp at hk; omega) (by omega)))))
  have hbx : Below w.heap.size w x0 := hB3.trans (hm.mono hB3.size)
  have k2 := (behind_of_below (A3.2.mono (Nat.le_refl _))).keep A2.1 (by simp)
  have kk1 := (behind_of_below A2.2).keep A1.1 (by simp)
  have kk2 := (behind_of_below A2.2).keep A1.2.1 (by simp)
  have kk3 := (behind_of_below A2.2).keep A1.2.2 (by simp)
  have q1 := (behind_of_below A3.2).keep kk1 (by simp)
  have q2 := (behind_of_below A3.2).keep kk2 (by simp)
  have q3 := (behind_of_below A3.2).keep kk3 (by simp)
  have s1 := (behind_of_below hm).keep q1 (by simp)
  have s2 := (behind_of_below hm).keep q2 (by simp)
  have s3 := (behind_of_below hm).keep q3 (by simp)
  have s4 := (behind_of_below hm).keep k2 (by simp)
  have s5 := (behind_of_below hm).keep A3.1 (by simp)
  have HNM := Lib.hid (show x0.heap[w3.heap.size]? = some (.map nmE 4) from h4)
  have HVL := H.out.vl
  have hz1 := hz1.out
  have hz2 := hz2.out
  have hz3 := hz3.out
  have S0 := Lib.hid (show PcS vf p1 p2 n gs a ca g ip ic J V w (w.heap.size + 1 + 1) w1.heap.size w2.heap.size (w.heap.size + 1) w.heap.size [] V x0 from ⟨H.out.vis.later _ _ _ _ H.out.j hbx, ⟨⟨s3, s4, fun hm => by have := HVL _ hm; omega, fun hm => by have := HVL _ hm; omega⟩, s5, s2, s1, fun hm => by have := HVL _ hm; omega, fun hm => by have := HVL _ hm; omega, fun hm => by have := HVL _ hm; omega⟩, (behind_of_below hbx).mono (by simp), fun g hg => .inl hg⟩)
  clear HVL hz1 hz2 hz3 hB3 A1 A2 A3 B1 h0 h1 h2 h3 h4 b1 b2 b3 b4 hb0 hm hbx k2 kk1 kk2 kk3 q1 q2 q3 s1 s2 s3 s4 s5
  have g0 := blk_cell S0.out.o.g 0 rfl
  rw [HKD.out] at g0
  have hin := HIN.out
  have hil : g.ins.length = 2 := by rw [hin]; rfl
  have HIL := Lib.hid hil
  have HK0 := Lib.hid (ints_get g.ins 0 (k : Int) (by rw [hin]; rfl))
  have HK1 := Lib.hid (ints_get g.ins 1 (l : Int) (by rw [hin]; rfl))
  have HLL := Lib.hid hll
  clear hin hil hll
  obtain ⟨b1, o1, hb1, ea, ke⟩ := (S0.out.ins H.out) 0 _ HK0.out
  rw [Nat.add_zero] at ke
  have HKE := Lib.hid ke
  have HG2 := Lib.hid (blk_cell S0.out.o.g 2 rfl)
  rw [HIL.out] at HG2
  have HPB := Lib.hid (blk_cell S0.out.o.p 0 rfl)
  have HQ := Lib.hid (fun z (hz : Below x0.heap.size x0 z) => (S0.out.below H.out hz).put H.out k false (.s [32, 60, 45, 62, 32] [[60, 45, 62]] :: putI l (decide (levelI (gI gs l) = 2))) HPC.out)
  clear ke hb1
  subst ea
  go_upto_region 19 with fail
  clear g0
  refine wp_game_tail 5 (List.replicate 6 0) [] B0 fin_B0 (has_B0 _) (by kernel_rfl) (by kernel_rfl) ?_
  simp only [List.take_succ_cons, List.take_zero]
  refine lex_quietE 5 (by kernel_rfl) (by rfl) ?_
  apply Exists.intro
  refine ⟨fun z hz => ?_, ?_⟩
  · have f1 := behind_cellXp hz HKE.out (by simp)
    have f2 := behind_cellXp hz HG2.out (by simp)
    have f3 := behind_cellXp hz HPB.out (by simp)
    clear hz
    simp only [List.take_succ_cons, List.take_zero]
    unfold Cx
    repeat (go_big_quiet_step (fail))
    exact wpQuiet_nil rfl
  simp only [List.drop_succ_cons, List.drop_zero]
  refine lex_nil ?_
  intro z hz _
  have KQ := HQ.out z hz.below
  clear hz HQ HKE HG2 HPB S0
  go_wp2_with fail
  refine (KQ).mono ?_
  rintro e x1 ⟨rfl, V1, hS, hKB⟩
  have S1 := Lib.hid hS
  have HKB1 := Lib.hid hKB
  clear hS hKB
  clear KQ HKB1
  have s := blk_cell S1.out.o.o2.s 0 rfl
  have KS := S1.out.say H.out [32, 60, 45, 62, 32] [[60, 45, 62]] (putI l (decide (levelI (gI gs l) = 2))) (by rw [HPC.out]; simp)
  go_wp2_with fail
  refine (KS).mono ?_
  rintro e x2 ⟨rfl, V2, hS, hKB⟩
  have S2 := Lib.hid hS
  have HKB2 := Lib.hid hKB
  clear hS hKB
  clear KS s S1 HKB2
  obtain ⟨b2, o2, hb2, ea, ke⟩ := (S2.out.ins H.out) 1 _ HK1.out
  have hadd : ∀ (x : Addr), x = x := fun _ => rfl
  obtain ⟨b3, o3, q3, e3, hb3, eb, ka0, ka1, ka2, _⟩ := (S2.out.circ H.out) l _ (gI_at (gs := gs) (k := (l : Int)) (by omega) (by have := HLL.out; omega))
  obtain ⟨G, hG⟩ : ∃ G, G = gI gs (l : Int) := ⟨_, rfl⟩
  have HGE := Lib.hid hG
  rw [← hG] at ka0 ka1 ka2
  have HKE := Lib.hid ke
  have HA0 := Lib.hid ka0
  have HA1 := Lib.hid ka1
  have HA2 := Lib.hid ka2
  have HG2 := Lib.hid (blk_cell S2.out.o.g 2 rfl)
  rw [HIL.out] at HG2
  have HC1 := Lib.hid (blk_cell S2.out.o.c 1 rfl)
  have HPB := Lib.hid (blk_cell S2.out.o.p 0 rfl)
  obtain ⟨lv, hlv⟩ : ∃ lv, lv = levelI G := ⟨_, rfl⟩
  have KLV := Lib.hid (show Gives 36 #[.agg #[.int .i64 G.k, .int .i64 G.lit, .slice q3 G.ins.length e3]] (.int .i64 (lv : Nat)) from fun z => by rw [hlv]; exact gLevel G q3 e3 z)
  obtain ⟨bb, hbb⟩ : ∃ bb, bb = decide (levelI G = 2) := ⟨_, rfl⟩
  have d1 : ((lv : Int) == 2) = bb := by rw [hbb, ← hlv]; by_cases h : lv = 2 <;> simp [h]; omega
  have d2 : (lv == 2) = bb := by rw [hbb, ← hlv]; by_cases h : lv = 2 <;> simp [h]
  have HQ := Lib.hid (fun z (hz : Below x2.heap.size x2 z) => (S2.out.below H.out hz).put H.out l bb [] (by rw [HPC.out, hbb, hG]; simp))
  have HFE := Lib.hid (show ([] ++ putI k false ++ [Pc.s [32, 60, 45, 62, 32] [[60, 45, 62]]] ++ putI l bb) = pcsI gs g by rw [HPC.out, hbb, hG]; simp)
  clear ke ka0 ka1 ka2 hG hlv hbb hb2 hb3 S2 HK0 HK1
  cases ea
  subst eb
  have hll := HLL.out
  go_upto_region 21 with fail
  refine wp_game_tail 15 (List.replicate 16 0) [] B0 fin_B0 (has_B0 _) (by kernel_rfl) (by kernel_rfl) ?_
  simp only [List.take_succ_cons, List.take_zero]
  refine lex_quietE 15 (by kernel_rfl) (by rfl) ?_
  apply Exists.intro
  refine ⟨fun z hz => ?_, ?_⟩
  · have f1 := behind_cellXp hz HKE.out (by simp)
    have f2 := behind_cellXp hz HG2.out (by simp)
    have f3 := behind_cellXp hz HPB.out (by simp)
    have f4 := behind_cellXp hz HA0.out (by simp)
    have f5 := behind_cellXp hz HA1.out (by simp)
    have f6 := behind_cellXp hz HA2.out (by simp)
    have f7 := behind_cellXp hz HC1.out (by simp)
    clear hz
    simp only [List.take_succ_cons, List.take_zero]
    unfold Cx
    repeat (go_big_quiet_step (with_reducible exact KLV.out.at _ _))
    exact wpQuiet_nil rfl
  simp only [List.drop_succ_cons, List.drop_zero]
  refine lex_nil ?_
  intro z hz _
  have KQ := HQ.out z hz.below
  clear hz HQ
  go_wp2_with fail
  refine (KQ).mono ?_
  rintro e x3 ⟨rfl, V3, hS, hKB⟩
  have S3 := Lib.hid hS
  have HKB3 := Lib.hid hKB
  clear hS hKB
  clear KQ
  go_wp2_with fail
  go_end0
  rw [HP.out]
  have hf := S3.out.fin
  rw [HFE.out] at hf
  exact hf

set_option maxHeartbeats 6400000 in
set_option maxRecDepth 100000 in
theorem gPieces_list {N : Nat} {vf : FuncId} {p1 p2 : Value} {n : Int} {gs : List Gt} {a : Option Addr} {g : Gt} {i : Nat} {ip : Option Addr} {J : List Pc → List Nat → World → Prop} {V : List Nat} {w : World} (h : PcH N vf p1 p2 n gs a g i ip J V w) (ca ic : Nat) (h0 : ¬ g.k = 0) (h1 : ¬ g.k = 1) (h2 : ¬ g.k = 2) (h3 : ¬ g.k = 3) (h7 : ¬ g.k = 7) (hk : g.k = 4 ∨ g.k = 5 ∨ g.k = 6 ∨ g.k = 8) (hlv : levelI g = 7) (hpc : pcsI gs g = .s (nameI g.k ++ [40]) [nameI g.k, [40]] :: (betweenI gs [44, 32] [[44]] 0 g.ins ++ [.s [41] [[41]]])) :
    Calls Tryd.prog 14 #[.agg #[.int .i64 n, .slice a gs.length ca], .agg #[.int .i64 g.k, .int .i64 g.lit, .slice ip g.ins.length ic], visV vf p1 p2] w (Vd J (pcsI gs g) V w) := by
  obtain ⟨Post, hPost⟩ : ∃ P : Ending → World → Prop, P = Vd J (pcsI gs g) V w := ⟨_, rfl⟩
  rw [← hPost]
  have HP := Lib.hid hPost
  have H := Lib.hid h
  have HPC := Lib.hid hpc
  clear hPost h hpc
  have e0 := beq_no h0
  have e1 := beq_no h1
  have e2 := beq_no h2
  have e3 := beq_no h3
  have e7 := beq_no h7
  clear h0 h1 h2 h3 h7
  unfold visV
  go_enter Tryd.func14, Tryd.ntmps14
  go_upto_region 1 with fail
  refine wp_gen ?_
  intro w1 hw1
  have A1 := three_at w (.cells #[.int .i64 n, .slice a gs.length ca] 24 (0, 0)) (.cells #[.int .i64 g.k, .int .i64 g.lit, .slice ip g.ins.length ic] 37 (0, 0)) (.cells #[visV vf p1 p2] 41 (0, 0))
  have B1 := three_below w (.cells #[.int .i64 n, .slice a gs.length ca] 24 (0, 0)) (.cells #[.int .i64 g.k, .int .i64 g.lit, .slice ip g.ins.length ic] 37 (0, 0)) (.cells #[visV vf p1 p2] 41 (0, 0))
  unfold visV at A1 B1
  rw [← hw1] at A1 B1
  have hz1 := Lib.hid (show w1.heap.size = w.heap.size + 3 by rw [hw1]; simp)
  clear hw1
  have hc := blk_cell (new_one w1 (Obj.cells #[Value.nilFunc] 67)) 0 rfl
  have hf := blk_free (new_one w1 (Obj.cells #[Value.nilFunc] 67)) 0
  go_upto_region 2 with fail
  clear hc hf
  refine wp_gen ?_
  intro w2 hw2
  have A2 := And.intro (new_one w1 (.cells #[.func (.func 33) #[] #[.pointer (some ⟨w.heap.size + 1 + 1, 0, none⟩)]] 67 (0, 0))) (below_one w1 (.cells #[.func (.func 33) #[] #[.pointer (some ⟨w.heap.size + 1 + 1, 0, none⟩)]] 67 (0, 0)))
  rw [← hw2] at A2
  have hz2 := Lib.hid (show w2.heap.size = w1.heap.size + 1 by rw [hw2]; simp)
  clear hw2
  have hc := blk_cell (new_one w2 (Obj.cells #[Value.nilFunc] 68)) 0 rfl
  have hf := blk_free (new_one w2 (Obj.cells #[Value.nilFunc] 68)) 0
  go_upto_region 3 with fail
  clear hc hf
  refine wp_gen ?_
  intro w3 hw3
  have A3 := And.intro (new_one w2 (.cells #[.func (.func 34) #[] #[.pointer (some ⟨w1.heap.size, 0, none⟩), .pointer (some ⟨w.heap.size + 1 + 1, 0, none⟩)]] 68 (0, 0))) (below_one w2 (.cells #[.func (.func 34) #[] #[.pointer (some ⟨w1.heap.size, 0, none⟩), .pointer (some ⟨w.heap.size + 1 + 1, 0, none⟩)]] 68 (0, 0)))
  rw [← hw3] at A3
  have hz3 := Lib.hid (show w3.heap.size = w2.heap.size + 1 by rw [hw3]; simp)
  clear hw3
  have hB3 : Below w.heap.size w w3 := B1.trans ((A2.2.mono B1.size).trans (A3.2.mono (Nat.le_trans B1.size A2.2.size)))
  have hmm : ∀ (ty : TypeId) (w : World), (Instr.makeMap ty none).run Tryd.prog w = .ok (.map (some w.heap.size)) (w.alloc (.map #[] 0)) := fun _ _ => rfl
  have h0 : (w3.alloc (.map #[] 0)).heap[w3.heap.size]? = some (.map #[] 0) := heap_alloc_new w3 _
  obtain ⟨m1, r1, h1, b1⟩ := map_put Tryd.underlying70 h0 4 (.string ⟨#[97, 110, 100, 40]⟩) (by omega) (by rfl)
  obtain ⟨m2, r2, h2, b2⟩ := map_put Tryd.underlying70 h1 5 (.string ⟨#[111, 114, 40]⟩) (by omega) (by rfl)
  obtain ⟨m3, r3, h3, b3⟩ := map_put Tryd.underlying70 h2 6 (.string ⟨#[120, 111, 114, 40]⟩) (by omega) (by rfl)
  obtain ⟨x0, r4, h4, b4⟩ := map_put Tryd.underlying70 h3 8 (.string ⟨#[105, 102, 40]⟩) (by omega) (by rfl)
  have hb0 := below_one w3 (.map #[] 0)
  have hm : Below w3.heap.size w3 x0 := by
    have s0 := hb0.size
    have s1 := b1.size
    have s2 := b2.size
    have s3 := b3.size
    exact hb0.trans ((b1.below_of (fun k hk => by simp at hk; omega) s0).trans ((b2.below_of (fun k hk => by simp at hk; omega) (by omega)).trans ((b3.below_of (fun k hk => by simp at hk; omega) (by omega)).trans (b4.below_of (fun k hk => by simp at hk; omega) (by omega)))))
  have hbx : Below w.heap.size w x0 := hB3.trans (hm.mono hB3.size)
  have k2 := (behind_of_below (A3.2.mono (Nat.le_refl _))).keep A2.1 (by simp)
  have kk1 := (behind_of_below A2.2).keep A1.1 (by simp)
  have kk2 := (behind_of_below A2.2).keep A1.2.1 (by simp)
  have kk3 := (behind_of_below A2.2).keep A1.2.2 (by simp)
  have q1 := (behind_of_below A3.2).keep kk1 (by simp)
  have q2 := (behind_of_below A3.2).keep kk2 (by simp)
  have q3 := (behind_of_below A3.2).keep kk3 (by simp)
  have s1 := (behind_of_below hm).keep q1 (by simp)
  have s2 := (behind_of_below hm).keep q2 (by simp)
  have s3 := (behind_of_below hm).keep q3 (by simp)
  have s4 := (behind_of_below hm).keep k2 (by simp)
  have s5 := (behind_of_below hm).keep A3.1 (by simp)
  have HNM := Lib.hid (show x0.heap[w3.heap.size]? = some (.map nmE 4) from h4)
  have HVL := H.out.vl
  have hz1 := hz1.out
  have hz2 := hz2.out
  have hz3 := hz3.out
  have S0 := Lib.hid (show PcS vf p1 p2 n gs a ca g ip ic J V w (w.heap.size + 1 + 1) w1.heap.size w2.heap.size (w.heap.size + 1) w.heap.size [] V x0 from ⟨H.out.vis.later _ _ _ _ H.out.j hbx, ⟨⟨s3, s4, fun hm => by have := HVL _ hm; omega, fun hm => by have := HVL _ hm; omega⟩, s5, s2, s1, fun hm => by have := HVL _ hm; omega, fun hm => by have := HVL _ hm; omega, fun hm => by have := HVL _ hm; omega⟩, (behind_of_below hbx).mono (by simp), fun g hg => .inl hg⟩)
  clear HVL hz1 hz2 hz3 hB3 A1 A2 A3 B1 h0 h1 h2 h3 h4 b1 b2 b3 b4 hb0 hm hbx k2 kk1 kk2 kk3 q1 q2 q3 s1 s2 s3 s4 s5
  have g0 := blk_cell S0.out.o.g 0 rfl
  have f1 := blk_cell S0.out.o.g 1 rfl
  have f2 := blk_cell S0.out.o.g 2 rfl
  have KL : Calls Tryd.prog 36 #[.agg #[.int .i64 g.k, .int .i64 g.lit, .slice ip g.ins.length ic]] x0 fun e w' => e = .returned (.int .i64 7) ∧ Below x0.heap.size x0 w' := by
    have := gLevel g ip ic x0
    rw [hlv] at this
    exact this
  have HKK := Lib.hid hk
  clear hlv hk
  go_wp2_with fail
  refine KL.mono ?_
  rintro e x1 ⟨rfl, hB⟩
  have S1 := Lib.hid (S0.out.below H.out hB)
  have r5 := nm_look ((behind_of_below hB).keep HNM.out (by simp)) g.k HKK.out
  clear hB KL S0 HNM g0 f1 f2
  have g0 := blk_cell S1.out.o.g 0 rfl
  have s := blk_cell S1.out.o.o2.s 0 rfl
  have KS := S1.out.say H.out (nameI g.k ++ [40]) [nameI g.k, [40]] _ HPC.out
  go_wp2_with fail
  refine (KS).mono ?_
  rintro e x2 ⟨rfl, V2, hS, hKB⟩
  have S2 := Lib.hid hS
  have HKB2 := Lib.hid hKB
  clear hS hKB
  clear KS s g0 r5 S1 HKB2
  have KB : Calls Tryd.prog 35 #[.string ⟨#[44, 32]⟩, .int .i64 0, _, _, _, _] x2 _ := S2.out.btw H.out [44, 32] [[44]] 0 (by omega) [.s [41] [[41]]] (by rw [HPC.out]; simp)
  go_wp2_with fail
  refine (KB).mono ?_
  rintro e x3 ⟨rfl, V3, hS, hKB⟩
  have S3 := Lib.hid hS
  have HKB3 := Lib.hid hKB
  clear hS hKB
  clear KB S2 HKB3
  have s := blk_cell S3.out.o.o2.s 0 rfl
  have KS := S3.out.say H.out [41] [[41]] [] (by rw [HPC.out]; simp)
  go_wp2_with fail
  refine (KS).mono ?_
  rintro e x4 ⟨rfl, V4, hS, hKB⟩
  have S4 := Lib.hid hS
  have HKB4 := Lib.hid hKB
  clear hS hKB
  clear KS s
  have HFE := Lib.hid (show ([] ++ [Pc.s (nameI g.k ++ [40]) [nameI g.k, [40]]] ++ betweenI gs [44, 32] [[44]] 0 g.ins ++ [Pc.s [41] [[41]]]) = pcsI gs g by rw [HPC.out]; simp)
  go_wp2_with fail
  go_end0
  rw [HP.out]
  have hf := S4.out.fin
  rw [HFE.out] at hf
  exact hf

set_option maxHeartbeats 6400000 in
set_option maxRecDepth 100000 in
theorem gPieces_chain {N : Nat} {vf : FuncId} {p1 p2 : Value} {n : Int} {gs : List Gt} {a : Option Addr} {g : Gt} {i : Nat} {ip : Option Addr} {J : List Pc → List Nat → World → Prop} {V : List Nat} {w : World} (h : PcH N vf p1 p2 n gs a g i ip J V w) (ca ic : Nat) (h0 : ¬ g.k = 0) (h1 : ¬ g.k = 1) (h2 : ¬ g.k = 2) (h3 : ¬ g.k = 3) (h7 : ¬ g.k = 7) (lv : Nat) (hlv : levelI g = lv) (h4 : 4 ≤ lv) (h6 : lv ≤ 6) (hpc : pcsI gs g = betweenI gs ([32] ++ signI lv ++ [32]) [signI lv] lv g.ins) :
    Calls Tryd.prog 14 #[.agg #[.int .i64 n, .slice a gs.length ca], .agg #[.int .i64 g.k, .int .i64 g.lit, .slice ip g.ins.length ic], visV vf p1 p2] w (Vd J (pcsI gs g) V w) := by
  obtain ⟨Post, hPost⟩ : ∃ P : Ending → World → Prop, P = Vd J (pcsI gs g) V w := ⟨_, rfl⟩
  rw [← hPost]
  have HP := Lib.hid hPost
  have H := Lib.hid h
  have HPC := Lib.hid hpc
  clear hPost h hpc
  have e0 := beq_no h0
  have e1 := beq_no h1
  have e2 := beq_no h2
  have e3 := beq_no h3
  have e7 := beq_no h7
  clear h0 h1 h2 h3 h7
  unfold visV
  go_enter Tryd.func14, Tryd.ntmps14
  go_upto_region 1 with fail
  refine wp_gen ?_
  intro w1 hw1
  have A1 := three_at w (.cells #[.int .i64 n, .slice a gs.length ca] 24 (0, 0)) (.cells #[.int .i64 g.k, .int .i64 g.lit, .slice ip g.ins.length ic] 37 (0, 0)) (.cells #[visV vf p1 p2] 41 (0, 0))
  have B1 := three_below w (.cells #[.int .i64 n, .slice a gs.length ca] 24 (0, 0)) (.cells #[.int .i64 g.k, .int .i64 g.lit, .slice ip g.ins.length ic] 37 (0, 0)) (.cells #[visV vf p1 p2] 41 (0, 0))
  unfold visV at A1 B1
  rw [← hw1] at A1 B1
  have hz1 := Lib.hid (show w1.heap.size = w.heap.size + 3 by rw [hw1]; simp)
  clear hw1
  have hc := blk_cell (new_one w1 (Obj.cells #[Value.nilFunc] 67)) 0 rfl
  have hf := blk_free (new_one w1 (Obj.cells #[Value.nilFunc] 67)) 0
  go_upto_region 2 with fail
  clear hc hf
  refine wp_gen ?_
  intro w2 hw2
  have A2 := And.intro (new_one w1 (.cells #[.func (.func 33) #[] #[.pointer (some ⟨w.heap.size + 1 + 1, 0, none⟩)]] 67 (0, 0))) (below_one w1 (.cells #[.func (.func 33) #[] #[.pointer (some ⟨w.heap.size + 1 + 1, 0, none⟩)]] 67 (0, 0)))
  rw [← hw2] at A2
  have hz2 := Lib.hid (show w2.heap.size = w1.heap.size + 1 by rw [hw2]; simp)
  clear hw2
  have hc := blk_cell (new_one w2 (Obj.cells #[Value.nilFunc] 68)) 0 rfl
  have hf := blk_free (new_one w2 (Obj.cells #[Value.nilFunc] 68)) 0
  go_upto_region 3 with fail
  clear hc hf
  refine wp_gen ?_
  intro w3 hw3
  have A3 := And.intro (new_one w2 (.cells #[.func (.func 34) #[] #[.pointer (some ⟨w1.heap.size, 0, none⟩), .pointer (some ⟨w.heap.size + 1 + 1, 0, none⟩)]] 68 (0, 0))) (below_one w2 (.cells #[.func (.func 34) #[] #[.pointer (some ⟨w1.heap.size, 0, none⟩), .pointer (some ⟨w.heap.size + 1 + 1, 0, none⟩)]] 68 (0, 0)))
  rw [← hw3] at A3
  have hz3 := Lib.hid (show w3.heap.size = w2.heap.size + 1 by rw [hw3]; simp)
  clear hw3
  have hB3 : Below w.heap.size w w3 := B1.trans ((A2.2.mono B1.size).trans (A3.2.mono (Nat.le_trans B1.size A2.2.size)))
  have hmm : ∀ (ty : TypeId) (w : World), (Instr.makeMap ty none).run Tryd.prog w = .ok (.map (some w.heap.size)) (w.alloc (.map #[] 0)) := fun _ _ => rfl
  have h0 : (w3.alloc (.map #[] 0)).heap[w3.heap.size]? = some (.map #[] 0) := heap_alloc_new w3 _
  obtain ⟨m1, r1, h1, b1⟩ := map_put Tryd.underlying70 h0 4 (.string ⟨#[97, 110, 100, 40]⟩) (by omega) (by rfl)
  obtain ⟨m2, r2, h2, b2⟩ := map_put Tryd.underlying70 h1 5 (.string ⟨#[111, 114, 40]⟩) (by omega) (by rfl)
  obtain ⟨m3, r3, h3, b3⟩ := map_put Tryd.underlying70 h2 6 (.string ⟨#[120, 111, 114, 40]⟩) (by omega) (by rfl)
  obtain ⟨x0, r4, h4, b4⟩ := map_put Tryd.underlying70 h3 8 (.string ⟨#[105, 102, 40]⟩) (by omega) (by rfl)
  have hb0 := below_one w3 (.map #[] 0)
  have hm : Below w3.heap.size w3 x0 := by
    have s0 := hb0.size
    have s1 := b1.size
    have s2 := b2.size
    have s3 := b3.size
    exact hb0.trans ((b1.below_of (fun k hk => by simp at hk; omega) s0).trans ((b2.below_of (fun k hk => by simp at hk; omega) (by omega)).trans ((b3.below_of (fun k hk => by simp at hk; omega) (by omega)).trans (b4.below_of (fun k hk => by simp at hk; omega) (by omega)))))
  have hbx : Below w.heap.size w x0 := hB3.trans (hm.mono hB3.size)
  have k2 := (behind_of_below (A3.2.mono (Nat.le_refl _))).keep A2.1 (by simp)
  have kk1 := (behind_of_below A2.2).keep A1.1 (by simp)
  have kk2 := (behind_of_below A2.2).keep A1.2.1 (by simp)
  have kk3 := (behind_of_below A2.2).keep A1.2.2 (by simp)
  have q1 := (behind_of_below A3.2).keep kk1 (by simp)
  have q2 := (behind_of_below A3.2).keep kk2 (by simp)
  have q3 := (behind_of_below A3.2).keep kk3 (by simp)
  have s1 := (behind_of_below hm).keep q1 (by simp)
  have s2 := (behind_of_below hm).keep q2 (by simp)
  have s3 := (behind_of_below hm).keep q3 (by simp)
  have s4 := (behind_of_below hm).keep k2 (by simp)
  have s5 := (behind_of_below hm).keep A3.1 (by simp)
  have HNM := Lib.hid (show x0.heap[w3.heap.size]? = some (.map nmE 4) from h4)
  have HVL := H.out.vl
  have hz1 := hz1.out
  have hz2 := hz2.out
  have hz3 := hz3.out
  have S0 := Lib.hid (show PcS vf p1 p2 n gs a ca g ip ic J V w (w.heap.size + 1 + 1) w1.heap.size w2.heap.size (w.heap.size + 1) w.heap.size [] V x0 from ⟨H.out.vis.later _ _ _ _ H.out.j hbx, ⟨⟨s3, s4, fun hm => by have := HVL _ hm; omega, fun hm => by have := HVL _ hm; omega⟩, s5, s2, s1, fun hm => by have := HVL _ hm; omega, fun hm => by have := HVL _ hm; omega, fun hm => by have := HVL _ hm; omega⟩, (behind_of_below hbx).mono (by simp), fun g hg => .inl hg⟩)
  clear HVL hz1 hz2 hz3 hB3 A1 A2 A3 B1 h0 h1 h2 h3 h4 b1 b2 b3 b4 hb0 hm hbx k2 kk1 kk2 kk3 q1 q2 q3 s1 s2 s3 s4 s5
  have g0 := blk_cell S0.out.o.g 0 rfl
  have f1 := blk_cell S0.out.o.g 1 rfl
  have f2 := blk_cell S0.out.o.g 2 rfl
  have hd7 : ((lv : Int) == 7) = false := beq_no (by omega)
  have hd8 : (lv == 7) = false := by rw [beq_eq_false_iff_ne]; omega
  have KG : Gives 36 #[.agg #[.int .i64 g.k, .int .i64 g.lit, .slice ip g.ins.length ic]] (.int .i64 (lv : Nat)) := fun z => by rw [← hlv]; exact gLevel g ip ic z
  have KL := KG x0
  have KLV := Lib.hid KG
  obtain ⟨y1, hy1⟩ : ∃ y : ByteArray, y = ⟨(signI lv).toArray⟩ := ⟨_, rfl⟩
  have hsz : y1.size ≤ 10 := by rw [hy1, ba_size]; unfold signI; (repeat' split) <;> decide
  obtain ⟨z1, hz1⟩ : ∃ z : ByteArray, z = (⟨#[32]⟩ : ByteArray) ++ y1 := ⟨_, rfl⟩
  obtain ⟨z2, hz2⟩ : ∃ z : ByteArray, z = z1 ++ (⟨#[32]⟩ : ByteArray) := ⟨_, rfl⟩
  have hzs : z1.size = 1 + y1.size := by rw [hz1, ByteArray.size_append]; rfl
  have ha1 : ∀ x, (Op.stringOp .add (⟨#[32]⟩ : ByteArray) y1).run Tryd.prog x = .ok (.string z1) x := fun x => by rw [hz1]; exact run_string_add_sum x _ _ (by show 1 + y1.size ≤ _; omega)
  have ha2 : ∀ x, (Op.stringOp .add z1 ⟨#[32]⟩).run Tryd.prog x = .ok (.string z2) x := fun x => by rw [hz2]; exact run_string_add_sum x _ _ (by show z1.size + 1 ≤ _; omega)
  have HZ2 := Lib.hid (show z2 = ⟨([32] ++ signI lv ++ [32]).toArray⟩ by
    rw [hz2, hz1, hy1]
    rw [show (⟨#[32]⟩ : ByteArray) = ⟨([32] : List UInt8).toArray⟩ from rfl, ba_app, ba_app])
  have HLK := Lib.hid (fun (x : World) (b : Nat) (hb : x.heap[b]? = some (.map chE 3)) (p : Extra) => (by
    have := ch_look (w := plus x p) ⟨b, rfl, (behind_of_below (below_plus x p)).keep hb (by simp)⟩ lv h4 h6
    rwa [← hy1] at this : (Instr.lookup 73 (.map (some b)) (.int .i64 (lv : Nat)) false).run Tryd.prog (plus x p) = .ok (.agg #[.string y1, .int .i64 (kindI lv)]) (plus x p)))
  have hfl : ∀ x, (Instr.field 72 (.agg #[.string y1, .int .i64 (kindI lv)]) 0).run Tryd.prog x = .ok (.string y1) x := fun x => by kernel_rfl
  clear hlv KG hy1 hz1 hz2
  go_wp2_with fail
  refine KL.mono ?_
  rintro e x1 ⟨rfl, hB⟩
  have S1 := Lib.hid (S0.out.below H.out hB)
  clear hB KL S0 HNM g0 f1 f2
  have F0 := Lib.hid (blk_cell S1.out.o.g 0 rfl)
  have F1 := Lib.hid (blk_cell S1.out.o.g 1 rfl)
  have F2 := Lib.hid (blk_cell S1.out.o.g 2 rfl)
  have HQ := Lib.hid (fun z (hz : Below x1.heap.size x1 z) => (S1.out.below H.out hz).btw H.out ([32] ++ signI lv ++ [32]) [signI lv] lv (by omega) [] (by rw [HPC.out]; simp))
  rw [← HZ2.out] at HQ
  go_upto_region 5 with fail
  refine wp_game_tail 10 [0, 4, 0, 0, 1, 0, 0, 0, 0, 0, 0] [] B0 fin_B0 (has_B0 _) (by kernel_rfl) (by kernel_rfl) ?_
  simp only [List.take_succ_cons, List.take_zero]
  refine lex_quietE 1 (by kernel_rfl) (by rfl) ?_
  apply Exists.intro
  refine ⟨fun z hz => ?_, ?_⟩
  · clear hz
    simp only [List.take_succ_cons, List.take_zero]
    unfold Cx
    repeat (go_big_quiet_step (fail))
    exact wpQuiet_nil rfl
  simp only [List.drop_succ_cons, List.drop_zero]
  refine lex_new (fun b => .map (some b)) (.map chE 3) #[] (by rfl) (fun x => by go_simp) (by simp) (fun x hx => gChainsG x) (fun b1 q1 hn1 => ?_)
  unfold setSlot
  go_big_quiet_step (fail)
  refine wpQuiet_nil ?_
  refine lex_quietE 2 (by kernel_rfl) (by rfl) ?_
  apply Exists.intro
  refine ⟨fun z hz => ?_, ?_⟩
  · have k0 := behind_cellXp hz F0.out (by simp)
    have k1 := behind_cellXp hz F1.out (by simp)
    have k2 := behind_cellXp hz F2.out (by simp)
    clear hz
    simp only [List.take_succ_cons, List.take_zero]
    unfold Cx
    repeat (go_big_quiet_step (with_reducible exact KLV.out.at _ _))
    exact wpQuiet_nil rfl
  simp only [List.drop_succ_cons, List.drop_zero]
  obtain ⟨y0, hy0, hyB, _⟩ := exists_world (w := x1) (Wr := []) (Fin.put fin_B0 b1 (.map chE 3)) (fun b ob hb => .inr (by
    by_cases e : b = b1
    · omega
    · rw [Blocks.put_other _ _ e] at hb; cases hb)) 0
  refine lex_readE 1 y0 hy0 hyB (by kernel_rfl) (by rfl) ?_
  apply Exists.intro
  refine ⟨fun z hz hH => ?_, ?_⟩
  · have r := HLK.out z b1 (hH b1 _ (Blocks.put_same _ _ _))
    clear hz hH
    simp only [List.take_succ_cons, List.take_zero]
    unfold Cx
    repeat (go_big_quiet_step (fail))
    exact wpQuiet_nil rfl
  simp only [List.drop_succ_cons, List.drop_zero]
  refine lex_quietE 5 (by kernel_rfl) (by rfl) ?_
  apply Exists.intro
  refine ⟨fun z hz => ?_, ?_⟩
  · have k0 := behind_cellXp hz F0.out (by simp)
    have k1 := behind_cellXp hz F1.out (by simp)
    have k2 := behind_cellXp hz F2.out (by simp)
    clear hz
    simp only [List.take_succ_cons, List.take_zero]
    unfold Cx
    repeat (go_big_quiet_step (with_reducible exact KLV.out.at _ _))
    exact wpQuiet_nil rfl
  simp only [List.drop_succ_cons, List.drop_zero]
  refine lex_nil ?_
  intro z hz _
  have KQ := HQ.out z hz.below
  clear hz HQ HLK
  go_wp2_with fail
  refine (KQ).mono ?_
  rintro e x2 ⟨rfl, V2, hS, hKB⟩
  have S2 := Lib.hid hS
  have HKB2 := Lib.hid hKB
  clear hS hKB
  clear KQ
  have HFE := Lib.hid (show ([] ++ betweenI gs ([32] ++ signI lv ++ [32]) [signI lv] lv g.ins) = pcsI gs g by rw [HPC.out]; simp)
  go_wp2_with fail
  go_end0
  rw [HP.out]
  have hf := S2.out.fin
  rw [HFE.out] at hf
  exact hf

end Go.Proofs.YtmaiofimmjedjaaDoor
