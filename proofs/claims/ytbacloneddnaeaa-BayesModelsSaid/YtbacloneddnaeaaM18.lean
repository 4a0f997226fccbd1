/- Texts of this claim, joined: BChoices, BChunk, BEntry, BBack. -/
import Derived.Test.YtbacloneddnaeaaRows
import Derived.Test.YtbacloneddnaeaaM17
import Derived.WalkKit
import Derived.WalkSpells
import Derived.WalkLawsBesides
import Derived.Lib.Hide

/- bayes.choices and what it yields. -/
namespace Go.Proofs.Ytbacloneddnaeaa
open Go.RowKit Go.Shelf
attribute [local go_sem] Oper.semAt_some

def IntBox (w : World) (g : Nat) (v : Int) : Prop := w.heap[g]? = some (.cells #[.int .i64 v] 3 (0, 0))
theorem IntBox.cell {w : World} {g : Nat} {v : Int} (h : IntBox w g v) : w.cell? ⟨g, 0, none⟩ = some (.int .i64 v) := blk_cell h 0 rfl

def chosen (ev : Int) (k : Nat) : List Nat := (List.range k).filter fun x => decide (ev < 0 ∨ ev = x)
theorem chosen_succ_yes {ev : Int} {k : Nat} (h : ev < 0 ∨ ev = k) : chosen ev (k + 1) = chosen ev k ++ [k] := by
  unfold chosen; rw [List.range_succ, List.filter_append]; simp [h]
theorem chosen_succ_no {ev : Int} {k : Nat} (h : ¬ (ev < 0 ∨ ev = k)) : chosen ev (k + 1) = chosen ev k := by
  unfold chosen; rw [List.range_succ, List.filter_append]; simp [h]
theorem chosen_length (ev : Int) (k : Nat) : (chosen ev k).length ≤ k := by
  have := List.length_filter_le (fun x => decide (ev < 0 ∨ ev = ((x : Nat) : Int))) (List.range k)
  simpa [chosen] using this
def KeepsTwo (b1 b2 : Nat) (W W' : World) : Prop := W'.heap[b1]? = W.heap[b1]? ∧ W'.heap[b2]? = W.heap[b2]?
theorem KeepsTwo.trans {b1 b2 : Nat} {A B C : World} (h : KeepsTwo b1 b2 A B) (k : KeepsTwo b1 b2 B C) : KeepsTwo b1 b2 A C := ⟨k.1.trans h.1, k.2.trans h.2⟩

set_option maxHeartbeats 1600000 in
set_option maxRecDepth 100000 in
theorem choices1_in (n : Nat) (hn : 1 ≤ n) (l b1 b2 k : Nat) (ev : Int) (J Jx : List (_root_.Fin k) → World → Prop)
    (hY : ∀ pre (x : _root_.Fin k) W, J pre W → pre.length < k → YieldAt Fence.wide (n - 1) Try.prog l #[.int .i64 ((x.1 : Nat) : Int)] W fun e W' =>
      (e = .returned (.bool true) ∧ J (pre ++ [x]) W' ∧ KeepsTwo b1 b2 W W') ∨ (e = .returned (.bool false) ∧ Jx (pre ++ [x]) W'))
    (W : World) (h1 : IntBox W b1 k) (h2 : IntBox W b2 ev) (h0 : J [] W) (hk : k ≤ 1000) :
    CallsIn Fence.wide n Try.prog 103 #[.func (.yield l) #[] #[], .pointer (some ⟨b1, 0, none⟩), .pointer (some ⟨b2, 0, none⟩)] W fun e W' => (∃ v, e = .returned v) ∧
      ((∃ ys, ys.map (·.1) = chosen ev k ∧ J ys W') ∨ (∃ pre, True ∧ Jx pre W')) := by
  refine callsIn_of_wp Try.func103 rfl trivial ?_ rfl
  simp only [Try.ntmps103, List.size_toArray, List.length_cons, List.length_nil, Nat.reduceAdd, Nat.reduceSub, Array.replicate_succ, Array.replicate_zero, List.push_toArray, List.append_toArray, List.nil_append, List.cons_append]
  have c1 := h1.cell
  have HY := Lib.hid hY
  clear hY
  gi_wp2
  gi_loopw [6] (fun i wr => ∃ (j : Nat) (ys : List (_root_.Fin k)), j ≤ k ∧ i = .int .i64 j ∧ Hid (ys.map (·.1) = chosen ev j) ∧ J ys wr ∧ IntBox wr b1 k ∧ IntBox wr b2 ev)
    (fun i _ => k - (intOf i).toNat)
  case atStart => exact ⟨0, [], Nat.zero_le _, rfl, rfl, h0, h1, h2⟩
  case round =>
    obtain ⟨j, ys, hj, rfl, HYS, hJ, h1', h2'⟩ := hrel
    have c2 := h2'.cell
    by_cases hlt : j < k
    · have hlen : ys.length < k := Nat.lt_of_le_of_lt (by have := chosen_length ev j; rw [← HYS.out] at this; simpa using this) hlt
      obtain ⟨fn, tmps, assign, body, hy, hR⟩ := HY.out _ ⟨j, hlt⟩ wr hJ hlen
      dsimp only at hy
      by_cases hev : ev < 0 ∨ ev = (j : Nat)
      · have HE := Lib.hid (chosen_succ_yes hev)
        have HZ : Hid ((ys ++ [(⟨j, hlt⟩ : _root_.Fin k)]).map (·.1) = chosen ev (j + 1)) := by unfold Hid; rw [HE.out, List.map_append, HYS.out]; rfl
        have hev2 : ev < 0 ∨ (ev == (j : Int)) = true ∧ 0 ≤ ev := by
          rcases hev with h | h
          · exact .inl h
          · by_cases h0 : ev < 0
            · exact .inl h0
            · exact .inr ⟨beq_yes h, by omega⟩
        clear hev
        rcases hev2 with hev | ⟨hev, hev3⟩
        all_goals
          gi_wp2
          refine hR.mono ?_
          rintro e W3 (⟨rfl, hJ3, hk3⟩ | ⟨rfl, hJx3⟩)
          · have b1 : IntBox W3 _ _ := hk3.1.trans h1'
            have b2 : IntBox W3 _ _ := hk3.2.trans h2'
            clear hy hk3 hJ h1' h2' c2 c1
            gi_wp2
            go_roundw
            case rel => exact ⟨j + 1, _, by omega, by go_num, HZ, hJ3, b1, b2⟩
            case measure => simp [intOf]; omega
          · gi_wp2
            refine bodyPost_ret (results_none rfl _ _ _) rfl ?_
            exact ⟨⟨_, rfl⟩, .inr ⟨_, trivial, hJx3⟩⟩
      · have HE := Lib.hid (chosen_succ_no hev)
        have hv1 : (ev == (j : Int)) = false := beq_no (by omega)
        have hv2 : 0 ≤ ev := by omega
        clear hev hy
        gi_wp2
        refine ⟨fun _ h => (by cases h), ?_⟩
        gi_wp2
        go_roundw
        case rel => exact ⟨j + 1, ys, by omega, by go_num, HYS.out.trans HE.out.symm, hJ, h1', h2'⟩
        case measure => simp [intOf]; omega
    · obtain rfl : j = k := by omega
      gi_wp2
      go_end0
      exact ⟨⟨_, rfl⟩, .inl ⟨_, HYS.out, hJ⟩⟩

theorem choices_stops (n : Nat) (hn : 1 ≤ n) (b1 b2 k : Nat) (ev : Int) (hk : k ≤ 1000) (w : World) (hb1 : b1 < w.heap.size) (hb2 : b2 < w.heap.size) (h1 : IntBox w b1 k) (h2 : IntBox w b2 ev) :
    SeqStopsK Fence.wide n Try.prog 103 #[.pointer (some ⟨b1, 0, none⟩), .pointer (some ⟨b2, 0, none⟩)] (fun x : _root_.Fin k => #[.int .i64 ((x.1 : Nat) : Int)]) (KeepsTwo b1 b2) (fun xs => xs.map (·.1) = chosen ev k) (fun _ => True) k w :=
  fun l J Jx W hW _ _ hY h0 => choices1_in n hn l b1 b2 k ev J Jx hY W ((hW.block b1 hb1).trans h1) ((hW.block b2 hb2).trans h2) h0 hk

set_option maxHeartbeats 400000 in
theorem choices_law (k ev : Int) (w : World) : Calls Try.prog 75 #[.int .i64 k, .int .i64 ev] w fun e w' =>
    e = .returned (.func (.func 103) #[] #[.pointer (some ⟨w.heap.size, 0, none⟩), .pointer (some ⟨w.heap.size + 1, 0, none⟩)]) ∧ IntBox w' w.heap.size k ∧ IntBox w' (w.heap.size + 1) ev ∧ Below w.heap.size w w' ∧ w'.heap.size = w.heap.size + 2 := by
  go_enter Try.func75, Try.ntmps75
  go_wp2_with fail
  go_ret
  refine ⟨rfl, ?_, ?_, ((Below.refl _ _).alloc (Nat.le_refl _) _).alloc (by simp) _, by simp⟩
  · exact (heap_alloc_old _ _ (by simp)).trans (heap_alloc_new w _)
  · have := heap_alloc_new (w.alloc (Obj.cells #[Value.int .i64 k] 3)) (Obj.cells #[Value.int .i64 ev] 3)
    simpa [IntBox] using this
end Go.Proofs.Ytbacloneddnaeaa

/- slices.Chunk over quotients. -/
namespace Go.Proofs.Ytbacloneddnaeaa
open Go.RowKit Go.Shelf
attribute [local go_sem] Oper.semAt_some

def SliceBox (w : World) (g : Nat) (T : TypeId) (a : Option Addr) (n c : Nat) : Prop := w.heap[g]? = some (.cells #[.slice a n c] T (0, 0))
theorem SliceBox.cell {w : World} {g : Nat} {T : TypeId} {a : Option Addr} {n c : Nat} (h : SliceBox w g T a n c) : w.cell? ⟨g, 0, none⟩ = some (.slice a n c) := blk_cell h 0 rfl

def chunkV (b o k j : Nat) : Value := .slice (some ⟨b, o + j * k * 2, none⟩) k k

set_option maxHeartbeats 1600000 in
set_option maxRecDepth 100000 in
theorem chunk1_in (n : Nat) (hn : 1 ≤ n) (l b1 b2 k rows b o cap : Nat) (J Jx : List (_root_.Fin rows) → World → Prop)
    (hY : ∀ pre (x : _root_.Fin rows) W, J pre W → pre.length < rows → YieldAt Fence.wide (n - 1) Try.prog l #[chunkV b o k x.1] W fun e W' =>
      (e = .returned (.bool true) ∧ J (pre ++ [x]) W' ∧ KeepsTwo b1 b2 W W') ∨ (e = .returned (.bool false) ∧ Jx (pre ++ [x]) W'))
    (W : World) (hA : AbidesFrom W.heap.size J) (h1 : SliceBox W b1 44 (some ⟨b, o, none⟩) (rows * k) cap) (h2 : IntBox W b2 k) (h0 : J [] W) (hk0 : 0 < k) (hk : k ≤ 1000) (hr : rows * k ≤ 100000) (hcap : rows * k ≤ cap) (hcap2 : cap ≤ 9223372036854775807) :
    CallsIn Fence.wide n Try.prog 96 #[.func (.yield l) #[] #[], .pointer (some ⟨b1, 0, none⟩), .pointer (some ⟨b2, 0, none⟩)] W fun e W' => (∃ v, e = .returned v) ∧
      ((∃ ys, ys.map (·.1) = List.range rows ∧ J ys W') ∨ (∃ pre, True ∧ Jx pre W')) := by
  refine callsIn_of_wp Try.func96 rfl trivial ?_ rfl
  simp only [Try.ntmps96, List.size_toArray, List.length_cons, List.length_nil, Nat.reduceAdd, Nat.reduceSub, Array.replicate_succ, Array.replicate_zero, List.push_toArray, List.append_toArray, List.nil_append, List.cons_append]
  have HY := Lib.hid hY
  clear hY
  gi_wp2
  gi_loopw [4] (fun i wr => ∃ (j : Nat) (ys : List (_root_.Fin rows)), j ≤ rows ∧ i = .int .i64 (j * k : Nat) ∧ Hid (ys.map (·.1) = List.range j) ∧ J ys wr ∧ SliceBox wr b1 44 (some ⟨b, o, none⟩) (rows * k) cap ∧ IntBox wr b2 k)
    (fun i _ => rows * k - (intOf i).toNat)
  case atStart => exact ⟨0, [], Nat.zero_le _, by simp, rfl, h0, h1, h2⟩
  case round =>
    obtain ⟨j, ys, hj, rfl, HYS, hJ, h1', h2'⟩ := hrel
    by_cases hlt : j < rows
    · have hlen : ys.length < rows := by
        have := congrArg List.length HYS.out
        simp at this; omega
      have HZ : Hid ((ys ++ [(⟨j, hlt⟩ : _root_.Fin rows)]).map (·.1) = List.range (j + 1)) := by unfold Hid; rw [List.range_succ, List.map_append, HYS.out]; rfl
      have hs : (j + 1) * k = j * k + k := by rw [Nat.add_mul, Nat.one_mul]
      have hs2 : (j + 1) * k ≤ rows * k := Nat.mul_le_mul_right _ hlt
      have HS := Lib.hid hs
      rw [hs] at hs2
      have HV : Hid (chunkV b o k j = .slice (some ⟨b, o + j * k * 2, none⟩) k k) := rfl
      generalize hI : j * k = I at *
      have HI := Lib.hid hI
      generalize rows * k = T at *
      clear hI hs
      have c1 := h1'.cell
      have c2 := h2'.cell
      have hm : min (k : Int) ((T : Int) - I) = k := by omega
      have hd : decide (I < T) = true := by simp; omega
      gi_wp2
      clear c1 c2
      refine wpIn_wide.2 ?_
      refine wp_game (List.replicate 7 0) [] B0 fin_B0 (has_B0 _) (by kernel_rfl) (by kernel_rfl) ?_
      refine lex_quietE 7 (by kernel_rfl) (by rfl) ?_
      apply Exists.intro
      refine ⟨fun z hz => ?_, ?_⟩
      · have c1 := blk_cellp (hz.keep h1' (by simp)) 0 rfl
        have c2 := blk_cellp (hz.keep h2' (by simp)) 0 rfl
        clear hz
        simp only [List.take_succ_cons, List.take_zero]
        unfold Cx
        repeat (go_big_quiet_step (fail))
        exact wpQuiet_nil rfl
      simp only [List.drop_succ_cons, List.drop_zero]
      refine lex_nil ?_
      intro w5 hx5 _
      have hJ5 := hA _ _ w5 none hJ ⟨hx5.os, hx5.tape, hx5.output, hx5.size, fun k hk _ => hx5.block k hk (by simp)⟩ (fun r e => by cases e)
      have h1 : SliceBox w5 _ _ _ _ _ := hx5.keep h1' (by simp)
      have h2 : IntBox w5 _ _ := hx5.keep h2' (by simp)
      clear hx5 hJ h1' h2'
      obtain ⟨fn, tmps, assign, body, hy, hR⟩ := HY.out _ ⟨j, hlt⟩ w5 hJ5 hlen
      dsimp only at hy
      rw [HV.out] at hy
      have c1 := h1.cell
      gi_wp2
      refine hR.mono ?_
      rintro e W3 (⟨rfl, hJ3, hk3⟩ | ⟨rfl, hJx3⟩)
      · have b1 : SliceBox W3 _ _ _ _ _ := hk3.1.trans h1
        have b2 : IntBox W3 _ _ := hk3.2.trans h2
        have c2 := b2.cell
        clear hy hk3 hJ5 h1 h2 c1 HI HV
        gi_wp2
        go_roundw
        case rel => exact ⟨j + 1, _, by omega, by rw [HS.out]; go_num, HZ, hJ3, b1, b2⟩
        case measure => simp [intOf]; omega
      · clear HI HV HS
        gi_wp2
        refine bodyPost_ret (results_none rfl _ _ _) rfl ?_
        exact ⟨⟨_, rfl⟩, .inr ⟨_, trivial, hJx3⟩⟩
    · obtain rfl : j = rows := by omega
      have c1 := h1'.cell
      clear HY
      generalize j * k = T at *
      gi_wp2
      go_end0
      exact ⟨⟨_, rfl⟩, .inl ⟨_, HYS.out, hJ⟩⟩

theorem chunk_stops (n : Nat) (hn : 1 ≤ n) (b1 b2 k rows b o cap : Nat) (hk0 : 0 < k) (hk : k ≤ 1000) (hr : rows * k ≤ 100000) (hcap : rows * k ≤ cap) (hcap2 : cap ≤ 9223372036854775807) (w : World) (hb1 : b1 < w.heap.size) (hb2 : b2 < w.heap.size)
    (h1 : SliceBox w b1 44 (some ⟨b, o, none⟩) (rows * k) cap) (h2 : IntBox w b2 k) :
    SeqStopsK Fence.wide n Try.prog 96 #[.pointer (some ⟨b1, 0, none⟩), .pointer (some ⟨b2, 0, none⟩)] (fun x : _root_.Fin rows => #[chunkV b o k x.1]) (KeepsTwo b1 b2) (fun xs => xs.map (·.1) = List.range rows) (fun _ => True) rows w :=
  fun l J Jx W hW hA _ hY h0 => chunk1_in n hn l b1 b2 k rows b o cap J Jx hY W hA ((hW.block b1 hb1).trans h1) ((hW.block b2 hb2).trans h2) h0 hk0 hk hr hcap hcap2

set_option maxHeartbeats 400000 in
theorem chunk_law (a : Option Addr) (n c k : Nat) (hk0 : 0 < k) (w : World) : Calls Try.prog 67 #[.slice a n c, .int .i64 k] w fun e w' =>
    e = .returned (.func (.func 96) #[] #[.pointer (some ⟨w.heap.size, 0, none⟩), .pointer (some ⟨w.heap.size + 1, 0, none⟩)]) ∧ SliceBox w' w.heap.size 44 a n c ∧ IntBox w' (w.heap.size + 1) k ∧ Below w.heap.size w w' ∧ w'.heap.size = w.heap.size + 2 := by
  have hk : decide (k < 1) = false := by simp; omega
  have hk1 : 1 ≤ k := hk0
  go_enter Try.func67, Try.ntmps67
  go_wp2_with fail
  go_ret
  refine ⟨rfl, ?_, ?_, ((Below.refl _ _).alloc (Nat.le_refl _) _).alloc (by simp) _, by simp⟩
  · exact (heap_alloc_old _ _ (by simp)).trans (heap_alloc_new w _)
  · have := heap_alloc_new (w.alloc (Obj.cells #[Value.slice a n c] 44)) (Obj.cells #[Value.int .i64 k] 3)
    simpa [IntBox] using this
end Go.Proofs.Ytbacloneddnaeaa

/- bayes.entry. -/
namespace Go.Proofs.Ytbacloneddnaeaa
open Go.RowKit Num

def kAt (l : List BV) (j : Nat) : Nat := match l[j]? with | some x => x.k.toNat | none => 0

def idxFrom (l : List BV) (vs : List Nat) (at0 : Nat) (ps : List Int) : Nat := ps.foldl (fun at0 p => at0 * kAt l p.toNat + vs.getD p.toNat 0) at0

structure Fit (l : List BV) (vs : List Nat) : Prop where
  len : vs.length = l.length
  kpos : ∀ (i : Nat) (x : BV), l[i]? = some x → 1 ≤ x.k ∧ x.k ≤ 8
  lt : ∀ (i : Nat) (x : BV) (v : Nat), l[i]? = some x → vs[i]? = some v → (v : Int) < x.k

theorem mulI {A K : Nat} (h : A * K ≤ 2251799813685248) : (A : Int) * (K : Int) ≤ 2251799813685248 ∧ 0 ≤ (A : Int) * (K : Int) := by
  rw [← Int.natCast_mul]; omega
theorem addI {A K v I : Nat} (h : A * K + v = I) : (A : Int) * (K : Int) + (v : Int) = (I : Int) := by
  rw [← Int.natCast_mul]; omega

theorem idxFrom_snoc {l : List BV} {vs : List Nat} {ps : List Int} {j pn v : Nat} {y : BV} {a0 : Nat} (hp : ps[j]? = some (pn : Int)) (hy : l[pn]? = some y) (hv : vs[pn]? = some v) :
    idxFrom l vs a0 (ps.take (j + 1)) = idxFrom l vs a0 (ps.take j) * y.k.toNat + v := by
  have hj : j < ps.length := (List.getElem?_eq_some_iff.1 hp).1
  have e : ps[j] = (pn : Int) := by rw [List.getElem?_eq_getElem hj] at hp; exact Option.some.inj hp
  rw [List.take_succ_eq_append_getElem hj, e]
  unfold idxFrom
  rw [List.foldl_append]
  simp [kAt, hy, hv]

theorem idxFrom_lt {l : List BV} {vs : List Nat} (hf : Fit l vs) : ∀ (ps : List Int), (∀ p ∈ ps, 0 ≤ p ∧ p.toNat < l.length) → ∀ a0 m : Nat, a0 < 8 ^ m → idxFrom l vs a0 ps < 8 ^ (m + ps.length)
  | [], _, a0, m, h => by simpa [idxFrom] using h
  | p :: ps, hp, a0, m, h => by
    obtain ⟨h0, hl⟩ := hp p (by simp)
    obtain ⟨y, hy⟩ : ∃ y, l[p.toNat]? = some y := ⟨_, List.getElem?_eq_getElem hl⟩
    obtain ⟨v, hv⟩ : ∃ v, vs[p.toNat]? = some v := ⟨_, List.getElem?_eq_getElem (by rw [hf.len]; exact hl)⟩
    obtain ⟨k1, k8⟩ := hf.kpos _ y hy
    have hlt := hf.lt _ y v hy hv
    have ih := idxFrom_lt hf ps (fun q hq => hp q (by simp [hq])) (a0 * y.k.toNat + v) (m + 1) (by
      have : a0 * y.k.toNat + v < (a0 + 1) * 8 := by
        have h1 : a0 * y.k.toNat + v < (a0 + 1) * y.k.toNat := by rw [Nat.add_mul]; omega
        exact Nat.lt_of_lt_of_le h1 (Nat.mul_le_mul_left _ (by omega))
      rw [Nat.pow_succ]
      have h2 : (a0 + 1) * 8 ≤ 8 ^ m * 8 := Nat.mul_le_mul_right _ h
      omega)
    have e : idxFrom l vs a0 (p :: ps) = idxFrom l vs (a0 * y.k.toNat + v) ps := by simp [idxFrom, kAt, hy, hv]
    rw [e, List.length_cons, show m + (ps.length + 1) = m + 1 + ps.length by omega]
    exact ih

theorem idxFrom_le {l : List BV} {vs : List Nat} (hf : Fit l vs) (ps : List Int) (hp : ∀ p ∈ ps, 0 ≤ p ∧ p.toNat < l.length) (hl : ps.length ≤ 16) (j : Nat) : idxFrom l vs 0 (ps.take j) ≤ 281474976710656 := by
  have h := idxFrom_lt hf (ps.take j) (fun p hq => hp p (List.mem_of_mem_take hq)) 0 0 (by decide)
  have h2 : 8 ^ (0 + (ps.take j).length) ≤ 8 ^ 16 := Nat.pow_le_pow_right (by decide) (by simp; omega)
  have : (8:Nat) ^ 16 = 281474976710656 := by decide
  omega

set_option maxHeartbeats 1600000 in
set_option maxRecDepth 100000 in
theorem entry_law (N : Nat) (l : List BV) (vs : List Nat) (a va : Option Addr) (c vc i : Nat) (x : BV) (hx : l[i]? = some x) (hf : Fit l vs) (hp : ∀ p ∈ x.ps, 0 ≤ p ∧ p.toNat < l.length) (hpl : x.ps.length ≤ 16)
    (q : Nat × Nat) (hq : x.tab[idxFrom l vs 0 x.ps * x.k.toNat + vs.getD i 0]? = some q) (w : World) (hN : NetAt N w a l) (hV : AtN N w va (ints (vs.map Int.ofNat))) (hw : N ≤ w.heap.size) (hl : l.length ≤ 100) :
    Calls Try.prog 76 #[.slice a l.length c, .int .i64 i, .slice va vs.length vc] w fun e w' => e = .returned (.agg #[.string (nb q.1), .string (nb q.2)]) ∧ Below w.heap.size w w' := by
  have HB0 := Lib.hid (Below.refl w.heap.size w)
  have HV := Lib.hid hV
  have HF := Lib.hid hf
  have HP := Lib.hid hp
  have HQ := Lib.hid hq
  have HX := Lib.hid hx
  have HN := Lib.hid hN
  have hi : i < l.length := (List.getElem?_eq_some_iff.1 hx).1
  obtain ⟨b, o, hb, rfl, hC⟩ := hN.base (by omega)
  obtain ⟨pa, pc, ta, tc, c0, c1, c2, hpa, hta, _, _⟩ := hC i x hx
  have HPA := Lib.hid hpa
  have HTA := Lib.hid hta
  have HC := Lib.hid hC
  clear hpa hta hC hV hf hp hq hx hN
  go_enter Try.func76, Try.ntmps76
  go_wp2_with (with_reducible refine wpList_from 6 [3] [] B0 (has_B0 _) ?_)
  refine lex_alloc (.agg #[.string ByteArray.empty, .string ByteArray.empty]) (by rfl) (fun x => by kernel_rfl) (fun g6 q6 hn6 => ?_)
  unfold setSlot
  go_big_quiet_step (fail)
  refine wpQuiet_nil ?_
  clear hn6
  refine lex_nil ?_
  intro w1 hx hH
  have m6 := hH g6 _ (Blocks.put_same _ _ _)
  have HB1 := Lib.hid (HB0.out.trans (hx.below_of (b := w.heap.size) (by simp) HB0.out.size))
  replace q6 := Nat.le_trans HB0.out.size q6
  clear hx hH HB0
  have hbw : b < w.heap.size := by omega
  have d1 := below_cell HB1.out hbw c1
  go_wp2_with fail
  clear d1
  go_loopw [7, 16] (fun at0 k wr => ∃ j : Nat, j ≤ x.ps.length ∧ k = .int .i64 j ∧ at0 = .int .i64 (idxFrom l vs 0 (x.ps.take j) : Nat) ∧ wr.heap[g6]? = some (.cells #[.string ByteArray.empty, .string ByteArray.empty] 34 (0, 0)) ∧ Below w.heap.size w wr)
    (fun _ k _ => x.ps.length - (intOf k).toNat)
  case atStart => exact ⟨0, Nat.zero_le _, rfl, rfl, m6, HB1.out⟩
  case round =>
    obtain ⟨j, hj, rfl, rfl, m6', hB⟩ := hrel
    have HB := Lib.hid hB
    clear hB m6 HB1
    by_cases hlt : j < x.ps.length
    · obtain ⟨p, hpj⟩ : ∃ p, x.ps[j]? = some p := ⟨_, List.getElem?_eq_getElem hlt⟩
      obtain ⟨hp0, hpl2⟩ := HP.out p (List.mem_of_getElem? hpj)
      obtain ⟨pn, rfl⟩ : ∃ pn : Nat, p = pn := ⟨p.toNat, by omega⟩
      rw [Int.toNat_natCast] at hpl2
      obtain ⟨y, hy⟩ : ∃ y, l[pn]? = some y := ⟨_, List.getElem?_eq_getElem hpl2⟩
      obtain ⟨hk1, hk8⟩ := HF.out.kpos pn y hy
      obtain ⟨K, hK⟩ : ∃ K : Nat, y.k = K := ⟨y.k.toNat, by omega⟩
      obtain ⟨v, hv⟩ : ∃ v, vs[pn]? = some v := ⟨_, List.getElem?_eq_getElem (by rw [HF.out.len]; omega)⟩
      have hvK := HF.out.lt pn y v hy hv
      obtain ⟨_, _, _, _, e0, _⟩ := HC.out pn y hy
      obtain ⟨pb, po, hpb, rfl, e1⟩ := HPA.out j _ (ints_get _ _ _ hpj)
      obtain ⟨vb, vo, hvb, rfl, e2⟩ := HV.out pn _ (ints_get _ _ (v : Int) (by simp [hv]))
      rw [hK] at e0 hvK
      have hA := idxFrom_le HF.out x.ps HP.out hpl j
      have hS : Hid (idxFrom l vs 0 (x.ps.take j) * K + v = idxFrom l vs 0 (x.ps.take (j + 1))) := by
        unfold Hid
        rw [idxFrom_snoc hpj hy hv, hK]; simp
      have hk1' : 1 ≤ K := by omega
      have hk8' : K ≤ 8 := by omega
      have hvK' : v < K := by omega
      have hlv : pn < vs.length := by rw [HF.out.len]; omega
      clear hK hpj hy hv hk1 hk8 hvK
      generalize idxFrom l vs 0 (x.ps.take j) = A at *
      generalize hA2 : idxFrom l vs 0 (x.ps.take (j + 1)) = A2 at *
      have HA2 := Lib.hid hA2
      clear hA2
      have hm1 : A * K ≤ 2251799813685248 := Nat.le_trans (Nat.mul_le_mul hA hk8') (by decide)
      obtain ⟨hm2, hm3⟩ := mulI hm1
      have f1 := below_cell HB.out (by omega) c1
      have f2 := below_cell HB.out (by omega) e1
      go_wp2_with fail
      clear f1 f2
      refine wp_game (List.replicate 13 0) [] B0 fin_B0 (has_B0 _) (by kernel_rfl) (by kernel_rfl) ?_
      refine lex_quietE 13 (by kernel_rfl) (by rfl) ?_
      apply Exists.intro
      refine ⟨fun z hz => ?_, ?_⟩
      · have hwz := HB.out.trans (hz.below_of (b := w.heap.size) (by simp) HB.out.size)
        have g0 := below_cellp hwz e0 hbw
        have g2 := below_cellp hwz e2 (by omega)
        clear hz hwz
        simp only [List.take_succ_cons, List.take_zero]
        unfold Cx
        repeat (go_big_quiet_step (fail))
        exact wpQuiet_nil rfl
      simp only [List.drop_succ_cons, List.drop_zero]
      refine lex_nil ?_
      intro w5 hx5 _
      have m5 := hx5.keep m6' (by simp)
      have HB5 := Lib.hid (HB.out.trans (hx5.below_of (b := w.heap.size) (by simp) HB.out.size))
      clear hx5 HB m6'
      go_wp2_with fail
      go_roundw
      case rel => exact ⟨j + 1, by omega, by go_num, by rw [HA2.out, ← hS.out]; go_num, m5, HB5.out⟩
      case measure => simp [intOf]; omega
    · obtain rfl : j = x.ps.length := by omega
      clear hj hlt
      have hk18 := HF.out.kpos i x HX.out
      obtain ⟨hk1, hk8⟩ := hk18
      obtain ⟨K, hK⟩ : ∃ K : Nat, x.k = K := ⟨x.k.toNat, by omega⟩
      obtain ⟨v, hv⟩ : ∃ v, vs[i]? = some v := ⟨_, List.getElem?_eq_getElem (by rw [HF.out.len]; omega)⟩
      have hvK := HF.out.lt i x v HX.out hv
      obtain ⟨vb, vo, hvb, rfl, e2⟩ := HV.out i _ (ints_get _ _ (v : Int) (by simp [hv]))
      have hA := idxFrom_le HF.out x.ps HP.out hpl x.ps.length
      have hq := HQ.out
      have hvd : vs.getD i 0 = v := by simp [hv]
      rw [hvd] at hq
      rw [List.take_length] at *
      rw [hK] at c0 hvK hq hk8
      rw [Int.toNat_natCast] at hq
      generalize idxFrom l vs 0 x.ps = A at *
      obtain ⟨I, hI⟩ : ∃ I, A * K + v = I := ⟨_, rfl⟩
      rw [hI] at hq
      have hIl : I < x.tab.length := (List.getElem?_eq_some_iff.1 hq).1
      obtain ⟨tb, to, htb, rfl, t1⟩ := HTA.out _ _ (rats_get hq).1
      have t2 : w.cell? ⟨tb, to + I * 2 + 1, none⟩ = some (.string (nb q.2)) := by
        obtain ⟨tb', to', _, h2, h3⟩ := HTA.out _ _ (rats_get hq).2
        cases h2; exact h3
      have hlv : i < vs.length := by rw [HF.out.len]; omega
      have hm1 : A * K ≤ 2251799813685248 := Nat.le_trans (Nat.mul_le_mul hA (show K ≤ 8 by omega)) (by decide)
      obtain ⟨hm2, hm3⟩ := mulI hm1
      have hI2 := addI hI
      have hK8 : K ≤ 8 := by omega
      have hvK' : v < K := by omega
      have htbw : tb < w.heap.size := by omega
      have hvbw : vb < w.heap.size := by omega
      clear hk1 hk8 hvK hK hv hq hvd hm1
      have HI := Lib.hid hI
      clear hI
      go_wp2_with fail
      refine wp_game (List.replicate 19 0 ++ [2]) [g6] _ (Fin.put fin_B0 _ _) (has_put (has_B0 _) m6') (by kernel_rfl) (by kernel_rfl) ?_
      refine lex_quietE 19 (by kernel_rfl) (by rfl) ?_
      apply Exists.intro
      refine ⟨fun z hz => ?_, ?_⟩
      · have hwz := HB.out.trans (hz.below_of (b := w.heap.size) (by simp [q6]) HB.out.size)
        have g0 := below_cellp hwz c0 hbw
        have g1 := below_cellp hwz c2 hbw
        have g2 := below_cellp hwz e2 hvbw
        have g3 := below_cellp hwz t1 htbw
        have g4 := below_cellp hwz t2 htbw
        clear hz hwz
        simp only [List.take_succ_cons, List.take_zero]
        unfold Cx
        repeat (go_big_quiet_step (fail))
        exact wpQuiet_nil rfl
      simp only [List.drop_succ_cons, List.drop_zero]
      refine lex_store_all g6 _ _ _ (by rfl) (by rfl) (by rfl) (Blocks.put_same _ _ _) (by rfl) (Or.inl (by simp)) (by kernel_rfl) (by simp [Value.oneCell']) ?_
      refine lex_nil ?_
      intro w5 hx5 hH
      have m5 := hH g6 _ (Blocks.put_same _ _ _)
      have HB5 := Lib.hid (HB.out.trans (hx5.below_of (b := w.heap.size) (by simp [q6]) HB.out.size))
      clear hx5 HB m6' hH
      have c5 := blk_cell m5 0 rfl
      have c6 := blk_cell m5 1 rfl
      go_wp2_with fail
      exact bodyPost_ret (v := .agg #[.string (nb q.1), .string (nb q.2)]) (by simp [results, Try.results76, go_sem, c5, c6]) rfl ⟨rfl, HB5.out⟩
end Go.Proofs.Ytbacloneddnaeaa

/- slices.Backward over numbers. -/
namespace Go.Proofs.Ytbacloneddnaeaa
open Go.RowKit Go.Shelf
attribute [local go_sem] Oper.semAt_some

def NumsAt (w : World) (b2 : Nat) (a : Option Addr) (xs : List Int) : Prop := ∀ i v, xs[i]? = some v → ∃ o, a = some ⟨b2, o, none⟩ ∧ w.cell? ⟨b2, o + i, none⟩ = some (.int .i64 v)
theorem NumsAt.kept {w w' : World} {b2 : Nat} {a : Option Addr} {xs : List Int} (h : NumsAt w b2 a xs) (hk : w'.heap[b2]? = w.heap[b2]?) : NumsAt w' b2 a xs := fun i v hi => by
  obtain ⟨o, h1, h2⟩ := h i v hi
  exact ⟨o, h1, (World.cell?_of_block (a := ⟨b2, o + i, none⟩) hk).trans h2⟩

def downTo (n j : Nat) : List Nat := ((List.range n).drop j).reverse
theorem downTo_start (n : Nat) : downTo n n = [] := by simp [downTo]
theorem downTo_step {n j : Nat} (h : j < n) : downTo n j = downTo n (j + 1) ++ [j] := by
  unfold downTo
  rw [List.drop_eq_getElem_cons (by simpa using h)]
  simp
theorem downTo_length (n j : Nat) : (downTo n j).length = n - j := by simp [downTo]

set_option maxHeartbeats 1600000 in
set_option maxRecDepth 100000 in
theorem back1_in (n : Nat) (hn : 1 ≤ n) (l b1 b2 : Nat) (a : Option Addr) (cap : Nat) (xs : List Int) (J Jx : List (_root_.Fin xs.length) → World → Prop)
    (hY : ∀ pre (x : _root_.Fin xs.length) W, J pre W → pre.length < xs.length → YieldAt Fence.wide (n - 1) Try.prog l #[.int .i64 ((x.1 : Nat) : Int), .int .i64 (xs.getD x.1 0)] W fun e W' =>
      (e = .returned (.bool true) ∧ J (pre ++ [x]) W' ∧ KeepsTwo b1 b2 W W') ∨ (e = .returned (.bool false) ∧ Jx (pre ++ [x]) W'))
    (W : World) (h1 : SliceBox W b1 30 a xs.length cap) (h2 : NumsAt W b2 a xs) (h0 : J [] W) (hk : xs.length ≤ 100000) :
    CallsIn Fence.wide n Try.prog 85 #[.func (.yield l) #[] #[], .pointer (some ⟨b1, 0, none⟩)] W fun e W' => (∃ v, e = .returned v) ∧
      ((∃ ys, ys.map (·.1) = downTo xs.length 0 ∧ J ys W') ∨ (∃ pre, True ∧ Jx pre W')) := by
  refine callsIn_of_wp Try.func85 rfl trivial ?_ rfl
  simp only [Try.ntmps85, List.size_toArray, List.length_cons, List.length_nil, Nat.reduceAdd, Nat.reduceSub, Array.replicate_succ, Array.replicate_zero, List.push_toArray, List.append_toArray, List.nil_append, List.cons_append]
  have HY := Lib.hid hY
  clear hY
  have c1 := h1.cell
  obtain ⟨L, hL⟩ : ∃ L, L = xs.length := ⟨_, rfl⟩
  have HL := Lib.hid hL
  rw [← hL] at c1 hk
  gi_wp2
  gi_loopw [3] (fun i wr => ∃ (j : Nat) (ys : List (_root_.Fin xs.length)), j ≤ L ∧ i = .int .i64 ((j : Int) - 1) ∧ Hid (ys.map (·.1) = downTo xs.length j) ∧ J ys wr ∧ SliceBox wr b1 30 a xs.length cap ∧ NumsAt wr b2 a xs)
    (fun i _ => (intOf i + 1).toNat)
  case atStart => exact ⟨L, [], Nat.le_refl _, by rw [hL], by rw [hL, downTo_start]; rfl, h0, h1, h2⟩
  case round =>
    obtain ⟨j, ys, hj, rfl, HYS, hJ, h1', h2'⟩ := hrel
    cases j with
    | zero =>
      clear HY
      gi_wp2
      go_end0
      exact ⟨⟨_, rfl⟩, .inl ⟨_, HYS.out, hJ⟩⟩
    | succ j =>
      have hlt : j < xs.length := by omega
      have hlen : ys.length < xs.length := by
        have := congrArg List.length HYS.out
        rw [downTo_length] at this
        simp at this; omega
      have HZ : Hid ((ys ++ [(⟨j, hlt⟩ : _root_.Fin xs.length)]).map (·.1) = downTo xs.length j) := by unfold Hid; rw [downTo_step hlt, List.map_append, HYS.out]; rfl
      obtain ⟨o, ha, hc⟩ := h2' j (xs.getD j 0) (by simp [List.getElem?_eq_getElem hlt])
      obtain ⟨fn, tmps, assign, body, hy, hR⟩ := HY.out _ ⟨j, hlt⟩ wr hJ hlen
      dsimp only at hy
      have c1 := h1'.cell
      rw [← hL] at c1 hlt
      have hs : ((j + 1 : Nat) : Int) - 1 = j := by omega
      rw [hs]
      generalize xs.getD j 0 = d at *
      have HA := Lib.hid ha
      rw [ha] at c1
      clear ha
      gi_wp2
      refine hR.mono ?_
      rintro e W3 (⟨rfl, hJ3, hk3⟩ | ⟨rfl, hJx3⟩)
      · have b1 : SliceBox W3 _ _ _ _ _ := hk3.1.trans h1'
        have b2 := h2'.kept hk3.2
        clear hy hk3 hJ h1' h2' c1 hc
        gi_wp2
        go_roundw
        case rel => exact ⟨j, _, by omega, by go_num, HZ, hJ3, b1, b2⟩
        case measure => simp [intOf]
      · gi_wp2
        refine bodyPost_ret (results_none rfl _ _ _) rfl ?_
        exact ⟨⟨_, rfl⟩, .inr ⟨_, trivial, hJx3⟩⟩

theorem back_stops (n : Nat) (hn : 1 ≤ n) (b1 b2 : Nat) (a : Option Addr) (cap : Nat) (xs : List Int) (hk : xs.length ≤ 100000) (w : World) (hb1 : b1 < w.heap.size) (hb2 : b2 < w.heap.size)
    (h1 : SliceBox w b1 30 a xs.length cap) (h2 : NumsAt w b2 a xs) :
    SeqStopsK Fence.wide n Try.prog 85 #[.pointer (some ⟨b1, 0, none⟩)] (fun x : _root_.Fin xs.length => #[.int .i64 ((x.1 : Nat) : Int), .int .i64 (xs.getD x.1 0)]) (KeepsTwo b1 b2) (fun ys => ys.map (·.1) = downTo xs.length 0) (fun _ => True) xs.length w :=
  fun l J Jx W hW _ _ hY h0 => back1_in n hn l b1 b2 a cap xs J Jx hY W ((hW.block b1 hb1).trans h1) (h2.kept (hW.block b2 hb2)) h0 hk

set_option maxHeartbeats 400000 in
theorem back_law (a : Option Addr) (n c : Nat) (w : World) : Calls Try.prog 49 #[.slice a n c] w fun e w' =>
    e = .returned (.func (.func 85) #[] #[.pointer (some ⟨w.heap.size, 0, none⟩)]) ∧ SliceBox w' w.heap.size 30 a n c ∧ Below w.heap.size w w' ∧ w'.heap.size = w.heap.size + 1 := by
  go_enter Try.func49, Try.ntmps49
  go_wp2_with fail
  go_ret
  exact ⟨rfl, heap_alloc_new w _, (Below.refl _ _).alloc (Nat.le_refl _) _, by simp⟩
end Go.Proofs.Ytbacloneddnaeaa
