/- Texts of this claim, joined: E1, E2, E6. -/
import Derived.Test.YtajjgfiojlagmaaGreatDoorMO18
import Derived.Deep.AppendSrc
import Derived.Laws.IdiomStrings
import Derived.Lib.AppendIntMem
import Derived.Lib.UnsafeStr
import Derived.Test.YtajjgfiojlagmaaGreatDoorShelf
import Derived.Lib.Walk
import Derived.Lib.ItoaWalk
import Derived.Lib.ItoaMem
import Derived.Lib.Slices
import Derived.Lib.Hide
import Derived.CellFam
import Derived.Test.YtajjgfiojlagmaaGreatDoorMO13

/- A row of bytes of one's own, whatever its marks (a converted text is marked): append to it. -/
namespace Go.Proofs.YtajjgfiojlagmaaGreatDoor
open Go.RowKit

def OwnM (w : World) (b : Nat) (v : Value) (n : Nat) (xs : List Value) : Prop :=
  ∃ g cap, v = .slice (some ⟨g, 0, none⟩) n cap ∧ b ≤ g ∧ g < w.heap.size ∧ n ≤ cap ∧ cap ≤ maxLen ∧ xs.length = n ∧ (∀ j u, xs[j]? = some u → w.cell? ⟨g, j, none⟩ = some u) ∧ ∀ j, j < cap → (w.cell? ⟨g, j, none⟩).isSome = true ∧ w.frozen? ⟨g, j, none⟩ = false
theorem below_setCells {b g : Nat} (hg : b ≤ g) : ∀ (vs : List Value) (o : Nat) (w w0 : World), Below b w0 w → Below b w0 (w.setCells g o vs)
  | [], _, _, _, h => h
  | v :: r, o, w, w0, h => below_setCells hg r (o + 1) _ w0 (h.setCell (p := ⟨g, o, none⟩) hg v)
theorem OwnM.keep {w w' : World} {b : Nat} {v : Value} {n : Nat} {xs : List Value} (h : OwnM w b v n xs) (hb : Below w.heap.size w w') : OwnM w' b v n xs := by
  obtain ⟨g, cap, e, h1, h2, h3, h4, h5, h6, h7⟩ := h
  have hk := hb.block g h2
  refine ⟨g, cap, e, h1, Nat.lt_of_lt_of_le h2 hb.size, h3, h4, h5, fun j u hj => ?_, fun j hj => ?_⟩
  · rw [World.cell?_of_block (a := ⟨g, j, none⟩) hk]; exact h6 j u hj
  · rw [World.cell?_of_block (a := ⟨g, j, none⟩) hk, World.frozen?_of_block (a := ⟨g, j, none⟩) hk]; exact h7 j hj
theorem OwnM.mono {w : World} {b b' : Nat} {v : Value} {n : Nat} {xs : List Value} (h : OwnM w b v n xs) (hb : b' ≤ b) : OwnM w b' v n xs := by
  obtain ⟨g, cap, e, h1, h2⟩ := h
  exact ⟨g, cap, e, Nat.le_trans hb h1, h2⟩
theorem OwnM.slice {w : World} {b : Nat} {v : Value} {n : Nat} {xs : List Value} (h : OwnM w b v n xs) : ∃ g cap, v = .slice (some ⟨g, 0, none⟩) n cap := by
  obtain ⟨g, cap, e, _⟩ := h
  exact ⟨g, cap, e⟩
section
variable {P : Program}
theorem append_m (w : World) (t tx ty E : TypeId) (i : TypeInfo) (z : Value) (ht : P.underlying t = some (.slice E)) (hi : P.info? E = some i) (hz : i.zero = some z) (hsize : i.size = 1) (hby : i.bytes = 1) (hzs : z.cells.size = 1)
    (b : Nat) (v : Value) (n : Nat) (xs : List Value) (hown : OwnM w b v n xs) (hb : b ≤ w.heap.size) (x : Value) (m : Nat) (news : List Value) (hs : Src P 1 tx x m news w) (h63 : n + m ≤ maxLen) (hbytes : n + m ≤ 140737488355328) :
    ∃ v' w', (Builtin.append_ #[t, tx] ty #[v, x]).run P w = .ok v' w' ∧ OwnM w' b v' (n + m) (xs ++ news) ∧ Below b w w' := by
  obtain ⟨g, cap, rfl, h1, h2, h3, h4, h5, h6, h7⟩ := hown
  have hnl : news.length = m := by have := hs.newsLen; omega
  have hs' : Src P i.size tx x m news w := by rw [hsize]; exact hs
  by_cases hroom : n + m ≤ cap
  · have hr := run_append_room_src (P := P) w t tx ty E i ht hi g 0 n cap x m news hs' hroom (fun j hj => by rw [hsize]; have := (h7 (n + j) (by omega)).1; simpa using this) (fun j hj => by rw [hsize]; have := (h7 (n + j) (by omega)).2; simpa using this)
    rw [hsize, Nat.mul_one, Nat.zero_add] at hr
    have hBs := below_setCells h1 news n w w (Below.refl b w)
    refine ⟨_, _, hr, ⟨g, cap, rfl, h1, Nat.lt_of_lt_of_le h2 hBs.size, hroom, h4, by rw [List.length_append]; omega, fun j u hj => ?_, fun j hj => ?_⟩, hBs⟩
    · by_cases hjn : j < n
      · rw [World.cell?_setCells_out g news n w ⟨g, j, none⟩ (fun _ _ => .inl hjn)]
        rw [List.getElem?_append_left (by omega)] at hj
        exact h6 j u hj
      · rw [List.getElem?_append_right (by omega), h5] at hj
        have hjl := (List.getElem?_eq_some_iff.1 hj).1
        have hin := World.cell?_setCells_in g news n w (fun k hk => (h7 (n + k) (by omega)).1) (j - n) hjl
        rw [show n + (j - n) = j by omega] at hin
        rw [hin, ← hj, List.getElem?_eq_getElem hjl]
    · rw [World.frozen?_setCells]
      refine ⟨?_, (h7 j hj).2⟩
      by_cases hin : n ≤ j ∧ j < n + news.length
      · have h := World.cell?_setCells_in g news n w (fun k hk => (h7 (n + k) (by omega)).1) (j - n) (by omega)
        rw [show n + (j - n) = j by omega] at h
        rw [h]; rfl
      · rw [World.cell?_setCells_out g news n w ⟨g, j, none⟩ (fun _ _ => by simp only; omega)]
        exact (h7 j hj).1
  · have hold : (Builtin.firstCells i.size n (.slice (some ⟨g, 0, none⟩) n cap)).run P w.drew = .ok xs.toArray w.drew :=
      run_firstCells_some w.drew i.size n ⟨g, 0, none⟩ n cap xs (by rw [hsize]; omega) (fun j u hj => by
        rw [Addr.add_lit, Nat.zero_add]
        simpa using h6 j u hj)
    have hr := run_append_grow_src (P := P) w t tx ty E i z ht hi hz (some ⟨g, 0, none⟩) n cap xs hold x m news hs' (by omega) (by simp only [maxLen] at h63; omega) (growslice_fits (by omega) (by rw [hby, Nat.mul_one]; exact hbytes))
    have hge := grownCap_ge w (n + m) cap E
    have hnew : (w.drew.alloc (.cells ((xs ++ news).toArray ++ Builtin.zeroCells z.cells (grownCap w (n + m) cap E - (n + m))) E)).heap[w.heap.size]? = some (.cells ((xs ++ news).toArray ++ Builtin.zeroCells z.cells (grownCap w (n + m) cap E - (n + m))) E (0, 0)) := heap_alloc_new w.drew _
    have hsz : ((xs ++ news).toArray ++ Builtin.zeroCells z.cells (grownCap w (n + m) cap E - (n + m))).size = grownCap w (n + m) cap E := by
      simp only [Array.size_append, List.size_toArray, size_zeroCells, hzs, List.length_append, h5, hnl]
      omega
    refine ⟨_, _, hr, ⟨w.heap.size, _, rfl, hb, by simp, hge, grownCap_le_maxLen w (n + m) cap E h63, by rw [List.length_append]; omega, fun j u hj => ?_, fun j hj => ⟨?_, blk_free hnew j⟩⟩, (Below.refl b w).drew.alloc hb _⟩
    · refine blk_cell hnew j ?_
      rw [Array.getElem?_append_left (by have := (List.getElem?_eq_some_iff.1 hj).1; simpa using this)]
      simpa using hj
    · rw [blk_cell hnew j (Array.getElem?_eq_getElem (by rw [hsz]; exact hj))]; rfl
theorem wpList_append_m {ops : Array Oper} {rest : List Oper} {o : Oper} {a : Act} {Q : Exit → Act → World → Prop} (w : World) (hgd : o.guard = none) (s x : Operand) (t tx : TypeId) (ho : o.op = .call { callee := .builtin .append, args := #[s, x], argTypes := #[t, tx] })
    (E : TypeId) (i : TypeInfo) (z : Value) (ht : P.underlying t = some (.slice E)) (hi : P.info? E = some i) (hz : i.zero = some z) (hsize : i.size = 1) (hby : i.bytes = 1) (hzs : z.cells.size = 1)
    (b : Nat) (v : Value) (n : Nat) (xs : List Value) (hsv : a.eval s = v) (hown : OwnM w b v n xs) (hb : b ≤ w.heap.size) (xv : Value) (m : Nat) (news : List Value) (hx : a.eval x = xv) (hs : Src P 1 tx xv m news w) (h63 : n + m ≤ maxLen) (hbytes : n + m ≤ 140737488355328)
    (h : ∀ v' w', OwnM w' b v' (n + m) (xs ++ news) → Below b w w' → wpList P ops Q rest (a.put o.dst v') w') : wpList P ops Q (o :: rest) a w := by
  refine wpList_plain hgd fun _ hK => ?_
  obtain ⟨v', w', hr, h2, h3⟩ := append_m (P := P) w t tx o.type E i z ht hi hz hsize hby hzs b v n xs hown hb xv m news hs h63 hbytes
  unfold Oper.wp execOp
  simp only [ho, resolve, invoke, builtin, Sem.run_bind, Sem.run_pure, Result.andThen_ok, List.map_toArray, List.map_cons, List.map_nil, hsv, hx, hr]
  exact hK _ _ (h v' w' h2 h3)
theorem bytes_m (w : World) (src dst E : TypeId) (l : List UInt8) (hs : P.underlying src = some .string) (hd : P.underlying dst = some (.slice E)) (he : P.underlying E = some (.int .u8)) (hl : l.length ≤ 1000000000) :
    ∃ v w', (convert src dst (.string ⟨l.toArray⟩)).run P w = .ok v w' ∧ OwnM w' w.heap.size v l.length (Lib.byteCells l) ∧ Below w.heap.size w w' := by
  have hr := run_bytes_of_string (P := P) w src dst E ⟨l.toArray⟩ hs hd he
  have hsz : (⟨l.toArray⟩ : ByteArray).size = l.length := by simp [ByteArray.size]
  rw [hsz] at hr
  have hge := grownCap_ge w l.length 0 E
  have hrow : (bytesRow ⟨l.toArray⟩ (grownCap w l.length 0 E)).size = grownCap w l.length 0 E := by
    simp [bytesRow, hsz]; omega
  rw [hrow] at hr
  generalize hC : grownCap w l.length 0 E = C at *
  have hnew : (w.drew.alloc (.cells (bytesRow ⟨l.toArray⟩ C) E (C, C + 1))).heap[w.heap.size]? = some (.cells (bytesRow ⟨l.toArray⟩ C) E (C, C + 1)) := heap_alloc_new w.drew _
  have hcell : ∀ j u, (bytesRow ⟨l.toArray⟩ C)[j]? = some u → (w.drew.alloc (.cells (bytesRow ⟨l.toArray⟩ C) E (C, C + 1))).cell? ⟨w.heap.size, j, none⟩ = some u := fun j u hj => by
    simp only [World.cell?, hnew]
    exact hj
  refine ⟨_, _, hr, ⟨w.heap.size, C, rfl, Nat.le_refl _, by simp, hge, ?_, Lib.byteCells_length l, fun j u hj => ?_, fun j hj => ⟨?_, ?_⟩⟩, (Below.refl _ w).drew.alloc (by simp) _⟩
  · rw [← hC]; exact grownCap_le_maxLen w l.length 0 E (by unfold maxLen; omega)
  · refine hcell j u ?_
    have hjl := (List.getElem?_eq_some_iff.1 hj).1
    rw [Lib.byteCells_length] at hjl
    unfold bytesRow
    rw [Array.getElem?_append_left (by simpa using hjl)]
    simpa [Lib.byteCells] using hj
  · rw [hcell j _ (Array.getElem?_eq_getElem (by rw [hrow]; exact hj))]; rfl
  · simp only [World.frozen?, hnew]
    simp
    omega
theorem text_m {w : World} {b : Nat} {v : Value} {l : List UInt8} {n : Nat} (h : OwnM w b v n (Lib.byteCells l)) (src dst E : TypeId) (hs : P.underlying src = some (.slice E)) (he : P.underlying E = some (.int .u8)) (hd : P.underlying dst = some .string) :
    (convert src dst v).run P w = .ok (.string ⟨l.toArray⟩) w := by
  obtain ⟨g, cap, rfl, h1, h2, h3, h4, h5, h6, h7⟩ := h
  rw [Lib.byteCells_length] at h5
  subst h5
  exact run_convert_bytes_back w src dst E ⟨g, 0, none⟩ cap l hs he hd (fun j hj => by
    rw [Addr.add_lit, Nat.zero_add]
    exact h6 j _ (by simp [Lib.byteCells, hj]))
end
end Go.Proofs.YtajjgfiojlagmaaGreatDoor

/- strconv.AppendInt onto a row of bytes with whatever marks. -/
namespace Go.Proofs.YtajjgfiojlagmaaGreatDoor
open Go.RowKit Go.Sort Go.Lib Go.Shelf

def TabI (w : World) : Prop := Lib.TabIs Tryz.prog w "internal/strconv.uint64pow10" .u64 Lib.pow10Tab
theorem TabI.below {w w' : World} (h : TabI w) (hb : Below w.heap.size w w') : TabI w' := by
  unfold TabI Lib.TabIs World.var? at *
  cases hg : Tryz.prog.globalNamed "internal/strconv.uint64pow10" with
  | none => simp [hg] at h
  | some g =>
    simp only [hg, Option.bind_some] at h ⊢
    have hlt : g < w.heap.size := by
      rcases Nat.lt_or_ge g w.heap.size with h' | h'
      · exact h'
      · rw [Array.getElem?_eq_none h'] at h; simp at h
    rw [hb.block g hlt]
    exact h
theorem Tryz.infoByteE : (Tryz.prog.info? 5).map (fun i => (i.zero, i.size, i.bytes)) = some (some (.int .u8 0), 1, 1) := by kernel_rfl

set_option maxHeartbeats 6400000 in
set_option maxRecDepth 100000 in
theorem gAppendUintS (B n u : Nat) (hu : u < 100) (sv : Value) (xs : List Value) (w : World) (hown : OwnM w B sv n xs) (hBw : B ≤ w.heap.size) (hlim : n + 20 ≤ 1000000000) :
    Calls Tryz.prog 84 #[sv, .int .u64 u, .int .i64 10] w fun e w' => ∃ v', e = .returned v' ∧ OwnM w' B v' (n + (Lib.decDigits u).length) (xs ++ Lib.byteCells (Lib.decDigits u)) ∧ Below B w w' := by
  obtain ⟨i0, hi, hz0, hz1, hz2⟩ := info_parts Tryz.infoByteE
  have hlen : (Lib.decDigits u).length ≤ 20 := by
    rw [Lib.decDigits_length]
    by_cases h10 : u < 10
    · rw [Lib.nDigits_small h10]; omega
    · rw [Lib.nDigits_big h10, Lib.nDigits_small (show u / 10 < 10 by omega)]; omega
  have hsz : (⟨(Lib.decDigits u).toArray⟩ : ByteArray).size = (Lib.decDigits u).length := by simp [ByteArray.size]
  have KS := Tryz.internal_strconv_small u hu w
  obtain ⟨g, cap, e⟩ := hown.slice
  subst e
  have HO := Lib.hid hown
  have iu : (u : Int) < 100 := by omega
  have hsrc := Lib.hid (Src.ofString (P := Tryz.prog) w Tryz.underlying9 ⟨(Lib.decDigits u).toArray⟩)
  rw [hsz] at hsrc
  have HSR := Lib.hid hsrc
  clear hown hsrc
  have HI := Lib.hid hi
  have HZ0 := Lib.hid hz0
  have HZ1 := Lib.hid hz1
  have HZ2 := Lib.hid hz2
  clear hi hz0 hz1 hz2
  generalize hS : (⟨(Lib.decDigits u).toArray⟩ : ByteArray) = S at *
  have HS := Lib.hid hS
  clear hS hsz
  go_enter Tryz.func84, Tryz.ntmps84
  go_wp2_with fail
  refine KS.mono ?_
  rintro e w' ⟨rfl, rfl⟩
  go_wp2_with (at_builtin; refine wpList_append_m _ rfl _ _ 50 9 rfl 5 i0 (.int .u8 0) Tryz.underlying50 HI.out HZ0.out HZ1.out HZ2.out rfl B _ n xs rfl HO.out hBw _ _ _ rfl HSR.out (by unfold maxLen; omega) (by omega) ?_)
  intro v' w1 hown' hgrow
  obtain ⟨g', cap', e'⟩ := hown'.slice
  subst e'
  have HO' := Lib.hid hown'
  have HG := Lib.hid hgrow
  clear hown' hgrow
  go_wp2_with fail
  go_ret
  refine ⟨_, rfl, ?_, HG.out⟩
  have := HO'.out
  rw [← HS.out] at this
  exact this

set_option maxHeartbeats 12800000 in
set_option maxRecDepth 100000 in
theorem gAppendUintB (B n u : Nat) (hu : 100 ≤ u) (hu64 : u < 18446744073709551616) (sv : Value) (xs : List Value) (w : World) (hown : OwnM w B sv n xs) (hBw : B ≤ w.heap.size) (hlim : n + 20 ≤ 1000000000) (htab : TabI w) :
    Calls Tryz.prog 84 #[sv, .int .u64 u, .int .i64 10] w fun e w' => ∃ v', e = .returned v' ∧ OwnM w' B v' (n + (Lib.decDigits u).length) (xs ++ Lib.byteCells (Lib.decDigits u)) ∧ Below B w w' := by
  obtain ⟨i0, hi, hz0, hz1, hz2⟩ := info_parts Tryz.infoByteE
  have hu1 : 1 ≤ u := by omega
  have hnd20 : Lib.nDigits u ≤ 20 := by have := Lib.numDigits_eq u hu1 hu64; split at this <;> omega
  have hal : Tryz.prog.arrayLen 125 = 24 := by simp [Program.arrayLen, Tryz.underlying125]
  -- 'a[:nd]', for the walk to take
  have hsl : ∀ W, (Instr.sliceAt 125 (.pointer (some ⟨w.heap.size, 0, none⟩)) none (some (.int .i64 (Lib.nDigits u : Int))) none).run Tryz.prog W = .ok (.slice (some ⟨w.heap.size, 0, none⟩) (Lib.nDigits u) 24) W := fun W => by
    rw [run_sliceAt_array_h W 125 ⟨w.heap.size, 0, none⟩ (by simp [Program.arrayLen, Program.elem, Tryz.underlying125]) .i64 (Lib.nDigits u : Int) (by omega) (by rw [hal]; omega)]
    go_simp
  -- formatBase10's contract at the new block's row of zeros
  have hH0 := Lib.holds_zero0 w 125 (Lib.nDigits u) (by omega)
  have hfmt := Tryz.internal_strconv_formatBase10 w.heap.size 0 24 u (Array.replicate (Lib.nDigits u) 0) (w.alloc (.cells Lib.zeros24 125)) hH0 (by rw [Array.size_replicate]; exact Lib.lt_pow_nDigits u) hu64 (by rw [Array.size_replicate]; omega)
  rw [Array.size_replicate] at hfmt
  have HH0 := Lib.hid hH0
  have iu : (100 : Int) ≤ (u : Int) := by omega
  have KD := Tryz.internal_strconv_numDigits u hu1 hu64 _ (Lib.tabIs_alloc htab (.cells Lib.zeros24 125))
  clear hH0 hal
  obtain ⟨g, cap, e⟩ := hown.slice
  subst e
  have HO := Lib.hid hown
  clear hown
  go_enter Tryz.func84, Tryz.ntmps84
  go_wp2_with fail
  refine KD.mono ?_
  rintro e w' ⟨rfl, rfl⟩
  go_wp2_with fail
  refine hfmt.mono ?_
  rintro e w' ⟨rfl, k, v', dk, rfl, hF⟩
  have hcells : ∀ j u', (Lib.byteCells (Lib.decDigits u))[j]? = some u' → ((putRow (fun (b : UInt8) => Value.int .u8 (b.toNat : Int)) (w.alloc (.cells Lib.zeros24 125)) w.heap.size 0 dk).drewN k).cell? ((⟨w.heap.size, 0, none⟩ : Addr).add j) = some u' := by
    intro j u' hj
    have hjl : j < (Lib.decDigits u).length := by
      have h5 := (List.getElem?_eq_some_iff.1 hj).1
      rwa [Lib.byteCells_length] at h5
    have e5 : (Lib.byteCells (Lib.decDigits u))[j]? = some (Value.int .u8 ((Lib.decDigits u)[j].toNat : Int)) := by simp [Lib.byteCells, hjl]
    rw [e5] at hj
    cases hj
    rw [Lib.row_is_numeral hF j hjl, Lib.add_plain, World.cell?_drewN]
    exact cell?_putRow (fun (b : UInt8) => Value.int .u8 (b.toNat : Int)) _ w.heap.size 0 _ dk HH0.out (by rw [hF.size, Array.size_replicate]) j (by rw [hF.size]; rw [Lib.decDigits_length] at hjl; exact hjl)
  obtain ⟨os, eo⟩ := Lib.fin_at w (.cells Lib.zeros24 125) dk k 0
  have hnw : Below w.heap.size w ((putRow (fun (b : UInt8) => Value.int .u8 (b.toNat : Int)) (w.alloc (.cells Lib.zeros24 125)) w.heap.size 0 dk).drewN k) := by rw [eo]; exact Lib.below_grow w.heap.size w (Nat.le_refl _) k os
  have hown2 := HO.out.keep hnw
  generalize (putRow (fun (b : UInt8) => Value.int .u8 (b.toNat : Int)) (w.alloc (.cells Lib.zeros24 125)) w.heap.size 0 dk).drewN k = W2 at hcells hown2 hnw ⊢
  have HO2 := Lib.hid hown2
  have HNW := Lib.hid hnw
  have hs2 := hnw.size
  have HSR := Lib.hid (Src.ofSlice (P := Tryz.prog) (size := 1) W2 Tryz.underlying50 ⟨w.heap.size, 0, none⟩ (Lib.nDigits u) 24 (Lib.byteCells (Lib.decDigits u)) (by rw [Lib.byteCells_length, Lib.decDigits_length, Nat.mul_one]) hcells (by
    intro u' hu'
    simp only [Lib.byteCells, List.mem_map] at hu'
    obtain ⟨b, _, rfl⟩ := hu'
    rfl))
  clear eo HH0 hfmt hcells hown2 hnw KD
  go_wp2_with (at_builtin; refine wpList_append_m _ rfl _ _ 50 50 rfl 5 i0 (.int .u8 0) Tryz.underlying50 hi hz0 hz1 hz2 rfl B _ n xs rfl HO2.out (by omega) _ _ _ rfl HSR.out (by unfold maxLen; omega) (by omega) ?_)
  intro v2 w3 hown' hgrow
  obtain ⟨g', cap', e'⟩ := hown'.slice
  subst e'
  have HO' := Lib.hid hown'
  have HG := Lib.hid hgrow
  clear hown' hgrow
  go_wp2_with fail
  go_ret
  refine ⟨_, rfl, ?_, (HNW.out.mono hBw).trans HG.out⟩
  rw [Lib.decDigits_length]
  exact HO'.out

theorem gAppendUint (B n u : Nat) (hu64 : u < 18446744073709551616) (sv : Value) (xs : List Value) (w : World) (hown : OwnM w B sv n xs) (hBw : B ≤ w.heap.size) (hlim : n + 20 ≤ 1000000000) (htab : TabI w) :
    Calls Tryz.prog 84 #[sv, .int .u64 u, .int .i64 10] w fun e w' => ∃ v', e = .returned v' ∧ OwnM w' B v' (n + (Lib.decDigits u).length) (xs ++ Lib.byteCells (Lib.decDigits u)) ∧ Below B w w' := by
  by_cases h : u < 100
  · exact gAppendUintS B n u h sv xs w hown hBw hlim
  · exact gAppendUintB B n u (by omega) hu64 sv xs w hown hBw hlim htab

set_option maxHeartbeats 6400000 in
set_option maxRecDepth 100000 in
theorem gAppendIntI (B n : Nat) (i : Int) (h0 : -9223372036854775808 ≤ i) (h1 : i ≤ 9223372036854775807) (sv : Value) (xs : List Value) (w : World) (hown : OwnM w B sv n xs) (hBw : B ≤ w.heap.size) (hlim : n + 21 ≤ 1000000000) (htab : TabI w) (hTB : ∀ w', Below B w w' → TabI w') :
    Calls Tryz.prog 56 #[sv, .int .i64 i, .int .i64 10] w fun e w' => ∃ v', e = .returned v' ∧ OwnM w' B v' (n + (Lib.itoa i).length) (xs ++ Lib.byteCells (Lib.itoa i)) ∧ Below B w w' := by
  obtain ⟨i0, hi, hz0, hz1, hz2⟩ := info_parts Tryz.infoByteE
  by_cases hneg : i < 0
  · obtain ⟨u, rfl⟩ : ∃ u : Nat, i = -(u : Int) := ⟨i.natAbs, by omega⟩
    have hu1 : 1 ≤ u := by omega
    have hu64 : u < 18446744073709551616 := by omega
    have hwr : IntKind.u64.wrap (-IntKind.u64.wrap (-(u : Int))) = (u : Int) := by rw [IntKind.wrap_u64, IntKind.wrap_u64]; omega
    rw [Lib.itoa_neg u hu1]
    obtain ⟨g, cap, e⟩ := hown.slice
    subst e
    have HO := Lib.hid (hown.keep (below_one w (.cells #[Value.int .u8 45] 5)))
    have HSR := Lib.hid (Src.ofSlice (P := Tryz.prog) (size := 1) (w.alloc (.cells #[Value.int .u8 45] 5)) Tryz.underlying50 ⟨w.heap.size, 0, none⟩ 1 1 [Value.int .u8 45] rfl (fun j u hj => by
      rw [Addr.add_lit, Nat.zero_add]
      exact blk_cell (new_one w _) j (by simpa using hj)) (by simp [Value.oneCell']))
    have HTB := Lib.hid hTB
    clear hown hTB htab
    go_enter Tryz.func56, Tryz.ntmps56
    go_wp2_with (at_builtin; refine wpList_append_m _ rfl _ _ 50 50 rfl 5 i0 (.int .u8 0) Tryz.underlying50 hi hz0 hz1 hz2 rfl B _ n xs rfl HO.out (by simp; omega) _ _ _ rfl HSR.out (by unfold maxLen; omega) (by omega) ?_)
    intro v1 w1 hown1 hgrow
    have hnx1 : Below B w w1 := ((Below.refl B w).alloc hBw _).trans hgrow
    obtain ⟨g1, cap1, e1⟩ := hown1.slice
    subst e1
    have KU := gAppendUint B (n + 1) u hu64 _ _ w1 hown1 (by have := hnx1.size; omega) (by omega) (HTB.out w1 hnx1)
    have HNX := Lib.hid hnx1
    clear hown1 hgrow hnx1 HO HSR HTB
    go_wp2_with fail
    refine KU.mono ?_
    rintro e w2 ⟨v2, rfl, hown2, hnx2⟩
    obtain ⟨g2, cap2, e2⟩ := hown2.slice
    subst e2
    have HO2 := Lib.hid hown2
    have HN2 := Lib.hid hnx2
    clear hown2 hnx2 KU
    go_wp2_with fail
    go_ret
    have e1 : n + ((Lib.decDigits u).length + 1) = n + 1 + (Lib.decDigits u).length := by omega
    have e2 : xs ++ Lib.byteCells (45 :: Lib.decDigits u) = xs ++ [Value.int .u8 45] ++ Lib.byteCells (Lib.decDigits u) := by simp [Lib.byteCells]
    refine ⟨_, rfl, ?_, HNX.out.trans HN2.out⟩
    show OwnM w2 B (.slice (some ⟨g2, 0, none⟩) (n + 1 + (Lib.decDigits u).length) cap2) (n + (45 :: Lib.decDigits u).length) _
    rw [List.length_cons, e1, e2]
    exact HO2.out
  · obtain ⟨u, rfl⟩ : ∃ u : Nat, i = u := ⟨i.toNat, by omega⟩
    have hu64 : u < 18446744073709551616 := by omega
    rw [Lib.itoa_nonneg]
    have KU := gAppendUint B n u hu64 _ _ w hown hBw (by omega) htab
    obtain ⟨g, cap, e⟩ := hown.slice
    subst e
    clear hown hTB htab
    go_enter Tryz.func56, Tryz.ntmps56
    go_wp2_with fail
    refine KU.mono ?_
    rintro e w2 ⟨v2, rfl, hown2, hnx2⟩
    obtain ⟨g2, cap2, e2⟩ := hown2.slice
    subst e2
    have HO2 := Lib.hid hown2
    have HN2 := Lib.hid hnx2
    clear hown2 hnx2 KU
    go_wp2_with fail
    go_ret
    exact ⟨_, rfl, HO2.out, HN2.out⟩

set_option maxHeartbeats 3200000 in
set_option maxRecDepth 100000 in
theorem gAppendInt (B n : Nat) (i : Int) (h0 : -9223372036854775808 ≤ i) (h1 : i ≤ 9223372036854775807) (sv : Value) (xs : List Value) (w : World) (hown : OwnM w B sv n xs) (hBw : B ≤ w.heap.size) (hlim : n + 21 ≤ 1000000000) (hTB : ∀ w', Below B w w' → TabI w') :
    Calls Tryz.prog 32 #[sv, .int .i64 i, .int .i64 10] w fun e w' => ∃ v', e = .returned v' ∧ OwnM w' B v' (n + (Lib.itoa i).length) (xs ++ Lib.byteCells (Lib.itoa i)) ∧ Below B w w' := by
  have KU := gAppendIntI B n i h0 h1 _ _ w hown hBw hlim (hTB w (Below.refl _ _)) hTB
  obtain ⟨g, cap, e⟩ := hown.slice
  subst e
  clear hown hTB
  go_enter Tryz.func32, Tryz.ntmps32
  go_wp2_with fail
  refine KU.mono ?_
  rintro e w2 ⟨v2, rfl, hown2, hnx2⟩
  obtain ⟨g2, cap2, e2⟩ := hown2.slice
  subst e2
  have HO2 := Lib.hid hown2
  have HN2 := Lib.hid hnx2
  clear hown2 hnx2 KU
  go_wp2_with fail
  go_ret
  exact ⟨_, rfl, HO2.out, HN2.out⟩
end Go.Proofs.YtajjgfiojlagmaaGreatDoor

/- append of a string's bytes to a row with whatever marks, in a region that draws its order. -/
namespace Go.Proofs.YtajjgfiojlagmaaGreatDoor
open Go.RowKit

def setAll : Array Value → Nat → List Value → Array Value
  | cur, _, [] => cur
  | cur, o, v :: r => setAll (cur.setIfInBounds o v) (o + 1) r
theorem setAll_size : ∀ (vs : List Value) (o : Nat) (cur : Array Value), (setAll cur o vs).size = cur.size
  | [], _, _ => rfl
  | v :: r, o, cur => by unfold setAll; rw [setAll_size r]; simp
theorem setAll_out : ∀ (vs : List Value) (o : Nat) (cur : Array Value) (j : Nat), (j < o ∨ o + vs.length ≤ j) → (setAll cur o vs)[j]? = cur[j]?
  | [], _, _, _, _ => rfl
  | v :: r, o, cur, j, h => by
    unfold setAll
    rw [setAll_out r (o + 1) _ j (by rw [List.length_cons] at h; omega), Array.getElem?_setIfInBounds_ne (by rw [List.length_cons] at h; omega)]
theorem setAll_in : ∀ (vs : List Value) (o : Nat) (cur : Array Value) (j : Nat) (u : Value), o + vs.length ≤ cur.size → vs[j]? = some u → (setAll cur o vs)[o + j]? = some u
  | [], _, _, _, _, _, h => by simp at h
  | v :: r, o, cur, 0, u, hs, h => by
    unfold setAll
    rw [List.length_cons] at hs
    rw [setAll_out r (o + 1) _ (o + 0) (.inl (by omega))]
    rw [List.getElem?_cons_zero] at h
    cases h
    rw [Nat.add_zero]
    exact Array.getElem?_setIfInBounds_self_of_lt (by omega)
  | v :: r, o, cur, j + 1, u, hs, h => by
    unfold setAll
    rw [List.length_cons] at hs
    have := setAll_in r (o + 1) (cur.setIfInBounds o v) j u (by simp; omega) (by simpa using h)
    rw [show o + (j + 1) = o + 1 + j by omega]
    exact this
theorem heap_setCell_any {w : World} {b i : Nat} {cs : Array Value} {T : TypeId} {fr : Nat × Nat} (hb : w.heap[b]? = some (.cells cs T fr)) (v : Value) : (w.setCell ⟨b, i, none⟩ v).heap[b]? = some (.cells (cs.setIfInBounds i v) T fr) := by
  rw [setCell_eq_setRow w b i cs T fr v hb]
  exact setRow_heap w b cs _ T _ hb
theorem heap_setCells_same {g : Nat} {E : TypeId} {fr : Nat × Nat} : ∀ (vs : List Value) (o : Nat) (w : World) (cur : Array Value), w.heap[g]? = some (.cells cur E fr) → (w.setCells g o vs).heap[g]? = some (.cells (setAll cur o vs) E fr)
  | [], _, _, _, h => h
  | v :: r, o, w, cur, h => heap_setCells_same r (o + 1) _ _ (heap_setCell_any h v)
theorem heap_setCells_other {g : Nat} : ∀ (vs : List Value) (o : Nat) (w : World) (k : Nat), k ≠ g → (w.setCells g o vs).heap[k]? = w.heap[k]?
  | [], _, _, _, _ => rfl
  | v :: r, o, w, k, h => (heap_setCells_other r (o + 1) _ k h).trans (heap_setCell_other _ _ _ _ h)
theorem setCells_same (g : Nat) : ∀ (vs : List Value) (o : Nat) (w : World), (w.setCells g o vs).os = w.os ∧ (w.setCells g o vs).tape = w.tape ∧ (w.setCells g o vs).output = w.output ∧ (w.setCells g o vs).heap.size = w.heap.size
  | [], _, _ => ⟨rfl, rfl, rfl, rfl⟩
  | v :: r, o, w => by
    have h := setCells_same g r (o + 1) (w.setCell ⟨g, o, none⟩ v)
    exact ⟨h.1, h.2.1, h.2.2.1, h.2.2.2.trans (by simp)⟩

structure RowM (B : Blocks) (g n cap : Nat) (xs : List Value) (cur : Array Value) (E : TypeId) (fr : Nat × Nat) : Prop where
  blk : B g = some (.cells cur E fr)
  le : n ≤ cap
  mx : cap ≤ maxLen
  sz : cap ≤ cur.size
  get : ∀ (j : Nat) (u : Value), xs[j]? = some u → cur[j]? = some u
  len : xs.length = n
  unf : ∀ j, j < cap → ¬ (fr.1 ≤ j ∧ j < fr.2)
theorem OwnM.rowM {w : World} {b : Nat} {v : Value} {n : Nat} {xs : List Value} (h : OwnM w b v n xs) (h0 : 0 < n) : ∃ g cap cur E fr, v = .slice (some ⟨g, 0, none⟩) n cap ∧ b ≤ g ∧ RowM (inW w) g n cap xs cur E fr := by
  obtain ⟨g, cap, e, h1, h2, h3, h4, h5, h6, h7⟩ := h
  have hc0 := (h7 0 (by omega)).1
  unfold World.cell? at hc0
  simp only at hc0
  cases hb : w.heap[g]? with
  | none => rw [hb] at hc0; simp at hc0
  | some ob =>
    cases ob with
    | cells cur E fr =>
      have hce : ∀ j, w.cell? ⟨g, j, none⟩ = cur[j]? := fun j => by simp [World.cell?, hb]
      refine ⟨g, cap, cur, E, fr, e, h1, hb, h3, h4, ?_, fun j u hj => by rw [← hce]; exact h6 j u hj, h5, fun j hj hf => ?_⟩
      · rcases Nat.lt_or_ge cur.size cap with hlt | hge
        · exfalso
          have := (h7 cur.size hlt).1
          rw [hce] at this
          simp at this
        · exact hge
      · have := (h7 j hj).2
        simp only [World.frozen?, hb] at this
        simp at this
        have := this hf.1
        omega
    | _ => rw [hb] at hc0; simp at hc0
theorem RowM.own {w : World} {b g n cap : Nat} {xs : List Value} {cur : Array Value} {E : TypeId} {fr : Nat × Nat} (h : RowM (inW w) g n cap xs cur E fr) (hb : b ≤ g) : OwnM w b (.slice (some ⟨g, 0, none⟩) n cap) n xs := by
  have hbk : w.heap[g]? = some (.cells cur E fr) := h.blk
  have hce : ∀ j, w.cell? ⟨g, j, none⟩ = cur[j]? := fun j => by simp [World.cell?, hbk]
  refine ⟨g, cap, rfl, hb, lt_of_heap hbk, h.le, h.mx, h.len, fun j u hj => by rw [hce]; exact h.get j u hj, fun j hj => ⟨?_, ?_⟩⟩
  · rw [hce, Array.getElem?_eq_getElem (by have := h.sz; omega)]; rfl
  · simp only [World.frozen?, hbk]
    have := h.unf j hj
    simp
    omega
section
variable {P : Program} {ops : Array Oper} {w : World} {Wr : List Nat}
theorem lex_append_strM {kd : Nat → Nat} {Q : Act → Blocks → Prop} {B : Blocks} {rest : List Oper} {k d : Nat} {ty : TypeId} {pos : String} {after : Array Edge} {a : Act} (s y : Operand) (t u E : TypeId) (i : TypeInfo) (z : Value)
    (ht : P.underlying t = some (.slice E)) (hu : P.underlying u = some .string) (hi : P.info? E = some i) (hz : i.zero = some z) (hsize : i.size = 1) (hby : i.bytes = 1) (hzs : z.cells.size = 1)
    (g n cap : Nat) (xs : List Value) (cur : Array Value) (E0 : TypeId) (fr : Nat × Nat) (hrow : RowM B g n cap xs cur E0 fr) (hs : a.eval s = .slice (some ⟨g, 0, none⟩) n cap)
    (st : ByteArray) (hy : a.eval y = .string st)
    (h63 : n + st.size ≤ maxLen) (hbytes : n + st.size ≤ 140737488355328) (hW : g ∈ Wr ∨ w.heap.size ≤ g)
    (hk : kd k = if n + st.size ≤ cap then 2 else 5)
    (h : ∀ (g' cap' : Nat) (cur' : Array Value) (E' : TypeId) (fr' : Nat × Nat), RowM (B.put g' (.cells cur' E' fr')) g' (n + st.size) cap' (xs ++ byteCells st) cur' E' fr' → (g' = g ∨ (w.heap.size ≤ g' ∧ B g' = none)) →
      setSlot P ops d ty pos (.slice (some ⟨g', 0, none⟩) (n + st.size) cap') (fun a' => wpLex P ops w Wr kd Q rest (k + 1) a' (B.put g' (.cells cur' E' fr'))) a) :
    wpLex P ops w Wr kd Q (⟨some d, .call { callee := .builtin .append, args := #[s, y], argTypes := #[t, u] }, ty, pos, after, none⟩ :: rest) k a B := by
  have hl := byteCells_length st
  have hsrc : ∀ x, Src P i.size u (.string st) st.size (byteCells st) x := fun x => by rw [hsize]; exact Src.ofString x hu st
  have hcell : ∀ x, Has B x → ∀ j, x.cell? ⟨g, j, none⟩ = cur[j]? := fun x hx j => by
    have := hx g _ hrow.blk
    simp [World.cell?, this]
  have hexec : ∀ x r x', (Builtin.append_ #[t, u] ty #[.slice (some ⟨g, 0, none⟩) n cap, .string st]).run P x = .ok r x' →
      (execOp a.eval ⟨some d, .call { callee := .builtin .append, args := #[s, y], argTypes := #[t, u] }, ty, pos, after, none⟩).run P x = .ok (.value r) x' := fun x r x' hr => by
    unfold execOp
    simp only [resolve, invoke, builtin, Sem.run_bind, Sem.run_pure, Result.andThen_ok, List.map_toArray, List.map_cons, List.map_nil, hs, hy, hr]
  have hxl := hrow.len
  have hsz := hrow.sz
  by_cases hroom : n + st.size ≤ cap
  · rw [if_pos hroom] at hk
    have gs : GStep P ops w Wr ⟨some d, .call { callee := .builtin .append, args := #[s, y], argTypes := #[t, u] }, ty, pos, after, none⟩ a (kd k) B
        (fun v' B' => v' = .slice (some ⟨g, 0, none⟩) (n + st.size) cap ∧ B' = B.put g (.cells (setAll cur n (byteCells st)) E0 fr)) := by
      rw [hk]
      refine .write B g _ _ rfl (by rw [hrow.blk]; rfl) hW fun x hx hB => ?_
      have hb := hB g _ hrow.blk
      have hr := run_append_room_src (P := P) x t u ty E i ht hi g 0 n cap (.string st) st.size (byteCells st) (hsrc x) hroom (fun j hj => by
        rw [hcell x hB, hsize, Array.getElem?_eq_getElem (by omega)]; rfl) (fun j hj => by
        have := hrow.unf (n + j) (by omega)
        rw [hsize]
        simp only [World.frozen?, hb]
        simp
        omega)
      rw [hsize, Nat.mul_one, Nat.zero_add] at hr
      rw [hexec x _ _ hr]
      have hq := setCells_same g (byteCells st) n x
      exact ⟨rfl, hq.1, hq.2.1, hq.2.2.1, Nat.le_of_eq hq.2.2.2.symm, heap_setCells_same _ _ _ _ hb, fun k' _ hk' => heap_setCells_other _ _ _ _ hk'⟩
    refine ⟨_, gs, fun v' B' hO => ?_⟩
    obtain ⟨rfl, rfl⟩ := hO
    refine of_setSlot (h g cap _ E0 fr ⟨Blocks.put_same _ _ _, hroom, hrow.mx, by rw [setAll_size]; exact hsz, fun j v hj => ?_, by rw [List.length_append]; omega, hrow.unf⟩ (.inl rfl))
    by_cases hjn : j < n
    · rw [List.getElem?_append_left (by omega)] at hj
      rw [setAll_out _ _ _ _ (.inl hjn)]
      exact hrow.get j v hj
    · rw [List.getElem?_append_right (by omega), hxl] at hj
      have := setAll_in (byteCells st) n cur (j - n) v (by omega) hj
      rw [show n + (j - n) = j by omega] at this
      exact this
  · rw [if_neg hroom] at hk
    have gs : GStep P ops w Wr ⟨some d, .call { callee := .builtin .append, args := #[s, y], argTypes := #[t, u] }, ty, pos, after, none⟩ a (kd k) B
        (fun v' B' => ∃ g' c, w.heap.size ≤ g' ∧ B g' = none ∧ (n + st.size ≤ c ∧ c ≤ maxLen) ∧ v' = .slice (some ⟨g', 0, none⟩) (n + st.size) c ∧ B' = B.put g' (.cells ((xs ++ byteCells st).toArray ++ Builtin.zeroCells z.cells (c - (n + st.size))) E (0, 0))) := by
      rw [hk]
      refine .grow B (fun g' c => .slice (some ⟨g', 0, none⟩) (n + st.size) c) (fun c => .cells ((xs ++ byteCells st).toArray ++ Builtin.zeroCells z.cells (c - (n + st.size))) E (0, 0)) _ ⟨n + st.size, Nat.le_refl _, h63⟩ rfl fun x hx hB => ?_
      have hold : (Builtin.firstCells i.size n (.slice (some ⟨g, 0, none⟩) n cap)).run P x.drew = .ok xs.toArray x.drew :=
        run_firstCells_some x.drew i.size n ⟨g, 0, none⟩ n cap xs (by rw [hsize]; omega) (fun j v hj => by
          rw [Addr.add_lit, Nat.zero_add]
          have := hcell x hB j
          simpa [hrow.get j v hj] using this)
      have hr := run_append_grow_src (P := P) x t u ty E i z ht hi hz (some ⟨g, 0, none⟩) n cap xs hold (.string st) st.size (byteCells st) (hsrc x) (by omega) (by simp only [maxLen] at h63; omega) (growslice_fits (by omega) (by rw [hby, Nat.mul_one]; exact hbytes))
      rw [hexec x _ _ hr]
      exact ⟨x.heap.size, _, Nat.le_refl _, ⟨grownCap_ge x (n + st.size) cap E, grownCap_le_maxLen x (n + st.size) cap E h63⟩, rfl, (Below.refl _ x).drew.alloc (by simp) _, heap_alloc_new x.drew _⟩
    refine ⟨_, gs, fun v' B' hO => ?_⟩
    obtain ⟨g', c, e1, e2, ⟨e3, e4⟩, rfl, rfl⟩ := hO
    refine of_setSlot (h g' c _ E (0, 0) ⟨Blocks.put_same _ _ _, e3, e4, ?_, fun j v hj => ?_, by rw [List.length_append]; omega, fun j hj hf => by simp at hf⟩ (.inr ⟨e1, e2⟩))
    · simp only [Array.size_append, List.size_toArray, size_zeroCells, hzs, List.length_append, hxl, hl]
      omega
    · rw [Array.getElem?_append_left (by have := (List.getElem?_eq_some_iff.1 hj).1; simpa using this)]
      simpa using hj
end
end Go.Proofs.YtajjgfiojlagmaaGreatDoor
