/- Texts of this claim, joined: BPost, BTexts. -/
import Derived.Test.YtbacloneddnaeaaM27
import Derived.Test.YtbacloneddnaeaaM15
import Derived.Test.YtbacloneddnaeaaM30
import Derived.Test.YtbacloneddnaeaaM13

/- bayes.Posterior. -/
namespace Go.Proofs.Ytbacloneddnaeaa
open Go.RowKit Go.Shelf Num

def partsR (l : List BV) (ev : List Int) (v K : Nat) : List (Nat × Nat) := (List.range K).map fun x => rawQ l (ev.set v (x : Nat)) l.length []

theorem partsR_get {l : List BV} {ev : List Int} {v K x : Nat} (h : x < K) : (partsR l ev v K)[x]? = some (rawQ l (ev.set v (x : Nat)) l.length []) := by
  unfold partsR; rw [List.getElem?_map, List.getElem?_range h]; rfl
theorem partsR_length (l : List BV) (ev : List Int) (v K : Nat) : (partsR l ev v K).length = K := by simp [partsR]

noncomputable def postE (l : List BV) (ev : List Int) (v : Int) : List (Nat × Nat) × Int :=
  if checkE l ≠ 0 then ([], checkE l) else if allowedB l ev (-1) = false ∨ v < 0 ∨ (l.length : Int) ≤ v then ([], 1)
  else if (rowR (partsR l ev v.toNat (kAt l v.toNat))).1 = 0 then ([], 3)
  else ((partsR l ev v.toNat (kAt l v.toNat)).map fun p => Q.div (nz p) (nz (rowR (partsR l ev v.toNat (kAt l v.toNat)))), 0)

def RatsAt (w : World) (B : Nat) (v : Value) (l : List (Nat × Nat)) : Prop := (v = .slice none 0 0 ∧ l = []) ∨ ∃ g c, v = .slice (some ⟨g, 0, none⟩) l.length c ∧ B ≤ g ∧ AtN w.heap.size w (some ⟨g, 0, none⟩) (rats l)

theorem Try.infoRat : (Try.prog.info? 34).map (fun i => (i.zero, i.size, i.bytes)) = some (some (.agg #[.string { data := #[] }, .string { data := #[] }]), 2, 32) := by kernel_rfl

def PostPost (l : List BV) (ev : List Int) (v : Int) (w : World) (e : Ending) (w' : World) : Prop := ∃ s, e = .returned (.tuple #[s, .int .i64 (postE l ev v).2]) ∧ RatsAt w' w.heap.size s (postE l ev v).1 ∧ Below w.heap.size w w'

theorem post_bad {l : List BV} {ev : List Int} {v : Int} {w w' : World} {E : Int} (h : postE l ev v = ([], E)) (hb : Below w.heap.size w w') : PostPost l ev v w (.returned (.tuple #[.slice none 0 0, .int .i64 E])) w' :=
  ⟨_, by rw [h], by rw [h]; exact .inl ⟨rfl, rfl⟩, hb⟩

theorem rats_at : ∀ (l : List (Nat × Nat)) (m : Nat), (rats l)[m]? = (l[m / 2]?).map fun p => if m % 2 = 0 then Value.string (nb p.1) else .string (nb p.2)
  | [], m => by simp [rats]
  | p :: l, 0 => rfl
  | p :: l, 1 => rfl
  | p :: l, m + 2 => by
    rw [rats_cons]
    have := rats_at l m
    rw [show (m + 2) / 2 = m / 2 + 1 by omega, show (m + 2) % 2 = m % 2 by omega]
    simpa using this

theorem rats_set (l : List (Nat × Nat)) (j : Nat) (q : Nat × Nat) : ((rats l).set (j * 2) (.string (nb q.1))).set (j * 2 + 1) (.string (nb q.2)) = rats (l.set j q) := by
  apply List.ext_getElem?
  intro m
  rw [rats_at, List.getElem?_set, List.getElem?_set, List.getElem?_set, rats_at]
  simp only [List.length_set, rats_length]
  by_cases h1 : j * 2 + 1 = m
  · rw [if_pos h1, show m / 2 = j by omega, if_pos rfl]
    by_cases h2 : j < l.length
    · rw [if_pos (by omega), if_pos h2]; simp; omega
    · rw [if_neg (by omega), if_neg h2]; simp
  · rw [if_neg h1]
    by_cases h2 : j * 2 = m
    · rw [if_pos h2, show m / 2 = j by omega, if_pos rfl]
      by_cases h3 : j < l.length
      · rw [if_pos (by omega), if_pos h3]; simp; omega
      · rw [if_neg (by omega), if_neg h3]; simp
    · rw [if_neg h2, if_neg (by omega)]

theorem rats_zero (n : Nat) : (madeCells #[Value.string { data := #[] }, Value.string { data := #[] }] (n * 2)).toList = rats (List.replicate n (0, 0)) := by
  apply List.ext_getElem?
  intro m
  rw [rats_at, List.getElem?_replicate]
  by_cases h : m < n * 2
  · rw [if_pos (by omega)]
    have e : m % 2 = 0 ∨ m % 2 = 1 := by omega
    rcases e with e | e <;> simp [madeCells, h, e, nb_z]
  · rw [if_neg (by omega)]
    simp [madeCells]; omega

theorem Row.ofOwns' {w : World} {base g n : Nat} {E : TypeId} {xs : List Value} (h : w.ownsRow base E 2 (.slice (some ⟨g, 0, none⟩) n n) n xs) : w.heap[g]? = some (.cells xs.toArray E (0, 0)) := by
  obtain ⟨hl, ⟨h', _⟩ | ⟨g', cap', cur, h', _, hg, _, _, hs, htake⟩⟩ := h
  · simp at h'
  · simp only [Value.slice.injEq, Option.some.injEq, Addr.mk.injEq, and_true, true_and] at h'
    obtain ⟨rfl, rfl⟩ := h'
    have : cur.toList = xs := by
      rw [← htake, List.take_of_length_le]
      simp; omega
    subst this
    simpa using hg

theorem rowR_lowE (E : Nat) : ∀ (n : Nat) (t : List (Nat × Nat)), t.length = n → (∀ p ∈ t, Q.Low (nz p) ∧ Sm E p) → Q.Low (nz (rowR t)) ∧ Sm (1 + n * (E + 3)) (rowR t)
  | 0, t, h, _ => by
    obtain rfl : t = [] := List.length_eq_zero_iff.1 h
    exact ⟨⟨by decide, by decide⟩, (show Sm 1 (0, 0) from ⟨by decide, by decide⟩).mono (by omega)⟩
  | n + 1, t, h, ht => by
    obtain ⟨t', q, rfl⟩ : ∃ t' q, t = t' ++ [q] := ⟨t.dropLast, t.getLast (by intro e; rw [e] at h; cases h), (List.dropLast_concat_getLast _).symm⟩
    obtain ⟨h1, h2⟩ := rowR_lowE E n t' (by simpa using h) (fun p hp => ht p (by simp [hp]))
    obtain ⟨h3, h4⟩ := ht q (by simp)
    rw [rowR_snoc]
    have hl := Q.add_low h1 h3
    rw [nz_low hl, Nat.add_mul]
    exact ⟨hl, (sm_add2 h2.nz h4.nz).mono (by omega)⟩

theorem partsR_low {l : List BV} {ev : List Int} (hg : Good l) (hsz : szs (ksOf l) ≤ 9000) (v K : Nat) : ∀ p ∈ partsR l ev v K, Q.Low (nz p) ∧ Sm 9000 p := fun p hp => by
  unfold partsR at hp
  obtain ⟨x, _, rfl⟩ := List.mem_map.1 hp
  have hraw := rawQ_spec hg (ev.set v (x : Int)) l.length [] (by simp)
  have hfr := fromQ_low hg (ev.set v (x : Int)) l.length [] (by simp)
  rw [← hraw.1] at hfr
  exact ⟨hfr.1, (sm_of_nz hraw.2 hfr.2).mono (by simpa using hsz)⟩

theorem rats_part (L : List (Nat × Nat)) (m : Nat) (q : Nat × Nat) (hm : m < L.length) (i : Nat) : (rats (L.set m q)).toArray[i]? = if m * 2 ≤ i ∧ i < m * 2 + 2 then (#[Value.string (nb q.1), Value.string (nb q.2)] : Array Value)[i - m * 2]? else (rats L).toArray[i]? := by
  rw [show (rats (L.set m q)).toArray[i]? = (rats (L.set m q))[i]? from List.getElem?_toArray, show (rats L).toArray[i]? = (rats L)[i]? from List.getElem?_toArray, rats_at, rats_at, List.getElem?_set]
  by_cases h : m * 2 ≤ i ∧ i < m * 2 + 2
  · rw [if_pos (show m = i / 2 by omega), if_pos (by omega), if_pos h]
    have e : i = m * 2 ∨ i = m * 2 + 1 := by omega
    rcases e with rfl | rfl
    · simp
    · rw [show m * 2 + 1 - m * 2 = 1 by omega]
      simp
  · rw [if_neg (by omega), if_neg h]

def divR (P : List (Nat × Nat)) (t : Nat × Nat) (m : Nat) : List (Nat × Nat) := (P.map fun p => Q.div (nz p) (nz t)).take m ++ P.drop m
theorem divR_length {P : List (Nat × Nat)} {t : Nat × Nat} {m : Nat} (h : m ≤ P.length) : (divR P t m).length = P.length := by simp [divR]; omega
theorem divR_get {P : List (Nat × Nat)} {t : Nat × Nat} {m : Nat} {q : Nat × Nat} (h : P[m]? = some q) : (divR P t m)[m]? = some q := by
  have hm : m < P.length := (List.getElem?_eq_some_iff.1 h).1
  unfold divR
  rw [List.getElem?_append_right (by simp; omega), List.length_take, List.length_map, Nat.min_eq_left (by omega), Nat.sub_self, List.getElem?_drop, Nat.add_zero, h]
theorem divR_set {P : List (Nat × Nat)} {t : Nat × Nat} {m : Nat} {q : Nat × Nat} (h : P[m]? = some q) : (divR P t m).set m (Q.div (nz q) (nz t)) = divR P t (m + 1) := by
  have hm : m < P.length := (List.getElem?_eq_some_iff.1 h).1
  unfold divR
  have e : P[m] = q := by rw [List.getElem?_eq_getElem hm] at h; exact Option.some.inj h
  have hl : ((P.map fun p => Q.div (nz p) (nz t)).take m).length = m := by simp; omega
  rw [List.set_append, if_neg (by omega), hl, Nat.sub_self, List.drop_eq_getElem_cons hm, List.set_cons_zero]
  rw [take_snoc_of (l := P.map fun p => Q.div (nz p) (nz t)) (x := Q.div (nz q) (nz t)) (by rw [List.getElem?_map, h]; rfl)]
  simp

def doneR (P : List (Nat × Nat)) (j : Nat) : List (Nat × Nat) := P.take j ++ List.replicate (P.length - j) (0, 0)
theorem doneR_zero (P : List (Nat × Nat)) : doneR P 0 = List.replicate P.length (0, 0) := by simp [doneR]
theorem doneR_all (P : List (Nat × Nat)) : doneR P P.length = P := by simp [doneR]
theorem doneR_length {P : List (Nat × Nat)} {j : Nat} (h : j ≤ P.length) : (doneR P j).length = P.length := by simp [doneR]; omega
theorem doneR_set {P : List (Nat × Nat)} {j : Nat} {q : Nat × Nat} (h : P[j]? = some q) : (doneR P j).set j q = doneR P (j + 1) := by
  have hj : j < P.length := (List.getElem?_eq_some_iff.1 h).1
  unfold doneR
  obtain ⟨d, hd⟩ : ∃ d, P.length - j = d + 1 := ⟨P.length - j - 1, by omega⟩
  rw [hd, List.replicate_succ, List.set_append, if_neg (by simp; omega)]
  rw [show j - (P.take j).length = 0 by simp; omega, List.set_cons_zero, show P.length - (j + 1) = d by omega]
  rw [take_snoc_of h]; simp

set_option maxHeartbeats 3200000 in
set_option maxRecDepth 100000 in
theorem posterior_law (KO : Gives 45 #[] (.agg #[.string (nb 1), .string (nb 1)])) (N : Nat) (l : List BV) (ev : List Int) (a va : Option Addr) (c vc : Nat) (v : Int) (hn : NetIn l) (hvl : ev.length ≤ 100) (hsz : checkE l = 0 → szs (ksOf l) ≤ 9000) (w : World) (hN : NetAt N w a l) (hV : AtN N w va (ints ev)) (hw : N ≤ w.heap.size) :
    Calls Try.prog 29 #[.slice a l.length c, .slice va ev.length vc, .int .i64 v] w (PostPost l ev v w) := by
  have HS := Lib.hid hsz
  have HI := Lib.hid hn
  have hl := hn.len
  have HN := Lib.hid hN
  have HV := Lib.hid hV
  have KC := check_law KO N l a c hn w hN hw
  clear hsz hn hN hV
  go_enter Try.func29, Try.ntmps29
  go_wp2_with fail
  refine KC.mono ?_
  rintro e2 w2 ⟨rfl, hB2⟩
  have HB2 := Lib.hid hB2
  have HN2 := Lib.hid (HN.out.below hB2 hw)
  have HV2 := Lib.hid (HV.out.below hB2 hw)
  have hw2N : N ≤ w2.heap.size := Nat.le_trans hw hB2.size
  clear KC HN HV hB2
  by_cases hE : checkE l = 0
  · have hG := check_ok HI.out hE
    have hS := HS.out hE
    have KA := allowed_law N l ev a va c vc (-1) hl hvl w2 HN2.out HV2.out
    by_cases hA : allowedB l ev (-1) = true
    · rw [hA] at KA
      have hvs : ev.length = l.length := Classical.byContradiction fun h => by
        rw [allowedB_false (fun h2 => h h2.1)] at hA
        cases hA
      by_cases hv0 : v < 0
      · have HR : Hid (postE l ev v = ([], 1)) := by unfold Hid postE; rw [if_neg (by omega), if_pos (.inr (.inl hv0))]
        rw [hE]
        clear hE hG hS hA hvs
        go_wp2_with (go_at_call 36; ((with_reducible refine KA.mono ?_); rintro e3 w3 ⟨rfl, rfl⟩))
        exact bodyPost_ret (v := .tuple #[.slice none 0 0, .int .i64 1]) (by simp [results, Try.results29, go_sem]) rfl (post_bad HR.out HB2.out)
      · have hv0' : 0 ≤ v := by omega
        by_cases hvn : (l.length : Int) ≤ v
        · have HR : Hid (postE l ev v = ([], 1)) := by unfold Hid postE; rw [if_neg (by omega), if_pos (.inr (.inr hvn))]
          rw [hE]
          clear hE hG hS hA hvs hv0
          go_wp2_with (go_at_call 36; ((with_reducible refine KA.mono ?_); rintro e3 w3 ⟨rfl, rfl⟩))
          exact bodyPost_ret (v := .tuple #[.slice none 0 0, .int .i64 1]) (by simp [results, Try.results29, go_sem]) rfl (post_bad HR.out HB2.out)
        · obtain ⟨i, rfl⟩ : ∃ i : Nat, v = i := ⟨v.toNat, by omega⟩
          have hil : i < l.length := by omega
          obtain ⟨x, hx⟩ : ∃ x, l[i]? = some x := ⟨_, List.getElem?_eq_getElem hil⟩
          have HR : Hid (postE l ev i = if (rowR (partsR l ev i (kAt l i))).1 = 0 then ([], 3) else ((partsR l ev i (kAt l i)).map fun p => Q.div (nz p) (nz (rowR (partsR l ev i (kAt l i)))), 0)) := by
            unfold Hid postE; rw [if_neg (by omega), if_neg (by rw [hA]; simp; omega)]; rfl
          obtain ⟨e0, he0⟩ : ∃ e0, ev[0]? = some e0 := ⟨_, List.getElem?_eq_getElem (by omega)⟩
          obtain ⟨eb, eo, heb, rfl, _⟩ := HV2.out 0 _ (ints_get _ _ _ he0)
          obtain ⟨b, o, pa, pc, ta, tc, hb, rfl, c0, _⟩ := HN2.out i x hx
          have hkb := hG.kb i x hx
          obtain ⟨K, hK⟩ : ∃ K : Nat, x.k = K := ⟨x.k.toNat, by omega⟩
          rw [kAt_of hx, hK, Int.toNat_natCast] at HR
          rw [hK] at c0
          have hEC : ∀ j, j < ev.length → w2.cell? ⟨eb, eo + j, none⟩ = some (.int .i64 (ev.getD j 0)) := fun j hj => by
            obtain ⟨eb', eo', _, he, hc⟩ := HV2.out j (.int .i64 (ev.getD j 0)) (ints_get _ _ _ (by simp [hj]))
            cases he; exact hc
          have KCL := Try.slices_Clone_int eb eo ev.length vc ev w2 (Nat.le_refl _) (by omega) hEC
          have HG := Lib.hid hG
          have HSZ := Lib.hid hS
          have HVS := Lib.hid hvs
          have HX := Lib.hid hx
          have hK1 : 1 ≤ K := by omega
          have hK8 : K ≤ 8 := by omega
          have hie : i < ev.length := by omega
          rw [hE]
          clear hE hG hS hA hvs hv0 hvn he0 hx hkb hK hEC hv0'
          go_wp2_with (go_at_call 36; ((with_reducible refine KA.mono ?_); rintro e3 w3 ⟨rfl, h⟩; obtain rfl := h.symm))
          refine KCL.mono ?_
          rintro e3 w3 ⟨v1, rfl, hown, _, hB3⟩
          obtain ⟨_, ⟨rfl, h0⟩ | ⟨g1, cap, cur, rfl, hg1, m1, hcap, _, hcs, hct⟩⟩ := hown
          · omega
          rw [List.take_of_length_le (Nat.le_refl _), Nat.mul_one] at hct
          rw [Nat.mul_one] at hcs
          have k0 := below_cell hB3 (by omega) c0
          obtain ⟨i0, hi, hz0, hz1, hz2⟩ := info_parts Try.infoRat
          have hbw3 : b < w3.heap.size := by have := hB3.size; omega
          clear KA KCL c0
          go_wp2_with (at_make; refine wpList_make_full _ rfl (.tmp 39) (.tmp 39) 44 rfl (w3.heap.size + 1) 34 i0 _ 2 Try.underlying44 hi hz0 hz1 .i64 .i64 _ _ K rfl rfl (by omega) (by omega) (by rw [hz2]; omega) (by unfold maxLen; omega) (by simp) ?_)
          intro w4 hown hgr
          have hR := Row.ofOwns' hown
          rw [rats_zero] at hR
          obtain ⟨w3a, hw3a, m9, sz3a, hB3a⟩ := one_cells w3 #[.string { data := #[] }, .string { data := #[] }] 34
          rw [← hw3a] at hgr
          have hB4 := grown_below hgr (Nat.le_refl w3a.heap.size) (by simp)
          have n9 := (hB4.block _ (by omega)).trans m9
          have n1 := (hB4.block _ (by have := lt_of_heap m1; omega)).trans ((hB3a.block _ (lt_of_heap m1)).trans m1)
          have hg13 := lt_of_heap m1
          have hP := partsR_length l ev i K
          have hb4 : Below w2.heap.size w2 w4 := hB3.trans ((hB3a.trans (hB4.mono (by omega))).mono hB3.size)
          have HB4 := Lib.hid hb4
          have HP := Lib.hid hP
          have HR4 := Lib.hid hR
          clear hown hgr hw3a m9 sz3a hB3a hB4 hB3 m1 k0 hR hP hb4 hz0 hz1 hz2 hi
          go_wp2_with fail
          go_loopw [43] (fun k wr => ∃ (j : Nat) (cur : Array Value) (e : Int), j ≤ K ∧ k = .int .i64 j ∧ wr.heap[g1]? = some (.cells cur 3 (0, 0)) ∧ cur.size = cap ∧ Hid (cur.toList.take ev.length = ints (ev.set i e)) ∧
              wr.heap[w3.heap.size]? = some (.cells #[.string (nb (rowR ((partsR l ev i K).take j)).1), .string (nb (rowR ((partsR l ev i K).take j)).2)] 34 (0, 0)) ∧
              wr.heap[w3.heap.size + 1]? = some (.cells (rats (doneR (partsR l ev i K) j)).toArray 34 (0, 0)) ∧ Below w2.heap.size w2 wr)
            (fun k _ => K - (intOf k).toNat)
          case atStart =>
            exact ⟨0, cur, ev.getD i 0, Nat.zero_le _, rfl, n1, hcs, by unfold Hid; rw [hct]; simp [ints, hie], n9, by rw [doneR_zero, HP.out]; exact HR4.out, HB4.out⟩
          case round =>
            obtain ⟨j, cur', e, hj, rfl, m1, hcs', HCU, m9, m10, hB⟩ := hrel
            clear n1 n9 HR4 HB4 hcs hct
            have HB := Lib.hid hB
            clear hB
            by_cases hlt : j < K
            · have hn : ev.length ≤ cur'.size := by rw [hcs']; exact hcap
              have hci : cur'[i]? = some cur'[i] := Array.getElem?_eq_getElem (by omega)
              have cb := blk_cell m1 i hci
              have fb := blk_free m1 i
              have hwr1 := wrote_cell (o := i) (.int .i64 j) m1
              have hg1wr := lt_of_heap m1
              have hNwr : N ≤ wr.heap.size := Nat.le_trans hw2N HB.out.size
              obtain ⟨W1, hW1⟩ : ∃ W1, W1 = wr.setCell ⟨g1, i, none⟩ (.int .i64 j) := ⟨_, rfl⟩
              rw [← hW1] at hwr1
              have hB1 : Below w2.heap.size w2 W1 := by rw [hW1]; exact HB.out.setCell hg1 _
              have hs1 : wr.heap.size ≤ W1.heap.size := hwr1.size
              have hCU : (cur'.setIfInBounds i (.int .i64 j)).toList.take ev.length = ints (ev.set i (j : Int)) := by
                rw [Array.toList_setIfInBounds, List.take_set, HCU.out]
                simp [ints, List.map_set]
              have hV1 : AtN W1.heap.size W1 (some ⟨g1, 0, none⟩) (ints (ev.set i (j : Int))) := fun m v hv => by
                refine ⟨g1, 0, by omega, rfl, ?_⟩
                rw [Nat.zero_add]
                refine blk_cell hwr1.here m ?_
                rw [← hCU] at hv
                have hm : m < ev.length := by
                  have := (List.getElem?_eq_some_iff.1 hv).1
                  simp at this; omega
                rw [List.getElem?_take, if_pos hm, Array.getElem?_toList] at hv
                exact hv
              have KS := sum_law KO W1.heap.size l (ev.set i (j : Int)) _ _ c cap HG.out (by rw [List.length_set]; exact HVS.out) HSZ.out W1 ((HN2.out.mono hw2N).below hB1 (Nat.le_refl _) |>.mono hB1.size) hV1 (Nat.le_refl _)
              rw [List.length_set] at KS
              have q9 := (hwr1.block w3.heap.size (by have := lt_of_heap m9; omega) (by omega)).trans m9
              have q10 := (hwr1.block (w3.heap.size + 1) (by have := lt_of_heap m10; omega) (by omega)).trans m10
              have hS := partsR_get (l := l) (ev := ev) (v := i) hlt
              have hraw := rawQ_spec HG.out (ev.set i (j : Int)) l.length [] (by simp)
              have hfr := fromQ_low HG.out (ev.set i (j : Int)) l.length [] (by simp)
              rw [← hraw.1] at hfr
              have hSm : Sm 9000 (rawQ l (ev.set i (j : Int)) l.length []) := (sm_of_nz hraw.2 hfr.2).mono (by simpa using HSZ.out)
              have hSl := hfr.1
              have HRT : Hid (rowR ((partsR l ev i K).take (j + 1)) = Q.add (nz (rowR ((partsR l ev i K).take j))) (nz (rawQ l (ev.set i (j : Int)) l.length []))) := by
                unfold Hid; rw [take_snoc_of hS, rowR_snoc]
              have HDS : Hid ((doneR (partsR l ev i K) j).set j (rawQ l (ev.set i (j : Int)) l.length []) = doneR (partsR l ev i K) (j + 1)) := doneR_set hS
              have hlen10 : (rats (doneR (partsR l ev i K) j)).length = 2 * K := by rw [rats_length, doneR_length (by rw [HP.out]; omega), HP.out]
              have HCU1 := Lib.hid hCU
              have HW1 := Lib.hid hwr1.here
              have HB1 := Lib.hid hB1
              have hcs1 : (cur'.setIfInBounds i (.int .i64 j)).size = cap := by simp [hcs']
              clear hraw hfr hS m1 m9 m10 hwr1 hCU hV1 HCU hB1
              generalize cur'.setIfInBounds i (.int .i64 j) = cur1 at *
              generalize rawQ l (ev.set i (j : Int)) l.length [] = S at *
              generalize hD : doneR (partsR l ev i K) j = D at *
              generalize hT : rowR ((partsR l ev i K).take j) = T at *
              clear hD
              unfold ratV at KS
              go_wp2_with fail
              rw [← hW1]
              clear cb fb hW1
              refine KS.mono ?_
              rintro e5 w5 ⟨rfl, hB5⟩
              have hK10 : w3.heap.size + 1 < W1.heap.size := lt_of_heap q10
              have r1 := (hB5.block _ (by omega)).trans HW1.out
              have r9 := (hB5.block _ (by omega)).trans q9
              have r10 := (hB5.block _ hK10).trans q10
              have a0 := blk_cell r10 (j * 2) (v := (rats D)[j * 2]'(by omega)) (by simp)
              have a1 := blk_cell r10 (j * 2 + 1) (v := (rats D)[j * 2 + 1]'(by omega)) (by simp)
              have b0 := blk_free r10 (j * 2)
              have b1 := blk_free r10 (j * 2 + 1)
              have hr1 := wrote_cell (o := j * 2) (.string (nb S.1)) r10
              have hr2 := wrote_cell (o := j * 2 + 1) (.string (nb S.2)) hr1.here
              have hr3 : (((rats D).toArray.setIfInBounds (j * 2) (.string (nb S.1))).setIfInBounds (j * 2 + 1) (.string (nb S.2))) = (rats (D.set j S)).toArray := by
                rw [← rats_set]; simp
              have h10 := hr2.here
              rw [hr3, HDS.out] at h10
              have hbh : Behind w5 [w3.heap.size + 1] _ := ((Behind.refl w5 [w3.heap.size + 1]).wrote hr1 (.inl (by simp))).wrote hr2 (.inl (by simp))
              have hTs := rowR_lowE 9000 j ((partsR l ev i K).take j) (by simp; have := HP.out; omega) (fun p hp => partsR_low HG.out HSZ.out i K p (List.mem_of_mem_take hp))
              have hTm : Sm 100000 T := by rw [← hT]; exact hTs.2.mono (by have := Nat.mul_le_mul_right 9003 (show j ≤ 8 by omega); omega)
              have s1 := hbh.keep r1 (by simp; omega)
              have s9 := hbh.keep r9 (by simp)
              have HB6 := Lib.hid ((HB1.out.trans (hB5.mono (B' := w2.heap.size) (by have := HB.out.size; omega))).trans (hbh.below_of (b := w2.heap.size) (by simp; omega) (Nat.le_trans (Nat.le_trans HB.out.size hs1) hB5.size)))
              have hget : (doneR (partsR l ev i K) (j + 1))[j]? = some S := by
                rw [← HDS.out, List.getElem?_set, if_pos rfl, if_pos (by have := rats_length D; omega)]
              clear hr1 hr2 hr3 hbh hTs hB5 r1 r9 r10 KS HDS hT q9 q10 HW1
              go_wp2_with fail
              clear a0 a1 b0 b1
              generalize (w5.setCell ⟨w3.heap.size + 1, j * 2, none⟩ (.string (nb S.1))).setCell ⟨w3.heap.size + 1, j * 2 + 1, none⟩ (.string (nb S.2)) = w6 at *
              have KA : Gives 30 #[.agg #[.string (nb T.1), .string (nb T.2)], .agg #[.string (nb S.1), .string (nb S.2)]] (.agg #[.string (nb (Q.add (nz T) (nz S)).1), .string (nb (Q.add (nz T) (nz S)).2)]) := gRAddB T S (hTm.mono (by omega)) (hSm.mono (by omega))
              have HGET := Lib.hid (rats_get hget)
              have H10 := Lib.hid h10
              clear hget h10
              generalize hU : Q.add (nz T) (nz S) = U at *
              clear hU
              refine wp_game [1, 0, 0, 0, 0, 0, 2] [w3.heap.size] _ (Fin.put fin_B0 _ _) (has_put (has_B0 _) s9) (by kernel_rfl) (by kernel_rfl) ?_
              refine lex_readE 1 w6 (Behind.refl _ _) (has_put (has_B0 _) s9) (by kernel_rfl) (by rfl) ?_
              apply Exists.intro
              refine ⟨fun z hz hH => ?_, ?_⟩
              · have g0 := blk_cellp (hH w3.heap.size _ (Blocks.put_same _ _ _)) 0 rfl
                have g2 := blk_cellp (hH w3.heap.size _ (Blocks.put_same _ _ _)) 1 rfl
                clear hz hH
                simp only [List.take_succ_cons, List.take_zero]
                unfold Cx
                repeat (go_big_quiet_step (fail))
                exact wpQuiet_nil rfl
              simp only [List.drop_succ_cons, List.drop_zero]
              refine lex_quietE 5 (by kernel_rfl) (by rfl) ?_
              apply Exists.intro
              refine ⟨fun z hz => ?_, ?_⟩
              · have g0 := blk_cellp (hz.keep H10.out (by simp)) (j * 2) (by rw [List.getElem?_toArray]; exact HGET.out.1)
                have g2 := blk_cellp (hz.keep H10.out (by simp)) (j * 2 + 1) (by rw [List.getElem?_toArray]; exact HGET.out.2)
                clear hz
                simp only [List.take_succ_cons, List.take_zero]
                unfold Cx
                repeat (go_big_quiet_step (first | with_reducible exact KA.at _ _))
                exact wpQuiet_nil rfl
              simp only [List.drop_succ_cons, List.drop_zero]
              refine lex_store_all w3.heap.size _ _ _ (by rfl) (by rfl) (by rfl) (Blocks.put_same _ _ _) (by rfl) (Or.inl (by simp)) (by kernel_rfl) (by simp [Value.oneCell']) ?_
              refine lex_nil ?_
              intro w7 hx7 hH
              have t9 := hH w3.heap.size _ (Blocks.put_same _ _ _)
              have t1 := hx7.keep s1 (by simp; omega)
              have t10 := hx7.keep H10.out (by simp)
              have HB7 := Lib.hid (HB6.out.trans (hx7.below_of (b := w2.heap.size) (by simp; omega) HB6.out.size))
              clear hx7 hH s1 s9 KA
              go_wp2_with fail
              go_roundw
              case rel => exact ⟨j + 1, cur1, _, by omega, by go_num, t1, hcs1, HCU1, by rw [HRT.out]; exact t9, t10, HB7.out⟩
              case measure => simp [intOf]; omega
            · obtain rfl : j = K := by omega
              rw [List.take_of_length_le (Nat.le_of_eq HP.out)] at m9
              have hd : doneR (partsR l ev i j) j = partsR l ev i j := by
                have := doneR_all (partsR l ev i j)
                rwa [HP.out] at this
              rw [hd] at m10
              have hts := rowR_lowE 9000 j (partsR l ev i j) HP.out (partsR_low HG.out HSZ.out i j)
              have htm : Sm 100000 (rowR (partsR l ev i j)) := hts.2.mono (by have := Nat.mul_le_mul_right 9003 hK8; omega)
              have hPl := partsR_low HG.out HSZ.out (ev := ev) i j
              have HPL := Lib.hid hPl
              have g13 := hg13
              clear hd hts hPl m1 HCU hcs' hj hlt
              generalize hPe : partsR l ev i j = P at *
              generalize hTe : rowR P = T at *
              clear hPe hTe
              go_wp2_with fail
              by_cases hz : T.1 = 0
              · have HR2 : Hid (postE l ev i = ([], 3)) := by unfold Hid; rw [HR.out, if_pos hz]
                go_loopw [65] (fun k wq => k = .int .i64 0 ∧ wq = wr) (fun _ _ => 0)
                case atStart => exact ⟨rfl, rfl⟩
                case round =>
                  obtain ⟨rfl, rfl⟩ := hrel
                  obtain ⟨S, hS⟩ : ∃ S, P[0]? = some S := ⟨_, List.getElem?_eq_getElem (by rw [HP.out]; omega)⟩
                  have hSl := HPL.out S (List.mem_of_getElem? hS)
                  have HGET : Hid ((rats P)[0 * 2]? = _ ∧ (rats P)[0 * 2 + 1]? = _) := rats_get hS
                  have KD : Gives 64 #[.agg #[.string (nb S.1), .string (nb S.2)], .agg #[.string (nb T.1), .string (nb T.2)]] (.tuple #[.agg #[.string (nb ((0, 0) : Nat × Nat).1), .string (nb ((0, 0) : Nat × Nat).2)], .bool false]) := gRDivZB S T (hSl.2.mono (by omega)) (htm.mono (by omega)) hz
                  have M9 := Lib.hid m9
                  have hPl0 : 0 < P.length := by rw [HP.out]; omega
                  have HPART := Lib.hid (rats_part P 0 (0, 0) hPl0)
                  have HSZ1 : Hid (0 * 2 + (Value.agg #[.string (nb ((0, 0) : Nat × Nat).1), .string (nb ((0, 0) : Nat × Nat).2)]).cells.size ≤ (rats P).toArray.size) := by unfold Hid; simp [Value.cells, rats_length]; omega
                  have HSZ2 : Hid ((rats (P.set 0 (0, 0))).toArray.size = (rats P).toArray.size) := by unfold Hid; simp [rats_length]
                  clear hS hz hSl m9
                  go_wp2_with fail
                  refine wp_game [0, 0, 0, 0, 0, 1, 0, 0, 0, 0, 0, 0, 2, 0] [w3.heap.size + 1] _ (Fin.put fin_B0 _ _) (has_put (has_B0 _) m10) (by kernel_rfl) (by kernel_rfl) ?_
                  refine lex_quietE 5 (by kernel_rfl) (by rfl) ?_
                  apply Exists.intro
                  refine ⟨fun z hz => ?_, ?_⟩
                  · clear hz
                    simp only [List.take_succ_cons, List.take_zero]
                    unfold Cx
                    repeat (go_big_quiet_step (fail))
                    exact wpQuiet_nil rfl
                  simp only [List.drop_succ_cons, List.drop_zero]
                  refine lex_readE 1 wr (Behind.refl _ _) (has_put (has_B0 _) m10) (by kernel_rfl) (by rfl) ?_
                  apply Exists.intro
                  refine ⟨fun z hz hH => ?_, ?_⟩
                  · have g0 := blk_cellp (hH (w3.heap.size + 1) _ (Blocks.put_same _ _ _)) (0 * 2) (by rw [List.getElem?_toArray]; exact HGET.out.1)
                    have g2 := blk_cellp (hH (w3.heap.size + 1) _ (Blocks.put_same _ _ _)) (0 * 2 + 1) (by rw [List.getElem?_toArray]; exact HGET.out.2)
                    clear hz hH
                    simp only [List.take_succ_cons, List.take_zero]
                    unfold Cx
                    repeat (go_big_quiet_step (fail))
                    exact wpQuiet_nil rfl
                  simp only [List.drop_succ_cons, List.drop_zero]
                  refine lex_quietE 6 (by kernel_rfl) (by rfl) ?_
                  apply Exists.intro
                  refine ⟨fun z hz => ?_, ?_⟩
                  · have g0 := blk_cellp (hz.keep M9.out (by simp)) 0 rfl
                    have g2 := blk_cellp (hz.keep M9.out (by simp)) 1 rfl
                    clear hz
                    simp only [List.take_succ_cons, List.take_zero]
                    unfold Cx
                    repeat (go_big_quiet_step (first | with_reducible exact KD.at _ _))
                    exact wpQuiet_nil rfl
                  simp only [List.drop_succ_cons, List.drop_zero]
                  refine lex_store_part (w3.heap.size + 1) (0 * 2) (.agg #[.string (nb ((0, 0) : Nat × Nat).1), .string (nb ((0, 0) : Nat × Nat).2)]) _ (rats (P.set 0 (0, 0))).toArray _ (by rfl) (by rfl) (by rfl) (Blocks.put_same _ _ _) HSZ1.out HSZ2.out (fun i _ => HPART.out i) (Or.inl (by simp)) (by kernel_rfl) (by simp [Value.oneCell', Value.cells]) ?_
                  refine lex_quietE 1 (by kernel_rfl) (by rfl) ?_
                  apply Exists.intro
                  refine ⟨fun z hz => ?_, ?_⟩
                  · clear hz
                    simp only [List.take_succ_cons, List.take_zero]
                    unfold Cx
                    repeat (go_big_quiet_step (fail))
                    exact wpQuiet_nil rfl
                  simp only [List.drop_succ_cons, List.drop_zero]
                  refine lex_nil ?_
                  intro w8 hx8 hH8
                  have n10 := hH8 (w3.heap.size + 1) _ (Blocks.put_same _ _ _)
                  have HB8 := Lib.hid (HB.out.trans (hx8.below_of (b := w2.heap.size) (by simp; omega) HB.out.size))
                  clear hx8 hH8 n10
                  go_wp2_with fail
                  exact bodyPost_ret (v := .tuple #[.slice none 0 0, .int .i64 3]) (by simp [results, Try.results29, go_sem]) rfl (post_bad HR2.out (HB2.out.trans (HB8.out.mono HB2.out.size)))
              · have HR2 : Hid (postE l ev i = (P.map fun p => Q.div (nz p) (nz T), 0)) := by unfold Hid; rw [HR.out, if_neg hz]
                have hT1 : 0 < T.1 := by omega
                go_loopw [65] (fun k wq => ∃ m : Nat, m ≤ j ∧ k = .int .i64 m ∧ wq.heap[w3.heap.size]? = some (.cells #[.string (nb T.1), .string (nb T.2)] 34 (0, 0)) ∧ wq.heap[w3.heap.size + 1]? = some (.cells (rats (divR P T m)).toArray 34 (0, 0)) ∧ Below w2.heap.size w2 wq)
                  (fun k _ => j - (intOf k).toNat)
                case atStart => exact ⟨0, Nat.zero_le _, rfl, m9, by simpa [divR] using m10, HB.out⟩
                case round =>
                  obtain ⟨m, hm, rfl, n9, n10, hBq⟩ := hrel
                  have HB := Lib.hid hBq
                  clear m9 m10 hBq hz
                  by_cases hlt : m < j
                  · obtain ⟨S, hS⟩ : ∃ S, P[m]? = some S := ⟨_, List.getElem?_eq_getElem (by rw [HP.out]; omega)⟩
                    have hSl := HPL.out S (List.mem_of_getElem? hS)
                    have HGET : Hid ((rats (divR P T m))[m * 2]? = _ ∧ (rats (divR P T m))[m * 2 + 1]? = _) := rats_get (divR_get hS)
                    have KD : Gives 64 #[.agg #[.string (nb S.1), .string (nb S.2)], .agg #[.string (nb T.1), .string (nb T.2)]] (.tuple #[.agg #[.string (nb (Q.div (nz S) (nz T)).1), .string (nb (Q.div (nz S) (nz T)).2)], .bool true]) := gRDivB S T (hSl.2.mono (by omega)) (htm.mono (by omega)) hT1
                    have M9 := Lib.hid n9
                    have hDl : (divR P T m).length = j := by rw [divR_length (by rw [HP.out]; omega), HP.out]
                    have hds := divR_set (t := T) hS
                    have hpart := rats_part (divR P T m) m (Q.div (nz S) (nz T)) (by omega)
                    rw [hds] at hpart
                    have HSZ2 : Hid ((rats (divR P T (m + 1))).toArray.size = (rats (divR P T m)).toArray.size) := by
                      unfold Hid; rw [← hds]; simp [rats_length]
                    have HPART := Lib.hid hpart
                    clear hpart hds hS hSl n9
                    generalize Q.div (nz S) (nz T) = D at *
                    have HSZ1 : Hid (m * 2 + (Value.agg #[.string (nb D.1), .string (nb D.2)]).cells.size ≤ (rats (divR P T m)).toArray.size) := by unfold Hid; simp [Value.cells, rats_length]; omega
                    clear hDl
                    go_wp2_with fail
                    refine wp_game [0, 0, 0, 0, 0, 1, 0, 0, 0, 0, 0, 0, 2, 0] [w3.heap.size + 1] _ (Fin.put fin_B0 _ _) (has_put (has_B0 _) n10) (by kernel_rfl) (by kernel_rfl) ?_
                    refine lex_quietE 5 (by kernel_rfl) (by rfl) ?_
                    apply Exists.intro
                    refine ⟨fun z hz => ?_, ?_⟩
                    · clear hz
                      simp only [List.take_succ_cons, List.take_zero]
                      unfold Cx
                      repeat (go_big_quiet_step (fail))
                      exact wpQuiet_nil rfl
                    simp only [List.drop_succ_cons, List.drop_zero]
                    refine lex_readE 1 wr (Behind.refl _ _) (has_put (has_B0 _) n10) (by kernel_rfl) (by rfl) ?_
                    apply Exists.intro
                    refine ⟨fun z hz hH => ?_, ?_⟩
                    · have g0 := blk_cellp (hH (w3.heap.size + 1) _ (Blocks.put_same _ _ _)) (m * 2) (by rw [List.getElem?_toArray]; exact HGET.out.1)
                      have g2 := blk_cellp (hH (w3.heap.size + 1) _ (Blocks.put_same _ _ _)) (m * 2 + 1) (by rw [List.getElem?_toArray]; exact HGET.out.2)
                      clear hz hH
                      simp only [List.take_succ_cons, List.take_zero]
                      unfold Cx
                      repeat (go_big_quiet_step (fail))
                      exact wpQuiet_nil rfl
                    simp only [List.drop_succ_cons, List.drop_zero]
                    refine lex_quietE 6 (by kernel_rfl) (by rfl) ?_
                    apply Exists.intro
                    refine ⟨fun z hz => ?_, ?_⟩
                    · have g0 := blk_cellp (hz.keep M9.out (by simp)) 0 rfl
                      have g2 := blk_cellp (hz.keep M9.out (by simp)) 1 rfl
                      clear hz
                      simp only [List.take_succ_cons, List.take_zero]
                      unfold Cx
                      repeat (go_big_quiet_step (first | with_reducible exact KD.at _ _))
                      exact wpQuiet_nil rfl
                    simp only [List.drop_succ_cons, List.drop_zero]
                    refine lex_store_part (w3.heap.size + 1) (m * 2) (.agg #[.string (nb D.1), .string (nb D.2)]) _ (rats (divR P T (m + 1))).toArray _ (by rfl) (by rfl) (by rfl) (Blocks.put_same _ _ _) HSZ1.out HSZ2.out (fun i _ => HPART.out i) (Or.inl (by simp)) (by kernel_rfl) (by simp [Value.oneCell', Value.cells]) ?_
                    refine lex_quietE 1 (by kernel_rfl) (by rfl) ?_
                    apply Exists.intro
                    refine ⟨fun z hz => ?_, ?_⟩
                    · clear hz
                      simp only [List.take_succ_cons, List.take_zero]
                      unfold Cx
                      repeat (go_big_quiet_step (fail))
                      exact wpQuiet_nil rfl
                    simp only [List.drop_succ_cons, List.drop_zero]
                    refine lex_nil ?_
                    intro w8 hx8 hH8
                    have n10' := hH8 (w3.heap.size + 1) _ (Blocks.put_same _ _ _)
                    have n9' := hx8.keep M9.out (by simp)
                    have HB8 := Lib.hid (HB.out.trans (hx8.below_of (b := w2.heap.size) (by simp; omega) HB.out.size))
                    clear hx8 hH8 n10
                    go_wp2_with fail
                    go_roundw
                    case rel => exact ⟨m + 1, by omega, by go_num, n9', n10', HB8.out⟩
                    case measure => simp [intOf]; omega
                  · obtain rfl : m = j := by omega
                    have HD : Hid (divR P T m = P.map fun p => Q.div (nz p) (nz T)) := by
                      unfold Hid divR
                      rw [List.take_of_length_le (by simp [HP.out]), List.drop_eq_nil_of_le (by rw [HP.out]; exact Nat.le_refl _), List.append_nil]
                    go_wp2_with fail
                    refine bodyPost_ret (v := .tuple #[.slice (some ⟨w3.heap.size + 1, 0, none⟩) m m, .int .i64 0]) (by simp [results, Try.results29, go_sem]) rfl ⟨.slice (some ⟨w3.heap.size + 1, 0, none⟩) m m, by rw [HR2.out], ?_, HB2.out.trans (HB.out.mono HB2.out.size)⟩
                    rw [HR2.out, ← HD.out]
                    have hlm : (divR P T m).length = m := by rw [divR_length (by rw [HP.out]; omega), HP.out]
                    refine .inr ⟨w3.heap.size + 1, m, by rw [hlm], by have := HB2.out.size; omega, fun q v hv => ⟨w3.heap.size + 1, 0, lt_of_heap n10, rfl, ?_⟩⟩
                    rw [Nat.zero_add]
                    exact blk_cell n10 q (by rw [List.getElem?_toArray]; exact hv)
    · have hA : allowedB l ev (-1) = false := by simpa using hA
      have HR : Hid (postE l ev v = ([], 1)) := by unfold Hid postE; rw [if_neg (by omega), if_pos (.inl hA)]
      rw [hA] at KA
      rw [hE]
      clear hE hG hS hA
      go_wp2_with (go_at_call 36; ((with_reducible refine KA.mono ?_); rintro e3 w3 ⟨rfl, rfl⟩))
      exact bodyPost_ret (v := .tuple #[.slice none 0 0, .int .i64 1]) (by simp [results, Try.results29, go_sem]) rfl (post_bad HR.out HB2.out)
  · have HR : Hid (postE l ev v = ([], checkE l)) := by unfold Hid postE; rw [if_pos hE]
    have e1 : (checkE l == 0) = false := beq_no hE
    have e2 : (checkE l != 0) = true := by simp [bne, e1]
    generalize checkE l = E at *
    clear hE
    go_wp2_with fail
    exact bodyPost_ret (v := .tuple #[.slice none 0 0, .int .i64 E]) (by simp [results, Try.results29, go_sem]) rfl (post_bad HR.out HB2.out)
end Go.Proofs.Ytbacloneddnaeaa

/- censuslaw40.texts. -/
namespace Go.Proofs.Ytbacloneddnaeaa
open Go.RowKit Go.Shelf Num

def textsB (ps : List (Nat × Nat)) (ss : List ByteArray) : Bool := decide (ps.map rtext = ss)
theorem textsB_step {ps : List (Nat × Nat)} {ss : List ByteArray} {j : Nat} {p : Nat × Nat} {s : ByteArray} (h : (ps.take j).map rtext = ss.take j) (hp : ps[j]? = some p) (hs : ss[j]? = some s) (e : rtext p = s) : (ps.take (j + 1)).map rtext = ss.take (j + 1) := by
  rw [take_snoc_of hp, take_snoc_of hs, List.map_append, h, List.map_singleton, e]
theorem textsB_not {ps : List (Nat × Nat)} {ss : List ByteArray} {j : Nat} {p : Nat × Nat} {s : ByteArray} (hp : ps[j]? = some p) (hs : ss[j]? = some s) (e : rtext p ≠ s) : textsB ps ss = false := by
  refine decide_eq_false fun h => e ?_
  have := congrArg (fun l => l[j]?) h
  simp [hp, hs] at this
  exact this

set_option maxHeartbeats 1600000 in
set_option maxRecDepth 100000 in
theorem texts_law (N : Nat) (ps : List (Nat × Nat)) (ss : List ByteArray) (a b : Option Addr) (c d : Nat) (hps : ∀ p ∈ ps, Sm 1000000 p) (hl : ps.length ≤ 100000) (hl2 : ss.length ≤ 100000) (w : World) (hA : AtN N w a (rats ps)) (hB : AtN N w b (strs ss)) (hw : N ≤ w.heap.size) :
    Calls Try.prog 20 #[.slice a ps.length c, .slice b ss.length d] w fun e w' => e = .returned (.bool (textsB ps ss)) ∧ Below w.heap.size w w' := by
  have HA := Lib.hid hA
  have HB := Lib.hid hB
  have HP := Lib.hid hps
  have HW := Lib.hid hw
  clear hA hB hps hw
  by_cases hlen : ps.length = ss.length
  · go_enter Try.func20, Try.ntmps20
    have hlen1 : ((ps.length : Int) == (ss.length : Int)) = true := by simp [hlen]
    have HLEN := Lib.hid hlen
    rw [← hlen]
    clear hlen hl2
    go_wp2_with fail
    go_loopw [5] (fun i wr => ∃ j : Nat, j ≤ ps.length ∧ i = .int .i64 j ∧ Hid ((ps.take j).map rtext = ss.take j) ∧ Hid (Below w.heap.size w wr))
      (fun i _ => ps.length - (intOf i).toNat)
    case atStart => exact ⟨0, Nat.zero_le _, rfl, by simp [Hid], Below.refl _ _⟩
    case round =>
      obtain ⟨j, hj, rfl, HT, HBE⟩ := hrel
      by_cases hlt : j < ps.length
      · obtain ⟨p, hp⟩ : ∃ p, ps[j]? = some p := ⟨_, List.getElem?_eq_getElem hlt⟩
        obtain ⟨s, hs⟩ : ∃ s, ss[j]? = some s := ⟨_, List.getElem?_eq_getElem (by rw [← HLEN.out]; exact hlt)⟩
        obtain ⟨q1, q2⟩ := p
        have KT : Gives 16 #[.agg #[.string (nb q1), .string (nb q2)]] (.string (rtext (q1, q2))) := gRText (q1, q2) (HP.out _ (List.mem_of_getElem? hp))
        obtain ⟨b1, o1, hb1, rfl, k1⟩ := (HA.out.below HBE.out HW.out) _ _ (rats_get hp).1
        obtain ⟨_, _, _, e2, k2⟩ := (HA.out.below HBE.out HW.out) _ _ (rats_get hp).2
        cases e2
        obtain ⟨b3, o3, hb3, rfl, k3⟩ := (HB.out.below HBE.out HW.out) _ _ (strs_get hs)
        rw [← Nat.add_assoc] at k2
        have K1 := Lib.hid k1
        have K2 := Lib.hid k2
        have K3 := Lib.hid k3
        have HPJ := Lib.hid hp
        have HSJ := Lib.hid hs
        clear k1 k2 k3 hp hs
        go_wp2_with fail
        obtain ⟨u, hu⟩ : ∃ u, u = rtext (q1, q2) := ⟨_, rfl⟩
        rw [← hu] at KT
        by_cases hE : u = s
        · have HU := Lib.hid hu
          subst hE
          clear hu
          refine wp_game [0, 0, 0, 0, 0, 0, 0, 0, 0, 0] [] B0 fin_B0 (has_B0 _) (by kernel_rfl) (by kernel_rfl) ?_
          refine lex_quietE 10 (by kernel_rfl) (by rfl) ?_
          apply Exists.intro
          refine ⟨fun z hz => ?_, ?_⟩
          · have g1 := behind_cellp hz K1.out (by simp)
            have g2 := behind_cellp hz K2.out (by simp)
            have g3 := behind_cellp hz K3.out (by simp)
            clear hz
            simp only [List.take_succ_cons, List.take_zero]
            unfold Cx
            repeat (go_big_quiet_step (first | with_reducible exact KT.at _ _))
            exact wpQuiet_nil rfl
          simp only [List.drop_succ_cons, List.drop_zero]
          refine lex_nil ?_
          intro x hx _
          have hbx := HBE.out.trans (hx.below.mono (B' := w.heap.size) (by have := HBE.out.size; omega))
          have HBX := Lib.hid hbx
          have HT2 := Lib.hid (textsB_step HT.out HPJ.out HSJ.out HU.out.symm)
          clear hx hbx
          go_wp2_with fail
          go_roundw
          case rel => exact ⟨j + 1, by omega, by go_num, HT2, HBX⟩
          case measure => simp [intOf]; omega
        · have hne := toListB_ne hE
          have HF : Hid (textsB ps ss = false) := textsB_not HPJ.out HSJ.out (by rw [← hu]; exact hE)
          clear hu hE
          refine wp_game [0, 0, 0, 0, 0, 0, 0, 0, 0, 0] [] B0 fin_B0 (has_B0 _) (by kernel_rfl) (by kernel_rfl) ?_
          refine lex_quietE 10 (by kernel_rfl) (by rfl) ?_
          apply Exists.intro
          refine ⟨fun z hz => ?_, ?_⟩
          · have g1 := behind_cellp hz K1.out (by simp)
            have g2 := behind_cellp hz K2.out (by simp)
            have g3 := behind_cellp hz K3.out (by simp)
            clear hz
            simp only [List.take_succ_cons, List.take_zero]
            unfold Cx
            repeat (go_big_quiet_step (first | with_reducible exact KT.at _ _))
            exact wpQuiet_nil rfl
          simp only [List.drop_succ_cons, List.drop_zero]
          refine lex_nil ?_
          intro x hx _
          have hbx := HBE.out.trans (hx.below.mono (B' := w.heap.size) (by have := HBE.out.size; omega))
          have HBX := Lib.hid hbx
          clear hx hbx
          go_wp2_with fail
          go_ret
          exact ⟨by rw [HF.out]; rfl, HBX.out⟩
      · obtain rfl : j = ps.length := by omega
        have hT := HT.out
        rw [List.take_length, HLEN.out, List.take_length] at hT
        have HF : Hid (textsB ps ss = true) := decide_eq_true hT
        clear hT
        go_wp2_with fail
        go_ret
        exact ⟨by rw [HF.out]; rfl, HBE.out⟩
  · have hlen1 : ((ps.length : Int) == (ss.length : Int)) = false := beq_no (by omega)
    have HF : Hid (textsB ps ss = false) := decide_eq_false fun h => hlen (by rw [← h]; simp)
    go_enter Try.func20, Try.ntmps20
    go_wp2_with fail
    go_ret
    exact ⟨by rw [HF.out]; rfl, Below.refl _ _⟩
end Go.Proofs.Ytbacloneddnaeaa
