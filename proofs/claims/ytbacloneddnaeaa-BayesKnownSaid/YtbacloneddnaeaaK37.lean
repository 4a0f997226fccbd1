/- Texts of this claim, joined: BChap, BWorks, BKnownP, BKnown. -/
import Derived.Test.YtbacloneddnaeaaK31
import Derived.Test.YtbacloneddnaeaaK33
import Derived.Test.YtbacloneddnaeaaK28
import Derived.Test.YtbacloneddnaeaaK36

/- The network of the chapter of Bayes. -/
namespace Go.Proofs.Ytbacloneddnaeaa
open Go.RowKit Go.Shelf Num

def chapR : List RV := [{ k := 2, ps := [], ts := [{ data := #[49, 47, 52] }, { data := #[51, 47, 52] }] }, { k := 2, ps := [0], ts := [{ data := #[49, 47, 50] }, { data := #[49, 47, 50] }, { data := #[49] }, { data := #[48] }] }]
def chapN : List BV := [{ k := 2, ps := [], tab := [(1, 4), (3, 4)] }, { k := 2, ps := [0], tab := [(1, 2), (1, 2), (1, 1), (0, 1)] }]
theorem gnet_chap : gnet chapR = chapN := by kernel_rfl

theorem lt_two {i : Nat} (h : i < 2) : i = 0 ∨ i = 1 := by omega
theorem chap_get {i : Nat} {x : BV} (h : chapN[i]? = some x) : x = { k := 2, ps := [], tab := [(1, 4), (3, 4)] } ∨ x = { k := 2, ps := [0], tab := [(1, 2), (1, 2), (1, 1), (0, 1)] } := by
  have := List.mem_of_getElem? h
  simpa [chapN] using this
theorem chap_in : NetIn chapN := by
  refine ⟨by decide, fun i x h => ?_, fun i x h => ?_, fun i x h => ?_⟩
  · rcases chap_get h with rfl | rfl
    · intro p hp
      simp only [List.mem_cons, List.not_mem_nil, or_false] at hp
      rcases hp with rfl | rfl <;> exact ⟨⟨by decide, by decide⟩, ⟨by decide, by decide⟩⟩
    · intro p hp
      simp only [List.mem_cons, List.not_mem_nil, or_false] at hp
      rcases hp with rfl | rfl | rfl | rfl <;> exact ⟨⟨by decide, by decide⟩, ⟨by decide, by decide⟩⟩
  · rcases chap_get h with rfl | rfl <;> decide
  · rcases chap_get h with rfl | rfl <;> decide
theorem chap_formed : ∀ i, i < chapN.length → formedP chapN i := by
  intro i hi
  rcases lt_two hi with rfl | rfl
  · refine ⟨_, 1, rfl, by decide, by decide, rfl, rfl, fun j hj => ?_⟩
    obtain rfl : j = 0 := by omega
    kernel_rfl
  · refine ⟨_, 2, rfl, by decide, by decide, by simp [okPar, kAt, chapN], rfl, fun j hj => ?_⟩
    rcases lt_two hj with rfl | rfl <;> kernel_rfl
theorem chap_check : checkE chapN = 0 := by
  unfold checkE
  rw [if_neg (by decide), if_pos chap_formed, if_neg (by decide)]
theorem chap_sz : szs (ksOf chapN) ≤ 9000 := by decide

theorem allowed_chap {vs : List Int} {least : Int} (h : vs.length = 2) (h0 : ∀ v ∈ vs, least ≤ v ∧ v < 2) : allowedB chapN vs least = true := by
  refine allowedB_true ⟨h, fun i x v hx hv => ?_⟩
  have := h0 v (List.mem_of_getElem? hv)
  rcases chap_get hx with rfl | rfl <;> exact this
theorem ask_chap {vs : List Int} {least : Int} {q : Nat × Nat} (h : vs.length = 2) (h0 : ∀ v ∈ vs, least ≤ v ∧ v < 2) (hq : rawQ chapN vs 2 [] = q) : askE chapN vs least = (q, 0) := by
  unfold askE
  rw [if_neg (by simp [chap_check]), if_neg (by simp [allowed_chap h h0])]
  exact congrArg (fun x => (x, (0 : Int))) hq
theorem ask_bad {vs : List Int} {least v : Int} (hv : v ∈ vs) (hl : v < least) (h : vs.length = 2) : askE chapN vs least = ((0, 0), 1) := by
  have ha : allowedB chapN vs least = false := allowedB_false fun ⟨_, h2⟩ => by
    obtain ⟨i, hi⟩ := List.getElem?_of_mem hv
    have hil := (List.getElem?_eq_some_iff.1 hi).1
    obtain ⟨x, hx⟩ : ∃ x, chapN[i]? = some x := ⟨_, List.getElem?_eq_getElem (by rw [h] at hil; exact hil)⟩
    have := (h2 i x v hx hi).1
    omega
  unfold askE
  rw [if_neg (by simp [chap_check]), if_pos ha]
theorem post_chap {vs : List Int} {v : Nat} {L : List (Nat × Nat)} {t : Nat × Nat} (h : vs.length = 2) (h0 : ∀ v ∈ vs, -1 ≤ v ∧ v < 2) (hv : v < 2) (hp : rowR (partsR chapN vs v 2) = t) (ht : t.1 ≠ 0) (hL : (partsR chapN vs v 2).map (fun p => Q.div (nz p) (nz t)) = L) : postE chapN vs v = (L, 0) := by
  have hk : kAt chapN v = 2 := by rcases lt_two hv with rfl | rfl <;> rfl
  unfold postE
  rw [if_neg (by simp [chap_check]), if_neg (by rw [allowed_chap h h0]; simp [chapN]; omega), Int.toNat_natCast, hk, hp, if_neg ht, hL]
theorem enc_chap : (encOf chapN).N = 10 := by kernel_rfl
theorem joint01 : rawQ chapN [0, 1] 2 [] = (1, 8) := by kernel_rfl
theorem askm0 : rawQ chapN [-1, 0] 2 [] = (7, 8) := by kernel_rfl

theorem atN_cells {w : World} {g : Nat} {xs : Array Value} {T : TypeId} (h : w.heap[g]? = some (.cells xs T (0, 0))) : AtN w.heap.size w (some ⟨g, 0, none⟩) xs.toList := fun i v hi =>
  ⟨g, 0, lt_of_heap h, rfl, by rw [Nat.zero_add]; exact blk_cell h i (by simpa using hi)⟩
theorem atN_nil (N : Nat) (w : World) (a : Option Addr) : AtN N w a [] := fun i v h => by simp at h

/-- chapter() makes it. -/
theorem chapter_law (w : World) : Calls Try.prog 31 #[] w fun e w' => ∃ a c, e = .returned (.slice a chapR.length c) ∧ RefAt w'.heap.size w' a chapR ∧ Below w.heap.size w w' := by
  go_enter Try.func31, Try.ntmps31
  go_wp2_with fail
  go_ret
  obtain ⟨w4, hw4, mA, mB, mC, mD, sz, hb⟩ := four_cells w (Obj.cells #[.string { data := #[49, 47, 52] }, .string { data := #[51, 47, 52] }] 9) (Obj.cells #[.int .i64 0] 3) (Obj.cells #[.string { data := #[49, 47, 50] }, .string { data := #[49, 47, 50] }, .string { data := #[49] }, .string { data := #[48] }] 9)
    (Obj.cells #[.int .i64 2, .slice none 0 0, .slice (some ⟨w.heap.size, 0, none⟩) 2 2, .int .i64 2, .slice (some ⟨w.heap.size + 1, 0, none⟩) 1 1, .slice (some ⟨w.heap.size + 1 + 1, 0, none⟩) 4 4] 62)
  rw [← hw4]
  clear hw4
  refine ⟨some ⟨w.heap.size + 1 + 1 + 1, 0, none⟩, 2, rfl, fun i x hx => ?_, hb⟩
  have hi : i < 2 := (List.getElem?_eq_some_iff.1 hx).1
  rcases lt_two hi with rfl | rfl
  · obtain rfl : { k := 2, ps := [], ts := [{ data := #[49, 47, 52] }, { data := #[51, 47, 52] }] } = x := by simpa [chapR] using hx
    exact ⟨_, 0, none, 0, _, 2, lt_of_heap mD, rfl, blk_cell mD 0 rfl, blk_cell mD 1 rfl, blk_cell mD 2 rfl, atN_nil _ _ _, atN_cells mA⟩
  · obtain rfl : { k := 2, ps := [0], ts := [{ data := #[49, 47, 50] }, { data := #[49, 47, 50] }, { data := #[49] }, { data := #[48] }] } = x := by simpa [chapR] using hx
    exact ⟨_, 0, _, 1, _, 4, lt_of_heap mD, rfl, blk_cell mD 3 rfl, blk_cell mD 4 rfl, blk_cell mD 5 rfl, atN_cells mB, atN_cells mC⟩
end Go.Proofs.Ytbacloneddnaeaa

/- censuslaw40.works. -/
namespace Go.Proofs.Ytbacloneddnaeaa
open Go.RowKit Go.Shelf Num

theorem ask_at (N : Nat) (l : List BV) (vs : List Int) (a va : Option Addr) (c vc q1 q2 : Nat) (E : Int) (h : askE l vs (-1) = ((q1, q2), E)) (hn : NetIn l) (hvl : vs.length ≤ 100) (hsz : checkE l = 0 → szs (ksOf l) ≤ 9000) (w : World) (hN : NetAt N w a l) (hV : AtN N w va (ints vs)) (hw : N ≤ w.heap.size) :
    Calls Try.prog 28 #[.slice a l.length c, .slice va vs.length vc] w fun e w' => e = .returned (.tuple #[.agg #[.string (nb q1), .string (nb q2)], .int .i64 E]) ∧ Below w.heap.size w w' := by
  have := ask_law gBOne N l vs a va c vc hn hvl hsz w hN hV hw
  rw [h] at this
  exact this
theorem joint_at (N : Nat) (l : List BV) (vs : List Int) (a va : Option Addr) (c vc q1 q2 : Nat) (E : Int) (h : askE l vs 0 = ((q1, q2), E)) (hn : NetIn l) (hvl : vs.length ≤ 100) (hsz : checkE l = 0 → szs (ksOf l) ≤ 9000) (w : World) (hN : NetAt N w a l) (hV : AtN N w va (ints vs)) (hw : N ≤ w.heap.size) :
    Calls Try.prog 14 #[.slice a l.length c, .slice va vs.length vc] w fun e w' => e = .returned (.tuple #[.agg #[.string (nb q1), .string (nb q2)], .int .i64 E]) ∧ Below w.heap.size w w' := by
  have := joint_law gBOne N l vs a va c vc hn hvl hsz w hN hV hw
  rw [h] at this
  exact this
theorem post_at (N : Nat) (l : List BV) (vs : List Int) (a va : Option Addr) (c vc : Nat) (v : Int) (L : List (Nat × Nat)) (E : Int) (h : postE l vs v = (L, E)) (hn : NetIn l) (hvl : vs.length ≤ 100) (hsz : checkE l = 0 → szs (ksOf l) ≤ 9000) (w : World) (hN : NetAt N w a l) (hV : AtN N w va (ints vs)) (hw : N ≤ w.heap.size) :
    Calls Try.prog 29 #[.slice a l.length c, .slice va vs.length vc, .int .i64 v] w fun e w' => ∃ p n c, e = .returned (.tuple #[.slice p n c, .int .i64 E]) ∧ n = L.length ∧ AtN w'.heap.size w' p (rats L) ∧ Below w.heap.size w w' := by
  refine (posterior_law gBOne N l vs a va c vc v hn hvl hsz w hN hV hw).mono ?_
  rintro e w' ⟨s, rfl, hR, hB⟩
  rw [h] at *
  rcases hR with ⟨rfl, hL⟩ | ⟨g, c, rfl, _, hA⟩
  · have hL : L = [] := hL
    subst hL
    exact ⟨_, _, _, rfl, rfl, fun i v h => by simp [rats] at h, hB⟩
  · exact ⟨_, _, _, rfl, rfl, hA, hB⟩

theorem chap_lit : Lit chapR := by
  refine ⟨by decide, fun x hx => ?_, fun x hx => ?_⟩
  · simp only [chapR, List.mem_cons, List.not_mem_nil, or_false] at hx
    rcases hx with rfl | rfl <;> decide
  · simp only [chapR, List.mem_cons, List.not_mem_nil, or_false] at hx
    rcases hx with rfl | rfl
    · exact ⟨by decide, by intro s hs; simp only [List.mem_cons, List.not_mem_nil, or_false] at hs; rcases hs with rfl | rfl <;> decide⟩
    · exact ⟨by decide, by intro s hs; simp only [List.mem_cons, List.not_mem_nil, or_false] at hs; rcases hs with rfl | rfl | rfl | rfl <;> decide⟩

/-- The chapter's network, made anew. -/
theorem net_law (w : World) (hM : ∃ m, w.cell? ⟨0, 0, none⟩ = some (.int .i64 m)) (a : Option Addr) (c : Nat) (hR : RefAt w.heap.size w a chapR) :
    Calls Try.prog 11 #[.slice a 2 c] w fun e w' => ∃ p cp, e = .returned (.slice p 2 cp) ∧ NetAt w'.heap.size w' p chapN ∧ Below w.heap.size w w' := by
  refine (given_law w.heap.size chapR a c chap_lit w hR (Nat.le_refl _) hM).mono ?_
  rintro e w' ⟨v, cs, rfl, hG, hB⟩
  rw [gnet_chap] at hG
  obtain ⟨p, cp, rfl⟩ := hG.row.slice
  exact ⟨p, cp, rfl, hG.net, hB⟩

theorem below_in {w w' : World} (h : Below w.heap.size w w') {m : Int} (hM : w.cell? ⟨0, 0, none⟩ = some (.int .i64 m)) : w'.cell? ⟨0, 0, none⟩ = some (.int .i64 m) := below_cell h (block_lt_of_cell hM) hM

theorem calls_gen {P : Program} {f : FuncId} {args : Array Value} {w : World} {Q : Ending → World → Prop} (h : ∀ w1, w1 = w → Calls P f args w1 Q) : Calls P f args w Q := h _ rfl
theorem gTextOf (p q : Nat) (s : ByteArray) (hp : Sm 1000000 (p, q)) (h : rtext (p, q) = s) : Gives 16 #[.agg #[.string (nb p), .string (nb q)]] (.string s) := by
  have := gRText (p, q) hp
  rw [h] at this
  exact this
theorem post0 : postE chapN [-1, 0] 0 = ([(1, 7), (6, 7)], 0) := by
  have := post_chap (vs := [-1, 0]) (v := 0) (L := [(1, 7), (6, 7)]) (t := (7, 8)) rfl (by decide) (by decide) (by kernel_rfl) (by decide) (by kernel_rfl)
  exact this

set_option maxHeartbeats 3200000 in
set_option maxRecDepth 100000 in
theorem works_law (w : World) (hM : ∃ m, w.cell? ⟨0, 0, none⟩ = some (.int .i64 m)) : Calls Try.prog 13 #[] w fun e w' => e = .returned (.bool true) ∧ Below w.heap.size w w' := by
  obtain ⟨M, hM⟩ := hM
  go_enter Try.func13, Try.ntmps13
  go_wp2_with fail
  refine (chapter_law _).mono ?_
  rintro r1 w1 ⟨a1, c1, rfl, hR1, hB1⟩
  have hM1 := below_in hB1 hM
  rw [show chapR.length = 2 from rfl]
  go_wp2_with fail
  refine (net_law w1 ⟨M, hM1⟩ a1 c1 hR1).mono ?_
  rintro r2 w2 ⟨p, cp, rfl, hN2, hB2⟩
  have HB2 := Lib.hid (hB1.trans (hB2.mono hB1.size))
  have HN2 := Lib.hid hN2
  clear hR1 hB1 hM1 hN2 hB2 hM
  go_wp2_with fail
  obtain ⟨w3, hw3, mV, sz3, hB3⟩ := one_cells w2 #[.int .i64 (-1), .int .i64 0] 3
  rw [← hw3]
  clear hw3
  have hN3 := (HN2.out.below hB3 (Nat.le_refl _)).mono (M := w3.heap.size) (by omega)
  refine (ask_at w3.heap.size chapN [-1, 0] p (some ⟨w2.heap.size, 0, none⟩) cp 2 7 8 0 (ask_chap rfl (by decide) askm0) chap_in (by decide) (fun _ => chap_sz) w3 hN3 (atN_cells mV) (Nat.le_refl _)).mono ?_
  rintro r4 w4 ⟨rfl, hB4⟩
  have HN4 := Lib.hid (hN3.below hB4 (Nat.le_refl _))
  have HB4 := Lib.hid ((HB2.out.trans (hB3.mono HB2.out.size)).trans (hB4.mono (by have := HB2.out.size; omega)))
  have hs4 := hB4.size
  clear mV hN3 hB3 hB4
  go_wp2_with fail
  obtain ⟨w5, hw5, m2, mV, sz5, hB5⟩ := two_cells w4 #[.string (nb 7), .string (nb 8)] #[.int .i64 (-1), .int .i64 0] 34 3
  rw [← hw5]
  clear hw5
  have hN5 := (HN4.out.below hB5 (by omega)).mono (M := w5.heap.size) (by omega)
  refine (post_at w5.heap.size chapN [-1, 0] p (some ⟨w4.heap.size + 1, 0, none⟩) cp 2 0 [(1, 7), (6, 7)] 0 post0 chap_in (by decide) (fun _ => chap_sz) w5 hN5 (atN_cells mV) (Nat.le_refl _)).mono ?_
  rintro r6 w6 ⟨ps, n, cs, rfl, rfl, hA6, hB6⟩
  rw [show ([(1, 7), (6, 7)] : List (Nat × Nat)).length = 2 from rfl]
  have hs6 := hB6.size
  have HN6 := Lib.hid (hN5.below hB6 (Nat.le_refl _))
  have HB6 := Lib.hid ((HB4.out.trans (hB5.mono HB4.out.size)).trans (hB6.mono (by have := HB4.out.size; omega)))
  have M2 := Lib.hid ((behind_of_below hB6).keep m2 (by simp))
  have HA6 := Lib.hid hA6
  clear m2 mV hN5 hB5 hB6 hA6
  go_wp2_with fail
  obtain ⟨w7, hw7, mV, sz7, hB7⟩ := one_cells w6 #[.int .i64 0, .int .i64 1] 3
  rw [← hw7]
  clear hw7
  have hN7 := (HN6.out.below hB7 (by omega)).mono (M := w7.heap.size) (by omega)
  refine (joint_at w7.heap.size chapN [0, 1] p (some ⟨w6.heap.size, 0, none⟩) cp 2 1 8 0 (ask_chap rfl (by decide) joint01) chap_in (by decide) (fun _ => chap_sz) w7 hN7 (atN_cells mV) (Nat.le_refl _)).mono ?_
  rintro r8 w8 ⟨rfl, hB8⟩
  have hs8 := hB8.size
  have h68 : Behind w6 [] w8 := (behind_of_below hB7).trans (behind_of_below hB8) (by simp)
  have HN8 := Lib.hid (hN7.below hB8 (Nat.le_refl _))
  have HB8 := Lib.hid (HB6.out.trans (h68.below.mono HB6.out.size))
  have M28 := Lib.hid (h68.keep M2.out (by simp))
  have HA8 := Lib.hid (HA6.out.below h68.below (Nat.le_refl _))
  clear mV hN7 hB7 hB8 h68 M2 HA6 HN6 HB6
  go_wp2_with fail
  obtain ⟨w9, hw9, m6, sz9, hB9⟩ := one_cells w8 #[.string (nb 1), .string (nb 8)] 34
  rw [← hw9]
  clear hw9
  have hN9 := (HN8.out.below hB9 (by omega)).mono (M := w9.heap.size) (by omega)
  refine (encode_law gBOne w9.heap.size chapN p cp chap_in w9 hN9 (Nat.le_refl _)).mono ?_
  rintro r10 w10 ⟨hB10, ⟨hc, _⟩ | ⟨_, gT, gW, gI, ep, rfl, hE10⟩⟩
  · exact absurd chap_check hc
  obtain ⟨pL, cL, hvL⟩ := hE10.rC.slice
  obtain ⟨pI, cI, hvI⟩ := hE10.rI.slice
  have hs10 := hB10.size
  have h810 : Behind w8 [] w10 := (behind_of_below hB9).trans (behind_of_below hB10) (by simp)
  have HB10 := Lib.hid (HB8.out.trans (h810.below.mono HB8.out.size))
  have M2' := Lib.hid (h810.keep M28.out (by simp))
  have M6 := Lib.hid ((behind_of_below hB10).keep m6 (by simp))
  have HA10 := Lib.hid (HA8.out.below h810.below (by omega))
  rw [enc_chap, hvL, hvI]
  clear hE10 hvL hvI hB9 hB10 h810 m6 hN9 HN8 HB8 M28 HA8
  have KT1 : Gives 16 #[.agg #[.string (nb 7), .string (nb 8)]] (.string { data := #[55, 47, 56] }) := gTextOf 7 8 _ ⟨by decide, by decide⟩ (by kernel_rfl)
  have KT2 : Gives 16 #[.agg #[.string (nb 1), .string (nb 8)]] (.string { data := #[49, 47, 56] }) := gTextOf 1 8 _ ⟨by decide, by decide⟩ (by kernel_rfl)
  have c2a := blk_cell M2'.out 0 rfl
  have c2b := blk_cell M2'.out 1 rfl
  have l2 := lt_of_heap M2'.out
  go_wp2_with fail
  refine calls_gen fun w11 hw11 => ?_
  have mT : w11.heap[w10.heap.size]? = some (.cells #[.int .i64 10, .slice pL (encOf chapN).L.length cL] 43 (0, 0)) := by rw [hw11]; exact (heap_alloc_old _ _ (by simp)).trans (heap_alloc_new _ _)
  have hB11 : Below w10.heap.size w10 w11 := by rw [hw11]; exact ((Below.refl _ _).alloc (Nat.le_refl _) _).alloc (by simp) _
  have hs11 := hB11.size
  clear hw11 c2a c2b
  refine (KT1 _).mono ?_
  rintro r12 w12 ⟨rfl, hB12⟩
  have hs12 := hB12.size
  have h12 : Behind w10 [] w12 := (behind_of_below hB11).trans (behind_of_below hB12) (by simp)
  have MT := Lib.hid ((behind_of_below hB12).keep mT (by simp))
  have M6' := Lib.hid (h12.keep M6.out (by simp))
  have HA12 := Lib.hid (HA10.out.below h12.below (by omega))
  have HB12 := Lib.hid (HB10.out.trans (h12.below.mono HB10.out.size))
  clear mT hB11 hB12 h12 M6 HA10 HB10
  go_wp2_with fail
  obtain ⟨w13, hw13, mS, sz13, hB13⟩ := one_cells w12 #[.string { data := #[49, 47, 55] }, .string { data := #[54, 47, 55] }] 9
  rw [← hw13]
  clear hw13
  refine (texts_law w13.heap.size [(1, 7), (6, 7)] [{ data := #[49, 47, 55] }, { data := #[54, 47, 55] }] ps (some ⟨w12.heap.size, 0, none⟩) cs 2 (by intro q hq; simp only [List.mem_cons, List.not_mem_nil, or_false] at hq; rcases hq with rfl | rfl <;> exact ⟨by decide, by decide⟩) (by decide) (by decide) w13 ((HA12.out.below hB13 (by omega)).mono (by omega)) (atN_cells mS) (Nat.le_refl _)).mono ?_
  rintro r14 w14 ⟨rfl, hB14⟩
  rw [show textsB [(1, 7), (6, 7)] [{ data := #[49, 47, 55] }, { data := #[54, 47, 55] }] = true from decide_eq_true (by kernel_rfl)]
  have h14 : Behind w12 [] w14 := (behind_of_below hB13).trans (behind_of_below hB14) (by simp)
  have MT14 := Lib.hid (h14.keep MT.out (by simp))
  have m614 := h14.keep M6'.out (by simp)
  have c6a := blk_cell m614 0 rfl
  have c6b := blk_cell m614 1 rfl
  have HB14 := Lib.hid (HB12.out.trans (h14.below.mono HB12.out.size))
  clear hB13 hB14 h14 m614 mS MT M6' HB12 HA12
  go_wp2_with fail
  refine (KT2 _).mono ?_
  rintro r15 w15 ⟨rfl, hB15⟩
  have mT15 := (behind_of_below hB15).keep MT14.out (by simp)
  have cT := blk_cell mT15 0 rfl
  have HB15 := Lib.hid (HB14.out.trans (hB15.mono HB14.out.size))
  clear c6a c6b hB15 mT15 MT14
  go_wp2_with fail
  go_ret
  exact ⟨rfl, HB15.out⟩
end Go.Proofs.Ytbacloneddnaeaa

/- BayesKnown: what it computes, with no program in sight; what stays known from call to call. -/
namespace Go.Proofs.Ytbacloneddnaeaa
open Go.RowKit Go.Shelf Num

theorem joint11 : rawQ chapN [1, 1] 2 [] = (0, 1) := by kernel_rfl
theorem askmm : rawQ chapN [-1, -1] 2 [] = (1, 1) := by kernel_rfl
theorem post11 : postE chapN [1, 1] 0 = ([(1, 1), (0, 1)], 0) :=
  post_chap (vs := [1, 1]) (v := 0) (L := [(1, 1), (0, 1)]) (t := (1, 8)) rfl (by decide) (by decide) (by kernel_rfl) (by decide) (by kernel_rfl)
theorem post00 : postE chapN [0, 0] 1 = ([(1, 2), (1, 2)], 0) :=
  post_chap (vs := [0, 0]) (v := 1) (L := [(1, 2), (1, 2)]) (t := (1, 4)) rfl (by decide) (by decide) (by kernel_rfl) (by decide) (by kernel_rfl)
theorem post2 : postE chapN [1, 1] 2 = ([], 1) := by
  unfold postE
  rw [if_neg (by simp [chap_check]), if_pos (.inr (.inr (by simp [chapN])))]

theorem nil_in : NetIn [] := ⟨by decide, fun i x h => by simp at h, fun i x h => by simp at h, fun i x h => by simp at h⟩
theorem nil_check : checkE [] = 0 := by
  unfold checkE
  rw [if_neg (by decide), if_pos (fun i h => by simp at h), if_neg (by decide)]
theorem nil_ask : askE [] [] (-1) = ((1, 1), 0) := by
  unfold askE
  rw [if_neg (by simp [nil_check]), if_neg (by rw [allowedB_true ⟨rfl, fun i x v h => by simp at h⟩]; simp)]
  rfl

/-- Seventeen times the same variable. -/
def x0 : BV := { k := 2, ps := [], tab := [(1, 4), (3, 4)] }
theorem many_get {n i : Nat} {x : BV} (h : (List.replicate n x0)[i]? = some x) : x = x0 := by
  have := List.mem_of_getElem? h
  exact (List.mem_replicate.1 this).2
theorem many_in (n : Nat) (hn : n ≤ 100) : NetIn (List.replicate n x0) := by
  refine ⟨by simpa using hn, fun i x h => ?_, fun i x h => ?_, fun i x h => ?_⟩ <;> rw [many_get h]
  · intro p hp
    simp only [x0, List.mem_cons, List.not_mem_nil, or_false] at hp
    rcases hp with rfl | rfl <;> exact ⟨⟨by decide, by decide⟩, ⟨by decide, by decide⟩⟩
  · decide
  · decide
theorem many_17 : checkE (List.replicate 17 x0) = 1 := by
  unfold checkE
  rw [if_pos (by simp)]
theorem many_16 : checkE (List.replicate 16 x0) = 0 := by
  unfold checkE
  rw [if_neg (by simp), if_pos (fun i hi => ?_), if_neg (by decide)]
  refine ⟨x0, 1, by rw [List.getElem?_replicate, if_pos (by simpa using hi)], by decide, by decide, rfl, rfl, fun j hj => ?_⟩
  obtain rfl : j = 0 := by omega
  kernel_rfl

/-- The last network. -/
def lastR : List RV := [{ k := 2, ps := [], ts := [{ data := #[49] }, { data := #[48] }] }, { k := 2, ps := [], ts := [{ data := #[49] }, { data := #[48] }] }]
def lastN : List BV := [{ k := 2, ps := [], tab := [(1, 1), (0, 1)] }, { k := 2, ps := [], tab := [(1, 1), (0, 1)] }]
theorem gnet_last : gnet lastR = lastN := by kernel_rfl
theorem last_get {i : Nat} {x : BV} (h : lastN[i]? = some x) : x = { k := 2, ps := [], tab := [(1, 1), (0, 1)] } := by
  have := List.mem_of_getElem? h
  simpa [lastN] using this
theorem last_in : NetIn lastN := by
  refine ⟨by decide, fun i x h => ?_, fun i x h => ?_, fun i x h => ?_⟩ <;> rw [last_get h]
  · intro p hp
    simp only [List.mem_cons, List.not_mem_nil, or_false] at hp
    rcases hp with rfl | rfl <;> exact ⟨⟨by decide, by decide⟩, ⟨by decide, by decide⟩⟩
  · decide
  · decide
theorem last_check : checkE lastN = 0 := by
  unfold checkE
  rw [if_neg (by decide), if_pos (fun i hi => ?_), if_neg (by decide)]
  rcases lt_two hi with rfl | rfl
  all_goals
    refine ⟨_, 1, rfl, by decide, by decide, rfl, rfl, fun j hj => ?_⟩
    obtain rfl : j = 0 := by omega
    kernel_rfl
theorem last_sz : szs (ksOf lastN) ≤ 9000 := by decide
theorem last_post : postE lastN [1, 0] 1 = ([], 3) := by
  have ha : allowedB lastN [1, 0] (-1) = true := allowedB_true ⟨rfl, fun i x v hx hv => by
    rw [last_get hx]
    have := List.mem_of_getElem? hv
    simp only [List.mem_cons, List.not_mem_nil, or_false] at this
    rcases this with rfl | rfl <;> decide⟩
  have hk : kAt lastN 1 = 2 := rfl
  have ht : (rowR (partsR lastN [1, 0] 1 2)).1 = 0 := by kernel_rfl
  unfold postE
  rw [if_neg (by simp [last_check]), if_neg (by rw [ha]; simp [lastN]), show (1 : Int).toNat = 1 from rfl, hk, if_pos ht]
theorem last_lit : Lit lastR := by
  refine ⟨by decide, fun x hx => ?_, fun x hx => ?_⟩
  · simp only [lastR, List.mem_cons, List.not_mem_nil, or_false] at hx
    rcases hx with rfl | rfl <;> decide
  · simp only [lastR, List.mem_cons, List.not_mem_nil, or_false] at hx
    rcases hx with rfl | rfl <;> exact ⟨by decide, by intro s hs; simp only [List.mem_cons, List.not_mem_nil, or_false] at hs; rcases hs with rfl | rfl <;> decide⟩

/-- What is known of the world: nothing old has been written; these networks, blocks and lists lie in it. -/
structure Kn (w0 : World) (ns : List (Option Addr × List BV)) (bs : List (Nat × Obj)) (ls : List (Option Addr × List Value)) (W : World) : Prop where
  be : Below w0.heap.size w0 W
  net : ∀ x ∈ ns, NetAt W.heap.size W x.1 x.2
  bl : ∀ x ∈ bs, W.heap[x.1]? = some x.2
  at' : ∀ x ∈ ls, AtN W.heap.size W x.1 x.2
theorem Kn.go {w0 : World} {ns : List (Option Addr × List BV)} {bs : List (Nat × Obj)} {ls : List (Option Addr × List Value)} {W W' : World} (h : Kn w0 ns bs ls W) (hb : Below W.heap.size W W') : Kn w0 ns bs ls W' :=
  ⟨h.be.trans (hb.mono h.be.size), fun x hx => ((h.net x hx).below hb (Nat.le_refl _)).mono hb.size, fun x hx => (behind_of_below hb).keep (h.bl x hx) (by simp), fun x hx => ((h.at' x hx).below hb (Nat.le_refl _)).mono hb.size⟩
theorem Kn.addB {w0 : World} {ns : List (Option Addr × List BV)} {bs : List (Nat × Obj)} {ls : List (Option Addr × List Value)} {W : World} (h : Kn w0 ns bs ls W) {g : Nat} {o : Obj} (hg : W.heap[g]? = some o) : Kn w0 ns ((g, o) :: bs) ls W :=
  ⟨h.be, h.net, fun x hx => by rcases List.mem_cons.1 hx with rfl | hx; exact hg; exact h.bl x hx, h.at'⟩
theorem Kn.addA {w0 : World} {ns : List (Option Addr × List BV)} {bs : List (Nat × Obj)} {ls : List (Option Addr × List Value)} {W : World} (h : Kn w0 ns bs ls W) {a : Option Addr} {xs : List Value} (ha : AtN W.heap.size W a xs) : Kn w0 ns bs ((a, xs) :: ls) W :=
  ⟨h.be, h.net, h.bl, fun x hx => by rcases List.mem_cons.1 hx with rfl | hx; exact ha; exact h.at' x hx⟩
theorem Kn.addN {w0 : World} {ns : List (Option Addr × List BV)} {bs : List (Nat × Obj)} {ls : List (Option Addr × List Value)} {W : World} (h : Kn w0 ns bs ls W) {a : Option Addr} {l : List BV} (ha : NetAt W.heap.size W a l) : Kn w0 ((a, l) :: ns) bs ls W :=
  ⟨h.be, fun x hx => by rcases List.mem_cons.1 hx with rfl | hx; exact ha; exact h.net x hx, h.bl, h.at'⟩
theorem nil_net (N : Nat) (w : World) (a : Option Addr) : NetAt N w a [] := fun i x h => by simp at h
end Go.Proofs.Ytbacloneddnaeaa

/- BayesKnown: the walk. -/
namespace Go.Proofs.Ytbacloneddnaeaa
open Go.RowKit Go.Shelf Num

theorem below_one (w : World) (o : Obj) : Below w.heap.size w (w.alloc o) := (Below.refl _ _).alloc (Nat.le_refl _) _
theorem below_two (w : World) (o u : Obj) : Below w.heap.size w ((w.alloc o).alloc u) := ((Below.refl _ _).alloc (Nat.le_refl _) _).alloc (by simp) _
theorem new_one (w : World) (o : Obj) : (w.alloc o).heap[w.heap.size]? = some o := World.alloc_heap_new w o
theorem new_two1 (w : World) (o u : Obj) : ((w.alloc o).alloc u).heap[w.heap.size]? = some o := (heap_alloc_old _ _ (by simp)).trans (World.alloc_heap_new w o)
theorem new_two2 (w : World) (o u : Obj) : ((w.alloc o).alloc u).heap[w.heap.size + 1]? = some u := by
  have := World.alloc_heap_new (w.alloc o) u
  simpa using this

set_option maxHeartbeats 6400000 in
set_option maxRecDepth 100000 in
theorem known_law (w : World) (hM : ∃ m, w.cell? ⟨0, 0, none⟩ = some (.int .i64 m)) : Calls Try.prog 8 #[] w fun e w' => e = .returned (.bool true) ∧ Below w.heap.size w w' := by
  obtain ⟨M, hM⟩ := hM
  have HM := Lib.hid hM
  obtain ⟨v0, vi, vz0, vz1, vz2⟩ := info_parts Try.infoVar
  go_enter Try.func8, Try.ntmps8
  go_wp2_with fail
  refine (chapter_law _).mono ?_
  rintro r1 w1 ⟨a1, c1, rfl, hR1, hB1⟩
  have hM1 := below_in hB1 hM
  rw [show chapR.length = 2 from rfl]
  go_wp2_with fail
  refine (net_law w1 ⟨M, hM1⟩ a1 c1 hR1).mono ?_
  rintro r2 w2 ⟨p, cp, rfl, hN2, hB2⟩
  have K2 := Lib.hid (Kn.addN (l := chapN) (Kn.mk (w0 := w) (ns := []) (bs := []) (ls := []) (hB1.trans (hB2.mono hB1.size)) (by simp) (by simp) (by simp)) hN2)
  clear hR1 hB1 hM1 hN2 hB2 hM
  -- Joint 1 1
  go_wp2_with fail
  refine calls_gen fun u1 hu => ?_
  have KU := K2.out.go (by rw [hu]; exact below_one _ _ : Below w2.heap.size w2 u1)
  have mV : u1.heap[w2.heap.size]? = some (.cells #[.int .i64 1, .int .i64 1] 3 (0, 0)) := by rw [hu]; exact new_one _ _
  clear hu
  refine (joint_at u1.heap.size chapN [1, 1] p (some ⟨w2.heap.size, 0, none⟩) cp 2 0 1 0 (ask_chap rfl (by decide) joint11) chap_in (by decide) (fun _ => chap_sz) u1 (KU.net (p, chapN) (by simp)) (atN_cells mV) (Nat.le_refl _)).mono ?_
  rintro r3 w3 ⟨rfl, hB⟩
  have K3 := Lib.hid (KU.go hB)
  clear K2 KU mV hB
  -- Ask -1 -1
  go_wp2_with fail
  refine calls_gen fun u1 hu => ?_
  have KU := (K3.out.go (by rw [hu]; exact below_two _ _ _ : Below w3.heap.size w3 u1)).addB (g := w3.heap.size) (o := .cells #[.string (nb 0), .string (nb 1)] 34 (0, 0)) (by rw [hu]; exact new_two1 _ _ _)
  have mV : u1.heap[w3.heap.size + 1]? = some (.cells #[.int .i64 (-1), .int .i64 (-1)] 3 (0, 0)) := by rw [hu]; exact new_two2 _ _ _
  clear hu
  refine (ask_at u1.heap.size chapN [-1, -1] p (some ⟨w3.heap.size + 1, 0, none⟩) cp 2 1 1 0 (ask_chap rfl (by decide) askmm) chap_in (by decide) (fun _ => chap_sz) u1 (KU.net (p, chapN) (by simp)) (atN_cells mV) (Nat.le_refl _)).mono ?_
  rintro r4 w4 ⟨rfl, hB⟩
  have K4 := Lib.hid (KU.go hB)
  clear K3 KU mV hB
  -- Posterior 1 1, 0
  go_wp2_with fail
  refine calls_gen fun u1 hu => ?_
  have KU := (K4.out.go (by rw [hu]; exact below_two _ _ _ : Below w4.heap.size w4 u1)).addB (g := w4.heap.size) (o := .cells #[.string (nb 1), .string (nb 1)] 34 (0, 0)) (by rw [hu]; exact new_two1 _ _ _)
  have mV : u1.heap[w4.heap.size + 1]? = some (.cells #[.int .i64 1, .int .i64 1] 3 (0, 0)) := by rw [hu]; exact new_two2 _ _ _
  clear hu
  refine (post_at u1.heap.size chapN [1, 1] p (some ⟨w4.heap.size + 1, 0, none⟩) cp 2 0 [(1, 1), (0, 1)] 0 post11 chap_in (by decide) (fun _ => chap_sz) u1 (KU.net (p, chapN) (by simp)) (atN_cells mV) (Nat.le_refl _)).mono ?_
  rintro r5 w5 ⟨ps, n, cs, rfl, rfl, hA, hB⟩
  rw [show ([(1, 1), (0, 1)] : List (Nat × Nat)).length = 2 from rfl]
  have K5 := Lib.hid ((KU.go hB).addA hA)
  clear K4 KU mV hB hA
  -- Posterior 0 0, 1
  go_wp2_with fail
  refine calls_gen fun u1 hu => ?_
  have KU := K5.out.go (by rw [hu]; exact below_one _ _ : Below w5.heap.size w5 u1)
  have mV : u1.heap[w5.heap.size]? = some (.cells #[.int .i64 0, .int .i64 0] 3 (0, 0)) := by rw [hu]; exact new_one _ _
  clear hu
  refine (post_at u1.heap.size chapN [0, 0] p (some ⟨w5.heap.size, 0, none⟩) cp 2 1 [(1, 2), (1, 2)] 0 post00 chap_in (by decide) (fun _ => chap_sz) u1 (KU.net (p, chapN) (by simp)) (atN_cells mV) (Nat.le_refl _)).mono ?_
  rintro r6 w6 ⟨qs, n, ds, rfl, rfl, hA, hB⟩
  rw [show ([(1, 2), (1, 2)] : List (Nat × Nat)).length = 2 from rfl]
  have K6 := Lib.hid ((KU.go hB).addA hA)
  clear K5 KU mV hB hA
  -- Joint -1 0
  go_wp2_with fail
  refine calls_gen fun u1 hu => ?_
  have KU := K6.out.go (by rw [hu]; exact below_one _ _ : Below w6.heap.size w6 u1)
  have mV : u1.heap[w6.heap.size]? = some (.cells #[.int .i64 (-1), .int .i64 0] 3 (0, 0)) := by rw [hu]; exact new_one _ _
  clear hu
  refine (joint_at u1.heap.size chapN [-1, 0] p (some ⟨w6.heap.size, 0, none⟩) cp 2 0 0 1 (ask_bad (v := -1) (by simp) (by decide) rfl) chap_in (by decide) (fun _ => chap_sz) u1 (KU.net (p, chapN) (by simp)) (atN_cells mV) (Nat.le_refl _)).mono ?_
  rintro r7 w7 ⟨rfl, hB⟩
  have K7 := Lib.hid (KU.go hB)
  clear K6 KU mV hB
  -- Ask -2 0
  go_wp2_with fail
  refine calls_gen fun u1 hu => ?_
  have KU := K7.out.go (by rw [hu]; exact below_two _ _ _ : Below w7.heap.size w7 u1)
  have mV : u1.heap[w7.heap.size + 1]? = some (.cells #[.int .i64 (-2), .int .i64 0] 3 (0, 0)) := by rw [hu]; exact new_two2 _ _ _
  clear hu
  refine (ask_at u1.heap.size chapN [-2, 0] p (some ⟨w7.heap.size + 1, 0, none⟩) cp 2 0 0 1 (ask_bad (v := -2) (by simp) (by decide) rfl) chap_in (by decide) (fun _ => chap_sz) u1 (KU.net (p, chapN) (by simp)) (atN_cells mV) (Nat.le_refl _)).mono ?_
  rintro r8 w8 ⟨rfl, hB⟩
  have K8 := Lib.hid (KU.go hB)
  clear K7 KU mV hB
  -- Posterior 1 1, 2
  go_wp2_with fail
  refine calls_gen fun u1 hu => ?_
  have KU := K8.out.go (by rw [hu]; exact below_two _ _ _ : Below w8.heap.size w8 u1)
  have mV : u1.heap[w8.heap.size + 1]? = some (.cells #[.int .i64 1, .int .i64 1] 3 (0, 0)) := by rw [hu]; exact new_two2 _ _ _
  clear hu
  refine (post_at u1.heap.size chapN [1, 1] p (some ⟨w8.heap.size + 1, 0, none⟩) cp 2 2 [] 1 post2 chap_in (by decide) (fun _ => chap_sz) u1 (KU.net (p, chapN) (by simp)) (atN_cells mV) (Nat.le_refl _)).mono ?_
  rintro r9 w9 ⟨zs, n, zc, rfl, rfl, _, hB⟩
  have K9 := Lib.hid (KU.go hB)
  clear K8 KU mV hB
  -- Ask nil nil
  go_wp2_with fail
  refine (ask_at w9.heap.size [] [] none none 0 0 1 1 0 nil_ask nil_in (by decide) (fun _ => by decide) w9 (nil_net _ _ _) (atN_nil _ _ _) (Nat.le_refl _)).mono ?_
  rintro r10 w10 ⟨rfl, hB⟩
  have K10 := Lib.hid (K9.out.go hB)
  clear K9 hB
  -- Encode nil
  go_wp2_with fail
  refine calls_gen fun u1 hu => ?_
  have KU := (K10.out.go (by rw [hu]; exact below_one _ _ : Below w10.heap.size w10 u1)).addB (g := w10.heap.size) (o := .cells #[.string (nb 1), .string (nb 1)] 34 (0, 0)) (by rw [hu]; exact new_one _ _)
  clear hu
  refine (encode_law gBOne u1.heap.size [] none 0 nil_in u1 (nil_net _ _ _) (Nat.le_refl _)).mono ?_
  rintro r11 w11 ⟨hB, ⟨hc, _⟩ | ⟨_, gT, gW, gI, ep, rfl, hE11⟩⟩
  · exact absurd nil_check hc
  obtain ⟨pL, cL, hvL⟩ := hE11.rC.slice
  obtain ⟨pI, cI, hvI⟩ := hE11.rI.slice
  rw [hvL, hvI, show (encOf []).N = 0 from rfl, show (encOf []).low.length = 1 from rfl, show (encOf []).L.length = 0 from rfl, show (encOf []).ind.length = 0 from rfl]
  have K11 := Lib.hid (KU.go hB)
  clear K10 KU hB hE11 hvL hvI
  go_wp2_with fail
  refine wp_gen ?_
  intro w12 hw
  have K12 := ((K11.out.go (by rw [hw]; exact below_two _ _ _ : Below w11.heap.size w11 w12)).addB (g := w11.heap.size) (o := .cells #[.int .i64 0, .slice pL 0 cL] 43 (0, 0)) (by rw [hw]; exact new_two1 _ _ _)).addB (g := w11.heap.size + 1) (o := .cells #[.slice (some ⟨ep.gL, 0, none⟩) 1 ep.capL, .slice (some ⟨ep.gH, 0, none⟩) 1 ep.capH] 46 (0, 0)) (by rw [hw]; exact new_two2 _ _ _)
  obtain ⟨b, o, pa, pc, ta, tc, hb, rfl, c0, c1', c2, _, hta, htc, htc2⟩ := K12.net (p, chapN) (by simp) 0 x0 rfl
  simp only [Nat.zero_mul, Nat.add_zero] at c0 c1' c2
  have HC0 := Lib.hid c0
  have HC1 := Lib.hid c1'
  have HC2 := Lib.hid c2
  have HTA := Lib.hid hta
  have HK12 := Lib.hid K12
  clear hw K11 K12 c0 c1' c2 hta
  go_loopw [22, 23] (fun v i wr => ∃ (j : Nat) (cs : List Value), j ≤ 17 ∧ i = .int .i64 j ∧ Hid (GAt w12.heap.size (List.replicate j x0) v cs wr) ∧ Hid (Below w12.heap.size w12 wr))
    (fun _ i _ => 17 - (intOf i).toNat)
  case atStart => exact ⟨0, [], by omega, rfl, GAt.nil _ _, Below.refl _ _⟩
  case round =>
    obtain ⟨j, cs', hj, rfl, HG, HB⟩ := hrel
    by_cases hlt : j < 17
    · have hd : decide (j < 17) = true := by simpa using hlt
      have d0 := below_cell HB.out hb HC0.out
      have d1 := below_cell HB.out hb HC1.out
      have d2 := below_cell HB.out hb HC2.out
      have hrl : (List.replicate j x0).length ≤ 17 := by simp; omega
      go_wp2_with (at_builtin; refine wpList_append_row _ rfl _ _ 26 rfl 78 v0 _ 3 56 Try.underlying26 vi vz0 vz1 vz2 rfl _ _ _ rfl (HG.out.row.keep (behind_of_below ((Below.refl _ _).alloc (Nat.le_refl _) _)) (by simp)) wr.heap.size 1 1 [.int .i64 x0.k, .slice pa x0.ps.length pc, .slice ta x0.tab.length tc] 78 rfl (heap_alloc_new wr _) rfl (by intro u hu; simp at hu; rcases hu with rfl | rfl | rfl <;> rfl) (by omega) (by unfold maxLen; omega) (by omega) ?_)
      intro v9 w9 hr9 hB9 hn9
      have h09 : Behind wr (rowBlk u22) w9 := ((behind_of_below ((Below.refl _ _).alloc (Nat.le_refl _) _)).mono (by simp)).trans hB9 (fun k hk => .inl hk)
      have hge := HG.out.ge
      have hG9 := GAt.snoc (x := x0) (pa := pa) (ta := ta) (pc := pc) (tc := tc) HG.out (by rw [List.length_replicate]; exact hr9) h09 (fun g hg => (hn9 g hg).imp id (fun h => by first | omega | (simp at h; omega))) HB.out.size (OutN.nil _ _ _) (fun i v hi => by
        obtain ⟨b', o', h1, h2, h3⟩ := HTA.out i v hi
        exact ⟨b', o', fun hm => by have := hge _ hm; omega, h2, below_cell HB.out h1 h3⟩) ⟨htc, htc2⟩
      rw [← List.replicate_succ'] at hG9
      have HG9 := Lib.hid hG9
      have HB9 := Lib.hid (HB.out.trans (h09.below_of hge HB.out.size))
      clear hG9 hr9 hB9 hn9 h09 d0 d1 d2 HG HB
      go_wp2_with fail
      go_roundw
      case rel => exact ⟨j + 1, _, by omega, by go_num, HG9, HB9⟩
      case measure => simp [intOf]; omega
    · obtain rfl : j = 17 := by omega
      obtain ⟨mp, mc, rfl, _, hmc, hmc2⟩ := OutN.row (M := []) HG.out.row (by simp)
      rw [List.length_replicate] at hmc
      unfold maxLen at hmc2
      have K13 := Lib.hid ((HK12.out.go HB.out).addN HG.out.net)
      rw [show (List.replicate 17 x0).length = 17 from rfl] at *
      clear HG HB HK12 HC0 HC1 HC2 HTA
      go_wp2_with fail
      -- the last network
      refine calls_gen fun u1 hu => ?_
      obtain ⟨u0, hu0⟩ : ∃ u0, u0 = (wr.alloc (Obj.cells #[Value.string { data := #[49] }, Value.string { data := #[48] }] 9)).alloc (Obj.cells #[Value.string { data := #[49] }, Value.string { data := #[48] }] 9) := ⟨_, rfl⟩
      rw [← hu0] at hu
      have hs0 : u0.heap.size = wr.heap.size + 1 + 1 := by rw [hu0]; simp
      have hb0 : Below wr.heap.size wr u0 := by rw [hu0]; exact below_two _ _ _
      have hb1 : Below u0.heap.size u0 u1 := by rw [hu]; exact below_one _ _
      have mA : u1.heap[wr.heap.size]? = some (.cells #[.string { data := #[49] }, .string { data := #[48] }] 9 (0, 0)) := (behind_of_below hb1).keep (by rw [hu0]; exact new_two1 _ _ _) (by simp)
      have mB : u1.heap[wr.heap.size + 1]? = some (.cells #[.string { data := #[49] }, .string { data := #[48] }] 9 (0, 0)) := (behind_of_below hb1).keep (by rw [hu0]; exact new_two2 _ _ _) (by simp)
      have mC : u1.heap[wr.heap.size + 1 + 1]? = some (.cells #[.int .i64 2, .slice none 0 0, .slice (some ⟨wr.heap.size, 0, none⟩) 2 2, .int .i64 2, .slice none 0 0, .slice (some ⟨wr.heap.size + 1, 0, none⟩) 2 2] 62 (0, 0)) := by rw [hu, ← hs0]; exact new_one _ _
      have KU := (K13.out.go hb0).go hb1
      clear hu hu0 hs0 hb0 hb1
      have hRL : RefAt u1.heap.size u1 (some ⟨wr.heap.size + 1 + 1, 0, none⟩) lastR := fun i x hx => by
        have hi : i < 2 := (List.getElem?_eq_some_iff.1 hx).1
        rcases lt_two hi with rfl | rfl
        · obtain rfl : { k := 2, ps := [], ts := [{ data := #[49] }, { data := #[48] }] } = x := by simpa [lastR] using hx
          exact ⟨_, 0, none, 0, _, 2, lt_of_heap mC, rfl, blk_cell mC 0 rfl, blk_cell mC 1 rfl, blk_cell mC 2 rfl, atN_nil _ _ _, atN_cells mA⟩
        · obtain rfl : { k := 2, ps := [], ts := [{ data := #[49] }, { data := #[48] }] } = x := by simpa [lastR] using hx
          exact ⟨_, 0, none, 0, _, 2, lt_of_heap mC, rfl, blk_cell mC 3 rfl, blk_cell mC 4 rfl, blk_cell mC 5 rfl, atN_nil _ _ _, atN_cells mB⟩
      refine (given_law u1.heap.size lastR (some ⟨wr.heap.size + 1 + 1, 0, none⟩) 2 last_lit u1 hRL (Nat.le_refl _) ⟨M, below_cell KU.be (block_lt_of_cell HM.out) HM.out⟩).mono ?_
      rintro r14 w14 ⟨vL, csL, rfl, hG14, hB⟩
      rw [gnet_last] at hG14
      obtain ⟨lp, lc, rfl⟩ := hG14.row.slice
      rw [show lastN.length = 2 from rfl]
      have K14 := Lib.hid ((KU.go hB).addN hG14.net)
      clear KU hRL mA mB mC hG14 hB K13
      go_wp2_with fail
      refine calls_gen fun u1 hu => ?_
      have KU := K14.out.go (by rw [hu]; exact below_one _ _ : Below w14.heap.size w14 u1)
      have mV : u1.heap[w14.heap.size]? = some (.cells #[.int .i64 1, .int .i64 0] 3 (0, 0)) := by rw [hu]; exact new_one _ _
      clear hu
      refine (post_at u1.heap.size lastN [1, 0] lp (some ⟨w14.heap.size, 0, none⟩) lc 2 1 [] 3 last_post last_in (by decide) (fun _ => last_sz) u1 (KU.net (lp, lastN) (by simp)) (atN_cells mV) (Nat.le_refl _)).mono ?_
      rintro r15 w15 ⟨ys, n, yc, rfl, rfl, _, hB⟩
      have K15 := Lib.hid (KU.go hB)
      clear K14 KU mV hB
      have KT0 : Gives 16 #[.agg #[.string (nb 0), .string (nb 1)]] (.string { data := #[48] }) := gTextOf 0 1 _ ⟨by decide, by decide⟩ (by kernel_rfl)
      have KT1 : Gives 16 #[.agg #[.string (nb 1), .string (nb 1)]] (.string { data := #[49] }) := gTextOf 1 1 _ ⟨by decide, by decide⟩ (by kernel_rfl)
      have m2 := K15.out.bl (w3.heap.size, .cells #[.string (nb 0), .string (nb 1)] 34 (0, 0)) (by simp)
      have e2a := blk_cell m2 0 rfl
      have e2b := blk_cell m2 1 rfl
      go_wp2_with fail
      refine (KT0 _).mono ?_
      rintro r16 w16 ⟨rfl, hB⟩
      have K16 := Lib.hid (K15.out.go hB)
      clear K15 m2 e2a e2b hB
      have m4 := K16.out.bl (w4.heap.size, .cells #[.string (nb 1), .string (nb 1)] 34 (0, 0)) (by simp)
      have e4a := blk_cell m4 0 rfl
      have e4b := blk_cell m4 1 rfl
      go_wp2_with fail
      refine (KT1 _).mono ?_
      rintro r17 w17 ⟨rfl, hB⟩
      have K17 := Lib.hid (K16.out.go hB)
      clear K16 m4 e4a e4b hB
      go_wp2_with fail
      refine calls_gen fun u1 hu => ?_
      have KU := K17.out.go (by rw [hu]; exact below_one _ _ : Below w17.heap.size w17 u1)
      have mV : u1.heap[w17.heap.size]? = some (.cells #[.string { data := #[49] }, .string { data := #[48] }] 9 (0, 0)) := by rw [hu]; exact new_one _ _
      clear hu
      refine (texts_law u1.heap.size [(1, 1), (0, 1)] [{ data := #[49] }, { data := #[48] }] ps (some ⟨w17.heap.size, 0, none⟩) cs 2 (by intro q hq; simp only [List.mem_cons, List.not_mem_nil, or_false] at hq; rcases hq with rfl | rfl <;> exact ⟨by decide, by decide⟩) (by decide) (by decide) u1 (KU.at' (ps, rats [(1, 1), (0, 1)]) (by simp)) (atN_cells mV) (Nat.le_refl _)).mono ?_
      rintro r18 w18 ⟨rfl, hB⟩
      rw [show textsB [(1, 1), (0, 1)] [{ data := #[49] }, { data := #[48] }] = true from decide_eq_true (by kernel_rfl)]
      have K18 := Lib.hid (KU.go hB)
      clear K17 KU mV hB
      go_wp2_with fail
      refine calls_gen fun u1 hu => ?_
      have KU := K18.out.go (by rw [hu]; exact below_one _ _ : Below w18.heap.size w18 u1)
      have mV : u1.heap[w18.heap.size]? = some (.cells #[.string { data := #[49, 47, 50] }, .string { data := #[49, 47, 50] }] 9 (0, 0)) := by rw [hu]; exact new_one _ _
      clear hu
      refine (texts_law u1.heap.size [(1, 2), (1, 2)] [{ data := #[49, 47, 50] }, { data := #[49, 47, 50] }] qs (some ⟨w18.heap.size, 0, none⟩) ds 2 (by intro q hq; simp only [List.mem_cons, List.not_mem_nil, or_false] at hq; rcases hq with rfl | rfl <;> exact ⟨by decide, by decide⟩) (by decide) (by decide) u1 (KU.at' (qs, rats [(1, 2), (1, 2)]) (by simp)) (atN_cells mV) (Nat.le_refl _)).mono ?_
      rintro r19 w19 ⟨rfl, hB⟩
      rw [show textsB [(1, 2), (1, 2)] [{ data := #[49, 47, 50] }, { data := #[49, 47, 50] }] = true from decide_eq_true (by kernel_rfl)]
      have K19 := Lib.hid (KU.go hB)
      clear K18 KU mV hB
      have m16 := K19.out.bl (w10.heap.size, .cells #[.string (nb 1), .string (nb 1)] 34 (0, 0)) (by simp)
      have e16a := blk_cell m16 0 rfl
      have e16b := blk_cell m16 1 rfl
      go_wp2_with fail
      refine (KT1 _).mono ?_
      rintro r20 w20 ⟨rfl, hB⟩
      have K20 := Lib.hid (K19.out.go hB)
      clear K19 m16 e16a e16b hB
      have m18 := K20.out.bl (w11.heap.size, .cells #[.int .i64 0, .slice pL 0 cL] 43 (0, 0)) (by simp)
      have m19 := K20.out.bl (w11.heap.size + 1, .cells #[.slice (some ⟨ep.gL, 0, none⟩) 1 ep.capL, .slice (some ⟨ep.gH, 0, none⟩) 1 ep.capH] 46 (0, 0)) (by simp)
      have e18a := blk_cell m18 0 rfl
      have e18b := blk_cell m18 1 rfl
      have e19b := blk_cell m19 1 rfl
      go_wp2_with fail
      refine (check_law gBOne w20.heap.size (List.replicate 17 x0) mp mc (many_in 17 (by decide)) w20 (K20.out.net (mp, List.replicate 17 x0) (by simp)) (Nat.le_refl _)).mono ?_
      rintro r21 w21 ⟨rfl, hB⟩
      rw [many_17]
      have K21 := Lib.hid (K20.out.go hB)
      clear K20 m18 m19 e18a e18b e19b hB
      go_wp2_with fail
      have hn16 : NetAt w21.heap.size w21 mp (List.replicate 16 x0) := fun i x hi => K21.out.net (mp, List.replicate 17 x0) (by simp) i x (by
        have hl := (List.getElem?_eq_some_iff.1 hi).1
        rw [List.length_replicate] at hl
        rw [many_get hi, List.getElem?_replicate, if_pos (by omega)])
      refine (check_law gBOne w21.heap.size (List.replicate 16 x0) mp mc (many_in 16 (by decide)) w21 hn16 (Nat.le_refl _)).mono ?_
      rintro r22 w22 ⟨rfl, hB⟩
      rw [many_16]
      have K22 := Lib.hid (K21.out.go hB)
      clear K21 hn16 hB
      go_wp2_with fail
      refine (works_law w22 ⟨M, below_cell K22.out.be (block_lt_of_cell HM.out) HM.out⟩).mono ?_
      rintro r23 w23 ⟨rfl, hB⟩
      have K23 := Lib.hid (K22.out.go hB)
      clear K22 hB
      go_wp2_with fail
      go_ret
      exact ⟨rfl, K23.out.be⟩
end Go.Proofs.Ytbacloneddnaeaa
