/- Texts of this claim, joined: BChap, BWorks, BShare, BRefR, BKeep, BLists. -/
import Derived.Test.YtbacloneddnaeaaE30
import Derived.Test.YtbacloneddnaeaaE33
import Derived.Test.YtbacloneddnaeaaE27
import Derived.Test.YtbacloneddnaeaaE31
import Derived.Test.YtbacloneddnaeaaE35
import Derived.Test.YtbacloneddnaeaaE10
import Derived.Test.YtbacloneddnaeaaE20
import Derived.Test.YtbacloneddnaeaaE26
import Derived.Test.YtbacloneddnaeaaE23

/- The network of the chapter of Bayes. -/
namespace Go.Proofs.Ytbacloneddnaeaa
open Go.RowKit Go.Shelf Num

def chapR : List RV := [{ k := 2, ps := [], ts := [{ data := #[49, 47, 52] }, { data := #[51, 47, 52] }] }, { k := 2, ps := [0], ts := [{ data := #[49, 47, 50] }, { data := #[49, 47, 50] }, { data := #[49] }, { data := #[48] }] }]
def chapN : List BV := [{ k := 2, ps := [], tab := [(1, 4), (3, 4)] }, { k := 2, ps := [0], tab := [(1, 2), (1, 2), (1, 1), (0, 1)] }]
theorem gnet_chap : gnet chapR = chapN := by kernel_rfl

theorem lt_two {i : Nat} (h : i < 2) : i = 0 ∨ i = 1 := by omega
theorem chap_get {i : Nat} {x : BV} (h : chapN[i]? = some x) : x = { k := 2, ps := [], tab := [(1, 4), (3, 4)] } ∨ x = { k := 2, ps := [0], tab := [(1, 2), (1, 2), (1, 1), (0, 1)] } := by
  have := List.mem_of_getElem? h
  simpa [chapN] using this
theorem chap_in : NetIn chapN := by
  refine ⟨by decide, fun i x h => ?_, fun i x h => ?_, fun i x h => ?_⟩
  · rcases chap_get h with rfl | rfl
    · intro p hp
      simp only [List.mem_cons, List.not_mem_nil, or_false] at hp
      rcases hp with rfl | rfl <;> exact ⟨⟨by decide, by decide⟩, ⟨by decide, by decide⟩⟩
    · intro p hp
      simp only [List.mem_cons, List.not_mem_nil, or_false] at hp
      rcases hp with rfl | rfl | rfl | rfl <;> exact ⟨⟨by decide, by decide⟩, ⟨by decide, by decide⟩⟩
  · rcases chap_get h with rfl | rfl <;> decide
  · rcases chap_get h with rfl | rfl <;> decide
theorem chap_formed : ∀ i, i < chapN.length → formedP chapN i := by
  intro i hi
  rcases lt_two hi with rfl | rfl
  · refine ⟨_, 1, rfl, by decide, by decide, rfl, rfl, fun j hj => ?_⟩
    obtain rfl : j = 0 := by omega
    kernel_rfl
  · refine ⟨_, 2, rfl, by decide, by decide, by simp [okPar, kAt, chapN], rfl, fun j hj => ?_⟩
    rcases lt_two hj with rfl | rfl <;> kernel_rfl
theorem chap_check : checkE chapN = 0 := by
  unfold checkE
  rw [if_neg (by decide), if_pos chap_formed, if_neg (by decide)]
theorem chap_sz : szs (ksOf chapN) ≤ 9000 := by decide

theorem allowed_chap {vs : List Int} {least : Int} (h : vs.length = 2) (h0 : ∀ v ∈ vs, least ≤ v ∧ v < 2) : allowedB chapN vs least = true := by
  refine allowedB_true ⟨h, fun i x v hx hv => ?_⟩
  have := h0 v (List.mem_of_getElem? hv)
  rcases chap_get hx with rfl | rfl <;> exact this
theorem ask_chap {vs : List Int} {least : Int} {q : Nat × Nat} (h : vs.length = 2) (h0 : ∀ v ∈ vs, least ≤ v ∧ v < 2) (hq : rawQ chapN vs 2 [] = q) : askE chapN vs least = (q, 0) := by
  unfold askE
  rw [if_neg (by simp [chap_check]), if_neg (by simp [allowed_chap h h0])]
  exact congrArg (fun x => (x, (0 : Int))) hq
theorem post_chap {vs : List Int} {v : Nat} {L : List (Nat × Nat)} {t : Nat × Nat} (h : vs.length = 2) (h0 : ∀ v ∈ vs, -1 ≤ v ∧ v < 2) (hv : v < 2) (hp : rowR (partsR chapN vs v 2) = t) (ht : t.1 ≠ 0) (hL : (partsR chapN vs v 2).map (fun p => Q.div (nz p) (nz t)) = L) : postE chapN vs v = (L, 0) := by
  have hk : kAt chapN v = 2 := by rcases lt_two hv with rfl | rfl <;> rfl
  unfold postE
  rw [if_neg (by simp [chap_check]), if_neg (by rw [allowed_chap h h0]; simp [chapN]; omega), Int.toNat_natCast, hk, hp, if_neg ht, hL]
theorem enc_chap : (encOf chapN).N = 10 := by kernel_rfl
theorem joint01 : rawQ chapN [0, 1] 2 [] = (1, 8) := by kernel_rfl
theorem askm0 : rawQ chapN [-1, 0] 2 [] = (7, 8) := by kernel_rfl

theorem atN_cells {w : World} {g : Nat} {xs : Array Value} {T : TypeId} (h : w.heap[g]? = some (.cells xs T (0, 0))) : AtN w.heap.size w (some ⟨g, 0, none⟩) xs.toList := fun i v hi =>
  ⟨g, 0, lt_of_heap h, rfl, by rw [Nat.zero_add]; exact blk_cell h i (by simpa using hi)⟩
theorem atN_nil (N : Nat) (w : World) (a : Option Addr) : AtN N w a [] := fun i v h => by simp at h

theorem chapter_law (w : World) : Calls Try.prog 31 #[] w fun e w' => ∃ a c, e = .returned (.slice a chapR.length c) ∧ RefAt w'.heap.size w' a chapR ∧ Below w.heap.size w w' := by
  go_enter Try.func31, Try.ntmps31
  go_wp2_with fail
  go_ret
  obtain ⟨w4, hw4, mA, mB, mC, mD, sz, hb⟩ := four_cells w (Obj.cells #[.string { data := #[49, 47, 52] }, .string { data := #[51, 47, 52] }] 9) (Obj.cells #[.int .i64 0] 3) (Obj.cells #[.string { data := #[49, 47, 50] }, .string { data := #[49, 47, 50] }, .string { data := #[49] }, .string { data := #[48] }] 9)
    (Obj.cells #[.int .i64 2, .slice none 0 0, .slice (some ⟨w.heap.size, 0, none⟩) 2 2, .int .i64 2, .slice (some ⟨w.heap.size + 1, 0, none⟩) 1 1, .slice (some ⟨w.heap.size + 1 + 1, 0, none⟩) 4 4] 62)
  rw [← hw4]
  clear hw4
  refine ⟨some ⟨w.heap.size + 1 + 1 + 1, 0, none⟩, 2, rfl, fun i x hx => ?_, hb⟩
  have hi : i < 2 := (List.getElem?_eq_some_iff.1 hx).1
  rcases lt_two hi with rfl | rfl
  · obtain rfl : { k := 2, ps := [], ts := [{ data := #[49, 47, 52] }, { data := #[51, 47, 52] }] } = x := by simpa [chapR] using hx
    exact ⟨_, 0, none, 0, _, 2, lt_of_heap mD, rfl, blk_cell mD 0 rfl, blk_cell mD 1 rfl, blk_cell mD 2 rfl, atN_nil _ _ _, atN_cells mA⟩
  · obtain rfl : { k := 2, ps := [0], ts := [{ data := #[49, 47, 50] }, { data := #[49, 47, 50] }, { data := #[49] }, { data := #[48] }] } = x := by simpa [chapR] using hx
    exact ⟨_, 0, _, 1, _, 4, lt_of_heap mD, rfl, blk_cell mD 3 rfl, blk_cell mD 4 rfl, blk_cell mD 5 rfl, atN_cells mB, atN_cells mC⟩
end Go.Proofs.Ytbacloneddnaeaa

/- censuslaw40.works. -/
namespace Go.Proofs.Ytbacloneddnaeaa
open Go.RowKit Go.Shelf Num

theorem ask_at (N : Nat) (l : List BV) (vs : List Int) (a va : Option Addr) (c vc q1 q2 : Nat) (E : Int) (h : askE l vs (-1) = ((q1, q2), E)) (hn : NetIn l) (hvl : vs.length ≤ 100) (hsz : checkE l = 0 → szs (ksOf l) ≤ 9000) (w : World) (hN : NetAt N w a l) (hV : AtN N w va (ints vs)) (hw : N ≤ w.heap.size) :
    Calls Try.prog 28 #[.slice a l.length c, .slice va vs.length vc] w fun e w' => e = .returned (.tuple #[.agg #[.string (nb q1), .string (nb q2)], .int .i64 E]) ∧ Below w.heap.size w w' := by
  have := ask_law gBOne N l vs a va c vc hn hvl hsz w hN hV hw
  rw [h] at this
  exact this
theorem joint_at (N : Nat) (l : List BV) (vs : List Int) (a va : Option Addr) (c vc q1 q2 : Nat) (E : Int) (h : askE l vs 0 = ((q1, q2), E)) (hn : NetIn l) (hvl : vs.length ≤ 100) (hsz : checkE l = 0 → szs (ksOf l) ≤ 9000) (w : World) (hN : NetAt N w a l) (hV : AtN N w va (ints vs)) (hw : N ≤ w.heap.size) :
    Calls Try.prog 14 #[.slice a l.length c, .slice va vs.length vc] w fun e w' => e = .returned (.tuple #[.agg #[.string (nb q1), .string (nb q2)], .int .i64 E]) ∧ Below w.heap.size w w' := by
  have := joint_law gBOne N l vs a va c vc hn hvl hsz w hN hV hw
  rw [h] at this
  exact this
theorem post_at (N : Nat) (l : List BV) (vs : List Int) (a va : Option Addr) (c vc : Nat) (v : Int) (L : List (Nat × Nat)) (E : Int) (h : postE l vs v = (L, E)) (hn : NetIn l) (hvl : vs.length ≤ 100) (hsz : checkE l = 0 → szs (ksOf l) ≤ 9000) (w : World) (hN : NetAt N w a l) (hV : AtN N w va (ints vs)) (hw : N ≤ w.heap.size) :
    Calls Try.prog 29 #[.slice a l.length c, .slice va vs.length vc, .int .i64 v] w fun e w' => ∃ p n c, e = .returned (.tuple #[.slice p n c, .int .i64 E]) ∧ n = L.length ∧ AtN w'.heap.size w' p (rats L) ∧ Below w.heap.size w w' := by
  refine (posterior_law gBOne N l vs a va c vc v hn hvl hsz w hN hV hw).mono ?_
  rintro e w' ⟨s, rfl, hR, hB⟩
  rw [h] at *
  rcases hR with ⟨rfl, hL⟩ | ⟨g, c, rfl, _, hA⟩
  · have hL : L = [] := hL
    subst hL
    exact ⟨_, _, _, rfl, rfl, fun i v h => by simp [rats] at h, hB⟩
  · exact ⟨_, _, _, rfl, rfl, hA, hB⟩

theorem chap_lit : Lit chapR := by
  refine ⟨by decide, fun x hx => ?_, fun x hx => ?_⟩
  · simp only [chapR, List.mem_cons, List.not_mem_nil, or_false] at hx
    rcases hx with rfl | rfl <;> decide
  · simp only [chapR, List.mem_cons, List.not_mem_nil, or_false] at hx
    rcases hx with rfl | rfl
    · exact ⟨by decide, by intro s hs; simp only [List.mem_cons, List.not_mem_nil, or_false] at hs; rcases hs with rfl | rfl <;> decide⟩
    · exact ⟨by decide, by intro s hs; simp only [List.mem_cons, List.not_mem_nil, or_false] at hs; rcases hs with rfl | rfl | rfl | rfl <;> decide⟩

theorem net_law (w : World) (hM : ∃ m, w.cell? ⟨0, 0, none⟩ = some (.int .i64 m)) (a : Option Addr) (c : Nat) (hR : RefAt w.heap.size w a chapR) :
    Calls Try.prog 11 #[.slice a 2 c] w fun e w' => ∃ p cp, e = .returned (.slice p 2 cp) ∧ NetAt w'.heap.size w' p chapN ∧ Below w.heap.size w w' := by
  refine (given_law w.heap.size chapR a c chap_lit w hR (Nat.le_refl _) hM).mono ?_
  rintro e w' ⟨v, cs, rfl, hG, hB⟩
  rw [gnet_chap] at hG
  obtain ⟨p, cp, rfl⟩ := hG.row.slice
  exact ⟨p, cp, rfl, hG.net, hB⟩

theorem below_in {w w' : World} (h : Below w.heap.size w w') {m : Int} (hM : w.cell? ⟨0, 0, none⟩ = some (.int .i64 m)) : w'.cell? ⟨0, 0, none⟩ = some (.int .i64 m) := below_cell h (block_lt_of_cell hM) hM

theorem calls_gen {P : Program} {f : FuncId} {args : Array Value} {w : World} {Q : Ending → World → Prop} (h : ∀ w1, w1 = w → Calls P f args w1 Q) : Calls P f args w Q := h _ rfl
theorem gTextOf (p q : Nat) (s : ByteArray) (hp : Sm 1000000 (p, q)) (h : rtext (p, q) = s) : Gives 16 #[.agg #[.string (nb p), .string (nb q)]] (.string s) := by
  have := gRText (p, q) hp
  rw [h] at this
  exact this
theorem post0 : postE chapN [-1, 0] 0 = ([(1, 7), (6, 7)], 0) := by
  have := post_chap (vs := [-1, 0]) (v := 0) (L := [(1, 7), (6, 7)]) (t := (7, 8)) rfl (by decide) (by decide) (by kernel_rfl) (by decide) (by kernel_rfl)
  exact this

set_option maxHeartbeats 3200000 in
set_option maxRecDepth 100000 in
theorem works_law (w : World) (hM : ∃ m, w.cell? ⟨0, 0, none⟩ = some (.int .i64 m)) : Calls Try.prog 13 #[] w fun e w' => e = .returned (.bool true) ∧ Below w.heap.size w w' := by
  obtain ⟨M, hM⟩ := hM
  go_enter Try.func13, Try.ntmps13
  go_wp2_with fail
  refine (chapter_law _).mono ?_
  rintro r1 w1 ⟨a1, c1, rfl, hR1, hB1⟩
  have hM1 := below_in hB1 hM
  rw [show chapR.length = 2 from rfl]
  go_wp2_with fail
  refine (net_law w1 ⟨M, hM1⟩ a1 c1 hR1).mono ?_
  rintro r2 w2 ⟨p, cp, rfl, hN2, hB2⟩
  have HB2 := Lib.hid (hB1.trans (hB2.mono hB1.size))
  have HN2 := Lib.hid hN2
  clear hR1 hB1 hM1 hN2 hB2 hM
  go_wp2_with fail
  obtain ⟨w3, hw3, mV, sz3, hB3⟩ := one_cells w2 #[.int .i64 (-1), .int .i64 0] 3
  rw [← hw3]
  clear hw3
  have hN3 := (HN2.out.below hB3 (Nat.le_refl _)).mono (M := w3.heap.size) (by omega)
  refine (ask_at w3.heap.size chapN [-1, 0] p (some ⟨w2.heap.size, 0, none⟩) cp 2 7 8 0 (ask_chap rfl (by decide) askm0) chap_in (by decide) (fun _ => chap_sz) w3 hN3 (atN_cells mV) (Nat.le_refl _)).mono ?_
  rintro r4 w4 ⟨rfl, hB4⟩
  have HN4 := Lib.hid (hN3.below hB4 (Nat.le_refl _))
  have HB4 := Lib.hid ((HB2.out.trans (hB3.mono HB2.out.size)).trans (hB4.mono (by have := HB2.out.size; omega)))
  have hs4 := hB4.size
  clear mV hN3 hB3 hB4
  go_wp2_with fail
  obtain ⟨w5, hw5, m2, mV, sz5, hB5⟩ := two_cells w4 #[.string (nb 7), .string (nb 8)] #[.int .i64 (-1), .int .i64 0] 34 3
  rw [← hw5]
  clear hw5
  have hN5 := (HN4.out.below hB5 (by omega)).mono (M := w5.heap.size) (by omega)
  refine (post_at w5.heap.size chapN [-1, 0] p (some ⟨w4.heap.size + 1, 0, none⟩) cp 2 0 [(1, 7), (6, 7)] 0 post0 chap_in (by decide) (fun _ => chap_sz) w5 hN5 (atN_cells mV) (Nat.le_refl _)).mono ?_
  rintro r6 w6 ⟨ps, n, cs, rfl, rfl, hA6, hB6⟩
  rw [show ([(1, 7), (6, 7)] : List (Nat × Nat)).length = 2 from rfl]
  have hs6 := hB6.size
  have HN6 := Lib.hid (hN5.below hB6 (Nat.le_refl _))
  have HB6 := Lib.hid ((HB4.out.trans (hB5.mono HB4.out.size)).trans (hB6.mono (by have := HB4.out.size; omega)))
  have M2 := Lib.hid ((behind_of_below hB6).keep m2 (by simp))
  have HA6 := Lib.hid hA6
  clear m2 mV hN5 hB5 hB6 hA6
  go_wp2_with fail
  obtain ⟨w7, hw7, mV, sz7, hB7⟩ := one_cells w6 #[.int .i64 0, .int .i64 1] 3
  rw [← hw7]
  clear hw7
  have hN7 := (HN6.out.below hB7 (by omega)).mono (M := w7.heap.size) (by omega)
  refine (joint_at w7.heap.size chapN [0, 1] p (some ⟨w6.heap.size, 0, none⟩) cp 2 1 8 0 (ask_chap rfl (by decide) joint01) chap_in (by decide) (fun _ => chap_sz) w7 hN7 (atN_cells mV) (Nat.le_refl _)).mono ?_
  rintro r8 w8 ⟨rfl, hB8⟩
  have hs8 := hB8.size
  have h68 : Behind w6 [] w8 := (behind_of_below hB7).trans (behind_of_below hB8) (by simp)
  have HN8 := Lib.hid (hN7.below hB8 (Nat.le_refl _))
  have HB8 := Lib.hid (HB6.out.trans (h68.below.mono HB6.out.size))
  have M28 := Lib.hid (h68.keep M2.out (by simp))
  have HA8 := Lib.hid (HA6.out.below h68.below (Nat.le_refl _))
  clear mV hN7 hB7 hB8 h68 M2 HA6 HN6 HB6
  go_wp2_with fail
  obtain ⟨w9, hw9, m6, sz9, hB9⟩ := one_cells w8 #[.string (nb 1), .string (nb 8)] 34
  rw [← hw9]
  clear hw9
  have hN9 := (HN8.out.below hB9 (by omega)).mono (M := w9.heap.size) (by omega)
  refine (encode_law gBOne w9.heap.size chapN p cp chap_in w9 hN9 (Nat.le_refl _)).mono ?_
  rintro r10 w10 ⟨hB10, ⟨hc, _⟩ | ⟨_, gT, gW, gI, ep, rfl, hE10⟩⟩
  · exact absurd chap_check hc
  obtain ⟨pL, cL, hvL⟩ := hE10.rC.slice
  obtain ⟨pI, cI, hvI⟩ := hE10.rI.slice
  have hs10 := hB10.size
  have h810 : Behind w8 [] w10 := (behind_of_below hB9).trans (behind_of_below hB10) (by simp)
  have HB10 := Lib.hid (HB8.out.trans (h810.below.mono HB8.out.size))
  have M2' := Lib.hid (h810.keep M28.out (by simp))
  have M6 := Lib.hid ((behind_of_below hB10).keep m6 (by simp))
  have HA10 := Lib.hid (HA8.out.below h810.below (by omega))
  rw [enc_chap, hvL, hvI]
  clear hE10 hvL hvI hB9 hB10 h810 m6 hN9 HN8 HB8 M28 HA8
  have KT1 : Gives 16 #[.agg #[.string (nb 7), .string (nb 8)]] (.string { data := #[55, 47, 56] }) := gTextOf 7 8 _ ⟨by decide, by decide⟩ (by kernel_rfl)
  have KT2 : Gives 16 #[.agg #[.string (nb 1), .string (nb 8)]] (.string { data := #[49, 47, 56] }) := gTextOf 1 8 _ ⟨by decide, by decide⟩ (by kernel_rfl)
  have c2a := blk_cell M2'.out 0 rfl
  have c2b := blk_cell M2'.out 1 rfl
  have l2 := lt_of_heap M2'.out
  go_wp2_with fail
  refine calls_gen fun w11 hw11 => ?_
  have mT : w11.heap[w10.heap.size]? = some (.cells #[.int .i64 10, .slice pL (encOf chapN).L.length cL] 43 (0, 0)) := by rw [hw11]; exact (heap_alloc_old _ _ (by simp)).trans (heap_alloc_new _ _)
  have hB11 : Below w10.heap.size w10 w11 := by rw [hw11]; exact ((Below.refl _ _).alloc (Nat.le_refl _) _).alloc (by simp) _
  have hs11 := hB11.size
  clear hw11 c2a c2b
  refine (KT1 _).mono ?_
  rintro r12 w12 ⟨rfl, hB12⟩
  have hs12 := hB12.size
  have h12 : Behind w10 [] w12 := (behind_of_below hB11).trans (behind_of_below hB12) (by simp)
  have MT := Lib.hid ((behind_of_below hB12).keep mT (by simp))
  have M6' := Lib.hid (h12.keep M6.out (by simp))
  have HA12 := Lib.hid (HA10.out.below h12.below (by omega))
  have HB12 := Lib.hid (HB10.out.trans (h12.below.mono HB10.out.size))
  clear mT hB11 hB12 h12 M6 HA10 HB10
  go_wp2_with fail
  obtain ⟨w13, hw13, mS, sz13, hB13⟩ := one_cells w12 #[.string { data := #[49, 47, 55] }, .string { data := #[54, 47, 55] }] 9
  rw [← hw13]
  clear hw13
  refine (texts_law w13.heap.size [(1, 7), (6, 7)] [{ data := #[49, 47, 55] }, { data := #[54, 47, 55] }] ps (some ⟨w12.heap.size, 0, none⟩) cs 2 (by intro q hq; simp only [List.mem_cons, List.not_mem_nil, or_false] at hq; rcases hq with rfl | rfl <;> exact ⟨by decide, by decide⟩) (by decide) (by decide) w13 ((HA12.out.below hB13 (by omega)).mono (by omega)) (atN_cells mS) (Nat.le_refl _)).mono ?_
  rintro r14 w14 ⟨rfl, hB14⟩
  rw [show textsB [(1, 7), (6, 7)] [{ data := #[49, 47, 55] }, { data := #[54, 47, 55] }] = true from decide_eq_true (by kernel_rfl)]
  have h14 : Behind w12 [] w14 := (behind_of_below hB13).trans (behind_of_below hB14) (by simp)
  have MT14 := Lib.hid (h14.keep MT.out (by simp))
  have m614 := h14.keep M6'.out (by simp)
  have c6a := blk_cell m614 0 rfl
  have c6b := blk_cell m614 1 rfl
  have HB14 := Lib.hid (HB12.out.trans (h14.below.mono HB12.out.size))
  clear hB13 hB14 h14 m614 mS MT M6' HB12 HA12
  go_wp2_with fail
  refine (KT2 _).mono ?_
  rintro r15 w15 ⟨rfl, hB15⟩
  have mT15 := (behind_of_below hB15).keep MT14.out (by simp)
  have cT := blk_cell mT15 0 rfl
  have HB15 := Lib.hid (HB14.out.trans (hB15.mono HB14.out.size))
  clear c6a c6b hB15 mT15 MT14
  go_wp2_with fail
  go_ret
  exact ⟨rfl, HB15.out⟩
end Go.Proofs.Ytbacloneddnaeaa

/- Plain laws that several rows of Bayes need. -/
namespace Go.Proofs.Ytbacloneddnaeaa
open Go.RowKit Go.Shelf Num

theorem gnet_get {l : List RV} {i : Nat} {x : RV} (h : l[i]? = some x) : (gnet l)[i]? = some (gvar x) := by simp [gnet, h]
theorem nz_raw (s : ByteArray) : nz (rawOf s) = numQ s := by
  unfold rawOf numQ
  cases h : ratRead s with
  | none => rfl
  | some r =>
    obtain ⟨n, d⟩ := r
    have := (ratRead_spec h).2.1.1
    show (n, dn d) = (n, d)
    rw [dn_of this]
theorem raw_small {s : ByteArray} (hs : s.size ≤ 9) : Q.Low (nz (rawOf s)) ∧ Sm 4 (rawOf s) := by
  refine ⟨by rw [nz_raw]; exact numQ_low s, ?_⟩
  unfold rawOf
  cases h : ratRead s with
  | none => exact ⟨by decide, by decide⟩
  | some r =>
    obtain ⟨n, d⟩ := r
    obtain ⟨h1, h2, _⟩ := ratRead_spec h
    have key : ∀ m : Nat, (dec m).size ≤ 9 → nl m ≤ 4 := fun m hm => by
      refine nl_le_of_lt (Nat.lt_of_lt_of_le (lt_dec_size m) (Nat.le_trans (Nat.pow_le_pow_right (by omega) hm) (by decide)))
    have h3 := congrArg ByteArray.size h1
    unfold rtext at h3
    rw [dn_of h2.1] at h3
    simp only at h3
    split at h3
    · rename_i hd
      refine ⟨key n (by omega), ?_⟩
      show nl d ≤ 4
      rw [hd]; decide
    · rw [ByteArray.size_append, ByteArray.size_append] at h3
      exact ⟨key n (by omega), key d (by omega)⟩
theorem rowR_nz_snoc {t : List (Nat × Nat)} {q : Nat × Nat} (h1 : Q.Low (nz (rowR t))) (h2 : Q.Low (nz q)) : nz (rowR (t ++ [q])) = Q.add (nz (rowR t)) (nz q) := by
  rw [rowR_snoc, nz_low (Q.add_low h1 h2)]
theorem fewT_le : ∀ (l : List RV) (n : Nat) (x : RV), x ∈ l → x.ts.length ≤ l.foldl (fun n x => n + x.ts.length) n ∧ n ≤ l.foldl (fun n x => n + x.ts.length) n
  | [], n, x, h => by simp at h
  | y :: l, n, x, h => by
    have mono : ∀ (l : List RV) (n : Nat), n ≤ l.foldl (fun n x => n + x.ts.length) n := by
      intro l
      induction l with
      | nil => intro n; exact Nat.le_refl _
      | cons y l ih => intro n; exact Nat.le_trans (Nat.le_add_right _ _) (ih _)
    have h1 := mono l (n + y.ts.length)
    rw [List.foldl_cons]
    rcases List.mem_cons.1 h with rfl | h
    · omega
    · exact ⟨(fewT_le l _ x h).1, by omega⟩
theorem few_lit {l : List RV} (h : FewP l) : Lit l :=
  ⟨h.len, fun x hx => (h.el x hx).1, fun x hx => ⟨by have := (fewT_le l 0 x hx).1; have := h.t; unfold fewT at this; omega, (h.el x hx).2⟩⟩
theorem lit_in {l : List RV} (h : Lit l) : NetIn (gnet l) := by
  have hg : ∀ (i : Nat) (y : BV), (gnet l)[i]? = some y → ∃ x ∈ l, y = gvar x := fun i y hy => by
    obtain ⟨x, hx, rfl⟩ := List.mem_map.1 (List.mem_of_getElem? hy)
    exact ⟨x, hx, rfl⟩
  refine ⟨by have := h.len; simp [gnet]; omega, fun i y hy p hp => ?_, fun i y hy => ?_, fun i y hy => ?_⟩
  · obtain ⟨x, hx, rfl⟩ := hg i y hy
    obtain ⟨t, ht, rfl⟩ := List.mem_map.1 hp
    exact raw_small ((h.ts x hx).2 t ht)
  · obtain ⟨x, hx, rfl⟩ := hg i y hy
    have := (h.ts x hx).1
    simpa [gvar] using this
  · obtain ⟨x, hx, rfl⟩ := hg i y hy
    have := h.ps x hx
    simp [gvar]; omega
theorem rtext_nz (p : Nat × Nat) : rtext (nz p) = rtext p := by
  obtain ⟨n, d⟩ := p
  show rtext (n, dn d) = rtext (n, d)
  by_cases h : d = 0
  · subst h; rfl
  · rw [dn_of (by omega)]
end Go.Proofs.Ytbacloneddnaeaa

/- censusref40.rows. -/
namespace Go.Proofs.Ytbacloneddnaeaa
open Go.RowKit Go.Shelf Num

def Shape (l : List BV) (i : Nat) (x : RV) (r : Nat) : Prop := 2 ≤ x.k ∧ x.k ≤ 8 ∧ okPar l i x.ts.length x.ps none 1 = some r ∧ r * x.k.toNat = x.ts.length
def Cum (l : List BV) (i : Nat) (x : RV) (j n : Nat) : Prop :=
  (n ≤ x.ts.length ∧ okPar l i x.ts.length x.ps none 1 = okPar l i x.ts.length (x.ps.drop j) (prevOf x.ps j) n) ∨ (x.ts.length < n ∧ ∀ r, ¬ Shape l i x r)

theorem okPar_pos {l : List BV} {i tn : Nat} (hk : ∀ (j : Nat) (y : BV), j < i → l[j]? = some y → 1 ≤ y.k ∧ y.k ≤ 8) (hi : i ≤ l.length) : ∀ (ps : List Int) (prev : Option Int) (r0 r : Nat), okPar l i tn ps prev r0 = some r → 1 ≤ r0 → 1 ≤ r
  | [], _, r0, r, h, h0 => by cases h; exact h0
  | p :: ps, prev, r0, r, h, h0 => by
    unfold okPar at h
    split at h
    · cases h
    · rename_i hc
      split at h
      · cases h
      · refine okPar_pos hk hi ps _ _ r h ?_
        have hp0 : 0 ≤ p := Int.not_lt.1 fun h => hc (.inl h)
        have hp1 : p < i := Int.not_le.1 fun h => hc (.inr (.inl h))
        obtain ⟨y, hy⟩ : ∃ y, l[p.toNat]? = some y := ⟨_, List.getElem?_eq_getElem (by omega)⟩
        have := hk p.toNat y (by omega) hy
        rw [kAt_of hy]
        exact Nat.mul_pos h0 (by omega)

theorem cum_start {l : List BV} {i : Nat} {x : RV} (hk : ∀ (j : Nat) (y : BV), j < i → l[j]? = some y → 1 ≤ y.k ∧ y.k ≤ 8) (hi : i ≤ l.length) : Cum l i x 0 1 := by
  by_cases h : 1 ≤ x.ts.length
  · exact .inl ⟨h, rfl⟩
  · refine .inr ⟨by omega, fun r hs => ?_⟩
    have h1 := okPar_pos hk hi _ _ _ r hs.2.2.1 (Nat.le_refl _)
    have h2 := Nat.mul_le_mul h1 (show 1 ≤ x.k.toNat by have := hs.1; omega)
    have := hs.2.2.2
    omega

theorem cum_bad {l : List BV} {i : Nat} {x : RV} {j n : Nat} {p : Int} (h : Cum l i x j n) (hp : x.ps[j]? = some p) (hb : p < 0 ∨ (i : Int) ≤ p ∨ (∃ q, prevOf x.ps j = some q ∧ p ≤ q)) : ∀ r, ¬ Shape l i x r := by
  rcases h with ⟨_, h⟩ | ⟨_, h⟩
  · intro r hs
    have h2 := okPar_step (l := l) (i := i) (tn := x.ts.length) (r := n) hp
    rw [if_pos hb] at h2
    rw [h2] at h
    have h3 := hs.2.2.1
    rw [h] at h3
    cases h3
  · exact h
theorem cum_mul {l : List BV} {i : Nat} {x : RV} {j n : Nat} {p : Int} (h : Cum l i x j n) (hn : n ≤ x.ts.length) (hp : x.ps[j]? = some p) (hb : ¬ (p < 0 ∨ (i : Int) ≤ p ∨ (∃ q, prevOf x.ps j = some q ∧ p ≤ q))) : Cum l i x (j + 1) (n * kAt l p.toNat) := by
  rcases h with ⟨_, h⟩ | ⟨h1, _⟩
  · have h2 := okPar_step (l := l) (i := i) (tn := x.ts.length) (r := n) hp
    rw [if_neg hb, ← h] at h2
    by_cases hm : x.ts.length < n * kAt l p.toNat
    · rw [if_pos hm] at h2
      refine .inr ⟨hm, fun r hs => ?_⟩
      have h3 := hs.2.2.1
      rw [h2] at h3
      cases h3
    · rw [if_neg hm] at h2
      exact .inl ⟨by omega, h2⟩
  · omega
theorem cum_keep {l : List BV} {i : Nat} {x : RV} {j n : Nat} (h : Cum l i x j n) (hn : x.ts.length < n) : Cum l i x (j + 1) n := by
  rcases h with ⟨h1, _⟩ | h
  · omega
  · exact .inr h

set_option maxHeartbeats 3200000 in
set_option maxRecDepth 100000 in
theorem rows_law (N : Nat) (l : List RV) (a : Option Addr) (c i : Nat) (x : RV) (hx : l[i]? = some x) (hP : Pre (gnet l) i) (hl : l.length ≤ 16) (htl : x.ts.length ≤ 1000) (hpl : x.ps.length ≤ 100000) (w : World) (hN : RefAt N w a l) (hw : N ≤ w.heap.size) :
    Calls Try.prog 34 #[.slice a l.length c, .int .i64 i] w fun e w' => ∃ v : Int, e = .returned (.int .i64 v) ∧ ((∃ r : Nat, v = r ∧ Shape (gnet l) i x r) ∨ (v = -1 ∧ ∀ r, ¬ Shape (gnet l) i x r)) ∧ Below w.heap.size w w' := by
  obtain ⟨R, hR⟩ : ∃ R : Ending → World → Prop, R = fun e w' => ∃ v : Int, e = .returned (.int .i64 v) ∧ ((∃ r : Nat, v = r ∧ Shape (gnet l) i x r) ∨ (v = -1 ∧ ∀ r, ¬ Shape (gnet l) i x r)) ∧ Below w.heap.size w w' := ⟨_, rfl⟩
  rw [← hR]
  have HR := Lib.hid hR
  clear hR
  have hi : i < l.length := (List.getElem?_eq_some_iff.1 hx).1
  have HX := Lib.hid hx
  have HN := Lib.hid hN
  have HP := Lib.hid hP
  obtain ⟨b, o, pa, pc, ta, tc, hb, rfl, c0, c1, c2, hpa, hta⟩ := hN i x hx
  have HPA := Lib.hid hpa
  have hbN := hb
  clear hx hN hP hpa hta
  by_cases hk2 : x.k < 2
  · go_enter Try.func34, Try.ntmps34
    go_wp2_with fail
    rw [HR.out]
    exact ⟨-1, rfl, .inr ⟨rfl, fun r h => by have := h.1; omega⟩, (Below.refl _ _).alloc (Nat.le_refl _) _⟩
  have hk2' : 2 ≤ x.k := by omega
  by_cases hk8 : 8 < x.k
  · clear hk2
    go_enter Try.func34, Try.ntmps34
    go_wp2_with fail
    rw [HR.out]
    exact ⟨-1, rfl, .inr ⟨rfl, fun r h => by have := h.2.1; omega⟩, (Below.refl _ _).alloc (Nat.le_refl _) _⟩
  have hk8' : x.k ≤ 8 := by omega
  obtain ⟨K, hK⟩ : ∃ K : Nat, x.k = K := ⟨x.k.toNat, by omega⟩
  have HK := Lib.hid hK
  rw [hK] at c0
  have hK2 : 2 ≤ K := by omega
  have hK8 : K ≤ 8 := by omega
  clear hk2 hk8 hk2' hk8' hK
  by_cases h16 : 16 < x.ps.length
  · go_enter Try.func34, Try.ntmps34
    go_wp2_with fail
    rw [HR.out]
    refine ⟨-1, rfl, .inr ⟨rfl, fun r h => ?_⟩, (Below.refl _ _).alloc (Nat.le_refl _) _⟩
    have := (okPar_spec _ _ _ _ _ _ _ h.2.2.1 (by intro q hq; cases hq)).2.1
    simp only [prevN] at this
    omega
  have h16' : x.ps.length ≤ 16 := by omega
  clear h16 hpl
  go_enter Try.func34, Try.ntmps34
  go_wp2_with fail
  refine wp_gen ?_
  intro w1 hw1
  have m5 : w1.heap[w.heap.size]? = some (.cells #[.int .i64 K, .slice pa x.ps.length pc, .slice ta x.ts.length tc] 62 (0, 0)) := by rw [hw1]; exact heap_alloc_new w _
  have hB1 : Below w.heap.size w w1 := by rw [hw1]; exact (Below.refl _ _).alloc (Nat.le_refl _) _
  have k0 := blk_cell m5 0 rfl
  have k1 := blk_cell m5 1 rfl
  have k2 := blk_cell m5 2 rfl
  have HB1 := Lib.hid hB1
  have HPA1 := Lib.hid (HPA.out.below hB1 hw)
  have HN1 := Lib.hid (HN.out.below hB1 hw)
  clear hw1 m5 hB1 c0 c1 c2 HN HPA
  go_loopw [6, 7] (fun n jv wr => ∃ j nn : Nat, j ≤ x.ps.length ∧ jv = .int .i64 j ∧ n = .int .i64 nn ∧ nn ≤ 8000 ∧ 1 ≤ nn ∧ Hid (Cum (gnet l) i x j nn) ∧ wr = w1)
    (fun _ j _ => x.ps.length - (intOf j).toNat)
  case atStart => exact ⟨0, 1, Nat.zero_le _, rfl, rfl, by omega, by omega, cum_start (fun j y hj hy => HP.out.kb j y hj hy) (by simp [gnet]; omega), rfl⟩
  case round =>
    obtain ⟨j, nn, hj, rfl, rfl, hn8, hn1, HC, rfl⟩ := hrel
    by_cases hlt : j < x.ps.length
    · have hd : decide (j < x.ps.length) = true := by simpa using hlt
      obtain ⟨p, hp⟩ : ∃ p, x.ps[j]? = some p := ⟨_, List.getElem?_eq_getElem hlt⟩
      have HPJ := Lib.hid hp
      obtain ⟨pb, po, hpb, rfl, e1⟩ := HPA1.out j _ (ints_get _ _ _ hp)
      have hbad := fun h => cum_bad HC.out hp h
      have HBAD := Lib.hid hbad
      clear hp hbad
      by_cases hp0 : p < 0
      · have HF := HBAD.out (.inl hp0)
        have HF2 := Lib.hid HF
        clear HF
        go_wp2_with fail
        rw [HR.out]
        exact ⟨-1, rfl, .inr ⟨rfl, HF2.out⟩, HB1.out⟩
      have hp0' : 0 ≤ p := by omega
      by_cases hpi : (i : Int) ≤ p
      · have HF2 := Lib.hid (HBAD.out (.inr (.inl hpi)))
        clear hp0
        go_wp2_with fail
        rw [HR.out]
        exact ⟨-1, rfl, .inr ⟨rfl, HF2.out⟩, HB1.out⟩
      have hpi' : p < (i : Int) := by omega
      obtain ⟨pn, rfl⟩ : ∃ pn : Nat, p = pn := ⟨p.toNat, by omega⟩
      have hpn : pn < i := by omega
      obtain ⟨y, hy⟩ : ∃ y, l[pn]? = some y := ⟨_, List.getElem?_eq_getElem (by omega)⟩
      obtain ⟨hy1, hy8⟩ := HP.out.kb pn (gvar y) hpn (gnet_get hy)
      obtain ⟨Y, hY⟩ : ∃ Y : Nat, y.k = Y := ⟨y.k.toNat, by simp [gvar] at hy1; omega⟩
      have hY1 : 1 ≤ Y := by simp [gvar] at hy1; omega
      have hY8 : Y ≤ 8 := by simp [gvar] at hy8; omega
      have hkY : kAt (gnet l) pn = Y := by rw [kAt_of (gnet_get hy)]; simp [gvar, hY]
      obtain ⟨_, _, _, _, _, _, _, e2, e3, _⟩ := HN1.out pn y hy
      cases e2
      rw [hY] at e3
      have hpnl : pn < l.length := by omega
      have HKY := Lib.hid hkY
      clear hy hy1 hy8 hY hkY hp0 hpi hp0' hpi'
      have hn1' : ¬ (pn : Int) < 0 := by omega
      have hn2' : ¬ (i : Int) ≤ pn := by omega
      by_cases hj0 : j = 0
      · have hg0 : decide (0 < j) = false := by simp; omega
        have hg1 : j ≤ 0 := by omega
        have HNB : Hid (¬ ((pn : Int) < 0 ∨ (i : Int) ≤ pn ∨ (∃ q, prevOf x.ps j = some q ∧ (pn : Int) ≤ q))) := fun h => h.elim hn1' fun h => h.elim hn2' fun ⟨q, h, _⟩ => by rw [hj0] at h; cases h
        clear hj0 hn1' hn2'
        by_cases hnt : nn ≤ x.ts.length
        · have hm := Nat.mul_le_mul (show nn ≤ 1000 by omega) hY8
          obtain ⟨hm2, hm3⟩ := mulI (A := nn) (K := Y) (by omega)
          have HC2 := Lib.hid (cum_mul HC.out hnt HPJ.out HNB.out)
          rw [Int.toNat_natCast, HKY.out] at HC2
          have hY3 : 1 ≤ nn * Y := Nat.mul_le_mul hn1 hY1
          clear HC HBAD HNB
          go_wp2_with fail
          go_roundw
          case rel => exact ⟨j + 1, nn * Y, by omega, by go_num, by rw [Int.natCast_mul], by omega, hY3, HC2, trivial⟩
          case measure => simp [intOf]; omega
        · have HC2 := Lib.hid (cum_keep HC.out (by omega))
          have hnt2 : x.ts.length < nn := by omega
          clear HC HBAD HNB hnt
          go_wp2_with fail
          go_roundw
          case rel => exact ⟨j + 1, nn, by omega, by go_num, rfl, hn8, hn1, HC2, trivial⟩
          case measure => simp [intOf]; omega
      · obtain ⟨q, hq⟩ : ∃ q, x.ps[j - 1]? = some q := ⟨_, List.getElem?_eq_getElem (by omega)⟩
        have hpr : prevOf x.ps j = some q := by
          cases j with
          | zero => exact absurd rfl hj0
          | succ j => simpa [prevOf] using hq
        obtain ⟨pb', po', _, he, e4⟩ := HPA1.out (j - 1) _ (ints_get _ _ _ hq)
        cases he
        have hg0 : decide (0 < j) = true := by simp; omega
        have hg1 : 0 < j := by omega
        have HPR := Lib.hid hpr
        clear hq hpr hj0
        by_cases hle : (pn : Int) ≤ q
        · have HF2 := Lib.hid (HBAD.out (.inr (.inr ⟨q, HPR.out, hle⟩)))
          clear hn1' hn2' HBAD
          go_wp2_with fail
          rw [HR.out]
          exact ⟨-1, rfl, .inr ⟨rfl, HF2.out⟩, HB1.out⟩
        · have hle2 : q < (pn : Int) := by omega
          have HNB : Hid (¬ ((pn : Int) < 0 ∨ (i : Int) ≤ pn ∨ (∃ q, prevOf x.ps j = some q ∧ (pn : Int) ≤ q))) := fun h => h.elim hn1' fun h => h.elim hn2' fun ⟨q', h, h2⟩ => by rw [HPR.out] at h; cases h; exact hle h2
          clear hle hn1' hn2'
          by_cases hnt : nn ≤ x.ts.length
          · have hm := Nat.mul_le_mul (show nn ≤ 1000 by omega) hY8
            obtain ⟨hm2, hm3⟩ := mulI (A := nn) (K := Y) (by omega)
            have HC2 := Lib.hid (cum_mul HC.out hnt HPJ.out HNB.out)
            rw [Int.toNat_natCast, HKY.out] at HC2
            have hY3 : 1 ≤ nn * Y := Nat.mul_le_mul hn1 hY1
            clear HC HBAD HNB
            go_wp2_with fail
            go_roundw
            case rel => exact ⟨j + 1, nn * Y, by omega, by go_num, by rw [Int.natCast_mul], by omega, hY3, HC2, trivial⟩
            case measure => simp [intOf]; omega
          · have HC2 := Lib.hid (cum_keep HC.out (by omega))
            have hnt2 : x.ts.length < nn := by omega
            clear HC HBAD HNB hnt
            go_wp2_with fail
            go_roundw
            case rel => exact ⟨j + 1, nn, by omega, by go_num, rfl, hn8, hn1, HC2, trivial⟩
            case measure => simp [intOf]; omega
    · obtain rfl : j = x.ps.length := by omega
      by_cases hnt : x.ts.length < nn
      · have HF : Hid (∀ r, ¬ Shape (gnet l) i x r) := by
          rcases HC.out with ⟨h, _⟩ | ⟨_, h⟩
          · omega
          · exact h
        clear HC
        go_wp2_with fail
        rw [HR.out]
        exact ⟨-1, rfl, .inr ⟨rfl, HF.out⟩, HB1.out⟩
      · have hnt' : nn ≤ x.ts.length := by omega
        have HO : Hid (okPar (gnet l) i x.ts.length x.ps none 1 = some nn) := by
          rcases HC.out with ⟨_, h⟩ | ⟨h, _⟩
          · rw [List.drop_of_length_le (Nat.le_refl _)] at h; exact h
          · omega
        have hm := Nat.mul_le_mul (show nn ≤ 1000 by omega) hK8
        obtain ⟨hm2, hm3⟩ := mulI (A := nn) (K := K) (by omega)
        clear HC hnt
        by_cases he : nn * K = x.ts.length
        · have he1 := mulE he
          have he2 := mulE2 he
          go_wp2_with fail
          rw [HR.out]
          refine ⟨nn, rfl, .inl ⟨nn, rfl, ?_, ?_, HO.out, ?_⟩, HB1.out⟩
          · rw [HK.out]; omega
          · rw [HK.out]; omega
          · rw [HK.out, Int.toNat_natCast]; exact he
        · have he1 := mulN he
          have he2 := mulN2 he
          go_wp2_with fail
          rw [HR.out]
          refine ⟨-1, rfl, .inr ⟨rfl, fun r hs => ?_⟩, HB1.out⟩
          have h1 := hs.2.2.1
          rw [HO.out] at h1
          cases h1
          have h2 := hs.2.2.2
          rw [HK.out, Int.toNat_natCast] at h2
          exact he h2
end Go.Proofs.Ytbacloneddnaeaa

/- What is kept from world to world. -/
namespace Go.Proofs.Ytbacloneddnaeaa
open Go.RowKit Go.Shelf Num

theorem below_one (w : World) (o : Obj) : Below w.heap.size w (w.alloc o) := (Below.refl _ _).alloc (Nat.le_refl _) _
theorem below_two (w : World) (o u : Obj) : Below w.heap.size w ((w.alloc o).alloc u) := ((Below.refl _ _).alloc (Nat.le_refl _) _).alloc (by simp) _
theorem new_one (w : World) (o : Obj) : (w.alloc o).heap[w.heap.size]? = some o := World.alloc_heap_new w o
theorem new_two1 (w : World) (o u : Obj) : ((w.alloc o).alloc u).heap[w.heap.size]? = some o := (heap_alloc_old _ _ (by simp)).trans (World.alloc_heap_new w o)
theorem new_two2 (w : World) (o u : Obj) : ((w.alloc o).alloc u).heap[w.heap.size + 1]? = some u := by
  have := World.alloc_heap_new (w.alloc o) u
  simpa using this
end Go.Proofs.Ytbacloneddnaeaa

/- Lists of numbers: a copy by append; Same. -/
namespace Go.Proofs.Ytbacloneddnaeaa
open Go.RowKit Go.Shelf Num

set_option maxHeartbeats 1600000 in
set_option maxRecDepth 100000 in
theorem xsame_law (N : Nat) (xs : List Int) (a b : Option Addr) (c d : Nat) (hl : xs.length ≤ 100000) (w : World) (hA : AtN N w a (ints xs)) (hB : AtN N w b (ints xs)) (hw : N ≤ w.heap.size) :
    Calls Try.prog 21 #[.slice a xs.length c, .slice b xs.length d] w fun e w' => e = .returned (.bool true) ∧ Below w.heap.size w w' := by
  have HA := Lib.hid hA
  have HB0 := Lib.hid hB
  clear hA hB
  go_enter Try.func21, Try.ntmps21
  go_wp2_with fail
  go_loopw [5] (fun i wr => ∃ j : Nat, j ≤ xs.length ∧ i = .int .i64 j ∧ Hid (Below w.heap.size w wr)) (fun i _ => xs.length - (intOf i).toNat)
  case atStart => exact ⟨0, Nat.zero_le _, rfl, Below.refl _ _⟩
  case round =>
    obtain ⟨j, hj, rfl, HB⟩ := hrel
    by_cases hlt : j < xs.length
    · have hd : decide (j < xs.length) = true := by simpa using hlt
      obtain ⟨e, he⟩ : ∃ e, xs[j]? = some e := ⟨_, List.getElem?_eq_getElem hlt⟩
      obtain ⟨b1, o1, hb1, rfl, k0⟩ := HA.out j _ (ints_get _ _ _ he)
      obtain ⟨b2, o2, hb2, rfl, k1⟩ := HB0.out j _ (ints_get _ _ _ he)
      have K0 := Lib.hid k0
      have K1 := Lib.hid k1
      have h1w : b1 < w.heap.size := by omega
      have h2w : b2 < w.heap.size := by omega
      have hne : (e != e) = false := by simp
      clear he k0 k1 hb1 hb2
      go_wp2_with fail
      refine wp_game [0, 0, 0, 0, 0, 0, 0, 0, 0] [] B0 fin_B0 (has_B0 _) (by kernel_rfl) (by kernel_rfl) ?_
      refine lex_quietE 9 (by kernel_rfl) (by rfl) ?_
      apply Exists.intro
      refine ⟨fun z hz => ?_, ?_⟩
      · have hwz := HB.out.trans (hz.below_of (b := w.heap.size) (by simp) HB.out.size)
        have g0 := below_cellp hwz K0.out h1w
        have g1 := below_cellp hwz K1.out h2w
        clear hz hwz
        simp only [List.take_succ_cons, List.take_zero]
        unfold Cx
        repeat (go_big_quiet_step (fail))
        exact wpQuiet_nil rfl
      simp only [List.drop_succ_cons, List.drop_zero]
      refine lex_nil ?_
      intro x7 hx7 _
      have HB7 := Lib.hid (HB.out.trans (hx7.below_of (b := w.heap.size) (by simp) HB.out.size))
      clear hx7 HB K0 K1
      go_wp2_with fail
      go_roundw
      case rel => exact ⟨j + 1, by omega, by go_num, HB7⟩
      case measure => simp [intOf]; omega
    · obtain rfl : j = xs.length := by omega
      go_wp2_with fail
      go_ret
      exact ⟨rfl, HB.out⟩
end Go.Proofs.Ytbacloneddnaeaa
