/- Texts of this claim, joined: BChap, BWorks, BShare, BRefR, BRefS, BRefC, BRefE, BModP, BKeep, BLit, BLists, BSameT, BRefP, BRefA, BChecks, BJntP, BJnt. -/
import Derived.Test.YtbacloneddnaeaaM30
import Derived.Test.YtbacloneddnaeaaM31
import Derived.Test.YtbacloneddnaeaaM27
import Derived.Test.YtbacloneddnaeaaM29
import Derived.Test.YtbacloneddnaeaaM10
import Derived.Test.YtbacloneddnaeaaM20
import Derived.Test.YtbacloneddnaeaaM26
import Derived.Test.YtbacloneddnaeaaM23
import Derived.Test.YtbacloneddnaeaaM15

/- The network of the chapter of Bayes. -/
namespace Go.Proofs.Ytbacloneddnaeaa
open Go.RowKit Go.Shelf Num

def chapR : List RV := [{ k := 2, ps := [], ts := [{ data := #[49, 47, 52] }, { data := #[51, 47, 52] }] }, { k := 2, ps := [0], ts := [{ data := #[49, 47, 50] }, { data := #[49, 47, 50] }, { data := #[49] }, { data := #[48] }] }]
def chapN : List BV := [{ k := 2, ps := [], tab := [(1, 4), (3, 4)] }, { k := 2, ps := [0], tab := [(1, 2), (1, 2), (1, 1), (0, 1)] }]
theorem gnet_chap : gnet chapR = chapN := by kernel_rfl

theorem lt_two {i : Nat} (h : i < 2) : i = 0 ∨ i = 1 := by omega
theorem chap_get {i : Nat} {x : BV} (h : chapN[i]? = some x) : x = { k := 2, ps := [], tab := [(1, 4), (3, 4)] } ∨ x = { k := 2, ps := [0], tab := [(1, 2), (1, 2), (1, 1), (0, 1)] } := by
  have := List.mem_of_getElem? h
  simpa [chapN] using this
theorem chap_in : NetIn chapN := by
  refine ⟨by decide, fun i x h => ?_, fun i x h => ?_, fun i x h => ?_⟩
  · rcases chap_get h with rfl | rfl
    · intro p hp
      simp only [List.mem_cons, List.not_mem_nil, or_false] at hp
      rcases hp with rfl | rfl <;> exact ⟨⟨by decide, by decide⟩, ⟨by decide, by decide⟩⟩
    · intro p hp
      simp only [List.mem_cons, List.not_mem_nil, or_false] at hp
      rcases hp with rfl | rfl | rfl | rfl <;> exact ⟨⟨by decide, by decide⟩, ⟨by decide, by decide⟩⟩
  · rcases chap_get h with rfl | rfl <;> decide
  · rcases chap_get h with rfl | rfl <;> decide
theorem chap_formed : ∀ i, i < chapN.length → formedP chapN i := by
  intro i hi
  rcases lt_two hi with rfl | rfl
  · refine ⟨_, 1, rfl, by decide, by decide, rfl, rfl, fun j hj => ?_⟩
    obtain rfl : j = 0 := by omega
    kernel_rfl
  · refine ⟨_, 2, rfl, by decide, by decide, by simp [okPar, kAt, chapN], rfl, fun j hj => ?_⟩
    rcases lt_two hj with rfl | rfl <;> kernel_rfl
theorem chap_check : checkE chapN = 0 := by
  unfold checkE
  rw [if_neg (by decide), if_pos chap_formed, if_neg (by decide)]
theorem chap_sz : szs (ksOf chapN) ≤ 9000 := by decide

theorem allowed_chap {vs : List Int} {least : Int} (h : vs.length = 2) (h0 : ∀ v ∈ vs, least ≤ v ∧ v < 2) : allowedB chapN vs least = true := by
  refine allowedB_true ⟨h, fun i x v hx hv => ?_⟩
  have := h0 v (List.mem_of_getElem? hv)
  rcases chap_get hx with rfl | rfl <;> exact this
theorem ask_chap {vs : List Int} {least : Int} {q : Nat × Nat} (h : vs.length = 2) (h0 : ∀ v ∈ vs, least ≤ v ∧ v < 2) (hq : rawQ chapN vs 2 [] = q) : askE chapN vs least = (q, 0) := by
  unfold askE
  rw [if_neg (by simp [chap_check]), if_neg (by simp [allowed_chap h h0])]
  exact congrArg (fun x => (x, (0 : Int))) hq
theorem post_chap {vs : List Int} {v : Nat} {L : List (Nat × Nat)} {t : Nat × Nat} (h : vs.length = 2) (h0 : ∀ v ∈ vs, -1 ≤ v ∧ v < 2) (hv : v < 2) (hp : rowR (partsR chapN vs v 2) = t) (ht : t.1 ≠ 0) (hL : (partsR chapN vs v 2).map (fun p => Q.div (nz p) (nz t)) = L) : postE chapN vs v = (L, 0) := by
  have hk : kAt chapN v = 2 := by rcases lt_two hv with rfl | rfl <;> rfl
  unfold postE
  rw [if_neg (by simp [chap_check]), if_neg (by rw [allowed_chap h h0]; simp [chapN]; omega), Int.toNat_natCast, hk, hp, if_neg ht, hL]
theorem enc_chap : (encOf chapN).N = 10 := by kernel_rfl
theorem joint01 : rawQ chapN [0, 1] 2 [] = (1, 8) := by kernel_rfl
theorem askm0 : rawQ chapN [-1, 0] 2 [] = (7, 8) := by kernel_rfl

theorem atN_cells {w : World} {g : Nat} {xs : Array Value} {T : TypeId} (h : w.heap[g]? = some (.cells xs T (0, 0))) : AtN w.heap.size w (some ⟨g, 0, none⟩) xs.toList := fun i v hi =>
  ⟨g, 0, lt_of_heap h, rfl, by rw [Nat.zero_add]; exact blk_cell h i (by simpa using hi)⟩
theorem atN_nil (N : Nat) (w : World) (a : Option Addr) : AtN N w a [] := fun i v h => by simp at h

theorem chapter_law (w : World) : Calls Try.prog 31 #[] w fun e w' => ∃ a c, e = .returned (.slice a chapR.length c) ∧ RefAt w'.heap.size w' a chapR ∧ Below w.heap.size w w' := by
  go_enter Try.func31, Try.ntmps31
  go_wp2_with fail
  go_ret
  obtain ⟨w4, hw4, mA, mB, mC, mD, sz, hb⟩ := four_cells w (Obj.cells #[.string { data := #[49, 47, 52] }, .string { data := #[51, 47, 52] }] 9) (Obj.cells #[.int .i64 0] 3) (Obj.cells #[.string { data := #[49, 47, 50] }, .string { data := #[49, 47, 50] }, .string { data := #[49] }, .string { data := #[48] }] 9)
    (Obj.cells #[.int .i64 2, .slice none 0 0, .slice (some ⟨w.heap.size, 0, none⟩) 2 2, .int .i64 2, .slice (some ⟨w.heap.size + 1, 0, none⟩) 1 1, .slice (some ⟨w.heap.size + 1 + 1, 0, none⟩) 4 4] 62)
  rw [← hw4]
  clear hw4
  refine ⟨some ⟨w.heap.size + 1 + 1 + 1, 0, none⟩, 2, rfl, fun i x hx => ?_, hb⟩
  have hi : i < 2 := (List.getElem?_eq_some_iff.1 hx).1
  rcases lt_two hi with rfl | rfl
  · obtain rfl : { k := 2, ps := [], ts := [{ data := #[49, 47, 52] }, { data := #[51, 47, 52] }] } = x := by simpa [chapR] using hx
    exact ⟨_, 0, none, 0, _, 2, lt_of_heap mD, rfl, blk_cell mD 0 rfl, blk_cell mD 1 rfl, blk_cell mD 2 rfl, atN_nil _ _ _, atN_cells mA⟩
  · obtain rfl : { k := 2, ps := [0], ts := [{ data := #[49, 47, 50] }, { data := #[49, 47, 50] }, { data := #[49] }, { data := #[48] }] } = x := by simpa [chapR] using hx
    exact ⟨_, 0, _, 1, _, 4, lt_of_heap mD, rfl, blk_cell mD 3 rfl, blk_cell mD 4 rfl, blk_cell mD 5 rfl, atN_cells mB, atN_cells mC⟩
end Go.Proofs.Ytbacloneddnaeaa

/- censuslaw40.works. -/
namespace Go.Proofs.Ytbacloneddnaeaa
open Go.RowKit Go.Shelf Num

theorem ask_at (N : Nat) (l : List BV) (vs : List Int) (a va : Option Addr) (c vc q1 q2 : Nat) (E : Int) (h : askE l vs (-1) = ((q1, q2), E)) (hn : NetIn l) (hvl : vs.length ≤ 100) (hsz : checkE l = 0 → szs (ksOf l) ≤ 9000) (w : World) (hN : NetAt N w a l) (hV : AtN N w va (ints vs)) (hw : N ≤ w.heap.size) :
    Calls Try.prog 28 #[.slice a l.length c, .slice va vs.length vc] w fun e w' => e = .returned (.tuple #[.agg #[.string (nb q1), .string (nb q2)], .int .i64 E]) ∧ Below w.heap.size w w' := by
  have := ask_law gBOne N l vs a va c vc hn hvl hsz w hN hV hw
  rw [h] at this
  exact this
theorem joint_at (N : Nat) (l : List BV) (vs : List Int) (a va : Option Addr) (c vc q1 q2 : Nat) (E : Int) (h : askE l vs 0 = ((q1, q2), E)) (hn : NetIn l) (hvl : vs.length ≤ 100) (hsz : checkE l = 0 → szs (ksOf l) ≤ 9000) (w : World) (hN : NetAt N w a l) (hV : AtN N w va (ints vs)) (hw : N ≤ w.heap.size) :
    Calls Try.prog 14 #[.slice a l.length c, .slice va vs.length vc] w fun e w' => e = .returned (.tuple #[.agg #[.string (nb q1), .string (nb q2)], .int .i64 E]) ∧ Below w.heap.size w w' := by
  have := joint_law gBOne N l vs a va c vc hn hvl hsz w hN hV hw
  rw [h] at this
  exact this
theorem post_at (N : Nat) (l : List BV) (vs : List Int) (a va : Option Addr) (c vc : Nat) (v : Int) (L : List (Nat × Nat)) (E : Int) (h : postE l vs v = (L, E)) (hn : NetIn l) (hvl : vs.length ≤ 100) (hsz : checkE l = 0 → szs (ksOf l) ≤ 9000) (w : World) (hN : NetAt N w a l) (hV : AtN N w va (ints vs)) (hw : N ≤ w.heap.size) :
    Calls Try.prog 29 #[.slice a l.length c, .slice va vs.length vc, .int .i64 v] w fun e w' => ∃ p n c, e = .returned (.tuple #[.slice p n c, .int .i64 E]) ∧ n = L.length ∧ AtN w'.heap.size w' p (rats L) ∧ Below w.heap.size w w' := by
  refine (posterior_law gBOne N l vs a va c vc v hn hvl hsz w hN hV hw).mono ?_
  rintro e w' ⟨s, rfl, hR, hB⟩
  rw [h] at *
  rcases hR with ⟨rfl, hL⟩ | ⟨g, c, rfl, _, hA⟩
  · have hL : L = [] := hL
    subst hL
    exact ⟨_, _, _, rfl, rfl, fun i v h => by simp [rats] at h, hB⟩
  · exact ⟨_, _, _, rfl, rfl, hA, hB⟩

theorem chap_lit : Lit chapR := by
  refine ⟨by decide, fun x hx => ?_, fun x hx => ?_⟩
  · simp only [chapR, List.mem_cons, List.not_mem_nil, or_false] at hx
    rcases hx with rfl | rfl <;> decide
  · simp only [chapR, List.mem_cons, List.not_mem_nil, or_false] at hx
    rcases hx with rfl | rfl
    · exact ⟨by decide, by intro s hs; simp only [List.mem_cons, List.not_mem_nil, or_false] at hs; rcases hs with rfl | rfl <;> decide⟩
    · exact ⟨by decide, by intro s hs; simp only [List.mem_cons, List.not_mem_nil, or_false] at hs; rcases hs with rfl | rfl | rfl | rfl <;> decide⟩

theorem net_law (w : World) (hM : ∃ m, w.cell? ⟨0, 0, none⟩ = some (.int .i64 m)) (a : Option Addr) (c : Nat) (hR : RefAt w.heap.size w a chapR) :
    Calls Try.prog 11 #[.slice a 2 c] w fun e w' => ∃ p cp, e = .returned (.slice p 2 cp) ∧ NetAt w'.heap.size w' p chapN ∧ Below w.heap.size w w' := by
  refine (given_law w.heap.size chapR a c chap_lit w hR (Nat.le_refl _) hM).mono ?_
  rintro e w' ⟨v, cs, rfl, hG, hB⟩
  rw [gnet_chap] at hG
  obtain ⟨p, cp, rfl⟩ := hG.row.slice
  exact ⟨p, cp, rfl, hG.net, hB⟩

theorem below_in {w w' : World} (h : Below w.heap.size w w') {m : Int} (hM : w.cell? ⟨0, 0, none⟩ = some (.int .i64 m)) : w'.cell? ⟨0, 0, none⟩ = some (.int .i64 m) := below_cell h (block_lt_of_cell hM) hM

theorem calls_gen {P : Program} {f : FuncId} {args : Array Value} {w : World} {Q : Ending → World → Prop} (h : ∀ w1, w1 = w → Calls P f args w1 Q) : Calls P f args w Q := h _ rfl
theorem gTextOf (p q : Nat) (s : ByteArray) (hp : Sm 1000000 (p, q)) (h : rtext (p, q) = s) : Gives 16 #[.agg #[.string (nb p), .string (nb q)]] (.string s) := by
  have := gRText (p, q) hp
  rw [h] at this
  exact this
theorem post0 : postE chapN [-1, 0] 0 = ([(1, 7), (6, 7)], 0) := by
  have := post_chap (vs := [-1, 0]) (v := 0) (L := [(1, 7), (6, 7)]) (t := (7, 8)) rfl (by decide) (by decide) (by kernel_rfl) (by decide) (by kernel_rfl)
  exact this

set_option maxHeartbeats 3200000 in
set_option maxRecDepth 100000 in
theorem works_law (w : World) (hM : ∃ m, w.cell? ⟨0, 0, none⟩ = some (.int .i64 m)) : Calls Try.prog 13 #[] w fun e w' => e = .returned (.bool true) ∧ Below w.heap.size w w' := by
  obtain ⟨M, hM⟩ := hM
  go_enter Try.func13, Try.ntmps13
  go_wp2_with fail
  refine (chapter_law _).mono ?_
  rintro r1 w1 ⟨a1, c1, rfl, hR1, hB1⟩
  have hM1 := below_in hB1 hM
  rw [show chapR.length = 2 from rfl]
  go_wp2_with fail
  refine (net_law w1 ⟨M, hM1⟩ a1 c1 hR1).mono ?_
  rintro r2 w2 ⟨p, cp, rfl, hN2, hB2⟩
  have HB2 := Lib.hid (hB1.trans (hB2.mono hB1.size))
  have HN2 := Lib.hid hN2
  clear hR1 hB1 hM1 hN2 hB2 hM
  go_wp2_with fail
  obtain ⟨w3, hw3, mV, sz3, hB3⟩ := one_cells w2 #[.int .i64 (-1), .int .i64 0] 3
  rw [← hw3]
  clear hw3
  have hN3 := (HN2.out.below hB3 (Nat.le_refl _)).mono (M := w3.heap.size) (by omega)
  refine (ask_at w3.heap.size chapN [-1, 0] p (some ⟨w2.heap.size, 0, none⟩) cp 2 7 8 0 (ask_chap rfl (by decide) askm0) chap_in (by decide) (fun _ => chap_sz) w3 hN3 (atN_cells mV) (Nat.le_refl _)).mono ?_
  rintro r4 w4 ⟨rfl, hB4⟩
  have HN4 := Lib.hid (hN3.below hB4 (Nat.le_refl _))
  have HB4 := Lib.hid ((HB2.out.trans (hB3.mono HB2.out.size)).trans (hB4.mono (by have := HB2.out.size; omega)))
  have hs4 := hB4.size
  clear mV hN3 hB3 hB4
  go_wp2_with fail
  obtain ⟨w5, hw5, m2, mV, sz5, hB5⟩ := two_cells w4 #[.string (nb 7), .string (nb 8)] #[.int .i64 (-1), .int .i64 0] 34 3
  rw [← hw5]
  clear hw5
  have hN5 := (HN4.out.below hB5 (by omega)).mono (M := w5.heap.size) (by omega)
  refine (post_at w5.heap.size chapN [-1, 0] p (some ⟨w4.heap.size + 1, 0, none⟩) cp 2 0 [(1, 7), (6, 7)] 0 post0 chap_in (by decide) (fun _ => chap_sz) w5 hN5 (atN_cells mV) (Nat.le_refl _)).mono ?_
  rintro r6 w6 ⟨ps, n, cs, rfl, rfl, hA6, hB6⟩
  rw [show ([(1, 7), (6, 7)] : List (Nat × Nat)).length = 2 from rfl]
  have hs6 := hB6.size
  have HN6 := Lib.hid (hN5.below hB6 (Nat.le_refl _))
  have HB6 := Lib.hid ((HB4.out.trans (hB5.mono HB4.out.size)).trans (hB6.mono (by have := HB4.out.size; omega)))
  have M2 := Lib.hid ((behind_of_below hB6).keep m2 (by simp))
  have HA6 := Lib.hid hA6
  clear m2 mV hN5 hB5 hB6 hA6
  go_wp2_with fail
  obtain ⟨w7, hw7, mV, sz7, hB7⟩ := one_cells w6 #[.int .i64 0, .int .i64 1] 3
  rw [← hw7]
  clear hw7
  have hN7 := (HN6.out.below hB7 (by omega)).mono (M := w7.heap.size) (by omega)
  refine (joint_at w7.heap.size chapN [0, 1] p (some ⟨w6.heap.size, 0, none⟩) cp 2 1 8 0 (ask_chap rfl (by decide) joint01) chap_in (by decide) (fun _ => chap_sz) w7 hN7 (atN_cells mV) (Nat.le_refl _)).mono ?_
  rintro r8 w8 ⟨rfl, hB8⟩
  have hs8 := hB8.size
  have h68 : Behind w6 [] w8 := (behind_of_below hB7).trans (behind_of_below hB8) (by simp)
  have HN8 := Lib.hid (hN7.below hB8 (Nat.le_refl _))
  have HB8 := Lib.hid (HB6.out.trans (h68.below.mono HB6.out.size))
  have M28 := Lib.hid (h68.keep M2.out (by simp))
  have HA8 := Lib.hid (HA6.out.below h68.below (Nat.le_refl _))
  clear mV hN7 hB7 hB8 h68 M2 HA6 HN6 HB6
  go_wp2_with fail
  obtain ⟨w9, hw9, m6, sz9, hB9⟩ := one_cells w8 #[.string (nb 1), .string (nb 8)] 34
  rw [← hw9]
  clear hw9
  have hN9 := (HN8.out.below hB9 (by omega)).mono (M := w9.heap.size) (by omega)
  refine (encode_law gBOne w9.heap.size chapN p cp chap_in w9 hN9 (Nat.le_refl _)).mono ?_
  rintro r10 w10 ⟨hB10, ⟨hc, _⟩ | ⟨_, gT, gW, gI, ep, rfl, hE10⟩⟩
  · exact absurd chap_check hc
  obtain ⟨pL, cL, hvL⟩ := hE10.rC.slice
  obtain ⟨pI, cI, hvI⟩ := hE10.rI.slice
  have hs10 := hB10.size
  have h810 : Behind w8 [] w10 := (behind_of_below hB9).trans (behind_of_below hB10) (by simp)
  have HB10 := Lib.hid (HB8.out.trans (h810.below.mono HB8.out.size))
  have M2' := Lib.hid (h810.keep M28.out (by simp))
  have M6 := Lib.hid ((behind_of_below hB10).keep m6 (by simp))
  have HA10 := Lib.hid (HA8.out.below h810.below (by omega))
  rw [enc_chap, hvL, hvI]
  clear hE10 hvL hvI hB9 hB10 h810 m6 hN9 HN8 HB8 M28 HA8
  have KT1 : Gives 16 #[.agg #[.string (nb 7), .string (nb 8)]] (.string { data := #[55, 47, 56] }) := gTextOf 7 8 _ ⟨by decide, by decide⟩ (by kernel_rfl)
  have KT2 : Gives 16 #[.agg #[.string (nb 1), .string (nb 8)]] (.string { data := #[49, 47, 56] }) := gTextOf 1 8 _ ⟨by decide, by decide⟩ (by kernel_rfl)
  have c2a := blk_cell M2'.out 0 rfl
  have c2b := blk_cell M2'.out 1 rfl
  have l2 := lt_of_heap M2'.out
  go_wp2_with fail
  refine calls_gen fun w11 hw11 => ?_
  have mT : w11.heap[w10.heap.size]? = some (.cells #[.int .i64 10, .slice pL (encOf chapN).L.length cL] 43 (0, 0)) := by rw [hw11]; exact (heap_alloc_old _ _ (by simp)).trans (heap_alloc_new _ _)
  have hB11 : Below w10.heap.size w10 w11 := by rw [hw11]; exact ((Below.refl _ _).alloc (Nat.le_refl _) _).alloc (by simp) _
  have hs11 := hB11.size
  clear hw11 c2a c2b
  refine (KT1 _).mono ?_
  rintro r12 w12 ⟨rfl, hB12⟩
  have hs12 := hB12.size
  have h12 : Behind w10 [] w12 := (behind_of_below hB11).trans (behind_of_below hB12) (by simp)
  have MT := Lib.hid ((behind_of_below hB12).keep mT (by simp))
  have M6' := Lib.hid (h12.keep M6.out (by simp))
  have HA12 := Lib.hid (HA10.out.below h12.below (by omega))
  have HB12 := Lib.hid (HB10.out.trans (h12.below.mono HB10.out.size))
  clear mT hB11 hB12 h12 M6 HA10 HB10
  go_wp2_with fail
  obtain ⟨w13, hw13, mS, sz13, hB13⟩ := one_cells w12 #[.string { data := #[49, 47, 55] }, .string { data := #[54, 47, 55] }] 9
  rw [← hw13]
  clear hw13
  refine (texts_law w13.heap.size [(1, 7), (6, 7)] [{ data := #[49, 47, 55] }, { data := #[54, 47, 55] }] ps (some ⟨w12.heap.size, 0, none⟩) cs 2 (by intro q hq; simp only [List.mem_cons, List.not_mem_nil, or_false] at hq; rcases hq with rfl | rfl <;> exact ⟨by decide, by decide⟩) (by decide) (by decide) w13 ((HA12.out.below hB13 (by omega)).mono (by omega)) (atN_cells mS) (Nat.le_refl _)).mono ?_
  rintro r14 w14 ⟨rfl, hB14⟩
  rw [show textsB [(1, 7), (6, 7)] [{ data := #[49, 47, 55] }, { data := #[54, 47, 55] }] = true from decide_eq_true (by kernel_rfl)]
  have h14 : Behind w12 [] w14 := (behind_of_below hB13).trans (behind_of_below hB14) (by simp)
  have MT14 := Lib.hid (h14.keep MT.out (by simp))
  have m614 := h14.keep M6'.out (by simp)
  have c6a := blk_cell m614 0 rfl
  have c6b := blk_cell m614 1 rfl
  have HB14 := Lib.hid (HB12.out.trans (h14.below.mono HB12.out.size))
  clear hB13 hB14 h14 m614 mS MT M6' HB12 HA12
  go_wp2_with fail
  refine (KT2 _).mono ?_
  rintro r15 w15 ⟨rfl, hB15⟩
  have mT15 := (behind_of_below hB15).keep MT14.out (by simp)
  have cT := blk_cell mT15 0 rfl
  have HB15 := Lib.hid (HB14.out.trans (hB15.mono HB14.out.size))
  clear c6a c6b hB15 mT15 MT14
  go_wp2_with fail
  go_ret
  exact ⟨rfl, HB15.out⟩
end Go.Proofs.Ytbacloneddnaeaa

/- Plain laws that several rows of Bayes need. -/
namespace Go.Proofs.Ytbacloneddnaeaa
open Go.RowKit Go.Shelf Num

theorem gnet_get {l : List RV} {i : Nat} {x : RV} (h : l[i]? = some x) : (gnet l)[i]? = some (gvar x) := by simp [gnet, h]
theorem nz_raw (s : ByteArray) : nz (rawOf s) = numQ s := by
  unfold rawOf numQ
  cases h : ratRead s with
  | none => rfl
  | some r =>
    obtain ⟨n, d⟩ := r
    have := (ratRead_spec h).2.1.1
    show (n, dn d) = (n, d)
    rw [dn_of this]
theorem raw_small {s : ByteArray} (hs : s.size ≤ 9) : Q.Low (nz (rawOf s)) ∧ Sm 4 (rawOf s) := by
  refine ⟨by rw [nz_raw]; exact numQ_low s, ?_⟩
  unfold rawOf
  cases h : ratRead s with
  | none => exact ⟨by decide, by decide⟩
  | some r =>
    obtain ⟨n, d⟩ := r
    obtain ⟨h1, h2, _⟩ := ratRead_spec h
    have key : ∀ m : Nat, (dec m).size ≤ 9 → nl m ≤ 4 := fun m hm => by
      refine nl_le_of_lt (Nat.lt_of_lt_of_le (lt_dec_size m) (Nat.le_trans (Nat.pow_le_pow_right (by omega) hm) (by decide)))
    have h3 := congrArg ByteArray.size h1
    unfold rtext at h3
    rw [dn_of h2.1] at h3
    simp only at h3
    split at h3
    · rename_i hd
      refine ⟨key n (by omega), ?_⟩
      show nl d ≤ 4
      rw [hd]; decide
    · rw [ByteArray.size_append, ByteArray.size_append] at h3
      exact ⟨key n (by omega), key d (by omega)⟩
theorem fewT_le : ∀ (l : List RV) (n : Nat) (x : RV), x ∈ l → x.ts.length ≤ l.foldl (fun n x => n + x.ts.length) n ∧ n ≤ l.foldl (fun n x => n + x.ts.length) n
  | [], n, x, h => by simp at h
  | y :: l, n, x, h => by
    have mono : ∀ (l : List RV) (n : Nat), n ≤ l.foldl (fun n x => n + x.ts.length) n := by
      intro l
      induction l with
      | nil => intro n; exact Nat.le_refl _
      | cons y l ih => intro n; exact Nat.le_trans (Nat.le_add_right _ _) (ih _)
    have h1 := mono l (n + y.ts.length)
    rw [List.foldl_cons]
    rcases List.mem_cons.1 h with rfl | h
    · omega
    · exact ⟨(fewT_le l _ x h).1, by omega⟩
theorem few_lit {l : List RV} (h : FewP l) : Lit l :=
  ⟨h.len, fun x hx => (h.el x hx).1, fun x hx => ⟨by have := (fewT_le l 0 x hx).1; have := h.t; unfold fewT at this; omega, (h.el x hx).2⟩⟩
theorem lit_in {l : List RV} (h : Lit l) : NetIn (gnet l) := by
  have hg : ∀ (i : Nat) (y : BV), (gnet l)[i]? = some y → ∃ x ∈ l, y = gvar x := fun i y hy => by
    obtain ⟨x, hx, rfl⟩ := List.mem_map.1 (List.mem_of_getElem? hy)
    exact ⟨x, hx, rfl⟩
  refine ⟨by have := h.len; simp [gnet]; omega, fun i y hy p hp => ?_, fun i y hy => ?_, fun i y hy => ?_⟩
  · obtain ⟨x, hx, rfl⟩ := hg i y hy
    obtain ⟨t, ht, rfl⟩ := List.mem_map.1 hp
    exact raw_small ((h.ts x hx).2 t ht)
  · obtain ⟨x, hx, rfl⟩ := hg i y hy
    have := (h.ts x hx).1
    simpa [gvar] using this
  · obtain ⟨x, hx, rfl⟩ := hg i y hy
    have := h.ps x hx
    simp [gvar]; omega
theorem chosen_one {v : Nat} : ∀ k, chosen (v : Int) k = if v < k then [v] else []
  | 0 => by simp [chosen]
  | k + 1 => by
    by_cases h : v = k
    · subst h
      rw [chosen_succ_yes (.inr rfl), chosen_one v, if_neg (by omega), if_pos (by omega)]; rfl
    · rw [chosen_succ_no (by omega), chosen_one k]
      by_cases h2 : v < k
      · rw [if_pos h2, if_pos (by omega)]
      · rw [if_neg h2, if_neg (by omega)]
theorem idxFrom_take (l : List BV) (vs : List Nat) (n : Nat) : ∀ (ps : List Int) (a0 : Nat), (∀ p ∈ ps, p.toNat < n) → idxFrom l (vs.take n) a0 ps = idxFrom l vs a0 ps
  | [], _, _ => rfl
  | p :: ps, a0, h => by
    have e : (vs.take n).getD p.toNat 0 = vs.getD p.toNat 0 := by
      rw [List.getD_eq_getElem?_getD, List.getD_eq_getElem?_getD, List.getElem?_take, if_pos (h p (by simp))]
    show idxFrom l (vs.take n) (a0 * kAt l p.toNat + (vs.take n).getD p.toNat 0) ps = idxFrom l vs (a0 * kAt l p.toNat + vs.getD p.toNat 0) ps
    rw [e]
    exact idxFrom_take l vs n ps _ (fun q hq => h q (by simp [hq]))
theorem szs_prod : ∀ ks : List Nat, (∀ k ∈ ks, 2 ≤ k) → szs ks + 18 ≤ 19 * ks.foldr (· * ·) 1
  | [], _ => by simp [szs]
  | k :: ks, h => by
    have ih := szs_prod ks (fun k hk => h k (by simp [hk]))
    have hk := h k (by simp)
    rw [szs_cons, List.foldr_cons]
    have h1 := Nat.mul_le_mul_left k ih
    rw [Nat.mul_add] at h1
    have h2 : k * (19 * ks.foldr (· * ·) 1) = 19 * (k * ks.foldr (· * ·) 1) := by rw [Nat.mul_left_comm]
    rw [Nat.mul_add]
    omega
theorem fewJ_prod : ∀ (l : List RV) (j : Nat), (∀ x ∈ l, 2 ≤ x.k ∧ x.k ≤ 8) → l.foldl stepJ j = j * (l.map fun x => x.k.toNat).foldr (· * ·) 1
  | [], j, _ => by simp
  | x :: l, j, h => by
    rw [List.foldl_cons, fewJ_prod l _ (fun y hy => h y (by simp [hy]))]
    unfold stepJ
    rw [if_pos (h x (by simp))]
    simp [Nat.mul_assoc]
theorem few_sz {l : List RV} (h : FewP l) (hc : checkE (gnet l) = 0) : szs (ksOf (gnet l)) ≤ 9000 := by
  have hfit := encFit (lit_in (few_lit h)) hc
  have hk : ∀ x ∈ l, 2 ≤ x.k ∧ x.k ≤ 8 := fun x hx => by
    obtain ⟨i, hi⟩ := List.getElem?_of_mem hx
    exact hfit.kb i (gvar x) (gnet_get hi)
  have h1 := fewJ_prod l 1 hk
  have h2 := h.j
  unfold fewJ at h2
  have e : ksOf (gnet l) = l.map fun x => x.k.toNat := by simp [ksOf, gnet, gvar]
  have h3 := szs_prod (ksOf (gnet l)) (fun k hk' => by
    rw [e] at hk'
    obtain ⟨x, hx, rfl⟩ := List.mem_map.1 hk'
    have := hk x hx
    omega)
  rw [e] at h3 ⊢
  omega
end Go.Proofs.Ytbacloneddnaeaa

/- censusref40.rows. -/
namespace Go.Proofs.Ytbacloneddnaeaa
open Go.RowKit Go.Shelf Num

end Go.Proofs.Ytbacloneddnaeaa

/- censusref40.sums. -/
namespace Go.Proofs.Ytbacloneddnaeaa
open Go.RowKit Go.Shelf Num

end Go.Proofs.Ytbacloneddnaeaa

/- censusref40.Check. -/
namespace Go.Proofs.Ytbacloneddnaeaa
open Go.RowKit Go.Shelf Num

end Go.Proofs.Ytbacloneddnaeaa

/- censusref40.Entry and product. -/
namespace Go.Proofs.Ytbacloneddnaeaa
open Go.RowKit Go.Shelf Num

def prodV (l : List BV) (vs : List Nat) (j : Nat) : Nat × Nat := (List.range j).foldl (fun s i => Q.mul s (pAt l i vs)) (1, 1)
theorem prodV_succ (l : List BV) (vs : List Nat) (j : Nat) : prodV l vs (j + 1) = Q.mul (prodV l vs j) (pAt l j vs) := by simp [prodV, List.range_succ]
end Go.Proofs.Ytbacloneddnaeaa

/- The intended model of a network's encoding; plain laws. -/
namespace Go.Proofs.Ytbacloneddnaeaa
open Num

/-! ### Numbers of variables -/
theorem kSum_succ : ∀ {l : List BV} {i : Nat} {x : BV}, l[i]? = some x → kSum (l.take (i + 1)) = kSum (l.take i) + x.k.toNat
  | [], i, x, h => by simp at h
  | y :: l, 0, x, h => by
    obtain rfl : y = x := by simpa using h
    simp [kSum]
  | y :: l, i + 1, x, h => by
    have := kSum_succ (l := l) (i := i) (x := x) (by simpa using h)
    simp only [List.take_succ_cons, kSum] at *
    omega
theorem kSum_mono : ∀ (l : List BV) {i j : Nat}, i ≤ j → kSum (l.take i) ≤ kSum (l.take j)
  | [], i, j, _ => by simp
  | y :: l, 0, j, _ => by simp [kSum]
  | y :: l, i + 1, 0, h => by omega
  | y :: l, i + 1, j + 1, h => by
    have := kSum_mono l (show i ≤ j by omega)
    simp only [List.take_succ_cons, kSum]; omega
theorem kSum_bound {l : List BV} {i : Nat} {x : BV} (h : l[i]? = some x) : kSum (l.take i) + x.k.toNat ≤ kSum l := by
  rw [← kSum_succ h]; exact kSum_take l (i + 1)
theorem kSum_inj {l : List BV} {i j a b : Nat} {x y : BV} (hx : l[i]? = some x) (hy : l[j]? = some y) (ha : a < x.k.toNat) (hb : b < y.k.toNat) (h : kSum (l.take i) + a = kSum (l.take j) + b) : i = j ∧ a = b := by
  rcases Nat.lt_trichotomy i j with h1 | h1 | h1
  · have h2 := kSum_mono l (show i + 1 ≤ j by omega)
    rw [kSum_succ hx] at h2; omega
  · subst h1; omega
  · have h2 := kSum_mono l (show j + 1 ≤ i by omega)
    rw [kSum_succ hy] at h2; omega
theorem tSum_mono : ∀ (l : List BV) {i j : Nat}, i ≤ j → tSum (l.take i) ≤ tSum (l.take j)
  | [], i, j, _ => by simp
  | y :: l, 0, j, _ => by simp [tSum]
  | y :: l, i + 1, 0, h => by omega
  | y :: l, i + 1, j + 1, h => by
    have := tSum_mono l (show i ≤ j by omega)
    simp only [List.take_succ_cons, tSum]; omega
theorem tSum_inj {l : List BV} {i j a b : Nat} {x y : BV} (hx : l[i]? = some x) (hy : l[j]? = some y) (ha : a < x.tab.length) (hb : b < y.tab.length) (h : tSum (l.take i) + a = tSum (l.take j) + b) : i = j ∧ a = b := by
  rcases Nat.lt_trichotomy i j with h1 | h1 | h1
  · have h2 := tSum_mono l (show i + 1 ≤ j by omega)
    rw [(tSum_take l i x hx).2] at h2; omega
  · subst h1; omega
  · have h2 := tSum_mono l (show j + 1 ≤ i by omega)
    rw [(tSum_take l j y hy).2] at h2; omega

def rowOf (l : List BV) (vs : List Nat) (i : Nat) (x : BV) : Nat := idxFrom l vs 0 x.ps * x.k.toNat + vs.getD i 0
def Tru (l : List BV) (vs : List Nat) (v : Int) : Prop := ∃ i x, l[i]? = some x ∧ (v = ((kSum (l.take i) + vs.getD i 0 + 1 : Nat) : Int) ∨ v = ((kSum l + tSum (l.take i) + rowOf l vs i x + 1 : Nat) : Int))

theorem fit_get {l : List BV} {vs : List Nat} (hf : Fit l vs) {i : Nat} {x : BV} (hx : l[i]? = some x) : vs.getD i 0 < x.k.toNat := by
  obtain ⟨v, hv⟩ : ∃ v, vs[i]? = some v := ⟨_, List.getElem?_eq_getElem (by rw [hf.len]; exact (List.getElem?_eq_some_iff.1 hx).1)⟩
  have h1 := hf.lt i x v hx hv
  rw [List.getD_eq_getElem?_getD, hv]
  show v < _
  omega
theorem tru_ind {l : List BV} {vs : List Nat} (hf : Fit l vs) {i m : Nat} {x : BV} (hx : l[i]? = some x) (hm : m < x.k.toNat) : Tru l vs ((kSum (l.take i) + m + 1 : Nat) : Int) ↔ m = vs.getD i 0 := by
  have hb := kSum_bound hx
  constructor
  · rintro ⟨j, y, hy, h | h⟩
    · have h1 := fit_get hf hy
      obtain ⟨rfl, h2⟩ := kSum_inj hx hy hm h1 (by omega)
      exact h2
    · omega
  · rintro rfl
    exact ⟨i, x, hx, .inl rfl⟩
theorem tru_par {l : List BV} {vs : List Nat} (hg : Good l) (hf : Fit l vs) {i r : Nat} {x : BV} (hx : l[i]? = some x) (hr : r < x.tab.length) : Tru l vs ((kSum l + tSum (l.take i) + r + 1 : Nat) : Int) ↔ r = rowOf l vs i x := by
  constructor
  · rintro ⟨j, y, hy, h | h⟩
    · have h1 := fit_get hf hy
      have h2 := kSum_bound hy
      omega
    · have h1 : rowOf l vs j y < y.tab.length := hg.tab j y vs hy hf
      obtain ⟨rfl, h2⟩ := tSum_inj hx hy hr h1 (by omega)
      rw [hx] at hy; cases hy
      exact h2
  · rintro rfl
    exact ⟨i, x, hx, .inr rfl⟩

/-! ### The digits of a row -/
theorem ind_get {l : List BV} {i : Nat} {x : BV} (hx : l[i]? = some x) : (est0.vars l).ind[i]? = some (seqFrom (kSum (l.take i)) x.k.toNat) := by
  obtain ⟨n, h1, h2, _⟩ := ESt.vars_get l est0 i x hx
  rw [show est0.ind.length = 0 from rfl, Nat.zero_add] at h1
  rw [show est0.N = 0 from rfl, Nat.zero_add] at h2
  rw [h1, h2]
theorem ind_dig {l : List BV} {i m : Nat} {x : BV} (hx : l[i]? = some x) (hm : m < x.k.toNat) : ((est0.vars l).ind.getD i []).getD m 0 = ((kSum (l.take i) + m + 1 : Nat) : Int) := by
  rw [List.getD_eq_getElem?_getD, List.getD_eq_getElem?_getD, ind_get hx]
  simp only [Option.getD_some, seqFrom, List.getElem?_map, List.getElem?_range hm, Option.map_some]
  omega

def prodK (l : List BV) (ps : List Int) : Nat := ps.foldl (fun r p => r * kAt l p.toNat) 1
theorem prodK_snoc (l : List BV) (ps : List Int) (p : Int) : prodK l (ps ++ [p]) = prodK l ps * kAt l p.toNat := by simp [prodK]
theorem okPar_prod (l : List BV) (i tn : Nat) : ∀ (ps : List Int) (prev : Option Int) (r0 r : Nat), okPar l i tn ps prev r0 = some r → r = ps.foldl (fun r p => r * kAt l p.toNat) r0
  | [], prev, r0, r, h => by cases h; rfl
  | p :: ps, prev, r0, r, h => by
    unfold okPar at h
    split at h
    · cases h
    · split at h
      · cases h
      · exact okPar_prod l i tn ps (some p) _ r h
theorem formed_tab {l : List BV} {i : Nat} {x : BV} (hx : l[i]? = some x) (h : formedP l i) : x.tab.length = prodK l x.ps * x.k.toNat := by
  obtain ⟨y, r, h1, _, _, h4, h5, _⟩ := h
  rw [hx] at h1; cases h1
  rw [← h5, okPar_prod l i _ _ _ _ _ h4]; rfl
theorem formed_of {l : List BV} (h : checkE l = 0) : ∀ i, i < l.length → formedP l i := by
  unfold checkE at h
  split at h
  · cases h
  · split at h
    · rename_i h2; exact h2
    · cases h

section
variable {l : List BV} {vs : List Nat} (hf : Fit l vs) {ps : List Int} (hp : ∀ p ∈ ps, 0 ≤ p ∧ p.toNat < l.length)
include hf hp

theorem dig_at {j : Nat} (hj : j < ps.length) : ∃ (pn : Nat) (y : BV), ps.getD j 0 = (pn : Int) ∧ ps[j]? = some (pn : Int) ∧ l[pn]? = some y ∧ kAt l pn = y.k.toNat ∧ 1 ≤ y.k.toNat := by
  obtain ⟨p, hpj⟩ : ∃ p, ps[j]? = some p := ⟨_, List.getElem?_eq_getElem hj⟩
  obtain ⟨h0, h1⟩ := hp p (List.mem_of_getElem? hpj)
  obtain ⟨y, hy⟩ : ∃ y, l[p.toNat]? = some y := ⟨_, List.getElem?_eq_getElem h1⟩
  obtain ⟨k1, _⟩ := hf.kpos _ y hy
  refine ⟨p.toNat, y, ?_, ?_, hy, kAt_of hy, by omega⟩
  · rw [List.getD_eq_getElem?_getD, hpj]; show p = _; omega
  · rw [hpj]; congr 1; omega

theorem digs_right (d0 : Int) (h0 : Tru l vs d0) : ∀ (d j : Nat), j + d = ps.length → ∃ st, digsAt l (est0.vars l).ind ps ([d0], idxFrom l vs 0 ps) (downTo ps.length j) = (st, idxFrom l vs 0 (ps.take j)) ∧ ∀ y ∈ st, Tru l vs y
  | 0, j, h => by
    obtain rfl : j = ps.length := by omega
    rw [downTo_start, List.take_length]
    exact ⟨[d0], rfl, by simpa using h0⟩
  | d + 1, j, h => by
    obtain ⟨st, h1, h2⟩ := digs_right d0 h0 d (j + 1) (by omega)
    obtain ⟨pn, y, e1, e2, hy, hk, hk1⟩ := dig_at hf hp (show j < ps.length by omega)
    obtain ⟨v, hv⟩ : ∃ v, vs[pn]? = some v := ⟨_, List.getElem?_eq_getElem (by rw [hf.len]; exact (List.getElem?_eq_some_iff.1 hy).1)⟩
    have hlt := fit_get hf hy
    rw [show vs.getD pn 0 = v by simp [hv]] at hlt
    have hI := idxFrom_snoc (l := l) (vs := vs) (a0 := 0) e2 hy hv
    rw [downTo_step (show j < ps.length by omega), digsAt_snoc, h1, digStep, e1, Int.toNat_natCast, hk, hI]
    have hm : (idxFrom l vs 0 (ps.take j) * y.k.toNat + v) % y.k.toNat = v := by rw [Nat.mul_comm, Nat.mul_add_mod, Nat.mod_eq_of_lt hlt]
    have hq : (idxFrom l vs 0 (ps.take j) * y.k.toNat + v) / y.k.toNat = idxFrom l vs 0 (ps.take j) := by
      rw [Nat.mul_comm, Nat.mul_add_div (by omega), Nat.div_eq_of_lt hlt, Nat.add_zero]
    rw [hm, hq]
    refine ⟨_, rfl, fun z hz => ?_⟩
    simp only [List.mem_append, List.mem_singleton] at hz
    rcases hz with hz | rfl
    · exact h2 z hz
    · rw [ind_dig hy hlt]
      exact (tru_ind hf hy hlt).2 (by simp [hv])

theorem digs_only (d0 : Int) (q0 : Nat) (hall : ∀ y ∈ (digsAt l (est0.vars l).ind ps ([d0], q0) (downTo ps.length 0)).1, Tru l vs y) : ∀ j, j ≤ ps.length → (digsAt l (est0.vars l).ind ps ([d0], q0) (downTo ps.length j)).2 < prodK l (ps.take j) → (∀ y ∈ (digsAt l (est0.vars l).ind ps ([d0], q0) (downTo ps.length j)).1, Tru l vs y) → (digsAt l (est0.vars l).ind ps ([d0], q0) (downTo ps.length j)).2 = idxFrom l vs 0 (ps.take j)
  | 0, _, h, _ => by
    have : prodK l (ps.take 0) = 1 := rfl
    have e : idxFrom l vs 0 (ps.take 0) = 0 := rfl
    omega
  | j + 1, hj, h, _ => by
    obtain ⟨pn, y, e1, e2, hy, hk, hk1⟩ := dig_at hf hp (show j < ps.length by omega)
    have hT : ∀ k, k ≤ j → ∀ z ∈ (digsAt l (est0.vars l).ind ps ([d0], q0) (downTo ps.length j)).1, Tru l vs z := by
      have hsub : ∀ k, k ≤ ps.length → ∀ z ∈ (digsAt l (est0.vars l).ind ps ([d0], q0) (downTo ps.length k)).1, Tru l vs z := by
        intro k
        induction k with
        | zero => exact fun _ => hall
        | succ k ih =>
          intro hk z hz
          refine ih (by omega) z ?_
          rw [downTo_step (show k < ps.length by omega), digsAt_snoc, digStep]
          simp [hz]
      exact fun _ _ => hsub j (by omega)
    have hTj := hT 0 (Nat.zero_le _)
    have hstep : digsAt l (est0.vars l).ind ps ([d0], q0) (downTo ps.length j) = digStep l (est0.vars l).ind (digsAt l (est0.vars l).ind ps ([d0], q0) (downTo ps.length (j + 1))) (ps.getD j 0) := by
      rw [downTo_step (show j < ps.length by omega), digsAt_snoc]
    obtain ⟨st, q, hsq⟩ : ∃ st q, digsAt l (est0.vars l).ind ps ([d0], q0) (downTo ps.length (j + 1)) = (st, q) := ⟨_, _, rfl⟩
    rw [hsq] at h hstep ⊢
    rw [digStep, e1, Int.toNat_natCast, hk] at hstep
    have htk : ps.take (j + 1) = ps.take j ++ [(pn : Int)] := take_snoc_of e2
    rw [htk, prodK_snoc, Int.toNat_natCast, hk] at h
    have ih := digs_only d0 q0 hall j (by omega)
    rw [hstep] at ih hTj
    have hdl : q / y.k.toNat < prodK l (ps.take j) := by
      rw [Nat.div_lt_iff_lt_mul (by omega)]; exact h
    have hqi := ih hdl hTj
    have hml : q % y.k.toNat < y.k.toNat := Nat.mod_lt _ (by omega)
    have hd := hTj (((est0.vars l).ind.getD pn []).getD (q % y.k.toNat) 0) (by simp)
    rw [ind_dig hy hml, tru_ind hf hy hml] at hd
    obtain ⟨v, hv⟩ : ∃ v, vs[pn]? = some v := ⟨_, List.getElem?_eq_getElem (by rw [hf.len]; exact (List.getElem?_eq_some_iff.1 hy).1)⟩
    have hI := idxFrom_snoc (l := l) (vs := vs) (a0 := 0) e2 hy hv
    rw [hI]
    have hdm := Nat.div_add_mod q y.k.toNat
    have hv2 : vs.getD pn 0 = v := by simp [hv]
    show q = _
    simp only at hqi
    rw [← hqi, Nat.mul_comm, ← hv2, ← hd]
    exact hdm.symm
end

theorem row_tru {l : List BV} (hc : checkE l = 0) (hg : Good l) {vs : List Nat} (hf : Fit l vs) {i r : Nat} {x : BV} (hx : l[i]? = some x) (hr : r < x.tab.length) : (∀ y ∈ rowIs l (est0.vars l).ind i x r, Tru l vs y) ↔ r = rowOf l vs i x := by
  have hi := (List.getElem?_eq_some_iff.1 hx).1
  have hp : ∀ p ∈ x.ps, 0 ≤ p ∧ p.toNat < l.length := fun p hp => by have := hg.par i x hx p hp; omega
  have hk1 : 1 ≤ x.k.toNat := by have := hg.kb i x hx; omega
  have htab := formed_tab hx (formed_of hc i hi)
  have hml : r % x.k.toNat < x.k.toNat := Nat.mod_lt _ (by omega)
  have hd0 := ind_dig hx hml
  have hvl := fit_get hf hx
  unfold rowIs
  rw [hd0]
  constructor
  · intro h
    have hall : ∀ y ∈ (digsAt l (est0.vars l).ind x.ps ([((kSum (l.take i) + r % x.k.toNat + 1 : Nat) : Int)], r / x.k.toNat) (downTo x.ps.length 0)).1, Tru l vs y := fun y hy => h y (List.mem_reverse.2 hy)
    have hsub : ∀ k, k ≤ x.ps.length → ∀ z ∈ (digsAt l (est0.vars l).ind x.ps ([((kSum (l.take i) + r % x.k.toNat + 1 : Nat) : Int)], r / x.k.toNat) (downTo x.ps.length k)).1, Tru l vs z := by
      intro k
      induction k with
      | zero => exact fun _ => hall
      | succ k ih =>
        intro hk z hz
        refine ih (by omega) z ?_
        rw [downTo_step (show k < x.ps.length by omega), digsAt_snoc, digStep]
        exact List.mem_append.2 (.inl hz)
    have h1 := digs_only hf hp _ _ hall x.ps.length (Nat.le_refl _)
    have h0 := hsub x.ps.length (Nat.le_refl _)
    rw [downTo_start, List.take_length] at h1
    rw [downTo_start] at h0
    have hdl : r / x.k.toNat < prodK l x.ps := by
      rw [Nat.div_lt_iff_lt_mul (by omega), ← htab]; exact hr
    have hq : r / x.k.toNat = idxFrom l vs 0 x.ps := h1 hdl h0
    have hd := h0 _ (show ((kSum (l.take i) + r % x.k.toNat + 1 : Nat) : Int) ∈ [((kSum (l.take i) + r % x.k.toNat + 1 : Nat) : Int)] from List.mem_singleton.2 rfl)
    rw [tru_ind hf hx hml] at hd
    have := Nat.div_add_mod r x.k.toNat
    unfold rowOf
    rw [← hq, ← hd, Nat.mul_comm]
    omega
  · intro h
    have hm : r % x.k.toNat = vs.getD i 0 := by rw [h, rowOf, Nat.mul_comm, Nat.mul_add_mod, Nat.mod_eq_of_lt hvl]
    have hq : r / x.k.toNat = idxFrom l vs 0 x.ps := by rw [h, rowOf, Nat.mul_comm, Nat.mul_add_div (by omega), Nat.div_eq_of_lt hvl, Nat.add_zero]
    obtain ⟨st, e, ht⟩ := digs_right hf hp ((kSum (l.take i) + r % x.k.toNat + 1 : Nat) : Int) ((tru_ind hf hx hml).2 hm) x.ps.length 0 (by omega)
    rw [hq, e]
    exact fun y hy => ht y (List.mem_reverse.1 hy)
end Go.Proofs.Ytbacloneddnaeaa

/- What is kept from world to world. -/
namespace Go.Proofs.Ytbacloneddnaeaa
open Go.RowKit Go.Shelf Num

theorem below_one (w : World) (o : Obj) : Below w.heap.size w (w.alloc o) := (Below.refl _ _).alloc (Nat.le_refl _) _
theorem below_two (w : World) (o u : Obj) : Below w.heap.size w ((w.alloc o).alloc u) := ((Below.refl _ _).alloc (Nat.le_refl _) _).alloc (by simp) _
theorem new_one (w : World) (o : Obj) : (w.alloc o).heap[w.heap.size]? = some o := World.alloc_heap_new w o
theorem new_two1 (w : World) (o u : Obj) : ((w.alloc o).alloc u).heap[w.heap.size]? = some o := (heap_alloc_old _ _ (by simp)).trans (World.alloc_heap_new w o)
theorem new_two2 (w : World) (o u : Obj) : ((w.alloc o).alloc u).heap[w.heap.size + 1]? = some u := by
  have := World.alloc_heap_new (w.alloc o) u
  simpa using this
end Go.Proofs.Ytbacloneddnaeaa

/- censusref40.literals. -/
namespace Go.Proofs.Ytbacloneddnaeaa
open Go.RowKit Go.Shelf Num

def IndAt (N : Nat) (w : World) (ia : Option Addr) (ind : List (List Int)) : Prop := ∀ i xs, ind[i]? = some xs → ∃ b o pa pc, b < N ∧ ia = some ⟨b, o, none⟩ ∧ w.cell? ⟨b, o + i, none⟩ = some (.slice pa xs.length pc) ∧ AtN N w pa (ints xs)
theorem IndAt.below {N M : Nat} {w w' : World} {a : Option Addr} {ind : List (List Int)} (h : IndAt N w a ind) (hb : Below M w w') (hM : N ≤ M) : IndAt N w' a ind := fun i xs hi => by
  obtain ⟨b, o, pa, pc, h1, h2, h3, h4⟩ := h i xs hi
  exact ⟨b, o, pa, pc, h1, h2, below_cell hb (by omega) h3, h4.below hb hM⟩
theorem IndAt.mono {N M : Nat} {w : World} {a : Option Addr} {ind : List (List Int)} (h : IndAt N w a ind) (hM : N ≤ M) : IndAt M w a ind := fun i xs hi => by
  obtain ⟨b, o, pa, pc, h1, h2, h3, h4⟩ := h i xs hi
  exact ⟨b, o, pa, pc, by omega, h2, h3, h4.mono hM⟩

theorem own_at {w : World} {b : Nat} {v : Value} {xs : List Int} (h : OwnI w b [] v xs) : ∃ a c, v = .slice a xs.length c ∧ AtN w.heap.size w a (ints xs) := by
  obtain ⟨a, c, h1, h2, _⟩ := OutN.row (M := []) h.row (by simp)
  exact ⟨a, c, h1, fun i v hi => by
    obtain ⟨g, o, _, e, k⟩ := h2 i v hi
    exact ⟨g, o, block_lt_of_cell k, e, k⟩⟩
end Go.Proofs.Ytbacloneddnaeaa

/- Lists of numbers: a copy by append; Same. -/
namespace Go.Proofs.Ytbacloneddnaeaa
open Go.RowKit Go.Shelf Num

end Go.Proofs.Ytbacloneddnaeaa

/- censusref16.SameTheory at two equal theories. -/
namespace Go.Proofs.Ytbacloneddnaeaa
open Go.RowKit Go.Shelf Num

end Go.Proofs.Ytbacloneddnaeaa

/- censusref40.product, allowed and Joint. -/
namespace Go.Proofs.Ytbacloneddnaeaa
open Go.RowKit Go.Shelf Num

theorem prodV_low {l : List BV} (hg : Good l) (vs : List Nat) : ∀ j, Q.Low (prodV l vs j) ∧ Sm (1 + 5 * j) (prodV l vs j)
  | 0 => by
    show Q.Low (1, 1) ∧ Sm 1 (1, 1)
    exact ⟨⟨by decide, by decide⟩, ⟨by decide, by decide⟩⟩
  | j + 1 => by
    obtain ⟨h1, h2⟩ := prodV_low hg vs j
    obtain ⟨h3, h4⟩ := pAt_low hg j vs
    rw [prodV_succ]
    exact ⟨Q.mul_low h1 h3, (sm_mul2 h2 h4).mono (by omega)⟩

end Go.Proofs.Ytbacloneddnaeaa

/- censusref40.allowed. -/
namespace Go.Proofs.Ytbacloneddnaeaa
open Go.RowKit Go.Shelf Num

end Go.Proofs.Ytbacloneddnaeaa

/- BayesChecks: the walk. -/
namespace Go.Proofs.Ytbacloneddnaeaa
open Go.RowKit Go.Shelf Num

end Go.Proofs.Ytbacloneddnaeaa

/- The probability of an assignment: the tree of choices and the product. -/
namespace Go.Proofs.Ytbacloneddnaeaa
open Go.RowKit Go.Shelf Num

theorem pAt_take {l : List BV} (hg : Good l) (vs : List Nat) (n : Nat) : pAt l n (vs.take (n + 1)) = pAt l n vs := by
  unfold pAt
  cases h : l[n]? with
  | none => rfl
  | some x =>
    have e : (vs.take (n + 1)).getD n 0 = vs.getD n 0 := by
      rw [List.getD_eq_getElem?_getD, List.getD_eq_getElem?_getD, List.getElem?_take, if_pos (by omega)]
    simp only [e]
    rw [idxFrom_take l vs (n + 1) x.ps 0 (fun p hp => by have := hg.par n x h p hp; omega)]

theorem fromQ_full {l : List BV} (hg : Good l) {vs : List Nat} (hf : Fit l vs) : ∀ (d n : Nat), n + d = l.length → Q.mul (prodV l vs n) (fromQ l (vs.map Int.ofNat) d (vs.take n)) = prodV l vs l.length
  | 0, n, h => by
    obtain rfl : n = l.length := by omega
    exact Q.mul1 (prodV_low hg vs _).1
  | d + 1, n, h => by
    have ih := fromQ_full hg hf d (n + 1) (by omega)
    have hn : n < l.length := by omega
    obtain ⟨x, hx⟩ : ∃ x, l[n]? = some x := ⟨_, List.getElem?_eq_getElem hn⟩
    obtain ⟨v, hv⟩ : ∃ v, vs[n]? = some v := ⟨_, List.getElem?_eq_getElem (by rw [hf.len]; exact hn)⟩
    have hvk := hf.lt n x v hx hv
    have hlen : (vs.take n).length = n := by have := hf.len; simp; omega
    have hev : (vs.map Int.ofNat).getD n 0 = (v : Int) := by rw [List.getD_eq_getElem?_getD, List.getElem?_map, hv]; rfl
    have hk : kAt l n = x.k.toNat := kAt_of hx
    have hsn : vs.take n ++ [v] = vs.take (n + 1) := (take_snoc_of hv).symm
    have hp := pAt_low hg n vs
    have hF := fromQ_low hg (vs.map Int.ofNat) d (vs.take (n + 1)) (by have := hf.len; simp; omega)
    have hpr := prodV_low hg vs n
    have e : fromQ l (vs.map Int.ofNat) (d + 1) (vs.take n) = if pAt l n vs = (0, 1) then (0, 1) else Q.add (0, 1) (Q.mul (pAt l n vs) (fromQ l (vs.map Int.ofNat) d (vs.take (n + 1)))) := by
      show (chosen ((vs.map Int.ofNat).getD (vs.take n).length 0) (kAt l (vs.take n).length)).foldl _ _ = _
      rw [hlen, hev, hk, chosen_one, if_pos (by omega)]
      simp only [List.foldl_cons, List.foldl_nil]
      rw [hsn, pAt_take hg]
    rw [e]
    rw [prodV_succ] at ih
    by_cases h0 : pAt l n vs = (0, 1)
    · rw [if_pos h0, Q.mul0 hpr.1, ← ih, h0, Q.mul0 hpr.1, Q.zmul hF.1]
    · rw [if_neg h0, Q.zadd (Q.mul_low hp.1 hF.1), ← Q.mul_assoc hpr.1.1 hp.1.1 hF.1.1]
      exact ih

end Go.Proofs.Ytbacloneddnaeaa

/- censusref40.Joint; BayesJoints: the walk. -/
namespace Go.Proofs.Ytbacloneddnaeaa
open Go.RowKit Go.Shelf Num

end Go.Proofs.Ytbacloneddnaeaa
