/- Texts of this claim, joined: D13, D16. -/
import Derived.Test.YtajjgfiojlagmaaGreatDoorMO23
import Derived.Test.YtajjgfiojlagmaaGreatDoorMO19
import Derived.Deep.DeepCutAuto

/- The program's Parse. -/
namespace Go.Proofs.YtajjgfiojlagmaaGreatDoor
open Go.RowKit

def FilePost (TW : TypeId) (w : World) (r : DS × Nat × Int) (e : Ending) (w' : World) : Prop :=
  ∃ v, e = .returned (.tuple #[.agg #[.int .i64 r.1.n, v.L, v.S, v.W], .int .i64 (r.2.1 : Int), .int .i64 r.2.2]) ∧ DR TW w' w.heap.size r.1 v ∧ Below w.heap.size w w'

theorem gSplit2 (l : List UInt8) (hl : l.length ≤ 1100000) (m : Int) (w : World) (hm : w.cell? ⟨1, 0, none⟩ = some (.int .i64 m)) : Calls Tryz.prog 20 #[.string ⟨l.toArray⟩, .string ⟨#[10]⟩] w fun e w' => e = .returned (.slice (some ⟨w.heap.size, 0, none⟩) (pieces 10 l).length (pieces 10 l).length) ∧ w' = w.alloc (.cells (strs (pieces 10 l)).toArray 9) := by
  refine (Tryz.strings_Split ⟨l.toArray⟩ ⟨#[10]⟩ m w (by rw [ba_size]; omega) hm (by decide)).mono ?_
  rintro e w' ⟨rfl, rfl⟩
  have hs := split_list 10 l
  have hlen : (Lib.countB ⟨l.toArray⟩ ⟨#[10]⟩) + 1 = (pieces 10 l).length := by
    have := Lib.splitB_all ⟨#[10]⟩ (by decide) 0 _ ⟨l.toArray⟩ rfl
    have h2 := congrArg List.length hs
    rw [List.length_map] at h2
    unfold strs at h2
    rw [List.length_map] at h2
    omega
  rw [hlen, hs]
  exact ⟨rfl, rfl⟩
def WPost (w : World) (xs : List (List UInt8)) (e : Ending) (w' : World) : Prop := ∃ A, e = .returned (.slice (some ⟨A, 0, none⟩) xs.length xs.length) ∧ w.heap.size ≤ A ∧ AtN w'.heap.size w' (some ⟨A, 0, none⟩) (strs xs) ∧ Below w.heap.size w w'
theorem gWords2 (l : List UInt8) (hl : l.length ≤ 1100000) (w : World) : Calls Tryz.prog 22 #[.string ⟨l.toArray⟩] w (WPost w (wordsD l)) := by
  obtain ⟨Post, hPost⟩ : ∃ P : Ending → World → Prop, P = WPost w (wordsD l) := ⟨_, rfl⟩
  rw [← hPost]
  have HP := Lib.hid hPost
  have hp : PredAt Tryz.prog 43 #[] encR (fun r => decide (r = 32)) w := fun W r _ => by
    unfold FnGives
    have hr : ((r : Int) == 32) = decide (r = 32) := by
      by_cases h : r = 32
      · subst h; rfl
      · rw [decide_eq_false h]; exact beq_no (by omega)
    have HR := Lib.hid hr
    clear hr
    go_enter Tryz.func43, Tryz.ntmps43
    go_wp2_with fail
    go_ret
    exact ⟨by rw [← HR.out]; rfl, 0, rfl⟩
  have KF := Tryz.strings_FieldsFunc 43 #[] (enters_of Tryz.func43 (by kernel_rfl) rfl) _ ⟨l.toArray⟩ w (by rw [ba_size]; omega) hp
  have hw := fields_words (fun r => decide (r = 32)) (fun _ => rfl) ⟨l.toArray⟩
  have hv : (Lib.goFieldsP (fun r => decide (r = 32)) ⟨l.toArray⟩).map Value.string = strs (wordsD l) := by
    rw [show wordsD l = wordsD (⟨l.toArray⟩ : ByteArray).data.toList from rfl, ← hw]
    unfold strs
    rw [List.map_map]
    congr 1
  have hlen : (Lib.goFieldsP (fun r => decide (r = 32)) ⟨l.toArray⟩).length = (wordsD l).length := by
    rw [show wordsD l = wordsD (⟨l.toArray⟩ : ByteArray).data.toList from rfl, ← hw, List.length_map]
  rw [hv, hlen] at KF
  have HKF := Lib.hid KF
  clear KF hp hw hv hlen hPost
  go_enter Tryz.func22, Tryz.ntmps22
  go_wp2_with fail
  refine HKF.out.mono ?_
  rintro e w2 ⟨A, rfl, hA, ho, hB⟩
  have hr := (RowV.of_own ho).1
  obtain ⟨a, c, hv, hat⟩ := rowS_at hr
  cases hv
  have HAT := Lib.hid hat
  have HB := Lib.hid hB
  have HA := Lib.hid hA
  clear ho hr hat hB hA
  go_wp2_with fail
  rw [HP.out]
  exact ⟨_, rfl, HA.out, HAT.out, HB.out⟩
theorem linesGo_cons (rd : List UInt8 → Bool) (st : DS) (i : Nat) (x : List UInt8) (l : List (List UInt8)) : linesGo rd st i (x :: l) = if (lineD rd st (wordsD x)).2 ≠ 0 then ((lineD rd st (wordsD x)).1, i + 1, (lineD rd st (wordsD x)).2) else linesGo rd (lineD rd st (wordsD x)).1 (i + 1) l := rfl
theorem Tryz.sizeFile : (Tryz.prog.info? 28).map (·.size) = some 4 := by kernel_rfl
theorem FilePost.err {TW : TypeId} {w w' : World} {k : Nat} {n : Int} (hb : Below w.heap.size w w') : FilePost TW w (.zero, k, n) (.returned (.tuple #[.agg #[.int .i64 0, .slice none 0 0, .slice none 0 0, .slice none 0 0], .int .i64 (k : Int), .int .i64 n])) w' :=
  ⟨⟨.slice none 0 0, .slice none 0 0, .slice none 0 0, .slice none 0 0⟩, rfl, DR.zero _ _ _, hb⟩
theorem results_cell_tmp2 {P : Program} {fn : Func} {p q r : Tmp} {ty : TypeId} (h : fn.results = #[.cell p ty, .tmp q, .tmp r]) (tmps : Array Value) (w : World) (g : Nat) (t : TypeId) (cs : Array Value) (fr : Nat × Nat) (d : TypeDesc)
    (hp : tmps.getD p undef = .pointer (some ⟨g, 0, none⟩)) (hg : w.heap[g]? = some (.cells cs t fr))
    (hu : P.underlying ty = some d) (hd : (match d with | .struct _ | .array _ _ => true | _ => false) = true) (hi : (P.info? ty).map (·.size) = some cs.size) (v u : Value) (hv : tmps.getD q undef = v) (hw : tmps.getD r undef = u) :
    (results fn tmps).run P w = .ok (.tuple #[.agg cs, v, u]) w := by
  have hp' : tmps[p]?.getD undef = .pointer (some ⟨g, 0, none⟩) := by simpa using hp
  have hv' : tmps[q]?.getD undef = v := by simpa using hv
  have hw' : tmps[r]?.getD undef = u := by simpa using hw
  simp [results, h, hp', hv', hw', asAddr, run_loadVar_row w g t ty cs fr d hg hu hd hi]
theorem four_set {w : World} {g : Nat} {a b c d x y z u : Value} {T : TypeId} (h : w.heap[g]? = some (.cells #[a, b, c, d] T (0, 0))) : ((((w.setCell ⟨g, 0, none⟩ x).setCell ⟨g, 1, none⟩ y).setCell ⟨g, 2, none⟩ z).setCell ⟨g, 3, none⟩ u).heap[g]? = some (.cells #[x, y, z, u] T (0, 0)) :=
  heap_setCell_same _ g 3 _ _ _ (heap_setCell_same _ g 2 _ _ _ (heap_setCell_same _ g 1 _ _ _ (heap_setCell_same _ g 0 _ _ _ h)))
theorem four_behind {w : World} {g : Nat} {x y z u : Value} : Behind w [g] ((((w.setCell ⟨g, 0, none⟩ x).setCell ⟨g, 1, none⟩ y).setCell ⟨g, 2, none⟩ z).setCell ⟨g, 3, none⟩ u) :=
  ((behind_set.trans behind_set (by simp)).trans behind_set (by simp)).trans behind_set (by simp)

theorem four_new (w : World) (a b c d : Obj) : ((((w.alloc a).alloc b).alloc c).alloc d).heap[w.heap.size]? = some a ∧ ((((w.alloc a).alloc b).alloc c).alloc d).heap[w.heap.size + 1]? = some b ∧ ((((w.alloc a).alloc b).alloc c).alloc d).heap[w.heap.size + 1 + 1]? = some c ∧ ((((w.alloc a).alloc b).alloc c).alloc d).heap[w.heap.size + 1 + 1 + 1]? = some d ∧ ((((w.alloc a).alloc b).alloc c).alloc d).heap.size = w.heap.size + 4 ∧ Below w.heap.size w ((((w.alloc a).alloc b).alloc c).alloc d) := by
  have s1 : (w.alloc a).heap.size = w.heap.size + 1 := by simp
  have s2 : ((w.alloc a).alloc b).heap.size = w.heap.size + 1 + 1 := by simp
  have s3 : (((w.alloc a).alloc b).alloc c).heap.size = w.heap.size + 1 + 1 + 1 := by simp
  have n1 := new_one w a
  have n2 := new_one (w.alloc a) b
  have n3 := new_one ((w.alloc a).alloc b) c
  have n4 := new_one (((w.alloc a).alloc b).alloc c) d
  rw [s1] at n2
  rw [s2] at n3
  rw [s3] at n4
  have k2 := (below_one (w.alloc a) b).block
  have k3 := (below_one ((w.alloc a).alloc b) c).block
  have k4 := (below_one (((w.alloc a).alloc b).alloc c) d).block
  rw [s1] at k2
  rw [s2] at k3
  rw [s3] at k4
  refine ⟨?_, ?_, ?_, n4, by simp, ?_⟩
  · rw [k4 _ (by omega), k3 _ (by omega), k2 _ (by omega)]; exact n1
  · rw [k4 _ (by omega), k3 _ (by omega)]; exact n2
  · rw [k4 _ (by omega)]; exact n3
  · exact (((below_one w a).trans ((below_one (w.alloc a) b).mono (by omega))).trans ((below_one ((w.alloc a).alloc b) c).mono (by omega))).trans ((below_one (((w.alloc a).alloc b).alloc c) d).mono (by omega))

set_option maxHeartbeats 6400000 in
set_option maxRecDepth 100000 in
theorem gParse (l : List UInt8) (hl : l.length ≤ 1100000) (w : World) (hM0 : ∃ m, w.cell? ⟨1, 0, none⟩ = some (.int .i64 m)) :
    Calls Tryz.prog 11 #[.string ⟨l.toArray⟩] w (FilePost 48 w (parseD rdD l)) := by
  have hmm : ∀ (ty : TypeId) (w : World), (Instr.makeMap ty none).run Tryz.prog w = .ok (.map (some w.heap.size)) (w.alloc (.map #[] 0)) := fun _ _ => rfl
  obtain ⟨R, hR⟩ : ∃ R : DS × Nat × Int, R = parseD rdD l := ⟨_, rfl⟩
  rw [← hR]
  obtain ⟨Post, hPost⟩ : ∃ P : Ending → World → Prop, P = FilePost 48 w R := ⟨_, rfl⟩
  rw [← hPost]
  have HP := Lib.hid hPost
  obtain ⟨s, hs⟩ : ∃ s : ByteArray, s = ⟨l.toArray⟩ := ⟨_, rfl⟩
  have hsz : s.size = l.length := by rw [hs]; exact ba_size l
  clear hPost
  by_cases hbig : 1048576 < l.length
  · have HR := Lib.hid (show R = (.zero, 0, 2) by rw [hR]; unfold parseD; rw [if_pos hbig])
    have hd : decide (1048576 < s.size) = true := decide_eq_true (by omega)
    have hd2 : decide ((1048576 : Int) < (s.size : Int)) = true := decide_eq_true (by omega)
    rw [← hs]
    clear hR hs hsz hbig hM0
    go_enter Tryz.func11, Tryz.ntmps11
    go_upto_region 1 with fail
    refine wp_gen ?_
    intro w1 hw1
    have HB1 := Lib.hid (show Below w.heap.size w w1 by rw [hw1]; exact below_one _ _)
    have M1 := Lib.hid (show w1.heap[w.heap.size]? = some (.cells #[.int .i64 0, .slice none 0 0, .slice none 0 0, .slice none 0 0] 28 (0, 0)) by rw [hw1]; exact new_one _ _)
    clear hw1
    have c0 := blk_cell M1.out 0 rfl
    have c1 := blk_cell M1.out 1 rfl
    have c2 := blk_cell M1.out 2 rfl
    have c3 := blk_cell M1.out 3 rfl
    have f0 := blk_free M1.out 0
    have f1 := blk_free M1.out 1
    have f2 := blk_free M1.out 2
    have f3 := blk_free M1.out 3
    go_wp2_with fail
    refine bodyPost_ret (results_cell_tmp2 (p := 2) (q := 3) (r := 4) rfl _ _ w.heap.size _ _ (0, 0) _ rfl (four_set M1.out) Tryz.underlying28 rfl Tryz.sizeFile _ _ rfl rfl) rfl ?_
    rw [HP.out, HR.out]
    exact FilePost.err (HB1.out.trans (four_behind.below_of (by simp) HB1.out.size))
  obtain ⟨lines, hlines⟩ : ∃ x, x = pieces 10 l := ⟨_, rfl⟩
  obtain ⟨G, hG⟩ : ∃ G, G = linesGo rdD .zero 0 lines := ⟨_, rfl⟩
  have HR := Lib.hid (show R = if G.2.2 ≠ 0 then (.zero, G.2) else if G.1.begun = false then (.zero, 0, 3) else if G.1.op = true ∨ ((G.1.L.length : Nat) : Int) ≠ G.1.m then (.zero, 0, 5) else (G.1, 0, 0) by rw [hR, hG, hlines]; unfold parseD; rw [if_neg hbig])
  have HG := Lib.hid hG
  have hd : decide (1048576 < s.size) = false := decide_eq_false (by omega)
  have hd2 : decide ((1048576 : Int) < (s.size : Int)) = false := decide_eq_false (by omega)
  have hpl := pieces_len 10 l
  rw [← hlines] at hpl
  have HM0 := Lib.hid hM0
  have KSP := Lib.hid (fun (m : Int) (w1 : World) (hm : w1.cell? ⟨1, 0, none⟩ = some (.int .i64 m)) => gSplit2 l hl m w1 hm)
  rw [← hs, ← hlines] at KSP
  rw [← hs]
  clear hR hs hG hlines
  go_enter Tryz.func11, Tryz.ntmps11
  go_upto_region 4 with fail
  refine wp_gen ?_
  intro w1 hw1
  obtain ⟨hF, hS1, hS2, hBr, hsz1, hB1⟩ := four_new w (.cells #[.int .i64 0, .slice none 0 0, .slice none 0 0, .slice none 0 0] 28 (0, 0)) (.map #[] 0) (.map #[] 0) (.cells #[.int .i64 0, .slice none 0 0, .slice none 0 0, .slice none 0 0, .bool false, .int .i64 0, .slice none 0 0, .bool false, .map (some (w.heap.size + 1)), .map (some (w.heap.size + 1 + 1))] 59 (0, 0))
  rw [← hw1] at hF hS1 hS2 hBr hsz1 hB1
  clear hw1
  obtain ⟨h0, hh0⟩ : ∃ h0, h0 = w.heap.size := ⟨_, rfl⟩
  rw [← hh0] at hF hS1 hS2 hBr hsz1 hB1 ⊢
  obtain ⟨ms, hms⟩ : ∃ ms, ms = h0 + 1 := ⟨_, rfl⟩
  rw [← hms] at hS1 hS2 hBr ⊢
  obtain ⟨mh, hmh⟩ : ∃ mh, mh = ms + 1 := ⟨_, rfl⟩
  rw [← hmh] at hS2 hBr ⊢
  obtain ⟨br, hbr⟩ : ∃ br, br = mh + 1 := ⟨_, rfl⟩
  rw [← hbr] at hBr ⊢
  obtain ⟨b, hb⟩ : ∃ b, b = w1.heap.size := ⟨_, rfl⟩
  have hord : h0 < ms ∧ ms < mh ∧ mh < br ∧ br < b := by omega
  have hRd : Rdr w1 br ms mh b .zero ⟨.slice none 0 0, .slice none 0 0, .slice none 0 0, .slice none 0 0⟩ :=
    ⟨hBr, ⟨#[], 0, hS1, rfl, by simp⟩, ⟨#[], 0, hS2, rfl, by simp⟩, DR.zero _ _ _, by omega, by omega, by simp [DS.zero]⟩
  obtain ⟨m0, hm0⟩ := HM0.out
  have hlt0 : 1 < w.heap.size := block_lt_of_cell hm0
  have hm1 := below_cell hB1 (show 1 < h0 by omega) hm0
  have HRd := Lib.hid hRd
  have HF := Lib.hid hF
  have HB1 := Lib.hid hB1
  have HM1 := Lib.hid hm1
  have HM00 := Lib.hid hm0
  have KSP2 := Lib.hid (KSP.out m0 w1 hm1)
  rw [← hb] at KSP2
  have HH0 := Lib.hid hh0
  have HBE := Lib.hid hb
  clear hF hS1 hS2 hBr hsz1 hB1 hms hmh hbr hRd KSP HM0 hm1 hh0 hb hM0 hm0 hmm
  go_wp2_with fail
  refine KSP2.out.mono ?_
  rintro e w2 ⟨rfl, hw2⟩
  have HLI := Lib.hid (show w2.heap[b]? = some (.cells (strs lines).toArray 9 (0, 0)) by rw [hw2, HBE.out]; exact new_one _ _)
  have hB12 : Below w1.heap.size w1 w2 := by rw [hw2]; exact below_one _ _
  have HRd2 := Lib.hid (HRd.out.keepB hB12)
  have HF2 := Lib.hid ((hB12.block h0 (by have := HBE.out; omega)).trans HF.out)
  have HB2 := Lib.hid (HB1.out.trans (hB12.mono (by have := HBE.out; omega)))
  have hb2 : b < w2.heap.size := lt_of_heap HLI.out
  clear hw2 hB12 HRd HF KSP2 HB1
  go_wp2_with fail
  go_loopw [20] (fun t20 wr => ∃ (k : Nat) (st : DS) (v : DV), k ≤ lines.length ∧ t20 = .int .i64 k ∧ Hid (G = linesGo rdD st k (lines.drop k)) ∧ Hid (Rdr wr br ms mh b st v) ∧ Hid (∀ g ∈ v.M, w2.heap.size ≤ g) ∧ Hid (st.sh.length + sumLen (lines.drop k) ≤ l.length ∧ st.ws.length + sumLen (lines.drop k) ≤ l.length ∧ st.L.length + sumLen (lines.drop k) ≤ l.length ∧ st.cl.length ≤ 128) ∧ Hid (wr.heap[h0]? = some (.cells #[.int .i64 0, .slice none 0 0, .slice none 0 0, .slice none 0 0] 28 (0, 0))) ∧ Hid (wr.heap[b]? = some (.cells (strs lines).toArray 9 (0, 0))) ∧ Hid (Below h0 w wr) ∧ Hid (w2.heap.size ≤ wr.heap.size)) (fun t20 _ => lines.length - (intOf t20).toNat)
  case atStart => exact ⟨0, .zero, ⟨.slice none 0 0, .slice none 0 0, .slice none 0 0, .slice none 0 0⟩, Nat.zero_le _, rfl, HG.out, HRd2, by simp [Hid, DV.M, rowBlk], ⟨by simpa [DS.zero] using hpl.1, by simpa [DS.zero] using hpl.1, by simpa [DS.zero] using hpl.1, by simp [DS.zero]⟩, HF2, HLI, HB2, Nat.le_refl _⟩
  case round =>
    obtain ⟨k, st, v, hk, rfl, HGk, HS, HV, HZ, HFl, HLk, HBk, HSk⟩ := hrel
    by_cases hlt : k < lines.length
    · have hdd : decide (k < lines.length) = true := decide_eq_true hlt
      have hxx : lines[k]? = some (lines.getD k []) := by simp [List.getD, hlt]
      have hdr : lines.drop k = lines.getD k [] :: lines.drop (k + 1) := by
        rw [List.drop_eq_getElem_cons hlt]; simp [List.getD, hlt]
      have hG2 := HGk.out
      rw [hdr, linesGo_cons] at hG2
      have hsl := sumLen_drop hlt
      have cx := blk_cell HLk.out k (by rw [List.getElem?_toArray]; exact strs_get _ _ _ hxx)
      have HSL := Lib.hid hsl
      generalize lines.getD k [] = x at *
      have hxl : x.length ≤ 1100000 := by have := HZ.out.1; have := HSL.out; omega
      have KWd := gWords2 x hxl wr
      have HZZ := Lib.hid (lineD_sz rdD st (wordsD x))
      have HWL := Lib.hid (words_len x)
      have KLn := Lib.hid (fun (A : Nat) (w3 : World) (hB : Below wr.heap.size wr w3) (hA : wr.heap.size ≤ A) (hat : AtN w3.heap.size w3 (some ⟨A, 0, none⟩) (strs (wordsD x))) =>
        gLine w3 br ms mh b st v (HS.out.keepB hB) (wordsD x) (fun u hu => Nat.le_trans (words_mem hu) hxl) (by have := words_len x; omega) (by have := HZ.out.1; omega) (by have := HZ.out.2.1; omega) (by have := HZ.out.2.2.1; omega) HZ.out.2.2.2 (some ⟨A, 0, none⟩) (wordsD x).length (Nat.le_refl _) (by have := words_len x; unfold maxLen; omega) hat (fun g o y hg => by
          cases hg
          have h1 := HS.out.bw
          refine ⟨by omega, fun hm => ?_⟩
          have := HS.out.rows.lt _ hm
          omega) ⟨m0, below_cell hB (by have := HBk.out.size; omega) (below_cell HBk.out (by have := HH0.out; omega) (show w.cell? ⟨1, 0, none⟩ = some (.int .i64 m0) from HM00.out))⟩)
      have HG2 := Lib.hid hG2
      clear hxx hdr hG2 hsl
      generalize lineD rdD st (wordsD x) = E at *
      go_wp2_with fail
      refine KWd.mono ?_
      rintro e w3 ⟨A, rfl, hA, hat, hB⟩
      have KL2 := Lib.hid (KLn.out A w3 hB hA hat)
      have HB3 := Lib.hid (HBk.out.trans (hB.mono (by have := HBk.out.size; have := HH0.out; omega)))
      have hs3 := hB.size
      have HF3 := Lib.hid ((hB.block h0 (lt_of_heap HFl.out)).trans HFl.out)
      have HL3 := Lib.hid ((hB.block b (lt_of_heap HLk.out)).trans HLk.out)
      clear hA hat hB KLn KWd cx
      go_wp2_with fail
      refine KL2.out.mono ?_
      rintro e w4 ⟨rfl, hB4, hq⟩
      have hnot : ∀ g, g < b → g ≠ br → g ≠ ms → g ≠ mh → g ∉ br :: ms :: mh :: v.M := fun g h1 h2 h3 h4 hm => by
        simp only [List.mem_cons] at hm
        rcases hm with h | h | h | h
        · exact h2 h
        · exact h3 h
        · exact h4 h
        · have := HV.out g h; omega
      have hbn : b ∉ br :: ms :: mh :: v.M := fun hm => by
        simp only [List.mem_cons] at hm
        rcases hm with h | h | h | h
        · omega
        · omega
        · omega
        · have := HV.out b h; omega
      have HF4 := Lib.hid (hB4.keep HF3.out (hnot h0 (by omega) (by omega) (by omega) (by omega)))
      have HL4 := Lib.hid (hB4.keep HL3.out hbn)
      have HB4 := Lib.hid (HB3.out.trans (hB4.below_of (b := h0) (fun g hg => by
        simp only [List.mem_cons] at hg
        rcases hg with h | h | h | h
        · omega
        · omega
        · omega
        · have := HV.out g h; omega) (by have := HB3.out.size; have := HH0.out; omega)))
      have HQ := Lib.hid hq
      have hs4 := hB4.size
      clear hB4 hq hnot hbn KL2
      by_cases hE : E.2 = 0
      · have hEb : (E.2 != 0) = false := by simp [hE]
        obtain ⟨v', hRd', hM'⟩ := HQ.out hE
        have HRd' := Lib.hid hRd'
        have HM' := Lib.hid hM'
        have HG3 := Lib.hid (HG2.out.trans (if_neg (by simpa using hE)))
        clear hRd' hM' HQ HG2
        go_wp2_with fail
        go_roundw
        case rel =>
          refine ⟨k + 1, E.1, v', by omega, by go_num, HG3.out, HRd'.out, fun g hg => (HM'.out g hg).elim (fun e => HV.out g e) (fun e => by have := HSk.out; omega), ⟨?_, ?_, ?_, HZZ.out.cl HZ.out.2.2.2⟩, HF4.out, HL4.out, HB4.out, by have := HSk.out; show w2.heap.size ≤ _; omega⟩
          · have := HZZ.out.sh; have := HWL.out; have := HSL.out; have := HZ.out.1; omega
          · have := HZZ.out.ws; have := HWL.out; have := HSL.out; have := HZ.out.2.1; omega
          · have := HZZ.out.L; have := HWL.out; have := HSL.out; have := HZ.out.2.2.1; omega
        case measure => simp [intOf]; omega
      · have hEb : (E.2 != 0) = true := by simp [bne, beq_no hE]
        have HG3 := Lib.hid (HG2.out.trans (if_pos (by simpa using hE)))
        have HRF := Lib.hid (show R = (.zero, k + 1, E.2) by rw [HR.out, HG3.out]; exact if_pos (by simpa using hE))
        have c0 := blk_cell HF4.out 0 rfl
        have c1 := blk_cell HF4.out 1 rfl
        have c2 := blk_cell HF4.out 2 rfl
        have c3 := blk_cell HF4.out 3 rfl
        have f0 := blk_free HF4.out 0
        have f1 := blk_free HF4.out 1
        have f2 := blk_free HF4.out 2
        have f3 := blk_free HF4.out 3
        generalize E.2 = en at *
        go_wp2_with fail
        refine bodyPost_ret (results_cell_tmp2 (p := 2) (q := 3) (r := 4) rfl _ _ h0 _ _ (0, 0) _ rfl (four_set HF4.out) Tryz.underlying28 rfl Tryz.sizeFile _ _ rfl rfl) rfl ?_
        rw [HP.out, HRF.out]
        have hB9 : Below w.heap.size w w4 := by rw [← HH0.out]; exact HB4.out
        have hfb := hB9.trans ((four_behind (w := w4) (g := h0) (x := .int .i64 0) (y := .slice none 0 0) (z := .slice none 0 0) (u := .slice none 0 0)).below_of (b := w.heap.size) (fun g hg => by simp at hg; have := HH0.out; omega) hB9.size)
        have hfe := FilePost.err (TW := 48) (k := k + 1) (n := en) hfb
        simpa using hfe
    · obtain rfl : k = lines.length := by omega
      have hdd : decide (lines.length < lines.length) = false := by simp
      have HG3 := Lib.hid (show G = (st, 0, 0) by rw [HGk.out, List.drop_length]; rfl)
      have hR2 := HR.out
      rw [HG3.out] at hR2
      have HR2 := Lib.hid (show R = if st.begun = false then (.zero, 0, 3) else if st.op = true ∨ ((st.L.length : Nat) : Int) ≠ st.m then (.zero, 0, 5) else (st, 0, 0) from hR2)
      have hB9 : Below w.heap.size w wr := by rw [← HH0.out]; exact HBk.out
      have HB9 := Lib.hid hB9
      have HSv := Lib.hid HS.out.blk
      have q4 := blk_cell HSv.out 4 rfl
      have e0 := blk_cell HFl.out 0 rfl
      have e1 := blk_cell HFl.out 1 rfl
      have e2 := blk_cell HFl.out 2 rfl
      have e3 := blk_cell HFl.out 3 rfl
      have f0 := blk_free HFl.out 0
      have f1 := blk_free HFl.out 1
      have f2 := blk_free HFl.out 2
      have f3 := blk_free HFl.out 3
      have HFB := Lib.hid (fun (x y z u : Value) => hB9.trans ((four_behind (w := wr) (g := h0) (x := x) (y := y) (z := z) (u := u)).below_of (b := w.heap.size) (fun g hg => by simp at hg; have := HH0.out; omega) hB9.size))
      clear hR2 hB9 HG HR HGk HG3 HLk HM00 HM1
      cases hbg : st.begun with
      | false =>
        have HF3 := Lib.hid (HR2.out.trans (if_pos hbg))
        rw [hbg] at q4
        clear hbg
        go_wp2_with fail
        refine bodyPost_ret (results_cell_tmp2 (p := 2) (q := 3) (r := 4) rfl _ _ h0 _ _ (0, 0) _ rfl (four_set HFl.out) Tryz.underlying28 rfl Tryz.sizeFile _ _ rfl rfl) rfl ?_
        rw [HP.out, HF3.out]
        exact FilePost.err (HFB.out _ _ _ _)
      | true =>
      have HF3 := Lib.hid (HR2.out.trans (if_neg (by rw [hbg]; simp)))
      rw [hbg] at q4
      clear hbg HR2
      obtain ⟨vL, vS, vW, vc⟩ := v
      obtain ⟨cl, hcl0, _⟩ := HS.out.rows.rL
      obtain ⟨pL, cL, hvL⟩ := hcl0.slice
      simp only at hvL
      subst hvL
      clear hcl0
      obtain ⟨pS, cS', hvS⟩ := HS.out.rows.rS.slice
      obtain ⟨pW, cW', hvW⟩ := HS.out.rows.rW.slice
      simp only at hvS hvW
      subst hvS
      subst hvW
      have hbw := HS.out.bw
      have hLl : st.L.length ≤ 10000000 := by have := HZ.out.2.2.1; omega
      cases hop : st.op with
      | true =>
        have HF4 := Lib.hid (HF3.out.trans (if_pos (.inl hop)))
        have HOP := Lib.hid hop
        clear hop e0 e1 e2 e3 f0 f1 f2 f3
        go_wp2_with fail
        refine wp_game (List.replicate 19 0) [] B0 fin_B0 (has_B0 _) (by kernel_rfl) (by kernel_rfl) ?_
        refine lex_quietE 19 (by kernel_rfl) (by rfl) ?_
        apply Exists.intro
        refine ⟨fun z hz1 => ?_, ?_⟩
        · have hz2 := hz1.keep HSv.out (by simp)
          have g4 := blk_cellp hz2 7 rfl
          have g1 := blk_cellp hz2 1 rfl
          have g5 := blk_cellp hz2 5 rfl
          rw [HOP.out] at g4
          clear hz1 hz2
          simp only [List.take_succ_cons, List.take_zero]
          unfold Cx
          repeat (go_big_quiet_step (fail))
          exact wpQuiet_nil rfl
        simp only [List.drop_succ_cons, List.drop_zero]
        refine lex_nil ?_
        intro x2 hx2 _
        have hFx := hx2.keep HFl.out (by simp)
        have e0 := blk_cell hFx 0 rfl
        have e1 := blk_cell hFx 1 rfl
        have e2 := blk_cell hFx 2 rfl
        have e3 := blk_cell hFx 3 rfl
        have f0 := blk_free hFx 0
        have f1 := blk_free hFx 1
        have f2 := blk_free hFx 2
        have f3 := blk_free hFx 3
        have HFx := Lib.hid hFx
        have HBx := Lib.hid (show ∀ (x y z u : Value), Below w.heap.size w ((((x2.setCell ⟨h0, 0, none⟩ x).setCell ⟨h0, 1, none⟩ y).setCell ⟨h0, 2, none⟩ z).setCell ⟨h0, 3, none⟩ u) from fun x y z u => (HB9.out.trans (hx2.below.mono HB9.out.size)).trans ((four_behind (w := x2) (g := h0)).below_of (b := w.heap.size) (fun g hg => by simp at hg; have := HH0.out; omega) (Nat.le_trans HB9.out.size hx2.size)))
        clear hx2 hFx
        go_wp2_with fail
        refine bodyPost_ret (results_cell_tmp2 (p := 2) (q := 3) (r := 4) rfl _ _ h0 _ _ (0, 0) _ rfl (four_set HFx.out) Tryz.underlying28 rfl Tryz.sizeFile _ _ rfl rfl) rfl ?_
        rw [HP.out, HF4.out]
        exact FilePost.err (HBx.out _ _ _ _)
      | false =>
      have HOP := Lib.hid hop
      by_cases hcn : ((st.L.length : Nat) : Int) ≠ st.m
      · have HF4 := Lib.hid (HF3.out.trans (if_pos (.inr hcn)))
        have hb1 : (((st.L.length : Nat) : Int) != st.m) = true := by simp [bne, beq_no hcn]
        clear hop e0 e1 e2 e3 f0 f1 f2 f3
        go_wp2_with fail
        refine wp_game (List.replicate 19 0) [] B0 fin_B0 (has_B0 _) (by kernel_rfl) (by kernel_rfl) ?_
        refine lex_quietE 19 (by kernel_rfl) (by rfl) ?_
        apply Exists.intro
        refine ⟨fun z hz1 => ?_, ?_⟩
        · have hz2 := hz1.keep HSv.out (by simp)
          have g4 := blk_cellp hz2 7 rfl
          have g1 := blk_cellp hz2 1 rfl
          have g5 := blk_cellp hz2 5 rfl
          rw [HOP.out] at g4
          clear hz1 hz2
          simp only [List.take_succ_cons, List.take_zero]
          unfold Cx
          repeat (go_big_quiet_step (fail))
          exact wpQuiet_nil rfl
        simp only [List.drop_succ_cons, List.drop_zero]
        refine lex_nil ?_
        intro x2 hx2 _
        have hFx := hx2.keep HFl.out (by simp)
        have e0 := blk_cell hFx 0 rfl
        have e1 := blk_cell hFx 1 rfl
        have e2 := blk_cell hFx 2 rfl
        have e3 := blk_cell hFx 3 rfl
        have f0 := blk_free hFx 0
        have f1 := blk_free hFx 1
        have f2 := blk_free hFx 2
        have f3 := blk_free hFx 3
        have HFx := Lib.hid hFx
        have HBx := Lib.hid (show ∀ (x y z u : Value), Below w.heap.size w ((((x2.setCell ⟨h0, 0, none⟩ x).setCell ⟨h0, 1, none⟩ y).setCell ⟨h0, 2, none⟩ z).setCell ⟨h0, 3, none⟩ u) from fun x y z u => (HB9.out.trans (hx2.below.mono HB9.out.size)).trans ((four_behind (w := x2) (g := h0)).below_of (b := w.heap.size) (fun g hg => by simp at hg; have := HH0.out; omega) (Nat.le_trans HB9.out.size hx2.size)))
        clear hx2 hFx
        go_wp2_with fail
        refine bodyPost_ret (results_cell_tmp2 (p := 2) (q := 3) (r := 4) rfl _ _ h0 _ _ (0, 0) _ rfl (four_set HFx.out) Tryz.underlying28 rfl Tryz.sizeFile _ _ rfl rfl) rfl ?_
        rw [HP.out, HF4.out]
        exact FilePost.err (HBx.out _ _ _ _)
      · have hcm : ((st.L.length : Nat) : Int) = st.m := Decidable.not_not.1 hcn
        have HF4 := Lib.hid (HF3.out.trans (if_neg (fun h' => h'.elim (fun h'' => by rw [hop] at h''; cases h'') (fun h'' => hcn h''))))
        have hb1 : (((st.L.length : Nat) : Int) != st.m) = false := by simp [bne, hcm]
        clear hop hcn hcm e0 e1 e2 e3 f0 f1 f2 f3
        go_wp2_with fail
        refine wp_game (List.replicate 19 0) [] B0 fin_B0 (has_B0 _) (by kernel_rfl) (by kernel_rfl) ?_
        refine lex_quietE 19 (by kernel_rfl) (by rfl) ?_
        apply Exists.intro
        refine ⟨fun z hz1 => ?_, ?_⟩
        · have hz2 := hz1.keep HSv.out (by simp)
          have g4 := blk_cellp hz2 7 rfl
          have g1 := blk_cellp hz2 1 rfl
          have g5 := blk_cellp hz2 5 rfl
          rw [HOP.out] at g4
          clear hz1 hz2
          simp only [List.take_succ_cons, List.take_zero]
          unfold Cx
          repeat (go_big_quiet_step (fail))
          exact wpQuiet_nil rfl
        simp only [List.drop_succ_cons, List.drop_zero]
        refine lex_nil ?_
        intro x2 hx2 _
        have hFx := hx2.keep HFl.out (by simp)
        have e0 := blk_cell hFx 0 rfl
        have e1 := blk_cell hFx 1 rfl
        have e2 := blk_cell hFx 2 rfl
        have e3 := blk_cell hFx 3 rfl
        have f0 := blk_free hFx 0
        have f1 := blk_free hFx 1
        have f2 := blk_free hFx 2
        have f3 := blk_free hFx 3
        have HFx := Lib.hid hFx
        have HBx := Lib.hid (show ∀ (x y z u : Value), Below w.heap.size w ((((x2.setCell ⟨h0, 0, none⟩ x).setCell ⟨h0, 1, none⟩ y).setCell ⟨h0, 2, none⟩ z).setCell ⟨h0, 3, none⟩ u) from fun x y z u => (HB9.out.trans (hx2.below.mono HB9.out.size)).trans ((four_behind (w := x2) (g := h0)).below_of (b := w.heap.size) (fun g hg => by simp at hg; have := HH0.out; omega) (Nat.le_trans HB9.out.size hx2.size)))
        have hSx := hx2.keep HSv.out (by simp)
        have p0 := blk_cell hSx 0 rfl
        have p1 := blk_cell hSx 1 rfl
        have p2 := blk_cell hSx 2 rfl
        have p3 := blk_cell hSx 3 rfl
        have HRx := Lib.hid (HS.out.rows.keepB hx2.below)
        clear hx2 hFx hSx
        go_wp2_with fail
        refine bodyPost_ret (results_cell_tmp2 (p := 2) (q := 3) (r := 4) rfl _ _ h0 _ _ (0, 0) _ rfl (four_set HFx.out) Tryz.underlying28 rfl Tryz.sizeFile _ _ rfl rfl) rfl ?_
        rw [HP.out, HF4.out]
        exact ⟨_, rfl, (HRx.out.keep four_behind (fun g hg => by simp at hg; omega)).mono (by have := HH0.out; omega), HBx.out _ _ _ _⟩
end Go.Proofs.YtajjgfiojlagmaaGreatDoor

/- The law's given: a file of the program as the document's. -/
namespace Go.Proofs.YtajjgfiojlagmaaGreatDoor
open Go.RowKit

theorem Tryz.infoXWt : (Tryz.prog.info? 55).map (fun i => (i.zero, i.size, i.bytes)) = some (some (.agg #[.int .i64 0, .string ⟨#[]⟩]), 2, 24) := by kernel_rfl
theorem Tryz.sizeXFile : (Tryz.prog.info? 37).map (·.size) = some 4 := by kernel_rfl
theorem wts_get : ∀ (ws : List (Int × List UInt8)) (k : Nat) (x : Int × List UInt8), ws[k]? = some x → (wts ws)[2 * k]? = some (.int .i64 x.1) ∧ (wts ws)[2 * k + 1]? = some (.string ⟨x.2.toArray⟩)
  | y :: l, 0, x, h => by
    have : y = x := by simpa using h
    subst this
    exact ⟨rfl, rfl⟩
  | y :: l, k + 1, x, h => by
    have h1 := wts_get l k x (by simpa using h)
    have e : wts (y :: l) = [.int .i64 y.1, .string ⟨y.2.toArray⟩] ++ wts l := rfl
    rw [e, List.getElem?_append_right (by simp; omega), List.getElem?_append_right (by simp; omega)]
    simpa [show 2 * (k + 1) - 2 = 2 * k by omega, show 2 * (k + 1) + 1 - 2 = 2 * k + 1 by omega] using h1
theorem take_one {α : Type} {l : List α} {k : Nat} {x : α} (h : l[k]? = some x) : l.take (k + 1) = l.take k ++ [x] := by
  rw [List.take_add_one, h]; rfl
def RowO (w : World) (b : Nat) (E : TypeId) (size : Nat) (v : Value) (n : Nat) (xs : List Value) : Prop := RowV (inW w) E size v n xs ∧ ∀ g ∈ rowBlk v, b ≤ g

set_option maxHeartbeats 3200000 in
set_option maxRecDepth 100000 in
theorem gGiven (n : Int) (vL vS : Value) (hvL : ∃ p m c, vL = .slice p m c) (hvS : ∃ p m c, vS = .slice p m c) (ws : List (Int × List UInt8)) (hws : ws.length ≤ 10000000) (w : World) (a : Option Addr) (c : Nat) (hA : AtN w.heap.size w a (wts ws)) :
    Calls Tryz.prog 10 #[.agg #[.int .i64 n, vL, vS, .slice a ws.length c]] w fun e w' => ∃ vW, e = .returned (.agg #[.int .i64 n, vL, vS, vW]) ∧ RowO w' w.heap.size 55 2 vW ws.length (wts ws) ∧ Below w.heap.size w w' := by
  obtain ⟨i0, ii, iz0, iz1, iz2⟩ := info_parts Tryz.infoXWt
  have II := Lib.hid ii
  have IZ0 := Lib.hid iz0
  have IZ1 := Lib.hid iz1
  have IZ2 := Lib.hid iz2
  obtain ⟨pL, mL, cL, rfl⟩ := hvL
  obtain ⟨pS, mS, cS, rfl⟩ := hvS
  have HA := Lib.hid hA
  clear ii iz0 iz1 iz2 hA
  obtain ⟨Post, hPost⟩ : ∃ P : Ending → World → Prop, P = fun e w' => ∃ vW, e = .returned (.agg #[.int .i64 n, .slice pL mL cL, .slice pS mS cS, vW]) ∧ RowO w' w.heap.size 55 2 vW ws.length (wts ws) ∧ Below w.heap.size w w' := ⟨_, rfl⟩
  rw [← hPost]
  have HP := Lib.hid hPost
  clear hPost
  go_enter Tryz.func10, Tryz.ntmps10
  go_upto_region 1 with fail
  refine wp_gen ?_
  intro w1 hw1
  have HB1 := Lib.hid (show Below w.heap.size w w1 by rw [hw1]; exact below_two _ _ _)
  have m1 : w1.heap[w.heap.size]? = some (.cells #[.int .i64 n, .slice pL mL cL, .slice pS mS cS, .slice a ws.length c] 28 (0, 0)) := by rw [hw1]; exact new_two1 _ _ _
  have m2 : w1.heap[w.heap.size + 1]? = some (.cells #[.int .i64 0, .slice none 0 0, .slice none 0 0, .slice none 0 0] 37 (0, 0)) := by rw [hw1]; exact new_two2 _ _ _
  have hs1 : w1.heap.size = w.heap.size + 2 := by rw [hw1]; simp
  clear hw1
  have c10 := blk_cell m1 0 rfl
  have c11 := blk_cell m1 1 rfl
  have c12 := blk_cell m1 2 rfl
  have c13 := blk_cell m1 3 rfl
  have M1 := Lib.hid m1
  have M2 := Lib.hid m2
  have HS1 := Lib.hid hs1
  clear m1 m2 hs1
  go_upto_region 2 with fail
  refine wp_gen ?_
  intro w2 hw2
  have hb12 : Below w1.heap.size w1 w2 := by rw [hw2]; exact below_one _ _
  have M3 := Lib.hid (show w2.heap[w1.heap.size]? = some (.cells #[.int .i64 n, .slice pL mL cL, .slice pS mS cS, .slice none 0 0] 37 (0, 0)) by rw [hw2]; exact new_one _ _)
  have HB2 := Lib.hid (HB1.out.trans (hb12.mono HB1.out.size))
  have N1 := Lib.hid ((hb12.block _ (lt_of_heap M1.out)).trans M1.out)
  have N2 := Lib.hid ((hb12.block _ (lt_of_heap M2.out)).trans M2.out)
  clear hw2 hb12 c10 c11 c12 c13 M1 M2
  obtain ⟨b3, hb3⟩ : ∃ b3, b3 = w1.heap.size := ⟨_, rfl⟩
  rw [← hb3] at M3 ⊢
  have HW3 := Lib.hid (show b3 = w.heap.size + 2 by rw [hb3]; exact HS1.out)
  clear hb3 HS1 HB1
  go_wp2_with fail
  go_loopw [4] (fun t4 wr => ∃ (k : Nat) (vW : Value), k ≤ ws.length ∧ t4 = .int .i64 k ∧ Hid (wr.heap[b3]? = some (.cells #[.int .i64 n, .slice pL mL cL, .slice pS mS cS, vW] 37 (0, 0))) ∧ Hid (RowV (inW wr) 55 2 vW k (wts (ws.take k))) ∧ Hid (∀ g ∈ rowBlk vW, b3 < g) ∧ Hid (wr.heap[w.heap.size]? = some (.cells #[.int .i64 n, .slice pL mL cL, .slice pS mS cS, .slice a ws.length c] 28 (0, 0))) ∧ Hid (wr.heap[w.heap.size + 1]? = some (.cells #[.int .i64 0, .slice none 0 0, .slice none 0 0, .slice none 0 0] 37 (0, 0))) ∧ Hid (Below w.heap.size w wr)) (fun t4 _ => ws.length - (intOf t4).toNat)
  case atStart => exact ⟨0, .slice none 0 0, Nat.zero_le _, rfl, M3, .nil, by simp [Hid, rowBlk], N1, N2, HB2⟩
  case round =>
    obtain ⟨k, vW, hk, rfl, HM, HRW, HGE, HM1, HM2, HB⟩ := hrel
    have c13 := blk_cell HM1.out 3 rfl
    by_cases hlt : k < ws.length
    · have hdd : decide (k < ws.length) = true := decide_eq_true hlt
      have hxx : ws[k]? = some (ws.getD k (0, [])) := by simp [List.getD, hlt]
      obtain ⟨h0, h1⟩ := wts_get ws k _ hxx
      obtain ⟨ga, oa, hga, rfl, e0⟩ := HA.out _ _ h0
      obtain ⟨_, _, _, e', e1⟩ := HA.out _ _ h1
      cases e'
      have HT := Lib.hid (take_one hxx)
      generalize ws.getD k (0, []) = x at *
      obtain ⟨l, y⟩ := x
      obtain ⟨y1, hy1⟩ : ∃ y1 : ByteArray, y1 = ⟨y.toArray⟩ := ⟨_, rfl⟩
      simp only at e0 e1
      rw [← hy1] at e1
      have HY1 := Lib.hid hy1
      rw [Nat.mul_comm] at e0
      rw [Nat.mul_comm, ← Nat.add_assoc] at e1
      have E0 := Lib.hid (below_cell HB.out hga e0)
      have E1 := Lib.hid (below_cell HB.out hga e1)
      clear hxx h0 h1 e0 e1 hy1
      go_wp2_with fail
      clear c13
      obtain ⟨kF1, hkF1⟩ : ∃ kF1, kF1 = kA vW k 1 := ⟨_, rfl⟩
      have hkF1' : kF1 = 2 ∨ kF1 = 5 := by rw [hkF1]; exact kA_or _ _ _
      have HK1 := Lib.hid hkF1
      clear hkF1
      have HLT1 := Lib.hid HRW.out.lt
      have HnS := Lib.hid (show b3 ∉ rowBlk vW from fun hg => by have := HGE.out b3 hg; omega)
      have hb3w := HW3.out
      have HnB := Lib.hid (show w.heap.size ∉ rowBlk vW from fun hg => by have := HGE.out _ hg; omega)
      have HnA := Lib.hid (show ga ∉ rowBlk vW from fun hg => by have := HGE.out _ hg; omega)
      have hgar : ga < wr.heap.size := by have := HB.out.size; omega
      clear hb3w
      refine wp_game_tail 18 [0, 0, 0, 0, 0, 0, 0, 0, 0, 0, 0, 0, 0, 0, 0, 3, kF1, 0, 0] (rowBlk vW) (rowB wr vW) (fin_rowB _ _) (has_rowB _ _) (by kernel_rfl) (by rcases hkF1' with h | h <;> rw [h] <;> kernel_rfl) ?_
      simp only [List.take_succ_cons, List.take_zero]
      refine lex_quietE 15 (by kernel_rfl) (by rfl) ?_
      apply Exists.intro
      refine ⟨fun z hz1 => ?_, ?_⟩
      · have g0 := blk_cellp (hz1.keep HM.out HnS.out) 3 rfl
        have g1 := blk_cellp (hz1.keep HM1.out HnB.out) 3 rfl
        have gz := (World.cell?_of_block (a := ⟨ga, oa + k * 2, none⟩) (hz1.block ga hgar HnA.out)).trans E0.out
        have gy := (World.cell?_of_block (a := ⟨ga, oa + k * 2 + 1, none⟩) (hz1.block ga hgar HnA.out)).trans E1.out
        have g2 := fun p => plus_cell gz (block_lt_of_cell gz) p
        have g3 := fun p => plus_cell gy (block_lt_of_cell gy) p
        clear hz1 gz gy
        simp only [List.take_succ_cons, List.take_zero]
        unfold Cx
        repeat (go_big_quiet_step (fail))
        exact wpQuiet_nil rfl
      simp only [List.drop_succ_cons, List.drop_zero]
      refine lex_slice 1 (.cells #[.int .i64 l, .string y1] 55) (by rfl) (fun x => by go_simp) (fun g21 q21 hn21 => ?_)
      unfold setSlot
      go_big_quiet_step (fail)
      refine wpQuiet_nil ?_
      have n21v : g21 ∉ rowBlk vW := fun h => by have := HLT1.out g21 h; omega
      clear hn21
      refine lex_append_v (.tmp 18) (.tmp 32) 35 55 i0 _ 2 24 Tryz.underlying35 II.out IZ0.out IZ1.out IZ2.out (by rfl) vW k (wts (ws.take k)) ((rowV_rowB HRW.out).of_put n21v) (by rfl) g21 1 1 [.int .i64 l, .string y1] 55 (by rfl) (Blocks.put_same _ _ _) rfl (by simp [Value.oneCell']) (by omega) (by unfold maxLen; omega) (by omega) (fun g hg => .inl hg) HK1.out (fun g22 c22 ob22 hr22 hg22 => ?_)
      unfold setSlot
      go_big_quiet_step (fail)
      refine wpQuiet_nil ?_
      have hn22 : ∀ g ∈ rowBlk (.slice (some ⟨g22, 0, none⟩) (k + 1) c22), g ∈ rowBlk vW ∨ wr.heap.size ≤ g := fun g hg => by
        have : g = g22 := by simpa [rowBlk] using hg
        subst this
        exact hg22.imp id (fun h => h.1)
      clear hg22
      refine lex_quietE 1 (by kernel_rfl) (by rfl) ?_
      apply Exists.intro
      refine ⟨fun z hz1 => ?_, ?_⟩
      · clear hz1
        simp only [List.take_succ_cons, List.take_zero]
        unfold Cx
        repeat (go_big_quiet_step (fail))
        exact wpQuiet_nil rfl
      simp only [List.drop_succ_cons, List.drop_zero]
      refine lex_nil ?_
      intro x2 hx2 hH2
      have hr9 := hr22.of_has hH2
      have hk9 := hx2.keep HM.out HnS.out
      have p3 := blk_cell hk9 3 rfl
      have f3 := blk_free hk9 3
      have h1' := hx2.keep HM1.out HnB.out
      have h2' := hx2.keep HM2.out (fun hg => by have := HGE.out _ hg; have := HW3.out; omega)
      have hB10 := HB.out.trans (hx2.below_of (b := w.heap.size) (fun g hg => by have := HGE.out g hg; have := HW3.out; omega) HB.out.size)
      have HX := Lib.hid (And.intro hr9 (And.intro hk9 (And.intro h1' (And.intro h2' (And.intro hB10 (And.intro hn22 hx2.size))))))
      clear hx2 hH2 hr9 hk9 h1' h2' hB10 hn22 hr22
      go_wp2_with fail
      go_roundw
      case rel =>
        obtain ⟨hr9, hk9, h1', h2', hB10, hn9, hsz9⟩ := HX.out
        have h3w := HW3.out
        have hb3r := lt_of_heap HM.out
        have hg9 : ∀ g ∈ rowBlk (.slice (some ⟨g22, 0, none⟩) (k + 1) c22), b3 < g := fun g hg => (hn9 g hg).elim (HGE.out g) (fun h => by omega)
        refine ⟨k + 1, _, by omega, by go_num, heap_setCell_same _ b3 3 _ _ _ hk9, ?_, hg9, (heap_setCell_other _ _ _ _ (by show _ ≠ _; dsimp only; omega)).trans h1', (heap_setCell_other _ _ _ _ (by show _ ≠ _; dsimp only; omega)).trans h2', hB10.setCell (by show w.heap.size ≤ b3; omega) _⟩
        rw [HT.out, wts_app]
        have := hr9.keep (behind_set (w := x2) (b := b3) (o := 3) (v := .slice (some ⟨g22, 0, none⟩) (k + 1) c22)) (fun g hg hm => by have := hg9 g hg; simp at hm; omega)
        rw [HY1.out] at this
        exact this
      case measure => simp [intOf]; omega
    · obtain rfl : k = ws.length := by omega
      have hdd : decide (ws.length < ws.length) = false := by simp
      have e0 := blk_cell HM2.out 0 rfl
      have e1 := blk_cell HM2.out 1 rfl
      have e2 := blk_cell HM2.out 2 rfl
      have e3 := blk_cell HM2.out 3 rfl
      have f0 := blk_free HM2.out 0
      have f1 := blk_free HM2.out 1
      have f2 := blk_free HM2.out 2
      have f3 := blk_free HM2.out 3
      obtain ⟨pW, cW, hvW⟩ := HRW.out.slice
      subst hvW
      have p0 := blk_cell HM.out 0 rfl
      have p1 := blk_cell HM.out 1 rfl
      have p2 := blk_cell HM.out 2 rfl
      have p3 := blk_cell HM.out 3 rfl
      go_wp2_with fail
      refine bodyPost_ret (results_cell_row (p := 2) rfl _ _ (w.heap.size + 1) _ _ (0, 0) _ rfl (four_set HM2.out) Tryz.underlying37 rfl Tryz.sizeXFile) rfl ?_
      rw [HP.out]
      have hw3 := HW3.out
      refine ⟨_, rfl, ⟨?_, fun g hg => by have := HGE.out g hg; omega⟩, HB.out.trans (four_behind.below_of (b := w.heap.size) (fun g hg => by simp at hg; omega) HB.out.size)⟩
      have := HRW.out.keep (four_behind (w := wr) (g := w.heap.size + 1) (x := .int .i64 n) (y := .slice pL mL cL) (z := .slice pS mS cS) (u := .slice pW ws.length cW)) (fun g hg hm => by have := HGE.out g hg; simp at hm; omega)
      rw [List.take_length] at this
      exact this
end Go.Proofs.YtajjgfiojlagmaaGreatDoor
